/- part -/
import Derived.Test.YtpechfcbnoggfaaGreatDoorAm8
set_option linter.unusedVariables false
set_option linter.unusedSimpArgs false
section
namespace Go.AM
open Go Go.NB
section
variable {P : Program} {tab : Nat → Option TD} {E : En} {F : Nat → Prop} {γ : List Value} {s : St} {a : Act} {w : World} {o : Oper} {k : List B → A → Prop}
theorem run_store {t : TypeId} {x y : Operand} {g off : Nat} {us : List Value} {cur : Array Value} {e : TypeId} (ho : o.op = .store t x y) (hx : a.eval x = .pointer (some ⟨g, off, none⟩)) (hy : (a.eval y).cells = us.toArray)
  (hz : ∀ w, (sizeOf t).run P w = .ok us.length w) (hone : ∀ u ∈ us, u.oneCell' = true) (hg : w.heap[g]? = some (.cells cur e (0, 0))) (hfit : off + us.length ≤ cur.size) :
  (execOp a.eval o).run P w = .ok .skip (w.setRow g (cur.toList.take off ++ us ++ cur.toList.drop (off + us.length)).toArray) := by
 have hs := run_storeCells_at P g off e us 0 cur w hg (by simpa using hfit) hone
 simp only [Nat.add_zero] at hs
 unfold execOp; rw [ho]
 simp [hx, Instr.storeAt, Instr.sureAddr, storeVar, hy, hz, hs]
theorem row_put {α : Type} {enc : α → List C} {l : List α} {i sz o : Nat} {x x' : α} {new : List C} {css us : List Value} {cur : List Value} {off : Nat} {F : Nat → Prop} {H : Heap} {m : Md}
  (hr : RL F H m (l.flatMap enc) css) (hz : ∀ x ∈ l, (enc x).length = sz) (hi : l[i]? = some x) (ho : o + new.length ≤ sz) (he : enc x' = (enc x).take o ++ new ++ (enc x).drop (o + new.length)) (hu : RL F H m new us)
  (hc : (cur.drop off).take css.length = css) (hoff : off ≤ cur.length) :
  ∃ css', RL F H m ((l.set i x').flatMap enc) css' ∧ css'.length = css.length ∧ (∀ x ∈ l.set i x', (enc x).length = sz) ∧ off + i * sz + o + us.length ≤ cur.length ∧
   ((cur.take (off + i * sz + o) ++ us ++ cur.drop (off + i * sz + o + us.length)).drop off).take css'.length = css' := by
 obtain ⟨hlt, rfl⟩ := List.getElem?_eq_some_iff.1 hi
 have hlu := hu.length
 have hx := hz l[i] (List.getElem_mem hlt)
 have hl : l = l.take i ++ l[i] :: l.drop (i + 1) := by rw [← List.drop_eq_getElem_cons hlt, List.take_append_drop]
 have hpre : ((l.take i).flatMap enc).length = i * sz := by
  rw [flat_length (fun y hy => hz y (List.mem_of_mem_take hy)), List.length_take]
  rw [Nat.min_eq_left (by omega)]
 have h1 : l.flatMap enc = (l.take i).flatMap enc ++ (enc l[i] ++ (l.drop (i + 1)).flatMap enc) := by
  conv => lhs; rw [hl]
  rw [List.flatMap_append, List.flatMap_cons]
 have h2 : (l.set i x').flatMap enc = (l.take i).flatMap enc ++ (enc x' ++ (l.drop (i + 1)).flatMap enc) := by
  rw [List.set_eq_take_append_cons_drop, if_pos hlt, List.flatMap_append, List.flatMap_cons]
 rw [h1] at hr
 obtain ⟨c1, cr, rfl, r1, r2⟩ := hr.split
 obtain ⟨c2, c3, rfl, r3, r4⟩ := r2.split
 have l1 := r1.length
 have l2 := r3.length
 rw [hpre] at l1
 rw [hx] at l2
 have hre : RL F H m (enc x') (c2.take o ++ us ++ c2.drop (o + us.length)) := by
  rw [he, hlu.symm]
  exact ((r3.take _).append hu).append (by rw [hlu]; exact r3.drop _)
 have hel : (enc x').length = sz := by rw [he]; simp [hx]; omega
 have hcl : (c1 ++ (c2 ++ c3)).length ≤ cur.length - off := by
  have := congrArg List.length hc
  rw [List.length_take, List.length_drop] at this
  omega
 ·obtain ⟨Z, hZ⟩ : ∃ Z, cur.drop off = (c1 ++ (c2 ++ c3)) ++ Z := ⟨(cur.drop off).drop (c1 ++ (c2 ++ c3)).length, by
   conv => rhs; arg 1; rw [← hc]
   rw [List.take_append_drop]⟩
  have hA : cur = cur.take off ++ ((c1 ++ (c2 ++ c3)) ++ Z) := by rw [← hZ, List.take_append_drop]
  generalize hAA : cur.take off = A0 at hA
  have hAl : A0.length = off := by rw [← hAA, List.length_take]; omega
  refine ⟨c1 ++ ((c2.take o ++ us ++ c2.drop (o + us.length)) ++ c3), by rw [h2]; exact r1.append (hre.append r4), by simp; omega, fun y hy => ?_, ?_, ?_⟩
  ·rw [List.mem_iff_getElem?] at hy
   obtain ⟨j, hj⟩ := hy
   rcases get_set hj with ⟨_, h⟩ | ⟨_, _, rfl⟩
   ·exact hz y (List.mem_of_getElem? h)
   ·exact hel
  ·rw [hA]; simp; omega
  ·have e1 : cur = (A0 ++ (c1 ++ c2.take o)) ++ (((c2.drop o).take us.length) ++ (c2.drop (o + us.length) ++ (c3 ++ Z))) := by
    have e2 : c2 = c2.take o ++ ((c2.drop o).take us.length ++ c2.drop (o + us.length)) := by
     rw [← List.drop_drop, List.take_append_drop, List.take_append_drop]
    conv => lhs; rw [hA, e2]
    simp [List.append_assoc]
   have t1 : cur.take (off + i * sz + o) = A0 ++ (c1 ++ c2.take o) := by
    rw [e1]; exact List.take_left' (by simp; omega)
   have t2 : cur.drop (off + i * sz + o + us.length) = c2.drop (o + us.length) ++ (c3 ++ Z) := by
    rw [e1, ← List.append_assoc, List.drop_left' (by simp; omega)]
   rw [t1, t2]
   have e3 : A0 ++ (c1 ++ c2.take o) ++ us ++ (c2.drop (o + us.length) ++ (c3 ++ Z)) = A0 ++ ((c1 ++ ((c2.take o ++ us ++ c2.drop (o + us.length)) ++ c3)) ++ Z) := by simp [List.append_assoc]
   rw [e3, List.drop_left' hAl, List.take_left]
theorem d_store (hT : TabOk P tab) (hE : ER F w.heap ⟨E.B, γ⟩ s.env a) (hW : WR E F γ s.ah w.heap) {t : Nat} {x y : Operand} (ho : o.op = .store t x y) (h : Y2 tab s (.store t x y) k) : Dn P s E F γ a w o k := by
 simp only [Y2] at h
 split at h
 ·rename_i _ _ _ d j off new ht hx hy
  split at h
  ·rename_i cs ty hb
   obtain ⟨hc, h⟩ := bguard h
   simp only [Bool.and_eq_true] at hc
   have hc1 := Nat.eq_of_beq_eq_true hc.1
   have hc2 := Nat.le_of_ble_eq_true hc.2
   have hcx := opn_c hE hx
   obtain ⟨us, hu, hru⟩ := opn_cells hE hy
   have hlu := hru.length
   generalize hv : a.eval x = v at hcx
   cases hcx with
   | @ptr _ _ _ bk _ _ hg _ =>
    have hg' : γ[j]? = some _ := hg
    have hbr := hW.br j _ _ hb hg'
    obtain ⟨kk, e, vs, he, h1, h2⟩ := hbr
    obtain rfl : bk = kk := by simpa using he
    have hlv := h2.length
    have hrun := run_store (P := P) ho hv hu (fun w => by rw [← hlu, hc1]; exact hT.size ht w) hru.one h1 (by simp; omega)
    have hK : Keep [bk] w.heap (w.setRow bk (vs.take off ++ us ++ vs.drop (off + us.length)).toArray).heap := setRow_keep _ _ _
    have hob : obv (.box cs ty) (.pointer (some ⟨bk, 0, none⟩)) = [bk] := rfl
    have ex := hW.ext (γ' := []) (W := [bk]) (fun q hq => hW.nf j _ _ q hb hg' (by rw [hob]; exact hq)) hK
    rw [List.append_nil] at ex
    refine ⟨_, undef, _, _, _, F, γ, ⟨.inr ⟨rfl, rfl⟩, hrun⟩, Amb.of rfl rfl rfl, h, ⟨hW.upd hb hg' (by rw [hob]; exact hK) (fun q hq => hq) ⟨bk, e, _, rfl, setRow_heap w bk _ _ _ _ h1, ?_⟩, ex⟩, trivial, fun hgr => by rw [ho] at hgr; simp [grows] at hgr, fun ha => by rw [ho] at ha; cases ha⟩
    have h2' := h2.ext ex
    have hru' := hru.ext ex
    show RL F _ _ _ (vs.toArray.toList.take off ++ us ++ vs.toArray.toList.drop (off + us.length))
    have := ((h2'.take off).append hru').append (h2'.drop (off + new.length))
    rw [hlu] at this
    rw [hlu]
    exact this
  ·exact h.elim
 ·rename_i _ _ _ d sz j i off new ht hx hy
  obtain ⟨us, hu, hru⟩ := opn_cells hE hy
  obtain ⟨F1, hF1, hW1, hru1, hl1⟩ := fz_sound hW hru
  generalize hfz : fz s.ah new = fr at h hW1 hru1 hl1
  obtain ⟨ah1, new1⟩ := fr
  simp only [] at h hW1 hru1 hl1
  split at h
  ·rename_i sz' α enc l hb
   obtain ⟨hc, x1, x2, hi, ⟨hfit, henc⟩, h⟩ := bguard h
   simp only [Bool.and_eq_true] at hc
   obtain ⟨⟨hc1, hc2⟩, hc3⟩ := hc
   have hc1 := Nat.eq_of_beq_eq_true hc1
   obtain rfl := Nat.eq_of_beq_eq_true hc2
   have hru0 := closed_up (m' := m0) hru1 hc3
   have hlu := hru0.length
   have hcx := opn_c hE hx
   generalize hv : a.eval x = v at hcx
   cases hcx with
   | @ep _ _ _ _ _ bk ob n0 cap0 _ _ hg _ =>
    have hg' : γ[j]? = some _ := hg
    have hbr := hW1.br j _ _ hb hg'
    rcases hbr with ⟨p, he, hl0⟩ | ⟨kk, ob', cap, cur, e, css, he, h1, h2, h3, h4, h5, h6, h7⟩
    ·subst hl0; simp at hi
    ·have hbk : bk = kk ∧ ob = ob' := by simp at he; exact he.1
     obtain ⟨rfl, rfl⟩ := hbk
     rw [he] at hg hg'
     obtain ⟨css', q1, q2, q3, q4, q5⟩ := row_put h5 h6 hi hfit henc hru0 h7 (by simp; omega)
     have hrun := run_store (P := P) ho hv hu (fun w => by rw [← hlu, hc1]; exact hT.size ht w) hru.one h1 (by simpa using q4)
     have hob : obv (.row sz α enc l) (.slice (some ⟨bk, ob, none⟩) l.length (cap + 1)) = [bk] := rfl
     have hK : Keep [bk] w.heap (w.setRow bk (cur.toList.take (ob + i * sz + off) ++ us ++ cur.toList.drop (ob + i * sz + off + us.length)).toArray).heap := setRow_keep _ _ _
     have ex := hW1.ext (γ' := []) (W := [bk]) (fun q hq => hW1.nf j _ _ q hb hg' (by rw [hob]; exact hq)) hK
     rw [List.append_nil] at ex
     refine ⟨_, undef, _, _, _, F1, γ, ⟨.inr ⟨rfl, rfl⟩, hrun⟩, Amb.of rfl rfl rfl, h, Step.frz hF1 ⟨hW1.upd hb hg' (by rw [hob]; exact hK) (fun q hq => by rw [hob]; simpa [obv] using hq) (.inr ⟨bk, ob, cap, _, e, css', by rw [List.length_set], setRow_heap w bk _ _ _ _ h1, by rw [List.length_set]; exact h2, h3, ?_, q1.ext ex.m0, q3, q5⟩), ex⟩, trivial, fun hgr => by rw [ho] at hgr; simp [grows] at hgr, fun ha => by rw [ho] at ha; cases ha⟩
     simp at q4 ⊢
     omega
  ·exact h.elim
 ·exact h.elim
def RowG (H : Heap) (sz : Nat) (v : Value) (n : Nat) (cs : List Value) : Prop :=
 cs.length = n * sz ∧ ((∃ p, v = .slice p 0 0 ∧ n = 0) ∨ ∃ g off cap cur e, v = .slice (some ⟨g, off, none⟩) n (cap + 1) ∧ H[g]? = some (.cells cur e (0, 0)) ∧ n ≤ cap + 1 ∧ cap + 1 ≤ maxLen ∧ off + (cap + 1) * sz ≤ cur.size ∧ (cur.toList.drop off).take (n * sz) = cs)
def obs : Value → List Nat
 | .slice (some a) _ (_ + 1) => [a.block]
 | _ => []
theorem RowG.src {H : Heap} {sz n : Nat} {v : Value} {cs : List Value} (h : RowG H sz v n cs) : Src P H sz v n cs := fun w hw => by
 rcases h.2 with ⟨p, rfl, rfl⟩ | ⟨g, off, cap, cur, e, rfl, hg, h1, h2, h3, h4⟩
 ·have : cs = [] := List.eq_nil_of_length_eq_zero (by simpa using h.1)
  subst this
  cases p with
  | none => exact ⟨by simp [Builtin.lenOf], by simp [Builtin.firstCells]⟩
  | some a =>
   have := run_loadCells_list (P := P) (w := w) a [] (by simp)
   exact ⟨by simp [Builtin.lenOf], by simpa [Builtin.firstCells] using this⟩
 ·refine ⟨by simp [Builtin.lenOf], ?_⟩
  refine run_firstCells_some w sz n ⟨g, off, none⟩ _ _ cs h.1 (fun j v hj => ?_)
  rw [Addr.add_lit, cell?_of hw]
  unfold NB.cell
  rw [hg]
  rw [← h4, List.getElem?_take] at hj
  split at hj
  ·rw [List.getElem?_drop] at hj; simpa using hj
  ·cases hj
theorem SV.src {L : LS} {H : Heap} {v : Value} (h : SV F H L v) : ∃ news, Src P H L.sz v L.l.length news ∧ RL F H m0 (L.l.flatMap L.enc) news ∧ ∀ x ∈ L.l, (L.enc x).length = L.sz := by
 obtain ⟨sz, α, enc, l⟩ := L
 rcases h with ⟨p, rfl, hl⟩ | ⟨b, off, cap, css, rfl, h1, h2, hr, hz, hc⟩
 ·have hl : l = [] := hl
  subst hl
  refine ⟨[], fun w _ => ⟨by simp [Builtin.lenOf], ?_⟩, .nl, fun x hx => by cases hx⟩
  cases p with
  | none => simp [Builtin.firstCells]
  | some a =>
   have := run_loadCells_list (P := P) (w := w) a [] (by simp)
   simpa [Builtin.firstCells] using this
 ·refine ⟨css, fun w hw => ⟨by simp [Builtin.lenOf], ?_⟩, hr, hz⟩
  have hl := hr.length
  rw [flat_length hz] at hl
  exact run_firstCells_some w sz l.length ⟨b, off, none⟩ _ cap css hl.symm (fun j v hj => by rw [Addr.add_lit, cell?_of hw]; exact hc j v hj)
def TyG (H : Heap) (e : TypeId) (v : Value) : Prop := (∃ p, v = .slice p 0 0) ∨ ∃ k n c cur, v = .slice (some ⟨k, 0, none⟩) n (c + 1) ∧ H[k]? = some (.cells cur e (0, 0))
theorem run_append {t t2 e : TypeId} {i : TypeInfo} {z v x : Value} {sx sy : Operand} {size n m : Nat} {cs news : List Value} {dx : TypeDesc}
  (ho : o.op = .call { callee := .builtin .append, args := #[sx, sy], argTypes := #[t, t2] }) (ht : P.underlying t = some (.slice e)) (ht2 : P.underlying t2 = some dx) (hnx : ∀ k, dx ≠ .int k)
  (hi : ∀ w, (typeInfo e).run P w = .ok i w) (hsz : i.size = size) (hz : i.zero = some z) (hzs : z.cells.size = size)
  (hs : a.eval sx = v) (hy : a.eval sy = x) (hr : RowG w.heap size v n cs) (hsrc : Src P w.heap size x m news) (hone : ∀ u ∈ news, u.oneCell' = true) (hnl : news.length = m * size) (hfit : (n + m) * i.bytes ≤ 140737488355328) (hml : n + m ≤ 9223372036854775807) :
  ∃ v' w', (execOp a.eval o).run P w = .ok (.value v') w' ∧ Amb w w' ∧ RowG w'.heap size v' (n + m) (cs ++ news) ∧ Keep (obs v) w.heap w'.heap ∧ (∀ b ∈ obs v', b ∈ obs v ∨ w.heap.size ≤ b) ∧ (TyG w.heap e v → TyG w'.heap e v') := by
 have hlen : (cs ++ news).length = (n + m) * size := by rw [List.length_append, hr.1, hnl, Nat.add_mul]
 have hsizeOf : ∀ w, (sizeOf e).run P w = .ok size w := fun w => by simp [sizeOf, hi, hsz]
 have hzero : ∀ w, (zeroValue e).run P w = .ok z w := fun w => by simp [zeroValue, hi, hz]
 obtain ⟨hs1, hs2⟩ := hsrc w rfl
 have hmx : n + m ≤ maxLen := hml
 have grow : ∀ (p : Option Addr) (cp : Nat), v = .slice p n cp → cp < n + m → ∃ v' w', (execOp a.eval o).run P w = .ok (.value v') w' ∧ Amb w w' ∧ RowG w'.heap size v' (n + m) (cs ++ news) ∧ Keep (obs v) w.heap w'.heap ∧ (∀ b ∈ obs v', b ∈ obs v ∨ w.heap.size ≤ b) ∧ (TyG w.heap e v → TyG w'.heap e v') := by
  intro p cp hv hcp
  have hge := grownCap_ge w (n + m) cp e
  have hcm : grownCap w (n + m) cp e ≤ maxLen := grownCap_le_maxLen w (n + m) cp e hmx
  have hfits := growslice_fits hcp hfit
  have hold : ∀ w' : World, w'.heap = w.heap → (Builtin.firstCells size n (.slice p n cp)).run P w' = .ok cs.toArray w' := fun w' hw' => by rw [← hv]; exact (RowG.src (P := P) hr w' hw').2
  obtain ⟨gc, hgc⟩ : ∃ gc, grownCap w (n + m) cp e = gc + 1 := ⟨grownCap w (n + m) cp e - 1, by omega⟩
  refine ⟨.slice (some ⟨w.heap.size, 0, none⟩) (n + m) (grownCap w (n + m) cp e), w.drew.alloc (.cells (cs.toArray ++ news.toArray ++ Builtin.zeroCells z.cells (grownCap w (n + m) cp e - (n + m))) e), ?_, Amb.of rfl rfl rfl, ⟨hlen, .inr ⟨w.heap.size, 0, gc, _, _, by rw [hgc], heap_alloc_new w.drew _, by omega, by omega, ?_, ?_⟩⟩, ?_, ?_, ?_⟩
  ·have h1 := hold w.drew rfl
   have h2 := (hsrc w.drew rfl).2
   unfold execOp; rw [ho]
   have hnle : ¬ n + m ≤ cp := by omega
   have hn63 : ¬ ((9223372036854775807 : Int) < (n : Int) + (m : Int)) := by omega
   have hnf : ¬ 281474976710656 < Builtin.nextslicecap (n + m) cp * i.bytes := by omega
   simp [resolve, invoke, builtin, hs, hy, hv, Builtin.append_, run_underlying ht, run_underlying ht2, hsizeOf, hs1, hnle, hi, hn63, hnf, hzero, newRow]
   have hch : Question.forced (.appendCap (n + m) cp e) = false := rfl
   simp [hch]
   rw [h1]
   simp [h2]
   refine ⟨rfl, ?_⟩
   have e2 : (cs ++ news).toArray = cs.toArray ++ news.toArray := by simp
   rw [e2, Array.append_assoc]
   rfl
  ·simp only [Array.size_append, List.size_toArray, size_zeroCells, hzs, hr.1, hnl, ← Nat.add_mul]
   rw [← hgc]
   rw [Nat.zero_add]
   refine Nat.mul_le_mul_right _ (by omega)
  ·simp only [Array.toList_append, List.append_assoc, List.drop_zero]
   rw [← List.append_assoc, ← hlen]
   exact List.take_left
  ·exact (Keep.push [] w.heap _).nil
  ·intro b hb
   rw [hgc] at hb
   simp [obs] at hb
   subst hb
   exact .inr (Nat.le_refl _)
  ·exact fun _ => .inr ⟨w.heap.size, n + m, gc, _, by rw [hgc], heap_alloc_new w.drew _⟩
 rcases hr.2 with ⟨p, hv, hn⟩ | ⟨g, off, cap, cur, et, hv, hg', h1, h2, h3, h4⟩
 ·by_cases hm : m = 0
  ·have hcs : cs = [] := List.eq_nil_of_length_eq_zero (by rw [hr.1, hn]; simp)
   have hnews : news = [] := List.eq_nil_of_length_eq_zero (by rw [hnl, hm]; simp)
   subst hn hm hcs hnews hv
   refine ⟨.slice p 0 0, w, ?_, Amb.refl _, ⟨by simp, .inl ⟨p, rfl, rfl⟩⟩, Keep.refl _ _, fun b hb => .inl hb, id⟩
   unfold execOp; rw [ho]
   cases p with
   | none => simp [resolve, invoke, builtin, hs, hy, Builtin.append_, run_underlying ht, run_underlying ht2, hsizeOf, hs1, hs2]
   | some ad => simp [resolve, invoke, builtin, hs, hy, Builtin.append_, run_underlying ht, run_underlying ht2, hsizeOf, hs1, hs2, storeCells]
  ·subst hn
   exact grow p 0 hv (by omega)
 ·by_cases hroom : n + m ≤ cap + 1
  ·have hle : n * size + m * size ≤ (cap + 1) * size := by rw [← Nat.add_mul]; exact Nat.mul_le_mul_right _ hroom
   have hst := run_storeCells_at P g (off + n * size) et news 0 cur w hg' (by rw [hnl]; omega) hone
   simp only [Nat.add_zero] at hst
   refine ⟨.slice (some ⟨g, off, none⟩) (n + m) (cap + 1), w.setRow g (cur.toList.take (off + n * size) ++ news ++ cur.toList.drop (off + n * size + news.length)).toArray, ?_, Amb.of rfl rfl rfl, ⟨hlen, .inr ⟨g, off, cap, _, et, rfl, setRow_heap w g cur _ et _ hg', hroom, h2, ?_, ?_⟩⟩, ?_, ?_, ?_⟩
   ·unfold execOp; rw [ho]
    simp [resolve, invoke, builtin, hs, hy, hv, Builtin.append_, run_underlying ht, run_underlying ht2, hsizeOf, hs1, hs2, hroom, Addr.add_lit, hst]
   ·simp only [List.size_toArray, List.length_append, List.length_take, List.length_drop, Array.length_toList]
    omega
   ·have e1 : cur.toList.take (off + n * size) = cur.toList.take off ++ cs := by
     rw [List.take_add, h4]
    have hoff : (cur.toList.take off).length = off := by rw [List.length_take, Array.length_toList]; omega
    show ((cur.toList.take (off + n * size) ++ news ++ cur.toList.drop (off + n * size + news.length)).drop off).take _ = _
    rw [e1, List.append_assoc, List.append_assoc, List.drop_left' hoff, ← List.append_assoc, ← hlen]
    exact List.take_left
   ·rw [hv]
    exact setRow_keep w g _
   ·intro b hb
    rw [hv]
    exact .inl hb
   ·rintro (⟨p, hp⟩ | ⟨k, n', c', cur', hp, hk⟩)
    ·rw [hv] at hp; cases hp
    ·rw [hv] at hp
     cases hp
     rw [hg'] at hk
     cases hk
     exact .inr ⟨g, n + m, cap, _, rfl, setRow_heap w g cur _ _ _ hg'⟩
  ·exact grow _ (cap + 1) hv (by omega)
theorem row_g {H : Heap} {m : Md} {sz : Nat} {α : Type} {enc : α → List C} {l : List α} {g : Value} (h : BR F H m (.row sz α enc l) g) : ∃ cs, RowG H sz g l.length cs ∧ RL F H m0 (l.flatMap enc) cs ∧ ∀ x ∈ l, (enc x).length = sz := by
 rcases h with ⟨p, rfl, rfl⟩ | ⟨k, off, cap, cur, t, css, rfl, h1, h2, h3, h4, h5, h6, h7⟩
 ·exact ⟨[], ⟨by simp, .inl ⟨p, rfl, rfl⟩⟩, .nl, fun x hx => by cases hx⟩
 ·have hl := h5.length
  rw [flat_length h6] at hl
  exact ⟨css, ⟨hl.symm, .inr ⟨k, off, cap, cur, t, rfl, h1, h2, h3, h4, by rw [hl]; exact h7⟩⟩, h5, h6⟩
theorem buf_g {H : Heap} {m : Md} {t sz : Nat} {α : Type} {enc : α → List C} {l : List α} {g : Value} (h : BR F H m (.buf t sz α enc l) g) : ∃ cs, RowG H sz g l.length cs ∧ RL F H m0 (l.flatMap enc) cs ∧ (∀ x ∈ l, (enc x).length = sz) ∧ TyG H t g := by
 rcases h with ⟨p, rfl, rfl⟩ | ⟨k, cap, cur, css, rfl, h1, h2, h3, h4, h5, h6, h7⟩
 ·exact ⟨[], ⟨by simp, .inl ⟨p, rfl, rfl⟩⟩, .nl, (fun x hx => by cases hx), .inl ⟨p, rfl⟩⟩
 ·have hl := h5.length
  rw [flat_length h6] at hl
  exact ⟨css, ⟨hl.symm, .inr ⟨k, 0, cap, cur, t, rfl, h1, h2, h3, by omega, by rw [hl, List.drop_zero]; exact h7⟩⟩, h5, h6, .inr ⟨k, _, cap, cur, rfl, h1⟩⟩
theorem g_buf {H : Heap} {m : Md} {t sz n : Nat} {α : Type} {enc : α → List C} {l : List α} {g : Value} {cs : List Value} (h : RowG H sz g n cs) (ht : TyG H t g) (hn : n = l.length) (hr : RL F H m0 (l.flatMap enc) cs) (hz : ∀ x ∈ l, (enc x).length = sz) : BR F H m (.buf t sz α enc l) g := by
 subst hn
 rcases h.2 with ⟨p, rfl, hl⟩ | ⟨k, off, cap, cur, e, rfl, h1, h2, h3, h4, h5⟩
 ·exact .inl ⟨p, rfl, List.eq_nil_of_length_eq_zero hl⟩
 ·rcases ht with ⟨p, hp⟩ | ⟨k', n', c', cur', hp, hk⟩
  ·simp at hp
  ·obtain ⟨⟨rfl, rfl⟩, -, rfl⟩ : (k = k' ∧ off = 0) ∧ l.length = n' ∧ cap = c' := by simpa using hp
   rw [h1] at hk
   cases hk
   exact .inr ⟨k, cap, cur, cs, rfl, h1, h2, h3, by omega, hr, hz, by rw [h.1]; simpa using h5⟩
theorem obv_buf {t sz : Nat} {α : Type} {enc : α → List C} {l : List α} (g : Value) : obv (.buf t sz α enc l) g = obs g := by
 cases g with
 | slice p n c => cases p <;> cases c <;> rfl
 | _ => rfl
theorem g_row {H : Heap} {m : Md} {sz n : Nat} {α : Type} {enc : α → List C} {l : List α} {g : Value} {cs : List Value} (h : RowG H sz g n cs) (hn : n = l.length) (hr : RL F H m0 (l.flatMap enc) cs) (hz : ∀ x ∈ l, (enc x).length = sz) : BR F H m (.row sz α enc l) g := by
 subst hn
 rcases h.2 with ⟨p, rfl, hl⟩ | ⟨k, off, cap, cur, t, rfl, h1, h2, h3, h4, h5⟩
 ·exact .inl ⟨p, rfl, List.eq_nil_of_length_eq_zero hl⟩
 ·exact .inr ⟨k, off, cap, cur, t, cs, rfl, h1, h2, h3, h4, hr, hz, by rw [h.1]; exact h5⟩
theorem obv_row {sz : Nat} {α : Type} {enc : α → List C} {l : List α} (g : Value) : obv (.row sz α enc l) g = obs g := by
 cases g with
 | slice p n cap => cases p <;> cases cap <;> rfl
 | _ => rfl
theorem RowG.part {H : Heap} {sz n0 lo n cap : Nat} {p q : Option Addr} {cs : List Value} (h : RowG H sz (.slice p n0 cap) n0 cs) (hle : lo + n ≤ n0) (hq : cap ≠ lo → q = p.map (·.add (lo * sz))) :
  RowG H sz (.slice q n (cap - lo)) n ((cs.drop (lo * sz)).take (n * sz)) ∧ ∀ b ∈ obs (.slice q n (cap - lo)), b ∈ obs (.slice p n0 cap) := by
 have hlo : lo * sz + n * sz ≤ n0 * sz := by rw [← Nat.add_mul]; exact Nat.mul_le_mul_right _ hle
 have hl : ((cs.drop (lo * sz)).take (n * sz)).length = n * sz := by rw [List.length_take, List.length_drop, h.1]; omega
 rcases h.2 with ⟨p', e, hn⟩ | ⟨k, off, cap', cur, t, e, h1, h2, h3, h4, h5⟩
 ·cases e
  obtain rfl : n = 0 := by omega
  obtain rfl : lo = 0 := by omega
  exact ⟨⟨hl, .inl ⟨q, rfl, rfl⟩⟩, fun b hb => by cases q <;> simp [obs] at hb⟩
 ·simp at e
  obtain ⟨rfl, rfl⟩ := e
  by_cases hc : cap' + 1 = lo
  ·obtain rfl : n = 0 := by omega
   refine ⟨⟨hl, .inl ⟨q, by rw [hc, Nat.sub_self], rfl⟩⟩, fun b hb => ?_⟩
   rw [hc, Nat.sub_self] at hb
   cases q <;> simp [obs] at hb
  ·have hq := hq hc
   simp [Addr.add_lit] at hq
   obtain ⟨d, hd⟩ : ∃ d, cap' + 1 - lo = d + 1 := ⟨cap' - lo, by omega⟩
   have hcd : lo * sz + (d + 1) * sz = (cap' + 1) * sz := by rw [← Nat.add_mul]; congr 1; omega
   refine ⟨⟨hl, .inr ⟨k, off + lo * sz, d, cur, t, by rw [hq, hd], h1, by omega, by omega, by omega, ?_⟩⟩, fun b hb => ?_⟩
   ·rw [← h5, ← List.drop_drop, List.drop_take, List.take_take, Nat.min_eq_left (by omega)]
   ·rw [hq, hd] at hb
    simpa [obs] using hb
end
end Go.AM
end
/- part -/
section
namespace Go.AM
open Go Go.NB
section
variable {P : Program} {tab : Nat → Option TD} {E : En} {F : Nat → Prop} {γ : List Value} {s : St} {a : Act} {w : World} {o : Oper} {k : List B → A → Prop}
theorem flat_bytes {F : Nat → Prop} {H : Heap} {m : Md} : ∀ l : List UInt8, RL F H m (l.flatMap bytesC) (l.map bv)
 | [] => .nl
 | _ :: l => .int (flat_bytes l)
theorem WR.frozenNew {E : En} {F : Nat → Prop} {γ : List Value} {ah : List B} {H H' : Heap} (h : WR E F γ ah H) (hK : Keep [] H H') (hs : H.size < H'.size) : WR E (fun q => F q ∨ q = H.size) γ ah H' := by
 have h' := h.same hK
 have e : Ext F H' ⟨E.B, γ⟩ (fun q => F q ∨ q = H.size) H' ⟨E.B, γ⟩ := frozen_ext fun _ h => .inl h
 refine ⟨h'.len, fun j b g hj hg => BR.ext e (fun _ _ => rfl) (h'.br j b g hj hg), h'.disj, fun j b g q hj hg hq => ⟨fun hf => hf.elim (h'.nf j b g q hj hg hq).1 (fun he => ?_), (h'.nf j b g q hj hg hq).2⟩, fun q hq => hq.elim (h'.fb q) (fun he => by omega), h'.bb, h'.size, h'.keep, fun q hq => .inl (h'.fmono q hq), fun q hq => hq.elim (h'.fnew q) (fun he => .inr (.inr (by have := h.size; omega))), h'.onew, h'.pre⟩
 have := obv_lt (h.br j b g hj hg) q hq
 omega
theorem base_sound {H : Heap} {ah : List B} {c : C} {v : Value} {b : Option LS} {de : TD} {xs : List de.α} (hW : WR E F γ ah H) (hc : RL F H ⟨E.B, γ⟩ [c] [v]) (hb : baseOf ah c = some b) (hx : asList de b xs) :
  ∃ cs, RowG H de.size v xs.length cs ∧ RL F H m0 (xs.flatMap de.enc) cs ∧ (∀ x ∈ xs, (de.enc x).length = de.size) ∧
   ((kill ah c = ah ∧ obs v = []) ∨ ∃ j b g, kill ah c = ah.set j .dead ∧ ah[j]? = some b ∧ γ[j]? = some g ∧ (∀ cs ty, ah[j]? ≠ some (.box cs ty)) ∧ ∀ q ∈ obs v, q ∈ obv b g) ∧
   ∀ j t sz α enc l, c = .rw j → ah[j]? = some (.buf t sz α enc l) → TyG H t v := by
 cases c with
 | nil =>
  cases hb
  have hx : xs = [] := hx
  subst hx
  cases hc
  exact ⟨[], ⟨by simp, .inl ⟨none, rfl, rfl⟩⟩, .nl, (fun x hx => by cases hx), .inl ⟨rfl, rfl⟩, fun j t sz α enc l h => by cases h⟩
 | rw j =>
  simp only [baseOf] at hb
  split at hb
  ·rename_i sz α enc l hj
   cases hb
   cases hx
   cases hc with
   | @rw _ _ p q n cap _ _ hg hqq _ =>
    have hg' : γ[j]? = some _ := hg
    obtain ⟨cs, h1, h2, h3⟩ := row_g (hW.br _ _ _ hj hg')
    by_cases e : cap = 0
    ·subst e
     have hn : xs.length = 0 ∧ n = 0 := by
      rcases h1.2 with ⟨_, e1, e2⟩ | ⟨_, _, _, _, _, e1, _⟩
      ·cases e1; exact ⟨e2, rfl⟩
      ·simp at e1
     have hl := hn.1
     rw [hn.2]
     refine ⟨cs, ⟨h1.1, .inl ⟨q, rfl, hl⟩⟩, h2, h3, .inr ⟨j, _, _, rfl, hj, hg', (fun cs ty h => by rw [hj] at h; cases h), fun b hb => by cases q <;> simp [obs] at hb⟩, fun j t sz α enc l h hb => by cases h; rw [hj] at hb; cases hb⟩
    ·rw [hqq e]
     exact ⟨cs, h1, h2, h3, .inr ⟨j, _, _, rfl, hj, hg', (fun cs ty h => by rw [hj] at h; cases h), fun q hq => by rw [obv_row]; exact hq⟩, fun j t sz α enc l h hb => by cases h; rw [hj] at hb; cases hb⟩
  ·rename_i t sz α enc l hj
   cases hb
   cases hx
   cases hc with
   | @rw _ _ p q n cap _ _ hg hqq _ =>
    have hg' : γ[j]? = some _ := hg
    obtain ⟨cs, h1, h2, h3, h4⟩ := buf_g (hW.br _ _ _ hj hg')
    by_cases e : cap = 0
    ·subst e
     have hn : xs.length = 0 ∧ n = 0 := by
      rcases h1.2 with ⟨_, e1, e2⟩ | ⟨_, _, _, _, _, e1, _⟩
      ·cases e1; exact ⟨e2, rfl⟩
      ·simp at e1
     have hl := hn.1
     rw [hn.2]
     refine ⟨cs, ⟨h1.1, .inl ⟨q, rfl, hl⟩⟩, h2, h3, .inr ⟨j, _, _, rfl, hj, hg', (fun cs ty h => by rw [hj] at h; cases h), fun b hb => by cases q <;> simp [obs] at hb⟩, fun _ _ _ _ _ _ _ _ => .inl ⟨q, rfl⟩⟩
    ·rw [hqq e]
     exact ⟨cs, h1, h2, h3, .inr ⟨j, _, _, rfl, hj, hg', (fun cs ty h => by rw [hj] at h; cases h), fun q hq => by rw [obv_buf]; exact hq⟩, fun j2 t2 sz2 α2 enc2 l2 h hb => by cases h; rw [hj] at hb; cases hb; exact h4⟩
  ·cases hb
 | sw sz j lo n =>
  simp only [baseOf] at hb
  split at hb
  ·rename_i sz' α enc l hj
   by_cases hz : Nat.beq sz sz' = true
   ·obtain rfl := Nat.eq_of_beq_eq_true hz
    rw [hz] at hb
    cases hb
    cases hx
    cases hc with
    | @sw _ _ _ _ _ p q n0 cap _ _ hg hle hq _ =>
     have hg' : γ[j]? = some _ := hg
     obtain ⟨cs, h1, h2, h3⟩ := row_g (hW.br _ _ _ hj hg')
     have hn0 : n0 = l.length := by
      rcases h1.2 with ⟨p', e, hn⟩ | ⟨_, _, _, _, _, e, _⟩
      ·cases e; omega
      ·simp at e; exact e.2.1
     subst hn0
     obtain ⟨h4, h5⟩ := h1.part hle hq
     have hlen : ((l.drop lo).take n).length = n := by rw [List.length_take, List.length_drop]; omega
     have h6 : ∀ x ∈ l.drop lo, (de.enc x).length = de.size := fun x hx => h3 x (List.mem_of_mem_drop hx)
     refine ⟨_, by rw [hlen]; exact h4, ?_, fun x hx => h6 x (List.mem_of_mem_take hx), .inr ⟨j, _, _, rfl, hj, hg', (fun cs ty h => by rw [hj] at h; cases h), fun b hb => by rw [obv_row]; exact h5 b hb⟩, fun j t sz α enc l h => by cases h⟩
     rw [← flat_take n h6, ← flat_drop lo h3]
     exact (h2.drop _).take _
   ·rw [Bool.not_eq_true] at hz; rw [hz] at hb; cases hb
  ·cases hb
 | _ => cases hb
theorem src_sound {H : Heap} {ah : List B} {c : C} {v : Value} {b : Option LS} {de : TD} {ys : List de.α} (hW : WR E F γ ah H) (hc : RL F H ⟨E.B, γ⟩ [c] [v]) (hb : srcOf ah c = some b) (hy : asList de b ys) :
  ∃ news, Src P H de.size v ys.length news ∧ RL F H m0 (ys.flatMap de.enc) news ∧ (∀ x ∈ ys, (de.enc x).length = de.size) := by
 cases c with
 | nil =>
  cases hb
  have hy : ys = [] := hy
  subst hy
  cases hc
  exact ⟨[], fun w _ => ⟨by simp [Builtin.lenOf], by simp [Builtin.firstCells]⟩, .nl, fun x hx => by cases hx⟩
 | str l =>
  cases hb
  have hy : (⟨1, UInt8, bytesC, l⟩ : LS) = ⟨de.size, de.α, de.enc, ys⟩ := hy
  have key : ∀ L : LS, L = ⟨1, UInt8, bytesC, l⟩ → ∃ news, Src P H L.sz v L.l.length news ∧ RL F H m0 (L.l.flatMap L.enc) news ∧ (∀ x ∈ L.l, (L.enc x).length = L.sz) := fun L hL => by
   subst hL
   cases hc with
   | str _ _ =>
    exact ⟨_, Src.str l, flat_bytes l, fun x hx => rfl⟩
  exact key _ hy.symm
 | ls sz α enc l =>
  simp only [srcOf, Option.map_eq_some_iff] at hb
  obtain ⟨L, hL, rfl⟩ := hb
  obtain ⟨news, h1, h2, h3⟩ := (hW.sl hc hL).src (P := P)
  cases hy
  exact ⟨news, h1, h2, h3⟩
 | bs sz α enc l =>
  simp only [srcOf, Option.map_eq_some_iff] at hb
  obtain ⟨L, hL, rfl⟩ := hb
  obtain ⟨news, h1, h2, h3⟩ := (hW.sl hc hL).src (P := P)
  cases hy
  exact ⟨news, h1, h2, h3⟩
 | rw j =>
  simp only [srcOf, Option.map_eq_some_iff] at hb
  obtain ⟨L, hL, rfl⟩ := hb
  obtain ⟨news, h1, h2, h3⟩ := (hW.sl hc hL).src (P := P)
  cases hy
  exact ⟨news, h1, h2, h3⟩
 | sw sz j lo n =>
  simp only [srcOf, Option.map_eq_some_iff] at hb
  obtain ⟨L, hL, rfl⟩ := hb
  obtain ⟨news, h1, h2, h3⟩ := (hW.sl hc hL).src (P := P)
  cases hy
  exact ⟨news, h1, h2, h3⟩
 | _ => simp [srcOf, slOf] at hb
theorem row_seg {α : Type} {enc : α → List C} {l l2 : List α} {lo n sz : Nat} {css us : List Value} {cur : List Value} {off : Nat} {F : Nat → Prop} {H : Heap} {m : Md}
  (hr : RL F H m (l.flatMap enc) css) (hz : ∀ x ∈ l, (enc x).length = sz) (hfit : lo + n ≤ l.length) (hl2 : l2.length = n) (hz2 : ∀ x ∈ l2, (enc x).length = sz) (hu : RL F H m (l2.flatMap enc) us)
  (hc : (cur.drop off).take css.length = css) (hoff : off ≤ cur.length) :
  ∃ css', RL F H m ((l.take lo ++ (l2 ++ l.drop (lo + n))).flatMap enc) css' ∧ css'.length = css.length ∧ (∀ x ∈ l.take lo ++ (l2 ++ l.drop (lo + n)), (enc x).length = sz) ∧ off + lo * sz + us.length ≤ cur.length ∧
   ((cur.take (off + lo * sz) ++ us ++ cur.drop (off + lo * sz + us.length)).drop off).take css'.length = css' := by
 have hl : l = l.take lo ++ ((l.drop lo).take n ++ l.drop (lo + n)) := by
  rw [show l.drop (lo + n) = (l.drop lo).drop n by rw [List.drop_drop], List.take_append_drop, List.take_append_drop]
 have p1 : ((l.take lo).flatMap enc).length = lo * sz := by
  rw [flat_length (fun y hy => hz y (List.mem_of_mem_take hy)), List.length_take, Nat.min_eq_left (by omega)]
 have p2 : (((l.drop lo).take n).flatMap enc).length = n * sz := by
  rw [flat_length (fun y hy => hz y (List.mem_of_mem_drop (List.mem_of_mem_take hy))), List.length_take, List.length_drop, Nat.min_eq_left (by omega)]
 have p3 : (l2.flatMap enc).length = n * sz := by rw [flat_length hz2, hl2]
 have h1 : l.flatMap enc = (l.take lo).flatMap enc ++ (((l.drop lo).take n).flatMap enc ++ (l.drop (lo + n)).flatMap enc) := by
  conv => lhs; rw [hl]
  rw [List.flatMap_append, List.flatMap_append]
 rw [h1] at hr
 obtain ⟨c1, cr, rfl, r1, r2⟩ := hr.split
 obtain ⟨c2, c3, rfl, r3, r4⟩ := r2.split
 have l1 := r1.length
 have l2' := r3.length
 have l3 := hu.length
 rw [p1] at l1
 rw [p2] at l2'
 rw [p3] at l3
 have hcl : (c1 ++ (c2 ++ c3)).length ≤ cur.length - off := by
  have := congrArg List.length hc
  rw [List.length_take, List.length_drop] at this
  omega
 obtain ⟨Z, hZ⟩ : ∃ Z, cur.drop off = (c1 ++ (c2 ++ c3)) ++ Z := ⟨(cur.drop off).drop (c1 ++ (c2 ++ c3)).length, by
  conv => rhs; arg 1; rw [← hc]
  rw [List.take_append_drop]⟩
 have hA : cur = cur.take off ++ ((c1 ++ (c2 ++ c3)) ++ Z) := by rw [← hZ, List.take_append_drop]
 generalize hAA : cur.take off = A0 at hA
 have hAl : A0.length = off := by rw [← hAA, List.length_take]; omega
 refine ⟨c1 ++ (us ++ c3), by rw [List.flatMap_append, List.flatMap_append]; exact r1.append (hu.append r4), by simp; omega, fun y hy => ?_, ?_, ?_⟩
 ·rcases List.mem_append.1 hy with hy | hy
  ·exact hz y (List.mem_of_mem_take hy)
  ·rcases List.mem_append.1 hy with hy | hy
   ·exact hz2 y hy
   ·exact hz y (List.mem_of_mem_drop hy)
 ·rw [hA]; simp; omega
 ·have e1 : cur = (A0 ++ c1) ++ (c2 ++ (c3 ++ Z)) := by rw [hA]; simp [List.append_assoc]
  have t1 : cur.take (off + lo * sz) = A0 ++ c1 := by rw [e1]; exact List.take_left' (by simp; omega)
  have t2 : cur.drop (off + lo * sz + us.length) = c3 ++ Z := by
   rw [e1, ← List.append_assoc, List.drop_left' (by simp; omega)]
  rw [t1, t2]
  have e3 : A0 ++ c1 ++ us ++ (c3 ++ Z) = A0 ++ ((c1 ++ (us ++ c3)) ++ Z) := by simp [List.append_assoc]
  rw [e3, List.drop_left' hAl, List.take_left]
theorem run_clear {x : Operand} {t e et : TypeId} {zs : List Value} {size g off n cap : Nat} {cur : Array Value} {z : Value} (ho : o.op = .call { callee := .builtin .clear, args := #[x], argTypes := #[t] }) (hx : a.eval x = .slice (some ⟨g, off, none⟩) n cap) (hn : 0 < n)
  (ht : P.underlying t = some (.slice e)) (hz : ∀ w, (zeroValue e).run P w = .ok z w) (hzs : z.cells = zs.toArray) (hzl : zs.length = size) (hpos : 0 < size) (hone : ∀ u ∈ zs, u.oneCell' = true) (hg : w.heap[g]? = some (.cells cur et (0, 0))) (hfit : off + n * size ≤ cur.size) :
  (execOp a.eval o).run P w = .ok (.value (.tuple #[])) (w.setRow g (cur.toList.take off ++ (List.replicate n zs).flatten ++ cur.toList.drop (off + n * size)).toArray) := by
 have hl : (List.replicate n zs).flatten.length = n * size := by simp [hzl]
 have hs := run_storeCells_at P g off et (List.replicate n zs).flatten 0 cur w hg (by rw [hl]; simpa using hfit) (fun u hu => by
  obtain ⟨l, h1, h2⟩ := List.mem_flatten.1 hu
  rw [List.mem_replicate] at h1
  exact hone u (h1.2 ▸ h2))
 simp only [Nat.add_zero, hl] at hs
 have hzf := zeros_flat hzl hpos n
 obtain ⟨n, rfl⟩ : ∃ m, n = m + 1 := ⟨n - 1, by omega⟩
 unfold execOp; rw [ho]
 have key : (Builtin.zeroCells zs.toArray (n + 1)).toList = (List.replicate (n + 1) zs).flatten := by
  rw [← hzf]; unfold Builtin.zeroCells; simp [hzl]
 simp only [resolve, invoke, builtin, hx, Builtin.clear_, Sem.run_bind, Sem.run_pure, Result.andThen_ok, List.map_toArray, List.map_cons, List.map_nil, run_underlying ht, hz, hzs]
 simp [hx, run_underlying ht, hz, hzs, key, hs]
theorem d_clear (hT : TabOk P tab) (hE : ER F w.heap ⟨E.B, γ⟩ s.env a) (hW : WR E F γ s.ah w.heap) {x : Operand} {t e : TypeId} {de : TD} {sz j lo n : Nat} {α : Type} {enc : α → List C} {l : List α} {z : α} (ho : o.op = .call { callee := .builtin .clear, args := #[x], argTypes := #[t] })
  (ht : P.underlying t = some (.slice e)) (hde : tab e = some de) (hx : opn s x = .c (.sw sz j lo n)) (hj : s.ah[j]? = some (.row sz α enc l)) (hsz : sz = de.size) (hpos : 1 ≤ de.size) (hcl : closedB de.zero = true) (hz : enc z = de.zero) (hfit : lo + n ≤ l.length)
  (h : k (s.ah.set j (.row sz α enc (l.take lo ++ (List.replicate n z ++ l.drop (lo + n))))) .undef) : Dn P s E F γ a w o k := by
 have hcx := opn_c hE hx
 generalize hv : a.eval x = v at hcx
 cases hcx with
 | @sw _ _ _ _ _ p q n0 cap _ _ hg hle hq _ =>
 have hg' : γ[j]? = some _ := hg
 have hbr := hW.br j _ _ hj hg'
 have hgrow : grows s o.op = true → False := fun hgr => by rw [ho] at hgr; simp [grows, hx] at hgr
 by_cases hn : n = 0
 ·subst hn
  have el : l.take lo ++ (List.replicate 0 z ++ l.drop (lo + 0)) = l := by simp
  rw [el] at h
  have hset : s.ah.set j (.row sz α enc l) = s.ah := by
   refine List.ext_getElem? fun i => ?_
   rw [List.getElem?_set]
   split
   ·rename_i e; subst e; rw [hj, if_pos (List.getElem?_eq_some_iff.1 hj).1]
   ·rfl
  rw [hset] at h
  have hrun : (execOp a.eval o).run P w = .ok (.value (.tuple #[])) w := by
   unfold execOp; rw [ho]
   cases q <;> simp [resolve, invoke, builtin, hv, Builtin.clear_, run_underlying ht]
  have ex := hW.ext (γ' := []) (W := []) (fun q hq => by cases hq) (Keep.refl [] w.heap)
  rw [List.append_nil] at ex
  exact ⟨_, _, w, _, _, F, γ, ⟨.inl rfl, hrun⟩, Amb.of rfl rfl rfl, h, ⟨hW, ex⟩, trivial, fun hgr => (hgrow hgr).elim, fun ha => by rw [ho] at ha; cases ha⟩
 ·rcases hbr with ⟨p', he, hl0⟩ | ⟨bk, ob, cap', cur, et, css, he, h1, h2, h3, h4, h5, h6, h7⟩
  ·subst hl0; simp at hfit; omega
  ·obtain ⟨rfl, rfl, rfl⟩ : p = some ⟨bk, ob, none⟩ ∧ n0 = l.length ∧ cap = cap' + 1 := by simpa using he
   have hq := hq (by omega)
   simp only [Option.map_some] at hq
   subst hq
   obtain ⟨i, zv, zs, hi, hsz', hbyt, hzz, hzs, hzr⟩ := hT.info e de hde
   have hzl : zs.length = de.size := by have := (hzr F w.heap m0).length; rw [← this, hT.zl e de hde]
   have hzero : ∀ w, (zeroValue e).run P w = .ok zv w := fun w => by simp [zeroValue, hi, hzz]
   have hzn : RL F w.heap m0 (enc z) zs := by rw [hz]; exact hzr F w.heap m0
   have hel : (enc z).length = sz := by rw [hz, hT.zl e de hde, hsz]
   have hun := replicate_flat hzn n
   have hul : (List.replicate n zs).flatten.length = n * sz := by simp [hzl, hsz]
   obtain ⟨css', q1, q2, q3, q4, q5⟩ := row_seg (l2 := List.replicate n z) h5 h6 hfit (by simp) (fun x hx => by rw [(List.mem_replicate.1 hx).2]; exact hel) hun h7 (by simp; omega)
   rw [hul] at q4 q5
   have hrun := run_clear (P := P) (w := w) (off := ob + lo * sz) (size := sz) ho (by rw [hv, Addr.add_lit]) (by omega) ht hzero hzs (by rw [hzl, hsz]) (by omega) hzn.one h1 (by simpa using q4)
   have hob : obv (.row sz α enc l) (.slice (some ⟨bk, ob, none⟩) l.length (cap' + 1)) = [bk] := rfl
   have hK : Keep [bk] w.heap (w.setRow bk (cur.toList.take (ob + lo * sz) ++ (List.replicate n zs).flatten ++ cur.toList.drop (ob + lo * sz + n * sz)).toArray).heap := setRow_keep _ _ _
   have ex := hW.ext (γ' := []) (W := [bk]) (fun q hq => hW.nf j _ _ q hj hg' (by rw [hob]; exact hq)) hK
   rw [List.append_nil] at ex
   have hll : (l.take lo ++ (List.replicate n z ++ l.drop (lo + n))).length = l.length := by simp; omega
   refine ⟨_, _, _, _, _, F, γ, ⟨.inl rfl, hrun⟩, Amb.of rfl rfl rfl, h, ⟨hW.upd hj hg' (by rw [hob]; exact hK) (fun q hq => by rw [hob]; simpa [obv] using hq) (.inr ⟨bk, ob, cap', _, et, css', by rw [hll], setRow_heap w bk _ _ _ _ h1, by rw [hll]; exact h2, h3, ?_, q1.ext ex.m0, q3, q5⟩), ex⟩, trivial, fun hgr => (hgrow hgr).elim, fun ha => by rw [ho] at ha; cases ha⟩
   rw [List.size_toArray, List.length_append, List.length_append, hul, List.length_take, List.length_drop]
   simp only [Array.length_toList] at q4 ⊢
   omega
theorem d_append (hT : TabOk P tab) (hE : ER F w.heap ⟨E.B, γ⟩ s.env a) (hW : WR E F γ s.ah w.heap) {c : Call} (ho : o.op = .call c) (h : Y2 tab s (.call c) k) : Dn P s E F γ a w o k := by
 obtain ⟨cl, args, tys⟩ := c
 simp only [Y2] at h
 have args_eq : ∀ {l : List Operand}, args.toList = l → args = l.toArray := fun h => by rw [← h]
 have tys_eq : ∀ {l : List TypeId}, tys.toList = l → tys = l.toArray := fun h => by rw [← h]
 split at h
 ·rename_i x y t t2 hargs htys
  have hargs := args_eq hargs
  have htys := tys_eq htys
  subst hargs htys
  split at h
  ·rename_i d d2 ht ht2
   have hk := hT.kind t d ht
   have hk2 := hT.kind t2 d2 ht2
   split at h
   ·rename_i e hd
    rw [hd] at hk
    split at h
    ·rename_i _ _ _ de cx cy hde hx hy
     split at h
     ·rename_i _ _ bx by_ hbx hby
      obtain ⟨hc, xs, ys, hxs, hys, hfit, h⟩ := bguard h
      simp only [Bool.and_eq_true] at hc
      have hc2 := Nat.le_of_ble_eq_true hc.2
      have hdx : ∃ dx, P.underlying t2 = some dx ∧ ∀ k, dx ≠ .int k := by
       have hc1 := hc.1
       revert hk2 hc1
       cases d2.kind with
       | sl e => intro h1 _; exact ⟨_, h1, fun _ h => by cases h⟩
       | str => intro h1 _; exact ⟨_, h1, fun _ h => by cases h⟩
       | _ => intro _ h2; cases h2
      obtain ⟨dx, hu2, hnx⟩ := hdx
      obtain ⟨i, zv, zs, hi, hsz, hbyt, hz, hzs, hzr⟩ := hT.info e de hde
      have hone := hT.size hde
      obtain ⟨cs, hr, hrl, hrz, hkill, hty⟩ := base_sound hW (opn_c hE hx) hbx hxs
      obtain ⟨news, hsrc, hnl, hnz⟩ := src_sound (P := P) hW (opn_c hE hy) hby hys
      have hnlen := hnl.length
      rw [flat_length hnz] at hnlen
      have hle : xs.length + ys.length ≤ (xs.length + ys.length) * de.bytes := Nat.le_mul_of_pos_right _ hc2
      have hzc : zv.cells.size = de.size := by
       have := (hzr F w.heap m0).length
       rw [hzs, List.size_toArray, ← this, hT.zl e de hde]
      obtain ⟨v', w', hrun, hA, hr', hK, hbl, hty'⟩ := run_append (P := P) ho hk hu2 hnx hi hsz hz hzc rfl rfl hr hsrc hnl.one hnlen.symm (by rw [hbyt]; exact hfit) (by omega)
      have hcat : RL F w.heap m0 ((xs ++ ys).flatMap de.enc) (cs ++ news) := by rw [List.flatMap_append]; exact hrl.append hnl
      have hcz : ∀ x ∈ xs ++ ys, (de.enc x).length = de.size := fun x hx => (List.mem_append.1 hx).elim (hrz x) (hnz x)
      have hnew : ∀ {m : Md}, RL F w'.heap m0 ((xs ++ ys).flatMap de.enc) (cs ++ news) → BR F w'.heap m (newB s.ah cx e de.size de.α de.enc (xs ++ ys)) v' ∧ obv (newB s.ah cx e de.size de.α de.enc (xs ++ ys)) v' = obs v' := fun {m} hrl' => by
       have row : BR F w'.heap m (.row de.size de.α de.enc (xs ++ ys)) v' ∧ obv (.row de.size de.α de.enc (xs ++ ys)) v' = obs v' := ⟨g_row hr' (by simp) hrl' hcz, obv_row _⟩
       unfold newB
       split
       ·split
        ·rename_i j _ t _ _ _ _ hj
         cases hte : Nat.beq t e with
         | true =>
          obtain rfl := Nat.eq_of_beq_eq_true hte
          exact ⟨g_buf hr' (hty' (hty _ _ _ _ _ _ rfl hj)) (by simp) hrl' hcz, obv_buf _⟩
         | false => exact row
        ·exact row
       ·exact row
      refine ⟨_, v', w', _, _, F, γ ++ [v'], ⟨.inl rfl, hrun⟩, hA, h, ?_, ?_, fun hg => ?_, fun ha => ⟨hK.1, fun j0 cs0 ty0 v0 hj0 hg0 q hq => hK.2 q (obv_lt (hW.br j0 _ _ hj0 hg0) q hq) fun hin => ?_⟩⟩
      ·rcases hkill with ⟨hk1, hk2⟩ | ⟨j, b, g, hk1, hj, hg, hnb, hk2⟩
       ·rw [hk2] at hK
        have ex := hW.ext (W := []) (fun k hk => by cases hk) hK [v']
        rw [hk1]
        refine ⟨hW.push hK (fun q hq => ?_) (hnew (hcat.ext ex.m0)).1, ex⟩
        rw [(hnew (m := m0) (hcat.ext ex.m0)).2] at hq
        rcases hbl q hq with h1 | h1
        ·rw [hk2] at h1; cases h1
        ·exact h1
       ·have hK' : Keep (obv b g) w.heap w'.heap := hK.mono hk2
        have ex := hW.ext (fun q hq => hW.nf j b g q hj hg hq) hK' [v']
        rw [hk1]
        refine ⟨hW.move hj hg hK' (fun q hq => ?_) (hnew (hcat.ext ex.m0)).1, ex⟩
        rw [(hnew (m := m0) (hcat.ext ex.m0)).2] at hq
        exact (hbl q hq).imp (hk2 q) id
      ·obtain ⟨p, cap, hv'⟩ : ∃ p cap, v' = .slice p (xs.length + ys.length) cap := by
        rcases hr'.2 with ⟨p, h1, h2⟩ | ⟨g, off, cap, cur, et, h1, _⟩
        ·exact ⟨p, 0, by rw [h1, h2]⟩
        ·exact ⟨_, _, h1⟩
       rw [hv']
       exact .rw (getLast_append hW.len.symm) (fun _ => rfl) .nl
      ·rw [ho] at hg
       simp only [grows, hx] at hg
       have hnil : cx = .nil := by
        revert hg
        cases cx <;> first | (intro; rfl) | (intro h; cases h)
       subst hnil
       have hcx := opn_c hE hx
       generalize a.eval x = vx at hcx hK
       cases hcx
       exact hK
      ·rcases hkill with ⟨hk1, hk2⟩ | ⟨j, b, g, hk1, hj, hg, hnb, hk2⟩
       ·rw [hk2] at hin; cases hin
       ·by_cases e : j0 = j
        ·subst e; exact hnb _ _ hj0
        ·exact hW.disj j0 j _ _ _ _ e hj0 hg0 hj hg q hq (hk2 q hin)
     ·exact h.elim
    ·exact h.elim
   ·exact h.elim
  ·exact h.elim
 ·rename_i x t hargs htys
  have hargs := args_eq hargs
  have htys := tys_eq htys
  subst hargs htys
  split at h
  ·rename_i d ht
   have hk := hT.kind t d ht
   split at h
   ·rename_i e hd
    rw [hd] at hk
    split at h
    ·rename_i _ _ de sz j lo n hde hx
     split at h
     ·rename_i sz' α enc l hj
      obtain ⟨hc, z, hz, hfit, h⟩ := bguard h
      simp only [Bool.and_eq_true] at hc
      obtain rfl := Nat.eq_of_beq_eq_true hc.1
      exact d_clear hT hE hW ho hk hde hx hj (Nat.eq_of_beq_eq_true hc.2.1.1) (Nat.le_of_ble_eq_true hc.2.1.2) hc.2.2 hz hfit h
     ·exact h.elim
    ·exact h.elim
   ·exact h.elim
  ·exact h.elim
 ·exact h.elim
theorem WR.refresh {H H' : Heap} {ah : List B} (h : WR E F γ ah H) {b : Nat} (hb : E.own b ∨ E.H0.size ≤ b) (hF : F b) (hs : H'.size = H.size) (hc : ∀ o, cell H' b o = cell H b o) (hk : ∀ k, k ≠ b → H'[k]? = H[k]?) : WR E F γ ah H' ∧ Ext F H ⟨E.B, γ⟩ F H' ⟨E.B, γ⟩ := by
 have e : Ext F H ⟨E.B, γ⟩ F H' ⟨E.B, γ⟩ := ⟨fun _ h => h, fun b' o u _ hu => by
  by_cases hbb : b' = b
  ·subst hbb; rw [hc]; exact hu
  ·exact cell_of_get (hk b' hbb) hu, fun _ h => h, fun _ _ h => h⟩
 refine ⟨⟨h.len, fun j b' g hj hg => BR.ext e (fun k hk' => hk k (fun he => (h.nf j b' g k hj hg hk').1 (he ▸ hF))) (h.br j b' g hj hg), h.disj, h.nf, fun k hk' => by rw [hs]; exact h.fb k hk', h.bb, by rw [hs]; exact h.size, fun k h1 h2 => ?_, h.fmono, h.fnew, h.onew, h.pre⟩, e⟩
 have : k ≠ b := fun he => by subst he; exact hb.elim h2 (fun h3 => by omega)
 rw [hk k this]; exact h.keep k h1 h2
theorem d_convert_row (hT : TabOk P tab) (hE : ER F w.heap ⟨E.B, γ⟩ s.env a) (hW : WR E F γ s.ah w.heap) {t e : Nat} {x : Operand} {j : Nat} {α : Type} {enc : α → List C} {y : α} {l : List α} (ho : o.op = .convert t t x) (hx : opn s x = .c (.rw j)) (ht : P.underlying t = some (.slice e)) (he : P.underlying e = some (.int .u8))
  (hj : s.ah[j]? = some (.row 1 α enc (y :: l))) (h : k (s.ah.set j (.fro 1 α enc (y :: l))) (.c (.ls 1 α enc (y :: l)))) : Dn P s E F γ a w o k := by
 have hc := opn_c hE hx
 generalize hv : a.eval x = v at hc
 cases hc with
 | @rw _ _ p q n cap _ _ hg hqq _ =>
  have hg : γ[j]? = some (.slice p n cap) := hg
  obtain ⟨F', hF', hW', hls⟩ := hW.freeze hj
  have hls := hls _ hg
  rcases hW.br j _ _ hj hg with ⟨p', _, h0⟩ | ⟨kb, off, cap', cur, el, css, hgv, hcell, h2, h3, h4, h5, h6, h7⟩
  ·cases h0
  cases hgv
  have hq : q = some ⟨kb, off, none⟩ := hqq (by omega)
  subst hq
  have hkb : kb ∈ obv (.row 1 α enc (y :: l)) (.slice (some ⟨kb, off, none⟩) (y :: l).length (cap' + 1)) := by simp [obv]
  have hFk : F' kb := by
   cases hls with
   | ls hb _ _ _ _ _ _ => exact hb
  have hlt : kb < w.heap.size := (Array.getElem?_eq_some_iff.1 hcell).1
  let H' : Heap := w.heap.set kb (.cells cur el (cur.size, cur.size + 1))
  have hH' : w.heap.modify kb (fun | .cells c elem (lo, hi) => .cells c elem (if lo == hi then (cur.size, cur.size + 1) else (min lo cur.size, max hi (cur.size + 1))) | o => o) = H' := by
   apply Array.ext_getElem?
   intro i
   rw [Array.getElem?_modify, Array.getElem?_set hlt]
   split
   ·rename_i h; subst h; rw [hcell]; simp
   ·rfl
  obtain ⟨hW2, hext⟩ := hW'.refresh (H' := H') (hW.onew j _ _ kb hj hg hkb) hFk (by simp [H']) (fun o => by
   unfold cell
   rw [Array.getElem?_set hlt, if_pos rfl, hcell]) (fun i hi => by rw [Array.getElem?_set hlt, if_neg (fun h => hi h.symm)])
  refine ⟨_, .slice (some ⟨kb, off, none⟩) (y :: l).length (cap' + 1), w.freeze ⟨kb, cur.size, none⟩ 1, _, _, F', γ, ⟨.inl rfl, ?_⟩, Amb.of rfl rfl rfl, h, ?_, ?_, fun hg => by rw [ho] at hg; simp [grows, hx] at hg, fun ha => by rw [ho] at ha; cases ha⟩
  ·unfold execOp; rw [ho]
   have hs : w.shape? kb = some (el, cur.size) := by unfold World.shape?; rw [hcell]
   simp [hv, convert, run_underlying ht, run_underlying he, markStringish, hs]
  ·have hw : (w.freeze ⟨kb, cur.size, none⟩ 1).heap = H' := by
    unfold World.freeze
    rw [if_neg (by decide)]
    exact hH'
   rw [hw]
   exact ⟨hW2, ⟨fun k hk => hF' k hk, fun b o u hb hu => hext.h b o u (hb.imp (hF' b) id) hu, fun _ h => h, fun _ _ h => h⟩⟩
  ·have hw : (w.freeze ⟨kb, cur.size, none⟩ 1).heap = H' := by
    unfold World.freeze
    rw [if_neg (by decide)]
    exact hH'
   rw [hw]
   exact RL.up (hls.ext ⟨fun _ h => h, fun b o u hb hu => hext.h b o u (.inl (hb.elim id False.elim)) hu, fun _ h => h, fun _ _ h => h⟩)
theorem d_convert (hT : TabOk P tab) (hE : ER F w.heap ⟨E.B, γ⟩ s.env a) (hW : WR E F γ s.ah w.heap) {t u : Nat} {x : Operand} (ho : o.op = .convert t u x) (h : Y2 tab s (.convert t u x) k) : Dn P s E F γ a w o k := by
 simp only [Y2] at h
 split at h
 ·rename_i _ _ _ d d' l ht hu hx
  have hk := hT.kind t d ht
  have hk' := hT.kind u d' hu
  have hc := opn_c hE hx
  split at h
  ·rename_i e h1 h2
   rw [h1] at hk
   rw [h2] at hk'
   split at h
   ·rename_i de hde
    have hke := hT.kind e de hde
    split at h
    ·rename_i h3
     rw [h3] at hke
     generalize hv : a.eval x = v at hc
     cases hc with
     | str hl _ =>
      have hrun := run_bytes_of_string (P := P) w t u e ⟨l.toArray⟩ hk hk' hke
      have hsz : (⟨l.toArray⟩ : ByteArray).size = l.length := rfl
      rw [hsz] at hrun
      have hge := grownCap_ge w l.length 0 e
      have hcm := grownCap_le_maxLen w l.length 0 e (show l.length ≤ maxLen from hl)
      generalize grownCap w l.length 0 e = cap at hrun hge hcm
      generalize hB : Obj.cells (bytesRow ⟨l.toArray⟩ cap) e ((bytesRow ⟨l.toArray⟩ cap).size, (bytesRow ⟨l.toArray⟩ cap).size + 1) = ob at hrun
      have hKp : Keep [] w.heap (w.heap.push ob) := Keep.push [] _ _
      have ex := hW.ext (W := []) (γ' := []) (fun k hk => by cases hk) hKp
      rw [List.append_nil] at ex
      refine ⟨_, .slice (some ⟨w.heap.size, 0, none⟩) l.length cap, w.drew.alloc ob, _, _, fun q => F q ∨ q = w.heap.size, γ, ⟨.inl rfl, ?_⟩, Amb.of rfl rfl rfl, h, ⟨hW.frozenNew hKp (by simp), ⟨fun _ h => .inl h, ex.h, ex.b, ex.g⟩⟩, ?_, fun _ => hKp, fun ha => by rw [ho] at ha; cases ha⟩
      ·unfold execOp; rw [ho]
       simp [hv, NB.str, hrun]
      ·refine .ls (.inr rfl) hge hcm (flat_bytes l) (fun x hx => rfl) (fun j q hj => ?_) .nl
       show cell (w.heap.push ob) _ _ = _
       unfold cell
       have hjl : j < l.length := by
        have := (List.getElem?_eq_some_iff.1 hj).1
        simpa using this
       rw [← hB]
       simp only [Array.getElem?_push_size, Nat.zero_add]
       unfold bytesRow
       rw [Array.getElem?_append_left (by simpa using hjl)]
       rw [List.getElem?_map] at hj
       simp only [Array.getElem?_map, List.getElem?_toArray]
       exact hj
    ·exact h.elim
   ·exact h.elim
  ·exact h.elim
 ·rename_i _ _ _ d d' j ht hu hx
  have hk := hT.kind t d ht
  split at h
  ·rename_i e e' h1 h2
   rw [h1] at hk
   have hcc := bguard h
   clear h
   obtain ⟨hcc, h⟩ := hcc
   rw [Bool.and_eq_true] at hcc
   obtain rfl := Nat.eq_of_beq_eq_true hcc.2
   split at h
   ·rename_i de hde
    have hke := hT.kind e de hde
    split at h
    ·rename_i h3
     rw [h3] at hke
     split at h
     ·rename_i hj
      exact d_convert_row hT hE hW ho hx hk hke hj h
     ·exact h.elim
    ·exact h.elim
   ·exact h.elim
  ·exact h.elim
 ·exact h.elim
theorem Y2_sound (hT : TabOk P tab) (hE : ER F w.heap ⟨E.B, γ⟩ s.env a) (hW : WR E F γ s.ah w.heap) (h : Y2 tab s o.op k) : Dn P s E F γ a w o k := by
 generalize ho : o.op = op at h
 cases op with
 | alloc t => exact d_alloc hT hW ho h
 | box t x => exact d_box hE hW ho h
 | buildSlice t n parts => exact d_buildSlice hT hE hW ho h
 | makeSlice t x y => exact d_makeSlice hT hE hW ho h
 | store t x y => exact d_store hT hE hW ho h
 | convert t u x => exact d_convert hT hE hW ho h
 | call c => exact d_append hT hE hW ho h
 | _ => simp only [Y2] at h
end
end Go.AM
end
