/- part -/
import Derived.Test.YtpmjnbidmcnhnaaGreatDoorAm7
set_option linter.unusedVariables false
set_option linter.unusedSimpArgs false
section
namespace Go.AM
open Go Go.NB
section
variable {P : Program} {tab : Nat → Option TD} {E : En} {F : Nat → Prop} {γ : List Value} {s : St} {a : Act} {w : World} {o : Oper} {k : List B → A → Prop}
theorem step_push {ah : List B} (hW : WR E F γ ah w.heap) {ob : Obj} {b : B} {g : Value} (ho : ∀ k ∈ obv b g, w.heap.size ≤ k) (hb : BR F (w.heap.push ob) ⟨E.B, γ ++ [g]⟩ b g) :
  Step E F γ w.heap F (γ ++ [g]) (ah ++ [b]) (w.heap.push ob) :=
 ⟨hW.push (Keep.push [] _ _) ho hb, hW.ext (W := []) (fun k hk => by cases hk) (Keep.push [] _ _) [g]⟩
theorem Step.frz {ah : List B} {H H' : Heap} {F F1 F' : Nat → Prop} {γ' : List Value} (h1 : ∀ k, F k → F1 k) (h : Step E F1 γ H F' γ' ah H') : Step E F γ H F' γ' ah H' :=
 ⟨h.wr, ⟨fun k hk => h.ext.f k (h1 k hk), fun b o u hb hc => h.ext.h b o u (hb.imp (h1 b) id) hc, h.ext.b, h.ext.g⟩⟩
theorem getLast_append {α : Type _} {l : List α} {x : α} {n : Nat} (h : n = l.length) : (l ++ [x])[n]? = some x := by subst h; simp
theorem d_alloc (hT : TabOk P tab) (hW : WR E F γ s.ah w.heap) {t : Nat} (ho : o.op = .alloc t) (h : Y2 tab s (.alloc t) k) : Dn P s E F γ a w o k := by
 simp only [Y2] at h
 split at h
 ·rename_i d ht
  obtain ⟨z, zs, hz, hzs, hr⟩ := hT.zero ht
  refine ⟨_, .pointer (some ⟨w.heap.size, 0, none⟩), { w with heap := w.heap.push (.cells zs.toArray t (0, 0)) }, _, _, F, γ ++ [.pointer (some ⟨w.heap.size, 0, none⟩)], ⟨.inl rfl, ?_⟩, Amb.of rfl rfl rfl, h, step_push hW (fun k hk => by simp [obv] at hk; omega) ⟨_, t, zs, rfl, by simp, hr _ _ _⟩, ?_, fun _ => Keep.push _ _ _, fun ha => by rw [ho] at ha; cases ha⟩
  ·unfold execOp; rw [ho]
   simp [Instr.alloc, hz, newVar, newRow, hzs]
  ·exact .ptr (getLast_append hW.len.symm) .nl
 ·exact h.elim
theorem d_box (hE : ER F w.heap ⟨E.B, γ⟩ s.env a) (hW : WR E F γ s.ah w.heap) {t : Nat} {x : Operand} (ho : o.op = .box t x) (h : Y2 tab s (.box t x) k) : Dn P s E F γ a w o k := by
 simp only [Y2] at h
 split at h
 ·rename_i cs hx
  obtain ⟨vs, hv, hr⟩ := opn_cells hE hx
  have e := hW.ext (W := []) (fun k hk => by cases hk) (Keep.push [] w.heap (.cells vs.toArray t (0, 0))) [.pointer (some ⟨w.heap.size, 0, none⟩)]
  refine ⟨_, .pointer (some ⟨w.heap.size, 0, none⟩), { w with heap := w.heap.push (.cells vs.toArray t (0, 0)) }, _, _, F, γ ++ [.pointer (some ⟨w.heap.size, 0, none⟩)], ⟨.inl rfl, ?_⟩, Amb.of rfl rfl rfl, h, step_push hW (fun k hk => by simp [obv] at hk; omega) ⟨_, t, vs, rfl, by simp, hr.ext e⟩, ?_, fun _ => Keep.push _ _ _, fun ha => by rw [ho] at ha; cases ha⟩
  ·unfold execOp; rw [ho]
   simp [Instr.box, newVar, newRow, hv]
  ·exact .ptr (getLast_append hW.len.symm) .nl
 ·exact h.elim
theorem partsC_sound {H : Heap} {m : Md} (hE : ER F H m s.env a) : ∀ {l : List (Nat × Operand)} {i : Nat} {css : List (List C)}, partsC s i l = some css →
  ∃ vs : List Value, l.map (fun p => (p.1, a.eval p.2)) = (vs.zipIdx i).map (fun x => (x.2, x.1)) ∧ RLL F H m css (vs.map fun v => v.cells.toList)
 | [], i, css, h => by cases h; exact ⟨[], rfl, .nil⟩
 | (j, x) :: l, i, css, h => by
  unfold partsC at h
  by_cases hij : Nat.beq i j = true
  ·rw [hij] at h
   obtain rfl := Nat.eq_of_beq_eq_true hij
   simp only [cond_true] at h
   split at h
   ·rename_i cs r hx hr
    cases h
    obtain ⟨vs, h1, h2⟩ := partsC_sound hE hr
    obtain ⟨us, h3, h4⟩ := opn_cells hE hx
    refine ⟨a.eval x :: vs, by simp [h1], ?_⟩
    rw [List.map_cons]
    exact .cons (by rw [h3]; exact h4) h2
   ·cases h
  ·rw [Bool.not_eq_true] at hij; rw [hij] at h; cases h
theorem RLL.flat {H : Heap} {m : Md} {css : List (List C)} {vss : List (List Value)} (h : RLL F H m css vss) : RL F H m css.flatten vss.flatten := by
 induction h with
 | nil => exact .nl
 | cons h1 _ ih => simp only [List.flatten_cons]; exact h1.append ih
theorem RLL.len {H : Heap} {m : Md} {css : List (List C)} {vss : List (List Value)} (h : RLL F H m css vss) : css.length = vss.length ∧ ∀ (i : Nat) (cs : List C) (vs : List Value), css[i]? = some cs → vss[i]? = some vs → cs.length = vs.length := by
 induction h with
 | nil => exact ⟨rfl, fun i cs vs h => by simp at h⟩
 | cons h1 _ ih =>
  refine ⟨by simp [ih.1], fun i cs vs hc hv => ?_⟩
  cases i with
  | zero => cases hc; cases hv; exact h1.length
  | succ i => exact ih.2 i cs vs (by simpa using hc) (by simpa using hv)
theorem run_buildSlice {t e n size : Nat} {parts : Array (Nat × Value)} {vs : List Value} {z : Value} (ht : P.underlying t = some (.slice e)) (hz : ∀ w, (sizeOf e).run P w = .ok size w) (hzero : ∀ w, (zeroValue e).run P w = .ok z w)
  (hp : parts.toList = (vs.zipIdx 0).map (fun x => (x.2, x.1))) (hn : vs.length = n) (hsm : n * size ≤ 16777216) (hv : ∀ v ∈ vs, v.cells.size = size) (w : World) :
  (Instr.buildSlice t n parts).run P w = .ok (.slice (some ⟨w.heap.size, 0, none⟩) n n) { w with heap := w.heap.push (.cells (vs.map fun v => v.cells.toList).flatten.toArray e (0, 0)) } := by
 have hbig : ¬ 16777216 < n * size := by omega
 have hfill := fun (cur : Array Value) (hc : cur.size = n * size) => fill_all size vs 0 cur hv (by rw [hc]; simp [hn])
 by_cases h0 : n * size = 0
 ·have := hfill (Array.map (fun _ => default) (Array.range 0)) (by simp [h0])
  rw [← hp] at this
  simp [Instr.buildSlice, run_underlying ht, hz, h0, newRow]
  simp at this
  rw [this]
  have e0 : (Array.map (fun _ => (default : Value)) (Array.range 0)).toList = [] := by rw [Array.range_zero']; simp
  simp
 ·have := hfill ((Array.range (n * size)).map (fun x => z.cells[x % z.cells.size]!)) (by simp)
  rw [← hp] at this
  simp [Instr.buildSlice, run_underlying ht, hz, hbig, h0, hzero, newRow]
  simp at this
  rw [this]
  simp only [hn]
  rw [List.drop_eq_nil_of_le (by simp), List.append_nil]
  rfl
theorem enc_map {α : Type} {enc : α → List C} {xs : List α} : (xs.map enc).flatten = xs.flatMap enc := by
 rw [List.flatMap_def]
theorem closed_append : ∀ {a b : List C}, closedB a = true → closedB b = true → closedB (a ++ b) = true
 | [], b, _, hb => hb
 | c :: a, b, ha, hb => by
  simp only [closedB, List.cons_append, Bool.and_eq_true] at ha ⊢
  exact ⟨ha.1, closed_append ha.2 hb⟩
theorem closed_flatten : ∀ {css : List (List C)}, (∀ cs ∈ css, closedB cs = true) → closedB css.flatten = true
 | [], _ => rfl
 | cs :: r, h => closed_append (h cs (by simp)) (closed_flatten fun x hx => h x (by simp [hx]))
theorem d_buildSlice (hT : TabOk P tab) (hE : ER F w.heap ⟨E.B, γ⟩ s.env a) (hW : WR E F γ s.ah w.heap) {t n : Nat} {parts : Array (Nat × Operand)} (ho : o.op = .buildSlice t n parts) (h : Y2 tab s (.buildSlice t n parts) k) : Dn P s E F γ a w o k := by
 simp only [Y2] at h
 split at h
 ·rename_i d ht
  have hk := hT.kind t d ht
  split at h
  ·rename_i e hd
   rw [hd] at hk
   split at h
   ·rename_i _ _ de css hde hp
    obtain ⟨vs, hvs, hr⟩ := partsC_sound hE hp
    obtain ⟨F1, hF1, hW1, hr1, hl1⟩ := fzs_sound hW hr
    generalize hfz : fzs s.ah css = fr at h hW1 hr1 hl1
    obtain ⟨ah1, css1⟩ := fr
    simp only [] at h hW1 hr1 hl1
    obtain ⟨hc, xs, hxs, h⟩ := bguard h
    simp only [Bool.and_eq_true, List.all_eq_true] at hc
    obtain ⟨⟨⟨hc0, hc1⟩, hc2⟩, hc3⟩ := hc
    have hc0 := Nat.le_of_ble_eq_true hc0
    have hc1 := Nat.eq_of_beq_eq_true hc1
    have hc2 := Nat.le_of_ble_eq_true hc2
    have hsz := hT.size hde
    obtain ⟨z, zs, hz, _, _⟩ := hT.zero hde
    have hlen := hr1.len
    have hvl : vs.length = n := by have := hlen.1; rw [List.length_map] at this; omega
    have hvc : ∀ v ∈ vs, v.cells.size = de.size := fun v hv => by
     obtain ⟨i, hi, rfl⟩ := List.getElem_of_mem hv
     have hi' : i < css1.length := by rw [hc1]; omega
     have h1 := hlen.2 i css1[i] (vs[i].cells.toList) (List.getElem?_eq_getElem hi') (by simp [List.getElem?_eq_getElem hi])
     have h2 := Nat.eq_of_beq_eq_true (hc3 _ (List.getElem_mem hi')).2
     rw [h2] at h1
     simpa using h1.symm
    have hcl : closedB (xs.flatMap de.enc) = true := by
     rw [← enc_map, hxs]
     exact closed_flatten fun cs hcs => (hc3 cs hcs).1
    have hflat : RL F1 w.heap m0 (xs.flatMap de.enc) (vs.map fun v => v.cells.toList).flatten := by
     have := hr1.flat
     rw [← hxs, enc_map] at this
     exact closed_up this hcl
    have hxl : xs.length = n := by rw [← hc1, ← hxs, List.length_map]
    have hne : ∀ x ∈ xs, (de.enc x).length = de.size := fun x hx => by
     have := (hc3 (de.enc x) (by rw [← hxs]; exact List.mem_map.2 ⟨x, hx, rfl⟩)).2
     exact Nat.eq_of_beq_eq_true this
    have hfl := hflat.length
    rw [flat_length hne, hxl] at hfl
    have hnm : n ≤ maxLen := by
     have : n * 1 ≤ n * de.size := Nat.mul_le_mul_left _ hc0
     unfold maxLen; omega
    have hpl : (parts.map fun x => match x with | (i, x) => (i, a.eval x)).toList = (vs.zipIdx 0).map (fun x => (x.2, x.1)) := by
     rw [Array.toList_map]; exact hvs
    have hrun := run_buildSlice hk hsz hz hpl hvl hc2 hvc w
    generalize (vs.map fun v => v.cells.toList).flatten = ws at hrun hflat hfl
    have ex := hW1.ext (W := []) (fun k hk => by cases hk) (Keep.push [] w.heap (.cells ws.toArray e (0, 0))) [.slice (some ⟨w.heap.size, 0, none⟩) n n]
    have hbr : BR F1 (w.heap.push (.cells ws.toArray e (0, 0))) ⟨E.B, γ ++ [.slice (some ⟨w.heap.size, 0, none⟩) n n]⟩ (.row de.size de.α de.enc xs) (.slice (some ⟨w.heap.size, 0, none⟩) n n) := by
     cases n with
     | zero => exact .inl ⟨_, rfl, List.eq_nil_of_length_eq_zero hxl⟩
     | succ n =>
     refine .inr ⟨w.heap.size, 0, n, ws.toArray, e, ws, by rw [hxl], by simp, by omega, hnm, ?_, hflat.ext ex.m0, hne, ?_⟩
     ·rw [Nat.zero_add, hfl]; exact Nat.le_refl _
     ·show (ws.drop 0).take ws.length = ws
      rw [List.drop_zero, List.take_length]
    refine ⟨_, .slice (some ⟨w.heap.size, 0, none⟩) n n, { w with heap := w.heap.push (.cells ws.toArray e (0, 0)) }, _, _, F1, γ ++ [.slice (some ⟨w.heap.size, 0, none⟩) n n], ⟨.inl rfl, ?_⟩, Amb.of rfl rfl rfl, h,
     Step.frz hF1 (step_push hW1 (fun k hk => by cases n <;> simp [obv] at hk; omega) hbr), ?_, fun _ => Keep.push _ _ _, fun ha => by rw [ho] at ha; cases ha⟩
    ·unfold execOp; rw [ho]
     simp [hrun]
    ·exact .rw (getLast_append (by rw [hl1]; exact hW.len.symm)) (fun _ => rfl) .nl
   ·exact h.elim
  ·exact h.elim
 ·exact h.elim
theorem zeros_flat {zs : List Value} {size : Nat} (hzl : zs.length = size) (hpos : 0 < size) (n : Nat) :
  ((Array.range (n * size)).map (fun j => zs.toArray[j % zs.toArray.size]!)).toList = (List.replicate n zs).flatten := by
 have key : ∀ (n j : Nat) (h : j < n * size), ((List.replicate n zs).flatten)[j]? = zs[j % size]? := by
  intro n
  induction n with
  | zero => intro j h; simp at h
  | succ n ih =>
   intro j h
   rw [List.replicate_succ, List.flatten_cons]
   by_cases hjl : j < zs.length
   ·rw [List.getElem?_append_left hjl, Nat.mod_eq_of_lt (by omega)]
   ·rw [List.getElem?_append_right (by omega), hzl, ih _ (by rw [Nat.succ_mul] at h; omega)]
    congr 1
    rw [Nat.mod_eq_sub_mod (show j ≥ size by omega)]
 refine List.ext_getElem? fun j => ?_
 by_cases hj : j < n * size
 ·have hm : j % size < zs.length := by rw [hzl]; exact Nat.mod_lt _ hpos
  rw [key n j hj, List.getElem?_eq_getElem hm]
  simp [hj, hzl]
  rw [List.getElem?_eq_getElem hm]
  rfl
 ·rw [List.getElem?_eq_none (by simp; omega), List.getElem?_eq_none (by simp [hzl]; omega)]
theorem run_makeSlice {t e : TypeId} {i : TypeInfo} {z : Value} {size n : Nat} {zs : List Value} (ht : P.underlying t = some (.slice e)) (hi : ∀ w, (typeInfo e).run P w = .ok i w) (hsz : i.size = size) (hz : i.zero = some z) (hzs : z.cells = zs.toArray) (hzl : zs.length = size) (hpos : 0 < size)
  (hfit : (n : Int) * i.bytes ≤ 140737488355328) (hsm : (n : Int) ≤ 9223372036854775807) (w : World) :
  (Instr.makeSlice t (.int .i64 n) (.int .i64 n)).run P w = .ok (.slice (some ⟨w.heap.size, 0, none⟩) n n) { w with heap := w.heap.push (.cells (List.replicate n zs).flatten.toArray e (0, 0)) } := by
 have hsizeOf : ∀ w, (sizeOf e).run P w = .ok size w := fun w => by simp [sizeOf, hi, hsz]
 have hzero : ∀ w, (zeroValue e).run P w = .ok z w := fun w => by simp [zeroValue, hi, hz]
 have hwrap : IntKind.i64.wrap (n : Int) = n := IntWalk.i64_in _ (by omega)
 have h1 : ¬ (n : Int) < 0 := by omega
 have h2 : ¬ (281474976710656 : Int) < i.bytes * n := by rw [Int.mul_comm]; omega
 by_cases h0 : n * size = 0
 ·have hn0 : n = 0 := by rcases Nat.mul_eq_zero.1 h0 with h | h <;> omega
  have hw0 : IntKind.i64.wrap 0 = 0 := IntWalk.i64_in _ (by omega)
  subst hn0
  simp [Instr.makeSlice, run_underlying ht, Go.asInt, asIntOf, hi, hw0, hsizeOf, newRow]
  rw [Array.range_zero']
  simp
 ·have := zeros_flat hzl hpos n
  simp [Instr.makeSlice, run_underlying ht, Go.asInt, asIntOf, hi, hwrap, h1, h2, hsizeOf, h0, hzero, newRow]
  rw [← this, Array.toArray_toList, hzs]
theorem replicate_flat {α : Type} {enc : α → List C} {z : α} {zs : List Value} {F : Nat → Prop} {H : Heap} {m : Md} (h : RL F H m (enc z) zs) : ∀ n, RL F H m ((List.replicate n z).flatMap enc) (List.replicate n zs).flatten
 | 0 => .nl
 | n + 1 => by rw [List.replicate_succ, List.flatMap_cons, List.replicate_succ, List.flatten_cons]; exact h.append (replicate_flat h n)
theorem RL.of_nl {F : Nat → Prop} {H : Heap} {m : Md} : ∀ {cs : List C} {vs : List Value}, RL F H m (cs.map nlC) vs → RL F H m cs vs
 | [], vs, h => h
 | c :: cs, vs, h => by
  rw [List.map_cons] at h
  obtain ⟨v, us, rfl, h1, h2⟩ := h.uncons
  refine RL.cons ?_ (RL.of_nl h2)
  unfold nlC at h1
  split at h1
  ·cases h1 with
   | nil t => cases t; exact .ls0 .nl
  ·exact h1
theorem d_makeSlice (hT : TabOk P tab) (hE : ER F w.heap ⟨E.B, γ⟩ s.env a) (hW : WR E F γ s.ah w.heap) {t : Nat} {x y : Operand} (ho : o.op = .makeSlice t x y) (h : Y2 tab s (.makeSlice t x y) k) : Dn P s E F γ a w o k := by
 simp only [Y2] at h
 split at h
 ·rename_i d ht
  have hk := hT.kind t d ht
  split at h
  ·rename_i e hd
   rw [hd] at hk
   split at h
   ·rename_i _ _ _ de p q hde hx hy
    obtain ⟨hc, n, z, ⟨rfl, rfl⟩, hez, hfit, h⟩ := bguard h
    simp only [Bool.and_eq_true] at hc
    obtain ⟨⟨⟨hc1, hc2⟩, hc3⟩, hc4⟩ := hc
    have hc2 := Nat.eq_of_beq_eq_true hc2
    have hc3 := Nat.le_of_ble_eq_true hc3
    have hc4 := Nat.le_of_ble_eq_true hc4
    obtain ⟨i, zv, zs, hi, hsz, hby, hz, hzs, hr⟩ := hT.info e de hde
    have hzl : zs.length = de.size := by rw [← (hr F w.heap m0).length]; exact hc2
    have hvx := opn_c hE hx
    have hvy := opn_c hE hy
    generalize hv : a.eval x = v at hvx
    generalize hv' : a.eval y = v' at hvy
    cases hvx; cases hvy
    have hib : (n : Int) * i.bytes ≤ 140737488355328 := by rw [hby, ← Int.natCast_mul]; omega
    have hnb : n ≤ n * de.bytes := Nat.le_mul_of_pos_right _ hc4
    have hnm : n ≤ maxLen := by unfold maxLen; omega
    have hrun := run_makeSlice (P := P) (n := n) hk hi hsz hz hzs hzl hc3 hib (by omega) w
    have hflat : RL F w.heap m0 ((List.replicate n z).flatMap de.enc) (List.replicate n zs).flatten := replicate_flat (RL.of_nl (by rw [hez]; exact hr _ _ _)) n
    have hne : ∀ x ∈ List.replicate n z, (de.enc x).length = de.size := fun x hx => by rw [(List.mem_replicate.1 hx).2, ← List.length_map (as := de.enc z) nlC, hez]; exact hc2
    have hfl := hflat.length
    rw [flat_length hne, List.length_replicate] at hfl
    generalize (List.replicate n zs).flatten = ws at hrun hflat hfl
    have ex := hW.ext (W := []) (fun k hk => by cases hk) (Keep.push [] w.heap (.cells ws.toArray e (0, 0))) [.slice (some ⟨w.heap.size, 0, none⟩) n n]
    have hbr : BR F (w.heap.push (.cells ws.toArray e (0, 0))) ⟨E.B, γ ++ [.slice (some ⟨w.heap.size, 0, none⟩) n n]⟩ (.row de.size de.α de.enc (List.replicate n z)) (.slice (some ⟨w.heap.size, 0, none⟩) n n) := by
     cases n with
     | zero => exact .inl ⟨_, rfl, rfl⟩
     | succ n =>
     refine .inr ⟨w.heap.size, 0, n, ws.toArray, e, ws, by rw [List.length_replicate], by simp, by simp, hnm, ?_, hflat.ext ex.m0, hne, ?_⟩
     ·rw [Nat.zero_add, hfl]; exact Nat.le_refl _
     ·show (ws.drop 0).take ws.length = ws
      rw [List.drop_zero, List.take_length]
    refine ⟨_, .slice (some ⟨w.heap.size, 0, none⟩) n n, { w with heap := w.heap.push (.cells ws.toArray e (0, 0)) }, _, _, F, γ ++ [.slice (some ⟨w.heap.size, 0, none⟩) n n], ⟨.inl rfl, ?_⟩, Amb.of rfl rfl rfl, h,
     step_push hW (fun k hk => by cases n <;> simp [obv] at hk; omega) hbr, ?_, fun _ => Keep.push _ _ _, fun ha => by rw [ho] at ha; cases ha⟩
    ·unfold execOp; rw [ho]
     simp [hv, hv', hrun]
    ·exact .rw (getLast_append hW.len.symm) (fun _ => rfl) .nl
   ·exact h.elim
  ·exact h.elim
 ·exact h.elim
end
end Go.AM
end
/- part -/
section
namespace Go.AM
open Go Go.NB
section
variable {P : Program} {tab : Nat → Option TD} {E : En} {F : Nat → Prop} {γ : List Value} {s : St} {a : Act} {w : World} {o : Oper} {k : List B → A → Prop}
theorem run_store {t : TypeId} {x y : Operand} {g off : Nat} {us : List Value} {cur : Array Value} {e : TypeId} (ho : o.op = .store t x y) (hx : a.eval x = .pointer (some ⟨g, off, none⟩)) (hy : (a.eval y).cells = us.toArray)
  (hz : ∀ w, (sizeOf t).run P w = .ok us.length w) (hone : ∀ u ∈ us, u.oneCell' = true) (hg : w.heap[g]? = some (.cells cur e (0, 0))) (hfit : off + us.length ≤ cur.size) :
  (execOp a.eval o).run P w = .ok .skip (w.setRow g (cur.toList.take off ++ us ++ cur.toList.drop (off + us.length)).toArray) := by
 have hs := run_storeCells_at P g off e us 0 cur w hg (by simpa using hfit) hone
 simp only [Nat.add_zero] at hs
 unfold execOp; rw [ho]
 simp [hx, Instr.storeAt, Instr.sureAddr, storeVar, hy, hz, hs]
theorem row_put {α : Type} {enc : α → List C} {l : List α} {i sz o : Nat} {x x' : α} {new : List C} {css us : List Value} {cur : List Value} {off : Nat} {F : Nat → Prop} {H : Heap} {m : Md}
  (hr : RL F H m (l.flatMap enc) css) (hz : ∀ x ∈ l, (enc x).length = sz) (hi : l[i]? = some x) (ho : o + new.length ≤ sz) (he : enc x' = (enc x).take o ++ new ++ (enc x).drop (o + new.length)) (hu : RL F H m new us)
  (hc : (cur.drop off).take css.length = css) (hoff : off ≤ cur.length) :
  ∃ css', RL F H m ((l.set i x').flatMap enc) css' ∧ css'.length = css.length ∧ (∀ x ∈ l.set i x', (enc x).length = sz) ∧ off + i * sz + o + us.length ≤ cur.length ∧
   ((cur.take (off + i * sz + o) ++ us ++ cur.drop (off + i * sz + o + us.length)).drop off).take css'.length = css' := by
 obtain ⟨hlt, rfl⟩ := List.getElem?_eq_some_iff.1 hi
 have hlu := hu.length
 have hx := hz l[i] (List.getElem_mem hlt)
 have hl : l = l.take i ++ l[i] :: l.drop (i + 1) := by rw [← List.drop_eq_getElem_cons hlt, List.take_append_drop]
 have hpre : ((l.take i).flatMap enc).length = i * sz := by
  rw [flat_length (fun y hy => hz y (List.mem_of_mem_take hy)), List.length_take]
  rw [Nat.min_eq_left (by omega)]
 have h1 : l.flatMap enc = (l.take i).flatMap enc ++ (enc l[i] ++ (l.drop (i + 1)).flatMap enc) := by
  conv => lhs; rw [hl]
  rw [List.flatMap_append, List.flatMap_cons]
 have h2 : (l.set i x').flatMap enc = (l.take i).flatMap enc ++ (enc x' ++ (l.drop (i + 1)).flatMap enc) := by
  rw [List.set_eq_take_append_cons_drop, if_pos hlt, List.flatMap_append, List.flatMap_cons]
 rw [h1] at hr
 obtain ⟨c1, cr, rfl, r1, r2⟩ := hr.split
 obtain ⟨c2, c3, rfl, r3, r4⟩ := r2.split
 have l1 := r1.length
 have l2 := r3.length
 rw [hpre] at l1
 rw [hx] at l2
 have hre : RL F H m (enc x') (c2.take o ++ us ++ c2.drop (o + us.length)) := by
  rw [he, hlu.symm]
  exact ((r3.take _).append hu).append (by rw [hlu]; exact r3.drop _)
 have hel : (enc x').length = sz := by rw [he]; simp [hx]; omega
 have hcl : (c1 ++ (c2 ++ c3)).length ≤ cur.length - off := by
  have := congrArg List.length hc
  rw [List.length_take, List.length_drop] at this
  omega
 ·obtain ⟨Z, hZ⟩ : ∃ Z, cur.drop off = (c1 ++ (c2 ++ c3)) ++ Z := ⟨(cur.drop off).drop (c1 ++ (c2 ++ c3)).length, by
   conv => rhs; arg 1; rw [← hc]
   rw [List.take_append_drop]⟩
  have hA : cur = cur.take off ++ ((c1 ++ (c2 ++ c3)) ++ Z) := by rw [← hZ, List.take_append_drop]
  generalize hAA : cur.take off = A0 at hA
  have hAl : A0.length = off := by rw [← hAA, List.length_take]; omega
  refine ⟨c1 ++ ((c2.take o ++ us ++ c2.drop (o + us.length)) ++ c3), by rw [h2]; exact r1.append (hre.append r4), by simp; omega, fun y hy => ?_, ?_, ?_⟩
  ·rw [List.mem_iff_getElem?] at hy
   obtain ⟨j, hj⟩ := hy
   rcases get_set hj with ⟨_, h⟩ | ⟨_, _, rfl⟩
   ·exact hz y (List.mem_of_getElem? h)
   ·exact hel
  ·rw [hA]; simp; omega
  ·have e1 : cur = (A0 ++ (c1 ++ c2.take o)) ++ (((c2.drop o).take us.length) ++ (c2.drop (o + us.length) ++ (c3 ++ Z))) := by
    have e2 : c2 = c2.take o ++ ((c2.drop o).take us.length ++ c2.drop (o + us.length)) := by
     rw [← List.drop_drop, List.take_append_drop, List.take_append_drop]
    conv => lhs; rw [hA, e2]
    simp [List.append_assoc]
   have t1 : cur.take (off + i * sz + o) = A0 ++ (c1 ++ c2.take o) := by
    rw [e1]; exact List.take_left' (by simp; omega)
   have t2 : cur.drop (off + i * sz + o + us.length) = c2.drop (o + us.length) ++ (c3 ++ Z) := by
    rw [e1, ← List.append_assoc, List.drop_left' (by simp; omega)]
   rw [t1, t2]
   have e3 : A0 ++ (c1 ++ c2.take o) ++ us ++ (c2.drop (o + us.length) ++ (c3 ++ Z)) = A0 ++ ((c1 ++ ((c2.take o ++ us ++ c2.drop (o + us.length)) ++ c3)) ++ Z) := by simp [List.append_assoc]
   rw [e3, List.drop_left' hAl, List.take_left]
theorem d_store (hT : TabOk P tab) (hE : ER F w.heap ⟨E.B, γ⟩ s.env a) (hW : WR E F γ s.ah w.heap) {t : Nat} {x y : Operand} (ho : o.op = .store t x y) (h : Y2 tab s (.store t x y) k) : Dn P s E F γ a w o k := by
 simp only [Y2] at h
 split at h
 ·rename_i _ _ _ d j off new ht hx hy
  split at h
  ·rename_i cs hb
   obtain ⟨hc, h⟩ := bguard h
   simp only [Bool.and_eq_true] at hc
   have hc1 := Nat.eq_of_beq_eq_true hc.1
   have hc2 := Nat.le_of_ble_eq_true hc.2
   have hcx := opn_c hE hx
   obtain ⟨us, hu, hru⟩ := opn_cells hE hy
   have hlu := hru.length
   generalize hv : a.eval x = v at hcx
   cases hcx with
   | @ptr _ _ _ bk _ _ hg _ =>
    have hg' : γ[j]? = some _ := hg
    have hbr := hW.br j _ _ hb hg'
    obtain ⟨kk, e, vs, he, h1, h2⟩ := hbr
    obtain rfl : bk = kk := by simpa using he
    have hlv := h2.length
    have hrun := run_store (P := P) ho hv hu (fun w => by rw [← hlu, hc1]; exact hT.size ht w) hru.one h1 (by simp; omega)
    have hK : Keep [bk] w.heap (w.setRow bk (vs.take off ++ us ++ vs.drop (off + us.length)).toArray).heap := setRow_keep _ _ _
    have hob : obv (.box cs) (.pointer (some ⟨bk, 0, none⟩)) = [bk] := rfl
    have ex := hW.ext (γ' := []) (W := [bk]) (fun q hq => hW.nf j _ _ q hb hg' (by rw [hob]; exact hq)) hK
    rw [List.append_nil] at ex
    refine ⟨_, undef, _, _, _, F, γ, ⟨.inr ⟨rfl, rfl⟩, hrun⟩, Amb.of rfl rfl rfl, h, ⟨hW.upd hb hg' (by rw [hob]; exact hK) (fun q hq => hq) ⟨bk, e, _, rfl, setRow_heap w bk _ _ _ _ h1, ?_⟩, ex⟩, trivial, fun hgr => by rw [ho] at hgr; simp [grows] at hgr, fun ha => by rw [ho] at ha; cases ha⟩
    have h2' := h2.ext ex
    have hru' := hru.ext ex
    show RL F _ _ _ (vs.toArray.toList.take off ++ us ++ vs.toArray.toList.drop (off + us.length))
    have := ((h2'.take off).append hru').append (h2'.drop (off + new.length))
    rw [hlu] at this
    rw [hlu]
    exact this
  ·exact h.elim
 ·rename_i _ _ _ d sz j i off new ht hx hy
  obtain ⟨us, hu, hru⟩ := opn_cells hE hy
  obtain ⟨F1, hF1, hW1, hru1, hl1⟩ := fz_sound hW hru
  generalize hfz : fz s.ah new = fr at h hW1 hru1 hl1
  obtain ⟨ah1, new1⟩ := fr
  simp only [] at h hW1 hru1 hl1
  split at h
  ·rename_i sz' α enc l hb
   obtain ⟨hc, x1, x2, hi, ⟨hfit, henc⟩, h⟩ := bguard h
   simp only [Bool.and_eq_true] at hc
   obtain ⟨⟨hc1, hc2⟩, hc3⟩ := hc
   have hc1 := Nat.eq_of_beq_eq_true hc1
   obtain rfl := Nat.eq_of_beq_eq_true hc2
   have hru0 := closed_up (m' := m0) hru1 hc3
   have hlu := hru0.length
   have hcx := opn_c hE hx
   generalize hv : a.eval x = v at hcx
   cases hcx with
   | @ep _ _ _ _ _ bk ob n0 cap0 _ _ hg _ =>
    have hg' : γ[j]? = some _ := hg
    have hbr := hW1.br j _ _ hb hg'
    rcases hbr with ⟨p, he, hl0⟩ | ⟨kk, ob', cap, cur, e, css, he, h1, h2, h3, h4, h5, h6, h7⟩
    ·subst hl0; simp at hi
    ·have hbk : bk = kk ∧ ob = ob' := by simp at he; exact he.1
     obtain ⟨rfl, rfl⟩ := hbk
     rw [he] at hg hg'
     obtain ⟨css', q1, q2, q3, q4, q5⟩ := row_put h5 h6 hi hfit henc hru0 h7 (by simp; omega)
     have hrun := run_store (P := P) ho hv hu (fun w => by rw [← hlu, hc1]; exact hT.size ht w) hru.one h1 (by simpa using q4)
     have hob : obv (.row sz α enc l) (.slice (some ⟨bk, ob, none⟩) l.length (cap + 1)) = [bk] := rfl
     have hK : Keep [bk] w.heap (w.setRow bk (cur.toList.take (ob + i * sz + off) ++ us ++ cur.toList.drop (ob + i * sz + off + us.length)).toArray).heap := setRow_keep _ _ _
     have ex := hW1.ext (γ' := []) (W := [bk]) (fun q hq => hW1.nf j _ _ q hb hg' (by rw [hob]; exact hq)) hK
     rw [List.append_nil] at ex
     refine ⟨_, undef, _, _, _, F1, γ, ⟨.inr ⟨rfl, rfl⟩, hrun⟩, Amb.of rfl rfl rfl, h, Step.frz hF1 ⟨hW1.upd hb hg' (by rw [hob]; exact hK) (fun q hq => by rw [hob]; simpa [obv] using hq) (.inr ⟨bk, ob, cap, _, e, css', by rw [List.length_set], setRow_heap w bk _ _ _ _ h1, by rw [List.length_set]; exact h2, h3, ?_, q1.ext ex.m0, q3, q5⟩), ex⟩, trivial, fun hgr => by rw [ho] at hgr; simp [grows] at hgr, fun ha => by rw [ho] at ha; cases ha⟩
     simp at q4 ⊢
     omega
  ·exact h.elim
 ·exact h.elim
def RowG (H : Heap) (sz : Nat) (v : Value) (n : Nat) (cs : List Value) : Prop :=
 cs.length = n * sz ∧ ((∃ p, v = .slice p 0 0 ∧ n = 0) ∨ ∃ g off cap cur e, v = .slice (some ⟨g, off, none⟩) n (cap + 1) ∧ H[g]? = some (.cells cur e (0, 0)) ∧ n ≤ cap + 1 ∧ cap + 1 ≤ maxLen ∧ off + (cap + 1) * sz ≤ cur.size ∧ (cur.toList.drop off).take (n * sz) = cs)
def obs : Value → List Nat
 | .slice (some a) _ (_ + 1) => [a.block]
 | _ => []
theorem RowG.src {H : Heap} {sz n : Nat} {v : Value} {cs : List Value} (h : RowG H sz v n cs) : Src P H sz v n cs := fun w hw => by
 rcases h.2 with ⟨p, rfl, rfl⟩ | ⟨g, off, cap, cur, e, rfl, hg, h1, h2, h3, h4⟩
 ·have : cs = [] := List.eq_nil_of_length_eq_zero (by simpa using h.1)
  subst this
  cases p with
  | none => exact ⟨by simp [Builtin.lenOf], by simp [Builtin.firstCells]⟩
  | some a =>
   have := run_loadCells_list (P := P) (w := w) a [] (by simp)
   exact ⟨by simp [Builtin.lenOf], by simpa [Builtin.firstCells] using this⟩
 ·refine ⟨by simp [Builtin.lenOf], ?_⟩
  refine run_firstCells_some w sz n ⟨g, off, none⟩ _ _ cs h.1 (fun j v hj => ?_)
  rw [Addr.add_lit, cell?_of hw]
  unfold NB.cell
  rw [hg]
  rw [← h4, List.getElem?_take] at hj
  split at hj
  ·rw [List.getElem?_drop] at hj; simpa using hj
  ·cases hj
theorem SV.src {L : LS} {H : Heap} {v : Value} (h : SV F H L v) : ∃ news, Src P H L.sz v L.l.length news ∧ RL F H m0 (L.l.flatMap L.enc) news ∧ ∀ x ∈ L.l, (L.enc x).length = L.sz := by
 obtain ⟨sz, α, enc, l⟩ := L
 rcases h with ⟨p, rfl, hl⟩ | ⟨b, off, cap, css, rfl, h1, h2, hr, hz, hc⟩
 ·have hl : l = [] := hl
  subst hl
  refine ⟨[], fun w _ => ⟨by simp [Builtin.lenOf], ?_⟩, .nl, fun x hx => by cases hx⟩
  cases p with
  | none => simp [Builtin.firstCells]
  | some a =>
   have := run_loadCells_list (P := P) (w := w) a [] (by simp)
   simpa [Builtin.firstCells] using this
 ·refine ⟨css, fun w hw => ⟨by simp [Builtin.lenOf], ?_⟩, hr, hz⟩
  have hl := hr.length
  rw [flat_length hz] at hl
  exact run_firstCells_some w sz l.length ⟨b, off, none⟩ _ cap css hl.symm (fun j v hj => by rw [Addr.add_lit, cell?_of hw]; exact hc j v hj)
theorem run_append {t t2 e : TypeId} {i : TypeInfo} {z v x : Value} {sx sy : Operand} {size n m : Nat} {cs news : List Value} {dx : TypeDesc}
  (ho : o.op = .call { callee := .builtin .append, args := #[sx, sy], argTypes := #[t, t2] }) (ht : P.underlying t = some (.slice e)) (ht2 : P.underlying t2 = some dx) (hnx : ∀ k, dx ≠ .int k)
  (hi : ∀ w, (typeInfo e).run P w = .ok i w) (hsz : i.size = size) (hz : i.zero = some z) (hzs : z.cells.size = size)
  (hs : a.eval sx = v) (hy : a.eval sy = x) (hr : RowG w.heap size v n cs) (hsrc : Src P w.heap size x m news) (hone : ∀ u ∈ news, u.oneCell' = true) (hnl : news.length = m * size) (hfit : (n + m) * i.bytes ≤ 140737488355328) (hml : n + m ≤ 9223372036854775807) :
  ∃ v' w', (execOp a.eval o).run P w = .ok (.value v') w' ∧ Amb w w' ∧ RowG w'.heap size v' (n + m) (cs ++ news) ∧ Keep (obs v) w.heap w'.heap ∧ (∀ b ∈ obs v', b ∈ obs v ∨ w.heap.size ≤ b) := by
 have hlen : (cs ++ news).length = (n + m) * size := by rw [List.length_append, hr.1, hnl, Nat.add_mul]
 have hsizeOf : ∀ w, (sizeOf e).run P w = .ok size w := fun w => by simp [sizeOf, hi, hsz]
 have hzero : ∀ w, (zeroValue e).run P w = .ok z w := fun w => by simp [zeroValue, hi, hz]
 obtain ⟨hs1, hs2⟩ := hsrc w rfl
 have hmx : n + m ≤ maxLen := hml
 have grow : ∀ (p : Option Addr) (cp : Nat), v = .slice p n cp → cp < n + m → ∃ v' w', (execOp a.eval o).run P w = .ok (.value v') w' ∧ Amb w w' ∧ RowG w'.heap size v' (n + m) (cs ++ news) ∧ Keep (obs v) w.heap w'.heap ∧ (∀ b ∈ obs v', b ∈ obs v ∨ w.heap.size ≤ b) := by
  intro p cp hv hcp
  have hge := grownCap_ge w (n + m) cp e
  have hcm : grownCap w (n + m) cp e ≤ maxLen := grownCap_le_maxLen w (n + m) cp e hmx
  have hfits := growslice_fits hcp hfit
  have hold : ∀ w' : World, w'.heap = w.heap → (Builtin.firstCells size n (.slice p n cp)).run P w' = .ok cs.toArray w' := fun w' hw' => by rw [← hv]; exact (RowG.src (P := P) hr w' hw').2
  obtain ⟨gc, hgc⟩ : ∃ gc, grownCap w (n + m) cp e = gc + 1 := ⟨grownCap w (n + m) cp e - 1, by omega⟩
  refine ⟨.slice (some ⟨w.heap.size, 0, none⟩) (n + m) (grownCap w (n + m) cp e), w.drew.alloc (.cells (cs.toArray ++ news.toArray ++ Builtin.zeroCells z.cells (grownCap w (n + m) cp e - (n + m))) e), ?_, Amb.of rfl rfl rfl, ⟨hlen, .inr ⟨w.heap.size, 0, gc, _, _, by rw [hgc], heap_alloc_new w.drew _, by omega, by omega, ?_, ?_⟩⟩, ?_, ?_⟩
  ·have h1 := hold w.drew rfl
   have h2 := (hsrc w.drew rfl).2
   unfold execOp; rw [ho]
   have hnle : ¬ n + m ≤ cp := by omega
   have hn63 : ¬ ((9223372036854775807 : Int) < (n : Int) + (m : Int)) := by omega
   have hnf : ¬ 281474976710656 < Builtin.nextslicecap (n + m) cp * i.bytes := by omega
   simp [resolve, invoke, builtin, hs, hy, hv, Builtin.append_, run_underlying ht, run_underlying ht2, hsizeOf, hs1, hnle, hi, hn63, hnf, hzero, newRow]
   have hch : Question.forced (.appendCap (n + m) cp e) = false := rfl
   simp [hch]
   rw [h1]
   simp [h2]
   refine ⟨rfl, ?_⟩
   have e2 : (cs ++ news).toArray = cs.toArray ++ news.toArray := by simp
   rw [e2, Array.append_assoc]
   rfl
  ·simp only [Array.size_append, List.size_toArray, size_zeroCells, hzs, hr.1, hnl, ← Nat.add_mul]
   rw [← hgc]
   rw [Nat.zero_add]
   refine Nat.mul_le_mul_right _ (by omega)
  ·simp only [Array.toList_append, List.append_assoc, List.drop_zero]
   rw [← List.append_assoc, ← hlen]
   exact List.take_left
  ·exact (Keep.push [] w.heap _).nil
  ·intro b hb
   rw [hgc] at hb
   simp [obs] at hb
   subst hb
   exact .inr (Nat.le_refl _)
 rcases hr.2 with ⟨p, hv, hn⟩ | ⟨g, off, cap, cur, et, hv, hg', h1, h2, h3, h4⟩
 ·by_cases hm : m = 0
  ·have hcs : cs = [] := List.eq_nil_of_length_eq_zero (by rw [hr.1, hn]; simp)
   have hnews : news = [] := List.eq_nil_of_length_eq_zero (by rw [hnl, hm]; simp)
   subst hn hm hcs hnews hv
   refine ⟨.slice p 0 0, w, ?_, Amb.refl _, ⟨by simp, .inl ⟨p, rfl, rfl⟩⟩, Keep.refl _ _, fun b hb => .inl hb⟩
   unfold execOp; rw [ho]
   cases p with
   | none => simp [resolve, invoke, builtin, hs, hy, Builtin.append_, run_underlying ht, run_underlying ht2, hsizeOf, hs1, hs2]
   | some ad => simp [resolve, invoke, builtin, hs, hy, Builtin.append_, run_underlying ht, run_underlying ht2, hsizeOf, hs1, hs2, storeCells]
  ·subst hn
   exact grow p 0 hv (by omega)
 ·by_cases hroom : n + m ≤ cap + 1
  ·have hle : n * size + m * size ≤ (cap + 1) * size := by rw [← Nat.add_mul]; exact Nat.mul_le_mul_right _ hroom
   have hst := run_storeCells_at P g (off + n * size) et news 0 cur w hg' (by rw [hnl]; omega) hone
   simp only [Nat.add_zero] at hst
   refine ⟨.slice (some ⟨g, off, none⟩) (n + m) (cap + 1), w.setRow g (cur.toList.take (off + n * size) ++ news ++ cur.toList.drop (off + n * size + news.length)).toArray, ?_, Amb.of rfl rfl rfl, ⟨hlen, .inr ⟨g, off, cap, _, et, rfl, setRow_heap w g cur _ et _ hg', hroom, h2, ?_, ?_⟩⟩, ?_, ?_⟩
   ·unfold execOp; rw [ho]
    simp [resolve, invoke, builtin, hs, hy, hv, Builtin.append_, run_underlying ht, run_underlying ht2, hsizeOf, hs1, hs2, hroom, Addr.add_lit, hst]
   ·simp only [List.size_toArray, List.length_append, List.length_take, List.length_drop, Array.length_toList]
    omega
   ·have e1 : cur.toList.take (off + n * size) = cur.toList.take off ++ cs := by
     rw [List.take_add, h4]
    have hoff : (cur.toList.take off).length = off := by rw [List.length_take, Array.length_toList]; omega
    show ((cur.toList.take (off + n * size) ++ news ++ cur.toList.drop (off + n * size + news.length)).drop off).take _ = _
    rw [e1, List.append_assoc, List.append_assoc, List.drop_left' hoff, ← List.append_assoc, ← hlen]
    exact List.take_left
   ·rw [hv]
    exact setRow_keep w g _
   ·intro b hb
    rw [hv]
    exact .inl hb
  ·exact grow _ (cap + 1) hv (by omega)
theorem row_g {H : Heap} {m : Md} {sz : Nat} {α : Type} {enc : α → List C} {l : List α} {g : Value} (h : BR F H m (.row sz α enc l) g) : ∃ cs, RowG H sz g l.length cs ∧ RL F H m0 (l.flatMap enc) cs ∧ ∀ x ∈ l, (enc x).length = sz := by
 rcases h with ⟨p, rfl, rfl⟩ | ⟨k, off, cap, cur, t, css, rfl, h1, h2, h3, h4, h5, h6, h7⟩
 ·exact ⟨[], ⟨by simp, .inl ⟨p, rfl, rfl⟩⟩, .nl, fun x hx => by cases hx⟩
 ·have hl := h5.length
  rw [flat_length h6] at hl
  exact ⟨css, ⟨hl.symm, .inr ⟨k, off, cap, cur, t, rfl, h1, h2, h3, h4, by rw [hl]; exact h7⟩⟩, h5, h6⟩
theorem g_row {H : Heap} {m : Md} {sz n : Nat} {α : Type} {enc : α → List C} {l : List α} {g : Value} {cs : List Value} (h : RowG H sz g n cs) (hn : n = l.length) (hr : RL F H m0 (l.flatMap enc) cs) (hz : ∀ x ∈ l, (enc x).length = sz) : BR F H m (.row sz α enc l) g := by
 subst hn
 rcases h.2 with ⟨p, rfl, hl⟩ | ⟨k, off, cap, cur, t, rfl, h1, h2, h3, h4, h5⟩
 ·exact .inl ⟨p, rfl, List.eq_nil_of_length_eq_zero hl⟩
 ·exact .inr ⟨k, off, cap, cur, t, cs, rfl, h1, h2, h3, h4, hr, hz, by rw [h.1]; exact h5⟩
theorem obv_row {sz : Nat} {α : Type} {enc : α → List C} {l : List α} (g : Value) : obv (.row sz α enc l) g = obs g := by
 cases g with
 | slice p n cap => cases p <;> cases cap <;> rfl
 | _ => rfl
theorem RowG.part {H : Heap} {sz n0 lo n cap : Nat} {p q : Option Addr} {cs : List Value} (h : RowG H sz (.slice p n0 cap) n0 cs) (hle : lo + n ≤ n0) (hq : cap ≠ lo → q = p.map (·.add (lo * sz))) :
  RowG H sz (.slice q n (cap - lo)) n ((cs.drop (lo * sz)).take (n * sz)) ∧ ∀ b ∈ obs (.slice q n (cap - lo)), b ∈ obs (.slice p n0 cap) := by
 have hlo : lo * sz + n * sz ≤ n0 * sz := by rw [← Nat.add_mul]; exact Nat.mul_le_mul_right _ hle
 have hl : ((cs.drop (lo * sz)).take (n * sz)).length = n * sz := by rw [List.length_take, List.length_drop, h.1]; omega
 rcases h.2 with ⟨p', e, hn⟩ | ⟨k, off, cap', cur, t, e, h1, h2, h3, h4, h5⟩
 ·cases e
  obtain rfl : n = 0 := by omega
  obtain rfl : lo = 0 := by omega
  exact ⟨⟨hl, .inl ⟨q, rfl, rfl⟩⟩, fun b hb => by cases q <;> simp [obs] at hb⟩
 ·simp at e
  obtain ⟨rfl, rfl⟩ := e
  by_cases hc : cap' + 1 = lo
  ·obtain rfl : n = 0 := by omega
   refine ⟨⟨hl, .inl ⟨q, by rw [hc, Nat.sub_self], rfl⟩⟩, fun b hb => ?_⟩
   rw [hc, Nat.sub_self] at hb
   cases q <;> simp [obs] at hb
  ·have hq := hq hc
   simp [Addr.add_lit] at hq
   obtain ⟨d, hd⟩ : ∃ d, cap' + 1 - lo = d + 1 := ⟨cap' - lo, by omega⟩
   have hcd : lo * sz + (d + 1) * sz = (cap' + 1) * sz := by rw [← Nat.add_mul]; congr 1; omega
   refine ⟨⟨hl, .inr ⟨k, off + lo * sz, d, cur, t, by rw [hq, hd], h1, by omega, by omega, by omega, ?_⟩⟩, fun b hb => ?_⟩
   ·rw [← h5, ← List.drop_drop, List.drop_take, List.take_take, Nat.min_eq_left (by omega)]
   ·rw [hq, hd] at hb
    simpa [obs] using hb
end
end Go.AM
end
