/- THE ABSTRACT MACHINE, part 10: appends; all operations that change memory. -/
import Derived.Test.YtkoiljgjipmhbaaGreatDoorAm9
section
namespace Go.AM
open Go Go.NB
set_option linter.unusedVariables false
set_option linter.unusedSimpArgs false

section
variable {P : Program} {tab : Nat → Option TD} {E : En} {F : Nat → Prop} {γ : List Value} {s : St} {a : Act} {w : World} {o : Oper} {k : List B → A → Prop}

theorem flat_bytes {F : Nat → Prop} {H : Heap} {m : Md} : ∀ l : List UInt8, RL F H m (l.flatMap bytesC) (l.map bv)
  | [] => .nl
  | _ :: l => .int (flat_bytes l)

theorem WR.frozenNew {E : En} {F : Nat → Prop} {γ : List Value} {ah : List B} {H H' : Heap} (h : WR E F γ ah H) (hK : Keep [] H H') (hs : H.size < H'.size) : WR E (fun q => F q ∨ q = H.size) γ ah H' := by
  have h' := h.same hK
  have e : Ext F H' ⟨E.B, γ⟩ (fun q => F q ∨ q = H.size) H' ⟨E.B, γ⟩ := frozen_ext fun _ h => .inl h
  refine ⟨h'.len, fun j b g hj hg => BR.ext e (fun _ _ => rfl) (h'.br j b g hj hg), h'.disj, fun j b g q hj hg hq => ⟨fun hf => hf.elim (h'.nf j b g q hj hg hq).1 (fun he => ?_), (h'.nf j b g q hj hg hq).2⟩, fun q hq => hq.elim (h'.fb q) (fun he => by omega), h'.bb, h'.size, h'.keep, fun q hq => .inl (h'.fmono q hq), fun q hq => hq.elim (h'.fnew q) (fun he => .inr (.inr (by have := h.size; omega))), h'.onew, h'.pre⟩
  have := obv_lt (h.br j b g hj hg) q hq
  omega

/-- what an append begins with -/
theorem base_sound {H : Heap} {ah : List B} {c : C} {v : Value} {b : Option LS} {de : TD} {xs : List de.α} (hW : WR E F γ ah H) (hc : RL F H ⟨E.B, γ⟩ [c] [v]) (hb : baseOf ah c = some b) (hx : asList de b xs) :
    ∃ cs, RowG H de.size v xs.length cs ∧ RL F H m0 (xs.flatMap de.enc) cs ∧ (∀ x ∈ xs, (de.enc x).length = de.size) ∧
      ((kill ah c = ah ∧ obs v = []) ∨ ∃ j b g, kill ah c = ah.set j .dead ∧ ah[j]? = some b ∧ γ[j]? = some g ∧ ∀ q ∈ obs v, q ∈ obv b g) := by
  cases c with
  | nil =>
    cases hb
    have hx : xs = [] := hx
    subst hx
    cases hc
    exact ⟨[], ⟨by simp, .inl ⟨none, rfl, rfl⟩⟩, .nl, (fun x hx => by cases hx), .inl ⟨rfl, rfl⟩⟩
  | rw j =>
    simp only [baseOf] at hb
    split at hb
    · rename_i sz α enc l hj
      cases hb
      cases hx
      cases hc with
      | @rw _ _ p q n cap _ _ hg hqq _ =>
        have hg' : γ[j]? = some _ := hg
        obtain ⟨cs, h1, h2, h3⟩ := row_g (hW.br _ _ _ hj hg')
        by_cases e : cap = 0
        · subst e
          have hn : xs.length = 0 ∧ n = 0 := by
            rcases h1.2 with ⟨_, e1, e2⟩ | ⟨_, _, _, _, _, e1, _⟩
            · cases e1; exact ⟨e2, rfl⟩
            · simp at e1
          have hl := hn.1
          rw [hn.2]
          refine ⟨cs, ⟨h1.1, .inl ⟨q, rfl, hl⟩⟩, h2, h3, .inr ⟨j, _, _, rfl, hj, hg', fun b hb => by cases q <;> simp [obs] at hb⟩⟩
        · rw [hqq e]
          exact ⟨cs, h1, h2, h3, .inr ⟨j, _, _, rfl, hj, hg', fun q hq => by rw [obv_row]; exact hq⟩⟩
    · cases hb
  | sw sz j lo n =>
    simp only [baseOf] at hb
    split at hb
    · rename_i sz' α enc l hj
      by_cases hz : Nat.beq sz sz' = true
      · obtain rfl := Nat.eq_of_beq_eq_true hz
        rw [hz] at hb
        cases hb
        cases hx
        cases hc with
        | @sw _ _ _ _ _ p q n0 cap _ _ hg hle hq _ =>
          have hg' : γ[j]? = some _ := hg
          obtain ⟨cs, h1, h2, h3⟩ := row_g (hW.br _ _ _ hj hg')
          have hn0 : n0 = l.length := by
            rcases h1.2 with ⟨p', e, hn⟩ | ⟨_, _, _, _, _, e, _⟩
            · cases e; omega
            · simp at e; exact e.2.1
          subst hn0
          obtain ⟨h4, h5⟩ := h1.part hle hq
          have hlen : ((l.drop lo).take n).length = n := by rw [List.length_take, List.length_drop]; omega
          have h6 : ∀ x ∈ l.drop lo, (de.enc x).length = de.size := fun x hx => h3 x (List.mem_of_mem_drop hx)
          refine ⟨_, by rw [hlen]; exact h4, ?_, fun x hx => h6 x (List.mem_of_mem_take hx), .inr ⟨j, _, _, rfl, hj, hg', fun b hb => by rw [obv_row]; exact h5 b hb⟩⟩
          rw [← flat_take n h6, ← flat_drop lo h3]
          exact (h2.drop _).take _
      · rw [Bool.not_eq_true] at hz; rw [hz] at hb; cases hb
    · cases hb
  | _ => cases hb

theorem src_sound {H : Heap} {ah : List B} {c : C} {v : Value} {b : Option LS} {de : TD} {ys : List de.α} (hW : WR E F γ ah H) (hc : RL F H ⟨E.B, γ⟩ [c] [v]) (hb : srcOf ah c = some b) (hy : asList de b ys) :
    ∃ news, Src P H de.size v ys.length news ∧ RL F H m0 (ys.flatMap de.enc) news ∧ (∀ x ∈ ys, (de.enc x).length = de.size) := by
  cases c with
  | nil =>
    cases hb
    have hy : ys = [] := hy
    subst hy
    cases hc
    exact ⟨[], fun w _ => ⟨by simp [Builtin.lenOf], by simp [Builtin.firstCells]⟩, .nl, fun x hx => by cases hx⟩
  | str l =>
    cases hb
    have hy : (⟨1, UInt8, bytesC, l⟩ : LS) = ⟨de.size, de.α, de.enc, ys⟩ := hy
    have key : ∀ L : LS, L = ⟨1, UInt8, bytesC, l⟩ → ∃ news, Src P H L.sz v L.l.length news ∧ RL F H m0 (L.l.flatMap L.enc) news ∧ (∀ x ∈ L.l, (L.enc x).length = L.sz) := fun L hL => by
      subst hL
      cases hc with
      | str _ _ =>
        exact ⟨_, Src.str l, flat_bytes l, fun x hx => rfl⟩
    exact key _ hy.symm
  | ls sz α enc l =>
    simp only [srcOf, Option.map_eq_some_iff] at hb
    obtain ⟨L, hL, rfl⟩ := hb
    obtain ⟨news, h1, h2, h3⟩ := (hW.sl hc hL).src (P := P)
    cases hy
    exact ⟨news, h1, h2, h3⟩
  | bs sz α enc l =>
    simp only [srcOf, Option.map_eq_some_iff] at hb
    obtain ⟨L, hL, rfl⟩ := hb
    obtain ⟨news, h1, h2, h3⟩ := (hW.sl hc hL).src (P := P)
    cases hy
    exact ⟨news, h1, h2, h3⟩
  | rw j =>
    simp only [srcOf, Option.map_eq_some_iff] at hb
    obtain ⟨L, hL, rfl⟩ := hb
    obtain ⟨news, h1, h2, h3⟩ := (hW.sl hc hL).src (P := P)
    cases hy
    exact ⟨news, h1, h2, h3⟩
  | sw sz j lo n =>
    simp only [srcOf, Option.map_eq_some_iff] at hb
    obtain ⟨L, hL, rfl⟩ := hb
    obtain ⟨news, h1, h2, h3⟩ := (hW.sl hc hL).src (P := P)
    cases hy
    exact ⟨news, h1, h2, h3⟩
  | _ => simp [srcOf, slOf] at hb

theorem d_append (hT : TabOk P tab) (hE : ER F w.heap ⟨E.B, γ⟩ s.env a) (hW : WR E F γ s.ah w.heap) {c : Call} (ho : o.op = .call c) (h : Y2 tab s (.call c) k) : Dn P s E F γ a w o k := by
  obtain ⟨cl, args, tys⟩ := c
  simp only [Y2] at h
  have args_eq : ∀ {l : List Operand}, args.toList = l → args = l.toArray := fun h => by rw [← h]
  have tys_eq : ∀ {l : List TypeId}, tys.toList = l → tys = l.toArray := fun h => by rw [← h]
  split at h
  · rename_i x y t t2 hargs htys
    have hargs := args_eq hargs
    have htys := tys_eq htys
    subst hargs htys
    split at h
    · rename_i d d2 ht ht2
      have hk := hT.kind t d ht
      have hk2 := hT.kind t2 d2 ht2
      split at h
      · rename_i e hd
        rw [hd] at hk
        split at h
        · rename_i _ _ _ de cx cy hde hx hy
          split at h
          · rename_i _ _ bx by_ hbx hby
            obtain ⟨hc, xs, ys, hxs, hys, hfit, h⟩ := bguard h
            simp only [Bool.and_eq_true] at hc
            have hc2 := Nat.le_of_ble_eq_true hc.2
            have hdx : ∃ dx, P.underlying t2 = some dx ∧ ∀ k, dx ≠ .int k := by
              have hc1 := hc.1
              revert hk2 hc1
              cases d2.kind with
              | sl e => intro h1 _; exact ⟨_, h1, fun _ h => by cases h⟩
              | str => intro h1 _; exact ⟨_, h1, fun _ h => by cases h⟩
              | _ => intro _ h2; cases h2
            obtain ⟨dx, hu2, hnx⟩ := hdx
            obtain ⟨i, zv, zs, hi, hsz, hbyt, hz, hzs, hzr⟩ := hT.info e de hde
            have hone := hT.size hde
            obtain ⟨cs, hr, hrl, hrz, hkill⟩ := base_sound hW (opn_c hE hx) hbx hxs
            obtain ⟨news, hsrc, hnl, hnz⟩ := src_sound (P := P) hW (opn_c hE hy) hby hys
            have hnlen := hnl.length
            rw [flat_length hnz] at hnlen
            have hle : xs.length + ys.length ≤ (xs.length + ys.length) * de.bytes := Nat.le_mul_of_pos_right _ hc2
            have hzc : zv.cells.size = de.size := by
              have := (hzr F w.heap m0).length
              rw [hzs, List.size_toArray, ← this, hT.zl e de hde]
            obtain ⟨v', w', hrun, hA, hr', hK, hbl⟩ := run_append (P := P) ho hk hu2 hnx hi hsz hz hzc rfl rfl hr hsrc hnl.one hnlen.symm (by rw [hbyt]; exact hfit) (by omega)
            have hcat : RL F w.heap m0 ((xs ++ ys).flatMap de.enc) (cs ++ news) := by rw [List.flatMap_append]; exact hrl.append hnl
            have hcz : ∀ x ∈ xs ++ ys, (de.enc x).length = de.size := fun x hx => (List.mem_append.1 hx).elim (hrz x) (hnz x)
            refine ⟨_, v', w', _, _, F, γ ++ [v'], ⟨.inl rfl, hrun⟩, hA, h, ?_, ?_, fun hg => ?_⟩
            · rcases hkill with ⟨hk1, hk2⟩ | ⟨j, b, g, hk1, hj, hg, hk2⟩
              · rw [hk2] at hK
                have ex := hW.ext (W := []) (fun k hk => by cases hk) hK [v']
                rw [hk1]
                refine ⟨hW.push hK (fun q hq => ?_) (g_row hr' (by simp) (hcat.ext ex.m0) hcz), ex⟩
                rw [obv_row] at hq
                rcases hbl q hq with h1 | h1
                · rw [hk2] at h1; cases h1
                · exact h1
              · have hK' : Keep (obv b g) w.heap w'.heap := hK.mono hk2
                have ex := hW.ext (fun q hq => hW.nf j b g q hj hg hq) hK' [v']
                rw [hk1]
                refine ⟨hW.move hj hg hK' (fun q hq => ?_) (g_row hr' (by simp) (hcat.ext ex.m0) hcz), ex⟩
                rw [obv_row] at hq
                exact (hbl q hq).imp (hk2 q) id
            · obtain ⟨p, cap, hv'⟩ : ∃ p cap, v' = .slice p (xs.length + ys.length) cap := by
                rcases hr'.2 with ⟨p, h1, h2⟩ | ⟨g, off, cap, cur, et, h1, _⟩
                · exact ⟨p, 0, by rw [h1, h2]⟩
                · exact ⟨_, _, h1⟩
              rw [hv']
              exact .rw (getLast_append hW.len.symm) (fun _ => rfl) .nl
            · rw [ho] at hg
              simp only [grows, hx] at hg
              have hnil : cx = .nil := by
                revert hg
                cases cx <;> first | (intro; rfl) | (intro h; cases h)
              subst hnil
              have hcx := opn_c hE hx
              generalize a.eval x = vx at hcx hK
              cases hcx
              exact hK
          · exact h.elim
        · exact h.elim
      · exact h.elim
    · exact h.elim
  · exact h.elim

/-- of what is written no more the cells are as they were -/
theorem WR.refresh {H H' : Heap} {ah : List B} (h : WR E F γ ah H) {b : Nat} (hb : E.own b ∨ E.H0.size ≤ b) (hF : F b) (hs : H'.size = H.size) (hc : ∀ o, cell H' b o = cell H b o) (hk : ∀ k, k ≠ b → H'[k]? = H[k]?) : WR E F γ ah H' ∧ Ext F H ⟨E.B, γ⟩ F H' ⟨E.B, γ⟩ := by
  have e : Ext F H ⟨E.B, γ⟩ F H' ⟨E.B, γ⟩ := ⟨fun _ h => h, fun b' o u _ hu => by
    by_cases hbb : b' = b
    · subst hbb; rw [hc]; exact hu
    · exact cell_of_get (hk b' hbb) hu, fun _ h => h, fun _ _ h => h⟩
  refine ⟨⟨h.len, fun j b' g hj hg => BR.ext e (fun k hk' => hk k (fun he => (h.nf j b' g k hj hg hk').1 (he ▸ hF))) (h.br j b' g hj hg), h.disj, h.nf, fun k hk' => by rw [hs]; exact h.fb k hk', h.bb, by rw [hs]; exact h.size, fun k h1 h2 => ?_, h.fmono, h.fnew, h.onew, h.pre⟩, e⟩
  have : k ≠ b := fun he => by subst he; exact hb.elim h2 (fun h3 => by omega)
  rw [hk k this]; exact h.keep k h1 h2

theorem d_convert_row (hT : TabOk P tab) (hE : ER F w.heap ⟨E.B, γ⟩ s.env a) (hW : WR E F γ s.ah w.heap) {t e : Nat} {x : Operand} {j : Nat} {α : Type} {enc : α → List C} {y : α} {l : List α} (ho : o.op = .convert t t x) (hx : opn s x = .c (.rw j)) (ht : P.underlying t = some (.slice e)) (he : P.underlying e = some (.int .u8))
    (hj : s.ah[j]? = some (.row 1 α enc (y :: l))) (h : k (s.ah.set j (.fro 1 α enc (y :: l))) (.c (.ls 1 α enc (y :: l)))) : Dn P s E F γ a w o k := by
  have hc := opn_c hE hx
  generalize hv : a.eval x = v at hc
  cases hc with
  | @rw _ _ p q n cap _ _ hg hqq _ =>
    have hg : γ[j]? = some (.slice p n cap) := hg
    obtain ⟨F', hF', hW', hls⟩ := hW.freeze hj
    have hls := hls _ hg
    rcases hW.br j _ _ hj hg with ⟨p', _, h0⟩ | ⟨kb, off, cap', cur, el, css, hgv, hcell, h2, h3, h4, h5, h6, h7⟩
    · cases h0
    cases hgv
    have hq : q = some ⟨kb, off, none⟩ := hqq (by omega)
    subst hq
    have hkb : kb ∈ obv (.row 1 α enc (y :: l)) (.slice (some ⟨kb, off, none⟩) (y :: l).length (cap' + 1)) := by simp [obv]
    have hFk : F' kb := by
      cases hls with
      | ls hb _ _ _ _ _ _ => exact hb
    have hlt : kb < w.heap.size := (Array.getElem?_eq_some_iff.1 hcell).1
    let H' : Heap := w.heap.set kb (.cells cur el (cur.size, cur.size + 1))
    have hH' : w.heap.modify kb (fun | .cells c elem (lo, hi) => .cells c elem (if lo == hi then (cur.size, cur.size + 1) else (min lo cur.size, max hi (cur.size + 1))) | o => o) = H' := by
      apply Array.ext_getElem?
      intro i
      rw [Array.getElem?_modify, Array.getElem?_set hlt]
      split
      · rename_i h; subst h; rw [hcell]; simp
      · rfl
    obtain ⟨hW2, hext⟩ := hW'.refresh (H' := H') (hW.onew j _ _ kb hj hg hkb) hFk (by simp [H']) (fun o => by
      unfold cell
      rw [Array.getElem?_set hlt, if_pos rfl, hcell]) (fun i hi => by rw [Array.getElem?_set hlt, if_neg (fun h => hi h.symm)])
    refine ⟨_, .slice (some ⟨kb, off, none⟩) (y :: l).length (cap' + 1), w.freeze ⟨kb, cur.size, none⟩ 1, _, _, F', γ, ⟨.inl rfl, ?_⟩, ⟨rfl, rfl, rfl⟩, h, ?_, ?_, fun hg => by rw [ho] at hg; simp [grows, hx] at hg⟩
    · unfold execOp; rw [ho]
      have hs : w.shape? kb = some (el, cur.size) := by unfold World.shape?; rw [hcell]
      simp [hv, convert, run_underlying ht, run_underlying he, markStringish, hs]
    · have hw : (w.freeze ⟨kb, cur.size, none⟩ 1).heap = H' := by
        unfold World.freeze
        rw [if_neg (by decide)]
        exact hH'
      rw [hw]
      exact ⟨hW2, ⟨fun k hk => hF' k hk, fun b o u hb hu => hext.h b o u (hb.imp (hF' b) id) hu, fun _ h => h, fun _ _ h => h⟩⟩
    · have hw : (w.freeze ⟨kb, cur.size, none⟩ 1).heap = H' := by
        unfold World.freeze
        rw [if_neg (by decide)]
        exact hH'
      rw [hw]
      exact RL.up (hls.ext ⟨fun _ h => h, fun b o u hb hu => hext.h b o u (.inl (hb.elim id False.elim)) hu, fun _ h => h, fun _ _ h => h⟩)

theorem d_convert (hT : TabOk P tab) (hE : ER F w.heap ⟨E.B, γ⟩ s.env a) (hW : WR E F γ s.ah w.heap) {t u : Nat} {x : Operand} (ho : o.op = .convert t u x) (h : Y2 tab s (.convert t u x) k) : Dn P s E F γ a w o k := by
  simp only [Y2] at h
  split at h
  · rename_i _ _ _ d d' l ht hu hx
    have hk := hT.kind t d ht
    have hk' := hT.kind u d' hu
    have hc := opn_c hE hx
    split at h
    · rename_i e h1 h2
      rw [h1] at hk
      rw [h2] at hk'
      split at h
      · rename_i de hde
        have hke := hT.kind e de hde
        split at h
        · rename_i h3
          rw [h3] at hke
          generalize hv : a.eval x = v at hc
          cases hc with
          | str hl _ =>
            have hrun := run_bytes_of_string (P := P) w t u e ⟨l.toArray⟩ hk hk' hke
            have hsz : (⟨l.toArray⟩ : ByteArray).size = l.length := rfl
            rw [hsz] at hrun
            have hge := grownCap_ge w l.length 0 e
            have hcm := grownCap_le_maxLen w l.length 0 e (show l.length ≤ maxLen from hl)
            generalize grownCap w l.length 0 e = cap at hrun hge hcm
            generalize hB : Obj.cells (bytesRow ⟨l.toArray⟩ cap) e ((bytesRow ⟨l.toArray⟩ cap).size, (bytesRow ⟨l.toArray⟩ cap).size + 1) = ob at hrun
            have hKp : Keep [] w.heap (w.heap.push ob) := Keep.push [] _ _
            have ex := hW.ext (W := []) (γ' := []) (fun k hk => by cases hk) hKp
            rw [List.append_nil] at ex
            refine ⟨_, .slice (some ⟨w.heap.size, 0, none⟩) l.length cap, w.drew.alloc ob, _, _, fun q => F q ∨ q = w.heap.size, γ, ⟨.inl rfl, ?_⟩, ⟨rfl, rfl, rfl⟩, h, ⟨hW.frozenNew hKp (by simp), ⟨fun _ h => .inl h, ex.h, ex.b, ex.g⟩⟩, ?_, fun _ => hKp⟩
            · unfold execOp; rw [ho]
              simp [hv, NB.str, hrun]
            · refine .ls (.inr rfl) hge hcm (flat_bytes l) (fun x hx => rfl) (fun j q hj => ?_) .nl
              show cell (w.heap.push ob) _ _ = _
              unfold cell
              have hjl : j < l.length := by
                have := (List.getElem?_eq_some_iff.1 hj).1
                simpa using this
              rw [← hB]
              simp only [Array.getElem?_push_size, Nat.zero_add]
              unfold bytesRow
              rw [Array.getElem?_append_left (by simpa using hjl)]
              rw [List.getElem?_map] at hj
              simp only [Array.getElem?_map, List.getElem?_toArray]
              exact hj
        · exact h.elim
      · exact h.elim
    · exact h.elim
  · rename_i _ _ _ d d' j ht hu hx
    have hk := hT.kind t d ht
    split at h
    · rename_i e e' h1 h2
      rw [h1] at hk
      have hcc := bguard h
      clear h
      obtain ⟨hcc, h⟩ := hcc
      rw [Bool.and_eq_true] at hcc
      obtain rfl := Nat.eq_of_beq_eq_true hcc.2
      split at h
      · rename_i de hde
        have hke := hT.kind e de hde
        split at h
        · rename_i h3
          rw [h3] at hke
          split at h
          · rename_i hj
            exact d_convert_row hT hE hW ho hx hk hke hj h
          · exact h.elim
        · exact h.elim
      · exact h.elim
    · exact h.elim
  · exact h.elim

theorem Y2_sound (hT : TabOk P tab) (hE : ER F w.heap ⟨E.B, γ⟩ s.env a) (hW : WR E F γ s.ah w.heap) (h : Y2 tab s o.op k) : Dn P s E F γ a w o k := by
  generalize ho : o.op = op at h
  cases op with
  | alloc t => exact d_alloc hT hW ho h
  | box t x => exact d_box hE hW ho h
  | buildSlice t n parts => exact d_buildSlice hT hE hW ho h
  | makeSlice t x y => exact d_makeSlice hT hE hW ho h
  | store t x y => exact d_store hT hE hW ho h
  | convert t u x => exact d_convert hT hE hW ho h
  | call c => exact d_append hT hE hW ho h
  | _ => simp only [Y2] at h
end
end Go.AM
end
/- THE ABSTRACT MACHINE, part 11: from one abstract state to one that says less, under other numbers. -/
section
namespace Go.AM
open Go Go.NB
set_option linter.unusedVariables false
set_option linter.unusedSimpArgs false

/-- which block a number means, in the numbers of before -/
inductive Rn where
  | new
  | same (j : Nat)
  | cut (sz j lo n : Nat)

def all2 (f : C → C → Prop) : List C → List C → Prop
  | [], [] => True
  | x :: r, y :: q => f x y ∧ all2 f r q
  | _, _ => False
def pre2 (f : C → C → Prop) : List C → List C → Prop
  | _, [] => True
  | x :: r, y :: q => f x y ∧ pre2 f r q
  | [], _ :: _ => False

def frOK (fr : Nat → Bool) (ah : List B) (j : Nat) : Bool := match ah[j]? with
  | some (.fro ..) => true
  | some (.row ..) => fr j
  | some (.box _) => fr j
  | _ => false

/-- a cell reads as another one says -/
def mC (fr : Nat → Bool) (ah : List B) : Nat → List Rn → C → C → Prop
  | 0, _, _, _ => False
  | n + 1, ρ, c0, c => match c with
    | .rw i => match ρ[i]? with
      | some (.same j) => c0 = .rw j
      | some .new => c0 = .nil
      | some (.cut sz j lo m) => c0 = .sw sz j lo m
      | none => False
    | .sw sz i lo m => match ρ[i]? with
      | some (.same j) => c0 = .sw sz j lo m
      | _ => False
    | .ptr i o => match ρ[i]? with
      | some (.same j) => c0 = .ptr j o
      | _ => False
    | .ep sz i x o => match ρ[i]? with
      | some (.same j) => c0 = .ep sz j x o
      | _ => False
    | .ls sz α enc l => match c0 with
      | .nil => l = []
      | .ls sz' α' enc' l' => (⟨sz', α', enc', l'⟩ : LS) = ⟨sz, α, enc, l⟩
      | .rw j => match ah[j]? with
        | some (.fro sz' α' enc' l') => (⟨sz', α', enc', l'⟩ : LS) = ⟨sz, α, enc, l⟩
        | _ => False
      | .sw sz0 j lo m => match ah[j]? with
        | some (.fro sz' α' enc' l') => bif Nat.beq sz0 sz' then (⟨sz', α', enc', (l'.drop lo).take m⟩ : LS) = ⟨sz, α, enc, l⟩ else False
        | _ => False
      | _ => False
    | .bs sz α enc l => match c0 with
      | .nil => l = []
      | .ls sz' α' enc' l' => (⟨sz', α', enc', l'⟩ : LS) = ⟨sz, α, enc, l⟩
      | .bs sz' α' enc' l' => (⟨sz', α', enc', l'⟩ : LS) = ⟨sz, α, enc, l⟩
      | .rw j => bif frOK fr ah j then (ah[j]?).bind rowOf = some ⟨sz, α, enc, l⟩ else False
      | .sw sz0 j lo m => bif frOK fr ah j then slOf ah (.sw sz0 j lo m) = some ⟨sz, α, enc, l⟩ else False
      | _ => False
    | .bp cs => match c0 with
      | .bp cs0 => pre2 (mC fr ah n []) cs0 cs
      | .ptr j o => match ah[j]? with
        | some (.box cs0) => bif fr j then pre2 (mC fr ah n []) (cs0.drop o) cs else False
        | _ => False
      | .ep sz j i o => bif frOK fr ah j then match (ah[j]?).bind rowOf with
        | some L => bif Nat.beq sz L.sz then ∃ x, L.l[i]? = some x ∧ pre2 (mC fr ah n []) ((L.enc x).drop o) cs else False
        | none => False
        else False
      | _ => False
    | .fn f caps => match c0 with
      | .fn f0 caps0 => f0 = f ∧ all2 (mC fr ah n ρ) caps0 caps
      | _ => False
    | .iface t g cs => match c0 with
      | .iface t0 g0 cs0 => (t0 = t ∧ g0 = g) ∧ all2 (mC fr ah n ρ) cs0 cs
      | _ => False
    | c => c0 = c

def gOf (γ : List Value) : Rn → Value
  | .same j => (γ[j]?).getD undef
  | .new => .slice none 0 0
  | .cut sz j lo n => match γ[j]? with
    | some (.slice p _ cap) => .slice (p.map (·.add (lo * sz))) n (cap - lo)
    | _ => undef

section
variable {E : En} {F : Nat → Prop} {γ : List Value} {ah : List B} {H : Heap} {B' : Nat → Prop} {fr : Nat → Bool}

theorem RL.ls_of {m m' : Md} {sz : Nat} {α : Type} {enc : α → List C} {l : List α} {v : Value} (h : RL F H m [.ls sz α enc l] [v]) : RL F H m' [.ls sz α enc l] [v] := by
  cases h with
  | ls0 _ => exact .ls0 .nl
  | ls hb h1 h2 hr hz hc _ => exact .ls hb h1 h2 hr hz hc .nl
theorem RL.ls_bs {m m' : Md} {sz : Nat} {α : Type} {enc : α → List C} {l : List α} {v : Value} (h : RL F H m [.ls sz α enc l] [v]) : RL F H m' [.bs sz α enc l] [v] := by
  cases h with
  | ls0 _ => exact .bs0 .nl
  | ls hb h1 h2 hr hz hc _ => exact .bs (.inl hb) h1 h2 hr hz hc .nl
theorem RL.bs_ptr {m : Md} {sz : Nat} {α : Type} {enc : α → List C} {l : List α} {p q : Option Addr} {n cap : Nat} (hs : SV F H ⟨sz, α, enc, l⟩ (.slice p n cap)) (h : RL F H m [.bs sz α enc l] [.slice p n cap]) (hq : cap ≠ 0 → q = p) : RL F H m [.bs sz α enc l] [.slice q n cap] := by
  by_cases e : cap = 0
  · obtain ⟨p', cap', e', h1, _⟩ := hs.slice
    cases e'
    have h1 : l.length ≤ cap := h1
    have : l = [] := List.eq_nil_of_length_eq_zero (by omega)
    subst this
    rw [e]
    exact .bs0 .nl
  · rw [hq e]; exact h

theorem row_bs {b : B} {g : Value} {L : LS} {m m' : Md} (h : BR F H m b g) (hL : rowOf b = some L) (hB : ∀ k ∈ obv b g, m'.B k) : RL F H m' [.bs L.sz L.α L.enc L.l] [g] := by
  cases b with
  | box cs => cases hL
  | dead => cases hL
  | row sz α enc l =>
    have hs := row_sv h hL
    cases hL
    rcases h with ⟨p, rfl, rfl⟩ | ⟨k, off, cap, cur, t, css, rfl, h1, h2, h3, h4, h5, h6, h7⟩
    · exact .bs0 .nl
    · rcases hs with ⟨p', e, e2⟩ | ⟨b, off', cap', css', e, g1, g2, g3, g4, g5⟩
      · simp at e
      · simp at e
        obtain ⟨⟨rfl, rfl⟩, rfl⟩ := e
        exact .bs (.inr (hB k (by simp [obv]))) g1 g2 g3 g4 g5 .nl
  | fro sz α enc l => cases hL; exact RL.ls_bs h

theorem frOK_B (hfr : ∀ j b g, fr j = true → ah[j]? = some b → γ[j]? = some g → ∀ k ∈ obv b g, B' k) {j : Nat} {b : B} {g : Value} (h : frOK fr ah j = true) (hb : ah[j]? = some b) (hg : γ[j]? = some g) : ∀ k ∈ obv b g, B' k := by
  unfold frOK at h
  rw [hb] at h
  cases b with
  | fro => intro k hk; simp [obv] at hk
  | row => exact hfr j _ _ h hb hg
  | box => exact hfr j _ _ h hb hg
  | dead => cases h

theorem pre2_sound {f : C → C → Prop} {m m' : Md} (hf : ∀ c0 c v, f c0 c → RL F H m [c0] [v] → RL F H m' [c] [v]) : ∀ {cs0 cs : List C} {vs : List Value}, pre2 f cs0 cs → RL F H m cs0 vs → ∃ us : List Value, RL F H m' cs us ∧ ∀ (j : Nat) (u : Value), us[j]? = some u → vs[j]? = some u
  | _, [], vs, _, _ => ⟨[], .nl, fun j u h => by simp at h⟩
  | c0 :: cs0, c :: cs, vs, ⟨h1, h2⟩, hr => by
    obtain ⟨v, us, rfl, h3, h4⟩ := hr.uncons
    obtain ⟨us', h5, h6⟩ := pre2_sound hf h2 h4
    refine ⟨v :: us', (hf _ _ _ h1 h3).cons h5, fun j u hj => ?_⟩
    cases j with
    | zero => simpa using hj
    | succ j => simpa using h6 j u (by simpa using hj)
theorem all2_sound {f : C → C → Prop} {m m' : Md} (hf : ∀ c0 c v, f c0 c → RL F H m [c0] [v] → RL F H m' [c] [v]) : ∀ {cs0 cs : List C} {vs : List Value}, all2 f cs0 cs → RL F H m cs0 vs → RL F H m' cs vs
  | [], [], vs, _, hr => by cases hr; exact .nl
  | c0 :: cs0, c :: cs, vs, ⟨h1, h2⟩, hr => by
    obtain ⟨v, us, rfl, h3, h4⟩ := hr.uncons
    exact (hf _ _ _ h1 h3).cons (all2_sound hf h2 h4)
theorem all2_len {f : C → C → Prop} : ∀ {cs0 cs : List C}, all2 f cs0 cs → cs0.length = cs.length
  | [], [], _ => rfl
  | _ :: _, _ :: _, ⟨_, h⟩ => by simp [all2_len h]

theorem RL.noγ {m : Md} {cs : List C} {vs : List Value} (h : RL F H ⟨m.B, []⟩ cs vs) : RL F H m cs vs := h.ext ⟨fun _ h => h, fun _ _ _ _ h => h, fun _ h => h, fun j v h => by cases h⟩

theorem bs_blk {m : Md} {sz : Nat} {α : Type} {enc : α → List C} {l : List α} {b off n cap : Nat} (h : RL F H m [.bs sz α enc l] [.slice (some ⟨b, off, none⟩) n cap]) (hl : l ≠ []) : F b ∨ m.B b := by
  cases h with
  | bs0 _ => exact (hl rfl).elim
  | bs hb _ _ _ _ _ _ => exact hb

theorem mC_sound (hW : WR E F γ ah H) (hB : ∀ k, E.B k → B' k) (hfr : ∀ j b g, fr j = true → ah[j]? = some b → γ[j]? = some g → ∀ k ∈ obv b g, B' k) :
    ∀ (n : Nat) {ρ : List Rn} {c0 c : C} {v : Value}, mC fr ah n ρ c0 c → RL F H ⟨E.B, γ⟩ [c0] [v] → RL F H ⟨B', ρ.map (gOf γ)⟩ [c] [v] := by
  intro n
  induction n with
  | zero => intro ρ c0 c v h; exact h.elim
  | succ n ih =>
    intro ρ c0 c v h hr
    have hat : ∀ {i j : Nat} {g : Value}, ρ[i]? = some (.same j) → γ[j]? = some g → (ρ.map (gOf γ))[i]? = some g := fun hi hg => by
      rw [List.getElem?_map, hi]; simp [gOf, hg]
    have bpc : ∀ {b o : Nat} {cs0 cs : List C} {vs : List Value} {m : Md}, (F b ∨ B' b) → RL F H ⟨E.B, γ⟩ cs0 vs → (∀ j u, vs[j]? = some u → cell H b (o + j) = some u) → pre2 (mC fr ah n []) cs0 cs → RL F H ⟨B', ρ.map (gOf γ)⟩ [.bp cs] [.pointer (some ⟨b, o, none⟩)] := fun hb h1 h2 h3 => by
      obtain ⟨us, g1, g2⟩ := pre2_sound (m' := ⟨B', []⟩) (fun c0 c v h hr => ih (ρ := []) h hr) h3 h1
      exact .bp hb g1 (fun j u hj => h2 j u (g2 j u hj)) .nl
    cases c with
    | rw i =>
      simp only [mC] at h
      split at h
      · rename_i j hi
        subst h
        cases hr with
        | rw hg hq _ => exact .rw (hat hi hg) hq .nl
      · rename_i hi
        subst h
        cases hr
        refine .rw (p := none) (by rw [List.getElem?_map, hi]; rfl) (fun h => (h rfl).elim) .nl
      · rename_i sz j lo m hi
        subst h
        cases hr with
        | @sw _ _ _ _ _ p q n0 cap _ _ hg hle hq _ =>
          have hg' : γ[j]? = some _ := hg
          exact .rw (p := p.map (·.add (lo * sz))) (by rw [List.getElem?_map, hi]; simp [gOf, hg']) (fun h => hq (by omega)) .nl
      · exact h.elim
    | sw sz i lo m =>
      simp only [mC] at h
      split at h
      · rename_i j hi
        subst h
        cases hr with
        | sw hg hle hq _ => exact .sw (hat hi hg) hle hq .nl
      · exact h.elim
    | ptr i o =>
      simp only [mC] at h
      split at h
      · rename_i j hi
        subst h
        cases hr with
        | ptr hg _ => exact .ptr (hat hi hg) .nl
      · exact h.elim
    | ep sz i x o =>
      simp only [mC] at h
      split at h
      · rename_i j hi
        subst h
        cases hr with
        | ep hg _ => exact .ep (hat hi hg) .nl
      · exact h.elim
    | ls sz α enc l =>
      simp only [mC] at h
      split at h
      · subst h; cases hr; exact .ls0 .nl
      · cases h; exact hr.ls_of
      · split at h
        · rename_i hb
          cases h
          cases hr with
          | rw hg hq _ => exact RL.ls_of (m := m0) ((RL.up (m := m0) (hW.br _ _ _ hb hg)).ptr' hq)
        · exact h.elim
      · rename_i sz0 j lo m
        split at h
        · rename_i sz' α' enc' l' hb
          obtain ⟨hz, h⟩ := bguard h
          obtain rfl := Nat.eq_of_beq_eq_true hz
          have h1 := fz1_sound hW hr
          rw [show fz1 ah (.sw sz0 j lo m) = (ah, .ls sz0 α' enc' ((l'.drop lo).take m)) by simp only [fz1, hb, hz, cond_true]] at h1
          cases hr with
          | @sw _ _ _ _ _ p q n0 cap _ _ hg hle hq _ =>
            have hf : RL F H m0 [.ls sz0 α' enc' l'] [.slice p n0 cap] := hW.br _ _ _ hb hg
            cases h
            have hn : n0 = l'.length := by
              obtain ⟨p', cap', e, _⟩ := hf.sv.slice
              cases e; rfl
            by_cases e : cap = lo
            · obtain ⟨p', cap', e', g1, _⟩ := hf.sv.slice
              cases e'
              have g1 : l'.length ≤ cap := g1
              obtain rfl : m = 0 := by omega
              rw [List.take_zero, e, Nat.sub_self]
              exact .ls0 .nl
            · have := hf.cut (x := lo) (y := lo + m) (by omega) (by omega)
              simp only [subv, if_neg e] at this
              rw [hq e]
              rw [show lo + m - lo = m by omega] at this
              exact this.ls_of
        · exact h.elim
      · exact h.elim
    | bs sz α enc l =>
      simp only [mC] at h
      split at h
      · subst h; cases hr; exact .bs0 .nl
      · cases h; exact hr.ls_bs
      · cases h
        cases hr with
        | bs0 _ => exact .bs0 .nl
        | bs hb h1 h2 hr hz hc _ => exact .bs (hb.imp id (hB _)) h1 h2 hr hz hc .nl
      · rename_i j
        obtain ⟨hf, h⟩ := bguard h
        obtain ⟨b, hb, hL⟩ := Option.bind_eq_some_iff.1 h
        cases hr with
        | rw hg hq _ =>
          have hg' : γ[j]? = some _ := hg
          exact RL.bs_ptr (row_sv (hW.br _ _ _ hb hg') hL) (row_bs (m' := ⟨B', ρ.map (gOf γ)⟩) (hW.br _ _ _ hb hg') hL (frOK_B hfr hf hb hg')) hq
      · rename_i sz0 j lo m
        obtain ⟨hf, h⟩ := bguard h
        have hs := hW.sl hr h
        cases hr with
        | @sw _ _ _ _ _ p q n0 cap _ _ hg hle hq _ =>
          have hg' : γ[j]? = some _ := hg
          simp only [slOf] at h
          cases hb : (ah[j]?).bind rowOf with
          | none => rw [hb] at h; cases h
          | some L0 =>
            rw [hb] at h
            simp only [] at h
            by_cases hz : Nat.beq sz0 L0.sz = true
            · rw [hz] at h
              obtain ⟨b, hb1, hL⟩ := Option.bind_eq_some_iff.1 hb
              have hz := Nat.eq_of_beq_eq_true hz
              have hrow := row_bs (m' := ⟨B', ρ.map (gOf γ)⟩) (hW.br _ _ _ hb1 hg') hL (frOK_B hfr hf hb1 hg')
              have hsv := row_sv (hW.br _ _ _ hb1 hg') hL
              have hn : n0 = L0.l.length := by
                obtain ⟨p', cap', e, _⟩ := hsv.slice
                cases e; rfl
              cases h
              by_cases e : cap = lo
              · obtain ⟨p', cap', e', g1, _⟩ := hsv.slice
                cases e'
                obtain rfl : m = 0 := by omega
                rw [List.take_zero, e, Nat.sub_self]
                exact .bs0 .nl
              · have := RL.cutb hsv hrow (x := lo) (y := lo + m) (by omega) (by omega)
                simp only [subv, if_neg e] at this
                rw [hq e, hz]
                rw [show lo + m - lo = m by omega] at this
                exact this
            · rw [Bool.not_eq_true] at hz; rw [hz] at h; cases h
      · exact h.elim
    | bp cs =>
      simp only [mC] at h
      split at h
      · cases hr with
        | bp hb hr' hc _ => exact bpc (m := m0) (hb.imp id (hB _)) hr'.noγ hc h
      · rename_i j o
        split at h
        · rename_i cs0 hb
          obtain ⟨hf, h⟩ := bguard h
          cases hr with
          | ptr hg _ =>
            have hg' : γ[j]? = some _ := hg
            obtain ⟨k', vs, e, h1, h2⟩ := box_get (o := o) (hW.br j _ _ hb hg')
            cases e
            exact bpc (m := m0) (.inr (hfr j _ _ hf hb hg' _ (by simp [obv]))) h1 h2 h
        · exact h.elim
      · rename_i sz j i o
        obtain ⟨hf, h⟩ := bguard h
        split at h
        · rename_i L hL
          obtain ⟨hz, x, hi, h'⟩ := bguard h
          obtain rfl := Nat.eq_of_beq_eq_true hz
          obtain ⟨b, hb, hL⟩ := Option.bind_eq_some_iff.1 hL
          cases hr with
          | ep hg _ =>
            have hg' : γ[j]? = some _ := hg
            obtain ⟨us, h1, h2⟩ := rowOf_br (hW.br j b _ hb hg') hL rfl hi o
            have hbl := row_bs (m' := ⟨B', []⟩) (hW.br j b _ hb hg') hL (frOK_B hfr hf hb hg')
            have hblk := bs_blk hbl (List.ne_nil_of_length_pos (by have := (List.getElem?_eq_some_iff.1 hi).1; omega))
            exact bpc (m := m0) hblk h1.up h2 h'
        · exact h.elim
      · exact h.elim
    | fn f caps =>
      simp only [mC] at h
      split at h
      · obtain ⟨rfl, h⟩ := h
        cases hr with
        | fn hr' _ => exact .fn (all2_sound (fun c0 c v h hr => ih h hr) h hr') .nl
      · exact h.elim
    | iface t g cs =>
      simp only [mC] at h
      split at h
      · obtain ⟨⟨rfl, rfl⟩, h⟩ := h
        cases hr with
        | iface hr' _ => exact .iface (all2_sound (fun c0 c v h hr => ih h hr) h hr') .nl
      · exact h.elim
    | int k i => simp only [mC] at h; subst h; cases hr; exact .int .nl
    | bool b => simp only [mC] at h; subst h; cases hr; exact .bool .nl
    | str l => simp only [mC] at h; subst h; cases hr with | str h _ => exact .str h .nl
    | raw v => simp only [mC] at h; subst h; cases hr with | raw h _ => exact .raw h .nl
    | nil => simp only [mC] at h; subst h; cases hr; exact .nil .nl
end
end Go.AM
end
