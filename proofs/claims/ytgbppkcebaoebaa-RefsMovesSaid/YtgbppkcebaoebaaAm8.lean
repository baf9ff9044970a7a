/- THE ABSTRACT MACHINE, part 8: that this is what operations do that change memory. -/
import Derived.Test.YtgbppkcebaoebaaAm7
namespace Go.AM
open Go Go.NB
set_option linter.unusedVariables false
set_option linter.unusedSimpArgs false

section
variable {P : Program} {tab : Nat → Option TD} {E : En} {F : Nat → Prop} {γ : List Value} {s : St} {a : Act} {w : World} {o : Oper} {k : List B → A → Prop}

/-- a new block -/
theorem step_push {ah : List B} (hW : WR E F γ ah w.heap) {ob : Obj} {b : B} {g : Value} (ho : ∀ k ∈ obv b g, w.heap.size ≤ k) (hb : BR F (w.heap.push ob) ⟨E.B, γ ++ [g]⟩ b g) :
    Step E F γ w.heap F (γ ++ [g]) (ah ++ [b]) (w.heap.push ob) :=
  ⟨hW.push (Keep.push [] _ _) ho hb, hW.ext (W := []) (fun k hk => by cases hk) (Keep.push [] _ _) [g]⟩

theorem Step.frz {ah : List B} {H H' : Heap} {F F1 F' : Nat → Prop} {γ' : List Value} (h1 : ∀ k, F k → F1 k) (h : Step E F1 γ H F' γ' ah H') : Step E F γ H F' γ' ah H' :=
  ⟨h.wr, ⟨fun k hk => h.ext.f k (h1 k hk), fun b o u hb hc => h.ext.h b o u (hb.imp (h1 b) id) hc, h.ext.b, h.ext.g⟩⟩

theorem getLast_append {α : Type _} {l : List α} {x : α} {n : Nat} (h : n = l.length) : (l ++ [x])[n]? = some x := by subst h; simp

theorem d_alloc (hT : TabOk P tab) (hW : WR E F γ s.ah w.heap) {t : Nat} (ho : o.op = .alloc t) (h : Y2 tab s (.alloc t) k) : Dn P s E F γ a w o k := by
  simp only [Y2] at h
  split at h
  · rename_i d ht
    obtain ⟨z, zs, hz, hzs, hr⟩ := hT.zero ht
    refine ⟨_, .pointer (some ⟨w.heap.size, 0, none⟩), { w with heap := w.heap.push (.cells zs.toArray t (0, 0)) }, _, _, F, γ ++ [.pointer (some ⟨w.heap.size, 0, none⟩)], ⟨.inl rfl, ?_⟩, ⟨rfl, rfl, rfl⟩, h, step_push hW (fun k hk => by simp [obv] at hk; omega) ⟨_, t, zs, rfl, by simp, hr _ _ _⟩, ?_, fun _ => Keep.push _ _ _⟩
    · unfold execOp; rw [ho]
      simp [Instr.alloc, hz, newVar, newRow, hzs]
    · exact .ptr (getLast_append hW.len.symm) .nl
  · exact h.elim

theorem d_box (hE : ER F w.heap ⟨E.B, γ⟩ s.env a) (hW : WR E F γ s.ah w.heap) {t : Nat} {x : Operand} (ho : o.op = .box t x) (h : Y2 tab s (.box t x) k) : Dn P s E F γ a w o k := by
  simp only [Y2] at h
  split at h
  · rename_i cs hx
    obtain ⟨vs, hv, hr⟩ := opn_cells hE hx
    have e := hW.ext (W := []) (fun k hk => by cases hk) (Keep.push [] w.heap (.cells vs.toArray t (0, 0))) [.pointer (some ⟨w.heap.size, 0, none⟩)]
    refine ⟨_, .pointer (some ⟨w.heap.size, 0, none⟩), { w with heap := w.heap.push (.cells vs.toArray t (0, 0)) }, _, _, F, γ ++ [.pointer (some ⟨w.heap.size, 0, none⟩)], ⟨.inl rfl, ?_⟩, ⟨rfl, rfl, rfl⟩, h, step_push hW (fun k hk => by simp [obv] at hk; omega) ⟨_, t, vs, rfl, by simp, hr.ext e⟩, ?_, fun _ => Keep.push _ _ _⟩
    · unfold execOp; rw [ho]
      simp [Instr.box, newVar, newRow, hv]
    · exact .ptr (getLast_append hW.len.symm) .nl
  · exact h.elim

theorem partsC_sound {H : Heap} {m : Md} (hE : ER F H m s.env a) : ∀ {l : List (Nat × Operand)} {i : Nat} {css : List (List C)}, partsC s i l = some css →
    ∃ vs : List Value, l.map (fun p => (p.1, a.eval p.2)) = (vs.zipIdx i).map (fun x => (x.2, x.1)) ∧ RLL F H m css (vs.map fun v => v.cells.toList)
  | [], i, css, h => by cases h; exact ⟨[], rfl, .nil⟩
  | (j, x) :: l, i, css, h => by
    unfold partsC at h
    by_cases hij : Nat.beq i j = true
    · rw [hij] at h
      obtain rfl := Nat.eq_of_beq_eq_true hij
      simp only [cond_true] at h
      split at h
      · rename_i cs r hx hr
        cases h
        obtain ⟨vs, h1, h2⟩ := partsC_sound hE hr
        obtain ⟨us, h3, h4⟩ := opn_cells hE hx
        refine ⟨a.eval x :: vs, by simp [h1], ?_⟩
        rw [List.map_cons]
        exact .cons (by rw [h3]; exact h4) h2
      · cases h
    · rw [Bool.not_eq_true] at hij; rw [hij] at h; cases h

theorem RLL.flat {H : Heap} {m : Md} {css : List (List C)} {vss : List (List Value)} (h : RLL F H m css vss) : RL F H m css.flatten vss.flatten := by
  induction h with
  | nil => exact .nl
  | cons h1 _ ih => simp only [List.flatten_cons]; exact h1.append ih
theorem RLL.len {H : Heap} {m : Md} {css : List (List C)} {vss : List (List Value)} (h : RLL F H m css vss) : css.length = vss.length ∧ ∀ (i : Nat) (cs : List C) (vs : List Value), css[i]? = some cs → vss[i]? = some vs → cs.length = vs.length := by
  induction h with
  | nil => exact ⟨rfl, fun i cs vs h => by simp at h⟩
  | cons h1 _ ih =>
    refine ⟨by simp [ih.1], fun i cs vs hc hv => ?_⟩
    cases i with
    | zero => cases hc; cases hv; exact h1.length
    | succ i => exact ih.2 i cs vs (by simpa using hc) (by simpa using hv)

theorem run_buildSlice {t e n size : Nat} {parts : Array (Nat × Value)} {vs : List Value} {z : Value} (ht : P.underlying t = some (.slice e)) (hz : ∀ w, (sizeOf e).run P w = .ok size w) (hzero : ∀ w, (zeroValue e).run P w = .ok z w)
    (hp : parts.toList = (vs.zipIdx 0).map (fun x => (x.2, x.1))) (hn : vs.length = n) (hsm : n * size ≤ 16777216) (hv : ∀ v ∈ vs, v.cells.size = size) (w : World) :
    (Instr.buildSlice t n parts).run P w = .ok (.slice (some ⟨w.heap.size, 0, none⟩) n n) { w with heap := w.heap.push (.cells (vs.map fun v => v.cells.toList).flatten.toArray e (0, 0)) } := by
  have hbig : ¬ 16777216 < n * size := by omega
  have hfill := fun (cur : Array Value) (hc : cur.size = n * size) => fill_all size vs 0 cur hv (by rw [hc]; simp [hn])
  by_cases h0 : n * size = 0
  · have := hfill (Array.map (fun _ => default) (Array.range 0)) (by simp [h0])
    rw [← hp] at this
    simp [Instr.buildSlice, run_underlying ht, hz, h0, newRow]
    simp at this
    rw [this]
    have e0 : (Array.map (fun _ => (default : Value)) (Array.range 0)).toList = [] := by rw [Array.range_zero']; simp
    simp
  · have := hfill ((Array.range (n * size)).map (fun x => z.cells[x % z.cells.size]!)) (by simp)
    rw [← hp] at this
    simp [Instr.buildSlice, run_underlying ht, hz, hbig, h0, hzero, newRow]
    simp at this
    rw [this]
    simp only [hn]
    rw [List.drop_eq_nil_of_le (by simp), List.append_nil]
    rfl

theorem enc_map {α : Type} {enc : α → List C} {xs : List α} : (xs.map enc).flatten = xs.flatMap enc := by
  rw [List.flatMap_def]

theorem closed_append : ∀ {a b : List C}, closedB a = true → closedB b = true → closedB (a ++ b) = true
  | [], b, _, hb => hb
  | c :: a, b, ha, hb => by
    simp only [closedB, List.cons_append, Bool.and_eq_true] at ha ⊢
    exact ⟨ha.1, closed_append ha.2 hb⟩
theorem closed_flatten : ∀ {css : List (List C)}, (∀ cs ∈ css, closedB cs = true) → closedB css.flatten = true
  | [], _ => rfl
  | cs :: r, h => closed_append (h cs (by simp)) (closed_flatten fun x hx => h x (by simp [hx]))

theorem d_buildSlice (hT : TabOk P tab) (hE : ER F w.heap ⟨E.B, γ⟩ s.env a) (hW : WR E F γ s.ah w.heap) {t n : Nat} {parts : Array (Nat × Operand)} (ho : o.op = .buildSlice t n parts) (h : Y2 tab s (.buildSlice t n parts) k) : Dn P s E F γ a w o k := by
  simp only [Y2] at h
  split at h
  · rename_i d ht
    have hk := hT.kind t d ht
    split at h
    · rename_i e hd
      rw [hd] at hk
      split at h
      · rename_i _ _ de css hde hp
        obtain ⟨vs, hvs, hr⟩ := partsC_sound hE hp
        obtain ⟨F1, hF1, hW1, hr1, hl1⟩ := fzs_sound hW hr
        generalize hfz : fzs s.ah css = fr at h hW1 hr1 hl1
        obtain ⟨ah1, css1⟩ := fr
        simp only [] at h hW1 hr1 hl1
        obtain ⟨hc, xs, hxs, h⟩ := bguard h
        simp only [Bool.and_eq_true, List.all_eq_true] at hc
        obtain ⟨⟨⟨hc0, hc1⟩, hc2⟩, hc3⟩ := hc
        have hc0 := Nat.le_of_ble_eq_true hc0
        have hc1 := Nat.eq_of_beq_eq_true hc1
        have hc2 := Nat.le_of_ble_eq_true hc2
        have hsz := hT.size hde
        obtain ⟨z, zs, hz, _, _⟩ := hT.zero hde
        have hlen := hr1.len
        have hvl : vs.length = n := by have := hlen.1; rw [List.length_map] at this; omega
        have hvc : ∀ v ∈ vs, v.cells.size = de.size := fun v hv => by
          obtain ⟨i, hi, rfl⟩ := List.getElem_of_mem hv
          have hi' : i < css1.length := by rw [hc1]; omega
          have h1 := hlen.2 i css1[i] (vs[i].cells.toList) (List.getElem?_eq_getElem hi') (by simp [List.getElem?_eq_getElem hi])
          have h2 := Nat.eq_of_beq_eq_true (hc3 _ (List.getElem_mem hi')).2
          rw [h2] at h1
          simpa using h1.symm
        have hcl : closedB (xs.flatMap de.enc) = true := by
          rw [← enc_map, hxs]
          exact closed_flatten fun cs hcs => (hc3 cs hcs).1
        have hflat : RL F1 w.heap m0 (xs.flatMap de.enc) (vs.map fun v => v.cells.toList).flatten := by
          have := hr1.flat
          rw [← hxs, enc_map] at this
          exact closed_up this hcl
        have hxl : xs.length = n := by rw [← hc1, ← hxs, List.length_map]
        have hne : ∀ x ∈ xs, (de.enc x).length = de.size := fun x hx => by
          have := (hc3 (de.enc x) (by rw [← hxs]; exact List.mem_map.2 ⟨x, hx, rfl⟩)).2
          exact Nat.eq_of_beq_eq_true this
        have hfl := hflat.length
        rw [flat_length hne, hxl] at hfl
        have hnm : n ≤ maxLen := by
          have : n * 1 ≤ n * de.size := Nat.mul_le_mul_left _ hc0
          unfold maxLen; omega
        have hpl : (parts.map fun x => match x with | (i, x) => (i, a.eval x)).toList = (vs.zipIdx 0).map (fun x => (x.2, x.1)) := by
          rw [Array.toList_map]; exact hvs
        have hrun := run_buildSlice hk hsz hz hpl hvl hc2 hvc w
        generalize (vs.map fun v => v.cells.toList).flatten = ws at hrun hflat hfl
        have ex := hW1.ext (W := []) (fun k hk => by cases hk) (Keep.push [] w.heap (.cells ws.toArray e (0, 0))) [.slice (some ⟨w.heap.size, 0, none⟩) n n]
        have hbr : BR F1 (w.heap.push (.cells ws.toArray e (0, 0))) ⟨E.B, γ ++ [.slice (some ⟨w.heap.size, 0, none⟩) n n]⟩ (.row de.size de.α de.enc xs) (.slice (some ⟨w.heap.size, 0, none⟩) n n) := by
          cases n with
          | zero => exact .inl ⟨_, rfl, List.eq_nil_of_length_eq_zero hxl⟩
          | succ n =>
          refine .inr ⟨w.heap.size, 0, n, ws.toArray, e, ws, by rw [hxl], by simp, by omega, hnm, ?_, hflat.ext ex.m0, hne, ?_⟩
          · rw [Nat.zero_add, hfl]; exact Nat.le_refl _
          · show (ws.drop 0).take ws.length = ws
            rw [List.drop_zero, List.take_length]
        refine ⟨_, .slice (some ⟨w.heap.size, 0, none⟩) n n, { w with heap := w.heap.push (.cells ws.toArray e (0, 0)) }, _, _, F1, γ ++ [.slice (some ⟨w.heap.size, 0, none⟩) n n], ⟨.inl rfl, ?_⟩, ⟨rfl, rfl, rfl⟩, h,
          Step.frz hF1 (step_push hW1 (fun k hk => by cases n <;> simp [obv] at hk; omega) hbr), ?_, fun _ => Keep.push _ _ _⟩
        · unfold execOp; rw [ho]
          simp [hrun]
        · exact .rw (getLast_append (by rw [hl1]; exact hW.len.symm)) (fun _ => rfl) .nl
      · exact h.elim
    · exact h.elim
  · exact h.elim

theorem zeros_flat {zs : List Value} {size : Nat} (hzl : zs.length = size) (hpos : 0 < size) (n : Nat) :
    ((Array.range (n * size)).map (fun j => zs.toArray[j % zs.toArray.size]!)).toList = (List.replicate n zs).flatten := by
  have key : ∀ (n j : Nat) (h : j < n * size), ((List.replicate n zs).flatten)[j]? = zs[j % size]? := by
    intro n
    induction n with
    | zero => intro j h; simp at h
    | succ n ih =>
      intro j h
      rw [List.replicate_succ, List.flatten_cons]
      by_cases hjl : j < zs.length
      · rw [List.getElem?_append_left hjl, Nat.mod_eq_of_lt (by omega)]
      · rw [List.getElem?_append_right (by omega), hzl, ih _ (by rw [Nat.succ_mul] at h; omega)]
        congr 1
        rw [Nat.mod_eq_sub_mod (show j ≥ size by omega)]
  refine List.ext_getElem? fun j => ?_
  by_cases hj : j < n * size
  · have hm : j % size < zs.length := by rw [hzl]; exact Nat.mod_lt _ hpos
    rw [key n j hj, List.getElem?_eq_getElem hm]
    simp [hj, hzl]
    rw [List.getElem?_eq_getElem hm]
    rfl
  · rw [List.getElem?_eq_none (by simp; omega), List.getElem?_eq_none (by simp [hzl]; omega)]

theorem run_makeSlice {t e : TypeId} {i : TypeInfo} {z : Value} {size n : Nat} {zs : List Value} (ht : P.underlying t = some (.slice e)) (hi : ∀ w, (typeInfo e).run P w = .ok i w) (hsz : i.size = size) (hz : i.zero = some z) (hzs : z.cells = zs.toArray) (hzl : zs.length = size) (hpos : 0 < size)
    (hfit : (n : Int) * i.bytes ≤ 140737488355328) (hsm : (n : Int) ≤ 9223372036854775807) (w : World) :
    (Instr.makeSlice t (.int .i64 n) (.int .i64 n)).run P w = .ok (.slice (some ⟨w.heap.size, 0, none⟩) n n) { w with heap := w.heap.push (.cells (List.replicate n zs).flatten.toArray e (0, 0)) } := by
  have hsizeOf : ∀ w, (sizeOf e).run P w = .ok size w := fun w => by simp [sizeOf, hi, hsz]
  have hzero : ∀ w, (zeroValue e).run P w = .ok z w := fun w => by simp [zeroValue, hi, hz]
  have hwrap : IntKind.i64.wrap (n : Int) = n := IntWalk.i64_in _ (by omega)
  have h1 : ¬ (n : Int) < 0 := by omega
  have h2 : ¬ (281474976710656 : Int) < i.bytes * n := by rw [Int.mul_comm]; omega
  by_cases h0 : n * size = 0
  · have hn0 : n = 0 := by rcases Nat.mul_eq_zero.1 h0 with h | h <;> omega
    have hw0 : IntKind.i64.wrap 0 = 0 := IntWalk.i64_in _ (by omega)
    subst hn0
    simp [Instr.makeSlice, run_underlying ht, Go.asInt, asIntOf, hi, hw0, hsizeOf, newRow]
    rw [Array.range_zero']
    simp
  · have := zeros_flat hzl hpos n
    simp [Instr.makeSlice, run_underlying ht, Go.asInt, asIntOf, hi, hwrap, h1, h2, hsizeOf, h0, hzero, newRow]
    rw [← this, Array.toArray_toList, hzs]

theorem replicate_flat {α : Type} {enc : α → List C} {z : α} {zs : List Value} {F : Nat → Prop} {H : Heap} {m : Md} (h : RL F H m (enc z) zs) : ∀ n, RL F H m ((List.replicate n z).flatMap enc) (List.replicate n zs).flatten
  | 0 => .nl
  | n + 1 => by rw [List.replicate_succ, List.flatMap_cons, List.replicate_succ, List.flatten_cons]; exact h.append (replicate_flat h n)

theorem d_makeSlice (hT : TabOk P tab) (hE : ER F w.heap ⟨E.B, γ⟩ s.env a) (hW : WR E F γ s.ah w.heap) {t : Nat} {x y : Operand} (ho : o.op = .makeSlice t x y) (h : Y2 tab s (.makeSlice t x y) k) : Dn P s E F γ a w o k := by
  simp only [Y2] at h
  split at h
  · rename_i d ht
    have hk := hT.kind t d ht
    split at h
    · rename_i e hd
      rw [hd] at hk
      split at h
      · rename_i _ _ _ de p q hde hx hy
        obtain ⟨hc, n, z, ⟨rfl, rfl⟩, hez, hfit, h⟩ := bguard h
        simp only [Bool.and_eq_true] at hc
        obtain ⟨⟨⟨hc1, hc2⟩, hc3⟩, hc4⟩ := hc
        have hc2 := Nat.eq_of_beq_eq_true hc2
        have hc3 := Nat.le_of_ble_eq_true hc3
        have hc4 := Nat.le_of_ble_eq_true hc4
        obtain ⟨i, zv, zs, hi, hsz, hby, hz, hzs, hr⟩ := hT.info e de hde
        have hzl : zs.length = de.size := by rw [← (hr F w.heap m0).length]; exact hc2
        have hvx := opn_c hE hx
        have hvy := opn_c hE hy
        generalize hv : a.eval x = v at hvx
        generalize hv' : a.eval y = v' at hvy
        cases hvx; cases hvy
        have hib : (n : Int) * i.bytes ≤ 140737488355328 := by rw [hby, ← Int.natCast_mul]; omega
        have hnb : n ≤ n * de.bytes := Nat.le_mul_of_pos_right _ hc4
        have hnm : n ≤ maxLen := by unfold maxLen; omega
        have hrun := run_makeSlice (P := P) (n := n) hk hi hsz hz hzs hzl hc3 hib (by omega) w
        have hflat : RL F w.heap m0 ((List.replicate n z).flatMap de.enc) (List.replicate n zs).flatten := replicate_flat (by rw [hez]; exact hr _ _ _) n
        have hne : ∀ x ∈ List.replicate n z, (de.enc x).length = de.size := fun x hx => by rw [(List.mem_replicate.1 hx).2, hez]; exact hc2
        have hfl := hflat.length
        rw [flat_length hne, List.length_replicate] at hfl
        generalize (List.replicate n zs).flatten = ws at hrun hflat hfl
        have ex := hW.ext (W := []) (fun k hk => by cases hk) (Keep.push [] w.heap (.cells ws.toArray e (0, 0))) [.slice (some ⟨w.heap.size, 0, none⟩) n n]
        have hbr : BR F (w.heap.push (.cells ws.toArray e (0, 0))) ⟨E.B, γ ++ [.slice (some ⟨w.heap.size, 0, none⟩) n n]⟩ (.row de.size de.α de.enc (List.replicate n z)) (.slice (some ⟨w.heap.size, 0, none⟩) n n) := by
          cases n with
          | zero => exact .inl ⟨_, rfl, rfl⟩
          | succ n =>
          refine .inr ⟨w.heap.size, 0, n, ws.toArray, e, ws, by rw [List.length_replicate], by simp, by simp, hnm, ?_, hflat.ext ex.m0, hne, ?_⟩
          · rw [Nat.zero_add, hfl]; exact Nat.le_refl _
          · show (ws.drop 0).take ws.length = ws
            rw [List.drop_zero, List.take_length]
        refine ⟨_, .slice (some ⟨w.heap.size, 0, none⟩) n n, { w with heap := w.heap.push (.cells ws.toArray e (0, 0)) }, _, _, F, γ ++ [.slice (some ⟨w.heap.size, 0, none⟩) n n], ⟨.inl rfl, ?_⟩, ⟨rfl, rfl, rfl⟩, h,
          step_push hW (fun k hk => by cases n <;> simp [obv] at hk; omega) hbr, ?_, fun _ => Keep.push _ _ _⟩
        · unfold execOp; rw [ho]
          simp [hv, hv', hrun]
        · exact .rw (getLast_append hW.len.symm) (fun _ => rfl) .nl
      · exact h.elim
    · exact h.elim
  · exact h.elim
end
end Go.AM
