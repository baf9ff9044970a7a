/- THE ENGINE, part 5: operations that change memory: new blocks, stores, slices that are built, made, appended to. -/
import Derived.Test.YtgbppkcebaoebaaWalk
namespace Go.NB

section
variable {c : Cx} {env : Env} {H : Heap} {Q : Exit → Act → World → Prop} {ops : Array Oper} {o : Oper} {rest : List Oper} {d : Nat}

/-- an operation that yields a value and leaves another heap -/
theorem WL.new {v : Value} {H' : Heap} (hg : o.guard = .none) (hd : o.dst = some d) (hlt : Nat.blt d c.n = true)
    (h : ∀ a w, Fr c env a → w.heap = H → ∃ w', (execOp a.eval o).run c.P w = .ok (.value v) w' ∧ w'.heap = H' ∧ Amb w w') (k : WL c ops rest ((d, true, v) :: env) H' Q) : WL c ops (o :: rest) env H Q := by
  intro a w hf hw hA
  have hlt' : d < c.n := Nat.le_of_ble_eq_true hlt
  refine wpList_plain hg fun K hK => ?_
  obtain ⟨w', hr, hh, hA'⟩ := h a w hf hw
  unfold Oper.wp
  rw [hr]
  simp only [Oper.upon, hd]
  exact hK _ _ (k _ w' (hf.put hlt' true v) hh (hA.trans hA'))

theorem WL.newAny {Φ : Value → Heap → Prop} (hg : o.guard = .none) (hd : o.dst = some d) (hlt : Nat.blt d c.n = true)
    (h : ∀ a w, Fr c env a → w.heap = H → ∃ v w', (execOp a.eval o).run c.P w = .ok (.value v) w' ∧ Φ v w'.heap ∧ Amb w w') (k : ∀ v H', Φ v H' → WL c ops rest ((d, true, v) :: env) H' Q) : WL c ops (o :: rest) env H Q := by
  intro a w hf hw hA
  have hlt' : d < c.n := Nat.le_of_ble_eq_true hlt
  refine wpList_plain hg fun K hK => ?_
  obtain ⟨v, w', hr, hh, hA'⟩ := h a w hf hw
  unfold Oper.wp
  rw [hr]
  simp only [Oper.upon, hd]
  exact hK _ _ (k v _ hh _ w' (hf.put hlt' true v) rfl (hA.trans hA'))

theorem WL.unit {H' : Heap} (hg : o.guard = .none) (hd : o.dst = .none)
    (h : ∀ a w, Fr c env a → w.heap = H → ∃ w', (execOp a.eval o).run c.P w = .ok .skip w' ∧ w'.heap = H' ∧ Amb w w') (k : WL c ops rest env H' Q) : WL c ops (o :: rest) env H Q := by
  intro a w hf hw hA
  refine wpList_plain hg fun K hK => ?_
  obtain ⟨w', hr, hh, hA'⟩ := h a w hf hw
  unfold Oper.wp
  rw [hr]
  simp only [Oper.upon, hd]
  exact hK _ _ (k _ w' hf hh (hA.trans hA'))

theorem Bx.push (H : Heap) (e : TypeId) (cs : List Value) : Bx (H.push (.cells cs.toArray e (0, 0))) H.size e cs := by
  unfold Bx; simp

theorem WL.alloc {e : TypeId} {z : Value} {zs : List Value} (hg : o.guard = .none) (hd : o.dst = some d) (hlt : Nat.blt d c.n = true) (ho : o.op = .alloc e)
    (hz : ∀ w, (zeroValue e).run c.P w = .ok z w) (hzs : z.cells = zs.toArray)
    (k : ∀ g H', Bx H' g e zs → H.size ≤ g → Keep [] H H' → WL c ops rest ((d, true, .pointer (some ⟨g, 0, none⟩)) :: env) H' Q) : WL c ops (o :: rest) env H Q := by
  refine WL.new (H' := H.push (.cells zs.toArray e (0, 0))) (v := .pointer (some ⟨H.size, 0, none⟩)) hg hd hlt (fun a w hf hw => ?_) (k _ _ (Bx.push _ _ _) (Nat.le_refl _) (Keep.push _ _ _))
  subst hw
  unfold execOp; rw [ho]
  refine ⟨{ w with heap := w.heap.push (.cells zs.toArray e (0, 0)) }, ?_, rfl, ⟨rfl, rfl, rfl⟩⟩
  simp [Instr.alloc, hz, newVar, newRow, hzs]

theorem WL.box {e : TypeId} {x : Operand} {v : Value} {cs : List Value} (hg : o.guard = .none) (hd : o.dst = some d) (hlt : Nat.blt d c.n = true) (ho : o.op = .box e x) (hx : Ev env x v) (hcs : v.cells = cs.toArray)
    (k : ∀ g H', Bx H' g e cs → H.size ≤ g → Keep [] H H' → WL c ops rest ((d, true, .pointer (some ⟨g, 0, none⟩)) :: env) H' Q) : WL c ops (o :: rest) env H Q := by
  refine WL.new (H' := H.push (.cells cs.toArray e (0, 0))) (v := .pointer (some ⟨H.size, 0, none⟩)) hg hd hlt (fun a w hf hw => ?_) (k _ _ (Bx.push _ _ _) (Nat.le_refl _) (Keep.push _ _ _))
  subst hw
  unfold execOp; rw [ho]
  refine ⟨{ w with heap := w.heap.push (.cells cs.toArray e (0, 0)) }, ?_, rfl, ⟨rfl, rfl, rfl⟩⟩
  simp [Instr.box, hf.eval hx, newVar, newRow, hcs]

/-! ### Stores -/
theorem setRow_Bx {w : World} {g : Nat} {e : TypeId} {old new : List Value} (h : Bx w.heap g e old) : Bx (w.setRow g new.toArray).heap g e new := setRow_heap w g _ _ _ _ h
theorem setRow_keep (w : World) (g : Nat) (cs : Array Value) : Keep [g] w.heap (w.setRow g cs).heap :=
  ⟨by simp [World.setRow], fun k hk hm => setRow_other w g k cs (by simpa using hm)⟩

theorem WL.store {t e : TypeId} {x y : Operand} {g off : Nat} {v : Value} {vs cs : List Value} (hg : o.guard = .none) (hd : o.dst = .none) (ho : o.op = .store t x y)
    (hx : Ev env x (.pointer (some ⟨g, off, none⟩))) (hy : Ev env y v) (hvs : v.cells = vs.toArray) (hz : ∀ w, (sizeOf t).run c.P w = .ok vs.length w) (hone : ∀ u ∈ vs, u.oneCell' = true)
    (hb : Bx H g e cs) (hfit : off + vs.length ≤ cs.length)
    (k : ∀ H', Bx H' g e (cs.take off ++ vs ++ cs.drop (off + vs.length)) → Keep [g] H H' → WL c ops rest env H' Q) : WL c ops (o :: rest) env H Q := by
  intro a w hf hw hA
  refine wpList_plain hg fun K hK => ?_
  subst hw
  have hs := run_storeCells_at c.P g off e vs 0 cs.toArray w hb (by simpa using hfit) hone
  simp only [Nat.add_zero] at hs
  have hr : (execOp a.eval o).run c.P w = .ok .skip (w.setRow g (cs.take off ++ vs ++ cs.drop (off + vs.length)).toArray) := by
    unfold execOp; rw [ho]
    simp [hf.eval hx, hf.eval hy, Instr.storeAt, Instr.sureAddr, storeVar, hvs, hz, hs]
  unfold Oper.wp
  rw [hr]
  simp only [Oper.upon, hd]
  exact hK _ _ (k _ (setRow_Bx hb) (setRow_keep _ _ _) _ _ hf rfl (hA.trans ⟨rfl, rfl, rfl⟩))

/-! ### Slices that are built -/
theorem fold_set (l : List Value) : ∀ (off i : Nat) (cur : Array Value), off + i + l.length ≤ cur.size →
    ((l.zipIdx i).foldl (fun cs (x : Value × Nat) => cs.setIfInBounds (off + x.2) x.1) cur).toList = cur.toList.take (off + i) ++ l ++ cur.toList.drop (off + i + l.length) := by
  induction l with
  | nil => intro off i cur h; simp
  | cons u l ih =>
    intro off i cur h
    simp only [List.zipIdx_cons, List.foldl_cons]
    rw [ih off (i + 1) _ (by simp at h ⊢; omega)]
    simp only [Array.toList_setIfInBounds, List.length_cons]
    have hi : off + i < cur.toList.length := by simp at h ⊢; omega
    rw [show off + (i + 1) = (off + i) + 1 by omega, List.take_succ_eq_append_getElem (by simpa using hi), List.getElem_set_self, List.take_set_of_le (by omega), List.drop_set_of_lt (by omega)]
    simp only [List.append_assoc, List.singleton_append]
    rw [show off + i + 1 + l.length = off + i + (l.length + 1) by omega]

theorem fill_all (size : Nat) : ∀ (vs : List Value) (k : Nat) (cur : Array Value), (∀ v ∈ vs, v.cells.size = size) → (k + vs.length) * size ≤ cur.size →
    Instr.fill (fun i => some (i * size, size)) cur ((vs.zipIdx k).map fun x => (x.2, x.1)) = some (cur.toList.take (k * size) ++ (vs.map fun v => v.cells.toList).flatten ++ cur.toList.drop ((k + vs.length) * size)).toArray
  | [], k, cur, _, _ => by simp [Instr.fill]
  | v :: vs, k, cur, hv, hle => by
    have h1 : v.cells.size = size := hv v (by simp)
    have hks : k * size + size ≤ cur.size := by
      refine Nat.le_trans ?_ hle
      rw [← Nat.succ_mul]
      exact Nat.mul_le_mul_right _ (by simp)
    simp only [List.zipIdx_cons, List.map_cons, Instr.fill]
    rw [if_neg (by simp [h1]; omega)]
    have hfold := fold_set v.cells.toList (k * size) 0 cur (by simp [h1]; omega)
    have hz : v.cells.zipIdx.foldl (fun cs (x : Value × Nat) => cs.setIfInBounds (k * size + x.2) x.1) cur = ((v.cells.toList.zipIdx 0).foldl (fun cs (x : Value × Nat) => cs.setIfInBounds (k * size + x.2) x.1) cur) := by
      rw [← Array.foldl_toList]; simp
    have hsz : (v.cells.zipIdx.foldl (fun cs (x : Value × Nat) => cs.setIfInBounds (k * size + x.2) x.1) cur).size = cur.size := by
      rw [hz]
      have := congrArg List.length hfold
      simp [h1] at this
      omega
    rw [fill_all size vs (k + 1) _ (fun u hu => hv u (by simp [hu])) (by rw [hsz]; refine Nat.le_trans (Nat.le_of_eq ?_) hle; simp; congr 1; omega)]
    rw [hz, hfold]
    simp only [Nat.add_zero, List.length_cons, List.flatten_cons, Array.length_toList, h1]
    have hl : (List.take (k * size) cur.toList).length = k * size := by simp; omega
    have e1 : (k + 1) * size = (List.take (k * size) cur.toList ++ v.cells.toList).length := by rw [List.length_append, hl]; simp [h1, Nat.succ_mul]
    have e2 : (k + 1 + vs.length) * size = (k + (vs.length + 1)) * size := by congr 1; omega
    rw [e2, e1, List.take_left, List.drop_append]
    have e3 : (List.take (k * size) cur.toList ++ v.cells.toList).length = k * size + size := by rw [← e1, Nat.succ_mul]
    rw [e3]
    have e4 : (k + (vs.length + 1)) * size = k * size + size + vs.length * size := by
      rw [show k + (vs.length + 1) = k + 1 + vs.length by omega, Nat.add_mul, Nat.succ_mul]
    rw [e4, List.drop_eq_nil_of_le (by rw [e3]; omega), List.nil_append, List.drop_drop, show k * size + size + vs.length * size - (k * size + size) = vs.length * size by omega]
    simp [List.append_assoc]

theorem Evs.length {xs : List Operand} {vs : List Value} (h : Evs env xs vs) : vs.length = xs.length := by
  induction h with
  | nil => rfl
  | cons _ _ ih => simp [ih]

theorem WL.buildSlice {t e : TypeId} {n size : Nat} {xs : List Operand} {vs css : List Value} {z : Value} (hg : o.guard = .none) (hd : o.dst = some d) (hlt : Nat.blt d c.n = true)
    (ho : o.op = .buildSlice t n ((xs.zipIdx).map fun x => (x.2, x.1)).toArray) (ht : c.P.underlying t = some (.slice e)) (hz : ∀ w, (sizeOf e).run c.P w = .ok size w) (hzero : ∀ w, (zeroValue e).run c.P w = .ok z w) 
    (hx : Evs env xs vs) (hn : xs.length = n) (hsm : n * size ≤ 16777216) (hv : ∀ v ∈ vs, v.cells.size = size) (hcs : (vs.map fun v => v.cells.toList).flatten = css)
    (k : ∀ g H', Bx H' g e css → H.size ≤ g → Keep [] H H' → WL c ops rest ((d, true, .slice (some ⟨g, 0, none⟩) n n) :: env) H' Q) : WL c ops (o :: rest) env H Q := by
  have hl : vs.length = n := by rw [← hn, hx.length]
  refine WL.new (H' := H.push (.cells css.toArray e (0, 0))) (v := .slice (some ⟨H.size, 0, none⟩) n n) hg hd hlt (fun a w hf hw => ?_) (k _ _ (Bx.push _ _ _) (Nat.le_refl _) (Keep.push _ _ _))
  subst hw
  have hev := hx.eval hf
  have hmap : (((xs.zipIdx).map fun x => (x.2, x.1)).map fun x : Nat × Operand => match x with | (i, x) => (i, a.eval x)) = (vs.zipIdx 0).map fun x => (x.2, x.1) := by
    rw [← hev, List.zipIdx_map]
    simp only [List.map_map]
    rfl
  have hfill := fun (cur : Array Value) (hc : cur.size = n * size) => fill_all size vs 0 cur hv (by rw [hc]; simp [hl])
  refine ⟨{ w with heap := w.heap.push (.cells css.toArray e (0, 0)) }, ?_, rfl, ⟨rfl, rfl, rfl⟩⟩
  have hbig : ¬ 16777216 < n * size := by omega
  unfold execOp; rw [ho]
  simp only [List.map_toArray, hmap]
  by_cases h0 : n * size = 0
  · have := hfill (Array.map (fun _ => default) (Array.range 0)) (by simp [h0])
    simp [Instr.buildSlice, run_underlying ht, hz, h0, newRow]
    rw [this]
    have e0 : (Array.map (fun _ => (default : Value)) (Array.range 0)).toList = [] := by rw [Array.range_zero']; simp
    simp only [e0, List.take_nil, List.drop_nil, List.nil_append, List.append_nil, hcs]
    rfl
  · have := hfill ((Array.range (n * size)).map (fun x => z.cells[x % z.cells.size]!)) (by simp)
    simp [Instr.buildSlice, run_underlying ht, hz, hbig, h0, hzero, newRow]
    simp at this
    rw [this]
    simp only [hl]
    rw [List.drop_eq_nil_of_le (by simp), List.append_nil, hcs]
    rfl

/-! ### append -/

/-- what is appended: m elements with these cells -/
def Src (P : Program) (H : Heap) (size : Nat) (x : Value) (m : Nat) (news : List Value) : Prop :=
  ∀ w : World, w.heap = H → (Builtin.lenOf x).run P w = .ok m w ∧ (Builtin.firstCells size m x).run P w = .ok news.toArray w

theorem Src.sl {α : Type} {T : Ty α} {P : Program} {M : List Nat} {x : Value} {xs : List α} (h : Sl T H M x xs) : ∃ news, Src P H T.size x xs.length news ∧ Elems T H M news xs := by
  rcases h with ⟨p, rfl, rfl⟩ | ⟨b, off, cap, rfl, hb, hm, h1, h2, h3, h4⟩
  · refine ⟨[], fun w _ => ⟨by simp [Builtin.lenOf], ?_⟩, .nil⟩
    cases p with
    | none => simp [Builtin.firstCells]
    | some a =>
      have := run_loadCells_list (P := P) (w := w) a [] (by simp)
      simpa [Builtin.firstCells] using this
  · obtain ⟨css, he, hc⟩ := Sl.flat_aux xs off h4
    refine ⟨css, fun w hw => ⟨by simp [Builtin.lenOf], ?_⟩, he⟩
    exact run_firstCells_some w T.size xs.length ⟨b, off, none⟩ _ cap css he.length (fun j v hj => by rw [Addr.add_lit, cell?_of hw]; exact hc j v hj)

theorem Src.bx {P : Program} {g m cp size : Nat} {e : TypeId} {cs : List Value} (h : Bx H g e cs) (hl : cs.length = m * size) : Src P H size (.slice (some ⟨g, 0, none⟩) m cp) m cs := fun w hw => by
  refine ⟨by simp [Builtin.lenOf], ?_⟩
  exact run_firstCells_some w size m ⟨g, 0, none⟩ _ cp cs hl (fun j v hj => by rw [Addr.add_lit, cell?_of hw, Nat.zero_add, h.cell]; exact hj)

theorem Src.str {P : Program} (l : List UInt8) : Src P H 1 (str l) l.length (l.map bv) := fun w _ => by
  refine ⟨by simp [Builtin.lenOf, NB.str]; rfl, ?_⟩
  simp only [Builtin.firstCells, NB.str]
  have e : (ByteArray.extract ⟨l.toArray⟩ 0 l.length).data = l.toArray := by
    simp [ByteArray.data_extract]
  simp
  intro b _
  rfl

theorem Row.src {P : Program} {e : TypeId} {size : Nat} {v : Value} {n : Nat} {cs : List Value} (h : Row H e size v n cs) : Src P H size v n cs := fun w hw => by
  rcases h.2 with ⟨rfl, rfl⟩ | ⟨g, cap, cur, rfl, hg, h1, h2, h3, h4⟩
  · have : cs = [] := List.eq_nil_of_length_eq_zero (by simpa using h.1)
    subst this
    exact ⟨by simp [Builtin.lenOf], by simp [Builtin.firstCells]⟩
  · refine ⟨by simp [Builtin.lenOf], ?_⟩
    refine run_firstCells_some w size n ⟨g, 0, none⟩ _ cap cs h.1 (fun j v hj => ?_)
    rw [Addr.add_lit, cell?_of hw, Nat.zero_add]
    unfold NB.cell
    rw [hg]
    rw [← h4, List.getElem?_take] at hj
    split at hj
    · simpa using hj
    · cases hj

theorem WL.append {t t2 e : TypeId} {i : TypeInfo} {z v x : Value} {s y : Operand} {size n m : Nat} {cs news : List Value} {dx : TypeDesc} (hg : o.guard = .none) (hd : o.dst = some d) (hlt : Nat.blt d c.n = true)
    (ho : o.op = .call { callee := .builtin .append, args := #[s, y], argTypes := #[t, t2] }) (ht : c.P.underlying t = some (.slice e)) (ht2 : c.P.underlying t2 = some dx) (hnx : ∀ k, dx ≠ .int k)
    (hi : ∀ w, (typeInfo e).run c.P w = .ok i w) (hsz : i.size = size) (hz : i.zero = some z) (hzs : z.cells.size = size)
    (hs : Ev env s v) (hy : Ev env y x) (hr : Row H e size v n cs) (hsrc : Src c.P H size x m news) (hone : ∀ u ∈ news, u.oneCell' = true) (hnl : news.length = m * size) (hfit : (n + m) * i.bytes ≤ 140737488355328) (hml : n + m ≤ 9223372036854775807)
    (k : ∀ v' H', Row H' e size v' (n + m) (cs ++ news) → Keep (ob v) H H' → (∀ b ∈ ob v', b ∈ ob v ∨ H.size ≤ b) → WL c ops rest ((d, true, v') :: env) H' Q) : WL c ops (o :: rest) env H Q := by
  refine WL.newAny (Φ := fun v' H' => Row H' e size v' (n + m) (cs ++ news) ∧ Keep (ob v) H H' ∧ (∀ b ∈ ob v', b ∈ ob v ∨ H.size ≤ b)) hg hd hlt (fun a w hf hw => ?_) (fun v' H' h => k v' H' h.1 h.2.1 h.2.2)
  have hlen : (cs ++ news).length = (n + m) * size := by rw [List.length_append, hr.1, hnl, Nat.add_mul]
  have hsizeOf : ∀ w, (sizeOf e).run c.P w = .ok size w := fun w => by simp [sizeOf, hi, hsz]
  have hzero : ∀ w, (zeroValue e).run c.P w = .ok z w := fun w => by simp [zeroValue, hi, hz]
  obtain ⟨hs1, hs2⟩ := hsrc w hw
  have hmx : n + m ≤ maxLen := hml
  -- a new row
  have grow : ∀ (p : Option Addr) (cp : Nat), v = .slice p n cp → cp < n + m → ∃ v' w', (execOp a.eval o).run c.P w = .ok (.value v') w' ∧ (Row w'.heap e size v' (n + m) (cs ++ news) ∧ Keep (ob v) H w'.heap ∧ (∀ b ∈ ob v', b ∈ ob v ∨ H.size ≤ b)) ∧ Amb w w' := by
    intro p cp hv hcp
    have hge := grownCap_ge w (n + m) cp e
    have hcm : grownCap w (n + m) cp e ≤ maxLen := grownCap_le_maxLen w (n + m) cp e hmx
    have hfits := growslice_fits hcp hfit
    have hold : ∀ w' : World, w'.heap = H → (Builtin.firstCells size n (.slice p n cp)).run c.P w' = .ok cs.toArray w' := fun w' hw' => by rw [← hv]; exact (Row.src (P := c.P) hr w' hw').2
    refine ⟨.slice (some ⟨w.heap.size, 0, none⟩) (n + m) (grownCap w (n + m) cp e), w.drew.alloc (.cells (cs.toArray ++ news.toArray ++ Builtin.zeroCells z.cells (grownCap w (n + m) cp e - (n + m))) e), ?_, ⟨⟨hlen, .inr ⟨w.heap.size, _, _, rfl, heap_alloc_new w.drew _, hge, hcm, ?_, ?_⟩⟩, ?_, ?_⟩, ⟨rfl, rfl, rfl⟩⟩
    · have h1 := hold w.drew hw
      have h2 := (hsrc w.drew hw).2
      unfold execOp; rw [ho]
      have hnle : ¬ n + m ≤ cp := by omega
      have hn63 : ¬ ((9223372036854775807 : Int) < (n : Int) + (m : Int)) := by omega
      have hnf : ¬ 281474976710656 < Builtin.nextslicecap (n + m) cp * i.bytes := by omega
      simp [resolve, invoke, builtin, hf.eval hs, hf.eval hy, hv, Builtin.append_, run_underlying ht, run_underlying ht2, hsizeOf, hs1, hnle, hi, hn63, hnf, hzero, newRow]
      have hch : Question.forced (.appendCap (n + m) cp e) = false := rfl
      simp [hch]
      rw [h1]
      simp [h2]
      refine ⟨rfl, ?_⟩
      have e2 : (cs ++ news).toArray = cs.toArray ++ news.toArray := by simp
      rw [e2, Array.append_assoc]
      rfl
    · simp only [Array.size_append, List.size_toArray, size_zeroCells, hzs, hr.1, hnl, ← Nat.add_mul]
      congr 1
      omega
    · simp only [Array.toList_append, List.append_assoc]
      rw [← List.append_assoc, ← hlen]
      exact List.take_left
    · rw [← hw]
      exact (Keep.push [] w.heap _).nil
    · intro b hb
      simp [ob] at hb
      subst hb
      rw [hw]
      exact .inr (Nat.le_refl _)
  rcases hr.2 with ⟨hv, hn⟩ | ⟨g, cap, cur, hv, hg', h1, h2, h3, h4⟩
  · by_cases hm : m = 0
    · have hcs : cs = [] := List.eq_nil_of_length_eq_zero (by rw [hr.1, hn]; simp)
      have hnews : news = [] := List.eq_nil_of_length_eq_zero (by rw [hnl, hm]; simp)
      subst hn hm hcs hnews hv
      refine ⟨.slice none 0 0, w, ?_, ⟨by rw [hw]; exact Row.nil _ _ _, by rw [hw]; exact Keep.refl _ _, fun b hb => by simp [ob] at hb⟩, Amb.refl _⟩
      unfold execOp; rw [ho]
      simp [resolve, invoke, builtin, hf.eval hs, hf.eval hy, Builtin.append_, run_underlying ht, run_underlying ht2, hsizeOf, hs1, hs2]
    · subst hn
      exact grow none 0 hv (by omega)
  · by_cases hroom : n + m ≤ cap
    · have hst := run_storeCells_at c.P g (n * size) e news 0 cur w (by rw [hw]; exact hg') (by rw [h3, hnl, Nat.add_zero, ← Nat.add_mul]; exact Nat.mul_le_mul_right _ hroom) hone
      simp only [Nat.add_zero] at hst
      refine ⟨.slice (some ⟨g, 0, none⟩) (n + m) cap, w.setRow g (cur.toList.take (n * size) ++ news ++ cur.toList.drop (n * size + news.length)).toArray, ?_, ⟨⟨hlen, .inr ⟨g, cap, _, rfl, setRow_heap w g cur _ e _ (by rw [hw]; exact hg'), hroom, h2, ?_, ?_⟩⟩, ?_, ?_⟩, ⟨rfl, rfl, rfl⟩⟩
      · unfold execOp; rw [ho]
        simp [resolve, invoke, builtin, hf.eval hs, hf.eval hy, hv, Builtin.append_, run_underlying ht, run_underlying ht2, hsizeOf, hs1, hs2, hroom, Addr.add_lit, hst]
      · have : n * size + m * size ≤ cap * size := by rw [← Nat.add_mul]; exact Nat.mul_le_mul_right _ hroom
        simp only [List.size_toArray, List.length_append, List.length_take, List.length_drop, Array.length_toList]
        omega
      · rw [h4, ← hlen]
        exact List.take_left
      · rw [← hw, hv]
        exact setRow_keep w g _
      · intro b hb
        rw [hv]
        exact .inl hb
    · exact grow _ cap hv (by omega)

/-! ### make -/
theorem WL.make {t e : TypeId} {i : TypeInfo} {z : Value} {x y : Operand} {size n : Nat} {zs : List Value} {p q : Int} (hg : o.guard = .none) (hd : o.dst = some d) (hlt : Nat.blt d c.n = true)
    (ho : o.op = .makeSlice t x y) (ht : c.P.underlying t = some (.slice e)) (hi : ∀ w, (typeInfo e).run c.P w = .ok i w) (hsz : i.size = size) (hz : i.zero = some z) (hzs : z.cells = zs.toArray) (hzl : zs.length = size) (hpos : 0 < size)
    (hx : Ev env x (iv p)) (hy : Ev env y (iv q)) (hp : p = (n : Int)) (hq : q = (n : Int)) (hfit : (n : Int) * i.bytes ≤ 140737488355328) (hb : 0 < i.bytes)
    (k : ∀ v H', Row H' e size v n (List.replicate n zs).flatten → Keep [] H H' → (∀ b ∈ ob v, H.size ≤ b) → (∃ g, v = .slice (some ⟨g, 0, none⟩) n n) → WL c ops rest ((d, true, v) :: env) H' Q) : WL c ops (o :: rest) env H Q := by
  subst hp hq
  have hlarge : (n : Int) ≤ 140737488355328 := by
    have : (n : Int) * 1 ≤ (n : Int) * i.bytes := Int.mul_le_mul_of_nonneg_left (by omega) (by omega)
    omega
  have hflat : ∀ n : Nat, ((Array.range (n * size)).map (fun j => z.cells[j % z.cells.size]!)).toList = (List.replicate n zs).flatten := by
    intro n
    refine List.ext_getElem? fun j => ?_
    by_cases hj : j < n * size
    · have hm : j % size < zs.length := by rw [hzl]; exact Nat.mod_lt _ hpos
      have : ((List.replicate n zs).flatten)[j]? = some (zs[j % size]) := by
        have key : ∀ (n j : Nat) (h : j < n * size), ((List.replicate n zs).flatten)[j]? = zs[j % size]? := by
          intro n
          induction n with
          | zero => intro j h; simp at h
          | succ n ih =>
            intro j h
            rw [List.replicate_succ, List.flatten_cons]
            by_cases hjl : j < zs.length
            · rw [List.getElem?_append_left hjl, Nat.mod_eq_of_lt (by omega)]
            · rw [List.getElem?_append_right (by omega), hzl, ih _ (by rw [Nat.succ_mul] at h; omega)]
              congr 1
              rw [Nat.mod_eq_sub_mod (show j ≥ size by omega)]
        rw [key n j hj, List.getElem?_eq_getElem hm]
      rw [this]
      simp [hj, hzs, hzl]
      rw [List.getElem?_eq_getElem hm]
      rfl
    · rw [List.getElem?_eq_none (by simp; omega), List.getElem?_eq_none (by simp [hzl]; omega)]
  refine WL.new (H' := H.push (.cells (List.replicate n zs).flatten.toArray e (0, 0))) (v := .slice (some ⟨H.size, 0, none⟩) n n) hg hd hlt (fun a w hf hw => ?_)
    (k _ _ ⟨by simp [hzl], .inr ⟨H.size, n, (List.replicate n zs).flatten.toArray, rfl, by simp, Nat.le_refl _, by unfold maxLen; omega, by simp [hzl], List.take_of_length_le (by simp [hzl])⟩⟩ (Keep.push _ _ _) (fun b hb => by simp [ob] at hb; omega) ⟨_, rfl⟩)
  subst hw
  have hsizeOf : ∀ w, (sizeOf e).run c.P w = .ok size w := fun w => by simp [sizeOf, hi, hsz]
  have hzero : ∀ w, (zeroValue e).run c.P w = .ok z w := fun w => by simp [zeroValue, hi, hz]
  refine ⟨{ w with heap := w.heap.push (.cells (List.replicate n zs).flatten.toArray e (0, 0)) }, ?_, rfl, ⟨rfl, rfl, rfl⟩⟩
  have hwrap : IntKind.i64.wrap (n : Int) = n := IntWalk.i64_in _ (by omega)
  have h1 : ¬ (n : Int) < 0 := by omega
  have h2 : ¬ (281474976710656 : Int) < i.bytes * n := by rw [Int.mul_comm]; omega
  unfold execOp; rw [ho]
  by_cases h0 : n * size = 0
  · have hn0 : n = 0 := by rcases Nat.mul_eq_zero.1 h0 with h | h <;> omega
    have h0' : (0 : Int) < 9223372036854775808 := by omega
    have hw0 : IntKind.i64.wrap 0 = 0 := IntWalk.i64_in _ (by omega)
    subst hn0
    simp [iv, hf.eval hx, hf.eval hy, Instr.makeSlice, run_underlying ht, asInt, asIntOf, hi, hw0, hsizeOf, newRow]
    rw [Array.range_zero']
    simp
  · have := hflat n
    simp [iv, hf.eval hx, hf.eval hy, Instr.makeSlice, run_underlying ht, asInt, asIntOf, hi, hwrap, h1, h2, hsizeOf, h0, hzero, newRow]
    rw [← this, Array.toArray_toList]
end
end Go.NB
