/- WALKS, N6: refs: their commits: numbers in order, each once. -/
import Derived.Test.YtgbppkcebaoebaaN5
section
namespace Go.Nest
open Go Go.AM Go.Proofs
open Go.Proofs.Ytgbppkcebaoebaa (tab tabOk)
set_option linter.unusedVariables false
set_option linter.unusedSimpArgs false
set_option maxRecDepth 4000
theorem len64_0 : Does Try.prog 47 [.c (.int .u64 0)] [] (Rt (.c (.int .i64 0)) []) := by
  refine X_spec (n := 25) (n0 := 0) tabOk Try.call47 Try.func47 ?_
  intro hb
  (conv => whnf)
  refine ⟨0, 0, rfl, rfl, ?_⟩
  (conv => whnf)
  refine ⟨⟨by decide, by decide⟩, ?_⟩
  repeat' ((conv => whnf); first | (refine dec (fun h => ?_) (fun h => ?_) <;> try contradiction) | (refine decN (fun h => ?_) (fun h => ?_) <;> try contradiction) | refine booN (fun h => ?_) (fun h => ?_) | refine boo (fun h => ?_) (fun h => ?_) | refine ⟨i64 (by omega) (by omega), ?_⟩ | refine ⟨_, _, rfl, List.getElem?_eq_getElem (by omega), ?_⟩ | refine ⟨_, ⟨rfl, by omega⟩, ?_⟩ | refine ⟨_, List.getElem?_eq_getElem (by omega), ?_⟩ | refine rtB ?_ | refine rtI ?_ | refine rtC ?_ rfl | fail)
  rfl
theorem lenB_0 : Does Try.prog 35 [.c (.int .u64 0)] [] (Rt (.c (.int .i64 0)) []) := by
  refine X_spec (n := 8) (n0 := 0) tabOk Try.call35 Try.func35 ?_
  intro hb
  (conv => whnf)
  refine cl [] [] (len64_0) ?_
  repeat' ((conv => whnf); first | (refine dec (fun h => ?_) (fun h => ?_) <;> try contradiction) | (refine decN (fun h => ?_) (fun h => ?_) <;> try contradiction) | refine booN (fun h => ?_) (fun h => ?_) | refine boo (fun h => ?_) (fun h => ?_) | refine ⟨i64 (by omega) (by omega), ?_⟩ | refine ⟨_, _, rfl, List.getElem?_eq_getElem (by omega), ?_⟩ | refine ⟨_, ⟨rfl, by omega⟩, ?_⟩ | refine ⟨_, List.getElem?_eq_getElem (by omega), ?_⟩ | refine rtB ?_ | refine rtI ?_ | refine rtC ?_ rfl | fail)
  rfl
theorem insSort_0 : Does Try.prog 37 [.c (.rw 0), .c (.int .i64 0), .c (.int .i64 0)] [.row 1 Int encI []] (Rt (.tup []) [.row 1 Int encI []]) := by
  refine X_spec (n := 49) (n0 := 1) tabOk Try.call37 Try.func37 ?_
  intro hb
  (conv => whnf)
  refine ⟨i64 (by decide) (by decide), ?_⟩
  (conv => whnf)
  refine lp Unit (fun _ => ⟨[(2, .c (.int .i64 0)), (6, .c (.int .i64 1))], [.row 1 Int encI []]⟩) (fun _ => True) (fun _ => 0) () [] [.same 0] trivial ?_ (fun x hx => ?_)
  · repeat' first | exact trivial | exact rfl | refine And.intro ?_ ?_
  (conv => whnf)
  exact rx [] [.same 0]
theorem pdq_0 : Does Try.prog 34 [.c (.rw 0), .c (.int .i64 0), .c (.int .i64 0), .c (.int .i64 0)] [.row 1 Int encI []] (Rt (.tup []) [.row 1 Int encI []]) := by
  refine X_spec (n := 134) (n0 := 1) tabOk Try.call34 Try.func34 ?_
  intro hb
  (conv => whnf)
  refine lp Unit (fun _ => ⟨[(0, .c (.rw 0)), (1, .c (.int .i64 0)), (2, .c (.int .i64 0))], [.row 1 Int encI []]⟩) (fun _ => True) (fun _ => 0) () [] [.same 0] trivial ?_ (fun x hx => ?_)
  · repeat' first | exact trivial | exact rfl | refine And.intro ?_ ?_
  (conv => whnf)
  refine ⟨i64 (by decide) (by decide), ?_⟩
  (conv => whnf)
  refine cl [] [0] (insSort_0) ?_
  (conv => whnf)
  exact rx [] [.same 0]
theorem sort_0 : Does Try.prog 25 [.c (.rw 0)] [.row 1 Int encI []] (Rt (.tup []) [.row 1 Int encI []]) := by
  refine X_spec (n := 11) (n0 := 1) tabOk Try.call25 Try.func25 ?_
  intro hb
  (conv => whnf)
  refine cl [] [] (lenB_0) ?_
  (conv => whnf)
  refine cl [] [0] (pdq_0) ?_
  (conv => whnf)
  exact rx [] [.same 0]
theorem sortI_spec (l : List Int) (hl : l.length ≤ 1000000) : Does Try.prog 25 [.c (.rw 0)] [.row 1 Int encI l] (Rt (.tup []) [.row 1 Int encI (l.mergeSort fun x y => decide (x ≤ y))]) := by
  by_cases h : l = []
  · subst h
    rw [show (([] : List Int).mergeSort fun x y => decide (x ≤ y)) = [] from List.eq_nil_of_length_eq_zero (List.length_mergeSort [])]
    exact sort_0
  · exact sortInts_spec l h hl
/-! ### all commits -/
def idsOf (x : Mv) : List Int := [x.old, x.new].filter fun y => decide (0 ≤ y)
def idsU (m : List Mv) (i : Nat) : List Int := (m.take i).flatMap idsOf
def idsR (m : List Mv) : List Int := ddI ((m.flatMap idsOf).mergeSort fun x y => decide (x ≤ y))
theorem idsU_succ {m : List Mv} {i : Nat} (h : i < m.length) : idsU m (i + 1) = idsU m i ++ idsOf m[i] := by
  unfold idsU
  rw [List.take_succ_eq_append_getElem h, List.flatMap_append]; simp
theorem idsOf_len {x : Mv} : (idsOf x).length ≤ 2 := by unfold idsOf; exact List.length_filter_le ..
theorem idsU_len {m : List Mv} {i : Nat} (h : i ≤ m.length) : (idsU m i).length ≤ 2 * i := by
  induction i with
  | zero => simp [idsU]
  | succ i ih => rw [idsU_succ (by omega), List.length_append]; have := ih (by omega); have := idsOf_len (x := m[i]); omega
/-- what was gone through of two -/
def pairU (x : Mv) (k : Nat) : List Int := ([x.old, x.new].take k).filter fun y => decide (0 ≤ y)
theorem pairU_succ {x : Mv} {k : Nat} (h : k < 2) : pairU x (k + 1) = pairU x k ++ (if 0 ≤ ([x.old, x.new][k]'(by simpa using h)) then [[x.old, x.new][k]'(by simpa using h)] else []) := by
  unfold pairU
  rw [List.take_succ_eq_append_getElem (by simpa using h), List.filter_append]
  congr 1
  by_cases h2 : 0 ≤ [x.old, x.new][k]'(by simpa using h)
  · rw [if_pos h2]; simp [h2]
  · rw [if_neg h2]; simp [h2]
theorem pairU_len {x : Mv} {k : Nat} : (pairU x k).length ≤ 2 := Nat.le_trans (List.length_filter_le ..) (by rw [List.length_take]; simp; omega)
theorem mrg_len {l : List Int} : (l.mergeSort fun x y => decide (x ≤ y)).length = l.length := List.length_mergeSort l
set_option maxHeartbeats 1000000 in
theorem idsRefs_spec (l : List Rf) (m : List Mv) (hm : m.length ≤ 1000) : Does Try.prog 14 [.c (.bp [.bs 2 Rf encRf l, .bs 3 Mv encMv m])] [] (Rt (.c (.rw 0)) [.row 1 Int encI (idsR m)]) := by
  refine X_spec (n := 39) (n0 := 0) tabOk Try.call14 Try.func14 ?_
  intro hb
  (conv => whnf)
  refine lp Nat (fun i => ⟨[(3, .c (.rw 0)), (11, .c (.bs 3 Mv encMv m)), (12, .c (.int .i64 m.length)), (13, .c (.int .i64 i))], [.row 1 Int encI (idsU m i)]⟩) (fun i => i ≤ m.length ∧ True) (fun i => m.length - i) 0 [] [.new] ?_ ?_ (fun i hi => ?_)
  · simp
  · repeat' first | exact trivial | exact rfl | refine And.intro ?_ ?_
  (conv => whnf)
  refine dec (fun h4 => ?_) (fun h4 => ?_)
  · have hlt : i < m.length := by omega
    have hul := idsU_len (m := m) (i := i) (by omega)
    (conv => whnf)
    refine ⟨i, m[i], rfl, List.getElem?_eq_getElem hlt, ?_⟩
    (conv => whnf)
    refine ⟨[m[i].old, m[i].new], rfl, ?_⟩
    have hus := idsU_succ hlt
    generalize m[i] = x at *
    generalize idsU m i = out at *
    (conv => whnf)
    refine lp Nat (fun k => ⟨[(3, .c (.rw 0)), (11, .c (.bs 3 Mv encMv m)), (12, .c (.int .i64 m.length)), (13, .c (.int .i64 i)), (21, .c (.rw 1)), (22, .c (.int .i64 2)), (23, .c (.int .i64 k))], [.row 1 Int encI (out ++ pairU x k), .row 1 Int encI [x.old, x.new]]⟩) (fun k => k ≤ 2 ∧ True) (fun k => 2 - k) 0 [] [.same 0, .same 2] ?_ ?_ (fun k hk => ?_)
    · simp
    · rw [show pairU x 0 = [] from rfl, List.append_nil]
      repeat' first | exact trivial | exact rfl | refine And.intro ?_ ?_
    have hpl := pairU_len (x := x) (k := k)
    (conv => whnf)
    refine dec (fun h5 => ?_) (fun h5 => ?_)
    · have hkl : k < 2 := by omega
      have hps := pairU_succ (x := x) hkl
      generalize pairU x k = pk at *
      have hpk : k < [x.old, x.new].length := by simpa using hkl
      (conv => whnf)
      refine ⟨k, ⟨rfl, hpk⟩, ?_⟩
      (conv => whnf)
      refine ⟨[x.old, x.new][k], List.getElem?_eq_getElem hpk, ?_⟩
      (conv => whnf)
      refine dec (fun h6 => ?_) (fun h6 => ?_)
      · rw [if_pos h6] at hps
        (conv => whnf)
        refine ⟨[[x.old, x.new][k]], rfl, ?_⟩
        (conv => whnf)
        refine ⟨_, _, rfl, rfl, (by simp only [List.length_append, List.length_cons, List.length_nil]; omega), ?_⟩
        repeat' ((conv => whnf); first | (refine dec (fun h => ?_) (fun h => ?_) <;> try contradiction) | (refine decN (fun h => ?_) (fun h => ?_) <;> try contradiction) | refine booN (fun h => ?_) (fun h => ?_) | refine boo (fun h => ?_) (fun h => ?_) | refine ⟨i64 (by omega) (by omega), ?_⟩ | refine ⟨_, _, rfl, List.getElem?_eq_getElem (by omega), ?_⟩ | refine ⟨_, ⟨rfl, by omega⟩, ?_⟩ | refine ⟨_, List.getElem?_eq_getElem (by omega), ?_⟩ | refine rtB ?_ | refine rtI ?_ | refine rtC ?_ rfl | fail)
        refine ag (k + 1) [] [.same 3, .same 1] ⟨hkl, trivial⟩ (by simp only []; omega) ?_
        rw [hps, ← List.append_assoc]
        repeat' first | exact trivial | exact rfl | refine And.intro ?_ ?_
      · rw [if_neg h6, List.append_nil] at hps
        repeat' ((conv => whnf); first | (refine dec (fun h => ?_) (fun h => ?_) <;> try contradiction) | (refine decN (fun h => ?_) (fun h => ?_) <;> try contradiction) | refine booN (fun h => ?_) (fun h => ?_) | refine boo (fun h => ?_) (fun h => ?_) | refine ⟨i64 (by omega) (by omega), ?_⟩ | refine ⟨_, _, rfl, List.getElem?_eq_getElem (by omega), ?_⟩ | refine ⟨_, ⟨rfl, by omega⟩, ?_⟩ | refine ⟨_, List.getElem?_eq_getElem (by omega), ?_⟩ | refine rtB ?_ | refine rtI ?_ | refine rtC ?_ rfl | fail)
        refine ag (k + 1) [] [.same 0, .same 1] ⟨hkl, trivial⟩ (by simp only []; omega) ?_
        rw [hps]
        repeat' first | exact trivial | exact rfl | refine And.intro ?_ ?_
    · obtain rfl : k = 2 := by omega
      rw [show pairU x 2 = idsOf x from rfl, ← hus]
      repeat' ((conv => whnf); first | (refine dec (fun h => ?_) (fun h => ?_) <;> try contradiction) | (refine decN (fun h => ?_) (fun h => ?_) <;> try contradiction) | refine booN (fun h => ?_) (fun h => ?_) | refine boo (fun h => ?_) (fun h => ?_) | refine ⟨i64 (by omega) (by omega), ?_⟩ | refine ⟨_, _, rfl, List.getElem?_eq_getElem (by omega), ?_⟩ | refine ⟨_, ⟨rfl, by omega⟩, ?_⟩ | refine ⟨_, List.getElem?_eq_getElem (by omega), ?_⟩ | refine rtB ?_ | refine rtI ?_ | refine rtC ?_ rfl | fail)
      refine ag (i + 1) [] [.same 0] ⟨hlt, trivial⟩ (by simp only []; omega) ?_
      repeat' first | exact trivial | exact rfl | refine And.intro ?_ ?_
  · obtain rfl : i = m.length := by omega
    have hul := idsU_len (m := m) (i := m.length) (Nat.le_refl _)
    have e : idsU m m.length = m.flatMap idsOf := by unfold idsU; rw [List.take_length]
    rw [e] at hul ⊢
    (conv => whnf)
    refine cl [] [0] (sortI_spec (m.flatMap idsOf) (by omega)) ?_
    (conv => whnf)
    refine cl [] [0] (compact_spec ((m.flatMap idsOf).mergeSort fun x y => decide (x ≤ y)) (by rw [mrg_len]; omega)) ?_
    (conv => whnf)
    exact rx [] [.same 1]
/-! ### by the document -/
def idsS (m : List Mv) (i : Nat) : List Int := (m.take i).foldl (fun out x => sortI ((out ++ [x.old]) ++ [x.new])) []
def idsM (m : List Mv) : List Int := (idsS m m.length).dropWhile fun x => decide (x < 0)
theorem idsS_succ {m : List Mv} {i : Nat} (h : i < m.length) : idsS m (i + 1) = sortI ((idsS m i ++ [m[i].old]) ++ [m[i].new]) := by
  unfold idsS
  rw [List.take_succ_eq_append_getElem h, List.foldl_append]; rfl
theorem sortI_le {l : List Int} : (sortI l).length ≤ l.length := by
  have := sortI_len (l := l) (out := [])
  unfold sortI; simpa using this
theorem idsS_ok {m : List Mv} : ∀ {i : Nat}, i ≤ m.length → (idsS m i).Pairwise (· < ·) ∧ (idsS m i).length ≤ 2 * i ∧ ∀ y, y ∈ idsS m i ↔ ∃ x ∈ m.take i, y = x.old ∨ y = x.new
  | 0, _ => ⟨.nil, Nat.zero_le _, fun y => by simp [idsS]⟩
  | i + 1, h => by
    obtain ⟨h1, h2, h3⟩ := idsS_ok (m := m) (i := i) (by omega)
    rw [idsS_succ (by omega)]
    refine ⟨sortI_rise, ?_, fun y => ?_⟩
    · have := sortI_le (l := (idsS m i ++ [m[i].old]) ++ [m[i].new])
      simp only [List.length_append, List.length_singleton] at this
      omega
    · rw [sortI_mem, List.mem_append, List.mem_append, List.mem_singleton, List.mem_singleton, h3, List.take_succ_eq_append_getElem (by omega)]
      simp only [List.mem_append, List.mem_singleton]
      constructor
      · rintro ((⟨x, hx, e⟩ | e) | e)
        · exact ⟨x, .inl hx, e⟩
        · exact ⟨_, .inr rfl, .inl e⟩
        · exact ⟨_, .inr rfl, .inr e⟩
      · rintro ⟨x, hx | rfl, e⟩
        · exact .inl (.inl ⟨x, hx, e⟩)
        · rcases e with e | e
          · exact .inl (.inr e)
          · exact .inr e
theorem dropWhile_mem {y : Int} : ∀ {l : List Int}, l.Pairwise (· < ·) → (y ∈ l.dropWhile (fun x => decide (x < 0)) ↔ y ∈ l ∧ 0 ≤ y)
  | [], _ => by simp
  | x :: l, h => by
    obtain ⟨h1, h2⟩ := List.pairwise_cons.1 h
    rw [List.dropWhile_cons]
    split
    · rename_i hx
      have hx : x < 0 := by simpa using hx
      rw [dropWhile_mem h2, List.mem_cons]
      constructor
      · rintro ⟨a, b⟩; exact ⟨.inr a, b⟩
      · rintro ⟨a | a, b⟩
        · omega
        · exact ⟨a, b⟩
    · rename_i hx
      have hx : ¬ x < 0 := by simpa using hx
      constructor
      · intro hy
        refine ⟨hy, ?_⟩
        rcases List.mem_cons.1 hy with rfl | hy
        · omega
        · have := h1 y hy; omega
      · exact And.left
theorem ids_same (m : List Mv) : idsR m = idsM m := by
  obtain ⟨h1, _, h3⟩ := idsS_ok (m := m) (i := m.length) (Nat.le_refl _)
  refine rise_uniq ?_ (h1.sublist (List.dropWhile_sublist _)) fun y => ?_
  · refine dd_rise .nil ?_ (fun x hx => by cases hx)
    have := List.pairwise_mergeSort (le := fun x y : Int => decide (x ≤ y)) (fun a b c h1 h2 => by simp at *; omega) (fun a b => by simp; omega) (m.flatMap idsOf)
    exact this.imp fun h => by simpa using h
  · unfold idsM idsR ddI
    rw [dropWhile_mem h1, h3, List.take_length, ddI_mem, List.mem_mergeSort, List.mem_flatMap]
    constructor
    · rintro (h | ⟨x, hx, h⟩)
      · cases h
      · unfold idsOf at h
        rw [List.mem_filter] at h
        obtain ⟨h4, h5⟩ := h
        exact ⟨⟨x, hx, by simpa using h4⟩, by simpa using h5⟩
    · rintro ⟨⟨x, hx, h4⟩, h5⟩
      refine .inr ⟨x, hx, ?_⟩
      unfold idsOf
      rw [List.mem_filter]
      exact ⟨by simpa using h4, by simpa using h5⟩
set_option maxHeartbeats 1000000 in
theorem idsN_spec (m : List Mv) (hm : m.length ≤ 1000) : Does Try.prog 15 [.c (.bp [.bs 3 Mv encMv m])] [] (Rt (.c (.rw 0)) [.row 1 Int encI (idsM m)]) := by
  refine X_spec (n := 48) (n0 := 0) tabOk Try.call15 Try.func15 ?_
  intro hb
  (conv => whnf)
  refine lp Nat (fun i => ⟨[(0, .c (.bp [.bs 3 Mv encMv m])), (3, .c (.rw 0)), (4, .c (.int .i64 i))], [.row 1 Int encI (idsS m i)]⟩) (fun i => i ≤ m.length ∧ True) (fun i => m.length - i) 0 [] [.new] ?_ ?_ (fun i hi => ?_)
  · simp
  · repeat' first | exact trivial | exact rfl | refine And.intro ?_ ?_
  obtain ⟨q1, q2, _⟩ := idsS_ok (m := m) (i := i) hi.1
  (conv => whnf)
  refine dec (fun h4 => ?_) (fun h4 => ?_)
  · have hlt : i < m.length := by omega
    have hs := idsS_succ hlt
    generalize idsS m i = out at *
    (conv => whnf)
    refine ⟨false, .prot [], (.alt [0, 1, 2, 3, 4, 5, 6, 7, 8, 11, 12, 13, 14, 15, 16, 17, 18] [9, 19] fun j => bif Nat.beq j 9 then (.alt [] [10, 19] fun j => bif Nat.beq j 10 then (.l [19, 20, 21, 22]) else bif Nat.beq j 19 then (.l [10, 20, 21, 22]) else .l []) else bif Nat.beq j 19 then (.l [9, 10, 20, 21, 22]) else .l []), by kernel_rfl, .inl ?_⟩
    (conv => whnf)
    refine ⟨i, m[i], rfl, List.getElem?_eq_getElem hlt, ?_⟩
    (conv => whnf)
    refine ⟨i, m[i], rfl, List.getElem?_eq_getElem hlt, ?_⟩
    (conv => whnf)
    refine And.intro ?_ ?_
    · (conv => whnf)
      refine ⟨[m[i].old], rfl, ?_⟩
      (conv => whnf)
      refine And.intro ?_ ?_
      · (conv => whnf)
        refine ⟨_, _, rfl, rfl, (by simp only [List.length_append, List.length_cons, List.length_nil]; omega), ?_⟩
        (conv => whnf)
        refine ⟨[m[i].new], rfl, ?_⟩
        (conv => whnf)
        refine ⟨_, _, rfl, rfl, (by simp only [List.length_append, List.length_cons, List.length_nil]; omega), ?_⟩
        (conv => whnf)
        refine cl [] [] (sortedI_spec ((out ++ [m[i].old]) ++ [m[i].new]) (by simp only [List.length_append, List.length_singleton]; omega)) ?_
        repeat' ((conv => whnf); first | (refine dec (fun h => ?_) (fun h => ?_) <;> try contradiction) | (refine decN (fun h => ?_) (fun h => ?_) <;> try contradiction) | refine booN (fun h => ?_) (fun h => ?_) | refine boo (fun h => ?_) (fun h => ?_) | refine ⟨i64 (by omega) (by omega), ?_⟩ | refine ⟨_, _, rfl, List.getElem?_eq_getElem (by omega), ?_⟩ | refine ⟨_, ⟨rfl, by omega⟩, ?_⟩ | refine ⟨_, List.getElem?_eq_getElem (by omega), ?_⟩ | refine rtB ?_ | refine rtI ?_ | refine rtC ?_ rfl | fail)
        refine ag (i + 1) [] [.same 5] ⟨hlt, trivial⟩ (by simp only []; omega) ?_
        rw [hs]
        repeat' first | exact trivial | exact rfl | refine And.intro ?_ ?_
      · (conv => whnf)
        refine ⟨[m[i].new], rfl, ?_⟩
        (conv => whnf)
        refine ⟨_, _, rfl, rfl, (by simp only [List.length_append, List.length_cons, List.length_nil]; omega), ?_⟩
        (conv => whnf)
        refine ⟨_, _, rfl, rfl, (by simp only [List.length_append, List.length_cons, List.length_nil]; omega), ?_⟩
        (conv => whnf)
        refine cl [] [] (sortedI_spec ((out ++ [m[i].old]) ++ [m[i].new]) (by simp only [List.length_append, List.length_singleton]; omega)) ?_
        repeat' ((conv => whnf); first | (refine dec (fun h => ?_) (fun h => ?_) <;> try contradiction) | (refine decN (fun h => ?_) (fun h => ?_) <;> try contradiction) | refine booN (fun h => ?_) (fun h => ?_) | refine boo (fun h => ?_) (fun h => ?_) | refine ⟨i64 (by omega) (by omega), ?_⟩ | refine ⟨_, _, rfl, List.getElem?_eq_getElem (by omega), ?_⟩ | refine ⟨_, ⟨rfl, by omega⟩, ?_⟩ | refine ⟨_, List.getElem?_eq_getElem (by omega), ?_⟩ | refine rtB ?_ | refine rtI ?_ | refine rtC ?_ rfl | fail)
        refine ag (i + 1) [] [.same 5] ⟨hlt, trivial⟩ (by simp only []; omega) ?_
        rw [hs]
        repeat' first | exact trivial | exact rfl | refine And.intro ?_ ?_
    · (conv => whnf)
      refine ⟨[m[i].new], rfl, ?_⟩
      (conv => whnf)
      refine ⟨[m[i].old], rfl, ?_⟩
      (conv => whnf)
      refine ⟨_, _, rfl, rfl, (by simp only [List.length_append, List.length_cons, List.length_nil]; omega), ?_⟩
      (conv => whnf)
      refine ⟨_, _, rfl, rfl, (by simp only [List.length_append, List.length_cons, List.length_nil]; omega), ?_⟩
      (conv => whnf)
      refine cl [] [] (sortedI_spec ((out ++ [m[i].old]) ++ [m[i].new]) (by simp only [List.length_append, List.length_singleton]; omega)) ?_
      repeat' ((conv => whnf); first | (refine dec (fun h => ?_) (fun h => ?_) <;> try contradiction) | (refine decN (fun h => ?_) (fun h => ?_) <;> try contradiction) | refine booN (fun h => ?_) (fun h => ?_) | refine boo (fun h => ?_) (fun h => ?_) | refine ⟨i64 (by omega) (by omega), ?_⟩ | refine ⟨_, _, rfl, List.getElem?_eq_getElem (by omega), ?_⟩ | refine ⟨_, ⟨rfl, by omega⟩, ?_⟩ | refine ⟨_, List.getElem?_eq_getElem (by omega), ?_⟩ | refine rtB ?_ | refine rtI ?_ | refine rtC ?_ rfl | fail)
      refine ag (i + 1) [] [.same 5] ⟨hlt, trivial⟩ (by simp only []; omega) ?_
      rw [hs]
      repeat' first | exact trivial | exact rfl | refine And.intro ?_ ?_
  · obtain rfl : i = m.length := by omega
    (conv => whnf)
    refine lp (List Int) (fun r => ⟨[(3, .c (.rw 0))], [.row 1 Int encI r]⟩) (fun r => r.dropWhile (fun x => decide (x < 0)) = idsM m ∧ True) (fun r => r.length) (idsS m m.length) [] [.same 0] ⟨rfl, trivial⟩ ?_ (fun r hr => ?_)
    · repeat' first | exact trivial | exact rfl | refine And.intro ?_ ?_
    obtain ⟨hr, _⟩ := hr
    match r, hr with
    | [], hr =>
      rw [← hr]
      (conv => whnf)
      exact rx [] [.same 0]
    | x :: r, hr =>
      (conv => whnf)
      refine dec (fun h5 => ?_) (fun h5 => absurd (by simp only [List.length_cons]; omega) h5)
      (conv => whnf)
      refine ⟨0, ⟨rfl, by simp⟩, ?_⟩
      (conv => whnf)
      refine ⟨x, rfl, ?_⟩
      (conv => whnf)
      refine dec (fun h6 => ?_) (fun h6 => ?_)
      · rw [List.dropWhile_cons, if_pos (by simpa using h6)] at hr
        (conv => whnf)
        refine ⟨1, (x :: r).length, rfl, rfl, ⟨by simp, Nat.le_refl _⟩, ?_⟩
        (conv => whnf)
        refine ag r [] [.cut 1 0 1 ((x :: r).length - 1)] ⟨hr, trivial⟩ (by simp) ?_
        repeat' first | exact trivial | exact rfl | refine And.intro ?_ ?_
        · simp only [List.length_cons]; omega
        · simp
      · rw [List.dropWhile_cons, if_neg (by simpa using h6)] at hr
        rw [← hr]
        (conv => whnf)
        exact rx [] [.same 0]
end Go.Nest
end
/- WALKS, N7: refs begun; steps. -/
section
namespace Go.Nest
open Go Go.AM Go.Proofs
open Go.Proofs.Ytgbppkcebaoebaa (tab tabOk)
set_option linter.unusedVariables false
set_option linter.unusedSimpArgs false
set_option maxRecDepth 4000
theorem newRefs_spec : Does Try.prog 7 [] [] (Rt (.c (.ptr 0 0)) [.box [.rw 1, .rw 2], .row 2 Rf encRf [], .row 3 Mv encMv []]) := by
  refine X_spec (n := 3) (n0 := 0) tabOk Try.call7 Try.func7 ?_
  intro hb
  (conv => whnf)
  exact rx [] [.same 0, .new, .new]
/-- a step -/
structure Rs where
  name : List UInt8
  old : Int
  id : Int
  right : Bool
def encRs (x : Rs) : List C := [.str x.name, .int .i64 x.old, .int .i64 x.id, .bool x.right]
def oldR (l : List Rf) (x : Rs) : Int := if x.right = true then getR l x.name else x.old
theorem Refd.set {l : List Rf} {m : List Mv} (h : Refd l m) (n : List UInt8) (old id : Int) : Refd (setL l n old id) (setV l m n old id) := by
  unfold setL setV
  split
  · rename_i hc; exact .snoc h hc
  · exact h
theorem setV_len {l : List Rf} {m : List Mv} {n : List UInt8} {old id : Int} : (setV l m n old id).length ≤ m.length + 1 := by
  unfold setV; split <;> simp
/-- moves that came about, done again -/
theorem Refd.again {l : List Rf} {m : List Mv} (h : Refd l m) : ∀ (i : Nat) (hi : i < m.length), Refd (listM (m.take i)) (m.take i) ∧ codeR (listM (m.take i)) m[i].name m[i].old m[i].new = 0 := by
  induction h with
  | nil => intro i hi; cases hi
  | @snoc l m n old id h hc ih =>
    intro i hi
    rw [List.length_append, List.length_singleton] at hi
    by_cases e : i = m.length
    · subst e
      rw [List.take_left' rfl, h.inv.list, List.getElem_concat_length rfl]
      exact ⟨h, hc⟩
    · have hi' : i < m.length := by omega
      rw [List.take_append_of_le_length (by omega), List.getElem_append_left hi']
      exact ih i hi'
theorem again_upd {l : List Rf} {m : List Mv} (h : Refd l m) {i : Nat} (hi : i < m.length) : updR (listM (m.take i)) m[i].name m[i].new = listM (m.take (i + 1)) := by
  obtain ⟨h1, h2⟩ := h.again i hi
  have h3 := (Refd.snoc h1 h2).inv.list
  rw [List.take_succ_eq_append_getElem hi, ← h3]
theorem ids_has {l : List Rf} {m : List Mv} (h : RInv l m) {r : Rf} (hr : r ∈ l) : r.id ∈ idsR m := by
  have h3 := h.ids r hr
  have h4 := (hasR_mem h.sort hr).2
  rw [h.get] at h4
  obtain ⟨x, hx, _, e2⟩ := getM_mem (m := m) (n := r.name) (by rw [h4]; omega)
  unfold idsR ddI
  rw [ddI_mem]
  refine .inr ?_
  rw [List.mem_mergeSort, List.mem_flatMap]
  refine ⟨x, hx, ?_⟩
  unfold idsOf
  rw [List.mem_filter]
  exact ⟨by simp [← h4, ← e2], by simpa using h3⟩
def nA : List UInt8 := [97]
def mA1 : List Mv := [⟨nA, -1, 5⟩]
def mA2 : List Mv := [⟨nA, -1, 5⟩, ⟨nA, 5, -1⟩]
theorem rb1 : codeR [] nA (-1) 5 = 0 ∧ setL [] nA (-1) 5 = [⟨nA, 5⟩] ∧ setV [] [] nA (-1) 5 = mA1 := by decide +kernel
theorem rb2 : codeR [⟨nA, 5⟩] nA 4 6 = 12 ∧ setL [⟨nA, 5⟩] nA 4 6 = [⟨nA, 5⟩] ∧ setV [⟨nA, 5⟩] mA1 nA 4 6 = mA1 := by decide +kernel
theorem rb3 : codeR [⟨nA, 5⟩] nA 5 (-1) = 0 ∧ setL [⟨nA, 5⟩] nA 5 (-1) = [] ∧ setV [⟨nA, 5⟩] mA1 nA 5 (-1) = mA2 := by decide +kernel
theorem rb4 : getR [⟨nA, 5⟩] nA = 5 ∧ getR [] nA = -1 := by decide +kernel
theorem rb5 : (idsR mA2).length = 1 := by
  rw [ids_same]
  decide +kernel
theorem refsBegun_spec : Does Try.prog 6 [] [] (Rt (.c (.bool true)) []) := by
  have s0 : RSort [⟨nA, 5⟩] := List.pairwise_singleton ..
  have p1 := setR_spec [] [] nA (-1) 5 .nil (fun r h => by cases h) (by decide) (by decide)
  have p2 := setR_spec [⟨nA, 5⟩] mA1 nA 4 6 s0 (fun r h => by simp at h; subst h; decide) (by decide) (by decide)
  have p3 := setR_spec [⟨nA, 5⟩] mA1 nA 5 (-1) s0 (fun r h => by simp at h; subst h; decide) (by decide) (by decide)
  have p4 := getRefs_spec [⟨nA, 5⟩] mA1 nA s0 (by decide)
  have p5 := getRefs_spec [] mA2 nA .nil (by decide)
  rw [rb1.1, rb1.2.1, rb1.2.2] at p1
  rw [rb2.1, rb2.2.1, rb2.2.2] at p2
  rw [rb3.1, rb3.2.1, rb3.2.2] at p3
  rw [rb4.1] at p4
  rw [rb4.2] at p5
  refine X_spec (n := 38) (n0 := 0) tabOk Try.call6 Try.func6 ?_
  intro hb
  (conv => whnf)
  refine cl [] [] (newRefs_spec) ?_
  (conv => whnf)
  refine cl [] [0, 1, 2] (p1) ?_
  (conv => whnf)
  refine cl [] [] (p4) ?_
  (conv => whnf)
  refine cl [] [0, 3, 4] (p2) ?_
  (conv => whnf)
  refine cl [] [0, 5, 6] (p3) ?_
  (conv => whnf)
  refine cl [] [] (p5) ?_
  (conv => whnf)
  refine cl [] [] (movesRefs_spec [] mA2 (by decide)) ?_
  (conv => whnf)
  refine cl [] [] (idsRefs_spec [] mA2 (by decide)) ?_
  (conv => whnf)
  exact rtB (by rw [decide_eq_true_iff, rb5]; rfl)
end Go.Nest
end
