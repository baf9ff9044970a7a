/- WALKS, N2: refs: looked up. -/
import Derived.Test.YtgbppkcebaoebaaN1
import Derived.Test.YtgbppkcebaoebaaI1
import Derived.Test.YtgbppkcebaoebaaG1b
section
namespace Go.Nest
open Go Go.AM Go.Proofs
open Go.Proofs.Ytgbppkcebaoebaa (tab tabOk)
set_option linter.unusedVariables false
set_option linter.unusedSimpArgs false
set_option maxRecDepth 4000
theorem halfN {e : Int} {k : Nat} (h : e / 2 = k) (h0 : 0 ≤ e) (h1 : e ≤ 4000) : IntKind.i64.wrap ((IntKind.u64.wrap e).fdiv (2 ^ min (Int.toNat 1) IntKind.u64.bits)) = (k : Int) := by
  have e1 : (2 : Int) ^ min (Int.toNat 1) IntKind.u64.bits = 2 := by decide
  have wu : IntKind.u64.wrap e = e % 18446744073709551616 := by simp [IntKind.wrap, IntKind.bits, IntKind.signed]
  rw [wu, IntKind.wrap_i64, e1, Int.fdiv_eq_ediv_of_nonneg _ (by omega)]
  omega
theorem at1_spec (r : Rf) (n : List UInt8) : Does Try.prog 30 [.st (encRf r), .c (.str n)] [] (Rt (.c (.int .i64 (cmpN r.name n))) []) := by
  refine X_spec (n := 15) (n0 := 0) tabOk Try.call30 Try.func30 ?_
  intro hb
  unfold cmpN
  (conv => whnf)
  refine boo (fun h => ?_) (fun h => ?_)
  · rw [if_pos h]
    repeat' ((conv => whnf); first | (refine dec (fun h => ?_) (fun h => ?_) <;> try contradiction) | (refine decN (fun h => ?_) (fun h => ?_) <;> try contradiction) | refine booN (fun h => ?_) (fun h => ?_) | refine boo (fun h => ?_) (fun h => ?_) | refine ⟨i64 (by omega) (by omega), ?_⟩ | refine ⟨_, _, rfl, List.getElem?_eq_getElem (by omega), ?_⟩ | refine ⟨_, ⟨rfl, by omega⟩, ?_⟩ | refine ⟨_, List.getElem?_eq_getElem (by omega), ?_⟩ | refine rtB ?_ | refine rtI ?_ | refine rtC ?_ rfl | fail)
    rfl
  · rw [if_neg (by simp [h])]
    (conv => whnf)
    refine booN (fun h2 => ?_) (fun h2 => ?_)
    · rw [h, Bool.false_or, decide_eq_false_iff_not] at h2
      rw [if_neg h2]
      repeat' ((conv => whnf); first | (refine dec (fun h => ?_) (fun h => ?_) <;> try contradiction) | (refine decN (fun h => ?_) (fun h => ?_) <;> try contradiction) | refine booN (fun h => ?_) (fun h => ?_) | refine boo (fun h => ?_) (fun h => ?_) | refine ⟨i64 (by omega) (by omega), ?_⟩ | refine ⟨_, _, rfl, List.getElem?_eq_getElem (by omega), ?_⟩ | refine ⟨_, ⟨rfl, by omega⟩, ?_⟩ | refine ⟨_, List.getElem?_eq_getElem (by omega), ?_⟩ | refine rtB ?_ | refine rtI ?_ | refine rtC ?_ rfl | fail)
      rfl
    · rw [h, Bool.false_or, decide_eq_true_iff] at h2
      rw [if_pos h2]
      repeat' ((conv => whnf); first | (refine dec (fun h => ?_) (fun h => ?_) <;> try contradiction) | (refine decN (fun h => ?_) (fun h => ?_) <;> try contradiction) | refine booN (fun h => ?_) (fun h => ?_) | refine boo (fun h => ?_) (fun h => ?_) | refine ⟨i64 (by omega) (by omega), ?_⟩ | refine ⟨_, _, rfl, List.getElem?_eq_getElem (by omega), ?_⟩ | refine ⟨_, ⟨rfl, by omega⟩, ?_⟩ | refine ⟨_, List.getElem?_eq_getElem (by omega), ?_⟩ | refine rtB ?_ | refine rtI ?_ | refine rtC ?_ rfl | fail)
      rfl
set_option maxHeartbeats 2000000 in
theorem search_spec (l : List Rf) (n : List UInt8) (hs : RSort l) (hl : l.length ≤ 1000) : Does Try.prog 29 [.c (.bs 2 Rf encRf l), .c (.str n), .c (.fn 30 [])] [] (Rt (.tup [(false, [.int .i64 (posR l n)]), (false, [.bool (hasR l n)])]) []) := by
  refine X_spec (n := 49) (n0 := 0) tabOk Try.call29 Try.func29 ?_
  intro hb
  (conv => whnf)
  refine lp (Nat × Nat) (fun z => ⟨[(0, .c (.bs 2 Rf encRf l)), (1, .c (.str n)), (2, .c (.fn 30 [])), (8, .c (.int .i64 l.length)), (9, .c (.int .i64 (z.1 : Nat))), (10, .c (.int .i64 (z.2 : Nat)))], []⟩)
    (fun z => (z.1 ≤ z.2 ∧ z.2 ≤ l.length) ∧ (∀ g ∈ l.take z.1, Op.bytesLess g.name n = true) ∧ ∀ g ∈ l.drop z.2, Op.bytesLess g.name n = false) (fun z => z.2 - z.1) (0, l.length) [] [] ?_ ?_ (fun z hz => ?_)
  · simp
  · repeat' first | exact trivial | exact rfl | refine And.intro ?_ ?_
  obtain ⟨lo, hi⟩ := z
  obtain ⟨⟨h1, h2⟩, h3, h4⟩ := hz
  dsimp only at h1 h2 h3 h4
  (conv => whnf)
  refine dec (fun h5 => ?_) (fun h5 => ?_)
  · have h5 : lo < hi := by simp only [] at h5; omega
    (conv => whnf)
    refine ⟨i64 (by simp only []; omega) (by simp only []; omega), ?_⟩
    (conv => whnf)
    refine ⟨by decide, ?_⟩
    (conv => whnf)
    obtain ⟨q, hq⟩ : ∃ q, q = (lo + hi) / 2 := ⟨_, rfl⟩
    have hqY : q < l.length := by omega
    rw [halfN (e := (((lo, hi).1 : Nat) : Int) + (((lo, hi).2 : Nat) : Int)) (k := q) (by simp only []; omega) (by simp only []; omega) (by simp only []; omega)]
    refine ⟨q, l[q], rfl, List.getElem?_eq_getElem hqY, ?_⟩
    (conv => whnf)
    refine cl [] [] (at1_spec l[q] n) ?_
    (conv => whnf)
    refine dec (fun h6 => ?_) (fun h6 => ?_)
    · have h6 := cmpN_lt.1 h6
      (conv => whnf)
      refine ⟨i64 (by omega) (by omega), ?_⟩
      (conv => whnf)
      refine ag (q + 1, hi) [] [] ⟨⟨by simp only []; omega, h2⟩, fun g hg => ?_, h4⟩ (by simp only []; omega) ?_
      · obtain ⟨k, hk, e⟩ := List.mem_take_iff_getElem.1 hg
        subst e
        by_cases hkq : k = q
        · subst hkq; exact h6
        · exact bl_trans (List.pairwise_iff_getElem.1 hs k q (by omega) hqY (by omega)) h6
      · repeat' first | exact trivial | exact rfl | refine And.intro ?_ ?_
    · have h6 : Op.bytesLess l[q].name n = false := by
        cases h7 : Op.bytesLess l[q].name n with
        | false => rfl
        | true => exact absurd (cmpN_lt.2 h7) h6
      (conv => whnf)
      refine ag (lo, q) [] [] ⟨⟨by simp only []; omega, by simp only []; omega⟩, h3, fun g hg => ?_⟩ (by simp only []; omega) ?_
      · obtain ⟨k, hk, e⟩ := List.mem_iff_getElem.1 hg
        rw [List.getElem_drop] at e
        subst e
        rw [List.length_drop] at hk
        by_cases hkq : k = 0
        · subst hkq; simpa using h6
        · cases h7 : Op.bytesLess l[q + k].name n with
          | false => rfl
          | true => rw [bl_trans (List.pairwise_iff_getElem.1 hs q (q + k) hqY (by omega) (by omega)) h7] at h6; cases h6
      · repeat' first | exact trivial | exact rfl | refine And.intro ?_ ?_
  · have h5 : lo = hi := by simp only [] at h5; omega
    subst h5
    have hp : posR l n = lo := posR_at h2 h3 (fun h => h4 _ (by rw [List.drop_eq_getElem_cons h]; exact List.mem_cons_self ..))
    rw [hp]
    (conv => whnf)
    refine dec (fun h6 => ?_) (fun h6 => ?_)
    · have hlt : lo < l.length := by simp only [] at h6; omega
      have hlo := h4 _ (by rw [List.drop_eq_getElem_cons hlt]; exact List.mem_cons_self ..)
      have eh : hasR l n = decide (cmpN l[lo].name n = 0) := by
        unfold hasR
        rw [hp, List.getElem?_eq_getElem hlt]
        rw [Bool.eq_iff_iff, decide_eq_true_iff, decide_eq_true_iff, cmpN_eq hlo]
        simp
      rw [eh]
      (conv => whnf)
      refine ⟨lo, l[lo], rfl, List.getElem?_eq_getElem hlt, ?_⟩
      (conv => whnf)
      refine cl [] [] (at1_spec l[lo] n) ?_
      (conv => whnf)
      exact rx [] []
    · have eh : hasR l n = false := by
        unfold hasR
        rw [hp, List.getElem?_eq_none (by simp only [] at h6; omega)]
        simp
      rw [eh]
      (conv => whnf)
      exact rx [] []
theorem at_spec (l : List Rf) (m : List Mv) (n : List UInt8) (hs : RSort l) (hl : l.length ≤ 1000) : Does Try.prog 19 [.c (.bp [.bs 2 Rf encRf l, .bs 3 Mv encMv m]), .c (.str n)] [] (Rt (.tup [(false, [.int .i64 (posR l n)]), (false, [.bool (hasR l n)])]) []) := by
  refine X_spec (n := 14) (n0 := 0) tabOk Try.call19 Try.func19 ?_
  intro hb
  (conv => whnf)
  refine cl [] [] (search_spec l n hs hl) ?_
  (conv => whnf)
  exact rx [] []
theorem getRefs_spec (l : List Rf) (m : List Mv) (n : List UInt8) (hs : RSort l) (hl : l.length ≤ 1000) : Does Try.prog 8 [.c (.bp [.bs 2 Rf encRf l, .bs 3 Mv encMv m]), .c (.str n)] [] (Rt (.c (.int .i64 (getR l n))) []) := by
  refine X_spec (n := 23) (n0 := 0) tabOk Try.call8 Try.func8 ?_
  intro hb
  (conv => whnf)
  refine cl [] [] (at_spec l m n hs hl) ?_
  (conv => whnf)
  refine booN (fun h => ?_) (fun h => ?_)
  · rw [getR_no h]
    repeat' ((conv => whnf); first | (refine dec (fun h => ?_) (fun h => ?_) <;> try contradiction) | (refine decN (fun h => ?_) (fun h => ?_) <;> try contradiction) | refine booN (fun h => ?_) (fun h => ?_) | refine boo (fun h => ?_) (fun h => ?_) | refine ⟨i64 (by omega) (by omega), ?_⟩ | refine ⟨_, _, rfl, List.getElem?_eq_getElem (by omega), ?_⟩ | refine ⟨_, ⟨rfl, by omega⟩, ?_⟩ | refine ⟨_, List.getElem?_eq_getElem (by omega), ?_⟩ | refine rtB ?_ | refine rtI ?_ | refine rtC ?_ rfl | fail)
    rfl
  · obtain ⟨hlt, e1, e2⟩ := getR_has h
    rw [e2]
    (conv => whnf)
    refine ⟨posR l n, _, rfl, List.getElem?_eq_getElem hlt, ?_⟩
    repeat' ((conv => whnf); first | (refine dec (fun h => ?_) (fun h => ?_) <;> try contradiction) | (refine decN (fun h => ?_) (fun h => ?_) <;> try contradiction) | refine booN (fun h => ?_) (fun h => ?_) | refine boo (fun h => ?_) (fun h => ?_) | refine ⟨i64 (by omega) (by omega), ?_⟩ | refine ⟨_, _, rfl, List.getElem?_eq_getElem (by omega), ?_⟩ | refine ⟨_, ⟨rfl, by omega⟩, ?_⟩ | refine ⟨_, List.getElem?_eq_getElem (by omega), ?_⟩ | refine rtB ?_ | refine rtI ?_ | refine rtC ?_ rfl | fail)
    rfl
end Go.Nest
end
/- WALKS, N3: refs: listed, and by the document. -/
section
namespace Go.Nest
open Go Go.AM Go.Proofs
open Go.Proofs.Ytgbppkcebaoebaa (tab tabOk)
set_option linter.unusedVariables false
set_option linter.unusedSimpArgs false
set_option maxRecDepth 4000
theorem cloneRfs_spec (l : List Rf) (hl : l.length * 24 ≤ 140737488355328) : Does Try.prog 28 [.c (.bs 2 Rf encRf l)] [] (Rt (.c (.rw 0)) [.row 2 Rf encRf l]) := by
  refine X_spec (n := 8) (n0 := 0) tabOk Try.call28 Try.func28 ?_
  intro hb
  (conv => whnf)
  intro q hq
  (conv => whnf)
  refine boo (fun h => ?_) (fun h => ?_)
  · obtain rfl := hq h
    (conv => whnf)
    exact rx [] [.new]
  · (conv => whnf)
    refine ⟨[], rfl, ?_⟩
    (conv => whnf)
    refine ⟨_, _, rfl, rfl, (by simp only [List.length_append, List.length_cons, List.length_nil]; omega), ?_⟩
    (conv => whnf)
    exact rx [] [.same 1]
theorem cloneMvs_spec (l : List Mv) (hl : l.length * 32 ≤ 140737488355328) : Does Try.prog 23 [.c (.bs 3 Mv encMv l)] [] (Rt (.c (.rw 0)) [.row 3 Mv encMv l]) := by
  refine X_spec (n := 8) (n0 := 0) tabOk Try.call23 Try.func23 ?_
  intro hb
  (conv => whnf)
  intro q hq
  (conv => whnf)
  refine boo (fun h => ?_) (fun h => ?_)
  · obtain rfl := hq h
    (conv => whnf)
    exact rx [] [.new]
  · (conv => whnf)
    refine ⟨[], rfl, ?_⟩
    (conv => whnf)
    refine ⟨_, _, rfl, rfl, (by simp only [List.length_append, List.length_cons, List.length_nil]; omega), ?_⟩
    (conv => whnf)
    exact rx [] [.same 1]
theorem listRefs_spec (l : List Rf) (m : List Mv) (hl : l.length ≤ 1000) : Does Try.prog 16 [.c (.bp [.bs 2 Rf encRf l, .bs 3 Mv encMv m])] [] (Rt (.c (.rw 0)) [.row 2 Rf encRf l]) := by
  refine X_spec (n := 8) (n0 := 0) tabOk Try.call16 Try.func16 ?_
  intro hb
  (conv => whnf)
  refine cl [] [] (cloneRfs_spec l (by omega)) ?_
  (conv => whnf)
  exact rx [] [.same 0]
theorem movesRefs_spec (l : List Rf) (m : List Mv) (hm : m.length ≤ 1000) : Does Try.prog 10 [.c (.bp [.bs 2 Rf encRf l, .bs 3 Mv encMv m])] [] (Rt (.c (.rw 0)) [.row 3 Mv encMv m]) := by
  refine X_spec (n := 8) (n0 := 0) tabOk Try.call10 Try.func10 ?_
  intro hb
  (conv => whnf)
  refine cl [] [] (cloneMvs_spec m (by omega)) ?_
  (conv => whnf)
  exact rx [] [.same 0]
theorem getN_spec (m : List Mv) (n : List UInt8) (hm : m.length ≤ 1000) : Does Try.prog 11 [.c (.bp [.bs 3 Mv encMv m]), .c (.str n)] [] (Rt (.c (.int .i64 (getM m n))) []) := by
  refine X_spec (n := 35) (n0 := 0) tabOk Try.call11 Try.func11 ?_
  intro hb
  (conv => whnf)
  refine lp Nat (fun i => ⟨[(0, .c (.bp [.bs 3 Mv encMv m])), (1, .c (.str n)), (5, .c (.int .i64 (getM (m.take i) n))), (6, .c (.int .i64 i))], []⟩) (fun i => i ≤ m.length ∧ True) (fun i => m.length - i) 0 [] [] ?_ ?_ (fun i hi => ?_)
  · simp
  · repeat' first | exact trivial | exact rfl | refine And.intro ?_ ?_
  (conv => whnf)
  refine dec (fun h4 => ?_) (fun h4 => ?_)
  · have hlt : i < m.length := by omega
    have hg := getM_succ (n := n) hlt
    (conv => whnf)
    refine ⟨i, m[i], rfl, List.getElem?_eq_getElem hlt, ?_⟩
    (conv => whnf)
    refine dec (fun h5 => ?_) (fun h5 => ?_)
    · rw [if_pos h5] at hg
      (conv => whnf)
      refine ⟨i, m[i], rfl, List.getElem?_eq_getElem hlt, ?_⟩
      repeat' ((conv => whnf); first | (refine dec (fun h => ?_) (fun h => ?_) <;> try contradiction) | (refine decN (fun h => ?_) (fun h => ?_) <;> try contradiction) | refine booN (fun h => ?_) (fun h => ?_) | refine boo (fun h => ?_) (fun h => ?_) | refine ⟨i64 (by omega) (by omega), ?_⟩ | refine ⟨_, _, rfl, List.getElem?_eq_getElem (by omega), ?_⟩ | refine ⟨_, ⟨rfl, by omega⟩, ?_⟩ | refine ⟨_, List.getElem?_eq_getElem (by omega), ?_⟩ | refine rtB ?_ | refine rtI ?_ | refine rtC ?_ rfl | fail)
      refine ag (i + 1) [] [] ⟨hlt, trivial⟩ (by simp only []; omega) ?_
      rw [hg]
      repeat' first | exact trivial | exact rfl | refine And.intro ?_ ?_
    · rw [if_neg h5] at hg
      repeat' ((conv => whnf); first | (refine dec (fun h => ?_) (fun h => ?_) <;> try contradiction) | (refine decN (fun h => ?_) (fun h => ?_) <;> try contradiction) | refine booN (fun h => ?_) (fun h => ?_) | refine boo (fun h => ?_) (fun h => ?_) | refine ⟨i64 (by omega) (by omega), ?_⟩ | refine ⟨_, _, rfl, List.getElem?_eq_getElem (by omega), ?_⟩ | refine ⟨_, ⟨rfl, by omega⟩, ?_⟩ | refine ⟨_, List.getElem?_eq_getElem (by omega), ?_⟩ | refine rtB ?_ | refine rtI ?_ | refine rtC ?_ rfl | fail)
      refine ag (i + 1) [] [] ⟨hlt, trivial⟩ (by simp only []; omega) ?_
      rw [hg]
      repeat' first | exact trivial | exact rfl | refine And.intro ?_ ?_
  · have hi2 : i = m.length := by omega
    subst hi2
    rw [List.take_length]
    repeat' ((conv => whnf); first | (refine dec (fun h => ?_) (fun h => ?_) <;> try contradiction) | (refine decN (fun h => ?_) (fun h => ?_) <;> try contradiction) | refine booN (fun h => ?_) (fun h => ?_) | refine boo (fun h => ?_) (fun h => ?_) | refine ⟨i64 (by omega) (by omega), ?_⟩ | refine ⟨_, _, rfl, List.getElem?_eq_getElem (by omega), ?_⟩ | refine ⟨_, ⟨rfl, by omega⟩, ?_⟩ | refine ⟨_, List.getElem?_eq_getElem (by omega), ?_⟩ | refine rtB ?_ | refine rtI ?_ | refine rtC ?_ rfl | fail)
    rfl
theorem metM_succ {m : List Mv} {k : Nat} {n : List UInt8} (h : k < m.length) : metM m (k + 1) n = (metM m k n || decide (m[k].name = n)) := by
  unfold metM
  rw [List.take_succ_eq_append_getElem h, List.any_append]; simp
set_option maxHeartbeats 2000000 in
theorem listN_spec (m : List Mv) (hm : m.length ≤ 1000) : Does Try.prog 17 [.c (.bp [.bs 3 Mv encMv m])] [] (Rt (.c (.rw 0)) [.row 2 Rf encRf (listM m)]) := by
  refine X_spec (n := 83) (n0 := 0) tabOk Try.call17 Try.func17 ?_
  intro hb
  (conv => whnf)
  refine lp Nat (fun i => ⟨[(0, .c (.bp [.bs 3 Mv encMv m])), (3, .c (.rw 0)), (4, .c (.int .i64 i))], [.row 2 Rf encRf (listU m i)]⟩) (fun i => i ≤ m.length ∧ True) (fun i => m.length - i) 0 [] [.new] ?_ ?_ (fun i hi => ?_)
  · simp
  · repeat' first | exact trivial | exact rfl | refine And.intro ?_ ?_
  (conv => whnf)
  refine dec (fun h4 => ?_) (fun h4 => ?_)
  · have hlt : i < m.length := by omega
    have hol : (listU m i).length ≤ i := listU_len
    have hs : listU m (i + 1) = if (decide (getM m m[i].name < 0) || metM m i m[i].name) = true then listU m i else insR (listU m i) ⟨m[i].name, getM m m[i].name⟩ := by
      rw [listU_succ]; unfold lstep
      rw [List.getElem?_eq_getElem hlt]
    (conv => whnf)
    refine ⟨i, m[i], rfl, List.getElem?_eq_getElem hlt, ?_⟩
    (conv => whnf)
    refine cl [] [] (getN_spec m m[i].name hm) ?_
    generalize listU m i = out at *
    generalize m[i].name = nm at *
    generalize getM m nm = id at *
    (conv => whnf)
    refine lp Nat (fun k => ⟨[(0, .c (.bp [.bs 3 Mv encMv m])), (3, .c (.rw 0)), (4, .c (.int .i64 i)), (5, .c (.str nm)), (6, .c (.int .i64 id)), (7, .c (.bool (decide (id < 0) || metM m k nm))), (8, .c (.int .i64 k))], [.row 2 Rf encRf out]⟩) (fun k => k ≤ i ∧ True) (fun k => i - k) 0 [] [.same 0] ?_ ?_ (fun k hk => ?_)
    · simp
    · rw [show metM m 0 nm = false from rfl, Bool.or_false]
      repeat' first | exact trivial | exact rfl | refine And.intro ?_ ?_
    (conv => whnf)
    refine dec (fun h5 => ?_) (fun h5 => ?_)
    · have hkl : k < m.length := by omega
      have hms := metM_succ (n := nm) hkl
      (conv => whnf)
      refine boo (fun h6 => ?_) (fun h6 => ?_)
      · have e : (decide (id < 0) || metM m (k + 1) nm) = true := by rw [hms, ← Bool.or_assoc, h6, Bool.true_or]
        repeat' ((conv => whnf); first | (refine dec (fun h => ?_) (fun h => ?_) <;> try contradiction) | (refine decN (fun h => ?_) (fun h => ?_) <;> try contradiction) | refine booN (fun h => ?_) (fun h => ?_) | refine boo (fun h => ?_) (fun h => ?_) | refine ⟨i64 (by omega) (by omega), ?_⟩ | refine ⟨_, _, rfl, List.getElem?_eq_getElem (by omega), ?_⟩ | refine ⟨_, ⟨rfl, by omega⟩, ?_⟩ | refine ⟨_, List.getElem?_eq_getElem (by omega), ?_⟩ | refine rtB ?_ | refine rtI ?_ | refine rtC ?_ rfl | fail)
        refine ag (k + 1) [] [.same 0] ⟨by omega, trivial⟩ (by simp only []; omega) ?_
        rw [e]
        repeat' first | exact trivial | exact rfl | refine And.intro ?_ ?_
      · have e : (decide (id < 0) || metM m (k + 1) nm) = decide (m[k].name = nm) := by rw [hms, ← Bool.or_assoc, h6, Bool.false_or]
        (conv => whnf)
        refine ⟨k, m[k], rfl, List.getElem?_eq_getElem hkl, ?_⟩
        repeat' ((conv => whnf); first | (refine dec (fun h => ?_) (fun h => ?_) <;> try contradiction) | (refine decN (fun h => ?_) (fun h => ?_) <;> try contradiction) | refine booN (fun h => ?_) (fun h => ?_) | refine boo (fun h => ?_) (fun h => ?_) | refine ⟨i64 (by omega) (by omega), ?_⟩ | refine ⟨_, _, rfl, List.getElem?_eq_getElem (by omega), ?_⟩ | refine ⟨_, ⟨rfl, by omega⟩, ?_⟩ | refine ⟨_, List.getElem?_eq_getElem (by omega), ?_⟩ | refine rtB ?_ | refine rtI ?_ | refine rtC ?_ rfl | fail)
        refine ag (k + 1) [] [.same 0] ⟨by omega, trivial⟩ (by simp only []; omega) ?_
        rw [e]
        repeat' first | exact trivial | exact rfl | refine And.intro ?_ ?_
    · have hki : k = i := by omega
      subst hki
      (conv => whnf)
      refine boo (fun h6 => ?_) (fun h6 => ?_)
      · rw [if_pos h6] at hs
        repeat' ((conv => whnf); first | (refine dec (fun h => ?_) (fun h => ?_) <;> try contradiction) | (refine decN (fun h => ?_) (fun h => ?_) <;> try contradiction) | refine booN (fun h => ?_) (fun h => ?_) | refine boo (fun h => ?_) (fun h => ?_) | refine ⟨i64 (by omega) (by omega), ?_⟩ | refine ⟨_, _, rfl, List.getElem?_eq_getElem (by omega), ?_⟩ | refine ⟨_, ⟨rfl, by omega⟩, ?_⟩ | refine ⟨_, List.getElem?_eq_getElem (by omega), ?_⟩ | refine rtB ?_ | refine rtI ?_ | refine rtC ?_ rfl | fail)
        refine ag (k + 1) [] [.same 0] ⟨hlt, trivial⟩ (by simp only []; omega) ?_
        rw [hs]
        repeat' first | exact trivial | exact rfl | refine And.intro ?_ ?_
      · rw [if_neg (by simp [h6])] at hs
        (conv => whnf)
        refine lp Nat (fun q => ⟨[(0, .c (.bp [.bs 3 Mv encMv m])), (3, .c (.rw 0)), (4, .c (.int .i64 k)), (5, .c (.str nm)), (6, .c (.int .i64 id)), (9, .c (.int .i64 q))], [.row 2 Rf encRf out]⟩) (fun q => (q ≤ out.length ∧ True) ∧ ∀ g ∈ out.take q, Op.bytesLess g.name nm = true) (fun q => out.length - q) 0 [] [.same 0] ?_ ?_ (fun q hq => ?_)
        · simp
        · repeat' first | exact trivial | exact rfl | refine And.intro ?_ ?_
        obtain ⟨⟨hq1, _⟩, hq2⟩ := hq
        have fin : (∀ h : q < out.length, Op.bytesLess out[q].name nm = false) → listU m (k + 1) = (([] ++ (out.drop 0).take (q - 0)) ++ [⟨nm, id⟩]) ++ (out.drop q).take (out.length - q) := fun h => by
          rw [hs]; unfold insR
          rw [posR_at hq1 hq2 h, List.take_of_length_le (l := List.drop q out) (by rw [List.length_drop]; exact Nat.le_refl _)]; simp
        (conv => whnf)
        refine dec (fun h7 => ?_) (fun h7 => ?_)
        · have hql : q < out.length := by omega
          (conv => whnf)
          refine ⟨q, ⟨rfl, hql⟩, ?_⟩
          (conv => whnf)
          refine ⟨out[q], List.getElem?_eq_getElem hql, ?_⟩
          (conv => whnf)
          refine boo (fun h8 => ?_) (fun h8 => ?_)
          · repeat' ((conv => whnf); first | (refine dec (fun h => ?_) (fun h => ?_) <;> try contradiction) | (refine decN (fun h => ?_) (fun h => ?_) <;> try contradiction) | refine booN (fun h => ?_) (fun h => ?_) | refine boo (fun h => ?_) (fun h => ?_) | refine ⟨i64 (by omega) (by omega), ?_⟩ | refine ⟨_, _, rfl, List.getElem?_eq_getElem (by omega), ?_⟩ | refine ⟨_, ⟨rfl, by omega⟩, ?_⟩ | refine ⟨_, List.getElem?_eq_getElem (by omega), ?_⟩ | refine rtB ?_ | refine rtI ?_ | refine rtC ?_ rfl | fail)
            refine ag (q + 1) [] [.same 0] ⟨⟨hql, trivial⟩, fun g hg => ?_⟩ (by simp only []; omega) ?_
            · rw [List.take_succ_eq_append_getElem hql, List.mem_append, List.mem_singleton] at hg
              rcases hg with hg | rfl
              · exact hq2 g hg
              · exact h8
            · repeat' first | exact trivial | exact rfl | refine And.intro ?_ ?_
          · have fin := fin (fun _ => h8)
            (conv => whnf)
            refine ⟨0, q, rfl, rfl, ⟨Nat.zero_le _, hq1⟩, ?_⟩
            (conv => whnf)
            refine ⟨[], _, rfl, rfl, (by simp only [List.length_take, List.length_drop, List.length_nil]; omega), ?_⟩
            (conv => whnf)
            refine ⟨[⟨nm, id⟩], rfl, ?_⟩
            (conv => whnf)
            refine ⟨_, _, rfl, rfl, (by simp only [List.length_take, List.length_drop, List.length_append, List.length_cons, List.length_nil]; omega), ?_⟩
            (conv => whnf)
            refine ⟨q, out.length, rfl, rfl, ⟨hq1, Nat.le_refl _⟩, ?_⟩
            (conv => whnf)
            refine ⟨_, _, rfl, rfl, (by simp only [List.length_take, List.length_drop, List.length_append, List.length_cons, List.length_nil]; omega), ?_⟩
            repeat' ((conv => whnf); first | (refine dec (fun h => ?_) (fun h => ?_) <;> try contradiction) | (refine decN (fun h => ?_) (fun h => ?_) <;> try contradiction) | refine booN (fun h => ?_) (fun h => ?_) | refine boo (fun h => ?_) (fun h => ?_) | refine ⟨i64 (by omega) (by omega), ?_⟩ | refine ⟨_, _, rfl, List.getElem?_eq_getElem (by omega), ?_⟩ | refine ⟨_, ⟨rfl, by omega⟩, ?_⟩ | refine ⟨_, List.getElem?_eq_getElem (by omega), ?_⟩ | refine rtB ?_ | refine rtI ?_ | refine rtC ?_ rfl | fail)
            refine ag (k + 1) [] [.same 4] ⟨hlt, trivial⟩ (by simp only []; omega) ?_
            rw [fin]
            repeat' first | exact trivial | exact rfl | refine And.intro ?_ ?_
        · have fin := fin (fun h => absurd h (by omega))
          (conv => whnf)
          refine ⟨0, q, rfl, rfl, ⟨Nat.zero_le _, hq1⟩, ?_⟩
          (conv => whnf)
          refine ⟨[], _, rfl, rfl, (by simp only [List.length_take, List.length_drop, List.length_nil]; omega), ?_⟩
          (conv => whnf)
          refine ⟨[⟨nm, id⟩], rfl, ?_⟩
          (conv => whnf)
          refine ⟨_, _, rfl, rfl, (by simp only [List.length_take, List.length_drop, List.length_append, List.length_cons, List.length_nil]; omega), ?_⟩
          (conv => whnf)
          refine ⟨q, out.length, rfl, rfl, ⟨hq1, Nat.le_refl _⟩, ?_⟩
          (conv => whnf)
          refine ⟨_, _, rfl, rfl, (by simp only [List.length_take, List.length_drop, List.length_append, List.length_cons, List.length_nil]; omega), ?_⟩
          repeat' ((conv => whnf); first | (refine dec (fun h => ?_) (fun h => ?_) <;> try contradiction) | (refine decN (fun h => ?_) (fun h => ?_) <;> try contradiction) | refine booN (fun h => ?_) (fun h => ?_) | refine boo (fun h => ?_) (fun h => ?_) | refine ⟨i64 (by omega) (by omega), ?_⟩ | refine ⟨_, _, rfl, List.getElem?_eq_getElem (by omega), ?_⟩ | refine ⟨_, ⟨rfl, by omega⟩, ?_⟩ | refine ⟨_, List.getElem?_eq_getElem (by omega), ?_⟩ | refine rtB ?_ | refine rtI ?_ | refine rtC ?_ rfl | fail)
          refine ag (k + 1) [] [.same 4] ⟨hlt, trivial⟩ (by simp only []; omega) ?_
          rw [fin]
          repeat' first | exact trivial | exact rfl | refine And.intro ?_ ?_
  · have hi2 : i = m.length := by omega
    subst hi2
    (conv => whnf)
    exact rx [] [.same 0]
end Go.Nest
end
