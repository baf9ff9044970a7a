/- WALKS, F1: files: lists of them looked at. -/
import Derived.Test.YtkoiljgjipmhbaaDoorG9
import Derived.Test.YtkoiljgjipmhbaaDoorS5
import Derived.Test.YtkoiljgjipmhbaaDoorP9
namespace Go.Nest
open Go Go.AM Go.Proofs
open Go.Proofs.YtkoiljgjipmhbaaDoor (tab tabOk)
set_option linter.unusedVariables false
set_option linter.unusedSimpArgs false
set_option maxRecDepth 4000


theorem eqFi {a b : Fi} : EqCs (encFi a) (encFi b) ↔ a = b := by
  cases a; cases b; simp [encFi, EqCs, EqC]
theorem eqCh {a b : Ch} : EqCs (encCh a) (encCh b) ↔ a = b := by
  obtain ⟨p, ⟨⟩, ⟨⟩⟩ := a; obtain ⟨q, ⟨⟩, ⟨⟩⟩ := b; simp [encCh, EqCs, EqC, and_assoc]


theorem sameFiles_spec (a b : List Fi) : Does Tryd.prog 12 [.c (.bs 4 Fi encFi a), .c (.bs 4 Fi encFi b)] [] (Rt (.c (.bool (decide (a = b)))) []) := by
  refine X_spec ⟨Tryd.prog, tab, 26, 0⟩ tabOk (by kernel_rfl) Tryd.call12 Tryd.func12 rfl rfl (by kernel_rfl) rfl ?_
  intro hb; have hb : a.length ≤ 9223372036854775807 := hb.1.1
  repeat' ((conv => whnf); first | (refine dec (fun h => ?_) (fun h => ?_) <;> try contradiction) | (refine decN (fun h => ?_) (fun h => ?_) <;> try contradiction) | refine booN (fun h => ?_) (fun h => ?_) | refine boo (fun h => ?_) (fun h => ?_) | refine ⟨i64 (by omega) (by omega), ?_⟩ | refine ⟨_, _, rfl, List.getElem?_eq_getElem (by omega), ?_⟩ | refine ⟨_, ⟨rfl, by omega⟩, ?_⟩ | refine ⟨_, List.getElem?_eq_getElem (by omega), ?_⟩ | refine rtB ?_ | refine rtI ?_ | refine rtC ?_ rfl | fail)
  · exact ne_len h
  (conv => whnf)
  have hl : a.length = b.length := by omega
  refine lp Nat (fun i => ⟨[(0, .c (.bs 4 Fi encFi a)), (1, .c (.bs 4 Fi encFi b)), (5, .c (.int .i64 i))], []⟩) (fun i => i ≤ a.length ∧ a.take i = b.take i) (fun i => a.length - i) 0 [] [] ?_ ?_ (fun i hi => ?_)
  · simp
  · repeat' first | exact trivial | exact rfl | refine And.intro ?_ ?_
  (conv => whnf)
  refine dec (fun h4 => ?_) (fun h4 => ?_)
  · have hlt : i < a.length := by omega
    have hlt' : i < b.length := by omega
    (conv => whnf)
    refine ⟨false, (.l [0, 1, 2, 3, 4, 5, 6, 7, 8]), by kernel_rfl, .inl ?_⟩
    repeat' ((conv => whnf); first | (refine dec (fun h => ?_) (fun h => ?_) <;> try contradiction) | (refine decN (fun h => ?_) (fun h => ?_) <;> try contradiction) | refine booN (fun h => ?_) (fun h => ?_) | refine boo (fun h => ?_) (fun h => ?_) | refine ⟨i64 (by omega) (by omega), ?_⟩ | refine ⟨_, _, rfl, List.getElem?_eq_getElem (by omega), ?_⟩ | refine ⟨_, ⟨rfl, by omega⟩, ?_⟩ | refine ⟨_, List.getElem?_eq_getElem (by omega), ?_⟩ | refine rtB ?_ | refine rtI ?_ | refine rtC ?_ rfl | fail)
    · exact ne_at hlt hlt' (fun e => h ((eqFi).2 e))
    · refine ag (i + 1) [] [] ⟨hlt, take_step hlt hlt' hi.2 ((eqFi).1 h)⟩ (by simp only []; omega) ?_
      repeat' first | exact trivial | exact rfl | refine And.intro ?_ ?_
  · repeat' ((conv => whnf); first | (refine dec (fun h => ?_) (fun h => ?_) <;> try contradiction) | (refine decN (fun h => ?_) (fun h => ?_) <;> try contradiction) | refine booN (fun h => ?_) (fun h => ?_) | refine boo (fun h => ?_) (fun h => ?_) | refine ⟨i64 (by omega) (by omega), ?_⟩ | refine ⟨_, _, rfl, List.getElem?_eq_getElem (by omega), ?_⟩ | refine ⟨_, ⟨rfl, by omega⟩, ?_⟩ | refine ⟨_, List.getElem?_eq_getElem (by omega), ?_⟩ | refine rtB ?_ | refine rtI ?_ | refine rtC ?_ rfl | fail)
    exact take_end (by omega) hl hi.2
theorem sameChanges_spec (a b : List Ch) : Does Tryd.prog 10 [.c (.bs 9 Ch encCh a), .c (.bs 9 Ch encCh b)] [] (Rt (.c (.bool (decide (a = b)))) []) := by
  refine X_spec ⟨Tryd.prog, tab, 26, 0⟩ tabOk (by kernel_rfl) Tryd.call10 Tryd.func10 rfl rfl (by kernel_rfl) rfl ?_
  intro hb; have hb : a.length ≤ 9223372036854775807 := hb.1.1
  repeat' ((conv => whnf); first | (refine dec (fun h => ?_) (fun h => ?_) <;> try contradiction) | (refine decN (fun h => ?_) (fun h => ?_) <;> try contradiction) | refine booN (fun h => ?_) (fun h => ?_) | refine boo (fun h => ?_) (fun h => ?_) | refine ⟨i64 (by omega) (by omega), ?_⟩ | refine ⟨_, _, rfl, List.getElem?_eq_getElem (by omega), ?_⟩ | refine ⟨_, ⟨rfl, by omega⟩, ?_⟩ | refine ⟨_, List.getElem?_eq_getElem (by omega), ?_⟩ | refine rtB ?_ | refine rtI ?_ | refine rtC ?_ rfl | fail)
  · exact ne_len h
  (conv => whnf)
  have hl : a.length = b.length := by omega
  refine lp Nat (fun i => ⟨[(0, .c (.bs 9 Ch encCh a)), (1, .c (.bs 9 Ch encCh b)), (5, .c (.int .i64 i))], []⟩) (fun i => i ≤ a.length ∧ a.take i = b.take i) (fun i => a.length - i) 0 [] [] ?_ ?_ (fun i hi => ?_)
  · simp
  · repeat' first | exact trivial | exact rfl | refine And.intro ?_ ?_
  (conv => whnf)
  refine dec (fun h4 => ?_) (fun h4 => ?_)
  · have hlt : i < a.length := by omega
    have hlt' : i < b.length := by omega
    (conv => whnf)
    refine ⟨false, (.l [0, 1, 2, 3, 4, 5, 6, 7, 8]), by kernel_rfl, .inl ?_⟩
    repeat' ((conv => whnf); first | (refine dec (fun h => ?_) (fun h => ?_) <;> try contradiction) | (refine decN (fun h => ?_) (fun h => ?_) <;> try contradiction) | refine booN (fun h => ?_) (fun h => ?_) | refine boo (fun h => ?_) (fun h => ?_) | refine ⟨i64 (by omega) (by omega), ?_⟩ | refine ⟨_, _, rfl, List.getElem?_eq_getElem (by omega), ?_⟩ | refine ⟨_, ⟨rfl, by omega⟩, ?_⟩ | refine ⟨_, List.getElem?_eq_getElem (by omega), ?_⟩ | refine rtB ?_ | refine rtI ?_ | refine rtC ?_ rfl | fail)
    · exact ne_at hlt hlt' (fun e => h ((eqCh).2 e))
    · refine ag (i + 1) [] [] ⟨hlt, take_step hlt hlt' hi.2 ((eqCh).1 h)⟩ (by simp only []; omega) ?_
      repeat' first | exact trivial | exact rfl | refine And.intro ?_ ?_
  · repeat' ((conv => whnf); first | (refine dec (fun h => ?_) (fun h => ?_) <;> try contradiction) | (refine decN (fun h => ?_) (fun h => ?_) <;> try contradiction) | refine booN (fun h => ?_) (fun h => ?_) | refine boo (fun h => ?_) (fun h => ?_) | refine ⟨i64 (by omega) (by omega), ?_⟩ | refine ⟨_, _, rfl, List.getElem?_eq_getElem (by omega), ?_⟩ | refine ⟨_, ⟨rfl, by omega⟩, ?_⟩ | refine ⟨_, List.getElem?_eq_getElem (by omega), ?_⟩ | refine rtB ?_ | refine rtI ?_ | refine rtC ?_ rfl | fail)
    exact take_end (by omega) hl hi.2

theorem cloneTexts_spec (l : List (List UInt8)) (hl : l.length * 16 ≤ 140737488355328) : Does Tryd.prog 56 [.c (.bs 1 (List UInt8) encS l)] [] (Rt (.c (.rw 0)) [.row 1 (List UInt8) encS l]) := by
  refine X_spec ⟨Tryd.prog, tab, 8, 0⟩ tabOk (by kernel_rfl) Tryd.call56 Tryd.func56 rfl rfl (by kernel_rfl) rfl ?_
  intro hb
  (conv => whnf)
  intro q hq
  (conv => whnf)
  refine boo (fun h => ?_) (fun h => ?_)
  · obtain rfl := hq h
    (conv => whnf)
    refine rt [] [.new] (by repeat' first | exact trivial | exact rfl | refine And.intro ?_ ?_) rfl ⟨rfl, rfl⟩
  · (conv => whnf)
    refine ⟨[], rfl, ?_⟩
    (conv => whnf)
    refine ⟨_, _, rfl, rfl, (by simp only [List.length_append, List.length_cons, List.length_nil]; omega), ?_⟩
    (conv => whnf)
    refine rt [] [.same 1] (by repeat' first | exact trivial | exact rfl | refine And.intro ?_ ?_) rfl ⟨rfl, rfl⟩

/-! ### up to a stroke -/
theorem cutL_spec (s : List UInt8) : Does Tryd.prog 71 [.c (.str s), .c (.str [47])] [] (Rt (.tup [(false, [.str (cutP s).1]), (false, [.str (cutP s).2.1]), (false, [.bool (cutP s).2.2])]) []) := by
  refine X_spec ⟨Tryd.prog, tab, 23, 0⟩ tabOk (by kernel_rfl) Tryd.call71 Tryd.func71 rfl rfl (by kernel_rfl) rfl ?_
  intro hb
  have hb : s.length ≤ 9223372036854775807 := hb.1.1
  (conv => whnf)
  refine cl [] [] (sliteIndex_spec s) (by (repeat' first | exact trivial | exact rfl | refine And.intro ?_ ?_); first | done | fail) (by first | exact trivial | exact rfl) ?_
  repeat' ((conv => whnf); first | (refine dec (fun h => ?_) (fun h => ?_) <;> try contradiction) | (refine decN (fun h => ?_) (fun h => ?_) <;> try contradiction) | refine booN (fun h => ?_) (fun h => ?_) | refine boo (fun h => ?_) (fun h => ?_) | refine ⟨i64 (by omega) (by omega), ?_⟩ | refine ⟨_, _, rfl, List.getElem?_eq_getElem (by omega), ?_⟩ | refine ⟨_, ⟨rfl, by omega⟩, ?_⟩ | refine ⟨_, List.getElem?_eq_getElem (by omega), ?_⟩ | refine rtB ?_ | refine rtI ?_ | refine rtC ?_ rfl | fail)
  · have hlt : (Lib.indexByte s 47).toNat < s.length := by
      by_cases hc : s.count 47 = 0
      · rw [idx_none hc] at h; omega
      · obtain ⟨m, h1, h2, _⟩ := idx_stroke (l := s) (by omega)
        omega
    have hc : cutP s = (s.take (Lib.indexByte s 47).toNat, s.drop ((Lib.indexByte s 47).toNat + 1), true) := by unfold cutP; rw [if_pos h]
    rw [hc]
    (conv => whnf)
    refine ⟨false, (.l [0, 1, 2, 3, 4, 5, 6, 7, 8, 9, 10, 11]), by kernel_rfl, .inl ?_⟩
    (conv => whnf)
    refine ⟨0, (Lib.indexByte s 47).toNat, rfl, (Int.toNat_of_nonneg h).symm, ⟨Nat.zero_le _, by omega⟩, ?_⟩
    refine ⟨i64 (by simp; omega) (by simp; omega), ?_⟩
    (conv => whnf)
    refine ⟨(Lib.indexByte s 47).toNat + 1, s.length, ?_, rfl, ⟨by omega, Nat.le_refl _⟩, ?_⟩
    · simp; omega
    (conv => whnf)
    have e1 : s.take s.length = s := List.take_of_length_le (Nat.le_refl _)
    rw [e1]
    refine rt [] [] (by repeat' first | exact trivial | exact rfl | refine And.intro ?_ ?_) rfl ⟨rfl, rfl⟩
  · have hc : cutP s = (s, [], false) := by unfold cutP; rw [if_neg h]
    rw [hc]
    (conv => whnf)
    refine rt [] [] (by repeat' first | exact trivial | exact rfl | refine And.intro ?_ ?_) rfl ⟨rfl, rfl⟩
theorem cut_spec (s : List UInt8) : Does Tryd.prog 54 [.c (.str s), .c (.str [47])] [] (Rt (.tup [(false, [.str (cutP s).1]), (false, [.str (cutP s).2.1]), (false, [.bool (cutP s).2.2])]) []) := by
  refine X_spec ⟨Tryd.prog, tab, 13, 0⟩ tabOk (by kernel_rfl) Tryd.call54 Tryd.func54 rfl rfl (by kernel_rfl) rfl ?_
  intro hb
  (conv => whnf)
  refine cl [] [] (cutL_spec s) (by (repeat' first | exact trivial | exact rfl | refine And.intro ?_ ?_); first | done | fail) (by first | exact trivial | exact rfl) ?_
  (conv => whnf)
  refine rt [] [] (by repeat' first | exact trivial | exact rfl | refine And.intro ?_ ?_) rfl ⟨rfl, rfl⟩
/-! ### the file of a path -/
theorem fileAt_spec (l : List Fi) (p : List UInt8) : Does Tryd.prog 29 [.c (.bs 4 Fi encFi l), .c (.str p)] [] (Rt (.tup [(true, encFi (fileAtP l p).1), (false, [.bool (fileAtP l p).2])]) []) := by
  refine X_spec ⟨Tryd.prog, tab, 25, 0⟩ tabOk (by kernel_rfl) Tryd.call29 Tryd.func29 rfl rfl (by kernel_rfl) rfl ?_
  intro hb; have hb : l.length ≤ 9223372036854775807 := hb.1.1
  (conv => whnf)
  refine lp Nat (fun i => ⟨[(0, .c (.bs 4 Fi encFi l)), (1, .c (.str p)), (4, .c (.ptr 0 0)), (5, .c (.bool false)), (6, .c (.int .i64 i))], [.box (encFi fi0)]⟩) (fun i => i ≤ l.length ∧ ∀ f ∈ l.take i, f.path ≠ p) (fun i => l.length - i) 0 [] [.same 0] ?_ ?_ (fun i hi => ?_)
  · simp
  · repeat' first | exact trivial | exact rfl | refine And.intro ?_ ?_
  (conv => whnf)
  refine dec (fun h4 => ?_) (fun h4 => ?_)
  · have hlt : i < l.length := by omega
    repeat' ((conv => whnf); first | (refine dec (fun h => ?_) (fun h => ?_) <;> try contradiction) | (refine decN (fun h => ?_) (fun h => ?_) <;> try contradiction) | refine booN (fun h => ?_) (fun h => ?_) | refine boo (fun h => ?_) (fun h => ?_) | refine ⟨i64 (by omega) (by omega), ?_⟩ | refine ⟨_, _, rfl, List.getElem?_eq_getElem (by omega), ?_⟩ | refine ⟨_, ⟨rfl, by omega⟩, ?_⟩ | refine ⟨_, List.getElem?_eq_getElem (by omega), ?_⟩ | refine rtB ?_ | refine rtI ?_ | refine rtC ?_ rfl | fail)
    · have : fileAtP l p = (l[i], true) := by
        unfold fileAtP
        have : l.find? (fun f => decide (f.path = p)) = some l[i] := by
          rw [List.find?_eq_some_iff_getElem]
          refine ⟨by simpa using h, i, hlt, rfl, fun j hj => ?_⟩
          have := hi.2 l[j] (by rw [List.mem_take_iff_getElem]; exact ⟨j, by omega, rfl⟩)
          simpa using this
        rw [this]
      rw [this]
      (conv => whnf)
      refine rt [] [] (by repeat' first | exact trivial | exact rfl | refine And.intro ?_ ?_) rfl ⟨rfl, rfl⟩
    · refine ag (i + 1) [] [.same 0] ⟨hlt, ?_⟩ (by simp only []; omega) ?_
      · intro f hf
        rw [List.take_succ_eq_append_getElem hlt, List.mem_append, List.mem_singleton] at hf
        rcases hf with hf | rfl
        · exact hi.2 f hf
        · exact h
      · repeat' first | exact trivial | exact rfl | refine And.intro ?_ ?_
  · have h2 := hi.2
    rw [List.take_of_length_le (by omega)] at h2
    have : fileAtP l p = (fi0, false) := by
      unfold fileAtP
      have : l.find? (fun f => decide (f.path = p)) = none := by
        rw [List.find?_eq_none]; intro f hf; simpa using h2 f hf
      rw [this]
    rw [this]
    repeat' ((conv => whnf); first | (refine dec (fun h => ?_) (fun h => ?_) <;> try contradiction) | (refine decN (fun h => ?_) (fun h => ?_) <;> try contradiction) | refine booN (fun h => ?_) (fun h => ?_) | refine boo (fun h => ?_) (fun h => ?_) | refine ⟨i64 (by omega) (by omega), ?_⟩ | refine ⟨_, _, rfl, List.getElem?_eq_getElem (by omega), ?_⟩ | refine ⟨_, ⟨rfl, by omega⟩, ?_⟩ | refine ⟨_, List.getElem?_eq_getElem (by omega), ?_⟩ | refine rtB ?_ | refine rtI ?_ | refine rtC ?_ rfl | fail)
    (conv => whnf)
    refine rt [] [] (by repeat' first | exact trivial | exact rfl | refine And.intro ?_ ?_) rfl ⟨rfl, rfl⟩

/-! ### great files; files in order -/
def sumL (l : List Fi) : Nat := (l.map fun f => f.path.length).sum
theorem sumL_take {l : List Fi} {i : Nat} (h : i < l.length) : sumL (l.take (i + 1)) = sumL (l.take i) + l[i].path.length := by
  unfold sumL
  rw [List.take_succ_eq_append_getElem h, List.map_append, List.sum_append]; simp
theorem sumL_le {l : List Fi} {n : Nat} (h : ∀ f ∈ l, f.path.length ≤ n) : sumL l ≤ l.length * n := by
  induction l with
  | nil => simp [sumL]
  | cons f l ih =>
    have h1 := ih (fun x hx => h x (by simp [hx]))
    have h2 := h f (by simp)
    unfold sumL at h1 ⊢
    rw [List.map_cons, List.sum_cons, List.length_cons, Nat.succ_mul]
    omega
theorem sumL_mem {l : List Fi} {f : Fi} (h : f ∈ l) : f.path.length ≤ sumL l := by
  induction l with
  | nil => cases h
  | cons g l ih =>
    unfold sumL at ih ⊢
    rw [List.map_cons, List.sum_cons]
    rcases List.mem_cons.1 h with rfl | h
    · omega
    · have := ih h; omega
def greatF (l : List Fi) : Bool := decide (150 < l.length) || decide (6000 < sumL (l.take 200))
theorem greatF_ok {l : List Fi} (h : greatF l = false) : l.length ≤ 150 ∧ sumL l ≤ 6000 ∧ ∀ f ∈ l, f.path.length ≤ 6000 := by
  unfold greatF at h
  rw [Bool.or_eq_false_iff, decide_eq_false_iff_not, decide_eq_false_iff_not] at h
  have h1 : l.length ≤ 150 := by omega
  rw [List.take_of_length_le (by omega)] at h
  exact ⟨h1, by omega, fun f hf => by have := sumL_mem hf; omega⟩
theorem greatFiles_spec (l : List Fi) (hl : ∀ f ∈ l, f.path.length ≤ 140737488351232) : Does Tryd.prog 7 [.c (.bs 4 Fi encFi l)] [] (Rt (.c (.bool (greatF l))) []) := by
  refine X_spec ⟨Tryd.prog, tab, 30, 0⟩ tabOk (by kernel_rfl) Tryd.call7 Tryd.func7 rfl rfl (by kernel_rfl) rfl ?_
  intro hb; have hb : l.length ≤ 9223372036854775807 := hb.1.1
  (conv => whnf)
  refine lp Nat (fun i => ⟨[(0, .c (.bs 4 Fi encFi l)), (3, .c (.int .i64 (sumL (l.take i)))), (4, .c (.int .i64 i))], []⟩) (fun i => i ≤ l.length ∧ i ≤ 200) (fun i => l.length - i) 0 [] [] ?_ ?_ (fun i hi => ?_)
  · simp
  · repeat' first | exact trivial | exact rfl | refine And.intro ?_ ?_
  have hs : sumL (l.take i) ≤ 200 * 140737488351232 := by
    have h2 : (l.take i).length ≤ 200 := by rw [List.length_take]; omega
    have key : ∀ N, (∀ f ∈ l, f.path.length ≤ N) → sumL (l.take i) ≤ 200 * N := fun N h => Nat.le_trans (sumL_le fun f hf => h f (List.mem_of_mem_take hf)) (Nat.mul_le_mul_right N h2)
    exact key _ hl
  have fin : ¬ (i < l.length ∧ i < 200) → sumL (l.take i) = sumL (l.take 200) := fun h => by
    by_cases h3 : i < l.length
    · have : i = 200 := by omega
      rw [this]
    · rw [List.take_of_length_le (by omega), List.take_of_length_le (by omega)]
  (conv => whnf)
  refine dec (fun h4 => ?_) (fun h4 => ?_)
  · (conv => whnf)
    refine dec (fun h5 => ?_) (fun h5 => ?_)
    · have hlt : i < l.length := by omega
      have hp := hl _ (List.getElem_mem hlt)
      (conv => whnf)
      refine ⟨i, l[i], rfl, List.getElem?_eq_getElem hlt, ?_⟩
      (conv => whnf)
      refine ⟨i64 (by omega) (by omega), ?_⟩
      repeat' ((conv => whnf); first | (refine dec (fun h => ?_) (fun h => ?_) <;> try contradiction) | (refine decN (fun h => ?_) (fun h => ?_) <;> try contradiction) | refine booN (fun h => ?_) (fun h => ?_) | refine boo (fun h => ?_) (fun h => ?_) | refine ⟨i64 (by omega) (by omega), ?_⟩ | refine ⟨_, _, rfl, List.getElem?_eq_getElem (by omega), ?_⟩ | refine ⟨_, ⟨rfl, by omega⟩, ?_⟩ | refine ⟨_, List.getElem?_eq_getElem (by omega), ?_⟩ | refine rtB ?_ | refine rtI ?_ | refine rtC ?_ rfl | fail)
      refine ag (i + 1) [] [] ⟨hlt, by omega⟩ (by simp only []; omega) ?_
      rw [sumL_take hlt]
      repeat' first | exact trivial | exact rfl | refine And.intro ?_ ?_
    · have := fin (by omega)
      rw [this]
      repeat' ((conv => whnf); first | (refine dec (fun h => ?_) (fun h => ?_) <;> try contradiction) | (refine decN (fun h => ?_) (fun h => ?_) <;> try contradiction) | refine booN (fun h => ?_) (fun h => ?_) | refine boo (fun h => ?_) (fun h => ?_) | refine ⟨i64 (by omega) (by omega), ?_⟩ | refine ⟨_, _, rfl, List.getElem?_eq_getElem (by omega), ?_⟩ | refine ⟨_, ⟨rfl, by omega⟩, ?_⟩ | refine ⟨_, List.getElem?_eq_getElem (by omega), ?_⟩ | refine rtB ?_ | refine rtI ?_ | refine rtC ?_ rfl | fail)
      · have h : 150 < l.length := by omega
        simp [greatF, h]
      · have h : ¬ 150 < l.length := by omega
        simp [greatF, h]; omega
  · have := fin (by omega)
    rw [this]
    repeat' ((conv => whnf); first | (refine dec (fun h => ?_) (fun h => ?_) <;> try contradiction) | (refine decN (fun h => ?_) (fun h => ?_) <;> try contradiction) | refine booN (fun h => ?_) (fun h => ?_) | refine boo (fun h => ?_) (fun h => ?_) | refine ⟨i64 (by omega) (by omega), ?_⟩ | refine ⟨_, _, rfl, List.getElem?_eq_getElem (by omega), ?_⟩ | refine ⟨_, ⟨rfl, by omega⟩, ?_⟩ | refine ⟨_, List.getElem?_eq_getElem (by omega), ?_⟩ | refine rtB ?_ | refine rtI ?_ | refine rtC ?_ rfl | fail)
    · have h : 150 < l.length := by omega
      simp [greatF, h]
    · have h : ¬ 150 < l.length := by omega
      simp [greatF, h]; omega

theorem proper_spec (l : List Fi) (hl : ∀ f ∈ l, f.path.length ≤ 4000000) : Does Tryd.prog 8 [.c (.bs 4 Fi encFi l)] [] (Rt (.c (.bool (@decide (Proper l) (Classical.propDecidable _)))) []) := by
  refine X_spec ⟨Tryd.prog, tab, 23, 0⟩ tabOk (by kernel_rfl) Tryd.call8 Tryd.func8 rfl rfl (by kernel_rfl) rfl ?_
  intro hb; have hb : l.length ≤ 9223372036854775807 := hb.1.1
  (conv => whnf)
  refine lp Nat (fun i => ⟨[(0, .c (.bs 4 Fi encFi l)), (3, .c (.int .i64 ((i : Int) + 1)))], []⟩) (fun i => (i ≤ l.length ∧ (0 < i → i < l.length)) ∧ ∀ j (h : j + 1 < l.length), j < i → lessP (l[j]'(by omega)).path l[j + 1].path = true) (fun i => l.length - i) 0 [] [] ?_ ?_ (fun i hi => ?_)
  · exact ⟨⟨Nat.zero_le _, fun h => by omega⟩, fun j _ h => by omega⟩
  · repeat' first | exact trivial | exact rfl | refine And.intro ?_ ?_
  (conv => whnf)
  refine dec (fun h4 => ?_) (fun h4 => ?_)
  · have hlt : i + 1 < l.length := by omega
    (conv => whnf)
    refine ⟨false, (.l [0, 1, 2, 3, 4, 5, 6, 7, 8, 9, 10, 11, 12]), by kernel_rfl, .inl ?_⟩
    (conv => whnf)
    refine ⟨i64 (by omega) (by omega), ?_⟩
    (conv => whnf)
    refine ⟨i, l[i], by simp, List.getElem?_eq_getElem (by omega), ?_⟩
    (conv => whnf)
    refine ⟨i + 1, l[i + 1], rfl, List.getElem?_eq_getElem hlt, ?_⟩
    (conv => whnf)
    refine cl [] [] (ahead_spec l[i].path l[i + 1].path (hl _ (List.getElem_mem _)) (hl _ (List.getElem_mem _))) (by (repeat' first | exact trivial | exact rfl | refine And.intro ?_ ?_); first | done | fail) (by first | exact trivial | exact rfl) ?_
    repeat' ((conv => whnf); first | (refine dec (fun h => ?_) (fun h => ?_) <;> try contradiction) | (refine decN (fun h => ?_) (fun h => ?_) <;> try contradiction) | refine booN (fun h => ?_) (fun h => ?_) | refine boo (fun h => ?_) (fun h => ?_) | refine ⟨i64 (by omega) (by omega), ?_⟩ | refine ⟨_, _, rfl, List.getElem?_eq_getElem (by omega), ?_⟩ | refine ⟨_, ⟨rfl, by omega⟩, ?_⟩ | refine ⟨_, List.getElem?_eq_getElem (by omega), ?_⟩ | refine rtB ?_ | refine rtI ?_ | refine rtC ?_ rfl | fail)
    · have : ¬ Proper l := fun hp => by rw [hp i hlt] at h; simp at h
      simp [this]
    · have hl2 : lessP l[i].path l[i + 1].path = true := by simpa using h
      refine ag (i + 1) [] [] ⟨⟨by omega, fun _ => hlt⟩, fun j hj hji => ?_⟩ (by simp only []; omega) ?_
      · by_cases e : j = i
        · subst e; exact hl2
        · exact hi.2 j hj (by omega)
      · repeat' first | exact trivial | exact rfl | refine And.intro ?_ ?_
  · have : Proper l := fun j hj => hi.2 j hj (by omega)
    repeat' ((conv => whnf); first | (refine dec (fun h => ?_) (fun h => ?_) <;> try contradiction) | (refine decN (fun h => ?_) (fun h => ?_) <;> try contradiction) | refine booN (fun h => ?_) (fun h => ?_) | refine boo (fun h => ?_) (fun h => ?_) | refine ⟨i64 (by omega) (by omega), ?_⟩ | refine ⟨_, _, rfl, List.getElem?_eq_getElem (by omega), ?_⟩ | refine ⟨_, ⟨rfl, by omega⟩, ?_⟩ | refine ⟨_, List.getElem?_eq_getElem (by omega), ?_⟩ | refine rtB ?_ | refine rtI ?_ | refine rtC ?_ rfl | fail)
    simp [this]
end Go.Nest
