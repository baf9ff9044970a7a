/- WALKS, F1: files: lists of them looked at. -/
import Derived.Test.YtkoiljgjipmhbaaGreatDoorG9
import Derived.Test.YtkoiljgjipmhbaaGreatDoorS5
import Derived.Test.YtkoiljgjipmhbaaGreatDoorP9
import Derived.Test.YtkoiljgjipmhbaaGreatDoorG1b
import Derived.Test.YtkoiljgjipmhbaaGreatDoorS3
section
namespace Go.Nest
open Go Go.AM Go.Proofs
open Go.Proofs.YtkoiljgjipmhbaaGreatDoor (tab tabOk)
set_option linter.unusedVariables false
set_option linter.unusedSimpArgs false
set_option maxRecDepth 4000


theorem eqFi {a b : Fi} : EqCs (encFi a) (encFi b) ↔ a = b := by
  cases a; cases b; simp [encFi, EqCs, EqC]
theorem eqCh {a b : Ch} : EqCs (encCh a) (encCh b) ↔ a = b := by
  obtain ⟨p, ⟨⟩, ⟨⟩⟩ := a; obtain ⟨q, ⟨⟩, ⟨⟩⟩ := b; simp [encCh, EqCs, EqC, and_assoc]


theorem sameFiles_spec (a b : List Fi) : Does Tryz.prog 22 [.c (.bs 4 Fi encFi a), .c (.bs 4 Fi encFi b)] [] (Rt (.c (.bool (decide (a = b)))) []) := by
  refine X_spec ⟨Tryz.prog, tab, 26, 0⟩ tabOk (by kernel_rfl) Tryz.call22 Tryz.func22 rfl rfl (by kernel_rfl) rfl ?_
  intro hb; have hb : a.length ≤ 9223372036854775807 := hb.1.1
  repeat' ((conv => whnf); first | (refine dec (fun h => ?_) (fun h => ?_) <;> try contradiction) | (refine decN (fun h => ?_) (fun h => ?_) <;> try contradiction) | refine booN (fun h => ?_) (fun h => ?_) | refine boo (fun h => ?_) (fun h => ?_) | refine ⟨i64 (by omega) (by omega), ?_⟩ | refine ⟨_, _, rfl, List.getElem?_eq_getElem (by omega), ?_⟩ | refine ⟨_, ⟨rfl, by omega⟩, ?_⟩ | refine ⟨_, List.getElem?_eq_getElem (by omega), ?_⟩ | refine rtB ?_ | refine rtI ?_ | refine rtC ?_ rfl | fail)
  · exact ne_len h
  (conv => whnf)
  have hl : a.length = b.length := by omega
  refine lp Nat (fun i => ⟨[(0, .c (.bs 4 Fi encFi a)), (1, .c (.bs 4 Fi encFi b)), (5, .c (.int .i64 i))], []⟩) (fun i => i ≤ a.length ∧ a.take i = b.take i) (fun i => a.length - i) 0 [] [] ?_ ?_ (fun i hi => ?_)
  · simp
  · repeat' first | exact trivial | exact rfl | refine And.intro ?_ ?_
  (conv => whnf)
  refine dec (fun h4 => ?_) (fun h4 => ?_)
  · have hlt : i < a.length := by omega
    have hlt' : i < b.length := by omega
    (conv => whnf)
    refine ⟨false, (.l [0, 1, 2, 3, 4, 5, 6, 7, 8]), by kernel_rfl, .inl ?_⟩
    repeat' ((conv => whnf); first | (refine dec (fun h => ?_) (fun h => ?_) <;> try contradiction) | (refine decN (fun h => ?_) (fun h => ?_) <;> try contradiction) | refine booN (fun h => ?_) (fun h => ?_) | refine boo (fun h => ?_) (fun h => ?_) | refine ⟨i64 (by omega) (by omega), ?_⟩ | refine ⟨_, _, rfl, List.getElem?_eq_getElem (by omega), ?_⟩ | refine ⟨_, ⟨rfl, by omega⟩, ?_⟩ | refine ⟨_, List.getElem?_eq_getElem (by omega), ?_⟩ | refine rtB ?_ | refine rtI ?_ | refine rtC ?_ rfl | fail)
    · exact ne_at hlt hlt' (fun e => h ((eqFi).2 e))
    · refine ag (i + 1) [] [] ⟨hlt, take_step hlt hlt' hi.2 ((eqFi).1 h)⟩ (by simp only []; omega) ?_
      repeat' first | exact trivial | exact rfl | refine And.intro ?_ ?_
  · repeat' ((conv => whnf); first | (refine dec (fun h => ?_) (fun h => ?_) <;> try contradiction) | (refine decN (fun h => ?_) (fun h => ?_) <;> try contradiction) | refine booN (fun h => ?_) (fun h => ?_) | refine boo (fun h => ?_) (fun h => ?_) | refine ⟨i64 (by omega) (by omega), ?_⟩ | refine ⟨_, _, rfl, List.getElem?_eq_getElem (by omega), ?_⟩ | refine ⟨_, ⟨rfl, by omega⟩, ?_⟩ | refine ⟨_, List.getElem?_eq_getElem (by omega), ?_⟩ | refine rtB ?_ | refine rtI ?_ | refine rtC ?_ rfl | fail)
    exact take_end (by omega) hl hi.2
theorem cloneTexts_spec (l : List (List UInt8)) (hl : l.length * 16 ≤ 140737488355328) : Does Tryz.prog 88 [.c (.bs 1 (List UInt8) encS l)] [] (Rt (.c (.rw 0)) [.row 1 (List UInt8) encS l]) := by
  refine X_spec ⟨Tryz.prog, tab, 8, 0⟩ tabOk (by kernel_rfl) Tryz.call88 Tryz.func88 rfl rfl (by kernel_rfl) rfl ?_
  intro hb
  (conv => whnf)
  intro q hq
  (conv => whnf)
  refine boo (fun h => ?_) (fun h => ?_)
  · obtain rfl := hq h
    (conv => whnf)
    refine rt [] [.new] (by repeat' first | exact trivial | exact rfl | refine And.intro ?_ ?_) rfl ⟨rfl, rfl⟩
  · (conv => whnf)
    refine ⟨[], rfl, ?_⟩
    (conv => whnf)
    refine ⟨_, _, rfl, rfl, (by simp only [List.length_append, List.length_cons, List.length_nil]; omega), ?_⟩
    (conv => whnf)
    refine rt [] [.same 1] (by repeat' first | exact trivial | exact rfl | refine And.intro ?_ ?_) rfl ⟨rfl, rfl⟩

/-! ### up to a stroke -/
theorem cutL_spec (s : List UInt8) : Does Tryz.prog 107 [.c (.str s), .c (.str [47])] [] (Rt (.tup [(false, [.str (cutP s).1]), (false, [.str (cutP s).2.1]), (false, [.bool (cutP s).2.2])]) []) := by
  refine X_spec ⟨Tryz.prog, tab, 23, 0⟩ tabOk (by kernel_rfl) Tryz.call107 Tryz.func107 rfl rfl (by kernel_rfl) rfl ?_
  intro hb
  have hb : s.length ≤ 9223372036854775807 := hb.1.1
  (conv => whnf)
  refine cl [] [] (sliteIndex_spec s) (by (repeat' first | exact trivial | exact rfl | refine And.intro ?_ ?_); first | done | fail) (by first | exact trivial | exact rfl) ?_
  repeat' ((conv => whnf); first | (refine dec (fun h => ?_) (fun h => ?_) <;> try contradiction) | (refine decN (fun h => ?_) (fun h => ?_) <;> try contradiction) | refine booN (fun h => ?_) (fun h => ?_) | refine boo (fun h => ?_) (fun h => ?_) | refine ⟨i64 (by omega) (by omega), ?_⟩ | refine ⟨_, _, rfl, List.getElem?_eq_getElem (by omega), ?_⟩ | refine ⟨_, ⟨rfl, by omega⟩, ?_⟩ | refine ⟨_, List.getElem?_eq_getElem (by omega), ?_⟩ | refine rtB ?_ | refine rtI ?_ | refine rtC ?_ rfl | fail)
  · have hlt : (Lib.indexByte s 47).toNat < s.length := by
      by_cases hc : s.count 47 = 0
      · rw [idx_none hc] at h; omega
      · obtain ⟨m, h1, h2, _⟩ := idx_stroke (l := s) (by omega)
        omega
    have hc : cutP s = (s.take (Lib.indexByte s 47).toNat, s.drop ((Lib.indexByte s 47).toNat + 1), true) := by unfold cutP; rw [if_pos h]
    rw [hc]
    (conv => whnf)
    refine ⟨false, (.l [0, 1, 2, 3, 4, 5, 6, 7, 8, 9, 10, 11]), by kernel_rfl, .inl ?_⟩
    (conv => whnf)
    refine ⟨0, (Lib.indexByte s 47).toNat, rfl, (Int.toNat_of_nonneg h).symm, ⟨Nat.zero_le _, by omega⟩, ?_⟩
    refine ⟨i64 (by simp; omega) (by simp; omega), ?_⟩
    (conv => whnf)
    refine ⟨(Lib.indexByte s 47).toNat + 1, s.length, ?_, rfl, ⟨by omega, Nat.le_refl _⟩, ?_⟩
    · simp; omega
    (conv => whnf)
    have e1 : s.take s.length = s := List.take_of_length_le (Nat.le_refl _)
    rw [e1]
    refine rt [] [] (by repeat' first | exact trivial | exact rfl | refine And.intro ?_ ?_) rfl ⟨rfl, rfl⟩
  · have hc : cutP s = (s, [], false) := by unfold cutP; rw [if_neg h]
    rw [hc]
    (conv => whnf)
    refine rt [] [] (by repeat' first | exact trivial | exact rfl | refine And.intro ?_ ?_) rfl ⟨rfl, rfl⟩
theorem cut_spec (s : List UInt8) : Does Tryz.prog 82 [.c (.str s), .c (.str [47])] [] (Rt (.tup [(false, [.str (cutP s).1]), (false, [.str (cutP s).2.1]), (false, [.bool (cutP s).2.2])]) []) := by
  refine X_spec ⟨Tryz.prog, tab, 13, 0⟩ tabOk (by kernel_rfl) Tryz.call82 Tryz.func82 rfl rfl (by kernel_rfl) rfl ?_
  intro hb
  (conv => whnf)
  refine cl [] [] (cutL_spec s) (by (repeat' first | exact trivial | exact rfl | refine And.intro ?_ ?_); first | done | fail) (by first | exact trivial | exact rfl) ?_
  (conv => whnf)
  refine rt [] [] (by repeat' first | exact trivial | exact rfl | refine And.intro ?_ ?_) rfl ⟨rfl, rfl⟩
/-! ### the file of a path -/
theorem fileAt_spec (l : List Fi) (p : List UInt8) : Does Tryz.prog 21 [.c (.bs 4 Fi encFi l), .c (.str p)] [] (Rt (.tup [(true, encFi (fileAtP l p).1), (false, [.bool (fileAtP l p).2])]) []) := by
  refine X_spec ⟨Tryz.prog, tab, 25, 0⟩ tabOk (by kernel_rfl) Tryz.call21 Tryz.func21 rfl rfl (by kernel_rfl) rfl ?_
  intro hb; have hb : l.length ≤ 9223372036854775807 := hb.1.1
  (conv => whnf)
  refine lp Nat (fun i => ⟨[(0, .c (.bs 4 Fi encFi l)), (1, .c (.str p)), (4, .c (.ptr 0 0)), (5, .c (.bool false)), (6, .c (.int .i64 i))], [.box (encFi fi0)]⟩) (fun i => i ≤ l.length ∧ ∀ f ∈ l.take i, f.path ≠ p) (fun i => l.length - i) 0 [] [.same 0] ?_ ?_ (fun i hi => ?_)
  · simp
  · repeat' first | exact trivial | exact rfl | refine And.intro ?_ ?_
  (conv => whnf)
  refine dec (fun h4 => ?_) (fun h4 => ?_)
  · have hlt : i < l.length := by omega
    repeat' ((conv => whnf); first | (refine dec (fun h => ?_) (fun h => ?_) <;> try contradiction) | (refine decN (fun h => ?_) (fun h => ?_) <;> try contradiction) | refine booN (fun h => ?_) (fun h => ?_) | refine boo (fun h => ?_) (fun h => ?_) | refine ⟨i64 (by omega) (by omega), ?_⟩ | refine ⟨_, _, rfl, List.getElem?_eq_getElem (by omega), ?_⟩ | refine ⟨_, ⟨rfl, by omega⟩, ?_⟩ | refine ⟨_, List.getElem?_eq_getElem (by omega), ?_⟩ | refine rtB ?_ | refine rtI ?_ | refine rtC ?_ rfl | fail)
    · have : fileAtP l p = (l[i], true) := by
        unfold fileAtP
        have : l.find? (fun f => decide (f.path = p)) = some l[i] := by
          rw [List.find?_eq_some_iff_getElem]
          refine ⟨by simpa using h, i, hlt, rfl, fun j hj => ?_⟩
          have := hi.2 l[j] (by rw [List.mem_take_iff_getElem]; exact ⟨j, by omega, rfl⟩)
          simpa using this
        rw [this]
      rw [this]
      (conv => whnf)
      refine rt [] [] (by repeat' first | exact trivial | exact rfl | refine And.intro ?_ ?_) rfl ⟨rfl, rfl⟩
    · refine ag (i + 1) [] [.same 0] ⟨hlt, ?_⟩ (by simp only []; omega) ?_
      · intro f hf
        rw [List.take_succ_eq_append_getElem hlt, List.mem_append, List.mem_singleton] at hf
        rcases hf with hf | rfl
        · exact hi.2 f hf
        · exact h
      · repeat' first | exact trivial | exact rfl | refine And.intro ?_ ?_
  · have h2 := hi.2
    rw [List.take_of_length_le (by omega)] at h2
    have : fileAtP l p = (fi0, false) := by
      unfold fileAtP
      have : l.find? (fun f => decide (f.path = p)) = none := by
        rw [List.find?_eq_none]; intro f hf; simpa using h2 f hf
      rw [this]
    rw [this]
    repeat' ((conv => whnf); first | (refine dec (fun h => ?_) (fun h => ?_) <;> try contradiction) | (refine decN (fun h => ?_) (fun h => ?_) <;> try contradiction) | refine booN (fun h => ?_) (fun h => ?_) | refine boo (fun h => ?_) (fun h => ?_) | refine ⟨i64 (by omega) (by omega), ?_⟩ | refine ⟨_, _, rfl, List.getElem?_eq_getElem (by omega), ?_⟩ | refine ⟨_, ⟨rfl, by omega⟩, ?_⟩ | refine ⟨_, List.getElem?_eq_getElem (by omega), ?_⟩ | refine rtB ?_ | refine rtI ?_ | refine rtC ?_ rfl | fail)
    (conv => whnf)
    refine rt [] [] (by repeat' first | exact trivial | exact rfl | refine And.intro ?_ ?_) rfl ⟨rfl, rfl⟩

/-! ### great files; files in order -/
def sumL (l : List Fi) : Nat := (l.map fun f => f.path.length).sum
theorem sumL_take {l : List Fi} {i : Nat} (h : i < l.length) : sumL (l.take (i + 1)) = sumL (l.take i) + l[i].path.length := by
  unfold sumL
  rw [List.take_succ_eq_append_getElem h, List.map_append, List.sum_append]; simp
theorem sumL_le {l : List Fi} {n : Nat} (h : ∀ f ∈ l, f.path.length ≤ n) : sumL l ≤ l.length * n := by
  induction l with
  | nil => simp [sumL]
  | cons f l ih =>
    have h1 := ih (fun x hx => h x (by simp [hx]))
    have h2 := h f (by simp)
    unfold sumL at h1 ⊢
    rw [List.map_cons, List.sum_cons, List.length_cons, Nat.succ_mul]
    omega
theorem sumL_mem {l : List Fi} {f : Fi} (h : f ∈ l) : f.path.length ≤ sumL l := by
  induction l with
  | nil => cases h
  | cons g l ih =>
    unfold sumL at ih ⊢
    rw [List.map_cons, List.sum_cons]
    rcases List.mem_cons.1 h with rfl | h
    · omega
    · have := ih h; omega
def greatF (l : List Fi) : Bool := decide (150 < l.length) || decide (6000 < sumL (l.take 200))
theorem greatF_ok {l : List Fi} (h : greatF l = false) : l.length ≤ 150 ∧ sumL l ≤ 6000 ∧ ∀ f ∈ l, f.path.length ≤ 6000 := by
  unfold greatF at h
  rw [Bool.or_eq_false_iff, decide_eq_false_iff_not, decide_eq_false_iff_not] at h
  have h1 : l.length ≤ 150 := by omega
  rw [List.take_of_length_le (by omega)] at h
  exact ⟨h1, by omega, fun f hf => by have := sumL_mem hf; omega⟩
theorem greatFiles_spec (l : List Fi) (hl : ∀ f ∈ l, f.path.length ≤ 140737488351232) : Does Tryz.prog 9 [.c (.bs 4 Fi encFi l)] [] (Rt (.c (.bool (greatF l))) []) := by
  refine X_spec ⟨Tryz.prog, tab, 30, 0⟩ tabOk (by kernel_rfl) Tryz.call9 Tryz.func9 rfl rfl (by kernel_rfl) rfl ?_
  intro hb; have hb : l.length ≤ 9223372036854775807 := hb.1.1
  (conv => whnf)
  refine lp Nat (fun i => ⟨[(0, .c (.bs 4 Fi encFi l)), (3, .c (.int .i64 (sumL (l.take i)))), (4, .c (.int .i64 i))], []⟩) (fun i => i ≤ l.length ∧ i ≤ 200) (fun i => l.length - i) 0 [] [] ?_ ?_ (fun i hi => ?_)
  · simp
  · repeat' first | exact trivial | exact rfl | refine And.intro ?_ ?_
  have hs : sumL (l.take i) ≤ 200 * 140737488351232 := by
    have h2 : (l.take i).length ≤ 200 := by rw [List.length_take]; omega
    have key : ∀ N, (∀ f ∈ l, f.path.length ≤ N) → sumL (l.take i) ≤ 200 * N := fun N h => Nat.le_trans (sumL_le fun f hf => h f (List.mem_of_mem_take hf)) (Nat.mul_le_mul_right N h2)
    exact key _ hl
  have fin : ¬ (i < l.length ∧ i < 200) → sumL (l.take i) = sumL (l.take 200) := fun h => by
    by_cases h3 : i < l.length
    · have : i = 200 := by omega
      rw [this]
    · rw [List.take_of_length_le (by omega), List.take_of_length_le (by omega)]
  (conv => whnf)
  refine dec (fun h4 => ?_) (fun h4 => ?_)
  · (conv => whnf)
    refine dec (fun h5 => ?_) (fun h5 => ?_)
    · have hlt : i < l.length := by omega
      have hp := hl _ (List.getElem_mem hlt)
      (conv => whnf)
      refine ⟨i, l[i], rfl, List.getElem?_eq_getElem hlt, ?_⟩
      (conv => whnf)
      refine ⟨i64 (by omega) (by omega), ?_⟩
      repeat' ((conv => whnf); first | (refine dec (fun h => ?_) (fun h => ?_) <;> try contradiction) | (refine decN (fun h => ?_) (fun h => ?_) <;> try contradiction) | refine booN (fun h => ?_) (fun h => ?_) | refine boo (fun h => ?_) (fun h => ?_) | refine ⟨i64 (by omega) (by omega), ?_⟩ | refine ⟨_, _, rfl, List.getElem?_eq_getElem (by omega), ?_⟩ | refine ⟨_, ⟨rfl, by omega⟩, ?_⟩ | refine ⟨_, List.getElem?_eq_getElem (by omega), ?_⟩ | refine rtB ?_ | refine rtI ?_ | refine rtC ?_ rfl | fail)
      refine ag (i + 1) [] [] ⟨hlt, by omega⟩ (by simp only []; omega) ?_
      rw [sumL_take hlt]
      repeat' first | exact trivial | exact rfl | refine And.intro ?_ ?_
    · have := fin (by omega)
      rw [this]
      repeat' ((conv => whnf); first | (refine dec (fun h => ?_) (fun h => ?_) <;> try contradiction) | (refine decN (fun h => ?_) (fun h => ?_) <;> try contradiction) | refine booN (fun h => ?_) (fun h => ?_) | refine boo (fun h => ?_) (fun h => ?_) | refine ⟨i64 (by omega) (by omega), ?_⟩ | refine ⟨_, _, rfl, List.getElem?_eq_getElem (by omega), ?_⟩ | refine ⟨_, ⟨rfl, by omega⟩, ?_⟩ | refine ⟨_, List.getElem?_eq_getElem (by omega), ?_⟩ | refine rtB ?_ | refine rtI ?_ | refine rtC ?_ rfl | fail)
      · have h : 150 < l.length := by omega
        simp [greatF, h]
      · have h : ¬ 150 < l.length := by omega
        simp [greatF, h]; omega
  · have := fin (by omega)
    rw [this]
    repeat' ((conv => whnf); first | (refine dec (fun h => ?_) (fun h => ?_) <;> try contradiction) | (refine decN (fun h => ?_) (fun h => ?_) <;> try contradiction) | refine booN (fun h => ?_) (fun h => ?_) | refine boo (fun h => ?_) (fun h => ?_) | refine ⟨i64 (by omega) (by omega), ?_⟩ | refine ⟨_, _, rfl, List.getElem?_eq_getElem (by omega), ?_⟩ | refine ⟨_, ⟨rfl, by omega⟩, ?_⟩ | refine ⟨_, List.getElem?_eq_getElem (by omega), ?_⟩ | refine rtB ?_ | refine rtI ?_ | refine rtC ?_ rfl | fail)
    · have h : 150 < l.length := by omega
      simp [greatF, h]
    · have h : ¬ 150 < l.length := by omega
      simp [greatF, h]; omega

end Go.Nest
end
/- WALKS, F2: what is not the same in two lists of files. -/
section
namespace Go.Nest
open Go Go.AM Go.Proofs
open Go.Proofs.YtkoiljgjipmhbaaGreatDoor (tab tabOk)
set_option linter.unusedVariables false
set_option linter.unusedSimpArgs false
set_option maxRecDepth 4000

theorem diffP_len : ∀ (a b : List Fi), (diffP a b).length ≤ a.length + b.length
  | [], [] => by unfold diffP; simp
  | a :: ar, [] => by unfold diffP; have := diffP_len ar []; simp at this ⊢; omega
  | [], b :: bs => by unfold diffP; have := diffP_len [] bs; simp at this ⊢; omega
  | a :: ar, b :: bs => by
    unfold diffP
    have h1 := diffP_len ar (b :: bs)
    have h2 := diffP_len (a :: ar) bs
    have h3 := diffP_len ar bs
    split
    · simp at h1 ⊢; omega
    split
    · simp at h2 ⊢; omega
    split <;> simp at h3 ⊢ <;> omega
termination_by a b => a.length + b.length

set_option maxHeartbeats 2000000 in
theorem diff_spec (a b : List Fi) (hla : a.length ≤ 150) (hlb : b.length ≤ 150) (ha : ∀ f ∈ a, f.path.length ≤ 4000000) (hb' : ∀ f ∈ b, f.path.length ≤ 4000000) : Does Tryz.prog 40 [.c (.bs 4 Fi encFi a), .c (.bs 4 Fi encFi b)] [] (Rt (.c (.rw 0)) [.row 9 Ch encCh (diffP a b)]) := by
  refine X_spec ⟨Tryz.prog, tab, 101, 0⟩ tabOk (by kernel_rfl) Tryz.call40 Tryz.func40 rfl rfl (by kernel_rfl) rfl ?_
  intro hb
  (conv => whnf)
  refine lp (List Fi × List Fi × List Ch) (fun x => ⟨[(0, .c (.bs 4 Fi encFi x.1)), (1, .c (.bs 4 Fi encFi x.2.1)), (5, .c (.rw 0))], [.row 9 Ch encCh x.2.2]⟩) (fun x => (x.1.length ≤ 150 ∧ x.2.1.length ≤ 150 ∧ x.2.2.length + x.1.length + x.2.1.length ≤ 300) ∧ ((∀ f ∈ x.1, f.path.length ≤ 4000000) ∧ ∀ f ∈ x.2.1, f.path.length ≤ 4000000) ∧ x.2.2 ++ diffP x.1 x.2.1 = diffP a b) (fun x => x.1.length + x.2.1.length) (a, b, []) [] [.new] ?_ ?_ (fun x hx => ?_)
  · exact ⟨⟨hla, hlb, by simp; omega⟩, ⟨ha, hb'⟩, rfl⟩
  · repeat' first | exact trivial | exact rfl | refine And.intro ?_ ?_
  obtain ⟨p, q, out⟩ := x
  obtain ⟨⟨h1, h2, h3⟩, ⟨h4, h5⟩, h6⟩ := hx
  dsimp only at h1 h2 h3 h4 h5 h6
  have cp : ∀ (h : 0 < p.length), p = p[0] :: p.drop 1 := fun h => by cases p with | nil => cases h | cons _ _ => rfl
  have cq : ∀ (h : 0 < q.length), q = q[0] :: q.drop 1 := fun h => by cases q with | nil => cases h | cons _ _ => rfl
  have nilOf : ∀ {l : List Fi}, ¬ 0 < l.length → l = [] := fun h => List.eq_nil_of_length_eq_zero (by omega)
  have tp : ((p, q, out).1.drop 1).take (p.length - 1) = p.drop 1 := List.take_of_length_le (by simp)
  have tq : ((p, q, out).2.1.drop 1).take (q.length - 1) = q.drop 1 := List.take_of_length_le (by simp)
  have dp : ∀ f ∈ p.drop 1, f.path.length ≤ 4000000 := fun f hf => h4 f (List.mem_of_mem_drop hf)
  have dq : ∀ f ∈ q.drop 1, f.path.length ≤ 4000000 := fun f hf => h5 f (List.mem_of_mem_drop hf)
  (conv => whnf)
  refine dec (fun hp => ?_) (fun hp => ?_)
  · have hp : 0 < p.length := by simpa using hp
    (conv => whnf)
    refine ⟨false, (.l [0, 1, 2, 3, 4, 5, 6, 7, 8, 9, 10, 11, 12, 13, 14, 15, 16, 17, 18, 19]), by kernel_rfl, .inl ?_⟩
    (conv => whnf)
    refine dec (fun hq => ?_) (fun hq => ?_)
    · have hq : ¬ 0 < q.length := by simp at hq; simp [hq]
      have e : out ++ diffP p q = (out ++ [⟨p[0].path, p[0], fi0⟩]) ++ diffP (p.drop 1) q := by
        rw [nilOf hq]; conv => lhs; rw [cp hp]
        rw [diffP]; simp
      (conv => whnf)
      refine ⟨false, (.l [0, 1, 2, 3, 4, 5, 6, 7, 8, 9, 10, 11]), by kernel_rfl, .inl ?_⟩
      (conv => whnf)
      refine ⟨0, p[0], rfl, List.getElem?_eq_getElem hp, ?_⟩
      (conv => whnf)
      refine ⟨0, p[0], rfl, List.getElem?_eq_getElem hp, ?_⟩
      (conv => whnf)
      refine ⟨[⟨p[0].path, p[0], fi0⟩], rfl, ?_⟩
      (conv => whnf)
      refine ⟨_, _, rfl, rfl, (by simp only [List.length_append, List.length_cons, List.length_nil]; omega), ?_⟩
      (conv => whnf)
      refine ⟨1, p.length, rfl, rfl, ⟨hp, Nat.le_refl _⟩, ?_⟩
      (conv => whnf)
      rw [tp]
      refine ag (p.drop 1, q, out ++ [⟨p[0].path, p[0], fi0⟩]) [] [.same 2] ⟨⟨by rw [List.length_drop]; omega, h2, by rw [List.length_append, List.length_drop]; simp; omega⟩, ⟨dp, h5⟩, by rw [← e]; exact h6⟩ (by simp; omega) ?_
      repeat' first | exact trivial | exact rfl | refine And.intro ?_ ?_
    · have hq : 0 < q.length := by simp at hq; exact List.length_pos_iff.2 hq
      (conv => whnf)
      refine dec (fun _ => ?_) (fun h0 => absurd (by simpa using hp) h0)
      (conv => whnf)
      refine ⟨0, p[0], rfl, List.getElem?_eq_getElem hp, ?_⟩
      (conv => whnf)
      refine ⟨0, q[0], rfl, List.getElem?_eq_getElem hq, ?_⟩
      (conv => whnf)
      refine cl [] [] (less_spec p[0].path q[0].path (h4 _ (List.getElem_mem _)) (h5 _ (List.getElem_mem _))) (by (repeat' first | exact trivial | exact rfl | refine And.intro ?_ ?_); first | done | fail) (by first | exact trivial | exact rfl) ?_
      (conv => whnf)
      refine boo (fun hl => ?_) (fun hl => ?_)
      · have e : out ++ diffP p q = (out ++ [⟨p[0].path, p[0], fi0⟩]) ++ diffP (p.drop 1) q := by
          conv => lhs; rw [cp hp, cq hq]
          rw [diffP, if_pos hl, ← cq hq]; simp
        (conv => whnf)
        refine ⟨false, (.l [0, 1, 2, 3, 4, 5, 6, 7, 8, 9, 10, 11]), by kernel_rfl, .inl ?_⟩
        (conv => whnf)
        refine ⟨0, p[0], rfl, List.getElem?_eq_getElem hp, ?_⟩
        (conv => whnf)
        refine ⟨0, p[0], rfl, List.getElem?_eq_getElem hp, ?_⟩
        (conv => whnf)
        refine ⟨[⟨p[0].path, p[0], fi0⟩], rfl, ?_⟩
        (conv => whnf)
        refine ⟨_, _, rfl, rfl, (by simp only [List.length_append, List.length_cons, List.length_nil]; omega), ?_⟩
        (conv => whnf)
        refine ⟨1, p.length, rfl, rfl, ⟨hp, Nat.le_refl _⟩, ?_⟩
        (conv => whnf)
        rw [tp]
        refine ag (p.drop 1, q, out ++ [⟨p[0].path, p[0], fi0⟩]) [] [.same 2] ⟨⟨by rw [List.length_drop]; omega, h2, by rw [List.length_append, List.length_drop]; simp; omega⟩, ⟨dp, h5⟩, by rw [← e]; exact h6⟩ (by simp; omega) ?_
        repeat' first | exact trivial | exact rfl | refine And.intro ?_ ?_
      · (conv => whnf)
        refine ⟨false, (.l [0, 1, 2, 3, 4, 5, 6, 7, 8, 9, 10, 11, 12, 13, 14]), by kernel_rfl, .inl ?_⟩
        (conv => whnf)
        refine dec (fun h0 => absurd h0 (by simp; exact List.length_pos_iff.1 hp)) (fun _ => ?_)
        (conv => whnf)
        refine ⟨0, q[0], rfl, List.getElem?_eq_getElem hq, ?_⟩
        (conv => whnf)
        refine ⟨0, p[0], rfl, List.getElem?_eq_getElem hp, ?_⟩
        (conv => whnf)
        refine cl [] [] (less_spec q[0].path p[0].path (h5 _ (List.getElem_mem _)) (h4 _ (List.getElem_mem _))) (by (repeat' first | exact trivial | exact rfl | refine And.intro ?_ ?_); first | done | fail) (by first | exact trivial | exact rfl) ?_
        (conv => whnf)
        refine boo (fun hg => ?_) (fun hg => ?_)
        · have e : out ++ diffP p q = (out ++ [⟨q[0].path, fi0, q[0]⟩]) ++ diffP p (q.drop 1) := by
            conv => lhs; rw [cp hp, cq hq]
            rw [diffP, if_neg (by simp [hl]), if_pos hg, ← cp hp]; simp
          (conv => whnf)
          refine ⟨false, (.l [0, 1, 2, 3, 4, 5, 6, 7, 8, 9, 10, 11]), by kernel_rfl, .inl ?_⟩
          (conv => whnf)
          refine ⟨0, q[0], rfl, List.getElem?_eq_getElem hq, ?_⟩
          (conv => whnf)
          refine ⟨0, q[0], rfl, List.getElem?_eq_getElem hq, ?_⟩
          (conv => whnf)
          refine ⟨[⟨q[0].path, fi0, q[0]⟩], rfl, ?_⟩
          (conv => whnf)
          refine ⟨_, _, rfl, rfl, (by simp only [List.length_append, List.length_cons, List.length_nil]; omega), ?_⟩
          (conv => whnf)
          refine ⟨1, q.length, rfl, rfl, ⟨hq, Nat.le_refl _⟩, ?_⟩
          (conv => whnf)
          rw [tq]
          refine ag (p, q.drop 1, out ++ [⟨q[0].path, fi0, q[0]⟩]) [] [.same 2] ⟨⟨h1, by rw [List.length_drop]; omega, by rw [List.length_append, List.length_drop]; simp; omega⟩, ⟨h4, dq⟩, by rw [← e]; exact h6⟩ (by simp; omega) ?_
          repeat' first | exact trivial | exact rfl | refine And.intro ?_ ?_
        · (conv => whnf)
          refine ⟨false, (.l [0, 1, 2, 3, 4, 5, 6]), by kernel_rfl, .inl ?_⟩
          (conv => whnf)
          refine ⟨0, p[0], rfl, List.getElem?_eq_getElem hp, ?_⟩
          (conv => whnf)
          refine ⟨0, q[0], rfl, List.getElem?_eq_getElem hq, ?_⟩
          (conv => whnf)
          have e0 : out ++ diffP p q = out ++ (if p[0] ≠ q[0] then ⟨p[0].path, p[0], q[0]⟩ :: diffP (p.drop 1) (q.drop 1) else diffP (p.drop 1) (q.drop 1)) := by
            conv => lhs; rw [cp hp, cq hq]
            rw [diffP, if_neg (by simp [hl]), if_neg (by simp [hg])]
          refine decN (fun hd => ?_) (fun hd => ?_)
          · rw [if_pos (fun h => hd (eqFi.2 h))] at e0
            have e : out ++ diffP p q = (out ++ [⟨p[0].path, p[0], q[0]⟩]) ++ diffP (p.drop 1) (q.drop 1) := by rw [e0]; simp
            (conv => whnf)
            refine ⟨false, (.l [0, 1, 2, 3, 4, 5, 6, 7, 8, 9, 10, 11, 12, 13, 14]), by kernel_rfl, .inl ?_⟩
            (conv => whnf)
            refine ⟨0, p[0], rfl, List.getElem?_eq_getElem hp, ?_⟩
            (conv => whnf)
            refine ⟨0, p[0], rfl, List.getElem?_eq_getElem hp, ?_⟩
            (conv => whnf)
            refine ⟨0, q[0], rfl, List.getElem?_eq_getElem hq, ?_⟩
            (conv => whnf)
            refine ⟨[⟨p[0].path, p[0], q[0]⟩], rfl, ?_⟩
            (conv => whnf)
            refine ⟨_, _, rfl, rfl, (by simp only [List.length_append, List.length_cons, List.length_nil]; omega), ?_⟩
            (conv => whnf)
            refine ⟨false, (.l [0, 1, 2, 3, 4, 5]), by kernel_rfl, .inl ?_⟩
            (conv => whnf)
            refine ⟨1, p.length, rfl, rfl, ⟨hp, Nat.le_refl _⟩, ?_⟩
            (conv => whnf)
            refine ⟨1, q.length, rfl, rfl, ⟨hq, Nat.le_refl _⟩, ?_⟩
            (conv => whnf)
            rw [tp, tq]
            refine ag (p.drop 1, q.drop 1, out ++ [⟨p[0].path, p[0], q[0]⟩]) [] [.same 2] ⟨⟨by rw [List.length_drop]; omega, by rw [List.length_drop]; omega, by rw [List.length_append, List.length_drop, List.length_drop]; simp; omega⟩, ⟨dp, dq⟩, by rw [← e]; exact h6⟩ (by simp; omega) ?_
            repeat' first | exact trivial | exact rfl | refine And.intro ?_ ?_
          · rw [if_neg (fun h => h (eqFi.1 hd))] at e0
            (conv => whnf)
            refine ⟨false, (.l [0, 1, 2, 3, 4, 5]), by kernel_rfl, .inl ?_⟩
            (conv => whnf)
            refine ⟨1, p.length, rfl, rfl, ⟨hp, Nat.le_refl _⟩, ?_⟩
            (conv => whnf)
            refine ⟨1, q.length, rfl, rfl, ⟨hq, Nat.le_refl _⟩, ?_⟩
            (conv => whnf)
            rw [tp, tq]
            refine ag (p.drop 1, q.drop 1, out) [] [.same 0] ⟨⟨by rw [List.length_drop]; omega, by rw [List.length_drop]; omega, by simp only [List.length_drop]; omega⟩, ⟨dp, dq⟩, by rw [← e0]; exact h6⟩ (by simp; omega) ?_
            repeat' first | exact trivial | exact rfl | refine And.intro ?_ ?_
  · have hp : ¬ 0 < p.length := by simp at hp; simp [hp]
    (conv => whnf)
    refine dec (fun hq => ?_) (fun hq => ?_)
    · have hq : 0 < q.length := by simpa using hq
      have e : out ++ diffP p q = (out ++ [⟨q[0].path, fi0, q[0]⟩]) ++ diffP p (q.drop 1) := by
        rw [nilOf hp]; conv => lhs; rw [cq hq]
        rw [diffP]; simp
      (conv => whnf)
      refine ⟨false, (.l [0, 1, 2, 3, 4, 5, 6, 7, 8, 9, 10, 11, 12, 13, 14, 15, 16, 17, 18, 19]), by kernel_rfl, .inl ?_⟩
      (conv => whnf)
      refine dec (fun h0 => absurd h0 (by simp; exact List.length_pos_iff.1 hq)) (fun _ => ?_)
      (conv => whnf)
      refine dec (fun h0 => absurd (by simpa using h0) hp) (fun _ => ?_)
      (conv => whnf)
      refine ⟨false, (.l [0, 1, 2, 3, 4, 5, 6, 7, 8, 9, 10, 11, 12, 13, 14]), by kernel_rfl, .inl ?_⟩
      (conv => whnf)
      refine dec (fun _ => ?_) (fun h0 => absurd (by simp; exact nilOf hp) h0)
      (conv => whnf)
      refine ⟨false, (.l [0, 1, 2, 3, 4, 5, 6, 7, 8, 9, 10, 11]), by kernel_rfl, .inl ?_⟩
      (conv => whnf)
      refine ⟨0, q[0], rfl, List.getElem?_eq_getElem hq, ?_⟩
      (conv => whnf)
      refine ⟨0, q[0], rfl, List.getElem?_eq_getElem hq, ?_⟩
      (conv => whnf)
      refine ⟨[⟨q[0].path, fi0, q[0]⟩], rfl, ?_⟩
      (conv => whnf)
      refine ⟨_, _, rfl, rfl, (by simp only [List.length_append, List.length_cons, List.length_nil]; omega), ?_⟩
      (conv => whnf)
      refine ⟨1, q.length, rfl, rfl, ⟨hq, Nat.le_refl _⟩, ?_⟩
      (conv => whnf)
      rw [tq]
      refine ag (p, q.drop 1, out ++ [⟨q[0].path, fi0, q[0]⟩]) [] [.same 2] ⟨⟨h1, by rw [List.length_drop]; omega, by rw [List.length_append, List.length_drop]; simp; omega⟩, ⟨h4, dq⟩, by rw [← e]; exact h6⟩ (by simp; omega) ?_
      repeat' first | exact trivial | exact rfl | refine And.intro ?_ ?_
    · have hq : ¬ 0 < q.length := by simp at hq; simp [hq]
      rw [nilOf hp, nilOf hq] at h6
      rw [show diffP [] [] = [] by unfold diffP; rfl, List.append_nil] at h6
      (conv => whnf)
      rw [← h6]
      refine rt [] [.same 0] (by repeat' first | exact trivial | exact rfl | refine And.intro ?_ ?_) rfl ⟨rfl, rfl⟩
end Go.Nest
end
/- WALKS, F3: files in order, all paths, all changes. -/
section
namespace Go.Nest
open Go Go.AM Go.Proofs
open Go.Proofs.YtkoiljgjipmhbaaGreatDoor (tab tabOk)
set_option linter.unusedVariables false
set_option linter.unusedSimpArgs false
set_option maxRecDepth 4000

theorem tw_at {α : Type} {p : α → Bool} : ∀ {l : List α} {k : Nat}, k ≤ l.length → (∀ g ∈ l.take k, p g = true) → (∀ h : k < l.length, p l[k] = false) → l.takeWhile p = l.take k ∧ l.dropWhile p = l.drop k
  | [], 0, _, _, _ => ⟨rfl, rfl⟩
  | x :: l, 0, _, _, h => by have := h (by simp); simp at this; simp [this]
  | x :: l, k + 1, hk, h1, h2 => by
    have hx := h1 x (by simp)
    obtain ⟨h3, h4⟩ := tw_at (l := l) (k := k) (by simpa using hk) (fun g hg => h1 g (by simp [hg])) (fun h => h2 (by simpa using h))
    simp [hx, h3, h4]
  | [], k + 1, h, _, _ => by simp at h
theorem ins_at {f : Fi} {out : List Fi} {k : Nat} (hk : k ≤ out.length) (h1 : ∀ g ∈ out.take k, lessP f.path g.path = false) (h2 : ∀ h : k < out.length, lessP f.path out[k].path = true) : insF f out = out.take k ++ f :: out.drop k := by
  obtain ⟨h3, h4⟩ := tw_at (p := fun g : Fi => !lessP f.path g.path) hk (fun g hg => by simp [h1 g hg]) (fun h => by simp [h2 h])
  unfold insF
  rw [h3, h4]
def ordU (l : List Fi) (i : Nat) : List Fi := inOrdP (l.take i)
theorem ordU_succ {l : List Fi} {i : Nat} (h : i < l.length) : ordU l (i + 1) = insF l[i] (ordU l i) := by
  unfold ordU inOrdP
  rw [List.take_succ_eq_append_getElem h, List.foldl_append]; rfl
theorem ordU_len {l : List Fi} {i : Nat} (h : i ≤ l.length) : (ordU l i).length = i := by
  unfold ordU
  rw [(inOrd_perm _).length_eq, List.length_take]; omega
theorem ordU_mem {l : List Fi} {i : Nat} {f : Fi} (h : f ∈ ordU l i) : f ∈ l := List.mem_of_mem_take ((inOrd_perm _).mem_iff.1 h)

set_option maxHeartbeats 2000000 in
theorem inOrder_spec (l : List Fi) (hl : l.length ≤ 1000) (hp : ∀ f ∈ l, f.path.length ≤ 4000000) : Does Tryz.prog 24 [.c (.bs 4 Fi encFi l)] [] (Rt (.c (.rw 0)) [.row 4 Fi encFi (inOrdP l)]) := by
  refine X_spec ⟨Tryz.prog, tab, 50, 0⟩ tabOk (by kernel_rfl) Tryz.call24 Tryz.func24 rfl rfl (by kernel_rfl) rfl ?_
  intro hb
  (conv => whnf)
  refine lp Nat (fun i => ⟨[(0, .c (.bs 4 Fi encFi l)), (3, .c (.rw 0)), (4, .c (.int .i64 i))], [.row 4 Fi encFi (ordU l i)]⟩) (fun i => i ≤ l.length ∧ True) (fun i => l.length - i) 0 [] [.new] ?_ ?_ (fun i hi => ?_)
  · simp
  · repeat' first | exact trivial | exact rfl | refine And.intro ?_ ?_
  have hol := ordU_len hi.1
  (conv => whnf)
  refine dec (fun h4 => ?_) (fun h4 => ?_)
  · have hlt : i < l.length := by omega
    have hfp := hp _ (List.getElem_mem hlt)
    (conv => whnf)
    refine lp Nat (fun k => ⟨[(0, .c (.bs 4 Fi encFi l)), (3, .c (.rw 0)), (4, .c (.int .i64 i)), (5, .c (.int .i64 k))], [.row 4 Fi encFi (ordU l i)]⟩) (fun k => (k ≤ (ordU l i).length ∧ True) ∧ ∀ g ∈ (ordU l i).take k, lessP l[i].path g.path = false) (fun k => (ordU l i).length - k) 0 [] [.same 0] ?_ ?_ (fun k hk => ?_)
    · simp
    · repeat' first | exact trivial | exact rfl | refine And.intro ?_ ?_
    have fin : (∀ h : k < (ordU l i).length, lessP l[i].path (ordU l i)[k].path = true) → insF l[i] (ordU l i) = (ordU l i).take k ++ l[i] :: (ordU l i).drop k := fun h => ins_at hk.1.1 hk.2 h
    (conv => whnf)
    refine ⟨false, (.l [0, 1, 2, 3, 4, 5, 6, 7, 8, 9, 10, 11, 12, 13, 14, 15, 16, 17]), by kernel_rfl, .inl ?_⟩
    (conv => whnf)
    refine dec (fun h5 => ?_) (fun h5 => ?_)
    · have hkl : k < (ordU l i).length := by omega
      (conv => whnf)
      refine ⟨i, l[i], rfl, List.getElem?_eq_getElem hlt, ?_⟩
      (conv => whnf)
      refine ⟨k, ⟨rfl, hkl⟩, ?_⟩
      (conv => whnf)
      refine ⟨(ordU l i)[k], List.getElem?_eq_getElem hkl, ?_⟩
      (conv => whnf)
      refine cl [] [] (ahead_spec l[i].path (ordU l i)[k].path hfp (hp _ (ordU_mem (List.getElem_mem hkl)))) (by (repeat' first | exact trivial | exact rfl | refine And.intro ?_ ?_); first | done | fail) (by first | exact trivial | exact rfl) ?_
      (conv => whnf)
      refine booN (fun h6 => ?_) (fun h6 => ?_)
      · repeat' ((conv => whnf); first | (refine dec (fun h => ?_) (fun h => ?_) <;> try contradiction) | (refine decN (fun h => ?_) (fun h => ?_) <;> try contradiction) | refine booN (fun h => ?_) (fun h => ?_) | refine boo (fun h => ?_) (fun h => ?_) | refine ⟨i64 (by omega) (by omega), ?_⟩ | refine ⟨_, _, rfl, List.getElem?_eq_getElem (by omega), ?_⟩ | refine ⟨_, ⟨rfl, by omega⟩, ?_⟩ | refine ⟨_, List.getElem?_eq_getElem (by omega), ?_⟩ | refine rtB ?_ | refine rtI ?_ | refine rtC ?_ rfl | fail)
        refine ag (k + 1) [] [.same 0] ⟨⟨hkl, trivial⟩, fun g hg => ?_⟩ (by simp only []; omega) ?_
        · rw [List.take_succ_eq_append_getElem hkl, List.mem_append, List.mem_singleton] at hg
          rcases hg with hg | rfl
          · exact hk.2 g hg
          · exact h6
        · repeat' first | exact trivial | exact rfl | refine And.intro ?_ ?_
      · have fin := fin (fun _ => h6)
        rw [← ordU_succ hlt] at fin
        have e : ordU l (i + 1) = (([] ++ ((ordU l i).drop 0).take (k - 0)) ++ [l[i]]) ++ ((ordU l i).drop k).take ((ordU l i).length - k) := by
          rw [fin, List.take_of_length_le (l := List.drop k (ordU l i)) (by rw [List.length_drop]; exact Nat.le_refl _)]
          simp
        (conv => whnf)
        refine ⟨false, (.alt [0, 1, 2, 3, 5, 6, 7, 8] [4, 9] fun j => bif Nat.beq j 4 then (.l [9, 10, 11]) else bif Nat.beq j 9 then (.l [4, 10, 11]) else .l []), by kernel_rfl, .inl ?_⟩
        (conv => whnf)
        refine ⟨0, k, rfl, rfl, ⟨Nat.zero_le _, hk.1.1⟩, ?_⟩
        (conv => whnf)
        refine ⟨i, l[i], rfl, List.getElem?_eq_getElem hlt, ?_⟩
        (conv => whnf)
        refine And.intro ?_ ?_
        · (conv => whnf)
          refine ⟨[], _, rfl, rfl, (by simp only [List.length_take, List.length_drop, List.length_nil]; omega), ?_⟩
          (conv => whnf)
          refine ⟨[l[i]], rfl, ?_⟩
          (conv => whnf)
          refine ⟨_, _, rfl, rfl, (by simp only [List.length_take, List.length_drop, List.length_append, List.length_cons, List.length_nil]; omega), ?_⟩
          (conv => whnf)
          refine ⟨k, (ordU l i).length, rfl, rfl, ⟨hk.1.1, Nat.le_refl _⟩, ?_⟩
          (conv => whnf)
          refine ⟨_, _, rfl, rfl, (by simp only [List.length_take, List.length_drop, List.length_append, List.length_cons, List.length_nil]; omega), ?_⟩
          repeat' ((conv => whnf); first | (refine dec (fun h => ?_) (fun h => ?_) <;> try contradiction) | (refine decN (fun h => ?_) (fun h => ?_) <;> try contradiction) | refine booN (fun h => ?_) (fun h => ?_) | refine boo (fun h => ?_) (fun h => ?_) | refine ⟨i64 (by omega) (by omega), ?_⟩ | refine ⟨_, _, rfl, List.getElem?_eq_getElem (by omega), ?_⟩ | refine ⟨_, ⟨rfl, by omega⟩, ?_⟩ | refine ⟨_, List.getElem?_eq_getElem (by omega), ?_⟩ | refine rtB ?_ | refine rtI ?_ | refine rtC ?_ rfl | fail)
          refine ag (i + 1) [] [.same 4] ⟨hlt, trivial⟩ (by simp only []; omega) ?_
          rw [e]
          repeat' first | exact trivial | exact rfl | refine And.intro ?_ ?_
        · (conv => whnf)
          refine ⟨[l[i]], rfl, ?_⟩
          (conv => whnf)
          refine ⟨[], _, rfl, rfl, (by simp only [List.length_take, List.length_drop, List.length_nil]; omega), ?_⟩
          (conv => whnf)
          refine ⟨_, _, rfl, rfl, (by simp only [List.length_take, List.length_drop, List.length_append, List.length_cons, List.length_nil]; omega), ?_⟩
          (conv => whnf)
          refine ⟨k, (ordU l i).length, rfl, rfl, ⟨hk.1.1, Nat.le_refl _⟩, ?_⟩
          (conv => whnf)
          refine ⟨_, _, rfl, rfl, (by simp only [List.length_take, List.length_drop, List.length_append, List.length_cons, List.length_nil]; omega), ?_⟩
          repeat' ((conv => whnf); first | (refine dec (fun h => ?_) (fun h => ?_) <;> try contradiction) | (refine decN (fun h => ?_) (fun h => ?_) <;> try contradiction) | refine booN (fun h => ?_) (fun h => ?_) | refine boo (fun h => ?_) (fun h => ?_) | refine ⟨i64 (by omega) (by omega), ?_⟩ | refine ⟨_, _, rfl, List.getElem?_eq_getElem (by omega), ?_⟩ | refine ⟨_, ⟨rfl, by omega⟩, ?_⟩ | refine ⟨_, List.getElem?_eq_getElem (by omega), ?_⟩ | refine rtB ?_ | refine rtI ?_ | refine rtC ?_ rfl | fail)
          refine ag (i + 1) [] [.same 4] ⟨hlt, trivial⟩ (by simp only []; omega) ?_
          rw [e]
          repeat' first | exact trivial | exact rfl | refine And.intro ?_ ?_
    · have fin := fin (fun h => by omega)
      rw [← ordU_succ hlt] at fin
      have e : ordU l (i + 1) = (([] ++ ((ordU l i).drop 0).take (k - 0)) ++ [l[i]]) ++ ((ordU l i).drop k).take ((ordU l i).length - k) := by
        rw [fin, List.take_of_length_le (l := List.drop k (ordU l i)) (by rw [List.length_drop]; exact Nat.le_refl _)]
        simp
      (conv => whnf)
      refine ⟨false, (.alt [0, 1, 2, 3, 5, 6, 7, 8] [4, 9] fun j => bif Nat.beq j 4 then (.l [9, 10, 11]) else bif Nat.beq j 9 then (.l [4, 10, 11]) else .l []), by kernel_rfl, .inl ?_⟩
      (conv => whnf)
      refine ⟨0, k, rfl, rfl, ⟨Nat.zero_le _, hk.1.1⟩, ?_⟩
      (conv => whnf)
      refine ⟨i, l[i], rfl, List.getElem?_eq_getElem hlt, ?_⟩
      (conv => whnf)
      refine And.intro ?_ ?_
      · (conv => whnf)
        refine ⟨[], _, rfl, rfl, (by simp only [List.length_take, List.length_drop, List.length_nil]; omega), ?_⟩
        (conv => whnf)
        refine ⟨[l[i]], rfl, ?_⟩
        (conv => whnf)
        refine ⟨_, _, rfl, rfl, (by simp only [List.length_take, List.length_drop, List.length_append, List.length_cons, List.length_nil]; omega), ?_⟩
        (conv => whnf)
        refine ⟨k, (ordU l i).length, rfl, rfl, ⟨hk.1.1, Nat.le_refl _⟩, ?_⟩
        (conv => whnf)
        refine ⟨_, _, rfl, rfl, (by simp only [List.length_take, List.length_drop, List.length_append, List.length_cons, List.length_nil]; omega), ?_⟩
        repeat' ((conv => whnf); first | (refine dec (fun h => ?_) (fun h => ?_) <;> try contradiction) | (refine decN (fun h => ?_) (fun h => ?_) <;> try contradiction) | refine booN (fun h => ?_) (fun h => ?_) | refine boo (fun h => ?_) (fun h => ?_) | refine ⟨i64 (by omega) (by omega), ?_⟩ | refine ⟨_, _, rfl, List.getElem?_eq_getElem (by omega), ?_⟩ | refine ⟨_, ⟨rfl, by omega⟩, ?_⟩ | refine ⟨_, List.getElem?_eq_getElem (by omega), ?_⟩ | refine rtB ?_ | refine rtI ?_ | refine rtC ?_ rfl | fail)
        refine ag (i + 1) [] [.same 4] ⟨hlt, trivial⟩ (by simp only []; omega) ?_
        rw [e]
        repeat' first | exact trivial | exact rfl | refine And.intro ?_ ?_
      · (conv => whnf)
        refine ⟨[l[i]], rfl, ?_⟩
        (conv => whnf)
        refine ⟨[], _, rfl, rfl, (by simp only [List.length_take, List.length_drop, List.length_nil]; omega), ?_⟩
        (conv => whnf)
        refine ⟨_, _, rfl, rfl, (by simp only [List.length_take, List.length_drop, List.length_append, List.length_cons, List.length_nil]; omega), ?_⟩
        (conv => whnf)
        refine ⟨k, (ordU l i).length, rfl, rfl, ⟨hk.1.1, Nat.le_refl _⟩, ?_⟩
        (conv => whnf)
        refine ⟨_, _, rfl, rfl, (by simp only [List.length_take, List.length_drop, List.length_append, List.length_cons, List.length_nil]; omega), ?_⟩
        repeat' ((conv => whnf); first | (refine dec (fun h => ?_) (fun h => ?_) <;> try contradiction) | (refine decN (fun h => ?_) (fun h => ?_) <;> try contradiction) | refine booN (fun h => ?_) (fun h => ?_) | refine boo (fun h => ?_) (fun h => ?_) | refine ⟨i64 (by omega) (by omega), ?_⟩ | refine ⟨_, _, rfl, List.getElem?_eq_getElem (by omega), ?_⟩ | refine ⟨_, ⟨rfl, by omega⟩, ?_⟩ | refine ⟨_, List.getElem?_eq_getElem (by omega), ?_⟩ | refine rtB ?_ | refine rtI ?_ | refine rtC ?_ rfl | fail)
        refine ag (i + 1) [] [.same 4] ⟨hlt, trivial⟩ (by simp only []; omega) ?_
        rw [e]
        repeat' first | exact trivial | exact rfl | refine And.intro ?_ ?_
  · have : ordU l i = inOrdP l := by unfold ordU; rw [List.take_of_length_le (by omega)]
    (conv => whnf)
    rw [this]
    refine rt [] [.same 0] (by repeat' first | exact trivial | exact rfl | refine And.intro ?_ ?_) rfl ⟨rfl, rfl⟩
end Go.Nest
end
/- WALKS, W9: of the law: docs become files. -/
section
namespace Go.Nest
open Go Go.AM Go.Proofs
open Go.Proofs.YtkoiljgjipmhbaaGreatDoor (tab tabOk)
set_option linter.unusedVariables false
set_option linter.unusedSimpArgs false
set_option maxRecDepth 4000
def meets (p : List UInt8) (f : Fi) : Bool := (underP f.path p).2 || ((underP p f.path).2 || decide (f.path = p))
def blobO (b : List UInt8) : Ob := ⟨1, b, [], 0, [], []⟩
def docStep (s : List Ob × List Fi) (d : Dc) : List Ob × List Fi :=
  if (splitP d.path).2 ≠ 0 then s else if 400 < d.bytes.length then s else if s.2.any (meets d.path) = true then s
  else ((putP s.1 (blobO d.bytes)).2.2, if (putP s.1 (blobO d.bytes)).2.1 = 0 then s.2 ++ [⟨d.path, 1, (putP s.1 (blobO d.bytes)).1, 0⟩] else s.2)
def docsU (L : List Ob) (l : List Dc) : List Ob × List Fi := l.foldl docStep (L, [])
theorem docsU_succ {L : List Ob} {l : List Dc} {i : Nat} (h : i < l.length) : docsU L (l.take (i + 1)) = docStep (docsU L (l.take i)) l[i] := by
  unfold docsU
  rw [List.take_succ_eq_append_getElem h, List.foldl_append]; rfl
theorem docStep_ok {s : List Ob × List Fi} {d : Dc} (h : PoolOk s.1) : PoolOk (docStep s d).1 := by
  unfold docStep
  split
  · exact h
  split
  · exact h
  split
  · exact h
  exact putP_ok h _
theorem docStep_out {s : List Ob × List Fi} {d : Dc} : (docStep s d).2 = s.2 ∨ ∃ id, (docStep s d).2 = s.2 ++ [⟨d.path, 1, id, 0⟩] := by
  unfold docStep
  split
  · exact .inl rfl
  split
  · exact .inl rfl
  split
  · exact .inl rfl
  dsimp only
  split
  · exact .inr ⟨_, rfl⟩
  · exact .inl rfl
theorem docs_fold {P : List Ob × List Fi → Prop} {l : List Dc} (hs : ∀ s d, d ∈ l → P s → P (docStep s d)) {s : List Ob × List Fi} (h : P s) : P (l.foldl docStep s) := by
  induction l generalizing s with
  | nil => exact h
  | cons d l ih => exact ih (fun s d hd => hs s d (by simp [hd])) (hs s d (by simp) h)
theorem docs_ok {L : List Ob} {l : List Dc} (h : PoolOk L) : PoolOk (docsU L l).1 := docs_fold (P := fun s => PoolOk s.1) (fun s d _ h => docStep_ok h) h
theorem docs_path {L : List Ob} {l : List Dc} : ∀ f ∈ (docsU L l).2, ∃ d ∈ l, f.path = d.path :=
  docs_fold (P := fun s => ∀ f ∈ s.2, ∃ d ∈ l, f.path = d.path) (fun s d hd h f hf => by
    rcases docStep_out (s := s) (d := d) with e | ⟨id, e⟩
    · rw [e] at hf; exact h f hf
    · rw [e, List.mem_append, List.mem_singleton] at hf
      rcases hf with hf | rfl
      · exact h f hf
      · exact ⟨d, hd, rfl⟩) (fun f hf => by cases hf)
theorem docs_len : ∀ {l : List Dc} {s : List Ob × List Fi}, (l.foldl docStep s).2.length ≤ s.2.length + l.length
  | [], s => by simp
  | d :: l, s => by
    have := docs_len (l := l) (s := docStep s d)
    have : (docStep s d).2.length ≤ s.2.length + 1 := by
      rcases docStep_out (s := s) (d := d) with e | ⟨id, e⟩ <;> rw [e] <;> simp
    simp only [List.foldl_cons, List.length_cons]; omega
set_option maxHeartbeats 4000000 in
theorem docFiles_spec (L : List Ob) (hL : PoolOk L) (l : List Dc) (hl : DocsOk l) : Does Tryz.prog 62 [.c (.ptr 0 0), .c (.ptr 2 0), .c (.bs 2 Dc encDc l)] [.box [.rw 1], .row 6 Ob encOb L, .box [.rw 3], .row 6 Ob encOb L]
    (Rt (.c (.rw 6)) [.box [.rw 4], .dead, .box [.rw 5], .dead, .row 6 Ob encOb (docsU L l).1, .row 6 Ob encOb (docsU L l).1, .row 4 Fi encFi (inOrdP (docsU L l).2)]) := by
  refine X_spec ⟨Tryz.prog, tab, 139, 4⟩ tabOk (by kernel_rfl) Tryz.call62 Tryz.func62 rfl rfl (by kernel_rfl) rfl ?_
  intro hb
  have hll := hl.1
  (conv => whnf)
  refine lp Nat (fun i => ⟨[(0, .c (.ptr 0 0)), (1, .c (.ptr 2 0)), (2, .c (.bs 2 Dc encDc l)), (7, .c (.rw 6)), (8, .c (.int .i64 i))],
    [.box [.rw 4], .dead, .box [.rw 5], .dead, .row 6 Ob encOb (docsU L (l.take i)).1, .row 6 Ob encOb (docsU L (l.take i)).1, .row 4 Fi encFi (docsU L (l.take i)).2]⟩) (fun i => i ≤ l.length ∧ True) (fun i => l.length - i) 0 [] [.same 0, .same 1, .same 2, .same 3, .same 1, .same 3, .new] ?_ ?_ (fun i hi => ?_)
  · simp
  · repeat' first | exact trivial | exact rfl | refine And.intro ?_ ?_
  have hM : PoolOk (docsU L (l.take i)).1 := docs_ok hL
  have hfp : ∀ f ∈ (docsU L (l.take i)).2, f.path.length ≤ 6000 := fun f hf => by
    obtain ⟨d, hd, e⟩ := docs_path f hf
    rw [e]; exact (hl.2 d (List.mem_of_mem_take hd)).1
  have hol : (docsU L (l.take i)).2.length ≤ l.length := by
    have := docs_len (l := l.take i) (s := (L, []))
    rw [List.length_take] at this
    unfold docsU
    simp at this; omega
  (conv => whnf)
  refine dec (fun h4 => ?_) (fun h4 => ?_)
  · have hlt : i < l.length := by omega
    have hsu := docsU_succ (L := L) hlt
    generalize docsU L (l.take i) = s at *
    obtain ⟨M, out⟩ := s
    dsimp only at hM hfp hol hsu
    have hML := hM.len
    obtain ⟨hp, hbl⟩ := hl.2 _ (List.getElem_mem hlt)
    generalize hd : l[i] = d at *
    have hld : l[i]? = some d := by rw [List.getElem?_eq_getElem hlt, hd]
    (conv => whnf)
    refine ⟨i, d, rfl, hld, ?_⟩
    (conv => whnf)
    refine cl [] [] (pathOf_spec d.path (by omega)) (by (repeat' first | exact trivial | exact rfl | refine And.intro ?_ ?_); first | done | fail) (by first | exact trivial | exact rfl) ?_
    (conv => whnf)
    refine decN (fun h5 => ?_) (fun h5 => ?_)
    · have e : docStep (M, out) d = (M, out) := by unfold docStep; rw [if_pos h5]
      rw [e] at hsu
      repeat' ((conv => whnf); first | (refine dec (fun h => ?_) (fun h => ?_) <;> try contradiction) | (refine decN (fun h => ?_) (fun h => ?_) <;> try contradiction) | refine booN (fun h => ?_) (fun h => ?_) | refine boo (fun h => ?_) (fun h => ?_) | refine ⟨i64 (by omega) (by omega), ?_⟩ | refine ⟨_, _, rfl, List.getElem?_eq_getElem (by omega), ?_⟩ | refine ⟨_, ⟨rfl, by omega⟩, ?_⟩ | refine ⟨_, List.getElem?_eq_getElem (by omega), ?_⟩ | refine rtB ?_ | refine rtI ?_ | refine rtC ?_ rfl | fail)
      refine ag (i + 1) [] [.same 0, .same 1, .same 2, .same 3, .same 4, .same 5, .same 6] ⟨hlt, trivial⟩ (by simp only []; omega) ?_
      rw [hsu]
      repeat' first | exact trivial | exact rfl | refine And.intro ?_ ?_
    have h5 : ¬ (splitP d.path).2 ≠ 0 := by simpa using h5
    (conv => whnf)
    refine ⟨i, d, rfl, hld, ?_⟩
    (conv => whnf)
    refine dec (fun h6 => ?_) (fun h6 => ?_)
    · have e : docStep (M, out) d = (M, out) := by unfold docStep; rw [if_neg h5, if_pos (by omega)]
      rw [e] at hsu
      repeat' ((conv => whnf); first | (refine dec (fun h => ?_) (fun h => ?_) <;> try contradiction) | (refine decN (fun h => ?_) (fun h => ?_) <;> try contradiction) | refine booN (fun h => ?_) (fun h => ?_) | refine boo (fun h => ?_) (fun h => ?_) | refine ⟨i64 (by omega) (by omega), ?_⟩ | refine ⟨_, _, rfl, List.getElem?_eq_getElem (by omega), ?_⟩ | refine ⟨_, ⟨rfl, by omega⟩, ?_⟩ | refine ⟨_, List.getElem?_eq_getElem (by omega), ?_⟩ | refine rtB ?_ | refine rtI ?_ | refine rtC ?_ rfl | fail)
      refine ag (i + 1) [] [.same 0, .same 1, .same 2, .same 3, .same 4, .same 5, .same 6] ⟨hlt, trivial⟩ (by simp only []; omega) ?_
      rw [hsu]
      repeat' first | exact trivial | exact rfl | refine And.intro ?_ ?_
    (conv => whnf)
    refine lp Nat (fun k => ⟨[(0, .c (.ptr 0 0)), (1, .c (.ptr 2 0)), (2, .c (.bs 2 Dc encDc l)), (7, .c (.rw 6)), (8, .c (.int .i64 i)), (11, .c (.bool ((out.take k).any (meets d.path)))), (12, .c (.int .i64 k))], [.box [.rw 4], .dead, .box [.rw 5], .dead, .row 6 Ob encOb M, .row 6 Ob encOb M, .row 4 Fi encFi out]⟩) (fun k => k ≤ out.length ∧ True) (fun k => out.length - k) 0 [] [.same 0, .same 1, .same 2, .same 3, .same 4, .same 5, .same 6] ?_ ?_ (fun k hk => ?_)
    · simp
    · repeat' first | exact trivial | exact rfl | refine And.intro ?_ ?_
    (conv => whnf)
    refine dec (fun h7 => ?_) (fun h7 => ?_)
    · have hkl : k < out.length := by omega
      have hfk := hfp _ (List.getElem_mem hkl)
      have hst : (out.take (k + 1)).any (meets d.path) = ((out.take k).any (meets d.path) || ((underP out[k].path d.path).2 || ((underP d.path out[k].path).2 || decide (out[k].path = d.path)))) := by
        rw [List.take_succ_eq_append_getElem hkl, List.any_append, List.any_cons, List.any_nil, Bool.or_false]; rfl
      (conv => whnf)
      refine ⟨false, (.l [0, 1, 2, 3, 4, 5, 6, 7, 8, 9, 10, 11, 12, 13, 14, 15]), by kernel_rfl, .inl ?_⟩
      (conv => whnf)
      refine ⟨k, ⟨rfl, hkl⟩, ?_⟩
      (conv => whnf)
      refine ⟨out[k], List.getElem?_eq_getElem hkl, ?_⟩
      (conv => whnf)
      refine ⟨i, d, rfl, hld, ?_⟩
      (conv => whnf)
      refine cl [] [] (behind_spec out[k].path d.path (by omega)) (by (repeat' first | exact trivial | exact rfl | refine And.intro ?_ ?_); first | done | fail) (by first | exact trivial | exact rfl) ?_
      (conv => whnf)
      refine ⟨false, (.l [0, 1, 2, 3, 4, 5, 6, 7, 8, 9, 10, 11, 12, 13, 14, 15]), by kernel_rfl, .inl ?_⟩
      (conv => whnf)
      refine ⟨i, d, rfl, hld, ?_⟩
      (conv => whnf)
      refine ⟨k, ⟨rfl, hkl⟩, ?_⟩
      (conv => whnf)
      refine ⟨out[k], List.getElem?_eq_getElem hkl, ?_⟩
      (conv => whnf)
      refine cl [] [] (behind_spec d.path out[k].path (by omega)) (by (repeat' first | exact trivial | exact rfl | refine And.intro ?_ ?_); first | done | fail) (by first | exact trivial | exact rfl) ?_
      (conv => whnf)
      refine ⟨false, (.l [0, 1, 2, 3, 4, 5, 6, 7, 8, 9, 10, 11, 12, 13, 14, 15, 16, 17, 18, 19, 20]), by kernel_rfl, .inl ?_⟩
      (conv => whnf)
      refine boo (fun q1 => ?_) (fun q1 => ?_)
      · rw [q1, Bool.true_or] at hst
        repeat' ((conv => whnf); first | (refine dec (fun h => ?_) (fun h => ?_) <;> try contradiction) | (refine decN (fun h => ?_) (fun h => ?_) <;> try contradiction) | refine booN (fun h => ?_) (fun h => ?_) | refine boo (fun h => ?_) (fun h => ?_) | refine ⟨i64 (by omega) (by omega), ?_⟩ | refine ⟨_, _, rfl, List.getElem?_eq_getElem (by omega), ?_⟩ | refine ⟨_, ⟨rfl, by omega⟩, ?_⟩ | refine ⟨_, List.getElem?_eq_getElem (by omega), ?_⟩ | refine rtB ?_ | refine rtI ?_ | refine rtC ?_ rfl | fail)
        refine ag (k + 1) [] [.same 0, .same 1, .same 2, .same 3, .same 4, .same 5, .same 6] ⟨hkl, trivial⟩ (by simp only []; omega) ?_
        rw [hst]
        repeat' first | exact trivial | exact rfl | refine And.intro ?_ ?_
      rw [q1, Bool.false_or] at hst
      (conv => whnf)
      refine boo (fun q2 => ?_) (fun q2 => ?_)
      · rw [q2, Bool.true_or] at hst
        repeat' ((conv => whnf); first | (refine dec (fun h => ?_) (fun h => ?_) <;> try contradiction) | (refine decN (fun h => ?_) (fun h => ?_) <;> try contradiction) | refine booN (fun h => ?_) (fun h => ?_) | refine boo (fun h => ?_) (fun h => ?_) | refine ⟨i64 (by omega) (by omega), ?_⟩ | refine ⟨_, _, rfl, List.getElem?_eq_getElem (by omega), ?_⟩ | refine ⟨_, ⟨rfl, by omega⟩, ?_⟩ | refine ⟨_, List.getElem?_eq_getElem (by omega), ?_⟩ | refine rtB ?_ | refine rtI ?_ | refine rtC ?_ rfl | fail)
        refine ag (k + 1) [] [.same 0, .same 1, .same 2, .same 3, .same 4, .same 5, .same 6] ⟨hkl, trivial⟩ (by simp only []; omega) ?_
        rw [hst]
        repeat' first | exact trivial | exact rfl | refine And.intro ?_ ?_
      rw [q2, Bool.false_or] at hst
      (conv => whnf)
      refine boo (fun q3 => ?_) (fun q3 => ?_)
      · rw [q3, Bool.true_or] at hst
        repeat' ((conv => whnf); first | (refine dec (fun h => ?_) (fun h => ?_) <;> try contradiction) | (refine decN (fun h => ?_) (fun h => ?_) <;> try contradiction) | refine booN (fun h => ?_) (fun h => ?_) | refine boo (fun h => ?_) (fun h => ?_) | refine ⟨i64 (by omega) (by omega), ?_⟩ | refine ⟨_, _, rfl, List.getElem?_eq_getElem (by omega), ?_⟩ | refine ⟨_, ⟨rfl, by omega⟩, ?_⟩ | refine ⟨_, List.getElem?_eq_getElem (by omega), ?_⟩ | refine rtB ?_ | refine rtI ?_ | refine rtC ?_ rfl | fail)
        refine ag (k + 1) [] [.same 0, .same 1, .same 2, .same 3, .same 4, .same 5, .same 6] ⟨hkl, trivial⟩ (by simp only []; omega) ?_
        rw [hst]
        repeat' first | exact trivial | exact rfl | refine And.intro ?_ ?_
      rw [q3, Bool.false_or] at hst
      (conv => whnf)
      refine ⟨k, ⟨rfl, hkl⟩, ?_⟩
      (conv => whnf)
      refine ⟨out[k], List.getElem?_eq_getElem hkl, ?_⟩
      (conv => whnf)
      refine ⟨i, d, rfl, hld, ?_⟩
      repeat' ((conv => whnf); first | (refine dec (fun h => ?_) (fun h => ?_) <;> try contradiction) | (refine decN (fun h => ?_) (fun h => ?_) <;> try contradiction) | refine booN (fun h => ?_) (fun h => ?_) | refine boo (fun h => ?_) (fun h => ?_) | refine ⟨i64 (by omega) (by omega), ?_⟩ | refine ⟨_, _, rfl, List.getElem?_eq_getElem (by omega), ?_⟩ | refine ⟨_, ⟨rfl, by omega⟩, ?_⟩ | refine ⟨_, List.getElem?_eq_getElem (by omega), ?_⟩ | refine rtB ?_ | refine rtI ?_ | refine rtC ?_ rfl | fail)
      refine ag (k + 1) [] [.same 0, .same 1, .same 2, .same 3, .same 4, .same 5, .same 6] ⟨hkl, trivial⟩ (by simp only []; omega) ?_
      rw [hst]
      repeat' first | exact trivial | exact rfl | refine And.intro ?_ ?_
    · obtain rfl : k = out.length := by omega
      rw [List.take_length]
      have hid : ∀ x, docStep (M, out) d = x → docsU L (l.take (i + 1)) = x := fun x e => by rw [hsu, e]
      (conv => whnf)
      refine boo (fun h8 => ?_) (fun h8 => ?_)
      · have e := hid (M, out) (by unfold docStep; rw [if_neg h5, if_neg (by omega), if_pos h8])
        repeat' ((conv => whnf); first | (refine dec (fun h => ?_) (fun h => ?_) <;> try contradiction) | (refine decN (fun h => ?_) (fun h => ?_) <;> try contradiction) | refine booN (fun h => ?_) (fun h => ?_) | refine boo (fun h => ?_) (fun h => ?_) | refine ⟨i64 (by omega) (by omega), ?_⟩ | refine ⟨_, _, rfl, List.getElem?_eq_getElem (by omega), ?_⟩ | refine ⟨_, ⟨rfl, by omega⟩, ?_⟩ | refine ⟨_, List.getElem?_eq_getElem (by omega), ?_⟩ | refine rtB ?_ | refine rtI ?_ | refine rtC ?_ rfl | fail)
        refine ag (i + 1) [] [.same 0, .same 1, .same 2, .same 3, .same 4, .same 5, .same 6] ⟨hlt, trivial⟩ (by simp only []; omega) ?_
        rw [e]
        repeat' first | exact trivial | exact rfl | refine And.intro ?_ ?_
      have e := hid _ (by unfold docStep; rw [if_neg h5, if_neg (by omega), if_neg (by simp [h8])])
      (conv => whnf)
      refine ⟨i, d, rfl, hld, ?_⟩
      (conv => whnf)
      refine cl [] [0, 4] (put_spec M (blobO d.bytes) hML) (by (repeat' first | exact trivial | exact rfl | refine And.intro ?_ ?_); first | done | fail) (by first | exact trivial | exact rfl) ?_
      (conv => whnf)
      refine cl [] [2, 5] (putR_spec M (blobO d.bytes) hML) (by (repeat' first | exact trivial | exact rfl | refine And.intro ?_ ?_); first | done | fail) (by first | exact trivial | exact rfl) ?_
      generalize putP M (blobO d.bytes) = R at *
      (conv => whnf)
      refine dec (fun h9 => ?_) (fun h9 => ?_)
      · rw [if_pos h9] at e
        (conv => whnf)
        refine dec (fun _ => ?_) (fun h => absurd h9 h)
        (conv => whnf)
        refine ⟨i, d, rfl, hld, ?_⟩
        (conv => whnf)
        refine ⟨[⟨d.path, 1, R.1, 0⟩], rfl, ?_⟩
        (conv => whnf)
        refine ⟨_, _, rfl, rfl, (by simp only [List.length_append, List.length_cons, List.length_nil]; omega), ?_⟩
        repeat' ((conv => whnf); first | (refine dec (fun h => ?_) (fun h => ?_) <;> try contradiction) | (refine decN (fun h => ?_) (fun h => ?_) <;> try contradiction) | refine booN (fun h => ?_) (fun h => ?_) | refine boo (fun h => ?_) (fun h => ?_) | refine ⟨i64 (by omega) (by omega), ?_⟩ | refine ⟨_, _, rfl, List.getElem?_eq_getElem (by omega), ?_⟩ | refine ⟨_, ⟨rfl, by omega⟩, ?_⟩ | refine ⟨_, List.getElem?_eq_getElem (by omega), ?_⟩ | refine rtB ?_ | refine rtI ?_ | refine rtC ?_ rfl | fail)
        refine ag (i + 1) [] [.same 0, .same 1, .same 2, .same 3, .same 8, .same 9, .same 11] ⟨hlt, trivial⟩ (by simp only []; omega) ?_
        rw [e]
        repeat' first | exact trivial | exact rfl | refine And.intro ?_ ?_
      · rw [if_neg h9] at e
        repeat' ((conv => whnf); first | (refine dec (fun h => ?_) (fun h => ?_) <;> try contradiction) | (refine decN (fun h => ?_) (fun h => ?_) <;> try contradiction) | refine booN (fun h => ?_) (fun h => ?_) | refine boo (fun h => ?_) (fun h => ?_) | refine ⟨i64 (by omega) (by omega), ?_⟩ | refine ⟨_, _, rfl, List.getElem?_eq_getElem (by omega), ?_⟩ | refine ⟨_, ⟨rfl, by omega⟩, ?_⟩ | refine ⟨_, List.getElem?_eq_getElem (by omega), ?_⟩ | refine rtB ?_ | refine rtI ?_ | refine rtC ?_ rfl | fail)
        refine ag (i + 1) [] [.same 0, .same 1, .same 2, .same 3, .same 8, .same 9, .same 6] ⟨hlt, trivial⟩ (by simp only []; omega) ?_
        rw [e]
        repeat' first | exact trivial | exact rfl | refine And.intro ?_ ?_
  · have e : l.take i = l := List.take_of_length_le (by omega)
    rw [e]
    (conv => whnf)
    refine cl [] [] (inOrder_spec (docsU L l).2 (by rw [e] at hol; omega) (fun f hf => by rw [e] at hfp; have := hfp f hf; omega)) (by (repeat' first | exact trivial | exact rfl | refine And.intro ?_ ?_); first | done | fail) (by first | exact trivial | exact rfl) ?_
    (conv => whnf)
    refine rt [] [.same 0, .same 1, .same 2, .same 3, .same 4, .same 5, .same 7] (by repeat' first | exact trivial | exact rfl | refine And.intro ?_ ?_) rfl ⟨rfl, rfl⟩
end Go.Nest
end
