/- WALKS, 4: functions handed over; is it an object? -/
import Derived.Test.YtkoiljgjipmhbaaDoorG3
namespace Go.Nest
open Go Go.AM Go.Proofs
open Go.Proofs.YtkoiljgjipmhbaaDoor (tab tabOk)
set_option linter.unusedVariables false
set_option linter.unusedSimpArgs false
set_option maxRecDepth 4000

/-- at which number the first one stands of which p is true; -1: there is none -/
def idxF {α : Type} (p : α → Bool) (l : List α) : Int := match l.findIdx? p with
  | some i => i
  | none => -1
theorem idxF_at {α : Type} {p : α → Bool} {l : List α} {i : Nat} (h : i < l.length) (h1 : (l.take i).any p = false) (h2 : p l[i] = true) : (i : Int) = idxF p l := by
  have : l.findIdx? p = some i := by
    rw [List.findIdx?_eq_some_iff_getElem]
    refine ⟨h, h2, fun j hj => ?_⟩
    rw [List.any_eq_false] at h1
    have := h1 l[j] (by rw [List.mem_take_iff_getElem]; exact ⟨j, by omega, rfl⟩)
    simpa using this
  unfold idxF; rw [this]
theorem idxF_none {α : Type} {p : α → Bool} {l : List α} (h1 : l.any p = false) : (-1 : Int) = idxF p l := by
  have : l.findIdx? p = none := by
    rw [List.findIdx?_eq_none_iff]
    rw [List.any_eq_false] at h1
    intro x hx; simpa using h1 x hx
  unfold idxF; rw [this]
theorem idxF_any {α : Type} {p : α → Bool} {l : List α} : decide (0 ≤ idxF p l) = l.any p := by
  unfold idxF
  cases h : l.findIdx? p with
  | none =>
    rw [List.findIdx?_eq_none_iff] at h
    simp; exact h
  | some i =>
    rw [List.findIdx?_eq_some_iff_getElem] at h
    obtain ⟨h1, h2, _⟩ := h
    rw [any_at h1 h2]; simp

theorem indexInts_spec {g : Nat} {p : Int → Bool} (hp : ∀ x, Does Tryd.prog g [.c (.int .i64 x)] [] (Rt (.c (.bool (p x))) [])) (l : List Int) : Does Tryd.prog 73 [.c (.bs 1 Int encI l), .c (.fn g [])] [] (Rt (.c (.int .i64 (idxF p l))) []) := by
  refine X_spec ⟨Tryd.prog, tab, 19, 0⟩ tabOk (by kernel_rfl) Tryd.call73 Tryd.func73 rfl rfl (by kernel_rfl) rfl ?_
  intro hb; have hb : l.length ≤ 9223372036854775807 := hb.1.1
  (conv => whnf)
  refine lp Nat (fun i => ⟨[(0, .c (.bs 1 Int encI l)), (1, .c (.fn g [])), (7, .c (.int .i64 l.length)), (8, .c (.int .i64 i))], []⟩) (fun i => i ≤ l.length ∧ (l.take i).any p = false) (fun i => l.length - i) 0 [] [] ?_ ?_ (fun i hi => ?_)
  · simp
  · repeat' first | exact trivial | exact rfl | refine And.intro ?_ ?_
  (conv => whnf)
  refine dec (fun h4 => ?_) (fun h4 => ?_)
  · have hlt : i < l.length := by omega
    repeat' ((conv => whnf); first | (refine dec (fun h => ?_) (fun h => ?_) <;> try contradiction) | (refine decN (fun h => ?_) (fun h => ?_) <;> try contradiction) | refine booN (fun h => ?_) (fun h => ?_) | refine boo (fun h => ?_) (fun h => ?_) | refine ⟨i64 (by omega) (by omega), ?_⟩ | refine ⟨_, _, rfl, List.getElem?_eq_getElem (by omega), ?_⟩ | refine ⟨_, ⟨rfl, by omega⟩, ?_⟩ | refine ⟨_, List.getElem?_eq_getElem (by omega), ?_⟩ | refine rtB ?_ | refine rtI ?_ | refine rtC ?_ rfl | fail)
    (conv => whnf)
    refine cl [] [] (hp l[i]) (by (repeat' first | exact trivial | exact rfl | refine And.intro ?_ ?_); first | done | fail) (by first | exact trivial | exact rfl) ?_
    repeat' ((conv => whnf); first | (refine dec (fun h => ?_) (fun h => ?_) <;> try contradiction) | (refine decN (fun h => ?_) (fun h => ?_) <;> try contradiction) | refine booN (fun h => ?_) (fun h => ?_) | refine boo (fun h => ?_) (fun h => ?_) | refine ⟨i64 (by omega) (by omega), ?_⟩ | refine ⟨_, _, rfl, List.getElem?_eq_getElem (by omega), ?_⟩ | refine ⟨_, ⟨rfl, by omega⟩, ?_⟩ | refine ⟨_, List.getElem?_eq_getElem (by omega), ?_⟩ | refine rtB ?_ | refine rtI ?_ | refine rtC ?_ rfl | fail)
    · exact idxF_at hlt hi.2 h
    · refine ag (i + 1) [] [] ⟨hlt, any_take hlt hi.2 h⟩ (by simp only []; omega) ?_
      repeat' first | exact trivial | exact rfl | refine And.intro ?_ ?_
  · repeat' ((conv => whnf); first | (refine dec (fun h => ?_) (fun h => ?_) <;> try contradiction) | (refine decN (fun h => ?_) (fun h => ?_) <;> try contradiction) | refine booN (fun h => ?_) (fun h => ?_) | refine boo (fun h => ?_) (fun h => ?_) | refine ⟨i64 (by omega) (by omega), ?_⟩ | refine ⟨_, _, rfl, List.getElem?_eq_getElem (by omega), ?_⟩ | refine ⟨_, ⟨rfl, by omega⟩, ?_⟩ | refine ⟨_, List.getElem?_eq_getElem (by omega), ?_⟩ | refine rtB ?_ | refine rtI ?_ | refine rtC ?_ rfl | fail)
    have := hi.2
    rw [List.take_of_length_le (by omega)] at this
    exact idxF_none this
theorem indexEns_spec {g : Nat} {p : Ent → Bool} (hp : ∀ x, Does Tryd.prog g [.st (encEn x)] [] (Rt (.c (.bool (p x))) [])) (l : List Ent) : Does Tryd.prog 34 [.c (.bs 4 Ent encEn l), .c (.fn g [])] [] (Rt (.c (.int .i64 (idxF p l))) []) := by
  refine X_spec ⟨Tryd.prog, tab, 19, 0⟩ tabOk (by kernel_rfl) Tryd.call34 Tryd.func34 rfl rfl (by kernel_rfl) rfl ?_
  intro hb; have hb : l.length ≤ 9223372036854775807 := hb.1.1
  (conv => whnf)
  refine lp Nat (fun i => ⟨[(0, .c (.bs 4 Ent encEn l)), (1, .c (.fn g [])), (7, .c (.int .i64 l.length)), (8, .c (.int .i64 i))], []⟩) (fun i => i ≤ l.length ∧ (l.take i).any p = false) (fun i => l.length - i) 0 [] [] ?_ ?_ (fun i hi => ?_)
  · simp
  · repeat' first | exact trivial | exact rfl | refine And.intro ?_ ?_
  (conv => whnf)
  refine dec (fun h4 => ?_) (fun h4 => ?_)
  · have hlt : i < l.length := by omega
    repeat' ((conv => whnf); first | (refine dec (fun h => ?_) (fun h => ?_) <;> try contradiction) | (refine decN (fun h => ?_) (fun h => ?_) <;> try contradiction) | refine booN (fun h => ?_) (fun h => ?_) | refine boo (fun h => ?_) (fun h => ?_) | refine ⟨i64 (by omega) (by omega), ?_⟩ | refine ⟨_, _, rfl, List.getElem?_eq_getElem (by omega), ?_⟩ | refine ⟨_, ⟨rfl, by omega⟩, ?_⟩ | refine ⟨_, List.getElem?_eq_getElem (by omega), ?_⟩ | refine rtB ?_ | refine rtI ?_ | refine rtC ?_ rfl | fail)
    (conv => whnf)
    refine cl [] [] (hp l[i]) (by (repeat' first | exact trivial | exact rfl | refine And.intro ?_ ?_); first | done | fail) (by first | exact trivial | exact rfl) ?_
    repeat' ((conv => whnf); first | (refine dec (fun h => ?_) (fun h => ?_) <;> try contradiction) | (refine decN (fun h => ?_) (fun h => ?_) <;> try contradiction) | refine booN (fun h => ?_) (fun h => ?_) | refine boo (fun h => ?_) (fun h => ?_) | refine ⟨i64 (by omega) (by omega), ?_⟩ | refine ⟨_, _, rfl, List.getElem?_eq_getElem (by omega), ?_⟩ | refine ⟨_, ⟨rfl, by omega⟩, ?_⟩ | refine ⟨_, List.getElem?_eq_getElem (by omega), ?_⟩ | refine rtB ?_ | refine rtI ?_ | refine rtC ?_ rfl | fail)
    · exact idxF_at hlt hi.2 h
    · refine ag (i + 1) [] [] ⟨hlt, any_take hlt hi.2 h⟩ (by simp only []; omega) ?_
      repeat' first | exact trivial | exact rfl | refine And.intro ?_ ?_
  · repeat' ((conv => whnf); first | (refine dec (fun h => ?_) (fun h => ?_) <;> try contradiction) | (refine decN (fun h => ?_) (fun h => ?_) <;> try contradiction) | refine booN (fun h => ?_) (fun h => ?_) | refine boo (fun h => ?_) (fun h => ?_) | refine ⟨i64 (by omega) (by omega), ?_⟩ | refine ⟨_, _, rfl, List.getElem?_eq_getElem (by omega), ?_⟩ | refine ⟨_, ⟨rfl, by omega⟩, ?_⟩ | refine ⟨_, List.getElem?_eq_getElem (by omega), ?_⟩ | refine rtB ?_ | refine rtI ?_ | refine rtC ?_ rfl | fail)
    have := hi.2
    rw [List.take_of_length_le (by omega)] at this
    exact idxF_none this
theorem containsInts_spec {g : Nat} {p : Int → Bool} (hp : ∀ x, Does Tryd.prog g [.c (.int .i64 x)] [] (Rt (.c (.bool (p x))) [])) (l : List Int) : Does Tryd.prog 60 [.c (.bs 1 Int encI l), .c (.fn g [])] [] (Rt (.c (.bool (l.any p))) []) := by
  refine X_spec ⟨Tryd.prog, tab, 9, 0⟩ tabOk (by kernel_rfl) Tryd.call60 Tryd.func60 rfl rfl (by kernel_rfl) rfl ?_
  intro hb
  (conv => whnf)
  refine cl [] [] (indexInts_spec hp l) (by (repeat' first | exact trivial | exact rfl | refine And.intro ?_ ?_); first | done | fail) (by first | exact trivial | exact rfl) ?_
  (conv => whnf)
  exact rtB idxF_any
theorem checkF_spec (n : Int) : Does Tryd.prog 61 [.c (.int .i64 n)] [] (Rt (.c (.bool (decide (n < 0)))) []) := by
  refine X_spec ⟨Tryd.prog, tab, 5, 0⟩ tabOk (by kernel_rfl) Tryd.call61 Tryd.func61 rfl rfl (by kernel_rfl) rfl ?_
  intro hb
  (conv => whnf)
  exact rtB rfl

/-- what is wrong with an object -/
def objF (o : Ob) : Int :=
  if o.kind < 1 ∨ 3 < o.kind then 6
  else if (o.kind ≠ 1 ∧ 0 < o.bytes.length) ∨ (o.kind ≠ 2 ∧ 0 < o.entries.length) ∨ (o.kind ≠ 3 ∧ (o.tree ≠ 0 ∨ 0 < o.parents.length ∨ 0 < o.text.length)) then 7
  else if 400 < o.bytes.length ∨ 60 < o.text.length then 4
  else if 3 < o.parents.length then 5
  else if o.tree < 0 then 1
  else if o.parents.any (fun k => decide (k < 0)) = true then 1
  else if o.text.all shown = true then treeC o.entries
  else 2

theorem pos_ne {α : Type} {l : List α} : (0 : Int) < l.length ↔ l ≠ [] := by cases l <;> simp

theorem str_nil : ({ data := #[] } : ByteArray).data.toList = [] := rfl
set_option maxHeartbeats 2000000 in
theorem check_spec (o : Ob) : Does Tryd.prog 43 [.st (bOb o)] [] (Rt (.c (.int .i64 (objF o))) []) := by
  obtain ⟨kind, bytes, entries, tree, parents, text⟩ := o
  refine X_spec ⟨Tryd.prog, tab, 98, 0⟩ tabOk (by kernel_rfl) Tryd.call43 Tryd.func43 rfl rfl (by kernel_rfl) rfl ?_
  intro hb
  (conv => whnf)
  refine ⟨false, (.l [0, 1, 2, 3, 4, 5, 6, 7, 8, 9, 10, 11]), by kernel_rfl, .inl ?_⟩
  by_cases hk1 : kind = 1
  · subst hk1
    repeat' ((conv => whnf); first | (refine dec (fun h => ?_) (fun h => ?_) <;> try contradiction) | (refine decN (fun h => ?_) (fun h => ?_) <;> try contradiction) | refine booN (fun h => ?_) (fun h => ?_) | refine boo (fun h => ?_) (fun h => ?_) | refine ⟨i64 (by omega) (by omega), ?_⟩ | refine ⟨_, _, rfl, List.getElem?_eq_getElem (by omega), ?_⟩ | refine ⟨_, ⟨rfl, by omega⟩, ?_⟩ | refine ⟨_, List.getElem?_eq_getElem (by omega), ?_⟩ | refine rtB ?_ | refine rtI ?_ | refine rtC ?_ rfl | fail)
    all_goals first | (show (_ : Int) = objF _; dsimp only at *; (try simp only [str_nil, ← List.length_eq_zero_iff] at *); simp only [objF]; (repeat' split) <;> first | rfl | (exfalso; omega) | (simp_all; done)) | skip
    all_goals
      (conv => whnf)
      refine cl [] [] (containsInts_spec checkF_spec parents) (by (repeat' first | exact trivial | exact rfl | refine And.intro ?_ ?_); first | done | fail) (by first | exact trivial | exact rfl) ?_
      repeat' ((conv => whnf); first | (refine dec (fun h => ?_) (fun h => ?_) <;> try contradiction) | (refine decN (fun h => ?_) (fun h => ?_) <;> try contradiction) | refine booN (fun h => ?_) (fun h => ?_) | refine boo (fun h => ?_) (fun h => ?_) | refine ⟨i64 (by omega) (by omega), ?_⟩ | refine ⟨_, _, rfl, List.getElem?_eq_getElem (by omega), ?_⟩ | refine ⟨_, ⟨rfl, by omega⟩, ?_⟩ | refine ⟨_, List.getElem?_eq_getElem (by omega), ?_⟩ | refine rtB ?_ | refine rtI ?_ | refine rtC ?_ rfl | fail)
    all_goals first | (show (_ : Int) = objF _; dsimp only at *; (try simp only [str_nil, ← List.length_eq_zero_iff] at *); simp only [objF]; (repeat' split) <;> first | rfl | (exfalso; omega) | (simp_all; done)) | skip
    all_goals
      (conv => whnf)
      refine cl [] [] (visible_spec text) (by (repeat' first | exact trivial | exact rfl | refine And.intro ?_ ?_); first | done | fail) (by first | exact trivial | exact rfl) ?_
      repeat' ((conv => whnf); first | (refine dec (fun h => ?_) (fun h => ?_) <;> try contradiction) | (refine decN (fun h => ?_) (fun h => ?_) <;> try contradiction) | refine booN (fun h => ?_) (fun h => ?_) | refine boo (fun h => ?_) (fun h => ?_) | refine ⟨i64 (by omega) (by omega), ?_⟩ | refine ⟨_, _, rfl, List.getElem?_eq_getElem (by omega), ?_⟩ | refine ⟨_, ⟨rfl, by omega⟩, ?_⟩ | refine ⟨_, List.getElem?_eq_getElem (by omega), ?_⟩ | refine rtB ?_ | refine rtI ?_ | refine rtC ?_ rfl | fail)
    all_goals first | (show (_ : Int) = objF _; dsimp only at *; (try simp only [str_nil, ← List.length_eq_zero_iff] at *); simp only [objF]; (repeat' split) <;> first | rfl | (exfalso; omega) | (simp_all; done)) | skip
    all_goals
      (conv => whnf)
      refine cl [] [] (tree_spec entries) (by (repeat' first | exact trivial | exact rfl | refine And.intro ?_ ?_); first | done | fail) (by first | exact trivial | exact rfl) ?_
      repeat' ((conv => whnf); first | (refine dec (fun h => ?_) (fun h => ?_) <;> try contradiction) | (refine decN (fun h => ?_) (fun h => ?_) <;> try contradiction) | refine booN (fun h => ?_) (fun h => ?_) | refine boo (fun h => ?_) (fun h => ?_) | refine ⟨i64 (by omega) (by omega), ?_⟩ | refine ⟨_, _, rfl, List.getElem?_eq_getElem (by omega), ?_⟩ | refine ⟨_, ⟨rfl, by omega⟩, ?_⟩ | refine ⟨_, List.getElem?_eq_getElem (by omega), ?_⟩ | refine rtB ?_ | refine rtI ?_ | refine rtC ?_ rfl | fail)
    all_goals first | (show (_ : Int) = objF _; dsimp only at *; (try simp only [str_nil, ← List.length_eq_zero_iff] at *); simp only [objF]; (repeat' split) <;> first | rfl | (exfalso; omega) | (simp_all; done)) | skip
  by_cases hk2 : kind = 2
  · subst hk2
    repeat' ((conv => whnf); first | (refine dec (fun h => ?_) (fun h => ?_) <;> try contradiction) | (refine decN (fun h => ?_) (fun h => ?_) <;> try contradiction) | refine booN (fun h => ?_) (fun h => ?_) | refine boo (fun h => ?_) (fun h => ?_) | refine ⟨i64 (by omega) (by omega), ?_⟩ | refine ⟨_, _, rfl, List.getElem?_eq_getElem (by omega), ?_⟩ | refine ⟨_, ⟨rfl, by omega⟩, ?_⟩ | refine ⟨_, List.getElem?_eq_getElem (by omega), ?_⟩ | refine rtB ?_ | refine rtI ?_ | refine rtC ?_ rfl | fail)
    all_goals first | (show (_ : Int) = objF _; dsimp only at *; (try simp only [str_nil, ← List.length_eq_zero_iff] at *); simp only [objF]; (repeat' split) <;> first | rfl | (exfalso; omega) | (simp_all; done)) | skip
    all_goals
      (conv => whnf)
      refine cl [] [] (containsInts_spec checkF_spec parents) (by (repeat' first | exact trivial | exact rfl | refine And.intro ?_ ?_); first | done | fail) (by first | exact trivial | exact rfl) ?_
      repeat' ((conv => whnf); first | (refine dec (fun h => ?_) (fun h => ?_) <;> try contradiction) | (refine decN (fun h => ?_) (fun h => ?_) <;> try contradiction) | refine booN (fun h => ?_) (fun h => ?_) | refine boo (fun h => ?_) (fun h => ?_) | refine ⟨i64 (by omega) (by omega), ?_⟩ | refine ⟨_, _, rfl, List.getElem?_eq_getElem (by omega), ?_⟩ | refine ⟨_, ⟨rfl, by omega⟩, ?_⟩ | refine ⟨_, List.getElem?_eq_getElem (by omega), ?_⟩ | refine rtB ?_ | refine rtI ?_ | refine rtC ?_ rfl | fail)
    all_goals first | (show (_ : Int) = objF _; dsimp only at *; (try simp only [str_nil, ← List.length_eq_zero_iff] at *); simp only [objF]; (repeat' split) <;> first | rfl | (exfalso; omega) | (simp_all; done)) | skip
    all_goals
      (conv => whnf)
      refine cl [] [] (visible_spec text) (by (repeat' first | exact trivial | exact rfl | refine And.intro ?_ ?_); first | done | fail) (by first | exact trivial | exact rfl) ?_
      repeat' ((conv => whnf); first | (refine dec (fun h => ?_) (fun h => ?_) <;> try contradiction) | (refine decN (fun h => ?_) (fun h => ?_) <;> try contradiction) | refine booN (fun h => ?_) (fun h => ?_) | refine boo (fun h => ?_) (fun h => ?_) | refine ⟨i64 (by omega) (by omega), ?_⟩ | refine ⟨_, _, rfl, List.getElem?_eq_getElem (by omega), ?_⟩ | refine ⟨_, ⟨rfl, by omega⟩, ?_⟩ | refine ⟨_, List.getElem?_eq_getElem (by omega), ?_⟩ | refine rtB ?_ | refine rtI ?_ | refine rtC ?_ rfl | fail)
    all_goals first | (show (_ : Int) = objF _; dsimp only at *; (try simp only [str_nil, ← List.length_eq_zero_iff] at *); simp only [objF]; (repeat' split) <;> first | rfl | (exfalso; omega) | (simp_all; done)) | skip
    all_goals
      (conv => whnf)
      refine cl [] [] (tree_spec entries) (by (repeat' first | exact trivial | exact rfl | refine And.intro ?_ ?_); first | done | fail) (by first | exact trivial | exact rfl) ?_
      repeat' ((conv => whnf); first | (refine dec (fun h => ?_) (fun h => ?_) <;> try contradiction) | (refine decN (fun h => ?_) (fun h => ?_) <;> try contradiction) | refine booN (fun h => ?_) (fun h => ?_) | refine boo (fun h => ?_) (fun h => ?_) | refine ⟨i64 (by omega) (by omega), ?_⟩ | refine ⟨_, _, rfl, List.getElem?_eq_getElem (by omega), ?_⟩ | refine ⟨_, ⟨rfl, by omega⟩, ?_⟩ | refine ⟨_, List.getElem?_eq_getElem (by omega), ?_⟩ | refine rtB ?_ | refine rtI ?_ | refine rtC ?_ rfl | fail)
    all_goals first | (show (_ : Int) = objF _; dsimp only at *; (try simp only [str_nil, ← List.length_eq_zero_iff] at *); simp only [objF]; (repeat' split) <;> first | rfl | (exfalso; omega) | (simp_all; done)) | skip
  by_cases hk3 : kind = 3
  · subst hk3
    repeat' ((conv => whnf); first | (refine dec (fun h => ?_) (fun h => ?_) <;> try contradiction) | (refine decN (fun h => ?_) (fun h => ?_) <;> try contradiction) | refine booN (fun h => ?_) (fun h => ?_) | refine boo (fun h => ?_) (fun h => ?_) | refine ⟨i64 (by omega) (by omega), ?_⟩ | refine ⟨_, _, rfl, List.getElem?_eq_getElem (by omega), ?_⟩ | refine ⟨_, ⟨rfl, by omega⟩, ?_⟩ | refine ⟨_, List.getElem?_eq_getElem (by omega), ?_⟩ | refine rtB ?_ | refine rtI ?_ | refine rtC ?_ rfl | fail)
    all_goals first | (show (_ : Int) = objF _; dsimp only at *; (try simp only [str_nil, ← List.length_eq_zero_iff] at *); simp only [objF]; (repeat' split) <;> first | rfl | (exfalso; omega) | (simp_all; done)) | skip
    all_goals
      (conv => whnf)
      refine cl [] [] (containsInts_spec checkF_spec parents) (by (repeat' first | exact trivial | exact rfl | refine And.intro ?_ ?_); first | done | fail) (by first | exact trivial | exact rfl) ?_
      repeat' ((conv => whnf); first | (refine dec (fun h => ?_) (fun h => ?_) <;> try contradiction) | (refine decN (fun h => ?_) (fun h => ?_) <;> try contradiction) | refine booN (fun h => ?_) (fun h => ?_) | refine boo (fun h => ?_) (fun h => ?_) | refine ⟨i64 (by omega) (by omega), ?_⟩ | refine ⟨_, _, rfl, List.getElem?_eq_getElem (by omega), ?_⟩ | refine ⟨_, ⟨rfl, by omega⟩, ?_⟩ | refine ⟨_, List.getElem?_eq_getElem (by omega), ?_⟩ | refine rtB ?_ | refine rtI ?_ | refine rtC ?_ rfl | fail)
    all_goals first | (show (_ : Int) = objF _; dsimp only at *; (try simp only [str_nil, ← List.length_eq_zero_iff] at *); simp only [objF]; (repeat' split) <;> first | rfl | (exfalso; omega) | (simp_all; done)) | skip
    all_goals
      (conv => whnf)
      refine cl [] [] (visible_spec text) (by (repeat' first | exact trivial | exact rfl | refine And.intro ?_ ?_); first | done | fail) (by first | exact trivial | exact rfl) ?_
      repeat' ((conv => whnf); first | (refine dec (fun h => ?_) (fun h => ?_) <;> try contradiction) | (refine decN (fun h => ?_) (fun h => ?_) <;> try contradiction) | refine booN (fun h => ?_) (fun h => ?_) | refine boo (fun h => ?_) (fun h => ?_) | refine ⟨i64 (by omega) (by omega), ?_⟩ | refine ⟨_, _, rfl, List.getElem?_eq_getElem (by omega), ?_⟩ | refine ⟨_, ⟨rfl, by omega⟩, ?_⟩ | refine ⟨_, List.getElem?_eq_getElem (by omega), ?_⟩ | refine rtB ?_ | refine rtI ?_ | refine rtC ?_ rfl | fail)
    all_goals first | (show (_ : Int) = objF _; dsimp only at *; (try simp only [str_nil, ← List.length_eq_zero_iff] at *); simp only [objF]; (repeat' split) <;> first | rfl | (exfalso; omega) | (simp_all; done)) | skip
    all_goals
      (conv => whnf)
      refine cl [] [] (tree_spec entries) (by (repeat' first | exact trivial | exact rfl | refine And.intro ?_ ?_); first | done | fail) (by first | exact trivial | exact rfl) ?_
      repeat' ((conv => whnf); first | (refine dec (fun h => ?_) (fun h => ?_) <;> try contradiction) | (refine decN (fun h => ?_) (fun h => ?_) <;> try contradiction) | refine booN (fun h => ?_) (fun h => ?_) | refine boo (fun h => ?_) (fun h => ?_) | refine ⟨i64 (by omega) (by omega), ?_⟩ | refine ⟨_, _, rfl, List.getElem?_eq_getElem (by omega), ?_⟩ | refine ⟨_, ⟨rfl, by omega⟩, ?_⟩ | refine ⟨_, List.getElem?_eq_getElem (by omega), ?_⟩ | refine rtB ?_ | refine rtI ?_ | refine rtC ?_ rfl | fail)
    all_goals first | (show (_ : Int) = objF _; dsimp only at *; (try simp only [str_nil, ← List.length_eq_zero_iff] at *); simp only [objF]; (repeat' split) <;> first | rfl | (exfalso; omega) | (simp_all; done)) | skip
  · have : objF ⟨kind, bytes, entries, tree, parents, text⟩ = 6 := by
      unfold objF; rw [if_pos (by simp only []; omega)]
    rw [this]
    repeat' ((conv => whnf); first | (refine dec (fun h => ?_) (fun h => ?_) <;> try contradiction) | (refine decN (fun h => ?_) (fun h => ?_) <;> try contradiction) | refine booN (fun h => ?_) (fun h => ?_) | refine boo (fun h => ?_) (fun h => ?_) | refine ⟨i64 (by omega) (by omega), ?_⟩ | refine ⟨_, _, rfl, List.getElem?_eq_getElem (by omega), ?_⟩ | refine ⟨_, ⟨rfl, by omega⟩, ?_⟩ | refine ⟨_, List.getElem?_eq_getElem (by omega), ?_⟩ | refine rtB ?_ | refine rtI ?_ | refine rtC ?_ rfl | fail)
    all_goals rfl
end Go.Nest
