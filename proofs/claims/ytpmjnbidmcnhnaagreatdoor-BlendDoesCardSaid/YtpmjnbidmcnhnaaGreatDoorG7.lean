/- part -/
import Derived.Test.YtpmjnbidmcnhnaaGreatDoorG3
set_option linter.unusedVariables false
set_option linter.unusedSimpArgs false
section

namespace Go.Nest
open Go Go.AM Go.Proofs
open Go.Proofs.YtpmjnbidmcnhnaaGreatDoor (tab tabOk)
set_option maxRecDepth 4000
def idxF {α : Type} (p : α → Bool) (l : List α) : Int := match l.findIdx? p with
 | some i => i
 | none => -1
theorem idxF_at {α : Type} {p : α → Bool} {l : List α} {i : Nat} (h : i < l.length) (h1 : (l.take i).any p = false) (h2 : p l[i] = true) : (i : Int) = idxF p l := by
 have : l.findIdx? p = some i := by
  rw [List.findIdx?_eq_some_iff_getElem]
  refine ⟨h, h2, fun j hj => ?_⟩
  rw [List.any_eq_false] at h1
  have := h1 l[j] (by rw [List.mem_take_iff_getElem]; exact ⟨j, by omega, rfl⟩)
  simpa using this
 unfold idxF; rw [this]
theorem idxF_none {α : Type} {p : α → Bool} {l : List α} (h1 : l.any p = false) : (-1 : Int) = idxF p l := by
 have : l.findIdx? p = none := by
  rw [List.findIdx?_eq_none_iff]
  rw [List.any_eq_false] at h1
  intro x hx; simpa using h1 x hx
 unfold idxF; rw [this]
theorem idxF_any {α : Type} {p : α → Bool} {l : List α} : decide (0 ≤ idxF p l) = l.any p := by
 unfold idxF
 cases h : l.findIdx? p with
 | none =>
  rw [List.findIdx?_eq_none_iff] at h
  simp; exact h
 | some i =>
  rw [List.findIdx?_eq_some_iff_getElem] at h
  obtain ⟨h1, h2, _⟩ := h
  rw [any_at h1 h2]; simp
theorem indexInts_spec {g : Nat} {p : Int → Bool} (hp : ∀ x, Does Tryz.prog g [.c (.int .i64 x)] [] (Rt (.c (.bool (p x))) [])) (l : List Int) : Does Tryz.prog 115 [.c (.bs 1 Int encI l), .c (.fn g [])] [] (Rt (.c (.int .i64 (idxF p l))) []) := by
 refine X_spec (n := 19) (n0 := 0) tabOk Tryz.call115 Tryz.func115 ?_
 intro hb; have hb : l.length ≤ 9223372036854775807 := hb.1.1
 (conv => whnf)
 refine lp Nat (fun i => ⟨[(0, .c (.bs 1 Int encI l)), (1, .c (.fn g [])), (7, .c (.int .i64 l.length)), (8, .c (.int .i64 i))], []⟩) (fun i => i ≤ l.length ∧ (l.take i).any p = false) (fun i => l.length - i) 0 [] [] ?_ ?_ (fun i hi => ?_)
 ·simp
 ·repeat' first | exact trivial | exact rfl | refine And.intro ?_ ?_
 (conv => whnf)
 refine dec (fun h4 => ?_) (fun h4 => ?_)
 ·have hlt : i < l.length := by omega
  repeat' ((conv => whnf); first | (refine dec (fun h => ?_) (fun h => ?_) <;> try contradiction) | (refine decN (fun h => ?_) (fun h => ?_) <;> try contradiction) | refine booN (fun h => ?_) (fun h => ?_) | refine boo (fun h => ?_) (fun h => ?_) | refine ⟨i64 (by omega) (by omega), ?_⟩ | refine ⟨_, _, rfl, List.getElem?_eq_getElem (by omega), ?_⟩ | refine ⟨_, ⟨rfl, by omega⟩, ?_⟩ | refine ⟨_, List.getElem?_eq_getElem (by omega), ?_⟩ | refine rtB ?_ | refine rtI ?_ | refine rtC ?_ rfl | fail)
  (conv => whnf)
  refine cl [] [] (hp l[i]) ?_
  repeat' ((conv => whnf); first | (refine dec (fun h => ?_) (fun h => ?_) <;> try contradiction) | (refine decN (fun h => ?_) (fun h => ?_) <;> try contradiction) | refine booN (fun h => ?_) (fun h => ?_) | refine boo (fun h => ?_) (fun h => ?_) | refine ⟨i64 (by omega) (by omega), ?_⟩ | refine ⟨_, _, rfl, List.getElem?_eq_getElem (by omega), ?_⟩ | refine ⟨_, ⟨rfl, by omega⟩, ?_⟩ | refine ⟨_, List.getElem?_eq_getElem (by omega), ?_⟩ | refine rtB ?_ | refine rtI ?_ | refine rtC ?_ rfl | fail)
  ·exact idxF_at hlt hi.2 h
  ·refine ag (i + 1) [] [] ⟨hlt, any_take hlt hi.2 h⟩ (by simp only []; omega) ?_
   repeat' first | exact trivial | exact rfl | refine And.intro ?_ ?_
 ·repeat' ((conv => whnf); first | (refine dec (fun h => ?_) (fun h => ?_) <;> try contradiction) | (refine decN (fun h => ?_) (fun h => ?_) <;> try contradiction) | refine booN (fun h => ?_) (fun h => ?_) | refine boo (fun h => ?_) (fun h => ?_) | refine ⟨i64 (by omega) (by omega), ?_⟩ | refine ⟨_, _, rfl, List.getElem?_eq_getElem (by omega), ?_⟩ | refine ⟨_, ⟨rfl, by omega⟩, ?_⟩ | refine ⟨_, List.getElem?_eq_getElem (by omega), ?_⟩ | refine rtB ?_ | refine rtI ?_ | refine rtC ?_ rfl | fail)
  have := hi.2
  rw [List.take_of_length_le (by omega)] at this
  exact idxF_none this
theorem containsInts_spec {g : Nat} {p : Int → Bool} (hp : ∀ x, Does Tryz.prog g [.c (.int .i64 x)] [] (Rt (.c (.bool (p x))) [])) (l : List Int) : Does Tryz.prog 68 [.c (.bs 1 Int encI l), .c (.fn g [])] [] (Rt (.c (.bool (l.any p))) []) := by
 refine X_spec (n := 9) (n0 := 0) tabOk Tryz.call68 Tryz.func68 ?_
 intro hb
 (conv => whnf)
 refine cl [] [] (indexInts_spec hp l) ?_
 (conv => whnf)
 exact rtB idxF_any
theorem checkF_spec (n : Int) : Does Tryz.prog 132 [.c (.int .i64 n)] [] (Rt (.c (.bool (decide (n < 0)))) []) := by
 refine X_spec (n := 5) (n0 := 0) tabOk Tryz.call132 Tryz.func132 ?_
 intro hb
 (conv => whnf)
 exact rtB rfl
def objF (o : Ob) : Int :=
 if o.kind < 1 ∨ 3 < o.kind then 6
 else if (o.kind ≠ 1 ∧ 0 < o.bytes.length) ∨ (o.kind ≠ 2 ∧ 0 < o.entries.length) ∨ (o.kind ≠ 3 ∧ (o.tree ≠ 0 ∨ 0 < o.parents.length ∨ 0 < o.text.length)) then 7
 else if 400 < o.bytes.length ∨ 60 < o.text.length then 4
 else if 3 < o.parents.length then 5
 else if o.tree < 0 then 1
 else if o.parents.any (fun k => decide (k < 0)) = true then 1
 else if o.text.all shown = true then treeC o.entries
 else 2
theorem str_nil : ({ data := #[] } : ByteArray).data.toList = [] := rfl
set_option maxHeartbeats 2000000 in
theorem check_spec (o : Ob) : Does Tryz.prog 91 [.st (bOb o)] [] (Rt (.c (.int .i64 (objF o))) []) := by
 obtain ⟨kind, bytes, entries, tree, parents, text⟩ := o
 refine X_spec (n := 98) (n0 := 0) tabOk Tryz.call91 Tryz.func91 ?_
 intro hb
 (conv => whnf)
 refine ⟨false, .grow, (.l [0, 1, 2, 3, 4, 5, 6, 7, 8, 9, 10, 11]), by kernel_rfl, .inl ?_⟩
 by_cases hk1 : kind = 1
 ·subst hk1
  repeat' ((conv => whnf); first | (refine dec (fun h => ?_) (fun h => ?_) <;> try contradiction) | (refine decN (fun h => ?_) (fun h => ?_) <;> try contradiction) | refine booN (fun h => ?_) (fun h => ?_) | refine boo (fun h => ?_) (fun h => ?_) | refine ⟨i64 (by omega) (by omega), ?_⟩ | refine ⟨_, _, rfl, List.getElem?_eq_getElem (by omega), ?_⟩ | refine ⟨_, ⟨rfl, by omega⟩, ?_⟩ | refine ⟨_, List.getElem?_eq_getElem (by omega), ?_⟩ | refine rtB ?_ | refine rtI ?_ | refine rtC ?_ rfl | fail)
  all_goals first | (show (_ : Int) = objF _; dsimp only at *; (try simp only [str_nil, ← List.length_eq_zero_iff] at *); simp only [objF]; (repeat' split) <;> first | rfl | (exfalso; omega) | (simp_all; done)) | skip
  all_goals
   (conv => whnf)
   refine cl [] [] (containsInts_spec checkF_spec parents) ?_
   repeat' ((conv => whnf); first | (refine dec (fun h => ?_) (fun h => ?_) <;> try contradiction) | (refine decN (fun h => ?_) (fun h => ?_) <;> try contradiction) | refine booN (fun h => ?_) (fun h => ?_) | refine boo (fun h => ?_) (fun h => ?_) | refine ⟨i64 (by omega) (by omega), ?_⟩ | refine ⟨_, _, rfl, List.getElem?_eq_getElem (by omega), ?_⟩ | refine ⟨_, ⟨rfl, by omega⟩, ?_⟩ | refine ⟨_, List.getElem?_eq_getElem (by omega), ?_⟩ | refine rtB ?_ | refine rtI ?_ | refine rtC ?_ rfl | fail)
  all_goals first | (show (_ : Int) = objF _; dsimp only at *; (try simp only [str_nil, ← List.length_eq_zero_iff] at *); simp only [objF]; (repeat' split) <;> first | rfl | (exfalso; omega) | (simp_all; done)) | skip
  all_goals
   (conv => whnf)
   refine cl [] [] (visible_spec text) ?_
   repeat' ((conv => whnf); first | (refine dec (fun h => ?_) (fun h => ?_) <;> try contradiction) | (refine decN (fun h => ?_) (fun h => ?_) <;> try contradiction) | refine booN (fun h => ?_) (fun h => ?_) | refine boo (fun h => ?_) (fun h => ?_) | refine ⟨i64 (by omega) (by omega), ?_⟩ | refine ⟨_, _, rfl, List.getElem?_eq_getElem (by omega), ?_⟩ | refine ⟨_, ⟨rfl, by omega⟩, ?_⟩ | refine ⟨_, List.getElem?_eq_getElem (by omega), ?_⟩ | refine rtB ?_ | refine rtI ?_ | refine rtC ?_ rfl | fail)
  all_goals first | (show (_ : Int) = objF _; dsimp only at *; (try simp only [str_nil, ← List.length_eq_zero_iff] at *); simp only [objF]; (repeat' split) <;> first | rfl | (exfalso; omega) | (simp_all; done)) | skip
  all_goals
   (conv => whnf)
   refine cl [] [] (tree_spec entries) ?_
   repeat' ((conv => whnf); first | (refine dec (fun h => ?_) (fun h => ?_) <;> try contradiction) | (refine decN (fun h => ?_) (fun h => ?_) <;> try contradiction) | refine booN (fun h => ?_) (fun h => ?_) | refine boo (fun h => ?_) (fun h => ?_) | refine ⟨i64 (by omega) (by omega), ?_⟩ | refine ⟨_, _, rfl, List.getElem?_eq_getElem (by omega), ?_⟩ | refine ⟨_, ⟨rfl, by omega⟩, ?_⟩ | refine ⟨_, List.getElem?_eq_getElem (by omega), ?_⟩ | refine rtB ?_ | refine rtI ?_ | refine rtC ?_ rfl | fail)
  all_goals first | (show (_ : Int) = objF _; dsimp only at *; (try simp only [str_nil, ← List.length_eq_zero_iff] at *); simp only [objF]; (repeat' split) <;> first | rfl | (exfalso; omega) | (simp_all; done)) | skip
 by_cases hk2 : kind = 2
 ·subst hk2
  repeat' ((conv => whnf); first | (refine dec (fun h => ?_) (fun h => ?_) <;> try contradiction) | (refine decN (fun h => ?_) (fun h => ?_) <;> try contradiction) | refine booN (fun h => ?_) (fun h => ?_) | refine boo (fun h => ?_) (fun h => ?_) | refine ⟨i64 (by omega) (by omega), ?_⟩ | refine ⟨_, _, rfl, List.getElem?_eq_getElem (by omega), ?_⟩ | refine ⟨_, ⟨rfl, by omega⟩, ?_⟩ | refine ⟨_, List.getElem?_eq_getElem (by omega), ?_⟩ | refine rtB ?_ | refine rtI ?_ | refine rtC ?_ rfl | fail)
  all_goals first | (show (_ : Int) = objF _; dsimp only at *; (try simp only [str_nil, ← List.length_eq_zero_iff] at *); simp only [objF]; (repeat' split) <;> first | rfl | (exfalso; omega) | (simp_all; done)) | skip
  all_goals
   (conv => whnf)
   refine cl [] [] (containsInts_spec checkF_spec parents) ?_
   repeat' ((conv => whnf); first | (refine dec (fun h => ?_) (fun h => ?_) <;> try contradiction) | (refine decN (fun h => ?_) (fun h => ?_) <;> try contradiction) | refine booN (fun h => ?_) (fun h => ?_) | refine boo (fun h => ?_) (fun h => ?_) | refine ⟨i64 (by omega) (by omega), ?_⟩ | refine ⟨_, _, rfl, List.getElem?_eq_getElem (by omega), ?_⟩ | refine ⟨_, ⟨rfl, by omega⟩, ?_⟩ | refine ⟨_, List.getElem?_eq_getElem (by omega), ?_⟩ | refine rtB ?_ | refine rtI ?_ | refine rtC ?_ rfl | fail)
  all_goals first | (show (_ : Int) = objF _; dsimp only at *; (try simp only [str_nil, ← List.length_eq_zero_iff] at *); simp only [objF]; (repeat' split) <;> first | rfl | (exfalso; omega) | (simp_all; done)) | skip
  all_goals
   (conv => whnf)
   refine cl [] [] (visible_spec text) ?_
   repeat' ((conv => whnf); first | (refine dec (fun h => ?_) (fun h => ?_) <;> try contradiction) | (refine decN (fun h => ?_) (fun h => ?_) <;> try contradiction) | refine booN (fun h => ?_) (fun h => ?_) | refine boo (fun h => ?_) (fun h => ?_) | refine ⟨i64 (by omega) (by omega), ?_⟩ | refine ⟨_, _, rfl, List.getElem?_eq_getElem (by omega), ?_⟩ | refine ⟨_, ⟨rfl, by omega⟩, ?_⟩ | refine ⟨_, List.getElem?_eq_getElem (by omega), ?_⟩ | refine rtB ?_ | refine rtI ?_ | refine rtC ?_ rfl | fail)
  all_goals first | (show (_ : Int) = objF _; dsimp only at *; (try simp only [str_nil, ← List.length_eq_zero_iff] at *); simp only [objF]; (repeat' split) <;> first | rfl | (exfalso; omega) | (simp_all; done)) | skip
  all_goals
   (conv => whnf)
   refine cl [] [] (tree_spec entries) ?_
   repeat' ((conv => whnf); first | (refine dec (fun h => ?_) (fun h => ?_) <;> try contradiction) | (refine decN (fun h => ?_) (fun h => ?_) <;> try contradiction) | refine booN (fun h => ?_) (fun h => ?_) | refine boo (fun h => ?_) (fun h => ?_) | refine ⟨i64 (by omega) (by omega), ?_⟩ | refine ⟨_, _, rfl, List.getElem?_eq_getElem (by omega), ?_⟩ | refine ⟨_, ⟨rfl, by omega⟩, ?_⟩ | refine ⟨_, List.getElem?_eq_getElem (by omega), ?_⟩ | refine rtB ?_ | refine rtI ?_ | refine rtC ?_ rfl | fail)
  all_goals first | (show (_ : Int) = objF _; dsimp only at *; (try simp only [str_nil, ← List.length_eq_zero_iff] at *); simp only [objF]; (repeat' split) <;> first | rfl | (exfalso; omega) | (simp_all; done)) | skip
 by_cases hk3 : kind = 3
 ·subst hk3
  repeat' ((conv => whnf); first | (refine dec (fun h => ?_) (fun h => ?_) <;> try contradiction) | (refine decN (fun h => ?_) (fun h => ?_) <;> try contradiction) | refine booN (fun h => ?_) (fun h => ?_) | refine boo (fun h => ?_) (fun h => ?_) | refine ⟨i64 (by omega) (by omega), ?_⟩ | refine ⟨_, _, rfl, List.getElem?_eq_getElem (by omega), ?_⟩ | refine ⟨_, ⟨rfl, by omega⟩, ?_⟩ | refine ⟨_, List.getElem?_eq_getElem (by omega), ?_⟩ | refine rtB ?_ | refine rtI ?_ | refine rtC ?_ rfl | fail)
  all_goals first | (show (_ : Int) = objF _; dsimp only at *; (try simp only [str_nil, ← List.length_eq_zero_iff] at *); simp only [objF]; (repeat' split) <;> first | rfl | (exfalso; omega) | (simp_all; done)) | skip
  all_goals
   (conv => whnf)
   refine cl [] [] (containsInts_spec checkF_spec parents) ?_
   repeat' ((conv => whnf); first | (refine dec (fun h => ?_) (fun h => ?_) <;> try contradiction) | (refine decN (fun h => ?_) (fun h => ?_) <;> try contradiction) | refine booN (fun h => ?_) (fun h => ?_) | refine boo (fun h => ?_) (fun h => ?_) | refine ⟨i64 (by omega) (by omega), ?_⟩ | refine ⟨_, _, rfl, List.getElem?_eq_getElem (by omega), ?_⟩ | refine ⟨_, ⟨rfl, by omega⟩, ?_⟩ | refine ⟨_, List.getElem?_eq_getElem (by omega), ?_⟩ | refine rtB ?_ | refine rtI ?_ | refine rtC ?_ rfl | fail)
  all_goals first | (show (_ : Int) = objF _; dsimp only at *; (try simp only [str_nil, ← List.length_eq_zero_iff] at *); simp only [objF]; (repeat' split) <;> first | rfl | (exfalso; omega) | (simp_all; done)) | skip
  all_goals
   (conv => whnf)
   refine cl [] [] (visible_spec text) ?_
   repeat' ((conv => whnf); first | (refine dec (fun h => ?_) (fun h => ?_) <;> try contradiction) | (refine decN (fun h => ?_) (fun h => ?_) <;> try contradiction) | refine booN (fun h => ?_) (fun h => ?_) | refine boo (fun h => ?_) (fun h => ?_) | refine ⟨i64 (by omega) (by omega), ?_⟩ | refine ⟨_, _, rfl, List.getElem?_eq_getElem (by omega), ?_⟩ | refine ⟨_, ⟨rfl, by omega⟩, ?_⟩ | refine ⟨_, List.getElem?_eq_getElem (by omega), ?_⟩ | refine rtB ?_ | refine rtI ?_ | refine rtC ?_ rfl | fail)
  all_goals first | (show (_ : Int) = objF _; dsimp only at *; (try simp only [str_nil, ← List.length_eq_zero_iff] at *); simp only [objF]; (repeat' split) <;> first | rfl | (exfalso; omega) | (simp_all; done)) | skip
  all_goals
   (conv => whnf)
   refine cl [] [] (tree_spec entries) ?_
   repeat' ((conv => whnf); first | (refine dec (fun h => ?_) (fun h => ?_) <;> try contradiction) | (refine decN (fun h => ?_) (fun h => ?_) <;> try contradiction) | refine booN (fun h => ?_) (fun h => ?_) | refine boo (fun h => ?_) (fun h => ?_) | refine ⟨i64 (by omega) (by omega), ?_⟩ | refine ⟨_, _, rfl, List.getElem?_eq_getElem (by omega), ?_⟩ | refine ⟨_, ⟨rfl, by omega⟩, ?_⟩ | refine ⟨_, List.getElem?_eq_getElem (by omega), ?_⟩ | refine rtB ?_ | refine rtI ?_ | refine rtC ?_ rfl | fail)
  all_goals first | (show (_ : Int) = objF _; dsimp only at *; (try simp only [str_nil, ← List.length_eq_zero_iff] at *); simp only [objF]; (repeat' split) <;> first | rfl | (exfalso; omega) | (simp_all; done)) | skip
 ·have : objF ⟨kind, bytes, entries, tree, parents, text⟩ = 6 := by
   unfold objF; rw [if_pos (by simp only []; omega)]
  rw [this]
  repeat' ((conv => whnf); first | (refine dec (fun h => ?_) (fun h => ?_) <;> try contradiction) | (refine decN (fun h => ?_) (fun h => ?_) <;> try contradiction) | refine booN (fun h => ?_) (fun h => ?_) | refine boo (fun h => ?_) (fun h => ?_) | refine ⟨i64 (by omega) (by omega), ?_⟩ | refine ⟨_, _, rfl, List.getElem?_eq_getElem (by omega), ?_⟩ | refine ⟨_, ⟨rfl, by omega⟩, ?_⟩ | refine ⟨_, List.getElem?_eq_getElem (by omega), ?_⟩ | refine rtB ?_ | refine rtI ?_ | refine rtC ?_ rfl | fail)
  all_goals rfl
end Go.Nest
end
/- part -/
section

namespace Go.Nest
open Go Go.AM Go.Proofs
open Go.Proofs.YtpmjnbidmcnhnaaGreatDoor (tab tabOk)
set_option maxRecDepth 4000
theorem ob_ne {o u : Ob} (h : ¬ (o.kind = u.kind ∧ o.tree = u.tree ∧ o.text = u.text ∧ o.bytes = u.bytes ∧ o.entries = u.entries ∧ o.parents = u.parents)) : false = decide (o = u) := by
 symm; rw [decide_eq_false_iff_not]; intro e; subst e; exact h ⟨rfl, rfl, rfl, rfl, rfl, rfl⟩
theorem ob_eq {o u : Ob} (h1 : o.kind = u.kind) (h2 : o.tree = u.tree) (h3 : o.text = u.text) (h4 : o.bytes = u.bytes) (h5 : o.entries = u.entries) (h6 : o.parents = u.parents) : o = u := by
 cases o; cases u; simp_all
theorem same_spec (o u : Ob) : Does Tryz.prog 95 [.st (bOb o), .st (bOb u)] [] (Rt (.c (.bool (decide (o = u)))) []) := by
 refine X_spec (n := 45) (n0 := 0) tabOk Tryz.call95 Tryz.func95 ?_
 intro hb
 repeat' ((conv => whnf); first | (refine dec (fun h => ?_) (fun h => ?_) <;> try contradiction) | (refine decN (fun h => ?_) (fun h => ?_) <;> try contradiction) | refine booN (fun h => ?_) (fun h => ?_) | refine boo (fun h => ?_) (fun h => ?_) | refine ⟨i64 (by omega) (by omega), ?_⟩ | refine ⟨_, _, rfl, List.getElem?_eq_getElem (by omega), ?_⟩ | refine ⟨_, ⟨rfl, by omega⟩, ?_⟩ | refine ⟨_, List.getElem?_eq_getElem (by omega), ?_⟩ | refine rtB ?_ | refine rtI ?_ | refine rtC ?_ rfl | fail)
 ·(conv => whnf)
  refine cl [] [] (equalBytes_spec o.bytes u.bytes) ?_
  repeat' ((conv => whnf); first | (refine dec (fun h => ?_) (fun h => ?_) <;> try contradiction) | (refine decN (fun h => ?_) (fun h => ?_) <;> try contradiction) | refine booN (fun h => ?_) (fun h => ?_) | refine boo (fun h => ?_) (fun h => ?_) | refine ⟨i64 (by omega) (by omega), ?_⟩ | refine ⟨_, _, rfl, List.getElem?_eq_getElem (by omega), ?_⟩ | refine ⟨_, ⟨rfl, by omega⟩, ?_⟩ | refine ⟨_, List.getElem?_eq_getElem (by omega), ?_⟩ | refine rtB ?_ | refine rtI ?_ | refine rtC ?_ rfl | fail)
  ·(conv => whnf)
   refine cl [] [] (equalEns_spec o.entries u.entries) ?_
   repeat' ((conv => whnf); first | (refine dec (fun h => ?_) (fun h => ?_) <;> try contradiction) | (refine decN (fun h => ?_) (fun h => ?_) <;> try contradiction) | refine booN (fun h => ?_) (fun h => ?_) | refine boo (fun h => ?_) (fun h => ?_) | refine ⟨i64 (by omega) (by omega), ?_⟩ | refine ⟨_, _, rfl, List.getElem?_eq_getElem (by omega), ?_⟩ | refine ⟨_, ⟨rfl, by omega⟩, ?_⟩ | refine ⟨_, List.getElem?_eq_getElem (by omega), ?_⟩ | refine rtB ?_ | refine rtI ?_ | refine rtC ?_ rfl | fail)
   ·(conv => whnf)
    refine cl [] [] (equalInts_spec o.parents u.parents) ?_
    repeat' ((conv => whnf); first | (refine dec (fun h => ?_) (fun h => ?_) <;> try contradiction) | (refine decN (fun h => ?_) (fun h => ?_) <;> try contradiction) | refine booN (fun h => ?_) (fun h => ?_) | refine boo (fun h => ?_) (fun h => ?_) | refine ⟨i64 (by omega) (by omega), ?_⟩ | refine ⟨_, _, rfl, List.getElem?_eq_getElem (by omega), ?_⟩ | refine ⟨_, ⟨rfl, by omega⟩, ?_⟩ | refine ⟨_, List.getElem?_eq_getElem (by omega), ?_⟩ | refine rtB ?_ | refine rtI ?_ | refine rtC ?_ rfl | fail)
    rw [Bool.eq_iff_iff, decide_eq_true_iff, decide_eq_true_iff]
    exact ⟨fun h6 => by apply ob_eq <;> assumption, fun e => by rw [e]⟩
   all_goals exact ob_ne (by simp [*])
  all_goals exact ob_ne (by simp [*])
 all_goals exact ob_ne (by simp [*])
set_option maxHeartbeats 1000000 in
theorem sameObject_spec (o u : Ob) : Does Tryz.prog 98 [.st (bOb o), .st (bOb u)] [] (Rt (.c (.bool (decide (o = u)))) []) := by
 refine X_spec (n := 68) (n0 := 0) tabOk Tryz.call98 Tryz.func98 ?_
 intro hb
 have hb1 : o.entries.length ≤ 9223372036854775807 := hb.1.1.2.2.1
 repeat' ((conv => whnf); first | (refine dec (fun h => ?_) (fun h => ?_) <;> try contradiction) | (refine decN (fun h => ?_) (fun h => ?_) <;> try contradiction) | refine booN (fun h => ?_) (fun h => ?_) | refine boo (fun h => ?_) (fun h => ?_) | refine ⟨i64 (by omega) (by omega), ?_⟩ | refine ⟨_, _, rfl, List.getElem?_eq_getElem (by omega), ?_⟩ | refine ⟨_, ⟨rfl, by omega⟩, ?_⟩ | refine ⟨_, List.getElem?_eq_getElem (by omega), ?_⟩ | refine rtB ?_ | refine rtI ?_ | refine rtC ?_ rfl | fail)
 all_goals first | (exact ob_ne (by simp [*])) | skip
 (conv => whnf)
 refine cl [] [] (sameBytes_spec o.bytes u.bytes) ?_
 repeat' ((conv => whnf); first | (refine dec (fun h => ?_) (fun h => ?_) <;> try contradiction) | (refine decN (fun h => ?_) (fun h => ?_) <;> try contradiction) | refine booN (fun h => ?_) (fun h => ?_) | refine boo (fun h => ?_) (fun h => ?_) | refine ⟨i64 (by omega) (by omega), ?_⟩ | refine ⟨_, _, rfl, List.getElem?_eq_getElem (by omega), ?_⟩ | refine ⟨_, ⟨rfl, by omega⟩, ?_⟩ | refine ⟨_, List.getElem?_eq_getElem (by omega), ?_⟩ | refine rtB ?_ | refine rtI ?_ | refine rtC ?_ rfl | fail)
 all_goals first | (exact ob_ne (by simp [*])) | skip
 (conv => whnf)
 refine cl [] [] (sameInts_spec o.parents u.parents) ?_
 repeat' ((conv => whnf); first | (refine dec (fun h => ?_) (fun h => ?_) <;> try contradiction) | (refine decN (fun h => ?_) (fun h => ?_) <;> try contradiction) | refine booN (fun h => ?_) (fun h => ?_) | refine boo (fun h => ?_) (fun h => ?_) | refine ⟨i64 (by omega) (by omega), ?_⟩ | refine ⟨_, _, rfl, List.getElem?_eq_getElem (by omega), ?_⟩ | refine ⟨_, ⟨rfl, by omega⟩, ?_⟩ | refine ⟨_, List.getElem?_eq_getElem (by omega), ?_⟩ | refine rtB ?_ | refine rtI ?_ | refine rtC ?_ rfl | fail)
 all_goals first | (exact ob_ne (fun e => ‹¬ (o.entries.length : Int) = u.entries.length› (by rw [e.2.2.2.2.1]))) | (exact ob_ne (by simp [*])) | skip
 have hl : o.entries.length = u.entries.length := by omega
 have e1 : o.kind = u.kind := by assumption
 have e2 : o.tree = u.tree := by assumption
 have e3 : o.text = u.text := by assumption
 have e4 : o.bytes = u.bytes := by assumption
 have e6 : o.parents = u.parents := by assumption
 (conv => whnf)
 refine lp Nat (fun i => ⟨[(2, .c (.ptr 0 0)), (3, .c (.ptr 1 0)), (5, .c (.int .i64 i))], [.box (bOb o), .box (bOb u)]⟩) (fun i => i ≤ o.entries.length ∧ o.entries.take i = u.entries.take i) (fun i => o.entries.length - i) 0 [] [.same 0, .same 1] ?_ ?_ (fun i hi => ?_)
 ·simp
 ·repeat' first | exact trivial | exact rfl | refine And.intro ?_ ?_
 (conv => whnf)
 refine dec (fun h4 => ?_) (fun h4 => ?_)
 ·have hlt : i < o.entries.length := by omega
  have hlt' : i < u.entries.length := by omega
  (conv => whnf)
  refine ⟨false, .grow, (.l [0, 1, 2, 3, 4, 5, 6, 7, 8, 9, 10]), by kernel_rfl, .inl ?_⟩
  repeat' ((conv => whnf); first | (refine dec (fun h => ?_) (fun h => ?_) <;> try contradiction) | (refine decN (fun h => ?_) (fun h => ?_) <;> try contradiction) | refine booN (fun h => ?_) (fun h => ?_) | refine boo (fun h => ?_) (fun h => ?_) | refine ⟨i64 (by omega) (by omega), ?_⟩ | refine ⟨_, _, rfl, List.getElem?_eq_getElem (by omega), ?_⟩ | refine ⟨_, ⟨rfl, by omega⟩, ?_⟩ | refine ⟨_, List.getElem?_eq_getElem (by omega), ?_⟩ | refine rtB ?_ | refine rtI ?_ | refine rtC ?_ rfl | fail)
  ·exact ob_ne (fun e => h (eqEn.2 (by simp [e.2.2.2.2.1])))
  ·refine ag (i + 1) [] [.same 0, .same 1] ⟨hlt, take_step hlt hlt' hi.2 (eqEn.1 h)⟩ (by simp only []; omega) ?_
   repeat' first | exact trivial | exact rfl | refine And.intro ?_ ?_
 ·repeat' ((conv => whnf); first | (refine dec (fun h => ?_) (fun h => ?_) <;> try contradiction) | (refine decN (fun h => ?_) (fun h => ?_) <;> try contradiction) | refine booN (fun h => ?_) (fun h => ?_) | refine boo (fun h => ?_) (fun h => ?_) | refine ⟨i64 (by omega) (by omega), ?_⟩ | refine ⟨_, _, rfl, List.getElem?_eq_getElem (by omega), ?_⟩ | refine ⟨_, ⟨rfl, by omega⟩, ?_⟩ | refine ⟨_, List.getElem?_eq_getElem (by omega), ?_⟩ | refine rtB ?_ | refine rtI ?_ | refine rtC ?_ rfl | fail)
  have e5 := take_end (by omega) hl hi.2
  symm; rw [decide_eq_true_iff]
  exact ob_eq e1 e2 e3 e4 (of_decide_eq_true e5.symm) e6
theorem own_spec (o : Ob) (h1 : o.bytes.length * 1 ≤ 140737488355328) (h2 : o.entries.length * 40 ≤ 140737488355328) (h3 : o.parents.length * 8 ≤ 140737488355328) : Does Tryz.prog 62 [.st (bOb o)] [] (Rt (.st (encOb o)) []) := by
 refine X_spec (n := 16) (n0 := 0) tabOk Tryz.call62 Tryz.func62 ?_
 intro hb
 (conv => whnf)
 refine ⟨false, .grow, (.l [0, 1, 3, 4, 6, 7, 2, 9, 5, 8, 10, 11, 12, 13, 14]), by kernel_rfl, .inl ?_⟩
 repeat' ((conv => whnf); refine I6 ?_)
 (conv => whnf)
 refine cl [] [] (cloneBytes_spec o.bytes h1) ?_
 repeat' ((conv => whnf); refine I6 ?_)
 (conv => whnf)
 refine cl [] [] (cloneEns_spec o.entries h2) ?_
 repeat' ((conv => whnf); refine I6 ?_)
 (conv => whnf)
 refine cl [] [] (cloneInts_spec o.parents h3) ?_
 repeat' ((conv => whnf); refine I6 ?_)
 (conv => whnf)
 exact rx [2, 3, 4] []
theorem ownObject_spec (o : Ob) (h1 : o.bytes.length * 1 ≤ 140737488355328) (h2 : o.entries.length * 40 ≤ 140737488355328) (h3 : o.parents.length * 8 ≤ 140737488355328) : Does Tryz.prog 99 [.st (bOb o)] [] (Rt (.st (encOb o)) []) := by
 refine X_spec (n := 22) (n0 := 0) tabOk Tryz.call99 Tryz.func99 ?_
 intro hb
 (conv => whnf)
 refine ⟨false, .grow, (.l [0, 1, 2, 4, 5, 6, 8, 9, 10, 3, 12, 7, 11, 13, 14, 15, 16, 17]), by kernel_rfl, .inl ?_⟩
 repeat' ((conv => whnf); refine I6 ?_)
 (conv => whnf)
 refine ⟨_, _, rfl, rfl, (by simp only [List.length_append, List.length_cons, List.length_nil]; omega), ?_⟩
 repeat' ((conv => whnf); refine I6 ?_)
 (conv => whnf)
 refine ⟨_, _, rfl, rfl, (by simp only [List.length_append, List.length_cons, List.length_nil]; omega), ?_⟩
 repeat' ((conv => whnf); refine I6 ?_)
 (conv => whnf)
 refine ⟨_, _, rfl, rfl, (by simp only [List.length_append, List.length_cons, List.length_nil]; omega), ?_⟩
 repeat' ((conv => whnf); refine I6 ?_)
 (conv => whnf)
 exact rx [2, 3, 4] []
def greatO (o : Ob) : Bool := decide (2000 < o.bytes.length) || decide (200 < o.entries.length) || decide (50 < o.parents.length) || decide (2000 < o.text.length) || o.entries.any fun e => decide (500 < e.name.length)
theorem greatObject_spec (o : Ob) : Does Tryz.prog 84 [.st (bOb o)] [] (Rt (.c (.bool (greatO o))) []) := by
 refine X_spec (n := 41) (n0 := 0) tabOk Tryz.call84 Tryz.func84 ?_
 intro hb
 have hb1 : o.entries.length ≤ 9223372036854775807 := hb.1.1.2.2.1
 repeat' ((conv => whnf); first | (refine dec (fun h => ?_) (fun h => ?_) <;> try contradiction) | (refine decN (fun h => ?_) (fun h => ?_) <;> try contradiction) | refine booN (fun h => ?_) (fun h => ?_) | refine boo (fun h => ?_) (fun h => ?_) | refine ⟨i64 (by omega) (by omega), ?_⟩ | refine ⟨_, _, rfl, List.getElem?_eq_getElem (by omega), ?_⟩ | refine ⟨_, ⟨rfl, by omega⟩, ?_⟩ | refine ⟨_, List.getElem?_eq_getElem (by omega), ?_⟩ | refine rtB ?_ | refine rtI ?_ | refine rtC ?_ rfl | fail)
 all_goals first | (show true = greatO o; unfold greatO; simp [*]; done) | (show true = greatO o; unfold greatO; simp; omega) | skip
 (conv => whnf)
 refine lp Nat (fun i => ⟨[(1, .c (.ptr 0 0)), (3, .c (.int .i64 i))], [.box (bOb o)]⟩) (fun i => i ≤ o.entries.length ∧ (o.entries.take i).any (fun e => decide (500 < e.name.length)) = false) (fun i => o.entries.length - i) 0 [] [.same 0] ?_ ?_ (fun i hi => ?_)
 ·simp
 ·repeat' first | exact trivial | exact rfl | refine And.intro ?_ ?_
 (conv => whnf)
 refine dec (fun h4 => ?_) (fun h4 => ?_)
 ·have hlt : i < o.entries.length := by omega
  repeat' ((conv => whnf); first | (refine dec (fun h => ?_) (fun h => ?_) <;> try contradiction) | (refine decN (fun h => ?_) (fun h => ?_) <;> try contradiction) | refine booN (fun h => ?_) (fun h => ?_) | refine boo (fun h => ?_) (fun h => ?_) | refine ⟨i64 (by omega) (by omega), ?_⟩ | refine ⟨_, _, rfl, List.getElem?_eq_getElem (by omega), ?_⟩ | refine ⟨_, ⟨rfl, by omega⟩, ?_⟩ | refine ⟨_, List.getElem?_eq_getElem (by omega), ?_⟩ | refine rtB ?_ | refine rtI ?_ | refine rtC ?_ rfl | fail)
  ·unfold greatO; rw [any_at hlt (p := fun e : Ent => decide (500 < e.name.length)) (by simp; omega)]; simp
  ·refine ag (i + 1) [] [.same 0] ⟨hlt, any_take hlt hi.2 (by simp; omega)⟩ (by simp only []; omega) ?_
   repeat' first | exact trivial | exact rfl | refine And.intro ?_ ?_
 ·repeat' ((conv => whnf); first | (refine dec (fun h => ?_) (fun h => ?_) <;> try contradiction) | (refine decN (fun h => ?_) (fun h => ?_) <;> try contradiction) | refine booN (fun h => ?_) (fun h => ?_) | refine boo (fun h => ?_) (fun h => ?_) | refine ⟨i64 (by omega) (by omega), ?_⟩ | refine ⟨_, _, rfl, List.getElem?_eq_getElem (by omega), ?_⟩ | refine ⟨_, ⟨rfl, by omega⟩, ?_⟩ | refine ⟨_, List.getElem?_eq_getElem (by omega), ?_⟩ | refine rtB ?_ | refine rtI ?_ | refine rtC ?_ rfl | fail)
  have := hi.2
  rw [List.take_of_length_le (by omega)] at this
  unfold greatO; rw [this]; simp; omega
end Go.Nest
end
/- part -/
section

namespace Go.Nest
open Go Go.AM Go.Proofs
open Go.Proofs.YtpmjnbidmcnhnaaGreatDoor (tab tabOk)
set_option maxRecDepth 4000
set_option maxHeartbeats 2000000 in
theorem objectFault_spec (o : Ob) : Does Tryz.prog 96 [.st (bOb o)] [] (Rt (.c (.int .i64 (objF o))) []) := by
 refine X_spM (n := 176) (n0 := 0) tabOk Tryz.call96 Tryz.func96 ?_
 intro hb
 have hb : o.bytes.length ≤ 9223372036854775807 ∧ o.entries.length ≤ 9223372036854775807 ∧ o.parents.length ≤ 9223372036854775807 ∧ o.text.length ≤ 9223372036854775807 := ⟨hb.1.1.2.1, hb.1.1.2.2.1, hb.1.1.2.2.2.2.1, hb.1.1.2.2.2.2.2.1⟩
 refine XM.join (ι := Unit) (fun _ => ⟨[(1, .c (.ptr 0 0))], [.box (bOb o)]⟩) (fun _ => True) ?_ (fun _ hj => ?_)
 ·repeat' ((conv => whnf); refine I6 ?_)
  all_goals first | (refine ⟨(), by first | trivial | omega, [], [.same 0], ?_⟩; repeat' first | exact trivial | exact rfl | refine And.intro ?_ ?_) | skip
 refine XM.join (ι := Unit) (fun _ => ⟨[(1, .c (.ptr 0 0))], [.box (bOb o)]⟩) (fun _ => 1 ≤ o.kind ∧ o.kind ≤ 3) ?_ (fun _ hj => ?_)
 ·repeat' ((conv => whnf); first | (refine dec (fun h => ?_) (fun h => ?_) <;> try contradiction) | (refine decN (fun h => ?_) (fun h => ?_) <;> try contradiction) | refine booN (fun h => ?_) (fun h => ?_) | refine boo (fun h => ?_) (fun h => ?_) | refine ⟨i64 (by omega) (by omega), ?_⟩ | refine ⟨_, _, rfl, List.getElem?_eq_getElem (by omega), ?_⟩ | refine ⟨_, ⟨rfl, by omega⟩, ?_⟩ | refine ⟨_, List.getElem?_eq_getElem (by omega), ?_⟩ | refine rtB ?_ | refine rtI ?_ | refine rtC ?_ rfl | fail)
  all_goals first | (show (_ : Int) = objF _; simp only [objF]; (repeat' split) <;> first | rfl | (exfalso; omega) | (simp_all; done)) | skip
  all_goals first | (refine ⟨(), by first | trivial | omega, [], [.same 0], ?_⟩; repeat' first | exact trivial | exact rfl | refine And.intro ?_ ?_) | skip
 have hk := hj; clear hj
 refine XM.join (ι := Unit) (fun _ => ⟨[(1, .c (.ptr 0 0))], [.box (bOb o)]⟩) (fun _ => ¬ (o.kind ≠ 1 ∧ 0 < o.bytes.length) ∧ ¬ (o.kind ≠ 2 ∧ 0 < o.entries.length)) ?_ (fun _ hj => ?_)
 ·repeat' ((conv => whnf); first | (refine dec (fun h => ?_) (fun h => ?_) <;> try contradiction) | (refine decN (fun h => ?_) (fun h => ?_) <;> try contradiction) | refine booN (fun h => ?_) (fun h => ?_) | refine boo (fun h => ?_) (fun h => ?_) | refine ⟨i64 (by omega) (by omega), ?_⟩ | refine ⟨_, _, rfl, List.getElem?_eq_getElem (by omega), ?_⟩ | refine ⟨_, ⟨rfl, by omega⟩, ?_⟩ | refine ⟨_, List.getElem?_eq_getElem (by omega), ?_⟩ | refine rtB ?_ | refine rtI ?_ | refine rtC ?_ rfl | fail)
  all_goals first | (show (_ : Int) = objF _; simp only [objF]; (repeat' split) <;> first | rfl | (exfalso; omega) | (simp_all; done)) | skip
  all_goals first | (refine ⟨(), by first | trivial | omega, [], [.same 0], ?_⟩; repeat' first | exact trivial | exact rfl | refine And.intro ?_ ?_) | skip
 have hk2 := hj; clear hj
 refine XM.join (ι := Unit) (fun _ => ⟨[(1, .c (.ptr 0 0))], [.box (bOb o)]⟩) (fun _ => ¬ (o.kind ≠ 3 ∧ (o.tree ≠ 0 ∨ 0 < o.parents.length ∨ 0 < o.text.length))) ?_ (fun _ hj => ?_)
 ·repeat' ((conv => whnf); first | (refine dec (fun h => ?_) (fun h => ?_) <;> try contradiction) | (refine decN (fun h => ?_) (fun h => ?_) <;> try contradiction) | refine booN (fun h => ?_) (fun h => ?_) | refine boo (fun h => ?_) (fun h => ?_) | refine ⟨i64 (by omega) (by omega), ?_⟩ | refine ⟨_, _, rfl, List.getElem?_eq_getElem (by omega), ?_⟩ | refine ⟨_, ⟨rfl, by omega⟩, ?_⟩ | refine ⟨_, List.getElem?_eq_getElem (by omega), ?_⟩ | refine rtB ?_ | refine rtI ?_ | refine rtC ?_ rfl | fail)
  all_goals first | (show (_ : Int) = objF _; simp only [objF]; (repeat' split) <;> first | rfl | (exfalso; omega) | (simp_all; done)) | skip
  all_goals first | (refine ⟨(), by first | trivial | omega, [], [.same 0], ?_⟩; repeat' first | exact trivial | exact rfl | refine And.intro ?_ ?_) | skip
 have hk3 := hj; clear hj
 refine XM.join (ι := Unit) (fun _ => ⟨[(1, .c (.ptr 0 0))], [.box (bOb o)]⟩) (fun _ => ¬ (400 < o.bytes.length ∨ 60 < o.text.length)) ?_ (fun _ hj => ?_)
 ·repeat' ((conv => whnf); first | (refine dec (fun h => ?_) (fun h => ?_) <;> try contradiction) | (refine decN (fun h => ?_) (fun h => ?_) <;> try contradiction) | refine booN (fun h => ?_) (fun h => ?_) | refine boo (fun h => ?_) (fun h => ?_) | refine ⟨i64 (by omega) (by omega), ?_⟩ | refine ⟨_, _, rfl, List.getElem?_eq_getElem (by omega), ?_⟩ | refine ⟨_, ⟨rfl, by omega⟩, ?_⟩ | refine ⟨_, List.getElem?_eq_getElem (by omega), ?_⟩ | refine rtB ?_ | refine rtI ?_ | refine rtC ?_ rfl | fail)
  all_goals first | (show (_ : Int) = objF _; simp only [objF]; (repeat' split) <;> first | rfl | (exfalso; omega) | (simp_all; done)) | skip
  all_goals first | (refine ⟨(), by first | trivial | omega, [], [.same 0], ?_⟩; repeat' first | exact trivial | exact rfl | refine And.intro ?_ ?_) | skip
 have hk4 := hj; clear hj
 refine XM.join (ι := Unit) (fun _ => ⟨[(1, .c (.ptr 0 0))], [.box (bOb o)]⟩) (fun _ => ¬ (3 < o.parents.length)) ?_ (fun _ hj => ?_)
 ·repeat' ((conv => whnf); first | (refine dec (fun h => ?_) (fun h => ?_) <;> try contradiction) | (refine decN (fun h => ?_) (fun h => ?_) <;> try contradiction) | refine booN (fun h => ?_) (fun h => ?_) | refine boo (fun h => ?_) (fun h => ?_) | refine ⟨i64 (by omega) (by omega), ?_⟩ | refine ⟨_, _, rfl, List.getElem?_eq_getElem (by omega), ?_⟩ | refine ⟨_, ⟨rfl, by omega⟩, ?_⟩ | refine ⟨_, List.getElem?_eq_getElem (by omega), ?_⟩ | refine rtB ?_ | refine rtI ?_ | refine rtC ?_ rfl | fail)
  all_goals first | (show (_ : Int) = objF _; simp only [objF]; (repeat' split) <;> first | rfl | (exfalso; omega) | (simp_all; done)) | skip
  all_goals first | (refine ⟨(), by first | trivial | omega, [], [.same 0], ?_⟩; repeat' first | exact trivial | exact rfl | refine And.intro ?_ ?_) | skip
 have hk5 := hj; clear hj
 have he : objF o = if o.tree < 0 then 1 else if o.parents.any (fun k => decide (k < 0)) = true then 1 else if o.text.all shown = true then treeC o.entries else 2 := by
  simp only [objF]
  rw [if_neg (by omega), if_neg (by omega), if_neg (by omega), if_neg (by omega)]
 rw [he]
 refine XM.seq ?_
 repeat' ((conv => whnf); refine I6 ?_)
 refine XM.join (ι := Bool) (fun b => ⟨[(1, .c (.ptr 0 0)), (3, .c (.bool b))], [.box (bOb o)]⟩) (fun b => b = (decide (o.tree < 0) || o.parents.any fun k => decide (k < 0))) ?_ (fun b hj => ?_)
 ·(conv => whnf)
  refine lp (Nat × Bool) (fun x => ⟨[(1, .c (.ptr 0 0)), (3, .c (.bool x.2)), (4, .c (.int .i64 x.1))], [.box (bOb o)]⟩) (fun x => x.1 ≤ o.parents.length ∧ x.2 = (decide (o.tree < 0) || (o.parents.take x.1).any fun k => decide (k < 0))) (fun x => o.parents.length - x.1) (0, decide (o.tree < 0)) [] [.same 0] ?_ ?_ (fun x hi => ?_)
  ·exact ⟨Nat.zero_le _, by simp⟩
  ·repeat' first | exact trivial | exact rfl | refine And.intro ?_ ?_
  obtain ⟨i, b⟩ := x
  dsimp only at hi
  (conv => whnf)
  refine dec (fun h4 => ?_) (fun h4 => ?_)
  ·have hlt : i < o.parents.length := by omega
   have hs : ((o.parents.take (i + 1)).any fun k => decide (k < 0)) = ((o.parents.take i).any (fun k => decide (k < 0)) || decide (o.parents[i] < 0)) := by
    rw [List.take_succ_eq_append_getElem hlt, List.any_append]; simp
   repeat' ((conv => whnf); first | (refine dec (fun h => ?_) (fun h => ?_) <;> try contradiction) | (refine decN (fun h => ?_) (fun h => ?_) <;> try contradiction) | refine booN (fun h => ?_) (fun h => ?_) | refine boo (fun h => ?_) (fun h => ?_) | refine ⟨i64 (by omega) (by omega), ?_⟩ | refine ⟨_, _, rfl, List.getElem?_eq_getElem (by omega), ?_⟩ | refine ⟨_, ⟨rfl, by omega⟩, ?_⟩ | refine ⟨_, List.getElem?_eq_getElem (by omega), ?_⟩ | refine rtB ?_ | refine rtI ?_ | refine rtC ?_ rfl | fail)
   ·refine ag (i + 1, true) [] [.same 0] ⟨hlt, ?_⟩ (by simp only []; omega) ?_
    ·rw [hs, ← Bool.or_assoc, ← hi.2, show b = _ from h]; rfl
    ·repeat' first | exact trivial | exact rfl | refine And.intro ?_ ?_
   ·refine ag (i + 1, decide (o.parents[i] < 0)) [] [.same 0] ⟨hlt, ?_⟩ (by simp only []; omega) ?_
    ·rw [hs, ← Bool.or_assoc, ← hi.2, show b = _ from h]; rfl
    ·repeat' first | exact trivial | exact rfl | refine And.intro ?_ ?_
  ·have := hi.2
   rw [List.take_of_length_le (by omega)] at this
   (conv => whnf)
   refine ⟨b, this, [], [.same 0], ?_⟩
   repeat' first | exact trivial | exact rfl | refine And.intro ?_ ?_
 refine XM.join (ι := Unit) (fun _ => ⟨[(1, .c (.ptr 0 0))], [.box (bOb o)]⟩) (fun _ => b = false) ?_ (fun _ hb0 => ?_)
 ·repeat' ((conv => whnf); first | (refine dec (fun h => ?_) (fun h => ?_) <;> try contradiction) | (refine decN (fun h => ?_) (fun h => ?_) <;> try contradiction) | refine booN (fun h => ?_) (fun h => ?_) | refine boo (fun h => ?_) (fun h => ?_) | refine ⟨i64 (by omega) (by omega), ?_⟩ | refine ⟨_, _, rfl, List.getElem?_eq_getElem (by omega), ?_⟩ | refine ⟨_, ⟨rfl, by omega⟩, ?_⟩ | refine ⟨_, List.getElem?_eq_getElem (by omega), ?_⟩ | refine rtB ?_ | refine rtI ?_ | refine rtC ?_ rfl | fail)
  ·rw [h] at hj
   have hj := hj.symm
   rw [Bool.or_eq_true, decide_eq_true_iff] at hj
   split
   ·rfl
   ·rw [if_pos (hj.resolve_left ‹_›)]
  ·refine ⟨(), h, [], [.same 0], ?_⟩; repeat' first | exact trivial | exact rfl | refine And.intro ?_ ?_
 have hj0 := hb0
 subst hj0
 have hj := hj.symm
 rw [Bool.or_eq_false_iff, decide_eq_false_iff_not] at hj
 rw [if_neg hj.1, if_neg (by rw [hj.2]; simp)]
 refine XM.join (ι := Unit) (fun _ => ⟨[(1, .c (.ptr 0 0))], [.box (bOb o)]⟩) (fun _ => o.text.all shown = true) ?_ (fun _ ht => ?_)
 ·(conv => whnf)
  refine lp Nat (fun i => ⟨[(1, .c (.ptr 0 0)), (5, .c (.int .i64 i))], [.box (bOb o)]⟩) (fun i => i ≤ o.text.length ∧ (o.text.take i).all shown = true) (fun i => o.text.length - i) 0 [] [.same 0] ?_ ?_ (fun i hi => ?_)
  ·simp
  ·repeat' first | exact trivial | exact rfl | refine And.intro ?_ ?_
  have bad : ∀ (h : i < o.text.length), shown o.text[i] = false → (2 : Int) = if o.text.all shown = true then treeC o.entries else 2 := fun h h2 => by
   rw [if_neg]; rw [List.all_eq_true]; intro h3; rw [h3 _ (List.getElem_mem h)] at h2; cases h2
  (conv => whnf)
  refine dec (fun h4 => ?_) (fun h4 => ?_)
  ·have hlt : i < o.text.length := by omega
   repeat' ((conv => whnf); first | (refine dec (fun h => ?_) (fun h => ?_) <;> try contradiction) | (refine decN (fun h => ?_) (fun h => ?_) <;> try contradiction) | refine booN (fun h => ?_) (fun h => ?_) | refine boo (fun h => ?_) (fun h => ?_) | refine ⟨i64 (by omega) (by omega), ?_⟩ | refine ⟨_, _, rfl, List.getElem?_eq_getElem (by omega), ?_⟩ | refine ⟨_, ⟨rfl, by omega⟩, ?_⟩ | refine ⟨_, List.getElem?_eq_getElem (by omega), ?_⟩ | refine rtB ?_ | refine rtI ?_ | refine rtC ?_ rfl | fail)
   ·exact bad hlt (by simp [shown]; omega)
   ·exact bad hlt (by simp [shown]; omega)
   ·refine ag (i + 1) [] [.same 0] ⟨hlt, ?_⟩ (by simp only []; omega) ?_
    ·rw [List.take_succ_eq_append_getElem hlt, List.all_append, hi.2]; simp [shown]; omega
    repeat' first | exact trivial | exact rfl | refine And.intro ?_ ?_
  ·have := hi.2
   rw [List.take_of_length_le (by omega)] at this
   (conv => whnf)
   refine ⟨(), this, [], [.same 0], ?_⟩
   repeat' first | exact trivial | exact rfl | refine And.intro ?_ ?_
 rw [if_pos ht]
 refine XM.join (ι := Unit) (fun _ => ⟨[(1, .c (.ptr 0 0))], [.box (bOb o)]⟩) (fun _ => ¬ 60 < o.entries.length) ?_ (fun _ hj => ?_)
 ·repeat' ((conv => whnf); first | (refine dec (fun h => ?_) (fun h => ?_) <;> try contradiction) | (refine decN (fun h => ?_) (fun h => ?_) <;> try contradiction) | refine booN (fun h => ?_) (fun h => ?_) | refine boo (fun h => ?_) (fun h => ?_) | refine ⟨i64 (by omega) (by omega), ?_⟩ | refine ⟨_, _, rfl, List.getElem?_eq_getElem (by omega), ?_⟩ | refine ⟨_, ⟨rfl, by omega⟩, ?_⟩ | refine ⟨_, List.getElem?_eq_getElem (by omega), ?_⟩ | refine rtB ?_ | refine rtI ?_ | refine rtC ?_ rfl | fail)
  ·unfold treeC; rw [if_pos (by omega)]
  ·all_goals first | (refine ⟨(), by first | trivial | omega, [], [.same 0], ?_⟩; repeat' first | exact trivial | exact rfl | refine And.intro ?_ ?_) | skip
 have ht : treeC o.entries = entsF none o.entries := by unfold treeC; rw [if_neg (by omega)]
 rw [ht]
 refine XM.seq ?_
 (conv => whnf)
 refine lp Nat (fun i => ⟨[(1, .c (.ptr 0 0)), (6, .c (.int .i64 i))], [.box (bOb o)]⟩) (fun i => i ≤ o.entries.length ∧ entsF none o.entries = entsF (prevN o.entries i) (o.entries.drop i)) (fun i => o.entries.length - i) 0 [] [.same 0] ?_ ?_ (fun i hi => ?_)
 ·simp [prevN]
 ·repeat' first | exact trivial | exact rfl | refine And.intro ?_ ?_
 (conv => whnf)
 refine dec (fun h4 => ?_) (fun h4 => ?_)
 ·have hlt : i < o.entries.length := by omega
  have hat := entsF_at hlt hi.2
  have leaf : ∀ {c : Int}, entF (prevN o.entries i) o.entries[i] = c → c ≠ 0 → c = entsF none o.entries := fun h1 h2 => by rw [hat, h1, if_neg h2]
  repeat' ((conv => whnf); first | (refine dec (fun h => ?_) (fun h => ?_) <;> try contradiction) | (refine decN (fun h => ?_) (fun h => ?_) <;> try contradiction) | refine booN (fun h => ?_) (fun h => ?_) | refine boo (fun h => ?_) (fun h => ?_) | refine ⟨i64 (by omega) (by omega), ?_⟩ | refine ⟨_, _, rfl, List.getElem?_eq_getElem (by omega), ?_⟩ | refine ⟨_, ⟨rfl, by omega⟩, ?_⟩ | refine ⟨_, List.getElem?_eq_getElem (by omega), ?_⟩ | refine rtB ?_ | refine rtI ?_ | refine rtC ?_ rfl | fail)
  (conv => whnf)
  refine cl [] [] (nameF_spec o.entries[i].name) ?_
  repeat' ((conv => whnf); first | (refine dec (fun h => ?_) (fun h => ?_) <;> try contradiction) | (refine decN (fun h => ?_) (fun h => ?_) <;> try contradiction) | refine booN (fun h => ?_) (fun h => ?_) | refine boo (fun h => ?_) (fun h => ?_) | refine ⟨i64 (by omega) (by omega), ?_⟩ | refine ⟨_, _, rfl, List.getElem?_eq_getElem (by omega), ?_⟩ | refine ⟨_, ⟨rfl, by omega⟩, ?_⟩ | refine ⟨_, List.getElem?_eq_getElem (by omega), ?_⟩ | refine rtB ?_ | refine rtI ?_ | refine rtC ?_ rfl | fail)
  all_goals first | (refine leaf ?_ ?_ <;> simp [entF, *]; done) | skip
  all_goals
   (conv => whnf)
   refine ⟨false, .grow, (.l [0, 1, 2, 3, 4, 5, 6, 7, 8, 9, 10, 11, 12, 13, 14]), by kernel_rfl, .inl ?_⟩
   repeat' ((conv => whnf); first | (refine dec (fun h => ?_) (fun h => ?_) <;> try contradiction) | (refine decN (fun h => ?_) (fun h => ?_) <;> try contradiction) | refine booN (fun h => ?_) (fun h => ?_) | refine boo (fun h => ?_) (fun h => ?_) | refine ⟨i64 (by omega) (by omega), ?_⟩ | refine ⟨_, _, rfl, List.getElem?_eq_getElem (by omega), ?_⟩ | refine ⟨_, ⟨rfl, by omega⟩, ?_⟩ | refine ⟨_, List.getElem?_eq_getElem (by omega), ?_⟩ | refine rtB ?_ | refine rtI ?_ | refine rtC ?_ rfl | fail)
   ·(conv => whnf)
    refine ⟨i - 1, o.entries[i - 1], by omega, List.getElem?_eq_getElem (by omega), ?_⟩
    have hp := prevN_pos (l := o.entries) (i := i) (by omega) hlt
    repeat' ((conv => whnf); first | (refine dec (fun h => ?_) (fun h => ?_) <;> try contradiction) | (refine decN (fun h => ?_) (fun h => ?_) <;> try contradiction) | refine booN (fun h => ?_) (fun h => ?_) | refine boo (fun h => ?_) (fun h => ?_) | refine ⟨i64 (by omega) (by omega), ?_⟩ | refine ⟨_, _, rfl, List.getElem?_eq_getElem (by omega), ?_⟩ | refine ⟨_, ⟨rfl, by omega⟩, ?_⟩ | refine ⟨_, List.getElem?_eq_getElem (by omega), ?_⟩ | refine rtB ?_ | refine rtI ?_ | refine rtC ?_ rfl | fail)
    ·refine leaf ?_ (by decide); clear hj hb he hat leaf; unfold entF; rw [hp]; dsimp only; (repeat' split) <;> first | rfl | contradiction | (exfalso; omega) | (simp_all; done)
    ·refine ag (i + 1) [] [.same 0] ⟨hlt, ?_⟩ (by simp only []; omega) ?_
     ·rw [hat, if_pos]; clear hj hb he hat leaf; unfold entF; rw [hp]; dsimp only; (repeat' split) <;> first | rfl | contradiction | (exfalso; omega) | (simp_all; done)
     repeat' first | exact trivial | exact rfl | refine And.intro ?_ ?_
   ·have hp : prevN o.entries i = none := by
     obtain rfl : i = 0 := by omega
     rfl
    repeat' ((conv => whnf); refine I6 ?_)
    refine ag (i + 1) [] [.same 0] ⟨hlt, ?_⟩ (by simp only []; omega) ?_
    ·rw [hat, if_pos]; clear hj hb he hat leaf; unfold entF; rw [hp]; dsimp only; (repeat' split) <;> first | rfl | contradiction | (exfalso; omega) | (simp_all; done)
    repeat' first | exact trivial | exact rfl | refine And.intro ?_ ?_
 ·(conv => whnf)
  refine XM.of ?_
  repeat' ((conv => whnf); first | (refine dec (fun h => ?_) (fun h => ?_) <;> try contradiction) | (refine decN (fun h => ?_) (fun h => ?_) <;> try contradiction) | refine booN (fun h => ?_) (fun h => ?_) | refine boo (fun h => ?_) (fun h => ?_) | refine ⟨i64 (by omega) (by omega), ?_⟩ | refine ⟨_, _, rfl, List.getElem?_eq_getElem (by omega), ?_⟩ | refine ⟨_, ⟨rfl, by omega⟩, ?_⟩ | refine ⟨_, List.getElem?_eq_getElem (by omega), ?_⟩ | refine rtB ?_ | refine rtI ?_ | refine rtC ?_ rfl | fail)
  have := hi.2
  rw [List.drop_of_length_le (by omega)] at this
  rw [this]; rfl
end Go.Nest
end
/- part -/
section

namespace Go.Nest
open Go Go.AM Go.Proofs
open Go.Proofs.YtpmjnbidmcnhnaaGreatDoor (tab tabOk)
set_option maxRecDepth 4000
def ob0 : Ob := ⟨0, [], [], 0, [], []⟩
def kindOf (l : List Ob) (id : Int) : Int := if id < 0 then 0 else ((l[id.toNat]?).map (·.kind)).getD 0
theorem kindOf_neg {l : List Ob} {id : Int} (h : id < 0) : (0 : Int) = kindOf l id := by simp [kindOf, h]
theorem kindOf_ge {l : List Ob} {id : Int} (h : (l.length : Int) ≤ id) : (0 : Int) = kindOf l id := by
 unfold kindOf; split
 ·rfl
 ·rw [List.getElem?_eq_none (by omega)]; rfl
theorem kindOf_at {l : List Ob} {id : Int} (h : ¬ id < 0) (h2 : id.toNat < l.length) : l[id.toNat].kind = kindOf l id := by
 unfold kindOf; rw [if_neg h, List.getElem?_eq_getElem h2]; rfl
theorem kind_spec (l : List Ob) (id : Int) : Does Tryz.prog 61 [.c (.bp [.bs 6 Ob encOb l]), .c (.int .i64 id)] [] (Rt (.c (.int .i64 (kindOf l id))) []) := by
 refine X_spec (n := 24) (n0 := 0) tabOk Tryz.call61 Tryz.func61 ?_
 intro hb
 repeat' ((conv => whnf); first | (refine dec (fun h => ?_) (fun h => ?_) <;> try contradiction) | (refine decN (fun h => ?_) (fun h => ?_) <;> try contradiction) | refine booN (fun h => ?_) (fun h => ?_) | refine boo (fun h => ?_) (fun h => ?_) | refine ⟨i64 (by omega) (by omega), ?_⟩ | refine ⟨_, _, rfl, List.getElem?_eq_getElem (by omega), ?_⟩ | refine ⟨_, ⟨rfl, by omega⟩, ?_⟩ | refine ⟨_, List.getElem?_eq_getElem (by omega), ?_⟩ | refine rtB ?_ | refine rtI ?_ | refine rtC ?_ rfl | fail)
 ·exact kindOf_neg h
 ·exact kindOf_ge h
 ·(conv => whnf)
  have hlt : id.toNat < l.length := by omega
  refine ⟨id.toNat, l[id.toNat], by omega, List.getElem?_eq_getElem hlt, ?_⟩
  repeat' ((conv => whnf); first | (refine dec (fun h => ?_) (fun h => ?_) <;> try contradiction) | (refine decN (fun h => ?_) (fun h => ?_) <;> try contradiction) | refine booN (fun h => ?_) (fun h => ?_) | refine boo (fun h => ?_) (fun h => ?_) | refine ⟨i64 (by omega) (by omega), ?_⟩ | refine ⟨_, _, rfl, List.getElem?_eq_getElem (by omega), ?_⟩ | refine ⟨_, ⟨rfl, by omega⟩, ?_⟩ | refine ⟨_, List.getElem?_eq_getElem (by omega), ?_⟩ | refine rtB ?_ | refine rtI ?_ | refine rtC ?_ rfl | fail)
  exact kindOf_at (by assumption) hlt
theorem kindR_spec (l : List Ob) (id : Int) : Does Tryz.prog 97 [.c (.bp [.bs 6 Ob encOb l]), .c (.int .i64 id)] [] (Rt (.c (.int .i64 (kindOf l id))) []) := by
 refine X_spec (n := 24) (n0 := 0) tabOk Tryz.call97 Tryz.func97 ?_
 intro hb
 repeat' ((conv => whnf); first | (refine dec (fun h => ?_) (fun h => ?_) <;> try contradiction) | (refine decN (fun h => ?_) (fun h => ?_) <;> try contradiction) | refine booN (fun h => ?_) (fun h => ?_) | refine boo (fun h => ?_) (fun h => ?_) | refine ⟨i64 (by omega) (by omega), ?_⟩ | refine ⟨_, _, rfl, List.getElem?_eq_getElem (by omega), ?_⟩ | refine ⟨_, ⟨rfl, by omega⟩, ?_⟩ | refine ⟨_, List.getElem?_eq_getElem (by omega), ?_⟩ | refine rtB ?_ | refine rtI ?_ | refine rtC ?_ rfl | fail)
 ·exact kindOf_neg h
 ·exact kindOf_ge h
 ·(conv => whnf)
  have hlt : id.toNat < l.length := by omega
  refine ⟨id.toNat, l[id.toNat], by omega, List.getElem?_eq_getElem hlt, ?_⟩
  repeat' ((conv => whnf); first | (refine dec (fun h => ?_) (fun h => ?_) <;> try contradiction) | (refine decN (fun h => ?_) (fun h => ?_) <;> try contradiction) | refine booN (fun h => ?_) (fun h => ?_) | refine boo (fun h => ?_) (fun h => ?_) | refine ⟨i64 (by omega) (by omega), ?_⟩ | refine ⟨_, _, rfl, List.getElem?_eq_getElem (by omega), ?_⟩ | refine ⟨_, ⟨rfl, by omega⟩, ?_⟩ | refine ⟨_, List.getElem?_eq_getElem (by omega), ?_⟩ | refine rtB ?_ | refine rtI ?_ | refine rtC ?_ rfl | fail)
  exact kindOf_at (by assumption) hlt
theorem len_spec (l : List Ob) : Does Tryz.prog 44 [.c (.bp [.bs 6 Ob encOb l])] [] (Rt (.c (.int .i64 l.length)) []) := by
 refine X_spec (n := 8) (n0 := 0) tabOk Tryz.call44 Tryz.func44 ?_
 intro hb
 repeat' ((conv => whnf); first | (refine dec (fun h => ?_) (fun h => ?_) <;> try contradiction) | (refine decN (fun h => ?_) (fun h => ?_) <;> try contradiction) | refine booN (fun h => ?_) (fun h => ?_) | refine boo (fun h => ?_) (fun h => ?_) | refine ⟨i64 (by omega) (by omega), ?_⟩ | refine ⟨_, _, rfl, List.getElem?_eq_getElem (by omega), ?_⟩ | refine ⟨_, ⟨rfl, by omega⟩, ?_⟩ | refine ⟨_, List.getElem?_eq_getElem (by omega), ?_⟩ | refine rtB ?_ | refine rtI ?_ | refine rtC ?_ rfl | fail)
 rfl
def leadsP (l : List Ob) (o : Ob) : Bool := (o.entries.all fun e => decide (kindOf l e.id = e.mode)) && ((o.parents.all fun k => decide (kindOf l k = 3)) && (!decide (o.kind = 3) || decide (kindOf l o.tree = 2)))
theorem all_take {α : Type} {p : α → Bool} {l : List α} {i : Nat} (h : i < l.length) (h1 : (l.take i).all p = true) (h2 : p l[i] = true) : (l.take (i + 1)).all p = true := by
 rw [List.take_succ_eq_append_getElem h, List.all_append, h1]; simp [h2]
theorem all_not {α : Type} {p : α → Bool} {l : List α} {i : Nat} (h : i < l.length) (h2 : ¬ p l[i] = true) : l.all p = false := by
 rw [Bool.eq_false_iff, Ne, List.all_eq_true]; exact fun h3 => h2 (h3 _ (List.getElem_mem h))
theorem tab4 {m : Int} (h : 1 ≤ m ∧ m ≤ 3) : ([0, 1, 2, 3] : List Int)[m.toNat]? = some m := by
 have : m = 1 ∨ m = 2 ∨ m = 3 := by omega
 rcases this with rfl | rfl | rfl <;> rfl
theorem leads_spec (l : List Ob) (o : Ob) (ho : ∀ e ∈ o.entries, 1 ≤ e.mode ∧ e.mode ≤ 3) : Does Tryz.prog 92 [.c (.bp [.bs 6 Ob encOb l]), .st (bOb o)] [] (Rt (.c (.bool (leadsP l o))) []) := by
 refine X_spM (n := 49) (n0 := 0) tabOk Tryz.call92 Tryz.func92 ?_
 intro hb
 have hb1 : o.entries.length ≤ 9223372036854775807 := hb.1.2.1.2.2.1
 have hb2 : o.parents.length ≤ 9223372036854775807 := hb.1.2.1.2.2.2.2.1
 refine XM.seq ?_
 repeat' ((conv => whnf); refine I6 ?_)
 refine XM.join (ι := Unit) (fun _ => ⟨[(0, .c (.bp [.bs 6 Ob encOb l])), (3, .c (.ptr 0 0))], [.box (bOb o)]⟩) (fun _ => (o.entries.all fun e => decide (kindOf l e.id = e.mode)) = true) ?_ (fun _ h1 => ?_)
 ·(conv => whnf)
  refine lp Nat (fun i => ⟨[(0, .c (.bp [.bs 6 Ob encOb l])), (3, .c (.ptr 0 0)), (10, .c (.bs 4 Ent encEn o.entries)), (11, .c (.int .i64 o.entries.length)), (12, .c (.int .i64 i))], [.box (bOb o)]⟩) (fun i => i ≤ o.entries.length ∧ (o.entries.take i).all (fun e => decide (kindOf l e.id = e.mode)) = true) (fun i => o.entries.length - i) 0 [] [.same 0] ?_ ?_ (fun i hi => ?_)
  ·simp
  ·repeat' first | exact trivial | exact rfl | refine And.intro ?_ ?_
  (conv => whnf)
  refine dec (fun h4 => ?_) (fun h4 => ?_)
  ·have hlt : i < o.entries.length := by omega
   have hm := ho _ (List.getElem_mem hlt)
   repeat' ((conv => whnf); first | (refine dec (fun h => ?_) (fun h => ?_) <;> try contradiction) | (refine decN (fun h => ?_) (fun h => ?_) <;> try contradiction) | refine booN (fun h => ?_) (fun h => ?_) | refine boo (fun h => ?_) (fun h => ?_) | refine ⟨i64 (by omega) (by omega), ?_⟩ | refine ⟨_, _, rfl, List.getElem?_eq_getElem (by omega), ?_⟩ | refine ⟨_, ⟨rfl, by omega⟩, ?_⟩ | refine ⟨_, List.getElem?_eq_getElem (by omega), ?_⟩ | refine rtB ?_ | refine rtI ?_ | refine rtC ?_ rfl | fail)
   (conv => whnf)
   refine ⟨false, .grow, (.alt [0, 1, 2, 5, 6] [3, 4] fun j => bif Nat.beq j 3 then (.l [4, 7, 8, 9]) else bif Nat.beq j 4 then (.l [7, 8, 3, 9]) else .l []), by kernel_rfl, .inl ?_⟩
   (conv => whnf)
   refine ⟨?_, ?_⟩
   ·(conv => whnf)
    refine cl [] [] (kind_spec l o.entries[i].id) ?_
    repeat' ((conv => whnf); refine I6 ?_)
    (conv => whnf)
    refine ⟨[0, 1, 2, 3], rfl, ?_⟩
    (conv => whnf)
    refine ⟨o.entries[i].mode.toNat, ⟨by omega, by simp only [List.length_cons, List.length_nil]; omega⟩, ?_⟩
    (conv => whnf)
    refine ⟨_, tab4 hm, ?_⟩
    repeat' ((conv => whnf); first | (refine dec (fun h => ?_) (fun h => ?_) <;> try contradiction) | (refine decN (fun h => ?_) (fun h => ?_) <;> try contradiction) | refine booN (fun h => ?_) (fun h => ?_) | refine boo (fun h => ?_) (fun h => ?_) | refine ⟨i64 (by omega) (by omega), ?_⟩ | refine ⟨_, _, rfl, List.getElem?_eq_getElem (by omega), ?_⟩ | refine ⟨_, ⟨rfl, by omega⟩, ?_⟩ | refine ⟨_, List.getElem?_eq_getElem (by omega), ?_⟩ | refine rtB ?_ | refine rtI ?_ | refine rtC ?_ rfl | fail)
    ·unfold leadsP; rw [all_not (l := o.entries) hlt (by simpa using h)]; simp
    ·refine ag (i + 1) [] [.same 0] ⟨hlt, all_take hlt hi.2 (by simpa using h)⟩ (by simp only []; omega) ?_
     repeat' first | exact trivial | exact rfl | refine And.intro ?_ ?_
   ·(conv => whnf)
    refine ⟨[0, 1, 2, 3], rfl, ?_⟩
    (conv => whnf)
    refine ⟨o.entries[i].mode.toNat, ⟨by omega, by simp only [List.length_cons, List.length_nil]; omega⟩, ?_⟩
    (conv => whnf)
    refine ⟨_, tab4 hm, ?_⟩
    (conv => whnf)
    refine cl [] [] (kind_spec l o.entries[i].id) ?_
    repeat' ((conv => whnf); first | (refine dec (fun h => ?_) (fun h => ?_) <;> try contradiction) | (refine decN (fun h => ?_) (fun h => ?_) <;> try contradiction) | refine booN (fun h => ?_) (fun h => ?_) | refine boo (fun h => ?_) (fun h => ?_) | refine ⟨i64 (by omega) (by omega), ?_⟩ | refine ⟨_, _, rfl, List.getElem?_eq_getElem (by omega), ?_⟩ | refine ⟨_, ⟨rfl, by omega⟩, ?_⟩ | refine ⟨_, List.getElem?_eq_getElem (by omega), ?_⟩ | refine rtB ?_ | refine rtI ?_ | refine rtC ?_ rfl | fail)
    ·unfold leadsP; rw [all_not (l := o.entries) hlt (by simpa using h)]; simp
    ·refine ag (i + 1) [] [.same 0] ⟨hlt, all_take hlt hi.2 (by simpa using h)⟩ (by simp only []; omega) ?_
     repeat' first | exact trivial | exact rfl | refine And.intro ?_ ?_
  ·have := hi.2
   rw [List.take_of_length_le (by omega)] at this
   (conv => whnf)
   refine ⟨(), this, [], [.same 0], ?_⟩
   repeat' first | exact trivial | exact rfl | refine And.intro ?_ ?_
 refine XM.join (ι := Unit) (fun _ => ⟨[(0, .c (.bp [.bs 6 Ob encOb l])), (3, .c (.ptr 0 0))], [.box (bOb o)]⟩) (fun _ => (o.parents.all fun k => decide (kindOf l k = 3)) = true) ?_ (fun _ h2 => ?_)
 ·(conv => whnf)
  refine lp Nat (fun i => ⟨[(0, .c (.bp [.bs 6 Ob encOb l])), (3, .c (.ptr 0 0)), (28, .c (.bs 1 Int encI o.parents)), (29, .c (.int .i64 o.parents.length)), (30, .c (.int .i64 i))], [.box (bOb o)]⟩) (fun i => i ≤ o.parents.length ∧ (o.parents.take i).all (fun k => decide (kindOf l k = 3)) = true) (fun i => o.parents.length - i) 0 [] [.same 0] ?_ ?_ (fun i hi => ?_)
  ·simp
  ·repeat' first | exact trivial | exact rfl | refine And.intro ?_ ?_
  (conv => whnf)
  refine dec (fun h4 => ?_) (fun h4 => ?_)
  ·have hlt : i < o.parents.length := by omega
   repeat' ((conv => whnf); first | (refine dec (fun h => ?_) (fun h => ?_) <;> try contradiction) | (refine decN (fun h => ?_) (fun h => ?_) <;> try contradiction) | refine booN (fun h => ?_) (fun h => ?_) | refine boo (fun h => ?_) (fun h => ?_) | refine ⟨i64 (by omega) (by omega), ?_⟩ | refine ⟨_, _, rfl, List.getElem?_eq_getElem (by omega), ?_⟩ | refine ⟨_, ⟨rfl, by omega⟩, ?_⟩ | refine ⟨_, List.getElem?_eq_getElem (by omega), ?_⟩ | refine rtB ?_ | refine rtI ?_ | refine rtC ?_ rfl | fail)
   (conv => whnf)
   refine cl [] [] (kind_spec l o.parents[i]) ?_
   repeat' ((conv => whnf); first | (refine dec (fun h => ?_) (fun h => ?_) <;> try contradiction) | (refine decN (fun h => ?_) (fun h => ?_) <;> try contradiction) | refine booN (fun h => ?_) (fun h => ?_) | refine boo (fun h => ?_) (fun h => ?_) | refine ⟨i64 (by omega) (by omega), ?_⟩ | refine ⟨_, _, rfl, List.getElem?_eq_getElem (by omega), ?_⟩ | refine ⟨_, ⟨rfl, by omega⟩, ?_⟩ | refine ⟨_, List.getElem?_eq_getElem (by omega), ?_⟩ | refine rtB ?_ | refine rtI ?_ | refine rtC ?_ rfl | fail)
   ·unfold leadsP; rw [all_not (l := o.parents) hlt (by simpa using h)]; simp
   ·refine ag (i + 1) [] [.same 0] ⟨hlt, all_take hlt hi.2 (by simpa using h)⟩ (by simp only []; omega) ?_
    repeat' first | exact trivial | exact rfl | refine And.intro ?_ ?_
  ·have := hi.2
   rw [List.take_of_length_le (by omega)] at this
   (conv => whnf)
   refine ⟨(), this, [], [.same 0], ?_⟩
   repeat' first | exact trivial | exact rfl | refine And.intro ?_ ?_
 refine XM.of ?_
 have hl : leadsP l o = (!decide (o.kind = 3) || decide (kindOf l o.tree = 2)) := by unfold leadsP; rw [h1, h2]; rfl
 rw [hl]
 repeat' ((conv => whnf); first | (refine dec (fun h => ?_) (fun h => ?_) <;> try contradiction) | (refine decN (fun h => ?_) (fun h => ?_) <;> try contradiction) | refine booN (fun h => ?_) (fun h => ?_) | refine boo (fun h => ?_) (fun h => ?_) | refine ⟨i64 (by omega) (by omega), ?_⟩ | refine ⟨_, _, rfl, List.getElem?_eq_getElem (by omega), ?_⟩ | refine ⟨_, ⟨rfl, by omega⟩, ?_⟩ | refine ⟨_, List.getElem?_eq_getElem (by omega), ?_⟩ | refine rtB ?_ | refine rtI ?_ | refine rtC ?_ rfl | fail)
 ·simp [h]
 ·(conv => whnf)
  refine cl [] [] (kind_spec l o.tree) ?_
  repeat' ((conv => whnf); first | (refine dec (fun h => ?_) (fun h => ?_) <;> try contradiction) | (refine decN (fun h => ?_) (fun h => ?_) <;> try contradiction) | refine booN (fun h => ?_) (fun h => ?_) | refine boo (fun h => ?_) (fun h => ?_) | refine ⟨i64 (by omega) (by omega), ?_⟩ | refine ⟨_, _, rfl, List.getElem?_eq_getElem (by omega), ?_⟩ | refine ⟨_, ⟨rfl, by omega⟩, ?_⟩ | refine ⟨_, List.getElem?_eq_getElem (by omega), ?_⟩ | refine rtB ?_ | refine rtI ?_ | refine rtC ?_ rfl | fail)
  simp [h]
end Go.Nest
end
