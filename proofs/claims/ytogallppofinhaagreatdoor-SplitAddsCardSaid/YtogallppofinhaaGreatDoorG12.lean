/- WALKS, 10: of pools: Reach. -/
import Derived.Test.YtogallppofinhaaGreatDoorG9
import Derived.Test.YtogallppofinhaaGreatDoorP3
section
namespace Go.Nest
open Go Go.AM Go.Proofs
open Go.Proofs.YtogallppofinhaaGreatDoor (tab tabOk)
set_option linter.unusedVariables false
set_option linter.unusedSimpArgs false
set_option maxRecDepth 4000
/-- where it stands -/
structure Dfs (l : List Ob) (ids : List Int) (vis : List Bool) (todo : List Int) : Prop where
  len : vis.length = l.length
  sound : ∀ k, Mk vis k → Led l ids k
  td : ∀ k ∈ todo, ¬ kindOf l k = 0 → Led l ids k
  base : ∀ k ∈ ids, ¬ kindOf l k = 0 → k ∈ todo ∨ Mk vis k
  clos : ∀ j, Mk vis j → ∀ k ∈ nextP l j, k ∈ todo ∨ Mk vis k
  size : todo.length ≤ ids.length + 64 * vis.count true

def cutT (todo : List Int) : List Int := (todo.drop 0).take (todo.length - 1 - 0)
theorem todo_last {todo : List Int} (h : 0 < todo.length) : todo = cutT todo ++ [todo[todo.length - 1]'(by omega)] := by
  unfold cutT
  rw [List.drop_zero, Nat.sub_zero]
  have := List.take_succ_eq_append_getElem (l := todo) (i := todo.length - 1) (by omega)
  rw [← this, Nat.sub_add_cancel (by omega), List.take_length]
theorem cutT_len {todo : List Int} : (cutT todo).length = todo.length - 1 := by unfold cutT; simp

theorem Dfs.skip {l : List Ob} (hl : PoolOk l) {ids : List Int} {vis : List Bool} {todo : List Int} (h : Dfs l ids vis todo) (ht : 0 < todo.length) {id : Int} (hid : id = todo[todo.length - 1]'(by omega)) (hk : kindOf l id = 0 ∨ Mk vis id) :
    Dfs l ids vis (cutT todo) := by
  have e := todo_last ht
  rw [← hid] at e
  refine ⟨h.len, h.sound, fun k hk1 => h.td k (by rw [e]; exact List.mem_append_left _ hk1), fun k h1 h2 => ?_, fun j hj k h1 => ?_, ?_⟩
  · rcases h.base k h1 h2 with h3 | h3
    · rw [e, List.mem_append, List.mem_singleton] at h3
      rcases h3 with h3 | h3
      · exact .inl h3
      · subst h3; exact .inr (hk.resolve_left h2)
    · exact .inr h3
  · rcases h.clos j hj k h1 with h3 | h3
    · rw [e, List.mem_append, List.mem_singleton] at h3
      rcases h3 with h3 | h3
      · exact .inl h3
      · subst h3; exact .inr (hk.resolve_left (next_lt hl h1).1)
    · exact .inr h3
  · have := h.size; rw [cutT_len]; omega

theorem Dfs.start {l : List Ob} {ids : List Int} : Dfs l ids (List.replicate l.length false) ids :=
  ⟨by simp, fun k h => (not_Mk_rep h).elim, fun k h1 h2 => .base h1 h2, fun k h1 _ => .inl h1, fun j h => (not_Mk_rep h).elim, by omega⟩
theorem Dfs.stop {l : List Ob} {ids : List Int} {vis : List Bool} {todo : List Int} (h : Dfs l ids vis todo) (ht : todo.length = 0) : vis.length = l.length ∧ ∀ k, Mk vis k ↔ Led l ids k := by
  have : todo = [] := List.eq_nil_of_length_eq_zero ht
  subst this
  exact ⟨h.len, fun k => ⟨h.sound k, Led.of_closed (fun k h1 h2 => (h.base k h1 h2).resolve_left (by simp)) (fun j hj k h1 => (h.clos j hj k h1).resolve_left (by simp))⟩⟩

end Go.Nest
end
/- WALKS, 11: of pools, by the document: Reach. -/
section
namespace Go.Nest
open Go Go.AM Go.Proofs
open Go.Proofs.YtogallppofinhaaGreatDoor (tab tabOk)
set_option linter.unusedVariables false
set_option linter.unusedSimpArgs false
set_option maxRecDepth 4000
/-- all above k is closed -/
structure Swp (l : List Ob) (ids : List Int) (vis : List Bool) (k : Int) : Prop where
  len : vis.length = l.length
  sound : ∀ j, Mk vis j → Led l ids j
  base : ∀ j ∈ ids, ¬ kindOf l j = 0 → Mk vis j
  clos : ∀ j, k < j → Mk vis j → ∀ m ∈ nextP l j, Mk vis m

theorem mk_set {l : List Ob} {vis : List Bool} (hv : vis.length = l.length) {id : Int} (h : ¬ kindOf l id = 0) {k : Int} : Mk (vis.set id.toNat true) k ↔ Mk vis k ∨ k = id := by
  obtain ⟨h0, hlt⟩ := kindOf_pos h
  rw [Mk.set (by rw [hv]; exact hlt), show ((id.toNat : Nat) : Int) = id by omega]

end Go.Nest
end
/- WALKS, 12: of the law: great objects, a pool begun, pools. -/
section
namespace Go.Nest
open Go Go.AM Go.Proofs
open Go.Proofs.YtogallppofinhaaGreatDoor (tab tabOk)
set_option linter.unusedVariables false
set_option linter.unusedSimpArgs false
set_option maxRecDepth 4000
def o1 : Ob := ⟨1, [120], [], 0, [], []⟩
def o2 : Ob := ⟨2, [], [⟨[102], 1, 0, 0⟩], 0, [], []⟩
end Go.Nest
end
