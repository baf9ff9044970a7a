/- PLAIN LAWS, W1: ancestors. -/
import Derived.Test.YtogallppofinhaaGreatDoorP3
import Derived.Test.YtogallppofinhaaGreatDoorL1
namespace Go.Nest
open Go Go.AM
set_option linter.unusedVariables false
set_option linter.unusedSimpArgs false

def hasI (l : List Int) (k : Int) : Bool := l.any fun x => decide (x = k)
theorem hasI_iff {l : List Int} {k : Int} : hasI l k = true ↔ k ∈ l := by
  unfold hasI
  rw [List.any_eq_true]
  constructor
  · rintro ⟨x, hx, e⟩; have e : x = k := by simpa using e
    rw [← e]; exact hx
  · intro h; exact ⟨k, h, by simp⟩
inductive Anc (L : List Ob) : Int → Int → Prop
  | refl (id : Int) : Anc L id id
  | step {id j k : Int} (h : j ∈ (getP L id).parents) (h2 : Anc L j k) : Anc L id k
def isA : Nat → List Ob → Int → Int → Bool
  | 0, _, _, _ => false
  | n + 1, L, id, k => decide (k = id) || (getP L id).parents.any fun p => isA n L p k
theorem Anc.next {L : List Ob} {id j k : Int} (h : Anc L id j) (hk : k ∈ (getP L j).parents) : Anc L id k := by
  induction h with
  | refl id => exact .step hk (.refl k)
  | step h _ ih => exact .step h (ih hk)
theorem par_next {L : List Ob} {j k : Int} (h : k ∈ (getP L j).parents) : k ∈ nextP L j := by
  unfold nextP
  rw [List.mem_append, List.mem_append]
  exact .inr (.inr h)
theorem par_lt {L : List Ob} (hp : PoolOk L) {j k : Int} (h : k ∈ (getP L j).parents) : 0 ≤ k ∧ k < j ∧ k.toNat < L.length := by
  obtain ⟨h1, h2⟩ := next_lt hp (par_next h)
  obtain ⟨h3, h4⟩ := kindOf_pos h1
  exact ⟨by omega, h2, h4⟩
theorem par_kind {L : List Ob} (hp : PoolOk L) {j k : Int} (hj : kindOf L j = 3) (h : k ∈ (getP L j).parents) : kindOf L k = 3 := by
  obtain ⟨h1, h2⟩ := kindOf_pos (l := L) (id := j) (by omega)
  have := (hp.obj (getP L j) (by rw [getP_at h1 h2]; exact List.getElem_mem _)).2
  unfold leadsP at this
  rw [Bool.and_eq_true, Bool.and_eq_true, List.all_eq_true, List.all_eq_true] at this
  simpa using this.2.1 k h
theorem Anc.kind {L : List Ob} (hp : PoolOk L) {id k : Int} (h : Anc L id k) (hi : kindOf L id = 3) : kindOf L k = 3 := by
  induction h with
  | refl => exact hi
  | step h _ ih => exact ih (par_kind hp hi h)
theorem Anc.le {L : List Ob} (hp : PoolOk L) {id k : Int} (h : Anc L id k) : k ≤ id := by
  induction h with
  | refl => exact Int.le_refl _
  | step h _ ih => have := (par_lt hp h).2.1; omega
theorem isA_iff {L : List Ob} (hp : PoolOk L) : ∀ (n : Nat) (id k : Int), id.toNat < n → (isA n L id k = true ↔ Anc L id k)
  | 0, _, _, h => absurd h (by omega)
  | n + 1, id, k, h => by
    unfold isA
    rw [Bool.or_eq_true, decide_eq_true_iff, List.any_eq_true]
    constructor
    · rintro (rfl | ⟨p, h1, h2⟩)
      · exact .refl _
      · obtain ⟨a1, a2, _⟩ := par_lt hp h1
        exact .step h1 ((isA_iff hp n p k (by omega)).1 h2)
    · intro hA
      cases hA with
      | refl => exact .inl rfl
      | step h1 h2 =>
        obtain ⟨a1, a2, _⟩ := par_lt hp h1
        exact .inr ⟨_, h1, (isA_iff hp n _ k (by omega)).2 h2⟩
def ancL (L : List Ob) (id : Int) : List Int := ((List.range L.length).filter fun k : Nat => isA (id.toNat + 1) L id (k : Int)).map fun k : Nat => (k : Int)
theorem mem_anc {L : List Ob} (hp : PoolOk L) {id k : Int} (hi : kindOf L id = 3) : k ∈ ancL L id ↔ Anc L id k := by
  unfold ancL
  rw [List.mem_map]
  constructor
  · rintro ⟨n, h1, rfl⟩
    rw [List.mem_filter] at h1
    exact (isA_iff hp _ id n (Nat.lt_succ_self _)).1 h1.2
  · intro h
    have hk := h.kind hp hi
    obtain ⟨h1, h2⟩ := kindOf_pos (l := L) (id := k) (by omega)
    refine ⟨k.toNat, List.mem_filter.2 ⟨by rw [List.mem_range]; exact h2, ?_⟩, by omega⟩
    rw [show ((k.toNat : Nat) : Int) = k by omega]
    exact (isA_iff hp _ id k (Nat.lt_succ_self _)).2 h
theorem anc_rise {L : List Ob} {id : Int} : (ancL L id).Pairwise (· < ·) := by
  unfold ancL
  rw [List.pairwise_map]
  exact ((List.pairwise_lt_range (n := L.length)).filter _).imp (fun h => by omega)
theorem anc_len {L : List Ob} {id : Int} : (ancL L id).length ≤ L.length := by
  unfold ancL
  rw [List.length_map]
  exact Nat.le_trans (List.length_filter_le _ _) (by simp)
theorem sort_anc {L : List Ob} (hp : PoolOk L) {id : Int} (hi : kindOf L id = 3) {out : List Int} (hn : out.Nodup) (hm : ∀ k, k ∈ out ↔ Anc L id k) : (out.mergeSort fun x y => decide (x ≤ y)) = ancL L id := by
  have hperm := List.mergeSort_perm out fun x y => decide (x ≤ y)
  have hs := List.pairwise_mergeSort (le := fun x y : Int => decide (x ≤ y)) (fun a b c h1 h2 => by simp at *; omega) (fun a b => by simp; omega) out
  refine rise_uniq ?_ anc_rise fun x => by rw [hperm.mem_iff, hm, mem_anc hp hi]
  have hnd : (out.mergeSort fun x y => decide (x ≤ y)).Nodup := hperm.nodup_iff.2 hn
  refine (hs.and hnd).imp fun {x y} ⟨h1, h2⟩ => ?_
  have : x ≤ y := by simpa using h1
  omega
def ancP (L : List Ob) (id : Int) : List Int × Int := if kindOf L id = 3 then (ancL L id, 0) else ([], 9)
end Go.Nest
