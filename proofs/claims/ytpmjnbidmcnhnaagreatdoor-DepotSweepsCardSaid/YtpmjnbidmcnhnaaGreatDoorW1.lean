/- part -/
import Derived.Test.YtpmjnbidmcnhnaaGreatDoorP3
import Derived.Test.YtpmjnbidmcnhnaaGreatDoorL1
set_option linter.unusedVariables false
set_option linter.unusedSimpArgs false

namespace Go.Nest
open Go Go.AM
def hasI (l : List Int) (k : Int) : Bool := l.any fun x => decide (x = k)
theorem hasI_iff {l : List Int} {k : Int} : hasI l k = true ↔ k ∈ l := by
 unfold hasI
 rw [List.any_eq_true]
 constructor
 ·rintro ⟨x, hx, e⟩; have e : x = k := by simpa using e
  rw [← e]; exact hx
 ·intro h; exact ⟨k, h, by simp⟩
inductive Anc (L : List Ob) : Int → Int → Prop
 | refl (id : Int) : Anc L id id
 | step {id j k : Int} (h : j ∈ (getP L id).parents) (h2 : Anc L j k) : Anc L id k
theorem Anc.next {L : List Ob} {id j k : Int} (h : Anc L id j) (hk : k ∈ (getP L j).parents) : Anc L id k := by
 induction h with
 | refl id => exact .step hk (.refl k)
 | step h _ ih => exact .step h (ih hk)
theorem par_next {L : List Ob} {j k : Int} (h : k ∈ (getP L j).parents) : k ∈ nextP L j := by
 unfold nextP
 rw [List.mem_append, List.mem_append]
 exact .inr (.inr h)
theorem par_lt {L : List Ob} (hp : PoolOk L) {j k : Int} (h : k ∈ (getP L j).parents) : 0 ≤ k ∧ k < j ∧ k.toNat < L.length := by
 obtain ⟨h1, h2⟩ := next_lt hp (par_next h)
 obtain ⟨h3, h4⟩ := kindOf_pos h1
 exact ⟨by omega, h2, h4⟩
theorem par_kind {L : List Ob} (hp : PoolOk L) {j k : Int} (hj : kindOf L j = 3) (h : k ∈ (getP L j).parents) : kindOf L k = 3 := by
 obtain ⟨h1, h2⟩ := kindOf_pos (l := L) (id := j) (by omega)
 have := (hp.obj (getP L j) (by rw [getP_at h1 h2]; exact List.getElem_mem _)).2
 unfold leadsP at this
 rw [Bool.and_eq_true, Bool.and_eq_true, List.all_eq_true, List.all_eq_true] at this
 simpa using this.2.1 k h
theorem Anc.kind {L : List Ob} (hp : PoolOk L) {id k : Int} (h : Anc L id k) (hi : kindOf L id = 3) : kindOf L k = 3 := by
 induction h with
 | refl => exact hi
 | step h _ ih => exact ih (par_kind hp hi h)
theorem Anc.le {L : List Ob} (hp : PoolOk L) {id k : Int} (h : Anc L id k) : k ≤ id := by
 induction h with
 | refl => exact Int.le_refl _
 | step h _ ih => have := (par_lt hp h).2.1; omega
end Go.Nest
