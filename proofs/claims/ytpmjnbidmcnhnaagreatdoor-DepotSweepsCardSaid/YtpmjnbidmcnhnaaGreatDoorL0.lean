/- part -/
import Derived.Test.YtpmjnbidmcnhnaaGreatDoorG1b
set_option linter.unusedVariables false
set_option linter.unusedSimpArgs false

namespace Go.Nest
open Go Go.AM Go.Proofs
theorem ne_at {α : Type} [DecidableEq α] {l m : List α} {i : Nat} (h : i < l.length) (h' : i < m.length) (hne : ¬ l[i] = m[i]) : false = decide (l = m) := by
 symm; rw [decide_eq_false_iff_not]; intro e; subst e; exact hne rfl
theorem take_step {α : Type} {l m : List α} {i : Nat} (h : i < l.length) (h' : i < m.length) (ht : l.take i = m.take i) (he : l[i] = m[i]) : l.take (i + 1) = m.take (i + 1) := by
 rw [List.take_succ_eq_append_getElem h, List.take_succ_eq_append_getElem h', ht, he]
theorem take_end {α : Type} [DecidableEq α] {l m : List α} {i : Nat} (h : l.length ≤ i) (hl : l.length = m.length) (ht : l.take i = m.take i) : true = decide (l = m) := by
 symm; rw [decide_eq_true_iff]; rwa [List.take_of_length_le h, List.take_of_length_le (hl ▸ h)] at ht
theorem ne_len {α : Type} [DecidableEq α] {l m : List α} (h : ¬ (l.length : Int) = m.length) : false = decide (l = m) := by
 symm; rw [decide_eq_false_iff_not]; intro e; subst e; exact h rfl
theorem byte_eq {a b : UInt8} : (a.toNat : Int) = b.toNat ↔ a = b := by rw [Int.natCast_inj]; exact UInt8.toNat_inj
theorem eqEn {a b : Ent} : EqCs (encEn a) (encEn b) ↔ a = b := by
 cases a; cases b; simp [encEn, EqCs, EqC]
end Go.Nest
