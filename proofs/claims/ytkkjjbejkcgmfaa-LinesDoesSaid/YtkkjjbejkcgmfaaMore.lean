/- THE ENGINE, part 11: what the first ten lack. -/
import Derived.Test.YtkkjjbejkcgmfaaAny
import Derived.Laws.Small
namespace Go.NB
section
variable {c : Cx} {o : Oper} {env : Env} {S : Heap → Prop}
theorem V.bEql {t u : TypeId} {x y : Operand} {a b : Bool} (ho : o.op = .binOp .eql t x y u) (ht : c.P.underlying t = some .bool) (hx : Ev env x (.bool a)) (hy : Ev env y (.bool b)) : ValC c o env S (.bool (a == b)) :=
  V.bin ho hx hy (fun w => by simp [binOp, run_equal_bool w t a b ht]) (fun w => by rw [eqGuard_at_bool]; rfl)
end
/-- a row of one thing, just built -/
theorem Own.ofBx1 {α : Type} {T : Ty α} {H : Heap} {M : List Nat} {g : Nat} {e : TypeId} {cs : List Value} {x : α} (h : Bx H g e cs) (hR : T.R H M cs x) : Own T H M e (.slice (some ⟨g, 0, none⟩) 1 1) [x] := by
  have hl := T.len hR
  refine ⟨by simp, cs, ⟨by simp [hl], .inr ⟨g, 1, cs.toArray, rfl, h, Nat.le_refl _, by unfold maxLen; omega, by simp [hl], ?_⟩⟩, Elems.single hR⟩
  exact List.take_of_length_le (by simp [hl])
def tTrip : Ty (Int × Int × Int) := tDet 3 true (fun p => [iv p.1, iv p.2.1, iv p.2.2]) (fun p => I64 p.1 ∧ I64 p.2.1 ∧ I64 p.2.2) (fun _ => rfl) (fun _ u hu => by simp at hu; rcases hu with rfl | rfl | rfl <;> rfl) (by decide) (fun h => by cases h)
end Go.NB
