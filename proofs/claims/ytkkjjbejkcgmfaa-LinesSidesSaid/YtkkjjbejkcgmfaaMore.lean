/- THE ENGINE, part 11: what the first ten lack. -/
import Derived.Test.YtkkjjbejkcgmfaaAny
import Derived.Laws.Small
namespace Go.NB
section
variable {c : Cx} {o : Oper} {env : Env} {S : Heap → Prop}
theorem V.bEql {t u : TypeId} {x y : Operand} {a b : Bool} (ho : o.op = .binOp .eql t x y u) (ht : c.P.underlying t = some .bool) (hx : Ev env x (.bool a)) (hy : Ev env y (.bool b)) : ValC c o env S (.bool (a == b)) :=
  V.bin ho hx hy (fun w => by simp [binOp, run_equal_bool w t a b ht]) (fun w => by rw [eqGuard_at_bool]; rfl)
end
end Go.NB
