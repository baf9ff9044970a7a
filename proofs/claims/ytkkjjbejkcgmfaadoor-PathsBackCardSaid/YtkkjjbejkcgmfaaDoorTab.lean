/- THE TABLE of types, and that it is right. -/
import Derived.Test.YtkkjjbejkcgmfaaDoorAmT
import Derived.Test.YtkkjjbejkcgmfaaDoorProg
namespace Go.Proofs.YtkkjjbejkcgmfaaDoor
open Go Go.AM Go.Nest
set_option linter.unusedVariables false

def tabL : List (Nat × TD) := [
  (3, ⟨1, false, 8, (.int .i64), [.int .i64 0], false, Int, encI⟩),
  (4, ⟨1, false, 1, .bool, [.bool false], false, Bool, encBo⟩),
  (5, ⟨1, false, 1, (.int .u8), [.int .u8 0], false, UInt8, bytesC⟩),
  (9, ⟨1, false, 16, .str, [.str []], false, (List UInt8), encS⟩),
  (21, ⟨1, false, 4, (.int .i32), [.int .i32 0], false, Unit, (fun _ => [])⟩),
  (27, ⟨1, false, 24, (.sl 9), [.nil], false, (List (List UInt8)), (encL 1 encS)⟩),
  (39, ⟨1, false, 8, .other, [.raw (.pointer none)], false, Unit, (fun _ => [])⟩),
  (40, ⟨1, false, 24, (.sl 5), [.nil], false, (List UInt8), (encL 1 bytesC)⟩),
  (42, ⟨2, true, 32, (.struct [(39, 0), (40, 1)]), [.raw (.pointer none), .nil], false, Unit, (fun _ => [])⟩),
  (51, ⟨1, false, 8, .other, [.raw (.pointer none)], false, Unit, (fun _ => [])⟩),
  (55, ⟨1, false, 8, .other, [.raw (.pointer none)], false, Unit, (fun _ => [])⟩),
  (62, ⟨2, true, 2, (.struct [(5, 0), (5, 1)]), [.int .u8 0, .int .u8 0], false, Unit, (fun _ => [])⟩),
  (63, ⟨32, true, 32, (.arr 16 62), [.int .u8 0, .int .u8 0, .int .u8 0, .int .u8 0, .int .u8 0, .int .u8 0, .int .u8 0, .int .u8 0, .int .u8 0, .int .u8 0, .int .u8 0, .int .u8 0, .int .u8 0, .int .u8 0, .int .u8 0, .int .u8 0, .int .u8 0, .int .u8 0, .int .u8 0, .int .u8 0, .int .u8 0, .int .u8 0, .int .u8 0, .int .u8 0, .int .u8 0, .int .u8 0, .int .u8 0, .int .u8 0, .int .u8 0, .int .u8 0, .int .u8 0, .int .u8 0], false, Unit, (fun _ => [])⟩),
  (64, ⟨1, false, 4, (.int .u32), [.int .u32 0], false, Unit, (fun _ => [])⟩)]
def tab : Nat → Option TD := lkT tabL

theorem good3 : ∀ d, tab 3 = some d → Good Tryd.prog tab 3 d := fun d h => by
  cases h
  exact ⟨⟨_, _, _, Tryd.typeInfo3, rfl, rfl, rfl, rfl, fun _ _ _ => by exact (.int .nl)⟩, Tryd.isAgg3, (fun _ => rfl), rfl, Tryd.underlying3, (fun h => by cases h)⟩
theorem good4 : ∀ d, tab 4 = some d → Good Tryd.prog tab 4 d := fun d h => by
  cases h
  exact ⟨⟨_, _, _, Tryd.typeInfo4, rfl, rfl, rfl, rfl, fun _ _ _ => by exact (.bool .nl)⟩, Tryd.isAgg4, (fun _ => rfl), rfl, Tryd.underlying4, (fun h => by cases h)⟩
theorem good5 : ∀ d, tab 5 = some d → Good Tryd.prog tab 5 d := fun d h => by
  cases h
  exact ⟨⟨_, _, _, Tryd.typeInfo5, rfl, rfl, rfl, rfl, fun _ _ _ => by exact (.int .nl)⟩, Tryd.isAgg5, (fun _ => rfl), rfl, Tryd.underlying5, (fun h => by cases h)⟩
theorem good9 : ∀ d, tab 9 = some d → Good Tryd.prog tab 9 d := fun d h => by
  cases h
  exact ⟨⟨_, _, _, Tryd.typeInfo9, rfl, rfl, rfl, rfl, fun _ _ _ => by exact (.str (Nat.zero_le _) .nl)⟩, Tryd.isAgg9, (fun _ => rfl), rfl, Tryd.underlying9, (fun h => by cases h)⟩
theorem good21 : ∀ d, tab 21 = some d → Good Tryd.prog tab 21 d := fun d h => by
  cases h
  exact ⟨⟨_, _, _, Tryd.typeInfo21, rfl, rfl, rfl, rfl, fun _ _ _ => by exact (.int .nl)⟩, Tryd.isAgg21, (fun _ => rfl), rfl, Tryd.underlying21, (fun h => by cases h)⟩
theorem good27 : ∀ d, tab 27 = some d → Good Tryd.prog tab 27 d := fun d h => by
  cases h
  exact ⟨⟨_, _, _, Tryd.typeInfo27, rfl, rfl, rfl, rfl, fun _ _ _ => by exact (.nil .nl)⟩, Tryd.isAgg27, (fun _ => rfl), rfl, Tryd.underlying27, (fun h => by cases h)⟩
theorem good39 : ∀ d, tab 39 = some d → Good Tryd.prog tab 39 d := fun d h => by
  cases h
  exact ⟨⟨_, _, _, Tryd.typeInfo39, rfl, rfl, rfl, rfl, fun _ _ _ => by exact (.raw rfl .nl)⟩, Tryd.isAgg39, (fun _ => rfl), rfl, trivial, (fun h => by cases h)⟩
theorem good40 : ∀ d, tab 40 = some d → Good Tryd.prog tab 40 d := fun d h => by
  cases h
  exact ⟨⟨_, _, _, Tryd.typeInfo40, rfl, rfl, rfl, rfl, fun _ _ _ => by exact (.nil .nl)⟩, Tryd.isAgg40, (fun _ => rfl), rfl, Tryd.underlying40, (fun h => by cases h)⟩
theorem good42 : ∀ d, tab 42 = some d → Good Tryd.prog tab 42 d := fun d h => by
  cases h
  exact ⟨⟨_, _, _, Tryd.typeInfo42, rfl, rfl, rfl, rfl, fun _ _ _ => by exact (.raw rfl (.nil .nl))⟩, Tryd.isAgg42, (fun h => by cases h), rfl, ⟨_, Tryd.underlying42, rfl, rfl⟩, (fun h => by cases h)⟩
theorem good51 : ∀ d, tab 51 = some d → Good Tryd.prog tab 51 d := fun d h => by
  cases h
  exact ⟨⟨_, _, _, Tryd.typeInfo51, rfl, rfl, rfl, rfl, fun _ _ _ => by exact (.raw rfl .nl)⟩, Tryd.isAgg51, (fun _ => rfl), rfl, trivial, (fun h => by cases h)⟩
theorem good55 : ∀ d, tab 55 = some d → Good Tryd.prog tab 55 d := fun d h => by
  cases h
  exact ⟨⟨_, _, _, Tryd.typeInfo55, rfl, rfl, rfl, rfl, fun _ _ _ => by exact (.raw rfl .nl)⟩, Tryd.isAgg55, (fun _ => rfl), rfl, trivial, (fun h => by cases h)⟩
theorem good62 : ∀ d, tab 62 = some d → Good Tryd.prog tab 62 d := fun d h => by
  cases h
  exact ⟨⟨_, _, _, Tryd.typeInfo62, rfl, rfl, rfl, rfl, fun _ _ _ => by exact (.int (.int .nl))⟩, Tryd.isAgg62, (fun h => by cases h), rfl, ⟨_, Tryd.underlying62, rfl, rfl⟩, (fun h => by cases h)⟩
theorem good63 : ∀ d, tab 63 = some d → Good Tryd.prog tab 63 d := fun d h => by
  cases h
  exact ⟨⟨_, _, _, Tryd.typeInfo63, rfl, rfl, rfl, rfl, fun _ _ _ => by exact (.int (.int (.int (.int (.int (.int (.int (.int (.int (.int (.int (.int (.int (.int (.int (.int (.int (.int (.int (.int (.int (.int (.int (.int (.int (.int (.int (.int (.int (.int (.int (.int .nl))))))))))))))))))))))))))))))))⟩, Tryd.isAgg63, (fun h => by cases h), rfl, Tryd.underlying63, (fun h => by cases h)⟩
theorem good64 : ∀ d, tab 64 = some d → Good Tryd.prog tab 64 d := fun d h => by
  cases h
  exact ⟨⟨_, _, _, Tryd.typeInfo64, rfl, rfl, rfl, rfl, fun _ _ _ => by exact (.int .nl)⟩, Tryd.isAgg64, (fun _ => rfl), rfl, Tryd.underlying64, (fun h => by cases h)⟩

theorem tabOk : TabOk Tryd.prog tab := tabOk_of ⟨good3 _ rfl, good4 _ rfl, good5 _ rfl, good9 _ rfl, good21 _ rfl, good27 _ rfl, good39 _ rfl, good40 _ rfl, good42 _ rfl, good51 _ rfl, good55 _ rfl, good62 _ rfl, good63 _ rfl, good64 _ rfl, trivial⟩

end Go.Proofs.YtkkjjbejkcgmfaaDoor
