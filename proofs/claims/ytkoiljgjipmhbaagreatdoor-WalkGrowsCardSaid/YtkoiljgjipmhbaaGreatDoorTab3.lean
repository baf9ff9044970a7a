/- THE TABLE of types, and that it is right. -/
import Derived.Test.YtkoiljgjipmhbaaGreatDoorAmT
import Derived.Test.YtkoiljgjipmhbaaGreatDoorProg
namespace Go.Proofs.YtkoiljgjipmhbaaGreatDoor.T3
open Go Go.AM Go.Nest
set_option linter.unusedVariables false

def tabL : List (Nat × TD) := [
  (3, ⟨1, false, 8, (.int .i64), [.int .i64 0], false, Int, encI⟩),
  (4, ⟨1, false, 1, .bool, [.bool false], false, Bool, encBo⟩),
  (5, ⟨1, false, 1, (.int .u8), [.int .u8 0], false, UInt8, bytesC⟩),
  (9, ⟨1, false, 16, .str, [.str []], false, (List UInt8), encS⟩),
  (50, ⟨1, false, 24, (.sl 103), [.nil], false, (List Sn), (encL 3 encSnN)⟩),
  (52, ⟨1, false, 24, (.sl 3), [.nil], false, (List Int), (encL 1 encI)⟩),
  (68, ⟨1, false, 24, (.sl 5), [.nil], false, (List UInt8), (encL 1 bytesC)⟩),
  (101, ⟨1, false, 24, (.sl 105), [.nil], false, (List Dc), (encL 2 encDcN)⟩),
  (103, ⟨3, true, 64, (.struct [(101, 0), (52, 1), (9, 2)]), [.nil, .nil, .str []], false, Sn, encSnN⟩),
  (105, ⟨2, true, 40, (.struct [(9, 0), (68, 1)]), [.str [], .nil], false, Dc, encDcN⟩)]
def tab : Nat → Option TD := lkT tabL

theorem good3 : ∀ d, tab 3 = some d → Good Tryz.prog tab 3 d := fun d h => by
  cases h
  exact ⟨⟨_, _, _, Tryz.typeInfo3, rfl, rfl, rfl, rfl, fun _ _ _ => by exact (.int .nl)⟩, Tryz.isAgg3, (fun _ => rfl), rfl, Tryz.underlying3, (fun h => by cases h)⟩
theorem good4 : ∀ d, tab 4 = some d → Good Tryz.prog tab 4 d := fun d h => by
  cases h
  exact ⟨⟨_, _, _, Tryz.typeInfo4, rfl, rfl, rfl, rfl, fun _ _ _ => by exact (.bool .nl)⟩, Tryz.isAgg4, (fun _ => rfl), rfl, Tryz.underlying4, (fun h => by cases h)⟩
theorem good5 : ∀ d, tab 5 = some d → Good Tryz.prog tab 5 d := fun d h => by
  cases h
  exact ⟨⟨_, _, _, Tryz.typeInfo5, rfl, rfl, rfl, rfl, fun _ _ _ => by exact (.int .nl)⟩, Tryz.isAgg5, (fun _ => rfl), rfl, Tryz.underlying5, (fun h => by cases h)⟩
theorem good9 : ∀ d, tab 9 = some d → Good Tryz.prog tab 9 d := fun d h => by
  cases h
  exact ⟨⟨_, _, _, Tryz.typeInfo9, rfl, rfl, rfl, rfl, fun _ _ _ => by exact (.str (Nat.zero_le _) .nl)⟩, Tryz.isAgg9, (fun _ => rfl), rfl, Tryz.underlying9, (fun h => by cases h)⟩
theorem good50 : ∀ d, tab 50 = some d → Good Tryz.prog tab 50 d := fun d h => by
  cases h
  exact ⟨⟨_, _, _, Tryz.typeInfo50, rfl, rfl, rfl, rfl, fun _ _ _ => by exact (.nil .nl)⟩, Tryz.isAgg50, (fun _ => rfl), rfl, Tryz.underlying50, (fun h => by cases h)⟩
theorem good52 : ∀ d, tab 52 = some d → Good Tryz.prog tab 52 d := fun d h => by
  cases h
  exact ⟨⟨_, _, _, Tryz.typeInfo52, rfl, rfl, rfl, rfl, fun _ _ _ => by exact (.nil .nl)⟩, Tryz.isAgg52, (fun _ => rfl), rfl, Tryz.underlying52, (fun h => by cases h)⟩
theorem good68 : ∀ d, tab 68 = some d → Good Tryz.prog tab 68 d := fun d h => by
  cases h
  exact ⟨⟨_, _, _, Tryz.typeInfo68, rfl, rfl, rfl, rfl, fun _ _ _ => by exact (.nil .nl)⟩, Tryz.isAgg68, (fun _ => rfl), rfl, Tryz.underlying68, (fun h => by cases h)⟩
theorem good101 : ∀ d, tab 101 = some d → Good Tryz.prog tab 101 d := fun d h => by
  cases h
  exact ⟨⟨_, _, _, Tryz.typeInfo101, rfl, rfl, rfl, rfl, fun _ _ _ => by exact (.nil .nl)⟩, Tryz.isAgg101, (fun _ => rfl), rfl, Tryz.underlying101, (fun h => by cases h)⟩
theorem good103 : ∀ d, tab 103 = some d → Good Tryz.prog tab 103 d := fun d h => by
  cases h
  exact ⟨⟨_, _, _, Tryz.typeInfo103, rfl, rfl, rfl, rfl, fun _ _ _ => by exact (.nil (.nil (.str (Nat.zero_le _) .nl)))⟩, Tryz.isAgg103, (fun h => by cases h), rfl, ⟨_, Tryz.underlying103, rfl, rfl⟩, (fun h => by cases h)⟩
theorem good105 : ∀ d, tab 105 = some d → Good Tryz.prog tab 105 d := fun d h => by
  cases h
  exact ⟨⟨_, _, _, Tryz.typeInfo105, rfl, rfl, rfl, rfl, fun _ _ _ => by exact (.str (Nat.zero_le _) (.nil .nl))⟩, Tryz.isAgg105, (fun h => by cases h), rfl, ⟨_, Tryz.underlying105, rfl, rfl⟩, (fun h => by cases h)⟩

theorem tabOk : TabOk Tryz.prog tab := tabOk_of ⟨good3 _ rfl, good4 _ rfl, good5 _ rfl, good9 _ rfl, good50 _ rfl, good52 _ rfl, good68 _ rfl, good101 _ rfl, good103 _ rfl, good105 _ rfl, trivial⟩

end Go.Proofs.YtkoiljgjipmhbaaGreatDoor.T3
