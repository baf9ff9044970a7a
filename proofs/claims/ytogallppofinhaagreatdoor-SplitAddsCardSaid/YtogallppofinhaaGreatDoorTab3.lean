/- THE TABLE of types, and that it is right. -/
import Derived.Test.YtogallppofinhaaGreatDoorAmT
import Derived.Test.YtogallppofinhaaGreatDoorProg
namespace Go.Proofs.YtogallppofinhaaGreatDoor.T3
open Go Go.AM Go.Nest
set_option linter.unusedVariables false

def tabL : List (Nat × TD) := [
  (3, ⟨1, false, 8, (.int .i64), [.int .i64 0], false, Int, encI⟩),
  (5, ⟨1, false, 1, (.int .u8), [.int .u8 0], false, UInt8, bytesC⟩),
  (9, ⟨1, false, 16, .str, [.str []], false, (List UInt8), encS⟩),
  (28, ⟨1, false, 24, (.sl 151), [.nil], false, (List Dc), (encL 2 encDcN)⟩),
  (29, ⟨1, false, 8, .ptr, [.raw (.pointer none)], false, Unit, (fun _ => [])⟩),
  (32, ⟨1, false, 24, (.sl 3), [.nil], false, (List Int), (encL 1 encI)⟩),
  (38, ⟨1, false, 24, (.sl 5), [.nil], false, (List UInt8), (encL 1 bytesC)⟩),
  (66, ⟨1, false, 24, (.sl 168), [.nil], false, (List Sn), (encL 3 encSnN)⟩),
  (73, ⟨1, false, 24, (.sl 182), [.nil], false, (List Ent), (encL 4 encEn)⟩),
  (75, ⟨6, true, 104, (.struct [(3, 0), (38, 1), (73, 2), (3, 3), (32, 4), (9, 5)]), [.int .i64 0, .nil, .nil, .int .i64 0, .nil, .str []], false, Ob, encOb⟩),
  (151, ⟨2, true, 40, (.struct [(9, 0), (38, 1)]), [.str [], .nil], false, Dc, encDcN⟩),
  (168, ⟨3, true, 64, (.struct [(28, 0), (32, 1), (9, 2)]), [.nil, .nil, .str []], false, Sn, encSnN⟩),
  (182, ⟨4, true, 40, (.struct [(9, 0), (3, 1), (3, 2), (3, 3)]), [.str [], .int .i64 0, .int .i64 0, .int .i64 0], true, Ent, encEn⟩)]
def tab : Nat → Option TD := lkT tabL

theorem good3 : ∀ d, tab 3 = some d → Good Tryz.prog tab 3 d := fun d h => by
  cases h
  exact ⟨⟨_, _, _, Tryz.typeInfo3, rfl, rfl, rfl, rfl, fun _ _ _ => by exact (.int .nl)⟩, Tryz.isAgg3, (fun _ => rfl), rfl, Tryz.underlying3, (fun h => by cases h)⟩
theorem good5 : ∀ d, tab 5 = some d → Good Tryz.prog tab 5 d := fun d h => by
  cases h
  exact ⟨⟨_, _, _, Tryz.typeInfo5, rfl, rfl, rfl, rfl, fun _ _ _ => by exact (.int .nl)⟩, Tryz.isAgg5, (fun _ => rfl), rfl, Tryz.underlying5, (fun h => by cases h)⟩
theorem good9 : ∀ d, tab 9 = some d → Good Tryz.prog tab 9 d := fun d h => by
  cases h
  exact ⟨⟨_, _, _, Tryz.typeInfo9, rfl, rfl, rfl, rfl, fun _ _ _ => by exact (.str (Nat.zero_le _) .nl)⟩, Tryz.isAgg9, (fun _ => rfl), rfl, Tryz.underlying9, (fun h => by cases h)⟩
theorem good28 : ∀ d, tab 28 = some d → Good Tryz.prog tab 28 d := fun d h => by
  cases h
  exact ⟨⟨_, _, _, Tryz.typeInfo28, rfl, rfl, rfl, rfl, fun _ _ _ => by exact (.nil .nl)⟩, Tryz.isAgg28, (fun _ => rfl), rfl, Tryz.underlying28, (fun h => by cases h)⟩
theorem good29 : ∀ d, tab 29 = some d → Good Tryz.prog tab 29 d := fun d h => by
  cases h
  exact ⟨⟨_, _, _, Tryz.typeInfo29, rfl, rfl, rfl, rfl, fun _ _ _ => by exact (.raw rfl .nl)⟩, Tryz.isAgg29, (fun _ => rfl), rfl, ⟨_, Tryz.underlying29⟩, (fun h => by cases h)⟩
theorem good32 : ∀ d, tab 32 = some d → Good Tryz.prog tab 32 d := fun d h => by
  cases h
  exact ⟨⟨_, _, _, Tryz.typeInfo32, rfl, rfl, rfl, rfl, fun _ _ _ => by exact (.nil .nl)⟩, Tryz.isAgg32, (fun _ => rfl), rfl, Tryz.underlying32, (fun h => by cases h)⟩
theorem good38 : ∀ d, tab 38 = some d → Good Tryz.prog tab 38 d := fun d h => by
  cases h
  exact ⟨⟨_, _, _, Tryz.typeInfo38, rfl, rfl, rfl, rfl, fun _ _ _ => by exact (.nil .nl)⟩, Tryz.isAgg38, (fun _ => rfl), rfl, Tryz.underlying38, (fun h => by cases h)⟩
theorem good66 : ∀ d, tab 66 = some d → Good Tryz.prog tab 66 d := fun d h => by
  cases h
  exact ⟨⟨_, _, _, Tryz.typeInfo66, rfl, rfl, rfl, rfl, fun _ _ _ => by exact (.nil .nl)⟩, Tryz.isAgg66, (fun _ => rfl), rfl, Tryz.underlying66, (fun h => by cases h)⟩
theorem good73 : ∀ d, tab 73 = some d → Good Tryz.prog tab 73 d := fun d h => by
  cases h
  exact ⟨⟨_, _, _, Tryz.typeInfo73, rfl, rfl, rfl, rfl, fun _ _ _ => by exact (.nil .nl)⟩, Tryz.isAgg73, (fun _ => rfl), rfl, Tryz.underlying73, (fun h => by cases h)⟩
theorem good75 : ∀ d, tab 75 = some d → Good Tryz.prog tab 75 d := fun d h => by
  cases h
  exact ⟨⟨_, _, _, Tryz.typeInfo75, rfl, rfl, rfl, rfl, fun _ _ _ => by exact (.int (.nil (.nil (.int (.nil (.str (Nat.zero_le _) .nl))))))⟩, Tryz.isAgg75, (fun h => by cases h), rfl, ⟨_, Tryz.underlying75, rfl, rfl⟩, (fun h => by cases h)⟩
theorem good151 : ∀ d, tab 151 = some d → Good Tryz.prog tab 151 d := fun d h => by
  cases h
  exact ⟨⟨_, _, _, Tryz.typeInfo151, rfl, rfl, rfl, rfl, fun _ _ _ => by exact (.str (Nat.zero_le _) (.nil .nl))⟩, Tryz.isAgg151, (fun h => by cases h), rfl, ⟨_, Tryz.underlying151, rfl, rfl⟩, (fun h => by cases h)⟩
theorem good168 : ∀ d, tab 168 = some d → Good Tryz.prog tab 168 d := fun d h => by
  cases h
  exact ⟨⟨_, _, _, Tryz.typeInfo168, rfl, rfl, rfl, rfl, fun _ _ _ => by exact (.nil (.nil (.str (Nat.zero_le _) .nl)))⟩, Tryz.isAgg168, (fun h => by cases h), rfl, ⟨_, Tryz.underlying168, rfl, rfl⟩, (fun h => by cases h)⟩
theorem good182 : ∀ d, tab 182 = some d → Good Tryz.prog tab 182 d := fun d h => by
  cases h
  exact ⟨⟨_, _, _, Tryz.typeInfo182, rfl, rfl, rfl, rfl, fun _ _ _ => by exact (.str (Nat.zero_le _) (.int (.int (.int .nl))))⟩, Tryz.isAgg182, (fun h => by cases h), rfl, ⟨_, Tryz.underlying182, rfl, rfl⟩, (fun _ => ⟨by kernel_rfl, by exact (CmpAt.struct (by kernel_rfl) (by kernel_rfl) (by rw [fieldsL Tryz.underlying182]; exact ⟨false, [.str []], _, rfl, by decide, rfl, Tryz.isAgg9, sizeOf_of Tryz.typeInfo9 rfl, by decide, (CmpAt.str Tryz.underlying9), ⟨false, [.int .i64 0], _, rfl, by decide, rfl, Tryz.isAgg3, sizeOf_of Tryz.typeInfo3 rfl, by decide, (CmpAt.int Tryz.underlying3), ⟨false, [.int .i64 0], _, rfl, by decide, rfl, Tryz.isAgg3, sizeOf_of Tryz.typeInfo3 rfl, by decide, (CmpAt.int Tryz.underlying3), ⟨false, [.int .i64 0], _, rfl, by decide, rfl, Tryz.isAgg3, sizeOf_of Tryz.typeInfo3 rfl, by decide, (CmpAt.int Tryz.underlying3), rfl⟩⟩⟩⟩))⟩)⟩

theorem tabOk : TabOk Tryz.prog tab := tabOk_of ⟨good3 _ rfl, good5 _ rfl, good9 _ rfl, good28 _ rfl, good29 _ rfl, good32 _ rfl, good38 _ rfl, good66 _ rfl, good73 _ rfl, good75 _ rfl, good151 _ rfl, good168 _ rfl, good182 _ rfl, trivial⟩

end Go.Proofs.YtogallppofinhaaGreatDoor.T3
