/- part -/
import Derived.Test.YtpmjnbidmcnhnaaGreatDoorAmT
import Derived.Test.YtpmjnbidmcnhnaaGreatDoorProg
set_option linter.unusedVariables false
set_option linter.unusedSimpArgs false
namespace Go.Proofs.YtpmjnbidmcnhnaaGreatDoor.T3
open Go Go.AM Go.Nest
def tabL : List (Nat × TD) := [
 (3, ⟨1, false, 8, (.int .i64), [.int .i64 0], false, Int, encI⟩),
 (4, ⟨1, false, 1, .bool, [.bool false], false, Bool, encBo⟩),
 (5, ⟨1, false, 1, (.int .u8), [.int .u8 0], false, UInt8, bytesC⟩),
 (9, ⟨1, false, 16, .str, [.str []], false, (List UInt8), encS⟩),
 (22, ⟨1, false, 24, (.sl 104), [.nil], false, (List Sn), (encL 3 encSnN)⟩),
 (28, ⟨1, false, 8, .ptr, [.raw (.pointer none)], false, Unit, (fun _ => [])⟩),
 (30, ⟨1, false, 24, (.sl 3), [.nil], false, (List Int), (encL 1 encI)⟩),
 (38, ⟨1, false, 24, (.sl 54), [.nil], false, (List Fi), (encL 4 encFi)⟩),
 (41, ⟨1, false, 24, (.sl 5), [.nil], false, (List UInt8), (encL 1 bytesC)⟩),
 (54, ⟨4, true, 40, (.struct [(9, 0), (3, 1), (3, 2), (3, 3)]), [.str [], .int .i64 0, .int .i64 0, .int .i64 0], true, Fi, encFi⟩),
 (72, ⟨1, false, 24, (.sl 102), [.nil], false, (List Dc), (encL 2 encDcN)⟩),
 (102, ⟨2, true, 40, (.struct [(9, 0), (41, 1)]), [.str [], .nil], false, Dc, encDcN⟩),
 (104, ⟨3, true, 64, (.struct [(72, 0), (30, 1), (9, 2)]), [.nil, .nil, .str []], false, Sn, encSnN⟩)]
def tab : Nat → Option TD := lkT tabL
theorem good3 : ∀ d, tab 3 = some d → Good Tryz.prog tab 3 d := fun d h => by
 cases h
 exact ⟨⟨_, _, _, Tryz.typeInfo3, rfl, rfl, rfl, rfl, fun _ _ _ => by exact (.int .nl)⟩, Tryz.isAgg3, (fun _ => rfl), rfl, Tryz.underlying3, (fun h => by cases h)⟩
theorem good4 : ∀ d, tab 4 = some d → Good Tryz.prog tab 4 d := fun d h => by
 cases h
 exact ⟨⟨_, _, _, Tryz.typeInfo4, rfl, rfl, rfl, rfl, fun _ _ _ => by exact (.bool .nl)⟩, Tryz.isAgg4, (fun _ => rfl), rfl, Tryz.underlying4, (fun h => by cases h)⟩
theorem good5 : ∀ d, tab 5 = some d → Good Tryz.prog tab 5 d := fun d h => by
 cases h
 exact ⟨⟨_, _, _, Tryz.typeInfo5, rfl, rfl, rfl, rfl, fun _ _ _ => by exact (.int .nl)⟩, Tryz.isAgg5, (fun _ => rfl), rfl, Tryz.underlying5, (fun h => by cases h)⟩
theorem good9 : ∀ d, tab 9 = some d → Good Tryz.prog tab 9 d := fun d h => by
 cases h
 exact ⟨⟨_, _, _, Tryz.typeInfo9, rfl, rfl, rfl, rfl, fun _ _ _ => by exact (.str (Nat.zero_le _) .nl)⟩, Tryz.isAgg9, (fun _ => rfl), rfl, Tryz.underlying9, (fun h => by cases h)⟩
theorem good22 : ∀ d, tab 22 = some d → Good Tryz.prog tab 22 d := fun d h => by
 cases h
 exact ⟨⟨_, _, _, Tryz.typeInfo22, rfl, rfl, rfl, rfl, fun _ _ _ => by exact (.nil .nl)⟩, Tryz.isAgg22, (fun _ => rfl), rfl, Tryz.underlying22, (fun h => by cases h)⟩
theorem good28 : ∀ d, tab 28 = some d → Good Tryz.prog tab 28 d := fun d h => by
 cases h
 exact ⟨⟨_, _, _, Tryz.typeInfo28, rfl, rfl, rfl, rfl, fun _ _ _ => by exact (.raw rfl .nl)⟩, Tryz.isAgg28, (fun _ => rfl), rfl, ⟨_, Tryz.underlying28⟩, (fun h => by cases h)⟩
theorem good30 : ∀ d, tab 30 = some d → Good Tryz.prog tab 30 d := fun d h => by
 cases h
 exact ⟨⟨_, _, _, Tryz.typeInfo30, rfl, rfl, rfl, rfl, fun _ _ _ => by exact (.nil .nl)⟩, Tryz.isAgg30, (fun _ => rfl), rfl, Tryz.underlying30, (fun h => by cases h)⟩
theorem good38 : ∀ d, tab 38 = some d → Good Tryz.prog tab 38 d := fun d h => by
 cases h
 exact ⟨⟨_, _, _, Tryz.typeInfo38, rfl, rfl, rfl, rfl, fun _ _ _ => by exact (.nil .nl)⟩, Tryz.isAgg38, (fun _ => rfl), rfl, Tryz.underlying38, (fun h => by cases h)⟩
theorem good41 : ∀ d, tab 41 = some d → Good Tryz.prog tab 41 d := fun d h => by
 cases h
 exact ⟨⟨_, _, _, Tryz.typeInfo41, rfl, rfl, rfl, rfl, fun _ _ _ => by exact (.nil .nl)⟩, Tryz.isAgg41, (fun _ => rfl), rfl, Tryz.underlying41, (fun h => by cases h)⟩
theorem good54 : ∀ d, tab 54 = some d → Good Tryz.prog tab 54 d := fun d h => by
 cases h
 exact ⟨⟨_, _, _, Tryz.typeInfo54, rfl, rfl, rfl, rfl, fun _ _ _ => by exact (.str (Nat.zero_le _) (.int (.int (.int .nl))))⟩, Tryz.isAgg54, (fun h => by cases h), rfl, ⟨_, Tryz.underlying54, rfl, rfl⟩, (fun _ => ⟨by kernel_rfl, by exact (CmpAt.struct (by kernel_rfl) (by kernel_rfl) (by rw [fieldsL Tryz.underlying54]; exact ⟨false, [.str []], _, rfl, by decide, rfl, Tryz.isAgg9, sizeOf_of Tryz.typeInfo9 rfl, by decide, (CmpAt.str Tryz.underlying9), ⟨false, [.int .i64 0], _, rfl, by decide, rfl, Tryz.isAgg3, sizeOf_of Tryz.typeInfo3 rfl, by decide, (CmpAt.int Tryz.underlying3), ⟨false, [.int .i64 0], _, rfl, by decide, rfl, Tryz.isAgg3, sizeOf_of Tryz.typeInfo3 rfl, by decide, (CmpAt.int Tryz.underlying3), ⟨false, [.int .i64 0], _, rfl, by decide, rfl, Tryz.isAgg3, sizeOf_of Tryz.typeInfo3 rfl, by decide, (CmpAt.int Tryz.underlying3), rfl⟩⟩⟩⟩))⟩)⟩
theorem good72 : ∀ d, tab 72 = some d → Good Tryz.prog tab 72 d := fun d h => by
 cases h
 exact ⟨⟨_, _, _, Tryz.typeInfo72, rfl, rfl, rfl, rfl, fun _ _ _ => by exact (.nil .nl)⟩, Tryz.isAgg72, (fun _ => rfl), rfl, Tryz.underlying72, (fun h => by cases h)⟩
theorem good102 : ∀ d, tab 102 = some d → Good Tryz.prog tab 102 d := fun d h => by
 cases h
 exact ⟨⟨_, _, _, Tryz.typeInfo102, rfl, rfl, rfl, rfl, fun _ _ _ => by exact (.str (Nat.zero_le _) (.nil .nl))⟩, Tryz.isAgg102, (fun h => by cases h), rfl, ⟨_, Tryz.underlying102, rfl, rfl⟩, (fun h => by cases h)⟩
theorem good104 : ∀ d, tab 104 = some d → Good Tryz.prog tab 104 d := fun d h => by
 cases h
 exact ⟨⟨_, _, _, Tryz.typeInfo104, rfl, rfl, rfl, rfl, fun _ _ _ => by exact (.nil (.nil (.str (Nat.zero_le _) .nl)))⟩, Tryz.isAgg104, (fun h => by cases h), rfl, ⟨_, Tryz.underlying104, rfl, rfl⟩, (fun h => by cases h)⟩
theorem tabOk : TabOk Tryz.prog tab := tabOk_of ⟨good3 _ rfl, good4 _ rfl, good5 _ rfl, good9 _ rfl, good22 _ rfl, good28 _ rfl, good30 _ rfl, good38 _ rfl, good41 _ rfl, good54 _ rfl, good72 _ rfl, good102 _ rfl, good104 _ rfl, trivial⟩
end Go.Proofs.YtpmjnbidmcnhnaaGreatDoor.T3
