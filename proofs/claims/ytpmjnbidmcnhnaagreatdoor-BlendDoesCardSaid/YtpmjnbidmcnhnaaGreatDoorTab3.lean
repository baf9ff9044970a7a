/- part -/
import Derived.Test.YtpmjnbidmcnhnaaGreatDoorL1
import Derived.Test.YtpmjnbidmcnhnaaGreatDoorProg
set_option linter.unusedVariables false
set_option linter.unusedSimpArgs false
namespace Go.Proofs.YtpmjnbidmcnhnaaGreatDoor.T3
open Go Go.AM Go.Nest
def tabL : List (Nat × TD) := [
 (3, ⟨1, false, 8, (.int .i64), [.int .i64 0], false, Int, encI⟩),
 (5, ⟨1, false, 1, (.int .u8), [.int .u8 0], false, UInt8, bytesC⟩),
 (9, ⟨1, false, 16, .str, [.str []], false, (List UInt8), encS⟩),
 (30, ⟨1, false, 24, (.sl 3), [.nil], false, (List Int), (encL 1 encI)⟩),
 (38, ⟨1, false, 24, (.sl 54), [.nil], false, (List Fi), (encL 4 encFi)⟩),
 (41, ⟨1, false, 24, (.sl 5), [.nil], false, (List UInt8), (encL 1 bytesC)⟩),
 (42, ⟨1, false, 24, (.sl 151), [.nil], false, (List Ent), (encL 4 encEn)⟩),
 (44, ⟨6, true, 104, (.struct [(3, 0), (41, 1), (42, 2), (3, 3), (30, 4), (9, 5)]), [.int .i64 0, .nil, .nil, .int .i64 0, .nil, .str []], false, Ob, encOb⟩),
 (47, ⟨1, false, 8, .ptr, [.raw (.pointer none)], false, Unit, (fun _ => [])⟩),
 (54, ⟨4, true, 40, (.struct [(9, 0), (3, 1), (3, 2), (3, 3)]), [.str [], .int .i64 0, .int .i64 0, .int .i64 0], true, Fi, encFi⟩),
 (72, ⟨1, false, 24, (.sl 102), [.nil], false, (List Dc), (encL 2 encDcN)⟩),
 (76, ⟨1, false, 24, (.sl 44), [.nil], false, (List Ob), (encL 6 encOb)⟩),
 (78, ⟨1, true, 24, (.struct [(76, 0)]), [.nil], false, Unit, (fun _ => [])⟩),
 (80, ⟨1, false, 24, (.sl 9), [.nil], false, (List (List UInt8)), (encL 1 encS)⟩),
 (102, ⟨2, true, 40, (.struct [(9, 0), (41, 1)]), [.str [], .nil], false, Dc, encDcN⟩),
 (151, ⟨4, true, 40, (.struct [(9, 0), (3, 1), (3, 2), (3, 3)]), [.str [], .int .i64 0, .int .i64 0, .int .i64 0], true, Ent, encEn⟩)]
def tab : Nat → Option TD := lkT tabL
theorem good3 : ∀ d, tab 3 = some d → Good Tryz.prog tab 3 d := fun d h => by
 cases h
 exact ⟨⟨_, _, _, Tryz.typeInfo3, rfl, rfl, rfl, rfl, fun _ _ _ => by exact (.int .nl)⟩, Tryz.isAgg3, (fun _ => rfl), rfl, Tryz.underlying3, (fun h => by cases h)⟩
theorem good5 : ∀ d, tab 5 = some d → Good Tryz.prog tab 5 d := fun d h => by
 cases h
 exact ⟨⟨_, _, _, Tryz.typeInfo5, rfl, rfl, rfl, rfl, fun _ _ _ => by exact (.int .nl)⟩, Tryz.isAgg5, (fun _ => rfl), rfl, Tryz.underlying5, (fun h => by cases h)⟩
theorem good9 : ∀ d, tab 9 = some d → Good Tryz.prog tab 9 d := fun d h => by
 cases h
 exact ⟨⟨_, _, _, Tryz.typeInfo9, rfl, rfl, rfl, rfl, fun _ _ _ => by exact (.str (Nat.zero_le _) .nl)⟩, Tryz.isAgg9, (fun _ => rfl), rfl, Tryz.underlying9, (fun h => by cases h)⟩
theorem good30 : ∀ d, tab 30 = some d → Good Tryz.prog tab 30 d := fun d h => by
 cases h
 exact ⟨⟨_, _, _, Tryz.typeInfo30, rfl, rfl, rfl, rfl, fun _ _ _ => by exact (.nil .nl)⟩, Tryz.isAgg30, (fun _ => rfl), rfl, Tryz.underlying30, (fun h => by cases h)⟩
theorem good38 : ∀ d, tab 38 = some d → Good Tryz.prog tab 38 d := fun d h => by
 cases h
 exact ⟨⟨_, _, _, Tryz.typeInfo38, rfl, rfl, rfl, rfl, fun _ _ _ => by exact (.nil .nl)⟩, Tryz.isAgg38, (fun _ => rfl), rfl, Tryz.underlying38, (fun h => by cases h)⟩
theorem good41 : ∀ d, tab 41 = some d → Good Tryz.prog tab 41 d := fun d h => by
 cases h
 exact ⟨⟨_, _, _, Tryz.typeInfo41, rfl, rfl, rfl, rfl, fun _ _ _ => by exact (.nil .nl)⟩, Tryz.isAgg41, (fun _ => rfl), rfl, Tryz.underlying41, (fun h => by cases h)⟩
theorem good42 : ∀ d, tab 42 = some d → Good Tryz.prog tab 42 d := fun d h => by
 cases h
 exact ⟨⟨_, _, _, Tryz.typeInfo42, rfl, rfl, rfl, rfl, fun _ _ _ => by exact (.nil .nl)⟩, Tryz.isAgg42, (fun _ => rfl), rfl, Tryz.underlying42, (fun h => by cases h)⟩
theorem good44 : ∀ d, tab 44 = some d → Good Tryz.prog tab 44 d := fun d h => by
 cases h
 exact ⟨⟨_, _, _, Tryz.typeInfo44, rfl, rfl, rfl, rfl, fun _ _ _ => by exact (.int (.nil (.nil (.int (.nil (.str (Nat.zero_le _) .nl))))))⟩, Tryz.isAgg44, (fun h => by cases h), rfl, ⟨_, Tryz.underlying44, rfl, rfl⟩, (fun h => by cases h)⟩
theorem good47 : ∀ d, tab 47 = some d → Good Tryz.prog tab 47 d := fun d h => by
 cases h
 exact ⟨⟨_, _, _, Tryz.typeInfo47, rfl, rfl, rfl, rfl, fun _ _ _ => by exact (.raw rfl .nl)⟩, Tryz.isAgg47, (fun _ => rfl), rfl, ⟨_, Tryz.underlying47⟩, (fun h => by cases h)⟩
theorem good54 : ∀ d, tab 54 = some d → Good Tryz.prog tab 54 d := fun d h => by
 cases h
 exact ⟨⟨_, _, _, Tryz.typeInfo54, rfl, rfl, rfl, rfl, fun _ _ _ => by exact (.str (Nat.zero_le _) (.int (.int (.int .nl))))⟩, Tryz.isAgg54, (fun h => by cases h), rfl, ⟨_, Tryz.underlying54, rfl, rfl⟩, (fun _ => ⟨by kernel_rfl, by exact (CmpAt.struct (by kernel_rfl) (by kernel_rfl) (by rw [fieldsL Tryz.underlying54]; exact ⟨false, [.str []], _, rfl, by decide, rfl, Tryz.isAgg9, sizeOf_of Tryz.typeInfo9 rfl, by decide, (CmpAt.str Tryz.underlying9), ⟨false, [.int .i64 0], _, rfl, by decide, rfl, Tryz.isAgg3, sizeOf_of Tryz.typeInfo3 rfl, by decide, (CmpAt.int Tryz.underlying3), ⟨false, [.int .i64 0], _, rfl, by decide, rfl, Tryz.isAgg3, sizeOf_of Tryz.typeInfo3 rfl, by decide, (CmpAt.int Tryz.underlying3), ⟨false, [.int .i64 0], _, rfl, by decide, rfl, Tryz.isAgg3, sizeOf_of Tryz.typeInfo3 rfl, by decide, (CmpAt.int Tryz.underlying3), rfl⟩⟩⟩⟩))⟩)⟩
theorem good72 : ∀ d, tab 72 = some d → Good Tryz.prog tab 72 d := fun d h => by
 cases h
 exact ⟨⟨_, _, _, Tryz.typeInfo72, rfl, rfl, rfl, rfl, fun _ _ _ => by exact (.nil .nl)⟩, Tryz.isAgg72, (fun _ => rfl), rfl, Tryz.underlying72, (fun h => by cases h)⟩
theorem good76 : ∀ d, tab 76 = some d → Good Tryz.prog tab 76 d := fun d h => by
 cases h
 exact ⟨⟨_, _, _, Tryz.typeInfo76, rfl, rfl, rfl, rfl, fun _ _ _ => by exact (.nil .nl)⟩, Tryz.isAgg76, (fun _ => rfl), rfl, Tryz.underlying76, (fun h => by cases h)⟩
theorem good78 : ∀ d, tab 78 = some d → Good Tryz.prog tab 78 d := fun d h => by
 cases h
 exact ⟨⟨_, _, _, Tryz.typeInfo78, rfl, rfl, rfl, rfl, fun _ _ _ => by exact (.nil .nl)⟩, Tryz.isAgg78, (fun h => by cases h), rfl, ⟨_, Tryz.underlying78, rfl, rfl⟩, (fun h => by cases h)⟩
theorem good80 : ∀ d, tab 80 = some d → Good Tryz.prog tab 80 d := fun d h => by
 cases h
 exact ⟨⟨_, _, _, Tryz.typeInfo80, rfl, rfl, rfl, rfl, fun _ _ _ => by exact (.nil .nl)⟩, Tryz.isAgg80, (fun _ => rfl), rfl, Tryz.underlying80, (fun h => by cases h)⟩
theorem good102 : ∀ d, tab 102 = some d → Good Tryz.prog tab 102 d := fun d h => by
 cases h
 exact ⟨⟨_, _, _, Tryz.typeInfo102, rfl, rfl, rfl, rfl, fun _ _ _ => by exact (.str (Nat.zero_le _) (.nil .nl))⟩, Tryz.isAgg102, (fun h => by cases h), rfl, ⟨_, Tryz.underlying102, rfl, rfl⟩, (fun h => by cases h)⟩
theorem good151 : ∀ d, tab 151 = some d → Good Tryz.prog tab 151 d := fun d h => by
 cases h
 exact ⟨⟨_, _, _, Tryz.typeInfo151, rfl, rfl, rfl, rfl, fun _ _ _ => by exact (.str (Nat.zero_le _) (.int (.int (.int .nl))))⟩, Tryz.isAgg151, (fun h => by cases h), rfl, ⟨_, Tryz.underlying151, rfl, rfl⟩, (fun _ => ⟨by kernel_rfl, by exact (CmpAt.struct (by kernel_rfl) (by kernel_rfl) (by rw [fieldsL Tryz.underlying151]; exact ⟨false, [.str []], _, rfl, by decide, rfl, Tryz.isAgg9, sizeOf_of Tryz.typeInfo9 rfl, by decide, (CmpAt.str Tryz.underlying9), ⟨false, [.int .i64 0], _, rfl, by decide, rfl, Tryz.isAgg3, sizeOf_of Tryz.typeInfo3 rfl, by decide, (CmpAt.int Tryz.underlying3), ⟨false, [.int .i64 0], _, rfl, by decide, rfl, Tryz.isAgg3, sizeOf_of Tryz.typeInfo3 rfl, by decide, (CmpAt.int Tryz.underlying3), ⟨false, [.int .i64 0], _, rfl, by decide, rfl, Tryz.isAgg3, sizeOf_of Tryz.typeInfo3 rfl, by decide, (CmpAt.int Tryz.underlying3), rfl⟩⟩⟩⟩))⟩)⟩
theorem tabOk : TabOk Tryz.prog tab := tabOk_of ⟨good3 _ rfl, good5 _ rfl, good9 _ rfl, good30 _ rfl, good38 _ rfl, good41 _ rfl, good42 _ rfl, good44 _ rfl, good47 _ rfl, good54 _ rfl, good72 _ rfl, good76 _ rfl, good78 _ rfl, good80 _ rfl, good102 _ rfl, good151 _ rfl, trivial⟩
end Go.Proofs.YtpmjnbidmcnhnaaGreatDoor.T3
