/- part -/
import Derived.Test.YtpmjnbidmcnhnaaGreatDoorL1
import Derived.Test.YtpmjnbidmcnhnaaGreatDoorProg
import Derived.KernelRfl
set_option linter.unusedVariables false
set_option linter.unusedSimpArgs false
section
namespace Go.Proofs.YtpmjnbidmcnhnaaGreatDoor
open Go Go.AM Go.Nest
def tabL : List (Nat × TD) := [
 (3, ⟨1, false, 8, (.int .i64), [.int .i64 0], false, Int, encI⟩),
 (4, ⟨1, false, 1, .bool, [.bool false], false, Bool, encBo⟩),
 (5, ⟨1, false, 1, (.int .u8), [.int .u8 0], false, UInt8, bytesC⟩),
 (9, ⟨1, false, 16, .str, [.str []], false, (List UInt8), encS⟩),
 (21, ⟨1, false, 4, (.int .i32), [.int .i32 0], false, Unit, (fun _ => [])⟩),
 (22, ⟨1, false, 24, (.sl 104), [.nil], false, (List Sn), (encL 3 encSn)⟩),
 (23, ⟨1, false, 24, (.sl 110), [.nil], false, (List Mt), (encL 4 encMt)⟩),
 (24, ⟨1, false, 24, (.sl 36), [.nil], false, (List Dt), (encL 9 encDt)⟩),
 (28, ⟨1, false, 8, .ptr, [.raw (.pointer none)], false, Unit, (fun _ => [])⟩),
 (29, ⟨1, false, 8, .ptr, [.raw (.pointer none)], false, Unit, (fun _ => [])⟩),
 (30, ⟨1, false, 24, (.sl 3), [.nil], false, (List Int), (encL 1 encI)⟩),
 (34, ⟨4, true, 96, (.arr 4 30), [.nil, .nil, .nil, .nil], false, Unit, (fun _ => [])⟩),
 (36, ⟨9, true, 136, (.struct [(3, 0), (3, 1), (3, 2), (3, 3), (4, 4), (34, 5)]), [.int .i64 0, .int .i64 0, .int .i64 0, .int .i64 0, .bool false, .nil, .nil, .nil, .nil], false, Dt, encDt⟩),
 (38, ⟨1, false, 24, (.sl 54), [.nil], false, (List Fi), (encL 4 encFi)⟩),
 (41, ⟨1, false, 24, (.sl 5), [.nil], false, (List UInt8), (encL 1 bytesC)⟩),
 (42, ⟨1, false, 24, (.sl 151), [.nil], false, (List Ent), (encL 4 encEn)⟩),
 (44, ⟨6, true, 104, (.struct [(3, 0), (41, 1), (42, 2), (3, 3), (30, 4), (9, 5)]), [.int .i64 0, .nil, .nil, .int .i64 0, .nil, .str []], false, Ob, encOb⟩),
 (47, ⟨1, false, 8, .ptr, [.raw (.pointer none)], false, Unit, (fun _ => [])⟩),
 (48, ⟨1, false, 24, (.sl 4), [.nil], false, (List Bool), (encL 1 encBo)⟩),
 (49, ⟨4, true, 96, (.arr 4 48), [.nil, .nil, .nil, .nil], false, Unit, (fun _ => [])⟩),
 (51, ⟨9, true, 200, (.struct [(47, 0), (49, 1), (34, 5)]), [.raw (.pointer none), .nil, .nil, .nil, .nil, .nil, .nil, .nil, .nil], false, Unit, (fun _ => [])⟩),
 (54, ⟨4, true, 40, (.struct [(9, 0), (3, 1), (3, 2), (3, 3)]), [.str [], .int .i64 0, .int .i64 0, .int .i64 0], true, Fi, encFi⟩),
 (60, ⟨1, false, 8, .ptr, [.raw (.pointer none)], false, Unit, (fun _ => [])⟩),
 (62, ⟨9, true, 200, (.struct [(60, 0), (34, 1), (34, 5)]), [.raw (.pointer none), .nil, .nil, .nil, .nil, .nil, .nil, .nil, .nil], false, Unit, (fun _ => [])⟩),
 (68, ⟨1, false, 24, (.sl 38), [.nil], false, (List (List Fi)), (encL 1 (encL 4 encFi))⟩),
 (69, ⟨4, true, 96, (.arr 4 68), [.nil, .nil, .nil, .nil], false, Unit, (fun _ => [])⟩),
 (72, ⟨1, false, 24, (.sl 102), [.nil], false, (List Dc), (encL 2 encDc)⟩),
 (73, ⟨3, true, 72, (.arr 3 72), [.nil, .nil, .nil], false, (Int × Int × Int), encTr⟩),
 (76, ⟨1, false, 24, (.sl 44), [.nil], false, (List Ob), (encL 6 encOb)⟩),
 (78, ⟨1, true, 24, (.struct [(76, 0)]), [.nil], false, Unit, (fun _ => [])⟩),
 (80, ⟨1, false, 24, (.sl 9), [.nil], false, (List (List UInt8)), (encL 1 encS)⟩),
 (87, ⟨1, false, 8, (.int .u64), [.int .u64 0], false, Unit, (fun _ => [])⟩),
 (88, ⟨3, true, 72, (.arr 3 38), [.nil, .nil, .nil], false, (Int × Int × Int), encTr⟩),
 (102, ⟨2, true, 40, (.struct [(9, 0), (41, 1)]), [.str [], .nil], false, Dc, encDc⟩),
 (104, ⟨3, true, 64, (.struct [(72, 0), (30, 1), (9, 2)]), [.nil, .nil, .str []], false, Sn, encSn⟩),
 (110, ⟨4, true, 40, (.struct [(3, 0), (3, 1), (3, 2), (9, 3)]), [.int .i64 0, .int .i64 0, .int .i64 0, .str []], true, Mt, encMt⟩),
 (121, ⟨1, true, 24, (.struct [(76, 0)]), [.nil], false, Unit, (fun _ => [])⟩),
 (128, ⟨1, false, 24, (.sl 130), [.nil], false, (List (Int × Int)), (encL 2 encPr)⟩),
 (130, ⟨2, true, 16, (.arr 2 3), [.int .i64 0, .int .i64 0], false, (Int × Int), encPr⟩),
 (138, ⟨4, true, 64, (.struct [(47, 0), (38, 1), (80, 2), (3, 3)]), [.raw (.pointer none), .nil, .nil, .int .i64 0], false, Unit, (fun _ => [])⟩),
 (142, ⟨1, false, 24, (.sl 41), [.nil], false, (List (List UInt8)), (encL 1 (encL 1 bytesC))⟩),
 (151, ⟨4, true, 40, (.struct [(9, 0), (3, 1), (3, 2), (3, 3)]), [.str [], .int .i64 0, .int .i64 0, .int .i64 0], true, Ent, encEn⟩),
 (170, ⟨1, false, 24, (.sl 175), [.nil], false, (List (Int × Int)), (encL 2 encPr)⟩),
 (172, ⟨3, true, 24, (.arr 3 3), [.int .i64 0, .int .i64 0, .int .i64 0], false, (Int × Int × Int), encTr⟩),
 (173, ⟨1, false, 24, (.sl 172), [.nil], false, (List (Int × Int × Int)), (encL 3 encTr)⟩),
 (175, ⟨2, true, 16, (.struct [(3, 0), (3, 1)]), [.int .i64 0, .int .i64 0], true, (Int × Int), encPr⟩),
 (190, ⟨1, false, 24, (.sl 30), [.nil], false, (List (List Int)), (encL 1 (encL 1 encI))⟩),
 (194, ⟨1, false, 8, .ptr, [.raw (.pointer none)], false, Unit, (fun _ => [])⟩),
 (196, ⟨2, true, 32, (.struct [(194, 0), (41, 1)]), [.raw (.pointer none), .nil], false, Unit, (fun _ => [])⟩),
 (204, ⟨1, false, 8, (.int .i64), [.int .i64 0], false, Int, encI⟩),
 (212, ⟨1, false, 4, (.int .u32), [.int .u32 0], false, Unit, (fun _ => [])⟩),
 (214, ⟨1, false, 8, (.int .u64), [.int .u64 0], false, Unit, (fun _ => [])⟩),
 (215, ⟨1, false, 24, (.sl 228), [.nil], false, (List (Int × Int)), (encL 2 encPr)⟩),
 (221, ⟨1, false, 8, .ptr, [.raw (.pointer none)], false, Unit, (fun _ => [])⟩),
 (222, ⟨1, false, 8, (.int .u64), [.int .u64 0], false, Unit, (fun _ => [])⟩),
 (228, ⟨2, true, 16, (.struct [(3, 0), (3, 1)]), [.int .i64 0, .int .i64 0], true, (Int × Int), encPr⟩),
 (235, ⟨1, false, 8, .other, [.raw (.pointer none)], false, Unit, (fun _ => [])⟩),
 (243, ⟨2, true, 2, (.struct [(5, 0), (5, 1)]), [.int .u8 0, .int .u8 0], false, Unit, (fun _ => [])⟩),
 (244, ⟨32, true, 32, (.arr 16 243), [.int .u8 0, .int .u8 0, .int .u8 0, .int .u8 0, .int .u8 0, .int .u8 0, .int .u8 0, .int .u8 0, .int .u8 0, .int .u8 0, .int .u8 0, .int .u8 0, .int .u8 0, .int .u8 0, .int .u8 0, .int .u8 0, .int .u8 0, .int .u8 0, .int .u8 0, .int .u8 0, .int .u8 0, .int .u8 0, .int .u8 0, .int .u8 0, .int .u8 0, .int .u8 0, .int .u8 0, .int .u8 0, .int .u8 0, .int .u8 0, .int .u8 0, .int .u8 0], false, Unit, (fun _ => [])⟩)]
def tab : Nat → Option TD := lkT tabL
theorem good3 : ∀ d, tab 3 = some d → Good Tryz.prog tab 3 d := fun d h => by
 cases h
 exact ⟨⟨_, _, _, Tryz.typeInfo3, rfl, rfl, rfl, rfl, fun _ _ _ => by exact (.int .nl)⟩, Tryz.isAgg3, (fun _ => rfl), rfl, Tryz.underlying3, (fun h => by cases h)⟩
theorem good4 : ∀ d, tab 4 = some d → Good Tryz.prog tab 4 d := fun d h => by
 cases h
 exact ⟨⟨_, _, _, Tryz.typeInfo4, rfl, rfl, rfl, rfl, fun _ _ _ => by exact (.bool .nl)⟩, Tryz.isAgg4, (fun _ => rfl), rfl, Tryz.underlying4, (fun h => by cases h)⟩
theorem good5 : ∀ d, tab 5 = some d → Good Tryz.prog tab 5 d := fun d h => by
 cases h
 exact ⟨⟨_, _, _, Tryz.typeInfo5, rfl, rfl, rfl, rfl, fun _ _ _ => by exact (.int .nl)⟩, Tryz.isAgg5, (fun _ => rfl), rfl, Tryz.underlying5, (fun h => by cases h)⟩
theorem good9 : ∀ d, tab 9 = some d → Good Tryz.prog tab 9 d := fun d h => by
 cases h
 exact ⟨⟨_, _, _, Tryz.typeInfo9, rfl, rfl, rfl, rfl, fun _ _ _ => by exact (.str (Nat.zero_le _) .nl)⟩, Tryz.isAgg9, (fun _ => rfl), rfl, Tryz.underlying9, (fun h => by cases h)⟩
theorem good21 : ∀ d, tab 21 = some d → Good Tryz.prog tab 21 d := fun d h => by
 cases h
 exact ⟨⟨_, _, _, Tryz.typeInfo21, rfl, rfl, rfl, rfl, fun _ _ _ => by exact (.int .nl)⟩, Tryz.isAgg21, (fun _ => rfl), rfl, Tryz.underlying21, (fun h => by cases h)⟩
theorem good22 : ∀ d, tab 22 = some d → Good Tryz.prog tab 22 d := fun d h => by
 cases h
 exact ⟨⟨_, _, _, Tryz.typeInfo22, rfl, rfl, rfl, rfl, fun _ _ _ => by exact (.nil .nl)⟩, Tryz.isAgg22, (fun _ => rfl), rfl, Tryz.underlying22, (fun h => by cases h)⟩
theorem good23 : ∀ d, tab 23 = some d → Good Tryz.prog tab 23 d := fun d h => by
 cases h
 exact ⟨⟨_, _, _, Tryz.typeInfo23, rfl, rfl, rfl, rfl, fun _ _ _ => by exact (.nil .nl)⟩, Tryz.isAgg23, (fun _ => rfl), rfl, Tryz.underlying23, (fun h => by cases h)⟩
theorem good24 : ∀ d, tab 24 = some d → Good Tryz.prog tab 24 d := fun d h => by
 cases h
 exact ⟨⟨_, _, _, Tryz.typeInfo24, rfl, rfl, rfl, rfl, fun _ _ _ => by exact (.nil .nl)⟩, Tryz.isAgg24, (fun _ => rfl), rfl, Tryz.underlying24, (fun h => by cases h)⟩
theorem good28 : ∀ d, tab 28 = some d → Good Tryz.prog tab 28 d := fun d h => by
 cases h
 exact ⟨⟨_, _, _, Tryz.typeInfo28, rfl, rfl, rfl, rfl, fun _ _ _ => by exact (.raw rfl .nl)⟩, Tryz.isAgg28, (fun _ => rfl), rfl, ⟨_, Tryz.underlying28⟩, (fun h => by cases h)⟩
theorem good29 : ∀ d, tab 29 = some d → Good Tryz.prog tab 29 d := fun d h => by
 cases h
 exact ⟨⟨_, _, _, Tryz.typeInfo29, rfl, rfl, rfl, rfl, fun _ _ _ => by exact (.raw rfl .nl)⟩, Tryz.isAgg29, (fun _ => rfl), rfl, ⟨_, Tryz.underlying29⟩, (fun h => by cases h)⟩
theorem good30 : ∀ d, tab 30 = some d → Good Tryz.prog tab 30 d := fun d h => by
 cases h
 exact ⟨⟨_, _, _, Tryz.typeInfo30, rfl, rfl, rfl, rfl, fun _ _ _ => by exact (.nil .nl)⟩, Tryz.isAgg30, (fun _ => rfl), rfl, Tryz.underlying30, (fun h => by cases h)⟩
theorem good34 : ∀ d, tab 34 = some d → Good Tryz.prog tab 34 d := fun d h => by
 cases h
 exact ⟨⟨_, _, _, Tryz.typeInfo34, rfl, rfl, rfl, rfl, fun _ _ _ => by exact (.nil (.nil (.nil (.nil .nl))))⟩, Tryz.isAgg34, (fun h => by cases h), rfl, Tryz.underlying34, (fun h => by cases h)⟩
theorem good36 : ∀ d, tab 36 = some d → Good Tryz.prog tab 36 d := fun d h => by
 cases h
 exact ⟨⟨_, _, _, Tryz.typeInfo36, rfl, rfl, rfl, rfl, fun _ _ _ => by exact (.int (.int (.int (.int (.bool (.nil (.nil (.nil (.nil .nl)))))))))⟩, Tryz.isAgg36, (fun h => by cases h), rfl, ⟨_, Tryz.underlying36, rfl, rfl⟩, (fun h => by cases h)⟩
theorem good38 : ∀ d, tab 38 = some d → Good Tryz.prog tab 38 d := fun d h => by
 cases h
 exact ⟨⟨_, _, _, Tryz.typeInfo38, rfl, rfl, rfl, rfl, fun _ _ _ => by exact (.nil .nl)⟩, Tryz.isAgg38, (fun _ => rfl), rfl, Tryz.underlying38, (fun h => by cases h)⟩
theorem good41 : ∀ d, tab 41 = some d → Good Tryz.prog tab 41 d := fun d h => by
 cases h
 exact ⟨⟨_, _, _, Tryz.typeInfo41, rfl, rfl, rfl, rfl, fun _ _ _ => by exact (.nil .nl)⟩, Tryz.isAgg41, (fun _ => rfl), rfl, Tryz.underlying41, (fun h => by cases h)⟩
theorem good42 : ∀ d, tab 42 = some d → Good Tryz.prog tab 42 d := fun d h => by
 cases h
 exact ⟨⟨_, _, _, Tryz.typeInfo42, rfl, rfl, rfl, rfl, fun _ _ _ => by exact (.nil .nl)⟩, Tryz.isAgg42, (fun _ => rfl), rfl, Tryz.underlying42, (fun h => by cases h)⟩
theorem good44 : ∀ d, tab 44 = some d → Good Tryz.prog tab 44 d := fun d h => by
 cases h
 exact ⟨⟨_, _, _, Tryz.typeInfo44, rfl, rfl, rfl, rfl, fun _ _ _ => by exact (.int (.nil (.nil (.int (.nil (.str (Nat.zero_le _) .nl))))))⟩, Tryz.isAgg44, (fun h => by cases h), rfl, ⟨_, Tryz.underlying44, rfl, rfl⟩, (fun h => by cases h)⟩
theorem good47 : ∀ d, tab 47 = some d → Good Tryz.prog tab 47 d := fun d h => by
 cases h
 exact ⟨⟨_, _, _, Tryz.typeInfo47, rfl, rfl, rfl, rfl, fun _ _ _ => by exact (.raw rfl .nl)⟩, Tryz.isAgg47, (fun _ => rfl), rfl, ⟨_, Tryz.underlying47⟩, (fun h => by cases h)⟩
theorem good48 : ∀ d, tab 48 = some d → Good Tryz.prog tab 48 d := fun d h => by
 cases h
 exact ⟨⟨_, _, _, Tryz.typeInfo48, rfl, rfl, rfl, rfl, fun _ _ _ => by exact (.nil .nl)⟩, Tryz.isAgg48, (fun _ => rfl), rfl, Tryz.underlying48, (fun h => by cases h)⟩
theorem good49 : ∀ d, tab 49 = some d → Good Tryz.prog tab 49 d := fun d h => by
 cases h
 exact ⟨⟨_, _, _, Tryz.typeInfo49, rfl, rfl, rfl, rfl, fun _ _ _ => by exact (.nil (.nil (.nil (.nil .nl))))⟩, Tryz.isAgg49, (fun h => by cases h), rfl, Tryz.underlying49, (fun h => by cases h)⟩
theorem good51 : ∀ d, tab 51 = some d → Good Tryz.prog tab 51 d := fun d h => by
 cases h
 exact ⟨⟨_, _, _, Tryz.typeInfo51, rfl, rfl, rfl, rfl, fun _ _ _ => by exact (.raw rfl (.nil (.nil (.nil (.nil (.nil (.nil (.nil (.nil .nl)))))))))⟩, Tryz.isAgg51, (fun h => by cases h), rfl, ⟨_, Tryz.underlying51, rfl, rfl⟩, (fun h => by cases h)⟩
theorem good54 : ∀ d, tab 54 = some d → Good Tryz.prog tab 54 d := fun d h => by
 cases h
 exact ⟨⟨_, _, _, Tryz.typeInfo54, rfl, rfl, rfl, rfl, fun _ _ _ => by exact (.str (Nat.zero_le _) (.int (.int (.int .nl))))⟩, Tryz.isAgg54, (fun h => by cases h), rfl, ⟨_, Tryz.underlying54, rfl, rfl⟩, (fun _ => ⟨by kernel_rfl, by exact (CmpAt.struct (by kernel_rfl) (by kernel_rfl) (by rw [fieldsL Tryz.underlying54]; exact ⟨false, [.str []], _, rfl, by decide, rfl, Tryz.isAgg9, sizeOf_of Tryz.typeInfo9 rfl, by decide, (CmpAt.str Tryz.underlying9), ⟨false, [.int .i64 0], _, rfl, by decide, rfl, Tryz.isAgg3, sizeOf_of Tryz.typeInfo3 rfl, by decide, (CmpAt.int Tryz.underlying3), ⟨false, [.int .i64 0], _, rfl, by decide, rfl, Tryz.isAgg3, sizeOf_of Tryz.typeInfo3 rfl, by decide, (CmpAt.int Tryz.underlying3), ⟨false, [.int .i64 0], _, rfl, by decide, rfl, Tryz.isAgg3, sizeOf_of Tryz.typeInfo3 rfl, by decide, (CmpAt.int Tryz.underlying3), rfl⟩⟩⟩⟩))⟩)⟩
theorem good60 : ∀ d, tab 60 = some d → Good Tryz.prog tab 60 d := fun d h => by
 cases h
 exact ⟨⟨_, _, _, Tryz.typeInfo60, rfl, rfl, rfl, rfl, fun _ _ _ => by exact (.raw rfl .nl)⟩, Tryz.isAgg60, (fun _ => rfl), rfl, ⟨_, Tryz.underlying60⟩, (fun h => by cases h)⟩
theorem good62 : ∀ d, tab 62 = some d → Good Tryz.prog tab 62 d := fun d h => by
 cases h
 exact ⟨⟨_, _, _, Tryz.typeInfo62, rfl, rfl, rfl, rfl, fun _ _ _ => by exact (.raw rfl (.nil (.nil (.nil (.nil (.nil (.nil (.nil (.nil .nl)))))))))⟩, Tryz.isAgg62, (fun h => by cases h), rfl, ⟨_, Tryz.underlying62, rfl, rfl⟩, (fun h => by cases h)⟩
theorem good68 : ∀ d, tab 68 = some d → Good Tryz.prog tab 68 d := fun d h => by
 cases h
 exact ⟨⟨_, _, _, Tryz.typeInfo68, rfl, rfl, rfl, rfl, fun _ _ _ => by exact (.nil .nl)⟩, Tryz.isAgg68, (fun _ => rfl), rfl, Tryz.underlying68, (fun h => by cases h)⟩
theorem good69 : ∀ d, tab 69 = some d → Good Tryz.prog tab 69 d := fun d h => by
 cases h
 exact ⟨⟨_, _, _, Tryz.typeInfo69, rfl, rfl, rfl, rfl, fun _ _ _ => by exact (.nil (.nil (.nil (.nil .nl))))⟩, Tryz.isAgg69, (fun h => by cases h), rfl, Tryz.underlying69, (fun h => by cases h)⟩
theorem good72 : ∀ d, tab 72 = some d → Good Tryz.prog tab 72 d := fun d h => by
 cases h
 exact ⟨⟨_, _, _, Tryz.typeInfo72, rfl, rfl, rfl, rfl, fun _ _ _ => by exact (.nil .nl)⟩, Tryz.isAgg72, (fun _ => rfl), rfl, Tryz.underlying72, (fun h => by cases h)⟩
theorem good73 : ∀ d, tab 73 = some d → Good Tryz.prog tab 73 d := fun d h => by
 cases h
 exact ⟨⟨_, _, _, Tryz.typeInfo73, rfl, rfl, rfl, rfl, fun _ _ _ => by exact (.nil (.nil (.nil .nl)))⟩, Tryz.isAgg73, (fun h => by cases h), rfl, Tryz.underlying73, (fun h => by cases h)⟩
theorem good76 : ∀ d, tab 76 = some d → Good Tryz.prog tab 76 d := fun d h => by
 cases h
 exact ⟨⟨_, _, _, Tryz.typeInfo76, rfl, rfl, rfl, rfl, fun _ _ _ => by exact (.nil .nl)⟩, Tryz.isAgg76, (fun _ => rfl), rfl, Tryz.underlying76, (fun h => by cases h)⟩
theorem good78 : ∀ d, tab 78 = some d → Good Tryz.prog tab 78 d := fun d h => by
 cases h
 exact ⟨⟨_, _, _, Tryz.typeInfo78, rfl, rfl, rfl, rfl, fun _ _ _ => by exact (.nil .nl)⟩, Tryz.isAgg78, (fun h => by cases h), rfl, ⟨_, Tryz.underlying78, rfl, rfl⟩, (fun h => by cases h)⟩
theorem good80 : ∀ d, tab 80 = some d → Good Tryz.prog tab 80 d := fun d h => by
 cases h
 exact ⟨⟨_, _, _, Tryz.typeInfo80, rfl, rfl, rfl, rfl, fun _ _ _ => by exact (.nil .nl)⟩, Tryz.isAgg80, (fun _ => rfl), rfl, Tryz.underlying80, (fun h => by cases h)⟩
theorem good87 : ∀ d, tab 87 = some d → Good Tryz.prog tab 87 d := fun d h => by
 cases h
 exact ⟨⟨_, _, _, Tryz.typeInfo87, rfl, rfl, rfl, rfl, fun _ _ _ => by exact (.int .nl)⟩, Tryz.isAgg87, (fun _ => rfl), rfl, Tryz.underlying87, (fun h => by cases h)⟩
theorem good88 : ∀ d, tab 88 = some d → Good Tryz.prog tab 88 d := fun d h => by
 cases h
 exact ⟨⟨_, _, _, Tryz.typeInfo88, rfl, rfl, rfl, rfl, fun _ _ _ => by exact (.nil (.nil (.nil .nl)))⟩, Tryz.isAgg88, (fun h => by cases h), rfl, Tryz.underlying88, (fun h => by cases h)⟩
theorem good102 : ∀ d, tab 102 = some d → Good Tryz.prog tab 102 d := fun d h => by
 cases h
 exact ⟨⟨_, _, _, Tryz.typeInfo102, rfl, rfl, rfl, rfl, fun _ _ _ => by exact (.str (Nat.zero_le _) (.nil .nl))⟩, Tryz.isAgg102, (fun h => by cases h), rfl, ⟨_, Tryz.underlying102, rfl, rfl⟩, (fun h => by cases h)⟩
theorem good104 : ∀ d, tab 104 = some d → Good Tryz.prog tab 104 d := fun d h => by
 cases h
 exact ⟨⟨_, _, _, Tryz.typeInfo104, rfl, rfl, rfl, rfl, fun _ _ _ => by exact (.nil (.nil (.str (Nat.zero_le _) .nl)))⟩, Tryz.isAgg104, (fun h => by cases h), rfl, ⟨_, Tryz.underlying104, rfl, rfl⟩, (fun h => by cases h)⟩
theorem good110 : ∀ d, tab 110 = some d → Good Tryz.prog tab 110 d := fun d h => by
 cases h
 exact ⟨⟨_, _, _, Tryz.typeInfo110, rfl, rfl, rfl, rfl, fun _ _ _ => by exact (.int (.int (.int (.str (Nat.zero_le _) .nl))))⟩, Tryz.isAgg110, (fun h => by cases h), rfl, ⟨_, Tryz.underlying110, rfl, rfl⟩, (fun _ => ⟨by kernel_rfl, by exact (CmpAt.struct (by kernel_rfl) (by kernel_rfl) (by rw [fieldsL Tryz.underlying110]; exact ⟨false, [.int .i64 0], _, rfl, by decide, rfl, Tryz.isAgg3, sizeOf_of Tryz.typeInfo3 rfl, by decide, (CmpAt.int Tryz.underlying3), ⟨false, [.int .i64 0], _, rfl, by decide, rfl, Tryz.isAgg3, sizeOf_of Tryz.typeInfo3 rfl, by decide, (CmpAt.int Tryz.underlying3), ⟨false, [.int .i64 0], _, rfl, by decide, rfl, Tryz.isAgg3, sizeOf_of Tryz.typeInfo3 rfl, by decide, (CmpAt.int Tryz.underlying3), ⟨false, [.str []], _, rfl, by decide, rfl, Tryz.isAgg9, sizeOf_of Tryz.typeInfo9 rfl, by decide, (CmpAt.str Tryz.underlying9), rfl⟩⟩⟩⟩))⟩)⟩
theorem good121 : ∀ d, tab 121 = some d → Good Tryz.prog tab 121 d := fun d h => by
 cases h
 exact ⟨⟨_, _, _, Tryz.typeInfo121, rfl, rfl, rfl, rfl, fun _ _ _ => by exact (.nil .nl)⟩, Tryz.isAgg121, (fun h => by cases h), rfl, ⟨_, Tryz.underlying121, rfl, rfl⟩, (fun h => by cases h)⟩
theorem good128 : ∀ d, tab 128 = some d → Good Tryz.prog tab 128 d := fun d h => by
 cases h
 exact ⟨⟨_, _, _, Tryz.typeInfo128, rfl, rfl, rfl, rfl, fun _ _ _ => by exact (.nil .nl)⟩, Tryz.isAgg128, (fun _ => rfl), rfl, Tryz.underlying128, (fun h => by cases h)⟩
theorem good130 : ∀ d, tab 130 = some d → Good Tryz.prog tab 130 d := fun d h => by
 cases h
 exact ⟨⟨_, _, _, Tryz.typeInfo130, rfl, rfl, rfl, rfl, fun _ _ _ => by exact (.int (.int .nl))⟩, Tryz.isAgg130, (fun h => by cases h), rfl, Tryz.underlying130, (fun h => by cases h)⟩
theorem good138 : ∀ d, tab 138 = some d → Good Tryz.prog tab 138 d := fun d h => by
 cases h
 exact ⟨⟨_, _, _, Tryz.typeInfo138, rfl, rfl, rfl, rfl, fun _ _ _ => by exact (.raw rfl (.nil (.nil (.int .nl))))⟩, Tryz.isAgg138, (fun h => by cases h), rfl, ⟨_, Tryz.underlying138, rfl, rfl⟩, (fun h => by cases h)⟩
theorem good142 : ∀ d, tab 142 = some d → Good Tryz.prog tab 142 d := fun d h => by
 cases h
 exact ⟨⟨_, _, _, Tryz.typeInfo142, rfl, rfl, rfl, rfl, fun _ _ _ => by exact (.nil .nl)⟩, Tryz.isAgg142, (fun _ => rfl), rfl, Tryz.underlying142, (fun h => by cases h)⟩
theorem good151 : ∀ d, tab 151 = some d → Good Tryz.prog tab 151 d := fun d h => by
 cases h
 exact ⟨⟨_, _, _, Tryz.typeInfo151, rfl, rfl, rfl, rfl, fun _ _ _ => by exact (.str (Nat.zero_le _) (.int (.int (.int .nl))))⟩, Tryz.isAgg151, (fun h => by cases h), rfl, ⟨_, Tryz.underlying151, rfl, rfl⟩, (fun _ => ⟨by kernel_rfl, by exact (CmpAt.struct (by kernel_rfl) (by kernel_rfl) (by rw [fieldsL Tryz.underlying151]; exact ⟨false, [.str []], _, rfl, by decide, rfl, Tryz.isAgg9, sizeOf_of Tryz.typeInfo9 rfl, by decide, (CmpAt.str Tryz.underlying9), ⟨false, [.int .i64 0], _, rfl, by decide, rfl, Tryz.isAgg3, sizeOf_of Tryz.typeInfo3 rfl, by decide, (CmpAt.int Tryz.underlying3), ⟨false, [.int .i64 0], _, rfl, by decide, rfl, Tryz.isAgg3, sizeOf_of Tryz.typeInfo3 rfl, by decide, (CmpAt.int Tryz.underlying3), ⟨false, [.int .i64 0], _, rfl, by decide, rfl, Tryz.isAgg3, sizeOf_of Tryz.typeInfo3 rfl, by decide, (CmpAt.int Tryz.underlying3), rfl⟩⟩⟩⟩))⟩)⟩
theorem good170 : ∀ d, tab 170 = some d → Good Tryz.prog tab 170 d := fun d h => by
 cases h
 exact ⟨⟨_, _, _, Tryz.typeInfo170, rfl, rfl, rfl, rfl, fun _ _ _ => by exact (.nil .nl)⟩, Tryz.isAgg170, (fun _ => rfl), rfl, Tryz.underlying170, (fun h => by cases h)⟩
theorem good172 : ∀ d, tab 172 = some d → Good Tryz.prog tab 172 d := fun d h => by
 cases h
 exact ⟨⟨_, _, _, Tryz.typeInfo172, rfl, rfl, rfl, rfl, fun _ _ _ => by exact (.int (.int (.int .nl)))⟩, Tryz.isAgg172, (fun h => by cases h), rfl, Tryz.underlying172, (fun h => by cases h)⟩
theorem good173 : ∀ d, tab 173 = some d → Good Tryz.prog tab 173 d := fun d h => by
 cases h
 exact ⟨⟨_, _, _, Tryz.typeInfo173, rfl, rfl, rfl, rfl, fun _ _ _ => by exact (.nil .nl)⟩, Tryz.isAgg173, (fun _ => rfl), rfl, Tryz.underlying173, (fun h => by cases h)⟩
theorem good175 : ∀ d, tab 175 = some d → Good Tryz.prog tab 175 d := fun d h => by
 cases h
 exact ⟨⟨_, _, _, Tryz.typeInfo175, rfl, rfl, rfl, rfl, fun _ _ _ => by exact (.int (.int .nl))⟩, Tryz.isAgg175, (fun h => by cases h), rfl, ⟨_, Tryz.underlying175, rfl, rfl⟩, (fun _ => ⟨by kernel_rfl, by exact (CmpAt.struct (by kernel_rfl) (by kernel_rfl) (by rw [fieldsL Tryz.underlying175]; exact ⟨false, [.int .i64 0], _, rfl, by decide, rfl, Tryz.isAgg3, sizeOf_of Tryz.typeInfo3 rfl, by decide, (CmpAt.int Tryz.underlying3), ⟨false, [.int .i64 0], _, rfl, by decide, rfl, Tryz.isAgg3, sizeOf_of Tryz.typeInfo3 rfl, by decide, (CmpAt.int Tryz.underlying3), rfl⟩⟩))⟩)⟩
theorem good190 : ∀ d, tab 190 = some d → Good Tryz.prog tab 190 d := fun d h => by
 cases h
 exact ⟨⟨_, _, _, Tryz.typeInfo190, rfl, rfl, rfl, rfl, fun _ _ _ => by exact (.nil .nl)⟩, Tryz.isAgg190, (fun _ => rfl), rfl, Tryz.underlying190, (fun h => by cases h)⟩
theorem good194 : ∀ d, tab 194 = some d → Good Tryz.prog tab 194 d := fun d h => by
 cases h
 exact ⟨⟨_, _, _, Tryz.typeInfo194, rfl, rfl, rfl, rfl, fun _ _ _ => by exact (.raw rfl .nl)⟩, Tryz.isAgg194, (fun _ => rfl), rfl, ⟨_, Tryz.underlying194⟩, (fun h => by cases h)⟩
theorem good196 : ∀ d, tab 196 = some d → Good Tryz.prog tab 196 d := fun d h => by
 cases h
 exact ⟨⟨_, _, _, Tryz.typeInfo196, rfl, rfl, rfl, rfl, fun _ _ _ => by exact (.raw rfl (.nil .nl))⟩, Tryz.isAgg196, (fun h => by cases h), rfl, ⟨_, Tryz.underlying196, rfl, rfl⟩, (fun h => by cases h)⟩
theorem good204 : ∀ d, tab 204 = some d → Good Tryz.prog tab 204 d := fun d h => by
 cases h
 exact ⟨⟨_, _, _, Tryz.typeInfo204, rfl, rfl, rfl, rfl, fun _ _ _ => by exact (.int .nl)⟩, Tryz.isAgg204, (fun _ => rfl), rfl, Tryz.underlying204, (fun h => by cases h)⟩
theorem good212 : ∀ d, tab 212 = some d → Good Tryz.prog tab 212 d := fun d h => by
 cases h
 exact ⟨⟨_, _, _, Tryz.typeInfo212, rfl, rfl, rfl, rfl, fun _ _ _ => by exact (.int .nl)⟩, Tryz.isAgg212, (fun _ => rfl), rfl, Tryz.underlying212, (fun h => by cases h)⟩
theorem good214 : ∀ d, tab 214 = some d → Good Tryz.prog tab 214 d := fun d h => by
 cases h
 exact ⟨⟨_, _, _, Tryz.typeInfo214, rfl, rfl, rfl, rfl, fun _ _ _ => by exact (.int .nl)⟩, Tryz.isAgg214, (fun _ => rfl), rfl, Tryz.underlying214, (fun h => by cases h)⟩
theorem good215 : ∀ d, tab 215 = some d → Good Tryz.prog tab 215 d := fun d h => by
 cases h
 exact ⟨⟨_, _, _, Tryz.typeInfo215, rfl, rfl, rfl, rfl, fun _ _ _ => by exact (.nil .nl)⟩, Tryz.isAgg215, (fun _ => rfl), rfl, Tryz.underlying215, (fun h => by cases h)⟩
theorem good221 : ∀ d, tab 221 = some d → Good Tryz.prog tab 221 d := fun d h => by
 cases h
 exact ⟨⟨_, _, _, Tryz.typeInfo221, rfl, rfl, rfl, rfl, fun _ _ _ => by exact (.raw rfl .nl)⟩, Tryz.isAgg221, (fun _ => rfl), rfl, ⟨_, Tryz.underlying221⟩, (fun h => by cases h)⟩
theorem good222 : ∀ d, tab 222 = some d → Good Tryz.prog tab 222 d := fun d h => by
 cases h
 exact ⟨⟨_, _, _, Tryz.typeInfo222, rfl, rfl, rfl, rfl, fun _ _ _ => by exact (.int .nl)⟩, Tryz.isAgg222, (fun _ => rfl), rfl, Tryz.underlying222, (fun h => by cases h)⟩
theorem good228 : ∀ d, tab 228 = some d → Good Tryz.prog tab 228 d := fun d h => by
 cases h
 exact ⟨⟨_, _, _, Tryz.typeInfo228, rfl, rfl, rfl, rfl, fun _ _ _ => by exact (.int (.int .nl))⟩, Tryz.isAgg228, (fun h => by cases h), rfl, ⟨_, Tryz.underlying228, rfl, rfl⟩, (fun _ => ⟨by kernel_rfl, by exact (CmpAt.struct (by kernel_rfl) (by kernel_rfl) (by rw [fieldsL Tryz.underlying228]; exact ⟨false, [.int .i64 0], _, rfl, by decide, rfl, Tryz.isAgg3, sizeOf_of Tryz.typeInfo3 rfl, by decide, (CmpAt.int Tryz.underlying3), ⟨false, [.int .i64 0], _, rfl, by decide, rfl, Tryz.isAgg3, sizeOf_of Tryz.typeInfo3 rfl, by decide, (CmpAt.int Tryz.underlying3), rfl⟩⟩))⟩)⟩
theorem good235 : ∀ d, tab 235 = some d → Good Tryz.prog tab 235 d := fun d h => by
 cases h
 exact ⟨⟨_, _, _, Tryz.typeInfo235, rfl, rfl, rfl, rfl, fun _ _ _ => by exact (.raw rfl .nl)⟩, Tryz.isAgg235, (fun _ => rfl), rfl, trivial, (fun h => by cases h)⟩
theorem good243 : ∀ d, tab 243 = some d → Good Tryz.prog tab 243 d := fun d h => by
 cases h
 exact ⟨⟨_, _, _, Tryz.typeInfo243, rfl, rfl, rfl, rfl, fun _ _ _ => by exact (.int (.int .nl))⟩, Tryz.isAgg243, (fun h => by cases h), rfl, ⟨_, Tryz.underlying243, rfl, rfl⟩, (fun h => by cases h)⟩
theorem good244 : ∀ d, tab 244 = some d → Good Tryz.prog tab 244 d := fun d h => by
 cases h
 exact ⟨⟨_, _, _, Tryz.typeInfo244, rfl, rfl, rfl, rfl, fun _ _ _ => by exact (.int (.int (.int (.int (.int (.int (.int (.int (.int (.int (.int (.int (.int (.int (.int (.int (.int (.int (.int (.int (.int (.int (.int (.int (.int (.int (.int (.int (.int (.int (.int (.int .nl))))))))))))))))))))))))))))))))⟩, Tryz.isAgg244, (fun h => by cases h), rfl, Tryz.underlying244, (fun h => by cases h)⟩
theorem tabOk : TabOk Tryz.prog tab := tabOk_of ⟨good3 _ rfl, good4 _ rfl, good5 _ rfl, good9 _ rfl, good21 _ rfl, good22 _ rfl, good23 _ rfl, good24 _ rfl, good28 _ rfl, good29 _ rfl, good30 _ rfl, good34 _ rfl, good36 _ rfl, good38 _ rfl, good41 _ rfl, good42 _ rfl, good44 _ rfl, good47 _ rfl, good48 _ rfl, good49 _ rfl, good51 _ rfl, good54 _ rfl, good60 _ rfl, good62 _ rfl, good68 _ rfl, good69 _ rfl, good72 _ rfl, good73 _ rfl, good76 _ rfl, good78 _ rfl, good80 _ rfl, good87 _ rfl, good88 _ rfl, good102 _ rfl, good104 _ rfl, good110 _ rfl, good121 _ rfl, good128 _ rfl, good130 _ rfl, good138 _ rfl, good142 _ rfl, good151 _ rfl, good170 _ rfl, good172 _ rfl, good173 _ rfl, good175 _ rfl, good190 _ rfl, good194 _ rfl, good196 _ rfl, good204 _ rfl, good212 _ rfl, good214 _ rfl, good215 _ rfl, good221 _ rfl, good222 _ rfl, good228 _ rfl, good235 _ rfl, good243 _ rfl, good244 _ rfl, trivial⟩
end Go.Proofs.YtpmjnbidmcnhnaaGreatDoor
end
/- part -/
section

namespace Go.Nest
open Go Go.AM Go.Proofs
open Go.Proofs.YtpmjnbidmcnhnaaGreatDoor (tab tabOk)
set_option maxRecDepth 4000
def odd (c : UInt8) : Bool := decide (c.toNat ≤ 32) || decide (c.toNat = 47) || decide (127 ≤ c.toNat)
def nameC (l : List UInt8) : Int := if l = [] ∨ l = [46] ∨ l = [46, 46] ∨ l.any odd then 2 else if 20 < l.length then 4 else 0
def shown (c : UInt8) : Bool := decide (32 ≤ c.toNat) && decide (c.toNat < 127)
theorem any_take {α : Type} {p : α → Bool} {l : List α} {i : Nat} (h : i < l.length) (h1 : (l.take i).any p = false) (h2 : p l[i] = false) : (l.take (i + 1)).any p = false := by
 rw [List.take_succ_eq_append_getElem h, List.any_append, h1]; simp [h2]
theorem any_at {α : Type} {p : α → Bool} {l : List α} {i : Nat} (h : i < l.length) (h2 : p l[i] = true) : l.any p = true :=
 List.any_eq_true.2 ⟨_, List.getElem_mem h, h2⟩
theorem name_spec (l : List UInt8) : Does Tryz.prog 126 [.c (.str l)] [] (Rt (.c (.int .i64 (nameC l))) []) := by
 refine X_spec (n := 39) (n0 := 0) tabOk Tryz.call126 Tryz.func126 ?_
 intro hb; have hb : l.length ≤ 9223372036854775807 := hb.1.1
 have bad : ∀ {i : Nat} (h : i < l.length), odd l[i] = true → (2 : Int) = nameC l := fun h h2 => by
  unfold nameC; rw [if_pos (.inr (.inr (.inr (any_at h h2))))]
 (conv => whnf)
 refine dec (fun (h : l = []) => ?_) (fun (h : ¬ l = []) => ?_)
 ·(conv => whnf); refine rtC ?_ rfl
  simp [nameC, h]
 (conv => whnf)
 refine dec (fun (h2 : l = [46]) => ?_) (fun (h2 : ¬ l = [46]) => ?_)
 ·(conv => whnf); refine rtC ?_ rfl
  simp [nameC, h2]
 (conv => whnf)
 refine dec (fun (h3 : l = [46, 46]) => ?_) (fun (h3 : ¬ l = [46, 46]) => ?_)
 ·(conv => whnf); refine rtC ?_ rfl
  simp [nameC, h3]
 (conv => whnf)
 refine lp Nat (fun i => ⟨[(0, .c (.str l)), (15, .c (.int .i64 l.length)), (16, .c (.int .i64 i))], []⟩) (fun i => i ≤ l.length ∧ (l.take i).any odd = false) (fun i => l.length - i) 0 [] [] ?_ ?_ (fun i hi => ?_)
 ·simp
 ·repeat' first | exact trivial | exact rfl | refine And.intro ?_ ?_
 (conv => whnf)
 refine dec (fun h4 => ?_) (fun h4 => ?_)
 ·have hlt : i < l.length := by omega
  (conv => whnf); refine ⟨i, l[i], rfl, List.getElem?_eq_getElem hlt, ?_⟩
  (conv => whnf); refine dec (fun h5 => ?_) (fun h5 => ?_)
  ·(conv => whnf); refine rtC ?_ rfl
   rw [← bad hlt (by simp [odd]; omega)]
  (conv => whnf); refine ⟨i, l[i], rfl, List.getElem?_eq_getElem hlt, ?_⟩
  (conv => whnf); refine dec (fun h6 => ?_) (fun h6 => ?_)
  ·(conv => whnf); refine rtC ?_ rfl
   rw [← bad hlt (by simp [odd]; omega)]
  (conv => whnf); refine ⟨i, l[i], rfl, List.getElem?_eq_getElem hlt, ?_⟩
  (conv => whnf); refine dec (fun h7 => ?_) (fun h7 => ?_)
  ·(conv => whnf); refine rtC ?_ rfl
   rw [← bad hlt (by simp [odd]; omega)]
  (conv => whnf); refine ⟨i64 (by omega) (by omega), ?_⟩
  (conv => whnf); refine ag (i + 1) [] [] ⟨hlt, any_take hlt hi.2 (by simp [odd]; omega)⟩ (by simp only []; omega) ?_
  repeat' first | exact trivial | exact rfl | refine And.intro ?_ ?_
 ·obtain rfl : i = l.length := by omega
  have ha : l.any odd = false := by simpa using hi.2
  (conv => whnf); refine dec (fun h5 => ?_) (fun h5 => ?_)
  ·(conv => whnf); refine rtC ?_ rfl
   unfold nameC; rw [if_neg (by simp [h, h2, h3, ha]), if_pos (by omega)]
  ·(conv => whnf); refine rtC ?_ rfl
   unfold nameC; rw [if_neg (by simp [h, h2, h3, ha]), if_neg (by omega)]
end Go.Nest
end
/- part -/
section

namespace Go.Nest
open Go Go.AM Go.Proofs
open Go.Proofs.YtpmjnbidmcnhnaaGreatDoor (tab tabOk)
set_option maxRecDepth 4000
theorem nameF_spec (l : List UInt8) : Does Tryz.prog 118 [.c (.str l)] [] (Rt (.c (.int .i64 (nameC l))) []) := by
 refine X_spec (n := 39) (n0 := 0) tabOk Tryz.call118 Tryz.func118 ?_
 intro hb; have hb : l.length ≤ 9223372036854775807 := hb.1.1
 have bad : ∀ {i : Nat} (h : i < l.length), odd l[i] = true → (2 : Int) = nameC l := fun h h2 => by
  unfold nameC; rw [if_pos (.inr (.inr (.inr (any_at h h2))))]
 (conv => whnf)
 refine dec (fun (h0 : l = []) => ?_) (fun (h0 : ¬ l = []) => ?_)
 ·(conv => whnf); refine rtC ?_ rfl; simp [nameC, h0]
 (conv => whnf)
 refine dec (fun (h2 : l = [46]) => ?_) (fun (h2 : ¬ l = [46]) => ?_)
 ·(conv => whnf); refine rtC ?_ rfl; simp [nameC, h2]
 (conv => whnf)
 refine dec (fun (h3 : l = [46, 46]) => ?_) (fun (h3 : ¬ l = [46, 46]) => ?_)
 ·(conv => whnf); refine rtC ?_ rfl; simp [nameC, h3]
 (conv => whnf)
 refine lp Nat (fun i => ⟨[(0, .c (.str l)), (3, .c (.int .i64 i))], []⟩) (fun i => i ≤ l.length ∧ (l.take i).any odd = false) (fun i => l.length - i) 0 [] [] ?_ ?_ (fun i hi => ?_)
 ·simp
 ·repeat' first | exact trivial | exact rfl | refine And.intro ?_ ?_
 (conv => whnf)
 refine dec (fun h4 => ?_) (fun h4 => ?_)
 ·have hlt : i < l.length := by omega
  repeat' ((conv => whnf); first | (refine dec (fun h => ?_) (fun h => ?_) <;> try contradiction) | (refine decN (fun h => ?_) (fun h => ?_) <;> try contradiction) | refine booN (fun h => ?_) (fun h => ?_) | refine boo (fun h => ?_) (fun h => ?_) | refine ⟨i64 (by omega) (by omega), ?_⟩ | refine ⟨_, _, rfl, List.getElem?_eq_getElem (by omega), ?_⟩ | refine ⟨_, ⟨rfl, by omega⟩, ?_⟩ | refine ⟨_, List.getElem?_eq_getElem (by omega), ?_⟩ | refine rtB ?_ | refine rtI ?_ | refine rtC ?_ rfl | fail)
  ·rw [← bad hlt (by simp [odd]; omega)]
  ·rw [← bad hlt (by simp [odd]; omega)]
  ·rw [← bad hlt (by simp [odd]; omega)]
  ·refine ag (i + 1) [] [] ⟨hlt, any_take hlt hi.2 (by simp [odd]; omega)⟩ (by simp only []; omega) ?_
   repeat' first | exact trivial | exact rfl | refine And.intro ?_ ?_
 ·obtain rfl : i = l.length := by omega
  have ha : l.any odd = false := by simpa using hi.2
  repeat' ((conv => whnf); first | (refine dec (fun h => ?_) (fun h => ?_) <;> try contradiction) | (refine decN (fun h => ?_) (fun h => ?_) <;> try contradiction) | refine booN (fun h => ?_) (fun h => ?_) | refine boo (fun h => ?_) (fun h => ?_) | refine ⟨i64 (by omega) (by omega), ?_⟩ | refine ⟨_, _, rfl, List.getElem?_eq_getElem (by omega), ?_⟩ | refine ⟨_, ⟨rfl, by omega⟩, ?_⟩ | refine ⟨_, List.getElem?_eq_getElem (by omega), ?_⟩ | refine rtB ?_ | refine rtI ?_ | refine rtC ?_ rfl | fail)
  ·unfold nameC; rw [if_neg (by simp [h0, h2, h3, ha]), if_pos (by omega)]
  ·unfold nameC; rw [if_neg (by simp [h0, h2, h3, ha]), if_neg (by omega)]
theorem visible_spec (l : List UInt8) : Does Tryz.prog 133 [.c (.str l)] [] (Rt (.c (.bool (l.all shown))) []) := by
 refine X_spec (n := 20) (n0 := 0) tabOk Tryz.call133 Tryz.func133 ?_
 intro hb; have hb : l.length ≤ 9223372036854775807 := hb.1.1
 (conv => whnf)
 refine lp Nat (fun i => ⟨[(0, .c (.str l)), (5, .c (.int .i64 l.length)), (6, .c (.int .i64 i))], []⟩) (fun i => i ≤ l.length ∧ (l.take i).all shown = true) (fun i => l.length - i) 0 [] [] ?_ ?_ (fun i hi => ?_)
 ·simp
 ·repeat' first | exact trivial | exact rfl | refine And.intro ?_ ?_
 have bad : ∀ (h : i < l.length), shown l[i] = false → false = l.all shown := fun h h2 => by
  symm; rw [Bool.eq_false_iff, Ne, List.all_eq_true]; intro h3; rw [h3 _ (List.getElem_mem h)] at h2; cases h2
 (conv => whnf)
 refine dec (fun h4 => ?_) (fun h4 => ?_)
 ·have hlt : i < l.length := by omega
  repeat' ((conv => whnf); first | (refine dec (fun h => ?_) (fun h => ?_) <;> try contradiction) | (refine decN (fun h => ?_) (fun h => ?_) <;> try contradiction) | refine booN (fun h => ?_) (fun h => ?_) | refine boo (fun h => ?_) (fun h => ?_) | refine ⟨i64 (by omega) (by omega), ?_⟩ | refine ⟨_, _, rfl, List.getElem?_eq_getElem (by omega), ?_⟩ | refine ⟨_, ⟨rfl, by omega⟩, ?_⟩ | refine ⟨_, List.getElem?_eq_getElem (by omega), ?_⟩ | refine rtB ?_ | refine rtI ?_ | refine rtC ?_ rfl | fail)
  ·rw [← bad hlt (by simp [shown]; omega)]
  ·rw [← bad hlt (by simp [shown]; omega)]
  ·refine ag (i + 1) [] [] ⟨hlt, ?_⟩ (by simp only []; omega) ?_
   ·rw [List.take_succ_eq_append_getElem hlt, List.all_append, hi.2]; simp [shown]; omega
   repeat' first | exact trivial | exact rfl | refine And.intro ?_ ?_
 ·obtain rfl : i = l.length := by omega
  have ha : l.all shown = true := by simpa using hi.2
  repeat' ((conv => whnf); first | (refine dec (fun h => ?_) (fun h => ?_) <;> try contradiction) | (refine decN (fun h => ?_) (fun h => ?_) <;> try contradiction) | refine booN (fun h => ?_) (fun h => ?_) | refine boo (fun h => ?_) (fun h => ?_) | refine ⟨i64 (by omega) (by omega), ?_⟩ | refine ⟨_, _, rfl, List.getElem?_eq_getElem (by omega), ?_⟩ | refine ⟨_, ⟨rfl, by omega⟩, ?_⟩ | refine ⟨_, List.getElem?_eq_getElem (by omega), ?_⟩ | refine rtB ?_ | refine rtI ?_ | refine rtC ?_ rfl | fail)
  rw [ha]
end Go.Nest
end
/- part -/
section

namespace Go.Nest
open Go Go.AM Go.Proofs
theorem ne_at {α : Type} [DecidableEq α] {l m : List α} {i : Nat} (h : i < l.length) (h' : i < m.length) (hne : ¬ l[i] = m[i]) : false = decide (l = m) := by
 symm; rw [decide_eq_false_iff_not]; intro e; subst e; exact hne rfl
theorem take_step {α : Type} {l m : List α} {i : Nat} (h : i < l.length) (h' : i < m.length) (ht : l.take i = m.take i) (he : l[i] = m[i]) : l.take (i + 1) = m.take (i + 1) := by
 rw [List.take_succ_eq_append_getElem h, List.take_succ_eq_append_getElem h', ht, he]
theorem take_end {α : Type} [DecidableEq α] {l m : List α} {i : Nat} (h : l.length ≤ i) (hl : l.length = m.length) (ht : l.take i = m.take i) : true = decide (l = m) := by
 symm; rw [decide_eq_true_iff]; rwa [List.take_of_length_le h, List.take_of_length_le (hl ▸ h)] at ht
theorem ne_len {α : Type} [DecidableEq α] {l m : List α} (h : ¬ (l.length : Int) = m.length) : false = decide (l = m) := by
 symm; rw [decide_eq_false_iff_not]; intro e; subst e; exact h rfl
theorem byte_eq {a b : UInt8} : (a.toNat : Int) = b.toNat ↔ a = b := by rw [Int.natCast_inj]; exact UInt8.toNat_inj
theorem eqEn {a b : Ent} : EqCs (encEn a) (encEn b) ↔ a = b := by
 cases a; cases b; simp [encEn, EqCs, EqC]
end Go.Nest
end
/- part -/
section

namespace Go.Nest
open Go Go.AM Go.Proofs
open Go.Proofs.YtpmjnbidmcnhnaaGreatDoor (tab tabOk)
set_option maxRecDepth 4000
theorem sameInts_spec (a b : List Int) : Does Tryz.prog 20 [.c (.bs 1 Int encI a), .c (.bs 1 Int encI b)] [] (Rt (.c (.bool (decide (a = b)))) []) := by
 refine X_spec (n := 26) (n0 := 0) tabOk Tryz.call20 Tryz.func20 ?_
 intro hb; have hb : a.length ≤ 9223372036854775807 := hb.1.1
 repeat' ((conv => whnf); first | (refine dec (fun h => ?_) (fun h => ?_) <;> try contradiction) | (refine decN (fun h => ?_) (fun h => ?_) <;> try contradiction) | refine booN (fun h => ?_) (fun h => ?_) | refine boo (fun h => ?_) (fun h => ?_) | refine ⟨i64 (by omega) (by omega), ?_⟩ | refine ⟨_, _, rfl, List.getElem?_eq_getElem (by omega), ?_⟩ | refine ⟨_, ⟨rfl, by omega⟩, ?_⟩ | refine ⟨_, List.getElem?_eq_getElem (by omega), ?_⟩ | refine rtB ?_ | refine rtI ?_ | refine rtC ?_ rfl | fail)
 ·exact ne_len h
 (conv => whnf)
 have hl : a.length = b.length := by omega
 refine lp Nat (fun i => ⟨[(0, .c (.bs 1 Int encI a)), (1, .c (.bs 1 Int encI b)), (5, .c (.int .i64 i))], []⟩) (fun i => i ≤ a.length ∧ a.take i = b.take i) (fun i => a.length - i) 0 [] [] ?_ ?_ (fun i hi => ?_)
 ·simp
 ·repeat' first | exact trivial | exact rfl | refine And.intro ?_ ?_
 (conv => whnf)
 refine dec (fun h4 => ?_) (fun h4 => ?_)
 ·have hlt : i < a.length := by omega
  have hlt' : i < b.length := by omega
  (conv => whnf)
  refine ⟨false, .grow, (.l [0, 1, 2, 3, 4, 5, 6, 7, 8]), by kernel_rfl, .inl ?_⟩
  repeat' ((conv => whnf); first | (refine dec (fun h => ?_) (fun h => ?_) <;> try contradiction) | (refine decN (fun h => ?_) (fun h => ?_) <;> try contradiction) | refine booN (fun h => ?_) (fun h => ?_) | refine boo (fun h => ?_) (fun h => ?_) | refine ⟨i64 (by omega) (by omega), ?_⟩ | refine ⟨_, _, rfl, List.getElem?_eq_getElem (by omega), ?_⟩ | refine ⟨_, ⟨rfl, by omega⟩, ?_⟩ | refine ⟨_, List.getElem?_eq_getElem (by omega), ?_⟩ | refine rtB ?_ | refine rtI ?_ | refine rtC ?_ rfl | fail)
  ·exact ne_at hlt hlt' (fun e => h ((Iff.rfl).2 e))
  ·refine ag (i + 1) [] [] ⟨hlt, take_step hlt hlt' hi.2 ((Iff.rfl).1 h)⟩ (by simp only []; omega) ?_
   repeat' first | exact trivial | exact rfl | refine And.intro ?_ ?_
 ·repeat' ((conv => whnf); first | (refine dec (fun h => ?_) (fun h => ?_) <;> try contradiction) | (refine decN (fun h => ?_) (fun h => ?_) <;> try contradiction) | refine booN (fun h => ?_) (fun h => ?_) | refine boo (fun h => ?_) (fun h => ?_) | refine ⟨i64 (by omega) (by omega), ?_⟩ | refine ⟨_, _, rfl, List.getElem?_eq_getElem (by omega), ?_⟩ | refine ⟨_, ⟨rfl, by omega⟩, ?_⟩ | refine ⟨_, List.getElem?_eq_getElem (by omega), ?_⟩ | refine rtB ?_ | refine rtI ?_ | refine rtC ?_ rfl | fail)
  exact take_end (by omega) hl hi.2
theorem equalInts_spec (a b : List Int) : Does Tryz.prog 137 [.c (.bs 1 Int encI a), .c (.bs 1 Int encI b)] [] (Rt (.c (.bool (decide (a = b)))) []) := by
 refine X_spec (n := 26) (n0 := 0) tabOk Tryz.call137 Tryz.func137 ?_
 intro hb; have hb : a.length ≤ 9223372036854775807 := hb.1.1
 repeat' ((conv => whnf); first | (refine dec (fun h => ?_) (fun h => ?_) <;> try contradiction) | (refine decN (fun h => ?_) (fun h => ?_) <;> try contradiction) | refine booN (fun h => ?_) (fun h => ?_) | refine boo (fun h => ?_) (fun h => ?_) | refine ⟨i64 (by omega) (by omega), ?_⟩ | refine ⟨_, _, rfl, List.getElem?_eq_getElem (by omega), ?_⟩ | refine ⟨_, ⟨rfl, by omega⟩, ?_⟩ | refine ⟨_, List.getElem?_eq_getElem (by omega), ?_⟩ | refine rtB ?_ | refine rtI ?_ | refine rtC ?_ rfl | fail)
 ·exact ne_len h
 (conv => whnf)
 have hl : a.length = b.length := by omega
 refine lp Nat (fun i => ⟨[(0, .c (.bs 1 Int encI a)), (1, .c (.bs 1 Int encI b)), (12, .c (.int .i64 a.length)), (13, .c (.int .i64 i))], []⟩) (fun i => i ≤ a.length ∧ a.take i = b.take i) (fun i => a.length - i) 0 [] [] ?_ ?_ (fun i hi => ?_)
 ·simp
 ·repeat' first | exact trivial | exact rfl | refine And.intro ?_ ?_
 (conv => whnf)
 refine dec (fun h4 => ?_) (fun h4 => ?_)
 ·have hlt : i < a.length := by omega
  have hlt' : i < b.length := by omega
  (conv => whnf)
  refine ⟨false, .grow, (.l [0, 1, 2, 3, 4, 5, 6, 7, 8]), by kernel_rfl, .inl ?_⟩
  repeat' ((conv => whnf); first | (refine dec (fun h => ?_) (fun h => ?_) <;> try contradiction) | (refine decN (fun h => ?_) (fun h => ?_) <;> try contradiction) | refine booN (fun h => ?_) (fun h => ?_) | refine boo (fun h => ?_) (fun h => ?_) | refine ⟨i64 (by omega) (by omega), ?_⟩ | refine ⟨_, _, rfl, List.getElem?_eq_getElem (by omega), ?_⟩ | refine ⟨_, ⟨rfl, by omega⟩, ?_⟩ | refine ⟨_, List.getElem?_eq_getElem (by omega), ?_⟩ | refine rtB ?_ | refine rtI ?_ | refine rtC ?_ rfl | fail)
  ·exact ne_at hlt hlt' (fun e => h ((Iff.rfl).2 e))
  ·refine ag (i + 1) [] [] ⟨hlt, take_step hlt hlt' hi.2 ((Iff.rfl).1 h)⟩ (by simp only []; omega) ?_
   repeat' first | exact trivial | exact rfl | refine And.intro ?_ ?_
 ·repeat' ((conv => whnf); first | (refine dec (fun h => ?_) (fun h => ?_) <;> try contradiction) | (refine decN (fun h => ?_) (fun h => ?_) <;> try contradiction) | refine booN (fun h => ?_) (fun h => ?_) | refine boo (fun h => ?_) (fun h => ?_) | refine ⟨i64 (by omega) (by omega), ?_⟩ | refine ⟨_, _, rfl, List.getElem?_eq_getElem (by omega), ?_⟩ | refine ⟨_, ⟨rfl, by omega⟩, ?_⟩ | refine ⟨_, List.getElem?_eq_getElem (by omega), ?_⟩ | refine rtB ?_ | refine rtI ?_ | refine rtC ?_ rfl | fail)
  exact take_end (by omega) hl hi.2
theorem equalBytes_spec (a b : List UInt8) : Does Tryz.prog 135 [.c (.bs 1 UInt8 bytesC a), .c (.bs 1 UInt8 bytesC b)] [] (Rt (.c (.bool (decide (a = b)))) []) := by
 refine X_spec (n := 26) (n0 := 0) tabOk Tryz.call135 Tryz.func135 ?_
 intro hb; have hb : a.length ≤ 9223372036854775807 := hb.1.1
 repeat' ((conv => whnf); first | (refine dec (fun h => ?_) (fun h => ?_) <;> try contradiction) | (refine decN (fun h => ?_) (fun h => ?_) <;> try contradiction) | refine booN (fun h => ?_) (fun h => ?_) | refine boo (fun h => ?_) (fun h => ?_) | refine ⟨i64 (by omega) (by omega), ?_⟩ | refine ⟨_, _, rfl, List.getElem?_eq_getElem (by omega), ?_⟩ | refine ⟨_, ⟨rfl, by omega⟩, ?_⟩ | refine ⟨_, List.getElem?_eq_getElem (by omega), ?_⟩ | refine rtB ?_ | refine rtI ?_ | refine rtC ?_ rfl | fail)
 ·exact ne_len h
 (conv => whnf)
 have hl : a.length = b.length := by omega
 refine lp Nat (fun i => ⟨[(0, .c (.bs 1 UInt8 bytesC a)), (1, .c (.bs 1 UInt8 bytesC b)), (12, .c (.int .i64 a.length)), (13, .c (.int .i64 i))], []⟩) (fun i => i ≤ a.length ∧ a.take i = b.take i) (fun i => a.length - i) 0 [] [] ?_ ?_ (fun i hi => ?_)
 ·simp
 ·repeat' first | exact trivial | exact rfl | refine And.intro ?_ ?_
 (conv => whnf)
 refine dec (fun h4 => ?_) (fun h4 => ?_)
 ·have hlt : i < a.length := by omega
  have hlt' : i < b.length := by omega
  (conv => whnf)
  refine ⟨false, .grow, (.l [0, 1, 2, 3, 4, 5, 6, 7, 8]), by kernel_rfl, .inl ?_⟩
  repeat' ((conv => whnf); first | (refine dec (fun h => ?_) (fun h => ?_) <;> try contradiction) | (refine decN (fun h => ?_) (fun h => ?_) <;> try contradiction) | refine booN (fun h => ?_) (fun h => ?_) | refine boo (fun h => ?_) (fun h => ?_) | refine ⟨i64 (by omega) (by omega), ?_⟩ | refine ⟨_, _, rfl, List.getElem?_eq_getElem (by omega), ?_⟩ | refine ⟨_, ⟨rfl, by omega⟩, ?_⟩ | refine ⟨_, List.getElem?_eq_getElem (by omega), ?_⟩ | refine rtB ?_ | refine rtI ?_ | refine rtC ?_ rfl | fail)
  ·exact ne_at hlt hlt' (fun e => h ((byte_eq).2 e))
  ·refine ag (i + 1) [] [] ⟨hlt, take_step hlt hlt' hi.2 ((byte_eq).1 h)⟩ (by simp only []; omega) ?_
   repeat' first | exact trivial | exact rfl | refine And.intro ?_ ?_
 ·repeat' ((conv => whnf); first | (refine dec (fun h => ?_) (fun h => ?_) <;> try contradiction) | (refine decN (fun h => ?_) (fun h => ?_) <;> try contradiction) | refine booN (fun h => ?_) (fun h => ?_) | refine boo (fun h => ?_) (fun h => ?_) | refine ⟨i64 (by omega) (by omega), ?_⟩ | refine ⟨_, _, rfl, List.getElem?_eq_getElem (by omega), ?_⟩ | refine ⟨_, ⟨rfl, by omega⟩, ?_⟩ | refine ⟨_, List.getElem?_eq_getElem (by omega), ?_⟩ | refine rtB ?_ | refine rtI ?_ | refine rtC ?_ rfl | fail)
  exact take_end (by omega) hl hi.2
theorem equalEns_spec (a b : List Ent) : Does Tryz.prog 136 [.c (.bs 4 Ent encEn a), .c (.bs 4 Ent encEn b)] [] (Rt (.c (.bool (decide (a = b)))) []) := by
 refine X_spec (n := 26) (n0 := 0) tabOk Tryz.call136 Tryz.func136 ?_
 intro hb; have hb : a.length ≤ 9223372036854775807 := hb.1.1
 repeat' ((conv => whnf); first | (refine dec (fun h => ?_) (fun h => ?_) <;> try contradiction) | (refine decN (fun h => ?_) (fun h => ?_) <;> try contradiction) | refine booN (fun h => ?_) (fun h => ?_) | refine boo (fun h => ?_) (fun h => ?_) | refine ⟨i64 (by omega) (by omega), ?_⟩ | refine ⟨_, _, rfl, List.getElem?_eq_getElem (by omega), ?_⟩ | refine ⟨_, ⟨rfl, by omega⟩, ?_⟩ | refine ⟨_, List.getElem?_eq_getElem (by omega), ?_⟩ | refine rtB ?_ | refine rtI ?_ | refine rtC ?_ rfl | fail)
 ·exact ne_len h
 (conv => whnf)
 have hl : a.length = b.length := by omega
 refine lp Nat (fun i => ⟨[(0, .c (.bs 4 Ent encEn a)), (1, .c (.bs 4 Ent encEn b)), (12, .c (.int .i64 a.length)), (13, .c (.int .i64 i))], []⟩) (fun i => i ≤ a.length ∧ a.take i = b.take i) (fun i => a.length - i) 0 [] [] ?_ ?_ (fun i hi => ?_)
 ·simp
 ·repeat' first | exact trivial | exact rfl | refine And.intro ?_ ?_
 (conv => whnf)
 refine dec (fun h4 => ?_) (fun h4 => ?_)
 ·have hlt : i < a.length := by omega
  have hlt' : i < b.length := by omega
  (conv => whnf)
  refine ⟨false, .grow, (.l [0, 1, 2, 3, 4, 5, 6, 7, 8]), by kernel_rfl, .inl ?_⟩
  repeat' ((conv => whnf); first | (refine dec (fun h => ?_) (fun h => ?_) <;> try contradiction) | (refine decN (fun h => ?_) (fun h => ?_) <;> try contradiction) | refine booN (fun h => ?_) (fun h => ?_) | refine boo (fun h => ?_) (fun h => ?_) | refine ⟨i64 (by omega) (by omega), ?_⟩ | refine ⟨_, _, rfl, List.getElem?_eq_getElem (by omega), ?_⟩ | refine ⟨_, ⟨rfl, by omega⟩, ?_⟩ | refine ⟨_, List.getElem?_eq_getElem (by omega), ?_⟩ | refine rtB ?_ | refine rtI ?_ | refine rtC ?_ rfl | fail)
  ·exact ne_at hlt hlt' (fun e => h ((eqEn).2 e))
  ·refine ag (i + 1) [] [] ⟨hlt, take_step hlt hlt' hi.2 ((eqEn).1 h)⟩ (by simp only []; omega) ?_
   repeat' first | exact trivial | exact rfl | refine And.intro ?_ ?_
 ·repeat' ((conv => whnf); first | (refine dec (fun h => ?_) (fun h => ?_) <;> try contradiction) | (refine decN (fun h => ?_) (fun h => ?_) <;> try contradiction) | refine booN (fun h => ?_) (fun h => ?_) | refine boo (fun h => ?_) (fun h => ?_) | refine ⟨i64 (by omega) (by omega), ?_⟩ | refine ⟨_, _, rfl, List.getElem?_eq_getElem (by omega), ?_⟩ | refine ⟨_, ⟨rfl, by omega⟩, ?_⟩ | refine ⟨_, List.getElem?_eq_getElem (by omega), ?_⟩ | refine rtB ?_ | refine rtI ?_ | refine rtC ?_ rfl | fail)
  exact take_end (by omega) hl hi.2
theorem sameBytes_spec (a b : List UInt8) : Does Tryz.prog 138 [.c (.bs 1 UInt8 bytesC a), .c (.bs 1 UInt8 bytesC b)] [] (Rt (.c (.bool (decide (a = b)))) []) := by
 refine X_spec (n := 10) (n0 := 0) tabOk Tryz.call138 Tryz.func138 ?_
 intro hb
 (conv => whnf); refine ⟨a, rfl, ?_⟩
 (conv => whnf); refine ⟨b, rfl, ?_⟩
 (conv => whnf); exact rtC rfl rfl
theorem cloneBytes_spec (l : List UInt8) (hl : l.length * 1 ≤ 140737488355328) : Does Tryz.prog 109 [.c (.bs 1 UInt8 bytesC l)] [] (Rt (.c (.rw 0)) [.row 1 UInt8 bytesC l]) := by
 refine X_spec (n := 8) (n0 := 0) tabOk Tryz.call109 Tryz.func109 ?_
 intro hb
 (conv => whnf)
 intro q hq
 (conv => whnf)
 refine boo (fun h => ?_) (fun h => ?_)
 ·obtain rfl := hq h
  (conv => whnf)
  exact rx [] [.new]
 ·(conv => whnf)
  refine ⟨[], rfl, ?_⟩
  (conv => whnf)
  refine ⟨_, _, rfl, rfl, (by simp only [List.length_append, List.length_cons, List.length_nil]; omega), ?_⟩
  (conv => whnf)
  exact rx [] [.same 1]
theorem cloneEns_spec (l : List Ent) (hl : l.length * 40 ≤ 140737488355328) : Does Tryz.prog 110 [.c (.bs 4 Ent encEn l)] [] (Rt (.c (.rw 0)) [.row 4 Ent encEn l]) := by
 refine X_spec (n := 8) (n0 := 0) tabOk Tryz.call110 Tryz.func110 ?_
 intro hb
 (conv => whnf)
 intro q hq
 (conv => whnf)
 refine boo (fun h => ?_) (fun h => ?_)
 ·obtain rfl := hq h
  (conv => whnf)
  exact rx [] [.new]
 ·(conv => whnf)
  refine ⟨[], rfl, ?_⟩
  (conv => whnf)
  refine ⟨_, _, rfl, rfl, (by simp only [List.length_append, List.length_cons, List.length_nil]; omega), ?_⟩
  (conv => whnf)
  exact rx [] [.same 1]
theorem cloneInts_spec (l : List Int) (hl : l.length * 8 ≤ 140737488355328) : Does Tryz.prog 75 [.c (.bs 1 Int encI l)] [] (Rt (.c (.rw 0)) [.row 1 Int encI l]) := by
 refine X_spec (n := 8) (n0 := 0) tabOk Tryz.call75 Tryz.func75 ?_
 intro hb
 (conv => whnf)
 intro q hq
 (conv => whnf)
 refine boo (fun h => ?_) (fun h => ?_)
 ·obtain rfl := hq h
  (conv => whnf)
  exact rx [] [.new]
 ·(conv => whnf)
  refine ⟨[], rfl, ?_⟩
  (conv => whnf)
  refine ⟨_, _, rfl, rfl, (by simp only [List.length_append, List.length_cons, List.length_nil]; omega), ?_⟩
  (conv => whnf)
  exact rx [] [.same 1]
end Go.Nest
end
/- part -/
section

namespace Go.Nest
open Go Go.AM Go.Proofs
open Go.Proofs.YtpmjnbidmcnhnaaGreatDoor (tab tabOk)
set_option maxRecDepth 4000
def entF (prev : Option (List UInt8)) (e : Ent) : Int :=
 if nameC e.name ≠ 0 then nameC e.name else if e.mode < 1 ∨ 3 < e.mode then 6 else if e.id < 0 ∨ e.repo < 0 ∨ 4 ≤ e.repo then 1 else if e.mode ≠ 3 ∧ e.repo ≠ 0 then 7
 else match prev with
  | some p => if Op.bytesLess p e.name = true then 0 else 8
  | none => 0
def entsF : Option (List UInt8) → List Ent → Int
 | _, [] => 0
 | prev, e :: r => if entF prev e = 0 then entsF (some e.name) r else entF prev e
def prevN (l : List Ent) : Nat → Option (List UInt8)
 | 0 => none
 | i + 1 => (l[i]?).map (·.name)
def treeC (l : List Ent) : Int := if 60 < l.length then 5 else entsF none l
theorem entsF_at {l : List Ent} {i : Nat} (h : i < l.length) (hi : entsF none l = entsF (prevN l i) (l.drop i)) : entsF none l = if entF (prevN l i) l[i] = 0 then entsF (prevN l (i + 1)) (l.drop (i + 1)) else entF (prevN l i) l[i] := by
 rw [hi, List.drop_eq_getElem_cons h]
 have : prevN l (i + 1) = some l[i].name := by simp [prevN, h]
 rw [this, entsF]
theorem prevN_pos {l : List Ent} {i : Nat} (h : 0 < i) (hi : i < l.length) : prevN l i = some (l[i - 1]'(by omega)).name := by
 cases i with
 | zero => omega
 | succ j => simp only [prevN]; rw [List.getElem?_eq_getElem (by omega)]; rfl
theorem tree_spec (l : List Ent) : Does Tryz.prog 134 [.c (.bs 4 Ent encEn l)] [] (Rt (.c (.int .i64 (treeC l))) []) := by
 refine X_spec (n := 69) (n0 := 0) tabOk Tryz.call134 Tryz.func134 ?_
 intro hb; have hb : l.length ≤ 9223372036854775807 := hb.1.1
 repeat' ((conv => whnf); first | (refine dec (fun h => ?_) (fun h => ?_) <;> try contradiction) | (refine decN (fun h => ?_) (fun h => ?_) <;> try contradiction) | refine booN (fun h => ?_) (fun h => ?_) | refine boo (fun h => ?_) (fun h => ?_) | refine ⟨i64 (by omega) (by omega), ?_⟩ | refine ⟨_, _, rfl, List.getElem?_eq_getElem (by omega), ?_⟩ | refine ⟨_, ⟨rfl, by omega⟩, ?_⟩ | refine ⟨_, List.getElem?_eq_getElem (by omega), ?_⟩ | refine rtB ?_ | refine rtI ?_ | refine rtC ?_ rfl | fail)
 ·unfold treeC; rw [if_pos (by omega)]
 (conv => whnf)
 have ht : treeC l = entsF none l := by unfold treeC; rw [if_neg (by omega)]
 rw [ht]
 refine lp Nat (fun i => ⟨[(0, .c (.bs 4 Ent encEn l)), (9, .c (.bs 4 Ent encEn l)), (10, .c (.int .i64 l.length)), (11, .c (.int .i64 i))], []⟩) (fun i => i ≤ l.length ∧ entsF none l = entsF (prevN l i) (l.drop i)) (fun i => l.length - i) 0 [] [] ?_ ?_ (fun i hi => ?_)
 ·simp [prevN]
 ·repeat' first | exact trivial | exact rfl | refine And.intro ?_ ?_
 (conv => whnf)
 refine dec (fun h4 => ?_) (fun h4 => ?_)
 ·have hlt : i < l.length := by omega
  have hat := entsF_at hlt hi.2
  repeat' ((conv => whnf); first | (refine dec (fun h => ?_) (fun h => ?_) <;> try contradiction) | (refine decN (fun h => ?_) (fun h => ?_) <;> try contradiction) | refine booN (fun h => ?_) (fun h => ?_) | refine boo (fun h => ?_) (fun h => ?_) | refine ⟨i64 (by omega) (by omega), ?_⟩ | refine ⟨_, _, rfl, List.getElem?_eq_getElem (by omega), ?_⟩ | refine ⟨_, ⟨rfl, by omega⟩, ?_⟩ | refine ⟨_, List.getElem?_eq_getElem (by omega), ?_⟩ | refine rtB ?_ | refine rtI ?_ | refine rtC ?_ rfl | fail)
  (conv => whnf)
  refine cl [] [] (name_spec l[i].name) ?_
  have leaf : ∀ {c : Int}, entF (prevN l i) l[i] = c → c ≠ 0 → c = entsF none l := fun h1 h2 => by rw [hat, h1, if_neg h2]
  repeat' ((conv => whnf); first | (refine dec (fun h => ?_) (fun h => ?_) <;> try contradiction) | (refine decN (fun h => ?_) (fun h => ?_) <;> try contradiction) | refine booN (fun h => ?_) (fun h => ?_) | refine boo (fun h => ?_) (fun h => ?_) | refine ⟨i64 (by omega) (by omega), ?_⟩ | refine ⟨_, _, rfl, List.getElem?_eq_getElem (by omega), ?_⟩ | refine ⟨_, ⟨rfl, by omega⟩, ?_⟩ | refine ⟨_, List.getElem?_eq_getElem (by omega), ?_⟩ | refine rtB ?_ | refine rtI ?_ | refine rtC ?_ rfl | fail)
  all_goals first | (refine leaf ?_ ?_ <;> simp [entF, *]; done) | skip
  all_goals
   (conv => whnf)
   refine ⟨false, .grow, (.l [0, 1, 2, 3, 4, 5, 6, 7, 8, 9, 10, 11, 12, 13]), by kernel_rfl, .inl ?_⟩
   repeat' ((conv => whnf); first | (refine dec (fun h => ?_) (fun h => ?_) <;> try contradiction) | (refine decN (fun h => ?_) (fun h => ?_) <;> try contradiction) | refine booN (fun h => ?_) (fun h => ?_) | refine boo (fun h => ?_) (fun h => ?_) | refine ⟨i64 (by omega) (by omega), ?_⟩ | refine ⟨_, _, rfl, List.getElem?_eq_getElem (by omega), ?_⟩ | refine ⟨_, ⟨rfl, by omega⟩, ?_⟩ | refine ⟨_, List.getElem?_eq_getElem (by omega), ?_⟩ | refine rtB ?_ | refine rtI ?_ | refine rtC ?_ rfl | fail)
   ·(conv => whnf)
    refine ⟨i - 1, l[i - 1], by omega, List.getElem?_eq_getElem (by omega), ?_⟩
    have hp := prevN_pos (l := l) (i := i) (by omega) hlt
    repeat' ((conv => whnf); first | (refine dec (fun h => ?_) (fun h => ?_) <;> try contradiction) | (refine decN (fun h => ?_) (fun h => ?_) <;> try contradiction) | refine booN (fun h => ?_) (fun h => ?_) | refine boo (fun h => ?_) (fun h => ?_) | refine ⟨i64 (by omega) (by omega), ?_⟩ | refine ⟨_, _, rfl, List.getElem?_eq_getElem (by omega), ?_⟩ | refine ⟨_, ⟨rfl, by omega⟩, ?_⟩ | refine ⟨_, List.getElem?_eq_getElem (by omega), ?_⟩ | refine rtB ?_ | refine rtI ?_ | refine rtC ?_ rfl | fail)
    ·refine leaf ?_ (by decide); simp [entF, *]
    ·refine ag (i + 1) [] [] ⟨hlt, ?_⟩ (by simp only []; omega) ?_
     ·rw [hat, if_pos]; simp [entF, *]
     repeat' first | exact trivial | exact rfl | refine And.intro ?_ ?_
   ·have hp : prevN l i = none := by
     obtain rfl : i = 0 := by omega
     rfl
    repeat' ((conv => whnf); refine I6 ?_)
    refine ag (i + 1) [] [] ⟨hlt, ?_⟩ (by simp only []; omega) ?_
    ·rw [hat, if_pos]; simp [entF, *]
    repeat' first | exact trivial | exact rfl | refine And.intro ?_ ?_
 ·repeat' ((conv => whnf); first | (refine dec (fun h => ?_) (fun h => ?_) <;> try contradiction) | (refine decN (fun h => ?_) (fun h => ?_) <;> try contradiction) | refine booN (fun h => ?_) (fun h => ?_) | refine boo (fun h => ?_) (fun h => ?_) | refine ⟨i64 (by omega) (by omega), ?_⟩ | refine ⟨_, _, rfl, List.getElem?_eq_getElem (by omega), ?_⟩ | refine ⟨_, ⟨rfl, by omega⟩, ?_⟩ | refine ⟨_, List.getElem?_eq_getElem (by omega), ?_⟩ | refine rtB ?_ | refine rtI ?_ | refine rtC ?_ rfl | fail)
  have := hi.2
  rw [List.drop_of_length_le (by omega)] at this
  rw [this]; rfl
end Go.Nest
end
