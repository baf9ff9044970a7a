/- part -/
import Derived.Test.YtpechfcbnoggfaaGreatDoorAmG
import Derived.Test.YtpechfcbnoggfaaGreatDoorProg
import Derived.KernelRfl
set_option linter.unusedVariables false
set_option linter.unusedSimpArgs false
section
namespace Go.Proofs.YtpechfcbnoggfaaGreatDoor
open Go Go.AM Go.Nest
def tabL : List (Nat × TD) := [
 (2, ⟨1, false, 8, (.int .i64), [.int .i64 0], false, Int, encI⟩),
 (3, ⟨1, false, 8, (.int .i64), [.int .i64 0], false, Int, encI⟩),
 (4, ⟨1, false, 1, .bool, [.bool false], false, Bool, encBo⟩),
 (5, ⟨1, false, 1, (.int .u8), [.int .u8 0], false, UInt8, bytesC⟩),
 (9, ⟨1, false, 16, .str, [.str []], false, (List UInt8), encS⟩),
 (21, ⟨1, false, 4, (.int .i32), [.int .i32 0], false, Unit, (fun _ => [])⟩),
 (22, ⟨1, false, 24, (.sl 9), [.nil], false, (List (List UInt8)), (encL 1 encS)⟩),
 (25, ⟨1, false, 8, (.int .u64), [.int .u64 0], false, Unit, (fun _ => [])⟩),
 (29, ⟨2, true, 16, (.struct [(3, 0), (3, 1)]), [.int .i64 0, .int .i64 0], true, Unit, (fun _ => [])⟩),
 (33, ⟨1, false, 24, (.sl 5), [.nil], false, (List UInt8), (encL 1 bytesC)⟩),
 (39, ⟨1, false, 24, (.sl 44), [.nil], false, (List Unit), (encL 7 (fun _ => []))⟩),
 (41, ⟨1, false, 8, .ptr, [.raw (.pointer none)], false, Unit, (fun _ => [])⟩),
 (44, ⟨7, true, 96, (.struct [(3, 0), (3, 1), (3, 2), (9, 3), (9, 4), (9, 5), (33, 6)]), [.int .i64 0, .int .i64 0, .int .i64 0, .str [], .str [], .str [], .nil], false, Unit, (fun _ => [])⟩),
 (46, ⟨3, true, 40, (.struct [(3, 0), (3, 1), (22, 2)]), [.int .i64 0, .int .i64 0, .nil], false, Unit, (fun _ => [])⟩),
 (50, ⟨1, false, 24, (.sl 126), [.nil], false, (List Dc), (encL 2 encDc)⟩),
 (52, ⟨1, false, 24, (.sl 100), [.nil], false, (List Rf), (encL 2 encRf)⟩),
 (55, ⟨4, true, 96, (.arr 4 50), [.nil, .nil, .nil, .nil], false, Unit, (fun _ => [])⟩),
 (56, ⟨4, true, 32, (.arr 4 3), [.int .i64 0, .int .i64 0, .int .i64 0, .int .i64 0], false, Unit, (fun _ => [])⟩),
 (57, ⟨1, false, 24, (.sl 3), [.nil], false, (List Int), (encL 1 encI)⟩),
 (58, ⟨4, true, 96, (.arr 4 57), [.nil, .nil, .nil, .nil], false, Unit, (fun _ => [])⟩),
 (61, ⟨1, false, 8, .ptr, [.raw (.pointer none)], false, Unit, (fun _ => [])⟩),
 (62, ⟨1, false, 8, .ptr, [.raw (.pointer none)], false, Unit, (fun _ => [])⟩),
 (63, ⟨1, false, 8, .ptr, [.raw (.pointer none)], false, Unit, (fun _ => [])⟩),
 (65, ⟨2, true, 16, (.struct [(62, 0), (63, 1)]), [.raw (.pointer none), .raw (.pointer none)], false, Unit, (fun _ => [])⟩),
 (66, ⟨8, true, 64, (.arr 4 65), [.raw (.pointer none), .raw (.pointer none), .raw (.pointer none), .raw (.pointer none), .raw (.pointer none), .raw (.pointer none), .raw (.pointer none), .raw (.pointer none)], false, Unit, (fun _ => [])⟩),
 (68, ⟨9, true, 72, (.struct [(61, 0), (66, 1)]), [.raw (.pointer none), .raw (.pointer none), .raw (.pointer none), .raw (.pointer none), .raw (.pointer none), .raw (.pointer none), .raw (.pointer none), .raw (.pointer none), .raw (.pointer none)], false, Unit, (fun _ => [])⟩),
 (71, ⟨1, false, 8, .ptr, [.raw (.pointer none)], false, Unit, (fun _ => [])⟩),
 (75, ⟨1, false, 24, (.sl 163), [.nil], false, (List Ch), (encL 9 encCh)⟩),
 (78, ⟨1, false, 8, .ptr, [.raw (.pointer none)], false, Unit, (fun _ => [])⟩),
 (79, ⟨1, false, 8, .ptr, [.raw (.pointer none)], false, Unit, (fun _ => [])⟩),
 (80, ⟨1, false, 8, .ptr, [.raw (.pointer none)], false, Unit, (fun _ => [])⟩),
 (81, ⟨4, true, 32, (.arr 4 80), [.raw (.pointer none), .raw (.pointer none), .raw (.pointer none), .raw (.pointer none)], false, Unit, (fun _ => [])⟩),
 (82, ⟨4, true, 32, (.arr 4 78), [.raw (.pointer none), .raw (.pointer none), .raw (.pointer none), .raw (.pointer none)], false, Unit, (fun _ => [])⟩),
 (84, ⟨9, true, 72, (.struct [(79, 0), (81, 1), (82, 5)]), [.raw (.pointer none), .raw (.pointer none), .raw (.pointer none), .raw (.pointer none), .raw (.pointer none), .raw (.pointer none), .raw (.pointer none), .raw (.pointer none), .raw (.pointer none)], false, Unit, (fun _ => [])⟩),
 (87, ⟨1, false, 24, (.sl 89), [.nil], false, (List (List Fi)), (encL 1 (encL 4 encFi))⟩),
 (88, ⟨4, true, 96, (.arr 4 87), [.nil, .nil, .nil, .nil], false, Unit, (fun _ => [])⟩),
 (89, ⟨1, false, 24, (.sl 161), [.nil], false, (List Fi), (encL 4 encFi)⟩),
 (94, ⟨1, false, 8, .ptr, [.raw (.pointer none)], false, Unit, (fun _ => [])⟩),
 (95, ⟨1, false, 24, (.sl 4), [.nil], false, (List Bool), (encL 1 encBo)⟩),
 (96, ⟨4, true, 96, (.arr 4 95), [.nil, .nil, .nil, .nil], false, Unit, (fun _ => [])⟩),
 (98, ⟨9, true, 200, (.struct [(94, 0), (96, 1), (58, 5)]), [.raw (.pointer none), .nil, .nil, .nil, .nil, .nil, .nil, .nil, .nil], false, Unit, (fun _ => [])⟩),
 (100, ⟨2, true, 24, (.struct [(9, 0), (3, 1)]), [.str [], .int .i64 0], true, Rf, encRf⟩),
 (104, ⟨1, false, 24, (.sl 22), [.nil], false, (List (List (List UInt8))), (encL 1 (encL 1 encS))⟩),
 (107, ⟨1, false, 8, .ptr, [.raw (.pointer none)], false, Unit, (fun _ => [])⟩),
 (109, ⟨2, true, 32, (.struct [(107, 0), (33, 1)]), [.raw (.pointer none), .nil], false, Unit, (fun _ => [])⟩),
 (111, ⟨3, true, 40, (.struct [(109, 0), (41, 2)]), [.raw (.pointer none), .nil, .raw (.pointer none)], false, Unit, (fun _ => [])⟩),
 (126, ⟨2, true, 40, (.struct [(9, 0), (33, 1)]), [.str [], .nil], false, Dc, encDc⟩),
 (132, ⟨1, false, 8, .ptr, [.raw (.pointer none)], false, Unit, (fun _ => [])⟩),
 (133, ⟨1, false, 24, (.sl 158), [.nil], false, (List Ob), (encL 6 encOb)⟩),
 (135, ⟨1, true, 24, (.struct [(133, 0)]), [.nil], false, Unit, (fun _ => [])⟩),
 (137, ⟨9, true, 200, (.struct [(132, 0), (58, 1), (58, 5)]), [.raw (.pointer none), .nil, .nil, .nil, .nil, .nil, .nil, .nil, .nil], false, Unit, (fun _ => [])⟩),
 (138, ⟨1, false, 24, (.sl 220), [.nil], false, (List Mv), (encL 3 encMv)⟩),
 (140, ⟨1, true, 24, (.struct [(138, 0)]), [.nil], false, Unit, (fun _ => [])⟩),
 (141, ⟨1, false, 24, (.sl 211), [.nil], false, (List It), (encL 5 encIt)⟩),
 (143, ⟨3, true, 40, (.struct [(132, 0), (141, 1), (3, 2)]), [.raw (.pointer none), .nil, .int .i64 0], false, Unit, (fun _ => [])⟩),
 (151, ⟨1, false, 24, (.sl 153), [.nil], false, (List Rf), (encL 2 encRf)⟩),
 (153, ⟨2, true, 24, (.struct [(9, 0), (3, 1)]), [.str [], .int .i64 0], true, Rf, encRf⟩),
 (156, ⟨1, false, 24, (.sl 237), [.nil], false, (List Ent), (encL 4 encEn)⟩),
 (158, ⟨6, true, 104, (.struct [(3, 0), (33, 1), (156, 2), (3, 3), (57, 4), (9, 5)]), [.int .i64 0, .nil, .nil, .int .i64 0, .nil, .str []], false, Ob, encOb⟩),
 (161, ⟨4, true, 40, (.struct [(9, 0), (3, 1), (3, 2), (3, 3)]), [.str [], .int .i64 0, .int .i64 0, .int .i64 0], true, Fi, encFi⟩),
 (163, ⟨9, true, 96, (.struct [(9, 0), (161, 1), (161, 5)]), [.str [], .str [], .int .i64 0, .int .i64 0, .int .i64 0, .str [], .int .i64 0, .int .i64 0, .int .i64 0], true, Ch, encCh⟩),
 (169, ⟨1, true, 24, (.struct [(133, 0)]), [.nil], false, Unit, (fun _ => [])⟩),
 (172, ⟨2, true, 24, (.struct [(9, 0), (71, 1)]), [.str [], .raw (.pointer none)], false, Unit, (fun _ => [])⟩),
 (183, ⟨1, false, 8, .ptr, [.raw (.pointer none)], false, Unit, (fun _ => [])⟩),
 (184, ⟨1, false, 24, (.sl 262), [.nil], false, (List Mv), (encL 3 encMv)⟩),
 (186, ⟨2, true, 48, (.struct [(52, 0), (184, 1)]), [.nil, .nil], false, Unit, (fun _ => [])⟩),
 (187, ⟨1, false, 24, (.sl 193), [.nil], false, (List It), (encL 5 encIt)⟩),
 (189, ⟨3, true, 40, (.struct [(94, 0), (187, 1), (3, 2)]), [.raw (.pointer none), .nil, .int .i64 0], false, Unit, (fun _ => [])⟩),
 (193, ⟨5, true, 64, (.struct [(9, 0), (33, 1), (4, 2), (3, 3), (3, 4)]), [.str [], .ls 1 UInt8 bytesC [], .bool false, .int .i64 0, .int .i64 0], false, It, encIt⟩),
 (211, ⟨5, true, 64, (.struct [(9, 0), (33, 1), (4, 2), (3, 3), (3, 4)]), [.str [], .ls 1 UInt8 bytesC [], .bool false, .int .i64 0, .int .i64 0], false, It, encIt⟩),
 (220, ⟨3, true, 32, (.struct [(9, 0), (3, 1), (3, 2)]), [.str [], .int .i64 0, .int .i64 0], true, Mv, encMv⟩),
 (223, ⟨1, false, 24, (.sl 57), [.nil], false, (List (List Int)), (encL 1 (encL 1 encI))⟩),
 (237, ⟨4, true, 40, (.struct [(9, 0), (3, 1), (3, 2), (3, 3)]), [.str [], .int .i64 0, .int .i64 0, .int .i64 0], true, Ent, encEn⟩),
 (241, ⟨1, false, 16, .ifc, [.raw .nilIface], false, Unit, (fun _ => [])⟩),
 (256, ⟨3, true, 72, (.arr 3 89), [.nil, .nil, .nil], false, (Int × Int × Int), encTr⟩),
 (262, ⟨3, true, 32, (.struct [(9, 0), (3, 1), (3, 2)]), [.str [], .int .i64 0, .int .i64 0], true, Mv, encMv⟩),
 (266, ⟨3, true, 48, (.struct [(94, 0), (9, 1), (223, 2)]), [.raw (.pointer none), .str [], .nil], false, Unit, (fun _ => [])⟩),
 (268, ⟨1, false, 24, (.sl 270), [.nil], false, (List (Int × Int)), (encL 2 encPr)⟩),
 (270, ⟨2, true, 16, (.arr 2 3), [.int .i64 0, .int .i64 0], false, (Int × Int), encPr⟩),
 (272, ⟨1, false, 8, (.int .i64), [.int .i64 0], false, Int, encI⟩),
 (279, ⟨1, false, 4, (.int .u32), [.int .u32 0], false, Unit, (fun _ => [])⟩),
 (281, ⟨1, false, 8, (.int .u64), [.int .u64 0], false, Unit, (fun _ => [])⟩),
 (286, ⟨1, false, 24, (.sl 33), [.nil], false, (List (List UInt8)), (encL 1 (encL 1 bytesC))⟩),
 (307, ⟨4, true, 64, (.struct [(94, 0), (89, 1), (22, 2), (3, 3)]), [.raw (.pointer none), .nil, .nil, .int .i64 0], false, Unit, (fun _ => [])⟩),
 (315, ⟨1, false, 8, (.int .u64), [.int .u64 0], false, Unit, (fun _ => [])⟩),
 (322, ⟨1, false, 24, (.sl 327), [.nil], false, (List (Int × Int)), (encL 2 encPr)⟩),
 (324, ⟨3, true, 24, (.arr 3 3), [.int .i64 0, .int .i64 0, .int .i64 0], false, (Int × Int × Int), encTr⟩),
 (325, ⟨1, false, 24, (.sl 324), [.nil], false, (List (Int × Int × Int)), (encL 3 encTr)⟩),
 (327, ⟨2, true, 16, (.struct [(3, 0), (3, 1)]), [.int .i64 0, .int .i64 0], true, (Int × Int), encPr⟩),
 (334, ⟨1, false, 8, (.int .i64), [.int .i64 0], false, Int, encI⟩),
 (337, ⟨1, false, 8, .ptr, [.raw (.pointer none)], false, Unit, (fun _ => [])⟩),
 (343, ⟨1, false, 8, .other, [.raw (.pointer none)], false, Unit, (fun _ => [])⟩),
 (345, ⟨4, true, 64, (.arr 4 9), [.str [], .str [], .str [], .str []], false, Unit, (fun _ => [])⟩),
 (363, ⟨3, true, 48, (.struct [(9, 0), (9, 1), (241, 2)]), [.str [], .str [], .raw .nilIface], false, Unit, (fun _ => [])⟩),
 (374, ⟨1, false, 8, .ptr, [.raw (.pointer none)], false, Unit, (fun _ => [])⟩),
 (376, ⟨1, true, 16, (.struct [(9, 0)]), [.str []], true, Unit, (fun _ => [])⟩),
 (386, ⟨1, false, 24, (.sl 395), [.nil], false, (List (Int × Int)), (encL 2 encPr)⟩),
 (395, ⟨2, true, 16, (.struct [(3, 0), (3, 1)]), [.int .i64 0, .int .i64 0], true, (Int × Int), encPr⟩),
 (401, ⟨2, true, 2, (.struct [(5, 0), (5, 1)]), [.int .u8 0, .int .u8 0], false, Unit, (fun _ => [])⟩)]
def tab : Nat → Option TD := lkT tabL
theorem good2 : ∀ d, tab 2 = some d → Good Tryz.prog tab 2 d := fun d h => by
 cases h
 exact ⟨⟨_, _, _, Tryz.typeInfo2, rfl, rfl, rfl, rfl, fun _ _ _ => by exact (.int .nl)⟩, Tryz.isAgg2, (fun _ => rfl), rfl, Tryz.underlying2, (fun h => by cases h)⟩
theorem good3 : ∀ d, tab 3 = some d → Good Tryz.prog tab 3 d := fun d h => by
 cases h
 exact ⟨⟨_, _, _, Tryz.typeInfo3, rfl, rfl, rfl, rfl, fun _ _ _ => by exact (.int .nl)⟩, Tryz.isAgg3, (fun _ => rfl), rfl, Tryz.underlying3, (fun h => by cases h)⟩
theorem good4 : ∀ d, tab 4 = some d → Good Tryz.prog tab 4 d := fun d h => by
 cases h
 exact ⟨⟨_, _, _, Tryz.typeInfo4, rfl, rfl, rfl, rfl, fun _ _ _ => by exact (.bool .nl)⟩, Tryz.isAgg4, (fun _ => rfl), rfl, Tryz.underlying4, (fun h => by cases h)⟩
theorem good5 : ∀ d, tab 5 = some d → Good Tryz.prog tab 5 d := fun d h => by
 cases h
 exact ⟨⟨_, _, _, Tryz.typeInfo5, rfl, rfl, rfl, rfl, fun _ _ _ => by exact (.int .nl)⟩, Tryz.isAgg5, (fun _ => rfl), rfl, Tryz.underlying5, (fun h => by cases h)⟩
theorem good9 : ∀ d, tab 9 = some d → Good Tryz.prog tab 9 d := fun d h => by
 cases h
 exact ⟨⟨_, _, _, Tryz.typeInfo9, rfl, rfl, rfl, rfl, fun _ _ _ => by exact (.str (Nat.zero_le _) .nl)⟩, Tryz.isAgg9, (fun _ => rfl), rfl, Tryz.underlying9, (fun h => by cases h)⟩
theorem good21 : ∀ d, tab 21 = some d → Good Tryz.prog tab 21 d := fun d h => by
 cases h
 exact ⟨⟨_, _, _, Tryz.typeInfo21, rfl, rfl, rfl, rfl, fun _ _ _ => by exact (.int .nl)⟩, Tryz.isAgg21, (fun _ => rfl), rfl, Tryz.underlying21, (fun h => by cases h)⟩
theorem good22 : ∀ d, tab 22 = some d → Good Tryz.prog tab 22 d := fun d h => by
 cases h
 exact ⟨⟨_, _, _, Tryz.typeInfo22, rfl, rfl, rfl, rfl, fun _ _ _ => by exact (.nil .nl)⟩, Tryz.isAgg22, (fun _ => rfl), rfl, Tryz.underlying22, (fun h => by cases h)⟩
theorem good25 : ∀ d, tab 25 = some d → Good Tryz.prog tab 25 d := fun d h => by
 cases h
 exact ⟨⟨_, _, _, Tryz.typeInfo25, rfl, rfl, rfl, rfl, fun _ _ _ => by exact (.int .nl)⟩, Tryz.isAgg25, (fun _ => rfl), rfl, Tryz.underlying25, (fun h => by cases h)⟩
theorem good29 : ∀ d, tab 29 = some d → Good Tryz.prog tab 29 d := fun d h => by
 cases h
 exact ⟨⟨_, _, _, Tryz.typeInfo29, rfl, rfl, rfl, rfl, fun _ _ _ => by exact (.int (.int .nl))⟩, Tryz.isAgg29, (fun h => by cases h), rfl, ⟨_, Tryz.underlying29, rfl, rfl⟩, (fun _ => ⟨by kernel_rfl, by exact (CmpAt.struct (by kernel_rfl) (by kernel_rfl) (by rw [fieldsL Tryz.underlying29]; exact ⟨false, [.int .i64 0], _, rfl, by decide, rfl, Tryz.isAgg3, sizeOf_of Tryz.typeInfo3 rfl, by decide, (CmpAt.int Tryz.underlying3), ⟨false, [.int .i64 0], _, rfl, by decide, rfl, Tryz.isAgg3, sizeOf_of Tryz.typeInfo3 rfl, by decide, (CmpAt.int Tryz.underlying3), rfl⟩⟩))⟩)⟩
theorem good33 : ∀ d, tab 33 = some d → Good Tryz.prog tab 33 d := fun d h => by
 cases h
 exact ⟨⟨_, _, _, Tryz.typeInfo33, rfl, rfl, rfl, rfl, fun _ _ _ => by exact (.nil .nl)⟩, Tryz.isAgg33, (fun _ => rfl), rfl, Tryz.underlying33, (fun h => by cases h)⟩
theorem good39 : ∀ d, tab 39 = some d → Good Tryz.prog tab 39 d := fun d h => by
 cases h
 exact ⟨⟨_, _, _, Tryz.typeInfo39, rfl, rfl, rfl, rfl, fun _ _ _ => by exact (.nil .nl)⟩, Tryz.isAgg39, (fun _ => rfl), rfl, Tryz.underlying39, (fun h => by cases h)⟩
theorem good41 : ∀ d, tab 41 = some d → Good Tryz.prog tab 41 d := fun d h => by
 cases h
 exact ⟨⟨_, _, _, Tryz.typeInfo41, rfl, rfl, rfl, rfl, fun _ _ _ => by exact (.raw rfl .nl)⟩, Tryz.isAgg41, (fun _ => rfl), rfl, ⟨_, Tryz.underlying41⟩, (fun h => by cases h)⟩
theorem good44 : ∀ d, tab 44 = some d → Good Tryz.prog tab 44 d := fun d h => by
 cases h
 exact ⟨⟨_, _, _, Tryz.typeInfo44, rfl, rfl, rfl, rfl, fun _ _ _ => by exact (.int (.int (.int (.str (Nat.zero_le _) (.str (Nat.zero_le _) (.str (Nat.zero_le _) (.nil .nl)))))))⟩, Tryz.isAgg44, (fun h => by cases h), rfl, ⟨_, Tryz.underlying44, rfl, rfl⟩, (fun h => by cases h)⟩
theorem good46 : ∀ d, tab 46 = some d → Good Tryz.prog tab 46 d := fun d h => by
 cases h
 exact ⟨⟨_, _, _, Tryz.typeInfo46, rfl, rfl, rfl, rfl, fun _ _ _ => by exact (.int (.int (.nil .nl)))⟩, Tryz.isAgg46, (fun h => by cases h), rfl, ⟨_, Tryz.underlying46, rfl, rfl⟩, (fun h => by cases h)⟩
theorem good50 : ∀ d, tab 50 = some d → Good Tryz.prog tab 50 d := fun d h => by
 cases h
 exact ⟨⟨_, _, _, Tryz.typeInfo50, rfl, rfl, rfl, rfl, fun _ _ _ => by exact (.nil .nl)⟩, Tryz.isAgg50, (fun _ => rfl), rfl, Tryz.underlying50, (fun h => by cases h)⟩
theorem good52 : ∀ d, tab 52 = some d → Good Tryz.prog tab 52 d := fun d h => by
 cases h
 exact ⟨⟨_, _, _, Tryz.typeInfo52, rfl, rfl, rfl, rfl, fun _ _ _ => by exact (.nil .nl)⟩, Tryz.isAgg52, (fun _ => rfl), rfl, Tryz.underlying52, (fun h => by cases h)⟩
theorem good55 : ∀ d, tab 55 = some d → Good Tryz.prog tab 55 d := fun d h => by
 cases h
 exact ⟨⟨_, _, _, Tryz.typeInfo55, rfl, rfl, rfl, rfl, fun _ _ _ => by exact (.nil (.nil (.nil (.nil .nl))))⟩, Tryz.isAgg55, (fun h => by cases h), rfl, Tryz.underlying55, (fun h => by cases h)⟩
theorem good56 : ∀ d, tab 56 = some d → Good Tryz.prog tab 56 d := fun d h => by
 cases h
 exact ⟨⟨_, _, _, Tryz.typeInfo56, rfl, rfl, rfl, rfl, fun _ _ _ => by exact (.int (.int (.int (.int .nl))))⟩, Tryz.isAgg56, (fun h => by cases h), rfl, Tryz.underlying56, (fun h => by cases h)⟩
theorem good57 : ∀ d, tab 57 = some d → Good Tryz.prog tab 57 d := fun d h => by
 cases h
 exact ⟨⟨_, _, _, Tryz.typeInfo57, rfl, rfl, rfl, rfl, fun _ _ _ => by exact (.nil .nl)⟩, Tryz.isAgg57, (fun _ => rfl), rfl, Tryz.underlying57, (fun h => by cases h)⟩
theorem good58 : ∀ d, tab 58 = some d → Good Tryz.prog tab 58 d := fun d h => by
 cases h
 exact ⟨⟨_, _, _, Tryz.typeInfo58, rfl, rfl, rfl, rfl, fun _ _ _ => by exact (.nil (.nil (.nil (.nil .nl))))⟩, Tryz.isAgg58, (fun h => by cases h), rfl, Tryz.underlying58, (fun h => by cases h)⟩
theorem good61 : ∀ d, tab 61 = some d → Good Tryz.prog tab 61 d := fun d h => by
 cases h
 exact ⟨⟨_, _, _, Tryz.typeInfo61, rfl, rfl, rfl, rfl, fun _ _ _ => by exact (.raw rfl .nl)⟩, Tryz.isAgg61, (fun _ => rfl), rfl, ⟨_, Tryz.underlying61⟩, (fun h => by cases h)⟩
theorem good62 : ∀ d, tab 62 = some d → Good Tryz.prog tab 62 d := fun d h => by
 cases h
 exact ⟨⟨_, _, _, Tryz.typeInfo62, rfl, rfl, rfl, rfl, fun _ _ _ => by exact (.raw rfl .nl)⟩, Tryz.isAgg62, (fun _ => rfl), rfl, ⟨_, Tryz.underlying62⟩, (fun h => by cases h)⟩
theorem good63 : ∀ d, tab 63 = some d → Good Tryz.prog tab 63 d := fun d h => by
 cases h
 exact ⟨⟨_, _, _, Tryz.typeInfo63, rfl, rfl, rfl, rfl, fun _ _ _ => by exact (.raw rfl .nl)⟩, Tryz.isAgg63, (fun _ => rfl), rfl, ⟨_, Tryz.underlying63⟩, (fun h => by cases h)⟩
theorem good65 : ∀ d, tab 65 = some d → Good Tryz.prog tab 65 d := fun d h => by
 cases h
 exact ⟨⟨_, _, _, Tryz.typeInfo65, rfl, rfl, rfl, rfl, fun _ _ _ => by exact (.raw rfl (.raw rfl .nl))⟩, Tryz.isAgg65, (fun h => by cases h), rfl, ⟨_, Tryz.underlying65, rfl, rfl⟩, (fun h => by cases h)⟩
theorem good66 : ∀ d, tab 66 = some d → Good Tryz.prog tab 66 d := fun d h => by
 cases h
 exact ⟨⟨_, _, _, Tryz.typeInfo66, rfl, rfl, rfl, rfl, fun _ _ _ => by exact (.raw rfl (.raw rfl (.raw rfl (.raw rfl (.raw rfl (.raw rfl (.raw rfl (.raw rfl .nl))))))))⟩, Tryz.isAgg66, (fun h => by cases h), rfl, Tryz.underlying66, (fun h => by cases h)⟩
theorem good68 : ∀ d, tab 68 = some d → Good Tryz.prog tab 68 d := fun d h => by
 cases h
 exact ⟨⟨_, _, _, Tryz.typeInfo68, rfl, rfl, rfl, rfl, fun _ _ _ => by exact (.raw rfl (.raw rfl (.raw rfl (.raw rfl (.raw rfl (.raw rfl (.raw rfl (.raw rfl (.raw rfl .nl)))))))))⟩, Tryz.isAgg68, (fun h => by cases h), rfl, ⟨_, Tryz.underlying68, rfl, rfl⟩, (fun h => by cases h)⟩
theorem good71 : ∀ d, tab 71 = some d → Good Tryz.prog tab 71 d := fun d h => by
 cases h
 exact ⟨⟨_, _, _, Tryz.typeInfo71, rfl, rfl, rfl, rfl, fun _ _ _ => by exact (.raw rfl .nl)⟩, Tryz.isAgg71, (fun _ => rfl), rfl, ⟨_, Tryz.underlying71⟩, (fun h => by cases h)⟩
theorem good75 : ∀ d, tab 75 = some d → Good Tryz.prog tab 75 d := fun d h => by
 cases h
 exact ⟨⟨_, _, _, Tryz.typeInfo75, rfl, rfl, rfl, rfl, fun _ _ _ => by exact (.nil .nl)⟩, Tryz.isAgg75, (fun _ => rfl), rfl, Tryz.underlying75, (fun h => by cases h)⟩
theorem good78 : ∀ d, tab 78 = some d → Good Tryz.prog tab 78 d := fun d h => by
 cases h
 exact ⟨⟨_, _, _, Tryz.typeInfo78, rfl, rfl, rfl, rfl, fun _ _ _ => by exact (.raw rfl .nl)⟩, Tryz.isAgg78, (fun _ => rfl), rfl, ⟨_, Tryz.underlying78⟩, (fun h => by cases h)⟩
theorem good79 : ∀ d, tab 79 = some d → Good Tryz.prog tab 79 d := fun d h => by
 cases h
 exact ⟨⟨_, _, _, Tryz.typeInfo79, rfl, rfl, rfl, rfl, fun _ _ _ => by exact (.raw rfl .nl)⟩, Tryz.isAgg79, (fun _ => rfl), rfl, ⟨_, Tryz.underlying79⟩, (fun h => by cases h)⟩
theorem good80 : ∀ d, tab 80 = some d → Good Tryz.prog tab 80 d := fun d h => by
 cases h
 exact ⟨⟨_, _, _, Tryz.typeInfo80, rfl, rfl, rfl, rfl, fun _ _ _ => by exact (.raw rfl .nl)⟩, Tryz.isAgg80, (fun _ => rfl), rfl, ⟨_, Tryz.underlying80⟩, (fun h => by cases h)⟩
theorem good81 : ∀ d, tab 81 = some d → Good Tryz.prog tab 81 d := fun d h => by
 cases h
 exact ⟨⟨_, _, _, Tryz.typeInfo81, rfl, rfl, rfl, rfl, fun _ _ _ => by exact (.raw rfl (.raw rfl (.raw rfl (.raw rfl .nl))))⟩, Tryz.isAgg81, (fun h => by cases h), rfl, Tryz.underlying81, (fun h => by cases h)⟩
theorem good82 : ∀ d, tab 82 = some d → Good Tryz.prog tab 82 d := fun d h => by
 cases h
 exact ⟨⟨_, _, _, Tryz.typeInfo82, rfl, rfl, rfl, rfl, fun _ _ _ => by exact (.raw rfl (.raw rfl (.raw rfl (.raw rfl .nl))))⟩, Tryz.isAgg82, (fun h => by cases h), rfl, Tryz.underlying82, (fun h => by cases h)⟩
theorem good84 : ∀ d, tab 84 = some d → Good Tryz.prog tab 84 d := fun d h => by
 cases h
 exact ⟨⟨_, _, _, Tryz.typeInfo84, rfl, rfl, rfl, rfl, fun _ _ _ => by exact (.raw rfl (.raw rfl (.raw rfl (.raw rfl (.raw rfl (.raw rfl (.raw rfl (.raw rfl (.raw rfl .nl)))))))))⟩, Tryz.isAgg84, (fun h => by cases h), rfl, ⟨_, Tryz.underlying84, rfl, rfl⟩, (fun h => by cases h)⟩
theorem good87 : ∀ d, tab 87 = some d → Good Tryz.prog tab 87 d := fun d h => by
 cases h
 exact ⟨⟨_, _, _, Tryz.typeInfo87, rfl, rfl, rfl, rfl, fun _ _ _ => by exact (.nil .nl)⟩, Tryz.isAgg87, (fun _ => rfl), rfl, Tryz.underlying87, (fun h => by cases h)⟩
theorem good88 : ∀ d, tab 88 = some d → Good Tryz.prog tab 88 d := fun d h => by
 cases h
 exact ⟨⟨_, _, _, Tryz.typeInfo88, rfl, rfl, rfl, rfl, fun _ _ _ => by exact (.nil (.nil (.nil (.nil .nl))))⟩, Tryz.isAgg88, (fun h => by cases h), rfl, Tryz.underlying88, (fun h => by cases h)⟩
theorem good89 : ∀ d, tab 89 = some d → Good Tryz.prog tab 89 d := fun d h => by
 cases h
 exact ⟨⟨_, _, _, Tryz.typeInfo89, rfl, rfl, rfl, rfl, fun _ _ _ => by exact (.nil .nl)⟩, Tryz.isAgg89, (fun _ => rfl), rfl, Tryz.underlying89, (fun h => by cases h)⟩
theorem good94 : ∀ d, tab 94 = some d → Good Tryz.prog tab 94 d := fun d h => by
 cases h
 exact ⟨⟨_, _, _, Tryz.typeInfo94, rfl, rfl, rfl, rfl, fun _ _ _ => by exact (.raw rfl .nl)⟩, Tryz.isAgg94, (fun _ => rfl), rfl, ⟨_, Tryz.underlying94⟩, (fun h => by cases h)⟩
theorem good95 : ∀ d, tab 95 = some d → Good Tryz.prog tab 95 d := fun d h => by
 cases h
 exact ⟨⟨_, _, _, Tryz.typeInfo95, rfl, rfl, rfl, rfl, fun _ _ _ => by exact (.nil .nl)⟩, Tryz.isAgg95, (fun _ => rfl), rfl, Tryz.underlying95, (fun h => by cases h)⟩
theorem good96 : ∀ d, tab 96 = some d → Good Tryz.prog tab 96 d := fun d h => by
 cases h
 exact ⟨⟨_, _, _, Tryz.typeInfo96, rfl, rfl, rfl, rfl, fun _ _ _ => by exact (.nil (.nil (.nil (.nil .nl))))⟩, Tryz.isAgg96, (fun h => by cases h), rfl, Tryz.underlying96, (fun h => by cases h)⟩
theorem good98 : ∀ d, tab 98 = some d → Good Tryz.prog tab 98 d := fun d h => by
 cases h
 exact ⟨⟨_, _, _, Tryz.typeInfo98, rfl, rfl, rfl, rfl, fun _ _ _ => by exact (.raw rfl (.nil (.nil (.nil (.nil (.nil (.nil (.nil (.nil .nl)))))))))⟩, Tryz.isAgg98, (fun h => by cases h), rfl, ⟨_, Tryz.underlying98, rfl, rfl⟩, (fun h => by cases h)⟩
theorem good100 : ∀ d, tab 100 = some d → Good Tryz.prog tab 100 d := fun d h => by
 cases h
 exact ⟨⟨_, _, _, Tryz.typeInfo100, rfl, rfl, rfl, rfl, fun _ _ _ => by exact (.str (Nat.zero_le _) (.int .nl))⟩, Tryz.isAgg100, (fun h => by cases h), rfl, ⟨_, Tryz.underlying100, rfl, rfl⟩, (fun _ => ⟨by kernel_rfl, by exact (CmpAt.struct (by kernel_rfl) (by kernel_rfl) (by rw [fieldsL Tryz.underlying100]; exact ⟨false, [.str []], _, rfl, by decide, rfl, Tryz.isAgg9, sizeOf_of Tryz.typeInfo9 rfl, by decide, (CmpAt.str Tryz.underlying9), ⟨false, [.int .i64 0], _, rfl, by decide, rfl, Tryz.isAgg3, sizeOf_of Tryz.typeInfo3 rfl, by decide, (CmpAt.int Tryz.underlying3), rfl⟩⟩))⟩)⟩
theorem good104 : ∀ d, tab 104 = some d → Good Tryz.prog tab 104 d := fun d h => by
 cases h
 exact ⟨⟨_, _, _, Tryz.typeInfo104, rfl, rfl, rfl, rfl, fun _ _ _ => by exact (.nil .nl)⟩, Tryz.isAgg104, (fun _ => rfl), rfl, Tryz.underlying104, (fun h => by cases h)⟩
theorem good107 : ∀ d, tab 107 = some d → Good Tryz.prog tab 107 d := fun d h => by
 cases h
 exact ⟨⟨_, _, _, Tryz.typeInfo107, rfl, rfl, rfl, rfl, fun _ _ _ => by exact (.raw rfl .nl)⟩, Tryz.isAgg107, (fun _ => rfl), rfl, ⟨_, Tryz.underlying107⟩, (fun h => by cases h)⟩
theorem good109 : ∀ d, tab 109 = some d → Good Tryz.prog tab 109 d := fun d h => by
 cases h
 exact ⟨⟨_, _, _, Tryz.typeInfo109, rfl, rfl, rfl, rfl, fun _ _ _ => by exact (.raw rfl (.nil .nl))⟩, Tryz.isAgg109, (fun h => by cases h), rfl, ⟨_, Tryz.underlying109, rfl, rfl⟩, (fun h => by cases h)⟩
theorem good111 : ∀ d, tab 111 = some d → Good Tryz.prog tab 111 d := fun d h => by
 cases h
 exact ⟨⟨_, _, _, Tryz.typeInfo111, rfl, rfl, rfl, rfl, fun _ _ _ => by exact (.raw rfl (.nil (.raw rfl .nl)))⟩, Tryz.isAgg111, (fun h => by cases h), rfl, ⟨_, Tryz.underlying111, rfl, rfl⟩, (fun h => by cases h)⟩
theorem good126 : ∀ d, tab 126 = some d → Good Tryz.prog tab 126 d := fun d h => by
 cases h
 exact ⟨⟨_, _, _, Tryz.typeInfo126, rfl, rfl, rfl, rfl, fun _ _ _ => by exact (.str (Nat.zero_le _) (.nil .nl))⟩, Tryz.isAgg126, (fun h => by cases h), rfl, ⟨_, Tryz.underlying126, rfl, rfl⟩, (fun h => by cases h)⟩
theorem good132 : ∀ d, tab 132 = some d → Good Tryz.prog tab 132 d := fun d h => by
 cases h
 exact ⟨⟨_, _, _, Tryz.typeInfo132, rfl, rfl, rfl, rfl, fun _ _ _ => by exact (.raw rfl .nl)⟩, Tryz.isAgg132, (fun _ => rfl), rfl, ⟨_, Tryz.underlying132⟩, (fun h => by cases h)⟩
theorem good133 : ∀ d, tab 133 = some d → Good Tryz.prog tab 133 d := fun d h => by
 cases h
 exact ⟨⟨_, _, _, Tryz.typeInfo133, rfl, rfl, rfl, rfl, fun _ _ _ => by exact (.nil .nl)⟩, Tryz.isAgg133, (fun _ => rfl), rfl, Tryz.underlying133, (fun h => by cases h)⟩
theorem good135 : ∀ d, tab 135 = some d → Good Tryz.prog tab 135 d := fun d h => by
 cases h
 exact ⟨⟨_, _, _, Tryz.typeInfo135, rfl, rfl, rfl, rfl, fun _ _ _ => by exact (.nil .nl)⟩, Tryz.isAgg135, (fun h => by cases h), rfl, ⟨_, Tryz.underlying135, rfl, rfl⟩, (fun h => by cases h)⟩
theorem good137 : ∀ d, tab 137 = some d → Good Tryz.prog tab 137 d := fun d h => by
 cases h
 exact ⟨⟨_, _, _, Tryz.typeInfo137, rfl, rfl, rfl, rfl, fun _ _ _ => by exact (.raw rfl (.nil (.nil (.nil (.nil (.nil (.nil (.nil (.nil .nl)))))))))⟩, Tryz.isAgg137, (fun h => by cases h), rfl, ⟨_, Tryz.underlying137, rfl, rfl⟩, (fun h => by cases h)⟩
theorem good138 : ∀ d, tab 138 = some d → Good Tryz.prog tab 138 d := fun d h => by
 cases h
 exact ⟨⟨_, _, _, Tryz.typeInfo138, rfl, rfl, rfl, rfl, fun _ _ _ => by exact (.nil .nl)⟩, Tryz.isAgg138, (fun _ => rfl), rfl, Tryz.underlying138, (fun h => by cases h)⟩
theorem good140 : ∀ d, tab 140 = some d → Good Tryz.prog tab 140 d := fun d h => by
 cases h
 exact ⟨⟨_, _, _, Tryz.typeInfo140, rfl, rfl, rfl, rfl, fun _ _ _ => by exact (.nil .nl)⟩, Tryz.isAgg140, (fun h => by cases h), rfl, ⟨_, Tryz.underlying140, rfl, rfl⟩, (fun h => by cases h)⟩
theorem good141 : ∀ d, tab 141 = some d → Good Tryz.prog tab 141 d := fun d h => by
 cases h
 exact ⟨⟨_, _, _, Tryz.typeInfo141, rfl, rfl, rfl, rfl, fun _ _ _ => by exact (.nil .nl)⟩, Tryz.isAgg141, (fun _ => rfl), rfl, Tryz.underlying141, (fun h => by cases h)⟩
theorem good143 : ∀ d, tab 143 = some d → Good Tryz.prog tab 143 d := fun d h => by
 cases h
 exact ⟨⟨_, _, _, Tryz.typeInfo143, rfl, rfl, rfl, rfl, fun _ _ _ => by exact (.raw rfl (.nil (.int .nl)))⟩, Tryz.isAgg143, (fun h => by cases h), rfl, ⟨_, Tryz.underlying143, rfl, rfl⟩, (fun h => by cases h)⟩
theorem good151 : ∀ d, tab 151 = some d → Good Tryz.prog tab 151 d := fun d h => by
 cases h
 exact ⟨⟨_, _, _, Tryz.typeInfo151, rfl, rfl, rfl, rfl, fun _ _ _ => by exact (.nil .nl)⟩, Tryz.isAgg151, (fun _ => rfl), rfl, Tryz.underlying151, (fun h => by cases h)⟩
theorem good153 : ∀ d, tab 153 = some d → Good Tryz.prog tab 153 d := fun d h => by
 cases h
 exact ⟨⟨_, _, _, Tryz.typeInfo153, rfl, rfl, rfl, rfl, fun _ _ _ => by exact (.str (Nat.zero_le _) (.int .nl))⟩, Tryz.isAgg153, (fun h => by cases h), rfl, ⟨_, Tryz.underlying153, rfl, rfl⟩, (fun _ => ⟨by kernel_rfl, by exact (CmpAt.struct (by kernel_rfl) (by kernel_rfl) (by rw [fieldsL Tryz.underlying153]; exact ⟨false, [.str []], _, rfl, by decide, rfl, Tryz.isAgg9, sizeOf_of Tryz.typeInfo9 rfl, by decide, (CmpAt.str Tryz.underlying9), ⟨false, [.int .i64 0], _, rfl, by decide, rfl, Tryz.isAgg3, sizeOf_of Tryz.typeInfo3 rfl, by decide, (CmpAt.int Tryz.underlying3), rfl⟩⟩))⟩)⟩
theorem good156 : ∀ d, tab 156 = some d → Good Tryz.prog tab 156 d := fun d h => by
 cases h
 exact ⟨⟨_, _, _, Tryz.typeInfo156, rfl, rfl, rfl, rfl, fun _ _ _ => by exact (.nil .nl)⟩, Tryz.isAgg156, (fun _ => rfl), rfl, Tryz.underlying156, (fun h => by cases h)⟩
theorem good158 : ∀ d, tab 158 = some d → Good Tryz.prog tab 158 d := fun d h => by
 cases h
 exact ⟨⟨_, _, _, Tryz.typeInfo158, rfl, rfl, rfl, rfl, fun _ _ _ => by exact (.int (.nil (.nil (.int (.nil (.str (Nat.zero_le _) .nl))))))⟩, Tryz.isAgg158, (fun h => by cases h), rfl, ⟨_, Tryz.underlying158, rfl, rfl⟩, (fun h => by cases h)⟩
theorem good161 : ∀ d, tab 161 = some d → Good Tryz.prog tab 161 d := fun d h => by
 cases h
 exact ⟨⟨_, _, _, Tryz.typeInfo161, rfl, rfl, rfl, rfl, fun _ _ _ => by exact (.str (Nat.zero_le _) (.int (.int (.int .nl))))⟩, Tryz.isAgg161, (fun h => by cases h), rfl, ⟨_, Tryz.underlying161, rfl, rfl⟩, (fun _ => ⟨by kernel_rfl, by exact (CmpAt.struct (by kernel_rfl) (by kernel_rfl) (by rw [fieldsL Tryz.underlying161]; exact ⟨false, [.str []], _, rfl, by decide, rfl, Tryz.isAgg9, sizeOf_of Tryz.typeInfo9 rfl, by decide, (CmpAt.str Tryz.underlying9), ⟨false, [.int .i64 0], _, rfl, by decide, rfl, Tryz.isAgg3, sizeOf_of Tryz.typeInfo3 rfl, by decide, (CmpAt.int Tryz.underlying3), ⟨false, [.int .i64 0], _, rfl, by decide, rfl, Tryz.isAgg3, sizeOf_of Tryz.typeInfo3 rfl, by decide, (CmpAt.int Tryz.underlying3), ⟨false, [.int .i64 0], _, rfl, by decide, rfl, Tryz.isAgg3, sizeOf_of Tryz.typeInfo3 rfl, by decide, (CmpAt.int Tryz.underlying3), rfl⟩⟩⟩⟩))⟩)⟩
theorem good163 : ∀ d, tab 163 = some d → Good Tryz.prog tab 163 d := fun d h => by
 cases h
 exact ⟨⟨_, _, _, Tryz.typeInfo163, rfl, rfl, rfl, rfl, fun _ _ _ => by exact (.str (Nat.zero_le _) (.str (Nat.zero_le _) (.int (.int (.int (.str (Nat.zero_le _) (.int (.int (.int .nl)))))))))⟩, Tryz.isAgg163, (fun h => by cases h), rfl, ⟨_, Tryz.underlying163, rfl, rfl⟩, (fun _ => ⟨by kernel_rfl, by exact (CmpAt.struct (by kernel_rfl) (by kernel_rfl) (by rw [fieldsL Tryz.underlying163]; exact ⟨false, [.str []], _, rfl, by decide, rfl, Tryz.isAgg9, sizeOf_of Tryz.typeInfo9 rfl, by decide, (CmpAt.str Tryz.underlying9), ⟨true, [.str [], .int .i64 0, .int .i64 0, .int .i64 0], _, rfl, by decide, rfl, Tryz.isAgg161, sizeOf_of Tryz.typeInfo161 rfl, by decide, (CmpAt.struct (by kernel_rfl) (by kernel_rfl) (by rw [fieldsL Tryz.underlying161]; exact ⟨false, [.str []], _, rfl, by decide, rfl, Tryz.isAgg9, sizeOf_of Tryz.typeInfo9 rfl, by decide, (CmpAt.str Tryz.underlying9), ⟨false, [.int .i64 0], _, rfl, by decide, rfl, Tryz.isAgg3, sizeOf_of Tryz.typeInfo3 rfl, by decide, (CmpAt.int Tryz.underlying3), ⟨false, [.int .i64 0], _, rfl, by decide, rfl, Tryz.isAgg3, sizeOf_of Tryz.typeInfo3 rfl, by decide, (CmpAt.int Tryz.underlying3), ⟨false, [.int .i64 0], _, rfl, by decide, rfl, Tryz.isAgg3, sizeOf_of Tryz.typeInfo3 rfl, by decide, (CmpAt.int Tryz.underlying3), rfl⟩⟩⟩⟩)), ⟨true, [.str [], .int .i64 0, .int .i64 0, .int .i64 0], _, rfl, by decide, rfl, Tryz.isAgg161, sizeOf_of Tryz.typeInfo161 rfl, by decide, (CmpAt.struct (by kernel_rfl) (by kernel_rfl) (by rw [fieldsL Tryz.underlying161]; exact ⟨false, [.str []], _, rfl, by decide, rfl, Tryz.isAgg9, sizeOf_of Tryz.typeInfo9 rfl, by decide, (CmpAt.str Tryz.underlying9), ⟨false, [.int .i64 0], _, rfl, by decide, rfl, Tryz.isAgg3, sizeOf_of Tryz.typeInfo3 rfl, by decide, (CmpAt.int Tryz.underlying3), ⟨false, [.int .i64 0], _, rfl, by decide, rfl, Tryz.isAgg3, sizeOf_of Tryz.typeInfo3 rfl, by decide, (CmpAt.int Tryz.underlying3), ⟨false, [.int .i64 0], _, rfl, by decide, rfl, Tryz.isAgg3, sizeOf_of Tryz.typeInfo3 rfl, by decide, (CmpAt.int Tryz.underlying3), rfl⟩⟩⟩⟩)), rfl⟩⟩⟩))⟩)⟩
theorem good169 : ∀ d, tab 169 = some d → Good Tryz.prog tab 169 d := fun d h => by
 cases h
 exact ⟨⟨_, _, _, Tryz.typeInfo169, rfl, rfl, rfl, rfl, fun _ _ _ => by exact (.nil .nl)⟩, Tryz.isAgg169, (fun h => by cases h), rfl, ⟨_, Tryz.underlying169, rfl, rfl⟩, (fun h => by cases h)⟩
theorem good172 : ∀ d, tab 172 = some d → Good Tryz.prog tab 172 d := fun d h => by
 cases h
 exact ⟨⟨_, _, _, Tryz.typeInfo172, rfl, rfl, rfl, rfl, fun _ _ _ => by exact (.str (Nat.zero_le _) (.raw rfl .nl))⟩, Tryz.isAgg172, (fun h => by cases h), rfl, ⟨_, Tryz.underlying172, rfl, rfl⟩, (fun h => by cases h)⟩
theorem good183 : ∀ d, tab 183 = some d → Good Tryz.prog tab 183 d := fun d h => by
 cases h
 exact ⟨⟨_, _, _, Tryz.typeInfo183, rfl, rfl, rfl, rfl, fun _ _ _ => by exact (.raw rfl .nl)⟩, Tryz.isAgg183, (fun _ => rfl), rfl, ⟨_, Tryz.underlying183⟩, (fun h => by cases h)⟩
theorem good184 : ∀ d, tab 184 = some d → Good Tryz.prog tab 184 d := fun d h => by
 cases h
 exact ⟨⟨_, _, _, Tryz.typeInfo184, rfl, rfl, rfl, rfl, fun _ _ _ => by exact (.nil .nl)⟩, Tryz.isAgg184, (fun _ => rfl), rfl, Tryz.underlying184, (fun h => by cases h)⟩
theorem good186 : ∀ d, tab 186 = some d → Good Tryz.prog tab 186 d := fun d h => by
 cases h
 exact ⟨⟨_, _, _, Tryz.typeInfo186, rfl, rfl, rfl, rfl, fun _ _ _ => by exact (.nil (.nil .nl))⟩, Tryz.isAgg186, (fun h => by cases h), rfl, ⟨_, Tryz.underlying186, rfl, rfl⟩, (fun h => by cases h)⟩
theorem good187 : ∀ d, tab 187 = some d → Good Tryz.prog tab 187 d := fun d h => by
 cases h
 exact ⟨⟨_, _, _, Tryz.typeInfo187, rfl, rfl, rfl, rfl, fun _ _ _ => by exact (.nil .nl)⟩, Tryz.isAgg187, (fun _ => rfl), rfl, Tryz.underlying187, (fun h => by cases h)⟩
theorem good189 : ∀ d, tab 189 = some d → Good Tryz.prog tab 189 d := fun d h => by
 cases h
 exact ⟨⟨_, _, _, Tryz.typeInfo189, rfl, rfl, rfl, rfl, fun _ _ _ => by exact (.raw rfl (.nil (.int .nl)))⟩, Tryz.isAgg189, (fun h => by cases h), rfl, ⟨_, Tryz.underlying189, rfl, rfl⟩, (fun h => by cases h)⟩
theorem good193 : ∀ d, tab 193 = some d → Good Tryz.prog tab 193 d := fun d h => by
 cases h
 exact ⟨⟨_, _, _, Tryz.typeInfo193, rfl, rfl, rfl, rfl, fun _ _ _ => by exact (.str (Nat.zero_le _) (.ls0 (.bool (.int (.int .nl)))))⟩, Tryz.isAgg193, (fun h => by cases h), rfl, ⟨_, Tryz.underlying193, rfl, rfl⟩, (fun h => by cases h)⟩
theorem good211 : ∀ d, tab 211 = some d → Good Tryz.prog tab 211 d := fun d h => by
 cases h
 exact ⟨⟨_, _, _, Tryz.typeInfo211, rfl, rfl, rfl, rfl, fun _ _ _ => by exact (.str (Nat.zero_le _) (.ls0 (.bool (.int (.int .nl)))))⟩, Tryz.isAgg211, (fun h => by cases h), rfl, ⟨_, Tryz.underlying211, rfl, rfl⟩, (fun h => by cases h)⟩
theorem good220 : ∀ d, tab 220 = some d → Good Tryz.prog tab 220 d := fun d h => by
 cases h
 exact ⟨⟨_, _, _, Tryz.typeInfo220, rfl, rfl, rfl, rfl, fun _ _ _ => by exact (.str (Nat.zero_le _) (.int (.int .nl)))⟩, Tryz.isAgg220, (fun h => by cases h), rfl, ⟨_, Tryz.underlying220, rfl, rfl⟩, (fun _ => ⟨by kernel_rfl, by exact (CmpAt.struct (by kernel_rfl) (by kernel_rfl) (by rw [fieldsL Tryz.underlying220]; exact ⟨false, [.str []], _, rfl, by decide, rfl, Tryz.isAgg9, sizeOf_of Tryz.typeInfo9 rfl, by decide, (CmpAt.str Tryz.underlying9), ⟨false, [.int .i64 0], _, rfl, by decide, rfl, Tryz.isAgg3, sizeOf_of Tryz.typeInfo3 rfl, by decide, (CmpAt.int Tryz.underlying3), ⟨false, [.int .i64 0], _, rfl, by decide, rfl, Tryz.isAgg3, sizeOf_of Tryz.typeInfo3 rfl, by decide, (CmpAt.int Tryz.underlying3), rfl⟩⟩⟩))⟩)⟩
theorem good223 : ∀ d, tab 223 = some d → Good Tryz.prog tab 223 d := fun d h => by
 cases h
 exact ⟨⟨_, _, _, Tryz.typeInfo223, rfl, rfl, rfl, rfl, fun _ _ _ => by exact (.nil .nl)⟩, Tryz.isAgg223, (fun _ => rfl), rfl, Tryz.underlying223, (fun h => by cases h)⟩
theorem good237 : ∀ d, tab 237 = some d → Good Tryz.prog tab 237 d := fun d h => by
 cases h
 exact ⟨⟨_, _, _, Tryz.typeInfo237, rfl, rfl, rfl, rfl, fun _ _ _ => by exact (.str (Nat.zero_le _) (.int (.int (.int .nl))))⟩, Tryz.isAgg237, (fun h => by cases h), rfl, ⟨_, Tryz.underlying237, rfl, rfl⟩, (fun _ => ⟨by kernel_rfl, by exact (CmpAt.struct (by kernel_rfl) (by kernel_rfl) (by rw [fieldsL Tryz.underlying237]; exact ⟨false, [.str []], _, rfl, by decide, rfl, Tryz.isAgg9, sizeOf_of Tryz.typeInfo9 rfl, by decide, (CmpAt.str Tryz.underlying9), ⟨false, [.int .i64 0], _, rfl, by decide, rfl, Tryz.isAgg3, sizeOf_of Tryz.typeInfo3 rfl, by decide, (CmpAt.int Tryz.underlying3), ⟨false, [.int .i64 0], _, rfl, by decide, rfl, Tryz.isAgg3, sizeOf_of Tryz.typeInfo3 rfl, by decide, (CmpAt.int Tryz.underlying3), ⟨false, [.int .i64 0], _, rfl, by decide, rfl, Tryz.isAgg3, sizeOf_of Tryz.typeInfo3 rfl, by decide, (CmpAt.int Tryz.underlying3), rfl⟩⟩⟩⟩))⟩)⟩
theorem good241 : ∀ d, tab 241 = some d → Good Tryz.prog tab 241 d := fun d h => by
 cases h
 exact ⟨⟨_, _, _, Tryz.typeInfo241, rfl, rfl, rfl, rfl, fun _ _ _ => by exact (.raw rfl .nl)⟩, Tryz.isAgg241, (fun _ => rfl), rfl, ⟨_, Tryz.underlying241⟩, (fun h => by cases h)⟩
theorem good256 : ∀ d, tab 256 = some d → Good Tryz.prog tab 256 d := fun d h => by
 cases h
 exact ⟨⟨_, _, _, Tryz.typeInfo256, rfl, rfl, rfl, rfl, fun _ _ _ => by exact (.nil (.nil (.nil .nl)))⟩, Tryz.isAgg256, (fun h => by cases h), rfl, Tryz.underlying256, (fun h => by cases h)⟩
theorem good262 : ∀ d, tab 262 = some d → Good Tryz.prog tab 262 d := fun d h => by
 cases h
 exact ⟨⟨_, _, _, Tryz.typeInfo262, rfl, rfl, rfl, rfl, fun _ _ _ => by exact (.str (Nat.zero_le _) (.int (.int .nl)))⟩, Tryz.isAgg262, (fun h => by cases h), rfl, ⟨_, Tryz.underlying262, rfl, rfl⟩, (fun _ => ⟨by kernel_rfl, by exact (CmpAt.struct (by kernel_rfl) (by kernel_rfl) (by rw [fieldsL Tryz.underlying262]; exact ⟨false, [.str []], _, rfl, by decide, rfl, Tryz.isAgg9, sizeOf_of Tryz.typeInfo9 rfl, by decide, (CmpAt.str Tryz.underlying9), ⟨false, [.int .i64 0], _, rfl, by decide, rfl, Tryz.isAgg3, sizeOf_of Tryz.typeInfo3 rfl, by decide, (CmpAt.int Tryz.underlying3), ⟨false, [.int .i64 0], _, rfl, by decide, rfl, Tryz.isAgg3, sizeOf_of Tryz.typeInfo3 rfl, by decide, (CmpAt.int Tryz.underlying3), rfl⟩⟩⟩))⟩)⟩
theorem good266 : ∀ d, tab 266 = some d → Good Tryz.prog tab 266 d := fun d h => by
 cases h
 exact ⟨⟨_, _, _, Tryz.typeInfo266, rfl, rfl, rfl, rfl, fun _ _ _ => by exact (.raw rfl (.str (Nat.zero_le _) (.nil .nl)))⟩, Tryz.isAgg266, (fun h => by cases h), rfl, ⟨_, Tryz.underlying266, rfl, rfl⟩, (fun h => by cases h)⟩
theorem good268 : ∀ d, tab 268 = some d → Good Tryz.prog tab 268 d := fun d h => by
 cases h
 exact ⟨⟨_, _, _, Tryz.typeInfo268, rfl, rfl, rfl, rfl, fun _ _ _ => by exact (.nil .nl)⟩, Tryz.isAgg268, (fun _ => rfl), rfl, Tryz.underlying268, (fun h => by cases h)⟩
theorem good270 : ∀ d, tab 270 = some d → Good Tryz.prog tab 270 d := fun d h => by
 cases h
 exact ⟨⟨_, _, _, Tryz.typeInfo270, rfl, rfl, rfl, rfl, fun _ _ _ => by exact (.int (.int .nl))⟩, Tryz.isAgg270, (fun h => by cases h), rfl, Tryz.underlying270, (fun h => by cases h)⟩
theorem good272 : ∀ d, tab 272 = some d → Good Tryz.prog tab 272 d := fun d h => by
 cases h
 exact ⟨⟨_, _, _, Tryz.typeInfo272, rfl, rfl, rfl, rfl, fun _ _ _ => by exact (.int .nl)⟩, Tryz.isAgg272, (fun _ => rfl), rfl, Tryz.underlying272, (fun h => by cases h)⟩
theorem good279 : ∀ d, tab 279 = some d → Good Tryz.prog tab 279 d := fun d h => by
 cases h
 exact ⟨⟨_, _, _, Tryz.typeInfo279, rfl, rfl, rfl, rfl, fun _ _ _ => by exact (.int .nl)⟩, Tryz.isAgg279, (fun _ => rfl), rfl, Tryz.underlying279, (fun h => by cases h)⟩
theorem good281 : ∀ d, tab 281 = some d → Good Tryz.prog tab 281 d := fun d h => by
 cases h
 exact ⟨⟨_, _, _, Tryz.typeInfo281, rfl, rfl, rfl, rfl, fun _ _ _ => by exact (.int .nl)⟩, Tryz.isAgg281, (fun _ => rfl), rfl, Tryz.underlying281, (fun h => by cases h)⟩
theorem good286 : ∀ d, tab 286 = some d → Good Tryz.prog tab 286 d := fun d h => by
 cases h
 exact ⟨⟨_, _, _, Tryz.typeInfo286, rfl, rfl, rfl, rfl, fun _ _ _ => by exact (.nil .nl)⟩, Tryz.isAgg286, (fun _ => rfl), rfl, Tryz.underlying286, (fun h => by cases h)⟩
theorem good307 : ∀ d, tab 307 = some d → Good Tryz.prog tab 307 d := fun d h => by
 cases h
 exact ⟨⟨_, _, _, Tryz.typeInfo307, rfl, rfl, rfl, rfl, fun _ _ _ => by exact (.raw rfl (.nil (.nil (.int .nl))))⟩, Tryz.isAgg307, (fun h => by cases h), rfl, ⟨_, Tryz.underlying307, rfl, rfl⟩, (fun h => by cases h)⟩
theorem good315 : ∀ d, tab 315 = some d → Good Tryz.prog tab 315 d := fun d h => by
 cases h
 exact ⟨⟨_, _, _, Tryz.typeInfo315, rfl, rfl, rfl, rfl, fun _ _ _ => by exact (.int .nl)⟩, Tryz.isAgg315, (fun _ => rfl), rfl, Tryz.underlying315, (fun h => by cases h)⟩
theorem good322 : ∀ d, tab 322 = some d → Good Tryz.prog tab 322 d := fun d h => by
 cases h
 exact ⟨⟨_, _, _, Tryz.typeInfo322, rfl, rfl, rfl, rfl, fun _ _ _ => by exact (.nil .nl)⟩, Tryz.isAgg322, (fun _ => rfl), rfl, Tryz.underlying322, (fun h => by cases h)⟩
theorem good324 : ∀ d, tab 324 = some d → Good Tryz.prog tab 324 d := fun d h => by
 cases h
 exact ⟨⟨_, _, _, Tryz.typeInfo324, rfl, rfl, rfl, rfl, fun _ _ _ => by exact (.int (.int (.int .nl)))⟩, Tryz.isAgg324, (fun h => by cases h), rfl, Tryz.underlying324, (fun h => by cases h)⟩
theorem good325 : ∀ d, tab 325 = some d → Good Tryz.prog tab 325 d := fun d h => by
 cases h
 exact ⟨⟨_, _, _, Tryz.typeInfo325, rfl, rfl, rfl, rfl, fun _ _ _ => by exact (.nil .nl)⟩, Tryz.isAgg325, (fun _ => rfl), rfl, Tryz.underlying325, (fun h => by cases h)⟩
theorem good327 : ∀ d, tab 327 = some d → Good Tryz.prog tab 327 d := fun d h => by
 cases h
 exact ⟨⟨_, _, _, Tryz.typeInfo327, rfl, rfl, rfl, rfl, fun _ _ _ => by exact (.int (.int .nl))⟩, Tryz.isAgg327, (fun h => by cases h), rfl, ⟨_, Tryz.underlying327, rfl, rfl⟩, (fun _ => ⟨by kernel_rfl, by exact (CmpAt.struct (by kernel_rfl) (by kernel_rfl) (by rw [fieldsL Tryz.underlying327]; exact ⟨false, [.int .i64 0], _, rfl, by decide, rfl, Tryz.isAgg3, sizeOf_of Tryz.typeInfo3 rfl, by decide, (CmpAt.int Tryz.underlying3), ⟨false, [.int .i64 0], _, rfl, by decide, rfl, Tryz.isAgg3, sizeOf_of Tryz.typeInfo3 rfl, by decide, (CmpAt.int Tryz.underlying3), rfl⟩⟩))⟩)⟩
theorem good334 : ∀ d, tab 334 = some d → Good Tryz.prog tab 334 d := fun d h => by
 cases h
 exact ⟨⟨_, _, _, Tryz.typeInfo334, rfl, rfl, rfl, rfl, fun _ _ _ => by exact (.int .nl)⟩, Tryz.isAgg334, (fun _ => rfl), rfl, Tryz.underlying334, (fun h => by cases h)⟩
theorem good337 : ∀ d, tab 337 = some d → Good Tryz.prog tab 337 d := fun d h => by
 cases h
 exact ⟨⟨_, _, _, Tryz.typeInfo337, rfl, rfl, rfl, rfl, fun _ _ _ => by exact (.raw rfl .nl)⟩, Tryz.isAgg337, (fun _ => rfl), rfl, ⟨_, Tryz.underlying337⟩, (fun h => by cases h)⟩
theorem good343 : ∀ d, tab 343 = some d → Good Tryz.prog tab 343 d := fun d h => by
 cases h
 exact ⟨⟨_, _, _, Tryz.typeInfo343, rfl, rfl, rfl, rfl, fun _ _ _ => by exact (.raw rfl .nl)⟩, Tryz.isAgg343, (fun _ => rfl), rfl, trivial, (fun h => by cases h)⟩
theorem good345 : ∀ d, tab 345 = some d → Good Tryz.prog tab 345 d := fun d h => by
 cases h
 exact ⟨⟨_, _, _, Tryz.typeInfo345, rfl, rfl, rfl, rfl, fun _ _ _ => by exact (.str (Nat.zero_le _) (.str (Nat.zero_le _) (.str (Nat.zero_le _) (.str (Nat.zero_le _) .nl))))⟩, Tryz.isAgg345, (fun h => by cases h), rfl, Tryz.underlying345, (fun h => by cases h)⟩
theorem good363 : ∀ d, tab 363 = some d → Good Tryz.prog tab 363 d := fun d h => by
 cases h
 exact ⟨⟨_, _, _, Tryz.typeInfo363, rfl, rfl, rfl, rfl, fun _ _ _ => by exact (.str (Nat.zero_le _) (.str (Nat.zero_le _) (.raw rfl .nl)))⟩, Tryz.isAgg363, (fun h => by cases h), rfl, ⟨_, Tryz.underlying363, rfl, rfl⟩, (fun h => by cases h)⟩
theorem good374 : ∀ d, tab 374 = some d → Good Tryz.prog tab 374 d := fun d h => by
 cases h
 exact ⟨⟨_, _, _, Tryz.typeInfo374, rfl, rfl, rfl, rfl, fun _ _ _ => by exact (.raw rfl .nl)⟩, Tryz.isAgg374, (fun _ => rfl), rfl, ⟨_, Tryz.underlying374⟩, (fun h => by cases h)⟩
theorem good376 : ∀ d, tab 376 = some d → Good Tryz.prog tab 376 d := fun d h => by
 cases h
 exact ⟨⟨_, _, _, Tryz.typeInfo376, rfl, rfl, rfl, rfl, fun _ _ _ => by exact (.str (Nat.zero_le _) .nl)⟩, Tryz.isAgg376, (fun h => by cases h), rfl, ⟨_, Tryz.underlying376, rfl, rfl⟩, (fun _ => ⟨by kernel_rfl, by exact (CmpAt.struct (by kernel_rfl) (by kernel_rfl) (by rw [fieldsL Tryz.underlying376]; exact ⟨false, [.str []], _, rfl, by decide, rfl, Tryz.isAgg9, sizeOf_of Tryz.typeInfo9 rfl, by decide, (CmpAt.str Tryz.underlying9), rfl⟩))⟩)⟩
theorem good386 : ∀ d, tab 386 = some d → Good Tryz.prog tab 386 d := fun d h => by
 cases h
 exact ⟨⟨_, _, _, Tryz.typeInfo386, rfl, rfl, rfl, rfl, fun _ _ _ => by exact (.nil .nl)⟩, Tryz.isAgg386, (fun _ => rfl), rfl, Tryz.underlying386, (fun h => by cases h)⟩
theorem good395 : ∀ d, tab 395 = some d → Good Tryz.prog tab 395 d := fun d h => by
 cases h
 exact ⟨⟨_, _, _, Tryz.typeInfo395, rfl, rfl, rfl, rfl, fun _ _ _ => by exact (.int (.int .nl))⟩, Tryz.isAgg395, (fun h => by cases h), rfl, ⟨_, Tryz.underlying395, rfl, rfl⟩, (fun _ => ⟨by kernel_rfl, by exact (CmpAt.struct (by kernel_rfl) (by kernel_rfl) (by rw [fieldsL Tryz.underlying395]; exact ⟨false, [.int .i64 0], _, rfl, by decide, rfl, Tryz.isAgg3, sizeOf_of Tryz.typeInfo3 rfl, by decide, (CmpAt.int Tryz.underlying3), ⟨false, [.int .i64 0], _, rfl, by decide, rfl, Tryz.isAgg3, sizeOf_of Tryz.typeInfo3 rfl, by decide, (CmpAt.int Tryz.underlying3), rfl⟩⟩))⟩)⟩
theorem good401 : ∀ d, tab 401 = some d → Good Tryz.prog tab 401 d := fun d h => by
 cases h
 exact ⟨⟨_, _, _, Tryz.typeInfo401, rfl, rfl, rfl, rfl, fun _ _ _ => by exact (.int (.int .nl))⟩, Tryz.isAgg401, (fun h => by cases h), rfl, ⟨_, Tryz.underlying401, rfl, rfl⟩, (fun h => by cases h)⟩
set_option maxRecDepth 20000 in
theorem tabOk : TabOk Tryz.prog tab := tabOk_of ⟨good2 _ rfl, good3 _ rfl, good4 _ rfl, good5 _ rfl, good9 _ rfl, good21 _ rfl, good22 _ rfl, good25 _ rfl, good29 _ rfl, good33 _ rfl, good39 _ rfl, good41 _ rfl, good44 _ rfl, good46 _ rfl, good50 _ rfl, good52 _ rfl, good55 _ rfl, good56 _ rfl, good57 _ rfl, good58 _ rfl, good61 _ rfl, good62 _ rfl, good63 _ rfl, good65 _ rfl, good66 _ rfl, good68 _ rfl, good71 _ rfl, good75 _ rfl, good78 _ rfl, good79 _ rfl, good80 _ rfl, good81 _ rfl, good82 _ rfl, good84 _ rfl, good87 _ rfl, good88 _ rfl, good89 _ rfl, good94 _ rfl, good95 _ rfl, good96 _ rfl, good98 _ rfl, good100 _ rfl, good104 _ rfl, good107 _ rfl, good109 _ rfl, good111 _ rfl, good126 _ rfl, good132 _ rfl, good133 _ rfl, good135 _ rfl, good137 _ rfl, good138 _ rfl, good140 _ rfl, good141 _ rfl, good143 _ rfl, good151 _ rfl, good153 _ rfl, good156 _ rfl, good158 _ rfl, good161 _ rfl, good163 _ rfl, good169 _ rfl, good172 _ rfl, good183 _ rfl, good184 _ rfl, good186 _ rfl, good187 _ rfl, good189 _ rfl, good193 _ rfl, good211 _ rfl, good220 _ rfl, good223 _ rfl, good237 _ rfl, good241 _ rfl, good256 _ rfl, good262 _ rfl, good266 _ rfl, good268 _ rfl, good270 _ rfl, good272 _ rfl, good279 _ rfl, good281 _ rfl, good286 _ rfl, good307 _ rfl, good315 _ rfl, good322 _ rfl, good324 _ rfl, good325 _ rfl, good327 _ rfl, good334 _ rfl, good337 _ rfl, good343 _ rfl, good345 _ rfl, good363 _ rfl, good374 _ rfl, good376 _ rfl, good386 _ rfl, good395 _ rfl, good401 _ rfl, trivial⟩
end Go.Proofs.YtpechfcbnoggfaaGreatDoor
end
/- part -/
section

namespace Go.Nest
open Go Go.AM Go.Proofs
open Go.Proofs.YtpechfcbnoggfaaGreatDoor (tab tabOk)
set_option maxRecDepth 4000
def odd (c : UInt8) : Bool := decide (c.toNat ≤ 32) || decide (c.toNat = 47) || decide (127 ≤ c.toNat)
def nameC (l : List UInt8) : Int := if l = [] ∨ l = [46] ∨ l = [46, 46] ∨ l.any odd then 2 else if 20 < l.length then 4 else 0
def shown (c : UInt8) : Bool := decide (32 ≤ c.toNat) && decide (c.toNat < 127)
theorem any_take {α : Type} {p : α → Bool} {l : List α} {i : Nat} (h : i < l.length) (h1 : (l.take i).any p = false) (h2 : p l[i] = false) : (l.take (i + 1)).any p = false := by
 rw [List.take_succ_eq_append_getElem h, List.any_append, h1]; simp [h2]
theorem any_at {α : Type} {p : α → Bool} {l : List α} {i : Nat} (h : i < l.length) (h2 : p l[i] = true) : l.any p = true :=
 List.any_eq_true.2 ⟨_, List.getElem_mem h, h2⟩
theorem name_spec (l : List UInt8) : Does Tryz.prog 214 [.c (.str l)] [] (Rt (.c (.int .i64 (nameC l))) []) := by
 refine X_spec (n := 39) (n0 := 0) tabOk Tryz.call214 Tryz.func214 ?_
 intro hb; have hb : l.length ≤ 9223372036854775807 := hb.1.1
 have bad : ∀ {i : Nat} (h : i < l.length), odd l[i] = true → (2 : Int) = nameC l := fun h h2 => by
  unfold nameC; rw [if_pos (.inr (.inr (.inr (any_at h h2))))]
 (conv => whnf)
 refine dec (fun (h : l = []) => ?_) (fun (h : ¬ l = []) => ?_)
 ·(conv => whnf); refine rtC ?_ rfl
  simp [nameC, h]
 (conv => whnf)
 refine dec (fun (h2 : l = [46]) => ?_) (fun (h2 : ¬ l = [46]) => ?_)
 ·(conv => whnf); refine rtC ?_ rfl
  simp [nameC, h2]
 (conv => whnf)
 refine dec (fun (h3 : l = [46, 46]) => ?_) (fun (h3 : ¬ l = [46, 46]) => ?_)
 ·(conv => whnf); refine rtC ?_ rfl
  simp [nameC, h3]
 (conv => whnf)
 refine lp Nat (fun i => ⟨[(0, .c (.str l)), (15, .c (.int .i64 l.length)), (16, .c (.int .i64 i))], []⟩) (fun i => i ≤ l.length ∧ (l.take i).any odd = false) (fun i => l.length - i) 0 [] [] ?_ ?_ (fun i hi => ?_)
 ·simp
 ·repeat' first | exact trivial | exact rfl | refine And.intro ?_ ?_
 (conv => whnf)
 refine dec (fun h4 => ?_) (fun h4 => ?_)
 ·have hlt : i < l.length := by omega
  (conv => whnf); refine ⟨i, l[i], rfl, List.getElem?_eq_getElem hlt, ?_⟩
  (conv => whnf); refine dec (fun h5 => ?_) (fun h5 => ?_)
  ·(conv => whnf); refine rtC ?_ rfl
   rw [← bad hlt (by simp [odd]; omega)]
  (conv => whnf); refine ⟨i, l[i], rfl, List.getElem?_eq_getElem hlt, ?_⟩
  (conv => whnf); refine dec (fun h6 => ?_) (fun h6 => ?_)
  ·(conv => whnf); refine rtC ?_ rfl
   rw [← bad hlt (by simp [odd]; omega)]
  (conv => whnf); refine ⟨i, l[i], rfl, List.getElem?_eq_getElem hlt, ?_⟩
  (conv => whnf); refine dec (fun h7 => ?_) (fun h7 => ?_)
  ·(conv => whnf); refine rtC ?_ rfl
   rw [← bad hlt (by simp [odd]; omega)]
  (conv => whnf); refine ⟨i64 (by omega) (by omega), ?_⟩
  (conv => whnf); refine ag (i + 1) [] [] ⟨hlt, any_take hlt hi.2 (by simp [odd]; omega)⟩ (by simp only []; omega) ?_
  repeat' first | exact trivial | exact rfl | refine And.intro ?_ ?_
 ·obtain rfl : i = l.length := by omega
  have ha : l.any odd = false := by simpa using hi.2
  (conv => whnf); refine dec (fun h5 => ?_) (fun h5 => ?_)
  ·(conv => whnf); refine rtC ?_ rfl
   unfold nameC; rw [if_neg (by simp [h, h2, h3, ha]), if_pos (by omega)]
  ·(conv => whnf); refine rtC ?_ rfl
   unfold nameC; rw [if_neg (by simp [h, h2, h3, ha]), if_neg (by omega)]
end Go.Nest
end
/- part -/
section

namespace Go.Nest
open Go Go.AM Go.Proofs
open Go.Proofs.YtpechfcbnoggfaaGreatDoor (tab tabOk)
set_option maxRecDepth 4000
theorem nameF_spec (l : List UInt8) : Does Tryz.prog 235 [.c (.str l)] [] (Rt (.c (.int .i64 (nameC l))) []) := by
 refine X_spec (n := 39) (n0 := 0) tabOk Tryz.call235 Tryz.func235 ?_
 intro hb; have hb : l.length ≤ 9223372036854775807 := hb.1.1
 have bad : ∀ {i : Nat} (h : i < l.length), odd l[i] = true → (2 : Int) = nameC l := fun h h2 => by
  unfold nameC; rw [if_pos (.inr (.inr (.inr (any_at h h2))))]
 (conv => whnf)
 refine dec (fun (h0 : l = []) => ?_) (fun (h0 : ¬ l = []) => ?_)
 ·(conv => whnf); refine rtC ?_ rfl; simp [nameC, h0]
 (conv => whnf)
 refine dec (fun (h2 : l = [46]) => ?_) (fun (h2 : ¬ l = [46]) => ?_)
 ·(conv => whnf); refine rtC ?_ rfl; simp [nameC, h2]
 (conv => whnf)
 refine dec (fun (h3 : l = [46, 46]) => ?_) (fun (h3 : ¬ l = [46, 46]) => ?_)
 ·(conv => whnf); refine rtC ?_ rfl; simp [nameC, h3]
 (conv => whnf)
 refine lp Nat (fun i => ⟨[(0, .c (.str l)), (3, .c (.int .i64 i))], []⟩) (fun i => i ≤ l.length ∧ (l.take i).any odd = false) (fun i => l.length - i) 0 [] [] ?_ ?_ (fun i hi => ?_)
 ·simp
 ·repeat' first | exact trivial | exact rfl | refine And.intro ?_ ?_
 (conv => whnf)
 refine dec (fun h4 => ?_) (fun h4 => ?_)
 ·have hlt : i < l.length := by omega
  repeat' ((conv => whnf); first | (refine dec (fun h => ?_) (fun h => ?_) <;> try contradiction) | refine ⟨i64 (by omega) (by omega), ?_⟩ | refine ⟨_, _, rfl, List.getElem?_eq_getElem (by omega), ?_⟩ | refine rtI ?_ | fail)
  ·rw [← bad hlt (by simp [odd]; omega)]
  ·rw [← bad hlt (by simp [odd]; omega)]
  ·rw [← bad hlt (by simp [odd]; omega)]
  ·refine ag (i + 1) [] [] ⟨hlt, any_take hlt hi.2 (by simp [odd]; omega)⟩ (by simp only []; omega) ?_
   repeat' first | exact trivial | exact rfl | refine And.intro ?_ ?_
 ·obtain rfl : i = l.length := by omega
  have ha : l.any odd = false := by simpa using hi.2
  repeat' ((conv => whnf); first | (refine dec (fun h => ?_) (fun h => ?_) <;> try contradiction) | refine rtI ?_ | fail)
  ·unfold nameC; rw [if_neg (by simp [h0, h2, h3, ha]), if_pos (by omega)]
  ·unfold nameC; rw [if_neg (by simp [h0, h2, h3, ha]), if_neg (by omega)]
theorem visible_spec (l : List UInt8) : Does Tryz.prog 317 [.c (.str l)] [] (Rt (.c (.bool (l.all shown))) []) := by
 refine X_spec (n := 20) (n0 := 0) tabOk Tryz.call317 Tryz.func317 ?_
 intro hb; have hb : l.length ≤ 9223372036854775807 := hb.1.1
 (conv => whnf)
 refine lp Nat (fun i => ⟨[(0, .c (.str l)), (5, .c (.int .i64 l.length)), (6, .c (.int .i64 i))], []⟩) (fun i => i ≤ l.length ∧ (l.take i).all shown = true) (fun i => l.length - i) 0 [] [] ?_ ?_ (fun i hi => ?_)
 ·simp
 ·repeat' first | exact trivial | exact rfl | refine And.intro ?_ ?_
 have bad : ∀ (h : i < l.length), shown l[i] = false → false = l.all shown := fun h h2 => by
  symm; rw [Bool.eq_false_iff, Ne, List.all_eq_true]; intro h3; rw [h3 _ (List.getElem_mem h)] at h2; cases h2
 (conv => whnf)
 refine dec (fun h4 => ?_) (fun h4 => ?_)
 ·have hlt : i < l.length := by omega
  repeat' ((conv => whnf); first | (refine dec (fun h => ?_) (fun h => ?_) <;> try contradiction) | refine ⟨i64 (by omega) (by omega), ?_⟩ | refine ⟨_, _, rfl, List.getElem?_eq_getElem (by omega), ?_⟩ | refine rtB ?_ | fail)
  ·rw [← bad hlt (by simp [shown]; omega)]
  ·rw [← bad hlt (by simp [shown]; omega)]
  ·refine ag (i + 1) [] [] ⟨hlt, ?_⟩ (by simp only []; omega) ?_
   ·rw [List.take_succ_eq_append_getElem hlt, List.all_append, hi.2]; simp [shown]; omega
   repeat' first | exact trivial | exact rfl | refine And.intro ?_ ?_
 ·obtain rfl : i = l.length := by omega
  have ha : l.all shown = true := by simpa using hi.2
  repeat' ((conv => whnf); first | refine rtB ?_ | fail)
  rw [ha]
end Go.Nest
end
/- part -/
section

namespace Go.Nest
open Go Go.AM Go.Proofs
theorem ne_at {α : Type} [DecidableEq α] {l m : List α} {i : Nat} (h : i < l.length) (h' : i < m.length) (hne : ¬ l[i] = m[i]) : false = decide (l = m) := by
 symm; rw [decide_eq_false_iff_not]; intro e; subst e; exact hne rfl
theorem take_step {α : Type} {l m : List α} {i : Nat} (h : i < l.length) (h' : i < m.length) (ht : l.take i = m.take i) (he : l[i] = m[i]) : l.take (i + 1) = m.take (i + 1) := by
 rw [List.take_succ_eq_append_getElem h, List.take_succ_eq_append_getElem h', ht, he]
theorem take_end {α : Type} [DecidableEq α] {l m : List α} {i : Nat} (h : l.length ≤ i) (hl : l.length = m.length) (ht : l.take i = m.take i) : true = decide (l = m) := by
 symm; rw [decide_eq_true_iff]; rwa [List.take_of_length_le h, List.take_of_length_le (hl ▸ h)] at ht
theorem ne_len {α : Type} [DecidableEq α] {l m : List α} (h : ¬ (l.length : Int) = m.length) : false = decide (l = m) := by
 symm; rw [decide_eq_false_iff_not]; intro e; subst e; exact h rfl
theorem byte_eq {a b : UInt8} : (a.toNat : Int) = b.toNat ↔ a = b := by rw [Int.natCast_inj]; exact UInt8.toNat_inj
theorem eqEn {a b : Ent} : EqCs (encEn a) (encEn b) ↔ a = b := by
 cases a; cases b; simp [encEn, EqCs, EqC]
end Go.Nest
end
