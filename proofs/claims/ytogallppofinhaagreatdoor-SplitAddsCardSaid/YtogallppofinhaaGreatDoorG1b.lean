/- THE TABLE of types, and that it is right. -/
import Derived.Test.YtogallppofinhaaGreatDoorAmT
import Derived.Test.YtogallppofinhaaGreatDoorProg
import Derived.KernelRfl
section
namespace Go.Proofs.YtogallppofinhaaGreatDoor
open Go Go.AM Go.Nest
set_option linter.unusedVariables false

def tabL : List (Nat × TD) := [
  (3, ⟨1, false, 8, (.int .i64), [.int .i64 0], false, Int, encI⟩),
  (4, ⟨1, false, 1, .bool, [.bool false], false, Bool, encBo⟩),
  (5, ⟨1, false, 1, (.int .u8), [.int .u8 0], false, UInt8, bytesC⟩),
  (9, ⟨1, false, 16, .str, [.str []], false, (List UInt8), encS⟩),
  (21, ⟨1, false, 4, (.int .i32), [.int .i32 0], false, Unit, (fun _ => [])⟩),
  (22, ⟨1, false, 24, (.sl 40), [.nil], false, (List Unit), (encL 7 (fun _ => []))⟩),
  (27, ⟨1, false, 24, (.sl 28), [.nil], false, (List (List Dc)), (encL 1 (encL 2 encDc))⟩),
  (28, ⟨1, false, 24, (.sl 151), [.nil], false, (List Dc), (encL 2 encDc)⟩),
  (29, ⟨1, false, 8, .ptr, [.raw (.pointer none)], false, Unit, (fun _ => [])⟩),
  (30, ⟨1, false, 8, .ptr, [.raw (.pointer none)], false, Unit, (fun _ => [])⟩),
  (31, ⟨1, false, 8, .ptr, [.raw (.pointer none)], false, Unit, (fun _ => [])⟩),
  (32, ⟨1, false, 24, (.sl 3), [.nil], false, (List Int), (encL 1 encI)⟩),
  (34, ⟨4, true, 48, (.struct [(29, 0), (30, 1), (31, 2), (32, 3)]), [.raw (.pointer none), .raw (.pointer none), .raw (.pointer none), .nil], false, Unit, (fun _ => [])⟩),
  (38, ⟨1, false, 24, (.sl 5), [.nil], false, (List UInt8), (encL 1 bytesC)⟩),
  (40, ⟨7, true, 88, (.struct [(3, 0), (3, 1), (3, 2), (9, 3), (9, 4), (38, 5), (4, 6)]), [.int .i64 0, .int .i64 0, .int .i64 0, .str [], .str [], .nil, .bool false], false, Unit, (fun _ => [])⟩),
  (42, ⟨1, false, 8, (.int .u64), [.int .u64 0], false, Unit, (fun _ => [])⟩),
  (45, ⟨1, false, 24, (.sl 164), [.nil], false, (List Ch), (encL 9 encCh)⟩),
  (49, ⟨1, false, 8, .ptr, [.raw (.pointer none)], false, Unit, (fun _ => [])⟩),
  (50, ⟨1, false, 24, (.sl 159), [.nil], false, (List It), (encL 5 encIt)⟩),
  (52, ⟨3, true, 40, (.struct [(49, 0), (50, 1), (3, 2)]), [.raw (.pointer none), .nil, .int .i64 0], false, Unit, (fun _ => [])⟩),
  (53, ⟨1, false, 24, (.sl 75), [.nil], false, (List Ob), (encL 6 encOb)⟩),
  (55, ⟨1, true, 24, (.struct [(53, 0)]), [.nil], false, Unit, (fun _ => [])⟩),
  (56, ⟨1, false, 24, (.sl 64), [.nil], false, (List Fi), (encL 4 encFi)⟩),
  (64, ⟨4, true, 40, (.struct [(9, 0), (3, 1), (3, 2), (3, 3)]), [.str [], .int .i64 0, .int .i64 0, .int .i64 0], true, Fi, encFi⟩),
  (66, ⟨1, false, 24, (.sl 168), [.nil], false, (List Sn), (encL 3 encSn)⟩),
  (73, ⟨1, false, 24, (.sl 182), [.nil], false, (List Ent), (encL 4 encEn)⟩),
  (75, ⟨6, true, 104, (.struct [(3, 0), (38, 1), (73, 2), (3, 3), (32, 4), (9, 5)]), [.int .i64 0, .nil, .nil, .int .i64 0, .nil, .str []], false, Ob, encOb⟩),
  (80, ⟨1, false, 24, (.sl 189), [.nil], false, (List Unit), (encL 4 (fun _ => []))⟩),
  (81, ⟨1, false, 24, (.sl 90), [.nil], false, (List Unit), (encL 9 (fun _ => []))⟩),
  (83, ⟨1, false, 8, .ptr, [.raw (.pointer none)], false, Unit, (fun _ => [])⟩),
  (84, ⟨1, false, 8, .ptr, [.raw (.pointer none)], false, Unit, (fun _ => [])⟩),
  (88, ⟨4, true, 96, (.arr 4 32), [.nil, .nil, .nil, .nil], false, Unit, (fun _ => [])⟩),
  (90, ⟨9, true, 136, (.struct [(3, 0), (3, 1), (3, 2), (3, 3), (4, 4), (88, 5)]), [.int .i64 0, .int .i64 0, .int .i64 0, .int .i64 0, .bool false, .nil, .nil, .nil, .nil], false, Unit, (fun _ => [])⟩),
  (92, ⟨1, false, 24, (.sl 4), [.nil], false, (List Bool), (encL 1 encBo)⟩),
  (93, ⟨4, true, 96, (.arr 4 92), [.nil, .nil, .nil, .nil], false, Unit, (fun _ => [])⟩),
  (95, ⟨9, true, 200, (.struct [(29, 0), (93, 1), (88, 5)]), [.raw (.pointer none), .nil, .nil, .nil, .nil, .nil, .nil, .nil, .nil], false, Unit, (fun _ => [])⟩),
  (102, ⟨9, true, 200, (.struct [(49, 0), (88, 1), (88, 5)]), [.raw (.pointer none), .nil, .nil, .nil, .nil, .nil, .nil, .nil, .nil], false, Unit, (fun _ => [])⟩),
  (107, ⟨1, false, 24, (.sl 56), [.nil], false, (List (List Fi)), (encL 1 (encL 4 encFi))⟩),
  (108, ⟨4, true, 96, (.arr 4 107), [.nil, .nil, .nil, .nil], false, Unit, (fun _ => [])⟩),
  (111, ⟨3, true, 72, (.arr 3 28), [.nil, .nil, .nil], false, (Int × Int × Int), encTr⟩),
  (115, ⟨1, false, 24, (.sl 9), [.nil], false, (List (List UInt8)), (encL 1 encS)⟩),
  (122, ⟨3, true, 72, (.arr 3 56), [.nil, .nil, .nil], false, (Int × Int × Int), encTr⟩),
  (144, ⟨1, false, 24, (.sl 148), [.nil], false, (List It), (encL 5 encIt)⟩),
  (146, ⟨3, true, 40, (.struct [(29, 0), (144, 1), (3, 2)]), [.raw (.pointer none), .nil, .int .i64 0], false, Unit, (fun _ => [])⟩),
  (148, ⟨5, true, 64, (.struct [(9, 0), (38, 1), (4, 2), (3, 3), (3, 4)]), [.str [], .ls 1 UInt8 bytesC [], .bool false, .int .i64 0, .int .i64 0], false, It, encIt⟩),
  (151, ⟨2, true, 40, (.struct [(9, 0), (38, 1)]), [.str [], .nil], false, Dc, encDc⟩),
  (159, ⟨5, true, 64, (.struct [(9, 0), (38, 1), (4, 2), (3, 3), (3, 4)]), [.str [], .ls 1 UInt8 bytesC [], .bool false, .int .i64 0, .int .i64 0], false, It, encIt⟩),
  (161, ⟨1, true, 24, (.struct [(53, 0)]), [.nil], false, Unit, (fun _ => [])⟩),
  (164, ⟨9, true, 96, (.struct [(9, 0), (64, 1), (64, 5)]), [.str [], .str [], .int .i64 0, .int .i64 0, .int .i64 0, .str [], .int .i64 0, .int .i64 0, .int .i64 0], true, Ch, encCh⟩),
  (168, ⟨3, true, 64, (.struct [(28, 0), (32, 1), (9, 2)]), [.nil, .nil, .str []], false, Sn, encSn⟩),
  (170, ⟨1, false, 24, (.sl 32), [.nil], false, (List (List Int)), (encL 1 (encL 1 encI))⟩),
  (172, ⟨3, true, 48, (.struct [(29, 0), (9, 1), (170, 2)]), [.raw (.pointer none), .str [], .nil], false, Unit, (fun _ => [])⟩),
  (182, ⟨4, true, 40, (.struct [(9, 0), (3, 1), (3, 2), (3, 3)]), [.str [], .int .i64 0, .int .i64 0, .int .i64 0], true, Ent, encEn⟩),
  (189, ⟨4, true, 40, (.struct [(3, 0), (3, 1), (3, 2), (9, 3)]), [.int .i64 0, .int .i64 0, .int .i64 0, .str []], true, Unit, (fun _ => [])⟩),
  (198, ⟨1, false, 24, (.sl 200), [.nil], false, (List (Int × Int)), (encL 2 encPr)⟩),
  (200, ⟨2, true, 16, (.arr 2 3), [.int .i64 0, .int .i64 0], false, (Int × Int), encPr⟩),
  (204, ⟨4, true, 64, (.struct [(29, 0), (56, 1), (115, 2), (3, 3)]), [.raw (.pointer none), .nil, .nil, .int .i64 0], false, Unit, (fun _ => [])⟩),
  (208, ⟨1, false, 24, (.sl 38), [.nil], false, (List (List UInt8)), (encL 1 (encL 1 bytesC))⟩),
  (239, ⟨1, false, 24, (.sl 244), [.nil], false, (List (Int × Int)), (encL 2 encPr)⟩),
  (241, ⟨3, true, 24, (.arr 3 3), [.int .i64 0, .int .i64 0, .int .i64 0], false, (Int × Int × Int), encTr⟩),
  (242, ⟨1, false, 24, (.sl 241), [.nil], false, (List (Int × Int × Int)), (encL 3 encTr)⟩),
  (244, ⟨2, true, 16, (.struct [(3, 0), (3, 1)]), [.int .i64 0, .int .i64 0], true, (Int × Int), encPr⟩),
  (255, ⟨1, false, 8, (.int .i64), [.int .i64 0], false, Int, encI⟩),
  (263, ⟨1, false, 4, (.int .u32), [.int .u32 0], false, Unit, (fun _ => [])⟩),
  (265, ⟨1, false, 8, (.int .u64), [.int .u64 0], false, Unit, (fun _ => [])⟩),
  (274, ⟨1, false, 8, (.int .u64), [.int .u64 0], false, Unit, (fun _ => [])⟩),
  (283, ⟨1, false, 8, .ptr, [.raw (.pointer none)], false, Unit, (fun _ => [])⟩),
  (285, ⟨2, true, 32, (.struct [(283, 0), (38, 1)]), [.raw (.pointer none), .nil], false, Unit, (fun _ => [])⟩),
  (297, ⟨1, false, 24, (.sl 310), [.nil], false, (List (Int × Int)), (encL 2 encPr)⟩),
  (307, ⟨1, false, 8, .ptr, [.raw (.pointer none)], false, Unit, (fun _ => [])⟩),
  (310, ⟨2, true, 16, (.struct [(3, 0), (3, 1)]), [.int .i64 0, .int .i64 0], true, (Int × Int), encPr⟩),
  (315, ⟨1, false, 8, .other, [.raw (.pointer none)], false, Unit, (fun _ => [])⟩),
  (322, ⟨2, true, 2, (.struct [(5, 0), (5, 1)]), [.int .u8 0, .int .u8 0], false, Unit, (fun _ => [])⟩),
  (323, ⟨32, true, 32, (.arr 16 322), [.int .u8 0, .int .u8 0, .int .u8 0, .int .u8 0, .int .u8 0, .int .u8 0, .int .u8 0, .int .u8 0, .int .u8 0, .int .u8 0, .int .u8 0, .int .u8 0, .int .u8 0, .int .u8 0, .int .u8 0, .int .u8 0, .int .u8 0, .int .u8 0, .int .u8 0, .int .u8 0, .int .u8 0, .int .u8 0, .int .u8 0, .int .u8 0, .int .u8 0, .int .u8 0, .int .u8 0, .int .u8 0, .int .u8 0, .int .u8 0, .int .u8 0, .int .u8 0], false, Unit, (fun _ => [])⟩)]
def tab : Nat → Option TD := lkT tabL

theorem good3 : ∀ d, tab 3 = some d → Good Tryz.prog tab 3 d := fun d h => by
  cases h
  exact ⟨⟨_, _, _, Tryz.typeInfo3, rfl, rfl, rfl, rfl, fun _ _ _ => by exact (.int .nl)⟩, Tryz.isAgg3, (fun _ => rfl), rfl, Tryz.underlying3, (fun h => by cases h)⟩
theorem good4 : ∀ d, tab 4 = some d → Good Tryz.prog tab 4 d := fun d h => by
  cases h
  exact ⟨⟨_, _, _, Tryz.typeInfo4, rfl, rfl, rfl, rfl, fun _ _ _ => by exact (.bool .nl)⟩, Tryz.isAgg4, (fun _ => rfl), rfl, Tryz.underlying4, (fun h => by cases h)⟩
theorem good5 : ∀ d, tab 5 = some d → Good Tryz.prog tab 5 d := fun d h => by
  cases h
  exact ⟨⟨_, _, _, Tryz.typeInfo5, rfl, rfl, rfl, rfl, fun _ _ _ => by exact (.int .nl)⟩, Tryz.isAgg5, (fun _ => rfl), rfl, Tryz.underlying5, (fun h => by cases h)⟩
theorem good9 : ∀ d, tab 9 = some d → Good Tryz.prog tab 9 d := fun d h => by
  cases h
  exact ⟨⟨_, _, _, Tryz.typeInfo9, rfl, rfl, rfl, rfl, fun _ _ _ => by exact (.str (Nat.zero_le _) .nl)⟩, Tryz.isAgg9, (fun _ => rfl), rfl, Tryz.underlying9, (fun h => by cases h)⟩
theorem good21 : ∀ d, tab 21 = some d → Good Tryz.prog tab 21 d := fun d h => by
  cases h
  exact ⟨⟨_, _, _, Tryz.typeInfo21, rfl, rfl, rfl, rfl, fun _ _ _ => by exact (.int .nl)⟩, Tryz.isAgg21, (fun _ => rfl), rfl, Tryz.underlying21, (fun h => by cases h)⟩
theorem good22 : ∀ d, tab 22 = some d → Good Tryz.prog tab 22 d := fun d h => by
  cases h
  exact ⟨⟨_, _, _, Tryz.typeInfo22, rfl, rfl, rfl, rfl, fun _ _ _ => by exact (.nil .nl)⟩, Tryz.isAgg22, (fun _ => rfl), rfl, Tryz.underlying22, (fun h => by cases h)⟩
theorem good27 : ∀ d, tab 27 = some d → Good Tryz.prog tab 27 d := fun d h => by
  cases h
  exact ⟨⟨_, _, _, Tryz.typeInfo27, rfl, rfl, rfl, rfl, fun _ _ _ => by exact (.nil .nl)⟩, Tryz.isAgg27, (fun _ => rfl), rfl, Tryz.underlying27, (fun h => by cases h)⟩
theorem good28 : ∀ d, tab 28 = some d → Good Tryz.prog tab 28 d := fun d h => by
  cases h
  exact ⟨⟨_, _, _, Tryz.typeInfo28, rfl, rfl, rfl, rfl, fun _ _ _ => by exact (.nil .nl)⟩, Tryz.isAgg28, (fun _ => rfl), rfl, Tryz.underlying28, (fun h => by cases h)⟩
theorem good29 : ∀ d, tab 29 = some d → Good Tryz.prog tab 29 d := fun d h => by
  cases h
  exact ⟨⟨_, _, _, Tryz.typeInfo29, rfl, rfl, rfl, rfl, fun _ _ _ => by exact (.raw rfl .nl)⟩, Tryz.isAgg29, (fun _ => rfl), rfl, ⟨_, Tryz.underlying29⟩, (fun h => by cases h)⟩
theorem good30 : ∀ d, tab 30 = some d → Good Tryz.prog tab 30 d := fun d h => by
  cases h
  exact ⟨⟨_, _, _, Tryz.typeInfo30, rfl, rfl, rfl, rfl, fun _ _ _ => by exact (.raw rfl .nl)⟩, Tryz.isAgg30, (fun _ => rfl), rfl, ⟨_, Tryz.underlying30⟩, (fun h => by cases h)⟩
theorem good31 : ∀ d, tab 31 = some d → Good Tryz.prog tab 31 d := fun d h => by
  cases h
  exact ⟨⟨_, _, _, Tryz.typeInfo31, rfl, rfl, rfl, rfl, fun _ _ _ => by exact (.raw rfl .nl)⟩, Tryz.isAgg31, (fun _ => rfl), rfl, ⟨_, Tryz.underlying31⟩, (fun h => by cases h)⟩
theorem good32 : ∀ d, tab 32 = some d → Good Tryz.prog tab 32 d := fun d h => by
  cases h
  exact ⟨⟨_, _, _, Tryz.typeInfo32, rfl, rfl, rfl, rfl, fun _ _ _ => by exact (.nil .nl)⟩, Tryz.isAgg32, (fun _ => rfl), rfl, Tryz.underlying32, (fun h => by cases h)⟩
theorem good34 : ∀ d, tab 34 = some d → Good Tryz.prog tab 34 d := fun d h => by
  cases h
  exact ⟨⟨_, _, _, Tryz.typeInfo34, rfl, rfl, rfl, rfl, fun _ _ _ => by exact (.raw rfl (.raw rfl (.raw rfl (.nil .nl))))⟩, Tryz.isAgg34, (fun h => by cases h), rfl, ⟨_, Tryz.underlying34, rfl, rfl⟩, (fun h => by cases h)⟩
theorem good38 : ∀ d, tab 38 = some d → Good Tryz.prog tab 38 d := fun d h => by
  cases h
  exact ⟨⟨_, _, _, Tryz.typeInfo38, rfl, rfl, rfl, rfl, fun _ _ _ => by exact (.nil .nl)⟩, Tryz.isAgg38, (fun _ => rfl), rfl, Tryz.underlying38, (fun h => by cases h)⟩
theorem good40 : ∀ d, tab 40 = some d → Good Tryz.prog tab 40 d := fun d h => by
  cases h
  exact ⟨⟨_, _, _, Tryz.typeInfo40, rfl, rfl, rfl, rfl, fun _ _ _ => by exact (.int (.int (.int (.str (Nat.zero_le _) (.str (Nat.zero_le _) (.nil (.bool .nl)))))))⟩, Tryz.isAgg40, (fun h => by cases h), rfl, ⟨_, Tryz.underlying40, rfl, rfl⟩, (fun h => by cases h)⟩
theorem good42 : ∀ d, tab 42 = some d → Good Tryz.prog tab 42 d := fun d h => by
  cases h
  exact ⟨⟨_, _, _, Tryz.typeInfo42, rfl, rfl, rfl, rfl, fun _ _ _ => by exact (.int .nl)⟩, Tryz.isAgg42, (fun _ => rfl), rfl, Tryz.underlying42, (fun h => by cases h)⟩
theorem good45 : ∀ d, tab 45 = some d → Good Tryz.prog tab 45 d := fun d h => by
  cases h
  exact ⟨⟨_, _, _, Tryz.typeInfo45, rfl, rfl, rfl, rfl, fun _ _ _ => by exact (.nil .nl)⟩, Tryz.isAgg45, (fun _ => rfl), rfl, Tryz.underlying45, (fun h => by cases h)⟩
theorem good49 : ∀ d, tab 49 = some d → Good Tryz.prog tab 49 d := fun d h => by
  cases h
  exact ⟨⟨_, _, _, Tryz.typeInfo49, rfl, rfl, rfl, rfl, fun _ _ _ => by exact (.raw rfl .nl)⟩, Tryz.isAgg49, (fun _ => rfl), rfl, ⟨_, Tryz.underlying49⟩, (fun h => by cases h)⟩
theorem good50 : ∀ d, tab 50 = some d → Good Tryz.prog tab 50 d := fun d h => by
  cases h
  exact ⟨⟨_, _, _, Tryz.typeInfo50, rfl, rfl, rfl, rfl, fun _ _ _ => by exact (.nil .nl)⟩, Tryz.isAgg50, (fun _ => rfl), rfl, Tryz.underlying50, (fun h => by cases h)⟩
theorem good52 : ∀ d, tab 52 = some d → Good Tryz.prog tab 52 d := fun d h => by
  cases h
  exact ⟨⟨_, _, _, Tryz.typeInfo52, rfl, rfl, rfl, rfl, fun _ _ _ => by exact (.raw rfl (.nil (.int .nl)))⟩, Tryz.isAgg52, (fun h => by cases h), rfl, ⟨_, Tryz.underlying52, rfl, rfl⟩, (fun h => by cases h)⟩
theorem good53 : ∀ d, tab 53 = some d → Good Tryz.prog tab 53 d := fun d h => by
  cases h
  exact ⟨⟨_, _, _, Tryz.typeInfo53, rfl, rfl, rfl, rfl, fun _ _ _ => by exact (.nil .nl)⟩, Tryz.isAgg53, (fun _ => rfl), rfl, Tryz.underlying53, (fun h => by cases h)⟩
theorem good55 : ∀ d, tab 55 = some d → Good Tryz.prog tab 55 d := fun d h => by
  cases h
  exact ⟨⟨_, _, _, Tryz.typeInfo55, rfl, rfl, rfl, rfl, fun _ _ _ => by exact (.nil .nl)⟩, Tryz.isAgg55, (fun h => by cases h), rfl, ⟨_, Tryz.underlying55, rfl, rfl⟩, (fun h => by cases h)⟩
theorem good56 : ∀ d, tab 56 = some d → Good Tryz.prog tab 56 d := fun d h => by
  cases h
  exact ⟨⟨_, _, _, Tryz.typeInfo56, rfl, rfl, rfl, rfl, fun _ _ _ => by exact (.nil .nl)⟩, Tryz.isAgg56, (fun _ => rfl), rfl, Tryz.underlying56, (fun h => by cases h)⟩
theorem good64 : ∀ d, tab 64 = some d → Good Tryz.prog tab 64 d := fun d h => by
  cases h
  exact ⟨⟨_, _, _, Tryz.typeInfo64, rfl, rfl, rfl, rfl, fun _ _ _ => by exact (.str (Nat.zero_le _) (.int (.int (.int .nl))))⟩, Tryz.isAgg64, (fun h => by cases h), rfl, ⟨_, Tryz.underlying64, rfl, rfl⟩, (fun _ => ⟨by kernel_rfl, by exact (CmpAt.struct (by kernel_rfl) (by kernel_rfl) (by rw [fieldsL Tryz.underlying64]; exact ⟨false, [.str []], _, rfl, by decide, rfl, Tryz.isAgg9, sizeOf_of Tryz.typeInfo9 rfl, by decide, (CmpAt.str Tryz.underlying9), ⟨false, [.int .i64 0], _, rfl, by decide, rfl, Tryz.isAgg3, sizeOf_of Tryz.typeInfo3 rfl, by decide, (CmpAt.int Tryz.underlying3), ⟨false, [.int .i64 0], _, rfl, by decide, rfl, Tryz.isAgg3, sizeOf_of Tryz.typeInfo3 rfl, by decide, (CmpAt.int Tryz.underlying3), ⟨false, [.int .i64 0], _, rfl, by decide, rfl, Tryz.isAgg3, sizeOf_of Tryz.typeInfo3 rfl, by decide, (CmpAt.int Tryz.underlying3), rfl⟩⟩⟩⟩))⟩)⟩
theorem good66 : ∀ d, tab 66 = some d → Good Tryz.prog tab 66 d := fun d h => by
  cases h
  exact ⟨⟨_, _, _, Tryz.typeInfo66, rfl, rfl, rfl, rfl, fun _ _ _ => by exact (.nil .nl)⟩, Tryz.isAgg66, (fun _ => rfl), rfl, Tryz.underlying66, (fun h => by cases h)⟩
theorem good73 : ∀ d, tab 73 = some d → Good Tryz.prog tab 73 d := fun d h => by
  cases h
  exact ⟨⟨_, _, _, Tryz.typeInfo73, rfl, rfl, rfl, rfl, fun _ _ _ => by exact (.nil .nl)⟩, Tryz.isAgg73, (fun _ => rfl), rfl, Tryz.underlying73, (fun h => by cases h)⟩
theorem good75 : ∀ d, tab 75 = some d → Good Tryz.prog tab 75 d := fun d h => by
  cases h
  exact ⟨⟨_, _, _, Tryz.typeInfo75, rfl, rfl, rfl, rfl, fun _ _ _ => by exact (.int (.nil (.nil (.int (.nil (.str (Nat.zero_le _) .nl))))))⟩, Tryz.isAgg75, (fun h => by cases h), rfl, ⟨_, Tryz.underlying75, rfl, rfl⟩, (fun h => by cases h)⟩
theorem good80 : ∀ d, tab 80 = some d → Good Tryz.prog tab 80 d := fun d h => by
  cases h
  exact ⟨⟨_, _, _, Tryz.typeInfo80, rfl, rfl, rfl, rfl, fun _ _ _ => by exact (.nil .nl)⟩, Tryz.isAgg80, (fun _ => rfl), rfl, Tryz.underlying80, (fun h => by cases h)⟩
theorem good81 : ∀ d, tab 81 = some d → Good Tryz.prog tab 81 d := fun d h => by
  cases h
  exact ⟨⟨_, _, _, Tryz.typeInfo81, rfl, rfl, rfl, rfl, fun _ _ _ => by exact (.nil .nl)⟩, Tryz.isAgg81, (fun _ => rfl), rfl, Tryz.underlying81, (fun h => by cases h)⟩
theorem good83 : ∀ d, tab 83 = some d → Good Tryz.prog tab 83 d := fun d h => by
  cases h
  exact ⟨⟨_, _, _, Tryz.typeInfo83, rfl, rfl, rfl, rfl, fun _ _ _ => by exact (.raw rfl .nl)⟩, Tryz.isAgg83, (fun _ => rfl), rfl, ⟨_, Tryz.underlying83⟩, (fun h => by cases h)⟩
theorem good84 : ∀ d, tab 84 = some d → Good Tryz.prog tab 84 d := fun d h => by
  cases h
  exact ⟨⟨_, _, _, Tryz.typeInfo84, rfl, rfl, rfl, rfl, fun _ _ _ => by exact (.raw rfl .nl)⟩, Tryz.isAgg84, (fun _ => rfl), rfl, ⟨_, Tryz.underlying84⟩, (fun h => by cases h)⟩
theorem good88 : ∀ d, tab 88 = some d → Good Tryz.prog tab 88 d := fun d h => by
  cases h
  exact ⟨⟨_, _, _, Tryz.typeInfo88, rfl, rfl, rfl, rfl, fun _ _ _ => by exact (.nil (.nil (.nil (.nil .nl))))⟩, Tryz.isAgg88, (fun h => by cases h), rfl, Tryz.underlying88, (fun h => by cases h)⟩
theorem good90 : ∀ d, tab 90 = some d → Good Tryz.prog tab 90 d := fun d h => by
  cases h
  exact ⟨⟨_, _, _, Tryz.typeInfo90, rfl, rfl, rfl, rfl, fun _ _ _ => by exact (.int (.int (.int (.int (.bool (.nil (.nil (.nil (.nil .nl)))))))))⟩, Tryz.isAgg90, (fun h => by cases h), rfl, ⟨_, Tryz.underlying90, rfl, rfl⟩, (fun h => by cases h)⟩
theorem good92 : ∀ d, tab 92 = some d → Good Tryz.prog tab 92 d := fun d h => by
  cases h
  exact ⟨⟨_, _, _, Tryz.typeInfo92, rfl, rfl, rfl, rfl, fun _ _ _ => by exact (.nil .nl)⟩, Tryz.isAgg92, (fun _ => rfl), rfl, Tryz.underlying92, (fun h => by cases h)⟩
theorem good93 : ∀ d, tab 93 = some d → Good Tryz.prog tab 93 d := fun d h => by
  cases h
  exact ⟨⟨_, _, _, Tryz.typeInfo93, rfl, rfl, rfl, rfl, fun _ _ _ => by exact (.nil (.nil (.nil (.nil .nl))))⟩, Tryz.isAgg93, (fun h => by cases h), rfl, Tryz.underlying93, (fun h => by cases h)⟩
theorem good95 : ∀ d, tab 95 = some d → Good Tryz.prog tab 95 d := fun d h => by
  cases h
  exact ⟨⟨_, _, _, Tryz.typeInfo95, rfl, rfl, rfl, rfl, fun _ _ _ => by exact (.raw rfl (.nil (.nil (.nil (.nil (.nil (.nil (.nil (.nil .nl)))))))))⟩, Tryz.isAgg95, (fun h => by cases h), rfl, ⟨_, Tryz.underlying95, rfl, rfl⟩, (fun h => by cases h)⟩
theorem good102 : ∀ d, tab 102 = some d → Good Tryz.prog tab 102 d := fun d h => by
  cases h
  exact ⟨⟨_, _, _, Tryz.typeInfo102, rfl, rfl, rfl, rfl, fun _ _ _ => by exact (.raw rfl (.nil (.nil (.nil (.nil (.nil (.nil (.nil (.nil .nl)))))))))⟩, Tryz.isAgg102, (fun h => by cases h), rfl, ⟨_, Tryz.underlying102, rfl, rfl⟩, (fun h => by cases h)⟩
theorem good107 : ∀ d, tab 107 = some d → Good Tryz.prog tab 107 d := fun d h => by
  cases h
  exact ⟨⟨_, _, _, Tryz.typeInfo107, rfl, rfl, rfl, rfl, fun _ _ _ => by exact (.nil .nl)⟩, Tryz.isAgg107, (fun _ => rfl), rfl, Tryz.underlying107, (fun h => by cases h)⟩
theorem good108 : ∀ d, tab 108 = some d → Good Tryz.prog tab 108 d := fun d h => by
  cases h
  exact ⟨⟨_, _, _, Tryz.typeInfo108, rfl, rfl, rfl, rfl, fun _ _ _ => by exact (.nil (.nil (.nil (.nil .nl))))⟩, Tryz.isAgg108, (fun h => by cases h), rfl, Tryz.underlying108, (fun h => by cases h)⟩
theorem good111 : ∀ d, tab 111 = some d → Good Tryz.prog tab 111 d := fun d h => by
  cases h
  exact ⟨⟨_, _, _, Tryz.typeInfo111, rfl, rfl, rfl, rfl, fun _ _ _ => by exact (.nil (.nil (.nil .nl)))⟩, Tryz.isAgg111, (fun h => by cases h), rfl, Tryz.underlying111, (fun h => by cases h)⟩
theorem good115 : ∀ d, tab 115 = some d → Good Tryz.prog tab 115 d := fun d h => by
  cases h
  exact ⟨⟨_, _, _, Tryz.typeInfo115, rfl, rfl, rfl, rfl, fun _ _ _ => by exact (.nil .nl)⟩, Tryz.isAgg115, (fun _ => rfl), rfl, Tryz.underlying115, (fun h => by cases h)⟩
theorem good122 : ∀ d, tab 122 = some d → Good Tryz.prog tab 122 d := fun d h => by
  cases h
  exact ⟨⟨_, _, _, Tryz.typeInfo122, rfl, rfl, rfl, rfl, fun _ _ _ => by exact (.nil (.nil (.nil .nl)))⟩, Tryz.isAgg122, (fun h => by cases h), rfl, Tryz.underlying122, (fun h => by cases h)⟩
theorem good144 : ∀ d, tab 144 = some d → Good Tryz.prog tab 144 d := fun d h => by
  cases h
  exact ⟨⟨_, _, _, Tryz.typeInfo144, rfl, rfl, rfl, rfl, fun _ _ _ => by exact (.nil .nl)⟩, Tryz.isAgg144, (fun _ => rfl), rfl, Tryz.underlying144, (fun h => by cases h)⟩
theorem good146 : ∀ d, tab 146 = some d → Good Tryz.prog tab 146 d := fun d h => by
  cases h
  exact ⟨⟨_, _, _, Tryz.typeInfo146, rfl, rfl, rfl, rfl, fun _ _ _ => by exact (.raw rfl (.nil (.int .nl)))⟩, Tryz.isAgg146, (fun h => by cases h), rfl, ⟨_, Tryz.underlying146, rfl, rfl⟩, (fun h => by cases h)⟩
theorem good148 : ∀ d, tab 148 = some d → Good Tryz.prog tab 148 d := fun d h => by
  cases h
  exact ⟨⟨_, _, _, Tryz.typeInfo148, rfl, rfl, rfl, rfl, fun _ _ _ => by exact (.str (Nat.zero_le _) (.ls0 (.bool (.int (.int .nl)))))⟩, Tryz.isAgg148, (fun h => by cases h), rfl, ⟨_, Tryz.underlying148, rfl, rfl⟩, (fun h => by cases h)⟩
theorem good151 : ∀ d, tab 151 = some d → Good Tryz.prog tab 151 d := fun d h => by
  cases h
  exact ⟨⟨_, _, _, Tryz.typeInfo151, rfl, rfl, rfl, rfl, fun _ _ _ => by exact (.str (Nat.zero_le _) (.nil .nl))⟩, Tryz.isAgg151, (fun h => by cases h), rfl, ⟨_, Tryz.underlying151, rfl, rfl⟩, (fun h => by cases h)⟩
theorem good159 : ∀ d, tab 159 = some d → Good Tryz.prog tab 159 d := fun d h => by
  cases h
  exact ⟨⟨_, _, _, Tryz.typeInfo159, rfl, rfl, rfl, rfl, fun _ _ _ => by exact (.str (Nat.zero_le _) (.ls0 (.bool (.int (.int .nl)))))⟩, Tryz.isAgg159, (fun h => by cases h), rfl, ⟨_, Tryz.underlying159, rfl, rfl⟩, (fun h => by cases h)⟩
theorem good161 : ∀ d, tab 161 = some d → Good Tryz.prog tab 161 d := fun d h => by
  cases h
  exact ⟨⟨_, _, _, Tryz.typeInfo161, rfl, rfl, rfl, rfl, fun _ _ _ => by exact (.nil .nl)⟩, Tryz.isAgg161, (fun h => by cases h), rfl, ⟨_, Tryz.underlying161, rfl, rfl⟩, (fun h => by cases h)⟩
theorem good164 : ∀ d, tab 164 = some d → Good Tryz.prog tab 164 d := fun d h => by
  cases h
  exact ⟨⟨_, _, _, Tryz.typeInfo164, rfl, rfl, rfl, rfl, fun _ _ _ => by exact (.str (Nat.zero_le _) (.str (Nat.zero_le _) (.int (.int (.int (.str (Nat.zero_le _) (.int (.int (.int .nl)))))))))⟩, Tryz.isAgg164, (fun h => by cases h), rfl, ⟨_, Tryz.underlying164, rfl, rfl⟩, (fun _ => ⟨by kernel_rfl, by exact (CmpAt.struct (by kernel_rfl) (by kernel_rfl) (by rw [fieldsL Tryz.underlying164]; exact ⟨false, [.str []], _, rfl, by decide, rfl, Tryz.isAgg9, sizeOf_of Tryz.typeInfo9 rfl, by decide, (CmpAt.str Tryz.underlying9), ⟨true, [.str [], .int .i64 0, .int .i64 0, .int .i64 0], _, rfl, by decide, rfl, Tryz.isAgg64, sizeOf_of Tryz.typeInfo64 rfl, by decide, (CmpAt.struct (by kernel_rfl) (by kernel_rfl) (by rw [fieldsL Tryz.underlying64]; exact ⟨false, [.str []], _, rfl, by decide, rfl, Tryz.isAgg9, sizeOf_of Tryz.typeInfo9 rfl, by decide, (CmpAt.str Tryz.underlying9), ⟨false, [.int .i64 0], _, rfl, by decide, rfl, Tryz.isAgg3, sizeOf_of Tryz.typeInfo3 rfl, by decide, (CmpAt.int Tryz.underlying3), ⟨false, [.int .i64 0], _, rfl, by decide, rfl, Tryz.isAgg3, sizeOf_of Tryz.typeInfo3 rfl, by decide, (CmpAt.int Tryz.underlying3), ⟨false, [.int .i64 0], _, rfl, by decide, rfl, Tryz.isAgg3, sizeOf_of Tryz.typeInfo3 rfl, by decide, (CmpAt.int Tryz.underlying3), rfl⟩⟩⟩⟩)), ⟨true, [.str [], .int .i64 0, .int .i64 0, .int .i64 0], _, rfl, by decide, rfl, Tryz.isAgg64, sizeOf_of Tryz.typeInfo64 rfl, by decide, (CmpAt.struct (by kernel_rfl) (by kernel_rfl) (by rw [fieldsL Tryz.underlying64]; exact ⟨false, [.str []], _, rfl, by decide, rfl, Tryz.isAgg9, sizeOf_of Tryz.typeInfo9 rfl, by decide, (CmpAt.str Tryz.underlying9), ⟨false, [.int .i64 0], _, rfl, by decide, rfl, Tryz.isAgg3, sizeOf_of Tryz.typeInfo3 rfl, by decide, (CmpAt.int Tryz.underlying3), ⟨false, [.int .i64 0], _, rfl, by decide, rfl, Tryz.isAgg3, sizeOf_of Tryz.typeInfo3 rfl, by decide, (CmpAt.int Tryz.underlying3), ⟨false, [.int .i64 0], _, rfl, by decide, rfl, Tryz.isAgg3, sizeOf_of Tryz.typeInfo3 rfl, by decide, (CmpAt.int Tryz.underlying3), rfl⟩⟩⟩⟩)), rfl⟩⟩⟩))⟩)⟩
theorem good168 : ∀ d, tab 168 = some d → Good Tryz.prog tab 168 d := fun d h => by
  cases h
  exact ⟨⟨_, _, _, Tryz.typeInfo168, rfl, rfl, rfl, rfl, fun _ _ _ => by exact (.nil (.nil (.str (Nat.zero_le _) .nl)))⟩, Tryz.isAgg168, (fun h => by cases h), rfl, ⟨_, Tryz.underlying168, rfl, rfl⟩, (fun h => by cases h)⟩
theorem good170 : ∀ d, tab 170 = some d → Good Tryz.prog tab 170 d := fun d h => by
  cases h
  exact ⟨⟨_, _, _, Tryz.typeInfo170, rfl, rfl, rfl, rfl, fun _ _ _ => by exact (.nil .nl)⟩, Tryz.isAgg170, (fun _ => rfl), rfl, Tryz.underlying170, (fun h => by cases h)⟩
theorem good172 : ∀ d, tab 172 = some d → Good Tryz.prog tab 172 d := fun d h => by
  cases h
  exact ⟨⟨_, _, _, Tryz.typeInfo172, rfl, rfl, rfl, rfl, fun _ _ _ => by exact (.raw rfl (.str (Nat.zero_le _) (.nil .nl)))⟩, Tryz.isAgg172, (fun h => by cases h), rfl, ⟨_, Tryz.underlying172, rfl, rfl⟩, (fun h => by cases h)⟩
theorem good182 : ∀ d, tab 182 = some d → Good Tryz.prog tab 182 d := fun d h => by
  cases h
  exact ⟨⟨_, _, _, Tryz.typeInfo182, rfl, rfl, rfl, rfl, fun _ _ _ => by exact (.str (Nat.zero_le _) (.int (.int (.int .nl))))⟩, Tryz.isAgg182, (fun h => by cases h), rfl, ⟨_, Tryz.underlying182, rfl, rfl⟩, (fun _ => ⟨by kernel_rfl, by exact (CmpAt.struct (by kernel_rfl) (by kernel_rfl) (by rw [fieldsL Tryz.underlying182]; exact ⟨false, [.str []], _, rfl, by decide, rfl, Tryz.isAgg9, sizeOf_of Tryz.typeInfo9 rfl, by decide, (CmpAt.str Tryz.underlying9), ⟨false, [.int .i64 0], _, rfl, by decide, rfl, Tryz.isAgg3, sizeOf_of Tryz.typeInfo3 rfl, by decide, (CmpAt.int Tryz.underlying3), ⟨false, [.int .i64 0], _, rfl, by decide, rfl, Tryz.isAgg3, sizeOf_of Tryz.typeInfo3 rfl, by decide, (CmpAt.int Tryz.underlying3), ⟨false, [.int .i64 0], _, rfl, by decide, rfl, Tryz.isAgg3, sizeOf_of Tryz.typeInfo3 rfl, by decide, (CmpAt.int Tryz.underlying3), rfl⟩⟩⟩⟩))⟩)⟩
theorem good189 : ∀ d, tab 189 = some d → Good Tryz.prog tab 189 d := fun d h => by
  cases h
  exact ⟨⟨_, _, _, Tryz.typeInfo189, rfl, rfl, rfl, rfl, fun _ _ _ => by exact (.int (.int (.int (.str (Nat.zero_le _) .nl))))⟩, Tryz.isAgg189, (fun h => by cases h), rfl, ⟨_, Tryz.underlying189, rfl, rfl⟩, (fun _ => ⟨by kernel_rfl, by exact (CmpAt.struct (by kernel_rfl) (by kernel_rfl) (by rw [fieldsL Tryz.underlying189]; exact ⟨false, [.int .i64 0], _, rfl, by decide, rfl, Tryz.isAgg3, sizeOf_of Tryz.typeInfo3 rfl, by decide, (CmpAt.int Tryz.underlying3), ⟨false, [.int .i64 0], _, rfl, by decide, rfl, Tryz.isAgg3, sizeOf_of Tryz.typeInfo3 rfl, by decide, (CmpAt.int Tryz.underlying3), ⟨false, [.int .i64 0], _, rfl, by decide, rfl, Tryz.isAgg3, sizeOf_of Tryz.typeInfo3 rfl, by decide, (CmpAt.int Tryz.underlying3), ⟨false, [.str []], _, rfl, by decide, rfl, Tryz.isAgg9, sizeOf_of Tryz.typeInfo9 rfl, by decide, (CmpAt.str Tryz.underlying9), rfl⟩⟩⟩⟩))⟩)⟩
theorem good198 : ∀ d, tab 198 = some d → Good Tryz.prog tab 198 d := fun d h => by
  cases h
  exact ⟨⟨_, _, _, Tryz.typeInfo198, rfl, rfl, rfl, rfl, fun _ _ _ => by exact (.nil .nl)⟩, Tryz.isAgg198, (fun _ => rfl), rfl, Tryz.underlying198, (fun h => by cases h)⟩
theorem good200 : ∀ d, tab 200 = some d → Good Tryz.prog tab 200 d := fun d h => by
  cases h
  exact ⟨⟨_, _, _, Tryz.typeInfo200, rfl, rfl, rfl, rfl, fun _ _ _ => by exact (.int (.int .nl))⟩, Tryz.isAgg200, (fun h => by cases h), rfl, Tryz.underlying200, (fun h => by cases h)⟩
theorem good204 : ∀ d, tab 204 = some d → Good Tryz.prog tab 204 d := fun d h => by
  cases h
  exact ⟨⟨_, _, _, Tryz.typeInfo204, rfl, rfl, rfl, rfl, fun _ _ _ => by exact (.raw rfl (.nil (.nil (.int .nl))))⟩, Tryz.isAgg204, (fun h => by cases h), rfl, ⟨_, Tryz.underlying204, rfl, rfl⟩, (fun h => by cases h)⟩
theorem good208 : ∀ d, tab 208 = some d → Good Tryz.prog tab 208 d := fun d h => by
  cases h
  exact ⟨⟨_, _, _, Tryz.typeInfo208, rfl, rfl, rfl, rfl, fun _ _ _ => by exact (.nil .nl)⟩, Tryz.isAgg208, (fun _ => rfl), rfl, Tryz.underlying208, (fun h => by cases h)⟩
theorem good239 : ∀ d, tab 239 = some d → Good Tryz.prog tab 239 d := fun d h => by
  cases h
  exact ⟨⟨_, _, _, Tryz.typeInfo239, rfl, rfl, rfl, rfl, fun _ _ _ => by exact (.nil .nl)⟩, Tryz.isAgg239, (fun _ => rfl), rfl, Tryz.underlying239, (fun h => by cases h)⟩
theorem good241 : ∀ d, tab 241 = some d → Good Tryz.prog tab 241 d := fun d h => by
  cases h
  exact ⟨⟨_, _, _, Tryz.typeInfo241, rfl, rfl, rfl, rfl, fun _ _ _ => by exact (.int (.int (.int .nl)))⟩, Tryz.isAgg241, (fun h => by cases h), rfl, Tryz.underlying241, (fun h => by cases h)⟩
theorem good242 : ∀ d, tab 242 = some d → Good Tryz.prog tab 242 d := fun d h => by
  cases h
  exact ⟨⟨_, _, _, Tryz.typeInfo242, rfl, rfl, rfl, rfl, fun _ _ _ => by exact (.nil .nl)⟩, Tryz.isAgg242, (fun _ => rfl), rfl, Tryz.underlying242, (fun h => by cases h)⟩
theorem good244 : ∀ d, tab 244 = some d → Good Tryz.prog tab 244 d := fun d h => by
  cases h
  exact ⟨⟨_, _, _, Tryz.typeInfo244, rfl, rfl, rfl, rfl, fun _ _ _ => by exact (.int (.int .nl))⟩, Tryz.isAgg244, (fun h => by cases h), rfl, ⟨_, Tryz.underlying244, rfl, rfl⟩, (fun _ => ⟨by kernel_rfl, by exact (CmpAt.struct (by kernel_rfl) (by kernel_rfl) (by rw [fieldsL Tryz.underlying244]; exact ⟨false, [.int .i64 0], _, rfl, by decide, rfl, Tryz.isAgg3, sizeOf_of Tryz.typeInfo3 rfl, by decide, (CmpAt.int Tryz.underlying3), ⟨false, [.int .i64 0], _, rfl, by decide, rfl, Tryz.isAgg3, sizeOf_of Tryz.typeInfo3 rfl, by decide, (CmpAt.int Tryz.underlying3), rfl⟩⟩))⟩)⟩
theorem good255 : ∀ d, tab 255 = some d → Good Tryz.prog tab 255 d := fun d h => by
  cases h
  exact ⟨⟨_, _, _, Tryz.typeInfo255, rfl, rfl, rfl, rfl, fun _ _ _ => by exact (.int .nl)⟩, Tryz.isAgg255, (fun _ => rfl), rfl, Tryz.underlying255, (fun h => by cases h)⟩
theorem good263 : ∀ d, tab 263 = some d → Good Tryz.prog tab 263 d := fun d h => by
  cases h
  exact ⟨⟨_, _, _, Tryz.typeInfo263, rfl, rfl, rfl, rfl, fun _ _ _ => by exact (.int .nl)⟩, Tryz.isAgg263, (fun _ => rfl), rfl, Tryz.underlying263, (fun h => by cases h)⟩
theorem good265 : ∀ d, tab 265 = some d → Good Tryz.prog tab 265 d := fun d h => by
  cases h
  exact ⟨⟨_, _, _, Tryz.typeInfo265, rfl, rfl, rfl, rfl, fun _ _ _ => by exact (.int .nl)⟩, Tryz.isAgg265, (fun _ => rfl), rfl, Tryz.underlying265, (fun h => by cases h)⟩
theorem good274 : ∀ d, tab 274 = some d → Good Tryz.prog tab 274 d := fun d h => by
  cases h
  exact ⟨⟨_, _, _, Tryz.typeInfo274, rfl, rfl, rfl, rfl, fun _ _ _ => by exact (.int .nl)⟩, Tryz.isAgg274, (fun _ => rfl), rfl, Tryz.underlying274, (fun h => by cases h)⟩
theorem good283 : ∀ d, tab 283 = some d → Good Tryz.prog tab 283 d := fun d h => by
  cases h
  exact ⟨⟨_, _, _, Tryz.typeInfo283, rfl, rfl, rfl, rfl, fun _ _ _ => by exact (.raw rfl .nl)⟩, Tryz.isAgg283, (fun _ => rfl), rfl, ⟨_, Tryz.underlying283⟩, (fun h => by cases h)⟩
theorem good285 : ∀ d, tab 285 = some d → Good Tryz.prog tab 285 d := fun d h => by
  cases h
  exact ⟨⟨_, _, _, Tryz.typeInfo285, rfl, rfl, rfl, rfl, fun _ _ _ => by exact (.raw rfl (.nil .nl))⟩, Tryz.isAgg285, (fun h => by cases h), rfl, ⟨_, Tryz.underlying285, rfl, rfl⟩, (fun h => by cases h)⟩
theorem good297 : ∀ d, tab 297 = some d → Good Tryz.prog tab 297 d := fun d h => by
  cases h
  exact ⟨⟨_, _, _, Tryz.typeInfo297, rfl, rfl, rfl, rfl, fun _ _ _ => by exact (.nil .nl)⟩, Tryz.isAgg297, (fun _ => rfl), rfl, Tryz.underlying297, (fun h => by cases h)⟩
theorem good307 : ∀ d, tab 307 = some d → Good Tryz.prog tab 307 d := fun d h => by
  cases h
  exact ⟨⟨_, _, _, Tryz.typeInfo307, rfl, rfl, rfl, rfl, fun _ _ _ => by exact (.raw rfl .nl)⟩, Tryz.isAgg307, (fun _ => rfl), rfl, ⟨_, Tryz.underlying307⟩, (fun h => by cases h)⟩
theorem good310 : ∀ d, tab 310 = some d → Good Tryz.prog tab 310 d := fun d h => by
  cases h
  exact ⟨⟨_, _, _, Tryz.typeInfo310, rfl, rfl, rfl, rfl, fun _ _ _ => by exact (.int (.int .nl))⟩, Tryz.isAgg310, (fun h => by cases h), rfl, ⟨_, Tryz.underlying310, rfl, rfl⟩, (fun _ => ⟨by kernel_rfl, by exact (CmpAt.struct (by kernel_rfl) (by kernel_rfl) (by rw [fieldsL Tryz.underlying310]; exact ⟨false, [.int .i64 0], _, rfl, by decide, rfl, Tryz.isAgg3, sizeOf_of Tryz.typeInfo3 rfl, by decide, (CmpAt.int Tryz.underlying3), ⟨false, [.int .i64 0], _, rfl, by decide, rfl, Tryz.isAgg3, sizeOf_of Tryz.typeInfo3 rfl, by decide, (CmpAt.int Tryz.underlying3), rfl⟩⟩))⟩)⟩
theorem good315 : ∀ d, tab 315 = some d → Good Tryz.prog tab 315 d := fun d h => by
  cases h
  exact ⟨⟨_, _, _, Tryz.typeInfo315, rfl, rfl, rfl, rfl, fun _ _ _ => by exact (.raw rfl .nl)⟩, Tryz.isAgg315, (fun _ => rfl), rfl, trivial, (fun h => by cases h)⟩
theorem good322 : ∀ d, tab 322 = some d → Good Tryz.prog tab 322 d := fun d h => by
  cases h
  exact ⟨⟨_, _, _, Tryz.typeInfo322, rfl, rfl, rfl, rfl, fun _ _ _ => by exact (.int (.int .nl))⟩, Tryz.isAgg322, (fun h => by cases h), rfl, ⟨_, Tryz.underlying322, rfl, rfl⟩, (fun h => by cases h)⟩
theorem good323 : ∀ d, tab 323 = some d → Good Tryz.prog tab 323 d := fun d h => by
  cases h
  exact ⟨⟨_, _, _, Tryz.typeInfo323, rfl, rfl, rfl, rfl, fun _ _ _ => by exact (.int (.int (.int (.int (.int (.int (.int (.int (.int (.int (.int (.int (.int (.int (.int (.int (.int (.int (.int (.int (.int (.int (.int (.int (.int (.int (.int (.int (.int (.int (.int (.int .nl))))))))))))))))))))))))))))))))⟩, Tryz.isAgg323, (fun h => by cases h), rfl, Tryz.underlying323, (fun h => by cases h)⟩

theorem tabOk : TabOk Tryz.prog tab := tabOk_of ⟨good3 _ rfl, good4 _ rfl, good5 _ rfl, good9 _ rfl, good21 _ rfl, good22 _ rfl, good27 _ rfl, good28 _ rfl, good29 _ rfl, good30 _ rfl, good31 _ rfl, good32 _ rfl, good34 _ rfl, good38 _ rfl, good40 _ rfl, good42 _ rfl, good45 _ rfl, good49 _ rfl, good50 _ rfl, good52 _ rfl, good53 _ rfl, good55 _ rfl, good56 _ rfl, good64 _ rfl, good66 _ rfl, good73 _ rfl, good75 _ rfl, good80 _ rfl, good81 _ rfl, good83 _ rfl, good84 _ rfl, good88 _ rfl, good90 _ rfl, good92 _ rfl, good93 _ rfl, good95 _ rfl, good102 _ rfl, good107 _ rfl, good108 _ rfl, good111 _ rfl, good115 _ rfl, good122 _ rfl, good144 _ rfl, good146 _ rfl, good148 _ rfl, good151 _ rfl, good159 _ rfl, good161 _ rfl, good164 _ rfl, good168 _ rfl, good170 _ rfl, good172 _ rfl, good182 _ rfl, good189 _ rfl, good198 _ rfl, good200 _ rfl, good204 _ rfl, good208 _ rfl, good239 _ rfl, good241 _ rfl, good242 _ rfl, good244 _ rfl, good255 _ rfl, good263 _ rfl, good265 _ rfl, good274 _ rfl, good283 _ rfl, good285 _ rfl, good297 _ rfl, good307 _ rfl, good310 _ rfl, good315 _ rfl, good322 _ rfl, good323 _ rfl, trivial⟩

end Go.Proofs.YtogallppofinhaaGreatDoor
end
/- WALKS, 1: names, texts, numbers in lists. -/
section
namespace Go.Nest
open Go Go.AM Go.Proofs
open Go.Proofs.YtogallppofinhaaGreatDoor (tab tabOk)
set_option linter.unusedVariables false
set_option linter.unusedSimpArgs false
set_option maxRecDepth 4000

def odd (c : UInt8) : Bool := decide (c.toNat ≤ 32) || decide (c.toNat = 47) || decide (127 ≤ c.toNat)
def nameC (l : List UInt8) : Int := if l = [] ∨ l = [46] ∨ l = [46, 46] ∨ l.any odd then 2 else if 20 < l.length then 4 else 0
def shown (c : UInt8) : Bool := decide (32 ≤ c.toNat) && decide (c.toNat < 127)

theorem any_take {α : Type} {p : α → Bool} {l : List α} {i : Nat} (h : i < l.length) (h1 : (l.take i).any p = false) (h2 : p l[i] = false) : (l.take (i + 1)).any p = false := by
  rw [List.take_succ_eq_append_getElem h, List.any_append, h1]; simp [h2]
theorem any_at {α : Type} {p : α → Bool} {l : List α} {i : Nat} (h : i < l.length) (h2 : p l[i] = true) : l.any p = true :=
  List.any_eq_true.2 ⟨_, List.getElem_mem h, h2⟩

theorem name_spec (l : List UInt8) : Does Tryz.prog 171 [.c (.str l)] [] (Rt (.c (.int .i64 (nameC l))) []) := by
  refine X_spec (n := 39) (n0 := 0) tabOk Tryz.call171 Tryz.func171 ?_
  intro hb; have hb : l.length ≤ 9223372036854775807 := hb.1.1
  have bad : ∀ {i : Nat} (h : i < l.length), odd l[i] = true → (2 : Int) = nameC l := fun h h2 => by
    unfold nameC; rw [if_pos (.inr (.inr (.inr (any_at h h2))))]
  (conv => whnf)
  refine dec (fun (h : l = []) => ?_) (fun (h : ¬ l = []) => ?_)
  · (conv => whnf); refine rtC ?_ rfl
    simp [nameC, h]
  (conv => whnf)
  refine dec (fun (h2 : l = [46]) => ?_) (fun (h2 : ¬ l = [46]) => ?_)
  · (conv => whnf); refine rtC ?_ rfl
    simp [nameC, h2]
  (conv => whnf)
  refine dec (fun (h3 : l = [46, 46]) => ?_) (fun (h3 : ¬ l = [46, 46]) => ?_)
  · (conv => whnf); refine rtC ?_ rfl
    simp [nameC, h3]
  (conv => whnf)
  refine lp Nat (fun i => ⟨[(0, .c (.str l)), (15, .c (.int .i64 l.length)), (16, .c (.int .i64 i))], []⟩) (fun i => i ≤ l.length ∧ (l.take i).any odd = false) (fun i => l.length - i) 0 [] [] ?_ ?_ (fun i hi => ?_)
  · simp
  · repeat' first | exact trivial | exact rfl | refine And.intro ?_ ?_
  (conv => whnf)
  refine dec (fun h4 => ?_) (fun h4 => ?_)
  · have hlt : i < l.length := by omega
    (conv => whnf); refine ⟨i, l[i], rfl, List.getElem?_eq_getElem hlt, ?_⟩
    (conv => whnf); refine dec (fun h5 => ?_) (fun h5 => ?_)
    · (conv => whnf); refine rtC ?_ rfl
      rw [← bad hlt (by simp [odd]; omega)]
    (conv => whnf); refine ⟨i, l[i], rfl, List.getElem?_eq_getElem hlt, ?_⟩
    (conv => whnf); refine dec (fun h6 => ?_) (fun h6 => ?_)
    · (conv => whnf); refine rtC ?_ rfl
      rw [← bad hlt (by simp [odd]; omega)]
    (conv => whnf); refine ⟨i, l[i], rfl, List.getElem?_eq_getElem hlt, ?_⟩
    (conv => whnf); refine dec (fun h7 => ?_) (fun h7 => ?_)
    · (conv => whnf); refine rtC ?_ rfl
      rw [← bad hlt (by simp [odd]; omega)]
    (conv => whnf); refine ⟨i64 (by omega) (by omega), ?_⟩
    (conv => whnf); refine ag (i + 1) [] [] ⟨hlt, any_take hlt hi.2 (by simp [odd]; omega)⟩ (by simp only []; omega) ?_
    repeat' first | exact trivial | exact rfl | refine And.intro ?_ ?_
  · obtain rfl : i = l.length := by omega
    have ha : l.any odd = false := by simpa using hi.2
    (conv => whnf); refine dec (fun h5 => ?_) (fun h5 => ?_)
    · (conv => whnf); refine rtC ?_ rfl
      unfold nameC; rw [if_neg (by simp [h, h2, h3, ha]), if_pos (by omega)]
    · (conv => whnf); refine rtC ?_ rfl
      unfold nameC; rw [if_neg (by simp [h, h2, h3, ha]), if_neg (by omega)]
end Go.Nest
end
/- WALKS, W8: of the law: great docs, great snaps, one of a list. -/
section
namespace Go.Nest
open Go Go.AM Go.Proofs
open Go.Proofs.YtogallppofinhaaGreatDoor (tab tabOk)
set_option linter.unusedVariables false
set_option linter.unusedSimpArgs false
set_option maxRecDepth 4000
def sumD (l : List Dc) : Nat := (l.map fun d => d.path.length + d.bytes.length).sum
theorem sumD_take {l : List Dc} {i : Nat} (h : i < l.length) : sumD (l.take (i + 1)) = sumD (l.take i) + (l[i].path.length + l[i].bytes.length) := by
  unfold sumD
  rw [List.take_succ_eq_append_getElem h, List.map_append, List.sum_append]; simp
theorem sumD_le {l : List Dc} {n : Nat} (h : ∀ d ∈ l, d.path.length + d.bytes.length ≤ n) : sumD l ≤ l.length * n := by
  induction l with
  | nil => simp [sumD]
  | cons f l ih =>
    have h1 := ih (fun x hx => h x (by simp [hx]))
    have h2 := h f (by simp)
    unfold sumD at h1 ⊢
    rw [List.map_cons, List.sum_cons, List.length_cons, Nat.succ_mul]
    omega
theorem sumD_mem {l : List Dc} {d : Dc} (h : d ∈ l) : d.path.length + d.bytes.length ≤ sumD l := by
  induction l with
  | nil => cases h
  | cons g l ih =>
    unfold sumD at ih ⊢
    rw [List.map_cons, List.sum_cons]
    rcases List.mem_cons.1 h with rfl | h
    · omega
    · have := ih h; omega
def greatD (l : List Dc) : Bool := decide (40 < l.length) || decide (6000 < sumD (l.take 100))
def DocsOk (l : List Dc) : Prop := l.length ≤ 40 ∧ ∀ d ∈ l, d.path.length ≤ 6000 ∧ d.bytes.length ≤ 6000
theorem greatD_ok {l : List Dc} (h : greatD l = false) : DocsOk l := by
  unfold greatD at h
  rw [Bool.or_eq_false_iff, decide_eq_false_iff_not, decide_eq_false_iff_not] at h
  have h1 : l.length ≤ 40 := by omega
  rw [List.take_of_length_le (by omega)] at h
  exact ⟨h1, fun f hf => by have := sumD_mem hf; omega⟩
def DocsFit (l : List Dc) : Prop := ∀ d ∈ l, d.path.length ≤ 140737488351232 ∧ d.bytes.length ≤ 140737488351232
theorem greatDocs_spec (l : List Dc) (hl : DocsFit l) : Does Tryz.prog 63 [.c (.bs 2 Dc encDc l)] [] (Rt (.c (.bool (greatD l))) []) := by
  refine X_spec (n := 37) (n0 := 0) tabOk Tryz.call63 Tryz.func63 ?_
  intro hb; have hb : l.length ≤ 9223372036854775807 := hb.1.1
  (conv => whnf)
  refine lp Nat (fun i => ⟨[(0, .c (.bs 2 Dc encDc l)), (3, .c (.int .i64 (sumD (l.take i)))), (4, .c (.int .i64 i))], []⟩) (fun i => i ≤ l.length ∧ i ≤ 100) (fun i => l.length - i) 0 [] [] ?_ ?_ (fun i hi => ?_)
  · simp
  · repeat' first | exact trivial | exact rfl | refine And.intro ?_ ?_
  have hs : sumD (l.take i) ≤ 100 * 281474976702464 := by
    have h2 : (l.take i).length ≤ 100 := by rw [List.length_take]; omega
    have key : ∀ N, (∀ d ∈ l, d.path.length + d.bytes.length ≤ N) → sumD (l.take i) ≤ 100 * N := fun N h => Nat.le_trans (sumD_le fun f hf => h f (List.mem_of_mem_take hf)) (Nat.mul_le_mul_right N h2)
    exact key _ fun d hd => by have := hl d hd; omega
  have fin : ¬ (i < l.length ∧ i < 100) → sumD (l.take i) = sumD (l.take 100) := fun h => by
    by_cases h3 : i < l.length
    · have : i = 100 := by omega
      rw [this]
    · rw [List.take_of_length_le (by omega), List.take_of_length_le (by omega)]
  (conv => whnf)
  refine dec (fun h4 => ?_) (fun h4 => ?_)
  · (conv => whnf)
    refine dec (fun h5 => ?_) (fun h5 => ?_)
    · have hlt : i < l.length := by omega
      have hp := hl _ (List.getElem_mem hlt)
      (conv => whnf)
      refine ⟨false, .grow, (.l [0, 1, 2, 3, 4, 5, 6, 7, 8, 9, 10, 11, 12, 13, 14, 15]), by kernel_rfl, .inl ?_⟩
      (conv => whnf)
      refine ⟨i, l[i], rfl, List.getElem?_eq_getElem hlt, ?_⟩
      (conv => whnf)
      refine ⟨i, l[i], rfl, List.getElem?_eq_getElem hlt, ?_⟩
      (conv => whnf)
      refine ⟨i64 (by omega) (by omega), ?_⟩
      (conv => whnf)
      refine ⟨i64 (by omega) (by omega), ?_⟩
      repeat' ((conv => whnf); first | (refine dec (fun h => ?_) (fun h => ?_) <;> try contradiction) | (refine decN (fun h => ?_) (fun h => ?_) <;> try contradiction) | refine booN (fun h => ?_) (fun h => ?_) | refine boo (fun h => ?_) (fun h => ?_) | refine ⟨i64 (by omega) (by omega), ?_⟩ | refine ⟨_, _, rfl, List.getElem?_eq_getElem (by omega), ?_⟩ | refine ⟨_, ⟨rfl, by omega⟩, ?_⟩ | refine ⟨_, List.getElem?_eq_getElem (by omega), ?_⟩ | refine rtB ?_ | refine rtI ?_ | refine rtC ?_ rfl | fail)
      refine ag (i + 1) [] [] ⟨hlt, by omega⟩ (by simp only []; omega) ?_
      rw [sumD_take hlt]
      repeat' first | exact trivial | exact rfl | refine And.intro ?_ ?_
    · have := fin (by omega)
      rw [this]
      repeat' ((conv => whnf); first | (refine dec (fun h => ?_) (fun h => ?_) <;> try contradiction) | (refine decN (fun h => ?_) (fun h => ?_) <;> try contradiction) | refine booN (fun h => ?_) (fun h => ?_) | refine boo (fun h => ?_) (fun h => ?_) | refine ⟨i64 (by omega) (by omega), ?_⟩ | refine ⟨_, _, rfl, List.getElem?_eq_getElem (by omega), ?_⟩ | refine ⟨_, ⟨rfl, by omega⟩, ?_⟩ | refine ⟨_, List.getElem?_eq_getElem (by omega), ?_⟩ | refine rtB ?_ | refine rtI ?_ | refine rtC ?_ rfl | fail)
      · have h : 40 < l.length := by omega
        simp [greatD, h]
      · have h : ¬ 40 < l.length := by omega
        simp [greatD, h]; omega
  · have := fin (by omega)
    rw [this]
    repeat' ((conv => whnf); first | (refine dec (fun h => ?_) (fun h => ?_) <;> try contradiction) | (refine decN (fun h => ?_) (fun h => ?_) <;> try contradiction) | refine booN (fun h => ?_) (fun h => ?_) | refine boo (fun h => ?_) (fun h => ?_) | refine ⟨i64 (by omega) (by omega), ?_⟩ | refine ⟨_, _, rfl, List.getElem?_eq_getElem (by omega), ?_⟩ | refine ⟨_, ⟨rfl, by omega⟩, ?_⟩ | refine ⟨_, List.getElem?_eq_getElem (by omega), ?_⟩ | refine rtB ?_ | refine rtI ?_ | refine rtC ?_ rfl | fail)
    · have h : 40 < l.length := by omega
      simp [greatD, h]
    · have h : ¬ 40 < l.length := by omega
      simp [greatD, h]; omega
def greatN (s : Sn) : Bool := greatD s.docs || (decide (10 < s.parents.length) || decide (200 < s.text.length))
def greatS (l : List Sn) : Bool := (l.take 50).any greatN || decide (25 < l.length)
def SnapOk (s : Sn) : Prop := DocsOk s.docs ∧ s.parents.length ≤ 10 ∧ s.text.length ≤ 200
theorem greatS_ok {l : List Sn} (h : greatS l = false) : l.length ≤ 25 ∧ ∀ s ∈ l, SnapOk s := by
  unfold greatS at h
  rw [Bool.or_eq_false_iff, decide_eq_false_iff_not] at h
  have h1 : l.length ≤ 25 := by omega
  rw [List.take_of_length_le (by omega), List.any_eq_false] at h
  refine ⟨h1, fun s hs => ?_⟩
  have h2 := h.1 s hs
  unfold greatN at h2
  rw [Bool.not_eq_true, Bool.or_eq_false_iff, Bool.or_eq_false_iff, decide_eq_false_iff_not, decide_eq_false_iff_not] at h2
  exact ⟨greatD_ok h2.1, by omega, by omega⟩
theorem greatSnaps_spec (l : List Sn) (hl : ∀ s ∈ l, DocsFit s.docs) : Does Tryz.prog 38 [.c (.bs 3 Sn encSn l)] [] (Rt (.c (.bool (greatS l))) []) := by
  refine X_spec (n := 41) (n0 := 0) tabOk Tryz.call38 Tryz.func38 ?_
  intro hb; have hb : l.length ≤ 9223372036854775807 := hb.1.1
  (conv => whnf)
  refine lp Nat (fun i => ⟨[(0, .c (.bs 3 Sn encSn l)), (3, .c (.int .i64 i))], []⟩) (fun i => (i ≤ l.length ∧ i ≤ 50) ∧ (l.take i).any greatN = false) (fun i => l.length - i) 0 [] [] ?_ ?_ (fun i hi => ?_)
  · simp
  · repeat' first | exact trivial | exact rfl | refine And.intro ?_ ?_
  have fin : ¬ (i < l.length ∧ i < 50) → greatS l = decide (25 < l.length) := fun h => by
    unfold greatS
    have : l.take 50 = l.take i := by
      by_cases h1 : i = 50
      · rw [h1]
      · rw [List.take_of_length_le (by omega), List.take_of_length_le (by omega)]
    rw [this, hi.2]; rfl
  (conv => whnf)
  refine dec (fun h4 => ?_) (fun h4 => ?_)
  · (conv => whnf)
    refine dec (fun h5 => ?_) (fun h5 => ?_)
    · have hlt : i < l.length := by omega
      have yes : greatN l[i] = true → greatS l = true := fun h => by
        unfold greatS
        rw [any_at (l := l.take 50) (i := i) (by rw [List.length_take]; omega) (by rw [List.getElem_take]; exact h)]; rfl
      have again : greatN l[i] = false → (l.take (i + 1)).any greatN = false := fun h => any_take hlt hi.2 h
      have hgn : greatN l[i] = (greatD l[i].docs || (decide (10 < l[i].parents.length) || decide (200 < l[i].text.length))) := rfl
      (conv => whnf)
      refine ⟨i, l[i], rfl, List.getElem?_eq_getElem hlt, ?_⟩
      (conv => whnf)
      refine cl [] [] (greatDocs_spec l[i].docs (hl _ (List.getElem_mem hlt))) ?_
      (conv => whnf)
      refine boo (fun h => ?_) (fun h => ?_)
      · (conv => whnf)
        exact rtB (yes (by rw [hgn, h]; rfl)).symm
      (conv => whnf)
      refine ⟨i, l[i], rfl, List.getElem?_eq_getElem hlt, ?_⟩
      (conv => whnf)
      refine dec (fun h6 => ?_) (fun h6 => ?_)
      · have h6 : 10 < l[i].parents.length := by omega
        (conv => whnf)
        exact rtB (yes (by rw [hgn, h, decide_eq_true h6]; rfl)).symm
      have h6 : ¬ 10 < l[i].parents.length := by omega
      (conv => whnf)
      refine ⟨i, l[i], rfl, List.getElem?_eq_getElem hlt, ?_⟩
      (conv => whnf)
      refine dec (fun h7 => ?_) (fun h7 => ?_)
      · have h7 : 200 < l[i].text.length := by omega
        (conv => whnf)
        exact rtB (yes (by rw [hgn, h, decide_eq_false h6, decide_eq_true h7]; rfl)).symm
      have h7 : ¬ 200 < l[i].text.length := by omega
      repeat' ((conv => whnf); first | (refine dec (fun h => ?_) (fun h => ?_) <;> try contradiction) | (refine decN (fun h => ?_) (fun h => ?_) <;> try contradiction) | refine booN (fun h => ?_) (fun h => ?_) | refine boo (fun h => ?_) (fun h => ?_) | refine ⟨i64 (by omega) (by omega), ?_⟩ | refine ⟨_, _, rfl, List.getElem?_eq_getElem (by omega), ?_⟩ | refine ⟨_, ⟨rfl, by omega⟩, ?_⟩ | refine ⟨_, List.getElem?_eq_getElem (by omega), ?_⟩ | refine rtB ?_ | refine rtI ?_ | refine rtC ?_ rfl | fail)
      refine ag (i + 1) [] [] ⟨⟨hlt, by omega⟩, again (by rw [hgn, h, decide_eq_false h6, decide_eq_false h7]; rfl)⟩ (by simp only []; omega) ?_
      repeat' first | exact trivial | exact rfl | refine And.intro ?_ ?_
    · repeat' ((conv => whnf); first | (refine dec (fun h => ?_) (fun h => ?_) <;> try contradiction) | (refine decN (fun h => ?_) (fun h => ?_) <;> try contradiction) | refine booN (fun h => ?_) (fun h => ?_) | refine boo (fun h => ?_) (fun h => ?_) | refine ⟨i64 (by omega) (by omega), ?_⟩ | refine ⟨_, _, rfl, List.getElem?_eq_getElem (by omega), ?_⟩ | refine ⟨_, ⟨rfl, by omega⟩, ?_⟩ | refine ⟨_, List.getElem?_eq_getElem (by omega), ?_⟩ | refine rtB ?_ | refine rtI ?_ | refine rtC ?_ rfl | fail)
      rw [fin (by omega)]; rw [decide_eq_decide]; omega
  · repeat' ((conv => whnf); first | (refine dec (fun h => ?_) (fun h => ?_) <;> try contradiction) | (refine decN (fun h => ?_) (fun h => ?_) <;> try contradiction) | refine booN (fun h => ?_) (fun h => ?_) | refine boo (fun h => ?_) (fun h => ?_) | refine ⟨i64 (by omega) (by omega), ?_⟩ | refine ⟨_, _, rfl, List.getElem?_eq_getElem (by omega), ?_⟩ | refine ⟨_, ⟨rfl, by omega⟩, ?_⟩ | refine ⟨_, List.getElem?_eq_getElem (by omega), ?_⟩ | refine rtB ?_ | refine rtI ?_ | refine rtC ?_ rfl | fail)
    rw [fin (by omega)]; rw [decide_eq_decide]; omega
theorem wrapU (n : Int) : IntKind.u64.wrap n = n % 18446744073709551616 := by
  unfold IntKind.wrap
  simp [IntKind.bits, IntKind.signed]
theorem wrapS {n : Int} (h0 : 0 ≤ n) (h : n ≤ 9223372036854775807) : IntKind.i64.wrap n = n := by
  have e : n % 18446744073709551616 = n := Int.emod_eq_of_lt h0 (by omega)
  unfold IntKind.wrap
  simp only [IntKind.bits, IntKind.signed]
  show (if (true && decide (n % 18446744073709551616 ≥ 9223372036854775808)) = true then n % 18446744073709551616 - 18446744073709551616 else n % 18446744073709551616) = n
  rw [e, if_neg (by simp; omega)]
theorem wrapU_ne {n : Nat} (h0 : n ≠ 0) (h : n ≤ 9223372036854775807) : IntKind.u64.wrap n ≠ 0 := by rw [wrapU]; omega
theorem round_at {k : Int} {n : Nat} (h0 : n ≠ 0) (h : n ≤ 9223372036854775807) : IntKind.i64.wrap ((IntKind.u64.wrap k).tmod (IntKind.u64.wrap n)) = ((k % 18446744073709551616 % n).toNat : Nat) ∧ (k % 18446744073709551616 % n).toNat < n := by
  have e : (n : Int) % 18446744073709551616 = n := Int.emod_eq_of_lt (by omega) (by omega)
  have h1 : 0 ≤ k % 18446744073709551616 := Int.emod_nonneg _ (by decide)
  have h2 : 0 ≤ k % 18446744073709551616 % n := Int.emod_nonneg _ (by omega)
  have h3 : k % 18446744073709551616 % n < n := Int.emod_lt_of_pos _ (by omega)
  rw [wrapU, wrapU, e, Int.tmod_eq_emod_of_nonneg h1, wrapS h2 (by omega)]
  omega
/-- a number, counted round -/
def pick (l : List Int) (k : Int) : Int := (l[(k % 18446744073709551616 % l.length).toNat]?).getD 0
def oneP (l : List Int) (k : Int) : Int := if l.length = 0 then -1 else pick l k
theorem one_spec (l : List Int) (k : Int) : Does Tryz.prog 25 [.c (.bs 1 Int encI l), .c (.int .i64 k)] [] (Rt (.c (.int .i64 (oneP l k))) []) := by
  refine X_spec (n := 18) (n0 := 0) tabOk Tryz.call25 Tryz.func25 ?_
  intro hb; have hb : l.length ≤ 9223372036854775807 := hb.1.1
  (conv => whnf)
  refine dec (fun h4 => ?_) (fun h4 => ?_)
  · have e : oneP l k = -1 := by unfold oneP; rw [if_pos (by omega)]
    (conv => whnf)
    exact rtI e.symm
  · have e : oneP l k = pick l k := by unfold oneP; rw [if_neg (by omega)]
    (conv => whnf)
    refine ⟨wrapU_ne (by omega) hb, ?_⟩
    (conv => whnf)
    obtain ⟨r1, r2⟩ := round_at (k := k) (n := l.length) (by omega) hb
    refine ⟨_, _, r1, List.getElem?_eq_getElem r2, ?_⟩
    (conv => whnf)
    refine rtI ?_
    rw [e]; unfold pick
    rw [List.getElem?_eq_getElem r2]; rfl
theorem pick_mem {l : List Int} {k : Int} (h : l.length ≠ 0) (h2 : l.length ≤ 9223372036854775807) : pick l k ∈ l := by
  have r2 := (round_at (k := k) h h2).2
  unfold pick
  rw [List.getElem?_eq_getElem r2]
  exact List.getElem_mem r2
end Go.Nest
end
/- WALKS, 1b: names, by the document; texts that may be said. -/
section
namespace Go.Nest
open Go Go.AM Go.Proofs
open Go.Proofs.YtogallppofinhaaGreatDoor (tab tabOk)
set_option linter.unusedVariables false
set_option linter.unusedSimpArgs false
set_option maxRecDepth 4000

theorem nameF_spec (l : List UInt8) : Does Tryz.prog 187 [.c (.str l)] [] (Rt (.c (.int .i64 (nameC l))) []) := by
  refine X_spec (n := 39) (n0 := 0) tabOk Tryz.call187 Tryz.func187 ?_
  intro hb; have hb : l.length ≤ 9223372036854775807 := hb.1.1
  have bad : ∀ {i : Nat} (h : i < l.length), odd l[i] = true → (2 : Int) = nameC l := fun h h2 => by
    unfold nameC; rw [if_pos (.inr (.inr (.inr (any_at h h2))))]
  (conv => whnf)
  refine dec (fun (h0 : l = []) => ?_) (fun (h0 : ¬ l = []) => ?_)
  · (conv => whnf); refine rtC ?_ rfl; simp [nameC, h0]
  (conv => whnf)
  refine dec (fun (h2 : l = [46]) => ?_) (fun (h2 : ¬ l = [46]) => ?_)
  · (conv => whnf); refine rtC ?_ rfl; simp [nameC, h2]
  (conv => whnf)
  refine dec (fun (h3 : l = [46, 46]) => ?_) (fun (h3 : ¬ l = [46, 46]) => ?_)
  · (conv => whnf); refine rtC ?_ rfl; simp [nameC, h3]
  (conv => whnf)
  refine lp Nat (fun i => ⟨[(0, .c (.str l)), (3, .c (.int .i64 i))], []⟩) (fun i => i ≤ l.length ∧ (l.take i).any odd = false) (fun i => l.length - i) 0 [] [] ?_ ?_ (fun i hi => ?_)
  · simp
  · repeat' first | exact trivial | exact rfl | refine And.intro ?_ ?_
  (conv => whnf)
  refine dec (fun h4 => ?_) (fun h4 => ?_)
  · have hlt : i < l.length := by omega
    repeat' ((conv => whnf); first | (refine dec (fun h => ?_) (fun h => ?_) <;> try contradiction) | (refine decN (fun h => ?_) (fun h => ?_) <;> try contradiction) | refine booN (fun h => ?_) (fun h => ?_) | refine boo (fun h => ?_) (fun h => ?_) | refine ⟨i64 (by omega) (by omega), ?_⟩ | refine ⟨_, _, rfl, List.getElem?_eq_getElem (by omega), ?_⟩ | refine ⟨_, ⟨rfl, by omega⟩, ?_⟩ | refine ⟨_, List.getElem?_eq_getElem (by omega), ?_⟩ | refine rtB ?_ | refine rtI ?_ | refine rtC ?_ rfl | fail)
    · rw [← bad hlt (by simp [odd]; omega)]
    · rw [← bad hlt (by simp [odd]; omega)]
    · rw [← bad hlt (by simp [odd]; omega)]
    · refine ag (i + 1) [] [] ⟨hlt, any_take hlt hi.2 (by simp [odd]; omega)⟩ (by simp only []; omega) ?_
      repeat' first | exact trivial | exact rfl | refine And.intro ?_ ?_
  · obtain rfl : i = l.length := by omega
    have ha : l.any odd = false := by simpa using hi.2
    repeat' ((conv => whnf); first | (refine dec (fun h => ?_) (fun h => ?_) <;> try contradiction) | (refine decN (fun h => ?_) (fun h => ?_) <;> try contradiction) | refine booN (fun h => ?_) (fun h => ?_) | refine boo (fun h => ?_) (fun h => ?_) | refine ⟨i64 (by omega) (by omega), ?_⟩ | refine ⟨_, _, rfl, List.getElem?_eq_getElem (by omega), ?_⟩ | refine ⟨_, ⟨rfl, by omega⟩, ?_⟩ | refine ⟨_, List.getElem?_eq_getElem (by omega), ?_⟩ | refine rtB ?_ | refine rtI ?_ | refine rtC ?_ rfl | fail)
    · unfold nameC; rw [if_neg (by simp [h0, h2, h3, ha]), if_pos (by omega)]
    · unfold nameC; rw [if_neg (by simp [h0, h2, h3, ha]), if_neg (by omega)]

theorem visible_spec (l : List UInt8) : Does Tryz.prog 197 [.c (.str l)] [] (Rt (.c (.bool (l.all shown))) []) := by
  refine X_spec (n := 20) (n0 := 0) tabOk Tryz.call197 Tryz.func197 ?_
  intro hb; have hb : l.length ≤ 9223372036854775807 := hb.1.1
  (conv => whnf)
  refine lp Nat (fun i => ⟨[(0, .c (.str l)), (5, .c (.int .i64 l.length)), (6, .c (.int .i64 i))], []⟩) (fun i => i ≤ l.length ∧ (l.take i).all shown = true) (fun i => l.length - i) 0 [] [] ?_ ?_ (fun i hi => ?_)
  · simp
  · repeat' first | exact trivial | exact rfl | refine And.intro ?_ ?_
  have bad : ∀ (h : i < l.length), shown l[i] = false → false = l.all shown := fun h h2 => by
    symm; rw [Bool.eq_false_iff, Ne, List.all_eq_true]; intro h3; rw [h3 _ (List.getElem_mem h)] at h2; cases h2
  (conv => whnf)
  refine dec (fun h4 => ?_) (fun h4 => ?_)
  · have hlt : i < l.length := by omega
    repeat' ((conv => whnf); first | (refine dec (fun h => ?_) (fun h => ?_) <;> try contradiction) | (refine decN (fun h => ?_) (fun h => ?_) <;> try contradiction) | refine booN (fun h => ?_) (fun h => ?_) | refine boo (fun h => ?_) (fun h => ?_) | refine ⟨i64 (by omega) (by omega), ?_⟩ | refine ⟨_, _, rfl, List.getElem?_eq_getElem (by omega), ?_⟩ | refine ⟨_, ⟨rfl, by omega⟩, ?_⟩ | refine ⟨_, List.getElem?_eq_getElem (by omega), ?_⟩ | refine rtB ?_ | refine rtI ?_ | refine rtC ?_ rfl | fail)
    · rw [← bad hlt (by simp [shown]; omega)]
    · rw [← bad hlt (by simp [shown]; omega)]
    · refine ag (i + 1) [] [] ⟨hlt, ?_⟩ (by simp only []; omega) ?_
      · rw [List.take_succ_eq_append_getElem hlt, List.all_append, hi.2]; simp [shown]; omega
      repeat' first | exact trivial | exact rfl | refine And.intro ?_ ?_
  · obtain rfl : i = l.length := by omega
    have ha : l.all shown = true := by simpa using hi.2
    repeat' ((conv => whnf); first | (refine dec (fun h => ?_) (fun h => ?_) <;> try contradiction) | (refine decN (fun h => ?_) (fun h => ?_) <;> try contradiction) | refine booN (fun h => ?_) (fun h => ?_) | refine boo (fun h => ?_) (fun h => ?_) | refine ⟨i64 (by omega) (by omega), ?_⟩ | refine ⟨_, _, rfl, List.getElem?_eq_getElem (by omega), ?_⟩ | refine ⟨_, ⟨rfl, by omega⟩, ?_⟩ | refine ⟨_, List.getElem?_eq_getElem (by omega), ?_⟩ | refine rtB ?_ | refine rtI ?_ | refine rtC ?_ rfl | fail)
    rw [ha]
end Go.Nest
end
