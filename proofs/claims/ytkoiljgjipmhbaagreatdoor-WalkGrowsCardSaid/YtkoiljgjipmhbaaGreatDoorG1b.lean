/- THE TABLE of types, and that it is right. -/
import Derived.Test.YtkoiljgjipmhbaaGreatDoorAmT
import Derived.Test.YtkoiljgjipmhbaaGreatDoorProg
import Derived.KernelRfl
section
namespace Go.Proofs.YtkoiljgjipmhbaaGreatDoor
open Go Go.AM Go.Nest
set_option linter.unusedVariables false

def tabL : List (Nat × TD) := [
  (3, ⟨1, false, 8, (.int .i64), [.int .i64 0], false, Int, encI⟩),
  (4, ⟨1, false, 1, .bool, [.bool false], false, Bool, encBo⟩),
  (5, ⟨1, false, 1, (.int .u8), [.int .u8 0], false, UInt8, bytesC⟩),
  (9, ⟨1, false, 16, .str, [.str []], false, (List UInt8), encS⟩),
  (21, ⟨1, false, 4, (.int .i32), [.int .i32 0], false, Unit, (fun _ => [])⟩),
  (22, ⟨1, false, 24, (.sl 71), [.nil], false, (List Ob), (encL 6 encOb)⟩),
  (23, ⟨1, false, 24, (.sl 44), [.nil], false, (List Fi), (encL 4 encFi)⟩),
  (27, ⟨1, false, 8, .ptr, [.raw (.pointer none)], false, Unit, (fun _ => [])⟩),
  (36, ⟨1, true, 24, (.struct [(22, 0)]), [.nil], false, Unit, (fun _ => [])⟩),
  (44, ⟨4, true, 40, (.struct [(9, 0), (3, 1), (3, 2), (3, 3)]), [.str [], .int .i64 0, .int .i64 0, .int .i64 0], true, Fi, encFi⟩),
  (50, ⟨1, false, 24, (.sl 103), [.nil], false, (List Sn), (encL 3 encSn)⟩),
  (52, ⟨1, false, 24, (.sl 3), [.nil], false, (List Int), (encL 1 encI)⟩),
  (56, ⟨2, true, 16, (.arr 2 3), [.int .i64 0, .int .i64 0], false, (Int × Int), encPr⟩),
  (57, ⟨1, false, 24, (.sl 56), [.nil], false, (List (Int × Int)), (encL 2 encPr)⟩),
  (68, ⟨1, false, 24, (.sl 5), [.nil], false, (List UInt8), (encL 1 bytesC)⟩),
  (69, ⟨1, false, 24, (.sl 94), [.nil], false, (List Ent), (encL 4 encEn)⟩),
  (71, ⟨6, true, 104, (.struct [(3, 0), (68, 1), (69, 2), (3, 3), (52, 4), (9, 5)]), [.int .i64 0, .nil, .nil, .int .i64 0, .nil, .str []], false, Ob, encOb⟩),
  (78, ⟨1, false, 24, (.sl 122), [.nil], false, (List Ch), (encL 9 encCh)⟩),
  (82, ⟨1, true, 24, (.struct [(22, 0)]), [.nil], false, Unit, (fun _ => [])⟩),
  (83, ⟨1, false, 24, (.sl 9), [.nil], false, (List (List UInt8)), (encL 1 encS)⟩),
  (94, ⟨4, true, 40, (.struct [(9, 0), (3, 1), (3, 2), (3, 3)]), [.str [], .int .i64 0, .int .i64 0, .int .i64 0], true, Ent, encEn⟩),
  (101, ⟨1, false, 24, (.sl 105), [.nil], false, (List Dc), (encL 2 encDc)⟩),
  (103, ⟨3, true, 64, (.struct [(101, 0), (52, 1), (9, 2)]), [.nil, .nil, .str []], false, Sn, encSn⟩),
  (105, ⟨2, true, 40, (.struct [(9, 0), (68, 1)]), [.str [], .nil], false, Dc, encDc⟩),
  (108, ⟨1, false, 8, (.int .u64), [.int .u64 0], false, Unit, (fun _ => [])⟩),
  (113, ⟨1, false, 24, (.sl 4), [.nil], false, (List Bool), (encL 1 encBo)⟩),
  (122, ⟨9, true, 96, (.struct [(9, 0), (44, 1), (44, 5)]), [.str [], .str [], .int .i64 0, .int .i64 0, .int .i64 0, .str [], .int .i64 0, .int .i64 0, .int .i64 0], true, Ch, encCh⟩),
  (146, ⟨1, false, 8, (.int .i64), [.int .i64 0], false, Int, encI⟩),
  (154, ⟨1, false, 4, (.int .u32), [.int .u32 0], false, Unit, (fun _ => [])⟩),
  (156, ⟨1, false, 8, (.int .u64), [.int .u64 0], false, Unit, (fun _ => [])⟩),
  (159, ⟨1, false, 8, .ptr, [.raw (.pointer none)], false, Unit, (fun _ => [])⟩),
  (161, ⟨2, true, 32, (.struct [(159, 0), (68, 1)]), [.raw (.pointer none), .nil], false, Unit, (fun _ => [])⟩),
  (168, ⟨1, false, 8, (.int .u64), [.int .u64 0], false, Unit, (fun _ => [])⟩),
  (177, ⟨1, false, 8, .ptr, [.raw (.pointer none)], false, Unit, (fun _ => [])⟩),
  (182, ⟨1, false, 8, .other, [.raw (.pointer none)], false, Unit, (fun _ => [])⟩),
  (187, ⟨2, true, 2, (.struct [(5, 0), (5, 1)]), [.int .u8 0, .int .u8 0], false, Unit, (fun _ => [])⟩),
  (188, ⟨32, true, 32, (.arr 16 187), [.int .u8 0, .int .u8 0, .int .u8 0, .int .u8 0, .int .u8 0, .int .u8 0, .int .u8 0, .int .u8 0, .int .u8 0, .int .u8 0, .int .u8 0, .int .u8 0, .int .u8 0, .int .u8 0, .int .u8 0, .int .u8 0, .int .u8 0, .int .u8 0, .int .u8 0, .int .u8 0, .int .u8 0, .int .u8 0, .int .u8 0, .int .u8 0, .int .u8 0, .int .u8 0, .int .u8 0, .int .u8 0, .int .u8 0, .int .u8 0, .int .u8 0, .int .u8 0], false, Unit, (fun _ => [])⟩)]
def tab : Nat → Option TD := lkT tabL

theorem good3 : ∀ d, tab 3 = some d → Good Tryz.prog tab 3 d := fun d h => by
  cases h
  exact ⟨⟨_, _, _, Tryz.typeInfo3, rfl, rfl, rfl, rfl, fun _ _ _ => by exact (.int .nl)⟩, Tryz.isAgg3, (fun _ => rfl), rfl, Tryz.underlying3, (fun h => by cases h)⟩
theorem good4 : ∀ d, tab 4 = some d → Good Tryz.prog tab 4 d := fun d h => by
  cases h
  exact ⟨⟨_, _, _, Tryz.typeInfo4, rfl, rfl, rfl, rfl, fun _ _ _ => by exact (.bool .nl)⟩, Tryz.isAgg4, (fun _ => rfl), rfl, Tryz.underlying4, (fun h => by cases h)⟩
theorem good5 : ∀ d, tab 5 = some d → Good Tryz.prog tab 5 d := fun d h => by
  cases h
  exact ⟨⟨_, _, _, Tryz.typeInfo5, rfl, rfl, rfl, rfl, fun _ _ _ => by exact (.int .nl)⟩, Tryz.isAgg5, (fun _ => rfl), rfl, Tryz.underlying5, (fun h => by cases h)⟩
theorem good9 : ∀ d, tab 9 = some d → Good Tryz.prog tab 9 d := fun d h => by
  cases h
  exact ⟨⟨_, _, _, Tryz.typeInfo9, rfl, rfl, rfl, rfl, fun _ _ _ => by exact (.str (Nat.zero_le _) .nl)⟩, Tryz.isAgg9, (fun _ => rfl), rfl, Tryz.underlying9, (fun h => by cases h)⟩
theorem good21 : ∀ d, tab 21 = some d → Good Tryz.prog tab 21 d := fun d h => by
  cases h
  exact ⟨⟨_, _, _, Tryz.typeInfo21, rfl, rfl, rfl, rfl, fun _ _ _ => by exact (.int .nl)⟩, Tryz.isAgg21, (fun _ => rfl), rfl, Tryz.underlying21, (fun h => by cases h)⟩
theorem good22 : ∀ d, tab 22 = some d → Good Tryz.prog tab 22 d := fun d h => by
  cases h
  exact ⟨⟨_, _, _, Tryz.typeInfo22, rfl, rfl, rfl, rfl, fun _ _ _ => by exact (.nil .nl)⟩, Tryz.isAgg22, (fun _ => rfl), rfl, Tryz.underlying22, (fun h => by cases h)⟩
theorem good23 : ∀ d, tab 23 = some d → Good Tryz.prog tab 23 d := fun d h => by
  cases h
  exact ⟨⟨_, _, _, Tryz.typeInfo23, rfl, rfl, rfl, rfl, fun _ _ _ => by exact (.nil .nl)⟩, Tryz.isAgg23, (fun _ => rfl), rfl, Tryz.underlying23, (fun h => by cases h)⟩
theorem good27 : ∀ d, tab 27 = some d → Good Tryz.prog tab 27 d := fun d h => by
  cases h
  exact ⟨⟨_, _, _, Tryz.typeInfo27, rfl, rfl, rfl, rfl, fun _ _ _ => by exact (.raw rfl .nl)⟩, Tryz.isAgg27, (fun _ => rfl), rfl, ⟨_, Tryz.underlying27⟩, (fun h => by cases h)⟩
theorem good36 : ∀ d, tab 36 = some d → Good Tryz.prog tab 36 d := fun d h => by
  cases h
  exact ⟨⟨_, _, _, Tryz.typeInfo36, rfl, rfl, rfl, rfl, fun _ _ _ => by exact (.nil .nl)⟩, Tryz.isAgg36, (fun h => by cases h), rfl, ⟨_, Tryz.underlying36, rfl, rfl⟩, (fun h => by cases h)⟩
theorem good44 : ∀ d, tab 44 = some d → Good Tryz.prog tab 44 d := fun d h => by
  cases h
  exact ⟨⟨_, _, _, Tryz.typeInfo44, rfl, rfl, rfl, rfl, fun _ _ _ => by exact (.str (Nat.zero_le _) (.int (.int (.int .nl))))⟩, Tryz.isAgg44, (fun h => by cases h), rfl, ⟨_, Tryz.underlying44, rfl, rfl⟩, (fun _ => ⟨by kernel_rfl, by exact (CmpAt.struct (by kernel_rfl) (by kernel_rfl) (by rw [fieldsL Tryz.underlying44]; exact ⟨false, [.str []], _, rfl, by decide, rfl, Tryz.isAgg9, sizeOf_of Tryz.typeInfo9 rfl, by decide, (CmpAt.str Tryz.underlying9), ⟨false, [.int .i64 0], _, rfl, by decide, rfl, Tryz.isAgg3, sizeOf_of Tryz.typeInfo3 rfl, by decide, (CmpAt.int Tryz.underlying3), ⟨false, [.int .i64 0], _, rfl, by decide, rfl, Tryz.isAgg3, sizeOf_of Tryz.typeInfo3 rfl, by decide, (CmpAt.int Tryz.underlying3), ⟨false, [.int .i64 0], _, rfl, by decide, rfl, Tryz.isAgg3, sizeOf_of Tryz.typeInfo3 rfl, by decide, (CmpAt.int Tryz.underlying3), rfl⟩⟩⟩⟩))⟩)⟩
theorem good50 : ∀ d, tab 50 = some d → Good Tryz.prog tab 50 d := fun d h => by
  cases h
  exact ⟨⟨_, _, _, Tryz.typeInfo50, rfl, rfl, rfl, rfl, fun _ _ _ => by exact (.nil .nl)⟩, Tryz.isAgg50, (fun _ => rfl), rfl, Tryz.underlying50, (fun h => by cases h)⟩
theorem good52 : ∀ d, tab 52 = some d → Good Tryz.prog tab 52 d := fun d h => by
  cases h
  exact ⟨⟨_, _, _, Tryz.typeInfo52, rfl, rfl, rfl, rfl, fun _ _ _ => by exact (.nil .nl)⟩, Tryz.isAgg52, (fun _ => rfl), rfl, Tryz.underlying52, (fun h => by cases h)⟩
theorem good56 : ∀ d, tab 56 = some d → Good Tryz.prog tab 56 d := fun d h => by
  cases h
  exact ⟨⟨_, _, _, Tryz.typeInfo56, rfl, rfl, rfl, rfl, fun _ _ _ => by exact (.int (.int .nl))⟩, Tryz.isAgg56, (fun h => by cases h), rfl, Tryz.underlying56, (fun h => by cases h)⟩
theorem good57 : ∀ d, tab 57 = some d → Good Tryz.prog tab 57 d := fun d h => by
  cases h
  exact ⟨⟨_, _, _, Tryz.typeInfo57, rfl, rfl, rfl, rfl, fun _ _ _ => by exact (.nil .nl)⟩, Tryz.isAgg57, (fun _ => rfl), rfl, Tryz.underlying57, (fun h => by cases h)⟩
theorem good68 : ∀ d, tab 68 = some d → Good Tryz.prog tab 68 d := fun d h => by
  cases h
  exact ⟨⟨_, _, _, Tryz.typeInfo68, rfl, rfl, rfl, rfl, fun _ _ _ => by exact (.nil .nl)⟩, Tryz.isAgg68, (fun _ => rfl), rfl, Tryz.underlying68, (fun h => by cases h)⟩
theorem good69 : ∀ d, tab 69 = some d → Good Tryz.prog tab 69 d := fun d h => by
  cases h
  exact ⟨⟨_, _, _, Tryz.typeInfo69, rfl, rfl, rfl, rfl, fun _ _ _ => by exact (.nil .nl)⟩, Tryz.isAgg69, (fun _ => rfl), rfl, Tryz.underlying69, (fun h => by cases h)⟩
theorem good71 : ∀ d, tab 71 = some d → Good Tryz.prog tab 71 d := fun d h => by
  cases h
  exact ⟨⟨_, _, _, Tryz.typeInfo71, rfl, rfl, rfl, rfl, fun _ _ _ => by exact (.int (.nil (.nil (.int (.nil (.str (Nat.zero_le _) .nl))))))⟩, Tryz.isAgg71, (fun h => by cases h), rfl, ⟨_, Tryz.underlying71, rfl, rfl⟩, (fun h => by cases h)⟩
theorem good78 : ∀ d, tab 78 = some d → Good Tryz.prog tab 78 d := fun d h => by
  cases h
  exact ⟨⟨_, _, _, Tryz.typeInfo78, rfl, rfl, rfl, rfl, fun _ _ _ => by exact (.nil .nl)⟩, Tryz.isAgg78, (fun _ => rfl), rfl, Tryz.underlying78, (fun h => by cases h)⟩
theorem good82 : ∀ d, tab 82 = some d → Good Tryz.prog tab 82 d := fun d h => by
  cases h
  exact ⟨⟨_, _, _, Tryz.typeInfo82, rfl, rfl, rfl, rfl, fun _ _ _ => by exact (.nil .nl)⟩, Tryz.isAgg82, (fun h => by cases h), rfl, ⟨_, Tryz.underlying82, rfl, rfl⟩, (fun h => by cases h)⟩
theorem good83 : ∀ d, tab 83 = some d → Good Tryz.prog tab 83 d := fun d h => by
  cases h
  exact ⟨⟨_, _, _, Tryz.typeInfo83, rfl, rfl, rfl, rfl, fun _ _ _ => by exact (.nil .nl)⟩, Tryz.isAgg83, (fun _ => rfl), rfl, Tryz.underlying83, (fun h => by cases h)⟩
theorem good94 : ∀ d, tab 94 = some d → Good Tryz.prog tab 94 d := fun d h => by
  cases h
  exact ⟨⟨_, _, _, Tryz.typeInfo94, rfl, rfl, rfl, rfl, fun _ _ _ => by exact (.str (Nat.zero_le _) (.int (.int (.int .nl))))⟩, Tryz.isAgg94, (fun h => by cases h), rfl, ⟨_, Tryz.underlying94, rfl, rfl⟩, (fun _ => ⟨by kernel_rfl, by exact (CmpAt.struct (by kernel_rfl) (by kernel_rfl) (by rw [fieldsL Tryz.underlying94]; exact ⟨false, [.str []], _, rfl, by decide, rfl, Tryz.isAgg9, sizeOf_of Tryz.typeInfo9 rfl, by decide, (CmpAt.str Tryz.underlying9), ⟨false, [.int .i64 0], _, rfl, by decide, rfl, Tryz.isAgg3, sizeOf_of Tryz.typeInfo3 rfl, by decide, (CmpAt.int Tryz.underlying3), ⟨false, [.int .i64 0], _, rfl, by decide, rfl, Tryz.isAgg3, sizeOf_of Tryz.typeInfo3 rfl, by decide, (CmpAt.int Tryz.underlying3), ⟨false, [.int .i64 0], _, rfl, by decide, rfl, Tryz.isAgg3, sizeOf_of Tryz.typeInfo3 rfl, by decide, (CmpAt.int Tryz.underlying3), rfl⟩⟩⟩⟩))⟩)⟩
theorem good101 : ∀ d, tab 101 = some d → Good Tryz.prog tab 101 d := fun d h => by
  cases h
  exact ⟨⟨_, _, _, Tryz.typeInfo101, rfl, rfl, rfl, rfl, fun _ _ _ => by exact (.nil .nl)⟩, Tryz.isAgg101, (fun _ => rfl), rfl, Tryz.underlying101, (fun h => by cases h)⟩
theorem good103 : ∀ d, tab 103 = some d → Good Tryz.prog tab 103 d := fun d h => by
  cases h
  exact ⟨⟨_, _, _, Tryz.typeInfo103, rfl, rfl, rfl, rfl, fun _ _ _ => by exact (.nil (.nil (.str (Nat.zero_le _) .nl)))⟩, Tryz.isAgg103, (fun h => by cases h), rfl, ⟨_, Tryz.underlying103, rfl, rfl⟩, (fun h => by cases h)⟩
theorem good105 : ∀ d, tab 105 = some d → Good Tryz.prog tab 105 d := fun d h => by
  cases h
  exact ⟨⟨_, _, _, Tryz.typeInfo105, rfl, rfl, rfl, rfl, fun _ _ _ => by exact (.str (Nat.zero_le _) (.nil .nl))⟩, Tryz.isAgg105, (fun h => by cases h), rfl, ⟨_, Tryz.underlying105, rfl, rfl⟩, (fun h => by cases h)⟩
theorem good108 : ∀ d, tab 108 = some d → Good Tryz.prog tab 108 d := fun d h => by
  cases h
  exact ⟨⟨_, _, _, Tryz.typeInfo108, rfl, rfl, rfl, rfl, fun _ _ _ => by exact (.int .nl)⟩, Tryz.isAgg108, (fun _ => rfl), rfl, Tryz.underlying108, (fun h => by cases h)⟩
theorem good113 : ∀ d, tab 113 = some d → Good Tryz.prog tab 113 d := fun d h => by
  cases h
  exact ⟨⟨_, _, _, Tryz.typeInfo113, rfl, rfl, rfl, rfl, fun _ _ _ => by exact (.nil .nl)⟩, Tryz.isAgg113, (fun _ => rfl), rfl, Tryz.underlying113, (fun h => by cases h)⟩
theorem good122 : ∀ d, tab 122 = some d → Good Tryz.prog tab 122 d := fun d h => by
  cases h
  exact ⟨⟨_, _, _, Tryz.typeInfo122, rfl, rfl, rfl, rfl, fun _ _ _ => by exact (.str (Nat.zero_le _) (.str (Nat.zero_le _) (.int (.int (.int (.str (Nat.zero_le _) (.int (.int (.int .nl)))))))))⟩, Tryz.isAgg122, (fun h => by cases h), rfl, ⟨_, Tryz.underlying122, rfl, rfl⟩, (fun _ => ⟨by kernel_rfl, by exact (CmpAt.struct (by kernel_rfl) (by kernel_rfl) (by rw [fieldsL Tryz.underlying122]; exact ⟨false, [.str []], _, rfl, by decide, rfl, Tryz.isAgg9, sizeOf_of Tryz.typeInfo9 rfl, by decide, (CmpAt.str Tryz.underlying9), ⟨true, [.str [], .int .i64 0, .int .i64 0, .int .i64 0], _, rfl, by decide, rfl, Tryz.isAgg44, sizeOf_of Tryz.typeInfo44 rfl, by decide, (CmpAt.struct (by kernel_rfl) (by kernel_rfl) (by rw [fieldsL Tryz.underlying44]; exact ⟨false, [.str []], _, rfl, by decide, rfl, Tryz.isAgg9, sizeOf_of Tryz.typeInfo9 rfl, by decide, (CmpAt.str Tryz.underlying9), ⟨false, [.int .i64 0], _, rfl, by decide, rfl, Tryz.isAgg3, sizeOf_of Tryz.typeInfo3 rfl, by decide, (CmpAt.int Tryz.underlying3), ⟨false, [.int .i64 0], _, rfl, by decide, rfl, Tryz.isAgg3, sizeOf_of Tryz.typeInfo3 rfl, by decide, (CmpAt.int Tryz.underlying3), ⟨false, [.int .i64 0], _, rfl, by decide, rfl, Tryz.isAgg3, sizeOf_of Tryz.typeInfo3 rfl, by decide, (CmpAt.int Tryz.underlying3), rfl⟩⟩⟩⟩)), ⟨true, [.str [], .int .i64 0, .int .i64 0, .int .i64 0], _, rfl, by decide, rfl, Tryz.isAgg44, sizeOf_of Tryz.typeInfo44 rfl, by decide, (CmpAt.struct (by kernel_rfl) (by kernel_rfl) (by rw [fieldsL Tryz.underlying44]; exact ⟨false, [.str []], _, rfl, by decide, rfl, Tryz.isAgg9, sizeOf_of Tryz.typeInfo9 rfl, by decide, (CmpAt.str Tryz.underlying9), ⟨false, [.int .i64 0], _, rfl, by decide, rfl, Tryz.isAgg3, sizeOf_of Tryz.typeInfo3 rfl, by decide, (CmpAt.int Tryz.underlying3), ⟨false, [.int .i64 0], _, rfl, by decide, rfl, Tryz.isAgg3, sizeOf_of Tryz.typeInfo3 rfl, by decide, (CmpAt.int Tryz.underlying3), ⟨false, [.int .i64 0], _, rfl, by decide, rfl, Tryz.isAgg3, sizeOf_of Tryz.typeInfo3 rfl, by decide, (CmpAt.int Tryz.underlying3), rfl⟩⟩⟩⟩)), rfl⟩⟩⟩))⟩)⟩
theorem good146 : ∀ d, tab 146 = some d → Good Tryz.prog tab 146 d := fun d h => by
  cases h
  exact ⟨⟨_, _, _, Tryz.typeInfo146, rfl, rfl, rfl, rfl, fun _ _ _ => by exact (.int .nl)⟩, Tryz.isAgg146, (fun _ => rfl), rfl, Tryz.underlying146, (fun h => by cases h)⟩
theorem good154 : ∀ d, tab 154 = some d → Good Tryz.prog tab 154 d := fun d h => by
  cases h
  exact ⟨⟨_, _, _, Tryz.typeInfo154, rfl, rfl, rfl, rfl, fun _ _ _ => by exact (.int .nl)⟩, Tryz.isAgg154, (fun _ => rfl), rfl, Tryz.underlying154, (fun h => by cases h)⟩
theorem good156 : ∀ d, tab 156 = some d → Good Tryz.prog tab 156 d := fun d h => by
  cases h
  exact ⟨⟨_, _, _, Tryz.typeInfo156, rfl, rfl, rfl, rfl, fun _ _ _ => by exact (.int .nl)⟩, Tryz.isAgg156, (fun _ => rfl), rfl, Tryz.underlying156, (fun h => by cases h)⟩
theorem good159 : ∀ d, tab 159 = some d → Good Tryz.prog tab 159 d := fun d h => by
  cases h
  exact ⟨⟨_, _, _, Tryz.typeInfo159, rfl, rfl, rfl, rfl, fun _ _ _ => by exact (.raw rfl .nl)⟩, Tryz.isAgg159, (fun _ => rfl), rfl, ⟨_, Tryz.underlying159⟩, (fun h => by cases h)⟩
theorem good161 : ∀ d, tab 161 = some d → Good Tryz.prog tab 161 d := fun d h => by
  cases h
  exact ⟨⟨_, _, _, Tryz.typeInfo161, rfl, rfl, rfl, rfl, fun _ _ _ => by exact (.raw rfl (.nil .nl))⟩, Tryz.isAgg161, (fun h => by cases h), rfl, ⟨_, Tryz.underlying161, rfl, rfl⟩, (fun h => by cases h)⟩
theorem good168 : ∀ d, tab 168 = some d → Good Tryz.prog tab 168 d := fun d h => by
  cases h
  exact ⟨⟨_, _, _, Tryz.typeInfo168, rfl, rfl, rfl, rfl, fun _ _ _ => by exact (.int .nl)⟩, Tryz.isAgg168, (fun _ => rfl), rfl, Tryz.underlying168, (fun h => by cases h)⟩
theorem good177 : ∀ d, tab 177 = some d → Good Tryz.prog tab 177 d := fun d h => by
  cases h
  exact ⟨⟨_, _, _, Tryz.typeInfo177, rfl, rfl, rfl, rfl, fun _ _ _ => by exact (.raw rfl .nl)⟩, Tryz.isAgg177, (fun _ => rfl), rfl, ⟨_, Tryz.underlying177⟩, (fun h => by cases h)⟩
theorem good182 : ∀ d, tab 182 = some d → Good Tryz.prog tab 182 d := fun d h => by
  cases h
  exact ⟨⟨_, _, _, Tryz.typeInfo182, rfl, rfl, rfl, rfl, fun _ _ _ => by exact (.raw rfl .nl)⟩, Tryz.isAgg182, (fun _ => rfl), rfl, trivial, (fun h => by cases h)⟩
theorem good187 : ∀ d, tab 187 = some d → Good Tryz.prog tab 187 d := fun d h => by
  cases h
  exact ⟨⟨_, _, _, Tryz.typeInfo187, rfl, rfl, rfl, rfl, fun _ _ _ => by exact (.int (.int .nl))⟩, Tryz.isAgg187, (fun h => by cases h), rfl, ⟨_, Tryz.underlying187, rfl, rfl⟩, (fun h => by cases h)⟩
theorem good188 : ∀ d, tab 188 = some d → Good Tryz.prog tab 188 d := fun d h => by
  cases h
  exact ⟨⟨_, _, _, Tryz.typeInfo188, rfl, rfl, rfl, rfl, fun _ _ _ => by exact (.int (.int (.int (.int (.int (.int (.int (.int (.int (.int (.int (.int (.int (.int (.int (.int (.int (.int (.int (.int (.int (.int (.int (.int (.int (.int (.int (.int (.int (.int (.int (.int .nl))))))))))))))))))))))))))))))))⟩, Tryz.isAgg188, (fun h => by cases h), rfl, Tryz.underlying188, (fun h => by cases h)⟩

theorem tabOk : TabOk Tryz.prog tab := tabOk_of ⟨good3 _ rfl, good4 _ rfl, good5 _ rfl, good9 _ rfl, good21 _ rfl, good22 _ rfl, good23 _ rfl, good27 _ rfl, good36 _ rfl, good44 _ rfl, good50 _ rfl, good52 _ rfl, good56 _ rfl, good57 _ rfl, good68 _ rfl, good69 _ rfl, good71 _ rfl, good78 _ rfl, good82 _ rfl, good83 _ rfl, good94 _ rfl, good101 _ rfl, good103 _ rfl, good105 _ rfl, good108 _ rfl, good113 _ rfl, good122 _ rfl, good146 _ rfl, good154 _ rfl, good156 _ rfl, good159 _ rfl, good161 _ rfl, good168 _ rfl, good177 _ rfl, good182 _ rfl, good187 _ rfl, good188 _ rfl, trivial⟩

end Go.Proofs.YtkoiljgjipmhbaaGreatDoor
end
/- WALKS, 1: names, texts, numbers in lists. -/
section
namespace Go.Nest
open Go Go.AM Go.Proofs
open Go.Proofs.YtkoiljgjipmhbaaGreatDoor (tab tabOk)
set_option linter.unusedVariables false
set_option linter.unusedSimpArgs false
set_option maxRecDepth 4000

def odd (c : UInt8) : Bool := decide (c.toNat ≤ 32) || decide (c.toNat = 47) || decide (127 ≤ c.toNat)
def nameC (l : List UInt8) : Int := if l = [] ∨ l = [46] ∨ l = [46, 46] ∨ l.any odd then 2 else if 20 < l.length then 4 else 0
def shown (c : UInt8) : Bool := decide (32 ≤ c.toNat) && decide (c.toNat < 127)

theorem any_take {α : Type} {p : α → Bool} {l : List α} {i : Nat} (h : i < l.length) (h1 : (l.take i).any p = false) (h2 : p l[i] = false) : (l.take (i + 1)).any p = false := by
  rw [List.take_succ_eq_append_getElem h, List.any_append, h1]; simp [h2]
theorem any_at {α : Type} {p : α → Bool} {l : List α} {i : Nat} (h : i < l.length) (h2 : p l[i] = true) : l.any p = true :=
  List.any_eq_true.2 ⟨_, List.getElem_mem h, h2⟩

theorem name_spec (l : List UInt8) : Does Tryz.prog 85 [.c (.str l)] [] (Rt (.c (.int .i64 (nameC l))) []) := by
  refine X_spec ⟨Tryz.prog, tab, 39, 0⟩ tabOk (by kernel_rfl) Tryz.call85 Tryz.func85 rfl rfl (by kernel_rfl) rfl ?_
  intro hb; have hb : l.length ≤ 9223372036854775807 := hb.1.1
  have bad : ∀ {i : Nat} (h : i < l.length), odd l[i] = true → (2 : Int) = nameC l := fun h h2 => by
    unfold nameC; rw [if_pos (.inr (.inr (.inr (any_at h h2))))]
  (conv => whnf)
  refine dec (fun (h : l = []) => ?_) (fun (h : ¬ l = []) => ?_)
  · (conv => whnf); refine rtC ?_ rfl
    simp [nameC, h]
  (conv => whnf)
  refine dec (fun (h2 : l = [46]) => ?_) (fun (h2 : ¬ l = [46]) => ?_)
  · (conv => whnf); refine rtC ?_ rfl
    simp [nameC, h2]
  (conv => whnf)
  refine dec (fun (h3 : l = [46, 46]) => ?_) (fun (h3 : ¬ l = [46, 46]) => ?_)
  · (conv => whnf); refine rtC ?_ rfl
    simp [nameC, h3]
  (conv => whnf)
  refine lp Nat (fun i => ⟨[(0, .c (.str l)), (15, .c (.int .i64 l.length)), (16, .c (.int .i64 i))], []⟩) (fun i => i ≤ l.length ∧ (l.take i).any odd = false) (fun i => l.length - i) 0 [] [] ?_ ?_ (fun i hi => ?_)
  · simp
  · repeat' first | exact trivial | exact rfl | refine And.intro ?_ ?_
  (conv => whnf)
  refine dec (fun h4 => ?_) (fun h4 => ?_)
  · have hlt : i < l.length := by omega
    (conv => whnf); refine ⟨i, l[i], rfl, List.getElem?_eq_getElem hlt, ?_⟩
    (conv => whnf); refine dec (fun h5 => ?_) (fun h5 => ?_)
    · (conv => whnf); refine rtC ?_ rfl
      rw [← bad hlt (by simp [odd]; omega)]
    (conv => whnf); refine ⟨i, l[i], rfl, List.getElem?_eq_getElem hlt, ?_⟩
    (conv => whnf); refine dec (fun h6 => ?_) (fun h6 => ?_)
    · (conv => whnf); refine rtC ?_ rfl
      rw [← bad hlt (by simp [odd]; omega)]
    (conv => whnf); refine ⟨i, l[i], rfl, List.getElem?_eq_getElem hlt, ?_⟩
    (conv => whnf); refine dec (fun h7 => ?_) (fun h7 => ?_)
    · (conv => whnf); refine rtC ?_ rfl
      rw [← bad hlt (by simp [odd]; omega)]
    (conv => whnf); refine ⟨i64 (by omega) (by omega), ?_⟩
    (conv => whnf); refine ag (i + 1) [] [] ⟨hlt, any_take hlt hi.2 (by simp [odd]; omega)⟩ (by simp only []; omega) ?_
    repeat' first | exact trivial | exact rfl | refine And.intro ?_ ?_
  · obtain rfl : i = l.length := by omega
    have ha : l.any odd = false := by simpa using hi.2
    (conv => whnf); refine dec (fun h5 => ?_) (fun h5 => ?_)
    · (conv => whnf); refine rtC ?_ rfl
      unfold nameC; rw [if_neg (by simp [h, h2, h3, ha]), if_pos (by omega)]
    · (conv => whnf); refine rtC ?_ rfl
      unfold nameC; rw [if_neg (by simp [h, h2, h3, ha]), if_neg (by omega)]
end Go.Nest
end
/- WALKS, W8: of the law: great docs, great snaps, one of a list. -/
section
namespace Go.Nest
open Go Go.AM Go.Proofs
open Go.Proofs.YtkoiljgjipmhbaaGreatDoor (tab tabOk)
set_option linter.unusedVariables false
set_option linter.unusedSimpArgs false
set_option maxRecDepth 4000
def sumD (l : List Dc) : Nat := (l.map fun d => d.path.length + d.bytes.length).sum
theorem sumD_take {l : List Dc} {i : Nat} (h : i < l.length) : sumD (l.take (i + 1)) = sumD (l.take i) + (l[i].path.length + l[i].bytes.length) := by
  unfold sumD
  rw [List.take_succ_eq_append_getElem h, List.map_append, List.sum_append]; simp
theorem sumD_le {l : List Dc} {n : Nat} (h : ∀ d ∈ l, d.path.length + d.bytes.length ≤ n) : sumD l ≤ l.length * n := by
  induction l with
  | nil => simp [sumD]
  | cons f l ih =>
    have h1 := ih (fun x hx => h x (by simp [hx]))
    have h2 := h f (by simp)
    unfold sumD at h1 ⊢
    rw [List.map_cons, List.sum_cons, List.length_cons, Nat.succ_mul]
    omega
theorem sumD_mem {l : List Dc} {d : Dc} (h : d ∈ l) : d.path.length + d.bytes.length ≤ sumD l := by
  induction l with
  | nil => cases h
  | cons g l ih =>
    unfold sumD at ih ⊢
    rw [List.map_cons, List.sum_cons]
    rcases List.mem_cons.1 h with rfl | h
    · omega
    · have := ih h; omega
def greatD (l : List Dc) : Bool := decide (40 < l.length) || decide (6000 < sumD (l.take 100))
def DocsOk (l : List Dc) : Prop := l.length ≤ 40 ∧ ∀ d ∈ l, d.path.length ≤ 6000 ∧ d.bytes.length ≤ 6000
theorem greatD_ok {l : List Dc} (h : greatD l = false) : DocsOk l := by
  unfold greatD at h
  rw [Bool.or_eq_false_iff, decide_eq_false_iff_not, decide_eq_false_iff_not] at h
  have h1 : l.length ≤ 40 := by omega
  rw [List.take_of_length_le (by omega)] at h
  exact ⟨h1, fun f hf => by have := sumD_mem hf; omega⟩
def DocsFit (l : List Dc) : Prop := ∀ d ∈ l, d.path.length ≤ 140737488351232 ∧ d.bytes.length ≤ 140737488351232
theorem greatDocs_spec (l : List Dc) (hl : DocsFit l) : Does Tryz.prog 61 [.c (.bs 2 Dc encDc l)] [] (Rt (.c (.bool (greatD l))) []) := by
  refine X_spec ⟨Tryz.prog, tab, 37, 0⟩ tabOk (by kernel_rfl) Tryz.call61 Tryz.func61 rfl rfl (by kernel_rfl) rfl ?_
  intro hb; have hb : l.length ≤ 9223372036854775807 := hb.1.1
  (conv => whnf)
  refine lp Nat (fun i => ⟨[(0, .c (.bs 2 Dc encDc l)), (3, .c (.int .i64 (sumD (l.take i)))), (4, .c (.int .i64 i))], []⟩) (fun i => i ≤ l.length ∧ i ≤ 100) (fun i => l.length - i) 0 [] [] ?_ ?_ (fun i hi => ?_)
  · simp
  · repeat' first | exact trivial | exact rfl | refine And.intro ?_ ?_
  have hs : sumD (l.take i) ≤ 100 * 281474976702464 := by
    have h2 : (l.take i).length ≤ 100 := by rw [List.length_take]; omega
    have key : ∀ N, (∀ d ∈ l, d.path.length + d.bytes.length ≤ N) → sumD (l.take i) ≤ 100 * N := fun N h => Nat.le_trans (sumD_le fun f hf => h f (List.mem_of_mem_take hf)) (Nat.mul_le_mul_right N h2)
    exact key _ fun d hd => by have := hl d hd; omega
  have fin : ¬ (i < l.length ∧ i < 100) → sumD (l.take i) = sumD (l.take 100) := fun h => by
    by_cases h3 : i < l.length
    · have : i = 100 := by omega
      rw [this]
    · rw [List.take_of_length_le (by omega), List.take_of_length_le (by omega)]
  (conv => whnf)
  refine dec (fun h4 => ?_) (fun h4 => ?_)
  · (conv => whnf)
    refine dec (fun h5 => ?_) (fun h5 => ?_)
    · have hlt : i < l.length := by omega
      have hp := hl _ (List.getElem_mem hlt)
      (conv => whnf)
      refine ⟨false, (.l [0, 1, 2, 3, 4, 5, 6, 7, 8, 9, 10, 11, 12, 13, 14, 15]), by kernel_rfl, .inl ?_⟩
      (conv => whnf)
      refine ⟨i, l[i], rfl, List.getElem?_eq_getElem hlt, ?_⟩
      (conv => whnf)
      refine ⟨i, l[i], rfl, List.getElem?_eq_getElem hlt, ?_⟩
      (conv => whnf)
      refine ⟨i64 (by omega) (by omega), ?_⟩
      (conv => whnf)
      refine ⟨i64 (by omega) (by omega), ?_⟩
      repeat' ((conv => whnf); first | (refine dec (fun h => ?_) (fun h => ?_) <;> try contradiction) | (refine decN (fun h => ?_) (fun h => ?_) <;> try contradiction) | refine booN (fun h => ?_) (fun h => ?_) | refine boo (fun h => ?_) (fun h => ?_) | refine ⟨i64 (by omega) (by omega), ?_⟩ | refine ⟨_, _, rfl, List.getElem?_eq_getElem (by omega), ?_⟩ | refine ⟨_, ⟨rfl, by omega⟩, ?_⟩ | refine ⟨_, List.getElem?_eq_getElem (by omega), ?_⟩ | refine rtB ?_ | refine rtI ?_ | refine rtC ?_ rfl | fail)
      refine ag (i + 1) [] [] ⟨hlt, by omega⟩ (by simp only []; omega) ?_
      rw [sumD_take hlt]
      repeat' first | exact trivial | exact rfl | refine And.intro ?_ ?_
    · have := fin (by omega)
      rw [this]
      repeat' ((conv => whnf); first | (refine dec (fun h => ?_) (fun h => ?_) <;> try contradiction) | (refine decN (fun h => ?_) (fun h => ?_) <;> try contradiction) | refine booN (fun h => ?_) (fun h => ?_) | refine boo (fun h => ?_) (fun h => ?_) | refine ⟨i64 (by omega) (by omega), ?_⟩ | refine ⟨_, _, rfl, List.getElem?_eq_getElem (by omega), ?_⟩ | refine ⟨_, ⟨rfl, by omega⟩, ?_⟩ | refine ⟨_, List.getElem?_eq_getElem (by omega), ?_⟩ | refine rtB ?_ | refine rtI ?_ | refine rtC ?_ rfl | fail)
      · have h : 40 < l.length := by omega
        simp [greatD, h]
      · have h : ¬ 40 < l.length := by omega
        simp [greatD, h]; omega
  · have := fin (by omega)
    rw [this]
    repeat' ((conv => whnf); first | (refine dec (fun h => ?_) (fun h => ?_) <;> try contradiction) | (refine decN (fun h => ?_) (fun h => ?_) <;> try contradiction) | refine booN (fun h => ?_) (fun h => ?_) | refine boo (fun h => ?_) (fun h => ?_) | refine ⟨i64 (by omega) (by omega), ?_⟩ | refine ⟨_, _, rfl, List.getElem?_eq_getElem (by omega), ?_⟩ | refine ⟨_, ⟨rfl, by omega⟩, ?_⟩ | refine ⟨_, List.getElem?_eq_getElem (by omega), ?_⟩ | refine rtB ?_ | refine rtI ?_ | refine rtC ?_ rfl | fail)
    · have h : 40 < l.length := by omega
      simp [greatD, h]
    · have h : ¬ 40 < l.length := by omega
      simp [greatD, h]; omega
def greatN (s : Sn) : Bool := greatD s.docs || (decide (10 < s.parents.length) || decide (200 < s.text.length))
def greatS (l : List Sn) : Bool := (l.take 50).any greatN || decide (25 < l.length)
def SnapOk (s : Sn) : Prop := DocsOk s.docs ∧ s.parents.length ≤ 10 ∧ s.text.length ≤ 200
theorem greatS_ok {l : List Sn} (h : greatS l = false) : l.length ≤ 25 ∧ ∀ s ∈ l, SnapOk s := by
  unfold greatS at h
  rw [Bool.or_eq_false_iff, decide_eq_false_iff_not] at h
  have h1 : l.length ≤ 25 := by omega
  rw [List.take_of_length_le (by omega), List.any_eq_false] at h
  refine ⟨h1, fun s hs => ?_⟩
  have h2 := h.1 s hs
  unfold greatN at h2
  rw [Bool.not_eq_true, Bool.or_eq_false_iff, Bool.or_eq_false_iff, decide_eq_false_iff_not, decide_eq_false_iff_not] at h2
  exact ⟨greatD_ok h2.1, by omega, by omega⟩
theorem greatSnaps_spec (l : List Sn) (hl : ∀ s ∈ l, DocsFit s.docs) : Does Tryz.prog 26 [.c (.bs 3 Sn encSn l)] [] (Rt (.c (.bool (greatS l))) []) := by
  refine X_spec ⟨Tryz.prog, tab, 41, 0⟩ tabOk (by kernel_rfl) Tryz.call26 Tryz.func26 rfl rfl (by kernel_rfl) rfl ?_
  intro hb; have hb : l.length ≤ 9223372036854775807 := hb.1.1
  (conv => whnf)
  refine lp Nat (fun i => ⟨[(0, .c (.bs 3 Sn encSn l)), (3, .c (.int .i64 i))], []⟩) (fun i => (i ≤ l.length ∧ i ≤ 50) ∧ (l.take i).any greatN = false) (fun i => l.length - i) 0 [] [] ?_ ?_ (fun i hi => ?_)
  · simp
  · repeat' first | exact trivial | exact rfl | refine And.intro ?_ ?_
  have fin : ¬ (i < l.length ∧ i < 50) → greatS l = decide (25 < l.length) := fun h => by
    unfold greatS
    have : l.take 50 = l.take i := by
      by_cases h1 : i = 50
      · rw [h1]
      · rw [List.take_of_length_le (by omega), List.take_of_length_le (by omega)]
    rw [this, hi.2]; rfl
  (conv => whnf)
  refine dec (fun h4 => ?_) (fun h4 => ?_)
  · (conv => whnf)
    refine dec (fun h5 => ?_) (fun h5 => ?_)
    · have hlt : i < l.length := by omega
      have yes : greatN l[i] = true → greatS l = true := fun h => by
        unfold greatS
        rw [any_at (l := l.take 50) (i := i) (by rw [List.length_take]; omega) (by rw [List.getElem_take]; exact h)]; rfl
      have again : greatN l[i] = false → (l.take (i + 1)).any greatN = false := fun h => any_take hlt hi.2 h
      have hgn : greatN l[i] = (greatD l[i].docs || (decide (10 < l[i].parents.length) || decide (200 < l[i].text.length))) := rfl
      (conv => whnf)
      refine ⟨i, l[i], rfl, List.getElem?_eq_getElem hlt, ?_⟩
      (conv => whnf)
      refine cl [] [] (greatDocs_spec l[i].docs (hl _ (List.getElem_mem hlt))) (by (repeat' first | exact trivial | exact rfl | refine And.intro ?_ ?_); first | done | fail) (by first | exact trivial | exact rfl) ?_
      (conv => whnf)
      refine boo (fun h => ?_) (fun h => ?_)
      · (conv => whnf)
        exact rtB (yes (by rw [hgn, h]; rfl)).symm
      (conv => whnf)
      refine ⟨i, l[i], rfl, List.getElem?_eq_getElem hlt, ?_⟩
      (conv => whnf)
      refine dec (fun h6 => ?_) (fun h6 => ?_)
      · have h6 : 10 < l[i].parents.length := by omega
        (conv => whnf)
        exact rtB (yes (by rw [hgn, h, decide_eq_true h6]; rfl)).symm
      have h6 : ¬ 10 < l[i].parents.length := by omega
      (conv => whnf)
      refine ⟨i, l[i], rfl, List.getElem?_eq_getElem hlt, ?_⟩
      (conv => whnf)
      refine dec (fun h7 => ?_) (fun h7 => ?_)
      · have h7 : 200 < l[i].text.length := by omega
        (conv => whnf)
        exact rtB (yes (by rw [hgn, h, decide_eq_false h6, decide_eq_true h7]; rfl)).symm
      have h7 : ¬ 200 < l[i].text.length := by omega
      repeat' ((conv => whnf); first | (refine dec (fun h => ?_) (fun h => ?_) <;> try contradiction) | (refine decN (fun h => ?_) (fun h => ?_) <;> try contradiction) | refine booN (fun h => ?_) (fun h => ?_) | refine boo (fun h => ?_) (fun h => ?_) | refine ⟨i64 (by omega) (by omega), ?_⟩ | refine ⟨_, _, rfl, List.getElem?_eq_getElem (by omega), ?_⟩ | refine ⟨_, ⟨rfl, by omega⟩, ?_⟩ | refine ⟨_, List.getElem?_eq_getElem (by omega), ?_⟩ | refine rtB ?_ | refine rtI ?_ | refine rtC ?_ rfl | fail)
      refine ag (i + 1) [] [] ⟨⟨hlt, by omega⟩, again (by rw [hgn, h, decide_eq_false h6, decide_eq_false h7]; rfl)⟩ (by simp only []; omega) ?_
      repeat' first | exact trivial | exact rfl | refine And.intro ?_ ?_
    · repeat' ((conv => whnf); first | (refine dec (fun h => ?_) (fun h => ?_) <;> try contradiction) | (refine decN (fun h => ?_) (fun h => ?_) <;> try contradiction) | refine booN (fun h => ?_) (fun h => ?_) | refine boo (fun h => ?_) (fun h => ?_) | refine ⟨i64 (by omega) (by omega), ?_⟩ | refine ⟨_, _, rfl, List.getElem?_eq_getElem (by omega), ?_⟩ | refine ⟨_, ⟨rfl, by omega⟩, ?_⟩ | refine ⟨_, List.getElem?_eq_getElem (by omega), ?_⟩ | refine rtB ?_ | refine rtI ?_ | refine rtC ?_ rfl | fail)
      rw [fin (by omega)]; rw [decide_eq_decide]; omega
  · repeat' ((conv => whnf); first | (refine dec (fun h => ?_) (fun h => ?_) <;> try contradiction) | (refine decN (fun h => ?_) (fun h => ?_) <;> try contradiction) | refine booN (fun h => ?_) (fun h => ?_) | refine boo (fun h => ?_) (fun h => ?_) | refine ⟨i64 (by omega) (by omega), ?_⟩ | refine ⟨_, _, rfl, List.getElem?_eq_getElem (by omega), ?_⟩ | refine ⟨_, ⟨rfl, by omega⟩, ?_⟩ | refine ⟨_, List.getElem?_eq_getElem (by omega), ?_⟩ | refine rtB ?_ | refine rtI ?_ | refine rtC ?_ rfl | fail)
    rw [fin (by omega)]; rw [decide_eq_decide]; omega
theorem wrapU (n : Int) : IntKind.u64.wrap n = n % 18446744073709551616 := by
  unfold IntKind.wrap
  simp [IntKind.bits, IntKind.signed]
theorem wrapS {n : Int} (h0 : 0 ≤ n) (h : n ≤ 9223372036854775807) : IntKind.i64.wrap n = n := by
  have e : n % 18446744073709551616 = n := Int.emod_eq_of_lt h0 (by omega)
  unfold IntKind.wrap
  simp only [IntKind.bits, IntKind.signed]
  show (if (true && decide (n % 18446744073709551616 ≥ 9223372036854775808)) = true then n % 18446744073709551616 - 18446744073709551616 else n % 18446744073709551616) = n
  rw [e, if_neg (by simp; omega)]
theorem wrapU_ne {n : Nat} (h0 : n ≠ 0) (h : n ≤ 9223372036854775807) : IntKind.u64.wrap n ≠ 0 := by rw [wrapU]; omega
theorem round_at {k : Int} {n : Nat} (h0 : n ≠ 0) (h : n ≤ 9223372036854775807) : IntKind.i64.wrap ((IntKind.u64.wrap k).tmod (IntKind.u64.wrap n)) = ((k % 18446744073709551616 % n).toNat : Nat) ∧ (k % 18446744073709551616 % n).toNat < n := by
  have e : (n : Int) % 18446744073709551616 = n := Int.emod_eq_of_lt (by omega) (by omega)
  have h1 : 0 ≤ k % 18446744073709551616 := Int.emod_nonneg _ (by decide)
  have h2 : 0 ≤ k % 18446744073709551616 % n := Int.emod_nonneg _ (by omega)
  have h3 : k % 18446744073709551616 % n < n := Int.emod_lt_of_pos _ (by omega)
  rw [wrapU, wrapU, e, Int.tmod_eq_emod_of_nonneg h1, wrapS h2 (by omega)]
  omega
/-- a number, counted round -/
def pick (l : List Int) (k : Int) : Int := (l[(k % 18446744073709551616 % l.length).toNat]?).getD 0
def oneP (l : List Int) (k : Int) : Int := if l.length = 0 then -1 else pick l k
theorem one_spec (l : List Int) (k : Int) : Does Tryz.prog 28 [.c (.bs 1 Int encI l), .c (.int .i64 k)] [] (Rt (.c (.int .i64 (oneP l k))) []) := by
  refine X_spec ⟨Tryz.prog, tab, 18, 0⟩ tabOk (by kernel_rfl) Tryz.call28 Tryz.func28 rfl rfl (by kernel_rfl) rfl ?_
  intro hb; have hb : l.length ≤ 9223372036854775807 := hb.1.1
  (conv => whnf)
  refine dec (fun h4 => ?_) (fun h4 => ?_)
  · have e : oneP l k = -1 := by unfold oneP; rw [if_pos (by omega)]
    (conv => whnf)
    exact rtI e.symm
  · have e : oneP l k = pick l k := by unfold oneP; rw [if_neg (by omega)]
    (conv => whnf)
    refine ⟨wrapU_ne (by omega) hb, ?_⟩
    (conv => whnf)
    obtain ⟨r1, r2⟩ := round_at (k := k) (n := l.length) (by omega) hb
    refine ⟨_, _, r1, List.getElem?_eq_getElem r2, ?_⟩
    (conv => whnf)
    refine rtI ?_
    rw [e]; unfold pick
    rw [List.getElem?_eq_getElem r2]; rfl
theorem pick_mem {l : List Int} {k : Int} (h : l.length ≠ 0) (h2 : l.length ≤ 9223372036854775807) : pick l k ∈ l := by
  have r2 := (round_at (k := k) h h2).2
  unfold pick
  rw [List.getElem?_eq_getElem r2]
  exact List.getElem_mem r2
end Go.Nest
end
/- WALKS, 1b: names, by the document; texts that may be said. -/
section
namespace Go.Nest
open Go Go.AM Go.Proofs
open Go.Proofs.YtkoiljgjipmhbaaGreatDoor (tab tabOk)
set_option linter.unusedVariables false
set_option linter.unusedSimpArgs false
set_option maxRecDepth 4000

theorem nameF_spec (l : List UInt8) : Does Tryz.prog 87 [.c (.str l)] [] (Rt (.c (.int .i64 (nameC l))) []) := by
  refine X_spec ⟨Tryz.prog, tab, 39, 0⟩ tabOk (by kernel_rfl) Tryz.call87 Tryz.func87 rfl rfl (by kernel_rfl) rfl ?_
  intro hb; have hb : l.length ≤ 9223372036854775807 := hb.1.1
  have bad : ∀ {i : Nat} (h : i < l.length), odd l[i] = true → (2 : Int) = nameC l := fun h h2 => by
    unfold nameC; rw [if_pos (.inr (.inr (.inr (any_at h h2))))]
  (conv => whnf)
  refine dec (fun (h0 : l = []) => ?_) (fun (h0 : ¬ l = []) => ?_)
  · (conv => whnf); refine rtC ?_ rfl; simp [nameC, h0]
  (conv => whnf)
  refine dec (fun (h2 : l = [46]) => ?_) (fun (h2 : ¬ l = [46]) => ?_)
  · (conv => whnf); refine rtC ?_ rfl; simp [nameC, h2]
  (conv => whnf)
  refine dec (fun (h3 : l = [46, 46]) => ?_) (fun (h3 : ¬ l = [46, 46]) => ?_)
  · (conv => whnf); refine rtC ?_ rfl; simp [nameC, h3]
  (conv => whnf)
  refine lp Nat (fun i => ⟨[(0, .c (.str l)), (3, .c (.int .i64 i))], []⟩) (fun i => i ≤ l.length ∧ (l.take i).any odd = false) (fun i => l.length - i) 0 [] [] ?_ ?_ (fun i hi => ?_)
  · simp
  · repeat' first | exact trivial | exact rfl | refine And.intro ?_ ?_
  (conv => whnf)
  refine dec (fun h4 => ?_) (fun h4 => ?_)
  · have hlt : i < l.length := by omega
    repeat' ((conv => whnf); first | (refine dec (fun h => ?_) (fun h => ?_) <;> try contradiction) | (refine decN (fun h => ?_) (fun h => ?_) <;> try contradiction) | refine booN (fun h => ?_) (fun h => ?_) | refine boo (fun h => ?_) (fun h => ?_) | refine ⟨i64 (by omega) (by omega), ?_⟩ | refine ⟨_, _, rfl, List.getElem?_eq_getElem (by omega), ?_⟩ | refine ⟨_, ⟨rfl, by omega⟩, ?_⟩ | refine ⟨_, List.getElem?_eq_getElem (by omega), ?_⟩ | refine rtB ?_ | refine rtI ?_ | refine rtC ?_ rfl | fail)
    · rw [← bad hlt (by simp [odd]; omega)]
    · rw [← bad hlt (by simp [odd]; omega)]
    · rw [← bad hlt (by simp [odd]; omega)]
    · refine ag (i + 1) [] [] ⟨hlt, any_take hlt hi.2 (by simp [odd]; omega)⟩ (by simp only []; omega) ?_
      repeat' first | exact trivial | exact rfl | refine And.intro ?_ ?_
  · obtain rfl : i = l.length := by omega
    have ha : l.any odd = false := by simpa using hi.2
    repeat' ((conv => whnf); first | (refine dec (fun h => ?_) (fun h => ?_) <;> try contradiction) | (refine decN (fun h => ?_) (fun h => ?_) <;> try contradiction) | refine booN (fun h => ?_) (fun h => ?_) | refine boo (fun h => ?_) (fun h => ?_) | refine ⟨i64 (by omega) (by omega), ?_⟩ | refine ⟨_, _, rfl, List.getElem?_eq_getElem (by omega), ?_⟩ | refine ⟨_, ⟨rfl, by omega⟩, ?_⟩ | refine ⟨_, List.getElem?_eq_getElem (by omega), ?_⟩ | refine rtB ?_ | refine rtI ?_ | refine rtC ?_ rfl | fail)
    · unfold nameC; rw [if_neg (by simp [h0, h2, h3, ha]), if_pos (by omega)]
    · unfold nameC; rw [if_neg (by simp [h0, h2, h3, ha]), if_neg (by omega)]

theorem visible_spec (l : List UInt8) : Does Tryz.prog 101 [.c (.str l)] [] (Rt (.c (.bool (l.all shown))) []) := by
  refine X_spec ⟨Tryz.prog, tab, 20, 0⟩ tabOk (by kernel_rfl) Tryz.call101 Tryz.func101 rfl rfl (by kernel_rfl) rfl ?_
  intro hb; have hb : l.length ≤ 9223372036854775807 := hb.1.1
  (conv => whnf)
  refine lp Nat (fun i => ⟨[(0, .c (.str l)), (5, .c (.int .i64 l.length)), (6, .c (.int .i64 i))], []⟩) (fun i => i ≤ l.length ∧ (l.take i).all shown = true) (fun i => l.length - i) 0 [] [] ?_ ?_ (fun i hi => ?_)
  · simp
  · repeat' first | exact trivial | exact rfl | refine And.intro ?_ ?_
  have bad : ∀ (h : i < l.length), shown l[i] = false → false = l.all shown := fun h h2 => by
    symm; rw [Bool.eq_false_iff, Ne, List.all_eq_true]; intro h3; rw [h3 _ (List.getElem_mem h)] at h2; cases h2
  (conv => whnf)
  refine dec (fun h4 => ?_) (fun h4 => ?_)
  · have hlt : i < l.length := by omega
    repeat' ((conv => whnf); first | (refine dec (fun h => ?_) (fun h => ?_) <;> try contradiction) | (refine decN (fun h => ?_) (fun h => ?_) <;> try contradiction) | refine booN (fun h => ?_) (fun h => ?_) | refine boo (fun h => ?_) (fun h => ?_) | refine ⟨i64 (by omega) (by omega), ?_⟩ | refine ⟨_, _, rfl, List.getElem?_eq_getElem (by omega), ?_⟩ | refine ⟨_, ⟨rfl, by omega⟩, ?_⟩ | refine ⟨_, List.getElem?_eq_getElem (by omega), ?_⟩ | refine rtB ?_ | refine rtI ?_ | refine rtC ?_ rfl | fail)
    · rw [← bad hlt (by simp [shown]; omega)]
    · rw [← bad hlt (by simp [shown]; omega)]
    · refine ag (i + 1) [] [] ⟨hlt, ?_⟩ (by simp only []; omega) ?_
      · rw [List.take_succ_eq_append_getElem hlt, List.all_append, hi.2]; simp [shown]; omega
      repeat' first | exact trivial | exact rfl | refine And.intro ?_ ?_
  · obtain rfl : i = l.length := by omega
    have ha : l.all shown = true := by simpa using hi.2
    repeat' ((conv => whnf); first | (refine dec (fun h => ?_) (fun h => ?_) <;> try contradiction) | (refine decN (fun h => ?_) (fun h => ?_) <;> try contradiction) | refine booN (fun h => ?_) (fun h => ?_) | refine boo (fun h => ?_) (fun h => ?_) | refine ⟨i64 (by omega) (by omega), ?_⟩ | refine ⟨_, _, rfl, List.getElem?_eq_getElem (by omega), ?_⟩ | refine ⟨_, ⟨rfl, by omega⟩, ?_⟩ | refine ⟨_, List.getElem?_eq_getElem (by omega), ?_⟩ | refine rtB ?_ | refine rtI ?_ | refine rtC ?_ rfl | fail)
    rw [ha]
end Go.Nest
end
