/- THE TABLE of types, and that it is right. -/
import Derived.Test.YtkkjjbejkcgmfaaAmT
import Derived.Test.YtkkjjbejkcgmfaaProg
namespace Go.Proofs.Ytkkjjbejkcgmfaa
open Go Go.AM Go.Nest
set_option linter.unusedVariables false

def tabL : List (Nat × TD) := [
  (3, ⟨1, false, 8, (.int .i64), [.int .i64 0], false, Int, encI⟩),
  (4, ⟨1, false, 1, .bool, [.bool false], false, Bool, encBo⟩),
  (5, ⟨1, false, 1, (.int .u8), [.int .u8 0], false, UInt8, bytesC⟩),
  (9, ⟨1, false, 16, .str, [.str []], false, (List UInt8), encS⟩),
  (20, ⟨1, false, 16, .other, [.raw .nilIface], false, Unit, (fun _ => [])⟩),
  (22, ⟨1, false, 24, (.sl 5), [.nil], false, (List UInt8), (encL 1 bytesC)⟩),
  (23, ⟨1, false, 24, (.sl 22), [.nil], false, (List (List UInt8)), (encL 1 (encL 1 bytesC))⟩),
  (26, ⟨1, false, 24, (.sl 31), [.nil], false, (List (Int × Int)), (encL 2 encPr)⟩),
  (28, ⟨1, false, 24, (.sl 32), [.nil], false, (List (Int × Int)), (encL 2 encPr)⟩),
  (31, ⟨2, true, 16, (.struct [(3, 0), (3, 1)]), [.int .i64 0, .int .i64 0], true, (Int × Int), encPr⟩),
  (32, ⟨2, true, 16, (.struct [(3, 0), (3, 1)]), [.int .i64 0, .int .i64 0], true, (Int × Int), encPr⟩),
  (41, ⟨1, false, 24, (.sl 81), [.nil], false, (List Ent), (encL 4 encEn)⟩),
  (42, ⟨1, false, 24, (.sl 3), [.nil], false, (List Int), (encL 1 encI)⟩),
  (44, ⟨6, true, 104, (.struct [(3, 0), (22, 1), (41, 2), (3, 3), (42, 4), (9, 5)]), [.int .i64 0, .nil, .nil, .int .i64 0, .nil, .str []], false, Ob, encOb⟩),
  (52, ⟨1, false, 24, (.sl 44), [.nil], false, (List Ob), (encL 6 encOb)⟩),
  (60, ⟨1, true, 24, (.struct [(52, 0)]), [.nil], false, Unit, (fun _ => [])⟩),
  (73, ⟨1, false, 24, (.sl 42), [.nil], false, (List (List Int)), (encL 1 (encL 1 encI))⟩),
  (76, ⟨3, true, 24, (.arr 3 3), [.int .i64 0, .int .i64 0, .int .i64 0], false, (Int × Int × Int), encTr⟩),
  (77, ⟨1, false, 24, (.sl 76), [.nil], false, (List (Int × Int × Int)), (encL 3 encTr)⟩),
  (81, ⟨4, true, 40, (.struct [(9, 0), (3, 1), (3, 2), (3, 3)]), [.str [], .int .i64 0, .int .i64 0, .int .i64 0], true, Ent, encEn⟩),
  (88, ⟨1, true, 24, (.struct [(22, 0)]), [.nil], false, Unit, (fun _ => [])⟩),
  (92, ⟨0, true, 0, (.struct []), [], true, Unit, (fun _ => [])⟩),
  (95, ⟨1, true, 24, (.struct [(22, 0)]), [.nil], false, Unit, (fun _ => [])⟩),
  (99, ⟨1, true, 24, (.struct [(52, 0)]), [.nil], false, Unit, (fun _ => [])⟩),
  (100, ⟨1, false, 24, (.sl 4), [.nil], false, (List Bool), (encL 1 encBo)⟩),
  (106, ⟨2, true, 32, (.struct [(22, 0), (4, 1)]), [.nil, .bool false], false, Unit, (fun _ => [])⟩)]
def tab : Nat → Option TD := lkT tabL

theorem good3 : ∀ d, tab 3 = some d → Good Try.prog tab 3 d := fun d h => by
  cases h
  exact ⟨⟨_, _, _, Try.typeInfo3, rfl, rfl, rfl, rfl, fun _ _ _ => by exact (.int .nl)⟩, Try.isAgg3, (fun _ => rfl), rfl, Try.underlying3, (fun h => by cases h)⟩
theorem good4 : ∀ d, tab 4 = some d → Good Try.prog tab 4 d := fun d h => by
  cases h
  exact ⟨⟨_, _, _, Try.typeInfo4, rfl, rfl, rfl, rfl, fun _ _ _ => by exact (.bool .nl)⟩, Try.isAgg4, (fun _ => rfl), rfl, Try.underlying4, (fun h => by cases h)⟩
theorem good5 : ∀ d, tab 5 = some d → Good Try.prog tab 5 d := fun d h => by
  cases h
  exact ⟨⟨_, _, _, Try.typeInfo5, rfl, rfl, rfl, rfl, fun _ _ _ => by exact (.int .nl)⟩, Try.isAgg5, (fun _ => rfl), rfl, Try.underlying5, (fun h => by cases h)⟩
theorem good9 : ∀ d, tab 9 = some d → Good Try.prog tab 9 d := fun d h => by
  cases h
  exact ⟨⟨_, _, _, Try.typeInfo9, rfl, rfl, rfl, rfl, fun _ _ _ => by exact (.str (Nat.zero_le _) .nl)⟩, Try.isAgg9, (fun _ => rfl), rfl, Try.underlying9, (fun h => by cases h)⟩
theorem good20 : ∀ d, tab 20 = some d → Good Try.prog tab 20 d := fun d h => by
  cases h
  exact ⟨⟨_, _, _, Try.typeInfo20, rfl, rfl, rfl, rfl, fun _ _ _ => by exact (.raw rfl .nl)⟩, Try.isAgg20, (fun _ => rfl), rfl, trivial, (fun h => by cases h)⟩
theorem good22 : ∀ d, tab 22 = some d → Good Try.prog tab 22 d := fun d h => by
  cases h
  exact ⟨⟨_, _, _, Try.typeInfo22, rfl, rfl, rfl, rfl, fun _ _ _ => by exact (.nil .nl)⟩, Try.isAgg22, (fun _ => rfl), rfl, Try.underlying22, (fun h => by cases h)⟩
theorem good23 : ∀ d, tab 23 = some d → Good Try.prog tab 23 d := fun d h => by
  cases h
  exact ⟨⟨_, _, _, Try.typeInfo23, rfl, rfl, rfl, rfl, fun _ _ _ => by exact (.nil .nl)⟩, Try.isAgg23, (fun _ => rfl), rfl, Try.underlying23, (fun h => by cases h)⟩
theorem good26 : ∀ d, tab 26 = some d → Good Try.prog tab 26 d := fun d h => by
  cases h
  exact ⟨⟨_, _, _, Try.typeInfo26, rfl, rfl, rfl, rfl, fun _ _ _ => by exact (.nil .nl)⟩, Try.isAgg26, (fun _ => rfl), rfl, Try.underlying26, (fun h => by cases h)⟩
theorem good28 : ∀ d, tab 28 = some d → Good Try.prog tab 28 d := fun d h => by
  cases h
  exact ⟨⟨_, _, _, Try.typeInfo28, rfl, rfl, rfl, rfl, fun _ _ _ => by exact (.nil .nl)⟩, Try.isAgg28, (fun _ => rfl), rfl, Try.underlying28, (fun h => by cases h)⟩
theorem good31 : ∀ d, tab 31 = some d → Good Try.prog tab 31 d := fun d h => by
  cases h
  exact ⟨⟨_, _, _, Try.typeInfo31, rfl, rfl, rfl, rfl, fun _ _ _ => by exact (.int (.int .nl))⟩, Try.isAgg31, (fun h => by cases h), rfl, ⟨_, Try.underlying31, rfl, rfl⟩, (fun _ => ⟨by kernel_rfl, by exact (CmpAt.struct (by kernel_rfl) (by kernel_rfl) (by rw [fieldsL Try.underlying31]; exact ⟨false, [.int .i64 0], _, rfl, by decide, rfl, Try.isAgg3, sizeOf_of Try.typeInfo3 rfl, by decide, (CmpAt.int Try.underlying3), ⟨false, [.int .i64 0], _, rfl, by decide, rfl, Try.isAgg3, sizeOf_of Try.typeInfo3 rfl, by decide, (CmpAt.int Try.underlying3), rfl⟩⟩))⟩)⟩
theorem good32 : ∀ d, tab 32 = some d → Good Try.prog tab 32 d := fun d h => by
  cases h
  exact ⟨⟨_, _, _, Try.typeInfo32, rfl, rfl, rfl, rfl, fun _ _ _ => by exact (.int (.int .nl))⟩, Try.isAgg32, (fun h => by cases h), rfl, ⟨_, Try.underlying32, rfl, rfl⟩, (fun _ => ⟨by kernel_rfl, by exact (CmpAt.struct (by kernel_rfl) (by kernel_rfl) (by rw [fieldsL Try.underlying32]; exact ⟨false, [.int .i64 0], _, rfl, by decide, rfl, Try.isAgg3, sizeOf_of Try.typeInfo3 rfl, by decide, (CmpAt.int Try.underlying3), ⟨false, [.int .i64 0], _, rfl, by decide, rfl, Try.isAgg3, sizeOf_of Try.typeInfo3 rfl, by decide, (CmpAt.int Try.underlying3), rfl⟩⟩))⟩)⟩
theorem good41 : ∀ d, tab 41 = some d → Good Try.prog tab 41 d := fun d h => by
  cases h
  exact ⟨⟨_, _, _, Try.typeInfo41, rfl, rfl, rfl, rfl, fun _ _ _ => by exact (.nil .nl)⟩, Try.isAgg41, (fun _ => rfl), rfl, Try.underlying41, (fun h => by cases h)⟩
theorem good42 : ∀ d, tab 42 = some d → Good Try.prog tab 42 d := fun d h => by
  cases h
  exact ⟨⟨_, _, _, Try.typeInfo42, rfl, rfl, rfl, rfl, fun _ _ _ => by exact (.nil .nl)⟩, Try.isAgg42, (fun _ => rfl), rfl, Try.underlying42, (fun h => by cases h)⟩
theorem good44 : ∀ d, tab 44 = some d → Good Try.prog tab 44 d := fun d h => by
  cases h
  exact ⟨⟨_, _, _, Try.typeInfo44, rfl, rfl, rfl, rfl, fun _ _ _ => by exact (.int (.nil (.nil (.int (.nil (.str (Nat.zero_le _) .nl))))))⟩, Try.isAgg44, (fun h => by cases h), rfl, ⟨_, Try.underlying44, rfl, rfl⟩, (fun h => by cases h)⟩
theorem good52 : ∀ d, tab 52 = some d → Good Try.prog tab 52 d := fun d h => by
  cases h
  exact ⟨⟨_, _, _, Try.typeInfo52, rfl, rfl, rfl, rfl, fun _ _ _ => by exact (.nil .nl)⟩, Try.isAgg52, (fun _ => rfl), rfl, Try.underlying52, (fun h => by cases h)⟩
theorem good60 : ∀ d, tab 60 = some d → Good Try.prog tab 60 d := fun d h => by
  cases h
  exact ⟨⟨_, _, _, Try.typeInfo60, rfl, rfl, rfl, rfl, fun _ _ _ => by exact (.nil .nl)⟩, Try.isAgg60, (fun h => by cases h), rfl, ⟨_, Try.underlying60, rfl, rfl⟩, (fun h => by cases h)⟩
theorem good73 : ∀ d, tab 73 = some d → Good Try.prog tab 73 d := fun d h => by
  cases h
  exact ⟨⟨_, _, _, Try.typeInfo73, rfl, rfl, rfl, rfl, fun _ _ _ => by exact (.nil .nl)⟩, Try.isAgg73, (fun _ => rfl), rfl, Try.underlying73, (fun h => by cases h)⟩
theorem good76 : ∀ d, tab 76 = some d → Good Try.prog tab 76 d := fun d h => by
  cases h
  exact ⟨⟨_, _, _, Try.typeInfo76, rfl, rfl, rfl, rfl, fun _ _ _ => by exact (.int (.int (.int .nl)))⟩, Try.isAgg76, (fun h => by cases h), rfl, Try.underlying76, (fun h => by cases h)⟩
theorem good77 : ∀ d, tab 77 = some d → Good Try.prog tab 77 d := fun d h => by
  cases h
  exact ⟨⟨_, _, _, Try.typeInfo77, rfl, rfl, rfl, rfl, fun _ _ _ => by exact (.nil .nl)⟩, Try.isAgg77, (fun _ => rfl), rfl, Try.underlying77, (fun h => by cases h)⟩
theorem good81 : ∀ d, tab 81 = some d → Good Try.prog tab 81 d := fun d h => by
  cases h
  exact ⟨⟨_, _, _, Try.typeInfo81, rfl, rfl, rfl, rfl, fun _ _ _ => by exact (.str (Nat.zero_le _) (.int (.int (.int .nl))))⟩, Try.isAgg81, (fun h => by cases h), rfl, ⟨_, Try.underlying81, rfl, rfl⟩, (fun _ => ⟨by kernel_rfl, by exact (CmpAt.struct (by kernel_rfl) (by kernel_rfl) (by rw [fieldsL Try.underlying81]; exact ⟨false, [.str []], _, rfl, by decide, rfl, Try.isAgg9, sizeOf_of Try.typeInfo9 rfl, by decide, (CmpAt.str Try.underlying9), ⟨false, [.int .i64 0], _, rfl, by decide, rfl, Try.isAgg3, sizeOf_of Try.typeInfo3 rfl, by decide, (CmpAt.int Try.underlying3), ⟨false, [.int .i64 0], _, rfl, by decide, rfl, Try.isAgg3, sizeOf_of Try.typeInfo3 rfl, by decide, (CmpAt.int Try.underlying3), ⟨false, [.int .i64 0], _, rfl, by decide, rfl, Try.isAgg3, sizeOf_of Try.typeInfo3 rfl, by decide, (CmpAt.int Try.underlying3), rfl⟩⟩⟩⟩))⟩)⟩
theorem good88 : ∀ d, tab 88 = some d → Good Try.prog tab 88 d := fun d h => by
  cases h
  exact ⟨⟨_, _, _, Try.typeInfo88, rfl, rfl, rfl, rfl, fun _ _ _ => by exact (.nil .nl)⟩, Try.isAgg88, (fun h => by cases h), rfl, ⟨_, Try.underlying88, rfl, rfl⟩, (fun h => by cases h)⟩
theorem good92 : ∀ d, tab 92 = some d → Good Try.prog tab 92 d := fun d h => by
  cases h
  exact ⟨⟨_, _, _, Try.typeInfo92, rfl, rfl, rfl, rfl, fun _ _ _ => by exact .nl⟩, Try.isAgg92, (fun h => by cases h), rfl, ⟨_, Try.underlying92, rfl, rfl⟩, (fun _ => ⟨by kernel_rfl, by exact (CmpAt.struct (by kernel_rfl) (by kernel_rfl) (by rw [fieldsL Try.underlying92]; exact rfl))⟩)⟩
theorem good95 : ∀ d, tab 95 = some d → Good Try.prog tab 95 d := fun d h => by
  cases h
  exact ⟨⟨_, _, _, Try.typeInfo95, rfl, rfl, rfl, rfl, fun _ _ _ => by exact (.nil .nl)⟩, Try.isAgg95, (fun h => by cases h), rfl, ⟨_, Try.underlying95, rfl, rfl⟩, (fun h => by cases h)⟩
theorem good99 : ∀ d, tab 99 = some d → Good Try.prog tab 99 d := fun d h => by
  cases h
  exact ⟨⟨_, _, _, Try.typeInfo99, rfl, rfl, rfl, rfl, fun _ _ _ => by exact (.nil .nl)⟩, Try.isAgg99, (fun h => by cases h), rfl, ⟨_, Try.underlying99, rfl, rfl⟩, (fun h => by cases h)⟩
theorem good100 : ∀ d, tab 100 = some d → Good Try.prog tab 100 d := fun d h => by
  cases h
  exact ⟨⟨_, _, _, Try.typeInfo100, rfl, rfl, rfl, rfl, fun _ _ _ => by exact (.nil .nl)⟩, Try.isAgg100, (fun _ => rfl), rfl, Try.underlying100, (fun h => by cases h)⟩
theorem good106 : ∀ d, tab 106 = some d → Good Try.prog tab 106 d := fun d h => by
  cases h
  exact ⟨⟨_, _, _, Try.typeInfo106, rfl, rfl, rfl, rfl, fun _ _ _ => by exact (.nil (.bool .nl))⟩, Try.isAgg106, (fun h => by cases h), rfl, ⟨_, Try.underlying106, rfl, rfl⟩, (fun h => by cases h)⟩

theorem tabOk : TabOk Try.prog tab := tabOk_of ⟨good3 _ rfl, good4 _ rfl, good5 _ rfl, good9 _ rfl, good20 _ rfl, good22 _ rfl, good23 _ rfl, good26 _ rfl, good28 _ rfl, good31 _ rfl, good32 _ rfl, good41 _ rfl, good42 _ rfl, good44 _ rfl, good52 _ rfl, good60 _ rfl, good73 _ rfl, good76 _ rfl, good77 _ rfl, good81 _ rfl, good88 _ rfl, good92 _ rfl, good95 _ rfl, good99 _ rfl, good100 _ rfl, good106 _ rfl, trivial⟩

end Go.Proofs.Ytkkjjbejkcgmfaa
