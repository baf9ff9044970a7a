/- THE TABLE of types, and that it is right. -/
import Derived.Test.YtkoiljgjipmhbaaDoorAmT
import Derived.Test.YtkoiljgjipmhbaaDoorProg
import Derived.KernelRfl
section
namespace Go.Proofs.YtkoiljgjipmhbaaDoor
open Go Go.AM Go.Nest
set_option linter.unusedVariables false

def tabL : List (Nat × TD) := [
  (3, ⟨1, false, 8, (.int .i64), [.int .i64 0], false, Int, encI⟩),
  (4, ⟨1, false, 1, .bool, [.bool false], false, Bool, encBo⟩),
  (5, ⟨1, false, 1, (.int .u8), [.int .u8 0], false, UInt8, bytesC⟩),
  (9, ⟨1, false, 16, .str, [.str []], false, (List UInt8), encS⟩),
  (21, ⟨1, false, 4, (.int .i32), [.int .i32 0], false, Unit, (fun _ => [])⟩),
  (22, ⟨1, false, 24, (.sl 26), [.nil], false, (List Fi), (encL 4 encFi)⟩),
  (26, ⟨4, true, 40, (.struct [(9, 0), (3, 1), (3, 2), (3, 3)]), [.str [], .int .i64 0, .int .i64 0, .int .i64 0], true, Fi, encFi⟩),
  (27, ⟨1, false, 24, (.sl 31), [.nil], false, (List Ch), (encL 9 encCh)⟩),
  (31, ⟨9, true, 96, (.struct [(9, 0), (26, 1), (26, 5)]), [.str [], .str [], .int .i64 0, .int .i64 0, .int .i64 0, .str [], .int .i64 0, .int .i64 0, .int .i64 0], true, Ch, encCh⟩),
  (34, ⟨1, false, 24, (.sl 56), [.nil], false, (List Ob), (encL 6 encOb)⟩),
  (37, ⟨1, false, 8, .ptr, [.raw (.pointer none)], false, Unit, (fun _ => [])⟩),
  (45, ⟨1, false, 24, (.sl 9), [.nil], false, (List (List UInt8)), (encL 1 encS)⟩),
  (51, ⟨1, false, 24, (.sl 3), [.nil], false, (List Int), (encL 1 encI)⟩),
  (53, ⟨1, false, 24, (.sl 5), [.nil], false, (List UInt8), (encL 1 bytesC)⟩),
  (54, ⟨1, false, 24, (.sl 73), [.nil], false, (List Ent), (encL 4 encEn)⟩),
  (56, ⟨6, true, 104, (.struct [(3, 0), (53, 1), (54, 2), (3, 3), (51, 4), (9, 5)]), [.int .i64 0, .nil, .nil, .int .i64 0, .nil, .str []], false, Ob, encOb⟩),
  (65, ⟨1, false, 24, (.sl 22), [.nil], false, (List (List Fi)), (encL 1 (encL 4 encFi))⟩),
  (70, ⟨1, true, 24, (.struct [(34, 0)]), [.nil], false, Unit, (fun _ => [])⟩),
  (73, ⟨4, true, 40, (.struct [(9, 0), (3, 1), (3, 2), (3, 3)]), [.str [], .int .i64 0, .int .i64 0, .int .i64 0], true, Ent, encEn⟩),
  (79, ⟨1, false, 24, (.sl 4), [.nil], false, (List Bool), (encL 1 encBo)⟩),
  (81, ⟨1, true, 24, (.struct [(34, 0)]), [.nil], false, Unit, (fun _ => [])⟩),
  (108, ⟨1, false, 8, .ptr, [.raw (.pointer none)], false, Unit, (fun _ => [])⟩),
  (110, ⟨2, true, 32, (.struct [(108, 0), (53, 1)]), [.raw (.pointer none), .nil], false, Unit, (fun _ => [])⟩),
  (121, ⟨1, false, 8, .ptr, [.raw (.pointer none)], false, Unit, (fun _ => [])⟩),
  (122, ⟨1, false, 4, (.int .u32), [.int .u32 0], false, Unit, (fun _ => [])⟩),
  (125, ⟨1, false, 8, .other, [.raw (.pointer none)], false, Unit, (fun _ => [])⟩),
  (130, ⟨2, true, 2, (.struct [(5, 0), (5, 1)]), [.int .u8 0, .int .u8 0], false, Unit, (fun _ => [])⟩),
  (131, ⟨32, true, 32, (.arr 16 130), [.int .u8 0, .int .u8 0, .int .u8 0, .int .u8 0, .int .u8 0, .int .u8 0, .int .u8 0, .int .u8 0, .int .u8 0, .int .u8 0, .int .u8 0, .int .u8 0, .int .u8 0, .int .u8 0, .int .u8 0, .int .u8 0, .int .u8 0, .int .u8 0, .int .u8 0, .int .u8 0, .int .u8 0, .int .u8 0, .int .u8 0, .int .u8 0, .int .u8 0, .int .u8 0, .int .u8 0, .int .u8 0, .int .u8 0, .int .u8 0, .int .u8 0, .int .u8 0], false, Unit, (fun _ => [])⟩)]
def tab : Nat → Option TD := lkT tabL

theorem good3 : ∀ d, tab 3 = some d → Good Tryd.prog tab 3 d := fun d h => by
  cases h
  exact ⟨⟨_, _, _, Tryd.typeInfo3, rfl, rfl, rfl, rfl, fun _ _ _ => by exact (.int .nl)⟩, Tryd.isAgg3, (fun _ => rfl), rfl, Tryd.underlying3, (fun h => by cases h)⟩
theorem good4 : ∀ d, tab 4 = some d → Good Tryd.prog tab 4 d := fun d h => by
  cases h
  exact ⟨⟨_, _, _, Tryd.typeInfo4, rfl, rfl, rfl, rfl, fun _ _ _ => by exact (.bool .nl)⟩, Tryd.isAgg4, (fun _ => rfl), rfl, Tryd.underlying4, (fun h => by cases h)⟩
theorem good5 : ∀ d, tab 5 = some d → Good Tryd.prog tab 5 d := fun d h => by
  cases h
  exact ⟨⟨_, _, _, Tryd.typeInfo5, rfl, rfl, rfl, rfl, fun _ _ _ => by exact (.int .nl)⟩, Tryd.isAgg5, (fun _ => rfl), rfl, Tryd.underlying5, (fun h => by cases h)⟩
theorem good9 : ∀ d, tab 9 = some d → Good Tryd.prog tab 9 d := fun d h => by
  cases h
  exact ⟨⟨_, _, _, Tryd.typeInfo9, rfl, rfl, rfl, rfl, fun _ _ _ => by exact (.str (Nat.zero_le _) .nl)⟩, Tryd.isAgg9, (fun _ => rfl), rfl, Tryd.underlying9, (fun h => by cases h)⟩
theorem good21 : ∀ d, tab 21 = some d → Good Tryd.prog tab 21 d := fun d h => by
  cases h
  exact ⟨⟨_, _, _, Tryd.typeInfo21, rfl, rfl, rfl, rfl, fun _ _ _ => by exact (.int .nl)⟩, Tryd.isAgg21, (fun _ => rfl), rfl, Tryd.underlying21, (fun h => by cases h)⟩
theorem good22 : ∀ d, tab 22 = some d → Good Tryd.prog tab 22 d := fun d h => by
  cases h
  exact ⟨⟨_, _, _, Tryd.typeInfo22, rfl, rfl, rfl, rfl, fun _ _ _ => by exact (.nil .nl)⟩, Tryd.isAgg22, (fun _ => rfl), rfl, Tryd.underlying22, (fun h => by cases h)⟩
theorem good26 : ∀ d, tab 26 = some d → Good Tryd.prog tab 26 d := fun d h => by
  cases h
  exact ⟨⟨_, _, _, Tryd.typeInfo26, rfl, rfl, rfl, rfl, fun _ _ _ => by exact (.str (Nat.zero_le _) (.int (.int (.int .nl))))⟩, Tryd.isAgg26, (fun h => by cases h), rfl, ⟨_, Tryd.underlying26, rfl, rfl⟩, (fun _ => ⟨by kernel_rfl, by exact (CmpAt.struct (by kernel_rfl) (by kernel_rfl) (by rw [fieldsL Tryd.underlying26]; exact ⟨false, [.str []], _, rfl, by decide, rfl, Tryd.isAgg9, sizeOf_of Tryd.typeInfo9 rfl, by decide, (CmpAt.str Tryd.underlying9), ⟨false, [.int .i64 0], _, rfl, by decide, rfl, Tryd.isAgg3, sizeOf_of Tryd.typeInfo3 rfl, by decide, (CmpAt.int Tryd.underlying3), ⟨false, [.int .i64 0], _, rfl, by decide, rfl, Tryd.isAgg3, sizeOf_of Tryd.typeInfo3 rfl, by decide, (CmpAt.int Tryd.underlying3), ⟨false, [.int .i64 0], _, rfl, by decide, rfl, Tryd.isAgg3, sizeOf_of Tryd.typeInfo3 rfl, by decide, (CmpAt.int Tryd.underlying3), rfl⟩⟩⟩⟩))⟩)⟩
theorem good27 : ∀ d, tab 27 = some d → Good Tryd.prog tab 27 d := fun d h => by
  cases h
  exact ⟨⟨_, _, _, Tryd.typeInfo27, rfl, rfl, rfl, rfl, fun _ _ _ => by exact (.nil .nl)⟩, Tryd.isAgg27, (fun _ => rfl), rfl, Tryd.underlying27, (fun h => by cases h)⟩
theorem good31 : ∀ d, tab 31 = some d → Good Tryd.prog tab 31 d := fun d h => by
  cases h
  exact ⟨⟨_, _, _, Tryd.typeInfo31, rfl, rfl, rfl, rfl, fun _ _ _ => by exact (.str (Nat.zero_le _) (.str (Nat.zero_le _) (.int (.int (.int (.str (Nat.zero_le _) (.int (.int (.int .nl)))))))))⟩, Tryd.isAgg31, (fun h => by cases h), rfl, ⟨_, Tryd.underlying31, rfl, rfl⟩, (fun _ => ⟨by kernel_rfl, by exact (CmpAt.struct (by kernel_rfl) (by kernel_rfl) (by rw [fieldsL Tryd.underlying31]; exact ⟨false, [.str []], _, rfl, by decide, rfl, Tryd.isAgg9, sizeOf_of Tryd.typeInfo9 rfl, by decide, (CmpAt.str Tryd.underlying9), ⟨true, [.str [], .int .i64 0, .int .i64 0, .int .i64 0], _, rfl, by decide, rfl, Tryd.isAgg26, sizeOf_of Tryd.typeInfo26 rfl, by decide, (CmpAt.struct (by kernel_rfl) (by kernel_rfl) (by rw [fieldsL Tryd.underlying26]; exact ⟨false, [.str []], _, rfl, by decide, rfl, Tryd.isAgg9, sizeOf_of Tryd.typeInfo9 rfl, by decide, (CmpAt.str Tryd.underlying9), ⟨false, [.int .i64 0], _, rfl, by decide, rfl, Tryd.isAgg3, sizeOf_of Tryd.typeInfo3 rfl, by decide, (CmpAt.int Tryd.underlying3), ⟨false, [.int .i64 0], _, rfl, by decide, rfl, Tryd.isAgg3, sizeOf_of Tryd.typeInfo3 rfl, by decide, (CmpAt.int Tryd.underlying3), ⟨false, [.int .i64 0], _, rfl, by decide, rfl, Tryd.isAgg3, sizeOf_of Tryd.typeInfo3 rfl, by decide, (CmpAt.int Tryd.underlying3), rfl⟩⟩⟩⟩)), ⟨true, [.str [], .int .i64 0, .int .i64 0, .int .i64 0], _, rfl, by decide, rfl, Tryd.isAgg26, sizeOf_of Tryd.typeInfo26 rfl, by decide, (CmpAt.struct (by kernel_rfl) (by kernel_rfl) (by rw [fieldsL Tryd.underlying26]; exact ⟨false, [.str []], _, rfl, by decide, rfl, Tryd.isAgg9, sizeOf_of Tryd.typeInfo9 rfl, by decide, (CmpAt.str Tryd.underlying9), ⟨false, [.int .i64 0], _, rfl, by decide, rfl, Tryd.isAgg3, sizeOf_of Tryd.typeInfo3 rfl, by decide, (CmpAt.int Tryd.underlying3), ⟨false, [.int .i64 0], _, rfl, by decide, rfl, Tryd.isAgg3, sizeOf_of Tryd.typeInfo3 rfl, by decide, (CmpAt.int Tryd.underlying3), ⟨false, [.int .i64 0], _, rfl, by decide, rfl, Tryd.isAgg3, sizeOf_of Tryd.typeInfo3 rfl, by decide, (CmpAt.int Tryd.underlying3), rfl⟩⟩⟩⟩)), rfl⟩⟩⟩))⟩)⟩
theorem good34 : ∀ d, tab 34 = some d → Good Tryd.prog tab 34 d := fun d h => by
  cases h
  exact ⟨⟨_, _, _, Tryd.typeInfo34, rfl, rfl, rfl, rfl, fun _ _ _ => by exact (.nil .nl)⟩, Tryd.isAgg34, (fun _ => rfl), rfl, Tryd.underlying34, (fun h => by cases h)⟩
theorem good37 : ∀ d, tab 37 = some d → Good Tryd.prog tab 37 d := fun d h => by
  cases h
  exact ⟨⟨_, _, _, Tryd.typeInfo37, rfl, rfl, rfl, rfl, fun _ _ _ => by exact (.raw rfl .nl)⟩, Tryd.isAgg37, (fun _ => rfl), rfl, ⟨_, Tryd.underlying37⟩, (fun h => by cases h)⟩
theorem good45 : ∀ d, tab 45 = some d → Good Tryd.prog tab 45 d := fun d h => by
  cases h
  exact ⟨⟨_, _, _, Tryd.typeInfo45, rfl, rfl, rfl, rfl, fun _ _ _ => by exact (.nil .nl)⟩, Tryd.isAgg45, (fun _ => rfl), rfl, Tryd.underlying45, (fun h => by cases h)⟩
theorem good51 : ∀ d, tab 51 = some d → Good Tryd.prog tab 51 d := fun d h => by
  cases h
  exact ⟨⟨_, _, _, Tryd.typeInfo51, rfl, rfl, rfl, rfl, fun _ _ _ => by exact (.nil .nl)⟩, Tryd.isAgg51, (fun _ => rfl), rfl, Tryd.underlying51, (fun h => by cases h)⟩
theorem good53 : ∀ d, tab 53 = some d → Good Tryd.prog tab 53 d := fun d h => by
  cases h
  exact ⟨⟨_, _, _, Tryd.typeInfo53, rfl, rfl, rfl, rfl, fun _ _ _ => by exact (.nil .nl)⟩, Tryd.isAgg53, (fun _ => rfl), rfl, Tryd.underlying53, (fun h => by cases h)⟩
theorem good54 : ∀ d, tab 54 = some d → Good Tryd.prog tab 54 d := fun d h => by
  cases h
  exact ⟨⟨_, _, _, Tryd.typeInfo54, rfl, rfl, rfl, rfl, fun _ _ _ => by exact (.nil .nl)⟩, Tryd.isAgg54, (fun _ => rfl), rfl, Tryd.underlying54, (fun h => by cases h)⟩
theorem good56 : ∀ d, tab 56 = some d → Good Tryd.prog tab 56 d := fun d h => by
  cases h
  exact ⟨⟨_, _, _, Tryd.typeInfo56, rfl, rfl, rfl, rfl, fun _ _ _ => by exact (.int (.nil (.nil (.int (.nil (.str (Nat.zero_le _) .nl))))))⟩, Tryd.isAgg56, (fun h => by cases h), rfl, ⟨_, Tryd.underlying56, rfl, rfl⟩, (fun h => by cases h)⟩
theorem good65 : ∀ d, tab 65 = some d → Good Tryd.prog tab 65 d := fun d h => by
  cases h
  exact ⟨⟨_, _, _, Tryd.typeInfo65, rfl, rfl, rfl, rfl, fun _ _ _ => by exact (.nil .nl)⟩, Tryd.isAgg65, (fun _ => rfl), rfl, Tryd.underlying65, (fun h => by cases h)⟩
theorem good70 : ∀ d, tab 70 = some d → Good Tryd.prog tab 70 d := fun d h => by
  cases h
  exact ⟨⟨_, _, _, Tryd.typeInfo70, rfl, rfl, rfl, rfl, fun _ _ _ => by exact (.nil .nl)⟩, Tryd.isAgg70, (fun h => by cases h), rfl, ⟨_, Tryd.underlying70, rfl, rfl⟩, (fun h => by cases h)⟩
theorem good73 : ∀ d, tab 73 = some d → Good Tryd.prog tab 73 d := fun d h => by
  cases h
  exact ⟨⟨_, _, _, Tryd.typeInfo73, rfl, rfl, rfl, rfl, fun _ _ _ => by exact (.str (Nat.zero_le _) (.int (.int (.int .nl))))⟩, Tryd.isAgg73, (fun h => by cases h), rfl, ⟨_, Tryd.underlying73, rfl, rfl⟩, (fun _ => ⟨by kernel_rfl, by exact (CmpAt.struct (by kernel_rfl) (by kernel_rfl) (by rw [fieldsL Tryd.underlying73]; exact ⟨false, [.str []], _, rfl, by decide, rfl, Tryd.isAgg9, sizeOf_of Tryd.typeInfo9 rfl, by decide, (CmpAt.str Tryd.underlying9), ⟨false, [.int .i64 0], _, rfl, by decide, rfl, Tryd.isAgg3, sizeOf_of Tryd.typeInfo3 rfl, by decide, (CmpAt.int Tryd.underlying3), ⟨false, [.int .i64 0], _, rfl, by decide, rfl, Tryd.isAgg3, sizeOf_of Tryd.typeInfo3 rfl, by decide, (CmpAt.int Tryd.underlying3), ⟨false, [.int .i64 0], _, rfl, by decide, rfl, Tryd.isAgg3, sizeOf_of Tryd.typeInfo3 rfl, by decide, (CmpAt.int Tryd.underlying3), rfl⟩⟩⟩⟩))⟩)⟩
theorem good79 : ∀ d, tab 79 = some d → Good Tryd.prog tab 79 d := fun d h => by
  cases h
  exact ⟨⟨_, _, _, Tryd.typeInfo79, rfl, rfl, rfl, rfl, fun _ _ _ => by exact (.nil .nl)⟩, Tryd.isAgg79, (fun _ => rfl), rfl, Tryd.underlying79, (fun h => by cases h)⟩
theorem good81 : ∀ d, tab 81 = some d → Good Tryd.prog tab 81 d := fun d h => by
  cases h
  exact ⟨⟨_, _, _, Tryd.typeInfo81, rfl, rfl, rfl, rfl, fun _ _ _ => by exact (.nil .nl)⟩, Tryd.isAgg81, (fun h => by cases h), rfl, ⟨_, Tryd.underlying81, rfl, rfl⟩, (fun h => by cases h)⟩
theorem good108 : ∀ d, tab 108 = some d → Good Tryd.prog tab 108 d := fun d h => by
  cases h
  exact ⟨⟨_, _, _, Tryd.typeInfo108, rfl, rfl, rfl, rfl, fun _ _ _ => by exact (.raw rfl .nl)⟩, Tryd.isAgg108, (fun _ => rfl), rfl, ⟨_, Tryd.underlying108⟩, (fun h => by cases h)⟩
theorem good110 : ∀ d, tab 110 = some d → Good Tryd.prog tab 110 d := fun d h => by
  cases h
  exact ⟨⟨_, _, _, Tryd.typeInfo110, rfl, rfl, rfl, rfl, fun _ _ _ => by exact (.raw rfl (.nil .nl))⟩, Tryd.isAgg110, (fun h => by cases h), rfl, ⟨_, Tryd.underlying110, rfl, rfl⟩, (fun h => by cases h)⟩
theorem good121 : ∀ d, tab 121 = some d → Good Tryd.prog tab 121 d := fun d h => by
  cases h
  exact ⟨⟨_, _, _, Tryd.typeInfo121, rfl, rfl, rfl, rfl, fun _ _ _ => by exact (.raw rfl .nl)⟩, Tryd.isAgg121, (fun _ => rfl), rfl, ⟨_, Tryd.underlying121⟩, (fun h => by cases h)⟩
theorem good122 : ∀ d, tab 122 = some d → Good Tryd.prog tab 122 d := fun d h => by
  cases h
  exact ⟨⟨_, _, _, Tryd.typeInfo122, rfl, rfl, rfl, rfl, fun _ _ _ => by exact (.int .nl)⟩, Tryd.isAgg122, (fun _ => rfl), rfl, Tryd.underlying122, (fun h => by cases h)⟩
theorem good125 : ∀ d, tab 125 = some d → Good Tryd.prog tab 125 d := fun d h => by
  cases h
  exact ⟨⟨_, _, _, Tryd.typeInfo125, rfl, rfl, rfl, rfl, fun _ _ _ => by exact (.raw rfl .nl)⟩, Tryd.isAgg125, (fun _ => rfl), rfl, trivial, (fun h => by cases h)⟩
theorem good130 : ∀ d, tab 130 = some d → Good Tryd.prog tab 130 d := fun d h => by
  cases h
  exact ⟨⟨_, _, _, Tryd.typeInfo130, rfl, rfl, rfl, rfl, fun _ _ _ => by exact (.int (.int .nl))⟩, Tryd.isAgg130, (fun h => by cases h), rfl, ⟨_, Tryd.underlying130, rfl, rfl⟩, (fun h => by cases h)⟩
theorem good131 : ∀ d, tab 131 = some d → Good Tryd.prog tab 131 d := fun d h => by
  cases h
  exact ⟨⟨_, _, _, Tryd.typeInfo131, rfl, rfl, rfl, rfl, fun _ _ _ => by exact (.int (.int (.int (.int (.int (.int (.int (.int (.int (.int (.int (.int (.int (.int (.int (.int (.int (.int (.int (.int (.int (.int (.int (.int (.int (.int (.int (.int (.int (.int (.int (.int .nl))))))))))))))))))))))))))))))))⟩, Tryd.isAgg131, (fun h => by cases h), rfl, Tryd.underlying131, (fun h => by cases h)⟩

theorem tabOk : TabOk Tryd.prog tab := tabOk_of ⟨good3 _ rfl, good4 _ rfl, good5 _ rfl, good9 _ rfl, good21 _ rfl, good22 _ rfl, good26 _ rfl, good27 _ rfl, good31 _ rfl, good34 _ rfl, good37 _ rfl, good45 _ rfl, good51 _ rfl, good53 _ rfl, good54 _ rfl, good56 _ rfl, good65 _ rfl, good70 _ rfl, good73 _ rfl, good79 _ rfl, good81 _ rfl, good108 _ rfl, good110 _ rfl, good121 _ rfl, good122 _ rfl, good125 _ rfl, good130 _ rfl, good131 _ rfl, trivial⟩

end Go.Proofs.YtkoiljgjipmhbaaDoor
end
/- WALKS, 1: names, texts, numbers in lists. -/
section
namespace Go.Nest
open Go Go.AM Go.Proofs
open Go.Proofs.YtkoiljgjipmhbaaDoor (tab tabOk)
set_option linter.unusedVariables false
set_option linter.unusedSimpArgs false
set_option maxRecDepth 4000

def odd (c : UInt8) : Bool := decide (c.toNat ≤ 32) || decide (c.toNat = 47) || decide (127 ≤ c.toNat)
def nameC (l : List UInt8) : Int := if l = [] ∨ l = [46] ∨ l = [46, 46] ∨ l.any odd then 2 else if 20 < l.length then 4 else 0
def shown (c : UInt8) : Bool := decide (32 ≤ c.toNat) && decide (c.toNat < 127)

theorem any_take {α : Type} {p : α → Bool} {l : List α} {i : Nat} (h : i < l.length) (h1 : (l.take i).any p = false) (h2 : p l[i] = false) : (l.take (i + 1)).any p = false := by
  rw [List.take_succ_eq_append_getElem h, List.any_append, h1]; simp [h2]
theorem any_at {α : Type} {p : α → Bool} {l : List α} {i : Nat} (h : i < l.length) (h2 : p l[i] = true) : l.any p = true :=
  List.any_eq_true.2 ⟨_, List.getElem_mem h, h2⟩

theorem name_spec (l : List UInt8) : Does Tryd.prog 55 [.c (.str l)] [] (Rt (.c (.int .i64 (nameC l))) []) := by
  refine X_spec ⟨Tryd.prog, tab, 39, 0⟩ tabOk (by kernel_rfl) Tryd.call55 Tryd.func55 rfl rfl (by kernel_rfl) rfl ?_
  intro hb; have hb : l.length ≤ 9223372036854775807 := hb.1.1
  have bad : ∀ {i : Nat} (h : i < l.length), odd l[i] = true → (2 : Int) = nameC l := fun h h2 => by
    unfold nameC; rw [if_pos (.inr (.inr (.inr (any_at h h2))))]
  (conv => whnf)
  refine dec (fun (h : l = []) => ?_) (fun (h : ¬ l = []) => ?_)
  · (conv => whnf); refine rtC ?_ rfl
    simp [nameC, h]
  (conv => whnf)
  refine dec (fun (h2 : l = [46]) => ?_) (fun (h2 : ¬ l = [46]) => ?_)
  · (conv => whnf); refine rtC ?_ rfl
    simp [nameC, h2]
  (conv => whnf)
  refine dec (fun (h3 : l = [46, 46]) => ?_) (fun (h3 : ¬ l = [46, 46]) => ?_)
  · (conv => whnf); refine rtC ?_ rfl
    simp [nameC, h3]
  (conv => whnf)
  refine lp Nat (fun i => ⟨[(0, .c (.str l)), (15, .c (.int .i64 l.length)), (16, .c (.int .i64 i))], []⟩) (fun i => i ≤ l.length ∧ (l.take i).any odd = false) (fun i => l.length - i) 0 [] [] ?_ ?_ (fun i hi => ?_)
  · simp
  · repeat' first | exact trivial | exact rfl | refine And.intro ?_ ?_
  (conv => whnf)
  refine dec (fun h4 => ?_) (fun h4 => ?_)
  · have hlt : i < l.length := by omega
    (conv => whnf); refine ⟨i, l[i], rfl, List.getElem?_eq_getElem hlt, ?_⟩
    (conv => whnf); refine dec (fun h5 => ?_) (fun h5 => ?_)
    · (conv => whnf); refine rtC ?_ rfl
      rw [← bad hlt (by simp [odd]; omega)]
    (conv => whnf); refine ⟨i, l[i], rfl, List.getElem?_eq_getElem hlt, ?_⟩
    (conv => whnf); refine dec (fun h6 => ?_) (fun h6 => ?_)
    · (conv => whnf); refine rtC ?_ rfl
      rw [← bad hlt (by simp [odd]; omega)]
    (conv => whnf); refine ⟨i, l[i], rfl, List.getElem?_eq_getElem hlt, ?_⟩
    (conv => whnf); refine dec (fun h7 => ?_) (fun h7 => ?_)
    · (conv => whnf); refine rtC ?_ rfl
      rw [← bad hlt (by simp [odd]; omega)]
    (conv => whnf); refine ⟨i64 (by omega) (by omega), ?_⟩
    (conv => whnf); refine ag (i + 1) [] [] ⟨hlt, any_take hlt hi.2 (by simp [odd]; omega)⟩ (by simp only []; omega) ?_
    repeat' first | exact trivial | exact rfl | refine And.intro ?_ ?_
  · obtain rfl : i = l.length := by omega
    have ha : l.any odd = false := by simpa using hi.2
    (conv => whnf); refine dec (fun h5 => ?_) (fun h5 => ?_)
    · (conv => whnf); refine rtC ?_ rfl
      unfold nameC; rw [if_neg (by simp [h, h2, h3, ha]), if_pos (by omega)]
    · (conv => whnf); refine rtC ?_ rfl
      unfold nameC; rw [if_neg (by simp [h, h2, h3, ha]), if_neg (by omega)]
end Go.Nest
end
/- WALKS, 1b: names, by the document; texts that may be said. -/
section
namespace Go.Nest
open Go Go.AM Go.Proofs
open Go.Proofs.YtkoiljgjipmhbaaDoor (tab tabOk)
set_option linter.unusedVariables false
set_option linter.unusedSimpArgs false
set_option maxRecDepth 4000

theorem nameF_spec (l : List UInt8) : Does Tryd.prog 37 [.c (.str l)] [] (Rt (.c (.int .i64 (nameC l))) []) := by
  refine X_spec ⟨Tryd.prog, tab, 39, 0⟩ tabOk (by kernel_rfl) Tryd.call37 Tryd.func37 rfl rfl (by kernel_rfl) rfl ?_
  intro hb; have hb : l.length ≤ 9223372036854775807 := hb.1.1
  have bad : ∀ {i : Nat} (h : i < l.length), odd l[i] = true → (2 : Int) = nameC l := fun h h2 => by
    unfold nameC; rw [if_pos (.inr (.inr (.inr (any_at h h2))))]
  (conv => whnf)
  refine dec (fun (h0 : l = []) => ?_) (fun (h0 : ¬ l = []) => ?_)
  · (conv => whnf); refine rtC ?_ rfl; simp [nameC, h0]
  (conv => whnf)
  refine dec (fun (h2 : l = [46]) => ?_) (fun (h2 : ¬ l = [46]) => ?_)
  · (conv => whnf); refine rtC ?_ rfl; simp [nameC, h2]
  (conv => whnf)
  refine dec (fun (h3 : l = [46, 46]) => ?_) (fun (h3 : ¬ l = [46, 46]) => ?_)
  · (conv => whnf); refine rtC ?_ rfl; simp [nameC, h3]
  (conv => whnf)
  refine lp Nat (fun i => ⟨[(0, .c (.str l)), (3, .c (.int .i64 i))], []⟩) (fun i => i ≤ l.length ∧ (l.take i).any odd = false) (fun i => l.length - i) 0 [] [] ?_ ?_ (fun i hi => ?_)
  · simp
  · repeat' first | exact trivial | exact rfl | refine And.intro ?_ ?_
  (conv => whnf)
  refine dec (fun h4 => ?_) (fun h4 => ?_)
  · have hlt : i < l.length := by omega
    repeat' ((conv => whnf); first | (refine dec (fun h => ?_) (fun h => ?_) <;> try contradiction) | (refine decN (fun h => ?_) (fun h => ?_) <;> try contradiction) | refine booN (fun h => ?_) (fun h => ?_) | refine boo (fun h => ?_) (fun h => ?_) | refine ⟨i64 (by omega) (by omega), ?_⟩ | refine ⟨_, _, rfl, List.getElem?_eq_getElem (by omega), ?_⟩ | refine ⟨_, ⟨rfl, by omega⟩, ?_⟩ | refine ⟨_, List.getElem?_eq_getElem (by omega), ?_⟩ | refine rtB ?_ | refine rtI ?_ | refine rtC ?_ rfl | fail)
    · rw [← bad hlt (by simp [odd]; omega)]
    · rw [← bad hlt (by simp [odd]; omega)]
    · rw [← bad hlt (by simp [odd]; omega)]
    · refine ag (i + 1) [] [] ⟨hlt, any_take hlt hi.2 (by simp [odd]; omega)⟩ (by simp only []; omega) ?_
      repeat' first | exact trivial | exact rfl | refine And.intro ?_ ?_
  · obtain rfl : i = l.length := by omega
    have ha : l.any odd = false := by simpa using hi.2
    repeat' ((conv => whnf); first | (refine dec (fun h => ?_) (fun h => ?_) <;> try contradiction) | (refine decN (fun h => ?_) (fun h => ?_) <;> try contradiction) | refine booN (fun h => ?_) (fun h => ?_) | refine boo (fun h => ?_) (fun h => ?_) | refine ⟨i64 (by omega) (by omega), ?_⟩ | refine ⟨_, _, rfl, List.getElem?_eq_getElem (by omega), ?_⟩ | refine ⟨_, ⟨rfl, by omega⟩, ?_⟩ | refine ⟨_, List.getElem?_eq_getElem (by omega), ?_⟩ | refine rtB ?_ | refine rtI ?_ | refine rtC ?_ rfl | fail)
    · unfold nameC; rw [if_neg (by simp [h0, h2, h3, ha]), if_pos (by omega)]
    · unfold nameC; rw [if_neg (by simp [h0, h2, h3, ha]), if_neg (by omega)]

theorem visible_spec (l : List UInt8) : Does Tryd.prog 62 [.c (.str l)] [] (Rt (.c (.bool (l.all shown))) []) := by
  refine X_spec ⟨Tryd.prog, tab, 20, 0⟩ tabOk (by kernel_rfl) Tryd.call62 Tryd.func62 rfl rfl (by kernel_rfl) rfl ?_
  intro hb; have hb : l.length ≤ 9223372036854775807 := hb.1.1
  (conv => whnf)
  refine lp Nat (fun i => ⟨[(0, .c (.str l)), (5, .c (.int .i64 l.length)), (6, .c (.int .i64 i))], []⟩) (fun i => i ≤ l.length ∧ (l.take i).all shown = true) (fun i => l.length - i) 0 [] [] ?_ ?_ (fun i hi => ?_)
  · simp
  · repeat' first | exact trivial | exact rfl | refine And.intro ?_ ?_
  have bad : ∀ (h : i < l.length), shown l[i] = false → false = l.all shown := fun h h2 => by
    symm; rw [Bool.eq_false_iff, Ne, List.all_eq_true]; intro h3; rw [h3 _ (List.getElem_mem h)] at h2; cases h2
  (conv => whnf)
  refine dec (fun h4 => ?_) (fun h4 => ?_)
  · have hlt : i < l.length := by omega
    repeat' ((conv => whnf); first | (refine dec (fun h => ?_) (fun h => ?_) <;> try contradiction) | (refine decN (fun h => ?_) (fun h => ?_) <;> try contradiction) | refine booN (fun h => ?_) (fun h => ?_) | refine boo (fun h => ?_) (fun h => ?_) | refine ⟨i64 (by omega) (by omega), ?_⟩ | refine ⟨_, _, rfl, List.getElem?_eq_getElem (by omega), ?_⟩ | refine ⟨_, ⟨rfl, by omega⟩, ?_⟩ | refine ⟨_, List.getElem?_eq_getElem (by omega), ?_⟩ | refine rtB ?_ | refine rtI ?_ | refine rtC ?_ rfl | fail)
    · rw [← bad hlt (by simp [shown]; omega)]
    · rw [← bad hlt (by simp [shown]; omega)]
    · refine ag (i + 1) [] [] ⟨hlt, ?_⟩ (by simp only []; omega) ?_
      · rw [List.take_succ_eq_append_getElem hlt, List.all_append, hi.2]; simp [shown]; omega
      repeat' first | exact trivial | exact rfl | refine And.intro ?_ ?_
  · obtain rfl : i = l.length := by omega
    have ha : l.all shown = true := by simpa using hi.2
    repeat' ((conv => whnf); first | (refine dec (fun h => ?_) (fun h => ?_) <;> try contradiction) | (refine decN (fun h => ?_) (fun h => ?_) <;> try contradiction) | refine booN (fun h => ?_) (fun h => ?_) | refine boo (fun h => ?_) (fun h => ?_) | refine ⟨i64 (by omega) (by omega), ?_⟩ | refine ⟨_, _, rfl, List.getElem?_eq_getElem (by omega), ?_⟩ | refine ⟨_, ⟨rfl, by omega⟩, ?_⟩ | refine ⟨_, List.getElem?_eq_getElem (by omega), ?_⟩ | refine rtB ?_ | refine rtI ?_ | refine rtC ?_ rfl | fail)
    rw [ha]
end Go.Nest
end
/- PLAIN LEMMAS on lists that are compared. -/
section
namespace Go.Nest
open Go Go.AM Go.Proofs
set_option linter.unusedVariables false
set_option linter.unusedSimpArgs false

theorem ne_at {α : Type} [DecidableEq α] {l m : List α} {i : Nat} (h : i < l.length) (h' : i < m.length) (hne : ¬ l[i] = m[i]) : false = decide (l = m) := by
  symm; rw [decide_eq_false_iff_not]; intro e; subst e; exact hne rfl
theorem take_step {α : Type} {l m : List α} {i : Nat} (h : i < l.length) (h' : i < m.length) (ht : l.take i = m.take i) (he : l[i] = m[i]) : l.take (i + 1) = m.take (i + 1) := by
  rw [List.take_succ_eq_append_getElem h, List.take_succ_eq_append_getElem h', ht, he]
theorem take_end {α : Type} [DecidableEq α] {l m : List α} {i : Nat} (h : l.length ≤ i) (hl : l.length = m.length) (ht : l.take i = m.take i) : true = decide (l = m) := by
  symm; rw [decide_eq_true_iff]; rwa [List.take_of_length_le h, List.take_of_length_le (hl ▸ h)] at ht
theorem ne_len {α : Type} [DecidableEq α] {l m : List α} (h : ¬ (l.length : Int) = m.length) : false = decide (l = m) := by
  symm; rw [decide_eq_false_iff_not]; intro e; subst e; exact h rfl
theorem byte_eq {a b : UInt8} : (a.toNat : Int) = b.toNat ↔ a = b := by rw [Int.natCast_inj]; exact UInt8.toNat_inj
theorem eqEn {a b : Ent} : EqCs (encEn a) (encEn b) ↔ a = b := by
  cases a; cases b; simp [encEn, EqCs, EqC]

end Go.Nest
end
