/- THE TABLE of types, and that it is right. -/
import Derived.Test.YtgbppkcebaoebaaL1
import Derived.Test.YtgbppkcebaoebaaProg
import Derived.KernelRfl
section
namespace Go.Proofs.Ytgbppkcebaoebaa
open Go Go.AM Go.Nest
set_option linter.unusedVariables false

def tabL : List (Nat × TD) := [
  (3, ⟨1, false, 8, (.int .i64), [.int .i64 0], false, Int, encI⟩),
  (4, ⟨1, false, 1, .bool, [.bool false], false, Bool, encBo⟩),
  (5, ⟨1, false, 1, (.int .u8), [.int .u8 0], false, UInt8, bytesC⟩),
  (9, ⟨1, false, 16, .str, [.str []], false, (List UInt8), encS⟩),
  (22, ⟨1, false, 24, (.sl 27), [.nil], false, (List Unit), (encL 4 (fun _ => []))⟩),
  (27, ⟨4, true, 40, (.struct [(9, 0), (3, 1), (3, 2), (4, 3)]), [.str [], .int .i64 0, .int .i64 0, .bool false], true, Unit, (fun _ => [])⟩),
  (30, ⟨1, false, 24, (.sl 48), [.nil], false, (List Mv), (encL 3 encMv)⟩),
  (34, ⟨1, false, 24, (.sl 49), [.nil], false, (List Mv), (encL 3 encMv)⟩),
  (36, ⟨1, true, 24, (.struct [(34, 0)]), [.nil], false, Unit, (fun _ => [])⟩),
  (38, ⟨1, false, 24, (.sl 3), [.nil], false, (List Int), (encL 1 encI)⟩),
  (40, ⟨1, false, 24, (.sl 45), [.nil], false, (List Rf), (encL 2 encRf)⟩),
  (42, ⟨1, false, 24, (.sl 46), [.nil], false, (List Rf), (encL 2 encRf)⟩),
  (45, ⟨2, true, 24, (.struct [(9, 0), (3, 1)]), [.str [], .int .i64 0], true, Rf, encRf⟩),
  (46, ⟨2, true, 24, (.struct [(9, 0), (3, 1)]), [.str [], .int .i64 0], true, Rf, encRf⟩),
  (48, ⟨3, true, 32, (.struct [(9, 0), (3, 1), (3, 2)]), [.str [], .int .i64 0, .int .i64 0], true, Mv, encMv⟩),
  (49, ⟨3, true, 32, (.struct [(9, 0), (3, 1), (3, 2)]), [.str [], .int .i64 0, .int .i64 0], true, Mv, encMv⟩),
  (54, ⟨2, true, 48, (.struct [(40, 0), (30, 1)]), [.nil, .nil], false, Unit, (fun _ => [])⟩),
  (69, ⟨1, false, 8, (.int .u64), [.int .u64 0], false, Unit, (fun _ => [])⟩),
  (71, ⟨1, false, 8, (.int .i64), [.int .i64 0], false, Int, encI⟩),
  (79, ⟨1, false, 4, (.int .u32), [.int .u32 0], false, Unit, (fun _ => [])⟩),
  (81, ⟨1, false, 8, (.int .u64), [.int .u64 0], false, Unit, (fun _ => [])⟩),
  (83, ⟨1, false, 8, (.int .u64), [.int .u64 0], false, Unit, (fun _ => [])⟩)]
def tab : Nat → Option TD := lkT tabL

theorem good3 : ∀ d, tab 3 = some d → Good Try.prog tab 3 d := fun d h => by
  cases h
  exact ⟨⟨_, _, _, Try.typeInfo3, rfl, rfl, rfl, rfl, fun _ _ _ => by exact (.int .nl)⟩, Try.isAgg3, (fun _ => rfl), rfl, Try.underlying3, (fun h => by cases h)⟩
theorem good4 : ∀ d, tab 4 = some d → Good Try.prog tab 4 d := fun d h => by
  cases h
  exact ⟨⟨_, _, _, Try.typeInfo4, rfl, rfl, rfl, rfl, fun _ _ _ => by exact (.bool .nl)⟩, Try.isAgg4, (fun _ => rfl), rfl, Try.underlying4, (fun h => by cases h)⟩
theorem good5 : ∀ d, tab 5 = some d → Good Try.prog tab 5 d := fun d h => by
  cases h
  exact ⟨⟨_, _, _, Try.typeInfo5, rfl, rfl, rfl, rfl, fun _ _ _ => by exact (.int .nl)⟩, Try.isAgg5, (fun _ => rfl), rfl, Try.underlying5, (fun h => by cases h)⟩
theorem good9 : ∀ d, tab 9 = some d → Good Try.prog tab 9 d := fun d h => by
  cases h
  exact ⟨⟨_, _, _, Try.typeInfo9, rfl, rfl, rfl, rfl, fun _ _ _ => by exact (.str (Nat.zero_le _) .nl)⟩, Try.isAgg9, (fun _ => rfl), rfl, Try.underlying9, (fun h => by cases h)⟩
theorem good22 : ∀ d, tab 22 = some d → Good Try.prog tab 22 d := fun d h => by
  cases h
  exact ⟨⟨_, _, _, Try.typeInfo22, rfl, rfl, rfl, rfl, fun _ _ _ => by exact (.nil .nl)⟩, Try.isAgg22, (fun _ => rfl), rfl, Try.underlying22, (fun h => by cases h)⟩
theorem good27 : ∀ d, tab 27 = some d → Good Try.prog tab 27 d := fun d h => by
  cases h
  exact ⟨⟨_, _, _, Try.typeInfo27, rfl, rfl, rfl, rfl, fun _ _ _ => by exact (.str (Nat.zero_le _) (.int (.int (.bool .nl))))⟩, Try.isAgg27, (fun h => by cases h), rfl, ⟨_, Try.underlying27, rfl, rfl⟩, (fun _ => ⟨by kernel_rfl, by exact (CmpAt.struct (by kernel_rfl) (by kernel_rfl) (by rw [fieldsL Try.underlying27]; exact ⟨false, [.str []], _, rfl, by decide, rfl, Try.isAgg9, sizeOf_of Try.typeInfo9 rfl, by decide, (CmpAt.str Try.underlying9), ⟨false, [.int .i64 0], _, rfl, by decide, rfl, Try.isAgg3, sizeOf_of Try.typeInfo3 rfl, by decide, (CmpAt.int Try.underlying3), ⟨false, [.int .i64 0], _, rfl, by decide, rfl, Try.isAgg3, sizeOf_of Try.typeInfo3 rfl, by decide, (CmpAt.int Try.underlying3), ⟨false, [.bool false], _, rfl, by decide, rfl, Try.isAgg4, sizeOf_of Try.typeInfo4 rfl, by decide, (CmpAt.bool Try.underlying4), rfl⟩⟩⟩⟩))⟩)⟩
theorem good30 : ∀ d, tab 30 = some d → Good Try.prog tab 30 d := fun d h => by
  cases h
  exact ⟨⟨_, _, _, Try.typeInfo30, rfl, rfl, rfl, rfl, fun _ _ _ => by exact (.nil .nl)⟩, Try.isAgg30, (fun _ => rfl), rfl, Try.underlying30, (fun h => by cases h)⟩
theorem good34 : ∀ d, tab 34 = some d → Good Try.prog tab 34 d := fun d h => by
  cases h
  exact ⟨⟨_, _, _, Try.typeInfo34, rfl, rfl, rfl, rfl, fun _ _ _ => by exact (.nil .nl)⟩, Try.isAgg34, (fun _ => rfl), rfl, Try.underlying34, (fun h => by cases h)⟩
theorem good36 : ∀ d, tab 36 = some d → Good Try.prog tab 36 d := fun d h => by
  cases h
  exact ⟨⟨_, _, _, Try.typeInfo36, rfl, rfl, rfl, rfl, fun _ _ _ => by exact (.nil .nl)⟩, Try.isAgg36, (fun h => by cases h), rfl, ⟨_, Try.underlying36, rfl, rfl⟩, (fun h => by cases h)⟩
theorem good38 : ∀ d, tab 38 = some d → Good Try.prog tab 38 d := fun d h => by
  cases h
  exact ⟨⟨_, _, _, Try.typeInfo38, rfl, rfl, rfl, rfl, fun _ _ _ => by exact (.nil .nl)⟩, Try.isAgg38, (fun _ => rfl), rfl, Try.underlying38, (fun h => by cases h)⟩
theorem good40 : ∀ d, tab 40 = some d → Good Try.prog tab 40 d := fun d h => by
  cases h
  exact ⟨⟨_, _, _, Try.typeInfo40, rfl, rfl, rfl, rfl, fun _ _ _ => by exact (.nil .nl)⟩, Try.isAgg40, (fun _ => rfl), rfl, Try.underlying40, (fun h => by cases h)⟩
theorem good42 : ∀ d, tab 42 = some d → Good Try.prog tab 42 d := fun d h => by
  cases h
  exact ⟨⟨_, _, _, Try.typeInfo42, rfl, rfl, rfl, rfl, fun _ _ _ => by exact (.nil .nl)⟩, Try.isAgg42, (fun _ => rfl), rfl, Try.underlying42, (fun h => by cases h)⟩
theorem good45 : ∀ d, tab 45 = some d → Good Try.prog tab 45 d := fun d h => by
  cases h
  exact ⟨⟨_, _, _, Try.typeInfo45, rfl, rfl, rfl, rfl, fun _ _ _ => by exact (.str (Nat.zero_le _) (.int .nl))⟩, Try.isAgg45, (fun h => by cases h), rfl, ⟨_, Try.underlying45, rfl, rfl⟩, (fun _ => ⟨by kernel_rfl, by exact (CmpAt.struct (by kernel_rfl) (by kernel_rfl) (by rw [fieldsL Try.underlying45]; exact ⟨false, [.str []], _, rfl, by decide, rfl, Try.isAgg9, sizeOf_of Try.typeInfo9 rfl, by decide, (CmpAt.str Try.underlying9), ⟨false, [.int .i64 0], _, rfl, by decide, rfl, Try.isAgg3, sizeOf_of Try.typeInfo3 rfl, by decide, (CmpAt.int Try.underlying3), rfl⟩⟩))⟩)⟩
theorem good46 : ∀ d, tab 46 = some d → Good Try.prog tab 46 d := fun d h => by
  cases h
  exact ⟨⟨_, _, _, Try.typeInfo46, rfl, rfl, rfl, rfl, fun _ _ _ => by exact (.str (Nat.zero_le _) (.int .nl))⟩, Try.isAgg46, (fun h => by cases h), rfl, ⟨_, Try.underlying46, rfl, rfl⟩, (fun _ => ⟨by kernel_rfl, by exact (CmpAt.struct (by kernel_rfl) (by kernel_rfl) (by rw [fieldsL Try.underlying46]; exact ⟨false, [.str []], _, rfl, by decide, rfl, Try.isAgg9, sizeOf_of Try.typeInfo9 rfl, by decide, (CmpAt.str Try.underlying9), ⟨false, [.int .i64 0], _, rfl, by decide, rfl, Try.isAgg3, sizeOf_of Try.typeInfo3 rfl, by decide, (CmpAt.int Try.underlying3), rfl⟩⟩))⟩)⟩
theorem good48 : ∀ d, tab 48 = some d → Good Try.prog tab 48 d := fun d h => by
  cases h
  exact ⟨⟨_, _, _, Try.typeInfo48, rfl, rfl, rfl, rfl, fun _ _ _ => by exact (.str (Nat.zero_le _) (.int (.int .nl)))⟩, Try.isAgg48, (fun h => by cases h), rfl, ⟨_, Try.underlying48, rfl, rfl⟩, (fun _ => ⟨by kernel_rfl, by exact (CmpAt.struct (by kernel_rfl) (by kernel_rfl) (by rw [fieldsL Try.underlying48]; exact ⟨false, [.str []], _, rfl, by decide, rfl, Try.isAgg9, sizeOf_of Try.typeInfo9 rfl, by decide, (CmpAt.str Try.underlying9), ⟨false, [.int .i64 0], _, rfl, by decide, rfl, Try.isAgg3, sizeOf_of Try.typeInfo3 rfl, by decide, (CmpAt.int Try.underlying3), ⟨false, [.int .i64 0], _, rfl, by decide, rfl, Try.isAgg3, sizeOf_of Try.typeInfo3 rfl, by decide, (CmpAt.int Try.underlying3), rfl⟩⟩⟩))⟩)⟩
theorem good49 : ∀ d, tab 49 = some d → Good Try.prog tab 49 d := fun d h => by
  cases h
  exact ⟨⟨_, _, _, Try.typeInfo49, rfl, rfl, rfl, rfl, fun _ _ _ => by exact (.str (Nat.zero_le _) (.int (.int .nl)))⟩, Try.isAgg49, (fun h => by cases h), rfl, ⟨_, Try.underlying49, rfl, rfl⟩, (fun _ => ⟨by kernel_rfl, by exact (CmpAt.struct (by kernel_rfl) (by kernel_rfl) (by rw [fieldsL Try.underlying49]; exact ⟨false, [.str []], _, rfl, by decide, rfl, Try.isAgg9, sizeOf_of Try.typeInfo9 rfl, by decide, (CmpAt.str Try.underlying9), ⟨false, [.int .i64 0], _, rfl, by decide, rfl, Try.isAgg3, sizeOf_of Try.typeInfo3 rfl, by decide, (CmpAt.int Try.underlying3), ⟨false, [.int .i64 0], _, rfl, by decide, rfl, Try.isAgg3, sizeOf_of Try.typeInfo3 rfl, by decide, (CmpAt.int Try.underlying3), rfl⟩⟩⟩))⟩)⟩
theorem good54 : ∀ d, tab 54 = some d → Good Try.prog tab 54 d := fun d h => by
  cases h
  exact ⟨⟨_, _, _, Try.typeInfo54, rfl, rfl, rfl, rfl, fun _ _ _ => by exact (.nil (.nil .nl))⟩, Try.isAgg54, (fun h => by cases h), rfl, ⟨_, Try.underlying54, rfl, rfl⟩, (fun h => by cases h)⟩
theorem good69 : ∀ d, tab 69 = some d → Good Try.prog tab 69 d := fun d h => by
  cases h
  exact ⟨⟨_, _, _, Try.typeInfo69, rfl, rfl, rfl, rfl, fun _ _ _ => by exact (.int .nl)⟩, Try.isAgg69, (fun _ => rfl), rfl, Try.underlying69, (fun h => by cases h)⟩
theorem good71 : ∀ d, tab 71 = some d → Good Try.prog tab 71 d := fun d h => by
  cases h
  exact ⟨⟨_, _, _, Try.typeInfo71, rfl, rfl, rfl, rfl, fun _ _ _ => by exact (.int .nl)⟩, Try.isAgg71, (fun _ => rfl), rfl, Try.underlying71, (fun h => by cases h)⟩
theorem good79 : ∀ d, tab 79 = some d → Good Try.prog tab 79 d := fun d h => by
  cases h
  exact ⟨⟨_, _, _, Try.typeInfo79, rfl, rfl, rfl, rfl, fun _ _ _ => by exact (.int .nl)⟩, Try.isAgg79, (fun _ => rfl), rfl, Try.underlying79, (fun h => by cases h)⟩
theorem good81 : ∀ d, tab 81 = some d → Good Try.prog tab 81 d := fun d h => by
  cases h
  exact ⟨⟨_, _, _, Try.typeInfo81, rfl, rfl, rfl, rfl, fun _ _ _ => by exact (.int .nl)⟩, Try.isAgg81, (fun _ => rfl), rfl, Try.underlying81, (fun h => by cases h)⟩
theorem good83 : ∀ d, tab 83 = some d → Good Try.prog tab 83 d := fun d h => by
  cases h
  exact ⟨⟨_, _, _, Try.typeInfo83, rfl, rfl, rfl, rfl, fun _ _ _ => by exact (.int .nl)⟩, Try.isAgg83, (fun _ => rfl), rfl, Try.underlying83, (fun h => by cases h)⟩

theorem tabOk : TabOk Try.prog tab := tabOk_of ⟨good3 _ rfl, good4 _ rfl, good5 _ rfl, good9 _ rfl, good22 _ rfl, good27 _ rfl, good30 _ rfl, good34 _ rfl, good36 _ rfl, good38 _ rfl, good40 _ rfl, good42 _ rfl, good45 _ rfl, good46 _ rfl, good48 _ rfl, good49 _ rfl, good54 _ rfl, good69 _ rfl, good71 _ rfl, good79 _ rfl, good81 _ rfl, good83 _ rfl, trivial⟩

end Go.Proofs.Ytgbppkcebaoebaa
end
/- WALKS, 1: names, texts, numbers in lists. -/
section
namespace Go.Nest
open Go Go.AM Go.Proofs
open Go.Proofs.Ytgbppkcebaoebaa (tab tabOk)
set_option linter.unusedVariables false
set_option linter.unusedSimpArgs false
set_option maxRecDepth 4000

def odd (c : UInt8) : Bool := decide (c.toNat ≤ 32) || decide (c.toNat = 47) || decide (127 ≤ c.toNat)
def nameC (l : List UInt8) : Int := if l = [] ∨ l = [46] ∨ l = [46, 46] ∨ l.any odd then 2 else if 20 < l.length then 4 else 0
def shown (c : UInt8) : Bool := decide (32 ≤ c.toNat) && decide (c.toNat < 127)

theorem any_take {α : Type} {p : α → Bool} {l : List α} {i : Nat} (h : i < l.length) (h1 : (l.take i).any p = false) (h2 : p l[i] = false) : (l.take (i + 1)).any p = false := by
  rw [List.take_succ_eq_append_getElem h, List.any_append, h1]; simp [h2]
theorem any_at {α : Type} {p : α → Bool} {l : List α} {i : Nat} (h : i < l.length) (h2 : p l[i] = true) : l.any p = true :=
  List.any_eq_true.2 ⟨_, List.getElem_mem h, h2⟩

theorem name_spec (l : List UInt8) : Does Try.prog 20 [.c (.str l)] [] (Rt (.c (.int .i64 (nameC l))) []) := by
  refine X_spec (n := 39) (n0 := 0) tabOk Try.call20 Try.func20 ?_
  intro hb; have hb : l.length ≤ 9223372036854775807 := hb.1.1
  have bad : ∀ {i : Nat} (h : i < l.length), odd l[i] = true → (2 : Int) = nameC l := fun h h2 => by
    unfold nameC; rw [if_pos (.inr (.inr (.inr (any_at h h2))))]
  (conv => whnf)
  refine dec (fun (h : l = []) => ?_) (fun (h : ¬ l = []) => ?_)
  · (conv => whnf); refine rtC ?_ rfl
    simp [nameC, h]
  (conv => whnf)
  refine dec (fun (h2 : l = [46]) => ?_) (fun (h2 : ¬ l = [46]) => ?_)
  · (conv => whnf); refine rtC ?_ rfl
    simp [nameC, h2]
  (conv => whnf)
  refine dec (fun (h3 : l = [46, 46]) => ?_) (fun (h3 : ¬ l = [46, 46]) => ?_)
  · (conv => whnf); refine rtC ?_ rfl
    simp [nameC, h3]
  (conv => whnf)
  refine lp Nat (fun i => ⟨[(0, .c (.str l)), (15, .c (.int .i64 l.length)), (16, .c (.int .i64 i))], []⟩) (fun i => i ≤ l.length ∧ (l.take i).any odd = false) (fun i => l.length - i) 0 [] [] ?_ ?_ (fun i hi => ?_)
  · simp
  · repeat' first | exact trivial | exact rfl | refine And.intro ?_ ?_
  (conv => whnf)
  refine dec (fun h4 => ?_) (fun h4 => ?_)
  · have hlt : i < l.length := by omega
    (conv => whnf); refine ⟨i, l[i], rfl, List.getElem?_eq_getElem hlt, ?_⟩
    (conv => whnf); refine dec (fun h5 => ?_) (fun h5 => ?_)
    · (conv => whnf); refine rtC ?_ rfl
      rw [← bad hlt (by simp [odd]; omega)]
    (conv => whnf); refine ⟨i, l[i], rfl, List.getElem?_eq_getElem hlt, ?_⟩
    (conv => whnf); refine dec (fun h6 => ?_) (fun h6 => ?_)
    · (conv => whnf); refine rtC ?_ rfl
      rw [← bad hlt (by simp [odd]; omega)]
    (conv => whnf); refine ⟨i, l[i], rfl, List.getElem?_eq_getElem hlt, ?_⟩
    (conv => whnf); refine dec (fun h7 => ?_) (fun h7 => ?_)
    · (conv => whnf); refine rtC ?_ rfl
      rw [← bad hlt (by simp [odd]; omega)]
    (conv => whnf); refine ⟨i64 (by omega) (by omega), ?_⟩
    (conv => whnf); refine ag (i + 1) [] [] ⟨hlt, any_take hlt hi.2 (by simp [odd]; omega)⟩ (by simp only []; omega) ?_
    repeat' first | exact trivial | exact rfl | refine And.intro ?_ ?_
  · obtain rfl : i = l.length := by omega
    have ha : l.any odd = false := by simpa using hi.2
    (conv => whnf); refine dec (fun h5 => ?_) (fun h5 => ?_)
    · (conv => whnf); refine rtC ?_ rfl
      unfold nameC; rw [if_neg (by simp [h, h2, h3, ha]), if_pos (by omega)]
    · (conv => whnf); refine rtC ?_ rfl
      unfold nameC; rw [if_neg (by simp [h, h2, h3, ha]), if_neg (by omega)]
end Go.Nest
end
/- WALKS, 1b: names, by the document; texts that may be said. -/
section
namespace Go.Nest
open Go Go.AM Go.Proofs
open Go.Proofs.Ytgbppkcebaoebaa (tab tabOk)
set_option linter.unusedVariables false
set_option linter.unusedSimpArgs false
set_option maxRecDepth 4000

theorem nameF_spec (l : List UInt8) : Does Try.prog 33 [.c (.str l)] [] (Rt (.c (.int .i64 (nameC l))) []) := by
  refine X_spec (n := 39) (n0 := 0) tabOk Try.call33 Try.func33 ?_
  intro hb; have hb : l.length ≤ 9223372036854775807 := hb.1.1
  have bad : ∀ {i : Nat} (h : i < l.length), odd l[i] = true → (2 : Int) = nameC l := fun h h2 => by
    unfold nameC; rw [if_pos (.inr (.inr (.inr (any_at h h2))))]
  (conv => whnf)
  refine dec (fun (h0 : l = []) => ?_) (fun (h0 : ¬ l = []) => ?_)
  · (conv => whnf); refine rtC ?_ rfl; simp [nameC, h0]
  (conv => whnf)
  refine dec (fun (h2 : l = [46]) => ?_) (fun (h2 : ¬ l = [46]) => ?_)
  · (conv => whnf); refine rtC ?_ rfl; simp [nameC, h2]
  (conv => whnf)
  refine dec (fun (h3 : l = [46, 46]) => ?_) (fun (h3 : ¬ l = [46, 46]) => ?_)
  · (conv => whnf); refine rtC ?_ rfl; simp [nameC, h3]
  (conv => whnf)
  refine lp Nat (fun i => ⟨[(0, .c (.str l)), (3, .c (.int .i64 i))], []⟩) (fun i => i ≤ l.length ∧ (l.take i).any odd = false) (fun i => l.length - i) 0 [] [] ?_ ?_ (fun i hi => ?_)
  · simp
  · repeat' first | exact trivial | exact rfl | refine And.intro ?_ ?_
  (conv => whnf)
  refine dec (fun h4 => ?_) (fun h4 => ?_)
  · have hlt : i < l.length := by omega
    repeat' ((conv => whnf); first | (refine dec (fun h => ?_) (fun h => ?_) <;> try contradiction) | (refine decN (fun h => ?_) (fun h => ?_) <;> try contradiction) | refine booN (fun h => ?_) (fun h => ?_) | refine boo (fun h => ?_) (fun h => ?_) | refine ⟨i64 (by omega) (by omega), ?_⟩ | refine ⟨_, _, rfl, List.getElem?_eq_getElem (by omega), ?_⟩ | refine ⟨_, ⟨rfl, by omega⟩, ?_⟩ | refine ⟨_, List.getElem?_eq_getElem (by omega), ?_⟩ | refine rtB ?_ | refine rtI ?_ | refine rtC ?_ rfl | fail)
    · rw [← bad hlt (by simp [odd]; omega)]
    · rw [← bad hlt (by simp [odd]; omega)]
    · rw [← bad hlt (by simp [odd]; omega)]
    · refine ag (i + 1) [] [] ⟨hlt, any_take hlt hi.2 (by simp [odd]; omega)⟩ (by simp only []; omega) ?_
      repeat' first | exact trivial | exact rfl | refine And.intro ?_ ?_
  · obtain rfl : i = l.length := by omega
    have ha : l.any odd = false := by simpa using hi.2
    repeat' ((conv => whnf); first | (refine dec (fun h => ?_) (fun h => ?_) <;> try contradiction) | (refine decN (fun h => ?_) (fun h => ?_) <;> try contradiction) | refine booN (fun h => ?_) (fun h => ?_) | refine boo (fun h => ?_) (fun h => ?_) | refine ⟨i64 (by omega) (by omega), ?_⟩ | refine ⟨_, _, rfl, List.getElem?_eq_getElem (by omega), ?_⟩ | refine ⟨_, ⟨rfl, by omega⟩, ?_⟩ | refine ⟨_, List.getElem?_eq_getElem (by omega), ?_⟩ | refine rtB ?_ | refine rtI ?_ | refine rtC ?_ rfl | fail)
    · unfold nameC; rw [if_neg (by simp [h0, h2, h3, ha]), if_pos (by omega)]
    · unfold nameC; rw [if_neg (by simp [h0, h2, h3, ha]), if_neg (by omega)]

end Go.Nest
end
