/- THE ABSTRACT MACHINE: structs that are compared. -/
import Derived.Test.YtkkjjbejkcgmfaaAm1
import Derived.Laws.StructEq
namespace Go.AM
open Go Go.NB
set_option linter.unusedVariables false

/-- has a cell the form of another one? -/
def like1 : C → C → Bool
  | .int .i64 _, .int .i64 _ => true
  | .str _, .str _ => true
  | .bool _, .bool _ => true
  | _, _ => false
def likeB : List C → List C → Bool
  | [], [] => true
  | x :: r, y :: q => like1 x y && likeB r q
  | _, _ => false
def EqC : C → C → Prop
  | .int _ a, .int _ b => a = b
  | .str a, .str b => a = b
  | .bool a, .bool b => a = b
  | _, _ => False
def EqCs : List C → List C → Prop
  | [], [] => True
  | [x], [y] => EqC x y
  | x :: r, y :: q => EqC x y ∧ EqCs r q
  | _, _ => False

theorem EqCs_cons {x y : C} {r q : List C} : EqCs (x :: r) (y :: q) ↔ EqC x y ∧ EqCs r q := by
  cases r with
  | nil => cases q <;> simp [EqCs]
  | cons a r => cases q <;> simp [EqCs]

theorem like_len : ∀ {z cs : List C}, likeB z cs = true → z.length = cs.length
  | [], [], _ => rfl
  | _ :: _, _ :: _, h => by simp only [likeB, Bool.and_eq_true] at h; simp [like_len h.2]

theorem like_split : ∀ {z1 z2 cs : List C}, likeB (z1 ++ z2) cs = true → ∃ c1 c2, cs = c1 ++ c2 ∧ likeB z1 c1 = true ∧ likeB z2 c2 = true
  | [], z2, cs, h => ⟨[], cs, rfl, rfl, h⟩
  | x :: z1, z2, [], h => by cases h
  | x :: z1, z2, y :: cs, h => by
    simp only [List.cons_append, likeB, Bool.and_eq_true] at h
    obtain ⟨c1, c2, rfl, h1, h2⟩ := like_split h.2
    exact ⟨y :: c1, c2, rfl, by simp [likeB, h.1, h1], h2⟩

theorem EqCs_append : ∀ {c1 c2 d1 d2 : List C}, c1.length = d1.length → (EqCs (c1 ++ c2) (d1 ++ d2) ↔ EqCs c1 d1 ∧ EqCs c2 d2)
  | [], c2, [], d2, _ => by simp [EqCs]
  | x :: c1, c2, y :: d1, d2, h => by
    rw [List.cons_append, List.cons_append, EqCs_cons, EqCs_cons, EqCs_append (by simpa using h), and_assoc]

def CmpAt (P : Program) (d : Nat) (t : TypeId) (g : Bool) (z : List C) : Prop :=
  ∀ (F : Nat → Prop) (H : Heap) (m : Md) (cs ds : List C) (vs us : List Value), likeB z cs = true → likeB z ds = true → RL F H m cs vs → RL F H m ds us →
    ∀ w : World, ∃ r : Bool, (Op.equalIn d t (fval g vs) (fval g us)).run P w = .ok r w ∧ (r = true ↔ EqCs cs ds)

section
variable {P : Program} {t : TypeId} {d : Nat}

theorem CmpAt.int (ht : P.underlying t = some (.int .i64)) : CmpAt P (d + 1) t false [.int .i64 0] := fun F H m cs ds vs us h1 h2 r1 r2 w => by
  obtain ⟨a, rfl⟩ : ∃ a, cs = [.int .i64 a] := by
    rcases cs with _ | ⟨x, _ | ⟨y, r⟩⟩
    · cases h1
    · cases x <;> first | (rename_i k n; cases k <;> first | exact ⟨_, rfl⟩ | cases h1) | cases h1
    · simp [likeB] at h1
  obtain ⟨b, rfl⟩ : ∃ a, ds = [.int .i64 a] := by
    rcases ds with _ | ⟨x, _ | ⟨y, r⟩⟩
    · cases h2
    · cases x <;> first | (rename_i k n; cases k <;> first | exact ⟨_, rfl⟩ | cases h2) | cases h2
    · simp [likeB] at h2
  cases r1 with
  | int r1 =>
    cases r1
    cases r2 with
    | int r2 => cases r2; exact ⟨a == b, run_equalIn_int w d t _ _ a b ht, by simp [EqCs, EqC]⟩

theorem CmpAt.str (ht : P.underlying t = some .string) : CmpAt P (d + 1) t false [.str []] := fun F H m cs ds vs us h1 h2 r1 r2 w => by
  obtain ⟨a, rfl⟩ : ∃ a, cs = [.str a] := by
    rcases cs with _ | ⟨x, _ | ⟨y, r⟩⟩
    · cases h1
    · cases x <;> first | exact ⟨_, rfl⟩ | cases h1
    · simp [likeB] at h1
  obtain ⟨b, rfl⟩ : ∃ a, ds = [.str a] := by
    rcases ds with _ | ⟨x, _ | ⟨y, r⟩⟩
    · cases h2
    · cases x <;> first | exact ⟨_, rfl⟩ | cases h2
    · simp [likeB] at h2
  cases r1 with
  | str _ r1 =>
    cases r1
    cases r2 with
    | str _ r2 =>
      cases r2
      refine ⟨_, run_equalIn_string w d t _ _ ht, ?_⟩
      rw [beq_iff_eq]
      simp [EqCs, EqC, ByteArray.toList_eq]

theorem CmpAt.bool (ht : P.underlying t = some .bool) : CmpAt P (d + 1) t false [.bool false] := fun F H m cs ds vs us h1 h2 r1 r2 w => by
  obtain ⟨a, rfl⟩ : ∃ a, cs = [.bool a] := by
    rcases cs with _ | ⟨x, _ | ⟨y, r⟩⟩
    · cases h1
    · cases x <;> first | exact ⟨_, rfl⟩ | cases h1
    · simp [likeB] at h1
  obtain ⟨b, rfl⟩ : ∃ a, ds = [.bool a] := by
    rcases ds with _ | ⟨x, _ | ⟨y, r⟩⟩
    · cases h2
    · cases x <;> first | exact ⟨_, rfl⟩ | cases h2
    · simp [likeB] at h2
  cases r1 with
  | bool r1 =>
    cases r1
    cases r2 with
    | bool r2 => cases r2; exact ⟨a == b, run_equalIn_bool' w d t a b ht, by simp [EqCs, EqC]⟩

def FieldsOk (P : Program) (d : Nat) : Nat → List Field → List C → Prop
  | _, [], z => z = []
  | off, f :: fs, z => ∃ g z1 z2, z = z1 ++ z2 ∧ f.name ≠ "_" ∧ f.offset = off ∧ (∀ w, (isAgg f.type).run P w = .ok g w) ∧ (∀ w, (sizeOf f.type).run P w = .ok z1.length w) ∧ (g = false → z1.length = 1) ∧
      CmpAt P d f.type g z1 ∧ FieldsOk P d (off + z1.length) fs z2

theorem part_run {g : Bool} {n : Nat} {e : TypeId} {w : World} {pre v1 v2 : List Value} (hg : ∀ w, (isAgg e).run P w = .ok g w) (hz : ∀ w, (sizeOf e).run P w = .ok n w) (hn : v1.length = n) (h1 : g = false → n = 1) :
    (part e (pre ++ (v1 ++ v2)).toArray pre.length).run P w = .ok (fval g v1) w := by
  cases g with
  | true =>
    simp [part, hg, hz, fval]
    rw [← hn, List.take_left]
  | false =>
    have := h1 rfl
    subst hn
    obtain ⟨v, rfl⟩ := List.length_eq_one_iff.1 this
    simp [part, hg, fval]

theorem fields_eq {F : Nat → Prop} {H : Heap} {m : Md} : ∀ {fs : List Field} {z : List C} {pre pre' : List Value} {cs ds : List C} {vs us : List Value}, FieldsOk P d pre.length fs z → pre.length = pre'.length → likeB z cs = true → likeB z ds = true → RL F H m cs vs → RL F H m ds us →
    ∀ w : World, ∃ r : Bool, (Op.eqFields d (pre ++ vs).toArray (pre' ++ us).toArray fs).run P w = .ok r w ∧ (r = true ↔ EqCs cs ds)
  | [], z, pre, pre', cs, ds, vs, us, h, _, h1, h2, _, _, w => by
    cases h
    cases cs with
    | nil => cases ds with
      | nil => exact ⟨true, by simp [Op.eqFields], by simp [EqCs]⟩
      | cons y q => cases h2
    | cons x r => cases h1
  | f :: fs, z, pre, pre', cs, ds, vs, us, hF, hp, h1, h2, r1, r2, w => by
    obtain ⟨g, z1, z2, rfl, hn, ho, hg, hz, h3, hc, hf⟩ := hF
    obtain ⟨c1, c2, rfl, k1, k2⟩ := like_split h1
    obtain ⟨d1, d2, rfl, l1, l2⟩ := like_split h2
    obtain ⟨v1, v2, rfl, r3, r4⟩ := r1.split
    obtain ⟨u1, u2, rfl, s3, s4⟩ := r2.split
    have e1 : v1.length = z1.length := r3.length.symm.trans (like_len k1).symm
    have e2 : u1.length = z1.length := s3.length.symm.trans (like_len l1).symm
    obtain ⟨b, hb, hbi⟩ := hc F H m c1 d1 v1 u1 k1 l1 r3 s3 w
    have p1 := part_run (w := w) (pre := pre) (v2 := v2) hg hz e1 h3
    have p2 := part_run (w := w) (pre := pre') (v2 := u2) hg hz e2 h3
    rw [← hp] at p2
    have hl : c1.length = d1.length := (like_len k1).symm.trans (like_len l1)
    rw [EqCs_append hl]
    simp only [Op.eqFields, if_pos hn, ho, Sem.run_bind, p1, p2, hb, Result.andThen_ok]
    cases b with
    | false => exact ⟨false, by simp, by simp [← hbi]⟩
    | true =>
      obtain ⟨r, hr, hri⟩ := fields_eq (pre := pre ++ v1) (pre' := pre' ++ u1) (fs := fs) (z := z2) (by rw [List.length_append, e1]; exact hf) (by rw [List.length_append, List.length_append, e1, e2, hp]) k2 l2 r4 s4 w
      refine ⟨r, ?_, by simp [← hbi, hri]⟩
      rw [List.append_assoc, List.append_assoc] at hr
      simpa using hr

theorem CmpAt.struct {z : List C} (ht : P.underlying t = some (.struct (P.fieldsOf t))) (hp : P.stoodInHeld t = false) (h : FieldsOk P d 0 (P.fieldsOf t).toList z) : CmpAt P (d + 1) t true z := fun F H m cs ds vs us h1 h2 r1 r2 w => by
  obtain ⟨r, h3, h4⟩ := fields_eq (pre := []) (pre' := []) h rfl h1 h2 r1 r2 w
  exact ⟨r, (run_equalIn_agg w d t _ _ ht hp).trans h3, h4⟩
end

theorem sizeOf_of {P : Program} {t : TypeId} {i : TypeInfo} {n : Nat} (h : ∀ w, (typeInfo t).run P w = .ok i w) (hs : i.size = n) : ∀ w, (sizeOf t).run P w = .ok n w := fun w => by simp [sizeOf, h, hs]
theorem fieldsL {P : Program} {t : TypeId} {fs : Array Field} (h : P.underlying t = some (.struct fs)) : (P.fieldsOf t).toList = fs.toList := by simp [Program.fieldsOf, h]

/-- structs of this type can be compared -/
def CmpOk (P : Program) (t : TypeId) (z : List C) : Prop := P.eqGuardType P.depth t = false ∧ CmpAt P 10000 t true z
end Go.AM
