/- THE ABSTRACT MACHINE, part 2: operations that yield a value and leave memory as it is. -/
import Derived.Test.YtkkjjbejkcgmfaaAmC
namespace Go.AM
open Go Go.NB
set_option linter.unusedVariables false
set_option linter.unusedSimpArgs false

inductive TK where
  | int (k : IntKind) | str | bool | sl (e : Nat) | struct (offs : List (Nat × Nat)) | arr (n e : Nat) | other

/-- what is known of a type -/
structure TD : Type 1 where
  size : Nat
  agg : Bool
  bytes : Nat
  kind : TK
  zero : List C
  cmp : Bool
  α : Type
  enc : α → List C

def KOk (P : Program) (tab : Nat → Option TD) (t : TypeId) : TK → Prop
  | .int k => P.underlying t = some (.int k)
  | .str => P.underlying t = some .string
  | .bool => P.underlying t = some .bool
  | .sl e => P.underlying t = some (.slice e)
  | .struct offs => ∃ fs : Array Field, P.underlying t = some (.struct fs) ∧ fs.toList.map (fun f => (f.type, f.offset)) = offs ∧ (offs.all fun p => (tab p.1).isSome) = true
  | .arr n e => P.underlying t = some (.array n e)
  | .other => True

structure TabOk (P : Program) (tab : Nat → Option TD) : Prop where
  info : ∀ t d, tab t = some d → ∃ i z zs, (∀ w, (typeInfo t).run P w = .ok i w) ∧ i.size = d.size ∧ i.bytes = d.bytes ∧ i.zero = some z ∧ z.cells = List.toArray zs ∧ ∀ F H m, RL F H m d.zero zs
  agg : ∀ t d, tab t = some d → ∀ w, (isAgg t).run P w = .ok d.agg w
  one : ∀ t d, tab t = some d → d.agg = false → d.size = 1
  zl : ∀ t d, tab t = some d → d.zero.length = d.size
  kind : ∀ t d, tab t = some d → KOk P tab t d.kind
  cmp : ∀ t d, tab t = some d → d.cmp = true → CmpOk P t d.zero

section
variable {P : Program} {tab : Nat → Option TD}
theorem TabOk.size (h : TabOk P tab) {t : Nat} {d : TD} (ht : tab t = some d) (w : World) : (sizeOf t).run P w = .ok d.size w := by
  obtain ⟨i, z, zs, h1, h2, _⟩ := h.info t d ht
  simp [sizeOf, h1, h2]
theorem TabOk.zero (h : TabOk P tab) {t : Nat} {d : TD} (ht : tab t = some d) : ∃ z zs, (∀ w, (zeroValue t).run P w = .ok z w) ∧ z.cells = List.toArray zs ∧ ∀ F H m, RL F H m d.zero zs := by
  obtain ⟨i, z, zs, h1, h2, h3, h4, h5, h6⟩ := h.info t d ht
  exact ⟨z, zs, fun w => by simp [zeroValue, h1, h4], h5, h6⟩
end

def bytesC (b : UInt8) : List C := [.int .u8 b.toNat]

def constA : Value → A
  | .int k n => .c (.int k n)
  | .bool b => .c (.bool b)
  | .string s => bif Nat.ble s.data.toList.length 9223372036854775807 then .c (.str s.data.toList) else .undef
  | .slice none 0 0 => .c .nil
  | .pointer none => .c (.raw (.pointer none))
  | .nilIface => .c (.raw .nilIface)
  | .nilFunc => .c (.raw .nilFunc)
  | _ => .undef

def opn (s : St) : Operand → A
  | .tmp t => (lk s.env t).getD .undef
  | .const v => constA v
  | .func f => .c (.fn f [])
  | .global _ => .undef

def cellsA : A → Option (List C)
  | .c x => some [x]
  | .st cs => some cs
  | _ => none

/-- a thing of a type, out of cells -/
def rd (d : TD) (cs : List C) (k : A → Prop) : Prop :=
  bif Nat.ble d.size cs.length then (bif d.agg then k (.st (cs.take d.size)) else match cs with | x :: _ => k (.c x) | [] => False) else False

def kindEq : IntKind → IntKind → Bool
  | .i64, .i64 => true
  | .u8, .u8 => true
  | .i32, .i32 => true
  | _, _ => false

theorem kindEq_eq {i j : IntKind} (h : kindEq i j = true) : i = j := by
  cases i <;> cases j <;> first | rfl | (simp [kindEq] at h; done)

def arith (op : BinOp) (x y : C) (k : A → Prop) : Prop :=
  match op, x, y with
  | .add, .int .i64 a, .int .i64 b => I64 (a + b) ∧ k (.c (.int .i64 (a + b)))
  | .sub, .int .i64 a, .int .i64 b => I64 (a - b) ∧ k (.c (.int .i64 (a - b)))
  | .mul, .int .i64 a, .int .i64 b => I64 (a * b) ∧ k (.c (.int .i64 (a * b)))
  | .quo, .int .i64 a, .int .i64 b => (b ≠ 0 ∧ I64 (a.tdiv b)) ∧ k (.c (.int .i64 (a.tdiv b)))
  | .rem, .int .i64 a, .int .i64 b => b ≠ 0 ∧ k (.c (.int .i64 (a.tmod b)))
  | .quo, .int .u8 a, .int .u8 b => b ≠ 0 ∧ k (.c (.int .u8 (IntKind.u8.wrap (a.tdiv b))))
  | .rem, .int .u8 a, .int .u8 b => b ≠ 0 ∧ k (.c (.int .u8 (a.tmod b)))
  | .shr, .int j a, .int _ b => 0 ≤ b ∧ k (.c (.int j (a.fdiv (2 ^ min b.toNat j.bits))))
  | .shl, .int .i64 a, .int _ b => (0 ≤ b ∧ I64 (a * 2 ^ min b.toNat 64)) ∧ k (.c (.int .i64 (a * 2 ^ min b.toNat 64)))
  | .and, .int i a, .int j b => bif kindEq i j then k (.c (.int i (i.wrap (BitVec.ofInt i.bits a &&& BitVec.ofInt i.bits b).toNat))) else False
  | .or, .int i a, .int j b => bif kindEq i j then k (.c (.int i (i.wrap (BitVec.ofInt i.bits a ||| BitVec.ofInt i.bits b).toNat))) else False
  | .lss, .int i a, .int j b => bif kindEq i j then k (.c (.bool (decide (a < b)))) else False
  | .leq, .int i a, .int j b => bif kindEq i j then k (.c (.bool (decide (a ≤ b)))) else False
  | .gtr, .int i a, .int j b => bif kindEq i j then k (.c (.bool (decide (b < a)))) else False
  | .geq, .int i a, .int j b => bif kindEq i j then k (.c (.bool (decide (b ≤ a)))) else False
  | .eql, .int i a, .int j b => bif kindEq i j then k (.c (.bool (decide (a = b)))) else False
  | .neq, .int i a, .int j b => bif kindEq i j then k (.c (.bool (!decide (a = b)))) else False
  | .add, .str a, .str b => a.length + b.length ≤ 9223372036854775807 ∧ k (.c (.str (a ++ b)))
  | .eql, .str a, .str b => k (.c (.bool (decide (a = b))))
  | .neq, .str a, .str b => k (.c (.bool (!decide (a = b))))
  | .lss, .str a, .str b => k (.c (.bool (Op.bytesLess a b)))
  | .leq, .str a, .str b => k (.c (.bool (Op.bytesLess a b || decide (a = b))))
  | .gtr, .str a, .str b => k (.c (.bool (!(Op.bytesLess a b || decide (a = b)))))
  | .geq, .str a, .str b => k (.c (.bool (!Op.bytesLess a b)))
  | _, _, _ => False

section
variable {P : Program} {tab : Nat → Option TD} {F : Nat → Prop} {H : Heap} {m : Md}

/-- what 'arith' says an operation on two cells yields is what it yields -/
theorem arith_sound {op : BinOp} {x y : C} {u v : Value} {k : A → Prop} {t : TypeId} {ox oy : Operand} (h : arith op x y k) (hx : RL F H m [x] [u]) (hy : RL F H m [y] [v]) :
    ∃ r a, k a ∧ RA F H m a r ∧ (∀ w, (binOp op t u v).run P w = .ok r w) ∧ ∀ w, (eqGuard op t ox oy u v).run P w = .ok () w := by
  unfold arith at h
  split at h
  · cases hx; cases hy
    exact ⟨_, _, h.2, .int .nl, fun w => by rw [binOp_add]; simp [Op.intArith, IntWalk.i64_in _ h.1], fun w => rfl⟩
  · cases hx; cases hy
    exact ⟨_, _, h.2, .int .nl, fun w => by rw [binOp_sub]; simp [Op.intArith, IntWalk.i64_in _ h.1], fun w => rfl⟩
  · cases hx; cases hy
    exact ⟨_, _, h.2, .int .nl, fun w => by rw [binOp_mul]; simp [Op.intArith, IntWalk.i64_in _ h.1], fun w => rfl⟩
  · cases hx; cases hy
    exact ⟨_, _, h.2, .int .nl, fun w => by simp [binOp, Op.intDiv, h.1.1, IntWalk.i64_in _ h.1.2], fun w => rfl⟩
  · cases hx; cases hy
    exact ⟨_, _, h.2, .int .nl, fun w => by simp [binOp, Op.intDiv, h.1], fun w => rfl⟩
  · cases hx; cases hy
    exact ⟨_, _, h.2, .int .nl, fun w => by simp [binOp, Op.intDiv, h.1], fun w => rfl⟩
  · cases hx; cases hy
    exact ⟨_, _, h.2, .int .nl, fun w => by simp [binOp, Op.intDiv, h.1], fun w => rfl⟩
  · cases hx; cases hy
    exact ⟨_, _, h.2, .int .nl, fun w => by simp [binOp, Op.shift, Int.not_lt.2 h.1], fun w => rfl⟩
  · cases hx; cases hy
    exact ⟨_, _, h.2, .int .nl, fun w => by simp [binOp, Op.shift, Int.not_lt.2 h.1.1, IntKind.bits]; exact IntWalk.i64_in _ h.1.2, fun w => rfl⟩
  · rename_i i a j b
    cases hx; cases hy
    have hij : kindEq i j = true := by cases e : kindEq i j with | true => rfl | false => rw [e] at h; exact h.elim
    obtain rfl := kindEq_eq hij
    rw [hij] at h
    exact ⟨_, _, h, .int .nl, fun w => by simp [binOp, Op.intBits], fun w => rfl⟩
  · rename_i i a j b
    cases hx; cases hy
    have hij : kindEq i j = true := by cases e : kindEq i j with | true => rfl | false => rw [e] at h; exact h.elim
    obtain rfl := kindEq_eq hij
    rw [hij] at h
    exact ⟨_, _, h, .int .nl, fun w => by simp [binOp, Op.intBits], fun w => rfl⟩
  · rename_i i a j b
    cases hx; cases hy
    have hij : kindEq i j = true := by cases e : kindEq i j with | true => rfl | false => rw [e] at h; exact h.elim
    obtain rfl := kindEq_eq hij
    rw [hij] at h
    exact ⟨_, _, h, .bool .nl, fun w => by rw [binOp_lss]; rfl, fun w => rfl⟩
  · rename_i i a j b
    cases hx; cases hy
    have hij : kindEq i j = true := by cases e : kindEq i j with | true => rfl | false => rw [e] at h; exact h.elim
    obtain rfl := kindEq_eq hij
    rw [hij] at h
    exact ⟨_, _, h, .bool .nl, fun w => by rw [binOp_leq]; rfl, fun w => rfl⟩
  · rename_i i a j b
    cases hx; cases hy
    have hij : kindEq i j = true := by cases e : kindEq i j with | true => rfl | false => rw [e] at h; exact h.elim
    obtain rfl := kindEq_eq hij
    rw [hij] at h
    exact ⟨_, _, h, .bool .nl, fun w => by rw [binOp_gtr]; rfl, fun w => rfl⟩
  · rename_i i a j b
    cases hx; cases hy
    have hij : kindEq i j = true := by cases e : kindEq i j with | true => rfl | false => rw [e] at h; exact h.elim
    obtain rfl := kindEq_eq hij
    rw [hij] at h
    exact ⟨_, _, h, .bool .nl, fun w => by rw [binOp_geq]; rfl, fun w => rfl⟩
  · rename_i i a j b
    cases hx; cases hy
    have hij : kindEq i j = true := by cases e : kindEq i j with | true => rfl | false => rw [e] at h; exact h.elim
    obtain rfl := kindEq_eq hij
    rw [hij] at h
    exact ⟨_, _, h, .bool .nl, fun w => by rw [binOp_eql]; rfl, fun w => by rw [eqGuard_at_int]; rfl⟩
  · rename_i i a j b
    cases hx; cases hy
    have hij : kindEq i j = true := by cases e : kindEq i j with | true => rfl | false => rw [e] at h; exact h.elim
    obtain rfl := kindEq_eq hij
    rw [hij] at h
    exact ⟨_, _, h, .bool .nl, fun w => by rw [binOp_neq]; rfl, fun w => by rw [eqGuard_at_int]; rfl⟩
  · rename_i a b
    cases hx; cases hy
    refine ⟨_, _, h.2, .str (by rw [List.length_append]; exact h.1) .nl, fun w => ?_, fun w => rfl⟩
    have e1 : (⟨a.toArray⟩ : ByteArray).size = a.length := rfl
    have e2 : (⟨b.toArray⟩ : ByteArray).size = b.length := rfl
    have h1 := h.1
    have h2 : ¬ ((9223372036854775807 : Int) < (a.length : Int) + (b.length : Int)) := by omega
    simp [NB.str, binOp, Op.stringOp, e1, e2, h2]
    apply ByteArray.ext
    simp
  · cases hx; cases hy
    exact ⟨_, _, h, .bool .nl, fun w => by simp [NB.str, binOp, Op.stringOp]; exact beq_dec _ _, fun w => by unfold NB.str; rw [eqGuard_at_string]; rfl⟩
  · cases hx; cases hy
    exact ⟨_, _, h, .bool .nl, fun w => by simp [NB.str, binOp, Op.stringOp]; rw [beq_dec], fun w => by unfold NB.str; rw [eqGuard_at_string]; rfl⟩
  · cases hx; cases hy
    exact ⟨_, _, h, .bool .nl, fun w => by simp [NB.str, binOp, Op.stringOp], fun w => rfl⟩
  · cases hx; cases hy
    exact ⟨_, _, h, .bool .nl, fun w => by simp [NB.str, binOp, Op.stringOp]; rw [beq_dec], fun w => rfl⟩
  · cases hx; cases hy
    exact ⟨_, _, h, .bool .nl, fun w => by simp [NB.str, binOp, Op.stringOp]; rw [beq_dec], fun w => rfl⟩
  · cases hx; cases hy
    exact ⟨_, _, h, .bool .nl, fun w => by simp [NB.str, binOp, Op.stringOp], fun w => rfl⟩
  · exact h.elim
end
end Go.AM
