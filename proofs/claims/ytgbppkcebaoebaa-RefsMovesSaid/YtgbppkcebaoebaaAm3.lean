/- THE ABSTRACT MACHINE, part 3: which value an operation yields that leaves memory as it is. -/
import Derived.Test.YtgbppkcebaoebaaAm2
import Derived.Lib.SliceRun
namespace Go.AM
open Go Go.NB
set_option linter.unusedVariables false
set_option linter.unusedSimpArgs false

/-- parts put into the cells of a thing -/
def buildC (tab : Nat → Option TD) (offs : List (Nat × Nat)) : List (Nat × A) → List C → (List C → Prop) → Prop
  | [], cs, k => k cs
  | (i, x) :: r, cs, k => match offs[i]?, cellsA x with
    | some (e, off), some new => match tab e with
      | some d => bif Nat.beq new.length d.size && Nat.ble (off + new.length) cs.length then buildC tab offs r (cs.take off ++ (new ++ cs.drop (off + new.length))) k else False
      | none => False
    | _, _ => False

def asInt (s : St) (x : Operand) : Option Int := match opn s x with
  | .c (.int _ n) => some n
  | _ => none

def asInt? (s : St) : Option Operand → Option (Option Int)
  | none => some none
  | some x => match opn s x with
    | .c (.int .i64 n) => some (some n)
    | _ => none

/-- bounds of a part: 'lo' and 'hi' -/
def bounds (n : Nat) (lo hi : Option Int) (k : Nat → Nat → Prop) : Prop :=
  ∃ a b : Nat, (match lo with | some x => x = (a : Int) | none => a = 0) ∧ (match hi with | some x => x = (b : Int) | none => b = n) ∧ (a ≤ b ∧ b ≤ n) ∧ k a b

def capsC (s : St) : List Operand → Option (List C)
  | [] => some []
  | x :: r => match opn s x, capsC s r with
    | .c c, some cs => some (c :: cs)
    | _, _ => none

def convC (tab : Nat → Option TD) (ah : List B) (ks kd : TK) (x : C) (k : A → Prop) : Prop :=
  match ks, kd, x with
  | .int _, .int q, .int _ n => k (.c (.int q (q.wrap n)))
  | .str, .str, .str l => k (.c (.str l))
  | .sl e, .str, x => match tab e with
    | some d => match d.kind, x with
      | .int .u8, .nil => k (.c (.str []))
      | .int .u8, x => ∃ l : List UInt8, slOf ah x = some ⟨1, UInt8, bytesC, l⟩ ∧ k (.c (.str l))
      | _, _ => False
    | none => False
  | _, _, _ => False

def LS.on (L : LS) (k : (sz : Nat) → (α : Type) → (enc : α → List C) → (l : List α) → Prop) : Prop := match L with
  | ⟨sz, α, enc, l⟩ => k sz α enc l
theorem LS.on_eq {L : LS} {k : (sz : Nat) → (α : Type) → (enc : α → List C) → (l : List α) → Prop} : L.on k = k L.sz L.α L.enc L.l := rfl

def isNilP : Value → Bool
  | .pointer none => true
  | _ => false
theorem isNilP_eq {v : Value} (h : isNilP v = true) : v = .pointer none := by
  unfold isNilP at h
  split at h
  · rfl
  · cases h

def Y1 (tab : Nat → Option TD) (s : St) (op : Op) (k : A → Prop) : Prop :=
  match op with
  | .move x => k (opn s x)
  | .assign x => k (opn s x)
  | .pick c a b => match opn s c with
    | .c (.bool q) => @Bool.rec (fun _ => Prop) (k (opn s b)) (k (opn s a)) q
    | _ => False
  | .load t x => match tab t with
    | some d => match opn s x with
      | .c (.ptr j o) => match s.ah[j]? with
        | some (.box cs) => rd d (cs.drop o) k
        | _ => False
      | .c (.bp cs) => rd d cs k
      | .c (.ep sz j i o) => match (s.ah[j]?).bind rowOf with
        | some L => L.on fun sz0 α0 enc0 l0 => bif Nat.beq sz sz0 then ∃ x : α0, l0[i]? = some x ∧ rd d ((enc0 x).drop o) k else False
        | none => False
      | _ => False
    | none => False
  | .nilCheck x => match opn s x with
    | .c (.ptr j o) => k (.c (.ptr j o))
    | .c (.bp cs) => k (.c (.bp cs))
    | .c (.ep sz j i o) => k (.c (.ep sz j i o))
    | _ => False
  | .binOp op t x y _ => match opn s x, opn s y with
    | .c (.bool a), .c (.bool b) => match tab t, op with
      | some d, .eql => match d.kind with | .bool => k (.c (.bool (a == b))) | _ => False
      | some d, .neq => match d.kind with | .bool => k (.c (.bool (!(a == b)))) | _ => False
      | _, _ => False
    | .c (.ptr _ _), .c (.raw v) => match tab t, op with
      | some d, .eql => match d.kind with | .ptr => bif isNilP v then k (.c (.bool false)) else False | _ => False
      | some d, .neq => match d.kind with | .ptr => bif isNilP v then k (.c (.bool true)) else False | _ => False
      | _, _ => False
    | .c a, .c .nil => match tab t, op with
      | some d, .eql => match d.kind with
        | .sl _ => match a with
          | .nil => k (.c (.bool true))
          | a => match slOf s.ah a with
            | some L => L.on fun _ _ _ l0 => ∀ q : Bool, (q = true → l0 = []) → k (.c (.bool q))
            | none => False
        | _ => False
      | _, _ => False
    | .c a, .c b => arith op a b k
    | .st cs, .st ds => match tab t, op with
      | some d, .eql => bif d.cmp && (likeB d.zero cs && likeB d.zero ds) then k (.c (.bool (@decide (EqCs cs ds) (Classical.propDecidable _)))) else False
      | some d, .neq => bif d.cmp && (likeB d.zero cs && likeB d.zero ds) then k (.c (.bool (!(@decide (EqCs cs ds) (Classical.propDecidable _))))) else False
      | _, _ => False
    | _, _ => False
  | .unOp .not _ x => match opn s x with
    | .c (.bool b) => k (.c (.bool (!b)))
    | _ => False
  | .unOp .neg _ x => match opn s x with
    | .c (.int .i64 n) => I64 (0 - n) ∧ k (.c (.int .i64 (0 - n)))
    | _ => False
  | .convert a b x => match tab a, tab b, opn s x with
    | some d, some d', .c x => convC tab s.ah d.kind d'.kind x k
    | _, _, _ => False
  | .build t parts => match tab t with
    | some d => match d.kind with
      | .struct offs => buildC tab offs (parts.toList.map fun p => (p.1, opn s p.2)) d.zero fun cs => k (.st cs)
      | .arr n e => match tab e with
        | some de => buildC tab ((List.range n).map fun i => (e, i * de.size)) (parts.toList.map fun p => (p.1, opn s p.2)) d.zero fun cs => k (.st cs)
        | none => False
      | _ => False
    | none => False
  | .fieldAddr t x i => match tab t with
    | some d => match d.kind with
      | .struct offs => match offs[i]? with
        | some (e, off) => match tab e with
          | some de => bif Nat.beq de.size 0 then False else match opn s x with
            | .c (.ptr j o) => k (.c (.ptr j (o + off)))
            | .c (.bp cs) => k (.c (.bp (cs.drop off)))
            | .c (.ep sz j i o) => k (.c (.ep sz j i (o + off)))
            | _ => False
          | none => False
        | none => False
      | _ => False
    | none => False
  | .field t x i => match tab t with
    | some d => match d.kind with
      | .struct offs => match offs[i]? with
        | some (e, off) => match tab e, opn s x with
          | some de, .st cs => rd de (cs.drop off) k
          | _, _ => False
        | none => False
      | _ => False
    | none => False
  | .indexAddr t x y => match tab t, asInt s y with
    | some d, some n => match d.kind with
      | .sl e => match tab e, opn s x with
        | some de, .c c => match c with
          | .ls sz α enc l => ∃ (i : Nat) (x : α), n = (i : Int) ∧ l[i]? = some x ∧ bif Nat.beq sz de.size then k (.c (.bp (enc x))) else False
          | .bs sz α enc l => ∃ (i : Nat) (x : α), n = (i : Int) ∧ l[i]? = some x ∧ bif Nat.beq sz de.size then k (.c (.bp (enc x))) else False
          | .rw j => match (s.ah[j]?).bind rowOf with
            | some L => L.on fun sz0 _ _ l0 => ∃ i : Nat, (n = (i : Int) ∧ i < l0.length) ∧ bif Nat.beq sz0 de.size then k (.c (.ep sz0 j i 0)) else False
            | none => False
          | .sw sz j lo m => match (s.ah[j]?).bind rowOf with
            | some L => L.on fun sz0 _ _ l0 => bif Nat.beq sz de.size then ∃ i : Nat, (n = (i : Int) ∧ i < m) ∧ k (.c (.ep sz j (lo + i) 0)) else False
            | none => False
          | _ => False
        | _, _ => False
      | .arr len e => match tab e, opn s x with
        | some de, .c (.ptr j o) => ∃ i : Nat, (n = (i : Int) ∧ i < len) ∧ k (.c (.ptr j (o + i * de.size)))
        | some de, .c (.bp cs) => ∃ i : Nat, (n = (i : Int) ∧ i < len) ∧ k (.c (.bp (cs.drop (i * de.size))))
        | _, _ => False
      | _ => False
    | _, _ => False
  | .index t x y => match tab t, asInt s y with
    | some d, some n => match d.kind with
      | .str => match opn s x with
        | .c (.str l) => ∃ (i : Nat) (b : UInt8), n = (i : Int) ∧ l[i]? = some b ∧ k (.c (.int .u8 b.toNat))
        | _ => False
      | .arr len e => match tab e, opn s x with
        | some de, .st cs => ∃ i : Nat, (n = (i : Int) ∧ i < len) ∧ rd de (cs.drop (i * de.size)) k
        | _, _ => False
      | _ => False
    | _, _ => False
  | .slice t x lo hi none => match tab t, asInt? s lo, asInt? s hi with
    | some d, some lo, some hi => match d.kind with
      | .str => match opn s x with
        | .c (.str l) => bounds l.length lo hi fun a b => k (.c (.str ((l.take b).drop a)))
        | _ => False
      | .sl e => match tab e, opn s x with
        | some de, .c c => match c with
          | .nil => bounds 0 lo hi fun _ _ => k (.c .nil)
          | .ls sz α enc l => bif Nat.beq sz de.size then bounds l.length lo hi fun a b => k (.c (.ls sz α enc ((l.drop a).take (b - a)))) else False
          | .bs sz α enc l => bif Nat.beq sz de.size then bounds l.length lo hi fun a b => k (.c (.bs sz α enc ((l.drop a).take (b - a)))) else False
          | .rw j => match (s.ah[j]?).bind rowOf with
            | some L => L.on fun sz0 _ _ l0 => bif Nat.beq sz0 de.size then bounds l0.length lo hi fun a b => k (.c (.sw sz0 j a (b - a))) else False
            | none => False
          | .sw sz j l0 n0 => match (s.ah[j]?).bind rowOf with
            | some L => bif Nat.beq sz de.size then bounds n0 lo hi fun a b => k (.c (.sw sz j (l0 + a) (b - a))) else False
            | none => False
          | _ => False
        | _, _ => False
      | _ => False
    | _, _, _ => False
  | .extract x i => match opn s x with
    | .tup ts => match ts[i]? with
      | some (g, cs) => bif g then k (.st cs) else match cs with | [c] => k (.c c) | _ => False
      | none => False
    | _ => False
  | .makeFunc (.func f) first caps => match first.toList, capsC s caps.toList with
    | [], some cs => k (.c (.fn f cs))
    | _, _ => False
  | .makeInterface t x => match tab t with
    | some d => match d.kind with
      | .other => False
      | _ => match opn s x with
        | .c c => k (.c (.iface t false [c]))
        | .st cs => k (.c (.iface t true cs))
        | _ => False
    | none => False
  | .typeAssert x _ t true => match tab t with
    | some d => match d.kind with
      | .other => False
      | _ => match opn s x with
        | .c (.iface t' g cs) => bif Nat.beq t' t && (g || Nat.beq cs.length 1) then k (.tup [(g, cs), (false, [.bool true])]) else False
        | _ => False
    | none => False
  | .call c => match c.callee, c.args.toList, c.argTypes.toList with
    | .builtin .len, [x], [t] => match tab t, opn s x with
      | some d, .c c => match d.kind, c with
        | .str, .str l => k (.c (.int .i64 l.length))
        | .sl _, .nil => k (.c (.int .i64 0))
        | .sl _, c => match slOf s.ah c with
          | some L => L.on fun _ _ _ l0 => k (.c (.int .i64 l0.length))
          | none => False
        | _, _ => False
      | _, _ => False
    | .builtin .max, [x, y], _ => match opn s x, opn s y with
      | .c (.int .i64 a), .c (.int .i64 b) => k (.c (.int .i64 (max a b)))
      | _, _ => False
    | .builtin .min, [x, y], _ => match opn s x, opn s y with
      | .c (.int .i64 a), .c (.int .i64 b) => k (.c (.int .i64 (min a b)))
      | _, _ => False
    | _, _, _ => False
  | _ => False

/-- operations whose value does not hang on memory -/
def isN : Op → Bool
  | .load .. => false
  | .convert .. => false
  | _ => true
end Go.AM
