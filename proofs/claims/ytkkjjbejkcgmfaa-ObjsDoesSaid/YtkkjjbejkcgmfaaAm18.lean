/- THE ABSTRACT MACHINE, part 18: tables of types. -/
import Derived.Test.YtkkjjbejkcgmfaaAm17
namespace Go.AM
open Go Go.NB

def lkT : List (Nat × TD) → Nat → Option TD
  | [], _ => none
  | (t, d) :: r, s => bif Nat.beq t s then some d else lkT r s

/-- what is to be known of a type -/
structure Good (P : Program) (tab : Nat → Option TD) (t : Nat) (d : TD) : Prop where
  info : ∃ i z zs, (∀ w, (typeInfo t).run P w = .ok i w) ∧ i.size = d.size ∧ i.bytes = d.bytes ∧ i.zero = some z ∧ z.cells = List.toArray zs ∧ ∀ F H m, RL F H m d.zero zs
  agg : ∀ w, (isAgg t).run P w = .ok d.agg w
  one : d.agg = false → d.size = 1
  zl : d.zero.length = d.size
  kind : KOk P tab t d.kind
  cmp : d.cmp = true → CmpOk P t d.zero

def AllG (P : Program) (tab : Nat → Option TD) : List (Nat × TD) → Prop
  | [] => True
  | (t, d) :: r => Good P tab t d ∧ AllG P tab r

theorem AllG.get {P : Program} {tab : Nat → Option TD} : ∀ {l : List (Nat × TD)} {t : Nat} {d : TD}, AllG P tab l → lkT l t = some d → Good P tab t d
  | (t, d) :: r, s, d', ⟨h1, h2⟩, h => by
    unfold lkT at h
    by_cases e : Nat.beq t s = true
    · rw [e] at h
      cases h
      obtain rfl := Nat.eq_of_beq_eq_true e
      exact h1
    · rw [Bool.not_eq_true] at e
      rw [e] at h
      exact h2.get h

theorem tabOk_of {P : Program} {l : List (Nat × TD)} (h : AllG P (lkT l) l) : TabOk P (lkT l) :=
  ⟨fun _ _ ht => (h.get ht).info, fun _ _ ht => (h.get ht).agg, fun _ _ ht => (h.get ht).one, fun _ _ ht => (h.get ht).zl, fun _ _ ht => (h.get ht).kind, fun _ _ ht => (h.get ht).cmp⟩

/-! ### ways to go on -/
theorem dec {P A' B' : Prop} {i : Decidable P} (h1 : P → A') (h2 : ¬ P → B') : @Bool.rec (fun _ => Prop) B' A' (decide P) := by
  by_cases h : P
  · rw [decide_eq_true h]; exact h1 h
  · rw [decide_eq_false h]; exact h2 h
theorem decN {P A' B' : Prop} {i : Decidable P} (h1 : ¬ P → A') (h2 : P → B') : @Bool.rec (fun _ => Prop) B' A' (!decide P) := by
  by_cases h : P
  · rw [decide_eq_true h]; exact h2 h
  · rw [decide_eq_false h]; exact h1 h
theorem boo {b : Bool} {A' B' : Prop} (h1 : b = true → A') (h2 : b = false → B') : @Bool.rec (fun _ => Prop) B' A' b := by
  cases b
  · exact h2 rfl
  · exact h1 rfl
theorem booN {b : Bool} {A' B' : Prop} (h1 : b = false → A') (h2 : b = true → B') : @Bool.rec (fun _ => Prop) B' A' (!b) := by
  cases b
  · exact h1 rfl
  · exact h2 rfl

def encI (n : Int) : List C := [.int .i64 n]
def encS (l : List UInt8) : List C := [.str l]
def encBo (b : Bool) : List C := [.bool b]
def encL {α : Type} (sz : Nat) (enc : α → List C) (l : List α) : List C := [.ls sz α enc l]
end Go.AM
