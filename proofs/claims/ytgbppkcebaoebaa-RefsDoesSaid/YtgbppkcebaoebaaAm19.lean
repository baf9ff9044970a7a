/- THE ABSTRACT MACHINE, part 19: ways to go on and to end. -/
import Derived.Test.YtgbppkcebaoebaaAm18
namespace Go.AM
open Go Go.NB
set_option linter.unusedVariables false

/-- it returns this, and leaves the blocks so -/
def Rt (x : A) (ah : List B) (o : Out) (ah' : List B) : Prop := o = .ret x ∧ ah' = ah

theorem i64 {n : Int} (h1 : -9223372036854775808 ≤ n) (h2 : n ≤ 9223372036854775807) : I64 n := ⟨h1, h2⟩

/-- one cell, of no block -/
theorem rtC {ah : List B} {x0 X : C} (h : x0 = X) (hc : closed1 X = true) : ∃ js ρ x tah, lex 0 js ρ ah (.c x0) x tah ∧ (cleanA x && tah.all cleanBlk) = true ∧ Rt (.c X) [] (.ret x) tah := by
  subst h
  refine ⟨[], [], .c x0, [], ?_, ?_, rfl, rfl⟩
  · refine And.intro ?_ trivial
    cases x0 <;> first | rfl | cases hc
  · cases x0 <;> first | rfl | cases hc

theorem rtB {ah : List B} {b b' : Bool} (h : b = b') : ∃ js ρ x tah, lex 0 js ρ ah (.c (.bool b)) x tah ∧ (cleanA x && tah.all cleanBlk) = true ∧ Rt (.c (.bool b')) [] (.ret x) tah := rtC (congrArg C.bool h) rfl
theorem rtI {ah : List B} {n n' : Int} (h : n = n') : ∃ js ρ x tah, lex 0 js ρ ah (.c (.int .i64 n)) x tah ∧ (cleanA x && tah.all cleanBlk) = true ∧ Rt (.c (.int .i64 n')) [] (.ret x) tah := rtC (congrArg (C.int .i64) h) rfl

theorem rt {Q : Out → List B → Prop} {n0 : Nat} {ah : List B} {x0 X : A} {Y : List B} (js : List Nat) (ρ : List Rn) (h : lex n0 js ρ ah x0 X Y) (hc : (cleanA X && Y.all cleanBlk) = true) (hQ : Q (.ret X) Y) : ∃ js ρ x tah, lex n0 js ρ ah x0 x tah ∧ (cleanA x && tah.all cleanBlk) = true ∧ Q (.ret x) tah :=
  ⟨js, ρ, X, Y, h, hc, hQ⟩

/-- a call of what returns always the same way -/
theorem cl {P : Program} {f : FuncId} {ah : List B} {env : List (Nat × A)} {args : List A} {g : G} {k : List B → A → Prop} {kp : A → St → Prop} {targs : List A} {tah Y : List B} {X : A} (js m : List Nat) (hs : Does P f targs tah (Rt X Y))
    (hk : ap2 k (mrg m (frz js ah) Y) (renA (sig m (frz js ah).length) X)) (hok : CallOk (frz js ah) m args targs tah := by (repeat' first | exact trivial | exact rfl | refine And.intro ?_ ?_); first | done | fail) (hg : g.call m = true := by rfl) :
    ∃ (js m : List Nat) (targs : List A) (tah : List B) (Q : Out → List B → Prop), Does P f targs tah Q ∧ CallOk (frz js ah) m args targs tah ∧ g.call m = true ∧
      ∀ out ah', Q out ah' → match out with
        | .ret a => ap2 k (mrg m (frz js ah) ah') (renA (sig m (frz js ah).length) a)
        | .pan a => ap2 kp (renA (sig m (frz js ah).length) a) ⟨env, mrg m (frz js ah) ah'⟩ :=
  ⟨js, m, targs, tah, _, hs, hok, hg, fun out ah' ⟨h1, h2⟩ => by subst h1; subst h2; exact hk⟩
/-- the end -/
theorem rx {n0 : Nat} {ah : List B} {x0 X : A} {Y : List B} (js : List Nat) (ρ : List Rn) (h : lex n0 js ρ ah x0 X Y := by repeat' first | exact trivial | exact rfl | refine And.intro ?_ ?_) (hc : (cleanA X && Y.all cleanBlk) = true := by rfl) : ∃ js ρ x tah, lex n0 js ρ ah x0 x tah ∧ (cleanA x && tah.all cleanBlk) = true ∧ Rt X Y (.ret x) tah :=
  ⟨js, ρ, X, Y, h, hc, rfl, rfl⟩
/-- a loop -/
theorem lp {n0 : Nat} {s0 : St} {R : ∀ (ι : Type) (I : ι → St) (inv : ι → Prop) (m : ι → Nat), ι → Prop} (ι : Type) (I : ι → St) (inv : ι → Prop) (m : ι → Nat) (y : ι) (js : List Nat) (ρ : List Rn) (h1 : inv y) (h2 : le n0 js ρ s0 (I y)) (h3 : ∀ x, inv x → R ι I inv m x) :
    ∃ (ι : Type) (I : ι → St) (inv : ι → Prop) (m : ι → Nat), (∃ y, inv y ∧ LE n0 s0 (I y)) ∧ ∀ x, inv x → R ι I inv m x :=
  ⟨ι, I, inv, m, ⟨y, h1, js, ρ, h2⟩, h3⟩
/-- round again -/
theorem ag {ι : Type} {n0 : Nat} {I : ι → St} {inv : ι → Prop} {m : ι → Nat} {lt : Nat} {s : St} (y : ι) (js : List Nat) (ρ : List Rn) (h1 : inv y) (h2 : m y < lt) (h3 : le n0 js ρ s (I y)) : ∃ y, (inv y ∧ m y < lt) ∧ LE n0 s (I y) := ⟨y, ⟨h1, h2⟩, js, ρ, h3⟩
end Go.AM
