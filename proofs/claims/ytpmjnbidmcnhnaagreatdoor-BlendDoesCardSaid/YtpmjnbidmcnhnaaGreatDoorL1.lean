/- part -/
import Derived.Test.YtpmjnbidmcnhnaaGreatDoorAm18
set_option linter.unusedVariables false
set_option linter.unusedSimpArgs false
section
namespace Go.AM
open Go Go.NB
def Rt (x : A) (ah : List B) (o : Out) (ah' : List B) : Prop := o = .ret x ∧ ah' = ah
theorem I6 {n : Int} {p : Prop} (h : p) (h1 : -9223372036854775808 ≤ n := by omega) (h2 : n ≤ 9223372036854775807 := by omega) : I64 n ∧ p := ⟨⟨h1, h2⟩, h⟩
theorem i64 {n : Int} (h1 : -9223372036854775808 ≤ n) (h2 : n ≤ 9223372036854775807) : I64 n := ⟨h1, h2⟩
theorem rtC {ah : List B} {x0 X : C} (h : x0 = X) (hc : closed1 X = true) : ∃ js ρ x tah, lex 0 js ρ ah (.c x0) x tah ∧ (cleanA x && tah.all cleanBlk) = true ∧ Rt (.c X) [] (.ret x) tah := by
 subst h
 refine ⟨[], [], .c x0, [], ?_, ?_, rfl, rfl⟩
 ·refine And.intro ?_ trivial
  cases x0 <;> first | rfl | cases hc
 ·cases x0 <;> first | rfl | cases hc
theorem rtB {ah : List B} {b b' : Bool} (h : b = b') : ∃ js ρ x tah, lex 0 js ρ ah (.c (.bool b)) x tah ∧ (cleanA x && tah.all cleanBlk) = true ∧ Rt (.c (.bool b')) [] (.ret x) tah := rtC (congrArg C.bool h) rfl
theorem rtI {ah : List B} {n n' : Int} (h : n = n') : ∃ js ρ x tah, lex 0 js ρ ah (.c (.int .i64 n)) x tah ∧ (cleanA x && tah.all cleanBlk) = true ∧ Rt (.c (.int .i64 n')) [] (.ret x) tah := rtC (congrArg (C.int .i64) h) rfl
theorem rt {Q : Out → List B → Prop} {n0 : Nat} {ah : List B} {x0 X : A} {Y : List B} (js : List Nat) (ρ : List Rn) (h : lex n0 js ρ ah x0 X Y) (hc : (cleanA X && Y.all cleanBlk) = true) (hQ : Q (.ret X) Y) : ∃ js ρ x tah, lex n0 js ρ ah x0 x tah ∧ (cleanA x && tah.all cleanBlk) = true ∧ Q (.ret x) tah :=
 ⟨js, ρ, X, Y, h, hc, hQ⟩
theorem cl {d : Bool} {P : Program} {f : FuncId} {ah : List B} {env : List (Nat × A)} {args : List A} {g : G} {k : List B → A → Prop} {kp : A → St → Prop} {targs : List A} {tah Y : List B} {X : A} (js m : List Nat) (hs : DoesD d P f targs tah (Rt X Y))
  (hk : ap2 k (mrg m (frz js ah) Y) (renA (sig m (frz js ah).length) X)) (hok : CallOk (frz js ah) m args targs tah := by (repeat' first | exact trivial | exact rfl | refine And.intro ?_ ?_); first | done | fail) (hg : g.call m = true := by rfl) :
  ∃ (js m : List Nat) (targs : List A) (tah : List B) (Q : Out → List B → Prop), DoesD d P f targs tah Q ∧ CallOk (frz js ah) m args targs tah ∧ g.call m = true ∧
   ∀ out ah', Q out ah' → match out with
    | .ret a => ap2 k (mrg m (frz js ah) ah') (renA (sig m (frz js ah).length) a)
    | .pan a => ap2 kp (renA (sig m (frz js ah).length) a) ⟨env, mrg m (frz js ah) ah'⟩ :=
 ⟨js, m, targs, tah, _, hs, hok, hg, fun out ah' ⟨h1, h2⟩ => by subst h1; subst h2; exact hk⟩
theorem rx {n0 : Nat} {ah : List B} {x0 X : A} {Y : List B} (js : List Nat) (ρ : List Rn) (h : lex n0 js ρ ah x0 X Y := by repeat' first | exact trivial | exact rfl | refine And.intro ?_ ?_) (hc : (cleanA X && Y.all cleanBlk) = true := by rfl) : ∃ js ρ x tah, lex n0 js ρ ah x0 x tah ∧ (cleanA x && tah.all cleanBlk) = true ∧ Rt X Y (.ret x) tah :=
 ⟨js, ρ, X, Y, h, hc, rfl, rfl⟩
theorem lp {n0 : Nat} {s0 : St} {R : ∀ (ι : Type) (I : ι → St) (inv : ι → Prop) (m : ι → Nat), ι → Prop} (ι : Type) (I : ι → St) (inv : ι → Prop) (m : ι → Nat) (y : ι) (js : List Nat) (ρ : List Rn) (h1 : inv y) (h2 : le n0 js ρ s0 (I y)) (h3 : ∀ x, inv x → R ι I inv m x) :
  ∃ (ι : Type) (I : ι → St) (inv : ι → Prop) (m : ι → Nat), (∃ y, inv y ∧ LE n0 s0 (I y)) ∧ ∀ x, inv x → R ι I inv m x :=
 ⟨ι, I, inv, m, ⟨y, h1, js, ρ, h2⟩, h3⟩
theorem ag {ι : Type} {n0 : Nat} {I : ι → St} {inv : ι → Prop} {m : ι → Nat} {lt : Nat} {s : St} (y : ι) (js : List Nat) (ρ : List Rn) (h1 : inv y) (h2 : m y < lt) (h3 : le n0 js ρ s (I y)) : ∃ y, (inv y ∧ m y < lt) ∧ LE n0 s (I y) := ⟨y, ⟨h1, h2⟩, js, ρ, h3⟩
end Go.AM
end
/- part -/
section
namespace Go.Nest
open Go Go.AM
structure Ent where
 name : List UInt8
 mode : Int
 id : Int
 repo : Int
 deriving DecidableEq
structure Ob where
 kind : Int
 bytes : List UInt8
 entries : List Ent
 tree : Int
 parents : List Int
 text : List UInt8
 deriving DecidableEq
structure Fi where
 path : List UInt8
 mode : Int
 id : Int
 repo : Int
 deriving DecidableEq
structure Ch where
 path : List UInt8
 old : Fi
 new : Fi
 deriving DecidableEq
structure Dc where
 path : List UInt8
 bytes : List UInt8
 deriving DecidableEq
structure Rf where
 name : List UInt8
 id : Int
 deriving DecidableEq
structure Mv where
 name : List UInt8
 old : Int
 new : Int
 deriving DecidableEq
structure It where
 path : List UInt8
 bytes : List UInt8
 link : Bool
 id : Int
 repo : Int
 deriving DecidableEq
def encEn (e : Ent) : List C := [.str e.name, .int .i64 e.mode, .int .i64 e.id, .int .i64 e.repo]
def encOb (o : Ob) : List C := [.int .i64 o.kind, .ls 1 UInt8 bytesC o.bytes, .ls 4 Ent encEn o.entries, .int .i64 o.tree, .ls 1 Int encI o.parents, .str o.text]
def bOb (o : Ob) : List C := [.int .i64 o.kind, .bs 1 UInt8 bytesC o.bytes, .bs 4 Ent encEn o.entries, .int .i64 o.tree, .bs 1 Int encI o.parents, .str o.text]
def encFi (f : Fi) : List C := [.str f.path, .int .i64 f.mode, .int .i64 f.id, .int .i64 f.repo]
def encDc (d : Dc) : List C := [.str d.path, .ls 1 UInt8 bytesC d.bytes]
def encPr (p : Int × Int) : List C := [.int .i64 p.1, .int .i64 p.2]
def encTr (p : Int × Int × Int) : List C := [.int .i64 p.1, .int .i64 p.2.1, .int .i64 p.2.2]
structure Sn where
 docs : List Dc
 parents : List Int
 text : List UInt8
 deriving DecidableEq
def encSn (s : Sn) : List C := [.ls 2 Dc encDc s.docs, .ls 1 Int encI s.parents, .str s.text]
def nl (sz : Nat) (α : Type) (enc : α → List C) : List α → C
 | [] => .nil
 | x :: l => .ls sz α enc (x :: l)
def encDcN (d : Dc) : List C := [.str d.path, nl 1 UInt8 bytesC d.bytes]
structure Dt where
 what : Int
 a : Int
 b : Int
 k : Int
 odd : Bool
 r0 : List Int
 r1 : List Int
 r2 : List Int
 r3 : List Int
def encDt (x : Dt) : List C := [.int .i64 x.what, .int .i64 x.a, .int .i64 x.b, .int .i64 x.k, .bool x.odd, .ls 1 Int encI x.r0, .ls 1 Int encI x.r1, .ls 1 Int encI x.r2, .ls 1 Int encI x.r3]
structure Mt where
 k : Int
 to : Int
 repo : Int
 path : List UInt8
def encMt (x : Mt) : List C := [.int .i64 x.k, .int .i64 x.to, .int .i64 x.repo, .str x.path]
end Go.Nest
end
/- part -/
section

namespace Go.Nest
open Go Go.AM
theorem tw_at {α : Type} {p : α → Bool} : ∀ {l : List α} {k : Nat}, k ≤ l.length → (∀ g ∈ l.take k, p g = true) → (∀ h : k < l.length, p l[k] = false) → l.takeWhile p = l.take k ∧ l.dropWhile p = l.drop k
 | [], 0, _, _, _ => ⟨rfl, rfl⟩
 | x :: l, 0, _, _, h => by have := h (by simp); simp at this; simp [this]
 | x :: l, k + 1, hk, h1, h2 => by
  have hx := h1 x (by simp)
  obtain ⟨h3, h4⟩ := tw_at (l := l) (k := k) (by simpa using hk) (fun g hg => h1 g (by simp [hg])) (fun h => h2 (by simpa using h))
  simp [hx, h3, h4]
 | [], k + 1, h, _, _ => by simp at h
end Go.Nest
end
