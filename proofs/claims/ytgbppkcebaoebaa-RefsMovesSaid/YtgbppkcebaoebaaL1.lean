/- THINGS of the program, as lists of cells. -/
import Derived.Test.YtgbppkcebaoebaaAm19
section
namespace Go.Nest
open Go Go.AM

structure Ent where
  name : List UInt8
  mode : Int
  id : Int
  repo : Int
  deriving DecidableEq
structure Ob where
  kind : Int
  bytes : List UInt8
  entries : List Ent
  tree : Int
  parents : List Int
  text : List UInt8
  deriving DecidableEq
structure Fi where
  path : List UInt8
  mode : Int
  id : Int
  repo : Int
  deriving DecidableEq
structure Ch where
  path : List UInt8
  old : Fi
  new : Fi
  deriving DecidableEq
structure Dc where
  path : List UInt8
  bytes : List UInt8
  deriving DecidableEq
/-- a name, and a number -/
structure Rf where
  name : List UInt8
  id : Int
  deriving DecidableEq
structure Mv where
  name : List UInt8
  old : Int
  new : Int
  deriving DecidableEq
/-- what lies at a path -/
structure It where
  path : List UInt8
  bytes : List UInt8
  link : Bool
  id : Int
  repo : Int
  deriving DecidableEq

def encEn (e : Ent) : List C := [.str e.name, .int .i64 e.mode, .int .i64 e.id, .int .i64 e.repo]
def encOb (o : Ob) : List C := [.int .i64 o.kind, .ls 1 UInt8 bytesC o.bytes, .ls 4 Ent encEn o.entries, .int .i64 o.tree, .ls 1 Int encI o.parents, .str o.text]
/-- an object whose lists are lent -/
def bOb (o : Ob) : List C := [.int .i64 o.kind, .bs 1 UInt8 bytesC o.bytes, .bs 4 Ent encEn o.entries, .int .i64 o.tree, .bs 1 Int encI o.parents, .str o.text]
def encFi (f : Fi) : List C := [.str f.path, .int .i64 f.mode, .int .i64 f.id, .int .i64 f.repo]
def encCh (c : Ch) : List C := [.str c.path, .str c.old.path, .int .i64 c.old.mode, .int .i64 c.old.id, .int .i64 c.old.repo, .str c.new.path, .int .i64 c.new.mode, .int .i64 c.new.id, .int .i64 c.new.repo]
def encDc (d : Dc) : List C := [.str d.path, .ls 1 UInt8 bytesC d.bytes]
def encRf (r : Rf) : List C := [.str r.name, .int .i64 r.id]
def encMv (m : Mv) : List C := [.str m.name, .int .i64 m.old, .int .i64 m.new]
def encIt (x : It) : List C := [.str x.path, .ls 1 UInt8 bytesC x.bytes, .bool x.link, .int .i64 x.id, .int .i64 x.repo]
def encPr (p : Int × Int) : List C := [.int .i64 p.1, .int .i64 p.2]
def encTr (p : Int × Int × Int) : List C := [.int .i64 p.1, .int .i64 p.2.1, .int .i64 p.2.2]
/-- a commit to be made -/
structure Sn where
  docs : List Dc
  parents : List Int
  text : List UInt8
  deriving DecidableEq
def encSn (s : Sn) : List C := [.ls 2 Dc encDc s.docs, .ls 1 Int encI s.parents, .str s.text]
/-- as they are built: what is empty is nil -/
def nl (sz : Nat) (α : Type) (enc : α → List C) : List α → C
  | [] => .nil
  | x :: l => .ls sz α enc (x :: l)
def encDcN (d : Dc) : List C := [.str d.path, nl 1 UInt8 bytesC d.bytes]
def encSnN (s : Sn) : List C := [nl 2 Dc encDcN s.docs, nl 1 Int encI s.parents, .str s.text]
end Go.Nest
end
/- PLAIN LEMMAS on lists: what stands in front, lists that rise. -/
section
namespace Go.Nest
open Go Go.AM
set_option linter.unusedVariables false
set_option linter.unusedSimpArgs false
theorem tw_at {α : Type} {p : α → Bool} : ∀ {l : List α} {k : Nat}, k ≤ l.length → (∀ g ∈ l.take k, p g = true) → (∀ h : k < l.length, p l[k] = false) → l.takeWhile p = l.take k ∧ l.dropWhile p = l.drop k
  | [], 0, _, _, _ => ⟨rfl, rfl⟩
  | x :: l, 0, _, _, h => by have := h (by simp); simp at this; simp [this]
  | x :: l, k + 1, hk, h1, h2 => by
    have hx := h1 x (by simp)
    obtain ⟨h3, h4⟩ := tw_at (l := l) (k := k) (by simpa using hk) (fun g hg => h1 g (by simp [hg])) (fun h => h2 (by simpa using h))
    simp [hx, h3, h4]
  | [], k + 1, h, _, _ => by simp at h
theorem rise_uniq : ∀ {a b : List Int}, a.Pairwise (· < ·) → b.Pairwise (· < ·) → (∀ x, x ∈ a ↔ x ∈ b) → a = b
  | [], [], _, _, _ => rfl
  | [], y :: b, _, _, h => by have := (h y).2 (by simp); cases this
  | x :: a, [], _, _, h => by have := (h x).1 (by simp); cases this
  | x :: a, y :: b, ha, hb, h => by
    obtain ⟨h1, h2⟩ := List.pairwise_cons.1 ha
    obtain ⟨h3, h4⟩ := List.pairwise_cons.1 hb
    have e : x = y := by
      rcases List.mem_cons.1 ((h x).1 (by simp)) with e | hx
      · exact e
      rcases List.mem_cons.1 ((h y).2 (by simp)) with e | hy
      · exact e.symm
      have := h1 y hy; have := h3 x hx; omega
    subst e
    congr 1
    refine rise_uniq h2 h4 fun z => ⟨fun hz => ?_, fun hz => ?_⟩
    · rcases List.mem_cons.1 ((h z).1 (by simp [hz])) with rfl | h5
      · have := h1 _ hz; omega
      · exact h5
    · rcases List.mem_cons.1 ((h z).2 (by simp [hz])) with rfl | h5
      · have := h3 _ hz; omega
      · exact h5
end Go.Nest
end
