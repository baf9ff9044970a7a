/- WALKS, 3: objects. -/
import Derived.Test.YtkkjjbejkcgmfaaG2
namespace Go.Nest
open Go Go.AM Go.Proofs
open Go.Proofs.Ytkkjjbejkcgmfaa (tab tabOk)
set_option linter.unusedVariables false
set_option linter.unusedSimpArgs false
set_option maxRecDepth 4000

/-- what is wrong with an entry behind another one -/
def entF (prev : Option (List UInt8)) (e : Ent) : Int :=
  if nameC e.name ≠ 0 then nameC e.name else if e.mode < 1 ∨ 3 < e.mode then 6 else if e.id < 0 ∨ e.repo < 0 ∨ 4 ≤ e.repo then 1 else if e.mode ≠ 3 ∧ e.repo ≠ 0 then 7
  else match prev with
    | some p => if Op.bytesLess p e.name = true then 0 else 8
    | none => 0
def entsF : Option (List UInt8) → List Ent → Int
  | _, [] => 0
  | prev, e :: r => if entF prev e = 0 then entsF (some e.name) r else entF prev e
def prevN (l : List Ent) : Nat → Option (List UInt8)
  | 0 => none
  | i + 1 => (l[i]?).map (·.name)
def treeC (l : List Ent) : Int := if 60 < l.length then 5 else entsF none l

theorem entsF_at {l : List Ent} {i : Nat} (h : i < l.length) (hi : entsF none l = entsF (prevN l i) (l.drop i)) : entsF none l = if entF (prevN l i) l[i] = 0 then entsF (prevN l (i + 1)) (l.drop (i + 1)) else entF (prevN l i) l[i] := by
  rw [hi, List.drop_eq_getElem_cons h]
  have : prevN l (i + 1) = some l[i].name := by simp [prevN, h]
  rw [this, entsF]

theorem prevN_pos {l : List Ent} {i : Nat} (h : 0 < i) (hi : i < l.length) : prevN l i = some (l[i - 1]'(by omega)).name := by
  cases i with
  | zero => omega
  | succ j => simp only [prevN]; rw [List.getElem?_eq_getElem (by omega)]; rfl

theorem tree_spec (l : List Ent) : Does Try.prog 75 [.c (.bs 4 Ent encEn l)] [] (Rt (.c (.int .i64 (treeC l))) []) := by
  refine X_spec ⟨Try.prog, tab, 69, 0⟩ tabOk (by kernel_rfl) Try.call75 Try.func75 rfl rfl (by kernel_rfl) rfl ?_
  intro hb; have hb : l.length ≤ 9223372036854775807 := hb.1.1
  repeat' ((conv => whnf); first | (refine dec (fun h => ?_) (fun h => ?_) <;> try contradiction) | (refine decN (fun h => ?_) (fun h => ?_) <;> try contradiction) | refine booN (fun h => ?_) (fun h => ?_) | refine boo (fun h => ?_) (fun h => ?_) | refine ⟨i64 (by omega) (by omega), ?_⟩ | refine ⟨_, _, rfl, List.getElem?_eq_getElem (by omega), ?_⟩ | refine ⟨_, ⟨rfl, by omega⟩, ?_⟩ | refine ⟨_, List.getElem?_eq_getElem (by omega), ?_⟩ | refine rtB ?_ | refine rtI ?_ | refine rtC ?_ rfl | fail)
  · unfold treeC; rw [if_pos (by omega)]
  (conv => whnf)
  have ht : treeC l = entsF none l := by unfold treeC; rw [if_neg (by omega)]
  rw [ht]
  refine lp Nat (fun i => ⟨[(0, .c (.bs 4 Ent encEn l)), (9, .c (.bs 4 Ent encEn l)), (10, .c (.int .i64 l.length)), (11, .c (.int .i64 i))], []⟩) (fun i => i ≤ l.length ∧ entsF none l = entsF (prevN l i) (l.drop i)) (fun i => l.length - i) 0 [] [] ?_ ?_ (fun i hi => ?_)
  · simp [prevN]
  · repeat' first | exact trivial | exact rfl | refine And.intro ?_ ?_
  (conv => whnf)
  refine dec (fun h4 => ?_) (fun h4 => ?_)
  · have hlt : i < l.length := by omega
    have hat := entsF_at hlt hi.2
    repeat' ((conv => whnf); first | (refine dec (fun h => ?_) (fun h => ?_) <;> try contradiction) | (refine decN (fun h => ?_) (fun h => ?_) <;> try contradiction) | refine booN (fun h => ?_) (fun h => ?_) | refine boo (fun h => ?_) (fun h => ?_) | refine ⟨i64 (by omega) (by omega), ?_⟩ | refine ⟨_, _, rfl, List.getElem?_eq_getElem (by omega), ?_⟩ | refine ⟨_, ⟨rfl, by omega⟩, ?_⟩ | refine ⟨_, List.getElem?_eq_getElem (by omega), ?_⟩ | refine rtB ?_ | refine rtI ?_ | refine rtC ?_ rfl | fail)
    (conv => whnf)
    refine cl [] [] (name_spec l[i].name) (by (repeat' first | exact trivial | exact rfl | refine And.intro ?_ ?_); done) (by first | exact trivial | exact rfl) ?_
    have leaf : ∀ {c : Int}, entF (prevN l i) l[i] = c → c ≠ 0 → c = entsF none l := fun h1 h2 => by rw [hat, h1, if_neg h2]
    repeat' ((conv => whnf); first | (refine dec (fun h => ?_) (fun h => ?_) <;> try contradiction) | (refine decN (fun h => ?_) (fun h => ?_) <;> try contradiction) | refine booN (fun h => ?_) (fun h => ?_) | refine boo (fun h => ?_) (fun h => ?_) | refine ⟨i64 (by omega) (by omega), ?_⟩ | refine ⟨_, _, rfl, List.getElem?_eq_getElem (by omega), ?_⟩ | refine ⟨_, ⟨rfl, by omega⟩, ?_⟩ | refine ⟨_, List.getElem?_eq_getElem (by omega), ?_⟩ | refine rtB ?_ | refine rtI ?_ | refine rtC ?_ rfl | fail)
    all_goals first | (refine leaf ?_ ?_ <;> simp [entF, *]; done) | skip
    all_goals
      (conv => whnf)
      refine ⟨false, (.l [0, 1, 2, 3, 4, 5, 6, 7, 8, 9, 10, 11, 12, 13]), by kernel_rfl, .inl ?_⟩
      repeat' ((conv => whnf); first | (refine dec (fun h => ?_) (fun h => ?_) <;> try contradiction) | (refine decN (fun h => ?_) (fun h => ?_) <;> try contradiction) | refine booN (fun h => ?_) (fun h => ?_) | refine boo (fun h => ?_) (fun h => ?_) | refine ⟨i64 (by omega) (by omega), ?_⟩ | refine ⟨_, _, rfl, List.getElem?_eq_getElem (by omega), ?_⟩ | refine ⟨_, ⟨rfl, by omega⟩, ?_⟩ | refine ⟨_, List.getElem?_eq_getElem (by omega), ?_⟩ | refine rtB ?_ | refine rtI ?_ | refine rtC ?_ rfl | fail)
      · (conv => whnf)
        refine ⟨i - 1, l[i - 1], by omega, List.getElem?_eq_getElem (by omega), ?_⟩
        have hp := prevN_pos (l := l) (i := i) (by omega) hlt
        repeat' ((conv => whnf); first | (refine dec (fun h => ?_) (fun h => ?_) <;> try contradiction) | (refine decN (fun h => ?_) (fun h => ?_) <;> try contradiction) | refine booN (fun h => ?_) (fun h => ?_) | refine boo (fun h => ?_) (fun h => ?_) | refine ⟨i64 (by omega) (by omega), ?_⟩ | refine ⟨_, _, rfl, List.getElem?_eq_getElem (by omega), ?_⟩ | refine ⟨_, ⟨rfl, by omega⟩, ?_⟩ | refine ⟨_, List.getElem?_eq_getElem (by omega), ?_⟩ | refine rtB ?_ | refine rtI ?_ | refine rtC ?_ rfl | fail)
        · refine leaf ?_ (by decide); simp [entF, *]
        · refine ag (i + 1) [] [] ⟨hlt, ?_⟩ (by simp only []; omega) ?_
          · rw [hat, if_pos]; simp [entF, *]
          repeat' first | exact trivial | exact rfl | refine And.intro ?_ ?_
      · have hp : prevN l i = none := by
          obtain rfl : i = 0 := by omega
          rfl
        repeat' ((conv => whnf); first | (refine dec (fun h => ?_) (fun h => ?_) <;> try contradiction) | (refine decN (fun h => ?_) (fun h => ?_) <;> try contradiction) | refine booN (fun h => ?_) (fun h => ?_) | refine boo (fun h => ?_) (fun h => ?_) | refine ⟨i64 (by omega) (by omega), ?_⟩ | refine ⟨_, _, rfl, List.getElem?_eq_getElem (by omega), ?_⟩ | refine ⟨_, ⟨rfl, by omega⟩, ?_⟩ | refine ⟨_, List.getElem?_eq_getElem (by omega), ?_⟩ | refine rtB ?_ | refine rtI ?_ | refine rtC ?_ rfl | fail)
        refine ag (i + 1) [] [] ⟨hlt, ?_⟩ (by simp only []; omega) ?_
        · rw [hat, if_pos]; simp [entF, *]
        repeat' first | exact trivial | exact rfl | refine And.intro ?_ ?_
  · repeat' ((conv => whnf); first | (refine dec (fun h => ?_) (fun h => ?_) <;> try contradiction) | (refine decN (fun h => ?_) (fun h => ?_) <;> try contradiction) | refine booN (fun h => ?_) (fun h => ?_) | refine boo (fun h => ?_) (fun h => ?_) | refine ⟨i64 (by omega) (by omega), ?_⟩ | refine ⟨_, _, rfl, List.getElem?_eq_getElem (by omega), ?_⟩ | refine ⟨_, ⟨rfl, by omega⟩, ?_⟩ | refine ⟨_, List.getElem?_eq_getElem (by omega), ?_⟩ | refine rtB ?_ | refine rtI ?_ | refine rtC ?_ rfl | fail)
    have := hi.2
    rw [List.drop_of_length_le (by omega)] at this
    rw [this]; rfl
end Go.Nest
