/- part -/
import Derived.Test.YtpmjnbidmcnhnaaGreatDoorL0
set_option linter.unusedVariables false
set_option linter.unusedSimpArgs false
section

namespace Go.Nest
open Go Go.AM Go.Proofs
open Go.Proofs.YtpmjnbidmcnhnaaGreatDoor (tab tabOk)
set_option maxRecDepth 4000
theorem sameInts_spec (a b : List Int) : Does Tryz.prog 20 [.c (.bs 1 Int encI a), .c (.bs 1 Int encI b)] [] (Rt (.c (.bool (decide (a = b)))) []) := by
 refine X_spec (n := 26) (n0 := 0) tabOk Tryz.call20 Tryz.func20 ?_
 intro hb; have hb : a.length ≤ 9223372036854775807 := hb.1.1
 repeat' ((conv => whnf); first | (refine dec (fun h => ?_) (fun h => ?_) <;> try contradiction) | (refine decN (fun h => ?_) (fun h => ?_) <;> try contradiction) | refine booN (fun h => ?_) (fun h => ?_) | refine boo (fun h => ?_) (fun h => ?_) | refine ⟨i64 (by omega) (by omega), ?_⟩ | refine ⟨_, _, rfl, List.getElem?_eq_getElem (by omega), ?_⟩ | refine ⟨_, ⟨rfl, by omega⟩, ?_⟩ | refine ⟨_, List.getElem?_eq_getElem (by omega), ?_⟩ | refine rtB ?_ | refine rtI ?_ | refine rtC ?_ rfl | fail)
 ·exact ne_len h
 (conv => whnf)
 have hl : a.length = b.length := by omega
 refine lp Nat (fun i => ⟨[(0, .c (.bs 1 Int encI a)), (1, .c (.bs 1 Int encI b)), (5, .c (.int .i64 i))], []⟩) (fun i => i ≤ a.length ∧ a.take i = b.take i) (fun i => a.length - i) 0 [] [] ?_ ?_ (fun i hi => ?_)
 ·simp
 ·repeat' first | exact trivial | exact rfl | refine And.intro ?_ ?_
 (conv => whnf)
 refine dec (fun h4 => ?_) (fun h4 => ?_)
 ·have hlt : i < a.length := by omega
  have hlt' : i < b.length := by omega
  (conv => whnf)
  refine ⟨false, .grow, (.l [0, 1, 2, 3, 4, 5, 6, 7, 8]), by kernel_rfl, .inl ?_⟩
  repeat' ((conv => whnf); first | (refine dec (fun h => ?_) (fun h => ?_) <;> try contradiction) | (refine decN (fun h => ?_) (fun h => ?_) <;> try contradiction) | refine booN (fun h => ?_) (fun h => ?_) | refine boo (fun h => ?_) (fun h => ?_) | refine ⟨i64 (by omega) (by omega), ?_⟩ | refine ⟨_, _, rfl, List.getElem?_eq_getElem (by omega), ?_⟩ | refine ⟨_, ⟨rfl, by omega⟩, ?_⟩ | refine ⟨_, List.getElem?_eq_getElem (by omega), ?_⟩ | refine rtB ?_ | refine rtI ?_ | refine rtC ?_ rfl | fail)
  ·exact ne_at hlt hlt' (fun e => h ((Iff.rfl).2 e))
  ·refine ag (i + 1) [] [] ⟨hlt, take_step hlt hlt' hi.2 ((Iff.rfl).1 h)⟩ (by simp only []; omega) ?_
   repeat' first | exact trivial | exact rfl | refine And.intro ?_ ?_
 ·repeat' ((conv => whnf); first | (refine dec (fun h => ?_) (fun h => ?_) <;> try contradiction) | (refine decN (fun h => ?_) (fun h => ?_) <;> try contradiction) | refine booN (fun h => ?_) (fun h => ?_) | refine boo (fun h => ?_) (fun h => ?_) | refine ⟨i64 (by omega) (by omega), ?_⟩ | refine ⟨_, _, rfl, List.getElem?_eq_getElem (by omega), ?_⟩ | refine ⟨_, ⟨rfl, by omega⟩, ?_⟩ | refine ⟨_, List.getElem?_eq_getElem (by omega), ?_⟩ | refine rtB ?_ | refine rtI ?_ | refine rtC ?_ rfl | fail)
  exact take_end (by omega) hl hi.2
theorem equalInts_spec (a b : List Int) : Does Tryz.prog 137 [.c (.bs 1 Int encI a), .c (.bs 1 Int encI b)] [] (Rt (.c (.bool (decide (a = b)))) []) := by
 refine X_spec (n := 26) (n0 := 0) tabOk Tryz.call137 Tryz.func137 ?_
 intro hb; have hb : a.length ≤ 9223372036854775807 := hb.1.1
 repeat' ((conv => whnf); first | (refine dec (fun h => ?_) (fun h => ?_) <;> try contradiction) | (refine decN (fun h => ?_) (fun h => ?_) <;> try contradiction) | refine booN (fun h => ?_) (fun h => ?_) | refine boo (fun h => ?_) (fun h => ?_) | refine ⟨i64 (by omega) (by omega), ?_⟩ | refine ⟨_, _, rfl, List.getElem?_eq_getElem (by omega), ?_⟩ | refine ⟨_, ⟨rfl, by omega⟩, ?_⟩ | refine ⟨_, List.getElem?_eq_getElem (by omega), ?_⟩ | refine rtB ?_ | refine rtI ?_ | refine rtC ?_ rfl | fail)
 ·exact ne_len h
 (conv => whnf)
 have hl : a.length = b.length := by omega
 refine lp Nat (fun i => ⟨[(0, .c (.bs 1 Int encI a)), (1, .c (.bs 1 Int encI b)), (12, .c (.int .i64 a.length)), (13, .c (.int .i64 i))], []⟩) (fun i => i ≤ a.length ∧ a.take i = b.take i) (fun i => a.length - i) 0 [] [] ?_ ?_ (fun i hi => ?_)
 ·simp
 ·repeat' first | exact trivial | exact rfl | refine And.intro ?_ ?_
 (conv => whnf)
 refine dec (fun h4 => ?_) (fun h4 => ?_)
 ·have hlt : i < a.length := by omega
  have hlt' : i < b.length := by omega
  (conv => whnf)
  refine ⟨false, .grow, (.l [0, 1, 2, 3, 4, 5, 6, 7, 8]), by kernel_rfl, .inl ?_⟩
  repeat' ((conv => whnf); first | (refine dec (fun h => ?_) (fun h => ?_) <;> try contradiction) | (refine decN (fun h => ?_) (fun h => ?_) <;> try contradiction) | refine booN (fun h => ?_) (fun h => ?_) | refine boo (fun h => ?_) (fun h => ?_) | refine ⟨i64 (by omega) (by omega), ?_⟩ | refine ⟨_, _, rfl, List.getElem?_eq_getElem (by omega), ?_⟩ | refine ⟨_, ⟨rfl, by omega⟩, ?_⟩ | refine ⟨_, List.getElem?_eq_getElem (by omega), ?_⟩ | refine rtB ?_ | refine rtI ?_ | refine rtC ?_ rfl | fail)
  ·exact ne_at hlt hlt' (fun e => h ((Iff.rfl).2 e))
  ·refine ag (i + 1) [] [] ⟨hlt, take_step hlt hlt' hi.2 ((Iff.rfl).1 h)⟩ (by simp only []; omega) ?_
   repeat' first | exact trivial | exact rfl | refine And.intro ?_ ?_
 ·repeat' ((conv => whnf); first | (refine dec (fun h => ?_) (fun h => ?_) <;> try contradiction) | (refine decN (fun h => ?_) (fun h => ?_) <;> try contradiction) | refine booN (fun h => ?_) (fun h => ?_) | refine boo (fun h => ?_) (fun h => ?_) | refine ⟨i64 (by omega) (by omega), ?_⟩ | refine ⟨_, _, rfl, List.getElem?_eq_getElem (by omega), ?_⟩ | refine ⟨_, ⟨rfl, by omega⟩, ?_⟩ | refine ⟨_, List.getElem?_eq_getElem (by omega), ?_⟩ | refine rtB ?_ | refine rtI ?_ | refine rtC ?_ rfl | fail)
  exact take_end (by omega) hl hi.2
theorem equalBytes_spec (a b : List UInt8) : Does Tryz.prog 135 [.c (.bs 1 UInt8 bytesC a), .c (.bs 1 UInt8 bytesC b)] [] (Rt (.c (.bool (decide (a = b)))) []) := by
 refine X_spec (n := 26) (n0 := 0) tabOk Tryz.call135 Tryz.func135 ?_
 intro hb; have hb : a.length ≤ 9223372036854775807 := hb.1.1
 repeat' ((conv => whnf); first | (refine dec (fun h => ?_) (fun h => ?_) <;> try contradiction) | (refine decN (fun h => ?_) (fun h => ?_) <;> try contradiction) | refine booN (fun h => ?_) (fun h => ?_) | refine boo (fun h => ?_) (fun h => ?_) | refine ⟨i64 (by omega) (by omega), ?_⟩ | refine ⟨_, _, rfl, List.getElem?_eq_getElem (by omega), ?_⟩ | refine ⟨_, ⟨rfl, by omega⟩, ?_⟩ | refine ⟨_, List.getElem?_eq_getElem (by omega), ?_⟩ | refine rtB ?_ | refine rtI ?_ | refine rtC ?_ rfl | fail)
 ·exact ne_len h
 (conv => whnf)
 have hl : a.length = b.length := by omega
 refine lp Nat (fun i => ⟨[(0, .c (.bs 1 UInt8 bytesC a)), (1, .c (.bs 1 UInt8 bytesC b)), (12, .c (.int .i64 a.length)), (13, .c (.int .i64 i))], []⟩) (fun i => i ≤ a.length ∧ a.take i = b.take i) (fun i => a.length - i) 0 [] [] ?_ ?_ (fun i hi => ?_)
 ·simp
 ·repeat' first | exact trivial | exact rfl | refine And.intro ?_ ?_
 (conv => whnf)
 refine dec (fun h4 => ?_) (fun h4 => ?_)
 ·have hlt : i < a.length := by omega
  have hlt' : i < b.length := by omega
  (conv => whnf)
  refine ⟨false, .grow, (.l [0, 1, 2, 3, 4, 5, 6, 7, 8]), by kernel_rfl, .inl ?_⟩
  repeat' ((conv => whnf); first | (refine dec (fun h => ?_) (fun h => ?_) <;> try contradiction) | (refine decN (fun h => ?_) (fun h => ?_) <;> try contradiction) | refine booN (fun h => ?_) (fun h => ?_) | refine boo (fun h => ?_) (fun h => ?_) | refine ⟨i64 (by omega) (by omega), ?_⟩ | refine ⟨_, _, rfl, List.getElem?_eq_getElem (by omega), ?_⟩ | refine ⟨_, ⟨rfl, by omega⟩, ?_⟩ | refine ⟨_, List.getElem?_eq_getElem (by omega), ?_⟩ | refine rtB ?_ | refine rtI ?_ | refine rtC ?_ rfl | fail)
  ·exact ne_at hlt hlt' (fun e => h ((byte_eq).2 e))
  ·refine ag (i + 1) [] [] ⟨hlt, take_step hlt hlt' hi.2 ((byte_eq).1 h)⟩ (by simp only []; omega) ?_
   repeat' first | exact trivial | exact rfl | refine And.intro ?_ ?_
 ·repeat' ((conv => whnf); first | (refine dec (fun h => ?_) (fun h => ?_) <;> try contradiction) | (refine decN (fun h => ?_) (fun h => ?_) <;> try contradiction) | refine booN (fun h => ?_) (fun h => ?_) | refine boo (fun h => ?_) (fun h => ?_) | refine ⟨i64 (by omega) (by omega), ?_⟩ | refine ⟨_, _, rfl, List.getElem?_eq_getElem (by omega), ?_⟩ | refine ⟨_, ⟨rfl, by omega⟩, ?_⟩ | refine ⟨_, List.getElem?_eq_getElem (by omega), ?_⟩ | refine rtB ?_ | refine rtI ?_ | refine rtC ?_ rfl | fail)
  exact take_end (by omega) hl hi.2
theorem equalEns_spec (a b : List Ent) : Does Tryz.prog 136 [.c (.bs 4 Ent encEn a), .c (.bs 4 Ent encEn b)] [] (Rt (.c (.bool (decide (a = b)))) []) := by
 refine X_spec (n := 26) (n0 := 0) tabOk Tryz.call136 Tryz.func136 ?_
 intro hb; have hb : a.length ≤ 9223372036854775807 := hb.1.1
 repeat' ((conv => whnf); first | (refine dec (fun h => ?_) (fun h => ?_) <;> try contradiction) | (refine decN (fun h => ?_) (fun h => ?_) <;> try contradiction) | refine booN (fun h => ?_) (fun h => ?_) | refine boo (fun h => ?_) (fun h => ?_) | refine ⟨i64 (by omega) (by omega), ?_⟩ | refine ⟨_, _, rfl, List.getElem?_eq_getElem (by omega), ?_⟩ | refine ⟨_, ⟨rfl, by omega⟩, ?_⟩ | refine ⟨_, List.getElem?_eq_getElem (by omega), ?_⟩ | refine rtB ?_ | refine rtI ?_ | refine rtC ?_ rfl | fail)
 ·exact ne_len h
 (conv => whnf)
 have hl : a.length = b.length := by omega
 refine lp Nat (fun i => ⟨[(0, .c (.bs 4 Ent encEn a)), (1, .c (.bs 4 Ent encEn b)), (12, .c (.int .i64 a.length)), (13, .c (.int .i64 i))], []⟩) (fun i => i ≤ a.length ∧ a.take i = b.take i) (fun i => a.length - i) 0 [] [] ?_ ?_ (fun i hi => ?_)
 ·simp
 ·repeat' first | exact trivial | exact rfl | refine And.intro ?_ ?_
 (conv => whnf)
 refine dec (fun h4 => ?_) (fun h4 => ?_)
 ·have hlt : i < a.length := by omega
  have hlt' : i < b.length := by omega
  (conv => whnf)
  refine ⟨false, .grow, (.l [0, 1, 2, 3, 4, 5, 6, 7, 8]), by kernel_rfl, .inl ?_⟩
  repeat' ((conv => whnf); first | (refine dec (fun h => ?_) (fun h => ?_) <;> try contradiction) | (refine decN (fun h => ?_) (fun h => ?_) <;> try contradiction) | refine booN (fun h => ?_) (fun h => ?_) | refine boo (fun h => ?_) (fun h => ?_) | refine ⟨i64 (by omega) (by omega), ?_⟩ | refine ⟨_, _, rfl, List.getElem?_eq_getElem (by omega), ?_⟩ | refine ⟨_, ⟨rfl, by omega⟩, ?_⟩ | refine ⟨_, List.getElem?_eq_getElem (by omega), ?_⟩ | refine rtB ?_ | refine rtI ?_ | refine rtC ?_ rfl | fail)
  ·exact ne_at hlt hlt' (fun e => h ((eqEn).2 e))
  ·refine ag (i + 1) [] [] ⟨hlt, take_step hlt hlt' hi.2 ((eqEn).1 h)⟩ (by simp only []; omega) ?_
   repeat' first | exact trivial | exact rfl | refine And.intro ?_ ?_
 ·repeat' ((conv => whnf); first | (refine dec (fun h => ?_) (fun h => ?_) <;> try contradiction) | (refine decN (fun h => ?_) (fun h => ?_) <;> try contradiction) | refine booN (fun h => ?_) (fun h => ?_) | refine boo (fun h => ?_) (fun h => ?_) | refine ⟨i64 (by omega) (by omega), ?_⟩ | refine ⟨_, _, rfl, List.getElem?_eq_getElem (by omega), ?_⟩ | refine ⟨_, ⟨rfl, by omega⟩, ?_⟩ | refine ⟨_, List.getElem?_eq_getElem (by omega), ?_⟩ | refine rtB ?_ | refine rtI ?_ | refine rtC ?_ rfl | fail)
  exact take_end (by omega) hl hi.2
theorem sameBytes_spec (a b : List UInt8) : Does Tryz.prog 138 [.c (.bs 1 UInt8 bytesC a), .c (.bs 1 UInt8 bytesC b)] [] (Rt (.c (.bool (decide (a = b)))) []) := by
 refine X_spec (n := 10) (n0 := 0) tabOk Tryz.call138 Tryz.func138 ?_
 intro hb
 (conv => whnf); refine ⟨a, rfl, ?_⟩
 (conv => whnf); refine ⟨b, rfl, ?_⟩
 (conv => whnf); exact rtC rfl rfl
theorem cloneBytes_spec (l : List UInt8) (hl : l.length * 1 ≤ 140737488355328) : Does Tryz.prog 109 [.c (.bs 1 UInt8 bytesC l)] [] (Rt (.c (.rw 0)) [.row 1 UInt8 bytesC l]) := by
 refine X_spec (n := 8) (n0 := 0) tabOk Tryz.call109 Tryz.func109 ?_
 intro hb
 (conv => whnf)
 intro q hq
 (conv => whnf)
 refine boo (fun h => ?_) (fun h => ?_)
 ·obtain rfl := hq h
  (conv => whnf)
  exact rx [] [.new]
 ·(conv => whnf)
  refine ⟨[], rfl, ?_⟩
  (conv => whnf)
  refine ⟨_, _, rfl, rfl, (by simp only [List.length_append, List.length_cons, List.length_nil]; omega), ?_⟩
  (conv => whnf)
  exact rx [] [.same 1]
theorem cloneEns_spec (l : List Ent) (hl : l.length * 40 ≤ 140737488355328) : Does Tryz.prog 110 [.c (.bs 4 Ent encEn l)] [] (Rt (.c (.rw 0)) [.row 4 Ent encEn l]) := by
 refine X_spec (n := 8) (n0 := 0) tabOk Tryz.call110 Tryz.func110 ?_
 intro hb
 (conv => whnf)
 intro q hq
 (conv => whnf)
 refine boo (fun h => ?_) (fun h => ?_)
 ·obtain rfl := hq h
  (conv => whnf)
  exact rx [] [.new]
 ·(conv => whnf)
  refine ⟨[], rfl, ?_⟩
  (conv => whnf)
  refine ⟨_, _, rfl, rfl, (by simp only [List.length_append, List.length_cons, List.length_nil]; omega), ?_⟩
  (conv => whnf)
  exact rx [] [.same 1]
theorem cloneInts_spec (l : List Int) (hl : l.length * 8 ≤ 140737488355328) : Does Tryz.prog 75 [.c (.bs 1 Int encI l)] [] (Rt (.c (.rw 0)) [.row 1 Int encI l]) := by
 refine X_spec (n := 8) (n0 := 0) tabOk Tryz.call75 Tryz.func75 ?_
 intro hb
 (conv => whnf)
 intro q hq
 (conv => whnf)
 refine boo (fun h => ?_) (fun h => ?_)
 ·obtain rfl := hq h
  (conv => whnf)
  exact rx [] [.new]
 ·(conv => whnf)
  refine ⟨[], rfl, ?_⟩
  (conv => whnf)
  refine ⟨_, _, rfl, rfl, (by simp only [List.length_append, List.length_cons, List.length_nil]; omega), ?_⟩
  (conv => whnf)
  exact rx [] [.same 1]
end Go.Nest
end
/- part -/
section

namespace Go.Nest
open Go Go.AM Go.Proofs
open Go.Proofs.YtpmjnbidmcnhnaaGreatDoor (tab tabOk)
set_option maxRecDepth 4000
def entF (prev : Option (List UInt8)) (e : Ent) : Int :=
 if nameC e.name ≠ 0 then nameC e.name else if e.mode < 1 ∨ 3 < e.mode then 6 else if e.id < 0 ∨ e.repo < 0 ∨ 4 ≤ e.repo then 1 else if e.mode ≠ 3 ∧ e.repo ≠ 0 then 7
 else match prev with
  | some p => if Op.bytesLess p e.name = true then 0 else 8
  | none => 0
def entsF : Option (List UInt8) → List Ent → Int
 | _, [] => 0
 | prev, e :: r => if entF prev e = 0 then entsF (some e.name) r else entF prev e
def prevN (l : List Ent) : Nat → Option (List UInt8)
 | 0 => none
 | i + 1 => (l[i]?).map (·.name)
def treeC (l : List Ent) : Int := if 60 < l.length then 5 else entsF none l
theorem entsF_at {l : List Ent} {i : Nat} (h : i < l.length) (hi : entsF none l = entsF (prevN l i) (l.drop i)) : entsF none l = if entF (prevN l i) l[i] = 0 then entsF (prevN l (i + 1)) (l.drop (i + 1)) else entF (prevN l i) l[i] := by
 rw [hi, List.drop_eq_getElem_cons h]
 have : prevN l (i + 1) = some l[i].name := by simp [prevN, h]
 rw [this, entsF]
theorem prevN_pos {l : List Ent} {i : Nat} (h : 0 < i) (hi : i < l.length) : prevN l i = some (l[i - 1]'(by omega)).name := by
 cases i with
 | zero => omega
 | succ j => simp only [prevN]; rw [List.getElem?_eq_getElem (by omega)]; rfl
theorem tree_spec (l : List Ent) : Does Tryz.prog 134 [.c (.bs 4 Ent encEn l)] [] (Rt (.c (.int .i64 (treeC l))) []) := by
 refine X_spec (n := 69) (n0 := 0) tabOk Tryz.call134 Tryz.func134 ?_
 intro hb; have hb : l.length ≤ 9223372036854775807 := hb.1.1
 repeat' ((conv => whnf); first | (refine dec (fun h => ?_) (fun h => ?_) <;> try contradiction) | (refine decN (fun h => ?_) (fun h => ?_) <;> try contradiction) | refine booN (fun h => ?_) (fun h => ?_) | refine boo (fun h => ?_) (fun h => ?_) | refine ⟨i64 (by omega) (by omega), ?_⟩ | refine ⟨_, _, rfl, List.getElem?_eq_getElem (by omega), ?_⟩ | refine ⟨_, ⟨rfl, by omega⟩, ?_⟩ | refine ⟨_, List.getElem?_eq_getElem (by omega), ?_⟩ | refine rtB ?_ | refine rtI ?_ | refine rtC ?_ rfl | fail)
 ·unfold treeC; rw [if_pos (by omega)]
 (conv => whnf)
 have ht : treeC l = entsF none l := by unfold treeC; rw [if_neg (by omega)]
 rw [ht]
 refine lp Nat (fun i => ⟨[(0, .c (.bs 4 Ent encEn l)), (9, .c (.bs 4 Ent encEn l)), (10, .c (.int .i64 l.length)), (11, .c (.int .i64 i))], []⟩) (fun i => i ≤ l.length ∧ entsF none l = entsF (prevN l i) (l.drop i)) (fun i => l.length - i) 0 [] [] ?_ ?_ (fun i hi => ?_)
 ·simp [prevN]
 ·repeat' first | exact trivial | exact rfl | refine And.intro ?_ ?_
 (conv => whnf)
 refine dec (fun h4 => ?_) (fun h4 => ?_)
 ·have hlt : i < l.length := by omega
  have hat := entsF_at hlt hi.2
  repeat' ((conv => whnf); first | (refine dec (fun h => ?_) (fun h => ?_) <;> try contradiction) | (refine decN (fun h => ?_) (fun h => ?_) <;> try contradiction) | refine booN (fun h => ?_) (fun h => ?_) | refine boo (fun h => ?_) (fun h => ?_) | refine ⟨i64 (by omega) (by omega), ?_⟩ | refine ⟨_, _, rfl, List.getElem?_eq_getElem (by omega), ?_⟩ | refine ⟨_, ⟨rfl, by omega⟩, ?_⟩ | refine ⟨_, List.getElem?_eq_getElem (by omega), ?_⟩ | refine rtB ?_ | refine rtI ?_ | refine rtC ?_ rfl | fail)
  (conv => whnf)
  refine cl [] [] (name_spec l[i].name) ?_
  have leaf : ∀ {c : Int}, entF (prevN l i) l[i] = c → c ≠ 0 → c = entsF none l := fun h1 h2 => by rw [hat, h1, if_neg h2]
  repeat' ((conv => whnf); first | (refine dec (fun h => ?_) (fun h => ?_) <;> try contradiction) | (refine decN (fun h => ?_) (fun h => ?_) <;> try contradiction) | refine booN (fun h => ?_) (fun h => ?_) | refine boo (fun h => ?_) (fun h => ?_) | refine ⟨i64 (by omega) (by omega), ?_⟩ | refine ⟨_, _, rfl, List.getElem?_eq_getElem (by omega), ?_⟩ | refine ⟨_, ⟨rfl, by omega⟩, ?_⟩ | refine ⟨_, List.getElem?_eq_getElem (by omega), ?_⟩ | refine rtB ?_ | refine rtI ?_ | refine rtC ?_ rfl | fail)
  all_goals first | (refine leaf ?_ ?_ <;> simp [entF, *]; done) | skip
  all_goals
   (conv => whnf)
   refine ⟨false, .grow, (.l [0, 1, 2, 3, 4, 5, 6, 7, 8, 9, 10, 11, 12, 13]), by kernel_rfl, .inl ?_⟩
   repeat' ((conv => whnf); first | (refine dec (fun h => ?_) (fun h => ?_) <;> try contradiction) | (refine decN (fun h => ?_) (fun h => ?_) <;> try contradiction) | refine booN (fun h => ?_) (fun h => ?_) | refine boo (fun h => ?_) (fun h => ?_) | refine ⟨i64 (by omega) (by omega), ?_⟩ | refine ⟨_, _, rfl, List.getElem?_eq_getElem (by omega), ?_⟩ | refine ⟨_, ⟨rfl, by omega⟩, ?_⟩ | refine ⟨_, List.getElem?_eq_getElem (by omega), ?_⟩ | refine rtB ?_ | refine rtI ?_ | refine rtC ?_ rfl | fail)
   ·(conv => whnf)
    refine ⟨i - 1, l[i - 1], by omega, List.getElem?_eq_getElem (by omega), ?_⟩
    have hp := prevN_pos (l := l) (i := i) (by omega) hlt
    repeat' ((conv => whnf); first | (refine dec (fun h => ?_) (fun h => ?_) <;> try contradiction) | (refine decN (fun h => ?_) (fun h => ?_) <;> try contradiction) | refine booN (fun h => ?_) (fun h => ?_) | refine boo (fun h => ?_) (fun h => ?_) | refine ⟨i64 (by omega) (by omega), ?_⟩ | refine ⟨_, _, rfl, List.getElem?_eq_getElem (by omega), ?_⟩ | refine ⟨_, ⟨rfl, by omega⟩, ?_⟩ | refine ⟨_, List.getElem?_eq_getElem (by omega), ?_⟩ | refine rtB ?_ | refine rtI ?_ | refine rtC ?_ rfl | fail)
    ·refine leaf ?_ (by decide); simp [entF, *]
    ·refine ag (i + 1) [] [] ⟨hlt, ?_⟩ (by simp only []; omega) ?_
     ·rw [hat, if_pos]; simp [entF, *]
     repeat' first | exact trivial | exact rfl | refine And.intro ?_ ?_
   ·have hp : prevN l i = none := by
     obtain rfl : i = 0 := by omega
     rfl
    repeat' ((conv => whnf); refine I6 ?_)
    refine ag (i + 1) [] [] ⟨hlt, ?_⟩ (by simp only []; omega) ?_
    ·rw [hat, if_pos]; simp [entF, *]
    repeat' first | exact trivial | exact rfl | refine And.intro ?_ ?_
 ·repeat' ((conv => whnf); first | (refine dec (fun h => ?_) (fun h => ?_) <;> try contradiction) | (refine decN (fun h => ?_) (fun h => ?_) <;> try contradiction) | refine booN (fun h => ?_) (fun h => ?_) | refine boo (fun h => ?_) (fun h => ?_) | refine ⟨i64 (by omega) (by omega), ?_⟩ | refine ⟨_, _, rfl, List.getElem?_eq_getElem (by omega), ?_⟩ | refine ⟨_, ⟨rfl, by omega⟩, ?_⟩ | refine ⟨_, List.getElem?_eq_getElem (by omega), ?_⟩ | refine rtB ?_ | refine rtI ?_ | refine rtC ?_ rfl | fail)
  have := hi.2
  rw [List.drop_of_length_le (by omega)] at this
  rw [this]; rfl
end Go.Nest
end
/- part -/
section

namespace Go.Nest
open Go Go.AM Go.Proofs
open Go.Proofs.YtpmjnbidmcnhnaaGreatDoor (tab tabOk)
set_option maxRecDepth 4000
def idxF {α : Type} (p : α → Bool) (l : List α) : Int := match l.findIdx? p with
 | some i => i
 | none => -1
theorem idxF_at {α : Type} {p : α → Bool} {l : List α} {i : Nat} (h : i < l.length) (h1 : (l.take i).any p = false) (h2 : p l[i] = true) : (i : Int) = idxF p l := by
 have : l.findIdx? p = some i := by
  rw [List.findIdx?_eq_some_iff_getElem]
  refine ⟨h, h2, fun j hj => ?_⟩
  rw [List.any_eq_false] at h1
  have := h1 l[j] (by rw [List.mem_take_iff_getElem]; exact ⟨j, by omega, rfl⟩)
  simpa using this
 unfold idxF; rw [this]
theorem idxF_none {α : Type} {p : α → Bool} {l : List α} (h1 : l.any p = false) : (-1 : Int) = idxF p l := by
 have : l.findIdx? p = none := by
  rw [List.findIdx?_eq_none_iff]
  rw [List.any_eq_false] at h1
  intro x hx; simpa using h1 x hx
 unfold idxF; rw [this]
theorem idxF_any {α : Type} {p : α → Bool} {l : List α} : decide (0 ≤ idxF p l) = l.any p := by
 unfold idxF
 cases h : l.findIdx? p with
 | none =>
  rw [List.findIdx?_eq_none_iff] at h
  simp; exact h
 | some i =>
  rw [List.findIdx?_eq_some_iff_getElem] at h
  obtain ⟨h1, h2, _⟩ := h
  rw [any_at h1 h2]; simp
theorem indexInts_spec {g : Nat} {p : Int → Bool} (hp : ∀ x, Does Tryz.prog g [.c (.int .i64 x)] [] (Rt (.c (.bool (p x))) [])) (l : List Int) : Does Tryz.prog 115 [.c (.bs 1 Int encI l), .c (.fn g [])] [] (Rt (.c (.int .i64 (idxF p l))) []) := by
 refine X_spec (n := 19) (n0 := 0) tabOk Tryz.call115 Tryz.func115 ?_
 intro hb; have hb : l.length ≤ 9223372036854775807 := hb.1.1
 (conv => whnf)
 refine lp Nat (fun i => ⟨[(0, .c (.bs 1 Int encI l)), (1, .c (.fn g [])), (7, .c (.int .i64 l.length)), (8, .c (.int .i64 i))], []⟩) (fun i => i ≤ l.length ∧ (l.take i).any p = false) (fun i => l.length - i) 0 [] [] ?_ ?_ (fun i hi => ?_)
 ·simp
 ·repeat' first | exact trivial | exact rfl | refine And.intro ?_ ?_
 (conv => whnf)
 refine dec (fun h4 => ?_) (fun h4 => ?_)
 ·have hlt : i < l.length := by omega
  repeat' ((conv => whnf); first | (refine dec (fun h => ?_) (fun h => ?_) <;> try contradiction) | (refine decN (fun h => ?_) (fun h => ?_) <;> try contradiction) | refine booN (fun h => ?_) (fun h => ?_) | refine boo (fun h => ?_) (fun h => ?_) | refine ⟨i64 (by omega) (by omega), ?_⟩ | refine ⟨_, _, rfl, List.getElem?_eq_getElem (by omega), ?_⟩ | refine ⟨_, ⟨rfl, by omega⟩, ?_⟩ | refine ⟨_, List.getElem?_eq_getElem (by omega), ?_⟩ | refine rtB ?_ | refine rtI ?_ | refine rtC ?_ rfl | fail)
  (conv => whnf)
  refine cl [] [] (hp l[i]) ?_
  repeat' ((conv => whnf); first | (refine dec (fun h => ?_) (fun h => ?_) <;> try contradiction) | (refine decN (fun h => ?_) (fun h => ?_) <;> try contradiction) | refine booN (fun h => ?_) (fun h => ?_) | refine boo (fun h => ?_) (fun h => ?_) | refine ⟨i64 (by omega) (by omega), ?_⟩ | refine ⟨_, _, rfl, List.getElem?_eq_getElem (by omega), ?_⟩ | refine ⟨_, ⟨rfl, by omega⟩, ?_⟩ | refine ⟨_, List.getElem?_eq_getElem (by omega), ?_⟩ | refine rtB ?_ | refine rtI ?_ | refine rtC ?_ rfl | fail)
  ·exact idxF_at hlt hi.2 h
  ·refine ag (i + 1) [] [] ⟨hlt, any_take hlt hi.2 h⟩ (by simp only []; omega) ?_
   repeat' first | exact trivial | exact rfl | refine And.intro ?_ ?_
 ·repeat' ((conv => whnf); first | (refine dec (fun h => ?_) (fun h => ?_) <;> try contradiction) | (refine decN (fun h => ?_) (fun h => ?_) <;> try contradiction) | refine booN (fun h => ?_) (fun h => ?_) | refine boo (fun h => ?_) (fun h => ?_) | refine ⟨i64 (by omega) (by omega), ?_⟩ | refine ⟨_, _, rfl, List.getElem?_eq_getElem (by omega), ?_⟩ | refine ⟨_, ⟨rfl, by omega⟩, ?_⟩ | refine ⟨_, List.getElem?_eq_getElem (by omega), ?_⟩ | refine rtB ?_ | refine rtI ?_ | refine rtC ?_ rfl | fail)
  have := hi.2
  rw [List.take_of_length_le (by omega)] at this
  exact idxF_none this
theorem containsInts_spec {g : Nat} {p : Int → Bool} (hp : ∀ x, Does Tryz.prog g [.c (.int .i64 x)] [] (Rt (.c (.bool (p x))) [])) (l : List Int) : Does Tryz.prog 68 [.c (.bs 1 Int encI l), .c (.fn g [])] [] (Rt (.c (.bool (l.any p))) []) := by
 refine X_spec (n := 9) (n0 := 0) tabOk Tryz.call68 Tryz.func68 ?_
 intro hb
 (conv => whnf)
 refine cl [] [] (indexInts_spec hp l) ?_
 (conv => whnf)
 exact rtB idxF_any
theorem checkF_spec (n : Int) : Does Tryz.prog 132 [.c (.int .i64 n)] [] (Rt (.c (.bool (decide (n < 0)))) []) := by
 refine X_spec (n := 5) (n0 := 0) tabOk Tryz.call132 Tryz.func132 ?_
 intro hb
 (conv => whnf)
 exact rtB rfl
def objF (o : Ob) : Int :=
 if o.kind < 1 ∨ 3 < o.kind then 6
 else if (o.kind ≠ 1 ∧ 0 < o.bytes.length) ∨ (o.kind ≠ 2 ∧ 0 < o.entries.length) ∨ (o.kind ≠ 3 ∧ (o.tree ≠ 0 ∨ 0 < o.parents.length ∨ 0 < o.text.length)) then 7
 else if 400 < o.bytes.length ∨ 60 < o.text.length then 4
 else if 3 < o.parents.length then 5
 else if o.tree < 0 then 1
 else if o.parents.any (fun k => decide (k < 0)) = true then 1
 else if o.text.all shown = true then treeC o.entries
 else 2
theorem str_nil : ({ data := #[] } : ByteArray).data.toList = [] := rfl
set_option maxHeartbeats 2000000 in
theorem check_spec (o : Ob) : Does Tryz.prog 91 [.st (bOb o)] [] (Rt (.c (.int .i64 (objF o))) []) := by
 obtain ⟨kind, bytes, entries, tree, parents, text⟩ := o
 refine X_spec (n := 98) (n0 := 0) tabOk Tryz.call91 Tryz.func91 ?_
 intro hb
 (conv => whnf)
 refine ⟨false, .grow, (.l [0, 1, 2, 3, 4, 5, 6, 7, 8, 9, 10, 11]), by kernel_rfl, .inl ?_⟩
 by_cases hk1 : kind = 1
 ·subst hk1
  repeat' ((conv => whnf); first | (refine dec (fun h => ?_) (fun h => ?_) <;> try contradiction) | (refine decN (fun h => ?_) (fun h => ?_) <;> try contradiction) | refine booN (fun h => ?_) (fun h => ?_) | refine boo (fun h => ?_) (fun h => ?_) | refine ⟨i64 (by omega) (by omega), ?_⟩ | refine ⟨_, _, rfl, List.getElem?_eq_getElem (by omega), ?_⟩ | refine ⟨_, ⟨rfl, by omega⟩, ?_⟩ | refine ⟨_, List.getElem?_eq_getElem (by omega), ?_⟩ | refine rtB ?_ | refine rtI ?_ | refine rtC ?_ rfl | fail)
  all_goals first | (show (_ : Int) = objF _; dsimp only at *; (try simp only [str_nil, ← List.length_eq_zero_iff] at *); simp only [objF]; (repeat' split) <;> first | rfl | (exfalso; omega) | (simp_all; done)) | skip
  all_goals
   (conv => whnf)
   refine cl [] [] (containsInts_spec checkF_spec parents) ?_
   repeat' ((conv => whnf); first | (refine dec (fun h => ?_) (fun h => ?_) <;> try contradiction) | (refine decN (fun h => ?_) (fun h => ?_) <;> try contradiction) | refine booN (fun h => ?_) (fun h => ?_) | refine boo (fun h => ?_) (fun h => ?_) | refine ⟨i64 (by omega) (by omega), ?_⟩ | refine ⟨_, _, rfl, List.getElem?_eq_getElem (by omega), ?_⟩ | refine ⟨_, ⟨rfl, by omega⟩, ?_⟩ | refine ⟨_, List.getElem?_eq_getElem (by omega), ?_⟩ | refine rtB ?_ | refine rtI ?_ | refine rtC ?_ rfl | fail)
  all_goals first | (show (_ : Int) = objF _; dsimp only at *; (try simp only [str_nil, ← List.length_eq_zero_iff] at *); simp only [objF]; (repeat' split) <;> first | rfl | (exfalso; omega) | (simp_all; done)) | skip
  all_goals
   (conv => whnf)
   refine cl [] [] (visible_spec text) ?_
   repeat' ((conv => whnf); first | (refine dec (fun h => ?_) (fun h => ?_) <;> try contradiction) | (refine decN (fun h => ?_) (fun h => ?_) <;> try contradiction) | refine booN (fun h => ?_) (fun h => ?_) | refine boo (fun h => ?_) (fun h => ?_) | refine ⟨i64 (by omega) (by omega), ?_⟩ | refine ⟨_, _, rfl, List.getElem?_eq_getElem (by omega), ?_⟩ | refine ⟨_, ⟨rfl, by omega⟩, ?_⟩ | refine ⟨_, List.getElem?_eq_getElem (by omega), ?_⟩ | refine rtB ?_ | refine rtI ?_ | refine rtC ?_ rfl | fail)
  all_goals first | (show (_ : Int) = objF _; dsimp only at *; (try simp only [str_nil, ← List.length_eq_zero_iff] at *); simp only [objF]; (repeat' split) <;> first | rfl | (exfalso; omega) | (simp_all; done)) | skip
  all_goals
   (conv => whnf)
   refine cl [] [] (tree_spec entries) ?_
   repeat' ((conv => whnf); first | (refine dec (fun h => ?_) (fun h => ?_) <;> try contradiction) | (refine decN (fun h => ?_) (fun h => ?_) <;> try contradiction) | refine booN (fun h => ?_) (fun h => ?_) | refine boo (fun h => ?_) (fun h => ?_) | refine ⟨i64 (by omega) (by omega), ?_⟩ | refine ⟨_, _, rfl, List.getElem?_eq_getElem (by omega), ?_⟩ | refine ⟨_, ⟨rfl, by omega⟩, ?_⟩ | refine ⟨_, List.getElem?_eq_getElem (by omega), ?_⟩ | refine rtB ?_ | refine rtI ?_ | refine rtC ?_ rfl | fail)
  all_goals first | (show (_ : Int) = objF _; dsimp only at *; (try simp only [str_nil, ← List.length_eq_zero_iff] at *); simp only [objF]; (repeat' split) <;> first | rfl | (exfalso; omega) | (simp_all; done)) | skip
 by_cases hk2 : kind = 2
 ·subst hk2
  repeat' ((conv => whnf); first | (refine dec (fun h => ?_) (fun h => ?_) <;> try contradiction) | (refine decN (fun h => ?_) (fun h => ?_) <;> try contradiction) | refine booN (fun h => ?_) (fun h => ?_) | refine boo (fun h => ?_) (fun h => ?_) | refine ⟨i64 (by omega) (by omega), ?_⟩ | refine ⟨_, _, rfl, List.getElem?_eq_getElem (by omega), ?_⟩ | refine ⟨_, ⟨rfl, by omega⟩, ?_⟩ | refine ⟨_, List.getElem?_eq_getElem (by omega), ?_⟩ | refine rtB ?_ | refine rtI ?_ | refine rtC ?_ rfl | fail)
  all_goals first | (show (_ : Int) = objF _; dsimp only at *; (try simp only [str_nil, ← List.length_eq_zero_iff] at *); simp only [objF]; (repeat' split) <;> first | rfl | (exfalso; omega) | (simp_all; done)) | skip
  all_goals
   (conv => whnf)
   refine cl [] [] (containsInts_spec checkF_spec parents) ?_
   repeat' ((conv => whnf); first | (refine dec (fun h => ?_) (fun h => ?_) <;> try contradiction) | (refine decN (fun h => ?_) (fun h => ?_) <;> try contradiction) | refine booN (fun h => ?_) (fun h => ?_) | refine boo (fun h => ?_) (fun h => ?_) | refine ⟨i64 (by omega) (by omega), ?_⟩ | refine ⟨_, _, rfl, List.getElem?_eq_getElem (by omega), ?_⟩ | refine ⟨_, ⟨rfl, by omega⟩, ?_⟩ | refine ⟨_, List.getElem?_eq_getElem (by omega), ?_⟩ | refine rtB ?_ | refine rtI ?_ | refine rtC ?_ rfl | fail)
  all_goals first | (show (_ : Int) = objF _; dsimp only at *; (try simp only [str_nil, ← List.length_eq_zero_iff] at *); simp only [objF]; (repeat' split) <;> first | rfl | (exfalso; omega) | (simp_all; done)) | skip
  all_goals
   (conv => whnf)
   refine cl [] [] (visible_spec text) ?_
   repeat' ((conv => whnf); first | (refine dec (fun h => ?_) (fun h => ?_) <;> try contradiction) | (refine decN (fun h => ?_) (fun h => ?_) <;> try contradiction) | refine booN (fun h => ?_) (fun h => ?_) | refine boo (fun h => ?_) (fun h => ?_) | refine ⟨i64 (by omega) (by omega), ?_⟩ | refine ⟨_, _, rfl, List.getElem?_eq_getElem (by omega), ?_⟩ | refine ⟨_, ⟨rfl, by omega⟩, ?_⟩ | refine ⟨_, List.getElem?_eq_getElem (by omega), ?_⟩ | refine rtB ?_ | refine rtI ?_ | refine rtC ?_ rfl | fail)
  all_goals first | (show (_ : Int) = objF _; dsimp only at *; (try simp only [str_nil, ← List.length_eq_zero_iff] at *); simp only [objF]; (repeat' split) <;> first | rfl | (exfalso; omega) | (simp_all; done)) | skip
  all_goals
   (conv => whnf)
   refine cl [] [] (tree_spec entries) ?_
   repeat' ((conv => whnf); first | (refine dec (fun h => ?_) (fun h => ?_) <;> try contradiction) | (refine decN (fun h => ?_) (fun h => ?_) <;> try contradiction) | refine booN (fun h => ?_) (fun h => ?_) | refine boo (fun h => ?_) (fun h => ?_) | refine ⟨i64 (by omega) (by omega), ?_⟩ | refine ⟨_, _, rfl, List.getElem?_eq_getElem (by omega), ?_⟩ | refine ⟨_, ⟨rfl, by omega⟩, ?_⟩ | refine ⟨_, List.getElem?_eq_getElem (by omega), ?_⟩ | refine rtB ?_ | refine rtI ?_ | refine rtC ?_ rfl | fail)
  all_goals first | (show (_ : Int) = objF _; dsimp only at *; (try simp only [str_nil, ← List.length_eq_zero_iff] at *); simp only [objF]; (repeat' split) <;> first | rfl | (exfalso; omega) | (simp_all; done)) | skip
 by_cases hk3 : kind = 3
 ·subst hk3
  repeat' ((conv => whnf); first | (refine dec (fun h => ?_) (fun h => ?_) <;> try contradiction) | (refine decN (fun h => ?_) (fun h => ?_) <;> try contradiction) | refine booN (fun h => ?_) (fun h => ?_) | refine boo (fun h => ?_) (fun h => ?_) | refine ⟨i64 (by omega) (by omega), ?_⟩ | refine ⟨_, _, rfl, List.getElem?_eq_getElem (by omega), ?_⟩ | refine ⟨_, ⟨rfl, by omega⟩, ?_⟩ | refine ⟨_, List.getElem?_eq_getElem (by omega), ?_⟩ | refine rtB ?_ | refine rtI ?_ | refine rtC ?_ rfl | fail)
  all_goals first | (show (_ : Int) = objF _; dsimp only at *; (try simp only [str_nil, ← List.length_eq_zero_iff] at *); simp only [objF]; (repeat' split) <;> first | rfl | (exfalso; omega) | (simp_all; done)) | skip
  all_goals
   (conv => whnf)
   refine cl [] [] (containsInts_spec checkF_spec parents) ?_
   repeat' ((conv => whnf); first | (refine dec (fun h => ?_) (fun h => ?_) <;> try contradiction) | (refine decN (fun h => ?_) (fun h => ?_) <;> try contradiction) | refine booN (fun h => ?_) (fun h => ?_) | refine boo (fun h => ?_) (fun h => ?_) | refine ⟨i64 (by omega) (by omega), ?_⟩ | refine ⟨_, _, rfl, List.getElem?_eq_getElem (by omega), ?_⟩ | refine ⟨_, ⟨rfl, by omega⟩, ?_⟩ | refine ⟨_, List.getElem?_eq_getElem (by omega), ?_⟩ | refine rtB ?_ | refine rtI ?_ | refine rtC ?_ rfl | fail)
  all_goals first | (show (_ : Int) = objF _; dsimp only at *; (try simp only [str_nil, ← List.length_eq_zero_iff] at *); simp only [objF]; (repeat' split) <;> first | rfl | (exfalso; omega) | (simp_all; done)) | skip
  all_goals
   (conv => whnf)
   refine cl [] [] (visible_spec text) ?_
   repeat' ((conv => whnf); first | (refine dec (fun h => ?_) (fun h => ?_) <;> try contradiction) | (refine decN (fun h => ?_) (fun h => ?_) <;> try contradiction) | refine booN (fun h => ?_) (fun h => ?_) | refine boo (fun h => ?_) (fun h => ?_) | refine ⟨i64 (by omega) (by omega), ?_⟩ | refine ⟨_, _, rfl, List.getElem?_eq_getElem (by omega), ?_⟩ | refine ⟨_, ⟨rfl, by omega⟩, ?_⟩ | refine ⟨_, List.getElem?_eq_getElem (by omega), ?_⟩ | refine rtB ?_ | refine rtI ?_ | refine rtC ?_ rfl | fail)
  all_goals first | (show (_ : Int) = objF _; dsimp only at *; (try simp only [str_nil, ← List.length_eq_zero_iff] at *); simp only [objF]; (repeat' split) <;> first | rfl | (exfalso; omega) | (simp_all; done)) | skip
  all_goals
   (conv => whnf)
   refine cl [] [] (tree_spec entries) ?_
   repeat' ((conv => whnf); first | (refine dec (fun h => ?_) (fun h => ?_) <;> try contradiction) | (refine decN (fun h => ?_) (fun h => ?_) <;> try contradiction) | refine booN (fun h => ?_) (fun h => ?_) | refine boo (fun h => ?_) (fun h => ?_) | refine ⟨i64 (by omega) (by omega), ?_⟩ | refine ⟨_, _, rfl, List.getElem?_eq_getElem (by omega), ?_⟩ | refine ⟨_, ⟨rfl, by omega⟩, ?_⟩ | refine ⟨_, List.getElem?_eq_getElem (by omega), ?_⟩ | refine rtB ?_ | refine rtI ?_ | refine rtC ?_ rfl | fail)
  all_goals first | (show (_ : Int) = objF _; dsimp only at *; (try simp only [str_nil, ← List.length_eq_zero_iff] at *); simp only [objF]; (repeat' split) <;> first | rfl | (exfalso; omega) | (simp_all; done)) | skip
 ·have : objF ⟨kind, bytes, entries, tree, parents, text⟩ = 6 := by
   unfold objF; rw [if_pos (by simp only []; omega)]
  rw [this]
  repeat' ((conv => whnf); first | (refine dec (fun h => ?_) (fun h => ?_) <;> try contradiction) | (refine decN (fun h => ?_) (fun h => ?_) <;> try contradiction) | refine booN (fun h => ?_) (fun h => ?_) | refine boo (fun h => ?_) (fun h => ?_) | refine ⟨i64 (by omega) (by omega), ?_⟩ | refine ⟨_, _, rfl, List.getElem?_eq_getElem (by omega), ?_⟩ | refine ⟨_, ⟨rfl, by omega⟩, ?_⟩ | refine ⟨_, List.getElem?_eq_getElem (by omega), ?_⟩ | refine rtB ?_ | refine rtI ?_ | refine rtC ?_ rfl | fail)
  all_goals rfl
end Go.Nest
end
