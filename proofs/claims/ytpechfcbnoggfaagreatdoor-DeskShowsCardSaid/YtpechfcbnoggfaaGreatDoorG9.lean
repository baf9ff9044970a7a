/- part -/
import Derived.Test.YtpechfcbnoggfaaGreatDoorL0
set_option linter.unusedVariables false
set_option linter.unusedSimpArgs false
section

namespace Go.Nest
open Go Go.AM Go.Proofs
open Go.Proofs.YtpechfcbnoggfaaGreatDoor (tab tabOk)
set_option maxRecDepth 4000
theorem sameInts_spec (a b : List Int) : Does Tryz.prog 30 [.c (.bs 1 Int encI a), .c (.bs 1 Int encI b)] [] (Rt (.c (.bool (decide (a = b)))) []) := by
 refine X_spec (n := 26) (n0 := 0) tabOk Tryz.call30 Tryz.func30 ?_
 intro hb; have hb : a.length ≤ 9223372036854775807 := hb.1.1
 repeat' ((conv => whnf); first | (refine decN (fun h => ?_) (fun h => ?_) <;> try contradiction) | refine rtB ?_ | fail)
 ·exact ne_len h
 (conv => whnf)
 have hl : a.length = b.length := by omega
 refine lp Nat (fun i => ⟨[(0, .c (.bs 1 Int encI a)), (1, .c (.bs 1 Int encI b)), (5, .c (.int .i64 i))], []⟩) (fun i => i ≤ a.length ∧ a.take i = b.take i) (fun i => a.length - i) 0 [] [] ?_ ?_ (fun i hi => ?_)
 ·simp
 ·repeat' first | exact trivial | exact rfl | refine And.intro ?_ ?_
 (conv => whnf)
 refine dec (fun h4 => ?_) (fun h4 => ?_)
 ·have hlt : i < a.length := by omega
  have hlt' : i < b.length := by omega
  (conv => whnf)
  refine ⟨false, .grow, (.l [0, 1, 2, 3, 4, 5, 6, 7, 8]), by kernel_rfl, .inl ?_⟩
  repeat' ((conv => whnf); first | (refine decN (fun h => ?_) (fun h => ?_) <;> try contradiction) | refine ⟨i64 (by omega) (by omega), ?_⟩ | refine ⟨_, _, rfl, List.getElem?_eq_getElem (by omega), ?_⟩ | refine rtB ?_ | fail)
  ·exact ne_at hlt hlt' (fun e => h ((Iff.rfl).2 e))
  ·refine ag (i + 1) [] [] ⟨hlt, take_step hlt hlt' hi.2 ((Iff.rfl).1 h)⟩ (by simp only []; omega) ?_
   repeat' first | exact trivial | exact rfl | refine And.intro ?_ ?_
 ·repeat' ((conv => whnf); first | refine rtB ?_ | fail)
  exact take_end (by omega) hl hi.2
theorem equalInts_spec (a b : List Int) : Does Tryz.prog 321 [.c (.bs 1 Int encI a), .c (.bs 1 Int encI b)] [] (Rt (.c (.bool (decide (a = b)))) []) := by
 refine X_spec (n := 26) (n0 := 0) tabOk Tryz.call321 Tryz.func321 ?_
 intro hb; have hb : a.length ≤ 9223372036854775807 := hb.1.1
 repeat' ((conv => whnf); first | (refine decN (fun h => ?_) (fun h => ?_) <;> try contradiction) | refine rtB ?_ | fail)
 ·exact ne_len h
 (conv => whnf)
 have hl : a.length = b.length := by omega
 refine lp Nat (fun i => ⟨[(0, .c (.bs 1 Int encI a)), (1, .c (.bs 1 Int encI b)), (12, .c (.int .i64 a.length)), (13, .c (.int .i64 i))], []⟩) (fun i => i ≤ a.length ∧ a.take i = b.take i) (fun i => a.length - i) 0 [] [] ?_ ?_ (fun i hi => ?_)
 ·simp
 ·repeat' first | exact trivial | exact rfl | refine And.intro ?_ ?_
 (conv => whnf)
 refine dec (fun h4 => ?_) (fun h4 => ?_)
 ·have hlt : i < a.length := by omega
  have hlt' : i < b.length := by omega
  (conv => whnf)
  refine ⟨false, .grow, (.l [0, 1, 2, 3, 4, 5, 6, 7, 8]), by kernel_rfl, .inl ?_⟩
  repeat' ((conv => whnf); first | (refine decN (fun h => ?_) (fun h => ?_) <;> try contradiction) | refine ⟨i64 (by omega) (by omega), ?_⟩ | refine ⟨_, _, rfl, List.getElem?_eq_getElem (by omega), ?_⟩ | refine rtB ?_ | fail)
  ·exact ne_at hlt hlt' (fun e => h ((Iff.rfl).2 e))
  ·refine ag (i + 1) [] [] ⟨hlt, take_step hlt hlt' hi.2 ((Iff.rfl).1 h)⟩ (by simp only []; omega) ?_
   repeat' first | exact trivial | exact rfl | refine And.intro ?_ ?_
 ·repeat' ((conv => whnf); first | refine rtB ?_ | fail)
  exact take_end (by omega) hl hi.2
theorem equalBytes_spec (a b : List UInt8) : Does Tryz.prog 319 [.c (.bs 1 UInt8 bytesC a), .c (.bs 1 UInt8 bytesC b)] [] (Rt (.c (.bool (decide (a = b)))) []) := by
 refine X_spec (n := 26) (n0 := 0) tabOk Tryz.call319 Tryz.func319 ?_
 intro hb; have hb : a.length ≤ 9223372036854775807 := hb.1.1
 repeat' ((conv => whnf); first | (refine decN (fun h => ?_) (fun h => ?_) <;> try contradiction) | refine rtB ?_ | fail)
 ·exact ne_len h
 (conv => whnf)
 have hl : a.length = b.length := by omega
 refine lp Nat (fun i => ⟨[(0, .c (.bs 1 UInt8 bytesC a)), (1, .c (.bs 1 UInt8 bytesC b)), (12, .c (.int .i64 a.length)), (13, .c (.int .i64 i))], []⟩) (fun i => i ≤ a.length ∧ a.take i = b.take i) (fun i => a.length - i) 0 [] [] ?_ ?_ (fun i hi => ?_)
 ·simp
 ·repeat' first | exact trivial | exact rfl | refine And.intro ?_ ?_
 (conv => whnf)
 refine dec (fun h4 => ?_) (fun h4 => ?_)
 ·have hlt : i < a.length := by omega
  have hlt' : i < b.length := by omega
  (conv => whnf)
  refine ⟨false, .grow, (.l [0, 1, 2, 3, 4, 5, 6, 7, 8]), by kernel_rfl, .inl ?_⟩
  repeat' ((conv => whnf); first | (refine decN (fun h => ?_) (fun h => ?_) <;> try contradiction) | refine ⟨i64 (by omega) (by omega), ?_⟩ | refine ⟨_, _, rfl, List.getElem?_eq_getElem (by omega), ?_⟩ | refine rtB ?_ | fail)
  ·exact ne_at hlt hlt' (fun e => h ((byte_eq).2 e))
  ·refine ag (i + 1) [] [] ⟨hlt, take_step hlt hlt' hi.2 ((byte_eq).1 h)⟩ (by simp only []; omega) ?_
   repeat' first | exact trivial | exact rfl | refine And.intro ?_ ?_
 ·repeat' ((conv => whnf); first | refine rtB ?_ | fail)
  exact take_end (by omega) hl hi.2
theorem equalEns_spec (a b : List Ent) : Does Tryz.prog 320 [.c (.bs 4 Ent encEn a), .c (.bs 4 Ent encEn b)] [] (Rt (.c (.bool (decide (a = b)))) []) := by
 refine X_spec (n := 26) (n0 := 0) tabOk Tryz.call320 Tryz.func320 ?_
 intro hb; have hb : a.length ≤ 9223372036854775807 := hb.1.1
 repeat' ((conv => whnf); first | (refine decN (fun h => ?_) (fun h => ?_) <;> try contradiction) | refine rtB ?_ | fail)
 ·exact ne_len h
 (conv => whnf)
 have hl : a.length = b.length := by omega
 refine lp Nat (fun i => ⟨[(0, .c (.bs 4 Ent encEn a)), (1, .c (.bs 4 Ent encEn b)), (12, .c (.int .i64 a.length)), (13, .c (.int .i64 i))], []⟩) (fun i => i ≤ a.length ∧ a.take i = b.take i) (fun i => a.length - i) 0 [] [] ?_ ?_ (fun i hi => ?_)
 ·simp
 ·repeat' first | exact trivial | exact rfl | refine And.intro ?_ ?_
 (conv => whnf)
 refine dec (fun h4 => ?_) (fun h4 => ?_)
 ·have hlt : i < a.length := by omega
  have hlt' : i < b.length := by omega
  (conv => whnf)
  refine ⟨false, .grow, (.l [0, 1, 2, 3, 4, 5, 6, 7, 8]), by kernel_rfl, .inl ?_⟩
  repeat' ((conv => whnf); first | (refine decN (fun h => ?_) (fun h => ?_) <;> try contradiction) | refine ⟨i64 (by omega) (by omega), ?_⟩ | refine ⟨_, _, rfl, List.getElem?_eq_getElem (by omega), ?_⟩ | refine rtB ?_ | fail)
  ·exact ne_at hlt hlt' (fun e => h ((eqEn).2 e))
  ·refine ag (i + 1) [] [] ⟨hlt, take_step hlt hlt' hi.2 ((eqEn).1 h)⟩ (by simp only []; omega) ?_
   repeat' first | exact trivial | exact rfl | refine And.intro ?_ ?_
 ·repeat' ((conv => whnf); first | refine rtB ?_ | fail)
  exact take_end (by omega) hl hi.2
theorem sameBytes_spec (a b : List UInt8) : Does Tryz.prog 18 [.c (.bs 1 UInt8 bytesC a), .c (.bs 1 UInt8 bytesC b)] [] (Rt (.c (.bool (decide (a = b)))) []) := by
 refine X_spec (n := 10) (n0 := 0) tabOk Tryz.call18 Tryz.func18 ?_
 intro hb
 (conv => whnf); refine ⟨a, rfl, ?_⟩
 (conv => whnf); refine ⟨b, rfl, ?_⟩
 (conv => whnf); exact rtC rfl rfl
theorem cloneBytes_spec (l : List UInt8) (hl : l.length * 1 ≤ 140737488355328) : Does Tryz.prog 118 [.c (.bs 1 UInt8 bytesC l)] [] (Rt (.c (.rw 0)) [.row 1 UInt8 bytesC l]) := by
 refine X_spec (n := 8) (n0 := 0) tabOk Tryz.call118 Tryz.func118 ?_
 intro hb
 (conv => whnf)
 intro q hq
 (conv => whnf)
 refine boo (fun h => ?_) (fun h => ?_)
 ·obtain rfl := hq h
  (conv => whnf)
  exact rx [] [.new]
 ·(conv => whnf)
  refine ⟨[], rfl, ?_⟩
  (conv => whnf)
  refine ⟨_, _, rfl, rfl, (by simp only [List.length_append, List.length_cons, List.length_nil]; omega), ?_⟩
  (conv => whnf)
  exact rx [] [.same 1]
theorem cloneEns_spec (l : List Ent) (hl : l.length * 40 ≤ 140737488355328) : Does Tryz.prog 296 [.c (.bs 4 Ent encEn l)] [] (Rt (.c (.rw 0)) [.row 4 Ent encEn l]) := by
 refine X_spec (n := 8) (n0 := 0) tabOk Tryz.call296 Tryz.func296 ?_
 intro hb
 (conv => whnf)
 intro q hq
 (conv => whnf)
 refine boo (fun h => ?_) (fun h => ?_)
 ·obtain rfl := hq h
  (conv => whnf)
  exact rx [] [.new]
 ·(conv => whnf)
  refine ⟨[], rfl, ?_⟩
  (conv => whnf)
  refine ⟨_, _, rfl, rfl, (by simp only [List.length_append, List.length_cons, List.length_nil]; omega), ?_⟩
  (conv => whnf)
  exact rx [] [.same 1]
theorem cloneInts_spec (l : List Int) (hl : l.length * 8 ≤ 140737488355328) : Does Tryz.prog 102 [.c (.bs 1 Int encI l)] [] (Rt (.c (.rw 0)) [.row 1 Int encI l]) := by
 refine X_spec (n := 8) (n0 := 0) tabOk Tryz.call102 Tryz.func102 ?_
 intro hb
 (conv => whnf)
 intro q hq
 (conv => whnf)
 refine boo (fun h => ?_) (fun h => ?_)
 ·obtain rfl := hq h
  (conv => whnf)
  exact rx [] [.new]
 ·(conv => whnf)
  refine ⟨[], rfl, ?_⟩
  (conv => whnf)
  refine ⟨_, _, rfl, rfl, (by simp only [List.length_append, List.length_cons, List.length_nil]; omega), ?_⟩
  (conv => whnf)
  exact rx [] [.same 1]
end Go.Nest
end
/- part -/
section

namespace Go.Nest
open Go Go.AM Go.Proofs
open Go.Proofs.YtpechfcbnoggfaaGreatDoor (tab tabOk)
set_option maxRecDepth 4000
def entF (prev : Option (List UInt8)) (e : Ent) : Int :=
 if nameC e.name ≠ 0 then nameC e.name else if e.mode < 1 ∨ 3 < e.mode then 6 else if e.id < 0 ∨ e.repo < 0 ∨ 4 ≤ e.repo then 1 else if e.mode ≠ 3 ∧ e.repo ≠ 0 then 7
 else match prev with
  | some p => if Op.bytesLess p e.name = true then 0 else 8
  | none => 0
def entsF : Option (List UInt8) → List Ent → Int
 | _, [] => 0
 | prev, e :: r => if entF prev e = 0 then entsF (some e.name) r else entF prev e
def prevN (l : List Ent) : Nat → Option (List UInt8)
 | 0 => none
 | i + 1 => (l[i]?).map (·.name)
def treeC (l : List Ent) : Int := if 60 < l.length then 5 else entsF none l
theorem entsF_at {l : List Ent} {i : Nat} (h : i < l.length) (hi : entsF none l = entsF (prevN l i) (l.drop i)) : entsF none l = if entF (prevN l i) l[i] = 0 then entsF (prevN l (i + 1)) (l.drop (i + 1)) else entF (prevN l i) l[i] := by
 rw [hi, List.drop_eq_getElem_cons h]
 have : prevN l (i + 1) = some l[i].name := by simp [prevN, h]
 rw [this, entsF]
theorem prevN_pos {l : List Ent} {i : Nat} (h : 0 < i) (hi : i < l.length) : prevN l i = some (l[i - 1]'(by omega)).name := by
 cases i with
 | zero => omega
 | succ j => simp only [prevN]; rw [List.getElem?_eq_getElem (by omega)]; rfl
theorem tree_spec (l : List Ent) : Does Tryz.prog 318 [.c (.bs 4 Ent encEn l)] [] (Rt (.c (.int .i64 (treeC l))) []) := by
 refine X_spec (n := 69) (n0 := 0) tabOk Tryz.call318 Tryz.func318 ?_
 intro hb; have hb : l.length ≤ 9223372036854775807 := hb.1.1
 repeat' ((conv => whnf); first | (refine dec (fun h => ?_) (fun h => ?_) <;> try contradiction) | refine rtI ?_ | fail)
 ·unfold treeC; rw [if_pos (by omega)]
 (conv => whnf)
 have ht : treeC l = entsF none l := by unfold treeC; rw [if_neg (by omega)]
 rw [ht]
 refine lp Nat (fun i => ⟨[(0, .c (.bs 4 Ent encEn l)), (9, .c (.bs 4 Ent encEn l)), (10, .c (.int .i64 l.length)), (11, .c (.int .i64 i))], []⟩) (fun i => i ≤ l.length ∧ entsF none l = entsF (prevN l i) (l.drop i)) (fun i => l.length - i) 0 [] [] ?_ ?_ (fun i hi => ?_)
 ·simp [prevN]
 ·repeat' first | exact trivial | exact rfl | refine And.intro ?_ ?_
 (conv => whnf)
 refine dec (fun h4 => ?_) (fun h4 => ?_)
 ·have hlt : i < l.length := by omega
  have hat := entsF_at hlt hi.2
  repeat' ((conv => whnf); first | refine ⟨_, _, rfl, List.getElem?_eq_getElem (by omega), ?_⟩ | fail)
  (conv => whnf)
  refine cl [] [] (name_spec l[i].name) ?_
  have leaf : ∀ {c : Int}, entF (prevN l i) l[i] = c → c ≠ 0 → c = entsF none l := fun h1 h2 => by rw [hat, h1, if_neg h2]
  repeat' ((conv => whnf); first | (refine dec (fun h => ?_) (fun h => ?_) <;> try contradiction) | (refine decN (fun h => ?_) (fun h => ?_) <;> try contradiction) | refine rtI ?_ | fail)
  all_goals first | (refine leaf ?_ ?_ <;> simp [entF, *]; done) | skip
  all_goals
   (conv => whnf)
   refine ⟨false, .grow, (.l [0, 1, 2, 3, 4, 5, 6, 7, 8, 9, 10, 11, 12, 13]), by kernel_rfl, .inl ?_⟩
   repeat' ((conv => whnf); first | (refine dec (fun h => ?_) (fun h => ?_) <;> try contradiction) | refine ⟨i64 (by omega) (by omega), ?_⟩ | fail)
   ·(conv => whnf)
    refine ⟨i - 1, l[i - 1], by omega, List.getElem?_eq_getElem (by omega), ?_⟩
    have hp := prevN_pos (l := l) (i := i) (by omega) hlt
    repeat' ((conv => whnf); first | refine booN (fun h => ?_) (fun h => ?_) | refine ⟨i64 (by omega) (by omega), ?_⟩ | refine rtI ?_ | fail)
    ·refine leaf ?_ (by decide); simp [entF, *]
    ·refine ag (i + 1) [] [] ⟨hlt, ?_⟩ (by simp only []; omega) ?_
     ·rw [hat, if_pos]; simp [entF, *]
     repeat' first | exact trivial | exact rfl | refine And.intro ?_ ?_
   ·have hp : prevN l i = none := by
     obtain rfl : i = 0 := by omega
     rfl
    skip
    refine ag (i + 1) [] [] ⟨hlt, ?_⟩ (by simp only []; omega) ?_
    ·rw [hat, if_pos]; simp [entF, *]
    repeat' first | exact trivial | exact rfl | refine And.intro ?_ ?_
 ·repeat' ((conv => whnf); first | refine rtI ?_ | fail)
  have := hi.2
  rw [List.drop_of_length_le (by omega)] at this
  rw [this]; rfl
end Go.Nest
end
/- part -/
section

namespace Go.Nest
open Go Go.AM Go.Proofs
open Go.Proofs.YtpechfcbnoggfaaGreatDoor (tab tabOk)
set_option maxRecDepth 4000
def idxF {α : Type} (p : α → Bool) (l : List α) : Int := match l.findIdx? p with
 | some i => i
 | none => -1
theorem idxF_at {α : Type} {p : α → Bool} {l : List α} {i : Nat} (h : i < l.length) (h1 : (l.take i).any p = false) (h2 : p l[i] = true) : (i : Int) = idxF p l := by
 have : l.findIdx? p = some i := by
  rw [List.findIdx?_eq_some_iff_getElem]
  refine ⟨h, h2, fun j hj => ?_⟩
  rw [List.any_eq_false] at h1
  have := h1 l[j] (by rw [List.mem_take_iff_getElem]; exact ⟨j, by omega, rfl⟩)
  simpa using this
 unfold idxF; rw [this]
theorem idxF_none {α : Type} {p : α → Bool} {l : List α} (h1 : l.any p = false) : (-1 : Int) = idxF p l := by
 have : l.findIdx? p = none := by
  rw [List.findIdx?_eq_none_iff]
  rw [List.any_eq_false] at h1
  intro x hx; simpa using h1 x hx
 unfold idxF; rw [this]
theorem idxF_any {α : Type} {p : α → Bool} {l : List α} : decide (0 ≤ idxF p l) = l.any p := by
 unfold idxF
 cases h : l.findIdx? p with
 | none =>
  rw [List.findIdx?_eq_none_iff] at h
  simp; exact h
 | some i =>
  rw [List.findIdx?_eq_some_iff_getElem] at h
  obtain ⟨h1, h2, _⟩ := h
  rw [any_at h1 h2]; simp
theorem indexInts_spec {g : Nat} {p : Int → Bool} (hp : ∀ x, Does Tryz.prog g [.c (.int .i64 x)] [] (Rt (.c (.bool (p x))) [])) (l : List Int) : Does Tryz.prog 178 [.c (.bs 1 Int encI l), .c (.fn g [])] [] (Rt (.c (.int .i64 (idxF p l))) []) := by
 refine X_spec (n := 19) (n0 := 0) tabOk Tryz.call178 Tryz.func178 ?_
 intro hb; have hb : l.length ≤ 9223372036854775807 := hb.1.1
 (conv => whnf)
 refine lp Nat (fun i => ⟨[(0, .c (.bs 1 Int encI l)), (1, .c (.fn g [])), (7, .c (.int .i64 l.length)), (8, .c (.int .i64 i))], []⟩) (fun i => i ≤ l.length ∧ (l.take i).any p = false) (fun i => l.length - i) 0 [] [] ?_ ?_ (fun i hi => ?_)
 ·simp
 ·repeat' first | exact trivial | exact rfl | refine And.intro ?_ ?_
 (conv => whnf)
 refine dec (fun h4 => ?_) (fun h4 => ?_)
 ·have hlt : i < l.length := by omega
  repeat' ((conv => whnf); first | refine ⟨_, _, rfl, List.getElem?_eq_getElem (by omega), ?_⟩ | fail)
  (conv => whnf)
  refine cl [] [] (hp l[i]) ?_
  repeat' ((conv => whnf); first | refine boo (fun h => ?_) (fun h => ?_) | refine ⟨i64 (by omega) (by omega), ?_⟩ | refine rtI ?_ | fail)
  ·exact idxF_at hlt hi.2 h
  ·refine ag (i + 1) [] [] ⟨hlt, any_take hlt hi.2 h⟩ (by simp only []; omega) ?_
   repeat' first | exact trivial | exact rfl | refine And.intro ?_ ?_
 ·repeat' ((conv => whnf); first | refine rtI ?_ | fail)
  have := hi.2
  rw [List.take_of_length_le (by omega)] at this
  exact idxF_none this
theorem containsInts_spec {g : Nat} {p : Int → Bool} (hp : ∀ x, Does Tryz.prog g [.c (.int .i64 x)] [] (Rt (.c (.bool (p x))) [])) (l : List Int) : Does Tryz.prog 106 [.c (.bs 1 Int encI l), .c (.fn g [])] [] (Rt (.c (.bool (l.any p))) []) := by
 refine X_spec (n := 9) (n0 := 0) tabOk Tryz.call106 Tryz.func106 ?_
 intro hb
 (conv => whnf)
 refine cl [] [] (indexInts_spec hp l) ?_
 (conv => whnf)
 exact rtB idxF_any
theorem checkF_spec (n : Int) : Does Tryz.prog 316 [.c (.int .i64 n)] [] (Rt (.c (.bool (decide (n < 0)))) []) := by
 refine X_spec (n := 5) (n0 := 0) tabOk Tryz.call316 Tryz.func316 ?_
 intro hb
 (conv => whnf)
 exact rtB rfl
def objF (o : Ob) : Int :=
 if o.kind < 1 ∨ 3 < o.kind then 6
 else if (o.kind ≠ 1 ∧ 0 < o.bytes.length) ∨ (o.kind ≠ 2 ∧ 0 < o.entries.length) ∨ (o.kind ≠ 3 ∧ (o.tree ≠ 0 ∨ 0 < o.parents.length ∨ 0 < o.text.length)) then 7
 else if 400 < o.bytes.length ∨ 60 < o.text.length then 4
 else if 3 < o.parents.length then 5
 else if o.tree < 0 then 1
 else if o.parents.any (fun k => decide (k < 0)) = true then 1
 else if o.text.all shown = true then treeC o.entries
 else 2
theorem str_nil : ({ data := #[] } : ByteArray).data.toList = [] := rfl
set_option maxHeartbeats 2000000 in
theorem check_spec (o : Ob) : Does Tryz.prog 270 [.st (bOb o)] [] (Rt (.c (.int .i64 (objF o))) []) := by
 obtain ⟨kind, bytes, entries, tree, parents, text⟩ := o
 refine X_spec (n := 98) (n0 := 0) tabOk Tryz.call270 Tryz.func270 ?_
 intro hb
 (conv => whnf)
 refine ⟨false, .grow, (.l [0, 1, 2, 3, 4, 5, 6, 7, 8, 9, 10, 11]), by kernel_rfl, .inl ?_⟩
 by_cases hk1 : kind = 1
 ·subst hk1
  repeat' ((conv => whnf); first | (refine dec (fun h => ?_) (fun h => ?_) <;> try contradiction) | (refine decN (fun h => ?_) (fun h => ?_) <;> try contradiction) | refine rtI ?_ | fail)
  all_goals first | (show (_ : Int) = objF _; dsimp only at *; (try simp only [str_nil, ← List.length_eq_zero_iff] at *); simp only [objF]; (repeat' split) <;> first | rfl | (exfalso; omega) | (simp_all; done)) | skip
  all_goals
   (conv => whnf)
   refine cl [] [] (containsInts_spec checkF_spec parents) ?_
   repeat' ((conv => whnf); first | refine boo (fun h => ?_) (fun h => ?_) | refine rtI ?_ | fail)
  all_goals first | (show (_ : Int) = objF _; dsimp only at *; (try simp only [str_nil, ← List.length_eq_zero_iff] at *); simp only [objF]; (repeat' split) <;> first | rfl | (exfalso; omega) | (simp_all; done)) | skip
  all_goals
   (conv => whnf)
   refine cl [] [] (visible_spec text) ?_
   repeat' ((conv => whnf); first | refine booN (fun h => ?_) (fun h => ?_) | refine rtI ?_ | fail)
  all_goals first | (show (_ : Int) = objF _; dsimp only at *; (try simp only [str_nil, ← List.length_eq_zero_iff] at *); simp only [objF]; (repeat' split) <;> first | rfl | (exfalso; omega) | (simp_all; done)) | skip
  all_goals
   (conv => whnf)
   refine cl [] [] (tree_spec entries) ?_
   repeat' ((conv => whnf); first | refine rtI ?_ | fail)
  all_goals first | (show (_ : Int) = objF _; dsimp only at *; (try simp only [str_nil, ← List.length_eq_zero_iff] at *); simp only [objF]; (repeat' split) <;> first | rfl | (exfalso; omega) | (simp_all; done)) | skip
 by_cases hk2 : kind = 2
 ·subst hk2
  repeat' ((conv => whnf); first | (refine dec (fun h => ?_) (fun h => ?_) <;> try contradiction) | (refine decN (fun h => ?_) (fun h => ?_) <;> try contradiction) | refine rtI ?_ | fail)
  all_goals first | (show (_ : Int) = objF _; dsimp only at *; (try simp only [str_nil, ← List.length_eq_zero_iff] at *); simp only [objF]; (repeat' split) <;> first | rfl | (exfalso; omega) | (simp_all; done)) | skip
  all_goals
   (conv => whnf)
   refine cl [] [] (containsInts_spec checkF_spec parents) ?_
   repeat' ((conv => whnf); first | refine boo (fun h => ?_) (fun h => ?_) | refine rtI ?_ | fail)
  all_goals first | (show (_ : Int) = objF _; dsimp only at *; (try simp only [str_nil, ← List.length_eq_zero_iff] at *); simp only [objF]; (repeat' split) <;> first | rfl | (exfalso; omega) | (simp_all; done)) | skip
  all_goals
   (conv => whnf)
   refine cl [] [] (visible_spec text) ?_
   repeat' ((conv => whnf); first | refine booN (fun h => ?_) (fun h => ?_) | refine rtI ?_ | fail)
  all_goals first | (show (_ : Int) = objF _; dsimp only at *; (try simp only [str_nil, ← List.length_eq_zero_iff] at *); simp only [objF]; (repeat' split) <;> first | rfl | (exfalso; omega) | (simp_all; done)) | skip
  all_goals
   (conv => whnf)
   refine cl [] [] (tree_spec entries) ?_
   repeat' ((conv => whnf); first | refine rtI ?_ | fail)
  all_goals first | (show (_ : Int) = objF _; dsimp only at *; (try simp only [str_nil, ← List.length_eq_zero_iff] at *); simp only [objF]; (repeat' split) <;> first | rfl | (exfalso; omega) | (simp_all; done)) | skip
 by_cases hk3 : kind = 3
 ·subst hk3
  repeat' ((conv => whnf); first | (refine dec (fun h => ?_) (fun h => ?_) <;> try contradiction) | refine rtI ?_ | fail)
  all_goals first | (show (_ : Int) = objF _; dsimp only at *; (try simp only [str_nil, ← List.length_eq_zero_iff] at *); simp only [objF]; (repeat' split) <;> first | rfl | (exfalso; omega) | (simp_all; done)) | skip
  all_goals
   (conv => whnf)
   refine cl [] [] (containsInts_spec checkF_spec parents) ?_
   repeat' ((conv => whnf); first | refine boo (fun h => ?_) (fun h => ?_) | refine rtI ?_ | fail)
  all_goals first | (show (_ : Int) = objF _; dsimp only at *; (try simp only [str_nil, ← List.length_eq_zero_iff] at *); simp only [objF]; (repeat' split) <;> first | rfl | (exfalso; omega) | (simp_all; done)) | skip
  all_goals
   (conv => whnf)
   refine cl [] [] (visible_spec text) ?_
   repeat' ((conv => whnf); first | refine booN (fun h => ?_) (fun h => ?_) | refine rtI ?_ | fail)
  all_goals first | (show (_ : Int) = objF _; dsimp only at *; (try simp only [str_nil, ← List.length_eq_zero_iff] at *); simp only [objF]; (repeat' split) <;> first | rfl | (exfalso; omega) | (simp_all; done)) | skip
  all_goals
   (conv => whnf)
   refine cl [] [] (tree_spec entries) ?_
   repeat' ((conv => whnf); first | refine rtI ?_ | fail)
  all_goals first | (show (_ : Int) = objF _; dsimp only at *; (try simp only [str_nil, ← List.length_eq_zero_iff] at *); simp only [objF]; (repeat' split) <;> first | rfl | (exfalso; omega) | (simp_all; done)) | skip
 ·have : objF ⟨kind, bytes, entries, tree, parents, text⟩ = 6 := by
   unfold objF; rw [if_pos (by simp only []; omega)]
  rw [this]
  repeat' ((conv => whnf); first | (refine decN (fun h => ?_) (fun h => ?_) <;> try contradiction) | refine rtI ?_ | fail)
  all_goals rfl
end Go.Nest
end
/- part -/
section

namespace Go.Nest
open Go Go.AM Go.Proofs
open Go.Proofs.YtpechfcbnoggfaaGreatDoor (tab tabOk)
set_option maxRecDepth 4000
theorem ob_ne {o u : Ob} (h : ¬ (o.kind = u.kind ∧ o.tree = u.tree ∧ o.text = u.text ∧ o.bytes = u.bytes ∧ o.entries = u.entries ∧ o.parents = u.parents)) : false = decide (o = u) := by
 symm; rw [decide_eq_false_iff_not]; intro e; subst e; exact h ⟨rfl, rfl, rfl, rfl, rfl, rfl⟩
theorem ob_eq {o u : Ob} (h1 : o.kind = u.kind) (h2 : o.tree = u.tree) (h3 : o.text = u.text) (h4 : o.bytes = u.bytes) (h5 : o.entries = u.entries) (h6 : o.parents = u.parents) : o = u := by
 cases o; cases u; simp_all
theorem same_spec (o u : Ob) : Does Tryz.prog 274 [.st (bOb o), .st (bOb u)] [] (Rt (.c (.bool (decide (o = u)))) []) := by
 refine X_spec (n := 45) (n0 := 0) tabOk Tryz.call274 Tryz.func274 ?_
 intro hb
 repeat' ((conv => whnf); first | (refine dec (fun h => ?_) (fun h => ?_) <;> try contradiction) | refine rtB ?_ | fail)
 ·(conv => whnf)
  refine cl [] [] (equalBytes_spec o.bytes u.bytes) ?_
  repeat' ((conv => whnf); first | (refine dec (fun h => ?_) (fun h => ?_) <;> try contradiction) | refine rtB ?_ | fail)
  ·(conv => whnf)
   refine cl [] [] (equalEns_spec o.entries u.entries) ?_
   repeat' ((conv => whnf); first | (refine dec (fun h => ?_) (fun h => ?_) <;> try contradiction) | refine rtB ?_ | fail)
   ·(conv => whnf)
    refine cl [] [] (equalInts_spec o.parents u.parents) ?_
    repeat' ((conv => whnf); first | refine rtB ?_ | fail)
    rw [Bool.eq_iff_iff, decide_eq_true_iff, decide_eq_true_iff]
    exact ⟨fun h6 => by apply ob_eq <;> assumption, fun e => by rw [e]⟩
   all_goals exact ob_ne (by simp [*])
  all_goals exact ob_ne (by simp [*])
 all_goals exact ob_ne (by simp [*])
theorem own_spec (o : Ob) (h1 : o.bytes.length * 1 ≤ 140737488355328) (h2 : o.entries.length * 40 ≤ 140737488355328) (h3 : o.parents.length * 8 ≤ 140737488355328) : Does Tryz.prog 247 [.st (bOb o)] [] (Rt (.st (encOb o)) []) := by
 refine X_spec (n := 16) (n0 := 0) tabOk Tryz.call247 Tryz.func247 ?_
 intro hb
 (conv => whnf)
 refine ⟨false, .grow, (.l [0, 1, 3, 4, 6, 7, 2, 9, 5, 8, 10, 11, 12, 13, 14]), by kernel_rfl, .inl ?_⟩
 skip
 (conv => whnf)
 refine cl [] [] (cloneBytes_spec o.bytes h1) ?_
 skip
 (conv => whnf)
 refine cl [] [] (cloneEns_spec o.entries h2) ?_
 skip
 (conv => whnf)
 refine cl [] [] (cloneInts_spec o.parents h3) ?_
 skip
 (conv => whnf)
 exact rx [2, 3, 4] []
end Go.Nest
end
/- part -/
section

namespace Go.Nest
open Go Go.AM Go.Proofs
open Go.Proofs.YtpechfcbnoggfaaGreatDoor (tab tabOk)
set_option maxRecDepth 4000
def ob0 : Ob := ⟨0, [], [], 0, [], []⟩
def kindOf (l : List Ob) (id : Int) : Int := if id < 0 then 0 else ((l[id.toNat]?).map (·.kind)).getD 0
theorem kindOf_neg {l : List Ob} {id : Int} (h : id < 0) : (0 : Int) = kindOf l id := by simp [kindOf, h]
theorem kindOf_ge {l : List Ob} {id : Int} (h : (l.length : Int) ≤ id) : (0 : Int) = kindOf l id := by
 unfold kindOf; split
 ·rfl
 ·rw [List.getElem?_eq_none (by omega)]; rfl
theorem kindOf_at {l : List Ob} {id : Int} (h : ¬ id < 0) (h2 : id.toNat < l.length) : l[id.toNat].kind = kindOf l id := by
 unfold kindOf; rw [if_neg h, List.getElem?_eq_getElem h2]; rfl
theorem kind_spec (l : List Ob) (id : Int) : Does Tryz.prog 103 [.c (.bp [.bs 6 Ob encOb l]), .c (.int .i64 id)] [] (Rt (.c (.int .i64 (kindOf l id))) []) := by
 refine X_spec (n := 24) (n0 := 0) tabOk Tryz.call103 Tryz.func103 ?_
 intro hb
 repeat' ((conv => whnf); first | (refine dec (fun h => ?_) (fun h => ?_) <;> try contradiction) | refine rtI ?_ | fail)
 ·exact kindOf_neg h
 ·exact kindOf_ge h
 ·(conv => whnf)
  have hlt : id.toNat < l.length := by omega
  refine ⟨id.toNat, l[id.toNat], by omega, List.getElem?_eq_getElem hlt, ?_⟩
  repeat' ((conv => whnf); first | refine rtI ?_ | fail)
  exact kindOf_at (by assumption) hlt
theorem len_spec (l : List Ob) : Does Tryz.prog 71 [.c (.bp [.bs 6 Ob encOb l])] [] (Rt (.c (.int .i64 l.length)) []) := by
 refine X_spec (n := 8) (n0 := 0) tabOk Tryz.call71 Tryz.func71 ?_
 intro hb
 repeat' ((conv => whnf); first | refine rtI ?_ | fail)
 rfl
def leadsP (l : List Ob) (o : Ob) : Bool := (o.entries.all fun e => decide (kindOf l e.id = e.mode)) && ((o.parents.all fun k => decide (kindOf l k = 3)) && (!decide (o.kind = 3) || decide (kindOf l o.tree = 2)))
theorem all_take {α : Type} {p : α → Bool} {l : List α} {i : Nat} (h : i < l.length) (h1 : (l.take i).all p = true) (h2 : p l[i] = true) : (l.take (i + 1)).all p = true := by
 rw [List.take_succ_eq_append_getElem h, List.all_append, h1]; simp [h2]
theorem all_not {α : Type} {p : α → Bool} {l : List α} {i : Nat} (h : i < l.length) (h2 : ¬ p l[i] = true) : l.all p = false := by
 rw [Bool.eq_false_iff, Ne, List.all_eq_true]; exact fun h3 => h2 (h3 _ (List.getElem_mem h))
theorem tab4 {m : Int} (h : 1 ≤ m ∧ m ≤ 3) : ([0, 1, 2, 3] : List Int)[m.toNat]? = some m := by
 have : m = 1 ∨ m = 2 ∨ m = 3 := by omega
 rcases this with rfl | rfl | rfl <;> rfl
theorem leads_spec (l : List Ob) (o : Ob) (ho : ∀ e ∈ o.entries, 1 ≤ e.mode ∧ e.mode ≤ 3) : Does Tryz.prog 271 [.c (.bp [.bs 6 Ob encOb l]), .st (bOb o)] [] (Rt (.c (.bool (leadsP l o))) []) := by
 refine X_spM (n := 49) (n0 := 0) tabOk Tryz.call271 Tryz.func271 ?_
 intro hb
 have hb1 : o.entries.length ≤ 9223372036854775807 := hb.1.2.1.2.2.1
 have hb2 : o.parents.length ≤ 9223372036854775807 := hb.1.2.1.2.2.2.2.1
 refine XM.seq ?_
 skip
 refine XM.join (ι := Unit) (fun _ => ⟨[(0, .c (.bp [.bs 6 Ob encOb l])), (3, .c (.ptr 0 0))], [.box (bOb o)]⟩) (fun _ => (o.entries.all fun e => decide (kindOf l e.id = e.mode)) = true) ?_ (fun _ h1 => ?_)
 ·(conv => whnf)
  refine lp Nat (fun i => ⟨[(0, .c (.bp [.bs 6 Ob encOb l])), (3, .c (.ptr 0 0)), (10, .c (.bs 4 Ent encEn o.entries)), (11, .c (.int .i64 o.entries.length)), (12, .c (.int .i64 i))], [.box (bOb o)]⟩) (fun i => i ≤ o.entries.length ∧ (o.entries.take i).all (fun e => decide (kindOf l e.id = e.mode)) = true) (fun i => o.entries.length - i) 0 [] [.same 0] ?_ ?_ (fun i hi => ?_)
  ·simp
  ·repeat' first | exact trivial | exact rfl | refine And.intro ?_ ?_
  (conv => whnf)
  refine dec (fun h4 => ?_) (fun h4 => ?_)
  ·have hlt : i < o.entries.length := by omega
   have hm := ho _ (List.getElem_mem hlt)
   repeat' ((conv => whnf); first | refine ⟨_, _, rfl, List.getElem?_eq_getElem (by omega), ?_⟩ | fail)
   (conv => whnf)
   refine ⟨false, .grow, (.alt [0, 1, 2, 5, 6] [3, 4] fun j => bif Nat.beq j 3 then (.l [4, 7, 8, 9]) else bif Nat.beq j 4 then (.l [7, 8, 3, 9]) else .l []), by kernel_rfl, .inl ?_⟩
   (conv => whnf)
   refine ⟨?_, ?_⟩
   ·(conv => whnf)
    refine cl [] [] (kind_spec l o.entries[i].id) ?_
    skip
    (conv => whnf)
    refine ⟨[0, 1, 2, 3], rfl, ?_⟩
    (conv => whnf)
    refine ⟨o.entries[i].mode.toNat, ⟨by omega, by simp only [List.length_cons, List.length_nil]; omega⟩, ?_⟩
    (conv => whnf)
    refine ⟨_, tab4 hm, ?_⟩
    repeat' ((conv => whnf); first | (refine decN (fun h => ?_) (fun h => ?_) <;> try contradiction) | refine ⟨i64 (by omega) (by omega), ?_⟩ | refine rtB ?_ | fail)
    ·unfold leadsP; rw [all_not (l := o.entries) hlt (by simpa using h)]; simp
    ·refine ag (i + 1) [] [.same 0] ⟨hlt, all_take hlt hi.2 (by simpa using h)⟩ (by simp only []; omega) ?_
     repeat' first | exact trivial | exact rfl | refine And.intro ?_ ?_
   ·(conv => whnf)
    refine ⟨[0, 1, 2, 3], rfl, ?_⟩
    (conv => whnf)
    refine ⟨o.entries[i].mode.toNat, ⟨by omega, by simp only [List.length_cons, List.length_nil]; omega⟩, ?_⟩
    (conv => whnf)
    refine ⟨_, tab4 hm, ?_⟩
    (conv => whnf)
    refine cl [] [] (kind_spec l o.entries[i].id) ?_
    repeat' ((conv => whnf); first | (refine decN (fun h => ?_) (fun h => ?_) <;> try contradiction) | refine ⟨i64 (by omega) (by omega), ?_⟩ | refine rtB ?_ | fail)
    ·unfold leadsP; rw [all_not (l := o.entries) hlt (by simpa using h)]; simp
    ·refine ag (i + 1) [] [.same 0] ⟨hlt, all_take hlt hi.2 (by simpa using h)⟩ (by simp only []; omega) ?_
     repeat' first | exact trivial | exact rfl | refine And.intro ?_ ?_
  ·have := hi.2
   rw [List.take_of_length_le (by omega)] at this
   (conv => whnf)
   refine ⟨(), this, [], [.same 0], ?_⟩
   repeat' first | exact trivial | exact rfl | refine And.intro ?_ ?_
 refine XM.join (ι := Unit) (fun _ => ⟨[(0, .c (.bp [.bs 6 Ob encOb l])), (3, .c (.ptr 0 0))], [.box (bOb o)]⟩) (fun _ => (o.parents.all fun k => decide (kindOf l k = 3)) = true) ?_ (fun _ h2 => ?_)
 ·(conv => whnf)
  refine lp Nat (fun i => ⟨[(0, .c (.bp [.bs 6 Ob encOb l])), (3, .c (.ptr 0 0)), (28, .c (.bs 1 Int encI o.parents)), (29, .c (.int .i64 o.parents.length)), (30, .c (.int .i64 i))], [.box (bOb o)]⟩) (fun i => i ≤ o.parents.length ∧ (o.parents.take i).all (fun k => decide (kindOf l k = 3)) = true) (fun i => o.parents.length - i) 0 [] [.same 0] ?_ ?_ (fun i hi => ?_)
  ·simp
  ·repeat' first | exact trivial | exact rfl | refine And.intro ?_ ?_
  (conv => whnf)
  refine dec (fun h4 => ?_) (fun h4 => ?_)
  ·have hlt : i < o.parents.length := by omega
   repeat' ((conv => whnf); first | refine ⟨_, _, rfl, List.getElem?_eq_getElem (by omega), ?_⟩ | fail)
   (conv => whnf)
   refine cl [] [] (kind_spec l o.parents[i]) ?_
   repeat' ((conv => whnf); first | (refine decN (fun h => ?_) (fun h => ?_) <;> try contradiction) | refine ⟨i64 (by omega) (by omega), ?_⟩ | refine rtB ?_ | fail)
   ·unfold leadsP; rw [all_not (l := o.parents) hlt (by simpa using h)]; simp
   ·refine ag (i + 1) [] [.same 0] ⟨hlt, all_take hlt hi.2 (by simpa using h)⟩ (by simp only []; omega) ?_
    repeat' first | exact trivial | exact rfl | refine And.intro ?_ ?_
  ·have := hi.2
   rw [List.take_of_length_le (by omega)] at this
   (conv => whnf)
   refine ⟨(), this, [], [.same 0], ?_⟩
   repeat' first | exact trivial | exact rfl | refine And.intro ?_ ?_
 refine XM.of ?_
 have hl : leadsP l o = (!decide (o.kind = 3) || decide (kindOf l o.tree = 2)) := by unfold leadsP; rw [h1, h2]; rfl
 rw [hl]
 repeat' ((conv => whnf); first | (refine decN (fun h => ?_) (fun h => ?_) <;> try contradiction) | refine rtB ?_ | fail)
 ·simp [h]
 ·(conv => whnf)
  refine cl [] [] (kind_spec l o.tree) ?_
  repeat' ((conv => whnf); first | refine rtB ?_ | fail)
  simp [h]
end Go.Nest
end
/- part -/
section

namespace Go.Nest
open Go Go.AM
theorem entF_ok {p : Option (List UInt8)} {e : Ent} (h : entF p e = 0) : nameC e.name = 0 ∧ (1 ≤ e.mode ∧ e.mode ≤ 3) ∧ 0 ≤ e.id ∧ (0 ≤ e.repo ∧ e.repo < 4) ∧ (e.mode = 3 ∨ e.repo = 0) := by
 unfold entF at h
 split at h
 ·exact absurd h ‹_›
 split at h
 ·cases h
 split at h
 ·cases h
 split at h
 ·cases h
 refine ⟨?_, ?_, ?_, ?_, ?_⟩ <;> omega
theorem entsF_ok : ∀ {l : List Ent} {p : Option (List UInt8)}, entsF p l = 0 → ∀ e ∈ l, nameC e.name = 0 ∧ (1 ≤ e.mode ∧ e.mode ≤ 3) ∧ 0 ≤ e.id ∧ (0 ≤ e.repo ∧ e.repo < 4) ∧ (e.mode = 3 ∨ e.repo = 0)
 | [], _, _, e, he => by cases he
 | x :: l, p, h, e, he => by
  unfold entsF at h
  split at h
  ·rename_i h0
   rcases List.mem_cons.1 he with rfl | he
   ·exact entF_ok h0
   ·exact entsF_ok h e he
  ·exact absurd h ‹_›
structure OkO (o : Ob) : Prop where
 k1 : 1 ≤ o.kind
 k3 : o.kind ≤ 3
 bytes : o.bytes.length ≤ 400
 text : o.text.length ≤ 60
 parents : o.parents.length ≤ 3
 entries : o.entries.length ≤ 60
 nb : o.kind ≠ 1 → o.bytes = []
 ne : o.kind ≠ 2 → o.entries = []
 nc : o.kind ≠ 3 → o.tree = 0 ∧ o.parents = [] ∧ o.text = []
 tree : 0 ≤ o.tree
 par : ∀ k ∈ o.parents, 0 ≤ k
 txt : o.text.all shown = true
 ents : entsF none o.entries = 0
theorem len0 {α : Type} {l : List α} (h : ¬ 0 < l.length) : l = [] := List.eq_nil_of_length_eq_zero (by omega)
theorem objF_ok {o : Ob} (h : objF o = 0) : OkO o := by
 simp only [objF] at h
 split at h
 ·cases h
 split at h
 ·cases h
 split at h
 ·cases h
 split at h
 ·cases h
 split at h
 ·cases h
 split at h
 ·cases h
 split at h
 ·unfold treeC at h
  split at h
  ·cases h
  rename_i h1 h2 h3 h4 h5 h6 h7 h8
  refine ⟨by omega, by omega, by omega, by omega, by omega, by omega, fun hk => len0 (by omega), fun hk => len0 (by omega), fun hk => ⟨by omega, len0 (by omega), len0 (by omega)⟩, by omega, fun k hk => ?_, h7, h⟩
  rw [Bool.not_eq_true, List.any_eq_false] at h6
  have := h6 k hk
  simpa using this
 ·cases h
theorem OkO.modes {o : Ob} (h : OkO o) : ∀ e ∈ o.entries, 1 ≤ e.mode ∧ e.mode ≤ 3 := fun e he => (entsF_ok h.ents e he).2.1
theorem OkO.ids {o : Ob} (h : OkO o) : ∀ e ∈ o.entries, 0 ≤ e.id := fun e he => (entsF_ok h.ents e he).2.2.1
inductive PoolOk : List Ob → Prop
 | nil : PoolOk []
 | snoc {l : List Ob} {o : Ob} (h : PoolOk l) (ho : objF o = 0) (hl : leadsP l o = true) (hn : o ∉ l) (hlen : l.length < 600) : PoolOk (l ++ [o])
theorem PoolOk.len {l : List Ob} (h : PoolOk l) : l.length ≤ 600 := by
 cases h with
 | nil => simp
 | snoc _ _ _ _ h => simp; omega
theorem PoolOk.mem {l : List Ob} (h : PoolOk l) : ∀ o ∈ l, OkO o := by
 induction h with
 | nil => intro o ho; cases ho
 | snoc _ ho _ _ _ ih =>
  intro u hu
  rcases List.mem_append.1 hu with hu | hu
  ·exact ih u hu
  ·rw [List.mem_singleton] at hu; subst hu; exact objF_ok ho
def putP (l : List Ob) (o : Ob) : Int × Int × List Ob :=
 if objF o ≠ 0 then (0, objF o, l) else if leadsP l o = false then (0, 14, l) else if 0 ≤ idxF (fun x => decide (x = o)) l then (idxF (fun x => decide (x = o)) l, 0, l)
 else if l.length = 600 then (0, 15, l) else (l.length, 0, l ++ [o])
theorem idxF_neg {α : Type} {p : α → Bool} {l : List α} (h : ¬ 0 ≤ idxF p l) : l.any p = false := by rw [← idxF_any]; simpa using h
theorem putP_ok {l : List Ob} (h : PoolOk l) (o : Ob) : PoolOk (putP l o).2.2 := by
 unfold putP
 split
 ·exact h
 split
 ·exact h
 split
 ·exact h
 split
 ·exact h
 rename_i h1 h2 h3 h4
 refine .snoc h (by simpa using h1) (by simpa using h2) ?_ (by have := h.len; omega)
 have := idxF_neg h3
 rw [List.any_eq_false] at this
 intro hm
 simpa using this o hm
def getP (l : List Ob) (id : Int) : Ob := if id < 0 then ob0 else (l[id.toNat]?).getD ob0
theorem getP_at {l : List Ob} {id : Int} (h : ¬ id < 0) (h2 : id.toNat < l.length) : getP l id = l[id.toNat] := by
 unfold getP; rw [if_neg h, List.getElem?_eq_getElem h2]; rfl
theorem getP_kind {l : List Ob} {id : Int} : (getP l id).kind = kindOf l id := by
 unfold getP kindOf
 split
 ·rfl
 ·cases l[id.toNat]? <;> rfl
theorem kindOf_pos {l : List Ob} {id : Int} (h : ¬ kindOf l id = 0) : ¬ id < 0 ∧ id.toNat < l.length := by
 by_cases h1 : id < 0
 ·exact absurd (kindOf_neg h1).symm h
 ·refine ⟨h1, ?_⟩
  by_cases h2 : (l.length : Int) ≤ id
  ·exact absurd (kindOf_ge h2).symm h
  ·omega
theorem PoolOk.get {l : List Ob} (h : PoolOk l) {id : Int} (h1 : ¬ kindOf l id = 0) : OkO (getP l id) := by
 obtain ⟨h2, h3⟩ := kindOf_pos h1
 rw [getP_at h2 h3]; exact h.mem _ (List.getElem_mem h3)
theorem PoolOk.kind0 {l : List Ob} (h : PoolOk l) {id : Int} (h1 : kindOf l id = 0) : getP l id = ob0 := by
 unfold getP
 split
 ·rfl
 ·cases h2 : l[id.toNat]? with
  | none => rfl
  | some o =>
   exfalso
   have := (h.mem o (List.mem_of_getElem? h2)).k1
   unfold kindOf at h1
   rw [if_neg ‹_›, h2] at h1
   simp at h1; omega
def nextP (l : List Ob) (id : Int) : List Int := ((getP l id).entries.filter fun e => decide (e.mode ≠ 3)).map (·.id) ++ ((if (getP l id).kind = 3 then [(getP l id).tree] else []) ++ (getP l id).parents)
theorem nextP_len {l : List Ob} (h : PoolOk l) (id : Int) : (nextP l id).length ≤ 64 := by
 unfold nextP
 by_cases h0 : kindOf l id = 0
 ·rw [h.kind0 h0]; simp [ob0]
 ·have := h.get h0
  have h1 := this.entries
  have h2 := this.parents
  have h3 := List.length_filter_le (fun e : Ent => decide (e.mode ≠ 3)) (getP l id).entries
  rw [List.length_append, List.length_append, List.length_map]
  split <;> simp <;> simp at h3 <;> omega
end Go.Nest
end
/- part -/
section

namespace Go.Nest
open Go Go.AM
inductive Led (l : List Ob) (ids : List Int) : Int → Prop
 | base {k : Int} (h : k ∈ ids) (hk : ¬ kindOf l k = 0) : Led l ids k
 | step {j k : Int} (h : Led l ids j) (hk : k ∈ nextP l j) : Led l ids k
theorem kindOf_app {l m : List Ob} {k : Int} (h : ¬ kindOf l k = 0) : kindOf (l ++ m) k = kindOf l k := by
 obtain ⟨h1, h2⟩ := kindOf_pos h
 unfold kindOf
 rw [if_neg h1, if_neg h1, List.getElem?_append_left h2]
theorem kindOf_end {l : List Ob} {o : Ob} : kindOf (l ++ [o]) l.length = o.kind := by
 unfold kindOf
 rw [if_neg (by omega)]; simp
theorem getP_app {l m : List Ob} {k : Int} (h2 : k < l.length) : getP (l ++ m) k = getP l k := by
 unfold getP
 split
 ·rfl
 ·rw [List.getElem?_append_left (by omega)]
theorem getP_end {l : List Ob} {o : Ob} : getP (l ++ [o]) l.length = o := by
 unfold getP
 rw [if_neg (by omega)]; simp
theorem nextP_app {l m : List Ob} {k : Int} (h2 : k < l.length) : nextP (l ++ m) k = nextP l k := by unfold nextP; rw [getP_app h2]
theorem mem_next {l : List Ob} {j k : Int} (h : k ∈ nextP l j) : (∃ e ∈ (getP l j).entries, e.mode ≠ 3 ∧ e.id = k) ∨ ((getP l j).kind = 3 ∧ k = (getP l j).tree) ∨ k ∈ (getP l j).parents := by
 unfold nextP at h
 rw [List.mem_append, List.mem_append, List.mem_map] at h
 rcases h with ⟨e, he, h⟩ | h | h
 ·rw [List.mem_filter] at he
  exact .inl ⟨e, he.1, by simpa using he.2, h⟩
 ·split at h
  ·rw [List.mem_singleton] at h; exact .inr (.inl ⟨‹_›, h⟩)
  ·cases h
 ·exact .inr (.inr h)
theorem leads_next {l : List Ob} {o : Ob} (ho : OkO o) (hl : leadsP l o = true) {j k : Int} (hj : getP (l ++ [o]) j = o) (h : k ∈ nextP (l ++ [o]) j) : ¬ kindOf l k = 0 := by
 unfold leadsP at hl
 rw [Bool.and_eq_true, Bool.and_eq_true, List.all_eq_true, List.all_eq_true] at hl
 have := mem_next h
 rw [hj] at this
 rcases this with ⟨e, he, h1, rfl⟩ | ⟨h1, rfl⟩ | h1
 ·have h2 := hl.1 e he
  have h3 := ho.modes e he
  rw [decide_eq_true_iff] at h2
  omega
 ·have h2 := hl.2.2
  simp [h1] at h2
  omega
 ·have h2 := hl.2.1 k h1
  rw [decide_eq_true_iff] at h2
  omega
theorem next_lt {l : List Ob} (hl : PoolOk l) {j k : Int} (h : k ∈ nextP l j) : ¬ kindOf l k = 0 ∧ k < j := by
 induction hl with
 | nil => unfold nextP getP at h; split at h <;> simp [ob0] at h
 | @snoc l o hp ho hle hn hlen ih =>
  by_cases hj : j < l.length
  ·rw [nextP_app hj] at h
   obtain ⟨h1, h2⟩ := ih h
   exact ⟨by rw [kindOf_app h1]; exact h1, h2⟩
  ·by_cases hj2 : j = l.length
   ·subst hj2
    have h1 := leads_next (objF_ok ho) hle getP_end h
    obtain ⟨h2, h3⟩ := kindOf_pos h1
    exact ⟨by rw [kindOf_app h1]; exact h1, by omega⟩
   ·exfalso
    have : getP (l ++ [o]) j = ob0 := by
     unfold getP
     rw [if_neg (by omega), List.getElem?_eq_none (by rw [List.length_append, List.length_singleton]; omega)]; rfl
    unfold nextP at h
    rw [this] at h
    simp [ob0] at h
theorem Led.kind {l : List Ob} {ids : List Int} (hl : PoolOk l) {k : Int} (h : Led l ids k) : ¬ kindOf l k = 0 := by
 cases h with
 | base _ hk => exact hk
 | step _ hk => exact (next_lt hl hk).1
noncomputable def reachP (l : List Ob) (ids : List Int) : List Int := ((List.range l.length).filter fun k : Nat => @decide (Led l ids (k : Int)) (Classical.propDecidable _)).map fun k : Nat => (k : Int)
def Mk (vis : List Bool) (k : Int) : Prop := ∃ n : Nat, k = n ∧ vis[n]? = some true
def outOf (vis : List Bool) (i : Nat) : List Int := ((List.range i).filter fun k : Nat => (vis[k]?).getD false).map fun k : Nat => (k : Int)
theorem outOf_succ {vis : List Bool} {i : Nat} (h : i < vis.length) : outOf vis (i + 1) = outOf vis i ++ (if vis[i] = true then [(i : Int)] else []) := by
 unfold outOf
 rw [List.range_succ, List.filter_append, List.map_append]
 congr 1
 cases hv : vis[i] <;> simp [List.getElem?_eq_getElem h, hv]
theorem outOf_len {vis : List Bool} {i : Nat} : (outOf vis i).length ≤ i := by
 unfold outOf
 rw [List.length_map]
 exact Nat.le_trans (List.length_filter_le _ _) (by simp)
theorem outOf_reach {l : List Ob} {ids : List Int} {vis : List Bool} (hv : vis.length = l.length) (h : ∀ k, Mk vis k ↔ Led l ids k) : outOf vis l.length = reachP l ids := by
 unfold outOf reachP
 congr 1
 refine List.filter_congr fun k hk => ?_
 rw [List.mem_range] at hk
 have := h k
 rw [Bool.eq_iff_iff, @decide_eq_true_iff _ (Classical.propDecidable _), ← this]
 unfold Mk
 constructor
 ·intro h1
  refine ⟨k, rfl, ?_⟩
  rw [List.getElem?_eq_getElem (by omega)] at h1 ⊢
  simpa using h1
 ·rintro ⟨n, h1, h2⟩
  obtain rfl : k = n := by omega
  rw [h2]; rfl
theorem Mk.set {vis : List Bool} {n : Nat} {k : Int} (hn : n < vis.length) : Mk (vis.set n true) k ↔ Mk vis k ∨ k = n := by
 unfold Mk
 constructor
 ·rintro ⟨m, rfl, h⟩
  by_cases e : n = m
  ·subst e; exact .inr rfl
  ·rw [List.getElem?_set_ne e] at h; exact .inl ⟨m, rfl, h⟩
 ·rintro (⟨m, rfl, h⟩ | rfl)
  ·by_cases e : n = m
   ·subst e; exact ⟨n, rfl, by rw [List.getElem?_set_self hn]⟩
   ·exact ⟨m, rfl, by rw [List.getElem?_set_ne e]; exact h⟩
  ·exact ⟨n, rfl, by rw [List.getElem?_set_self hn]⟩
theorem count_set : ∀ {vis : List Bool} {n : Nat}, vis[n]? = some false → (vis.set n true).count true = vis.count true + 1
 | b :: v, 0, h => by simp at h; subst h; simp
 | b :: v, n + 1, h => by
  simp at h
  rw [List.set_cons_succ, List.count_cons, List.count_cons, count_set h]; omega
theorem Led.of_closed {l : List Ob} {ids : List Int} {vis : List Bool} (h1 : ∀ k ∈ ids, ¬ kindOf l k = 0 → Mk vis k) (h2 : ∀ j, Mk vis j → ∀ k ∈ nextP l j, Mk vis k) {k : Int} (h : Led l ids k) : Mk vis k := by
 induction h with
 | base h hk => exact h1 _ h hk
 | step _ hk ih => exact h2 _ ih _ hk
theorem not_Mk_rep {n : Nat} {k : Int} : ¬ Mk (List.replicate n false) k := by
 rintro ⟨m, rfl, h⟩
 rw [List.getElem?_replicate] at h
 split at h <;> cases h
end Go.Nest
end
/- part -/
section

namespace Go.Nest
open Go Go.AM
theorem PoolOk.nodup {l : List Ob} (h : PoolOk l) : l.Nodup := by
 induction h with
 | nil => exact List.nodup_nil
 | snoc _ _ _ hn _ ih =>
  rw [List.nodup_append]
  exact ⟨ih, by simp, fun a ha b hb => by rw [List.mem_singleton] at hb; subst hb; intro e; subst e; exact hn ha⟩
theorem leads_app {l m : List Ob} {o : Ob} (ho : OkO o) (h : leadsP l o = true) : leadsP (l ++ m) o = true := by
 unfold leadsP at h ⊢
 rw [Bool.and_eq_true, Bool.and_eq_true, List.all_eq_true, List.all_eq_true] at h ⊢
 refine ⟨fun e he => ?_, fun k hk => ?_, ?_⟩
 ·have h1 := h.1 e he
  have h2 := ho.modes e he
  rw [decide_eq_true_iff] at h1 ⊢
  rw [kindOf_app (by omega)]; exact h1
 ·have h1 := h.2.1 k hk
  rw [decide_eq_true_iff] at h1 ⊢
  rw [kindOf_app (by omega)]; exact h1
 ·have h1 := h.2.2
  by_cases h3 : o.kind = 3
  ·simp [h3] at h1 ⊢
   rw [kindOf_app (by omega)]; exact h1
  ·simp [h3]
theorem PoolOk.obj {l : List Ob} (h : PoolOk l) : ∀ o ∈ l, objF o = 0 ∧ leadsP l o = true := by
 induction h with
 | nil => intro o ho; cases ho
 | snoc hp ho hl _ _ ih =>
  intro u hu
  rcases List.mem_append.1 hu with hu | hu
  ·exact ⟨(ih u hu).1, leads_app (objF_ok (ih u hu).1) (ih u hu).2⟩
  ·rw [List.mem_singleton] at hu; subst hu; exact ⟨ho, leads_app (objF_ok ho) hl⟩
theorem mem_reach {l : List Ob} {ids : List Int} (hl : PoolOk l) {k : Int} : k ∈ reachP l ids ↔ Led l ids k := by
 unfold reachP
 rw [List.mem_map]
 constructor
 ·rintro ⟨n, h1, rfl⟩
  rw [List.mem_filter] at h1
  exact (@decide_eq_true_iff _ (Classical.propDecidable _)).1 h1.2
 ·intro h
  obtain ⟨h1, h2⟩ := kindOf_pos (h.kind hl)
  refine ⟨k.toNat, List.mem_filter.2 ⟨by rw [List.mem_range]; exact h2, ?_⟩, by omega⟩
  rw [show ((k.toNat : Nat) : Int) = k by omega]
  exact (@decide_eq_true_iff _ (Classical.propDecidable _)).2 h
theorem reach_rise {l : List Ob} {ids : List Int} : (reachP l ids).Pairwise (· < ·) := by
 unfold reachP
 rw [List.pairwise_map]
 have := (List.pairwise_lt_range (n := l.length)).filter (fun k : Nat => @decide (Led l ids (k : Int)) (Classical.propDecidable _))
 exact this.imp (fun h => by omega)
theorem reach_len {l : List Ob} {ids : List Int} : (reachP l ids).length ≤ l.length := by
 unfold reachP
 rw [List.length_map]
 exact Nat.le_trans (List.length_filter_le _ _) (by simp)
theorem led_how {l : List Ob} {ids : List Int} (hl : PoolOk l) {k : Int} (h : Led l ids k) : k ∈ ids ∨ ∃ j ∈ reachP l ids, k ∈ nextP l j := by
 cases h with
 | base h _ => exact .inl h
 | step h hk => exact .inr ⟨_, (mem_reach hl).2 h, hk⟩
end Go.Nest
end
/- part -/
section

namespace Go.Nest
open Go Go.AM Go.Proofs
open Go.Proofs.YtpechfcbnoggfaaGreatDoor (tab tabOk)
set_option maxRecDepth 4000
theorem new_spec : Does Tryz.prog 49 [] [] (Rt (.c (.ptr 0 0)) [.box [.rw 1], .row 6 Ob encOb []]) := by
 refine X_spec (n := 3) (n0 := 0) tabOk Tryz.call49 Tryz.func49 ?_
 intro hb
 (conv => whnf)
 exact rx [] [.same 0, .new]
theorem get_spec (l : List Ob) (hl : PoolOk l) (id : Int) : Does Tryz.prog 166 [.c (.bp [.bs 6 Ob encOb l]), .c (.int .i64 id)] [] (Rt (.tup [(true, encOb (getP l id)), (false, [.bool (decide (kindOf l id ≠ 0))])]) []) := by
 refine X_spec (n := 19) (n0 := 0) tabOk Tryz.call166 Tryz.func166 ?_
 intro hb
 skip
 (conv => whnf)
 refine cl [] [] (kind_spec l id) ?_
 repeat' ((conv => whnf); first | (refine dec (fun h => ?_) (fun h => ?_) <;> try contradiction) | fail)
 ·rw [hl.kind0 h, h]
  (conv => whnf)
  exact rx [] []
 ·obtain ⟨h1, h2⟩ := kindOf_pos h
  have hk := hl.get h
  rw [show decide (kindOf l id ≠ 0) = true from decide_eq_true h]
  rw [getP_at h1 h2] at hk ⊢
  (conv => whnf)
  refine ⟨id.toNat, l[id.toNat], by omega, List.getElem?_eq_getElem h2, ?_⟩
  skip
  (conv => whnf)
  refine cl [] [] (own_spec l[id.toNat] (by have := hk.bytes; omega) (by have := hk.entries; omega) (by have := hk.parents; omega)) ?_
  (conv => whnf)
  exact rx [] []
theorem filt_step {es : List Ent} {i : Nat} (h : i < es.length) : ((es.take (i + 1)).filter fun e => decide (e.mode ≠ 3)).map (·.id) = ((es.take i).filter fun e => decide (e.mode ≠ 3)).map (·.id) ++ (if es[i].mode = 3 then [] else [es[i].id]) := by
 rw [List.take_succ_eq_append_getElem h, List.filter_append, List.map_append]
 congr 1
 by_cases h3 : es[i].mode = 3 <;> simp [h3]
theorem filt_len {es : List Ent} {i : Nat} (h : es.length ≤ 60) : (((es.take i).filter fun e => decide (e.mode ≠ 3)).map (·.id)).length ≤ 60 := by
 rw [List.length_map]
 refine Nat.le_trans (List.length_filter_le _ _) ?_
 rw [List.length_take]; omega
set_option maxHeartbeats 1000000 in
theorem next_spec (l : List Ob) (hl : PoolOk l) (id : Int) : Does Tryz.prog 104 [.c (.bp [.bs 6 Ob encOb l]), .c (.int .i64 id)] [] (Rt (.c (.rw 0)) [.row 1 Int encI (nextP l id)]) := by
 refine X_spM (n := 46) (n0 := 0) tabOk Tryz.call104 Tryz.func104 ?_
 intro hb
 refine XM.seq ?_
 skip
 refine XM.seq ?_
 skip
 (conv => whnf)
 refine cl [] [] (get_spec l hl id) ?_
 skip
 refine XM.seq ?_
 repeat' ((conv => whnf); first | (refine decN (fun h => ?_) (fun h => ?_) <;> try contradiction) | fail)
 ·(conv => whnf)
  rw [show nextP l id = [] by unfold nextP; rw [hl.kind0 (Decidable.not_not.1 h)]; rfl]
  exact rx [] [.new]
 have hk := hl.get h
 have he := hk.entries
 refine XM.seq ?_
 skip
 refine XM.join (ι := Unit) (fun _ => ⟨[(5, .c (.ptr 0 0)), (7, .c (.rw 1))], [.box (encOb (getP l id)), .row 1 Int encI (((getP l id).entries.filter fun e => decide (e.mode ≠ 3)).map (·.id))]⟩) (fun _ => True) ?_ (fun _ _ => ?_)
 ·(conv => whnf)
  refine lp Nat (fun i => ⟨[(5, .c (.ptr 0 0)), (7, .c (.rw 1)), (19, .c (.bs 4 Ent encEn (getP l id).entries)), (20, .c (.int .i64 (getP l id).entries.length)), (21, .c (.int .i64 i))],
   [.box (encOb (getP l id)), .row 1 Int encI ((((getP l id).entries.take i).filter fun e => decide (e.mode ≠ 3)).map (·.id))]⟩) (fun i => i ≤ (getP l id).entries.length ∧ True) (fun i => (getP l id).entries.length - i) 0 [] [.same 0, .new] ?_ ?_ (fun i hi => ?_)
  ·exact ⟨Nat.zero_le _, trivial⟩
  ·repeat' first | exact trivial | exact rfl | refine And.intro ?_ ?_
  (conv => whnf)
  refine dec (fun h4 => ?_) (fun h4 => ?_)
  ·have hlt : i < (getP l id).entries.length := by omega
   have hs := filt_step hlt
   have hle := filt_len (i := i) hk.entries
   repeat' ((conv => whnf); first | (refine decN (fun h => ?_) (fun h => ?_) <;> try contradiction) | refine ⟨i64 (by omega) (by omega), ?_⟩ | refine ⟨_, _, rfl, List.getElem?_eq_getElem (by omega), ?_⟩ | fail)
   ·rw [if_neg h] at hs
    (conv => whnf)
    refine ⟨[(getP l id).entries[i].id], rfl, ?_⟩
    (conv => whnf)
    refine ⟨_, _, rfl, rfl, (by simp only [List.length_append, List.length_cons, List.length_nil]; omega), ?_⟩
    repeat' ((conv => whnf); refine I6 ?_)
    refine ag (i + 1) [] [.same 0, .same 4] ⟨hlt, trivial⟩ (by simp only []; omega) ?_
    repeat' first | exact trivial | exact rfl | refine And.intro ?_ ?_
    rw [hs]; exact rfl
   ·rw [if_pos h, List.append_nil] at hs
    skip
    refine ag (i + 1) [] [.same 0, .same 1] ⟨hlt, trivial⟩ (by simp only []; omega) ?_
    repeat' first | exact trivial | exact rfl | refine And.intro ?_ ?_
    rw [hs]; exact rfl
  ·have : (getP l id).entries.take i = (getP l id).entries := List.take_of_length_le (by omega)
   rw [this]
   (conv => whnf)
   refine ⟨(), trivial, [], [.same 0, .same 1], ?_⟩
   repeat' first | exact trivial | exact rfl | refine And.intro ?_ ?_
 have hle := filt_len (i := (getP l id).entries.length) hk.entries
 rw [List.take_length] at hle
 have hp := hk.parents
 refine XM.join (ι := Unit) (fun _ => ⟨[(5, .c (.ptr 0 0)), (7, .c (.rw 1))], [.box (encOb (getP l id)), .row 1 Int encI (((getP l id).entries.filter fun e => decide (e.mode ≠ 3)).map (·.id) ++ (if (getP l id).kind = 3 then [(getP l id).tree] else []))]⟩) (fun _ => True) ?_ (fun _ _ => ?_)
 ·repeat' ((conv => whnf); first | (refine dec (fun h => ?_) (fun h => ?_) <;> try contradiction) | fail)
  ·(conv => whnf)
   refine ⟨[(getP l id).tree], rfl, ?_⟩
   (conv => whnf)
   refine ⟨_, _, rfl, rfl, (by simp only [List.length_append, List.length_cons, List.length_nil]; omega), ?_⟩
   (conv => whnf)
   rw [if_pos ‹(getP l id).kind = 3›]
   refine ⟨(), trivial, [], [.same 0, .same 3], ?_⟩
   repeat' first | exact trivial | exact rfl | refine And.intro ?_ ?_
  ·(conv => whnf)
   rw [if_neg ‹¬ (getP l id).kind = 3›, List.append_nil]
   refine ⟨(), trivial, [], [.same 0, .same 1], ?_⟩
   repeat' first | exact trivial | exact rfl | refine And.intro ?_ ?_
 have h1 : (if (getP l id).kind = 3 then [(getP l id).tree] else []).length ≤ 1 := by split <;> simp
 refine XM.of ?_
 (conv => whnf)
 refine ⟨_, _, rfl, rfl, (by simp only [List.length_append, List.length_cons, List.length_nil]; omega), ?_⟩
 (conv => whnf)
 rw [show nextP l id = _ from (List.append_assoc _ _ _).symm]
 exact rx [] [.same 2]
end Go.Nest
end
/- part -/
section

namespace Go.Nest
open Go Go.AM Go.Proofs
open Go.Proofs.YtpechfcbnoggfaaGreatDoor (tab tabOk)
set_option maxRecDepth 4000
theorem putF_spec (x o : Ob) : Does Tryz.prog 273 [.st (bOb x), .c (.bp (bOb o))] [] (Rt (.c (.bool (decide (x = o)))) []) := by
 refine X_spec (n := 7) (n0 := 0) tabOk Tryz.call273 Tryz.func273 ?_
 intro hb
 (conv => whnf)
 refine cl [] [] (same_spec x o) ?_
 repeat' ((conv => whnf); first | refine rtB ?_ | fail)
 rfl
theorem indexObs_spec (l : List Ob) (o : Ob) : Does Tryz.prog 272 [.c (.bs 6 Ob encOb l), .c (.fn 273 [.bp (bOb o)])] [] (Rt (.c (.int .i64 (idxF (fun x => decide (x = o)) l))) []) := by
 refine X_spec (n := 19) (n0 := 0) tabOk Tryz.call272 Tryz.func272 ?_
 intro hb; have hb : l.length ≤ 9223372036854775807 := hb.1.1
 (conv => whnf)
 refine lp Nat (fun i => ⟨[(0, .c (.bs 6 Ob encOb l)), (1, .c (.fn 273 [.bp (bOb o)])), (7, .c (.int .i64 l.length)), (8, .c (.int .i64 i))], []⟩) (fun i => i ≤ l.length ∧ (l.take i).any (fun x => decide (x = o)) = false) (fun i => l.length - i) 0 [] [] ?_ ?_ (fun i hi => ?_)
 ·simp
 ·repeat' first | exact trivial | exact rfl | refine And.intro ?_ ?_
 (conv => whnf)
 refine dec (fun h4 => ?_) (fun h4 => ?_)
 ·have hlt : i < l.length := by omega
  repeat' ((conv => whnf); first | refine ⟨_, _, rfl, List.getElem?_eq_getElem (by omega), ?_⟩ | fail)
  (conv => whnf)
  refine cl [] [] (putF_spec l[i] o) ?_
  repeat' ((conv => whnf); first | (refine dec (fun h => ?_) (fun h => ?_) <;> try contradiction) | refine ⟨i64 (by omega) (by omega), ?_⟩ | refine rtI ?_ | fail)
  ·exact idxF_at hlt hi.2 (by simpa using h)
  ·refine ag (i + 1) [] [] ⟨hlt, any_take hlt hi.2 (by simpa using h)⟩ (by simp only []; omega) ?_
   repeat' first | exact trivial | exact rfl | refine And.intro ?_ ?_
 ·repeat' ((conv => whnf); first | refine rtI ?_ | fail)
  have := hi.2
  rw [List.take_of_length_le (by omega)] at this
  exact idxF_none this
theorem put_spec (l : List Ob) (o : Ob) (hl : l.length ≤ 600) : Does Tryz.prog 203 [.c (.ptr 0 0), .st (bOb o)] [.box [.rw 1], .row 6 Ob encOb l] (Rt (.tup [(false, [.int .i64 (putP l o).1]), (false, [.int .i64 (putP l o).2.1])]) [.box [.rw 2], .dead, .row 6 Ob encOb (putP l o).2.2]) := by
 refine X_spM (n := 49) (n0 := 2) tabOk Tryz.call203 Tryz.func203 ?_
 intro hb
 refine XM.seq ?_
 skip
 refine XM.seq ?_
 (conv => whnf)
 refine cl [] [] (check_spec o) ?_
 repeat' ((conv => whnf); first | (refine decN (fun h => ?_) (fun h => ?_) <;> try contradiction) | fail)
 ·have hp : putP l o = (0, objF o, l) := by unfold putP; rw [if_pos h]
  rw [hp]
  (conv => whnf)
  exact rx [] [.same 0, .same 1, .same 1]
 have h1 : objF o = 0 := by simpa using h
 have hk := objF_ok h1
 refine XM.seq ?_
 skip
 (conv => whnf)
 refine cl [] [] (leads_spec l o hk.modes) ?_
 repeat' ((conv => whnf); first | refine booN (fun h => ?_) (fun h => ?_) | fail)
 ·have hp : putP l o = (0, 14, l) := by unfold putP; rw [if_neg (by simpa using h1), if_pos h]
  rw [hp]
  (conv => whnf)
  exact rx [] [.same 0, .same 1, .same 1]
 have h2 := h
 refine XM.seq ?_
 skip
 (conv => whnf)
 refine cl [] [] (indexObs_spec l o) ?_
 repeat' ((conv => whnf); first | (refine dec (fun h => ?_) (fun h => ?_) <;> try contradiction) | fail)
 ·have h3 := h
  have hp : putP l o = (idxF (fun x => decide (x = o)) l, 0, l) := by unfold putP; rw [if_neg (by simpa using h1), if_neg (by simp [h2]), if_pos h3]
  rw [hp]
  (conv => whnf)
  exact rx [] [.same 0, .same 1, .same 1]
 have h3 := h
 refine XM.seq ?_
 repeat' ((conv => whnf); first | (refine dec (fun h => ?_) (fun h => ?_) <;> try contradiction) | fail)
 ·have h4 := h
  have hp : putP l o = (0, 15, l) := by unfold putP; rw [if_neg (by simpa using h1), if_neg (by simp [h2]), if_neg h3, if_pos (by omega)]
  rw [hp]
  (conv => whnf)
  exact rx [] [.same 0, .same 1, .same 1]
 have h4 := h
 have hp : putP l o = (((l ++ [o]).length : Int) - 1, 0, l ++ [o]) := by unfold putP; rw [if_neg (by simpa using h1), if_neg (by simp [h2]), if_neg h3, if_neg (by omega)]; simp
 rw [hp]
 refine XM.of ?_
 (conv => whnf)
 refine ⟨false, .grow, (.l [0, 1, 2, 3, 4, 5, 6, 7, 8, 9, 10, 11]), by kernel_rfl, .inl ?_⟩
 skip
 (conv => whnf)
 refine cl [] [] (own_spec o (by have := hk.bytes; omega) (by have := hk.entries; omega) (by have := hk.parents; omega)) ?_
 (conv => whnf)
 refine ⟨[o], rfl, ?_⟩
 (conv => whnf)
 refine ⟨_, _, rfl, rfl, (by simp only [List.length_append, List.length_cons, List.length_nil]; omega), ?_⟩
 have hs : (l ++ [o]).length ≤ 600 := by rw [List.length_append, List.length_singleton]; omega
 repeat' ((conv => whnf); refine I6 ?_)
 (conv => whnf)
 exact rx [] [.same 0, .same 1, .same 4]
end Go.Nest
end
