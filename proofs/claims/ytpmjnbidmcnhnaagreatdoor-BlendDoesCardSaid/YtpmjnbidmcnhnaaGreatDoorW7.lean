/- part -/
import Derived.Test.YtpmjnbidmcnhnaaGreatDoorG7
import Derived.Test.YtpmjnbidmcnhnaaGreatDoorG3
import Derived.Test.YtpmjnbidmcnhnaaGreatDoorL1
set_option linter.unusedVariables false
set_option linter.unusedSimpArgs false
section

namespace Go.Nest
open Go Go.AM
theorem entF_ok {p : Option (List UInt8)} {e : Ent} (h : entF p e = 0) : nameC e.name = 0 ∧ (1 ≤ e.mode ∧ e.mode ≤ 3) ∧ 0 ≤ e.id ∧ (0 ≤ e.repo ∧ e.repo < 4) ∧ (e.mode = 3 ∨ e.repo = 0) := by
 unfold entF at h
 split at h
 ·exact absurd h ‹_›
 split at h
 ·cases h
 split at h
 ·cases h
 split at h
 ·cases h
 refine ⟨?_, ?_, ?_, ?_, ?_⟩ <;> omega
theorem entsF_ok : ∀ {l : List Ent} {p : Option (List UInt8)}, entsF p l = 0 → ∀ e ∈ l, nameC e.name = 0 ∧ (1 ≤ e.mode ∧ e.mode ≤ 3) ∧ 0 ≤ e.id ∧ (0 ≤ e.repo ∧ e.repo < 4) ∧ (e.mode = 3 ∨ e.repo = 0)
 | [], _, _, e, he => by cases he
 | x :: l, p, h, e, he => by
  unfold entsF at h
  split at h
  ·rename_i h0
   rcases List.mem_cons.1 he with rfl | he
   ·exact entF_ok h0
   ·exact entsF_ok h e he
  ·exact absurd h ‹_›
structure OkO (o : Ob) : Prop where
 k1 : 1 ≤ o.kind
 k3 : o.kind ≤ 3
 bytes : o.bytes.length ≤ 400
 text : o.text.length ≤ 60
 parents : o.parents.length ≤ 3
 entries : o.entries.length ≤ 60
 nb : o.kind ≠ 1 → o.bytes = []
 ne : o.kind ≠ 2 → o.entries = []
 nc : o.kind ≠ 3 → o.tree = 0 ∧ o.parents = [] ∧ o.text = []
 tree : 0 ≤ o.tree
 par : ∀ k ∈ o.parents, 0 ≤ k
 txt : o.text.all shown = true
 ents : entsF none o.entries = 0
theorem len0 {α : Type} {l : List α} (h : ¬ 0 < l.length) : l = [] := List.eq_nil_of_length_eq_zero (by omega)
theorem objF_ok {o : Ob} (h : objF o = 0) : OkO o := by
 simp only [objF] at h
 split at h
 ·cases h
 split at h
 ·cases h
 split at h
 ·cases h
 split at h
 ·cases h
 split at h
 ·cases h
 split at h
 ·cases h
 split at h
 ·unfold treeC at h
  split at h
  ·cases h
  rename_i h1 h2 h3 h4 h5 h6 h7 h8
  refine ⟨by omega, by omega, by omega, by omega, by omega, by omega, fun hk => len0 (by omega), fun hk => len0 (by omega), fun hk => ⟨by omega, len0 (by omega), len0 (by omega)⟩, by omega, fun k hk => ?_, h7, h⟩
  rw [Bool.not_eq_true, List.any_eq_false] at h6
  have := h6 k hk
  simpa using this
 ·cases h
theorem OkO.modes {o : Ob} (h : OkO o) : ∀ e ∈ o.entries, 1 ≤ e.mode ∧ e.mode ≤ 3 := fun e he => (entsF_ok h.ents e he).2.1
theorem OkO.ids {o : Ob} (h : OkO o) : ∀ e ∈ o.entries, 0 ≤ e.id := fun e he => (entsF_ok h.ents e he).2.2.1
inductive PoolOk : List Ob → Prop
 | nil : PoolOk []
 | snoc {l : List Ob} {o : Ob} (h : PoolOk l) (ho : objF o = 0) (hl : leadsP l o = true) (hn : o ∉ l) (hlen : l.length < 600) : PoolOk (l ++ [o])
theorem PoolOk.len {l : List Ob} (h : PoolOk l) : l.length ≤ 600 := by
 cases h with
 | nil => simp
 | snoc _ _ _ _ h => simp; omega
theorem PoolOk.mem {l : List Ob} (h : PoolOk l) : ∀ o ∈ l, OkO o := by
 induction h with
 | nil => intro o ho; cases ho
 | snoc _ ho _ _ _ ih =>
  intro u hu
  rcases List.mem_append.1 hu with hu | hu
  ·exact ih u hu
  ·rw [List.mem_singleton] at hu; subst hu; exact objF_ok ho
def putP (l : List Ob) (o : Ob) : Int × Int × List Ob :=
 if objF o ≠ 0 then (0, objF o, l) else if leadsP l o = false then (0, 14, l) else if 0 ≤ idxF (fun x => decide (x = o)) l then (idxF (fun x => decide (x = o)) l, 0, l)
 else if l.length = 600 then (0, 15, l) else (l.length, 0, l ++ [o])
theorem idxF_neg {α : Type} {p : α → Bool} {l : List α} (h : ¬ 0 ≤ idxF p l) : l.any p = false := by rw [← idxF_any]; simpa using h
theorem putP_ok {l : List Ob} (h : PoolOk l) (o : Ob) : PoolOk (putP l o).2.2 := by
 unfold putP
 split
 ·exact h
 split
 ·exact h
 split
 ·exact h
 split
 ·exact h
 rename_i h1 h2 h3 h4
 refine .snoc h (by simpa using h1) (by simpa using h2) ?_ (by have := h.len; omega)
 have := idxF_neg h3
 rw [List.any_eq_false] at this
 intro hm
 simpa using this o hm
def getP (l : List Ob) (id : Int) : Ob := if id < 0 then ob0 else (l[id.toNat]?).getD ob0
theorem getP_at {l : List Ob} {id : Int} (h : ¬ id < 0) (h2 : id.toNat < l.length) : getP l id = l[id.toNat] := by
 unfold getP; rw [if_neg h, List.getElem?_eq_getElem h2]; rfl
theorem getP_kind {l : List Ob} {id : Int} : (getP l id).kind = kindOf l id := by
 unfold getP kindOf
 split
 ·rfl
 ·cases l[id.toNat]? <;> rfl
theorem kindOf_pos {l : List Ob} {id : Int} (h : ¬ kindOf l id = 0) : ¬ id < 0 ∧ id.toNat < l.length := by
 by_cases h1 : id < 0
 ·exact absurd (kindOf_neg h1).symm h
 ·refine ⟨h1, ?_⟩
  by_cases h2 : (l.length : Int) ≤ id
  ·exact absurd (kindOf_ge h2).symm h
  ·omega
theorem PoolOk.get {l : List Ob} (h : PoolOk l) {id : Int} (h1 : ¬ kindOf l id = 0) : OkO (getP l id) := by
 obtain ⟨h2, h3⟩ := kindOf_pos h1
 rw [getP_at h2 h3]; exact h.mem _ (List.getElem_mem h3)
theorem PoolOk.kind0 {l : List Ob} (h : PoolOk l) {id : Int} (h1 : kindOf l id = 0) : getP l id = ob0 := by
 unfold getP
 split
 ·rfl
 ·cases h2 : l[id.toNat]? with
  | none => rfl
  | some o =>
   exfalso
   have := (h.mem o (List.mem_of_getElem? h2)).k1
   unfold kindOf at h1
   rw [if_neg ‹_›, h2] at h1
   simp at h1; omega
def nextP (l : List Ob) (id : Int) : List Int := ((getP l id).entries.filter fun e => decide (e.mode ≠ 3)).map (·.id) ++ ((if (getP l id).kind = 3 then [(getP l id).tree] else []) ++ (getP l id).parents)
end Go.Nest
end
/- part -/
section

namespace Go.Nest
open Go Go.AM Go.Proofs
open Go.Proofs.YtpmjnbidmcnhnaaGreatDoor (tab tabOk)
set_option maxRecDepth 4000
theorem new_spec : Does Tryz.prog 33 [] [] (Rt (.c (.ptr 0 0)) [.box [.rw 1], .row 6 Ob encOb []]) := by
 refine X_spec (n := 3) (n0 := 0) tabOk Tryz.call33 Tryz.func33 ?_
 intro hb
 (conv => whnf)
 exact rx [] [.same 0, .new]
theorem get_spec (l : List Ob) (hl : PoolOk l) (id : Int) : Does Tryz.prog 16 [.c (.bp [.bs 6 Ob encOb l]), .c (.int .i64 id)] [] (Rt (.tup [(true, encOb (getP l id)), (false, [.bool (decide (kindOf l id ≠ 0))])]) []) := by
 refine X_spec (n := 19) (n0 := 0) tabOk Tryz.call16 Tryz.func16 ?_
 intro hb
 repeat' ((conv => whnf); refine I6 ?_)
 (conv => whnf)
 refine cl [] [] (kind_spec l id) ?_
 repeat' ((conv => whnf); first | (refine dec (fun h => ?_) (fun h => ?_) <;> try contradiction) | (refine decN (fun h => ?_) (fun h => ?_) <;> try contradiction) | refine booN (fun h => ?_) (fun h => ?_) | refine boo (fun h => ?_) (fun h => ?_) | refine ⟨i64 (by omega) (by omega), ?_⟩ | refine ⟨_, _, rfl, List.getElem?_eq_getElem (by omega), ?_⟩ | refine ⟨_, ⟨rfl, by omega⟩, ?_⟩ | refine ⟨_, List.getElem?_eq_getElem (by omega), ?_⟩ | refine rtB ?_ | refine rtI ?_ | refine rtC ?_ rfl | fail)
 ·rw [hl.kind0 h, h]
  (conv => whnf)
  exact rx [] []
 ·obtain ⟨h1, h2⟩ := kindOf_pos h
  have hk := hl.get h
  rw [show decide (kindOf l id ≠ 0) = true from decide_eq_true h]
  rw [getP_at h1 h2] at hk ⊢
  (conv => whnf)
  refine ⟨id.toNat, l[id.toNat], by omega, List.getElem?_eq_getElem h2, ?_⟩
  repeat' ((conv => whnf); refine I6 ?_)
  (conv => whnf)
  refine cl [] [] (own_spec l[id.toNat] (by have := hk.bytes; omega) (by have := hk.entries; omega) (by have := hk.parents; omega)) ?_
  (conv => whnf)
  exact rx [] []
theorem getR_spec (l : List Ob) (hl : PoolOk l) (id : Int) : Does Tryz.prog 130 [.c (.bp [.bs 6 Ob encOb l]), .c (.int .i64 id)] [] (Rt (.tup [(true, encOb (getP l id)), (false, [.bool (decide (kindOf l id ≠ 0))])]) []) := by
 refine X_spec (n := 18) (n0 := 0) tabOk Tryz.call130 Tryz.func130 ?_
 intro hb
 repeat' ((conv => whnf); refine I6 ?_)
 (conv => whnf)
 refine cl [] [] (kindR_spec l id) ?_
 repeat' ((conv => whnf); first | (refine dec (fun h => ?_) (fun h => ?_) <;> try contradiction) | (refine decN (fun h => ?_) (fun h => ?_) <;> try contradiction) | refine booN (fun h => ?_) (fun h => ?_) | refine boo (fun h => ?_) (fun h => ?_) | refine ⟨i64 (by omega) (by omega), ?_⟩ | refine ⟨_, _, rfl, List.getElem?_eq_getElem (by omega), ?_⟩ | refine ⟨_, ⟨rfl, by omega⟩, ?_⟩ | refine ⟨_, List.getElem?_eq_getElem (by omega), ?_⟩ | refine rtB ?_ | refine rtI ?_ | refine rtC ?_ rfl | fail)
 ·rw [hl.kind0 h, h]
  (conv => whnf)
  exact rx [] []
 ·obtain ⟨h1, h2⟩ := kindOf_pos h
  rw [show decide (kindOf l id ≠ 0) = true from decide_eq_true h]
  rw [getP_at h1 h2]
  (conv => whnf)
  refine ⟨id.toNat, l[id.toNat], by omega, List.getElem?_eq_getElem h2, ?_⟩
  (conv => whnf)
  exact rx [] []
end Go.Nest
end
/- part -/
section

namespace Go.Nest
open Go Go.AM Go.Proofs
open Go.Proofs.YtpmjnbidmcnhnaaGreatDoor (tab tabOk)
set_option maxRecDepth 4000
theorem putF_spec (x o : Ob) : Does Tryz.prog 94 [.st (bOb x), .c (.bp (bOb o))] [] (Rt (.c (.bool (decide (x = o)))) []) := by
 refine X_spec (n := 7) (n0 := 0) tabOk Tryz.call94 Tryz.func94 ?_
 intro hb
 (conv => whnf)
 refine cl [] [] (same_spec x o) ?_
 repeat' ((conv => whnf); first | (refine dec (fun h => ?_) (fun h => ?_) <;> try contradiction) | (refine decN (fun h => ?_) (fun h => ?_) <;> try contradiction) | refine booN (fun h => ?_) (fun h => ?_) | refine boo (fun h => ?_) (fun h => ?_) | refine ⟨i64 (by omega) (by omega), ?_⟩ | refine ⟨_, _, rfl, List.getElem?_eq_getElem (by omega), ?_⟩ | refine ⟨_, ⟨rfl, by omega⟩, ?_⟩ | refine ⟨_, List.getElem?_eq_getElem (by omega), ?_⟩ | refine rtB ?_ | refine rtI ?_ | refine rtC ?_ rfl | fail)
 rfl
theorem indexObs_spec (l : List Ob) (o : Ob) : Does Tryz.prog 93 [.c (.bs 6 Ob encOb l), .c (.fn 94 [.bp (bOb o)])] [] (Rt (.c (.int .i64 (idxF (fun x => decide (x = o)) l))) []) := by
 refine X_spec (n := 19) (n0 := 0) tabOk Tryz.call93 Tryz.func93 ?_
 intro hb; have hb : l.length ≤ 9223372036854775807 := hb.1.1
 (conv => whnf)
 refine lp Nat (fun i => ⟨[(0, .c (.bs 6 Ob encOb l)), (1, .c (.fn 94 [.bp (bOb o)])), (7, .c (.int .i64 l.length)), (8, .c (.int .i64 i))], []⟩) (fun i => i ≤ l.length ∧ (l.take i).any (fun x => decide (x = o)) = false) (fun i => l.length - i) 0 [] [] ?_ ?_ (fun i hi => ?_)
 ·simp
 ·repeat' first | exact trivial | exact rfl | refine And.intro ?_ ?_
 (conv => whnf)
 refine dec (fun h4 => ?_) (fun h4 => ?_)
 ·have hlt : i < l.length := by omega
  repeat' ((conv => whnf); first | (refine dec (fun h => ?_) (fun h => ?_) <;> try contradiction) | (refine decN (fun h => ?_) (fun h => ?_) <;> try contradiction) | refine booN (fun h => ?_) (fun h => ?_) | refine boo (fun h => ?_) (fun h => ?_) | refine ⟨i64 (by omega) (by omega), ?_⟩ | refine ⟨_, _, rfl, List.getElem?_eq_getElem (by omega), ?_⟩ | refine ⟨_, ⟨rfl, by omega⟩, ?_⟩ | refine ⟨_, List.getElem?_eq_getElem (by omega), ?_⟩ | refine rtB ?_ | refine rtI ?_ | refine rtC ?_ rfl | fail)
  (conv => whnf)
  refine cl [] [] (putF_spec l[i] o) ?_
  repeat' ((conv => whnf); first | (refine dec (fun h => ?_) (fun h => ?_) <;> try contradiction) | (refine decN (fun h => ?_) (fun h => ?_) <;> try contradiction) | refine booN (fun h => ?_) (fun h => ?_) | refine boo (fun h => ?_) (fun h => ?_) | refine ⟨i64 (by omega) (by omega), ?_⟩ | refine ⟨_, _, rfl, List.getElem?_eq_getElem (by omega), ?_⟩ | refine ⟨_, ⟨rfl, by omega⟩, ?_⟩ | refine ⟨_, List.getElem?_eq_getElem (by omega), ?_⟩ | refine rtB ?_ | refine rtI ?_ | refine rtC ?_ rfl | fail)
  ·exact idxF_at hlt hi.2 (by simpa using h)
  ·refine ag (i + 1) [] [] ⟨hlt, any_take hlt hi.2 (by simpa using h)⟩ (by simp only []; omega) ?_
   repeat' first | exact trivial | exact rfl | refine And.intro ?_ ?_
 ·repeat' ((conv => whnf); first | (refine dec (fun h => ?_) (fun h => ?_) <;> try contradiction) | (refine decN (fun h => ?_) (fun h => ?_) <;> try contradiction) | refine booN (fun h => ?_) (fun h => ?_) | refine boo (fun h => ?_) (fun h => ?_) | refine ⟨i64 (by omega) (by omega), ?_⟩ | refine ⟨_, _, rfl, List.getElem?_eq_getElem (by omega), ?_⟩ | refine ⟨_, ⟨rfl, by omega⟩, ?_⟩ | refine ⟨_, List.getElem?_eq_getElem (by omega), ?_⟩ | refine rtB ?_ | refine rtI ?_ | refine rtC ?_ rfl | fail)
  have := hi.2
  rw [List.take_of_length_le (by omega)] at this
  exact idxF_none this
theorem put_spec (l : List Ob) (o : Ob) (hl : l.length ≤ 600) : Does Tryz.prog 52 [.c (.ptr 0 0), .st (bOb o)] [.box [.rw 1], .row 6 Ob encOb l] (Rt (.tup [(false, [.int .i64 (putP l o).1]), (false, [.int .i64 (putP l o).2.1])]) [.box [.rw 2], .dead, .row 6 Ob encOb (putP l o).2.2]) := by
 refine X_spM (n := 49) (n0 := 2) tabOk Tryz.call52 Tryz.func52 ?_
 intro hb
 refine XM.seq ?_
 repeat' ((conv => whnf); refine I6 ?_)
 refine XM.seq ?_
 (conv => whnf)
 refine cl [] [] (check_spec o) ?_
 repeat' ((conv => whnf); first | (refine dec (fun h => ?_) (fun h => ?_) <;> try contradiction) | (refine decN (fun h => ?_) (fun h => ?_) <;> try contradiction) | refine booN (fun h => ?_) (fun h => ?_) | refine boo (fun h => ?_) (fun h => ?_) | refine ⟨i64 (by omega) (by omega), ?_⟩ | refine ⟨_, _, rfl, List.getElem?_eq_getElem (by omega), ?_⟩ | refine ⟨_, ⟨rfl, by omega⟩, ?_⟩ | refine ⟨_, List.getElem?_eq_getElem (by omega), ?_⟩ | refine rtB ?_ | refine rtI ?_ | refine rtC ?_ rfl | fail)
 ·have hp : putP l o = (0, objF o, l) := by unfold putP; rw [if_pos h]
  rw [hp]
  (conv => whnf)
  exact rx [] [.same 0, .same 1, .same 1]
 have h1 : objF o = 0 := by simpa using h
 have hk := objF_ok h1
 refine XM.seq ?_
 repeat' ((conv => whnf); refine I6 ?_)
 (conv => whnf)
 refine cl [] [] (leads_spec l o hk.modes) ?_
 repeat' ((conv => whnf); first | (refine dec (fun h => ?_) (fun h => ?_) <;> try contradiction) | (refine decN (fun h => ?_) (fun h => ?_) <;> try contradiction) | refine booN (fun h => ?_) (fun h => ?_) | refine boo (fun h => ?_) (fun h => ?_) | refine ⟨i64 (by omega) (by omega), ?_⟩ | refine ⟨_, _, rfl, List.getElem?_eq_getElem (by omega), ?_⟩ | refine ⟨_, ⟨rfl, by omega⟩, ?_⟩ | refine ⟨_, List.getElem?_eq_getElem (by omega), ?_⟩ | refine rtB ?_ | refine rtI ?_ | refine rtC ?_ rfl | fail)
 ·have hp : putP l o = (0, 14, l) := by unfold putP; rw [if_neg (by simpa using h1), if_pos h]
  rw [hp]
  (conv => whnf)
  exact rx [] [.same 0, .same 1, .same 1]
 have h2 := h
 refine XM.seq ?_
 repeat' ((conv => whnf); refine I6 ?_)
 (conv => whnf)
 refine cl [] [] (indexObs_spec l o) ?_
 repeat' ((conv => whnf); first | (refine dec (fun h => ?_) (fun h => ?_) <;> try contradiction) | (refine decN (fun h => ?_) (fun h => ?_) <;> try contradiction) | refine booN (fun h => ?_) (fun h => ?_) | refine boo (fun h => ?_) (fun h => ?_) | refine ⟨i64 (by omega) (by omega), ?_⟩ | refine ⟨_, _, rfl, List.getElem?_eq_getElem (by omega), ?_⟩ | refine ⟨_, ⟨rfl, by omega⟩, ?_⟩ | refine ⟨_, List.getElem?_eq_getElem (by omega), ?_⟩ | refine rtB ?_ | refine rtI ?_ | refine rtC ?_ rfl | fail)
 ·have h3 := h
  have hp : putP l o = (idxF (fun x => decide (x = o)) l, 0, l) := by unfold putP; rw [if_neg (by simpa using h1), if_neg (by simp [h2]), if_pos h3]
  rw [hp]
  (conv => whnf)
  exact rx [] [.same 0, .same 1, .same 1]
 have h3 := h
 refine XM.seq ?_
 repeat' ((conv => whnf); first | (refine dec (fun h => ?_) (fun h => ?_) <;> try contradiction) | (refine decN (fun h => ?_) (fun h => ?_) <;> try contradiction) | refine booN (fun h => ?_) (fun h => ?_) | refine boo (fun h => ?_) (fun h => ?_) | refine ⟨i64 (by omega) (by omega), ?_⟩ | refine ⟨_, _, rfl, List.getElem?_eq_getElem (by omega), ?_⟩ | refine ⟨_, ⟨rfl, by omega⟩, ?_⟩ | refine ⟨_, List.getElem?_eq_getElem (by omega), ?_⟩ | refine rtB ?_ | refine rtI ?_ | refine rtC ?_ rfl | fail)
 ·have h4 := h
  have hp : putP l o = (0, 15, l) := by unfold putP; rw [if_neg (by simpa using h1), if_neg (by simp [h2]), if_neg h3, if_pos (by omega)]
  rw [hp]
  (conv => whnf)
  exact rx [] [.same 0, .same 1, .same 1]
 have h4 := h
 have hp : putP l o = (((l ++ [o]).length : Int) - 1, 0, l ++ [o]) := by unfold putP; rw [if_neg (by simpa using h1), if_neg (by simp [h2]), if_neg h3, if_neg (by omega)]; simp
 rw [hp]
 refine XM.of ?_
 (conv => whnf)
 refine ⟨false, .grow, (.l [0, 1, 2, 3, 4, 5, 6, 7, 8, 9, 10, 11]), by kernel_rfl, .inl ?_⟩
 repeat' ((conv => whnf); refine I6 ?_)
 (conv => whnf)
 refine cl [] [] (own_spec o (by have := hk.bytes; omega) (by have := hk.entries; omega) (by have := hk.parents; omega)) ?_
 (conv => whnf)
 refine ⟨[o], rfl, ?_⟩
 (conv => whnf)
 refine ⟨_, _, rfl, rfl, (by simp only [List.length_append, List.length_cons, List.length_nil]; omega), ?_⟩
 have hs : (l ++ [o]).length ≤ 600 := by rw [List.length_append, List.length_singleton]; omega
 repeat' ((conv => whnf); refine I6 ?_)
 (conv => whnf)
 exact rx [] [.same 0, .same 1, .same 4]
set_option maxHeartbeats 1000000 in
theorem putR_spec (l : List Ob) (o : Ob) (hl : l.length ≤ 600) : Does Tryz.prog 53 [.c (.ptr 0 0), .st (bOb o)] [.box [.rw 1], .row 6 Ob encOb l] (Rt (.tup [(false, [.int .i64 (putP l o).1]), (false, [.int .i64 (putP l o).2.1])]) [.box [.rw 2], .dead, .row 6 Ob encOb (putP l o).2.2]) := by
 refine X_spM (n := 104) (n0 := 2) tabOk Tryz.call53 Tryz.func53 ?_
 intro hb
 refine XM.seq ?_
 repeat' ((conv => whnf); refine I6 ?_)
 refine XM.seq ?_
 (conv => whnf)
 refine cl [] [] (objectFault_spec o) ?_
 repeat' ((conv => whnf); first | (refine dec (fun h => ?_) (fun h => ?_) <;> try contradiction) | (refine decN (fun h => ?_) (fun h => ?_) <;> try contradiction) | refine booN (fun h => ?_) (fun h => ?_) | refine boo (fun h => ?_) (fun h => ?_) | refine ⟨i64 (by omega) (by omega), ?_⟩ | refine ⟨_, _, rfl, List.getElem?_eq_getElem (by omega), ?_⟩ | refine ⟨_, ⟨rfl, by omega⟩, ?_⟩ | refine ⟨_, List.getElem?_eq_getElem (by omega), ?_⟩ | refine rtB ?_ | refine rtI ?_ | refine rtC ?_ rfl | fail)
 ·have hp : putP l o = (0, objF o, l) := by unfold putP; rw [if_pos h]
  rw [hp]
  (conv => whnf)
  exact rx [] [.same 0, .same 1, .same 1]
 have h1 : objF o = 0 := by simpa using h
 have hk := objF_ok h1
 have g1 := hk.entries
 have g2 := hk.parents
 have lost : leadsP l o = false → putP l o = (0, 14, l) := fun h2 => by unfold putP; rw [if_neg (by simpa using h1), if_pos h2]
 refine XM.join (ι := Unit) (fun _ => ⟨[(0, .c (.ptr 0 0)), (3, .c (.ptr 2 0))], [.box [.rw 1], .row 6 Ob encOb l, .box (bOb o)]⟩) (fun _ => (o.entries.all fun e => decide (kindOf l e.id = e.mode)) = true) ?_ (fun _ q1 => ?_)
 ·(conv => whnf)
  refine lp Nat (fun i => ⟨[(0, .c (.ptr 0 0)), (3, .c (.ptr 2 0)), (7, .c (.int .i64 i))], [.box [.rw 1], .row 6 Ob encOb l, .box (bOb o)]⟩) (fun i => i ≤ o.entries.length ∧ (o.entries.take i).all (fun e => decide (kindOf l e.id = e.mode)) = true) (fun i => o.entries.length - i) 0 [] [.same 0, .same 1, .same 2] ?_ ?_ (fun i hi => ?_)
  ·simp
  ·repeat' first | exact trivial | exact rfl | refine And.intro ?_ ?_
  (conv => whnf)
  refine dec (fun h4 => ?_) (fun h4 => ?_)
  ·have hlt : i < o.entries.length := by omega
   (conv => whnf)
   refine ⟨false, .grow, (.l [0, 1, 2, 3, 4, 5, 6, 8, 9, 10, 11, 12, 13, 7, 14]), by kernel_rfl, .inl ?_⟩
   repeat' ((conv => whnf); first | (refine dec (fun h => ?_) (fun h => ?_) <;> try contradiction) | (refine decN (fun h => ?_) (fun h => ?_) <;> try contradiction) | refine booN (fun h => ?_) (fun h => ?_) | refine boo (fun h => ?_) (fun h => ?_) | refine ⟨i64 (by omega) (by omega), ?_⟩ | refine ⟨_, _, rfl, List.getElem?_eq_getElem (by omega), ?_⟩ | refine ⟨_, ⟨rfl, by omega⟩, ?_⟩ | refine ⟨_, List.getElem?_eq_getElem (by omega), ?_⟩ | refine rtB ?_ | refine rtI ?_ | refine rtC ?_ rfl | fail)
   (conv => whnf)
   refine cl [] [] (kindR_spec l o.entries[i].id) ?_
   repeat' ((conv => whnf); first | (refine dec (fun h => ?_) (fun h => ?_) <;> try contradiction) | (refine decN (fun h => ?_) (fun h => ?_) <;> try contradiction) | refine booN (fun h => ?_) (fun h => ?_) | refine boo (fun h => ?_) (fun h => ?_) | refine ⟨i64 (by omega) (by omega), ?_⟩ | refine ⟨_, _, rfl, List.getElem?_eq_getElem (by omega), ?_⟩ | refine ⟨_, ⟨rfl, by omega⟩, ?_⟩ | refine ⟨_, List.getElem?_eq_getElem (by omega), ?_⟩ | refine rtB ?_ | refine rtI ?_ | refine rtC ?_ rfl | fail)
   ·rw [lost (by unfold leadsP; rw [all_not (l := o.entries) hlt (by simpa using h)]; simp)]
    (conv => whnf)
    exact rx [] [.same 0, .same 1, .same 1]
   ·refine ag (i + 1) [] [.same 0, .same 1, .same 2] ⟨hlt, all_take hlt hi.2 (by simpa using h)⟩ (by simp only []; omega) ?_
    repeat' first | exact trivial | exact rfl | refine And.intro ?_ ?_
  ·have := hi.2
   rw [List.take_of_length_le (by omega)] at this
   (conv => whnf)
   refine ⟨(), this, [], [.same 0, .same 1, .same 2], ?_⟩
   repeat' first | exact trivial | exact rfl | refine And.intro ?_ ?_
 refine XM.join (ι := Unit) (fun _ => ⟨[(0, .c (.ptr 0 0)), (3, .c (.ptr 2 0))], [.box [.rw 1], .row 6 Ob encOb l, .box (bOb o)]⟩) (fun _ => (o.parents.all fun k => decide (kindOf l k = 3)) = true) ?_ (fun _ q2 => ?_)
 ·(conv => whnf)
  refine lp Nat (fun i => ⟨[(0, .c (.ptr 0 0)), (3, .c (.ptr 2 0)), (8, .c (.int .i64 i))], [.box [.rw 1], .row 6 Ob encOb l, .box (bOb o)]⟩) (fun i => i ≤ o.parents.length ∧ (o.parents.take i).all (fun k => decide (kindOf l k = 3)) = true) (fun i => o.parents.length - i) 0 [] [.same 0, .same 1, .same 2] ?_ ?_ (fun i hi => ?_)
  ·simp
  ·repeat' first | exact trivial | exact rfl | refine And.intro ?_ ?_
  (conv => whnf)
  refine dec (fun h4 => ?_) (fun h4 => ?_)
  ·have hlt : i < o.parents.length := by omega
   repeat' ((conv => whnf); first | (refine dec (fun h => ?_) (fun h => ?_) <;> try contradiction) | (refine decN (fun h => ?_) (fun h => ?_) <;> try contradiction) | refine booN (fun h => ?_) (fun h => ?_) | refine boo (fun h => ?_) (fun h => ?_) | refine ⟨i64 (by omega) (by omega), ?_⟩ | refine ⟨_, _, rfl, List.getElem?_eq_getElem (by omega), ?_⟩ | refine ⟨_, ⟨rfl, by omega⟩, ?_⟩ | refine ⟨_, List.getElem?_eq_getElem (by omega), ?_⟩ | refine rtB ?_ | refine rtI ?_ | refine rtC ?_ rfl | fail)
   (conv => whnf)
   refine cl [] [] (kindR_spec l o.parents[i]) ?_
   repeat' ((conv => whnf); first | (refine dec (fun h => ?_) (fun h => ?_) <;> try contradiction) | (refine decN (fun h => ?_) (fun h => ?_) <;> try contradiction) | refine booN (fun h => ?_) (fun h => ?_) | refine boo (fun h => ?_) (fun h => ?_) | refine ⟨i64 (by omega) (by omega), ?_⟩ | refine ⟨_, _, rfl, List.getElem?_eq_getElem (by omega), ?_⟩ | refine ⟨_, ⟨rfl, by omega⟩, ?_⟩ | refine ⟨_, List.getElem?_eq_getElem (by omega), ?_⟩ | refine rtB ?_ | refine rtI ?_ | refine rtC ?_ rfl | fail)
   ·rw [lost (by unfold leadsP; rw [all_not (l := o.parents) hlt (by simpa using h)]; simp)]
    (conv => whnf)
    exact rx [] [.same 0, .same 1, .same 1]
   ·refine ag (i + 1) [] [.same 0, .same 1, .same 2] ⟨hlt, all_take hlt hi.2 (by simpa using h)⟩ (by simp only []; omega) ?_
    repeat' first | exact trivial | exact rfl | refine And.intro ?_ ?_
  ·have := hi.2
   rw [List.take_of_length_le (by omega)] at this
   (conv => whnf)
   refine ⟨(), this, [], [.same 0, .same 1, .same 2], ?_⟩
   repeat' first | exact trivial | exact rfl | refine And.intro ?_ ?_
 have hle : leadsP l o = (!decide (o.kind = 3) || decide (kindOf l o.tree = 2)) := by unfold leadsP; rw [q1, q2]; rfl
 refine XM.join (ι := Unit) (fun _ => ⟨[(0, .c (.ptr 0 0)), (3, .c (.ptr 2 0))], [.box [.rw 1], .row 6 Ob encOb l, .box (bOb o)]⟩) (fun _ => leadsP l o = true) ?_ (fun _ q3 => ?_)
 ·repeat' ((conv => whnf); first | (refine dec (fun h => ?_) (fun h => ?_) <;> try contradiction) | (refine decN (fun h => ?_) (fun h => ?_) <;> try contradiction) | refine booN (fun h => ?_) (fun h => ?_) | refine boo (fun h => ?_) (fun h => ?_) | refine ⟨i64 (by omega) (by omega), ?_⟩ | refine ⟨_, _, rfl, List.getElem?_eq_getElem (by omega), ?_⟩ | refine ⟨_, ⟨rfl, by omega⟩, ?_⟩ | refine ⟨_, List.getElem?_eq_getElem (by omega), ?_⟩ | refine rtB ?_ | refine rtI ?_ | refine rtC ?_ rfl | fail)
  ·(conv => whnf)
   refine cl [] [] (kindR_spec l o.tree) ?_
   repeat' ((conv => whnf); first | (refine dec (fun h => ?_) (fun h => ?_) <;> try contradiction) | (refine decN (fun h => ?_) (fun h => ?_) <;> try contradiction) | refine booN (fun h => ?_) (fun h => ?_) | refine boo (fun h => ?_) (fun h => ?_) | refine ⟨i64 (by omega) (by omega), ?_⟩ | refine ⟨_, _, rfl, List.getElem?_eq_getElem (by omega), ?_⟩ | refine ⟨_, ⟨rfl, by omega⟩, ?_⟩ | refine ⟨_, List.getElem?_eq_getElem (by omega), ?_⟩ | refine rtB ?_ | refine rtI ?_ | refine rtC ?_ rfl | fail)
   ·rw [lost (by rw [hle]; simp [*])]
    (conv => whnf)
    exact rx [] [.same 0, .same 1, .same 1]
   ·refine ⟨(), by rw [hle]; simp [*], [], [.same 0, .same 1, .same 2], ?_⟩
    repeat' first | exact trivial | exact rfl | refine And.intro ?_ ?_
  ·refine ⟨(), by rw [hle]; simp [*], [], [.same 0, .same 1, .same 2], ?_⟩
   repeat' first | exact trivial | exact rfl | refine And.intro ?_ ?_
 refine XM.join (ι := Unit) (fun _ => ⟨[(0, .c (.ptr 0 0)), (3, .c (.ptr 2 0))], [.box [.rw 1], .row 6 Ob encOb l, .box (bOb o)]⟩) (fun _ => l.any (fun x => decide (x = o)) = false) ?_ (fun _ q4 => ?_)
 ·(conv => whnf)
  refine lp Nat (fun i => ⟨[(0, .c (.ptr 0 0)), (3, .c (.ptr 2 0)), (9, .c (.int .i64 i))], [.box [.rw 1], .row 6 Ob encOb l, .box (bOb o)]⟩) (fun i => i ≤ l.length ∧ (l.take i).any (fun x => decide (x = o)) = false) (fun i => l.length - i) 0 [] [.same 0, .same 1, .same 2] ?_ ?_ (fun i hi => ?_)
  ·simp
  ·repeat' first | exact trivial | exact rfl | refine And.intro ?_ ?_
  (conv => whnf)
  refine dec (fun h4 => ?_) (fun h4 => ?_)
  ·have hlt : i < l.length := by omega
   (conv => whnf)
   refine ⟨false, .grow, (.l [0, 1, 2, 3, 4, 5, 6, 7, 8]), by kernel_rfl, .inl ?_⟩
   repeat' ((conv => whnf); first | (refine dec (fun h => ?_) (fun h => ?_) <;> try contradiction) | (refine decN (fun h => ?_) (fun h => ?_) <;> try contradiction) | refine booN (fun h => ?_) (fun h => ?_) | refine boo (fun h => ?_) (fun h => ?_) | refine ⟨i64 (by omega) (by omega), ?_⟩ | refine ⟨_, _, rfl, List.getElem?_eq_getElem (by omega), ?_⟩ | refine ⟨_, ⟨rfl, by omega⟩, ?_⟩ | refine ⟨_, List.getElem?_eq_getElem (by omega), ?_⟩ | refine rtB ?_ | refine rtI ?_ | refine rtC ?_ rfl | fail)
   (conv => whnf)
   refine cl [] [] (sameObject_spec l[i] o) ?_
   repeat' ((conv => whnf); first | (refine dec (fun h => ?_) (fun h => ?_) <;> try contradiction) | (refine decN (fun h => ?_) (fun h => ?_) <;> try contradiction) | refine booN (fun h => ?_) (fun h => ?_) | refine boo (fun h => ?_) (fun h => ?_) | refine ⟨i64 (by omega) (by omega), ?_⟩ | refine ⟨_, _, rfl, List.getElem?_eq_getElem (by omega), ?_⟩ | refine ⟨_, ⟨rfl, by omega⟩, ?_⟩ | refine ⟨_, List.getElem?_eq_getElem (by omega), ?_⟩ | refine rtB ?_ | refine rtI ?_ | refine rtC ?_ rfl | fail)
   ·have h3 := idxF_at (p := fun x => decide (x = o)) hlt hi.2 (by simpa using h)
    have hp : putP l o = ((i : Int), 0, l) := by unfold putP; rw [if_neg (by simpa using h1), if_neg (by simp [q3]), if_pos (by omega), ← h3]
    rw [hp]
    (conv => whnf)
    exact rx [] [.same 0, .same 1, .same 1]
   ·refine ag (i + 1) [] [.same 0, .same 1, .same 2] ⟨hlt, any_take hlt hi.2 (by simpa using h)⟩ (by simp only []; omega) ?_
    repeat' first | exact trivial | exact rfl | refine And.intro ?_ ?_
  ·have := hi.2
   rw [List.take_of_length_le (by omega)] at this
   (conv => whnf)
   refine ⟨(), this, [], [.same 0, .same 1, .same 2], ?_⟩
   repeat' first | exact trivial | exact rfl | refine And.intro ?_ ?_
 have h3 : ¬ 0 ≤ idxF (fun x => decide (x = o)) l := by
  rw [← idxF_any] at q4; simpa using q4
 refine XM.seq ?_
 repeat' ((conv => whnf); first | (refine dec (fun h => ?_) (fun h => ?_) <;> try contradiction) | (refine decN (fun h => ?_) (fun h => ?_) <;> try contradiction) | refine booN (fun h => ?_) (fun h => ?_) | refine boo (fun h => ?_) (fun h => ?_) | refine ⟨i64 (by omega) (by omega), ?_⟩ | refine ⟨_, _, rfl, List.getElem?_eq_getElem (by omega), ?_⟩ | refine ⟨_, ⟨rfl, by omega⟩, ?_⟩ | refine ⟨_, List.getElem?_eq_getElem (by omega), ?_⟩ | refine rtB ?_ | refine rtI ?_ | refine rtC ?_ rfl | fail)
 ·have hp : putP l o = (0, 15, l) := by unfold putP; rw [if_neg (by simpa using h1), if_neg (by simp [q3]), if_neg h3, if_pos (by omega)]
  rw [hp]
  (conv => whnf)
  exact rx [] [.same 0, .same 1, .same 1]
 have hp : putP l o = (((l ++ [o]).length : Int) - 1, 0, l ++ [o]) := by unfold putP; rw [if_neg (by simpa using h1), if_neg (by simp [q3]), if_neg h3, if_neg (by omega)]; simp
 rw [hp]
 refine XM.of ?_
 (conv => whnf)
 refine ⟨false, .grow, (.l [0, 1, 2, 3, 4, 5, 6, 7, 8, 9, 10, 11]), by kernel_rfl, .inl ?_⟩
 repeat' ((conv => whnf); refine I6 ?_)
 (conv => whnf)
 refine cl [] [] (ownObject_spec o (by have := hk.bytes; omega) (by have := hk.entries; omega) (by have := hk.parents; omega)) ?_
 (conv => whnf)
 refine ⟨[o], rfl, ?_⟩
 (conv => whnf)
 refine ⟨_, _, rfl, rfl, (by simp only [List.length_append, List.length_cons, List.length_nil]; omega), ?_⟩
 have hs : (l ++ [o]).length ≤ 600 := by rw [List.length_append, List.length_singleton]; omega
 repeat' ((conv => whnf); refine I6 ?_)
 (conv => whnf)
 exact rx [] [.same 0, .same 1, .same 4]
end Go.Nest
end
/- part -/
section

namespace Go.Nest
open Go Go.AM
inductive Led (l : List Ob) (ids : List Int) : Int → Prop
 | base {k : Int} (h : k ∈ ids) (hk : ¬ kindOf l k = 0) : Led l ids k
 | step {j k : Int} (h : Led l ids j) (hk : k ∈ nextP l j) : Led l ids k
theorem kindOf_app {l m : List Ob} {k : Int} (h : ¬ kindOf l k = 0) : kindOf (l ++ m) k = kindOf l k := by
 obtain ⟨h1, h2⟩ := kindOf_pos h
 unfold kindOf
 rw [if_neg h1, if_neg h1, List.getElem?_append_left h2]
theorem getP_app {l m : List Ob} {k : Int} (h2 : k < l.length) : getP (l ++ m) k = getP l k := by
 unfold getP
 split
 ·rfl
 ·rw [List.getElem?_append_left (by omega)]
theorem getP_end {l : List Ob} {o : Ob} : getP (l ++ [o]) l.length = o := by
 unfold getP
 rw [if_neg (by omega)]; simp
theorem nextP_app {l m : List Ob} {k : Int} (h2 : k < l.length) : nextP (l ++ m) k = nextP l k := by unfold nextP; rw [getP_app h2]
theorem mem_next {l : List Ob} {j k : Int} (h : k ∈ nextP l j) : (∃ e ∈ (getP l j).entries, e.mode ≠ 3 ∧ e.id = k) ∨ ((getP l j).kind = 3 ∧ k = (getP l j).tree) ∨ k ∈ (getP l j).parents := by
 unfold nextP at h
 rw [List.mem_append, List.mem_append, List.mem_map] at h
 rcases h with ⟨e, he, h⟩ | h | h
 ·rw [List.mem_filter] at he
  exact .inl ⟨e, he.1, by simpa using he.2, h⟩
 ·split at h
  ·rw [List.mem_singleton] at h; exact .inr (.inl ⟨‹_›, h⟩)
  ·cases h
 ·exact .inr (.inr h)
theorem leads_next {l : List Ob} {o : Ob} (ho : OkO o) (hl : leadsP l o = true) {j k : Int} (hj : getP (l ++ [o]) j = o) (h : k ∈ nextP (l ++ [o]) j) : ¬ kindOf l k = 0 := by
 unfold leadsP at hl
 rw [Bool.and_eq_true, Bool.and_eq_true, List.all_eq_true, List.all_eq_true] at hl
 have := mem_next h
 rw [hj] at this
 rcases this with ⟨e, he, h1, rfl⟩ | ⟨h1, rfl⟩ | h1
 ·have h2 := hl.1 e he
  have h3 := ho.modes e he
  rw [decide_eq_true_iff] at h2
  omega
 ·have h2 := hl.2.2
  simp [h1] at h2
  omega
 ·have h2 := hl.2.1 k h1
  rw [decide_eq_true_iff] at h2
  omega
theorem next_lt {l : List Ob} (hl : PoolOk l) {j k : Int} (h : k ∈ nextP l j) : ¬ kindOf l k = 0 ∧ k < j := by
 induction hl with
 | nil => unfold nextP getP at h; split at h <;> simp [ob0] at h
 | @snoc l o hp ho hle hn hlen ih =>
  by_cases hj : j < l.length
  ·rw [nextP_app hj] at h
   obtain ⟨h1, h2⟩ := ih h
   exact ⟨by rw [kindOf_app h1]; exact h1, h2⟩
  ·by_cases hj2 : j = l.length
   ·subst hj2
    have h1 := leads_next (objF_ok ho) hle getP_end h
    obtain ⟨h2, h3⟩ := kindOf_pos h1
    exact ⟨by rw [kindOf_app h1]; exact h1, by omega⟩
   ·exfalso
    have : getP (l ++ [o]) j = ob0 := by
     unfold getP
     rw [if_neg (by omega), List.getElem?_eq_none (by rw [List.length_append, List.length_singleton]; omega)]; rfl
    unfold nextP at h
    rw [this] at h
    simp [ob0] at h
theorem Led.kind {l : List Ob} {ids : List Int} (hl : PoolOk l) {k : Int} (h : Led l ids k) : ¬ kindOf l k = 0 := by
 cases h with
 | base _ hk => exact hk
 | step _ hk => exact (next_lt hl hk).1
def Mk (vis : List Bool) (k : Int) : Prop := ∃ n : Nat, k = n ∧ vis[n]? = some true
theorem Mk.set {vis : List Bool} {n : Nat} {k : Int} (hn : n < vis.length) : Mk (vis.set n true) k ↔ Mk vis k ∨ k = n := by
 unfold Mk
 constructor
 ·rintro ⟨m, rfl, h⟩
  by_cases e : n = m
  ·subst e; exact .inr rfl
  ·rw [List.getElem?_set_ne e] at h; exact .inl ⟨m, rfl, h⟩
 ·rintro (⟨m, rfl, h⟩ | rfl)
  ·by_cases e : n = m
   ·subst e; exact ⟨n, rfl, by rw [List.getElem?_set_self hn]⟩
   ·exact ⟨m, rfl, by rw [List.getElem?_set_ne e]; exact h⟩
  ·exact ⟨n, rfl, by rw [List.getElem?_set_self hn]⟩
theorem not_Mk_rep {n : Nat} {k : Int} : ¬ Mk (List.replicate n false) k := by
 rintro ⟨m, rfl, h⟩
 rw [List.getElem?_replicate] at h
 split at h <;> cases h
end Go.Nest
end
/- part -/
section

namespace Go.Nest
open Go Go.AM
theorem PoolOk.nodup {l : List Ob} (h : PoolOk l) : l.Nodup := by
 induction h with
 | nil => exact List.nodup_nil
 | snoc _ _ _ hn _ ih =>
  rw [List.nodup_append]
  exact ⟨ih, by simp, fun a ha b hb => by rw [List.mem_singleton] at hb; subst hb; intro e; subst e; exact hn ha⟩
theorem leads_app {l m : List Ob} {o : Ob} (ho : OkO o) (h : leadsP l o = true) : leadsP (l ++ m) o = true := by
 unfold leadsP at h ⊢
 rw [Bool.and_eq_true, Bool.and_eq_true, List.all_eq_true, List.all_eq_true] at h ⊢
 refine ⟨fun e he => ?_, fun k hk => ?_, ?_⟩
 ·have h1 := h.1 e he
  have h2 := ho.modes e he
  rw [decide_eq_true_iff] at h1 ⊢
  rw [kindOf_app (by omega)]; exact h1
 ·have h1 := h.2.1 k hk
  rw [decide_eq_true_iff] at h1 ⊢
  rw [kindOf_app (by omega)]; exact h1
 ·have h1 := h.2.2
  by_cases h3 : o.kind = 3
  ·simp [h3] at h1 ⊢
   rw [kindOf_app (by omega)]; exact h1
  ·simp [h3]
theorem PoolOk.obj {l : List Ob} (h : PoolOk l) : ∀ o ∈ l, objF o = 0 ∧ leadsP l o = true := by
 induction h with
 | nil => intro o ho; cases ho
 | snoc hp ho hl _ _ ih =>
  intro u hu
  rcases List.mem_append.1 hu with hu | hu
  ·exact ⟨(ih u hu).1, leads_app (objF_ok (ih u hu).1) (ih u hu).2⟩
  ·rw [List.mem_singleton] at hu; subst hu; exact ⟨ho, leads_app (objF_ok ho) hl⟩
theorem putP_again {l : List Ob} (h : PoolOk l) {k : Nat} (hk : k < l.length) : putP l l[k] = ((k : Int), 0, l) := by
 obtain ⟨h1, h2⟩ := h.obj _ (List.getElem_mem hk)
 have hi := idxF_at (p := fun x => decide (x = l[k])) hk (by
  rw [List.any_eq_false]
  intro x hx he
  rw [decide_eq_true_iff] at he
  subst he
  obtain ⟨j, hj, e⟩ := List.mem_take_iff_getElem.1 hx
  have := (List.getElem_inj h.nodup).1 e
  omega) (by simp)
 unfold putP
 rw [if_neg (by simpa using h1), if_neg (by simp [h2]), if_pos (by omega), ← hi]
end Go.Nest
end
/- part -/
section

namespace Go.Nest
open Go Go.AM Go.Proofs
open Go.Proofs.YtpmjnbidmcnhnaaGreatDoor (tab tabOk)
set_option maxRecDepth 4000
structure Dfs (l : List Ob) (ids : List Int) (vis : List Bool) (todo : List Int) : Prop where
 len : vis.length = l.length
 sound : ∀ k, Mk vis k → Led l ids k
 td : ∀ k ∈ todo, ¬ kindOf l k = 0 → Led l ids k
 base : ∀ k ∈ ids, ¬ kindOf l k = 0 → k ∈ todo ∨ Mk vis k
 clos : ∀ j, Mk vis j → ∀ k ∈ nextP l j, k ∈ todo ∨ Mk vis k
 size : todo.length ≤ ids.length + 64 * vis.count true
def cutT (todo : List Int) : List Int := (todo.drop 0).take (todo.length - 1 - 0)
theorem todo_last {todo : List Int} (h : 0 < todo.length) : todo = cutT todo ++ [todo[todo.length - 1]'(by omega)] := by
 unfold cutT
 rw [List.drop_zero, Nat.sub_zero]
 have := List.take_succ_eq_append_getElem (l := todo) (i := todo.length - 1) (by omega)
 rw [← this, Nat.sub_add_cancel (by omega), List.take_length]
theorem cutT_len {todo : List Int} : (cutT todo).length = todo.length - 1 := by unfold cutT; simp
theorem Dfs.skip {l : List Ob} (hl : PoolOk l) {ids : List Int} {vis : List Bool} {todo : List Int} (h : Dfs l ids vis todo) (ht : 0 < todo.length) {id : Int} (hid : id = todo[todo.length - 1]'(by omega)) (hk : kindOf l id = 0 ∨ Mk vis id) :
  Dfs l ids vis (cutT todo) := by
 have e := todo_last ht
 rw [← hid] at e
 refine ⟨h.len, h.sound, fun k hk1 => h.td k (by rw [e]; exact List.mem_append_left _ hk1), fun k h1 h2 => ?_, fun j hj k h1 => ?_, ?_⟩
 ·rcases h.base k h1 h2 with h3 | h3
  ·rw [e, List.mem_append, List.mem_singleton] at h3
   rcases h3 with h3 | h3
   ·exact .inl h3
   ·subst h3; exact .inr (hk.resolve_left h2)
  ·exact .inr h3
 ·rcases h.clos j hj k h1 with h3 | h3
  ·rw [e, List.mem_append, List.mem_singleton] at h3
   rcases h3 with h3 | h3
   ·exact .inl h3
   ·subst h3; exact .inr (hk.resolve_left (next_lt hl h1).1)
  ·exact .inr h3
 ·have := h.size; rw [cutT_len]; omega
theorem Dfs.start {l : List Ob} {ids : List Int} : Dfs l ids (List.replicate l.length false) ids :=
 ⟨by simp, fun k h => (not_Mk_rep h).elim, fun k h1 h2 => .base h1 h2, fun k h1 _ => .inl h1, fun j h => (not_Mk_rep h).elim, by omega⟩
end Go.Nest
end
/- part -/
section

namespace Go.Nest
open Go Go.AM Go.Proofs
open Go.Proofs.YtpmjnbidmcnhnaaGreatDoor (tab tabOk)
set_option maxRecDepth 4000
structure Swp (l : List Ob) (ids : List Int) (vis : List Bool) (k : Int) : Prop where
 len : vis.length = l.length
 sound : ∀ j, Mk vis j → Led l ids j
 base : ∀ j ∈ ids, ¬ kindOf l j = 0 → Mk vis j
 clos : ∀ j, k < j → Mk vis j → ∀ m ∈ nextP l j, Mk vis m
theorem mk_set {l : List Ob} {vis : List Bool} (hv : vis.length = l.length) {id : Int} (h : ¬ kindOf l id = 0) {k : Int} : Mk (vis.set id.toNat true) k ↔ Mk vis k ∨ k = id := by
 obtain ⟨h0, hlt⟩ := kindOf_pos h
 rw [Mk.set (by rw [hv]; exact hlt), show ((id.toNat : Nat) : Int) = id by omega]
end Go.Nest
end
/- part -/
section

namespace Go.Nest
open Go Go.AM Go.Proofs
open Go.Proofs.YtpmjnbidmcnhnaaGreatDoor (tab tabOk)
set_option maxRecDepth 4000
def greatOs (l : List Ob) : Bool := (l.take 100).any greatO || decide (80 < l.length)
theorem greatObjects_spec (l : List Ob) : Does Tryz.prog 40 [.c (.bs 6 Ob encOb l)] [] (Rt (.c (.bool (greatOs l))) []) := by
 refine X_spec (n := 22) (n0 := 0) tabOk Tryz.call40 Tryz.func40 ?_
 intro hb; have hb : l.length ≤ 9223372036854775807 := hb.1.1
 (conv => whnf)
 refine lp Nat (fun i => ⟨[(0, .c (.bs 6 Ob encOb l)), (3, .c (.int .i64 i))], []⟩) (fun i => (i ≤ l.length ∧ i ≤ 100) ∧ (l.take i).any greatO = false) (fun i => l.length - i) 0 [] [] ?_ ?_ (fun i hi => ?_)
 ·simp
 ·repeat' first | exact trivial | exact rfl | refine And.intro ?_ ?_
 have fin : ¬ (i < l.length ∧ i < 100) → greatOs l = decide (80 < l.length) := fun h => by
  unfold greatOs
  have : l.take 100 = l.take i := by
   by_cases h1 : i = 100
   ·rw [h1]
   ·rw [List.take_of_length_le (by omega), List.take_of_length_le (by omega)]
  rw [this, hi.2]; rfl
 (conv => whnf)
 refine dec (fun h4 => ?_) (fun h4 => ?_)
 ·(conv => whnf)
  refine dec (fun h5 => ?_) (fun h5 => ?_)
  ·have hlt : i < l.length := by omega
   repeat' ((conv => whnf); first | (refine dec (fun h => ?_) (fun h => ?_) <;> try contradiction) | (refine decN (fun h => ?_) (fun h => ?_) <;> try contradiction) | refine booN (fun h => ?_) (fun h => ?_) | refine boo (fun h => ?_) (fun h => ?_) | refine ⟨i64 (by omega) (by omega), ?_⟩ | refine ⟨_, _, rfl, List.getElem?_eq_getElem (by omega), ?_⟩ | refine ⟨_, ⟨rfl, by omega⟩, ?_⟩ | refine ⟨_, List.getElem?_eq_getElem (by omega), ?_⟩ | refine rtB ?_ | refine rtI ?_ | refine rtC ?_ rfl | fail)
   (conv => whnf)
   refine cl [] [] (greatObject_spec l[i]) ?_
   repeat' ((conv => whnf); first | (refine dec (fun h => ?_) (fun h => ?_) <;> try contradiction) | (refine decN (fun h => ?_) (fun h => ?_) <;> try contradiction) | refine booN (fun h => ?_) (fun h => ?_) | refine boo (fun h => ?_) (fun h => ?_) | refine ⟨i64 (by omega) (by omega), ?_⟩ | refine ⟨_, _, rfl, List.getElem?_eq_getElem (by omega), ?_⟩ | refine ⟨_, ⟨rfl, by omega⟩, ?_⟩ | refine ⟨_, List.getElem?_eq_getElem (by omega), ?_⟩ | refine rtB ?_ | refine rtI ?_ | refine rtC ?_ rfl | fail)
   ·unfold greatOs
    rw [any_at (l := l.take 100) (i := i) (by rw [List.length_take]; omega) (by rw [List.getElem_take]; exact h)]; rfl
   ·refine ag (i + 1) [] [] ⟨⟨hlt, by omega⟩, any_take hlt hi.2 h⟩ (by simp only []; omega) ?_
    repeat' first | exact trivial | exact rfl | refine And.intro ?_ ?_
  ·repeat' ((conv => whnf); first | (refine dec (fun h => ?_) (fun h => ?_) <;> try contradiction) | (refine decN (fun h => ?_) (fun h => ?_) <;> try contradiction) | refine booN (fun h => ?_) (fun h => ?_) | refine boo (fun h => ?_) (fun h => ?_) | refine ⟨i64 (by omega) (by omega), ?_⟩ | refine ⟨_, _, rfl, List.getElem?_eq_getElem (by omega), ?_⟩ | refine ⟨_, ⟨rfl, by omega⟩, ?_⟩ | refine ⟨_, List.getElem?_eq_getElem (by omega), ?_⟩ | refine rtB ?_ | refine rtI ?_ | refine rtC ?_ rfl | fail)
   rw [fin (by omega)]; rw [decide_eq_decide]; omega
 ·repeat' ((conv => whnf); first | (refine dec (fun h => ?_) (fun h => ?_) <;> try contradiction) | (refine decN (fun h => ?_) (fun h => ?_) <;> try contradiction) | refine booN (fun h => ?_) (fun h => ?_) | refine boo (fun h => ?_) (fun h => ?_) | refine ⟨i64 (by omega) (by omega), ?_⟩ | refine ⟨_, _, rfl, List.getElem?_eq_getElem (by omega), ?_⟩ | refine ⟨_, ⟨rfl, by omega⟩, ?_⟩ | refine ⟨_, List.getElem?_eq_getElem (by omega), ?_⟩ | refine rtB ?_ | refine rtI ?_ | refine rtC ?_ rfl | fail)
  rw [fin (by omega)]; rw [decide_eq_decide]; omega
def o1 : Ob := ⟨1, [120], [], 0, [], []⟩
def o2 : Ob := ⟨2, [], [⟨[102], 1, 0, 0⟩], 0, [], []⟩
def putAll (l : List Ob) : List Ob → List Ob
 | [] => l
 | o :: r => putAll (putP l o).2.2 r
theorem putAll_snoc : ∀ {l r : List Ob} {o : Ob}, putAll l (r ++ [o]) = (putP (putAll l r) o).2.2
 | l, [], o => rfl
 | l, x :: r, o => putAll_snoc (l := (putP l x).2.2) (r := r)
theorem putAll_ok : ∀ {r l : List Ob}, PoolOk l → PoolOk (putAll l r)
 | [], l, h => h
 | o :: r, l, h => putAll_ok (r := r) (l := (putP l o).2.2) (putP_ok h o)
theorem putAll_take {l r : List Ob} {i : Nat} (h : i < r.length) : putAll l (r.take (i + 1)) = (putP (putAll l (r.take i)) r[i]).2.2 := by
 rw [List.take_succ_eq_append_getElem h, putAll_snoc]
theorem pools_spec (l : List Ob) : Does Tryz.prog 42 [.c (.bs 6 Ob encOb l)] [] (Rt (.tup [(false, [.ptr 0 0]), (false, [.ptr 2 0]), (false, [.bool true])]) [.box [.rw 1], .row 6 Ob encOb (putAll [] l), .box [.rw 3], .row 6 Ob encOb (putAll [] l)]) := by
 refine X_spec (n := 54) (n0 := 0) tabOk Tryz.call42 Tryz.func42 ?_
 intro hb; have hb : l.length ≤ 9223372036854775807 := hb.1.1
 (conv => whnf)
 refine cl [] [] (new_spec) ?_
 (conv => whnf)
 refine lp Nat (fun i => ⟨[(0, .c (.bs 6 Ob encOb l)), (5, .c (.ptr 0 0)), (6, .c (.ptr 2 0)), (7, .c (.bool true)), (8, .c (.int .i64 i))], [.box [.rw 1], .row 6 Ob encOb (putAll [] (l.take i)), .box [.rw 3], .row 6 Ob encOb (putAll [] (l.take i))]⟩)
  (fun i => i ≤ l.length ∧ True) (fun i => l.length - i) 0 [] [.same 0, .same 1, .same 2, .new] ?_ ?_ (fun i hi => ?_)
 ·simp
 ·repeat' first | exact trivial | exact rfl | refine And.intro ?_ ?_
 (conv => whnf)
 refine dec (fun h4 => ?_) (fun h4 => ?_)
 ·have hlt : i < l.length := by omega
  have hlen := (putAll_ok (r := l.take i) .nil).len
  have ht := putAll_take (l := []) hlt
  repeat' ((conv => whnf); first | (refine dec (fun h => ?_) (fun h => ?_) <;> try contradiction) | (refine decN (fun h => ?_) (fun h => ?_) <;> try contradiction) | refine booN (fun h => ?_) (fun h => ?_) | refine boo (fun h => ?_) (fun h => ?_) | refine ⟨i64 (by omega) (by omega), ?_⟩ | refine ⟨_, _, rfl, List.getElem?_eq_getElem (by omega), ?_⟩ | refine ⟨_, ⟨rfl, by omega⟩, ?_⟩ | refine ⟨_, List.getElem?_eq_getElem (by omega), ?_⟩ | refine rtB ?_ | refine rtI ?_ | refine rtC ?_ rfl | fail)
  (conv => whnf)
  refine cl [] [0, 1] (put_spec (putAll [] (l.take i)) l[i] hlen) ?_
  repeat' ((conv => whnf); first | (refine dec (fun h => ?_) (fun h => ?_) <;> try contradiction) | (refine decN (fun h => ?_) (fun h => ?_) <;> try contradiction) | refine booN (fun h => ?_) (fun h => ?_) | refine boo (fun h => ?_) (fun h => ?_) | refine ⟨i64 (by omega) (by omega), ?_⟩ | refine ⟨_, _, rfl, List.getElem?_eq_getElem (by omega), ?_⟩ | refine ⟨_, ⟨rfl, by omega⟩, ?_⟩ | refine ⟨_, List.getElem?_eq_getElem (by omega), ?_⟩ | refine rtB ?_ | refine rtI ?_ | refine rtC ?_ rfl | fail)
  (conv => whnf)
  refine cl [] [2, 3] (putR_spec (putAll [] (l.take i)) l[i] hlen) ?_
  (conv => whnf)
  refine dec (fun _ => ?_) (fun h => absurd rfl h)
  repeat' ((conv => whnf); refine I6 ?_)
  refine ag (i + 1) [] [.same 0, .same 4, .same 2, .same 5] ⟨hlt, trivial⟩ (by simp only []; omega) ?_
  repeat' first | exact trivial | exact rfl | refine And.intro ?_ ?_
  ·exact congrArg C.bool (decide_eq_true rfl)
  ·rw [ht]; exact rfl
  ·rw [ht]; exact rfl
 ·rw [List.take_of_length_le (by omega)]
  (conv => whnf)
  exact rx [] [.same 0, .same 1, .same 2, .same 3]
end Go.Nest
end
/- part -/
section

namespace Go.Nest
open Go Go.AM Go.Proofs
open Go.Proofs.YtpmjnbidmcnhnaaGreatDoor (tab tabOk)
set_option maxRecDepth 4000
def sumD (l : List Dc) : Nat := (l.map fun d => d.path.length + d.bytes.length).sum
theorem sumD_take {l : List Dc} {i : Nat} (h : i < l.length) : sumD (l.take (i + 1)) = sumD (l.take i) + (l[i].path.length + l[i].bytes.length) := by
 unfold sumD
 rw [List.take_succ_eq_append_getElem h, List.map_append, List.sum_append]; simp
theorem sumD_le {l : List Dc} {n : Nat} (h : ∀ d ∈ l, d.path.length + d.bytes.length ≤ n) : sumD l ≤ l.length * n := by
 induction l with
 | nil => simp [sumD]
 | cons f l ih =>
  have h1 := ih (fun x hx => h x (by simp [hx]))
  have h2 := h f (by simp)
  unfold sumD at h1 ⊢
  rw [List.map_cons, List.sum_cons, List.length_cons, Nat.succ_mul]
  omega
theorem sumD_mem {l : List Dc} {d : Dc} (h : d ∈ l) : d.path.length + d.bytes.length ≤ sumD l := by
 induction l with
 | nil => cases h
 | cons g l ih =>
  unfold sumD at ih ⊢
  rw [List.map_cons, List.sum_cons]
  rcases List.mem_cons.1 h with rfl | h
  ·omega
  ·have := ih h; omega
def greatD (l : List Dc) : Bool := decide (40 < l.length) || decide (6000 < sumD (l.take 100))
def DocsOk (l : List Dc) : Prop := l.length ≤ 40 ∧ ∀ d ∈ l, d.path.length ≤ 6000 ∧ d.bytes.length ≤ 6000
theorem greatD_ok {l : List Dc} (h : greatD l = false) : DocsOk l := by
 unfold greatD at h
 rw [Bool.or_eq_false_iff, decide_eq_false_iff_not, decide_eq_false_iff_not] at h
 have h1 : l.length ≤ 40 := by omega
 rw [List.take_of_length_le (by omega)] at h
 exact ⟨h1, fun f hf => by have := sumD_mem hf; omega⟩
def DocsFit (l : List Dc) : Prop := ∀ d ∈ l, d.path.length ≤ 140737488351232 ∧ d.bytes.length ≤ 140737488351232
theorem greatDocs_spec (l : List Dc) (hl : DocsFit l) : Does Tryz.prog 32 [.c (.bs 2 Dc encDc l)] [] (Rt (.c (.bool (greatD l))) []) := by
 refine X_spec (n := 37) (n0 := 0) tabOk Tryz.call32 Tryz.func32 ?_
 intro hb; have hb : l.length ≤ 9223372036854775807 := hb.1.1
 (conv => whnf)
 refine lp Nat (fun i => ⟨[(0, .c (.bs 2 Dc encDc l)), (3, .c (.int .i64 (sumD (l.take i)))), (4, .c (.int .i64 i))], []⟩) (fun i => i ≤ l.length ∧ i ≤ 100) (fun i => l.length - i) 0 [] [] ?_ ?_ (fun i hi => ?_)
 ·simp
 ·repeat' first | exact trivial | exact rfl | refine And.intro ?_ ?_
 have hs : sumD (l.take i) ≤ 100 * 281474976702464 := by
  have h2 : (l.take i).length ≤ 100 := by rw [List.length_take]; omega
  have key : ∀ N, (∀ d ∈ l, d.path.length + d.bytes.length ≤ N) → sumD (l.take i) ≤ 100 * N := fun N h => Nat.le_trans (sumD_le fun f hf => h f (List.mem_of_mem_take hf)) (Nat.mul_le_mul_right N h2)
  exact key _ fun d hd => by have := hl d hd; omega
 have fin : ¬ (i < l.length ∧ i < 100) → sumD (l.take i) = sumD (l.take 100) := fun h => by
  by_cases h3 : i < l.length
  ·have : i = 100 := by omega
   rw [this]
  ·rw [List.take_of_length_le (by omega), List.take_of_length_le (by omega)]
 (conv => whnf)
 refine dec (fun h4 => ?_) (fun h4 => ?_)
 ·(conv => whnf)
  refine dec (fun h5 => ?_) (fun h5 => ?_)
  ·have hlt : i < l.length := by omega
   have hp := hl _ (List.getElem_mem hlt)
   (conv => whnf)
   refine ⟨false, .grow, (.l [0, 1, 2, 3, 4, 5, 6, 7, 8, 9, 10, 11, 12, 13, 14, 15]), by kernel_rfl, .inl ?_⟩
   (conv => whnf)
   refine ⟨i, l[i], rfl, List.getElem?_eq_getElem hlt, ?_⟩
   (conv => whnf)
   refine ⟨i, l[i], rfl, List.getElem?_eq_getElem hlt, ?_⟩
   (conv => whnf)
   refine ⟨i64 (by omega) (by omega), ?_⟩
   (conv => whnf)
   refine ⟨i64 (by omega) (by omega), ?_⟩
   repeat' ((conv => whnf); refine I6 ?_)
   refine ag (i + 1) [] [] ⟨hlt, by omega⟩ (by simp only []; omega) ?_
   rw [sumD_take hlt]
   repeat' first | exact trivial | exact rfl | refine And.intro ?_ ?_
  ·have := fin (by omega)
   rw [this]
   repeat' ((conv => whnf); first | (refine dec (fun h => ?_) (fun h => ?_) <;> try contradiction) | (refine decN (fun h => ?_) (fun h => ?_) <;> try contradiction) | refine booN (fun h => ?_) (fun h => ?_) | refine boo (fun h => ?_) (fun h => ?_) | refine ⟨i64 (by omega) (by omega), ?_⟩ | refine ⟨_, _, rfl, List.getElem?_eq_getElem (by omega), ?_⟩ | refine ⟨_, ⟨rfl, by omega⟩, ?_⟩ | refine ⟨_, List.getElem?_eq_getElem (by omega), ?_⟩ | refine rtB ?_ | refine rtI ?_ | refine rtC ?_ rfl | fail)
   ·have h : 40 < l.length := by omega
    simp [greatD, h]
   ·have h : ¬ 40 < l.length := by omega
    simp [greatD, h]; omega
 ·have := fin (by omega)
  rw [this]
  repeat' ((conv => whnf); first | (refine dec (fun h => ?_) (fun h => ?_) <;> try contradiction) | (refine decN (fun h => ?_) (fun h => ?_) <;> try contradiction) | refine booN (fun h => ?_) (fun h => ?_) | refine boo (fun h => ?_) (fun h => ?_) | refine ⟨i64 (by omega) (by omega), ?_⟩ | refine ⟨_, _, rfl, List.getElem?_eq_getElem (by omega), ?_⟩ | refine ⟨_, ⟨rfl, by omega⟩, ?_⟩ | refine ⟨_, List.getElem?_eq_getElem (by omega), ?_⟩ | refine rtB ?_ | refine rtI ?_ | refine rtC ?_ rfl | fail)
  ·have h : 40 < l.length := by omega
   simp [greatD, h]
  ·have h : ¬ 40 < l.length := by omega
   simp [greatD, h]; omega
def pick (l : List Int) (k : Int) : Int := (l[(k % 18446744073709551616 % l.length).toNat]?).getD 0
end Go.Nest
end
/- part -/
section

namespace Go.Nest
open Go Go.AM
inductive Anc (L : List Ob) : Int → Int → Prop
 | refl (id : Int) : Anc L id id
 | step {id j k : Int} (h : j ∈ (getP L id).parents) (h2 : Anc L j k) : Anc L id k
theorem Anc.next {L : List Ob} {id j k : Int} (h : Anc L id j) (hk : k ∈ (getP L j).parents) : Anc L id k := by
 induction h with
 | refl id => exact .step hk (.refl k)
 | step h _ ih => exact .step h (ih hk)
theorem par_next {L : List Ob} {j k : Int} (h : k ∈ (getP L j).parents) : k ∈ nextP L j := by
 unfold nextP
 rw [List.mem_append, List.mem_append]
 exact .inr (.inr h)
theorem par_lt {L : List Ob} (hp : PoolOk L) {j k : Int} (h : k ∈ (getP L j).parents) : 0 ≤ k ∧ k < j ∧ k.toNat < L.length := by
 obtain ⟨h1, h2⟩ := next_lt hp (par_next h)
 obtain ⟨h3, h4⟩ := kindOf_pos h1
 exact ⟨by omega, h2, h4⟩
theorem par_kind {L : List Ob} (hp : PoolOk L) {j k : Int} (hj : kindOf L j = 3) (h : k ∈ (getP L j).parents) : kindOf L k = 3 := by
 obtain ⟨h1, h2⟩ := kindOf_pos (l := L) (id := j) (by omega)
 have := (hp.obj (getP L j) (by rw [getP_at h1 h2]; exact List.getElem_mem _)).2
 unfold leadsP at this
 rw [Bool.and_eq_true, Bool.and_eq_true, List.all_eq_true, List.all_eq_true] at this
 simpa using this.2.1 k h
theorem Anc.kind {L : List Ob} (hp : PoolOk L) {id k : Int} (h : Anc L id k) (hi : kindOf L id = 3) : kindOf L k = 3 := by
 induction h with
 | refl => exact hi
 | step h _ ih => exact ih (par_kind hp hi h)
theorem Anc.le {L : List Ob} (hp : PoolOk L) {id k : Int} (h : Anc L id k) : k ≤ id := by
 induction h with
 | refl => exact Int.le_refl _
 | step h _ ih => have := (par_lt hp h).2.1; omega
end Go.Nest
end
/- part -/
section

namespace Go.Nest
open Go Go.AM
theorem nodup_len : ∀ (n : Nat) {l : List Int}, l.Nodup → (∀ k ∈ l, 0 ≤ k ∧ k < n) → l.length ≤ n
 | 0, l, _, h => by
  cases l with
  | nil => simp
  | cons x r => have := h x (by simp); omega
 | n + 1, l, hn, h => by
  by_cases hm : (n : Int) ∈ l
  ·have := nodup_len n (hn.erase (n : Int)) (fun k hk => by
    obtain ⟨h1, h2⟩ := (hn.mem_erase_iff).1 hk
    have := h k h2; omega)
   rw [List.length_erase_of_mem hm] at this
   omega
  ·have := nodup_len n hn (fun k hk => by
    have h1 := h k hk
    have : k ≠ n := fun e => hm (e ▸ hk)
    omega)
   omega
structure Bfs (L : List Ob) (id : Int) (out : List Int) (i : Nat) : Prop where
 le : i ≤ out.length
 nd : out.Nodup
 mem : id ∈ out
 anc : ∀ k ∈ out, Anc L id k
 clos : ∀ x ∈ out.take i, ∀ k ∈ (getP L x).parents, k ∈ out
theorem Bfs.start {L : List Ob} {id : Int} : Bfs L id [id] 0 := ⟨Nat.zero_le _, by simp, by simp, fun k hk => by rw [List.mem_singleton] at hk; subst hk; exact .refl _, fun x hx => by cases hx⟩
theorem Bfs.len {L : List Ob} (hL : PoolOk L) {id : Int} (hi : kindOf L id = 3) {out : List Int} {i : Nat} (h : Bfs L id out i) : out.length ≤ L.length :=
 nodup_len _ h.nd fun k hk => by
  have := (h.anc k hk).kind hL hi
  obtain ⟨h1, h2⟩ := kindOf_pos (l := L) (id := k) (by omega)
  omega
theorem Bfs.add {L : List Ob} {id : Int} {out : List Int} {i : Nat} (h : Bfs L id out i) {k : Int} (hk : k ∉ out) (ha : Anc L id k) : Bfs L id (out ++ [k]) i := by
 refine ⟨by rw [List.length_append]; have := h.le; omega, ?_, List.mem_append_left _ h.mem, fun x hx => ?_, fun x hx j hj => ?_⟩
 ·rw [List.nodup_append]
  exact ⟨h.nd, by simp, fun a ha2 b hb => by rw [List.mem_singleton] at hb; intro e; exact hk (by rw [← hb, ← e]; exact ha2)⟩
 ·rcases List.mem_append.1 hx with hx | hx
  ·exact h.anc x hx
  ·rw [List.mem_singleton] at hx; subst hx; exact ha
 ·rw [List.take_append_of_le_length h.le] at hx
  exact List.mem_append_left _ (h.clos x hx j hj)
theorem Bfs.next {L : List Ob} {id : Int} {out : List Int} {i : Nat} (h : Bfs L id out i) {x : Int} (hx : out[i]? = some x) (hc : ∀ k ∈ (getP L x).parents, k ∈ out) : Bfs L id out (i + 1) := by
 obtain ⟨hlt, e⟩ := List.getElem?_eq_some_iff.1 hx
 refine ⟨hlt, h.nd, h.mem, h.anc, fun y hy k hk => ?_⟩
 rw [List.take_succ_eq_append_getElem hlt, List.mem_append, List.mem_singleton, e] at hy
 rcases hy with hy | rfl
 ·exact h.clos y hy k hk
 ·exact hc k hk
end Go.Nest
end
/- part -/
section

namespace Go.Nest
open Go Go.AM Go.Proofs
open Go.Proofs.YtpmjnbidmcnhnaaGreatDoor (tab tabOk)
set_option maxRecDepth 4000
structure Ln (L : List Ob) (id : Int) (R : List Int) (vis : List Bool) (i : Nat) : Prop where
 len : vis.length = L.length
 sound : ∀ k, Mk vis k → Anc L id k
 me : Mk vis id
 clos : ∀ x ∈ R.drop i, Mk vis x → ∀ p ∈ (getP L x).parents, Mk vis p
theorem Anc.led {L : List Ob} (hL : PoolOk L) {id k : Int} (hi : kindOf L id = 3) (h : Anc L id k) : Led L [id] k := by
 have key : ∀ {a b : Int}, Anc L a b → Led L [id] a → Led L [id] b := fun {a b} h => by
  induction h with
  | refl => exact fun h => h
  | step h _ ih => exact fun h2 => ih (.step h2 (par_next h))
 exact key h (.base (by simp) (by omega))
theorem Ln.start {L : List Ob} {id : Int} {R : List Int} (h : kindOf L id = 3) : Ln L id R ((List.replicate L.length false).set id.toNat true) R.length := by
 have hset : ∀ k, Mk ((List.replicate L.length false).set id.toNat true) k ↔ Mk (List.replicate L.length false) k ∨ k = id := fun k => mk_set (l := L) (by simp) (by omega)
 refine ⟨by simp, fun k hk => ?_, (hset id).2 (.inr rfl), fun x hx => by rw [List.drop_length] at hx; cases hx⟩
 rcases (hset k).1 hk with h | rfl
 ·exact (not_Mk_rep h).elim
 ·exact .refl _
end Go.Nest
end
/- part -/
section

namespace Go.Nest
open Go Go.AM Go.Proofs
open Go.Proofs.YtpmjnbidmcnhnaaGreatDoor (tab tabOk)
set_option maxRecDepth 4000
structure Del (p : Int → Bool) (l r : List Int) (i j : Nat) : Prop where
 le : i ≤ j
 jl : j ≤ l.length
 len : r.length = l.length
 pre : r.take i = (l.take j).filter fun x => !p x
 suf : r.drop j = l.drop j
theorem filter_none {p : Int → Bool} {l : List Int} (h : l.any p = false) : (l.filter fun x => !p x) = l := by
 rw [List.any_eq_false] at h
 exact List.filter_eq_self.2 fun x hx => by have := h x hx; simpa using this
theorem Del.start {p : Int → Bool} {l : List Int} {i : Nat} (h : i < l.length) (h1 : (l.take i).any p = false) (h2 : p l[i] = true) : Del p l l i (i + 1) := by
 refine ⟨by omega, h, rfl, ?_, rfl⟩
 rw [List.take_succ_eq_append_getElem h, List.filter_append, filter_none h1]
 simp [h2]
theorem Del.at {p : Int → Bool} {l r : List Int} {i j : Nat} (h : Del p l r i j) (hj : j < l.length) : r[j]? = some l[j] := by
 have := congrArg (·[0]?) h.suf
 simp only [List.getElem?_drop, Nat.add_zero] at this
 rw [this, List.getElem?_eq_getElem hj]
theorem Del.suf1 {p : Int → Bool} {l r : List Int} {i j : Nat} (h : Del p l r i j) : r.drop (j + 1) = l.drop (j + 1) := by
 rw [← List.drop_drop, h.suf, List.drop_drop]
theorem Del.drop {p : Int → Bool} {l r : List Int} {i j : Nat} (h : Del p l r i j) (hj : j < l.length) (hp : p l[j] = true) : Del p l r i (j + 1) := by
 have := h.le
 refine ⟨by omega, hj, h.len, ?_, h.suf1⟩
 rw [List.take_succ_eq_append_getElem hj, List.filter_append, ← h.pre]
 simp [hp]
theorem Del.keep {p : Int → Bool} {l r : List Int} {i j : Nat} (h : Del p l r i j) (hj : j < l.length) (hp : p l[j] = false) : Del p l (r.set i l[j]) (i + 1) (j + 1) := by
 have := h.le
 have hi : i < r.length := by rw [h.len]; omega
 refine ⟨by omega, hj, by rw [List.length_set]; exact h.len, ?_, ?_⟩
 ·rw [List.take_succ_eq_append_getElem hj, List.filter_append, ← h.pre, List.take_succ_eq_append_getElem (by rw [List.length_set]; exact hi), List.getElem_set_self, List.take_set_of_le (Nat.le_refl _)]
  simp [hp]
 ·rw [List.drop_set_of_lt (by omega), h.suf1]
end Go.Nest
end
/- part -/
section

namespace Go.Nest
open Go Go.AM Go.Proofs
open Go.Proofs.YtpmjnbidmcnhnaaGreatDoor (tab tabOk)
set_option maxRecDepth 4000
def below (x : Int) (out : List Int) : Nat := (out.takeWhile fun y => decide (y < x)).length
end Go.Nest
end
