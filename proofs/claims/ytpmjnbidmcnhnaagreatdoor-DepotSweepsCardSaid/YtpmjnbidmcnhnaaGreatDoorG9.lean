/- part -/
import Derived.Test.YtpmjnbidmcnhnaaGreatDoorG5
set_option linter.unusedVariables false
set_option linter.unusedSimpArgs false
section

namespace Go.Nest
open Go Go.AM Go.Proofs
open Go.Proofs.YtpmjnbidmcnhnaaGreatDoor (tab tabOk)
set_option maxRecDepth 4000
def ob0 : Ob := ⟨0, [], [], 0, [], []⟩
def kindOf (l : List Ob) (id : Int) : Int := if id < 0 then 0 else ((l[id.toNat]?).map (·.kind)).getD 0
theorem kindOf_neg {l : List Ob} {id : Int} (h : id < 0) : (0 : Int) = kindOf l id := by simp [kindOf, h]
theorem kindOf_ge {l : List Ob} {id : Int} (h : (l.length : Int) ≤ id) : (0 : Int) = kindOf l id := by
 unfold kindOf; split
 ·rfl
 ·rw [List.getElem?_eq_none (by omega)]; rfl
theorem kindOf_at {l : List Ob} {id : Int} (h : ¬ id < 0) (h2 : id.toNat < l.length) : l[id.toNat].kind = kindOf l id := by
 unfold kindOf; rw [if_neg h, List.getElem?_eq_getElem h2]; rfl
theorem kind_spec (l : List Ob) (id : Int) : Does Tryz.prog 61 [.c (.bp [.bs 6 Ob encOb l]), .c (.int .i64 id)] [] (Rt (.c (.int .i64 (kindOf l id))) []) := by
 refine X_spec (n := 24) (n0 := 0) tabOk Tryz.call61 Tryz.func61 ?_
 intro hb
 repeat' ((conv => whnf); first | (refine dec (fun h => ?_) (fun h => ?_) <;> try contradiction) | (refine decN (fun h => ?_) (fun h => ?_) <;> try contradiction) | refine booN (fun h => ?_) (fun h => ?_) | refine boo (fun h => ?_) (fun h => ?_) | refine ⟨i64 (by omega) (by omega), ?_⟩ | refine ⟨_, _, rfl, List.getElem?_eq_getElem (by omega), ?_⟩ | refine ⟨_, ⟨rfl, by omega⟩, ?_⟩ | refine ⟨_, List.getElem?_eq_getElem (by omega), ?_⟩ | refine rtB ?_ | refine rtI ?_ | refine rtC ?_ rfl | fail)
 ·exact kindOf_neg h
 ·exact kindOf_ge h
 ·(conv => whnf)
  have hlt : id.toNat < l.length := by omega
  refine ⟨id.toNat, l[id.toNat], by omega, List.getElem?_eq_getElem hlt, ?_⟩
  repeat' ((conv => whnf); first | (refine dec (fun h => ?_) (fun h => ?_) <;> try contradiction) | (refine decN (fun h => ?_) (fun h => ?_) <;> try contradiction) | refine booN (fun h => ?_) (fun h => ?_) | refine boo (fun h => ?_) (fun h => ?_) | refine ⟨i64 (by omega) (by omega), ?_⟩ | refine ⟨_, _, rfl, List.getElem?_eq_getElem (by omega), ?_⟩ | refine ⟨_, ⟨rfl, by omega⟩, ?_⟩ | refine ⟨_, List.getElem?_eq_getElem (by omega), ?_⟩ | refine rtB ?_ | refine rtI ?_ | refine rtC ?_ rfl | fail)
  exact kindOf_at (by assumption) hlt
theorem kindR_spec (l : List Ob) (id : Int) : Does Tryz.prog 97 [.c (.bp [.bs 6 Ob encOb l]), .c (.int .i64 id)] [] (Rt (.c (.int .i64 (kindOf l id))) []) := by
 refine X_spec (n := 24) (n0 := 0) tabOk Tryz.call97 Tryz.func97 ?_
 intro hb
 repeat' ((conv => whnf); first | (refine dec (fun h => ?_) (fun h => ?_) <;> try contradiction) | (refine decN (fun h => ?_) (fun h => ?_) <;> try contradiction) | refine booN (fun h => ?_) (fun h => ?_) | refine boo (fun h => ?_) (fun h => ?_) | refine ⟨i64 (by omega) (by omega), ?_⟩ | refine ⟨_, _, rfl, List.getElem?_eq_getElem (by omega), ?_⟩ | refine ⟨_, ⟨rfl, by omega⟩, ?_⟩ | refine ⟨_, List.getElem?_eq_getElem (by omega), ?_⟩ | refine rtB ?_ | refine rtI ?_ | refine rtC ?_ rfl | fail)
 ·exact kindOf_neg h
 ·exact kindOf_ge h
 ·(conv => whnf)
  have hlt : id.toNat < l.length := by omega
  refine ⟨id.toNat, l[id.toNat], by omega, List.getElem?_eq_getElem hlt, ?_⟩
  repeat' ((conv => whnf); first | (refine dec (fun h => ?_) (fun h => ?_) <;> try contradiction) | (refine decN (fun h => ?_) (fun h => ?_) <;> try contradiction) | refine booN (fun h => ?_) (fun h => ?_) | refine boo (fun h => ?_) (fun h => ?_) | refine ⟨i64 (by omega) (by omega), ?_⟩ | refine ⟨_, _, rfl, List.getElem?_eq_getElem (by omega), ?_⟩ | refine ⟨_, ⟨rfl, by omega⟩, ?_⟩ | refine ⟨_, List.getElem?_eq_getElem (by omega), ?_⟩ | refine rtB ?_ | refine rtI ?_ | refine rtC ?_ rfl | fail)
  exact kindOf_at (by assumption) hlt
theorem len_spec (l : List Ob) : Does Tryz.prog 44 [.c (.bp [.bs 6 Ob encOb l])] [] (Rt (.c (.int .i64 l.length)) []) := by
 refine X_spec (n := 8) (n0 := 0) tabOk Tryz.call44 Tryz.func44 ?_
 intro hb
 repeat' ((conv => whnf); first | (refine dec (fun h => ?_) (fun h => ?_) <;> try contradiction) | (refine decN (fun h => ?_) (fun h => ?_) <;> try contradiction) | refine booN (fun h => ?_) (fun h => ?_) | refine boo (fun h => ?_) (fun h => ?_) | refine ⟨i64 (by omega) (by omega), ?_⟩ | refine ⟨_, _, rfl, List.getElem?_eq_getElem (by omega), ?_⟩ | refine ⟨_, ⟨rfl, by omega⟩, ?_⟩ | refine ⟨_, List.getElem?_eq_getElem (by omega), ?_⟩ | refine rtB ?_ | refine rtI ?_ | refine rtC ?_ rfl | fail)
 rfl
def leadsP (l : List Ob) (o : Ob) : Bool := (o.entries.all fun e => decide (kindOf l e.id = e.mode)) && ((o.parents.all fun k => decide (kindOf l k = 3)) && (!decide (o.kind = 3) || decide (kindOf l o.tree = 2)))
theorem all_take {α : Type} {p : α → Bool} {l : List α} {i : Nat} (h : i < l.length) (h1 : (l.take i).all p = true) (h2 : p l[i] = true) : (l.take (i + 1)).all p = true := by
 rw [List.take_succ_eq_append_getElem h, List.all_append, h1]; simp [h2]
theorem all_not {α : Type} {p : α → Bool} {l : List α} {i : Nat} (h : i < l.length) (h2 : ¬ p l[i] = true) : l.all p = false := by
 rw [Bool.eq_false_iff, Ne, List.all_eq_true]; exact fun h3 => h2 (h3 _ (List.getElem_mem h))
theorem tab4 {m : Int} (h : 1 ≤ m ∧ m ≤ 3) : ([0, 1, 2, 3] : List Int)[m.toNat]? = some m := by
 have : m = 1 ∨ m = 2 ∨ m = 3 := by omega
 rcases this with rfl | rfl | rfl <;> rfl
theorem leads_spec (l : List Ob) (o : Ob) (ho : ∀ e ∈ o.entries, 1 ≤ e.mode ∧ e.mode ≤ 3) : Does Tryz.prog 92 [.c (.bp [.bs 6 Ob encOb l]), .st (bOb o)] [] (Rt (.c (.bool (leadsP l o))) []) := by
 refine X_spM (n := 49) (n0 := 0) tabOk Tryz.call92 Tryz.func92 ?_
 intro hb
 have hb1 : o.entries.length ≤ 9223372036854775807 := hb.1.2.1.2.2.1
 have hb2 : o.parents.length ≤ 9223372036854775807 := hb.1.2.1.2.2.2.2.1
 refine XM.seq ?_
 repeat' ((conv => whnf); refine I6 ?_)
 refine XM.join (ι := Unit) (fun _ => ⟨[(0, .c (.bp [.bs 6 Ob encOb l])), (3, .c (.ptr 0 0))], [.box (bOb o)]⟩) (fun _ => (o.entries.all fun e => decide (kindOf l e.id = e.mode)) = true) ?_ (fun _ h1 => ?_)
 ·(conv => whnf)
  refine lp Nat (fun i => ⟨[(0, .c (.bp [.bs 6 Ob encOb l])), (3, .c (.ptr 0 0)), (10, .c (.bs 4 Ent encEn o.entries)), (11, .c (.int .i64 o.entries.length)), (12, .c (.int .i64 i))], [.box (bOb o)]⟩) (fun i => i ≤ o.entries.length ∧ (o.entries.take i).all (fun e => decide (kindOf l e.id = e.mode)) = true) (fun i => o.entries.length - i) 0 [] [.same 0] ?_ ?_ (fun i hi => ?_)
  ·simp
  ·repeat' first | exact trivial | exact rfl | refine And.intro ?_ ?_
  (conv => whnf)
  refine dec (fun h4 => ?_) (fun h4 => ?_)
  ·have hlt : i < o.entries.length := by omega
   have hm := ho _ (List.getElem_mem hlt)
   repeat' ((conv => whnf); first | (refine dec (fun h => ?_) (fun h => ?_) <;> try contradiction) | (refine decN (fun h => ?_) (fun h => ?_) <;> try contradiction) | refine booN (fun h => ?_) (fun h => ?_) | refine boo (fun h => ?_) (fun h => ?_) | refine ⟨i64 (by omega) (by omega), ?_⟩ | refine ⟨_, _, rfl, List.getElem?_eq_getElem (by omega), ?_⟩ | refine ⟨_, ⟨rfl, by omega⟩, ?_⟩ | refine ⟨_, List.getElem?_eq_getElem (by omega), ?_⟩ | refine rtB ?_ | refine rtI ?_ | refine rtC ?_ rfl | fail)
   (conv => whnf)
   refine ⟨false, .grow, (.alt [0, 1, 2, 5, 6] [3, 4] fun j => bif Nat.beq j 3 then (.l [4, 7, 8, 9]) else bif Nat.beq j 4 then (.l [7, 8, 3, 9]) else .l []), by kernel_rfl, .inl ?_⟩
   (conv => whnf)
   refine ⟨?_, ?_⟩
   ·(conv => whnf)
    refine cl [] [] (kind_spec l o.entries[i].id) ?_
    repeat' ((conv => whnf); refine I6 ?_)
    (conv => whnf)
    refine ⟨[0, 1, 2, 3], rfl, ?_⟩
    (conv => whnf)
    refine ⟨o.entries[i].mode.toNat, ⟨by omega, by simp only [List.length_cons, List.length_nil]; omega⟩, ?_⟩
    (conv => whnf)
    refine ⟨_, tab4 hm, ?_⟩
    repeat' ((conv => whnf); first | (refine dec (fun h => ?_) (fun h => ?_) <;> try contradiction) | (refine decN (fun h => ?_) (fun h => ?_) <;> try contradiction) | refine booN (fun h => ?_) (fun h => ?_) | refine boo (fun h => ?_) (fun h => ?_) | refine ⟨i64 (by omega) (by omega), ?_⟩ | refine ⟨_, _, rfl, List.getElem?_eq_getElem (by omega), ?_⟩ | refine ⟨_, ⟨rfl, by omega⟩, ?_⟩ | refine ⟨_, List.getElem?_eq_getElem (by omega), ?_⟩ | refine rtB ?_ | refine rtI ?_ | refine rtC ?_ rfl | fail)
    ·unfold leadsP; rw [all_not (l := o.entries) hlt (by simpa using h)]; simp
    ·refine ag (i + 1) [] [.same 0] ⟨hlt, all_take hlt hi.2 (by simpa using h)⟩ (by simp only []; omega) ?_
     repeat' first | exact trivial | exact rfl | refine And.intro ?_ ?_
   ·(conv => whnf)
    refine ⟨[0, 1, 2, 3], rfl, ?_⟩
    (conv => whnf)
    refine ⟨o.entries[i].mode.toNat, ⟨by omega, by simp only [List.length_cons, List.length_nil]; omega⟩, ?_⟩
    (conv => whnf)
    refine ⟨_, tab4 hm, ?_⟩
    (conv => whnf)
    refine cl [] [] (kind_spec l o.entries[i].id) ?_
    repeat' ((conv => whnf); first | (refine dec (fun h => ?_) (fun h => ?_) <;> try contradiction) | (refine decN (fun h => ?_) (fun h => ?_) <;> try contradiction) | refine booN (fun h => ?_) (fun h => ?_) | refine boo (fun h => ?_) (fun h => ?_) | refine ⟨i64 (by omega) (by omega), ?_⟩ | refine ⟨_, _, rfl, List.getElem?_eq_getElem (by omega), ?_⟩ | refine ⟨_, ⟨rfl, by omega⟩, ?_⟩ | refine ⟨_, List.getElem?_eq_getElem (by omega), ?_⟩ | refine rtB ?_ | refine rtI ?_ | refine rtC ?_ rfl | fail)
    ·unfold leadsP; rw [all_not (l := o.entries) hlt (by simpa using h)]; simp
    ·refine ag (i + 1) [] [.same 0] ⟨hlt, all_take hlt hi.2 (by simpa using h)⟩ (by simp only []; omega) ?_
     repeat' first | exact trivial | exact rfl | refine And.intro ?_ ?_
  ·have := hi.2
   rw [List.take_of_length_le (by omega)] at this
   (conv => whnf)
   refine ⟨(), this, [], [.same 0], ?_⟩
   repeat' first | exact trivial | exact rfl | refine And.intro ?_ ?_
 refine XM.join (ι := Unit) (fun _ => ⟨[(0, .c (.bp [.bs 6 Ob encOb l])), (3, .c (.ptr 0 0))], [.box (bOb o)]⟩) (fun _ => (o.parents.all fun k => decide (kindOf l k = 3)) = true) ?_ (fun _ h2 => ?_)
 ·(conv => whnf)
  refine lp Nat (fun i => ⟨[(0, .c (.bp [.bs 6 Ob encOb l])), (3, .c (.ptr 0 0)), (28, .c (.bs 1 Int encI o.parents)), (29, .c (.int .i64 o.parents.length)), (30, .c (.int .i64 i))], [.box (bOb o)]⟩) (fun i => i ≤ o.parents.length ∧ (o.parents.take i).all (fun k => decide (kindOf l k = 3)) = true) (fun i => o.parents.length - i) 0 [] [.same 0] ?_ ?_ (fun i hi => ?_)
  ·simp
  ·repeat' first | exact trivial | exact rfl | refine And.intro ?_ ?_
  (conv => whnf)
  refine dec (fun h4 => ?_) (fun h4 => ?_)
  ·have hlt : i < o.parents.length := by omega
   repeat' ((conv => whnf); first | (refine dec (fun h => ?_) (fun h => ?_) <;> try contradiction) | (refine decN (fun h => ?_) (fun h => ?_) <;> try contradiction) | refine booN (fun h => ?_) (fun h => ?_) | refine boo (fun h => ?_) (fun h => ?_) | refine ⟨i64 (by omega) (by omega), ?_⟩ | refine ⟨_, _, rfl, List.getElem?_eq_getElem (by omega), ?_⟩ | refine ⟨_, ⟨rfl, by omega⟩, ?_⟩ | refine ⟨_, List.getElem?_eq_getElem (by omega), ?_⟩ | refine rtB ?_ | refine rtI ?_ | refine rtC ?_ rfl | fail)
   (conv => whnf)
   refine cl [] [] (kind_spec l o.parents[i]) ?_
   repeat' ((conv => whnf); first | (refine dec (fun h => ?_) (fun h => ?_) <;> try contradiction) | (refine decN (fun h => ?_) (fun h => ?_) <;> try contradiction) | refine booN (fun h => ?_) (fun h => ?_) | refine boo (fun h => ?_) (fun h => ?_) | refine ⟨i64 (by omega) (by omega), ?_⟩ | refine ⟨_, _, rfl, List.getElem?_eq_getElem (by omega), ?_⟩ | refine ⟨_, ⟨rfl, by omega⟩, ?_⟩ | refine ⟨_, List.getElem?_eq_getElem (by omega), ?_⟩ | refine rtB ?_ | refine rtI ?_ | refine rtC ?_ rfl | fail)
   ·unfold leadsP; rw [all_not (l := o.parents) hlt (by simpa using h)]; simp
   ·refine ag (i + 1) [] [.same 0] ⟨hlt, all_take hlt hi.2 (by simpa using h)⟩ (by simp only []; omega) ?_
    repeat' first | exact trivial | exact rfl | refine And.intro ?_ ?_
  ·have := hi.2
   rw [List.take_of_length_le (by omega)] at this
   (conv => whnf)
   refine ⟨(), this, [], [.same 0], ?_⟩
   repeat' first | exact trivial | exact rfl | refine And.intro ?_ ?_
 refine XM.of ?_
 have hl : leadsP l o = (!decide (o.kind = 3) || decide (kindOf l o.tree = 2)) := by unfold leadsP; rw [h1, h2]; rfl
 rw [hl]
 repeat' ((conv => whnf); first | (refine dec (fun h => ?_) (fun h => ?_) <;> try contradiction) | (refine decN (fun h => ?_) (fun h => ?_) <;> try contradiction) | refine booN (fun h => ?_) (fun h => ?_) | refine boo (fun h => ?_) (fun h => ?_) | refine ⟨i64 (by omega) (by omega), ?_⟩ | refine ⟨_, _, rfl, List.getElem?_eq_getElem (by omega), ?_⟩ | refine ⟨_, ⟨rfl, by omega⟩, ?_⟩ | refine ⟨_, List.getElem?_eq_getElem (by omega), ?_⟩ | refine rtB ?_ | refine rtI ?_ | refine rtC ?_ rfl | fail)
 ·simp [h]
 ·(conv => whnf)
  refine cl [] [] (kind_spec l o.tree) ?_
  repeat' ((conv => whnf); first | (refine dec (fun h => ?_) (fun h => ?_) <;> try contradiction) | (refine decN (fun h => ?_) (fun h => ?_) <;> try contradiction) | refine booN (fun h => ?_) (fun h => ?_) | refine boo (fun h => ?_) (fun h => ?_) | refine ⟨i64 (by omega) (by omega), ?_⟩ | refine ⟨_, _, rfl, List.getElem?_eq_getElem (by omega), ?_⟩ | refine ⟨_, ⟨rfl, by omega⟩, ?_⟩ | refine ⟨_, List.getElem?_eq_getElem (by omega), ?_⟩ | refine rtB ?_ | refine rtI ?_ | refine rtC ?_ rfl | fail)
  simp [h]
end Go.Nest
end
/- part -/
section

namespace Go.Nest
open Go Go.AM
theorem entF_ok {p : Option (List UInt8)} {e : Ent} (h : entF p e = 0) : nameC e.name = 0 ∧ (1 ≤ e.mode ∧ e.mode ≤ 3) ∧ 0 ≤ e.id ∧ (0 ≤ e.repo ∧ e.repo < 4) ∧ (e.mode = 3 ∨ e.repo = 0) := by
 unfold entF at h
 split at h
 ·exact absurd h ‹_›
 split at h
 ·cases h
 split at h
 ·cases h
 split at h
 ·cases h
 refine ⟨?_, ?_, ?_, ?_, ?_⟩ <;> omega
theorem entsF_ok : ∀ {l : List Ent} {p : Option (List UInt8)}, entsF p l = 0 → ∀ e ∈ l, nameC e.name = 0 ∧ (1 ≤ e.mode ∧ e.mode ≤ 3) ∧ 0 ≤ e.id ∧ (0 ≤ e.repo ∧ e.repo < 4) ∧ (e.mode = 3 ∨ e.repo = 0)
 | [], _, _, e, he => by cases he
 | x :: l, p, h, e, he => by
  unfold entsF at h
  split at h
  ·rename_i h0
   rcases List.mem_cons.1 he with rfl | he
   ·exact entF_ok h0
   ·exact entsF_ok h e he
  ·exact absurd h ‹_›
structure OkO (o : Ob) : Prop where
 k1 : 1 ≤ o.kind
 k3 : o.kind ≤ 3
 bytes : o.bytes.length ≤ 400
 text : o.text.length ≤ 60
 parents : o.parents.length ≤ 3
 entries : o.entries.length ≤ 60
 nb : o.kind ≠ 1 → o.bytes = []
 ne : o.kind ≠ 2 → o.entries = []
 nc : o.kind ≠ 3 → o.tree = 0 ∧ o.parents = [] ∧ o.text = []
 tree : 0 ≤ o.tree
 par : ∀ k ∈ o.parents, 0 ≤ k
 txt : o.text.all shown = true
 ents : entsF none o.entries = 0
theorem len0 {α : Type} {l : List α} (h : ¬ 0 < l.length) : l = [] := List.eq_nil_of_length_eq_zero (by omega)
theorem objF_ok {o : Ob} (h : objF o = 0) : OkO o := by
 simp only [objF] at h
 split at h
 ·cases h
 split at h
 ·cases h
 split at h
 ·cases h
 split at h
 ·cases h
 split at h
 ·cases h
 split at h
 ·cases h
 split at h
 ·unfold treeC at h
  split at h
  ·cases h
  rename_i h1 h2 h3 h4 h5 h6 h7 h8
  refine ⟨by omega, by omega, by omega, by omega, by omega, by omega, fun hk => len0 (by omega), fun hk => len0 (by omega), fun hk => ⟨by omega, len0 (by omega), len0 (by omega)⟩, by omega, fun k hk => ?_, h7, h⟩
  rw [Bool.not_eq_true, List.any_eq_false] at h6
  have := h6 k hk
  simpa using this
 ·cases h
theorem OkO.modes {o : Ob} (h : OkO o) : ∀ e ∈ o.entries, 1 ≤ e.mode ∧ e.mode ≤ 3 := fun e he => (entsF_ok h.ents e he).2.1
theorem OkO.ids {o : Ob} (h : OkO o) : ∀ e ∈ o.entries, 0 ≤ e.id := fun e he => (entsF_ok h.ents e he).2.2.1
inductive PoolOk : List Ob → Prop
 | nil : PoolOk []
 | snoc {l : List Ob} {o : Ob} (h : PoolOk l) (ho : objF o = 0) (hl : leadsP l o = true) (hn : o ∉ l) (hlen : l.length < 600) : PoolOk (l ++ [o])
theorem PoolOk.len {l : List Ob} (h : PoolOk l) : l.length ≤ 600 := by
 cases h with
 | nil => simp
 | snoc _ _ _ _ h => simp; omega
theorem PoolOk.mem {l : List Ob} (h : PoolOk l) : ∀ o ∈ l, OkO o := by
 induction h with
 | nil => intro o ho; cases ho
 | snoc _ ho _ _ _ ih =>
  intro u hu
  rcases List.mem_append.1 hu with hu | hu
  ·exact ih u hu
  ·rw [List.mem_singleton] at hu; subst hu; exact objF_ok ho
def putP (l : List Ob) (o : Ob) : Int × Int × List Ob :=
 if objF o ≠ 0 then (0, objF o, l) else if leadsP l o = false then (0, 14, l) else if 0 ≤ idxF (fun x => decide (x = o)) l then (idxF (fun x => decide (x = o)) l, 0, l)
 else if l.length = 600 then (0, 15, l) else (l.length, 0, l ++ [o])
theorem idxF_neg {α : Type} {p : α → Bool} {l : List α} (h : ¬ 0 ≤ idxF p l) : l.any p = false := by rw [← idxF_any]; simpa using h
theorem putP_ok {l : List Ob} (h : PoolOk l) (o : Ob) : PoolOk (putP l o).2.2 := by
 unfold putP
 split
 ·exact h
 split
 ·exact h
 split
 ·exact h
 split
 ·exact h
 rename_i h1 h2 h3 h4
 refine .snoc h (by simpa using h1) (by simpa using h2) ?_ (by have := h.len; omega)
 have := idxF_neg h3
 rw [List.any_eq_false] at this
 intro hm
 simpa using this o hm
def getP (l : List Ob) (id : Int) : Ob := if id < 0 then ob0 else (l[id.toNat]?).getD ob0
theorem getP_at {l : List Ob} {id : Int} (h : ¬ id < 0) (h2 : id.toNat < l.length) : getP l id = l[id.toNat] := by
 unfold getP; rw [if_neg h, List.getElem?_eq_getElem h2]; rfl
theorem getP_kind {l : List Ob} {id : Int} : (getP l id).kind = kindOf l id := by
 unfold getP kindOf
 split
 ·rfl
 ·cases l[id.toNat]? <;> rfl
theorem kindOf_pos {l : List Ob} {id : Int} (h : ¬ kindOf l id = 0) : ¬ id < 0 ∧ id.toNat < l.length := by
 by_cases h1 : id < 0
 ·exact absurd (kindOf_neg h1).symm h
 ·refine ⟨h1, ?_⟩
  by_cases h2 : (l.length : Int) ≤ id
  ·exact absurd (kindOf_ge h2).symm h
  ·omega
theorem PoolOk.get {l : List Ob} (h : PoolOk l) {id : Int} (h1 : ¬ kindOf l id = 0) : OkO (getP l id) := by
 obtain ⟨h2, h3⟩ := kindOf_pos h1
 rw [getP_at h2 h3]; exact h.mem _ (List.getElem_mem h3)
theorem PoolOk.kind0 {l : List Ob} (h : PoolOk l) {id : Int} (h1 : kindOf l id = 0) : getP l id = ob0 := by
 unfold getP
 split
 ·rfl
 ·cases h2 : l[id.toNat]? with
  | none => rfl
  | some o =>
   exfalso
   have := (h.mem o (List.mem_of_getElem? h2)).k1
   unfold kindOf at h1
   rw [if_neg ‹_›, h2] at h1
   simp at h1; omega
def nextP (l : List Ob) (id : Int) : List Int := ((getP l id).entries.filter fun e => decide (e.mode ≠ 3)).map (·.id) ++ ((if (getP l id).kind = 3 then [(getP l id).tree] else []) ++ (getP l id).parents)
theorem nextP_len {l : List Ob} (h : PoolOk l) (id : Int) : (nextP l id).length ≤ 64 := by
 unfold nextP
 by_cases h0 : kindOf l id = 0
 ·rw [h.kind0 h0]; simp [ob0]
 ·have := h.get h0
  have h1 := this.entries
  have h2 := this.parents
  have h3 := List.length_filter_le (fun e : Ent => decide (e.mode ≠ 3)) (getP l id).entries
  rw [List.length_append, List.length_append, List.length_map]
  split <;> simp <;> simp at h3 <;> omega
end Go.Nest
end
/- part -/
section

namespace Go.Nest
open Go Go.AM Go.Proofs
open Go.Proofs.YtpmjnbidmcnhnaaGreatDoor (tab tabOk)
set_option maxRecDepth 4000
theorem new_spec : Does Tryz.prog 33 [] [] (Rt (.c (.ptr 0 0)) [.box [.rw 1], .row 6 Ob encOb []]) := by
 refine X_spec (n := 3) (n0 := 0) tabOk Tryz.call33 Tryz.func33 ?_
 intro hb
 (conv => whnf)
 exact rx [] [.same 0, .new]
theorem get_spec (l : List Ob) (hl : PoolOk l) (id : Int) : Does Tryz.prog 16 [.c (.bp [.bs 6 Ob encOb l]), .c (.int .i64 id)] [] (Rt (.tup [(true, encOb (getP l id)), (false, [.bool (decide (kindOf l id ≠ 0))])]) []) := by
 refine X_spec (n := 19) (n0 := 0) tabOk Tryz.call16 Tryz.func16 ?_
 intro hb
 repeat' ((conv => whnf); refine I6 ?_)
 (conv => whnf)
 refine cl [] [] (kind_spec l id) ?_
 repeat' ((conv => whnf); first | (refine dec (fun h => ?_) (fun h => ?_) <;> try contradiction) | (refine decN (fun h => ?_) (fun h => ?_) <;> try contradiction) | refine booN (fun h => ?_) (fun h => ?_) | refine boo (fun h => ?_) (fun h => ?_) | refine ⟨i64 (by omega) (by omega), ?_⟩ | refine ⟨_, _, rfl, List.getElem?_eq_getElem (by omega), ?_⟩ | refine ⟨_, ⟨rfl, by omega⟩, ?_⟩ | refine ⟨_, List.getElem?_eq_getElem (by omega), ?_⟩ | refine rtB ?_ | refine rtI ?_ | refine rtC ?_ rfl | fail)
 ·rw [hl.kind0 h, h]
  (conv => whnf)
  exact rx [] []
 ·obtain ⟨h1, h2⟩ := kindOf_pos h
  have hk := hl.get h
  rw [show decide (kindOf l id ≠ 0) = true from decide_eq_true h]
  rw [getP_at h1 h2] at hk ⊢
  (conv => whnf)
  refine ⟨id.toNat, l[id.toNat], by omega, List.getElem?_eq_getElem h2, ?_⟩
  repeat' ((conv => whnf); refine I6 ?_)
  (conv => whnf)
  refine cl [] [] (own_spec l[id.toNat] (by have := hk.bytes; omega) (by have := hk.entries; omega) (by have := hk.parents; omega)) ?_
  (conv => whnf)
  exact rx [] []
theorem getR_spec (l : List Ob) (hl : PoolOk l) (id : Int) : Does Tryz.prog 130 [.c (.bp [.bs 6 Ob encOb l]), .c (.int .i64 id)] [] (Rt (.tup [(true, encOb (getP l id)), (false, [.bool (decide (kindOf l id ≠ 0))])]) []) := by
 refine X_spec (n := 18) (n0 := 0) tabOk Tryz.call130 Tryz.func130 ?_
 intro hb
 repeat' ((conv => whnf); refine I6 ?_)
 (conv => whnf)
 refine cl [] [] (kindR_spec l id) ?_
 repeat' ((conv => whnf); first | (refine dec (fun h => ?_) (fun h => ?_) <;> try contradiction) | (refine decN (fun h => ?_) (fun h => ?_) <;> try contradiction) | refine booN (fun h => ?_) (fun h => ?_) | refine boo (fun h => ?_) (fun h => ?_) | refine ⟨i64 (by omega) (by omega), ?_⟩ | refine ⟨_, _, rfl, List.getElem?_eq_getElem (by omega), ?_⟩ | refine ⟨_, ⟨rfl, by omega⟩, ?_⟩ | refine ⟨_, List.getElem?_eq_getElem (by omega), ?_⟩ | refine rtB ?_ | refine rtI ?_ | refine rtC ?_ rfl | fail)
 ·rw [hl.kind0 h, h]
  (conv => whnf)
  exact rx [] []
 ·obtain ⟨h1, h2⟩ := kindOf_pos h
  rw [show decide (kindOf l id ≠ 0) = true from decide_eq_true h]
  rw [getP_at h1 h2]
  (conv => whnf)
  refine ⟨id.toNat, l[id.toNat], by omega, List.getElem?_eq_getElem h2, ?_⟩
  (conv => whnf)
  exact rx [] []
theorem filt_step {es : List Ent} {i : Nat} (h : i < es.length) : ((es.take (i + 1)).filter fun e => decide (e.mode ≠ 3)).map (·.id) = ((es.take i).filter fun e => decide (e.mode ≠ 3)).map (·.id) ++ (if es[i].mode = 3 then [] else [es[i].id]) := by
 rw [List.take_succ_eq_append_getElem h, List.filter_append, List.map_append]
 congr 1
 by_cases h3 : es[i].mode = 3 <;> simp [h3]
theorem filt_len {es : List Ent} {i : Nat} (h : es.length ≤ 60) : (((es.take i).filter fun e => decide (e.mode ≠ 3)).map (·.id)).length ≤ 60 := by
 rw [List.length_map]
 refine Nat.le_trans (List.length_filter_le _ _) ?_
 rw [List.length_take]; omega
set_option maxHeartbeats 1000000 in
theorem next_spec (l : List Ob) (hl : PoolOk l) (id : Int) : Does Tryz.prog 116 [.c (.bp [.bs 6 Ob encOb l]), .c (.int .i64 id)] [] (Rt (.c (.rw 0)) [.row 1 Int encI (nextP l id)]) := by
 refine X_spM (n := 46) (n0 := 0) tabOk Tryz.call116 Tryz.func116 ?_
 intro hb
 refine XM.seq ?_
 repeat' ((conv => whnf); refine I6 ?_)
 refine XM.seq ?_
 repeat' ((conv => whnf); refine I6 ?_)
 (conv => whnf)
 refine cl [] [] (get_spec l hl id) ?_
 repeat' ((conv => whnf); refine I6 ?_)
 refine XM.seq ?_
 repeat' ((conv => whnf); first | (refine dec (fun h => ?_) (fun h => ?_) <;> try contradiction) | (refine decN (fun h => ?_) (fun h => ?_) <;> try contradiction) | refine booN (fun h => ?_) (fun h => ?_) | refine boo (fun h => ?_) (fun h => ?_) | refine ⟨i64 (by omega) (by omega), ?_⟩ | refine ⟨_, _, rfl, List.getElem?_eq_getElem (by omega), ?_⟩ | refine ⟨_, ⟨rfl, by omega⟩, ?_⟩ | refine ⟨_, List.getElem?_eq_getElem (by omega), ?_⟩ | refine rtB ?_ | refine rtI ?_ | refine rtC ?_ rfl | fail)
 ·(conv => whnf)
  rw [show nextP l id = [] by unfold nextP; rw [hl.kind0 (Decidable.not_not.1 h)]; rfl]
  exact rx [] [.new]
 have hk := hl.get h
 have he := hk.entries
 refine XM.seq ?_
 repeat' ((conv => whnf); refine I6 ?_)
 refine XM.join (ι := Unit) (fun _ => ⟨[(5, .c (.ptr 0 0)), (7, .c (.rw 1))], [.box (encOb (getP l id)), .row 1 Int encI (((getP l id).entries.filter fun e => decide (e.mode ≠ 3)).map (·.id))]⟩) (fun _ => True) ?_ (fun _ _ => ?_)
 ·(conv => whnf)
  refine lp Nat (fun i => ⟨[(5, .c (.ptr 0 0)), (7, .c (.rw 1)), (19, .c (.bs 4 Ent encEn (getP l id).entries)), (20, .c (.int .i64 (getP l id).entries.length)), (21, .c (.int .i64 i))],
   [.box (encOb (getP l id)), .row 1 Int encI ((((getP l id).entries.take i).filter fun e => decide (e.mode ≠ 3)).map (·.id))]⟩) (fun i => i ≤ (getP l id).entries.length ∧ True) (fun i => (getP l id).entries.length - i) 0 [] [.same 0, .new] ?_ ?_ (fun i hi => ?_)
  ·exact ⟨Nat.zero_le _, trivial⟩
  ·repeat' first | exact trivial | exact rfl | refine And.intro ?_ ?_
  (conv => whnf)
  refine dec (fun h4 => ?_) (fun h4 => ?_)
  ·have hlt : i < (getP l id).entries.length := by omega
   have hs := filt_step hlt
   have hle := filt_len (i := i) hk.entries
   repeat' ((conv => whnf); first | (refine dec (fun h => ?_) (fun h => ?_) <;> try contradiction) | (refine decN (fun h => ?_) (fun h => ?_) <;> try contradiction) | refine booN (fun h => ?_) (fun h => ?_) | refine boo (fun h => ?_) (fun h => ?_) | refine ⟨i64 (by omega) (by omega), ?_⟩ | refine ⟨_, _, rfl, List.getElem?_eq_getElem (by omega), ?_⟩ | refine ⟨_, ⟨rfl, by omega⟩, ?_⟩ | refine ⟨_, List.getElem?_eq_getElem (by omega), ?_⟩ | refine rtB ?_ | refine rtI ?_ | refine rtC ?_ rfl | fail)
   ·rw [if_neg h] at hs
    (conv => whnf)
    refine ⟨[(getP l id).entries[i].id], rfl, ?_⟩
    (conv => whnf)
    refine ⟨_, _, rfl, rfl, (by simp only [List.length_append, List.length_cons, List.length_nil]; omega), ?_⟩
    repeat' ((conv => whnf); first | (refine dec (fun h => ?_) (fun h => ?_) <;> try contradiction) | (refine decN (fun h => ?_) (fun h => ?_) <;> try contradiction) | refine booN (fun h => ?_) (fun h => ?_) | refine boo (fun h => ?_) (fun h => ?_) | refine ⟨i64 (by omega) (by omega), ?_⟩ | refine ⟨_, _, rfl, List.getElem?_eq_getElem (by omega), ?_⟩ | refine ⟨_, ⟨rfl, by omega⟩, ?_⟩ | refine ⟨_, List.getElem?_eq_getElem (by omega), ?_⟩ | refine rtB ?_ | refine rtI ?_ | refine rtC ?_ rfl | fail)
    refine ag (i + 1) [] [.same 0, .same 4] ⟨hlt, trivial⟩ (by simp only []; omega) ?_
    repeat' first | exact trivial | exact rfl | refine And.intro ?_ ?_
    rw [hs]; exact rfl
   ·rw [if_pos h, List.append_nil] at hs
    repeat' ((conv => whnf); refine I6 ?_)
    refine ag (i + 1) [] [.same 0, .same 1] ⟨hlt, trivial⟩ (by simp only []; omega) ?_
    repeat' first | exact trivial | exact rfl | refine And.intro ?_ ?_
    rw [hs]; exact rfl
  ·have : (getP l id).entries.take i = (getP l id).entries := List.take_of_length_le (by omega)
   rw [this]
   (conv => whnf)
   refine ⟨(), trivial, [], [.same 0, .same 1], ?_⟩
   repeat' first | exact trivial | exact rfl | refine And.intro ?_ ?_
 have hle := filt_len (i := (getP l id).entries.length) hk.entries
 rw [List.take_length] at hle
 have hp := hk.parents
 refine XM.join (ι := Unit) (fun _ => ⟨[(5, .c (.ptr 0 0)), (7, .c (.rw 1))], [.box (encOb (getP l id)), .row 1 Int encI (((getP l id).entries.filter fun e => decide (e.mode ≠ 3)).map (·.id) ++ (if (getP l id).kind = 3 then [(getP l id).tree] else []))]⟩) (fun _ => True) ?_ (fun _ _ => ?_)
 ·repeat' ((conv => whnf); first | (refine dec (fun h => ?_) (fun h => ?_) <;> try contradiction) | (refine decN (fun h => ?_) (fun h => ?_) <;> try contradiction) | refine booN (fun h => ?_) (fun h => ?_) | refine boo (fun h => ?_) (fun h => ?_) | refine ⟨i64 (by omega) (by omega), ?_⟩ | refine ⟨_, _, rfl, List.getElem?_eq_getElem (by omega), ?_⟩ | refine ⟨_, ⟨rfl, by omega⟩, ?_⟩ | refine ⟨_, List.getElem?_eq_getElem (by omega), ?_⟩ | refine rtB ?_ | refine rtI ?_ | refine rtC ?_ rfl | fail)
  ·(conv => whnf)
   refine ⟨[(getP l id).tree], rfl, ?_⟩
   (conv => whnf)
   refine ⟨_, _, rfl, rfl, (by simp only [List.length_append, List.length_cons, List.length_nil]; omega), ?_⟩
   (conv => whnf)
   rw [if_pos ‹(getP l id).kind = 3›]
   refine ⟨(), trivial, [], [.same 0, .same 3], ?_⟩
   repeat' first | exact trivial | exact rfl | refine And.intro ?_ ?_
  ·(conv => whnf)
   rw [if_neg ‹¬ (getP l id).kind = 3›, List.append_nil]
   refine ⟨(), trivial, [], [.same 0, .same 1], ?_⟩
   repeat' first | exact trivial | exact rfl | refine And.intro ?_ ?_
 have h1 : (if (getP l id).kind = 3 then [(getP l id).tree] else []).length ≤ 1 := by split <;> simp
 refine XM.of ?_
 (conv => whnf)
 refine ⟨_, _, rfl, rfl, (by simp only [List.length_append, List.length_cons, List.length_nil]; omega), ?_⟩
 (conv => whnf)
 rw [show nextP l id = _ from (List.append_assoc _ _ _).symm]
 exact rx [] [.same 2]
set_option maxHeartbeats 1000000 in
theorem nextR_spec (l : List Ob) (hl : PoolOk l) (id : Int) : Does Tryz.prog 104 [.c (.bp [.bs 6 Ob encOb l]), .c (.int .i64 id)] [] (Rt (.c (.rw 0)) [.row 1 Int encI (nextP l id)]) := by
 refine X_spM (n := 50) (n0 := 0) tabOk Tryz.call104 Tryz.func104 ?_
 intro hb
 have hk : (getP l id).entries.length ≤ 60 ∧ (getP l id).parents.length ≤ 3 := by
  by_cases h0 : kindOf l id = 0
  ·rw [hl.kind0 h0]; simp [ob0]
  ·exact ⟨(hl.get h0).entries, (hl.get h0).parents⟩
 refine XM.seq ?_
 repeat' ((conv => whnf); refine I6 ?_)
 refine XM.seq ?_
 repeat' ((conv => whnf); refine I6 ?_)
 (conv => whnf)
 refine cl [] [] (getR_spec l hl id) ?_
 repeat' ((conv => whnf); refine I6 ?_)
 refine XM.seq ?_
 repeat' ((conv => whnf); refine I6 ?_)
 refine XM.join (ι := Unit) (fun _ => ⟨[(5, .c (.ptr 0 0)), (7, .c (.rw 1))], [.box (encOb (getP l id)), .row 1 Int encI (((getP l id).entries.filter fun e => decide (e.mode ≠ 3)).map (·.id))]⟩) (fun _ => True) ?_ (fun _ _ => ?_)
 ·(conv => whnf)
  refine lp Nat (fun i => ⟨[(5, .c (.ptr 0 0)), (7, .c (.rw 1)), (8, .c (.int .i64 i))],
   [.box (encOb (getP l id)), .row 1 Int encI ((((getP l id).entries.take i).filter fun e => decide (e.mode ≠ 3)).map (·.id))]⟩) (fun i => i ≤ (getP l id).entries.length ∧ True) (fun i => (getP l id).entries.length - i) 0 [] [.same 0, .new] ?_ ?_ (fun i hi => ?_)
  ·exact ⟨Nat.zero_le _, trivial⟩
  ·repeat' first | exact trivial | exact rfl | refine And.intro ?_ ?_
  (conv => whnf)
  refine dec (fun h4 => ?_) (fun h4 => ?_)
  ·have hlt : i < (getP l id).entries.length := by omega
   have hs := filt_step hlt
   have hle := filt_len (i := i) hk.1
   repeat' ((conv => whnf); first | (refine dec (fun h => ?_) (fun h => ?_) <;> try contradiction) | (refine decN (fun h => ?_) (fun h => ?_) <;> try contradiction) | refine booN (fun h => ?_) (fun h => ?_) | refine boo (fun h => ?_) (fun h => ?_) | refine ⟨i64 (by omega) (by omega), ?_⟩ | refine ⟨_, _, rfl, List.getElem?_eq_getElem (by omega), ?_⟩ | refine ⟨_, ⟨rfl, by omega⟩, ?_⟩ | refine ⟨_, List.getElem?_eq_getElem (by omega), ?_⟩ | refine rtB ?_ | refine rtI ?_ | refine rtC ?_ rfl | fail)
   ·rw [if_neg h] at hs
    (conv => whnf)
    refine ⟨[(getP l id).entries[i].id], rfl, ?_⟩
    (conv => whnf)
    refine ⟨_, _, rfl, rfl, (by simp only [List.length_append, List.length_cons, List.length_nil]; omega), ?_⟩
    repeat' ((conv => whnf); first | (refine dec (fun h => ?_) (fun h => ?_) <;> try contradiction) | (refine decN (fun h => ?_) (fun h => ?_) <;> try contradiction) | refine booN (fun h => ?_) (fun h => ?_) | refine boo (fun h => ?_) (fun h => ?_) | refine ⟨i64 (by omega) (by omega), ?_⟩ | refine ⟨_, _, rfl, List.getElem?_eq_getElem (by omega), ?_⟩ | refine ⟨_, ⟨rfl, by omega⟩, ?_⟩ | refine ⟨_, List.getElem?_eq_getElem (by omega), ?_⟩ | refine rtB ?_ | refine rtI ?_ | refine rtC ?_ rfl | fail)
    refine ag (i + 1) [] [.same 0, .same 3] ⟨hlt, trivial⟩ (by simp only []; omega) ?_
    repeat' first | exact trivial | exact rfl | refine And.intro ?_ ?_
    rw [hs]; exact rfl
   ·rw [if_pos h, List.append_nil] at hs
    refine ag (i + 1) [] [.same 0, .same 1] ⟨hlt, trivial⟩ (by simp only []; omega) ?_
    repeat' first | exact trivial | exact rfl | refine And.intro ?_ ?_
    rw [hs]; exact rfl
  ·have : (getP l id).entries.take i = (getP l id).entries := List.take_of_length_le (by omega)
   rw [this]
   (conv => whnf)
   refine ⟨(), trivial, [], [.same 0, .same 1], ?_⟩
   repeat' first | exact trivial | exact rfl | refine And.intro ?_ ?_
 have hle := filt_len (i := (getP l id).entries.length) hk.1
 rw [List.take_length] at hle
 have hp := hk.2
 refine XM.of ?_
 repeat' ((conv => whnf); first | (refine dec (fun h => ?_) (fun h => ?_) <;> try contradiction) | (refine decN (fun h => ?_) (fun h => ?_) <;> try contradiction) | refine booN (fun h => ?_) (fun h => ?_) | refine boo (fun h => ?_) (fun h => ?_) | refine ⟨i64 (by omega) (by omega), ?_⟩ | refine ⟨_, _, rfl, List.getElem?_eq_getElem (by omega), ?_⟩ | refine ⟨_, ⟨rfl, by omega⟩, ?_⟩ | refine ⟨_, List.getElem?_eq_getElem (by omega), ?_⟩ | refine rtB ?_ | refine rtI ?_ | refine rtC ?_ rfl | fail)
 ·(conv => whnf)
  refine ⟨true, .any, (.alt [0, 1, 5] [2, 6] fun j => bif Nat.beq j 2 then (.alt [] [3, 6] fun j => bif Nat.beq j 3 then (.alt [] [4, 6] fun j => bif Nat.beq j 4 then (.l [6, 7, 8]) else bif Nat.beq j 6 then (.l [4, 7, 8]) else .l []) else bif Nat.beq j 6 then (.l [3, 4, 7, 8]) else .l []) else bif Nat.beq j 6 then (.l [2, 3, 4, 7, 8]) else .l []), by kernel_rfl, .inl ?_⟩
  rw [show nextP l id = _ from (List.append_assoc _ _ _).symm, if_pos ‹(getP l id).kind = 3›]
  repeat' ((conv => whnf); first | refine And.intro ?_ ?_ | refine ⟨[_], rfl, ?_⟩ | refine ⟨_, _, rfl, rfl, (by simp only [List.length_append, List.length_cons, List.length_nil]; omega), ?_⟩ | fail)
  all_goals
   exact rx [] [.same 4]
 ·rename_i hk3
  have hnc : (getP l id).parents = [] := by
   by_cases h0 : kindOf l id = 0
   ·rw [hl.kind0 h0]; rfl
   ·exact ((hl.get h0).nc (by assumption)).2.1
  rw [show nextP l id = ((getP l id).entries.filter fun e => decide (e.mode ≠ 3)).map (·.id) by unfold nextP; rw [hnc, if_neg (by assumption), List.append_nil, List.append_nil]]
  (conv => whnf)
  exact rx [] [.same 1]
end Go.Nest
end
/- part -/
section

namespace Go.Nest
open Go Go.AM Go.Proofs
open Go.Proofs.YtpmjnbidmcnhnaaGreatDoor (tab tabOk)
set_option maxRecDepth 4000
theorem putF_spec (x o : Ob) : Does Tryz.prog 94 [.st (bOb x), .c (.bp (bOb o))] [] (Rt (.c (.bool (decide (x = o)))) []) := by
 refine X_spec (n := 7) (n0 := 0) tabOk Tryz.call94 Tryz.func94 ?_
 intro hb
 (conv => whnf)
 refine cl [] [] (same_spec x o) ?_
 repeat' ((conv => whnf); first | (refine dec (fun h => ?_) (fun h => ?_) <;> try contradiction) | (refine decN (fun h => ?_) (fun h => ?_) <;> try contradiction) | refine booN (fun h => ?_) (fun h => ?_) | refine boo (fun h => ?_) (fun h => ?_) | refine ⟨i64 (by omega) (by omega), ?_⟩ | refine ⟨_, _, rfl, List.getElem?_eq_getElem (by omega), ?_⟩ | refine ⟨_, ⟨rfl, by omega⟩, ?_⟩ | refine ⟨_, List.getElem?_eq_getElem (by omega), ?_⟩ | refine rtB ?_ | refine rtI ?_ | refine rtC ?_ rfl | fail)
 rfl
theorem indexObs_spec (l : List Ob) (o : Ob) : Does Tryz.prog 93 [.c (.bs 6 Ob encOb l), .c (.fn 94 [.bp (bOb o)])] [] (Rt (.c (.int .i64 (idxF (fun x => decide (x = o)) l))) []) := by
 refine X_spec (n := 19) (n0 := 0) tabOk Tryz.call93 Tryz.func93 ?_
 intro hb; have hb : l.length ≤ 9223372036854775807 := hb.1.1
 (conv => whnf)
 refine lp Nat (fun i => ⟨[(0, .c (.bs 6 Ob encOb l)), (1, .c (.fn 94 [.bp (bOb o)])), (7, .c (.int .i64 l.length)), (8, .c (.int .i64 i))], []⟩) (fun i => i ≤ l.length ∧ (l.take i).any (fun x => decide (x = o)) = false) (fun i => l.length - i) 0 [] [] ?_ ?_ (fun i hi => ?_)
 ·simp
 ·repeat' first | exact trivial | exact rfl | refine And.intro ?_ ?_
 (conv => whnf)
 refine dec (fun h4 => ?_) (fun h4 => ?_)
 ·have hlt : i < l.length := by omega
  repeat' ((conv => whnf); first | (refine dec (fun h => ?_) (fun h => ?_) <;> try contradiction) | (refine decN (fun h => ?_) (fun h => ?_) <;> try contradiction) | refine booN (fun h => ?_) (fun h => ?_) | refine boo (fun h => ?_) (fun h => ?_) | refine ⟨i64 (by omega) (by omega), ?_⟩ | refine ⟨_, _, rfl, List.getElem?_eq_getElem (by omega), ?_⟩ | refine ⟨_, ⟨rfl, by omega⟩, ?_⟩ | refine ⟨_, List.getElem?_eq_getElem (by omega), ?_⟩ | refine rtB ?_ | refine rtI ?_ | refine rtC ?_ rfl | fail)
  (conv => whnf)
  refine cl [] [] (putF_spec l[i] o) ?_
  repeat' ((conv => whnf); first | (refine dec (fun h => ?_) (fun h => ?_) <;> try contradiction) | (refine decN (fun h => ?_) (fun h => ?_) <;> try contradiction) | refine booN (fun h => ?_) (fun h => ?_) | refine boo (fun h => ?_) (fun h => ?_) | refine ⟨i64 (by omega) (by omega), ?_⟩ | refine ⟨_, _, rfl, List.getElem?_eq_getElem (by omega), ?_⟩ | refine ⟨_, ⟨rfl, by omega⟩, ?_⟩ | refine ⟨_, List.getElem?_eq_getElem (by omega), ?_⟩ | refine rtB ?_ | refine rtI ?_ | refine rtC ?_ rfl | fail)
  ·exact idxF_at hlt hi.2 (by simpa using h)
  ·refine ag (i + 1) [] [] ⟨hlt, any_take hlt hi.2 (by simpa using h)⟩ (by simp only []; omega) ?_
   repeat' first | exact trivial | exact rfl | refine And.intro ?_ ?_
 ·repeat' ((conv => whnf); first | (refine dec (fun h => ?_) (fun h => ?_) <;> try contradiction) | (refine decN (fun h => ?_) (fun h => ?_) <;> try contradiction) | refine booN (fun h => ?_) (fun h => ?_) | refine boo (fun h => ?_) (fun h => ?_) | refine ⟨i64 (by omega) (by omega), ?_⟩ | refine ⟨_, _, rfl, List.getElem?_eq_getElem (by omega), ?_⟩ | refine ⟨_, ⟨rfl, by omega⟩, ?_⟩ | refine ⟨_, List.getElem?_eq_getElem (by omega), ?_⟩ | refine rtB ?_ | refine rtI ?_ | refine rtC ?_ rfl | fail)
  have := hi.2
  rw [List.take_of_length_le (by omega)] at this
  exact idxF_none this
theorem put_spec (l : List Ob) (o : Ob) (hl : l.length ≤ 600) : Does Tryz.prog 52 [.c (.ptr 0 0), .st (bOb o)] [.box [.rw 1], .row 6 Ob encOb l] (Rt (.tup [(false, [.int .i64 (putP l o).1]), (false, [.int .i64 (putP l o).2.1])]) [.box [.rw 2], .dead, .row 6 Ob encOb (putP l o).2.2]) := by
 refine X_spM (n := 49) (n0 := 2) tabOk Tryz.call52 Tryz.func52 ?_
 intro hb
 refine XM.seq ?_
 repeat' ((conv => whnf); refine I6 ?_)
 refine XM.seq ?_
 (conv => whnf)
 refine cl [] [] (check_spec o) ?_
 repeat' ((conv => whnf); first | (refine dec (fun h => ?_) (fun h => ?_) <;> try contradiction) | (refine decN (fun h => ?_) (fun h => ?_) <;> try contradiction) | refine booN (fun h => ?_) (fun h => ?_) | refine boo (fun h => ?_) (fun h => ?_) | refine ⟨i64 (by omega) (by omega), ?_⟩ | refine ⟨_, _, rfl, List.getElem?_eq_getElem (by omega), ?_⟩ | refine ⟨_, ⟨rfl, by omega⟩, ?_⟩ | refine ⟨_, List.getElem?_eq_getElem (by omega), ?_⟩ | refine rtB ?_ | refine rtI ?_ | refine rtC ?_ rfl | fail)
 ·have hp : putP l o = (0, objF o, l) := by unfold putP; rw [if_pos h]
  rw [hp]
  (conv => whnf)
  exact rx [] [.same 0, .same 1, .same 1]
 have h1 : objF o = 0 := by simpa using h
 have hk := objF_ok h1
 refine XM.seq ?_
 repeat' ((conv => whnf); refine I6 ?_)
 (conv => whnf)
 refine cl [] [] (leads_spec l o hk.modes) ?_
 repeat' ((conv => whnf); first | (refine dec (fun h => ?_) (fun h => ?_) <;> try contradiction) | (refine decN (fun h => ?_) (fun h => ?_) <;> try contradiction) | refine booN (fun h => ?_) (fun h => ?_) | refine boo (fun h => ?_) (fun h => ?_) | refine ⟨i64 (by omega) (by omega), ?_⟩ | refine ⟨_, _, rfl, List.getElem?_eq_getElem (by omega), ?_⟩ | refine ⟨_, ⟨rfl, by omega⟩, ?_⟩ | refine ⟨_, List.getElem?_eq_getElem (by omega), ?_⟩ | refine rtB ?_ | refine rtI ?_ | refine rtC ?_ rfl | fail)
 ·have hp : putP l o = (0, 14, l) := by unfold putP; rw [if_neg (by simpa using h1), if_pos h]
  rw [hp]
  (conv => whnf)
  exact rx [] [.same 0, .same 1, .same 1]
 have h2 := h
 refine XM.seq ?_
 repeat' ((conv => whnf); refine I6 ?_)
 (conv => whnf)
 refine cl [] [] (indexObs_spec l o) ?_
 repeat' ((conv => whnf); first | (refine dec (fun h => ?_) (fun h => ?_) <;> try contradiction) | (refine decN (fun h => ?_) (fun h => ?_) <;> try contradiction) | refine booN (fun h => ?_) (fun h => ?_) | refine boo (fun h => ?_) (fun h => ?_) | refine ⟨i64 (by omega) (by omega), ?_⟩ | refine ⟨_, _, rfl, List.getElem?_eq_getElem (by omega), ?_⟩ | refine ⟨_, ⟨rfl, by omega⟩, ?_⟩ | refine ⟨_, List.getElem?_eq_getElem (by omega), ?_⟩ | refine rtB ?_ | refine rtI ?_ | refine rtC ?_ rfl | fail)
 ·have h3 := h
  have hp : putP l o = (idxF (fun x => decide (x = o)) l, 0, l) := by unfold putP; rw [if_neg (by simpa using h1), if_neg (by simp [h2]), if_pos h3]
  rw [hp]
  (conv => whnf)
  exact rx [] [.same 0, .same 1, .same 1]
 have h3 := h
 refine XM.seq ?_
 repeat' ((conv => whnf); first | (refine dec (fun h => ?_) (fun h => ?_) <;> try contradiction) | (refine decN (fun h => ?_) (fun h => ?_) <;> try contradiction) | refine booN (fun h => ?_) (fun h => ?_) | refine boo (fun h => ?_) (fun h => ?_) | refine ⟨i64 (by omega) (by omega), ?_⟩ | refine ⟨_, _, rfl, List.getElem?_eq_getElem (by omega), ?_⟩ | refine ⟨_, ⟨rfl, by omega⟩, ?_⟩ | refine ⟨_, List.getElem?_eq_getElem (by omega), ?_⟩ | refine rtB ?_ | refine rtI ?_ | refine rtC ?_ rfl | fail)
 ·have h4 := h
  have hp : putP l o = (0, 15, l) := by unfold putP; rw [if_neg (by simpa using h1), if_neg (by simp [h2]), if_neg h3, if_pos (by omega)]
  rw [hp]
  (conv => whnf)
  exact rx [] [.same 0, .same 1, .same 1]
 have h4 := h
 have hp : putP l o = (((l ++ [o]).length : Int) - 1, 0, l ++ [o]) := by unfold putP; rw [if_neg (by simpa using h1), if_neg (by simp [h2]), if_neg h3, if_neg (by omega)]; simp
 rw [hp]
 refine XM.of ?_
 (conv => whnf)
 refine ⟨false, .grow, (.l [0, 1, 2, 3, 4, 5, 6, 7, 8, 9, 10, 11]), by kernel_rfl, .inl ?_⟩
 repeat' ((conv => whnf); refine I6 ?_)
 (conv => whnf)
 refine cl [] [] (own_spec o (by have := hk.bytes; omega) (by have := hk.entries; omega) (by have := hk.parents; omega)) ?_
 (conv => whnf)
 refine ⟨[o], rfl, ?_⟩
 (conv => whnf)
 refine ⟨_, _, rfl, rfl, (by simp only [List.length_append, List.length_cons, List.length_nil]; omega), ?_⟩
 have hs : (l ++ [o]).length ≤ 600 := by rw [List.length_append, List.length_singleton]; omega
 repeat' ((conv => whnf); refine I6 ?_)
 (conv => whnf)
 exact rx [] [.same 0, .same 1, .same 4]
set_option maxHeartbeats 1000000 in
theorem putR_spec (l : List Ob) (o : Ob) (hl : l.length ≤ 600) : Does Tryz.prog 53 [.c (.ptr 0 0), .st (bOb o)] [.box [.rw 1], .row 6 Ob encOb l] (Rt (.tup [(false, [.int .i64 (putP l o).1]), (false, [.int .i64 (putP l o).2.1])]) [.box [.rw 2], .dead, .row 6 Ob encOb (putP l o).2.2]) := by
 refine X_spM (n := 104) (n0 := 2) tabOk Tryz.call53 Tryz.func53 ?_
 intro hb
 refine XM.seq ?_
 repeat' ((conv => whnf); refine I6 ?_)
 refine XM.seq ?_
 (conv => whnf)
 refine cl [] [] (objectFault_spec o) ?_
 repeat' ((conv => whnf); first | (refine dec (fun h => ?_) (fun h => ?_) <;> try contradiction) | (refine decN (fun h => ?_) (fun h => ?_) <;> try contradiction) | refine booN (fun h => ?_) (fun h => ?_) | refine boo (fun h => ?_) (fun h => ?_) | refine ⟨i64 (by omega) (by omega), ?_⟩ | refine ⟨_, _, rfl, List.getElem?_eq_getElem (by omega), ?_⟩ | refine ⟨_, ⟨rfl, by omega⟩, ?_⟩ | refine ⟨_, List.getElem?_eq_getElem (by omega), ?_⟩ | refine rtB ?_ | refine rtI ?_ | refine rtC ?_ rfl | fail)
 ·have hp : putP l o = (0, objF o, l) := by unfold putP; rw [if_pos h]
  rw [hp]
  (conv => whnf)
  exact rx [] [.same 0, .same 1, .same 1]
 have h1 : objF o = 0 := by simpa using h
 have hk := objF_ok h1
 have g1 := hk.entries
 have g2 := hk.parents
 have lost : leadsP l o = false → putP l o = (0, 14, l) := fun h2 => by unfold putP; rw [if_neg (by simpa using h1), if_pos h2]
 refine XM.join (ι := Unit) (fun _ => ⟨[(0, .c (.ptr 0 0)), (3, .c (.ptr 2 0))], [.box [.rw 1], .row 6 Ob encOb l, .box (bOb o)]⟩) (fun _ => (o.entries.all fun e => decide (kindOf l e.id = e.mode)) = true) ?_ (fun _ q1 => ?_)
 ·(conv => whnf)
  refine lp Nat (fun i => ⟨[(0, .c (.ptr 0 0)), (3, .c (.ptr 2 0)), (7, .c (.int .i64 i))], [.box [.rw 1], .row 6 Ob encOb l, .box (bOb o)]⟩) (fun i => i ≤ o.entries.length ∧ (o.entries.take i).all (fun e => decide (kindOf l e.id = e.mode)) = true) (fun i => o.entries.length - i) 0 [] [.same 0, .same 1, .same 2] ?_ ?_ (fun i hi => ?_)
  ·simp
  ·repeat' first | exact trivial | exact rfl | refine And.intro ?_ ?_
  (conv => whnf)
  refine dec (fun h4 => ?_) (fun h4 => ?_)
  ·have hlt : i < o.entries.length := by omega
   (conv => whnf)
   refine ⟨false, .grow, (.l [0, 1, 2, 3, 4, 5, 6, 8, 9, 10, 11, 12, 13, 7, 14]), by kernel_rfl, .inl ?_⟩
   repeat' ((conv => whnf); first | (refine dec (fun h => ?_) (fun h => ?_) <;> try contradiction) | (refine decN (fun h => ?_) (fun h => ?_) <;> try contradiction) | refine booN (fun h => ?_) (fun h => ?_) | refine boo (fun h => ?_) (fun h => ?_) | refine ⟨i64 (by omega) (by omega), ?_⟩ | refine ⟨_, _, rfl, List.getElem?_eq_getElem (by omega), ?_⟩ | refine ⟨_, ⟨rfl, by omega⟩, ?_⟩ | refine ⟨_, List.getElem?_eq_getElem (by omega), ?_⟩ | refine rtB ?_ | refine rtI ?_ | refine rtC ?_ rfl | fail)
   (conv => whnf)
   refine cl [] [] (kindR_spec l o.entries[i].id) ?_
   repeat' ((conv => whnf); first | (refine dec (fun h => ?_) (fun h => ?_) <;> try contradiction) | (refine decN (fun h => ?_) (fun h => ?_) <;> try contradiction) | refine booN (fun h => ?_) (fun h => ?_) | refine boo (fun h => ?_) (fun h => ?_) | refine ⟨i64 (by omega) (by omega), ?_⟩ | refine ⟨_, _, rfl, List.getElem?_eq_getElem (by omega), ?_⟩ | refine ⟨_, ⟨rfl, by omega⟩, ?_⟩ | refine ⟨_, List.getElem?_eq_getElem (by omega), ?_⟩ | refine rtB ?_ | refine rtI ?_ | refine rtC ?_ rfl | fail)
   ·rw [lost (by unfold leadsP; rw [all_not (l := o.entries) hlt (by simpa using h)]; simp)]
    (conv => whnf)
    exact rx [] [.same 0, .same 1, .same 1]
   ·refine ag (i + 1) [] [.same 0, .same 1, .same 2] ⟨hlt, all_take hlt hi.2 (by simpa using h)⟩ (by simp only []; omega) ?_
    repeat' first | exact trivial | exact rfl | refine And.intro ?_ ?_
  ·have := hi.2
   rw [List.take_of_length_le (by omega)] at this
   (conv => whnf)
   refine ⟨(), this, [], [.same 0, .same 1, .same 2], ?_⟩
   repeat' first | exact trivial | exact rfl | refine And.intro ?_ ?_
 refine XM.join (ι := Unit) (fun _ => ⟨[(0, .c (.ptr 0 0)), (3, .c (.ptr 2 0))], [.box [.rw 1], .row 6 Ob encOb l, .box (bOb o)]⟩) (fun _ => (o.parents.all fun k => decide (kindOf l k = 3)) = true) ?_ (fun _ q2 => ?_)
 ·(conv => whnf)
  refine lp Nat (fun i => ⟨[(0, .c (.ptr 0 0)), (3, .c (.ptr 2 0)), (8, .c (.int .i64 i))], [.box [.rw 1], .row 6 Ob encOb l, .box (bOb o)]⟩) (fun i => i ≤ o.parents.length ∧ (o.parents.take i).all (fun k => decide (kindOf l k = 3)) = true) (fun i => o.parents.length - i) 0 [] [.same 0, .same 1, .same 2] ?_ ?_ (fun i hi => ?_)
  ·simp
  ·repeat' first | exact trivial | exact rfl | refine And.intro ?_ ?_
  (conv => whnf)
  refine dec (fun h4 => ?_) (fun h4 => ?_)
  ·have hlt : i < o.parents.length := by omega
   repeat' ((conv => whnf); first | (refine dec (fun h => ?_) (fun h => ?_) <;> try contradiction) | (refine decN (fun h => ?_) (fun h => ?_) <;> try contradiction) | refine booN (fun h => ?_) (fun h => ?_) | refine boo (fun h => ?_) (fun h => ?_) | refine ⟨i64 (by omega) (by omega), ?_⟩ | refine ⟨_, _, rfl, List.getElem?_eq_getElem (by omega), ?_⟩ | refine ⟨_, ⟨rfl, by omega⟩, ?_⟩ | refine ⟨_, List.getElem?_eq_getElem (by omega), ?_⟩ | refine rtB ?_ | refine rtI ?_ | refine rtC ?_ rfl | fail)
   (conv => whnf)
   refine cl [] [] (kindR_spec l o.parents[i]) ?_
   repeat' ((conv => whnf); first | (refine dec (fun h => ?_) (fun h => ?_) <;> try contradiction) | (refine decN (fun h => ?_) (fun h => ?_) <;> try contradiction) | refine booN (fun h => ?_) (fun h => ?_) | refine boo (fun h => ?_) (fun h => ?_) | refine ⟨i64 (by omega) (by omega), ?_⟩ | refine ⟨_, _, rfl, List.getElem?_eq_getElem (by omega), ?_⟩ | refine ⟨_, ⟨rfl, by omega⟩, ?_⟩ | refine ⟨_, List.getElem?_eq_getElem (by omega), ?_⟩ | refine rtB ?_ | refine rtI ?_ | refine rtC ?_ rfl | fail)
   ·rw [lost (by unfold leadsP; rw [all_not (l := o.parents) hlt (by simpa using h)]; simp)]
    (conv => whnf)
    exact rx [] [.same 0, .same 1, .same 1]
   ·refine ag (i + 1) [] [.same 0, .same 1, .same 2] ⟨hlt, all_take hlt hi.2 (by simpa using h)⟩ (by simp only []; omega) ?_
    repeat' first | exact trivial | exact rfl | refine And.intro ?_ ?_
  ·have := hi.2
   rw [List.take_of_length_le (by omega)] at this
   (conv => whnf)
   refine ⟨(), this, [], [.same 0, .same 1, .same 2], ?_⟩
   repeat' first | exact trivial | exact rfl | refine And.intro ?_ ?_
 have hle : leadsP l o = (!decide (o.kind = 3) || decide (kindOf l o.tree = 2)) := by unfold leadsP; rw [q1, q2]; rfl
 refine XM.join (ι := Unit) (fun _ => ⟨[(0, .c (.ptr 0 0)), (3, .c (.ptr 2 0))], [.box [.rw 1], .row 6 Ob encOb l, .box (bOb o)]⟩) (fun _ => leadsP l o = true) ?_ (fun _ q3 => ?_)
 ·repeat' ((conv => whnf); first | (refine dec (fun h => ?_) (fun h => ?_) <;> try contradiction) | (refine decN (fun h => ?_) (fun h => ?_) <;> try contradiction) | refine booN (fun h => ?_) (fun h => ?_) | refine boo (fun h => ?_) (fun h => ?_) | refine ⟨i64 (by omega) (by omega), ?_⟩ | refine ⟨_, _, rfl, List.getElem?_eq_getElem (by omega), ?_⟩ | refine ⟨_, ⟨rfl, by omega⟩, ?_⟩ | refine ⟨_, List.getElem?_eq_getElem (by omega), ?_⟩ | refine rtB ?_ | refine rtI ?_ | refine rtC ?_ rfl | fail)
  ·(conv => whnf)
   refine cl [] [] (kindR_spec l o.tree) ?_
   repeat' ((conv => whnf); first | (refine dec (fun h => ?_) (fun h => ?_) <;> try contradiction) | (refine decN (fun h => ?_) (fun h => ?_) <;> try contradiction) | refine booN (fun h => ?_) (fun h => ?_) | refine boo (fun h => ?_) (fun h => ?_) | refine ⟨i64 (by omega) (by omega), ?_⟩ | refine ⟨_, _, rfl, List.getElem?_eq_getElem (by omega), ?_⟩ | refine ⟨_, ⟨rfl, by omega⟩, ?_⟩ | refine ⟨_, List.getElem?_eq_getElem (by omega), ?_⟩ | refine rtB ?_ | refine rtI ?_ | refine rtC ?_ rfl | fail)
   ·rw [lost (by rw [hle]; simp [*])]
    (conv => whnf)
    exact rx [] [.same 0, .same 1, .same 1]
   ·refine ⟨(), by rw [hle]; simp [*], [], [.same 0, .same 1, .same 2], ?_⟩
    repeat' first | exact trivial | exact rfl | refine And.intro ?_ ?_
  ·refine ⟨(), by rw [hle]; simp [*], [], [.same 0, .same 1, .same 2], ?_⟩
   repeat' first | exact trivial | exact rfl | refine And.intro ?_ ?_
 refine XM.join (ι := Unit) (fun _ => ⟨[(0, .c (.ptr 0 0)), (3, .c (.ptr 2 0))], [.box [.rw 1], .row 6 Ob encOb l, .box (bOb o)]⟩) (fun _ => l.any (fun x => decide (x = o)) = false) ?_ (fun _ q4 => ?_)
 ·(conv => whnf)
  refine lp Nat (fun i => ⟨[(0, .c (.ptr 0 0)), (3, .c (.ptr 2 0)), (9, .c (.int .i64 i))], [.box [.rw 1], .row 6 Ob encOb l, .box (bOb o)]⟩) (fun i => i ≤ l.length ∧ (l.take i).any (fun x => decide (x = o)) = false) (fun i => l.length - i) 0 [] [.same 0, .same 1, .same 2] ?_ ?_ (fun i hi => ?_)
  ·simp
  ·repeat' first | exact trivial | exact rfl | refine And.intro ?_ ?_
  (conv => whnf)
  refine dec (fun h4 => ?_) (fun h4 => ?_)
  ·have hlt : i < l.length := by omega
   (conv => whnf)
   refine ⟨false, .grow, (.l [0, 1, 2, 3, 4, 5, 6, 7, 8]), by kernel_rfl, .inl ?_⟩
   repeat' ((conv => whnf); first | (refine dec (fun h => ?_) (fun h => ?_) <;> try contradiction) | (refine decN (fun h => ?_) (fun h => ?_) <;> try contradiction) | refine booN (fun h => ?_) (fun h => ?_) | refine boo (fun h => ?_) (fun h => ?_) | refine ⟨i64 (by omega) (by omega), ?_⟩ | refine ⟨_, _, rfl, List.getElem?_eq_getElem (by omega), ?_⟩ | refine ⟨_, ⟨rfl, by omega⟩, ?_⟩ | refine ⟨_, List.getElem?_eq_getElem (by omega), ?_⟩ | refine rtB ?_ | refine rtI ?_ | refine rtC ?_ rfl | fail)
   (conv => whnf)
   refine cl [] [] (sameObject_spec l[i] o) ?_
   repeat' ((conv => whnf); first | (refine dec (fun h => ?_) (fun h => ?_) <;> try contradiction) | (refine decN (fun h => ?_) (fun h => ?_) <;> try contradiction) | refine booN (fun h => ?_) (fun h => ?_) | refine boo (fun h => ?_) (fun h => ?_) | refine ⟨i64 (by omega) (by omega), ?_⟩ | refine ⟨_, _, rfl, List.getElem?_eq_getElem (by omega), ?_⟩ | refine ⟨_, ⟨rfl, by omega⟩, ?_⟩ | refine ⟨_, List.getElem?_eq_getElem (by omega), ?_⟩ | refine rtB ?_ | refine rtI ?_ | refine rtC ?_ rfl | fail)
   ·have h3 := idxF_at (p := fun x => decide (x = o)) hlt hi.2 (by simpa using h)
    have hp : putP l o = ((i : Int), 0, l) := by unfold putP; rw [if_neg (by simpa using h1), if_neg (by simp [q3]), if_pos (by omega), ← h3]
    rw [hp]
    (conv => whnf)
    exact rx [] [.same 0, .same 1, .same 1]
   ·refine ag (i + 1) [] [.same 0, .same 1, .same 2] ⟨hlt, any_take hlt hi.2 (by simpa using h)⟩ (by simp only []; omega) ?_
    repeat' first | exact trivial | exact rfl | refine And.intro ?_ ?_
  ·have := hi.2
   rw [List.take_of_length_le (by omega)] at this
   (conv => whnf)
   refine ⟨(), this, [], [.same 0, .same 1, .same 2], ?_⟩
   repeat' first | exact trivial | exact rfl | refine And.intro ?_ ?_
 have h3 : ¬ 0 ≤ idxF (fun x => decide (x = o)) l := by
  rw [← idxF_any] at q4; simpa using q4
 refine XM.seq ?_
 repeat' ((conv => whnf); first | (refine dec (fun h => ?_) (fun h => ?_) <;> try contradiction) | (refine decN (fun h => ?_) (fun h => ?_) <;> try contradiction) | refine booN (fun h => ?_) (fun h => ?_) | refine boo (fun h => ?_) (fun h => ?_) | refine ⟨i64 (by omega) (by omega), ?_⟩ | refine ⟨_, _, rfl, List.getElem?_eq_getElem (by omega), ?_⟩ | refine ⟨_, ⟨rfl, by omega⟩, ?_⟩ | refine ⟨_, List.getElem?_eq_getElem (by omega), ?_⟩ | refine rtB ?_ | refine rtI ?_ | refine rtC ?_ rfl | fail)
 ·have hp : putP l o = (0, 15, l) := by unfold putP; rw [if_neg (by simpa using h1), if_neg (by simp [q3]), if_neg h3, if_pos (by omega)]
  rw [hp]
  (conv => whnf)
  exact rx [] [.same 0, .same 1, .same 1]
 have hp : putP l o = (((l ++ [o]).length : Int) - 1, 0, l ++ [o]) := by unfold putP; rw [if_neg (by simpa using h1), if_neg (by simp [q3]), if_neg h3, if_neg (by omega)]; simp
 rw [hp]
 refine XM.of ?_
 (conv => whnf)
 refine ⟨false, .grow, (.l [0, 1, 2, 3, 4, 5, 6, 7, 8, 9, 10, 11]), by kernel_rfl, .inl ?_⟩
 repeat' ((conv => whnf); refine I6 ?_)
 (conv => whnf)
 refine cl [] [] (ownObject_spec o (by have := hk.bytes; omega) (by have := hk.entries; omega) (by have := hk.parents; omega)) ?_
 (conv => whnf)
 refine ⟨[o], rfl, ?_⟩
 (conv => whnf)
 refine ⟨_, _, rfl, rfl, (by simp only [List.length_append, List.length_cons, List.length_nil]; omega), ?_⟩
 have hs : (l ++ [o]).length ≤ 600 := by rw [List.length_append, List.length_singleton]; omega
 repeat' ((conv => whnf); refine I6 ?_)
 (conv => whnf)
 exact rx [] [.same 0, .same 1, .same 4]
end Go.Nest
end
