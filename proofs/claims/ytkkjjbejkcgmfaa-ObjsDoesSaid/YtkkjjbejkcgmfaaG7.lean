/- WALKS, 7: pools, looked at. -/
import Derived.Test.YtkkjjbejkcgmfaaG6
import Derived.Test.YtkkjjbejkcgmfaaG5
namespace Go.Nest
open Go Go.AM Go.Proofs
open Go.Proofs.Ytkkjjbejkcgmfaa (tab tabOk)
set_option linter.unusedVariables false
set_option linter.unusedSimpArgs false
set_option maxRecDepth 4000

def ob0 : Ob := ⟨0, [], [], 0, [], []⟩
/-- of which kind the object of a number is -/
def kindOf (l : List Ob) (id : Int) : Int := if id < 0 then 0 else ((l[id.toNat]?).map (·.kind)).getD 0
theorem kindOf_neg {l : List Ob} {id : Int} (h : id < 0) : (0 : Int) = kindOf l id := by simp [kindOf, h]
theorem kindOf_ge {l : List Ob} {id : Int} (h : (l.length : Int) ≤ id) : (0 : Int) = kindOf l id := by
  unfold kindOf; split
  · rfl
  · rw [List.getElem?_eq_none (by omega)]; rfl
theorem kindOf_at {l : List Ob} {id : Int} (h : ¬ id < 0) (h2 : id.toNat < l.length) : l[id.toNat].kind = kindOf l id := by
  unfold kindOf; rw [if_neg h, List.getElem?_eq_getElem h2]; rfl

theorem kind_spec (l : List Ob) (id : Int) : Does Try.prog 65 [.c (.bp [.bs 6 Ob encOb l]), .c (.int .i64 id)] [] (Rt (.c (.int .i64 (kindOf l id))) []) := by
  refine X_spec ⟨Try.prog, tab, 24, 0⟩ tabOk (by kernel_rfl) Try.call65 Try.func65 rfl rfl (by kernel_rfl) rfl ?_
  intro hb
  repeat' ((conv => whnf); first | (refine dec (fun h => ?_) (fun h => ?_) <;> try contradiction) | (refine decN (fun h => ?_) (fun h => ?_) <;> try contradiction) | refine booN (fun h => ?_) (fun h => ?_) | refine boo (fun h => ?_) (fun h => ?_) | refine ⟨i64 (by omega) (by omega), ?_⟩ | refine ⟨_, _, rfl, List.getElem?_eq_getElem (by omega), ?_⟩ | refine ⟨_, ⟨rfl, by omega⟩, ?_⟩ | refine ⟨_, List.getElem?_eq_getElem (by omega), ?_⟩ | refine rtB ?_ | refine rtI ?_ | refine rtC ?_ rfl | fail)
  · exact kindOf_neg h
  · exact kindOf_ge h
  · (conv => whnf)
    have hlt : id.toNat < l.length := by omega
    refine ⟨id.toNat, l[id.toNat], by omega, List.getElem?_eq_getElem hlt, ?_⟩
    repeat' ((conv => whnf); first | (refine dec (fun h => ?_) (fun h => ?_) <;> try contradiction) | (refine decN (fun h => ?_) (fun h => ?_) <;> try contradiction) | refine booN (fun h => ?_) (fun h => ?_) | refine boo (fun h => ?_) (fun h => ?_) | refine ⟨i64 (by omega) (by omega), ?_⟩ | refine ⟨_, _, rfl, List.getElem?_eq_getElem (by omega), ?_⟩ | refine ⟨_, ⟨rfl, by omega⟩, ?_⟩ | refine ⟨_, List.getElem?_eq_getElem (by omega), ?_⟩ | refine rtB ?_ | refine rtI ?_ | refine rtC ?_ rfl | fail)
    exact kindOf_at (by assumption) hlt
theorem kindR_spec (l : List Ob) (id : Int) : Does Try.prog 66 [.c (.bp [.bs 6 Ob encOb l]), .c (.int .i64 id)] [] (Rt (.c (.int .i64 (kindOf l id))) []) := by
  refine X_spec ⟨Try.prog, tab, 24, 0⟩ tabOk (by kernel_rfl) Try.call66 Try.func66 rfl rfl (by kernel_rfl) rfl ?_
  intro hb
  repeat' ((conv => whnf); first | (refine dec (fun h => ?_) (fun h => ?_) <;> try contradiction) | (refine decN (fun h => ?_) (fun h => ?_) <;> try contradiction) | refine booN (fun h => ?_) (fun h => ?_) | refine boo (fun h => ?_) (fun h => ?_) | refine ⟨i64 (by omega) (by omega), ?_⟩ | refine ⟨_, _, rfl, List.getElem?_eq_getElem (by omega), ?_⟩ | refine ⟨_, ⟨rfl, by omega⟩, ?_⟩ | refine ⟨_, List.getElem?_eq_getElem (by omega), ?_⟩ | refine rtB ?_ | refine rtI ?_ | refine rtC ?_ rfl | fail)
  · exact kindOf_neg h
  · exact kindOf_ge h
  · (conv => whnf)
    have hlt : id.toNat < l.length := by omega
    refine ⟨id.toNat, l[id.toNat], by omega, List.getElem?_eq_getElem hlt, ?_⟩
    repeat' ((conv => whnf); first | (refine dec (fun h => ?_) (fun h => ?_) <;> try contradiction) | (refine decN (fun h => ?_) (fun h => ?_) <;> try contradiction) | refine booN (fun h => ?_) (fun h => ?_) | refine boo (fun h => ?_) (fun h => ?_) | refine ⟨i64 (by omega) (by omega), ?_⟩ | refine ⟨_, _, rfl, List.getElem?_eq_getElem (by omega), ?_⟩ | refine ⟨_, ⟨rfl, by omega⟩, ?_⟩ | refine ⟨_, List.getElem?_eq_getElem (by omega), ?_⟩ | refine rtB ?_ | refine rtI ?_ | refine rtC ?_ rfl | fail)
    exact kindOf_at (by assumption) hlt

theorem len_spec (l : List Ob) : Does Try.prog 30 [.c (.bp [.bs 6 Ob encOb l])] [] (Rt (.c (.int .i64 l.length)) []) := by
  refine X_spec ⟨Try.prog, tab, 8, 0⟩ tabOk (by kernel_rfl) Try.call30 Try.func30 rfl rfl (by kernel_rfl) rfl ?_
  intro hb
  repeat' ((conv => whnf); first | (refine dec (fun h => ?_) (fun h => ?_) <;> try contradiction) | (refine decN (fun h => ?_) (fun h => ?_) <;> try contradiction) | refine booN (fun h => ?_) (fun h => ?_) | refine boo (fun h => ?_) (fun h => ?_) | refine ⟨i64 (by omega) (by omega), ?_⟩ | refine ⟨_, _, rfl, List.getElem?_eq_getElem (by omega), ?_⟩ | refine ⟨_, ⟨rfl, by omega⟩, ?_⟩ | refine ⟨_, List.getElem?_eq_getElem (by omega), ?_⟩ | refine rtB ?_ | refine rtI ?_ | refine rtC ?_ rfl | fail)
  rfl

/-- does an object lead to what is there, of the right kinds? -/
def leadsP (l : List Ob) (o : Ob) : Bool := (o.entries.all fun e => decide (kindOf l e.id = e.mode)) && ((o.parents.all fun k => decide (kindOf l k = 3)) && (!decide (o.kind = 3) || decide (kindOf l o.tree = 2)))

theorem all_take {α : Type} {p : α → Bool} {l : List α} {i : Nat} (h : i < l.length) (h1 : (l.take i).all p = true) (h2 : p l[i] = true) : (l.take (i + 1)).all p = true := by
  rw [List.take_succ_eq_append_getElem h, List.all_append, h1]; simp [h2]
theorem all_not {α : Type} {p : α → Bool} {l : List α} {i : Nat} (h : i < l.length) (h2 : ¬ p l[i] = true) : l.all p = false := by
  rw [Bool.eq_false_iff, Ne, List.all_eq_true]; exact fun h3 => h2 (h3 _ (List.getElem_mem h))

theorem tab4 {m : Int} (h : 1 ≤ m ∧ m ≤ 3) : ([0, 1, 2, 3] : List Int)[m.toNat]? = some m := by
  have : m = 1 ∨ m = 2 ∨ m = 3 := by omega
  rcases this with rfl | rfl | rfl <;> rfl
theorem leads_spec (l : List Ob) (o : Ob) (ho : ∀ e ∈ o.entries, 1 ≤ e.mode ∧ e.mode ≤ 3) : Does Try.prog 67 [.c (.bp [.bs 6 Ob encOb l]), .st (bOb o)] [] (Rt (.c (.bool (leadsP l o))) []) := by
  refine X_specM ⟨Try.prog, tab, 49, 0⟩ tabOk (by kernel_rfl) Try.call67 Try.func67 rfl rfl (by kernel_rfl) rfl ?_
  intro hb
  have hb1 : o.entries.length ≤ 9223372036854775807 := hb.1.2.1.2.2.1
  have hb2 : o.parents.length ≤ 9223372036854775807 := hb.1.2.1.2.2.2.2.1
  refine XM.seq ?_
  repeat' ((conv => whnf); first | (refine dec (fun h => ?_) (fun h => ?_) <;> try contradiction) | (refine decN (fun h => ?_) (fun h => ?_) <;> try contradiction) | refine booN (fun h => ?_) (fun h => ?_) | refine boo (fun h => ?_) (fun h => ?_) | refine ⟨i64 (by omega) (by omega), ?_⟩ | refine ⟨_, _, rfl, List.getElem?_eq_getElem (by omega), ?_⟩ | refine ⟨_, ⟨rfl, by omega⟩, ?_⟩ | refine ⟨_, List.getElem?_eq_getElem (by omega), ?_⟩ | refine rtB ?_ | refine rtI ?_ | refine rtC ?_ rfl | fail)
  refine XM.join (ι := Unit) (fun _ => ⟨[(0, .c (.bp [.bs 6 Ob encOb l])), (3, .c (.ptr 0 0))], [.box (bOb o)]⟩) (fun _ => (o.entries.all fun e => decide (kindOf l e.id = e.mode)) = true) ?_ (fun _ h1 => ?_)
  · (conv => whnf)
    refine lp Nat (fun i => ⟨[(0, .c (.bp [.bs 6 Ob encOb l])), (3, .c (.ptr 0 0)), (10, .c (.bs 4 Ent encEn o.entries)), (11, .c (.int .i64 o.entries.length)), (12, .c (.int .i64 i))], [.box (bOb o)]⟩) (fun i => i ≤ o.entries.length ∧ (o.entries.take i).all (fun e => decide (kindOf l e.id = e.mode)) = true) (fun i => o.entries.length - i) 0 [] [.same 0] ?_ ?_ (fun i hi => ?_)
    · simp
    · repeat' first | exact trivial | exact rfl | refine And.intro ?_ ?_
    (conv => whnf)
    refine dec (fun h4 => ?_) (fun h4 => ?_)
    · have hlt : i < o.entries.length := by omega
      have hm := ho _ (List.getElem_mem hlt)
      repeat' ((conv => whnf); first | (refine dec (fun h => ?_) (fun h => ?_) <;> try contradiction) | (refine decN (fun h => ?_) (fun h => ?_) <;> try contradiction) | refine booN (fun h => ?_) (fun h => ?_) | refine boo (fun h => ?_) (fun h => ?_) | refine ⟨i64 (by omega) (by omega), ?_⟩ | refine ⟨_, _, rfl, List.getElem?_eq_getElem (by omega), ?_⟩ | refine ⟨_, ⟨rfl, by omega⟩, ?_⟩ | refine ⟨_, List.getElem?_eq_getElem (by omega), ?_⟩ | refine rtB ?_ | refine rtI ?_ | refine rtC ?_ rfl | fail)
      (conv => whnf)
      refine ⟨false, (.alt [0, 1, 2, 5, 6] [3, 4] fun j => bif Nat.beq j 3 then (.l [4, 7, 8, 9]) else bif Nat.beq j 4 then (.l [7, 8, 3, 9]) else .l []), by kernel_rfl, .inl ?_⟩
      (conv => whnf)
      refine ⟨?_, ?_⟩
      · (conv => whnf)
        refine cl [] [] (kind_spec l o.entries[i].id) (by (repeat' first | exact trivial | exact rfl | refine And.intro ?_ ?_); done) (by first | exact trivial | exact rfl) ?_
        repeat' ((conv => whnf); first | (refine dec (fun h => ?_) (fun h => ?_) <;> try contradiction) | (refine decN (fun h => ?_) (fun h => ?_) <;> try contradiction) | refine booN (fun h => ?_) (fun h => ?_) | refine boo (fun h => ?_) (fun h => ?_) | refine ⟨i64 (by omega) (by omega), ?_⟩ | refine ⟨_, _, rfl, List.getElem?_eq_getElem (by omega), ?_⟩ | refine ⟨_, ⟨rfl, by omega⟩, ?_⟩ | refine ⟨_, List.getElem?_eq_getElem (by omega), ?_⟩ | refine rtB ?_ | refine rtI ?_ | refine rtC ?_ rfl | fail)
        (conv => whnf)
        refine ⟨[0, 1, 2, 3], rfl, ?_⟩
        (conv => whnf)
        refine ⟨o.entries[i].mode.toNat, ⟨by omega, by simp only [List.length_cons, List.length_nil]; omega⟩, ?_⟩
        (conv => whnf)
        refine ⟨_, tab4 hm, ?_⟩
        repeat' ((conv => whnf); first | (refine dec (fun h => ?_) (fun h => ?_) <;> try contradiction) | (refine decN (fun h => ?_) (fun h => ?_) <;> try contradiction) | refine booN (fun h => ?_) (fun h => ?_) | refine boo (fun h => ?_) (fun h => ?_) | refine ⟨i64 (by omega) (by omega), ?_⟩ | refine ⟨_, _, rfl, List.getElem?_eq_getElem (by omega), ?_⟩ | refine ⟨_, ⟨rfl, by omega⟩, ?_⟩ | refine ⟨_, List.getElem?_eq_getElem (by omega), ?_⟩ | refine rtB ?_ | refine rtI ?_ | refine rtC ?_ rfl | fail)
        · unfold leadsP; rw [all_not (l := o.entries) hlt (by simpa using h)]; simp
        · refine ag (i + 1) [] [.same 0] ⟨hlt, all_take hlt hi.2 (by simpa using h)⟩ (by simp only []; omega) ?_
          repeat' first | exact trivial | exact rfl | refine And.intro ?_ ?_
      · (conv => whnf)
        refine ⟨[0, 1, 2, 3], rfl, ?_⟩
        (conv => whnf)
        refine ⟨o.entries[i].mode.toNat, ⟨by omega, by simp only [List.length_cons, List.length_nil]; omega⟩, ?_⟩
        (conv => whnf)
        refine ⟨_, tab4 hm, ?_⟩
        (conv => whnf)
        refine cl [] [] (kind_spec l o.entries[i].id) (by (repeat' first | exact trivial | exact rfl | refine And.intro ?_ ?_); done) (by first | exact trivial | exact rfl) ?_
        repeat' ((conv => whnf); first | (refine dec (fun h => ?_) (fun h => ?_) <;> try contradiction) | (refine decN (fun h => ?_) (fun h => ?_) <;> try contradiction) | refine booN (fun h => ?_) (fun h => ?_) | refine boo (fun h => ?_) (fun h => ?_) | refine ⟨i64 (by omega) (by omega), ?_⟩ | refine ⟨_, _, rfl, List.getElem?_eq_getElem (by omega), ?_⟩ | refine ⟨_, ⟨rfl, by omega⟩, ?_⟩ | refine ⟨_, List.getElem?_eq_getElem (by omega), ?_⟩ | refine rtB ?_ | refine rtI ?_ | refine rtC ?_ rfl | fail)
        · unfold leadsP; rw [all_not (l := o.entries) hlt (by simpa using h)]; simp
        · refine ag (i + 1) [] [.same 0] ⟨hlt, all_take hlt hi.2 (by simpa using h)⟩ (by simp only []; omega) ?_
          repeat' first | exact trivial | exact rfl | refine And.intro ?_ ?_
    · have := hi.2
      rw [List.take_of_length_le (by omega)] at this
      (conv => whnf)
      refine ⟨(), this, [], [.same 0], ?_⟩
      repeat' first | exact trivial | exact rfl | refine And.intro ?_ ?_
  refine XM.join (ι := Unit) (fun _ => ⟨[(0, .c (.bp [.bs 6 Ob encOb l])), (3, .c (.ptr 0 0))], [.box (bOb o)]⟩) (fun _ => (o.parents.all fun k => decide (kindOf l k = 3)) = true) ?_ (fun _ h2 => ?_)
  · (conv => whnf)
    refine lp Nat (fun i => ⟨[(0, .c (.bp [.bs 6 Ob encOb l])), (3, .c (.ptr 0 0)), (28, .c (.bs 1 Int encI o.parents)), (29, .c (.int .i64 o.parents.length)), (30, .c (.int .i64 i))], [.box (bOb o)]⟩) (fun i => i ≤ o.parents.length ∧ (o.parents.take i).all (fun k => decide (kindOf l k = 3)) = true) (fun i => o.parents.length - i) 0 [] [.same 0] ?_ ?_ (fun i hi => ?_)
    · simp
    · repeat' first | exact trivial | exact rfl | refine And.intro ?_ ?_
    (conv => whnf)
    refine dec (fun h4 => ?_) (fun h4 => ?_)
    · have hlt : i < o.parents.length := by omega
      repeat' ((conv => whnf); first | (refine dec (fun h => ?_) (fun h => ?_) <;> try contradiction) | (refine decN (fun h => ?_) (fun h => ?_) <;> try contradiction) | refine booN (fun h => ?_) (fun h => ?_) | refine boo (fun h => ?_) (fun h => ?_) | refine ⟨i64 (by omega) (by omega), ?_⟩ | refine ⟨_, _, rfl, List.getElem?_eq_getElem (by omega), ?_⟩ | refine ⟨_, ⟨rfl, by omega⟩, ?_⟩ | refine ⟨_, List.getElem?_eq_getElem (by omega), ?_⟩ | refine rtB ?_ | refine rtI ?_ | refine rtC ?_ rfl | fail)
      (conv => whnf)
      refine cl [] [] (kind_spec l o.parents[i]) (by (repeat' first | exact trivial | exact rfl | refine And.intro ?_ ?_); done) (by first | exact trivial | exact rfl) ?_
      repeat' ((conv => whnf); first | (refine dec (fun h => ?_) (fun h => ?_) <;> try contradiction) | (refine decN (fun h => ?_) (fun h => ?_) <;> try contradiction) | refine booN (fun h => ?_) (fun h => ?_) | refine boo (fun h => ?_) (fun h => ?_) | refine ⟨i64 (by omega) (by omega), ?_⟩ | refine ⟨_, _, rfl, List.getElem?_eq_getElem (by omega), ?_⟩ | refine ⟨_, ⟨rfl, by omega⟩, ?_⟩ | refine ⟨_, List.getElem?_eq_getElem (by omega), ?_⟩ | refine rtB ?_ | refine rtI ?_ | refine rtC ?_ rfl | fail)
      · unfold leadsP; rw [all_not (l := o.parents) hlt (by simpa using h)]; simp
      · refine ag (i + 1) [] [.same 0] ⟨hlt, all_take hlt hi.2 (by simpa using h)⟩ (by simp only []; omega) ?_
        repeat' first | exact trivial | exact rfl | refine And.intro ?_ ?_
    · have := hi.2
      rw [List.take_of_length_le (by omega)] at this
      (conv => whnf)
      refine ⟨(), this, [], [.same 0], ?_⟩
      repeat' first | exact trivial | exact rfl | refine And.intro ?_ ?_
  refine XM.of ?_
  have hl : leadsP l o = (!decide (o.kind = 3) || decide (kindOf l o.tree = 2)) := by unfold leadsP; rw [h1, h2]; rfl
  rw [hl]
  repeat' ((conv => whnf); first | (refine dec (fun h => ?_) (fun h => ?_) <;> try contradiction) | (refine decN (fun h => ?_) (fun h => ?_) <;> try contradiction) | refine booN (fun h => ?_) (fun h => ?_) | refine boo (fun h => ?_) (fun h => ?_) | refine ⟨i64 (by omega) (by omega), ?_⟩ | refine ⟨_, _, rfl, List.getElem?_eq_getElem (by omega), ?_⟩ | refine ⟨_, ⟨rfl, by omega⟩, ?_⟩ | refine ⟨_, List.getElem?_eq_getElem (by omega), ?_⟩ | refine rtB ?_ | refine rtI ?_ | refine rtC ?_ rfl | fail)
  · simp [h]
  · (conv => whnf)
    refine cl [] [] (kind_spec l o.tree) (by (repeat' first | exact trivial | exact rfl | refine And.intro ?_ ?_); done) (by first | exact trivial | exact rfl) ?_
    repeat' ((conv => whnf); first | (refine dec (fun h => ?_) (fun h => ?_) <;> try contradiction) | (refine decN (fun h => ?_) (fun h => ?_) <;> try contradiction) | refine booN (fun h => ?_) (fun h => ?_) | refine boo (fun h => ?_) (fun h => ?_) | refine ⟨i64 (by omega) (by omega), ?_⟩ | refine ⟨_, _, rfl, List.getElem?_eq_getElem (by omega), ?_⟩ | refine ⟨_, ⟨rfl, by omega⟩, ?_⟩ | refine ⟨_, List.getElem?_eq_getElem (by omega), ?_⟩ | refine rtB ?_ | refine rtI ?_ | refine rtC ?_ rfl | fail)
    simp [h]
end Go.Nest
