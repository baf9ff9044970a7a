/- WALKS, 9: of pools: Put. -/
import Derived.Test.YtogallppofinhaaGreatDoorG8
namespace Go.Nest
open Go Go.AM Go.Proofs
open Go.Proofs.YtogallppofinhaaGreatDoor (tab tabOk)
set_option linter.unusedVariables false
set_option linter.unusedSimpArgs false
set_option maxRecDepth 4000
theorem putF_spec (x o : Ob) : Does Tryz.prog 151 [.st (bOb x), .c (.bp (bOb o))] [] (Rt (.c (.bool (decide (x = o)))) []) := by
  refine X_spec (n := 7) (n0 := 0) tabOk Tryz.call151 Tryz.func151 ?_
  intro hb
  (conv => whnf)
  refine cl [] [] (same_spec x o) ?_
  repeat' ((conv => whnf); first | (refine dec (fun h => ?_) (fun h => ?_) <;> try contradiction) | (refine decN (fun h => ?_) (fun h => ?_) <;> try contradiction) | refine booN (fun h => ?_) (fun h => ?_) | refine boo (fun h => ?_) (fun h => ?_) | refine ⟨i64 (by omega) (by omega), ?_⟩ | refine ⟨_, _, rfl, List.getElem?_eq_getElem (by omega), ?_⟩ | refine ⟨_, ⟨rfl, by omega⟩, ?_⟩ | refine ⟨_, List.getElem?_eq_getElem (by omega), ?_⟩ | refine rtB ?_ | refine rtI ?_ | refine rtC ?_ rfl | fail)
  rfl

theorem indexObs_spec (l : List Ob) (o : Ob) : Does Tryz.prog 150 [.c (.bs 6 Ob encOb l), .c (.fn 151 [.bp (bOb o)])] [] (Rt (.c (.int .i64 (idxF (fun x => decide (x = o)) l))) []) := by
  refine X_spec (n := 19) (n0 := 0) tabOk Tryz.call150 Tryz.func150 ?_
  intro hb; have hb : l.length ≤ 9223372036854775807 := hb.1.1
  (conv => whnf)
  refine lp Nat (fun i => ⟨[(0, .c (.bs 6 Ob encOb l)), (1, .c (.fn 151 [.bp (bOb o)])), (7, .c (.int .i64 l.length)), (8, .c (.int .i64 i))], []⟩) (fun i => i ≤ l.length ∧ (l.take i).any (fun x => decide (x = o)) = false) (fun i => l.length - i) 0 [] [] ?_ ?_ (fun i hi => ?_)
  · simp
  · repeat' first | exact trivial | exact rfl | refine And.intro ?_ ?_
  (conv => whnf)
  refine dec (fun h4 => ?_) (fun h4 => ?_)
  · have hlt : i < l.length := by omega
    repeat' ((conv => whnf); first | (refine dec (fun h => ?_) (fun h => ?_) <;> try contradiction) | (refine decN (fun h => ?_) (fun h => ?_) <;> try contradiction) | refine booN (fun h => ?_) (fun h => ?_) | refine boo (fun h => ?_) (fun h => ?_) | refine ⟨i64 (by omega) (by omega), ?_⟩ | refine ⟨_, _, rfl, List.getElem?_eq_getElem (by omega), ?_⟩ | refine ⟨_, ⟨rfl, by omega⟩, ?_⟩ | refine ⟨_, List.getElem?_eq_getElem (by omega), ?_⟩ | refine rtB ?_ | refine rtI ?_ | refine rtC ?_ rfl | fail)
    (conv => whnf)
    refine cl [] [] (putF_spec l[i] o) ?_
    repeat' ((conv => whnf); first | (refine dec (fun h => ?_) (fun h => ?_) <;> try contradiction) | (refine decN (fun h => ?_) (fun h => ?_) <;> try contradiction) | refine booN (fun h => ?_) (fun h => ?_) | refine boo (fun h => ?_) (fun h => ?_) | refine ⟨i64 (by omega) (by omega), ?_⟩ | refine ⟨_, _, rfl, List.getElem?_eq_getElem (by omega), ?_⟩ | refine ⟨_, ⟨rfl, by omega⟩, ?_⟩ | refine ⟨_, List.getElem?_eq_getElem (by omega), ?_⟩ | refine rtB ?_ | refine rtI ?_ | refine rtC ?_ rfl | fail)
    · exact idxF_at hlt hi.2 (by simpa using h)
    · refine ag (i + 1) [] [] ⟨hlt, any_take hlt hi.2 (by simpa using h)⟩ (by simp only []; omega) ?_
      repeat' first | exact trivial | exact rfl | refine And.intro ?_ ?_
  · repeat' ((conv => whnf); first | (refine dec (fun h => ?_) (fun h => ?_) <;> try contradiction) | (refine decN (fun h => ?_) (fun h => ?_) <;> try contradiction) | refine booN (fun h => ?_) (fun h => ?_) | refine boo (fun h => ?_) (fun h => ?_) | refine ⟨i64 (by omega) (by omega), ?_⟩ | refine ⟨_, _, rfl, List.getElem?_eq_getElem (by omega), ?_⟩ | refine ⟨_, ⟨rfl, by omega⟩, ?_⟩ | refine ⟨_, List.getElem?_eq_getElem (by omega), ?_⟩ | refine rtB ?_ | refine rtI ?_ | refine rtC ?_ rfl | fail)
    have := hi.2
    rw [List.take_of_length_le (by omega)] at this
    exact idxF_none this

theorem put_spec (l : List Ob) (o : Ob) (hl : l.length ≤ 600) : Does Tryz.prog 80 [.c (.ptr 0 0), .st (bOb o)] [.box [.rw 1], .row 6 Ob encOb l] (Rt (.tup [(false, [.int .i64 (putP l o).1]), (false, [.int .i64 (putP l o).2.1])]) [.box [.rw 2], .dead, .row 6 Ob encOb (putP l o).2.2]) := by
  refine X_spM (n := 49) (n0 := 2) tabOk Tryz.call80 Tryz.func80 ?_
  intro hb
  refine XM.seq ?_
  repeat' ((conv => whnf); first | (refine dec (fun h => ?_) (fun h => ?_) <;> try contradiction) | (refine decN (fun h => ?_) (fun h => ?_) <;> try contradiction) | refine booN (fun h => ?_) (fun h => ?_) | refine boo (fun h => ?_) (fun h => ?_) | refine ⟨i64 (by omega) (by omega), ?_⟩ | refine ⟨_, _, rfl, List.getElem?_eq_getElem (by omega), ?_⟩ | refine ⟨_, ⟨rfl, by omega⟩, ?_⟩ | refine ⟨_, List.getElem?_eq_getElem (by omega), ?_⟩ | refine rtB ?_ | refine rtI ?_ | refine rtC ?_ rfl | fail)
  refine XM.seq ?_
  (conv => whnf)
  refine cl [] [] (check_spec o) ?_
  repeat' ((conv => whnf); first | (refine dec (fun h => ?_) (fun h => ?_) <;> try contradiction) | (refine decN (fun h => ?_) (fun h => ?_) <;> try contradiction) | refine booN (fun h => ?_) (fun h => ?_) | refine boo (fun h => ?_) (fun h => ?_) | refine ⟨i64 (by omega) (by omega), ?_⟩ | refine ⟨_, _, rfl, List.getElem?_eq_getElem (by omega), ?_⟩ | refine ⟨_, ⟨rfl, by omega⟩, ?_⟩ | refine ⟨_, List.getElem?_eq_getElem (by omega), ?_⟩ | refine rtB ?_ | refine rtI ?_ | refine rtC ?_ rfl | fail)
  · have hp : putP l o = (0, objF o, l) := by unfold putP; rw [if_pos h]
    rw [hp]
    (conv => whnf)
    exact rx [] [.same 0, .same 1, .same 1]
  have h1 : objF o = 0 := by simpa using h
  have hk := objF_ok h1
  refine XM.seq ?_
  repeat' ((conv => whnf); first | (refine dec (fun h => ?_) (fun h => ?_) <;> try contradiction) | (refine decN (fun h => ?_) (fun h => ?_) <;> try contradiction) | refine booN (fun h => ?_) (fun h => ?_) | refine boo (fun h => ?_) (fun h => ?_) | refine ⟨i64 (by omega) (by omega), ?_⟩ | refine ⟨_, _, rfl, List.getElem?_eq_getElem (by omega), ?_⟩ | refine ⟨_, ⟨rfl, by omega⟩, ?_⟩ | refine ⟨_, List.getElem?_eq_getElem (by omega), ?_⟩ | refine rtB ?_ | refine rtI ?_ | refine rtC ?_ rfl | fail)
  (conv => whnf)
  refine cl [] [] (leads_spec l o hk.modes) ?_
  repeat' ((conv => whnf); first | (refine dec (fun h => ?_) (fun h => ?_) <;> try contradiction) | (refine decN (fun h => ?_) (fun h => ?_) <;> try contradiction) | refine booN (fun h => ?_) (fun h => ?_) | refine boo (fun h => ?_) (fun h => ?_) | refine ⟨i64 (by omega) (by omega), ?_⟩ | refine ⟨_, _, rfl, List.getElem?_eq_getElem (by omega), ?_⟩ | refine ⟨_, ⟨rfl, by omega⟩, ?_⟩ | refine ⟨_, List.getElem?_eq_getElem (by omega), ?_⟩ | refine rtB ?_ | refine rtI ?_ | refine rtC ?_ rfl | fail)
  · have hp : putP l o = (0, 14, l) := by unfold putP; rw [if_neg (by simpa using h1), if_pos h]
    rw [hp]
    (conv => whnf)
    exact rx [] [.same 0, .same 1, .same 1]
  have h2 := h
  refine XM.seq ?_
  repeat' ((conv => whnf); first | (refine dec (fun h => ?_) (fun h => ?_) <;> try contradiction) | (refine decN (fun h => ?_) (fun h => ?_) <;> try contradiction) | refine booN (fun h => ?_) (fun h => ?_) | refine boo (fun h => ?_) (fun h => ?_) | refine ⟨i64 (by omega) (by omega), ?_⟩ | refine ⟨_, _, rfl, List.getElem?_eq_getElem (by omega), ?_⟩ | refine ⟨_, ⟨rfl, by omega⟩, ?_⟩ | refine ⟨_, List.getElem?_eq_getElem (by omega), ?_⟩ | refine rtB ?_ | refine rtI ?_ | refine rtC ?_ rfl | fail)
  (conv => whnf)
  refine cl [] [] (indexObs_spec l o) ?_
  repeat' ((conv => whnf); first | (refine dec (fun h => ?_) (fun h => ?_) <;> try contradiction) | (refine decN (fun h => ?_) (fun h => ?_) <;> try contradiction) | refine booN (fun h => ?_) (fun h => ?_) | refine boo (fun h => ?_) (fun h => ?_) | refine ⟨i64 (by omega) (by omega), ?_⟩ | refine ⟨_, _, rfl, List.getElem?_eq_getElem (by omega), ?_⟩ | refine ⟨_, ⟨rfl, by omega⟩, ?_⟩ | refine ⟨_, List.getElem?_eq_getElem (by omega), ?_⟩ | refine rtB ?_ | refine rtI ?_ | refine rtC ?_ rfl | fail)
  · have h3 := h
    have hp : putP l o = (idxF (fun x => decide (x = o)) l, 0, l) := by unfold putP; rw [if_neg (by simpa using h1), if_neg (by simp [h2]), if_pos h3]
    rw [hp]
    (conv => whnf)
    exact rx [] [.same 0, .same 1, .same 1]
  have h3 := h
  refine XM.seq ?_
  repeat' ((conv => whnf); first | (refine dec (fun h => ?_) (fun h => ?_) <;> try contradiction) | (refine decN (fun h => ?_) (fun h => ?_) <;> try contradiction) | refine booN (fun h => ?_) (fun h => ?_) | refine boo (fun h => ?_) (fun h => ?_) | refine ⟨i64 (by omega) (by omega), ?_⟩ | refine ⟨_, _, rfl, List.getElem?_eq_getElem (by omega), ?_⟩ | refine ⟨_, ⟨rfl, by omega⟩, ?_⟩ | refine ⟨_, List.getElem?_eq_getElem (by omega), ?_⟩ | refine rtB ?_ | refine rtI ?_ | refine rtC ?_ rfl | fail)
  · have h4 := h
    have hp : putP l o = (0, 15, l) := by unfold putP; rw [if_neg (by simpa using h1), if_neg (by simp [h2]), if_neg h3, if_pos (by omega)]
    rw [hp]
    (conv => whnf)
    exact rx [] [.same 0, .same 1, .same 1]
  have h4 := h
  have hp : putP l o = (((l ++ [o]).length : Int) - 1, 0, l ++ [o]) := by unfold putP; rw [if_neg (by simpa using h1), if_neg (by simp [h2]), if_neg h3, if_neg (by omega)]; simp
  rw [hp]
  refine XM.of ?_
  (conv => whnf)
  refine ⟨false, .grow, (.l [0, 1, 2, 3, 4, 5, 6, 7, 8, 9, 10, 11]), by kernel_rfl, .inl ?_⟩
  repeat' ((conv => whnf); first | (refine dec (fun h => ?_) (fun h => ?_) <;> try contradiction) | (refine decN (fun h => ?_) (fun h => ?_) <;> try contradiction) | refine booN (fun h => ?_) (fun h => ?_) | refine boo (fun h => ?_) (fun h => ?_) | refine ⟨i64 (by omega) (by omega), ?_⟩ | refine ⟨_, _, rfl, List.getElem?_eq_getElem (by omega), ?_⟩ | refine ⟨_, ⟨rfl, by omega⟩, ?_⟩ | refine ⟨_, List.getElem?_eq_getElem (by omega), ?_⟩ | refine rtB ?_ | refine rtI ?_ | refine rtC ?_ rfl | fail)
  (conv => whnf)
  refine cl [] [] (own_spec o (by have := hk.bytes; omega) (by have := hk.entries; omega) (by have := hk.parents; omega)) ?_
  (conv => whnf)
  refine ⟨[o], rfl, ?_⟩
  (conv => whnf)
  refine ⟨_, _, rfl, rfl, (by simp only [List.length_append, List.length_cons, List.length_nil]; omega), ?_⟩
  have hs : (l ++ [o]).length ≤ 600 := by rw [List.length_append, List.length_singleton]; omega
  repeat' ((conv => whnf); first | (refine dec (fun h => ?_) (fun h => ?_) <;> try contradiction) | (refine decN (fun h => ?_) (fun h => ?_) <;> try contradiction) | refine booN (fun h => ?_) (fun h => ?_) | refine boo (fun h => ?_) (fun h => ?_) | refine ⟨i64 (by omega) (by omega), ?_⟩ | refine ⟨_, _, rfl, List.getElem?_eq_getElem (by omega), ?_⟩ | refine ⟨_, ⟨rfl, by omega⟩, ?_⟩ | refine ⟨_, List.getElem?_eq_getElem (by omega), ?_⟩ | refine rtB ?_ | refine rtI ?_ | refine rtC ?_ rfl | fail)
  (conv => whnf)
  exact rx [] [.same 0, .same 1, .same 4]

set_option maxHeartbeats 1000000 in
theorem putR_spec (l : List Ob) (o : Ob) (hl : l.length ≤ 600) : Does Tryz.prog 98 [.c (.ptr 0 0), .st (bOb o)] [.box [.rw 1], .row 6 Ob encOb l] (Rt (.tup [(false, [.int .i64 (putP l o).1]), (false, [.int .i64 (putP l o).2.1])]) [.box [.rw 2], .dead, .row 6 Ob encOb (putP l o).2.2]) := by
  refine X_spM (n := 104) (n0 := 2) tabOk Tryz.call98 Tryz.func98 ?_
  intro hb
  refine XM.seq ?_
  repeat' ((conv => whnf); first | (refine dec (fun h => ?_) (fun h => ?_) <;> try contradiction) | (refine decN (fun h => ?_) (fun h => ?_) <;> try contradiction) | refine booN (fun h => ?_) (fun h => ?_) | refine boo (fun h => ?_) (fun h => ?_) | refine ⟨i64 (by omega) (by omega), ?_⟩ | refine ⟨_, _, rfl, List.getElem?_eq_getElem (by omega), ?_⟩ | refine ⟨_, ⟨rfl, by omega⟩, ?_⟩ | refine ⟨_, List.getElem?_eq_getElem (by omega), ?_⟩ | refine rtB ?_ | refine rtI ?_ | refine rtC ?_ rfl | fail)
  refine XM.seq ?_
  (conv => whnf)
  refine cl [] [] (objectFault_spec o) ?_
  repeat' ((conv => whnf); first | (refine dec (fun h => ?_) (fun h => ?_) <;> try contradiction) | (refine decN (fun h => ?_) (fun h => ?_) <;> try contradiction) | refine booN (fun h => ?_) (fun h => ?_) | refine boo (fun h => ?_) (fun h => ?_) | refine ⟨i64 (by omega) (by omega), ?_⟩ | refine ⟨_, _, rfl, List.getElem?_eq_getElem (by omega), ?_⟩ | refine ⟨_, ⟨rfl, by omega⟩, ?_⟩ | refine ⟨_, List.getElem?_eq_getElem (by omega), ?_⟩ | refine rtB ?_ | refine rtI ?_ | refine rtC ?_ rfl | fail)
  · have hp : putP l o = (0, objF o, l) := by unfold putP; rw [if_pos h]
    rw [hp]
    (conv => whnf)
    exact rx [] [.same 0, .same 1, .same 1]
  have h1 : objF o = 0 := by simpa using h
  have hk := objF_ok h1
  have g1 := hk.entries
  have g2 := hk.parents
  have lost : leadsP l o = false → putP l o = (0, 14, l) := fun h2 => by unfold putP; rw [if_neg (by simpa using h1), if_pos h2]
  refine XM.join (ι := Unit) (fun _ => ⟨[(0, .c (.ptr 0 0)), (3, .c (.ptr 2 0))], [.box [.rw 1], .row 6 Ob encOb l, .box (bOb o)]⟩) (fun _ => (o.entries.all fun e => decide (kindOf l e.id = e.mode)) = true) ?_ (fun _ q1 => ?_)
  · (conv => whnf)
    refine lp Nat (fun i => ⟨[(0, .c (.ptr 0 0)), (3, .c (.ptr 2 0)), (7, .c (.int .i64 i))], [.box [.rw 1], .row 6 Ob encOb l, .box (bOb o)]⟩) (fun i => i ≤ o.entries.length ∧ (o.entries.take i).all (fun e => decide (kindOf l e.id = e.mode)) = true) (fun i => o.entries.length - i) 0 [] [.same 0, .same 1, .same 2] ?_ ?_ (fun i hi => ?_)
    · simp
    · repeat' first | exact trivial | exact rfl | refine And.intro ?_ ?_
    (conv => whnf)
    refine dec (fun h4 => ?_) (fun h4 => ?_)
    · have hlt : i < o.entries.length := by omega
      (conv => whnf)
      refine ⟨false, .grow, (.l [0, 1, 2, 3, 4, 5, 6, 8, 9, 10, 11, 12, 13, 7, 14]), by kernel_rfl, .inl ?_⟩
      repeat' ((conv => whnf); first | (refine dec (fun h => ?_) (fun h => ?_) <;> try contradiction) | (refine decN (fun h => ?_) (fun h => ?_) <;> try contradiction) | refine booN (fun h => ?_) (fun h => ?_) | refine boo (fun h => ?_) (fun h => ?_) | refine ⟨i64 (by omega) (by omega), ?_⟩ | refine ⟨_, _, rfl, List.getElem?_eq_getElem (by omega), ?_⟩ | refine ⟨_, ⟨rfl, by omega⟩, ?_⟩ | refine ⟨_, List.getElem?_eq_getElem (by omega), ?_⟩ | refine rtB ?_ | refine rtI ?_ | refine rtC ?_ rfl | fail)
      (conv => whnf)
      refine cl [] [] (kindR_spec l o.entries[i].id) ?_
      repeat' ((conv => whnf); first | (refine dec (fun h => ?_) (fun h => ?_) <;> try contradiction) | (refine decN (fun h => ?_) (fun h => ?_) <;> try contradiction) | refine booN (fun h => ?_) (fun h => ?_) | refine boo (fun h => ?_) (fun h => ?_) | refine ⟨i64 (by omega) (by omega), ?_⟩ | refine ⟨_, _, rfl, List.getElem?_eq_getElem (by omega), ?_⟩ | refine ⟨_, ⟨rfl, by omega⟩, ?_⟩ | refine ⟨_, List.getElem?_eq_getElem (by omega), ?_⟩ | refine rtB ?_ | refine rtI ?_ | refine rtC ?_ rfl | fail)
      · rw [lost (by unfold leadsP; rw [all_not (l := o.entries) hlt (by simpa using h)]; simp)]
        (conv => whnf)
        exact rx [] [.same 0, .same 1, .same 1]
      · refine ag (i + 1) [] [.same 0, .same 1, .same 2] ⟨hlt, all_take hlt hi.2 (by simpa using h)⟩ (by simp only []; omega) ?_
        repeat' first | exact trivial | exact rfl | refine And.intro ?_ ?_
    · have := hi.2
      rw [List.take_of_length_le (by omega)] at this
      (conv => whnf)
      refine ⟨(), this, [], [.same 0, .same 1, .same 2], ?_⟩
      repeat' first | exact trivial | exact rfl | refine And.intro ?_ ?_
  refine XM.join (ι := Unit) (fun _ => ⟨[(0, .c (.ptr 0 0)), (3, .c (.ptr 2 0))], [.box [.rw 1], .row 6 Ob encOb l, .box (bOb o)]⟩) (fun _ => (o.parents.all fun k => decide (kindOf l k = 3)) = true) ?_ (fun _ q2 => ?_)
  · (conv => whnf)
    refine lp Nat (fun i => ⟨[(0, .c (.ptr 0 0)), (3, .c (.ptr 2 0)), (8, .c (.int .i64 i))], [.box [.rw 1], .row 6 Ob encOb l, .box (bOb o)]⟩) (fun i => i ≤ o.parents.length ∧ (o.parents.take i).all (fun k => decide (kindOf l k = 3)) = true) (fun i => o.parents.length - i) 0 [] [.same 0, .same 1, .same 2] ?_ ?_ (fun i hi => ?_)
    · simp
    · repeat' first | exact trivial | exact rfl | refine And.intro ?_ ?_
    (conv => whnf)
    refine dec (fun h4 => ?_) (fun h4 => ?_)
    · have hlt : i < o.parents.length := by omega
      repeat' ((conv => whnf); first | (refine dec (fun h => ?_) (fun h => ?_) <;> try contradiction) | (refine decN (fun h => ?_) (fun h => ?_) <;> try contradiction) | refine booN (fun h => ?_) (fun h => ?_) | refine boo (fun h => ?_) (fun h => ?_) | refine ⟨i64 (by omega) (by omega), ?_⟩ | refine ⟨_, _, rfl, List.getElem?_eq_getElem (by omega), ?_⟩ | refine ⟨_, ⟨rfl, by omega⟩, ?_⟩ | refine ⟨_, List.getElem?_eq_getElem (by omega), ?_⟩ | refine rtB ?_ | refine rtI ?_ | refine rtC ?_ rfl | fail)
      (conv => whnf)
      refine cl [] [] (kindR_spec l o.parents[i]) ?_
      repeat' ((conv => whnf); first | (refine dec (fun h => ?_) (fun h => ?_) <;> try contradiction) | (refine decN (fun h => ?_) (fun h => ?_) <;> try contradiction) | refine booN (fun h => ?_) (fun h => ?_) | refine boo (fun h => ?_) (fun h => ?_) | refine ⟨i64 (by omega) (by omega), ?_⟩ | refine ⟨_, _, rfl, List.getElem?_eq_getElem (by omega), ?_⟩ | refine ⟨_, ⟨rfl, by omega⟩, ?_⟩ | refine ⟨_, List.getElem?_eq_getElem (by omega), ?_⟩ | refine rtB ?_ | refine rtI ?_ | refine rtC ?_ rfl | fail)
      · rw [lost (by unfold leadsP; rw [all_not (l := o.parents) hlt (by simpa using h)]; simp)]
        (conv => whnf)
        exact rx [] [.same 0, .same 1, .same 1]
      · refine ag (i + 1) [] [.same 0, .same 1, .same 2] ⟨hlt, all_take hlt hi.2 (by simpa using h)⟩ (by simp only []; omega) ?_
        repeat' first | exact trivial | exact rfl | refine And.intro ?_ ?_
    · have := hi.2
      rw [List.take_of_length_le (by omega)] at this
      (conv => whnf)
      refine ⟨(), this, [], [.same 0, .same 1, .same 2], ?_⟩
      repeat' first | exact trivial | exact rfl | refine And.intro ?_ ?_
  have hle : leadsP l o = (!decide (o.kind = 3) || decide (kindOf l o.tree = 2)) := by unfold leadsP; rw [q1, q2]; rfl
  refine XM.join (ι := Unit) (fun _ => ⟨[(0, .c (.ptr 0 0)), (3, .c (.ptr 2 0))], [.box [.rw 1], .row 6 Ob encOb l, .box (bOb o)]⟩) (fun _ => leadsP l o = true) ?_ (fun _ q3 => ?_)
  · repeat' ((conv => whnf); first | (refine dec (fun h => ?_) (fun h => ?_) <;> try contradiction) | (refine decN (fun h => ?_) (fun h => ?_) <;> try contradiction) | refine booN (fun h => ?_) (fun h => ?_) | refine boo (fun h => ?_) (fun h => ?_) | refine ⟨i64 (by omega) (by omega), ?_⟩ | refine ⟨_, _, rfl, List.getElem?_eq_getElem (by omega), ?_⟩ | refine ⟨_, ⟨rfl, by omega⟩, ?_⟩ | refine ⟨_, List.getElem?_eq_getElem (by omega), ?_⟩ | refine rtB ?_ | refine rtI ?_ | refine rtC ?_ rfl | fail)
    · (conv => whnf)
      refine cl [] [] (kindR_spec l o.tree) ?_
      repeat' ((conv => whnf); first | (refine dec (fun h => ?_) (fun h => ?_) <;> try contradiction) | (refine decN (fun h => ?_) (fun h => ?_) <;> try contradiction) | refine booN (fun h => ?_) (fun h => ?_) | refine boo (fun h => ?_) (fun h => ?_) | refine ⟨i64 (by omega) (by omega), ?_⟩ | refine ⟨_, _, rfl, List.getElem?_eq_getElem (by omega), ?_⟩ | refine ⟨_, ⟨rfl, by omega⟩, ?_⟩ | refine ⟨_, List.getElem?_eq_getElem (by omega), ?_⟩ | refine rtB ?_ | refine rtI ?_ | refine rtC ?_ rfl | fail)
      · rw [lost (by rw [hle]; simp [*])]
        (conv => whnf)
        exact rx [] [.same 0, .same 1, .same 1]
      · refine ⟨(), by rw [hle]; simp [*], [], [.same 0, .same 1, .same 2], ?_⟩
        repeat' first | exact trivial | exact rfl | refine And.intro ?_ ?_
    · refine ⟨(), by rw [hle]; simp [*], [], [.same 0, .same 1, .same 2], ?_⟩
      repeat' first | exact trivial | exact rfl | refine And.intro ?_ ?_
  refine XM.join (ι := Unit) (fun _ => ⟨[(0, .c (.ptr 0 0)), (3, .c (.ptr 2 0))], [.box [.rw 1], .row 6 Ob encOb l, .box (bOb o)]⟩) (fun _ => l.any (fun x => decide (x = o)) = false) ?_ (fun _ q4 => ?_)
  · (conv => whnf)
    refine lp Nat (fun i => ⟨[(0, .c (.ptr 0 0)), (3, .c (.ptr 2 0)), (9, .c (.int .i64 i))], [.box [.rw 1], .row 6 Ob encOb l, .box (bOb o)]⟩) (fun i => i ≤ l.length ∧ (l.take i).any (fun x => decide (x = o)) = false) (fun i => l.length - i) 0 [] [.same 0, .same 1, .same 2] ?_ ?_ (fun i hi => ?_)
    · simp
    · repeat' first | exact trivial | exact rfl | refine And.intro ?_ ?_
    (conv => whnf)
    refine dec (fun h4 => ?_) (fun h4 => ?_)
    · have hlt : i < l.length := by omega
      (conv => whnf)
      refine ⟨false, .grow, (.l [0, 1, 2, 3, 4, 5, 6, 7, 8]), by kernel_rfl, .inl ?_⟩
      repeat' ((conv => whnf); first | (refine dec (fun h => ?_) (fun h => ?_) <;> try contradiction) | (refine decN (fun h => ?_) (fun h => ?_) <;> try contradiction) | refine booN (fun h => ?_) (fun h => ?_) | refine boo (fun h => ?_) (fun h => ?_) | refine ⟨i64 (by omega) (by omega), ?_⟩ | refine ⟨_, _, rfl, List.getElem?_eq_getElem (by omega), ?_⟩ | refine ⟨_, ⟨rfl, by omega⟩, ?_⟩ | refine ⟨_, List.getElem?_eq_getElem (by omega), ?_⟩ | refine rtB ?_ | refine rtI ?_ | refine rtC ?_ rfl | fail)
      (conv => whnf)
      refine cl [] [] (sameObject_spec l[i] o) ?_
      repeat' ((conv => whnf); first | (refine dec (fun h => ?_) (fun h => ?_) <;> try contradiction) | (refine decN (fun h => ?_) (fun h => ?_) <;> try contradiction) | refine booN (fun h => ?_) (fun h => ?_) | refine boo (fun h => ?_) (fun h => ?_) | refine ⟨i64 (by omega) (by omega), ?_⟩ | refine ⟨_, _, rfl, List.getElem?_eq_getElem (by omega), ?_⟩ | refine ⟨_, ⟨rfl, by omega⟩, ?_⟩ | refine ⟨_, List.getElem?_eq_getElem (by omega), ?_⟩ | refine rtB ?_ | refine rtI ?_ | refine rtC ?_ rfl | fail)
      · have h3 := idxF_at (p := fun x => decide (x = o)) hlt hi.2 (by simpa using h)
        have hp : putP l o = ((i : Int), 0, l) := by unfold putP; rw [if_neg (by simpa using h1), if_neg (by simp [q3]), if_pos (by omega), ← h3]
        rw [hp]
        (conv => whnf)
        exact rx [] [.same 0, .same 1, .same 1]
      · refine ag (i + 1) [] [.same 0, .same 1, .same 2] ⟨hlt, any_take hlt hi.2 (by simpa using h)⟩ (by simp only []; omega) ?_
        repeat' first | exact trivial | exact rfl | refine And.intro ?_ ?_
    · have := hi.2
      rw [List.take_of_length_le (by omega)] at this
      (conv => whnf)
      refine ⟨(), this, [], [.same 0, .same 1, .same 2], ?_⟩
      repeat' first | exact trivial | exact rfl | refine And.intro ?_ ?_
  have h3 : ¬ 0 ≤ idxF (fun x => decide (x = o)) l := by
    rw [← idxF_any] at q4; simpa using q4
  refine XM.seq ?_
  repeat' ((conv => whnf); first | (refine dec (fun h => ?_) (fun h => ?_) <;> try contradiction) | (refine decN (fun h => ?_) (fun h => ?_) <;> try contradiction) | refine booN (fun h => ?_) (fun h => ?_) | refine boo (fun h => ?_) (fun h => ?_) | refine ⟨i64 (by omega) (by omega), ?_⟩ | refine ⟨_, _, rfl, List.getElem?_eq_getElem (by omega), ?_⟩ | refine ⟨_, ⟨rfl, by omega⟩, ?_⟩ | refine ⟨_, List.getElem?_eq_getElem (by omega), ?_⟩ | refine rtB ?_ | refine rtI ?_ | refine rtC ?_ rfl | fail)
  · have hp : putP l o = (0, 15, l) := by unfold putP; rw [if_neg (by simpa using h1), if_neg (by simp [q3]), if_neg h3, if_pos (by omega)]
    rw [hp]
    (conv => whnf)
    exact rx [] [.same 0, .same 1, .same 1]
  have hp : putP l o = (((l ++ [o]).length : Int) - 1, 0, l ++ [o]) := by unfold putP; rw [if_neg (by simpa using h1), if_neg (by simp [q3]), if_neg h3, if_neg (by omega)]; simp
  rw [hp]
  refine XM.of ?_
  (conv => whnf)
  refine ⟨false, .grow, (.l [0, 1, 2, 3, 4, 5, 6, 7, 8, 9, 10, 11]), by kernel_rfl, .inl ?_⟩
  repeat' ((conv => whnf); first | (refine dec (fun h => ?_) (fun h => ?_) <;> try contradiction) | (refine decN (fun h => ?_) (fun h => ?_) <;> try contradiction) | refine booN (fun h => ?_) (fun h => ?_) | refine boo (fun h => ?_) (fun h => ?_) | refine ⟨i64 (by omega) (by omega), ?_⟩ | refine ⟨_, _, rfl, List.getElem?_eq_getElem (by omega), ?_⟩ | refine ⟨_, ⟨rfl, by omega⟩, ?_⟩ | refine ⟨_, List.getElem?_eq_getElem (by omega), ?_⟩ | refine rtB ?_ | refine rtI ?_ | refine rtC ?_ rfl | fail)
  (conv => whnf)
  refine cl [] [] (ownObject_spec o (by have := hk.bytes; omega) (by have := hk.entries; omega) (by have := hk.parents; omega)) ?_
  (conv => whnf)
  refine ⟨[o], rfl, ?_⟩
  (conv => whnf)
  refine ⟨_, _, rfl, rfl, (by simp only [List.length_append, List.length_cons, List.length_nil]; omega), ?_⟩
  have hs : (l ++ [o]).length ≤ 600 := by rw [List.length_append, List.length_singleton]; omega
  repeat' ((conv => whnf); first | (refine dec (fun h => ?_) (fun h => ?_) <;> try contradiction) | (refine decN (fun h => ?_) (fun h => ?_) <;> try contradiction) | refine booN (fun h => ?_) (fun h => ?_) | refine boo (fun h => ?_) (fun h => ?_) | refine ⟨i64 (by omega) (by omega), ?_⟩ | refine ⟨_, _, rfl, List.getElem?_eq_getElem (by omega), ?_⟩ | refine ⟨_, ⟨rfl, by omega⟩, ?_⟩ | refine ⟨_, List.getElem?_eq_getElem (by omega), ?_⟩ | refine rtB ?_ | refine rtI ?_ | refine rtC ?_ rfl | fail)
  (conv => whnf)
  exact rx [] [.same 0, .same 1, .same 4]
end Go.Nest
