/- WALKS, 15: the law PoolReach. -/
import Derived.Test.YtkkjjbejkcgmfaaG12
import Derived.Test.YtkkjjbejkcgmfaaP3
namespace Go.Nest
open Go Go.AM Go.Proofs
open Go.Proofs.Ytkkjjbejkcgmfaa (tab tabOk)
set_option linter.unusedVariables false
set_option linter.unusedSimpArgs false
set_option maxRecDepth 4000
set_option maxHeartbeats 2000000 in
theorem poolReach_spec (l : List Ob) (ids : List Int) : Does Try.prog 10 [.c (.ls 6 Ob encOb l), .c (.ls 1 Int encI ids)] [] (Rt (.c (.bool true)) []) := by
  refine X_specM ⟨Try.prog, tab, 127, 0⟩ tabOk (by kernel_rfl) Try.call10 Try.func10 rfl rfl (by kernel_rfl) rfl ?_
  intro hb
  have hok := putAll_ok (r := l) .nil
  generalize hL : putAll [] l = L at hok
  have hlen := hok.len
  refine XM.seq ?_
  repeat' ((conv => whnf); first | (refine dec (fun h => ?_) (fun h => ?_) <;> try contradiction) | (refine decN (fun h => ?_) (fun h => ?_) <;> try contradiction) | refine booN (fun h => ?_) (fun h => ?_) | refine boo (fun h => ?_) (fun h => ?_) | refine ⟨i64 (by omega) (by omega), ?_⟩ | refine ⟨_, _, rfl, List.getElem?_eq_getElem (by omega), ?_⟩ | refine ⟨_, ⟨rfl, by omega⟩, ?_⟩ | refine ⟨_, List.getElem?_eq_getElem (by omega), ?_⟩ | refine rtB ?_ | refine rtI ?_ | refine rtC ?_ rfl | fail)
  refine XM.seq ?_
  (conv => whnf)
  refine cl [] [] (poolBegun_spec) (by repeat' first | exact trivial | exact rfl | refine And.intro ?_ ?_) (by first | exact trivial | exact rfl) ?_
  repeat' ((conv => whnf); first | (refine dec (fun h => ?_) (fun h => ?_) <;> try contradiction) | (refine decN (fun h => ?_) (fun h => ?_) <;> try contradiction) | refine booN (fun h => ?_) (fun h => ?_) | refine boo (fun h => ?_) (fun h => ?_) | refine ⟨i64 (by omega) (by omega), ?_⟩ | refine ⟨_, _, rfl, List.getElem?_eq_getElem (by omega), ?_⟩ | refine ⟨_, ⟨rfl, by omega⟩, ?_⟩ | refine ⟨_, List.getElem?_eq_getElem (by omega), ?_⟩ | refine rtB ?_ | refine rtI ?_ | refine rtC ?_ rfl | fail)
  refine XM.seq ?_
  (conv => whnf)
  refine cl [] [] (greatObjects_spec l) (by repeat' first | exact trivial | exact rfl | refine And.intro ?_ ?_) (by first | exact trivial | exact rfl) ?_
  repeat' ((conv => whnf); first | (refine dec (fun h => ?_) (fun h => ?_) <;> try contradiction) | (refine decN (fun h => ?_) (fun h => ?_) <;> try contradiction) | refine booN (fun h => ?_) (fun h => ?_) | refine boo (fun h => ?_) (fun h => ?_) | refine ⟨i64 (by omega) (by omega), ?_⟩ | refine ⟨_, _, rfl, List.getElem?_eq_getElem (by omega), ?_⟩ | refine ⟨_, ⟨rfl, by omega⟩, ?_⟩ | refine ⟨_, List.getElem?_eq_getElem (by omega), ?_⟩ | refine rtB ?_ | refine rtI ?_ | refine rtC ?_ rfl | fail)
  all_goals try rfl
  have hids : ids.length ≤ 50 := by omega
  refine XM.seq ?_
  (conv => whnf)
  refine cl [] [] (pools_spec l) (by repeat' first | exact trivial | exact rfl | refine And.intro ?_ ?_) (by first | exact trivial | exact rfl) ?_
  rw [hL]
  repeat' ((conv => whnf); first | (refine dec (fun h => ?_) (fun h => ?_) <;> try contradiction) | (refine decN (fun h => ?_) (fun h => ?_) <;> try contradiction) | refine booN (fun h => ?_) (fun h => ?_) | refine boo (fun h => ?_) (fun h => ?_) | refine ⟨i64 (by omega) (by omega), ?_⟩ | refine ⟨_, _, rfl, List.getElem?_eq_getElem (by omega), ?_⟩ | refine ⟨_, ⟨rfl, by omega⟩, ?_⟩ | refine ⟨_, List.getElem?_eq_getElem (by omega), ?_⟩ | refine rtB ?_ | refine rtI ?_ | refine rtC ?_ rfl | fail)
  refine XM.seq ?_
  (conv => whnf)
  refine cl [] [] (reach_spec L hok ids (by omega)) (by repeat' first | exact trivial | exact rfl | refine And.intro ?_ ?_) (by first | exact trivial | exact rfl) ?_
  repeat' ((conv => whnf); first | (refine dec (fun h => ?_) (fun h => ?_) <;> try contradiction) | (refine decN (fun h => ?_) (fun h => ?_) <;> try contradiction) | refine booN (fun h => ?_) (fun h => ?_) | refine boo (fun h => ?_) (fun h => ?_) | refine ⟨i64 (by omega) (by omega), ?_⟩ | refine ⟨_, _, rfl, List.getElem?_eq_getElem (by omega), ?_⟩ | refine ⟨_, ⟨rfl, by omega⟩, ?_⟩ | refine ⟨_, List.getElem?_eq_getElem (by omega), ?_⟩ | refine rtB ?_ | refine rtI ?_ | refine rtC ?_ rfl | fail)
  have hrl := reach_len (l := L) (ids := ids)
  refine XM.join (ι := Unit) (fun _ => ⟨[(1, .c (.ls 1 Int encI ids)), (5, .c (.ptr 0 0)), (8, .c (.rw 2))], [.box [.rw 1], .row 6 Ob encOb L, .row 1 Int encI (reachP L ids)]⟩) (fun _ => True) ?_ (fun _ _ => ?_)
  · (conv => whnf)
    refine lp Nat (fun i => ⟨[(1, .c (.ls 1 Int encI ids)), (5, .c (.ptr 0 0)), (8, .c (.rw 2)), (9, .c (.int .i64 i))], [.box [.rw 1], .row 6 Ob encOb L, .row 1 Int encI (reachP L ids)]⟩)
      (fun i => i ≤ (reachP L ids).length ∧ True) (fun i => (reachP L ids).length - i) 0 [] [.same 0, .same 1, .same 4] ?_ ?_ (fun i hi => ?_)
    · simp
    · repeat' first | exact trivial | exact rfl | refine And.intro ?_ ?_
    (conv => whnf)
    refine dec (fun h4 => ?_) (fun h4 => ?_)
    · have hit : i < (reachP L ids).length := by omega
      have hmem := List.getElem_mem hit
      have hled := (mem_reach hok).1 hmem
      generalize hid : (reachP L ids)[i] = id at hmem hled
      have hnl := nextP_len hok id
      repeat' ((conv => whnf); first | (refine dec (fun h => ?_) (fun h => ?_) <;> try contradiction) | (refine decN (fun h => ?_) (fun h => ?_) <;> try contradiction) | refine booN (fun h => ?_) (fun h => ?_) | refine boo (fun h => ?_) (fun h => ?_) | refine ⟨i64 (by omega) (by omega), ?_⟩ | refine ⟨_, _, rfl, List.getElem?_eq_getElem (by omega), ?_⟩ | refine ⟨_, ⟨rfl, by omega⟩, ?_⟩ | refine ⟨_, List.getElem?_eq_getElem (by omega), ?_⟩ | refine rtB ?_ | refine rtI ?_ | refine rtC ?_ rfl | fail)
      rw [hid]
      (conv => whnf)
      refine cl [] [] (next_spec L hok id) (by repeat' first | exact trivial | exact rfl | refine And.intro ?_ ?_) (by first | exact trivial | exact rfl) ?_
      (conv => whnf)
      refine lp Nat (fun k => ⟨[(1, .c (.ls 1 Int encI ids)), (5, .c (.ptr 0 0)), (8, .c (.rw 2)), (9, .c (.int .i64 i)), (10, .c (.rw 3)), (11, .c (.int .i64 k))], [.box [.rw 1], .row 6 Ob encOb L, .row 1 Int encI (reachP L ids), .row 1 Int encI (nextP L id)]⟩)
        (fun k => k ≤ (nextP L id).length ∧ True) (fun k => (nextP L id).length - k) 0 [] [.same 0, .same 1, .same 2, .same 3] ?_ ?_ (fun k hk => ?_)
      · simp
      · repeat' first | exact trivial | exact rfl | refine And.intro ?_ ?_
      (conv => whnf)
      refine dec (fun h5 => ?_) (fun h5 => ?_)
      · have hkt : k < (nextP L id).length := by omega
        repeat' ((conv => whnf); first | (refine dec (fun h => ?_) (fun h => ?_) <;> try contradiction) | (refine decN (fun h => ?_) (fun h => ?_) <;> try contradiction) | refine booN (fun h => ?_) (fun h => ?_) | refine boo (fun h => ?_) (fun h => ?_) | refine ⟨i64 (by omega) (by omega), ?_⟩ | refine ⟨_, _, rfl, List.getElem?_eq_getElem (by omega), ?_⟩ | refine ⟨_, ⟨rfl, by omega⟩, ?_⟩ | refine ⟨_, List.getElem?_eq_getElem (by omega), ?_⟩ | refine rtB ?_ | refine rtI ?_ | refine rtC ?_ rfl | fail)
        (conv => whnf)
        refine cl [] [] (in_spec (reachP L ids) (nextP L id)[k]) (by repeat' first | exact trivial | exact rfl | refine And.intro ?_ ?_) (by first | exact trivial | exact rfl) ?_
        repeat' ((conv => whnf); first | (refine dec (fun h => ?_) (fun h => ?_) <;> try contradiction) | (refine decN (fun h => ?_) (fun h => ?_) <;> try contradiction) | refine booN (fun h => ?_) (fun h => ?_) | refine boo (fun h => ?_) (fun h => ?_) | refine ⟨i64 (by omega) (by omega), ?_⟩ | refine ⟨_, _, rfl, List.getElem?_eq_getElem (by omega), ?_⟩ | refine ⟨_, ⟨rfl, by omega⟩, ?_⟩ | refine ⟨_, List.getElem?_eq_getElem (by omega), ?_⟩ | refine rtB ?_ | refine rtI ?_ | refine rtC ?_ rfl | fail)
        · exact (h ((mem_reach hok).2 (.step hled (List.getElem_mem hkt)))).elim
        · refine ag (k + 1) [] [.same 0, .same 1, .same 2, .same 3] ⟨hkt, trivial⟩ (by simp only []; omega) ?_
          repeat' first | exact trivial | exact rfl | refine And.intro ?_ ?_
      · repeat' ((conv => whnf); first | (refine dec (fun h => ?_) (fun h => ?_) <;> try contradiction) | (refine decN (fun h => ?_) (fun h => ?_) <;> try contradiction) | refine booN (fun h => ?_) (fun h => ?_) | refine boo (fun h => ?_) (fun h => ?_) | refine ⟨i64 (by omega) (by omega), ?_⟩ | refine ⟨_, _, rfl, List.getElem?_eq_getElem (by omega), ?_⟩ | refine ⟨_, ⟨rfl, by omega⟩, ?_⟩ | refine ⟨_, List.getElem?_eq_getElem (by omega), ?_⟩ | refine rtB ?_ | refine rtI ?_ | refine rtC ?_ rfl | fail)
        rw [hid]
        (conv => whnf)
        refine cl [] [] (in_spec ids id) (by repeat' first | exact trivial | exact rfl | refine And.intro ?_ ?_) (by first | exact trivial | exact rfl) ?_
        (conv => whnf)
        refine lp (Nat × Bool) (fun | (k, b) => ⟨[(1, .c (.ls 1 Int encI ids)), (5, .c (.ptr 0 0)), (8, .c (.rw 2)), (9, .c (.int .i64 i)), (12, .c (.bool b)), (13, .c (.int .i64 k))], [.box [.rw 1], .row 6 Ob encOb L, .row 1 Int encI (reachP L ids)]⟩)
          (fun x => x.1 ≤ (reachP L ids).length ∧ ((id ∈ ids ∨ ∃ j ∈ (reachP L ids).take x.1, id ∈ nextP L j) → x.2 = true)) (fun x => (reachP L ids).length - x.1) (0, decide (id ∈ ids)) [] [.same 0, .same 1, .same 2] ?_ ?_ (fun x hx => ?_)
        · exact ⟨Nat.zero_le _, fun h => by simpa using h⟩
        · repeat' first | exact trivial | exact rfl | refine And.intro ?_ ?_
        obtain ⟨k, b⟩ := x
        obtain ⟨hk, hbb⟩ := hx
        dsimp only at hk hbb
        (conv => whnf)
        refine dec (fun h5 => ?_) (fun h5 => ?_)
        · have hkt : k < (reachP L ids).length := by omega
          have htk := List.take_succ_eq_append_getElem hkt
          (conv => whnf)
          refine ⟨false, (.l [0, 1, 2, 3, 4, 5, 6, 8, 9, 10, 11, 7, 12, 13, 14]), by kernel_rfl, ?_⟩
          (conv => whnf)
          refine boo (fun h6 => ?_) (fun h6 => ?_)
          · repeat' ((conv => whnf); first | (refine dec (fun h => ?_) (fun h => ?_) <;> try contradiction) | (refine decN (fun h => ?_) (fun h => ?_) <;> try contradiction) | refine booN (fun h => ?_) (fun h => ?_) | refine boo (fun h => ?_) (fun h => ?_) | refine ⟨i64 (by omega) (by omega), ?_⟩ | refine ⟨_, _, rfl, List.getElem?_eq_getElem (by omega), ?_⟩ | refine ⟨_, ⟨rfl, by omega⟩, ?_⟩ | refine ⟨_, List.getElem?_eq_getElem (by omega), ?_⟩ | refine rtB ?_ | refine rtI ?_ | refine rtC ?_ rfl | fail)
            refine ag (k + 1, true) [] [.same 0, .same 1, .same 2] ⟨hkt, fun _ => rfl⟩ (by simp only []; omega) ?_
            repeat' first | exact trivial | exact rfl | refine And.intro ?_ ?_
          · repeat' ((conv => whnf); first | (refine dec (fun h => ?_) (fun h => ?_) <;> try contradiction) | (refine decN (fun h => ?_) (fun h => ?_) <;> try contradiction) | refine booN (fun h => ?_) (fun h => ?_) | refine boo (fun h => ?_) (fun h => ?_) | refine ⟨i64 (by omega) (by omega), ?_⟩ | refine ⟨_, _, rfl, List.getElem?_eq_getElem (by omega), ?_⟩ | refine ⟨_, ⟨rfl, by omega⟩, ?_⟩ | refine ⟨_, List.getElem?_eq_getElem (by omega), ?_⟩ | refine rtB ?_ | refine rtI ?_ | refine rtC ?_ rfl | fail)
            rw [hid]
            repeat' ((conv => whnf); first | (refine dec (fun h => ?_) (fun h => ?_) <;> try contradiction) | (refine decN (fun h => ?_) (fun h => ?_) <;> try contradiction) | refine booN (fun h => ?_) (fun h => ?_) | refine boo (fun h => ?_) (fun h => ?_) | refine ⟨i64 (by omega) (by omega), ?_⟩ | refine ⟨_, _, rfl, List.getElem?_eq_getElem (by omega), ?_⟩ | refine ⟨_, ⟨rfl, by omega⟩, ?_⟩ | refine ⟨_, List.getElem?_eq_getElem (by omega), ?_⟩ | refine rtB ?_ | refine rtI ?_ | refine rtC ?_ rfl | fail)
            (conv => whnf)
            refine cl [] [] (next_spec L hok (reachP L ids)[k]) (by repeat' first | exact trivial | exact rfl | refine And.intro ?_ ?_) (by first | exact trivial | exact rfl) ?_
            repeat' ((conv => whnf); first | (refine dec (fun h => ?_) (fun h => ?_) <;> try contradiction) | (refine decN (fun h => ?_) (fun h => ?_) <;> try contradiction) | refine booN (fun h => ?_) (fun h => ?_) | refine boo (fun h => ?_) (fun h => ?_) | refine ⟨i64 (by omega) (by omega), ?_⟩ | refine ⟨_, _, rfl, List.getElem?_eq_getElem (by omega), ?_⟩ | refine ⟨_, ⟨rfl, by omega⟩, ?_⟩ | refine ⟨_, List.getElem?_eq_getElem (by omega), ?_⟩ | refine rtB ?_ | refine rtI ?_ | refine rtC ?_ rfl | fail)
            (conv => whnf)
            refine cl [] [] (in_spec (nextP L (reachP L ids)[k]) id) (by repeat' first | exact trivial | exact rfl | refine And.intro ?_ ?_) (by first | exact trivial | exact rfl) ?_
            repeat' ((conv => whnf); first | (refine dec (fun h => ?_) (fun h => ?_) <;> try contradiction) | (refine decN (fun h => ?_) (fun h => ?_) <;> try contradiction) | refine booN (fun h => ?_) (fun h => ?_) | refine boo (fun h => ?_) (fun h => ?_) | refine ⟨i64 (by omega) (by omega), ?_⟩ | refine ⟨_, _, rfl, List.getElem?_eq_getElem (by omega), ?_⟩ | refine ⟨_, ⟨rfl, by omega⟩, ?_⟩ | refine ⟨_, List.getElem?_eq_getElem (by omega), ?_⟩ | refine rtB ?_ | refine rtI ?_ | refine rtC ?_ rfl | fail)
            refine ag (k + 1, decide (id ∈ nextP L (reachP L ids)[k])) [] [.same 0, .same 1, .same 2] ⟨hkt, fun h => ?_⟩ (by simp only []; omega) ?_
            · dsimp only at h ⊢
              rw [h6] at hbb
              rw [decide_eq_true_iff]
              rw [htk] at h
              rcases h with h | ⟨j, hj, h⟩
              · cases hbb (.inl h)
              · rw [List.mem_append, List.mem_singleton] at hj
                rcases hj with hj | rfl
                · cases hbb (.inr ⟨j, hj, h⟩)
                · exact h
            · repeat' first | exact trivial | exact rfl | refine And.intro ?_ ?_
        · rw [List.take_of_length_le (by omega)] at hbb
          obtain rfl : b = true := hbb (led_how hok hled)
          (conv => whnf)
          refine ⟨false, (.l [0, 1, 2, 3, 4, 5, 6, 7, 8, 9, 10, 11, 12, 13, 14, 15, 16, 17]), by kernel_rfl, ?_⟩
          repeat' ((conv => whnf); first | (refine dec (fun h => ?_) (fun h => ?_) <;> try contradiction) | (refine decN (fun h => ?_) (fun h => ?_) <;> try contradiction) | refine booN (fun h => ?_) (fun h => ?_) | refine boo (fun h => ?_) (fun h => ?_) | refine ⟨i64 (by omega) (by omega), ?_⟩ | refine ⟨_, _, rfl, List.getElem?_eq_getElem (by omega), ?_⟩ | refine ⟨_, ⟨rfl, by omega⟩, ?_⟩ | refine ⟨_, List.getElem?_eq_getElem (by omega), ?_⟩ | refine rtB ?_ | refine rtI ?_ | refine rtC ?_ rfl | fail)
          · (conv => whnf)
            refine ⟨i - 1, ⟨by omega, by omega⟩, ?_⟩
            (conv => whnf)
            refine ⟨(reachP L ids)[i - 1], List.getElem?_eq_getElem (by omega), ?_⟩
            repeat' ((conv => whnf); first | (refine dec (fun h => ?_) (fun h => ?_) <;> try contradiction) | (refine decN (fun h => ?_) (fun h => ?_) <;> try contradiction) | refine booN (fun h => ?_) (fun h => ?_) | refine boo (fun h => ?_) (fun h => ?_) | refine ⟨i64 (by omega) (by omega), ?_⟩ | refine ⟨_, _, rfl, List.getElem?_eq_getElem (by omega), ?_⟩ | refine ⟨_, ⟨rfl, by omega⟩, ?_⟩ | refine ⟨_, List.getElem?_eq_getElem (by omega), ?_⟩ | refine rtB ?_ | refine rtI ?_ | refine rtC ?_ rfl | fail)
            · exfalso
              have := List.pairwise_iff_getElem.1 (reach_rise (l := L) (ids := ids)) (i - 1) i (by omega) hit (by omega)
              omega
            · refine ag (i + 1) [] [.same 0, .same 1, .same 2] ⟨hit, trivial⟩ (by simp only []; omega) ?_
              repeat' first | exact trivial | exact rfl | refine And.intro ?_ ?_
          · refine ag (i + 1) [] [.same 0, .same 1, .same 2] ⟨hit, trivial⟩ (by simp only []; omega) ?_
            repeat' first | exact trivial | exact rfl | refine And.intro ?_ ?_
    · (conv => whnf)
      refine ⟨(), trivial, [], [.same 0, .same 1, .same 2], ?_⟩
      repeat' first | exact trivial | exact rfl | refine And.intro ?_ ?_
  refine XM.of ?_
  (conv => whnf)
  refine lp Nat (fun i => ⟨[(1, .c (.ls 1 Int encI ids)), (5, .c (.ptr 0 0)), (8, .c (.rw 2)), (14, .c (.int .i64 i))], [.box [.rw 1], .row 6 Ob encOb L, .row 1 Int encI (reachP L ids)]⟩)
    (fun i => i ≤ ids.length ∧ True) (fun i => ids.length - i) 0 [] [.same 0, .same 1, .same 2] ?_ ?_ (fun i hi => ?_)
  · simp
  · repeat' first | exact trivial | exact rfl | refine And.intro ?_ ?_
  (conv => whnf)
  refine dec (fun h4 => ?_) (fun h4 => ?_)
  · have hit : i < ids.length := by omega
    have heq : (decide (kindOf L ids[i] ≠ 0) : Bool) = decide (ids[i] ∈ reachP L ids) := by
      rw [decide_eq_decide, mem_reach hok]
      exact ⟨fun h => .base (List.getElem_mem hit) h, fun h => h.kind hok⟩
    repeat' ((conv => whnf); first | (refine dec (fun h => ?_) (fun h => ?_) <;> try contradiction) | (refine decN (fun h => ?_) (fun h => ?_) <;> try contradiction) | refine booN (fun h => ?_) (fun h => ?_) | refine boo (fun h => ?_) (fun h => ?_) | refine ⟨i64 (by omega) (by omega), ?_⟩ | refine ⟨_, _, rfl, List.getElem?_eq_getElem (by omega), ?_⟩ | refine ⟨_, ⟨rfl, by omega⟩, ?_⟩ | refine ⟨_, List.getElem?_eq_getElem (by omega), ?_⟩ | refine rtB ?_ | refine rtI ?_ | refine rtC ?_ rfl | fail)
    (conv => whnf)
    refine cl [] [] (get_spec L hok ids[i]) (by repeat' first | exact trivial | exact rfl | refine And.intro ?_ ?_) (by first | exact trivial | exact rfl) ?_
    repeat' ((conv => whnf); first | (refine dec (fun h => ?_) (fun h => ?_) <;> try contradiction) | (refine decN (fun h => ?_) (fun h => ?_) <;> try contradiction) | refine booN (fun h => ?_) (fun h => ?_) | refine boo (fun h => ?_) (fun h => ?_) | refine ⟨i64 (by omega) (by omega), ?_⟩ | refine ⟨_, _, rfl, List.getElem?_eq_getElem (by omega), ?_⟩ | refine ⟨_, ⟨rfl, by omega⟩, ?_⟩ | refine ⟨_, List.getElem?_eq_getElem (by omega), ?_⟩ | refine rtB ?_ | refine rtI ?_ | refine rtC ?_ rfl | fail)
    (conv => whnf)
    refine cl [] [] (in_spec (reachP L ids) ids[i]) (by repeat' first | exact trivial | exact rfl | refine And.intro ?_ ?_) (by first | exact trivial | exact rfl) ?_
    (conv => whnf)
    refine booN (fun h => ?_) (fun h => ?_)
    · exfalso; rw [heq] at h; simp at h
    · repeat' ((conv => whnf); first | (refine dec (fun h => ?_) (fun h => ?_) <;> try contradiction) | (refine decN (fun h => ?_) (fun h => ?_) <;> try contradiction) | refine booN (fun h => ?_) (fun h => ?_) | refine boo (fun h => ?_) (fun h => ?_) | refine ⟨i64 (by omega) (by omega), ?_⟩ | refine ⟨_, _, rfl, List.getElem?_eq_getElem (by omega), ?_⟩ | refine ⟨_, ⟨rfl, by omega⟩, ?_⟩ | refine ⟨_, List.getElem?_eq_getElem (by omega), ?_⟩ | refine rtB ?_ | refine rtI ?_ | refine rtC ?_ rfl | fail)
      refine ag (i + 1) [] [.same 0, .same 1, .same 2] ⟨hit, trivial⟩ (by simp only []; omega) ?_
      repeat' first | exact trivial | exact rfl | refine And.intro ?_ ?_
  · repeat' ((conv => whnf); first | (refine dec (fun h => ?_) (fun h => ?_) <;> try contradiction) | (refine decN (fun h => ?_) (fun h => ?_) <;> try contradiction) | refine booN (fun h => ?_) (fun h => ?_) | refine boo (fun h => ?_) (fun h => ?_) | refine ⟨i64 (by omega) (by omega), ?_⟩ | refine ⟨_, _, rfl, List.getElem?_eq_getElem (by omega), ?_⟩ | refine ⟨_, ⟨rfl, by omega⟩, ?_⟩ | refine ⟨_, List.getElem?_eq_getElem (by omega), ?_⟩ | refine rtB ?_ | refine rtI ?_ | refine rtC ?_ rfl | fail)
    all_goals rfl
end Go.Nest
