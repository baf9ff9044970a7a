/- WALKS, W6: histories, by the document: BasesOf. -/
import Derived.Test.YtkoiljgjipmhbaaGreatDoorW5
import Derived.Test.YtkoiljgjipmhbaaGreatDoorW4
namespace Go.Nest
open Go Go.AM Go.Proofs
open Go.Proofs.YtkoiljgjipmhbaaGreatDoor (tab tabOk)
set_option linter.unusedVariables false
set_option linter.unusedSimpArgs false
set_option maxRecDepth 4000
theorem base_step {L : List Ob} {x y : List Int} {i : Nat} (h : i < x.length) : ((x.take (i + 1)).filter fun k => hasI y k) = ((x.take i).filter fun k => hasI y k) ++ (if hasI y x[i] = true then [x[i]] else []) := by
  rw [List.take_succ_eq_append_getElem h, List.filter_append]
  congr 1
  rw [List.filter_cons, List.filter_nil]
theorem hasI_dec {l : List Int} {n : Int} : decide (n ∈ l) = hasI l n := by rw [Bool.eq_iff_iff, hasI_iff, decide_eq_true_iff]
theorem base_rise {L : List Ob} {a b : Int} : (baseC L a b).Pairwise (· < ·) := anc_rise.filter _
theorem at_ne {c : List Int} (hc : c.Pairwise (· < ·)) {k i : Nat} (hk : k < c.length) (hi : i < c.length) : (k ≠ i) ↔ c[k] ≠ c[i] := by
  have key : ∀ {k i : Nat} (hk : k < c.length) (hi : i < c.length), k < i → c[k] < c[i] := fun hk hi h => List.pairwise_iff_getElem.1 hc _ _ hk hi h
  constructor
  · intro h
    rcases Nat.lt_or_gt_of_ne h with h | h
    · have := key hk hi h; omega
    · have := key hi hk h; omega
  · rintro h rfl; exact h rfl
set_option maxHeartbeats 2000000 in
theorem basesOf_spec (L : List Ob) (hL : PoolOk L) (a b : Int) : Does Tryz.prog 32 [.c (.bp [.bs 6 Ob encOb L]), .c (.int .i64 a), .c (.int .i64 b)] [] (Rt (.tup [(false, [.rw 0]), (false, [.int .i64 (basesP L a b).2])]) [.row 1 Int encI (basesP L a b).1]) := by
  refine X_specM ⟨Tryz.prog, tab, 90, 0⟩ tabOk (by kernel_rfl) Tryz.call32 Tryz.func32 rfl rfl (by kernel_rfl) rfl ?_
  intro hb
  have hlen := hL.len
  refine XM.seq ?_
  repeat' ((conv => whnf); first | (refine dec (fun h => ?_) (fun h => ?_) <;> try contradiction) | (refine decN (fun h => ?_) (fun h => ?_) <;> try contradiction) | refine booN (fun h => ?_) (fun h => ?_) | refine boo (fun h => ?_) (fun h => ?_) | refine ⟨i64 (by omega) (by omega), ?_⟩ | refine ⟨_, _, rfl, List.getElem?_eq_getElem (by omega), ?_⟩ | refine ⟨_, ⟨rfl, by omega⟩, ?_⟩ | refine ⟨_, List.getElem?_eq_getElem (by omega), ?_⟩ | refine rtB ?_ | refine rtI ?_ | refine rtC ?_ rfl | fail)
  refine XM.seq ?_
  (conv => whnf)
  refine cl [] [] (line_spec L hL a) (by (repeat' first | exact trivial | exact rfl | refine And.intro ?_ ?_); first | done | fail) (by first | exact trivial | exact rfl) ?_
  by_cases ha : ¬ kindOf L a = 3
  · rw [show ancP L a = ([], 9) by unfold ancP; rw [if_neg ha], show basesP L a b = ([], 9) by unfold basesP; rw [if_pos ha]]
    repeat' ((conv => whnf); first | (refine dec (fun h => ?_) (fun h => ?_) <;> try contradiction) | (refine decN (fun h => ?_) (fun h => ?_) <;> try contradiction) | refine booN (fun h => ?_) (fun h => ?_) | refine boo (fun h => ?_) (fun h => ?_) | refine ⟨i64 (by omega) (by omega), ?_⟩ | refine ⟨_, _, rfl, List.getElem?_eq_getElem (by omega), ?_⟩ | refine ⟨_, ⟨rfl, by omega⟩, ?_⟩ | refine ⟨_, List.getElem?_eq_getElem (by omega), ?_⟩ | refine rtB ?_ | refine rtI ?_ | refine rtC ?_ rfl | fail)
    refine XM.seq ?_
    (conv => whnf)
    refine rt [] [.new] (by repeat' first | exact trivial | exact rfl | refine And.intro ?_ ?_) rfl ⟨rfl, rfl⟩
  have ha : kindOf L a = 3 := Decidable.not_not.1 ha
  rw [show ancP L a = (ancL L a, 0) by unfold ancP; rw [if_pos ha]]
  repeat' ((conv => whnf); first | (refine dec (fun h => ?_) (fun h => ?_) <;> try contradiction) | (refine decN (fun h => ?_) (fun h => ?_) <;> try contradiction) | refine booN (fun h => ?_) (fun h => ?_) | refine boo (fun h => ?_) (fun h => ?_) | refine ⟨i64 (by omega) (by omega), ?_⟩ | refine ⟨_, _, rfl, List.getElem?_eq_getElem (by omega), ?_⟩ | refine ⟨_, ⟨rfl, by omega⟩, ?_⟩ | refine ⟨_, List.getElem?_eq_getElem (by omega), ?_⟩ | refine rtB ?_ | refine rtI ?_ | refine rtC ?_ rfl | fail)
  refine XM.seq ?_
  repeat' ((conv => whnf); first | (refine dec (fun h => ?_) (fun h => ?_) <;> try contradiction) | (refine decN (fun h => ?_) (fun h => ?_) <;> try contradiction) | refine booN (fun h => ?_) (fun h => ?_) | refine boo (fun h => ?_) (fun h => ?_) | refine ⟨i64 (by omega) (by omega), ?_⟩ | refine ⟨_, _, rfl, List.getElem?_eq_getElem (by omega), ?_⟩ | refine ⟨_, ⟨rfl, by omega⟩, ?_⟩ | refine ⟨_, List.getElem?_eq_getElem (by omega), ?_⟩ | refine rtB ?_ | refine rtI ?_ | refine rtC ?_ rfl | fail)
  refine XM.seq ?_
  (conv => whnf)
  refine cl [] [] (line_spec L hL b) (by (repeat' first | exact trivial | exact rfl | refine And.intro ?_ ?_); first | done | fail) (by first | exact trivial | exact rfl) ?_
  by_cases hbk : ¬ kindOf L b = 3
  · rw [show ancP L b = ([], 9) by unfold ancP; rw [if_neg hbk], show basesP L a b = ([], 9) by unfold basesP; rw [if_neg (by simpa using ha), if_pos (by simpa using hbk)]]
    repeat' ((conv => whnf); first | (refine dec (fun h => ?_) (fun h => ?_) <;> try contradiction) | (refine decN (fun h => ?_) (fun h => ?_) <;> try contradiction) | refine booN (fun h => ?_) (fun h => ?_) | refine boo (fun h => ?_) (fun h => ?_) | refine ⟨i64 (by omega) (by omega), ?_⟩ | refine ⟨_, _, rfl, List.getElem?_eq_getElem (by omega), ?_⟩ | refine ⟨_, ⟨rfl, by omega⟩, ?_⟩ | refine ⟨_, List.getElem?_eq_getElem (by omega), ?_⟩ | refine rtB ?_ | refine rtI ?_ | refine rtC ?_ rfl | fail)
    refine XM.seq ?_
    (conv => whnf)
    refine rt [] [.new] (by repeat' first | exact trivial | exact rfl | refine And.intro ?_ ?_) rfl ⟨rfl, rfl⟩
  have hbk : kindOf L b = 3 := Decidable.not_not.1 hbk
  rw [show ancP L b = (ancL L b, 0) by unfold ancP; rw [if_pos hbk], show basesP L a b = (tops L (baseC L a b), 0) by unfold basesP; rw [if_neg (by simpa using ha), if_neg (by simpa using hbk)]]
  repeat' ((conv => whnf); first | (refine dec (fun h => ?_) (fun h => ?_) <;> try contradiction) | (refine decN (fun h => ?_) (fun h => ?_) <;> try contradiction) | refine booN (fun h => ?_) (fun h => ?_) | refine boo (fun h => ?_) (fun h => ?_) | refine ⟨i64 (by omega) (by omega), ?_⟩ | refine ⟨_, _, rfl, List.getElem?_eq_getElem (by omega), ?_⟩ | refine ⟨_, ⟨rfl, by omega⟩, ?_⟩ | refine ⟨_, List.getElem?_eq_getElem (by omega), ?_⟩ | refine rtB ?_ | refine rtI ?_ | refine rtC ?_ rfl | fail)
  refine XM.seq ?_
  repeat' ((conv => whnf); first | (refine dec (fun h => ?_) (fun h => ?_) <;> try contradiction) | (refine decN (fun h => ?_) (fun h => ?_) <;> try contradiction) | refine booN (fun h => ?_) (fun h => ?_) | refine boo (fun h => ?_) (fun h => ?_) | refine ⟨i64 (by omega) (by omega), ?_⟩ | refine ⟨_, _, rfl, List.getElem?_eq_getElem (by omega), ?_⟩ | refine ⟨_, ⟨rfl, by omega⟩, ?_⟩ | refine ⟨_, List.getElem?_eq_getElem (by omega), ?_⟩ | refine rtB ?_ | refine rtI ?_ | refine rtC ?_ rfl | fail)
  refine XM.seq ?_
  repeat' ((conv => whnf); first | (refine dec (fun h => ?_) (fun h => ?_) <;> try contradiction) | (refine decN (fun h => ?_) (fun h => ?_) <;> try contradiction) | refine booN (fun h => ?_) (fun h => ?_) | refine boo (fun h => ?_) (fun h => ?_) | refine ⟨i64 (by omega) (by omega), ?_⟩ | refine ⟨_, _, rfl, List.getElem?_eq_getElem (by omega), ?_⟩ | refine ⟨_, ⟨rfl, by omega⟩, ?_⟩ | refine ⟨_, List.getElem?_eq_getElem (by omega), ?_⟩ | refine rtB ?_ | refine rtI ?_ | refine rtC ?_ rfl | fail)
  have hal : (ancL L a).length ≤ L.length := anc_len
  refine XM.join (ι := Unit) (fun _ => ⟨[(0, .c (.bp [.bs 6 Ob encOb L])), (11, .c (.rw 0)), (12, .c (.rw 1))], [.row 1 Int encI (baseC L a b), .row 1 Int encI []]⟩) (fun _ => True) ?_ (fun _ _ => ?_)
  · (conv => whnf)
    refine lp Nat (fun i => ⟨[(0, .c (.bp [.bs 6 Ob encOb L])), (8, .c (.rw 0)), (10, .c (.rw 1)), (11, .c (.rw 2)), (12, .c (.rw 3)), (13, .c (.int .i64 i))], [.row 1 Int encI (ancL L a), .row 1 Int encI (ancL L b), .row 1 Int encI (((ancL L a).take i).filter fun k => hasI (ancL L b) k), .row 1 Int encI []]⟩) (fun i => i ≤ (ancL L a).length ∧ True) (fun i => (ancL L a).length - i) 0 [] [.same 0, .same 1, .new, .new] ?_ ?_ (fun i hi => ?_)
    · simp
    · repeat' first | exact trivial | exact rfl | refine And.intro ?_ ?_
    have hfl := List.length_filter_le (fun k => hasI (ancL L b) k) ((ancL L a).take i)
    rw [List.length_take] at hfl
    (conv => whnf)
    refine dec (fun h4 => ?_) (fun h4 => ?_)
    · have hlt : i < (ancL L a).length := by have h4 : (i : Int) < (ancL L a).length := h4; omega
      have ho := base_step (L := L) (y := ancL L b) hlt
      (conv => whnf)
      refine ⟨i, ⟨rfl, hlt⟩, ?_⟩
      (conv => whnf)
      refine ⟨_, List.getElem?_eq_getElem hlt, ?_⟩
      (conv => whnf)
      refine cl [] [] (in_spec (ancL L b) (ancL L a)[i]) (by (repeat' first | exact trivial | exact rfl | refine And.intro ?_ ?_); first | done | fail) (by first | exact trivial | exact rfl) ?_
      rw [hasI_dec]
      (conv => whnf)
      refine boo (fun h => ?_) (fun h => ?_)
      · rw [if_pos h] at ho
        (conv => whnf)
        refine ⟨i, ⟨rfl, hlt⟩, ?_⟩
        (conv => whnf)
        refine ⟨_, List.getElem?_eq_getElem hlt, ?_⟩
        (conv => whnf)
        refine ⟨[(ancL L a)[i]], rfl, ?_⟩
        (conv => whnf)
        refine ⟨_, _, rfl, rfl, (by simp only [List.length_append, List.length_cons, List.length_nil]; omega), ?_⟩
        repeat' ((conv => whnf); first | (refine dec (fun h => ?_) (fun h => ?_) <;> try contradiction) | (refine decN (fun h => ?_) (fun h => ?_) <;> try contradiction) | refine booN (fun h => ?_) (fun h => ?_) | refine boo (fun h => ?_) (fun h => ?_) | refine ⟨i64 (by omega) (by omega), ?_⟩ | refine ⟨_, _, rfl, List.getElem?_eq_getElem (by omega), ?_⟩ | refine ⟨_, ⟨rfl, by omega⟩, ?_⟩ | refine ⟨_, List.getElem?_eq_getElem (by omega), ?_⟩ | refine rtB ?_ | refine rtI ?_ | refine rtC ?_ rfl | fail)
        refine ag (i + 1) [] [.same 0, .same 1, .same 5, .same 3] ⟨hlt, trivial⟩ (by simp only []; omega) ?_
        repeat' first | exact trivial | exact rfl | refine And.intro ?_ ?_
        rw [ho]; exact rfl
      · rw [if_neg (by simp [h]), List.append_nil] at ho
        repeat' ((conv => whnf); first | (refine dec (fun h => ?_) (fun h => ?_) <;> try contradiction) | (refine decN (fun h => ?_) (fun h => ?_) <;> try contradiction) | refine booN (fun h => ?_) (fun h => ?_) | refine boo (fun h => ?_) (fun h => ?_) | refine ⟨i64 (by omega) (by omega), ?_⟩ | refine ⟨_, _, rfl, List.getElem?_eq_getElem (by omega), ?_⟩ | refine ⟨_, ⟨rfl, by omega⟩, ?_⟩ | refine ⟨_, List.getElem?_eq_getElem (by omega), ?_⟩ | refine rtB ?_ | refine rtI ?_ | refine rtC ?_ rfl | fail)
        refine ag (i + 1) [] [.same 0, .same 1, .same 2, .same 3] ⟨hlt, trivial⟩ (by simp only []; omega) ?_
        repeat' first | exact trivial | exact rfl | refine And.intro ?_ ?_
        rw [ho]; exact rfl
    · have h4 : ¬ (i : Int) < (ancL L a).length := h4
      obtain rfl : i = (ancL L a).length := by omega
      rw [List.take_length]
      (conv => whnf)
      refine ⟨(), trivial, [], [.same 2, .same 3], ?_⟩
      repeat' first | exact trivial | exact rfl | refine And.intro ?_ ?_
  have hcr : (baseC L a b).Pairwise (· < ·) := base_rise
  have hcl : (baseC L a b).length ≤ L.length := baseC_len
  generalize baseC L a b = c at *
  refine XM.of ?_
  (conv => whnf)
  refine lp Nat (fun i => ⟨[(0, .c (.bp [.bs 6 Ob encOb L])), (11, .c (.rw 0)), (12, .c (.rw 1)), (14, .c (.int .i64 i))], [.row 1 Int encI c, .row 1 Int encI ((c.take i).filter fun k => !c.any fun m => decide (m ≠ k) && isP L k m)]⟩) (fun i => i ≤ c.length ∧ True) (fun i => c.length - i) 0 [] [.same 0, .same 1] ?_ ?_ (fun i hi => ?_)
  · simp
  · repeat' first | exact trivial | exact rfl | refine And.intro ?_ ?_
  (conv => whnf)
  refine dec (fun h4 => ?_) (fun h4 => ?_)
  · have hlt : i < c.length := by have h4 : (i : Int) < c.length := h4; omega
    have hst := tops_step (L := L) hlt
    have hsl := List.length_filter_le (fun k => !c.any fun m => decide (m ≠ k) && isP L k m) (c.take i)
    rw [List.length_take] at hsl
    (conv => whnf)
    refine lp Nat (fun j => ⟨[(0, .c (.bp [.bs 6 Ob encOb L])), (11, .c (.rw 0)), (12, .c (.rw 1)), (14, .c (.int .i64 i)), (15, .c (.bool (!((c.take j).any fun m => decide (m ≠ c[i]) && isP L c[i] m)))), (16, .c (.int .i64 j))], [.row 1 Int encI c, .row 1 Int encI ((c.take i).filter fun k => !c.any fun m => decide (m ≠ k) && isP L k m)]⟩) (fun j => j ≤ c.length ∧ True) (fun j => c.length - j) 0 [] [.same 0, .same 1] ?_ ?_ (fun j hj => ?_)
    · simp
    · repeat' first | exact trivial | exact rfl | refine And.intro ?_ ?_
    (conv => whnf)
    refine dec (fun h5 => ?_) (fun h5 => ?_)
    · have hjt : j < c.length := by have h5 : (j : Int) < c.length := h5; omega
      have hto : (c.take (j + 1)).any (fun m => decide (m ≠ c[i]) && isP L c[i] m) = ((c.take j).any (fun m => decide (m ≠ c[i]) && isP L c[i] m) || (decide (c[j] ≠ c[i]) && isP L c[i] c[j])) := by
        rw [List.take_succ_eq_append_getElem hjt, List.any_append, List.any_cons, List.any_nil, Bool.or_false]
      have hne := at_ne hcr hjt hlt
      (conv => whnf)
      refine ⟨false, (.l [0, 1, 2, 3, 4, 5, 6, 7, 8, 9, 10, 11, 12, 13, 14]), by kernel_rfl, .inl ?_⟩
      (conv => whnf)
      refine decN (fun hji => ?_) (fun hji => ?_)
      · have hji : c[j] ≠ c[i] := hne.1 (fun e => hji (by rw [e]))
        rw [decide_eq_true hji, Bool.true_and] at hto
        (conv => whnf)
        refine ⟨i, ⟨rfl, hlt⟩, ?_⟩
        (conv => whnf)
        refine ⟨_, List.getElem?_eq_getElem hlt, ?_⟩
        (conv => whnf)
        refine ⟨j, ⟨rfl, hjt⟩, ?_⟩
        (conv => whnf)
        refine ⟨_, List.getElem?_eq_getElem hjt, ?_⟩
        (conv => whnf)
        refine cl [] [] (isAhead_spec L hL c[i] c[j]) (by (repeat' first | exact trivial | exact rfl | refine And.intro ?_ ?_); first | done | fail) (by first | exact trivial | exact rfl) ?_
        (conv => whnf)
        refine boo (fun h => ?_) (fun h => ?_)
        · rw [h, Bool.or_true] at hto
          repeat' ((conv => whnf); first | (refine dec (fun h => ?_) (fun h => ?_) <;> try contradiction) | (refine decN (fun h => ?_) (fun h => ?_) <;> try contradiction) | refine booN (fun h => ?_) (fun h => ?_) | refine boo (fun h => ?_) (fun h => ?_) | refine ⟨i64 (by omega) (by omega), ?_⟩ | refine ⟨_, _, rfl, List.getElem?_eq_getElem (by omega), ?_⟩ | refine ⟨_, ⟨rfl, by omega⟩, ?_⟩ | refine ⟨_, List.getElem?_eq_getElem (by omega), ?_⟩ | refine rtB ?_ | refine rtI ?_ | refine rtC ?_ rfl | fail)
          refine ag (j + 1) [] [.same 0, .same 1] ⟨hjt, trivial⟩ (by simp only []; omega) ?_
          repeat' first | exact trivial | exact rfl | refine And.intro ?_ ?_
          rw [hto]; exact rfl
        · rw [h, Bool.or_false] at hto
          repeat' ((conv => whnf); first | (refine dec (fun h => ?_) (fun h => ?_) <;> try contradiction) | (refine decN (fun h => ?_) (fun h => ?_) <;> try contradiction) | refine booN (fun h => ?_) (fun h => ?_) | refine boo (fun h => ?_) (fun h => ?_) | refine ⟨i64 (by omega) (by omega), ?_⟩ | refine ⟨_, _, rfl, List.getElem?_eq_getElem (by omega), ?_⟩ | refine ⟨_, ⟨rfl, by omega⟩, ?_⟩ | refine ⟨_, List.getElem?_eq_getElem (by omega), ?_⟩ | refine rtB ?_ | refine rtI ?_ | refine rtC ?_ rfl | fail)
          refine ag (j + 1) [] [.same 0, .same 1] ⟨hjt, trivial⟩ (by simp only []; omega) ?_
          repeat' first | exact trivial | exact rfl | refine And.intro ?_ ?_
          rw [hto]; exact rfl
      · have hji : ¬ c[j] ≠ c[i] := fun h => hne.2 h (by omega)
        rw [decide_eq_false hji, Bool.false_and, Bool.or_false] at hto
        repeat' ((conv => whnf); first | (refine dec (fun h => ?_) (fun h => ?_) <;> try contradiction) | (refine decN (fun h => ?_) (fun h => ?_) <;> try contradiction) | refine booN (fun h => ?_) (fun h => ?_) | refine boo (fun h => ?_) (fun h => ?_) | refine ⟨i64 (by omega) (by omega), ?_⟩ | refine ⟨_, _, rfl, List.getElem?_eq_getElem (by omega), ?_⟩ | refine ⟨_, ⟨rfl, by omega⟩, ?_⟩ | refine ⟨_, List.getElem?_eq_getElem (by omega), ?_⟩ | refine rtB ?_ | refine rtI ?_ | refine rtC ?_ rfl | fail)
        refine ag (j + 1) [] [.same 0, .same 1] ⟨hjt, trivial⟩ (by simp only []; omega) ?_
        repeat' first | exact trivial | exact rfl | refine And.intro ?_ ?_
        rw [hto]; exact rfl
    · have h5 : ¬ (j : Int) < c.length := h5
      obtain rfl : j = c.length := by omega
      rw [List.take_length]
      (conv => whnf)
      refine boo (fun h => ?_) (fun h => ?_)
      · have h : (c.any fun m => decide (m ≠ c[i]) && isP L c[i] m) = false := by simpa using h
        rw [h, if_neg (by decide)] at hst
        (conv => whnf)
        refine ⟨i, ⟨rfl, hlt⟩, ?_⟩
        (conv => whnf)
        refine ⟨_, List.getElem?_eq_getElem hlt, ?_⟩
        (conv => whnf)
        refine ⟨[c[i]], rfl, ?_⟩
        (conv => whnf)
        refine ⟨_, _, rfl, rfl, (by simp only [List.length_append, List.length_cons, List.length_nil]; omega), ?_⟩
        repeat' ((conv => whnf); first | (refine dec (fun h => ?_) (fun h => ?_) <;> try contradiction) | (refine decN (fun h => ?_) (fun h => ?_) <;> try contradiction) | refine booN (fun h => ?_) (fun h => ?_) | refine boo (fun h => ?_) (fun h => ?_) | refine ⟨i64 (by omega) (by omega), ?_⟩ | refine ⟨_, _, rfl, List.getElem?_eq_getElem (by omega), ?_⟩ | refine ⟨_, ⟨rfl, by omega⟩, ?_⟩ | refine ⟨_, List.getElem?_eq_getElem (by omega), ?_⟩ | refine rtB ?_ | refine rtI ?_ | refine rtC ?_ rfl | fail)
        refine ag (i + 1) [] [.same 0, .same 3] ⟨hlt, trivial⟩ (by simp only []; omega) ?_
        repeat' first | exact trivial | exact rfl | refine And.intro ?_ ?_
        rw [hst]; exact rfl
      · have h : (c.any fun m => decide (m ≠ c[i]) && isP L c[i] m) = true := by simpa using h
        rw [h, if_pos rfl, List.append_nil] at hst
        repeat' ((conv => whnf); first | (refine dec (fun h => ?_) (fun h => ?_) <;> try contradiction) | (refine decN (fun h => ?_) (fun h => ?_) <;> try contradiction) | refine booN (fun h => ?_) (fun h => ?_) | refine boo (fun h => ?_) (fun h => ?_) | refine ⟨i64 (by omega) (by omega), ?_⟩ | refine ⟨_, _, rfl, List.getElem?_eq_getElem (by omega), ?_⟩ | refine ⟨_, ⟨rfl, by omega⟩, ?_⟩ | refine ⟨_, List.getElem?_eq_getElem (by omega), ?_⟩ | refine rtB ?_ | refine rtI ?_ | refine rtC ?_ rfl | fail)
        refine ag (i + 1) [] [.same 0, .same 1] ⟨hlt, trivial⟩ (by simp only []; omega) ?_
        repeat' first | exact trivial | exact rfl | refine And.intro ?_ ?_
        rw [hst]; exact rfl
  · have h4 : ¬ (i : Int) < c.length := h4
    obtain rfl : i = c.length := by omega
    rw [List.take_length]
    (conv => whnf)
    refine rt [] [.same 1] (by repeat' first | exact trivial | exact rfl | refine And.intro ?_ ?_) rfl ⟨rfl, rfl⟩
end Go.Nest
