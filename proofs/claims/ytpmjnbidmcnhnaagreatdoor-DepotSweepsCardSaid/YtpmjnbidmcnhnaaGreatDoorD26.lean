/- part -/
import Derived.Test.YtpmjnbidmcnhnaaGreatDoorD17
import Derived.Test.YtpmjnbidmcnhnaaGreatDoorD24
import Derived.Test.YtpmjnbidmcnhnaaGreatDoorG1b
set_option linter.unusedVariables false
set_option linter.unusedSimpArgs false
section

namespace Go.Nest
open Go Go.AM Go.Proofs
open Go.Proofs.YtpmjnbidmcnhnaaGreatDoor (tab tabOk)
set_option maxRecDepth 4000
noncomputable def kpR (b need : Nat → List Int) (q : Nat) (y : Int) (r : Nat) : Bool := (List.range r).any fun r : Nat => decide ((q : Int) ∈ lendP b r) && decide (y ∈ need r)
theorem kpR_succ {b need : Nat → List Int} {q : Nat} {y : Int} {r : Nat} : kpR b need q y (r + 1) = (kpR b need q y r || (decide ((q : Int) ∈ lendP b r) && decide (y ∈ need r))) := by
 unfold kpR
 rw [List.range_succ, List.any_append]; simp
theorem filt_one {α : Type} {p : α → Bool} {l : List α} {i : Nat} (h : i < l.length) : (l.take (i + 1)).filter p = (l.take i).filter p ++ if p l[i] = true then [l[i]] else [] := by
 rw [List.take_succ_eq_append_getElem h, List.filter_append, List.filter_cons]
 rfl
theorem swq_next {w sw x : Nat → List Int} {q q' : Nat} (e : q' = q) (hq : q < 4) (hx : ∀ j, j < 4 → x j = if j < q then sw j else w j) : ∀ j, j < 4 → upd x q' (sw q') j = if j < q' + 1 then sw j else w j := by
 subst e
 intro j hj
 by_cases e : j = q'
 ·subst e; rw [upd_at, if_pos (by omega)]
 ·rw [upd_ne e, hx j hj]
  by_cases h : j < q'
  ·rw [if_pos h, if_pos (by omega)]
  ·rw [if_neg h, if_neg (by omega)]
set_option maxHeartbeats 20000000 in
theorem sweep_rspec (L : List Ob) (hL : PoolOk L) (w b r0 : Nat → List Int) (hb4 : BorOk b) (hw : ∀ k, k < 4 → (w k).length ≤ 10000) (hr0 : ∀ r, r < 4 → (r0 r).length ≤ 100000) : Does Tryz.prog 58 [.c (.ptr 0 0), .st [.bs 1 Int encI (r0 0), .bs 1 Int encI (r0 1), .bs 1 Int encI (r0 2), .bs 1 Int encI (r0 3)]] [.box [.ptr 1 0, .rw 3, .rw 4, .rw 5, .rw 6, .rw 7, .rw 8, .rw 9, .rw 10], .box [.rw 2], .row 6 Ob encOb L, .row 1 Int encI (w 0), .row 1 Int encI (w 1), .row 1 Int encI (w 2), .row 1 Int encI (w 3), .row 1 Int encI (b 0), .row 1 Int encI (b 1), .row 1 Int encI (b 2), .row 1 Int encI (b 3)] (Rt (.tup []) [.box [.ptr 1 0, .rw 11, .rw 12, .rw 13, .rw 14, .rw 7, .rw 8, .rw 9, .rw 10], .box [.rw 2], .row 6 Ob encOb L, .dead, .dead, .dead, .dead, .row 1 Int encI (b 0), .row 1 Int encI (b 1), .row 1 Int encI (b 2), .row 1 Int encI (b 3), .row 1 Int encI ((sweepR L w b r0) 0), .row 1 Int encI ((sweepR L w b r0) 1), .row 1 Int encI ((sweepR L w b r0) 2), .row 1 Int encI ((sweepR L w b r0) 3)]) := by
 have p1 := need_rspec L hL w b r0 hr0
 have hsw : ∀ q, sweepR L w b r0 q = (w q).filter fun k => keepB b (needP L r0) q k := fun q => rfl
 generalize sweepR L w b r0 = sw at hsw ⊢
 generalize needP L r0 = need at p1 hsw
 refine X_spec (n := 73) (n0 := 11) tabOk Tryz.call58 Tryz.func58 ?_
 intro hb
 (conv => whnf)
 refine cl [] [] (p1) ?_
 (conv => whnf)
 refine lp (Nat × (Nat → List Int)) (fun p => ⟨[(0, .c (.ptr 0 0)), (4, .c (.ptr 15 0)), (5, .c (.int .i64 p.1))], [.box [.ptr 1 0, .rw 11, .rw 12, .rw 13, .rw 14, .rw 7, .rw 8, .rw 9, .rw 10], .box [.rw 2], .row 6 Ob encOb L, .dead, .dead, .dead, .dead, .row 1 Int encI (b 0), .row 1 Int encI (b 1), .row 1 Int encI (b 2), .row 1 Int encI (b 3), .row 1 Int encI (p.2 0), .row 1 Int encI (p.2 1), .row 1 Int encI (p.2 2), .row 1 Int encI (p.2 3), .box [.ls 1 Int encI (need 0), .ls 1 Int encI (need 1), .ls 1 Int encI (need 2), .ls 1 Int encI (need 3)]]⟩) (fun p => (p.1 ≤ 4 ∧ ∀ j, j < 4 → p.2 j = if j < p.1 then sw j else w j) ∧ True) (fun p => 4 - p.1) (0, w) [] [.same 0, .same 1, .same 2, .same 3, .same 4, .same 5, .same 6, .same 7, .same 8, .same 9, .same 10, .same 3, .same 4, .same 5, .same 6, .same 12] ⟨⟨Nat.zero_le _, fun j hj => by rw [if_neg (Nat.not_lt_zero _)]⟩, trivial⟩ ?_ (fun ⟨q, x⟩ hx => ?_)
 ·repeat' first | exact trivial | exact rfl | refine And.intro ?_ ?_
 obtain ⟨⟨hq4, hx⟩, -⟩ := hx
 have hx : ∀ j, j < 4 → x j = if j < q then sw j else w j := hx
 (conv => whnf)
 refine dec (fun h4 => ?_) (fun h4 => ?_)
 ·have hq : q < 4 := by have h4 : (q : Int) < 4 := h4; omega
  have hup := fun q' (e : q' = q) => swq_next (w := w) (sw := sw) e hq hx
  rcases four hq with rfl | rfl | rfl | rfl
  ·have hxq : x 0 = w 0 := by rw [hx 0 (by decide), if_neg (by decide)]
   have hwl := hw 0 (by decide)
   have hswq := hsw 0
   rw [← hxq] at hwl hswq
   (conv => whnf)
   refine lp Nat (fun i => ⟨[(0, .c (.ptr 0 0)), (4, .c (.ptr 15 0)), (5, .c (.int .i64 (0 : Nat))), (6, .c (.rw 16)), (7, .c (.int .i64 i))], [.box [.ptr 1 0, .rw 11, .rw 12, .rw 13, .rw 14, .rw 7, .rw 8, .rw 9, .rw 10], .box [.rw 2], .row 6 Ob encOb L, .dead, .dead, .dead, .dead, .row 1 Int encI (b 0), .row 1 Int encI (b 1), .row 1 Int encI (b 2), .row 1 Int encI (b 3), .row 1 Int encI (x 0), .row 1 Int encI (x 1), .row 1 Int encI (x 2), .row 1 Int encI (x 3), .box [.ls 1 Int encI (need 0), .ls 1 Int encI (need 1), .ls 1 Int encI (need 2), .ls 1 Int encI (need 3)], .row 1 Int encI (((x 0).take i).filter fun k => keepB b need 0 k)]⟩) (fun i => i ≤ (x 0).length ∧ True) (fun i => (x 0).length - i) 0 [] [.same 0, .same 1, .same 2, .same 3, .same 4, .same 5, .same 6, .same 7, .same 8, .same 9, .same 10, .same 11, .same 12, .same 13, .same 14, .same 15, .new] ⟨Nat.zero_le _, trivial⟩ ?_ (fun i hi => ?_)
   ·repeat' first | exact trivial | exact rfl | refine And.intro ?_ ?_
   obtain ⟨hi, -⟩ := hi
   (conv => whnf)
   refine ⟨0, ⟨rfl, by decide⟩, ?_⟩
   (conv => whnf)
   refine dec (fun h5 => ?_) (fun h5 => ?_)
   ·have hlt : i < (x 0).length := by have h5 : (i : Int) < (x 0).length := h5; omega
    have hiy : (x 0)[i]? = some (x 0)[i] := List.getElem?_eq_getElem hlt
    have hst := filt_one (p := fun k => keepB b need 0 k) hlt
    have hol : (((x 0).take i).filter fun k => keepB b need 0 k).length ≤ i := Nat.le_trans (List.length_filter_le _ _) (by rw [List.length_take]; omega)
    generalize ((x 0).take i).filter (fun k => keepB b need 0 k) = out at hst hol ⊢
    generalize (x 0)[i] = y at hiy hst
    (conv => whnf)
    refine lp Nat (fun r => ⟨[(0, .c (.ptr 0 0)), (4, .c (.ptr 15 0)), (5, .c (.int .i64 (0 : Nat))), (6, .c (.rw 16)), (7, .c (.int .i64 i)), (8, .c (.bool (kpR b need 0 y r))), (9, .c (.int .i64 r))], [.box [.ptr 1 0, .rw 11, .rw 12, .rw 13, .rw 14, .rw 7, .rw 8, .rw 9, .rw 10], .box [.rw 2], .row 6 Ob encOb L, .dead, .dead, .dead, .dead, .row 1 Int encI (b 0), .row 1 Int encI (b 1), .row 1 Int encI (b 2), .row 1 Int encI (b 3), .row 1 Int encI (x 0), .row 1 Int encI (x 1), .row 1 Int encI (x 2), .row 1 Int encI (x 3), .box [.ls 1 Int encI (need 0), .ls 1 Int encI (need 1), .ls 1 Int encI (need 2), .ls 1 Int encI (need 3)], .row 1 Int encI out]⟩) (fun r => r ≤ 4 ∧ True) (fun r => 4 - r) 0 [] [.same 0, .same 1, .same 2, .same 3, .same 4, .same 5, .same 6, .same 7, .same 8, .same 9, .same 10, .same 11, .same 12, .same 13, .same 14, .same 15, .same 16] ⟨Nat.zero_le _, trivial⟩ ?_ (fun r hr => ?_)
    ·repeat' first | exact trivial | exact rfl | refine And.intro ?_ ?_
    obtain ⟨hr4, -⟩ := hr
    (conv => whnf)
    refine dec (fun h6 => ?_) (fun h6 => ?_)
    ·have hr : r < 4 := by have h6 : (r : Int) < 4 := h6; omega
     have hk2 := kpR_succ (b := b) (need := need) (q := 0) (y := y) (r := r)
     have p2 := lends_spec L x b hb4 (0 : Nat) r (isR_iff.2 ⟨r, hr, rfl⟩)
     have p3 := in_spec (need r) y
     generalize kpR b need 0 y r = kp at hk2 ⊢
     generalize decide (((0 : Nat) : Int) ∈ lendP b r) = ld at p2 hk2
     generalize decide (y ∈ need r) = nd at p3 hk2
     (conv => whnf)
     refine ⟨false, .grow, (.l [0, 1, 2, 3, 4, 5, 6, 7, 8, 9, 10, 11, 12, 13, 14, 15, 16, 17, 18, 19, 20, 21, 22]), by kernel_rfl, .inl ?_⟩
     (conv => whnf)
     refine boo (fun h7 => ?_) (fun h7 => ?_)
     ·have h7 : kp = true := h7
      (conv => whnf)
      rw [h7, Bool.true_or] at hk2
      repeat' ((conv => whnf); refine I6 ?_)
      refine ag _ [] [.same 0, .same 1, .same 2, .same 3, .same 4, .same 5, .same 6, .same 7, .same 8, .same 9, .same 10, .same 11, .same 12, .same 13, .same 14, .same 15, .same 16] ⟨hr, trivial⟩ (by simp only []; omega) ?_
      rw [hk2]
      repeat' first | exact trivial | exact rfl | refine And.intro ?_ ?_
     ·have h7 : kp = false := h7
      rw [h7, Bool.false_or] at hk2
      (conv => whnf)
      refine cl [] [] (p2) ?_
      (conv => whnf)
      refine boo (fun h8 => ?_) (fun h8 => ?_)
      ·have h8 : ld = true := h8
       rw [h8, Bool.true_and] at hk2
       (conv => whnf)
       rcases four hr with rfl | rfl | rfl | rfl <;> (
        (conv => whnf)
        refine ⟨_, ⟨rfl, by decide⟩, ?_⟩
        (conv => whnf)
        refine ⟨0, ⟨rfl, by decide⟩, ?_⟩
        (conv => whnf)
        refine ⟨i, ⟨rfl, hlt⟩, ?_⟩
        (conv => whnf)
        refine ⟨y, hiy, ?_⟩
        (conv => whnf)
        refine cl [] [] (p3) ?_
        repeat' ((conv => whnf); refine I6 ?_)
        refine ag _ [] [.same 0, .same 1, .same 2, .same 3, .same 4, .same 5, .same 6, .same 7, .same 8, .same 9, .same 10, .same 11, .same 12, .same 13, .same 14, .same 15, .same 16] ⟨hr, trivial⟩ (by simp only []; omega) ?_
        rw [hk2]
        repeat' first | exact trivial | exact rfl | refine And.intro ?_ ?_)
      ·have h8 : ld = false := h8
       rw [h8, Bool.false_and] at hk2
       repeat' ((conv => whnf); refine I6 ?_)
       refine ag _ [] [.same 0, .same 1, .same 2, .same 3, .same 4, .same 5, .same 6, .same 7, .same 8, .same 9, .same 10, .same 11, .same 12, .same 13, .same 14, .same 15, .same 16] ⟨hr, trivial⟩ (by simp only []; omega) ?_
       rw [hk2]
       repeat' first | exact trivial | exact rfl | refine And.intro ?_ ?_
    ·obtain rfl : r = 4 := by have h6 : ¬ (r : Int) < 4 := h6; omega
     have hke : kpR b need 0 y 4 = keepB b need 0 y := rfl
     rw [hke]
     generalize keepB b need 0 y = kp at hst ⊢
     (conv => whnf)
     refine boo (fun h7 => ?_) (fun h7 => ?_)
     ·have h7 : kp = true := h7
      rw [if_pos h7] at hst
      (conv => whnf)
      refine ⟨0, ⟨rfl, by decide⟩, ?_⟩
      (conv => whnf)
      refine ⟨i, ⟨rfl, hlt⟩, ?_⟩
      (conv => whnf)
      refine ⟨y, hiy, ?_⟩
      (conv => whnf)
      refine ⟨[y], rfl, ?_⟩
      (conv => whnf)
      refine ⟨_, _, rfl, rfl, (by simp only [List.length_append, List.length_cons, List.length_nil]; omega), ?_⟩
      repeat' ((conv => whnf); refine I6 ?_)
      refine ag (i + 1) [] [.same 0, .same 1, .same 2, .same 3, .same 4, .same 5, .same 6, .same 7, .same 8, .same 9, .same 10, .same 11, .same 12, .same 13, .same 14, .same 15, .same 18] ⟨hlt, trivial⟩ (by simp only []; omega) ?_
      rw [hst]
      repeat' first | exact trivial | exact rfl | refine And.intro ?_ ?_
     ·have h7 : ¬ kp = true := by have h7 : kp = false := h7; rw [h7]; decide
      rw [if_neg h7, List.append_nil] at hst
      repeat' ((conv => whnf); refine I6 ?_)
      refine ag (i + 1) [] [.same 0, .same 1, .same 2, .same 3, .same 4, .same 5, .same 6, .same 7, .same 8, .same 9, .same 10, .same 11, .same 12, .same 13, .same 14, .same 15, .same 16] ⟨hlt, trivial⟩ (by simp only []; omega) ?_
      rw [hst]
      repeat' first | exact trivial | exact rfl | refine And.intro ?_ ?_
   ·obtain rfl : i = (x 0).length := by have h5 : ¬ (i : Int) < (x 0).length := h5; omega
    rw [List.take_length, ← hswq]
    (conv => whnf)
    refine ⟨0, ⟨rfl, by decide⟩, ?_⟩
    repeat' ((conv => whnf); refine I6 ?_)
    refine ag (0 + 1, upd x 0 (sw 0)) [] [.same 0, .same 1, .same 2, .same 3, .same 4, .same 5, .same 6, .same 7, .same 8, .same 9, .same 10, .same 16, .same 12, .same 13, .same 14, .same 15] ⟨⟨(by show 0 + 1 ≤ 4; decide), hup _ rfl⟩, trivial⟩ (by simp only []; omega) ?_
    repeat' first | exact trivial | exact rfl | refine And.intro ?_ ?_
  ·have hxq : x 1 = w 1 := by rw [hx 1 (by decide), if_neg (by decide)]
   have hwl := hw 1 (by decide)
   have hswq := hsw 1
   rw [← hxq] at hwl hswq
   (conv => whnf)
   refine lp Nat (fun i => ⟨[(0, .c (.ptr 0 0)), (4, .c (.ptr 15 0)), (5, .c (.int .i64 (1 : Nat))), (6, .c (.rw 16)), (7, .c (.int .i64 i))], [.box [.ptr 1 0, .rw 11, .rw 12, .rw 13, .rw 14, .rw 7, .rw 8, .rw 9, .rw 10], .box [.rw 2], .row 6 Ob encOb L, .dead, .dead, .dead, .dead, .row 1 Int encI (b 0), .row 1 Int encI (b 1), .row 1 Int encI (b 2), .row 1 Int encI (b 3), .row 1 Int encI (x 0), .row 1 Int encI (x 1), .row 1 Int encI (x 2), .row 1 Int encI (x 3), .box [.ls 1 Int encI (need 0), .ls 1 Int encI (need 1), .ls 1 Int encI (need 2), .ls 1 Int encI (need 3)], .row 1 Int encI (((x 1).take i).filter fun k => keepB b need 1 k)]⟩) (fun i => i ≤ (x 1).length ∧ True) (fun i => (x 1).length - i) 0 [] [.same 0, .same 1, .same 2, .same 3, .same 4, .same 5, .same 6, .same 7, .same 8, .same 9, .same 10, .same 11, .same 12, .same 13, .same 14, .same 15, .new] ⟨Nat.zero_le _, trivial⟩ ?_ (fun i hi => ?_)
   ·repeat' first | exact trivial | exact rfl | refine And.intro ?_ ?_
   obtain ⟨hi, -⟩ := hi
   (conv => whnf)
   refine ⟨1, ⟨rfl, by decide⟩, ?_⟩
   (conv => whnf)
   refine dec (fun h5 => ?_) (fun h5 => ?_)
   ·have hlt : i < (x 1).length := by have h5 : (i : Int) < (x 1).length := h5; omega
    have hiy : (x 1)[i]? = some (x 1)[i] := List.getElem?_eq_getElem hlt
    have hst := filt_one (p := fun k => keepB b need 1 k) hlt
    have hol : (((x 1).take i).filter fun k => keepB b need 1 k).length ≤ i := Nat.le_trans (List.length_filter_le _ _) (by rw [List.length_take]; omega)
    generalize ((x 1).take i).filter (fun k => keepB b need 1 k) = out at hst hol ⊢
    generalize (x 1)[i] = y at hiy hst
    (conv => whnf)
    refine lp Nat (fun r => ⟨[(0, .c (.ptr 0 0)), (4, .c (.ptr 15 0)), (5, .c (.int .i64 (1 : Nat))), (6, .c (.rw 16)), (7, .c (.int .i64 i)), (8, .c (.bool (kpR b need 1 y r))), (9, .c (.int .i64 r))], [.box [.ptr 1 0, .rw 11, .rw 12, .rw 13, .rw 14, .rw 7, .rw 8, .rw 9, .rw 10], .box [.rw 2], .row 6 Ob encOb L, .dead, .dead, .dead, .dead, .row 1 Int encI (b 0), .row 1 Int encI (b 1), .row 1 Int encI (b 2), .row 1 Int encI (b 3), .row 1 Int encI (x 0), .row 1 Int encI (x 1), .row 1 Int encI (x 2), .row 1 Int encI (x 3), .box [.ls 1 Int encI (need 0), .ls 1 Int encI (need 1), .ls 1 Int encI (need 2), .ls 1 Int encI (need 3)], .row 1 Int encI out]⟩) (fun r => r ≤ 4 ∧ True) (fun r => 4 - r) 0 [] [.same 0, .same 1, .same 2, .same 3, .same 4, .same 5, .same 6, .same 7, .same 8, .same 9, .same 10, .same 11, .same 12, .same 13, .same 14, .same 15, .same 16] ⟨Nat.zero_le _, trivial⟩ ?_ (fun r hr => ?_)
    ·repeat' first | exact trivial | exact rfl | refine And.intro ?_ ?_
    obtain ⟨hr4, -⟩ := hr
    (conv => whnf)
    refine dec (fun h6 => ?_) (fun h6 => ?_)
    ·have hr : r < 4 := by have h6 : (r : Int) < 4 := h6; omega
     have hk2 := kpR_succ (b := b) (need := need) (q := 1) (y := y) (r := r)
     have p2 := lends_spec L x b hb4 (1 : Nat) r (isR_iff.2 ⟨r, hr, rfl⟩)
     have p3 := in_spec (need r) y
     generalize kpR b need 1 y r = kp at hk2 ⊢
     generalize decide (((1 : Nat) : Int) ∈ lendP b r) = ld at p2 hk2
     generalize decide (y ∈ need r) = nd at p3 hk2
     (conv => whnf)
     refine ⟨false, .grow, (.l [0, 1, 2, 3, 4, 5, 6, 7, 8, 9, 10, 11, 12, 13, 14, 15, 16, 17, 18, 19, 20, 21, 22]), by kernel_rfl, .inl ?_⟩
     (conv => whnf)
     refine boo (fun h7 => ?_) (fun h7 => ?_)
     ·have h7 : kp = true := h7
      (conv => whnf)
      rw [h7, Bool.true_or] at hk2
      repeat' ((conv => whnf); refine I6 ?_)
      refine ag _ [] [.same 0, .same 1, .same 2, .same 3, .same 4, .same 5, .same 6, .same 7, .same 8, .same 9, .same 10, .same 11, .same 12, .same 13, .same 14, .same 15, .same 16] ⟨hr, trivial⟩ (by simp only []; omega) ?_
      rw [hk2]
      repeat' first | exact trivial | exact rfl | refine And.intro ?_ ?_
     ·have h7 : kp = false := h7
      rw [h7, Bool.false_or] at hk2
      (conv => whnf)
      refine cl [] [] (p2) ?_
      (conv => whnf)
      refine boo (fun h8 => ?_) (fun h8 => ?_)
      ·have h8 : ld = true := h8
       rw [h8, Bool.true_and] at hk2
       (conv => whnf)
       rcases four hr with rfl | rfl | rfl | rfl <;> (
        (conv => whnf)
        refine ⟨_, ⟨rfl, by decide⟩, ?_⟩
        (conv => whnf)
        refine ⟨1, ⟨rfl, by decide⟩, ?_⟩
        (conv => whnf)
        refine ⟨i, ⟨rfl, hlt⟩, ?_⟩
        (conv => whnf)
        refine ⟨y, hiy, ?_⟩
        (conv => whnf)
        refine cl [] [] (p3) ?_
        repeat' ((conv => whnf); refine I6 ?_)
        refine ag _ [] [.same 0, .same 1, .same 2, .same 3, .same 4, .same 5, .same 6, .same 7, .same 8, .same 9, .same 10, .same 11, .same 12, .same 13, .same 14, .same 15, .same 16] ⟨hr, trivial⟩ (by simp only []; omega) ?_
        rw [hk2]
        repeat' first | exact trivial | exact rfl | refine And.intro ?_ ?_)
      ·have h8 : ld = false := h8
       rw [h8, Bool.false_and] at hk2
       repeat' ((conv => whnf); refine I6 ?_)
       refine ag _ [] [.same 0, .same 1, .same 2, .same 3, .same 4, .same 5, .same 6, .same 7, .same 8, .same 9, .same 10, .same 11, .same 12, .same 13, .same 14, .same 15, .same 16] ⟨hr, trivial⟩ (by simp only []; omega) ?_
       rw [hk2]
       repeat' first | exact trivial | exact rfl | refine And.intro ?_ ?_
    ·obtain rfl : r = 4 := by have h6 : ¬ (r : Int) < 4 := h6; omega
     have hke : kpR b need 1 y 4 = keepB b need 1 y := rfl
     rw [hke]
     generalize keepB b need 1 y = kp at hst ⊢
     (conv => whnf)
     refine boo (fun h7 => ?_) (fun h7 => ?_)
     ·have h7 : kp = true := h7
      rw [if_pos h7] at hst
      (conv => whnf)
      refine ⟨1, ⟨rfl, by decide⟩, ?_⟩
      (conv => whnf)
      refine ⟨i, ⟨rfl, hlt⟩, ?_⟩
      (conv => whnf)
      refine ⟨y, hiy, ?_⟩
      (conv => whnf)
      refine ⟨[y], rfl, ?_⟩
      (conv => whnf)
      refine ⟨_, _, rfl, rfl, (by simp only [List.length_append, List.length_cons, List.length_nil]; omega), ?_⟩
      repeat' ((conv => whnf); refine I6 ?_)
      refine ag (i + 1) [] [.same 0, .same 1, .same 2, .same 3, .same 4, .same 5, .same 6, .same 7, .same 8, .same 9, .same 10, .same 11, .same 12, .same 13, .same 14, .same 15, .same 18] ⟨hlt, trivial⟩ (by simp only []; omega) ?_
      rw [hst]
      repeat' first | exact trivial | exact rfl | refine And.intro ?_ ?_
     ·have h7 : ¬ kp = true := by have h7 : kp = false := h7; rw [h7]; decide
      rw [if_neg h7, List.append_nil] at hst
      repeat' ((conv => whnf); refine I6 ?_)
      refine ag (i + 1) [] [.same 0, .same 1, .same 2, .same 3, .same 4, .same 5, .same 6, .same 7, .same 8, .same 9, .same 10, .same 11, .same 12, .same 13, .same 14, .same 15, .same 16] ⟨hlt, trivial⟩ (by simp only []; omega) ?_
      rw [hst]
      repeat' first | exact trivial | exact rfl | refine And.intro ?_ ?_
   ·obtain rfl : i = (x 1).length := by have h5 : ¬ (i : Int) < (x 1).length := h5; omega
    rw [List.take_length, ← hswq]
    (conv => whnf)
    refine ⟨1, ⟨rfl, by decide⟩, ?_⟩
    repeat' ((conv => whnf); refine I6 ?_)
    refine ag (1 + 1, upd x 1 (sw 1)) [] [.same 0, .same 1, .same 2, .same 3, .same 4, .same 5, .same 6, .same 7, .same 8, .same 9, .same 10, .same 11, .same 16, .same 13, .same 14, .same 15] ⟨⟨(by show 1 + 1 ≤ 4; decide), hup _ rfl⟩, trivial⟩ (by simp only []; omega) ?_
    repeat' first | exact trivial | exact rfl | refine And.intro ?_ ?_
  ·have hxq : x 2 = w 2 := by rw [hx 2 (by decide), if_neg (by decide)]
   have hwl := hw 2 (by decide)
   have hswq := hsw 2
   rw [← hxq] at hwl hswq
   (conv => whnf)
   refine lp Nat (fun i => ⟨[(0, .c (.ptr 0 0)), (4, .c (.ptr 15 0)), (5, .c (.int .i64 (2 : Nat))), (6, .c (.rw 16)), (7, .c (.int .i64 i))], [.box [.ptr 1 0, .rw 11, .rw 12, .rw 13, .rw 14, .rw 7, .rw 8, .rw 9, .rw 10], .box [.rw 2], .row 6 Ob encOb L, .dead, .dead, .dead, .dead, .row 1 Int encI (b 0), .row 1 Int encI (b 1), .row 1 Int encI (b 2), .row 1 Int encI (b 3), .row 1 Int encI (x 0), .row 1 Int encI (x 1), .row 1 Int encI (x 2), .row 1 Int encI (x 3), .box [.ls 1 Int encI (need 0), .ls 1 Int encI (need 1), .ls 1 Int encI (need 2), .ls 1 Int encI (need 3)], .row 1 Int encI (((x 2).take i).filter fun k => keepB b need 2 k)]⟩) (fun i => i ≤ (x 2).length ∧ True) (fun i => (x 2).length - i) 0 [] [.same 0, .same 1, .same 2, .same 3, .same 4, .same 5, .same 6, .same 7, .same 8, .same 9, .same 10, .same 11, .same 12, .same 13, .same 14, .same 15, .new] ⟨Nat.zero_le _, trivial⟩ ?_ (fun i hi => ?_)
   ·repeat' first | exact trivial | exact rfl | refine And.intro ?_ ?_
   obtain ⟨hi, -⟩ := hi
   (conv => whnf)
   refine ⟨2, ⟨rfl, by decide⟩, ?_⟩
   (conv => whnf)
   refine dec (fun h5 => ?_) (fun h5 => ?_)
   ·have hlt : i < (x 2).length := by have h5 : (i : Int) < (x 2).length := h5; omega
    have hiy : (x 2)[i]? = some (x 2)[i] := List.getElem?_eq_getElem hlt
    have hst := filt_one (p := fun k => keepB b need 2 k) hlt
    have hol : (((x 2).take i).filter fun k => keepB b need 2 k).length ≤ i := Nat.le_trans (List.length_filter_le _ _) (by rw [List.length_take]; omega)
    generalize ((x 2).take i).filter (fun k => keepB b need 2 k) = out at hst hol ⊢
    generalize (x 2)[i] = y at hiy hst
    (conv => whnf)
    refine lp Nat (fun r => ⟨[(0, .c (.ptr 0 0)), (4, .c (.ptr 15 0)), (5, .c (.int .i64 (2 : Nat))), (6, .c (.rw 16)), (7, .c (.int .i64 i)), (8, .c (.bool (kpR b need 2 y r))), (9, .c (.int .i64 r))], [.box [.ptr 1 0, .rw 11, .rw 12, .rw 13, .rw 14, .rw 7, .rw 8, .rw 9, .rw 10], .box [.rw 2], .row 6 Ob encOb L, .dead, .dead, .dead, .dead, .row 1 Int encI (b 0), .row 1 Int encI (b 1), .row 1 Int encI (b 2), .row 1 Int encI (b 3), .row 1 Int encI (x 0), .row 1 Int encI (x 1), .row 1 Int encI (x 2), .row 1 Int encI (x 3), .box [.ls 1 Int encI (need 0), .ls 1 Int encI (need 1), .ls 1 Int encI (need 2), .ls 1 Int encI (need 3)], .row 1 Int encI out]⟩) (fun r => r ≤ 4 ∧ True) (fun r => 4 - r) 0 [] [.same 0, .same 1, .same 2, .same 3, .same 4, .same 5, .same 6, .same 7, .same 8, .same 9, .same 10, .same 11, .same 12, .same 13, .same 14, .same 15, .same 16] ⟨Nat.zero_le _, trivial⟩ ?_ (fun r hr => ?_)
    ·repeat' first | exact trivial | exact rfl | refine And.intro ?_ ?_
    obtain ⟨hr4, -⟩ := hr
    (conv => whnf)
    refine dec (fun h6 => ?_) (fun h6 => ?_)
    ·have hr : r < 4 := by have h6 : (r : Int) < 4 := h6; omega
     have hk2 := kpR_succ (b := b) (need := need) (q := 2) (y := y) (r := r)
     have p2 := lends_spec L x b hb4 (2 : Nat) r (isR_iff.2 ⟨r, hr, rfl⟩)
     have p3 := in_spec (need r) y
     generalize kpR b need 2 y r = kp at hk2 ⊢
     generalize decide (((2 : Nat) : Int) ∈ lendP b r) = ld at p2 hk2
     generalize decide (y ∈ need r) = nd at p3 hk2
     (conv => whnf)
     refine ⟨false, .grow, (.l [0, 1, 2, 3, 4, 5, 6, 7, 8, 9, 10, 11, 12, 13, 14, 15, 16, 17, 18, 19, 20, 21, 22]), by kernel_rfl, .inl ?_⟩
     (conv => whnf)
     refine boo (fun h7 => ?_) (fun h7 => ?_)
     ·have h7 : kp = true := h7
      (conv => whnf)
      rw [h7, Bool.true_or] at hk2
      repeat' ((conv => whnf); refine I6 ?_)
      refine ag _ [] [.same 0, .same 1, .same 2, .same 3, .same 4, .same 5, .same 6, .same 7, .same 8, .same 9, .same 10, .same 11, .same 12, .same 13, .same 14, .same 15, .same 16] ⟨hr, trivial⟩ (by simp only []; omega) ?_
      rw [hk2]
      repeat' first | exact trivial | exact rfl | refine And.intro ?_ ?_
     ·have h7 : kp = false := h7
      rw [h7, Bool.false_or] at hk2
      (conv => whnf)
      refine cl [] [] (p2) ?_
      (conv => whnf)
      refine boo (fun h8 => ?_) (fun h8 => ?_)
      ·have h8 : ld = true := h8
       rw [h8, Bool.true_and] at hk2
       (conv => whnf)
       rcases four hr with rfl | rfl | rfl | rfl <;> (
        (conv => whnf)
        refine ⟨_, ⟨rfl, by decide⟩, ?_⟩
        (conv => whnf)
        refine ⟨2, ⟨rfl, by decide⟩, ?_⟩
        (conv => whnf)
        refine ⟨i, ⟨rfl, hlt⟩, ?_⟩
        (conv => whnf)
        refine ⟨y, hiy, ?_⟩
        (conv => whnf)
        refine cl [] [] (p3) ?_
        repeat' ((conv => whnf); refine I6 ?_)
        refine ag _ [] [.same 0, .same 1, .same 2, .same 3, .same 4, .same 5, .same 6, .same 7, .same 8, .same 9, .same 10, .same 11, .same 12, .same 13, .same 14, .same 15, .same 16] ⟨hr, trivial⟩ (by simp only []; omega) ?_
        rw [hk2]
        repeat' first | exact trivial | exact rfl | refine And.intro ?_ ?_)
      ·have h8 : ld = false := h8
       rw [h8, Bool.false_and] at hk2
       repeat' ((conv => whnf); refine I6 ?_)
       refine ag _ [] [.same 0, .same 1, .same 2, .same 3, .same 4, .same 5, .same 6, .same 7, .same 8, .same 9, .same 10, .same 11, .same 12, .same 13, .same 14, .same 15, .same 16] ⟨hr, trivial⟩ (by simp only []; omega) ?_
       rw [hk2]
       repeat' first | exact trivial | exact rfl | refine And.intro ?_ ?_
    ·obtain rfl : r = 4 := by have h6 : ¬ (r : Int) < 4 := h6; omega
     have hke : kpR b need 2 y 4 = keepB b need 2 y := rfl
     rw [hke]
     generalize keepB b need 2 y = kp at hst ⊢
     (conv => whnf)
     refine boo (fun h7 => ?_) (fun h7 => ?_)
     ·have h7 : kp = true := h7
      rw [if_pos h7] at hst
      (conv => whnf)
      refine ⟨2, ⟨rfl, by decide⟩, ?_⟩
      (conv => whnf)
      refine ⟨i, ⟨rfl, hlt⟩, ?_⟩
      (conv => whnf)
      refine ⟨y, hiy, ?_⟩
      (conv => whnf)
      refine ⟨[y], rfl, ?_⟩
      (conv => whnf)
      refine ⟨_, _, rfl, rfl, (by simp only [List.length_append, List.length_cons, List.length_nil]; omega), ?_⟩
      repeat' ((conv => whnf); refine I6 ?_)
      refine ag (i + 1) [] [.same 0, .same 1, .same 2, .same 3, .same 4, .same 5, .same 6, .same 7, .same 8, .same 9, .same 10, .same 11, .same 12, .same 13, .same 14, .same 15, .same 18] ⟨hlt, trivial⟩ (by simp only []; omega) ?_
      rw [hst]
      repeat' first | exact trivial | exact rfl | refine And.intro ?_ ?_
     ·have h7 : ¬ kp = true := by have h7 : kp = false := h7; rw [h7]; decide
      rw [if_neg h7, List.append_nil] at hst
      repeat' ((conv => whnf); refine I6 ?_)
      refine ag (i + 1) [] [.same 0, .same 1, .same 2, .same 3, .same 4, .same 5, .same 6, .same 7, .same 8, .same 9, .same 10, .same 11, .same 12, .same 13, .same 14, .same 15, .same 16] ⟨hlt, trivial⟩ (by simp only []; omega) ?_
      rw [hst]
      repeat' first | exact trivial | exact rfl | refine And.intro ?_ ?_
   ·obtain rfl : i = (x 2).length := by have h5 : ¬ (i : Int) < (x 2).length := h5; omega
    rw [List.take_length, ← hswq]
    (conv => whnf)
    refine ⟨2, ⟨rfl, by decide⟩, ?_⟩
    repeat' ((conv => whnf); refine I6 ?_)
    refine ag (2 + 1, upd x 2 (sw 2)) [] [.same 0, .same 1, .same 2, .same 3, .same 4, .same 5, .same 6, .same 7, .same 8, .same 9, .same 10, .same 11, .same 12, .same 16, .same 14, .same 15] ⟨⟨(by show 2 + 1 ≤ 4; decide), hup _ rfl⟩, trivial⟩ (by simp only []; omega) ?_
    repeat' first | exact trivial | exact rfl | refine And.intro ?_ ?_
  ·have hxq : x 3 = w 3 := by rw [hx 3 (by decide), if_neg (by decide)]
   have hwl := hw 3 (by decide)
   have hswq := hsw 3
   rw [← hxq] at hwl hswq
   (conv => whnf)
   refine lp Nat (fun i => ⟨[(0, .c (.ptr 0 0)), (4, .c (.ptr 15 0)), (5, .c (.int .i64 (3 : Nat))), (6, .c (.rw 16)), (7, .c (.int .i64 i))], [.box [.ptr 1 0, .rw 11, .rw 12, .rw 13, .rw 14, .rw 7, .rw 8, .rw 9, .rw 10], .box [.rw 2], .row 6 Ob encOb L, .dead, .dead, .dead, .dead, .row 1 Int encI (b 0), .row 1 Int encI (b 1), .row 1 Int encI (b 2), .row 1 Int encI (b 3), .row 1 Int encI (x 0), .row 1 Int encI (x 1), .row 1 Int encI (x 2), .row 1 Int encI (x 3), .box [.ls 1 Int encI (need 0), .ls 1 Int encI (need 1), .ls 1 Int encI (need 2), .ls 1 Int encI (need 3)], .row 1 Int encI (((x 3).take i).filter fun k => keepB b need 3 k)]⟩) (fun i => i ≤ (x 3).length ∧ True) (fun i => (x 3).length - i) 0 [] [.same 0, .same 1, .same 2, .same 3, .same 4, .same 5, .same 6, .same 7, .same 8, .same 9, .same 10, .same 11, .same 12, .same 13, .same 14, .same 15, .new] ⟨Nat.zero_le _, trivial⟩ ?_ (fun i hi => ?_)
   ·repeat' first | exact trivial | exact rfl | refine And.intro ?_ ?_
   obtain ⟨hi, -⟩ := hi
   (conv => whnf)
   refine ⟨3, ⟨rfl, by decide⟩, ?_⟩
   (conv => whnf)
   refine dec (fun h5 => ?_) (fun h5 => ?_)
   ·have hlt : i < (x 3).length := by have h5 : (i : Int) < (x 3).length := h5; omega
    have hiy : (x 3)[i]? = some (x 3)[i] := List.getElem?_eq_getElem hlt
    have hst := filt_one (p := fun k => keepB b need 3 k) hlt
    have hol : (((x 3).take i).filter fun k => keepB b need 3 k).length ≤ i := Nat.le_trans (List.length_filter_le _ _) (by rw [List.length_take]; omega)
    generalize ((x 3).take i).filter (fun k => keepB b need 3 k) = out at hst hol ⊢
    generalize (x 3)[i] = y at hiy hst
    (conv => whnf)
    refine lp Nat (fun r => ⟨[(0, .c (.ptr 0 0)), (4, .c (.ptr 15 0)), (5, .c (.int .i64 (3 : Nat))), (6, .c (.rw 16)), (7, .c (.int .i64 i)), (8, .c (.bool (kpR b need 3 y r))), (9, .c (.int .i64 r))], [.box [.ptr 1 0, .rw 11, .rw 12, .rw 13, .rw 14, .rw 7, .rw 8, .rw 9, .rw 10], .box [.rw 2], .row 6 Ob encOb L, .dead, .dead, .dead, .dead, .row 1 Int encI (b 0), .row 1 Int encI (b 1), .row 1 Int encI (b 2), .row 1 Int encI (b 3), .row 1 Int encI (x 0), .row 1 Int encI (x 1), .row 1 Int encI (x 2), .row 1 Int encI (x 3), .box [.ls 1 Int encI (need 0), .ls 1 Int encI (need 1), .ls 1 Int encI (need 2), .ls 1 Int encI (need 3)], .row 1 Int encI out]⟩) (fun r => r ≤ 4 ∧ True) (fun r => 4 - r) 0 [] [.same 0, .same 1, .same 2, .same 3, .same 4, .same 5, .same 6, .same 7, .same 8, .same 9, .same 10, .same 11, .same 12, .same 13, .same 14, .same 15, .same 16] ⟨Nat.zero_le _, trivial⟩ ?_ (fun r hr => ?_)
    ·repeat' first | exact trivial | exact rfl | refine And.intro ?_ ?_
    obtain ⟨hr4, -⟩ := hr
    (conv => whnf)
    refine dec (fun h6 => ?_) (fun h6 => ?_)
    ·have hr : r < 4 := by have h6 : (r : Int) < 4 := h6; omega
     have hk2 := kpR_succ (b := b) (need := need) (q := 3) (y := y) (r := r)
     have p2 := lends_spec L x b hb4 (3 : Nat) r (isR_iff.2 ⟨r, hr, rfl⟩)
     have p3 := in_spec (need r) y
     generalize kpR b need 3 y r = kp at hk2 ⊢
     generalize decide (((3 : Nat) : Int) ∈ lendP b r) = ld at p2 hk2
     generalize decide (y ∈ need r) = nd at p3 hk2
     (conv => whnf)
     refine ⟨false, .grow, (.l [0, 1, 2, 3, 4, 5, 6, 7, 8, 9, 10, 11, 12, 13, 14, 15, 16, 17, 18, 19, 20, 21, 22]), by kernel_rfl, .inl ?_⟩
     (conv => whnf)
     refine boo (fun h7 => ?_) (fun h7 => ?_)
     ·have h7 : kp = true := h7
      (conv => whnf)
      rw [h7, Bool.true_or] at hk2
      repeat' ((conv => whnf); refine I6 ?_)
      refine ag _ [] [.same 0, .same 1, .same 2, .same 3, .same 4, .same 5, .same 6, .same 7, .same 8, .same 9, .same 10, .same 11, .same 12, .same 13, .same 14, .same 15, .same 16] ⟨hr, trivial⟩ (by simp only []; omega) ?_
      rw [hk2]
      repeat' first | exact trivial | exact rfl | refine And.intro ?_ ?_
     ·have h7 : kp = false := h7
      rw [h7, Bool.false_or] at hk2
      (conv => whnf)
      refine cl [] [] (p2) ?_
      (conv => whnf)
      refine boo (fun h8 => ?_) (fun h8 => ?_)
      ·have h8 : ld = true := h8
       rw [h8, Bool.true_and] at hk2
       (conv => whnf)
       rcases four hr with rfl | rfl | rfl | rfl <;> (
        (conv => whnf)
        refine ⟨_, ⟨rfl, by decide⟩, ?_⟩
        (conv => whnf)
        refine ⟨3, ⟨rfl, by decide⟩, ?_⟩
        (conv => whnf)
        refine ⟨i, ⟨rfl, hlt⟩, ?_⟩
        (conv => whnf)
        refine ⟨y, hiy, ?_⟩
        (conv => whnf)
        refine cl [] [] (p3) ?_
        repeat' ((conv => whnf); refine I6 ?_)
        refine ag _ [] [.same 0, .same 1, .same 2, .same 3, .same 4, .same 5, .same 6, .same 7, .same 8, .same 9, .same 10, .same 11, .same 12, .same 13, .same 14, .same 15, .same 16] ⟨hr, trivial⟩ (by simp only []; omega) ?_
        rw [hk2]
        repeat' first | exact trivial | exact rfl | refine And.intro ?_ ?_)
      ·have h8 : ld = false := h8
       rw [h8, Bool.false_and] at hk2
       repeat' ((conv => whnf); refine I6 ?_)
       refine ag _ [] [.same 0, .same 1, .same 2, .same 3, .same 4, .same 5, .same 6, .same 7, .same 8, .same 9, .same 10, .same 11, .same 12, .same 13, .same 14, .same 15, .same 16] ⟨hr, trivial⟩ (by simp only []; omega) ?_
       rw [hk2]
       repeat' first | exact trivial | exact rfl | refine And.intro ?_ ?_
    ·obtain rfl : r = 4 := by have h6 : ¬ (r : Int) < 4 := h6; omega
     have hke : kpR b need 3 y 4 = keepB b need 3 y := rfl
     rw [hke]
     generalize keepB b need 3 y = kp at hst ⊢
     (conv => whnf)
     refine boo (fun h7 => ?_) (fun h7 => ?_)
     ·have h7 : kp = true := h7
      rw [if_pos h7] at hst
      (conv => whnf)
      refine ⟨3, ⟨rfl, by decide⟩, ?_⟩
      (conv => whnf)
      refine ⟨i, ⟨rfl, hlt⟩, ?_⟩
      (conv => whnf)
      refine ⟨y, hiy, ?_⟩
      (conv => whnf)
      refine ⟨[y], rfl, ?_⟩
      (conv => whnf)
      refine ⟨_, _, rfl, rfl, (by simp only [List.length_append, List.length_cons, List.length_nil]; omega), ?_⟩
      repeat' ((conv => whnf); refine I6 ?_)
      refine ag (i + 1) [] [.same 0, .same 1, .same 2, .same 3, .same 4, .same 5, .same 6, .same 7, .same 8, .same 9, .same 10, .same 11, .same 12, .same 13, .same 14, .same 15, .same 18] ⟨hlt, trivial⟩ (by simp only []; omega) ?_
      rw [hst]
      repeat' first | exact trivial | exact rfl | refine And.intro ?_ ?_
     ·have h7 : ¬ kp = true := by have h7 : kp = false := h7; rw [h7]; decide
      rw [if_neg h7, List.append_nil] at hst
      repeat' ((conv => whnf); refine I6 ?_)
      refine ag (i + 1) [] [.same 0, .same 1, .same 2, .same 3, .same 4, .same 5, .same 6, .same 7, .same 8, .same 9, .same 10, .same 11, .same 12, .same 13, .same 14, .same 15, .same 16] ⟨hlt, trivial⟩ (by simp only []; omega) ?_
      rw [hst]
      repeat' first | exact trivial | exact rfl | refine And.intro ?_ ?_
   ·obtain rfl : i = (x 3).length := by have h5 : ¬ (i : Int) < (x 3).length := h5; omega
    rw [List.take_length, ← hswq]
    (conv => whnf)
    refine ⟨3, ⟨rfl, by decide⟩, ?_⟩
    repeat' ((conv => whnf); refine I6 ?_)
    refine ag (3 + 1, upd x 3 (sw 3)) [] [.same 0, .same 1, .same 2, .same 3, .same 4, .same 5, .same 6, .same 7, .same 8, .same 9, .same 10, .same 11, .same 12, .same 13, .same 16, .same 15] ⟨⟨(by show 3 + 1 ≤ 4; decide), hup _ rfl⟩, trivial⟩ (by simp only []; omega) ?_
    repeat' first | exact trivial | exact rfl | refine And.intro ?_ ?_
 ·obtain rfl : q = 4 := by have h4 : ¬ (q : Int) < 4 := h4; omega
  have e := fun j hj => (hx j hj).trans (if_pos hj)
  rw [← e 0 (by decide), ← e 1 (by decide), ← e 2 (by decide), ← e 3 (by decide)]
  (conv => whnf)
  exact rx [] [.same 0, .same 1, .same 2, .same 3, .same 4, .same 5, .same 6, .same 7, .same 8, .same 9, .same 10, .same 11, .same 12, .same 13, .same 14]
end Go.Nest
end
/- part -/
section

namespace Go.Nest
open Go Go.AM Go.Proofs
open Go.Proofs.YtpmjnbidmcnhnaaGreatDoor (tab tabOk)
set_option maxRecDepth 4000
theorem clE {P : Program} {f : FuncId} {ah : List B} {env : List (Nat × A)} {args : List A} {g : G} {k : List B → A → Prop} {kp : A → St → Prop} {targs : List A} {tah Y : List B} {X : A} (js m : List Nat) (Z : List B) (W : A) (hs : Does P f targs tah (Rt X Y)) (hZ : mrg m (frz js ah) Y = Z) (hW : renA (sig m (frz js ah).length) X = W)
  (hk : ap2 k Z W) (hok : CallOk (frz js ah) m args targs tah) (hg : g.call m = true) :
  ∃ (js m : List Nat) (targs : List A) (tah : List B) (Q : Out → List B → Prop), Does P f targs tah Q ∧ CallOk (frz js ah) m args targs tah ∧ g.call m = true ∧
   ∀ out ah', Q out ah' → match out with
    | .ret a => ap2 k (mrg m (frz js ah) ah') (renA (sig m (frz js ah).length) a)
    | .pan a => ap2 kp (renA (sig m (frz js ah).length) a) ⟨env, mrg m (frz js ah) ah'⟩ :=
 ⟨js, m, targs, tah, _, hs, hok, hg, fun out ah' h => by
  have h1 := h.1
  have h2 := h.2
  clear h
  subst h1
  show ap2 k (mrg m (frz js ah) ah') (renA (sig m (frz js ah).length) X)
  rw [h2, hZ, hW]
  exact hk⟩
def rootsT (x : Dt) : Nat → List Int
 | 0 => x.r0
 | 1 => x.r1
 | 2 => x.r2
 | _ => x.r3
def manyR (x : Dt) : Bool := (List.range 4).any fun r => decide (20 < (rootsT x r).length)
def greatT (l : List Dt) (m : List Mt) : Bool := (l.take 60).any manyR || ((m.take 60).any (fun x => decide (300 < x.path.length)) || (decide (40 < l.length) || decide (15 < m.length)))
theorem greatT_ok {l : List Dt} {m : List Mt} (h : greatT l m = false) : l.length ≤ 40 ∧ m.length ≤ 15 ∧ (∀ x ∈ l, ∀ r, r < 4 → (rootsT x r).length ≤ 20) ∧ ∀ x ∈ m, x.path.length ≤ 300 := by
 unfold greatT at h
 rw [Bool.or_eq_false_iff, Bool.or_eq_false_iff, Bool.or_eq_false_iff, decide_eq_false_iff_not, decide_eq_false_iff_not, List.any_eq_false, List.any_eq_false] at h
 obtain ⟨h1, h2, h3, h4⟩ := h
 rw [List.take_of_length_le (by omega)] at h1 h2
 refine ⟨by omega, by omega, fun x hx r hr => ?_, fun x hx => ?_⟩
 ·have := h1 x hx
  unfold manyR at this
  rw [List.any_eq_true] at this
  refine Decidable.byContradiction fun hc => this ⟨r, List.mem_range.2 hr, decide_eq_true (by omega)⟩
 ·have := h2 x hx
  rw [decide_eq_true_iff] at this
  omega
theorem greatT_roots {l : List Dt} {m : List Mt} {i r : Nat} {x : Dt} (h : l[i]? = some x) (hi : i < 60) (hr : r < 4) (h8 : (20 : Int) < (rootsT x r).length) : greatT l m = true := by
 unfold greatT
 have : (l.take 60).any manyR = true := List.any_eq_true.2 ⟨x, List.mem_of_getElem? (by rw [List.getElem?_take_of_lt hi]; exact h), List.any_eq_true.2 ⟨r, List.mem_range.2 hr, decide_eq_true (by omega)⟩⟩
 rw [this]; rfl
theorem roots_few {l : List Int} (h : ¬ (20 : Int) < l.length) : l.length ≤ 20 := by omega
theorem manyR_not {x : Dt} (h : ∀ j, j < 4 → (rootsT x j).length ≤ 20) : manyR x = false := by
 unfold manyR
 rw [List.any_eq_false]
 intro j hj
 have := h j (List.mem_range.1 hj)
 rw [decide_eq_true_iff]; omega
def pathT (x : Mt) : Bool := decide (300 < x.path.length)
theorem greatT_first {l : List Dt} {m : List Mt} (h : (l.take 60).any manyR = false) : greatT l m = ((m.take 60).any pathT || (decide (40 < l.length) || decide (15 < m.length))) := by
 unfold greatT
 rw [h]; rfl
set_option maxHeartbeats 2000000 in
theorem greatSteps_spec (l : List Dt) (m : List Mt) : Does Tryz.prog 11 [.c (.bs 9 Dt encDt l), .c (.bs 4 Mt encMt m)] [] (Rt (.c (.bool (greatT l m))) []) := by
 refine X_spec (n := 56) (n0 := 0) tabOk Tryz.call11 Tryz.func11 ?_
 intro hb
 (conv => whnf)
 refine lp Nat (fun i => ⟨[(0, .c (.bs 9 Dt encDt l)), (1, .c (.bs 4 Mt encMt m)), (5, .c (.int .i64 i))], []⟩) (fun i => ((i ≤ l.length ∧ i ≤ 60) ∧ (l.take i).any manyR = false) ∧ True) (fun i => l.length - i) 0 [] [] ⟨⟨⟨Nat.zero_le _, Nat.zero_le _⟩, by simp⟩, trivial⟩ ?_ (fun i hi => ?_)
 ·repeat' first | exact trivial | exact rfl | refine And.intro ?_ ?_
 obtain ⟨⟨⟨hi, hi6⟩, hno⟩, -⟩ := hi
 (conv => whnf)
 refine dec (fun h4 => ?_) (fun h4 => ?_)
 ·have hlt : i < l.length := by have h4 : (i : Int) < l.length := h4; omega
  (conv => whnf)
  refine dec (fun h5 => ?_) (fun h5 => ?_)
  ·have h6 : i < 60 := by have h5 : (i : Int) < 60 := h5; omega
   have hiy : l[i]? = some l[i] := List.getElem?_eq_getElem hlt
   have hnext := any_take (p := manyR) hlt hno
   generalize l[i] = x at hiy hnext
   (conv => whnf)
   refine lp Nat (fun r => ⟨[(0, .c (.bs 9 Dt encDt l)), (1, .c (.bs 4 Mt encMt m)), (5, .c (.int .i64 i)), (6, .c (.int .i64 r))], []⟩) (fun r => (r ≤ 4 ∧ ∀ j, j < r → (rootsT x j).length ≤ 20) ∧ True) (fun r => 4 - r) 0 [] [] ⟨⟨Nat.zero_le _, fun j hj => absurd hj (Nat.not_lt_zero _)⟩, trivial⟩ ?_ (fun r hr => ?_)
   ·repeat' first | exact trivial | exact rfl | refine And.intro ?_ ?_
   obtain ⟨⟨hr4, hrn⟩, -⟩ := hr
   (conv => whnf)
   refine dec (fun h7 => ?_) (fun h7 => ?_)
   ·have hr : r < 4 := by have h7 : (r : Int) < 4 := h7; omega
    rcases four hr with rfl | rfl | rfl | rfl <;> (
     (conv => whnf)
     refine ⟨i, x, rfl, hiy, ?_⟩
     (conv => whnf)
     refine ⟨_, ⟨rfl, by decide⟩, ?_⟩
     (conv => whnf)
     refine dec (fun h8 => ?_) (fun h8 => ?_)
     ·rw [greatT_roots hiy h6 hr h8]
      (conv => whnf)
      exact rtB rfl
     ·repeat' ((conv => whnf); refine I6 ?_)
      refine ag _ [] [] ⟨⟨hr, fun j hj => ?_⟩, trivial⟩ (by simp only []; omega) ?_
      ·rcases Nat.lt_succ_iff_lt_or_eq.1 hj with hj | rfl
       ·exact hrn j hj
       ·exact roots_few h8
      ·repeat' first | exact trivial | exact rfl | refine And.intro ?_ ?_)
   ·obtain rfl : r = 4 := by have h7 : ¬ (r : Int) < 4 := h7; omega
    repeat' ((conv => whnf); refine I6 ?_)
    refine ag (i + 1) [] [] ⟨⟨⟨hlt, h6⟩, hnext (manyR_not hrn)⟩, trivial⟩ (by simp only []; omega) ?_
    repeat' first | exact trivial | exact rfl | refine And.intro ?_ ?_
  ·have h5 : ¬ (i : Int) < 60 := h5
   obtain rfl : i = 60 := by omega
   rw [greatT_first hno]
   (conv => whnf)
   refine lp Nat (fun i => ⟨[(0, .c (.bs 9 Dt encDt l)), (1, .c (.bs 4 Mt encMt m)), (7, .c (.int .i64 i))], []⟩) (fun i => ((i ≤ m.length ∧ i ≤ 60) ∧ (m.take i).any pathT = false) ∧ True) (fun i => m.length - i) 0 [] [] ⟨⟨⟨Nat.zero_le _, Nat.zero_le _⟩, by simp⟩, trivial⟩ ?_ (fun i hi => ?_)
   ·repeat' first | exact trivial | exact rfl | refine And.intro ?_ ?_
   obtain ⟨⟨⟨hi, hi6⟩, hno⟩, -⟩ := hi
   (conv => whnf)
   refine dec (fun h4 => ?_) (fun h4 => ?_)
   ·have hlt : i < m.length := by have h4 : (i : Int) < m.length := h4; omega
    (conv => whnf)
    refine dec (fun h5 => ?_) (fun h5 => ?_)
    ·have h6 : i < 60 := by have h5 : (i : Int) < 60 := h5; omega
     have hiy : m[i]? = some m[i] := List.getElem?_eq_getElem hlt
     have hnext := any_take (p := pathT) hlt hno
     generalize m[i] = x at hiy hnext
     (conv => whnf)
     refine ⟨i, x, rfl, hiy, ?_⟩
     (conv => whnf)
     refine dec (fun h8 => ?_) (fun h8 => ?_)
     ·have h8 : (300 : Int) < x.path.length := h8
      have : (m.take 60).any pathT = true := List.any_eq_true.2 ⟨x, List.mem_of_getElem? (by rw [List.getElem?_take_of_lt h6]; exact hiy), decide_eq_true (by omega)⟩
      rw [this]
      (conv => whnf)
      exact rtB rfl
     ·have h8 : ¬ (300 : Int) < x.path.length := h8
      repeat' ((conv => whnf); refine I6 ?_)
      refine ag (i + 1) [] [] ⟨⟨⟨hlt, h6⟩, hnext (decide_eq_false (by omega))⟩, trivial⟩ (by simp only []; omega) ?_
      repeat' first | exact trivial | exact rfl | refine And.intro ?_ ?_
    ·have h5 : ¬ (i : Int) < 60 := h5
     obtain rfl : i = 60 := by omega
     have hno2 := hno
     (conv => whnf)
     refine dec (fun h9 => ?_) (fun h9 => ?_)
     ·have h9 : (40 : Int) < l.length := h9
      rw [hno2, decide_eq_true (show 40 < l.length by omega)]
      (conv => whnf)
      exact rtB rfl
     ·have h9 : ¬ (40 : Int) < l.length := h9
      rw [hno2, decide_eq_false (show ¬ 40 < l.length by omega)]
      (conv => whnf)
      exact rtB (by rw [Bool.false_or, Bool.false_or]; exact decide_eq_decide.2 (by omega))
   ·have h4 : ¬ (i : Int) < m.length := h4
    have hno2 : (m.take 60).any pathT = false := by
     rw [List.take_of_length_le (by omega)] at hno ⊢
     exact hno
    (conv => whnf)
    refine dec (fun h9 => ?_) (fun h9 => ?_)
    ·have h9 : (40 : Int) < l.length := h9
     rw [hno2, decide_eq_true (show 40 < l.length by omega)]
     (conv => whnf)
     exact rtB rfl
    ·have h9 : ¬ (40 : Int) < l.length := h9
     rw [hno2, decide_eq_false (show ¬ 40 < l.length by omega)]
     (conv => whnf)
     exact rtB (by rw [Bool.false_or, Bool.false_or]; exact decide_eq_decide.2 (by omega))
 ·have h4 : ¬ (i : Int) < l.length := h4
  have hno : (l.take 60).any manyR = false := by
   rw [List.take_of_length_le (by omega)] at hno ⊢
   exact hno
  rw [greatT_first hno]
  (conv => whnf)
  refine lp Nat (fun i => ⟨[(0, .c (.bs 9 Dt encDt l)), (1, .c (.bs 4 Mt encMt m)), (7, .c (.int .i64 i))], []⟩) (fun i => ((i ≤ m.length ∧ i ≤ 60) ∧ (m.take i).any pathT = false) ∧ True) (fun i => m.length - i) 0 [] [] ⟨⟨⟨Nat.zero_le _, Nat.zero_le _⟩, by simp⟩, trivial⟩ ?_ (fun i hi => ?_)
  ·repeat' first | exact trivial | exact rfl | refine And.intro ?_ ?_
  obtain ⟨⟨⟨hi, hi6⟩, hno⟩, -⟩ := hi
  (conv => whnf)
  refine dec (fun h4 => ?_) (fun h4 => ?_)
  ·have hlt : i < m.length := by have h4 : (i : Int) < m.length := h4; omega
   (conv => whnf)
   refine dec (fun h5 => ?_) (fun h5 => ?_)
   ·have h6 : i < 60 := by have h5 : (i : Int) < 60 := h5; omega
    have hiy : m[i]? = some m[i] := List.getElem?_eq_getElem hlt
    have hnext := any_take (p := pathT) hlt hno
    generalize m[i] = x at hiy hnext
    (conv => whnf)
    refine ⟨i, x, rfl, hiy, ?_⟩
    (conv => whnf)
    refine dec (fun h8 => ?_) (fun h8 => ?_)
    ·have h8 : (300 : Int) < x.path.length := h8
     have : (m.take 60).any pathT = true := List.any_eq_true.2 ⟨x, List.mem_of_getElem? (by rw [List.getElem?_take_of_lt h6]; exact hiy), decide_eq_true (by omega)⟩
     rw [this]
     (conv => whnf)
     exact rtB rfl
    ·have h8 : ¬ (300 : Int) < x.path.length := h8
     repeat' ((conv => whnf); refine I6 ?_)
     refine ag (i + 1) [] [] ⟨⟨⟨hlt, h6⟩, hnext (decide_eq_false (by omega))⟩, trivial⟩ (by simp only []; omega) ?_
     repeat' first | exact trivial | exact rfl | refine And.intro ?_ ?_
   ·have h5 : ¬ (i : Int) < 60 := h5
    obtain rfl : i = 60 := by omega
    have hno2 := hno
    (conv => whnf)
    refine dec (fun h9 => ?_) (fun h9 => ?_)
    ·have h9 : (40 : Int) < l.length := h9
     rw [hno2, decide_eq_true (show 40 < l.length by omega)]
     (conv => whnf)
     exact rtB rfl
    ·have h9 : ¬ (40 : Int) < l.length := h9
     rw [hno2, decide_eq_false (show ¬ 40 < l.length by omega)]
     (conv => whnf)
     exact rtB (by rw [Bool.false_or, Bool.false_or]; exact decide_eq_decide.2 (by omega))
  ·have h4 : ¬ (i : Int) < m.length := h4
   have hno2 : (m.take 60).any pathT = false := by
    rw [List.take_of_length_le (by omega)] at hno ⊢
    exact hno
   (conv => whnf)
   refine dec (fun h9 => ?_) (fun h9 => ?_)
   ·have h9 : (40 : Int) < l.length := h9
    rw [hno2, decide_eq_true (show 40 < l.length by omega)]
    (conv => whnf)
    exact rtB rfl
   ·have h9 : ¬ (40 : Int) < l.length := h9
    rw [hno2, decide_eq_false (show ¬ 40 < l.length by omega)]
    (conv => whnf)
    exact rtB (by rw [Bool.false_or, Bool.false_or]; exact decide_eq_decide.2 (by omega))
end Go.Nest
end
