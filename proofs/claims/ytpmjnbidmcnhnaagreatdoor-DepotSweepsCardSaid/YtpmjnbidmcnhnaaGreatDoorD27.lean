/- part -/
import Derived.Test.YtpmjnbidmcnhnaaGreatDoorD14
import Derived.Test.YtpmjnbidmcnhnaaGreatDoorD24
import Derived.Test.YtpmjnbidmcnhnaaGreatDoorD26
import Derived.Test.YtpmjnbidmcnhnaaGreatDoorU0
set_option linter.unusedVariables false
set_option linter.unusedSimpArgs false
section

namespace Go.Nest
open Go Go.AM Go.Proofs
open Go.Proofs.YtpmjnbidmcnhnaaGreatDoor (tab tabOk)
set_option maxRecDepth 4000
def pickP (made : List Int) (f : Nat → List Int) : Nat → List Int := fun r => if made.length = 0 then [] else (f r).map (oneP made)
def pickN (made l : List Int) : List Int := if made.length = 0 then [] else l.map (oneP made)
theorem pickP_at {made : List Int} {f : Nat → List Int} {r : Nat} : pickP made f r = pickN made (f r) := rfl
theorem pickN_len {made l : List Int} : (pickN made l).length ≤ l.length := by
 unfold pickN
 split
 ·exact Nat.zero_le _
 ·rw [List.length_map]; exact Nat.le_refl _
theorem pickN_take {made l : List Int} {i : Nat} (h : ¬ made.length = 0) (hi : i < l.length) : pickN made (l.take (i + 1)) = pickN made (l.take i) ++ [oneP made l[i]] := by
 unfold pickN
 rw [if_neg h, if_neg h, List.take_succ_eq_append_getElem hi, List.map_append]; rfl
theorem pickN_none {made l : List Int} (h : made.length = 0) : pickN made l = [] := if_pos h
theorem pick_next {made : List Int} {f g : Nat → List Int} {q q' : Nat} (e : q' = q) {cur : List Int} (hc : pickN made (f q') = cur) (hg : ∀ j, j < 4 → g j = if j < q then pickN made (f j) else []) : ∀ j, j < 4 → upd g q' cur j = if j < q' + 1 then pickN made (f j) else [] := by
 subst e
 intro j hj
 by_cases e : j = q'
 ·subst e; rw [upd_at, if_pos (by omega), hc]
 ·rw [upd_ne e, hg j hj]
  by_cases h : j < q'
  ·rw [if_pos h, if_pos (by omega)]
  ·rw [if_neg h, if_neg (by omega)]
set_option maxHeartbeats 8000000 in
theorem pick_spec (made : List Int) (f : Nat → List Int) (hf : ∀ r, r < 4 → (f r).length ≤ 20) : Does Tryz.prog 27 [.c (.bs 1 Int encI made), .st [.bs 1 Int encI (f 0), .bs 1 Int encI (f 1), .bs 1 Int encI (f 2), .bs 1 Int encI (f 3)]] [] (Rt (.st [.ls 1 Int encI ((pickP made f) 0), .ls 1 Int encI ((pickP made f) 1), .ls 1 Int encI ((pickP made f) 2), .ls 1 Int encI ((pickP made f) 3)]) []) := by
 refine X_spec (n := 41) (n0 := 0) tabOk Tryz.call27 Tryz.func27 ?_
 intro hb
 (conv => whnf)
 refine lp (Nat × (Nat → List Int)) (fun p => ⟨[(0, .c (.bs 1 Int encI made)), (3, .c (.ptr 0 0)), (4, .c (.ptr 1 0)), (5, .c (.ptr 2 0)), (6, .c (.int .i64 p.1))], [.box [.bs 1 Int encI (f 0), .bs 1 Int encI (f 1), .bs 1 Int encI (f 2), .bs 1 Int encI (f 3)], .box [.nil, .nil, .nil, .nil], .box [.rw 3, .rw 4, .rw 5, .rw 6], .row 1 Int encI (p.2 0), .row 1 Int encI (p.2 1), .row 1 Int encI (p.2 2), .row 1 Int encI (p.2 3)]⟩) (fun p => (p.1 ≤ 4 ∧ ∀ j, j < 4 → p.2 j = if j < p.1 then pickN made (f j) else []) ∧ True) (fun p => 4 - p.1) (0, fun _ => []) [] [.same 0, .same 1, .same 2, .new, .new, .new, .new] ⟨⟨Nat.zero_le _, fun j hj => by rw [if_neg (Nat.not_lt_zero _)]⟩, trivial⟩ ?_ (fun ⟨q, g⟩ hg => ?_)
 ·repeat' first | exact trivial | exact rfl | refine And.intro ?_ ?_
 obtain ⟨⟨hq4, hg⟩, -⟩ := hg
 have hg : ∀ j, j < 4 → g j = if j < q then pickN made (f j) else [] := hg
 (conv => whnf)
 refine dec (fun h4 => ?_) (fun h4 => ?_)
 ·have hq : q < 4 := by have h4 : (q : Int) < 4 := h4; omega
  rcases four hq with rfl | rfl | rfl | rfl
  ·have hgq : g 0 = [] := (hg 0 (by decide)).trans (if_neg (by decide))
   have hfl := hf 0 (by decide)
   (conv => whnf)
   refine lp Nat (fun i => ⟨[(0, .c (.bs 1 Int encI made)), (3, .c (.ptr 0 0)), (4, .c (.ptr 1 0)), (5, .c (.ptr 2 0)), (6, .c (.int .i64 (0 : Nat))), (7, .c (.int .i64 i))], [.box [.bs 1 Int encI (f 0), .bs 1 Int encI (f 1), .bs 1 Int encI (f 2), .bs 1 Int encI (f 3)], .box [.nil, .nil, .nil, .nil], .box [.rw 3, .rw 4, .rw 5, .rw 6], .row 1 Int encI ((upd g 0 (pickN made ((f 0).take i))) 0), .row 1 Int encI ((upd g 0 (pickN made ((f 0).take i))) 1), .row 1 Int encI ((upd g 0 (pickN made ((f 0).take i))) 2), .row 1 Int encI ((upd g 0 (pickN made ((f 0).take i))) 3)]⟩) (fun i => i ≤ (f 0).length ∧ True) (fun i => (f 0).length - i) 0 [] [.same 0, .same 1, .same 2, .same 3, .same 4, .same 5, .same 6] ⟨Nat.zero_le _, trivial⟩ ?_ (fun i hi => ?_)
   ·rw [show pickN made ((f 0).take 0) = g 0 by rw [hgq, List.take_zero]; unfold pickN; split <;> rfl]
    repeat' first | exact trivial | exact rfl | refine And.intro ?_ ?_
   obtain ⟨hi, -⟩ := hi
   (conv => whnf)
   refine ⟨0, ⟨rfl, by decide⟩, ?_⟩
   (conv => whnf)
   refine dec (fun h5 => ?_) (fun h5 => ?_)
   ·have hlt : i < (f 0).length := by have h5 : (i : Int) < (f 0).length := h5; omega
    have hiy : (f 0)[i]? = some (f 0)[i] := List.getElem?_eq_getElem hlt
    have hst := fun h => pickN_take (made := made) h hlt
    have hpl := pickN_len (made := made) (l := (f 0).take i)
    rw [List.length_take] at hpl
    generalize hc : pickN made ((f 0).take i) = cur at hst hpl ⊢
    generalize (f 0)[i] = y at hiy hst
    (conv => whnf)
    refine dec (fun h6 => ?_) (fun h6 => ?_)
    ·have h6 : (0 : Int) < made.length := h6
     have hst := hst (by omega)
     have p1 := one_spec made y
     generalize oneP made y = z at p1 hst
     (conv => whnf)
     refine ⟨false, .grow, (.l [0, 1, 2, 3, 4, 5, 6, 7, 8, 9, 10, 11, 12, 13, 14, 15]), by kernel_rfl, .inl ?_⟩
     (conv => whnf)
     refine ⟨0, ⟨rfl, by decide⟩, ?_⟩
     (conv => whnf)
     refine ⟨0, ⟨rfl, by decide⟩, ?_⟩
     (conv => whnf)
     refine ⟨i, y, rfl, hiy, ?_⟩
     (conv => whnf)
     refine cl [] [] (p1) ?_
     (conv => whnf)
     refine ⟨[z], rfl, ?_⟩
     have hul : (upd g 0 cur 0).length ≤ 20 := by rw [upd_at]; omega
     (conv => whnf)
     refine ⟨_, _, rfl, rfl, (by simp only [List.length_append, List.length_cons, List.length_nil]; omega), ?_⟩
     (conv => whnf)
     refine ⟨0, ⟨rfl, by decide⟩, ?_⟩
     repeat' ((conv => whnf); refine I6 ?_)
     refine ag (i + 1) [] [.same 0, .same 1, .same 2, .same 8, .same 4, .same 5, .same 6] ⟨hlt, trivial⟩ (by simp only []; omega) ?_
     rw [hst]
     repeat' first | exact trivial | exact rfl | refine And.intro ?_ ?_
    ·have h6 : ¬ (0 : Int) < made.length := h6
     rw [pickN_none (by omega)] at hc
     subst hc
     repeat' ((conv => whnf); refine I6 ?_)
     refine ag (0 + 1, upd g 0 _) [] [.same 0, .same 1, .same 2, .same 3, .same 4, .same 5, .same 6] ⟨⟨(by show 0 + 1 ≤ 4; decide), pick_next rfl (by first | exact hc | exact pickN_none (by omega)) hg⟩, trivial⟩ (by simp only []; omega) ?_
     repeat' first | exact trivial | exact rfl | refine And.intro ?_ ?_
   ·obtain rfl : i = (f 0).length := by have h5 : ¬ (i : Int) < (f 0).length := h5; omega
    rw [List.take_length]
    generalize hc : pickN made (f 0) = cur
    repeat' ((conv => whnf); refine I6 ?_)
    refine ag (0 + 1, upd g 0 _) [] [.same 0, .same 1, .same 2, .same 3, .same 4, .same 5, .same 6] ⟨⟨(by show 0 + 1 ≤ 4; decide), pick_next rfl (by first | exact hc | exact pickN_none (by omega)) hg⟩, trivial⟩ (by simp only []; omega) ?_
    repeat' first | exact trivial | exact rfl | refine And.intro ?_ ?_
  ·have hgq : g 1 = [] := (hg 1 (by decide)).trans (if_neg (by decide))
   have hfl := hf 1 (by decide)
   (conv => whnf)
   refine lp Nat (fun i => ⟨[(0, .c (.bs 1 Int encI made)), (3, .c (.ptr 0 0)), (4, .c (.ptr 1 0)), (5, .c (.ptr 2 0)), (6, .c (.int .i64 (1 : Nat))), (7, .c (.int .i64 i))], [.box [.bs 1 Int encI (f 0), .bs 1 Int encI (f 1), .bs 1 Int encI (f 2), .bs 1 Int encI (f 3)], .box [.nil, .nil, .nil, .nil], .box [.rw 3, .rw 4, .rw 5, .rw 6], .row 1 Int encI ((upd g 1 (pickN made ((f 1).take i))) 0), .row 1 Int encI ((upd g 1 (pickN made ((f 1).take i))) 1), .row 1 Int encI ((upd g 1 (pickN made ((f 1).take i))) 2), .row 1 Int encI ((upd g 1 (pickN made ((f 1).take i))) 3)]⟩) (fun i => i ≤ (f 1).length ∧ True) (fun i => (f 1).length - i) 0 [] [.same 0, .same 1, .same 2, .same 3, .same 4, .same 5, .same 6] ⟨Nat.zero_le _, trivial⟩ ?_ (fun i hi => ?_)
   ·rw [show pickN made ((f 1).take 0) = g 1 by rw [hgq, List.take_zero]; unfold pickN; split <;> rfl]
    repeat' first | exact trivial | exact rfl | refine And.intro ?_ ?_
   obtain ⟨hi, -⟩ := hi
   (conv => whnf)
   refine ⟨1, ⟨rfl, by decide⟩, ?_⟩
   (conv => whnf)
   refine dec (fun h5 => ?_) (fun h5 => ?_)
   ·have hlt : i < (f 1).length := by have h5 : (i : Int) < (f 1).length := h5; omega
    have hiy : (f 1)[i]? = some (f 1)[i] := List.getElem?_eq_getElem hlt
    have hst := fun h => pickN_take (made := made) h hlt
    have hpl := pickN_len (made := made) (l := (f 1).take i)
    rw [List.length_take] at hpl
    generalize hc : pickN made ((f 1).take i) = cur at hst hpl ⊢
    generalize (f 1)[i] = y at hiy hst
    (conv => whnf)
    refine dec (fun h6 => ?_) (fun h6 => ?_)
    ·have h6 : (0 : Int) < made.length := h6
     have hst := hst (by omega)
     have p1 := one_spec made y
     generalize oneP made y = z at p1 hst
     (conv => whnf)
     refine ⟨false, .grow, (.l [0, 1, 2, 3, 4, 5, 6, 7, 8, 9, 10, 11, 12, 13, 14, 15]), by kernel_rfl, .inl ?_⟩
     (conv => whnf)
     refine ⟨1, ⟨rfl, by decide⟩, ?_⟩
     (conv => whnf)
     refine ⟨1, ⟨rfl, by decide⟩, ?_⟩
     (conv => whnf)
     refine ⟨i, y, rfl, hiy, ?_⟩
     (conv => whnf)
     refine cl [] [] (p1) ?_
     (conv => whnf)
     refine ⟨[z], rfl, ?_⟩
     have hul : (upd g 1 cur 1).length ≤ 20 := by rw [upd_at]; omega
     (conv => whnf)
     refine ⟨_, _, rfl, rfl, (by simp only [List.length_append, List.length_cons, List.length_nil]; omega), ?_⟩
     (conv => whnf)
     refine ⟨1, ⟨rfl, by decide⟩, ?_⟩
     repeat' ((conv => whnf); refine I6 ?_)
     refine ag (i + 1) [] [.same 0, .same 1, .same 2, .same 3, .same 8, .same 5, .same 6] ⟨hlt, trivial⟩ (by simp only []; omega) ?_
     rw [hst]
     repeat' first | exact trivial | exact rfl | refine And.intro ?_ ?_
    ·have h6 : ¬ (0 : Int) < made.length := h6
     rw [pickN_none (by omega)] at hc
     subst hc
     repeat' ((conv => whnf); refine I6 ?_)
     refine ag (1 + 1, upd g 1 _) [] [.same 0, .same 1, .same 2, .same 3, .same 4, .same 5, .same 6] ⟨⟨(by show 1 + 1 ≤ 4; decide), pick_next rfl (by first | exact hc | exact pickN_none (by omega)) hg⟩, trivial⟩ (by simp only []; omega) ?_
     repeat' first | exact trivial | exact rfl | refine And.intro ?_ ?_
   ·obtain rfl : i = (f 1).length := by have h5 : ¬ (i : Int) < (f 1).length := h5; omega
    rw [List.take_length]
    generalize hc : pickN made (f 1) = cur
    repeat' ((conv => whnf); refine I6 ?_)
    refine ag (1 + 1, upd g 1 _) [] [.same 0, .same 1, .same 2, .same 3, .same 4, .same 5, .same 6] ⟨⟨(by show 1 + 1 ≤ 4; decide), pick_next rfl (by first | exact hc | exact pickN_none (by omega)) hg⟩, trivial⟩ (by simp only []; omega) ?_
    repeat' first | exact trivial | exact rfl | refine And.intro ?_ ?_
  ·have hgq : g 2 = [] := (hg 2 (by decide)).trans (if_neg (by decide))
   have hfl := hf 2 (by decide)
   (conv => whnf)
   refine lp Nat (fun i => ⟨[(0, .c (.bs 1 Int encI made)), (3, .c (.ptr 0 0)), (4, .c (.ptr 1 0)), (5, .c (.ptr 2 0)), (6, .c (.int .i64 (2 : Nat))), (7, .c (.int .i64 i))], [.box [.bs 1 Int encI (f 0), .bs 1 Int encI (f 1), .bs 1 Int encI (f 2), .bs 1 Int encI (f 3)], .box [.nil, .nil, .nil, .nil], .box [.rw 3, .rw 4, .rw 5, .rw 6], .row 1 Int encI ((upd g 2 (pickN made ((f 2).take i))) 0), .row 1 Int encI ((upd g 2 (pickN made ((f 2).take i))) 1), .row 1 Int encI ((upd g 2 (pickN made ((f 2).take i))) 2), .row 1 Int encI ((upd g 2 (pickN made ((f 2).take i))) 3)]⟩) (fun i => i ≤ (f 2).length ∧ True) (fun i => (f 2).length - i) 0 [] [.same 0, .same 1, .same 2, .same 3, .same 4, .same 5, .same 6] ⟨Nat.zero_le _, trivial⟩ ?_ (fun i hi => ?_)
   ·rw [show pickN made ((f 2).take 0) = g 2 by rw [hgq, List.take_zero]; unfold pickN; split <;> rfl]
    repeat' first | exact trivial | exact rfl | refine And.intro ?_ ?_
   obtain ⟨hi, -⟩ := hi
   (conv => whnf)
   refine ⟨2, ⟨rfl, by decide⟩, ?_⟩
   (conv => whnf)
   refine dec (fun h5 => ?_) (fun h5 => ?_)
   ·have hlt : i < (f 2).length := by have h5 : (i : Int) < (f 2).length := h5; omega
    have hiy : (f 2)[i]? = some (f 2)[i] := List.getElem?_eq_getElem hlt
    have hst := fun h => pickN_take (made := made) h hlt
    have hpl := pickN_len (made := made) (l := (f 2).take i)
    rw [List.length_take] at hpl
    generalize hc : pickN made ((f 2).take i) = cur at hst hpl ⊢
    generalize (f 2)[i] = y at hiy hst
    (conv => whnf)
    refine dec (fun h6 => ?_) (fun h6 => ?_)
    ·have h6 : (0 : Int) < made.length := h6
     have hst := hst (by omega)
     have p1 := one_spec made y
     generalize oneP made y = z at p1 hst
     (conv => whnf)
     refine ⟨false, .grow, (.l [0, 1, 2, 3, 4, 5, 6, 7, 8, 9, 10, 11, 12, 13, 14, 15]), by kernel_rfl, .inl ?_⟩
     (conv => whnf)
     refine ⟨2, ⟨rfl, by decide⟩, ?_⟩
     (conv => whnf)
     refine ⟨2, ⟨rfl, by decide⟩, ?_⟩
     (conv => whnf)
     refine ⟨i, y, rfl, hiy, ?_⟩
     (conv => whnf)
     refine cl [] [] (p1) ?_
     (conv => whnf)
     refine ⟨[z], rfl, ?_⟩
     have hul : (upd g 2 cur 2).length ≤ 20 := by rw [upd_at]; omega
     (conv => whnf)
     refine ⟨_, _, rfl, rfl, (by simp only [List.length_append, List.length_cons, List.length_nil]; omega), ?_⟩
     (conv => whnf)
     refine ⟨2, ⟨rfl, by decide⟩, ?_⟩
     repeat' ((conv => whnf); refine I6 ?_)
     refine ag (i + 1) [] [.same 0, .same 1, .same 2, .same 3, .same 4, .same 8, .same 6] ⟨hlt, trivial⟩ (by simp only []; omega) ?_
     rw [hst]
     repeat' first | exact trivial | exact rfl | refine And.intro ?_ ?_
    ·have h6 : ¬ (0 : Int) < made.length := h6
     rw [pickN_none (by omega)] at hc
     subst hc
     repeat' ((conv => whnf); refine I6 ?_)
     refine ag (2 + 1, upd g 2 _) [] [.same 0, .same 1, .same 2, .same 3, .same 4, .same 5, .same 6] ⟨⟨(by show 2 + 1 ≤ 4; decide), pick_next rfl (by first | exact hc | exact pickN_none (by omega)) hg⟩, trivial⟩ (by simp only []; omega) ?_
     repeat' first | exact trivial | exact rfl | refine And.intro ?_ ?_
   ·obtain rfl : i = (f 2).length := by have h5 : ¬ (i : Int) < (f 2).length := h5; omega
    rw [List.take_length]
    generalize hc : pickN made (f 2) = cur
    repeat' ((conv => whnf); refine I6 ?_)
    refine ag (2 + 1, upd g 2 _) [] [.same 0, .same 1, .same 2, .same 3, .same 4, .same 5, .same 6] ⟨⟨(by show 2 + 1 ≤ 4; decide), pick_next rfl (by first | exact hc | exact pickN_none (by omega)) hg⟩, trivial⟩ (by simp only []; omega) ?_
    repeat' first | exact trivial | exact rfl | refine And.intro ?_ ?_
  ·have hgq : g 3 = [] := (hg 3 (by decide)).trans (if_neg (by decide))
   have hfl := hf 3 (by decide)
   (conv => whnf)
   refine lp Nat (fun i => ⟨[(0, .c (.bs 1 Int encI made)), (3, .c (.ptr 0 0)), (4, .c (.ptr 1 0)), (5, .c (.ptr 2 0)), (6, .c (.int .i64 (3 : Nat))), (7, .c (.int .i64 i))], [.box [.bs 1 Int encI (f 0), .bs 1 Int encI (f 1), .bs 1 Int encI (f 2), .bs 1 Int encI (f 3)], .box [.nil, .nil, .nil, .nil], .box [.rw 3, .rw 4, .rw 5, .rw 6], .row 1 Int encI ((upd g 3 (pickN made ((f 3).take i))) 0), .row 1 Int encI ((upd g 3 (pickN made ((f 3).take i))) 1), .row 1 Int encI ((upd g 3 (pickN made ((f 3).take i))) 2), .row 1 Int encI ((upd g 3 (pickN made ((f 3).take i))) 3)]⟩) (fun i => i ≤ (f 3).length ∧ True) (fun i => (f 3).length - i) 0 [] [.same 0, .same 1, .same 2, .same 3, .same 4, .same 5, .same 6] ⟨Nat.zero_le _, trivial⟩ ?_ (fun i hi => ?_)
   ·rw [show pickN made ((f 3).take 0) = g 3 by rw [hgq, List.take_zero]; unfold pickN; split <;> rfl]
    repeat' first | exact trivial | exact rfl | refine And.intro ?_ ?_
   obtain ⟨hi, -⟩ := hi
   (conv => whnf)
   refine ⟨3, ⟨rfl, by decide⟩, ?_⟩
   (conv => whnf)
   refine dec (fun h5 => ?_) (fun h5 => ?_)
   ·have hlt : i < (f 3).length := by have h5 : (i : Int) < (f 3).length := h5; omega
    have hiy : (f 3)[i]? = some (f 3)[i] := List.getElem?_eq_getElem hlt
    have hst := fun h => pickN_take (made := made) h hlt
    have hpl := pickN_len (made := made) (l := (f 3).take i)
    rw [List.length_take] at hpl
    generalize hc : pickN made ((f 3).take i) = cur at hst hpl ⊢
    generalize (f 3)[i] = y at hiy hst
    (conv => whnf)
    refine dec (fun h6 => ?_) (fun h6 => ?_)
    ·have h6 : (0 : Int) < made.length := h6
     have hst := hst (by omega)
     have p1 := one_spec made y
     generalize oneP made y = z at p1 hst
     (conv => whnf)
     refine ⟨false, .grow, (.l [0, 1, 2, 3, 4, 5, 6, 7, 8, 9, 10, 11, 12, 13, 14, 15]), by kernel_rfl, .inl ?_⟩
     (conv => whnf)
     refine ⟨3, ⟨rfl, by decide⟩, ?_⟩
     (conv => whnf)
     refine ⟨3, ⟨rfl, by decide⟩, ?_⟩
     (conv => whnf)
     refine ⟨i, y, rfl, hiy, ?_⟩
     (conv => whnf)
     refine cl [] [] (p1) ?_
     (conv => whnf)
     refine ⟨[z], rfl, ?_⟩
     have hul : (upd g 3 cur 3).length ≤ 20 := by rw [upd_at]; omega
     (conv => whnf)
     refine ⟨_, _, rfl, rfl, (by simp only [List.length_append, List.length_cons, List.length_nil]; omega), ?_⟩
     (conv => whnf)
     refine ⟨3, ⟨rfl, by decide⟩, ?_⟩
     repeat' ((conv => whnf); refine I6 ?_)
     refine ag (i + 1) [] [.same 0, .same 1, .same 2, .same 3, .same 4, .same 5, .same 8] ⟨hlt, trivial⟩ (by simp only []; omega) ?_
     rw [hst]
     repeat' first | exact trivial | exact rfl | refine And.intro ?_ ?_
    ·have h6 : ¬ (0 : Int) < made.length := h6
     rw [pickN_none (by omega)] at hc
     subst hc
     repeat' ((conv => whnf); refine I6 ?_)
     refine ag (3 + 1, upd g 3 _) [] [.same 0, .same 1, .same 2, .same 3, .same 4, .same 5, .same 6] ⟨⟨(by show 3 + 1 ≤ 4; decide), pick_next rfl (by first | exact hc | exact pickN_none (by omega)) hg⟩, trivial⟩ (by simp only []; omega) ?_
     repeat' first | exact trivial | exact rfl | refine And.intro ?_ ?_
   ·obtain rfl : i = (f 3).length := by have h5 : ¬ (i : Int) < (f 3).length := h5; omega
    rw [List.take_length]
    generalize hc : pickN made (f 3) = cur
    repeat' ((conv => whnf); refine I6 ?_)
    refine ag (3 + 1, upd g 3 _) [] [.same 0, .same 1, .same 2, .same 3, .same 4, .same 5, .same 6] ⟨⟨(by show 3 + 1 ≤ 4; decide), pick_next rfl (by first | exact hc | exact pickN_none (by omega)) hg⟩, trivial⟩ (by simp only []; omega) ?_
    repeat' first | exact trivial | exact rfl | refine And.intro ?_ ?_
 ·obtain rfl : q = 4 := by have h4 : ¬ (q : Int) < 4 := h4; omega
  have e := fun j hj => (hg j hj).trans (if_pos hj)
  rw [show pickP made f 0 = g 0 from (e 0 (by decide)).symm, show pickP made f 1 = g 1 from (e 1 (by decide)).symm, show pickP made f 2 = g 2 from (e 2 (by decide)).symm, show pickP made f 3 = g 3 from (e 3 (by decide)).symm]
  (conv => whnf)
  exact rx [3, 4, 5, 6] []
theorem sameI_eq (l : List Int) : Does Tryz.prog 20 [.c (.bs 1 Int encI l), .c (.bs 1 Int encI l)] [] (Rt (.c (.bool true)) []) := by
 have h := sameInts_spec l l
 rwa [show decide (l = l) = true from decide_eq_true rfl] at h
structure DS where
 o : Nat → List Bool
 w : Nat → List Int
 b : Nat → List Int
structure DInv (L : List Ob) (s : DS) : Prop where
 sm : Sm L s.o s.w
 nd : BorNd s.b
theorem DInv.ol {L : List Ob} (hL : PoolOk L) {s : DS} (h : DInv L s) : ∀ k, k < 4 → (s.o k).length ≤ 1000000 := fun k hk => by have := h.sm.len k hk; have := hL.len; omega
theorem DInv.wl {L : List Ob} (hL : PoolOk L) {s : DS} (h : DInv L s) : ∀ k, k < 4 → (s.w k).length ≤ 10000 := fun k hk => by
 rw [h.sm.eq k hk]
 have := list_len (o := s.o) (r := (k : Int)) (n := L.length)
 have := hL.len
 omega
def stepK (made : List Int) (x : Dt) : Int := if x.odd = true then x.k else oneP made x.k
noncomputable def stepD (L : List Ob) (made : List Int) (s : DS) (x : Dt) : DS :=
 if x.what = 0 then ⟨addO L s.o s.b x.a [stepK made x], addRO L s.w s.b x.a [stepK made x], s.b⟩
 else if x.what = 1 then ⟨fetO L s.o s.b x.a x.b (stepK made x), fetRO L s.w s.b x.a x.b (stepK made x), s.b⟩
 else if x.what = 2 then ⟨s.o, s.w, borO s.b x.a x.b⟩
 else if x.what = 3 then ⟨sweepO L s.o s.b (pickP made (rootsT x)), sweepR L s.w s.b (pickP made (rootsT x)), s.b⟩
 else s
theorem step_dinv {L : List Ob} (hL : PoolOk L) {made : List Int} {s : DS} (h : DInv L s) (x : Dt) : DInv L (stepD L made s x) := by
 unfold stepD
 split
 ·exact ⟨h.sm.add h.nd.ok _ _, h.nd⟩
 split
 ·exact ⟨h.sm.fet hL h.nd.ok _ _ _, h.nd⟩
 split
 ·exact ⟨h.sm, h.nd.bor _ _⟩
 split
 ·exact ⟨h.sm.sweep _, h.nd⟩
 ·exact h
set_option maxHeartbeats 8000000 in
theorem depotStep_spec (L : List Ob) (hL : PoolOk L) (made : List Int) (s : DS) (hs : DInv L s) (x : Dt) (hx : ∀ r, r < 4 → (rootsT x r).length ≤ 20) : Does Tryz.prog 13 [.c (.ptr 0 0), .c (.ptr 11 0), .c (.bs 1 Int encI made), .st (encDt x)] [.box [.ptr 1 0, .rw 3, .rw 4, .rw 5, .rw 6, .rw 7, .rw 8, .rw 9, .rw 10], .box [.rw 2], .row 6 Ob encOb L, .row 1 Bool encBo (s.o 0), .row 1 Bool encBo (s.o 1), .row 1 Bool encBo (s.o 2), .row 1 Bool encBo (s.o 3), .row 1 Int encI (s.b 0), .row 1 Int encI (s.b 1), .row 1 Int encI (s.b 2), .row 1 Int encI (s.b 3), .box [.ptr 12 0, .rw 14, .rw 15, .rw 16, .rw 17, .rw 18, .rw 19, .rw 20, .rw 21], .box [.rw 13], .row 6 Ob encOb L, .row 1 Int encI (s.w 0), .row 1 Int encI (s.w 1), .row 1 Int encI (s.w 2), .row 1 Int encI (s.w 3), .row 1 Int encI (s.b 0), .row 1 Int encI (s.b 1), .row 1 Int encI (s.b 2), .row 1 Int encI (s.b 3)] (Rt (.c (.bool true)) [.box [.ptr 1 0, .rw 22, .rw 23, .rw 24, .rw 25, .rw 26, .rw 27, .rw 28, .rw 29], .box [.rw 2], .row 6 Ob encOb L, .dead, .dead, .dead, .dead, .dead, .dead, .dead, .dead, .box [.ptr 12 0, .rw 30, .rw 31, .rw 32, .rw 33, .rw 34, .rw 35, .rw 36, .rw 37], .box [.rw 13], .row 6 Ob encOb L, .dead, .dead, .dead, .dead, .dead, .dead, .dead, .dead, .row 1 Bool encBo ((stepD L made s x).o 0), .row 1 Bool encBo ((stepD L made s x).o 1), .row 1 Bool encBo ((stepD L made s x).o 2), .row 1 Bool encBo ((stepD L made s x).o 3), .row 1 Int encI ((stepD L made s x).b 0), .row 1 Int encI ((stepD L made s x).b 1), .row 1 Int encI ((stepD L made s x).b 2), .row 1 Int encI ((stepD L made s x).b 3), .row 1 Int encI ((stepD L made s x).w 0), .row 1 Int encI ((stepD L made s x).w 1), .row 1 Int encI ((stepD L made s x).w 2), .row 1 Int encI ((stepD L made s x).w 3), .row 1 Int encI ((stepD L made s x).b 0), .row 1 Int encI ((stepD L made s x).b 1), .row 1 Int encI ((stepD L made s x).b 2), .row 1 Int encI ((stepD L made s x).b 3)]) := by
 have hol := hs.ol hL
 have hwl := hs.wl hL
 obtain ⟨⟨o, w, b⟩⟩ : ∃ t : DS, t = s := ⟨s, rfl⟩
 obtain ⟨o, w, b⟩ := s
 have hb4 : BorOk b := hs.nd.ok
 dsimp only at hol hwl
 have o1 := one_spec made x.k
 have hK : stepK made x = if x.odd = true then x.k else oneP made x.k := rfl
 have hD := fun k (e : stepK made x = k) => (show stepD L made ⟨o, w, b⟩ x = if x.what = 0 then ⟨addO L o b x.a [k], addRO L w b x.a [k], b⟩
 else if x.what = 1 then ⟨fetO L o b x.a x.b k, fetRO L w b x.a x.b k, b⟩
 else if x.what = 2 then ⟨o, w, borO b x.a x.b⟩
 else if x.what = 3 then ⟨sweepO L o b (pickP made (rootsT x)), sweepR L w b (pickP made (rootsT x)), b⟩
 else ⟨o, w, b⟩ by rw [← e]; rfl)
 refine X_spM (n := 101) (n0 := 22) tabOk Tryz.call13 Tryz.func13 ?_
 intro hb
 refine XM.seq ?_
 (conv => whnf)
 refine XM.seq ?_
 (conv => whnf)
 refine cl [] [] (o1) ?_
 (conv => whnf)
 refine XM.join (ι := Unit) (fun _ => ⟨[(0, .c (.ptr 0 0)), (1, .c (.ptr 11 0)), (2, .c (.bs 1 Int encI made)), (7, .c (.ptr 22 0)), (9, .c (.int .i64 (stepK made x)))], [.box [.ptr 1 0, .rw 3, .rw 4, .rw 5, .rw 6, .rw 7, .rw 8, .rw 9, .rw 10], .box [.rw 2], .row 6 Ob encOb L, .row 1 Bool encBo ((DS.mk o w b).o 0), .row 1 Bool encBo ((DS.mk o w b).o 1), .row 1 Bool encBo ((DS.mk o w b).o 2), .row 1 Bool encBo ((DS.mk o w b).o 3), .row 1 Int encI ((DS.mk o w b).b 0), .row 1 Int encI ((DS.mk o w b).b 1), .row 1 Int encI ((DS.mk o w b).b 2), .row 1 Int encI ((DS.mk o w b).b 3), .box [.ptr 12 0, .rw 14, .rw 15, .rw 16, .rw 17, .rw 18, .rw 19, .rw 20, .rw 21], .box [.rw 13], .row 6 Ob encOb L, .row 1 Int encI ((DS.mk o w b).w 0), .row 1 Int encI ((DS.mk o w b).w 1), .row 1 Int encI ((DS.mk o w b).w 2), .row 1 Int encI ((DS.mk o w b).w 3), .row 1 Int encI ((DS.mk o w b).b 0), .row 1 Int encI ((DS.mk o w b).b 1), .row 1 Int encI ((DS.mk o w b).b 2), .row 1 Int encI ((DS.mk o w b).b 3)] ++ [.box (encDt x)]⟩) (fun _ => True) ?_ (fun _ _ => ?_)
 ·(conv => whnf)
  rw [hK]
  refine boo (fun h => ?_) (fun h => ?_)
  ·have h : x.odd = true := h
   rw [if_pos h]
   (conv => whnf)
   exact ⟨(), trivial, [], [.same 0, .same 1, .same 2, .same 3, .same 4, .same 5, .same 6, .same 7, .same 8, .same 9, .same 10, .same 11, .same 12, .same 13, .same 14, .same 15, .same 16, .same 17, .same 18, .same 19, .same 20, .same 21, .same 22], by repeat' first | exact trivial | exact rfl | refine And.intro ?_ ?_⟩
  ·have h : x.odd = false := h
   rw [if_neg (by rw [h]; decide)]
   (conv => whnf)
   exact ⟨(), trivial, [], [.same 0, .same 1, .same 2, .same 3, .same 4, .same 5, .same 6, .same 7, .same 8, .same 9, .same 10, .same 11, .same 12, .same 13, .same 14, .same 15, .same 16, .same 17, .same 18, .same 19, .same 20, .same 21, .same 22], by repeat' first | exact trivial | exact rfl | refine And.intro ?_ ?_⟩
 refine XM.of ?_
 generalize stepK made x = k at hD
 have hD := hD k rfl
 generalize stepD L made ⟨o, w, b⟩ x = S at hD ⊢
 (conv => whnf)
 refine dec (fun h0 => ?_) (fun h0 => ?_)
 ·have h0 : x.what = 0 := h0
  rw [if_pos h0] at hD
  subst hD
  (conv => whnf)
  have p1 := addD_dspec L hL o b hb4 hol x.a [k] (by simp)
  have p2 := addR_dspec L hL w b hb4 hwl x.a [k] (by simp)
  generalize addC L x.a [k] = c at p1 p2
  generalize addO L o b x.a [k] = o' at p1 ⊢
  generalize addRO L w b x.a [k] = w' at p2 ⊢
  refine ⟨false, .prot [22], (.alt [0, 1, 2, 3, 6, 7, 8, 9] [4, 10] fun j => bif Nat.beq j 4 then (.alt [] [5, 10] fun j => bif Nat.beq j 5 then (.l [10, 11, 12, 13]) else bif Nat.beq j 10 then (.l [5, 11, 12, 13]) else .l []) else bif Nat.beq j 10 then (.l [4, 5, 11, 12, 13]) else .l []), by kernel_rfl, .inl ?_⟩
  (conv => whnf)
  refine And.intro ?_ ?_
  ·(conv => whnf)
   refine ⟨[k], rfl, ?_⟩
   (conv => whnf)
   refine And.intro ?_ ?_
   ·(conv => whnf)
    refine cl [] [0, 1, 2, 3, 4, 5, 6, 7, 8, 9, 10] (p1) ?_
    (conv => whnf)
    refine ⟨[k], rfl, ?_⟩
    (conv => whnf)
    refine cl [] [11, 12, 13, 14, 15, 16, 17, 18, 19, 20, 21] (p2) ?_
    (conv => whnf)
    rw [show decide (c = c) = true from decide_eq_true rfl]
    exact rx [] [.same 0, .same 1, .same 2, .same 3, .same 4, .same 5, .same 6, .same 7, .same 8, .same 9, .same 10, .same 11, .same 12, .same 13, .same 14, .same 15, .same 16, .same 17, .same 18, .same 19, .same 20, .same 21, .same 24, .same 25, .same 26, .same 27, .same 7, .same 8, .same 9, .same 10, .same 29, .same 30, .same 31, .same 32, .same 18, .same 19, .same 20, .same 21]
   ·(conv => whnf)
    refine ⟨[k], rfl, ?_⟩
    (conv => whnf)
    refine cl [] [0, 1, 2, 3, 4, 5, 6, 7, 8, 9, 10] (p1) ?_
    (conv => whnf)
    refine cl [] [11, 12, 13, 14, 15, 16, 17, 18, 19, 20, 21] (p2) ?_
    (conv => whnf)
    rw [show decide (c = c) = true from decide_eq_true rfl]
    exact rx [] [.same 0, .same 1, .same 2, .same 3, .same 4, .same 5, .same 6, .same 7, .same 8, .same 9, .same 10, .same 11, .same 12, .same 13, .same 14, .same 15, .same 16, .same 17, .same 18, .same 19, .same 20, .same 21, .same 25, .same 26, .same 27, .same 28, .same 7, .same 8, .same 9, .same 10, .same 29, .same 30, .same 31, .same 32, .same 18, .same 19, .same 20, .same 21]
  ·(conv => whnf)
   refine ⟨[k], rfl, ?_⟩
   (conv => whnf)
   refine ⟨[k], rfl, ?_⟩
   (conv => whnf)
   refine cl [] [0, 1, 2, 3, 4, 5, 6, 7, 8, 9, 10] (p1) ?_
   (conv => whnf)
   refine cl [] [11, 12, 13, 14, 15, 16, 17, 18, 19, 20, 21] (p2) ?_
   (conv => whnf)
   rw [show decide (c = c) = true from decide_eq_true rfl]
   exact rx [] [.same 0, .same 1, .same 2, .same 3, .same 4, .same 5, .same 6, .same 7, .same 8, .same 9, .same 10, .same 11, .same 12, .same 13, .same 14, .same 15, .same 16, .same 17, .same 18, .same 19, .same 20, .same 21, .same 25, .same 26, .same 27, .same 28, .same 7, .same 8, .same 9, .same 10, .same 29, .same 30, .same 31, .same 32, .same 18, .same 19, .same 20, .same 21]
 have h0 : ¬ x.what = 0 := h0
 rw [if_neg h0] at hD
 (conv => whnf)
 refine dec (fun h1 => ?_) (fun h1 => ?_)
 ·have h1 : x.what = 1 := h1
  rw [if_pos h1] at hD
  subst hD
  have p1 := fetD_spec L hL o b hb4 hol x.a x.b k
  have p2 := fetR_spec L hL w b hb4 hwl x.a x.b k
  rw [hs.sm.fetC hL hb4] at p2
  generalize fetC L ⟨o, b⟩ x.a x.b k = c at p1 p2
  generalize fetO L o b x.a x.b k = o' at p1 ⊢
  generalize fetRO L w b x.a x.b k = w' at p2 ⊢
  (conv => whnf)
  refine ⟨false, .prot [22], (.l [0, 1, 2, 3, 4, 5, 7, 8, 9, 10, 11, 12, 6, 13, 14, 15]), by kernel_rfl, .inl ?_⟩
  (conv => whnf)
  refine cl [] [0, 1, 2, 3, 4, 5, 6, 7, 8, 9, 10] (p1) ?_
  (conv => whnf)
  refine cl [] [11, 12, 13, 14, 15, 16, 17, 18, 19, 20, 21] (p2) ?_
  (conv => whnf)
  rw [show decide (c = c) = true from decide_eq_true rfl]
  exact rx [] [.same 0, .same 1, .same 2, .same 3, .same 4, .same 5, .same 6, .same 7, .same 8, .same 9, .same 10, .same 11, .same 12, .same 13, .same 14, .same 15, .same 16, .same 17, .same 18, .same 19, .same 20, .same 21, .same 23, .same 24, .same 25, .same 26, .same 7, .same 8, .same 9, .same 10, .same 27, .same 28, .same 29, .same 30, .same 18, .same 19, .same 20, .same 21]
 have h1 : ¬ x.what = 1 := h1
 rw [if_neg h1] at hD
 (conv => whnf)
 refine dec (fun h2 => ?_) (fun h2 => ?_)
 ·have h2 : x.what = 2 := h2
  rw [if_pos h2] at hD
  subst hD
  have p1 := borD_spec L o b hb4 x.a x.b
  have p2 := borR_spec L w b hb4 x.a x.b
  generalize borC b x.a x.b = c at p1 p2
  generalize borO b x.a x.b = b' at p1 p2 ⊢
  (conv => whnf)
  refine ⟨false, .prot [22], (.l [0, 1, 2, 3, 4, 6, 7, 8, 9, 10, 5, 11, 12, 13]), by kernel_rfl, .inl ?_⟩
  (conv => whnf)
  refine cl [] [0, 1, 2, 3, 4, 5, 6, 7, 8, 9, 10] (p1) ?_
  (conv => whnf)
  refine cl [] [11, 12, 13, 14, 15, 16, 17, 18, 19, 20, 21] (p2) ?_
  (conv => whnf)
  rw [show decide (c = c) = true from decide_eq_true rfl]
  exact rx [] [.same 0, .same 1, .same 2, .same 3, .same 4, .same 5, .same 6, .same 7, .same 8, .same 9, .same 10, .same 11, .same 12, .same 13, .same 14, .same 15, .same 16, .same 17, .same 18, .same 19, .same 20, .same 21, .same 3, .same 4, .same 5, .same 6, .same 23, .same 24, .same 25, .same 26, .same 14, .same 15, .same 16, .same 17, .same 27, .same 28, .same 29, .same 30]
 have h2 : ¬ x.what = 2 := h2
 rw [if_neg h2] at hD
 (conv => whnf)
 refine dec (fun h3 => ?_) (fun h3 => ?_)
 ·have h3 : x.what = 3 := h3
  rw [if_pos h3] at hD
  subst hD
  have q1 := pick_spec made (rootsT x) hx
  have hr0 : ∀ r, r < 4 → (pickP made (rootsT x) r).length ≤ 100000 := fun r hr => by
   rw [pickP_at]
   have := pickN_len (made := made) (l := rootsT x r)
   have := hx r hr
   omega
  generalize pickP made (rootsT x) = r0 at q1 hr0 ⊢
  have q2 := need_dspec L hL o b r0 hr0
  have q3 := need_rspec L hL w b r0 hr0
  have q4 := sweep_dspec L hL o b r0 hb4 hol hr0
  have q5 := sweep_rspec L hL w b r0 hb4 hwl hr0
  generalize sweepO L o b r0 = o' at q4 ⊢
  generalize sweepR L w b r0 = w' at q5 ⊢
  generalize needP L r0 = need at q2 q3
  (conv => whnf)
  refine cl [] [] (q1) ?_
  (conv => whnf)
  refine ⟨false, .grow, (.alt [0, 1, 3, 4] [2, 6, 7] fun j => bif Nat.beq j 2 then (.alt [] [5, 6, 7] fun j => bif Nat.beq j 5 then (.alt [] [6, 7] fun j => bif Nat.beq j 6 then (.l [7, 8, 9]) else bif Nat.beq j 7 then (.l [6, 8, 9]) else .l []) else bif Nat.beq j 6 then (.alt [] [5, 7] fun j => bif Nat.beq j 5 then (.l [7, 8, 9]) else bif Nat.beq j 7 then (.l [5, 8, 9]) else .l []) else bif Nat.beq j 7 then (.alt [] [5, 6] fun j => bif Nat.beq j 5 then (.l [6, 8, 9]) else bif Nat.beq j 6 then (.l [5, 8, 9]) else .l []) else .l []) else bif Nat.beq j 6 then (.alt [] [2, 7] fun j => bif Nat.beq j 2 then (.alt [] [5, 7] fun j => bif Nat.beq j 5 then (.l [7, 8, 9]) else bif Nat.beq j 7 then (.l [5, 8, 9]) else .l []) else bif Nat.beq j 7 then (.l [2, 5, 8, 9]) else .l []) else bif Nat.beq j 7 then (.alt [] [2, 6] fun j => bif Nat.beq j 2 then (.alt [] [5, 6] fun j => bif Nat.beq j 5 then (.l [6, 8, 9]) else bif Nat.beq j 6 then (.l [5, 8, 9]) else .l []) else bif Nat.beq j 6 then (.l [2, 5, 8, 9]) else .l []) else .l []), by kernel_rfl, .inr ⟨Unit, fun _ => ⟨[(0, .c (.ptr 0 0)), (1, .c (.ptr 11 0)), (10, .c (.ptr 23 0)), (11, .c (.ptr 24 0)), (12, .c (.ptr 25 0))], [.box [.ptr 1 0, .rw 3, .rw 4, .rw 5, .rw 6, .rw 7, .rw 8, .rw 9, .rw 10], .box [.rw 2], .row 6 Ob encOb L, .row 1 Bool encBo ((DS.mk o w b).o 0), .row 1 Bool encBo ((DS.mk o w b).o 1), .row 1 Bool encBo ((DS.mk o w b).o 2), .row 1 Bool encBo ((DS.mk o w b).o 3), .row 1 Int encI ((DS.mk o w b).b 0), .row 1 Int encI ((DS.mk o w b).b 1), .row 1 Int encI ((DS.mk o w b).b 2), .row 1 Int encI ((DS.mk o w b).b 3), .box [.ptr 12 0, .rw 14, .rw 15, .rw 16, .rw 17, .rw 18, .rw 19, .rw 20, .rw 21], .box [.rw 13], .row 6 Ob encOb L, .row 1 Int encI ((DS.mk o w b).w 0), .row 1 Int encI ((DS.mk o w b).w 1), .row 1 Int encI ((DS.mk o w b).w 2), .row 1 Int encI ((DS.mk o w b).w 3), .row 1 Int encI ((DS.mk o w b).b 0), .row 1 Int encI ((DS.mk o w b).b 1), .row 1 Int encI ((DS.mk o w b).b 2), .row 1 Int encI ((DS.mk o w b).b 3)] ++ [.box (encDt x), .box [.ls 1 Int encI (r0 0), .ls 1 Int encI (r0 1), .ls 1 Int encI (r0 2), .ls 1 Int encI (r0 3)], .box [.ls 1 Int encI (need 0), .ls 1 Int encI (need 1), .ls 1 Int encI (need 2), .ls 1 Int encI (need 3)], .box [.ls 1 Int encI (need 0), .ls 1 Int encI (need 1), .ls 1 Int encI (need 2), .ls 1 Int encI (need 3)]]⟩, fun _ => True, ?_, ?_⟩⟩
  ·(conv => whnf)
   repeat' first | refine And.intro ?_ ?_ | ((conv => whnf); first | refine cl [] [] (q2) ?_ | refine cl [] [] (q3) ?_ | (refine ⟨(), trivial, [], [.same 0, .same 1, .same 2, .same 3, .same 4, .same 5, .same 6, .same 7, .same 8, .same 9, .same 10, .same 11, .same 12, .same 13, .same 14, .same 15, .same 16, .same 17, .same 18, .same 19, .same 20, .same 21, .same 22, .same 23, .same 24, .same 25], ?_⟩; (repeat' first | exact trivial | exact rfl | refine And.intro ?_ ?_); done) | (refine ⟨(), trivial, [], [.same 0, .same 1, .same 2, .same 3, .same 4, .same 5, .same 6, .same 7, .same 8, .same 9, .same 10, .same 11, .same 12, .same 13, .same 14, .same 15, .same 16, .same 17, .same 18, .same 19, .same 20, .same 21, .same 22, .same 23, .same 25, .same 24], ?_⟩; (repeat' first | exact trivial | exact rfl | refine And.intro ?_ ?_); done) | fail)
  intro _ _
  (conv => whnf)
  refine lp Nat (fun r => ⟨[(0, .c (.ptr 0 0)), (1, .c (.ptr 11 0)), (10, .c (.ptr 23 0)), (11, .c (.ptr 24 0)), (12, .c (.ptr 25 0)), (13, .c (.int .i64 r))], [.box [.ptr 1 0, .rw 3, .rw 4, .rw 5, .rw 6, .rw 7, .rw 8, .rw 9, .rw 10], .box [.rw 2], .row 6 Ob encOb L, .row 1 Bool encBo ((DS.mk o w b).o 0), .row 1 Bool encBo ((DS.mk o w b).o 1), .row 1 Bool encBo ((DS.mk o w b).o 2), .row 1 Bool encBo ((DS.mk o w b).o 3), .row 1 Int encI ((DS.mk o w b).b 0), .row 1 Int encI ((DS.mk o w b).b 1), .row 1 Int encI ((DS.mk o w b).b 2), .row 1 Int encI ((DS.mk o w b).b 3), .box [.ptr 12 0, .rw 14, .rw 15, .rw 16, .rw 17, .rw 18, .rw 19, .rw 20, .rw 21], .box [.rw 13], .row 6 Ob encOb L, .row 1 Int encI ((DS.mk o w b).w 0), .row 1 Int encI ((DS.mk o w b).w 1), .row 1 Int encI ((DS.mk o w b).w 2), .row 1 Int encI ((DS.mk o w b).w 3), .row 1 Int encI ((DS.mk o w b).b 0), .row 1 Int encI ((DS.mk o w b).b 1), .row 1 Int encI ((DS.mk o w b).b 2), .row 1 Int encI ((DS.mk o w b).b 3)] ++ [.box (encDt x), .box [.ls 1 Int encI (r0 0), .ls 1 Int encI (r0 1), .ls 1 Int encI (r0 2), .ls 1 Int encI (r0 3)], .box [.ls 1 Int encI (need 0), .ls 1 Int encI (need 1), .ls 1 Int encI (need 2), .ls 1 Int encI (need 3)], .box [.ls 1 Int encI (need 0), .ls 1 Int encI (need 1), .ls 1 Int encI (need 2), .ls 1 Int encI (need 3)]]⟩) (fun r => r ≤ 4 ∧ True) (fun r => 4 - r) 0 [] [.same 0, .same 1, .same 2, .same 3, .same 4, .same 5, .same 6, .same 7, .same 8, .same 9, .same 10, .same 11, .same 12, .same 13, .same 14, .same 15, .same 16, .same 17, .same 18, .same 19, .same 20, .same 21, .same 22, .same 23, .same 24, .same 25] ⟨Nat.zero_le _, trivial⟩ ?_ (fun r hr => ?_)
  ·repeat' first | exact trivial | exact rfl | refine And.intro ?_ ?_
  obtain ⟨hr4, -⟩ := hr
  (conv => whnf)
  refine dec (fun h5 => ?_) (fun h5 => ?_)
  ·have hr : r < 4 := by have h5 : (r : Int) < 4 := h5; omega
   rcases four hr with rfl | rfl | rfl | rfl <;> (
    (conv => whnf)
    refine ⟨false, .grow, (.l [0, 1, 2, 3, 4, 5, 6, 7]), by kernel_rfl, .inl ?_⟩
    (conv => whnf)
    refine ⟨_, ⟨rfl, by decide⟩, ?_⟩
    (conv => whnf)
    refine ⟨_, ⟨rfl, by decide⟩, ?_⟩
    (conv => whnf)
    refine cl [] [] (sameI_eq (need _)) ?_
    repeat' ((conv => whnf); refine I6 ?_)
    refine ag _ [] [.same 0, .same 1, .same 2, .same 3, .same 4, .same 5, .same 6, .same 7, .same 8, .same 9, .same 10, .same 11, .same 12, .same 13, .same 14, .same 15, .same 16, .same 17, .same 18, .same 19, .same 20, .same 21, .same 22, .same 23, .same 24, .same 25] ⟨hr, trivial⟩ (by simp only []; omega) ?_
    repeat' first | exact trivial | exact rfl | refine And.intro ?_ ?_)
  ·(conv => whnf)
   refine cl [] [0, 1, 2, 3, 4, 5, 6, 7, 8, 9, 10] (q4) ?_
   (conv => whnf)
   refine cl [] [11, 12, 13, 14, 15, 16, 17, 18, 19, 20, 21] (q5) ?_
   (conv => whnf)
   exact rx [] [.same 0, .same 1, .same 2, .same 3, .same 4, .same 5, .same 6, .same 7, .same 8, .same 9, .same 10, .same 11, .same 12, .same 13, .same 14, .same 15, .same 16, .same 17, .same 18, .same 19, .same 20, .same 21, .same 3, .same 4, .same 5, .same 6, .same 7, .same 8, .same 9, .same 10, .same 26, .same 27, .same 28, .same 29, .same 18, .same 19, .same 20, .same 21]
 have h3 : ¬ x.what = 3 := h3
 rw [if_neg h3] at hD
 subst hD
 (conv => whnf)
 exact rx [] [.same 0, .same 1, .same 2, .same 3, .same 4, .same 5, .same 6, .same 7, .same 8, .same 9, .same 10, .same 11, .same 12, .same 13, .same 14, .same 15, .same 16, .same 17, .same 18, .same 19, .same 20, .same 21, .same 3, .same 4, .same 5, .same 6, .same 7, .same 8, .same 9, .same 10, .same 14, .same 15, .same 16, .same 17, .same 18, .same 19, .same 20, .same 21]
end Go.Nest
end
/- part -/
section

namespace Go.Nest
open Go Go.AM Go.Proofs
open Go.Proofs.YtpmjnbidmcnhnaaGreatDoor (tab tabOk)
set_option maxRecDepth 4000
def repoT (r : Int) : Int := IntKind.i64.wrap ((IntKind.u64.wrap r).tmod 4)
def mountF (s : List Ob × List Int) (x : Mt) : List Fi := inOrdP ((filesP s.1 (getP s.1 (oneP s.2 x.k)).tree).1 ++ [⟨x.path, 3, oneP s.2 x.to, repoT x.repo⟩])
def mountB (s : List Ob × List Int) (x : Mt) : Int × Int × List Ob := buildP s.1 (mountF s x)
def linkT : List UInt8 := [108, 105, 110, 107]
def mountP (s : List Ob × List Int) (x : Mt) : Int × Int × List Ob := putP (mountB s x).2.2 (comO (mountB s x).1 [oneP s.2 x.k] linkT)
def mountS (s : List Ob × List Int) (x : Mt) : List Ob × List Int :=
 if s.2.length = 0 then s else if (mountB s x).2.1 ≠ 0 then ((mountB s x).2.2, s.2) else ((mountP s x).2.2, if (mountP s x).2.1 = 0 ∧ (mountP s x).1 ∉ s.2 then s.2 ++ [(mountP s x).1] else s.2)
def depotsU (l : List Sn) (m : List Mt) : List Ob × List Int := m.foldl mountS (growU l)
theorem mountS_ok {s : List Ob × List Int} {x : Mt} (h : PoolOk s.1) : PoolOk (mountS s x).1 := by
 unfold mountS
 split
 ·exact h
 ·have hb := (buildP_ok h (mountF s x)).1
  split
  ·exact hb
  ·exact putP_ok hb _
theorem mountS_len {s : List Ob × List Int} {x : Mt} : (mountS s x).2.length ≤ s.2.length + 1 := by
 unfold mountS
 split
 ·omega
 ·split
  ·exact Nat.le_succ _
  ·dsimp only
   split
   ·rw [List.length_append, List.length_singleton]; omega
   ·omega
theorem mount_fold : ∀ {m : List Mt} {s : List Ob × List Int}, PoolOk s.1 → PoolOk (m.foldl mountS s).1 ∧ (m.foldl mountS s).2.length ≤ s.2.length + m.length
 | [], s, h => ⟨h, by simp⟩
 | x :: m, s, h => by
  have h1 := mount_fold (m := m) (mountS_ok (x := x) h)
  have h2 := mountS_len (s := s) (x := x)
  rw [List.foldl_cons, List.length_cons]
  exact ⟨h1.1, by omega⟩
theorem mount_stop {s : List Ob × List Int} (h : s.2.length = 0) : ∀ {m : List Mt}, m.foldl mountS s = s
 | [] => rfl
 | x :: m => by
  rw [List.foldl_cons, show mountS s x = s from if_pos h]
  exact mount_stop h
theorem depotNew_spec (L : List Ob) : Does Tryz.prog 46 [.c (.ptr 0 0)] [.box [.rw 1], .row 6 Ob encOb L] (Rt (.c (.ptr 2 0)) [.box [.rw 1], .row 6 Ob encOb L, .box [.ptr 0 0, .rw 3, .rw 4, .rw 5, .rw 6, .rw 7, .rw 8, .rw 9, .rw 10], .row 1 Bool encBo [], .row 1 Bool encBo [], .row 1 Bool encBo [], .row 1 Bool encBo [], .row 1 Int encI [], .row 1 Int encI [], .row 1 Int encI [], .row 1 Int encI []]) := by
 refine X_spec (n := 6) (n0 := 2) tabOk Tryz.call46 Tryz.func46 ?_
 intro hb
 (conv => whnf)
 exact rx [] [.same 0, .same 1, .same 2, .new, .new, .new, .new, .new, .new, .new, .new]
set_option maxHeartbeats 8000000 in
theorem depots_spec (l : List Sn) (m : List Mt) (hl : l.length ≤ 25 ∧ ∀ s ∈ l, SnapOk s) (hm : m.length ≤ 15) (hp : ∀ x ∈ m, x.path.length ≤ 300) : Does Tryz.prog 12 [.c (.bs 3 Sn encSn l), .c (.bs 4 Mt encMt m)] [] (Rt (.tup [(false, [.ptr 0 0]), (false, [.ptr 11 0]), (false, [.rw 22]), (false, [.bool true])]) [.box [.ptr 1 0, .rw 3, .rw 4, .rw 5, .rw 6, .rw 7, .rw 8, .rw 9, .rw 10], .box [.rw 2], .row 6 Ob encOb (depotsU l m).1, .row 1 Bool encBo [], .row 1 Bool encBo [], .row 1 Bool encBo [], .row 1 Bool encBo [], .row 1 Int encI [], .row 1 Int encI [], .row 1 Int encI [], .row 1 Int encI [], .box [.ptr 12 0, .rw 14, .rw 15, .rw 16, .rw 17, .rw 18, .rw 19, .rw 20, .rw 21], .box [.rw 13], .row 6 Ob encOb (depotsU l m).1, .row 1 Int encI [], .row 1 Int encI [], .row 1 Int encI [], .row 1 Int encI [], .row 1 Int encI [], .row 1 Int encI [], .row 1 Int encI [], .row 1 Int encI [], .row 1 Int encI (depotsU l m).2]) := by
 refine X_spec (n := 154) (n0 := 0) tabOk Tryz.call12 Tryz.func12 ?_
 intro hb
 have hg0 : PoolOk (growU l).1 := grow_ok
 have hg1 : (growU l).2.length ≤ 25 := Nat.le_trans (grow_len (l := l) (s := ([], []))) (by simpa using hl.1)
 have hU : m.foldl mountS (growU l) = depotsU l m := rfl
 (conv => whnf)
 refine cl [] [] (grown_spec l hl) ?_
 generalize growU l = g at hg0 hg1 hU ⊢
 generalize depotsU l m = U at hU ⊢
 (conv => whnf)
 refine lp (Nat × (List Ob × List Int)) (fun p => ⟨[(1, .c (.bs 4 Mt encMt m)), (8, .c (.ptr 0 0)), (9, .c (.ptr 2 0)), (10, .c (.rw 4)), (11, .c (.bool true)), (12, .c (.int .i64 p.1))], [.box [.rw 1], .row 6 Ob encOb p.2.1, .box [.rw 3], .row 6 Ob encOb p.2.1, .row 1 Int encI p.2.2]⟩) (fun p => ((p.1 ≤ m.length ∧ p.2.2.length ≤ 25 + p.1) ∧ PoolOk p.2.1 ∧ (m.drop p.1).foldl mountS p.2 = U) ∧ True) (fun p => m.length - p.1) (0, g) [] [.same 0, .same 1, .same 2, .same 3, .same 4] ⟨⟨⟨Nat.zero_le _, hg1⟩, hg0, by rw [List.drop_zero]; exact hU⟩, trivial⟩ ?_ (fun ⟨i, M, made⟩ hi => ?_)
 ·repeat' first | exact trivial | exact rfl | refine And.intro ?_ ?_
 obtain ⟨⟨⟨hi, hml⟩, hM, hU⟩, -⟩ := hi
 dsimp only at hi hml hM hU
 (conv => whnf)
 refine dec (fun h4 => ?_) (fun h4 => ?_)
 ·have hlt : i < m.length := by have h4 : (i : Int) < m.length := h4; omega
  (conv => whnf)
  refine dec (fun h5 => ?_) (fun h5 => ?_)
  ·have h5 : (made.length : Int) = 0 := h5
   rw [mount_stop (s := (M, made)) (by show made.length = 0; omega)] at hU
   subst hU
   (conv => whnf)
   refine cl [] [0, 1] (depotNew_spec M) ?_
   (conv => whnf)
   exact rx [] [.same 5, .same 0, .same 1, .same 6, .same 7, .same 8, .same 9, .same 10, .same 11, .same 12, .same 13, .same 14, .same 2, .same 3, .new, .new, .new, .new, .new, .new, .new, .new, .same 4]
  ·have hiy : m[i]? = some m[i] := List.getElem?_eq_getElem hlt
   have hxp := hp _ (List.getElem_mem hlt)
   rw [List.drop_eq_getElem_cons hlt, List.foldl_cons] at hU
   generalize m[i] = x at hiy hxp hU
   have o1 := one_spec made x.k
   have o2 := one_spec made x.to
   have g1 := get_spec M hM (oneP made x.k)
   have hSt : mountS (M, made) x = if made.length = 0 then (M, made) else if (mountB (M, made) x).2.1 ≠ 0 then ((mountB (M, made) x).2.2, made) else ((mountP (M, made) x).2.2, if (mountP (M, made) x).2.1 = 0 ∧ (mountP (M, made) x).1 ∉ made then made ++ [(mountP (M, made) x).1] else made) := rfl
   rw [if_neg (fun h => h5 (by show (made.length : Int) = 0; omega))] at hSt
   have hBe : mountB (M, made) x = buildP M (inOrdP ((filesP M (getP M (oneP made x.k)).tree).1 ++ [⟨x.path, 3, oneP made x.to, repoT x.repo⟩])) := rfl
   have hPe : mountP (M, made) x = putP (mountB (M, made) x).2.2 (comO (mountB (M, made) x).1 [oneP made x.k] linkT) := rfl
   generalize mountB (M, made) x = B at hSt hBe hPe
   generalize mountP (M, made) x = P at hSt hPe
   generalize mountS (M, made) x = S at hSt hU
   generalize oneP made x.k = k at o1 g1 hBe hPe
   generalize oneP made x.to = to at o2 hBe
   have f1 := flatFiles_spec M hM (getP M k).tree
   obtain ⟨hfl, hfp⟩ := files_sum hM (getP M k).tree
   generalize getP M k = ob at g1 f1 hfl hfp hBe
   generalize filesP M ob.tree = fs at f1 hfl hfp hBe
   obtain ⟨fs, fc⟩ := fs
   dsimp only at f1 hfl hfp hBe
   (conv => whnf)
   refine ⟨i, x, rfl, hiy, ?_⟩
   (conv => whnf)
   refine ⟨false, .grow, (.l [0, 1, 2, 4, 5, 6, 3, 7, 8, 9]), by kernel_rfl, .inl ?_⟩
   (conv => whnf)
   refine cl [] [] (o1) ?_
   (conv => whnf)
   refine cl [] [] (o2) ?_
   (conv => whnf)
   refine cl [] [] (g1) ?_
   (conv => whnf)
   refine cl [] [] (f1) ?_
   have hfl2 : (fs ++ [(⟨x.path, 3, to, repoT x.repo⟩ : Fi)]).length ≤ 61 := by rw [List.length_append, List.length_singleton]; omega
   have hfp2 : ∀ f ∈ fs ++ [(⟨x.path, 3, to, repoT x.repo⟩ : Fi)], f.path.length ≤ 4000000 := fun f hf => by
    rcases List.mem_append.1 hf with hf | hf
    ·have := hfp f hf; omega
    ·rw [List.mem_singleton] at hf; subst hf; show x.path.length ≤ 4000000; omega
   have n1 := inOrder_spec _ (Nat.le_trans hfl2 (by decide)) hfp2
   have hip : ∀ f ∈ inOrdP (fs ++ [(⟨x.path, 3, to, repoT x.repo⟩ : Fi)]), f.path.length ≤ 4000000 := fun f hf => hfp2 f ((inOrd_perm _).mem_iff.1 hf)
   have b1 := flatBuild_spec M _ hM hip
   have b2 := treeOfTop_spec M _ hM hip
   have hBo := (buildP_ok hM (inOrdP (fs ++ [(⟨x.path, 3, to, repoT x.repo⟩ : Fi)]))).1
   rw [← hBe] at b1 b2 hBo
   generalize inOrdP (fs ++ [(⟨x.path, 3, to, repoT x.repo⟩ : Fi)]) = is at n1 b1 b2
   clear hBe
   obtain ⟨bt, bc, N⟩ := B
   dsimp only at b1 b2 hBo hSt hPe
   have hNl := hBo.len
   (conv => whnf)
   refine ⟨by decide, ?_⟩
   (conv => whnf)
   refine ⟨[⟨x.path, 3, to, repoT x.repo⟩], rfl, ?_⟩
   (conv => whnf)
   refine ⟨_, _, rfl, rfl, (by simp only [List.length_append, List.length_cons, List.length_nil]; omega), ?_⟩
   (conv => whnf)
   refine cl [] [] (n1) ?_
   (conv => whnf)
   refine cl [] [0, 1] (b1) ?_
   (conv => whnf)
   refine cl [] [2, 3] (b2) ?_
   (conv => whnf)
   refine dec (fun _ => ?_) (fun h => absurd rfl h)
   (conv => whnf)
   rw [show decide (bc = bc) = true from decide_eq_true rfl]
   refine decN (fun h6 => ?_) (fun h6 => ?_)
   ·have h6 : ¬ bc = 0 := h6
    rw [if_pos h6] at hSt
    subst hSt
    repeat' ((conv => whnf); refine I6 ?_)
    refine ag (i + 1, (N, made)) [] [.same 0, .same 11, .same 2, .same 12, .same 4] ⟨⟨⟨hlt, by show made.length ≤ 25 + (i + 1); omega⟩, hBo, hU⟩, trivial⟩ (by simp only []; omega) ?_
    repeat' first | exact trivial | exact rfl | refine And.intro ?_ ?_
   ·obtain rfl : bc = 0 := h6
    rw [if_neg (fun h => h rfl)] at hSt
    have hPo := putP_ok hBo (comO bt [k] linkT)
    have p1 := put_spec N (comO bt [k] linkT) hNl
    have p2 := putR_spec N (comO bt [k] linkT) hNl
    rw [← hPe] at p1 p2 hPo
    clear hPe
    obtain ⟨pt, pc, Q⟩ := P
    dsimp only at p1 p2 hPo hSt
    (conv => whnf)
    refine ⟨[k], rfl, ?_⟩
    (conv => whnf)
    refine cl [] [0, 11] (p1) ?_
    (conv => whnf)
    refine cl [] [2, 12] (p2) ?_
    (conv => whnf)
    refine dec (fun _ => ?_) (fun h => absurd rfl h)
    (conv => whnf)
    rw [show decide (pc = pc) = true from decide_eq_true rfl]
    refine dec (fun h7 => ?_) (fun h7 => ?_)
    ·obtain rfl : pc = 0 := h7
     (conv => whnf)
     refine cl [] [] (in_spec made pt) ?_
     (conv => whnf)
     refine decN (fun h8 => ?_) (fun h8 => ?_)
     ·have h8 : pt ∉ made := h8
      rw [if_pos ⟨rfl, h8⟩] at hSt
      subst hSt
      (conv => whnf)
      refine ⟨[pt], rfl, ?_⟩
      (conv => whnf)
      refine ⟨_, _, rfl, rfl, (by simp only [List.length_append, List.length_cons, List.length_nil]; omega), ?_⟩
      repeat' ((conv => whnf); refine I6 ?_)
      refine ag (i + 1, (Q, made ++ [pt])) [] [.same 0, .same 15, .same 2, .same 16, .same 18] ⟨⟨⟨hlt, by show (made ++ [pt]).length ≤ 25 + (i + 1); rw [List.length_append, List.length_singleton]; omega⟩, hPo, hU⟩, trivial⟩ (by simp only []; omega) ?_
      repeat' first | exact trivial | exact rfl | refine And.intro ?_ ?_
     ·have h8 : pt ∈ made := h8
      rw [if_neg (fun h => h.2 h8)] at hSt
      subst hSt
      repeat' ((conv => whnf); refine I6 ?_)
      refine ag (i + 1, (Q, made)) [] [.same 0, .same 15, .same 2, .same 16, .same 4] ⟨⟨⟨hlt, by show made.length ≤ 25 + (i + 1); omega⟩, hPo, hU⟩, trivial⟩ (by simp only []; omega) ?_
      repeat' first | exact trivial | exact rfl | refine And.intro ?_ ?_
    ·have h7 : ¬ pc = 0 := h7
     rw [if_neg (fun h => h7 h.1)] at hSt
     subst hSt
     repeat' ((conv => whnf); refine I6 ?_)
     refine ag (i + 1, (Q, made)) [] [.same 0, .same 15, .same 2, .same 16, .same 4] ⟨⟨⟨hlt, by show made.length ≤ 25 + (i + 1); omega⟩, hPo, hU⟩, trivial⟩ (by simp only []; omega) ?_
     repeat' first | exact trivial | exact rfl | refine And.intro ?_ ?_
 ·obtain rfl : i = m.length := by have h4 : ¬ (i : Int) < m.length := h4; omega
  rw [List.drop_length] at hU
  have hU : (M, made) = U := hU
  subst hU
  (conv => whnf)
  refine cl [] [0, 1] (depotNew_spec M) ?_
  (conv => whnf)
  exact rx [] [.same 5, .same 0, .same 1, .same 6, .same 7, .same 8, .same 9, .same 10, .same 11, .same 12, .same 13, .same 14, .same 2, .same 3, .new, .new, .new, .new, .new, .new, .new, .new, .same 4]
end Go.Nest
end
