/- part -/
import Derived.Test.YtpmjnbidmcnhnaaGreatDoorD20
import Derived.Test.YtpmjnbidmcnhnaaGreatDoorD14
import Derived.Test.YtpmjnbidmcnhnaaGreatDoorD18
import Derived.Test.YtpmjnbidmcnhnaaGreatDoorD17
import Derived.Test.YtpmjnbidmcnhnaaGreatDoorW9
import Derived.Test.YtpmjnbidmcnhnaaGreatDoorR1
section

namespace Go.Nest
open Go Go.AM Go.Proofs
open Go.Proofs.YtpmjnbidmcnhnaaGreatDoor (tab tabOk)
set_option maxRecDepth 4000
noncomputable def lostR (L : List Ob) (o b : Nat → List Int) (q id : Int) : Bool := decide (kindOf L id = 0) || !hasAllR o b q (reachP L [id])
noncomputable def fetRC (L : List Ob) (o b : Nat → List Int) (r q id : Int) : Int := if isR r = false ∨ isR q = false then 1 else if lostR L o b q id = true then 14 else addC L r [id]
noncomputable def fetRO (L : List Ob) (o b : Nat → List Int) (r q id : Int) : Nat → List Int := if isR r = false ∨ isR q = false then o else if lostR L o b q id = true then o else addRO L o b r [id]
set_option maxHeartbeats 4000000 in
theorem fetR_spec (L : List Ob) (hL : PoolOk L) (o b : Nat → List Int) (hb4 : BorOk b) (ho : ∀ k, k < 4 → (o k).length ≤ 10000) (r q id : Int) : Does Tryz.prog 55 [.c (.ptr 0 0), .c (.int .i64 r), .c (.int .i64 q), .c (.int .i64 id)] [.box [.ptr 1 0, .rw 3, .rw 4, .rw 5, .rw 6, .rw 7, .rw 8, .rw 9, .rw 10], .box [.rw 2], .row 6 Ob encOb L, .row 1 Int encI (o 0), .row 1 Int encI (o 1), .row 1 Int encI (o 2), .row 1 Int encI (o 3), .row 1 Int encI (b 0), .row 1 Int encI (b 1), .row 1 Int encI (b 2), .row 1 Int encI (b 3)] (Rt (.c (.int .i64 (fetRC L o b r q id))) [.box [.ptr 1 0, .rw 11, .rw 12, .rw 13, .rw 14, .rw 7, .rw 8, .rw 9, .rw 10], .box [.rw 2], .row 6 Ob encOb L, .dead, .dead, .dead, .dead, .row 1 Int encI (b 0), .row 1 Int encI (b 1), .row 1 Int encI (b 2), .row 1 Int encI (b 3), .row 1 Int encI ((fetRO L o b r q id) 0), .row 1 Int encI ((fetRO L o b r q id) 1), .row 1 Int encI ((fetRO L o b r q id) 2), .row 1 Int encI ((fetRO L o b r q id) 3)]) := by
 have p1 := isRepo_spec r
 have p2 := isRepo_spec q
 refine X_spec (n := 42) (n0 := 11) tabOk Tryz.call55 Tryz.func55 ?_
 intro hb
 cases hr : isR r with
 | false =>
  rw [hr] at p1
  rw [show fetRC L o b r q id = 1 by unfold fetRC; rw [hr]; rfl, show fetRO L o b r q id = o by unfold fetRO; rw [hr]; rfl]
  (conv => whnf)
  refine cl [] [] (p1) ?_
  (conv => whnf)
  exact rx [] [.same 0, .same 1, .same 2, .same 3, .same 4, .same 5, .same 6, .same 7, .same 8, .same 9, .same 10, .same 3, .same 4, .same 5, .same 6]
 | true =>
  rw [hr] at p1
  cases hq : isR q with
  | false =>
   rw [hq] at p2
   rw [show fetRC L o b r q id = 1 by unfold fetRC; rw [hr, hq]; rfl, show fetRO L o b r q id = o by unfold fetRO; rw [hr, hq]; rfl]
   (conv => whnf)
   refine cl [] [] (p1) ?_
   (conv => whnf)
   refine cl [] [] (p2) ?_
   (conv => whnf)
   exact rx [] [.same 0, .same 1, .same 2, .same 3, .same 4, .same 5, .same 6, .same 7, .same 8, .same 9, .same 10, .same 3, .same 4, .same 5, .same 6]
  | true =>
   rw [hq] at p2
   have hlen := hL.len
   have e1 : fetRC L o b r q id = if lostR L o b q id = true then 14 else addC L r [id] := by unfold fetRC; rw [hr, hq]; rfl
   have e2 : fetRO L o b r q id = if lostR L o b q id = true then o else addRO L o b r [id] := by unfold fetRO; rw [hr, hq]; rfl
   have p3 := reachR_spec L hL [id] (by simp)
   have p5 := addR_dspec L hL o b hb4 ho r [id] (by simp)
   have hrl := reach_len (l := L) (ids := [id])
   have p4 := hasAll_spec L o b hb4 q (reachP L [id]) (by omega)
   have el : lostR L o b q id = (decide (kindOf L id = 0) || !hasAllR o b q (reachP L [id])) := rfl
   generalize reachP L [id] = rl at p3 p4 el
   generalize hasAllR o b q rl = a at p4 el
   generalize lostR L o b q id = lo at el e1 e2
   generalize fetRC L o b r q id = C at *
   generalize fetRO L o b r q id = O at *
   (conv => whnf)
   refine cl [] [] (p1) ?_
   (conv => whnf)
   refine cl [] [] (p2) ?_
   (conv => whnf)
   refine cl [] [] (kindR_spec L id) ?_
   (conv => whnf)
   refine dec (fun h1 => ?_) (fun h1 => ?_)
   ·rw [decide_eq_true h1, Bool.true_or] at el
    rw [el] at e1 e2
    obtain rfl : C = 14 := e1
    obtain rfl : O = o := e2
    (conv => whnf)
    exact rx [] [.same 0, .same 1, .same 2, .same 3, .same 4, .same 5, .same 6, .same 7, .same 8, .same 9, .same 10, .same 3, .same 4, .same 5, .same 6]
   ·rw [decide_eq_false h1, Bool.false_or] at el
    (conv => whnf)
    refine ⟨[id], rfl, ?_⟩
    (conv => whnf)
    refine cl [] [] (p3) ?_
    (conv => whnf)
    refine cl [] [] (p4) ?_
    (conv => whnf)
    refine boo (fun h2 => ?_) (fun h2 => ?_)
    ·rw [h2] at el
     rw [el] at e1 e2
     obtain rfl : C = 14 := e1
     obtain rfl : O = o := e2
     (conv => whnf)
     exact rx [] [.same 0, .same 1, .same 2, .same 3, .same 4, .same 5, .same 6, .same 7, .same 8, .same 9, .same 10, .same 3, .same 4, .same 5, .same 6]
    ·rw [h2] at el
     rw [el] at e1 e2
     obtain rfl : C = addC L r [id] := e1
     obtain rfl : O = addRO L o b r [id] := e2
     (conv => whnf)
     refine ⟨[id], rfl, ?_⟩
     (conv => whnf)
     refine cl [] [0, 1, 2, 3, 4, 5, 6, 7, 8, 9, 10] (p5) ?_
     (conv => whnf)
     exact rx [] [.same 0, .same 1, .same 2, .same 3, .same 4, .same 5, .same 6, .same 7, .same 8, .same 9, .same 10, .same 14, .same 15, .same 16, .same 17]
set_option maxHeartbeats 4000000 in
theorem borR_spec (L : List Ob) (o b : Nat → List Int) (hb4 : BorOk b) (r q : Int) : Does Tryz.prog 56 [.c (.ptr 0 0), .c (.int .i64 r), .c (.int .i64 q)] [.box [.ptr 1 0, .rw 3, .rw 4, .rw 5, .rw 6, .rw 7, .rw 8, .rw 9, .rw 10], .box [.rw 2], .row 6 Ob encOb L, .row 1 Int encI (o 0), .row 1 Int encI (o 1), .row 1 Int encI (o 2), .row 1 Int encI (o 3), .row 1 Int encI (b 0), .row 1 Int encI (b 1), .row 1 Int encI (b 2), .row 1 Int encI (b 3)] (Rt (.c (.int .i64 (borC b r q))) [.box [.ptr 1 0, .rw 3, .rw 4, .rw 5, .rw 6, .rw 11, .rw 12, .rw 13, .rw 14], .box [.rw 2], .row 6 Ob encOb L, .row 1 Int encI (o 0), .row 1 Int encI (o 1), .row 1 Int encI (o 2), .row 1 Int encI (o 3), .dead, .dead, .dead, .dead, .row 1 Int encI ((borO b r q) 0), .row 1 Int encI ((borO b r q) 1), .row 1 Int encI ((borO b r q) 2), .row 1 Int encI ((borO b r q) 3)]) := by
 have p1 := isRepo_spec r
 have p2 := isRepo_spec q
 refine X_spec (n := 41) (n0 := 11) tabOk Tryz.call56 Tryz.func56 ?_
 intro hb
 cases hr : isR r with
 | false =>
  rw [hr] at p1
  have e : borC b r q = 1 := by unfold borC; rw [hr]; rfl
  rw [show borO b r q = b by unfold borO; rw [e]; rfl, e]
  (conv => whnf)
  refine cl [] [] (p1) ?_
  (conv => whnf)
  exact rx [] [.same 0, .same 1, .same 2, .same 3, .same 4, .same 5, .same 6, .same 7, .same 8, .same 9, .same 10, .same 7, .same 8, .same 9, .same 10]
 | true =>
  rw [hr] at p1
  cases hq : isR q with
  | false =>
   rw [hq] at p2
   have e : borC b r q = 1 := by unfold borC; rw [hr, hq]; rfl
   rw [show borO b r q = b by unfold borO; rw [e]; rfl, e]
   (conv => whnf)
   refine cl [] [] (p1) ?_
   (conv => whnf)
   refine cl [] [] (p2) ?_
   (conv => whnf)
   exact rx [] [.same 0, .same 1, .same 2, .same 3, .same 4, .same 5, .same 6, .same 7, .same 8, .same 9, .same 10, .same 7, .same 8, .same 9, .same 10]
  | true =>
   rw [hq] at p2
   have e1 : borC b r q = if hasI (lendP b q) r = true then 10 else if hasI (b r.toNat) q = true then 11 else 0 := by unfold borC; rw [hr, hq]; rfl
   (conv => whnf)
   refine cl [] [] (p1) ?_
   (conv => whnf)
   refine cl [] [] (p2) ?_
   (conv => whnf)
   refine cl [] [] (lends_spec L o b hb4 r q hq) ?_
   (conv => whnf)
   refine dec (fun h1 => ?_) (fun h1 => ?_)
   ·have e : borC b r q = 10 := by rw [e1]; exact if_pos (hasI_iff.2 h1)
    rw [show borO b r q = b by unfold borO; rw [e]; rfl, e]
    (conv => whnf)
    exact rx [] [.same 0, .same 1, .same 2, .same 3, .same 4, .same 5, .same 6, .same 7, .same 8, .same 9, .same 10, .same 7, .same 8, .same 9, .same 10]
   ·have e2 : borC b r q = if hasI (b r.toNat) q = true then 11 else 0 := by rw [e1]; exact if_neg (fun h => h1 (hasI_iff.1 h))
    obtain ⟨k, hk, rfl⟩ := isR_iff.1 hr
    rcases four hk with rfl | rfl | rfl | rfl
    ·(conv => whnf)
     refine ⟨0, ⟨rfl, by decide⟩, ?_⟩
     (conv => whnf)
     refine cl [] [] (in_spec (b 0) q) ?_
     (conv => whnf)
     refine dec (fun h2 => ?_) (fun h2 => ?_)
     ·have e : borC b (0 : Nat) q = 11 := by rw [e2]; exact if_pos (hasI_iff.2 h2)
      rw [show borO b (0 : Nat) q = b by unfold borO; rw [e]; rfl, e]
      (conv => whnf)
      exact rx [] [.same 0, .same 1, .same 2, .same 3, .same 4, .same 5, .same 6, .same 7, .same 8, .same 9, .same 10, .same 7, .same 8, .same 9, .same 10]
     ·have hl4 := (hb4 0 (by decide)).1
      have e : borC b (0 : Nat) q = 0 := by rw [e2]; exact if_neg (fun h => h2 (hasI_iff.1 h))
      rw [show borO b (0 : Nat) q = upd b 0 (b 0 ++ [q]) by unfold borO; rw [e]; rfl, e]
      (conv => whnf)
      refine ⟨false, .grow, (.l [0, 1, 2, 3, 4, 5, 6, 7, 8, 11, 12, 9, 10, 13, 14]), by kernel_rfl, .inl ?_⟩
      (conv => whnf)
      refine ⟨0, ⟨rfl, by decide⟩, ?_⟩
      (conv => whnf)
      refine ⟨[q], rfl, ?_⟩
      (conv => whnf)
      refine ⟨_, _, rfl, rfl, (by simp only [List.length_append, List.length_cons, List.length_nil]; omega), ?_⟩
      (conv => whnf)
      refine ⟨0, ⟨rfl, by decide⟩, ?_⟩
      (conv => whnf)
      exact rx [] [.same 0, .same 1, .same 2, .same 3, .same 4, .same 5, .same 6, .same 7, .same 8, .same 9, .same 10, .same 12, .same 8, .same 9, .same 10]
    ·(conv => whnf)
     refine ⟨1, ⟨rfl, by decide⟩, ?_⟩
     (conv => whnf)
     refine cl [] [] (in_spec (b 1) q) ?_
     (conv => whnf)
     refine dec (fun h2 => ?_) (fun h2 => ?_)
     ·have e : borC b (1 : Nat) q = 11 := by rw [e2]; exact if_pos (hasI_iff.2 h2)
      rw [show borO b (1 : Nat) q = b by unfold borO; rw [e]; rfl, e]
      (conv => whnf)
      exact rx [] [.same 0, .same 1, .same 2, .same 3, .same 4, .same 5, .same 6, .same 7, .same 8, .same 9, .same 10, .same 7, .same 8, .same 9, .same 10]
     ·have hl4 := (hb4 1 (by decide)).1
      have e : borC b (1 : Nat) q = 0 := by rw [e2]; exact if_neg (fun h => h2 (hasI_iff.1 h))
      rw [show borO b (1 : Nat) q = upd b 1 (b 1 ++ [q]) by unfold borO; rw [e]; rfl, e]
      (conv => whnf)
      refine ⟨false, .grow, (.l [0, 1, 2, 3, 4, 5, 6, 7, 8, 11, 12, 9, 10, 13, 14]), by kernel_rfl, .inl ?_⟩
      (conv => whnf)
      refine ⟨1, ⟨rfl, by decide⟩, ?_⟩
      (conv => whnf)
      refine ⟨[q], rfl, ?_⟩
      (conv => whnf)
      refine ⟨_, _, rfl, rfl, (by simp only [List.length_append, List.length_cons, List.length_nil]; omega), ?_⟩
      (conv => whnf)
      refine ⟨1, ⟨rfl, by decide⟩, ?_⟩
      (conv => whnf)
      exact rx [] [.same 0, .same 1, .same 2, .same 3, .same 4, .same 5, .same 6, .same 7, .same 8, .same 9, .same 10, .same 7, .same 12, .same 9, .same 10]
    ·(conv => whnf)
     refine ⟨2, ⟨rfl, by decide⟩, ?_⟩
     (conv => whnf)
     refine cl [] [] (in_spec (b 2) q) ?_
     (conv => whnf)
     refine dec (fun h2 => ?_) (fun h2 => ?_)
     ·have e : borC b (2 : Nat) q = 11 := by rw [e2]; exact if_pos (hasI_iff.2 h2)
      rw [show borO b (2 : Nat) q = b by unfold borO; rw [e]; rfl, e]
      (conv => whnf)
      exact rx [] [.same 0, .same 1, .same 2, .same 3, .same 4, .same 5, .same 6, .same 7, .same 8, .same 9, .same 10, .same 7, .same 8, .same 9, .same 10]
     ·have hl4 := (hb4 2 (by decide)).1
      have e : borC b (2 : Nat) q = 0 := by rw [e2]; exact if_neg (fun h => h2 (hasI_iff.1 h))
      rw [show borO b (2 : Nat) q = upd b 2 (b 2 ++ [q]) by unfold borO; rw [e]; rfl, e]
      (conv => whnf)
      refine ⟨false, .grow, (.l [0, 1, 2, 3, 4, 5, 6, 7, 8, 11, 12, 9, 10, 13, 14]), by kernel_rfl, .inl ?_⟩
      (conv => whnf)
      refine ⟨2, ⟨rfl, by decide⟩, ?_⟩
      (conv => whnf)
      refine ⟨[q], rfl, ?_⟩
      (conv => whnf)
      refine ⟨_, _, rfl, rfl, (by simp only [List.length_append, List.length_cons, List.length_nil]; omega), ?_⟩
      (conv => whnf)
      refine ⟨2, ⟨rfl, by decide⟩, ?_⟩
      (conv => whnf)
      exact rx [] [.same 0, .same 1, .same 2, .same 3, .same 4, .same 5, .same 6, .same 7, .same 8, .same 9, .same 10, .same 7, .same 8, .same 12, .same 10]
    ·(conv => whnf)
     refine ⟨3, ⟨rfl, by decide⟩, ?_⟩
     (conv => whnf)
     refine cl [] [] (in_spec (b 3) q) ?_
     (conv => whnf)
     refine dec (fun h2 => ?_) (fun h2 => ?_)
     ·have e : borC b (3 : Nat) q = 11 := by rw [e2]; exact if_pos (hasI_iff.2 h2)
      rw [show borO b (3 : Nat) q = b by unfold borO; rw [e]; rfl, e]
      (conv => whnf)
      exact rx [] [.same 0, .same 1, .same 2, .same 3, .same 4, .same 5, .same 6, .same 7, .same 8, .same 9, .same 10, .same 7, .same 8, .same 9, .same 10]
     ·have hl4 := (hb4 3 (by decide)).1
      have e : borC b (3 : Nat) q = 0 := by rw [e2]; exact if_neg (fun h => h2 (hasI_iff.1 h))
      rw [show borO b (3 : Nat) q = upd b 3 (b 3 ++ [q]) by unfold borO; rw [e]; rfl, e]
      (conv => whnf)
      refine ⟨false, .grow, (.l [0, 1, 2, 3, 4, 5, 6, 7, 8, 11, 12, 9, 10, 13, 14]), by kernel_rfl, .inl ?_⟩
      (conv => whnf)
      refine ⟨3, ⟨rfl, by decide⟩, ?_⟩
      (conv => whnf)
      refine ⟨[q], rfl, ?_⟩
      (conv => whnf)
      refine ⟨_, _, rfl, rfl, (by simp only [List.length_append, List.length_cons, List.length_nil]; omega), ?_⟩
      (conv => whnf)
      refine ⟨3, ⟨rfl, by decide⟩, ?_⟩
      (conv => whnf)
      exact rx [] [.same 0, .same 1, .same 2, .same 3, .same 4, .same 5, .same 6, .same 7, .same 8, .same 9, .same 10, .same 7, .same 8, .same 9, .same 12]
end Go.Nest
end
/- part -/
section

namespace Go.Nest
open Go Go.AM
structure Sm (L : List Ob) (o : Nat → List Bool) (w : Nat → List Int) : Prop where
 len : ∀ k, k < 4 → (o k).length ≤ L.length
 eq : ∀ k, k < 4 → w k = listP o (k : Int) L.length
theorem own_iff {o : Nat → List Bool} {k : Nat} {z : Int} (hk : k < 4) : ownP o k z = true ↔ 0 ≤ z ∧ (o k)[z.toNat]? = some true := by
 rw [ownP_at hk, Bool.and_eq_true, Bool.and_eq_true, decide_eq_true_iff, decide_eq_true_iff]
 constructor
 ·rintro ⟨h1, h2, h3⟩
  refine ⟨h1, ?_⟩
  cases e : (o k)[z.toNat]? with
  | none => rw [e] at h3; cases h3
  | some v => rw [e] at h3; rw [show v = true from h3]
 ·rintro ⟨h1, h2⟩
  have := (List.getElem?_eq_some_iff.1 h2).1
  exact ⟨h1, by omega, by rw [h2]; rfl⟩
theorem mem_list {o : Nat → List Bool} {r x : Int} {n : Nat} : x ∈ listP o r n ↔ ∃ k : Nat, k < n ∧ ownP o r k = true ∧ x = k := by
 unfold listP
 rw [List.mem_map]
 constructor
 ·rintro ⟨k, h1, h2⟩
  rw [List.mem_filter, List.mem_range] at h1
  exact ⟨k, h1.1, h1.2, h2.symm⟩
 ·rintro ⟨k, h1, h2, h3⟩
  exact ⟨k, List.mem_filter.2 ⟨List.mem_range.2 h1, h2⟩, h3.symm⟩
theorem list_rise {o : Nat → List Bool} {r : Int} {n : Nat} : (listP o r n).Pairwise (· < ·) := by
 unfold listP
 rw [List.pairwise_map]
 exact (List.pairwise_lt_range.filter _).imp fun h => by omega
theorem mem_own {o : Nat → List Bool} {k n : Nat} (hk : k < 4) (hn : (o k).length ≤ n) {x : Int} : x ∈ listP o (k : Int) n ↔ ownP o k x = true := by
 rw [mem_list]
 constructor
 ·rintro ⟨j, h1, h2, rfl⟩; exact h2
 ·intro h
  obtain ⟨h1, h2⟩ := (own_iff hk).1 h
  have := (List.getElem?_eq_some_iff.1 h2).1
  have e : ((x.toNat : Nat) : Int) = x := by omega
  exact ⟨x.toNat, by omega, by rw [e]; exact h, e.symm⟩
theorem Sm.mem {L : List Ob} {o : Nat → List Bool} {w : Nat → List Int} (h : Sm L o w) {k : Nat} (hk : k < 4) {x : Int} : x ∈ w k ↔ ownP o k x = true := by
 rw [h.eq k hk, mem_own hk (h.len k hk)]
theorem Sm.has {L : List Ob} {o : Nat → List Bool} {w b : Nat → List Int} (h : Sm L o w) (hb : BorOk b) (r id : Int) : hasR w b r id = hasP ⟨o, b⟩ r id := by
 unfold hasR hasP
 cases hr : isR r with
 | false => rfl
 | true =>
  rw [Bool.true_and, Bool.true_and, Bool.eq_iff_iff, List.any_eq_true, List.any_eq_true]
  have hn := lend_nd hb hr
  constructor
  ·rintro ⟨q, h1, h2⟩
   have hq : q < 4 := by simpa using h1
   rw [Bool.and_eq_true, decide_eq_true_iff, decide_eq_true_iff] at h2
   exact ⟨q, h2.1, (h.mem hq).1 h2.2⟩
  ·rintro ⟨q, h1, h2⟩
   have := hn.2 q h1
   have e : ((q.toNat : Nat) : Int) = q := by omega
   refine ⟨q.toNat, by rw [List.mem_range]; omega, ?_⟩
   rw [Bool.and_eq_true, decide_eq_true_iff, decide_eq_true_iff, e]
   exact ⟨h1, (h.mem (by omega)).2 (by rw [e]; exact h2)⟩
theorem Sm.one {L : List Ob} {o : Nat → List Bool} {w : Nat → List Int} (h : Sm L o w) {r : Nat} (hr : r < 4) {x : List Bool} {y : List Int} (hx : x.length ≤ L.length) (hy : y.Pairwise (· < ·)) (hm : ∀ z : Int, z ∈ y ↔ 0 ≤ z ∧ x[z.toNat]? = some true) : Sm L (upd o r x) (upd w r y) := by
 refine ⟨fun k hk => ?_, fun k hk => ?_⟩
 ·by_cases e : k = r
  ·subst e; rw [upd_at]; exact hx
  ·rw [upd_ne e]; exact h.len k hk
 ·by_cases e : k = r
  ·subst e
   rw [upd_at]
   refine rise_uniq hy list_rise fun z => ?_
   rw [mem_own hk (by rw [upd_at]; exact hx), own_iff hk, upd_at, hm]
  ·rw [upd_ne e, h.eq k hk]
   unfold listP
   congr 1
   refine List.filter_congr fun j _ => ?_
   rw [Bool.eq_iff_iff, own_iff hk, own_iff hk, upd_ne e]
theorem Sm.rise {L : List Ob} {o : Nat → List Bool} {w : Nat → List Int} (h : Sm L o w) {k : Nat} (hk : k < 4) : (w k).Pairwise (· < ·) := by rw [h.eq k hk]; exact list_rise
theorem Sm.mark {L : List Ob} {o : Nat → List Bool} {w b : Nat → List Int} (hb : BorOk b) {r : Nat} (hr : r < 4) {x : List Bool} {y : List Int} (h : Sm L (upd o r x) (upd w r y)) {id : Int} (h0 : 0 ≤ id ∧ id.toNat < L.length) (hx : x.length = L.length) : Sm L (upd o r (markL o b r x id)) (upd w r (markR w b r y id)) := by
 unfold markL markR
 rw [h.has hb (r : Int) id]
 split
 ·exact h
 ·have hm := fun z => h.mem hr (x := z)
  have := h.one hr (x := x.set id.toNat true) (y := sortI (y ++ [id])) (by rw [List.length_set]; omega) sortI_rise (fun z => by
   have hm := hm z
   rw [upd_at, own_iff hr, upd_at] at hm
   rw [sortI_mem, List.mem_append, List.mem_singleton, hm, List.getElem?_set]
   constructor
   ·rintro (⟨h1, h2⟩ | rfl)
    ·refine ⟨h1, ?_⟩
     split
     ·rw [if_pos (by omega)]
     ·exact h2
    ·refine ⟨h0.1, ?_⟩
     rw [if_pos rfl, if_pos (by omega)]
   ·rintro ⟨h1, h2⟩
    split at h2
    ·exact .inr (by omega)
    ·exact .inl ⟨h1, h2⟩)
  rwa [upd_upd, upd_upd] at this
theorem Sm.pad {L : List Ob} {o : Nat → List Bool} {w : Nat → List Int} (h : Sm L o w) {r : Nat} (hr : r < 4) : Sm L (upd o r (padL (o r) L.length)) (upd w r (w r)) := by
 have hl := h.len r hr
 refine h.one hr (by unfold padL; rw [List.length_append, List.length_replicate]; omega) (h.rise hr) fun z => ?_
 rw [h.mem hr, own_iff hr]
 unfold padL
 refine and_congr_right fun _ => ?_
 rw [List.getElem?_append]
 split
 ·rfl
 ·rename_i hz
  rw [List.getElem?_eq_none (by omega), List.getElem?_replicate]
  split <;> simp
theorem addC_r {L : List Ob} {r : Int} {ids : List Int} (h : ¬ addC L r ids ≠ 0) : isR r = true := by
 cases e : isR r with
 | true => rfl
 | false => exact absurd (show addC L r ids ≠ 0 by unfold addC; rw [if_pos e]; decide) h
theorem Sm.add {L : List Ob} {o : Nat → List Bool} {w b : Nat → List Int} (h : Sm L o w) (hb : BorOk b) (r : Int) (ids : List Int) : Sm L (addO L o b r ids) (addRO L w b r ids) := by
 unfold addO addRO
 split
 ·exact h
 ·rename_i hc
  obtain ⟨k, hk, rfl⟩ := isR_iff.1 (addC_r hc)
  rw [Int.toNat_natCast]
  unfold addL addRL
  have key : ∀ (l : List Int) (x : List Bool) (y : List Int), (∀ id ∈ l, 0 ≤ id ∧ id.toNat < L.length) → x.length = L.length → Sm L (upd o k x) (upd w k y) → Sm L (upd o k (l.foldl (markL o b k) x)) (upd w k (l.foldl (markR w b k) y)) := by
   intro l
   induction l with
   | nil => intro x y _ _ h; exact h
   | cons id l ih =>
    intro x y hl hx h
    rw [List.foldl_cons, List.foldl_cons]
    exact ih _ _ (fun z hz => hl z (List.mem_cons_of_mem _ hz)) (by rw [show markL o b k x id = [id].foldl (markL o b k) x from rfl, mark_len, hx]) (h.mark hb hk (hl id (by simp)) hx)
  refine key _ _ _ (fun id h => reach_lt h) ?_ (h.pad hk)
  have := h.len k hk
  unfold padL
  rw [List.length_append, List.length_replicate]; omega
theorem reach_nil {L : List Ob} (hL : PoolOk L) {id : Int} : (reachP L [id]).length = 0 ↔ kindOf L id = 0 := by
 constructor
 ·intro h
  refine Decidable.byContradiction fun hk => ?_
  have : id ∈ reachP L [id] := (mem_reach hL).2 (.base (by simp) hk)
  rw [List.eq_nil_of_length_eq_zero h] at this
  cases this
 ·intro h
  have : reachP L [id] = [] := List.eq_nil_iff_forall_not_mem.2 fun x hx => by
   have hl := (mem_reach hL).1 hx
   clear hx
   induction hl with
   | base h1 h2 => rw [List.mem_singleton] at h1; subst h1; exact h2 h
   | step _ _ ih => exact ih
  rw [this]; rfl
theorem Sm.lost {L : List Ob} (hL : PoolOk L) {o : Nat → List Bool} {w b : Nat → List Int} (h : Sm L o w) (hb : BorOk b) (q id : Int) : lostR L w b q id = lostP L ⟨o, b⟩ q id := by
 unfold lostR lostP hasAllR
 rw [decide_eq_decide.2 (reach_nil hL), Bool.or_comm, List.not_all_eq_any_not]
 congr 1
 refine List.any_congr rfl fun z => ?_
 rw [h.has hb]
theorem Sm.fetC {L : List Ob} (hL : PoolOk L) {o : Nat → List Bool} {w b : Nat → List Int} (h : Sm L o w) (hb : BorOk b) (r q id : Int) : fetRC L w b r q id = fetC L ⟨o, b⟩ r q id := by
 unfold fetRC Nest.fetC
 rw [h.lost hL hb]
theorem Sm.fet {L : List Ob} (hL : PoolOk L) {o : Nat → List Bool} {w b : Nat → List Int} (h : Sm L o w) (hb : BorOk b) (r q id : Int) : Sm L (fetO L o b r q id) (fetRO L w b r q id) := by
 unfold fetO fetRO
 rw [h.lost hL hb]
 split
 ·exact h
 ·split
  ·exact h
  ·exact h.add hb r [id]
noncomputable def sweepR (L : List Ob) (w b r0 : Nat → List Int) : Nat → List Int := fun q => (w q).filter fun k => keepB b (needP L r0) q k
theorem sweep_own {L : List Ob} {o : Nat → List Bool} {b r0 : Nat → List Int} {q : Nat} (hq : q < 4) {z : Int} : ownP (sweepO L o b r0) q z = (ownP o q z && keepB b (needP L r0) q z) := by
 rw [Bool.eq_iff_iff, Bool.and_eq_true, own_iff hq, own_iff hq, and_assoc]
 refine and_congr_right fun hz => ?_
 have e : ((z.toNat : Nat) : Int) = z := by omega
 unfold sweepO sweepL
 rw [List.getElem?_mapIdx]
 show Option.map (fun v => v && keepB b (needP L r0) q ((z.toNat : Nat) : Int)) (o q)[z.toNat]? = some true ↔ _
 rw [e]
 cases (o q)[z.toNat]? with
 | none => simp
 | some v => simp
theorem Sm.sweep {L : List Ob} {o : Nat → List Bool} {w b : Nat → List Int} (h : Sm L o w) (r0 : Nat → List Int) : Sm L (sweepO L o b r0) (sweepR L w b r0) := by
 have hl : ∀ k, k < 4 → (sweepO L o b r0 k).length ≤ L.length := fun k hk => by
  unfold sweepO; rw [sweepL_len]; exact h.len k hk
 refine ⟨hl, fun k hk => rise_uniq ((h.rise hk).filter _) list_rise fun z => ?_⟩
 unfold sweepR
 rw [List.mem_filter, h.mem hk, mem_own hk (hl k hk), sweep_own hk, Bool.and_eq_true]
theorem Sm.nil {L : List Ob} : Sm L (fun _ => []) fun _ => [] := by
 refine ⟨fun k hk => Nat.zero_le _, fun k hk => rise_uniq List.Pairwise.nil list_rise fun z => ?_⟩
 rw [mem_own hk (Nat.zero_le _), own_iff hk]
 simp
theorem Sm.hasF {L : List Ob} {o : Nat → List Bool} {w b : Nat → List Int} (h : Sm L o w) (hb : BorOk b) : hasR w b = hasP ⟨o, b⟩ := funext fun r => funext fun id => h.has hb r id
end Go.Nest
end
/- part -/
section

namespace Go.Nest
open Go Go.AM Go.Proofs
open Go.Proofs.YtpmjnbidmcnhnaaGreatDoor (tab tabOk)
set_option maxRecDepth 4000
theorem fit_path {l : List Fi} (h : FitF 40000 l) : ∀ f ∈ l, f.path.length ≤ 4000000 := fun f hf => by have := h.path f hf; omega
set_option maxHeartbeats 1000000 in
theorem wholeD_spec (L : List Ob) (hL : PoolOk L) (o : Nat → List Bool) (b : Nat → List Int) (hb4 : BorOk b) (r id : Int) : Does Tryz.prog 15 [.c (.bp [.bp [.bs 6 Ob encOb L], .bs 1 Bool encBo (o 0), .bs 1 Bool encBo (o 1), .bs 1 Bool encBo (o 2), .bs 1 Bool encBo (o 3), .bs 1 Int encI (b 0), .bs 1 Int encI (b 1), .bs 1 Int encI (b 2), .bs 1 Int encI (b 3)]), .c (.int .i64 r), .c (.int .i64 id)] [] (Rt (.tup [(false, [.rw 0]), (false, [.int .i64 (wholeP L (hasP ⟨o, b⟩) r id).2])]) [.row 4 Fi encFi (wholeP L (hasP ⟨o, b⟩) r id).1]) := by
 refine X_spM (n := 26) (n0 := 0) tabOk Tryz.call15 Tryz.func15 ?_
 intro hb
 have hs := whole_dspec L hL o b hb4 6 0 r id [] [] (by decide) (by decide) ⟨by simp, fun f h => by cases h⟩
 have hf := whW_fit hL (has := hasP ⟨o, b⟩) (k := 40000) (n := 6) (r := r) (id := id) (pre := []) (out := []) (by decide) ⟨by simp, fun f h => by cases h⟩
 unfold wholeP
 generalize whW L (hasP ⟨o, b⟩) 6 r id [] [] = R at *
 obtain ⟨l, c⟩ := R
 dsimp only at hs hf ⊢
 have hg := inOrd_fit hf
 have p1 := sorted_spec l (by have := hf.len; omega) (fit_path hf)
 have p2 := check_spec' (inOrdP l) hg.len (fit_path hg)
 generalize checkF none (inOrdP l) = d at *
 generalize inOrdP l = m at *
 refine XM.seq ?_
 (conv => whnf)
 refine XM.seq ?_
 (conv => whnf)
 refine XM.le (t := ⟨[(0, .c (.bp [.bp [.bs 6 Ob encOb L], .bs 1 Bool encBo (o 0), .bs 1 Bool encBo (o 1), .bs 1 Bool encBo (o 2), .bs 1 Bool encBo (o 3), .bs 1 Int encI (b 0), .bs 1 Int encI (b 1), .bs 1 Int encI (b 2), .bs 1 Int encI (b 3)])), (1, .c (.int .i64 r)), (2, .c (.int .i64 id)), (8, .c (.ptr 0 0))], [.box [.rw 1], .row 4 Fi encFi []]⟩) [] [.same 0, .new] (by repeat' first | exact trivial | exact rfl | refine And.intro ?_ ?_) ?_
 refine XM.of ?_
 (conv => whnf)
 refine cl [] [0, 1] (hs) ?_
 (conv => whnf)
 refine decN (fun h => ?_) (fun h => ?_)
 ·have h : ¬ c = 0 := h
  rw [if_neg h]
  (conv => whnf)
  exact rx [] [.new]
 ·obtain rfl : c = 0 := h
  rw [if_pos rfl]
  (conv => whnf)
  refine cl [] [] (p1) ?_
  (conv => whnf)
  refine cl [] [] (p2) ?_
  (conv => whnf)
  refine decN (fun h => ?_) (fun h => ?_)
  ·have h : ¬ d = 0 := h
   rw [if_neg h]
   (conv => whnf)
   exact rx [] [.new]
  ·obtain rfl : d = 0 := h
   rw [if_pos rfl]
   (conv => whnf)
   exact rx [] [.same 3]
set_option maxHeartbeats 1000000 in
theorem wholeR_spec (L : List Ob) (hL : PoolOk L) (o b : Nat → List Int) (hb4 : BorOk b) (r id : Int) : Does Tryz.prog 22 [.c (.bp [.bp [.bs 6 Ob encOb L], .bs 1 Int encI (o 0), .bs 1 Int encI (o 1), .bs 1 Int encI (o 2), .bs 1 Int encI (o 3), .bs 1 Int encI (b 0), .bs 1 Int encI (b 1), .bs 1 Int encI (b 2), .bs 1 Int encI (b 3)]), .c (.int .i64 r), .c (.int .i64 id)] [] (Rt (.tup [(false, [.rw 0]), (false, [.int .i64 (wholeP L (hasR o b) r id).2])]) [.row 4 Fi encFi (wholeP L (hasR o b) r id).1]) := by
 refine X_spec (n := 29) (n0 := 0) tabOk Tryz.call22 Tryz.func22 ?_
 intro hb
 have hs := whole_rnil L hL o b hb4 5 0 r id [] (by decide) (by decide)
 have hf := whW_fit hL (has := hasR o b) (k := 40000) (n := 6) (r := r) (id := id) (pre := []) (out := []) (by decide) ⟨by simp, fun f h => by cases h⟩
 unfold wholeP
 generalize whW L (hasR o b) 6 r id [] [] = R at *
 obtain ⟨l, c⟩ := R
 dsimp only at hs hf ⊢
 have hg := inOrd_fit hf
 have p1 := inOrder_spec l (by have := hf.len; omega) (fit_path hf)
 have p2 := fault_spec' (inOrdP l) hg.len (fit_path hg)
 generalize checkF none (inOrdP l) = d at *
 generalize inOrdP l = m at *
 (conv => whnf)
 refine cl [] [] (hs) ?_
 (conv => whnf)
 refine decN (fun h => ?_) (fun h => ?_)
 ·have h : ¬ c = 0 := h
  rw [if_neg h]
  (conv => whnf)
  exact rx [] [.new]
 ·obtain rfl : c = 0 := h
  rw [if_pos rfl]
  rw [show okW (l, 0) = l from rfl]
  (conv => whnf)
  refine cl [] [] (p1) ?_
  (conv => whnf)
  refine cl [] [] (p2) ?_
  (conv => whnf)
  refine decN (fun h => ?_) (fun h => ?_)
  ·have h : ¬ d = 0 := h
   rw [if_neg h]
   (conv => whnf)
   exact rx [] [.new]
  ·obtain rfl : d = 0 := h
   rw [if_pos rfl]
   (conv => whnf)
   exact rx [] [.same 2]
end Go.Nest
end
/- part -/
section

namespace Go.Nest
open Go Go.AM Go.Proofs
open Go.Proofs.YtpmjnbidmcnhnaaGreatDoor (tab tabOk)
set_option maxRecDepth 4000
noncomputable def kpR (b need : Nat → List Int) (q : Nat) (y : Int) (r : Nat) : Bool := (List.range r).any fun r : Nat => decide ((q : Int) ∈ lendP b r) && decide (y ∈ need r)
theorem kpR_succ {b need : Nat → List Int} {q : Nat} {y : Int} {r : Nat} : kpR b need q y (r + 1) = (kpR b need q y r || (decide ((q : Int) ∈ lendP b r) && decide (y ∈ need r))) := by
 unfold kpR
 rw [List.range_succ, List.any_append]; simp
theorem filt_one {α : Type} {p : α → Bool} {l : List α} {i : Nat} (h : i < l.length) : (l.take (i + 1)).filter p = (l.take i).filter p ++ if p l[i] = true then [l[i]] else [] := by
 rw [List.take_succ_eq_append_getElem h, List.filter_append, List.filter_cons]
 rfl
theorem swq_next {w sw x : Nat → List Int} {q q' : Nat} (e : q' = q) (hq : q < 4) (hx : ∀ j, j < 4 → x j = if j < q then sw j else w j) : ∀ j, j < 4 → upd x q' (sw q') j = if j < q' + 1 then sw j else w j := by
 subst e
 intro j hj
 by_cases e : j = q'
 ·subst e; rw [upd_at, if_pos (by omega)]
 ·rw [upd_ne e, hx j hj]
  by_cases h : j < q'
  ·rw [if_pos h, if_pos (by omega)]
  ·rw [if_neg h, if_neg (by omega)]
set_option maxHeartbeats 20000000 in
theorem sweep_rspec (L : List Ob) (hL : PoolOk L) (w b r0 : Nat → List Int) (hb4 : BorOk b) (hw : ∀ k, k < 4 → (w k).length ≤ 10000) (hr0 : ∀ r, r < 4 → (r0 r).length ≤ 100000) : Does Tryz.prog 58 [.c (.ptr 0 0), .st [.bs 1 Int encI (r0 0), .bs 1 Int encI (r0 1), .bs 1 Int encI (r0 2), .bs 1 Int encI (r0 3)]] [.box [.ptr 1 0, .rw 3, .rw 4, .rw 5, .rw 6, .rw 7, .rw 8, .rw 9, .rw 10], .box [.rw 2], .row 6 Ob encOb L, .row 1 Int encI (w 0), .row 1 Int encI (w 1), .row 1 Int encI (w 2), .row 1 Int encI (w 3), .row 1 Int encI (b 0), .row 1 Int encI (b 1), .row 1 Int encI (b 2), .row 1 Int encI (b 3)] (Rt (.tup []) [.box [.ptr 1 0, .rw 11, .rw 12, .rw 13, .rw 14, .rw 7, .rw 8, .rw 9, .rw 10], .box [.rw 2], .row 6 Ob encOb L, .dead, .dead, .dead, .dead, .row 1 Int encI (b 0), .row 1 Int encI (b 1), .row 1 Int encI (b 2), .row 1 Int encI (b 3), .row 1 Int encI ((sweepR L w b r0) 0), .row 1 Int encI ((sweepR L w b r0) 1), .row 1 Int encI ((sweepR L w b r0) 2), .row 1 Int encI ((sweepR L w b r0) 3)]) := by
 have p1 := need_rspec L hL w b r0 hr0
 have hsw : ∀ q, sweepR L w b r0 q = (w q).filter fun k => keepB b (needP L r0) q k := fun q => rfl
 generalize sweepR L w b r0 = sw at hsw ⊢
 generalize needP L r0 = need at p1 hsw
 refine X_spec (n := 73) (n0 := 11) tabOk Tryz.call58 Tryz.func58 ?_
 intro hb
 (conv => whnf)
 refine cl [] [] (p1) ?_
 (conv => whnf)
 refine lp (Nat × (Nat → List Int)) (fun p => ⟨[(0, .c (.ptr 0 0)), (4, .c (.ptr 15 0)), (5, .c (.int .i64 p.1))], [.box [.ptr 1 0, .rw 11, .rw 12, .rw 13, .rw 14, .rw 7, .rw 8, .rw 9, .rw 10], .box [.rw 2], .row 6 Ob encOb L, .dead, .dead, .dead, .dead, .row 1 Int encI (b 0), .row 1 Int encI (b 1), .row 1 Int encI (b 2), .row 1 Int encI (b 3), .row 1 Int encI (p.2 0), .row 1 Int encI (p.2 1), .row 1 Int encI (p.2 2), .row 1 Int encI (p.2 3), .box [.ls 1 Int encI (need 0), .ls 1 Int encI (need 1), .ls 1 Int encI (need 2), .ls 1 Int encI (need 3)]]⟩) (fun p => (p.1 ≤ 4 ∧ ∀ j, j < 4 → p.2 j = if j < p.1 then sw j else w j) ∧ True) (fun p => 4 - p.1) (0, w) [] [.same 0, .same 1, .same 2, .same 3, .same 4, .same 5, .same 6, .same 7, .same 8, .same 9, .same 10, .same 3, .same 4, .same 5, .same 6, .same 12] ⟨⟨Nat.zero_le _, fun j hj => by rw [if_neg (Nat.not_lt_zero _)]⟩, trivial⟩ ?_ (fun ⟨q, x⟩ hx => ?_)
 ·repeat' first | exact trivial | exact rfl | refine And.intro ?_ ?_
 obtain ⟨⟨hq4, hx⟩, -⟩ := hx
 have hx : ∀ j, j < 4 → x j = if j < q then sw j else w j := hx
 (conv => whnf)
 refine dec (fun h4 => ?_) (fun h4 => ?_)
 ·have hq : q < 4 := by have h4 : (q : Int) < 4 := h4; omega
  have hup := fun q' (e : q' = q) => swq_next (w := w) (sw := sw) e hq hx
  rcases four hq with rfl | rfl | rfl | rfl
  ·have hxq : x 0 = w 0 := by rw [hx 0 (by decide), if_neg (by decide)]
   have hwl := hw 0 (by decide)
   have hswq := hsw 0
   rw [← hxq] at hwl hswq
   (conv => whnf)
   refine lp Nat (fun i => ⟨[(0, .c (.ptr 0 0)), (4, .c (.ptr 15 0)), (5, .c (.int .i64 (0 : Nat))), (6, .c (.rw 16)), (7, .c (.int .i64 i))], [.box [.ptr 1 0, .rw 11, .rw 12, .rw 13, .rw 14, .rw 7, .rw 8, .rw 9, .rw 10], .box [.rw 2], .row 6 Ob encOb L, .dead, .dead, .dead, .dead, .row 1 Int encI (b 0), .row 1 Int encI (b 1), .row 1 Int encI (b 2), .row 1 Int encI (b 3), .row 1 Int encI (x 0), .row 1 Int encI (x 1), .row 1 Int encI (x 2), .row 1 Int encI (x 3), .box [.ls 1 Int encI (need 0), .ls 1 Int encI (need 1), .ls 1 Int encI (need 2), .ls 1 Int encI (need 3)], .row 1 Int encI (((x 0).take i).filter fun k => keepB b need 0 k)]⟩) (fun i => i ≤ (x 0).length ∧ True) (fun i => (x 0).length - i) 0 [] [.same 0, .same 1, .same 2, .same 3, .same 4, .same 5, .same 6, .same 7, .same 8, .same 9, .same 10, .same 11, .same 12, .same 13, .same 14, .same 15, .new] ⟨Nat.zero_le _, trivial⟩ ?_ (fun i hi => ?_)
   ·repeat' first | exact trivial | exact rfl | refine And.intro ?_ ?_
   obtain ⟨hi, -⟩ := hi
   (conv => whnf)
   refine ⟨0, ⟨rfl, by decide⟩, ?_⟩
   (conv => whnf)
   refine dec (fun h5 => ?_) (fun h5 => ?_)
   ·have hlt : i < (x 0).length := by have h5 : (i : Int) < (x 0).length := h5; omega
    have hiy : (x 0)[i]? = some (x 0)[i] := List.getElem?_eq_getElem hlt
    have hst := filt_one (p := fun k => keepB b need 0 k) hlt
    have hol : (((x 0).take i).filter fun k => keepB b need 0 k).length ≤ i := Nat.le_trans (List.length_filter_le _ _) (by rw [List.length_take]; omega)
    generalize ((x 0).take i).filter (fun k => keepB b need 0 k) = out at hst hol ⊢
    generalize (x 0)[i] = y at hiy hst
    (conv => whnf)
    refine lp Nat (fun r => ⟨[(0, .c (.ptr 0 0)), (4, .c (.ptr 15 0)), (5, .c (.int .i64 (0 : Nat))), (6, .c (.rw 16)), (7, .c (.int .i64 i)), (8, .c (.bool (kpR b need 0 y r))), (9, .c (.int .i64 r))], [.box [.ptr 1 0, .rw 11, .rw 12, .rw 13, .rw 14, .rw 7, .rw 8, .rw 9, .rw 10], .box [.rw 2], .row 6 Ob encOb L, .dead, .dead, .dead, .dead, .row 1 Int encI (b 0), .row 1 Int encI (b 1), .row 1 Int encI (b 2), .row 1 Int encI (b 3), .row 1 Int encI (x 0), .row 1 Int encI (x 1), .row 1 Int encI (x 2), .row 1 Int encI (x 3), .box [.ls 1 Int encI (need 0), .ls 1 Int encI (need 1), .ls 1 Int encI (need 2), .ls 1 Int encI (need 3)], .row 1 Int encI out]⟩) (fun r => r ≤ 4 ∧ True) (fun r => 4 - r) 0 [] [.same 0, .same 1, .same 2, .same 3, .same 4, .same 5, .same 6, .same 7, .same 8, .same 9, .same 10, .same 11, .same 12, .same 13, .same 14, .same 15, .same 16] ⟨Nat.zero_le _, trivial⟩ ?_ (fun r hr => ?_)
    ·repeat' first | exact trivial | exact rfl | refine And.intro ?_ ?_
    obtain ⟨hr4, -⟩ := hr
    (conv => whnf)
    refine dec (fun h6 => ?_) (fun h6 => ?_)
    ·have hr : r < 4 := by have h6 : (r : Int) < 4 := h6; omega
     have hk2 := kpR_succ (b := b) (need := need) (q := 0) (y := y) (r := r)
     have p2 := lends_spec L x b hb4 (0 : Nat) r (isR_iff.2 ⟨r, hr, rfl⟩)
     have p3 := in_spec (need r) y
     generalize kpR b need 0 y r = kp at hk2 ⊢
     generalize decide (((0 : Nat) : Int) ∈ lendP b r) = ld at p2 hk2
     generalize decide (y ∈ need r) = nd at p3 hk2
     (conv => whnf)
     refine ⟨false, .grow, (.l [0, 1, 2, 3, 4, 5, 6, 7, 8, 9, 10, 11, 12, 13, 14, 15, 16, 17, 18, 19, 20, 21, 22]), by kernel_rfl, .inl ?_⟩
     (conv => whnf)
     refine boo (fun h7 => ?_) (fun h7 => ?_)
     ·have h7 : kp = true := h7
      (conv => whnf)
      rw [h7, Bool.true_or] at hk2
      repeat' ((conv => whnf); refine I6 ?_)
      refine ag _ [] [.same 0, .same 1, .same 2, .same 3, .same 4, .same 5, .same 6, .same 7, .same 8, .same 9, .same 10, .same 11, .same 12, .same 13, .same 14, .same 15, .same 16] ⟨hr, trivial⟩ (by simp only []; omega) ?_
      rw [hk2]
      repeat' first | exact trivial | exact rfl | refine And.intro ?_ ?_
     ·have h7 : kp = false := h7
      rw [h7, Bool.false_or] at hk2
      (conv => whnf)
      refine cl [] [] (p2) ?_
      (conv => whnf)
      refine boo (fun h8 => ?_) (fun h8 => ?_)
      ·have h8 : ld = true := h8
       rw [h8, Bool.true_and] at hk2
       (conv => whnf)
       rcases four hr with rfl | rfl | rfl | rfl <;> (
        (conv => whnf)
        refine ⟨_, ⟨rfl, by decide⟩, ?_⟩
        (conv => whnf)
        refine ⟨0, ⟨rfl, by decide⟩, ?_⟩
        (conv => whnf)
        refine ⟨i, ⟨rfl, hlt⟩, ?_⟩
        (conv => whnf)
        refine ⟨y, hiy, ?_⟩
        (conv => whnf)
        refine cl [] [] (p3) ?_
        repeat' ((conv => whnf); refine I6 ?_)
        refine ag _ [] [.same 0, .same 1, .same 2, .same 3, .same 4, .same 5, .same 6, .same 7, .same 8, .same 9, .same 10, .same 11, .same 12, .same 13, .same 14, .same 15, .same 16] ⟨hr, trivial⟩ (by simp only []; omega) ?_
        rw [hk2]
        repeat' first | exact trivial | exact rfl | refine And.intro ?_ ?_)
      ·have h8 : ld = false := h8
       rw [h8, Bool.false_and] at hk2
       repeat' ((conv => whnf); refine I6 ?_)
       refine ag _ [] [.same 0, .same 1, .same 2, .same 3, .same 4, .same 5, .same 6, .same 7, .same 8, .same 9, .same 10, .same 11, .same 12, .same 13, .same 14, .same 15, .same 16] ⟨hr, trivial⟩ (by simp only []; omega) ?_
       rw [hk2]
       repeat' first | exact trivial | exact rfl | refine And.intro ?_ ?_
    ·obtain rfl : r = 4 := by have h6 : ¬ (r : Int) < 4 := h6; omega
     have hke : kpR b need 0 y 4 = keepB b need 0 y := rfl
     rw [hke]
     generalize keepB b need 0 y = kp at hst ⊢
     (conv => whnf)
     refine boo (fun h7 => ?_) (fun h7 => ?_)
     ·have h7 : kp = true := h7
      rw [if_pos h7] at hst
      (conv => whnf)
      refine ⟨0, ⟨rfl, by decide⟩, ?_⟩
      (conv => whnf)
      refine ⟨i, ⟨rfl, hlt⟩, ?_⟩
      (conv => whnf)
      refine ⟨y, hiy, ?_⟩
      (conv => whnf)
      refine ⟨[y], rfl, ?_⟩
      (conv => whnf)
      refine ⟨_, _, rfl, rfl, (by simp only [List.length_append, List.length_cons, List.length_nil]; omega), ?_⟩
      repeat' ((conv => whnf); refine I6 ?_)
      refine ag (i + 1) [] [.same 0, .same 1, .same 2, .same 3, .same 4, .same 5, .same 6, .same 7, .same 8, .same 9, .same 10, .same 11, .same 12, .same 13, .same 14, .same 15, .same 18] ⟨hlt, trivial⟩ (by simp only []; omega) ?_
      rw [hst]
      repeat' first | exact trivial | exact rfl | refine And.intro ?_ ?_
     ·have h7 : ¬ kp = true := by have h7 : kp = false := h7; rw [h7]; decide
      rw [if_neg h7, List.append_nil] at hst
      repeat' ((conv => whnf); refine I6 ?_)
      refine ag (i + 1) [] [.same 0, .same 1, .same 2, .same 3, .same 4, .same 5, .same 6, .same 7, .same 8, .same 9, .same 10, .same 11, .same 12, .same 13, .same 14, .same 15, .same 16] ⟨hlt, trivial⟩ (by simp only []; omega) ?_
      rw [hst]
      repeat' first | exact trivial | exact rfl | refine And.intro ?_ ?_
   ·obtain rfl : i = (x 0).length := by have h5 : ¬ (i : Int) < (x 0).length := h5; omega
    rw [List.take_length, ← hswq]
    (conv => whnf)
    refine ⟨0, ⟨rfl, by decide⟩, ?_⟩
    repeat' ((conv => whnf); refine I6 ?_)
    refine ag (0 + 1, upd x 0 (sw 0)) [] [.same 0, .same 1, .same 2, .same 3, .same 4, .same 5, .same 6, .same 7, .same 8, .same 9, .same 10, .same 16, .same 12, .same 13, .same 14, .same 15] ⟨⟨(by show 0 + 1 ≤ 4; decide), hup _ rfl⟩, trivial⟩ (by simp only []; omega) ?_
    repeat' first | exact trivial | exact rfl | refine And.intro ?_ ?_
  ·have hxq : x 1 = w 1 := by rw [hx 1 (by decide), if_neg (by decide)]
   have hwl := hw 1 (by decide)
   have hswq := hsw 1
   rw [← hxq] at hwl hswq
   (conv => whnf)
   refine lp Nat (fun i => ⟨[(0, .c (.ptr 0 0)), (4, .c (.ptr 15 0)), (5, .c (.int .i64 (1 : Nat))), (6, .c (.rw 16)), (7, .c (.int .i64 i))], [.box [.ptr 1 0, .rw 11, .rw 12, .rw 13, .rw 14, .rw 7, .rw 8, .rw 9, .rw 10], .box [.rw 2], .row 6 Ob encOb L, .dead, .dead, .dead, .dead, .row 1 Int encI (b 0), .row 1 Int encI (b 1), .row 1 Int encI (b 2), .row 1 Int encI (b 3), .row 1 Int encI (x 0), .row 1 Int encI (x 1), .row 1 Int encI (x 2), .row 1 Int encI (x 3), .box [.ls 1 Int encI (need 0), .ls 1 Int encI (need 1), .ls 1 Int encI (need 2), .ls 1 Int encI (need 3)], .row 1 Int encI (((x 1).take i).filter fun k => keepB b need 1 k)]⟩) (fun i => i ≤ (x 1).length ∧ True) (fun i => (x 1).length - i) 0 [] [.same 0, .same 1, .same 2, .same 3, .same 4, .same 5, .same 6, .same 7, .same 8, .same 9, .same 10, .same 11, .same 12, .same 13, .same 14, .same 15, .new] ⟨Nat.zero_le _, trivial⟩ ?_ (fun i hi => ?_)
   ·repeat' first | exact trivial | exact rfl | refine And.intro ?_ ?_
   obtain ⟨hi, -⟩ := hi
   (conv => whnf)
   refine ⟨1, ⟨rfl, by decide⟩, ?_⟩
   (conv => whnf)
   refine dec (fun h5 => ?_) (fun h5 => ?_)
   ·have hlt : i < (x 1).length := by have h5 : (i : Int) < (x 1).length := h5; omega
    have hiy : (x 1)[i]? = some (x 1)[i] := List.getElem?_eq_getElem hlt
    have hst := filt_one (p := fun k => keepB b need 1 k) hlt
    have hol : (((x 1).take i).filter fun k => keepB b need 1 k).length ≤ i := Nat.le_trans (List.length_filter_le _ _) (by rw [List.length_take]; omega)
    generalize ((x 1).take i).filter (fun k => keepB b need 1 k) = out at hst hol ⊢
    generalize (x 1)[i] = y at hiy hst
    (conv => whnf)
    refine lp Nat (fun r => ⟨[(0, .c (.ptr 0 0)), (4, .c (.ptr 15 0)), (5, .c (.int .i64 (1 : Nat))), (6, .c (.rw 16)), (7, .c (.int .i64 i)), (8, .c (.bool (kpR b need 1 y r))), (9, .c (.int .i64 r))], [.box [.ptr 1 0, .rw 11, .rw 12, .rw 13, .rw 14, .rw 7, .rw 8, .rw 9, .rw 10], .box [.rw 2], .row 6 Ob encOb L, .dead, .dead, .dead, .dead, .row 1 Int encI (b 0), .row 1 Int encI (b 1), .row 1 Int encI (b 2), .row 1 Int encI (b 3), .row 1 Int encI (x 0), .row 1 Int encI (x 1), .row 1 Int encI (x 2), .row 1 Int encI (x 3), .box [.ls 1 Int encI (need 0), .ls 1 Int encI (need 1), .ls 1 Int encI (need 2), .ls 1 Int encI (need 3)], .row 1 Int encI out]⟩) (fun r => r ≤ 4 ∧ True) (fun r => 4 - r) 0 [] [.same 0, .same 1, .same 2, .same 3, .same 4, .same 5, .same 6, .same 7, .same 8, .same 9, .same 10, .same 11, .same 12, .same 13, .same 14, .same 15, .same 16] ⟨Nat.zero_le _, trivial⟩ ?_ (fun r hr => ?_)
    ·repeat' first | exact trivial | exact rfl | refine And.intro ?_ ?_
    obtain ⟨hr4, -⟩ := hr
    (conv => whnf)
    refine dec (fun h6 => ?_) (fun h6 => ?_)
    ·have hr : r < 4 := by have h6 : (r : Int) < 4 := h6; omega
     have hk2 := kpR_succ (b := b) (need := need) (q := 1) (y := y) (r := r)
     have p2 := lends_spec L x b hb4 (1 : Nat) r (isR_iff.2 ⟨r, hr, rfl⟩)
     have p3 := in_spec (need r) y
     generalize kpR b need 1 y r = kp at hk2 ⊢
     generalize decide (((1 : Nat) : Int) ∈ lendP b r) = ld at p2 hk2
     generalize decide (y ∈ need r) = nd at p3 hk2
     (conv => whnf)
     refine ⟨false, .grow, (.l [0, 1, 2, 3, 4, 5, 6, 7, 8, 9, 10, 11, 12, 13, 14, 15, 16, 17, 18, 19, 20, 21, 22]), by kernel_rfl, .inl ?_⟩
     (conv => whnf)
     refine boo (fun h7 => ?_) (fun h7 => ?_)
     ·have h7 : kp = true := h7
      (conv => whnf)
      rw [h7, Bool.true_or] at hk2
      repeat' ((conv => whnf); refine I6 ?_)
      refine ag _ [] [.same 0, .same 1, .same 2, .same 3, .same 4, .same 5, .same 6, .same 7, .same 8, .same 9, .same 10, .same 11, .same 12, .same 13, .same 14, .same 15, .same 16] ⟨hr, trivial⟩ (by simp only []; omega) ?_
      rw [hk2]
      repeat' first | exact trivial | exact rfl | refine And.intro ?_ ?_
     ·have h7 : kp = false := h7
      rw [h7, Bool.false_or] at hk2
      (conv => whnf)
      refine cl [] [] (p2) ?_
      (conv => whnf)
      refine boo (fun h8 => ?_) (fun h8 => ?_)
      ·have h8 : ld = true := h8
       rw [h8, Bool.true_and] at hk2
       (conv => whnf)
       rcases four hr with rfl | rfl | rfl | rfl <;> (
        (conv => whnf)
        refine ⟨_, ⟨rfl, by decide⟩, ?_⟩
        (conv => whnf)
        refine ⟨1, ⟨rfl, by decide⟩, ?_⟩
        (conv => whnf)
        refine ⟨i, ⟨rfl, hlt⟩, ?_⟩
        (conv => whnf)
        refine ⟨y, hiy, ?_⟩
        (conv => whnf)
        refine cl [] [] (p3) ?_
        repeat' ((conv => whnf); refine I6 ?_)
        refine ag _ [] [.same 0, .same 1, .same 2, .same 3, .same 4, .same 5, .same 6, .same 7, .same 8, .same 9, .same 10, .same 11, .same 12, .same 13, .same 14, .same 15, .same 16] ⟨hr, trivial⟩ (by simp only []; omega) ?_
        rw [hk2]
        repeat' first | exact trivial | exact rfl | refine And.intro ?_ ?_)
      ·have h8 : ld = false := h8
       rw [h8, Bool.false_and] at hk2
       repeat' ((conv => whnf); refine I6 ?_)
       refine ag _ [] [.same 0, .same 1, .same 2, .same 3, .same 4, .same 5, .same 6, .same 7, .same 8, .same 9, .same 10, .same 11, .same 12, .same 13, .same 14, .same 15, .same 16] ⟨hr, trivial⟩ (by simp only []; omega) ?_
       rw [hk2]
       repeat' first | exact trivial | exact rfl | refine And.intro ?_ ?_
    ·obtain rfl : r = 4 := by have h6 : ¬ (r : Int) < 4 := h6; omega
     have hke : kpR b need 1 y 4 = keepB b need 1 y := rfl
     rw [hke]
     generalize keepB b need 1 y = kp at hst ⊢
     (conv => whnf)
     refine boo (fun h7 => ?_) (fun h7 => ?_)
     ·have h7 : kp = true := h7
      rw [if_pos h7] at hst
      (conv => whnf)
      refine ⟨1, ⟨rfl, by decide⟩, ?_⟩
      (conv => whnf)
      refine ⟨i, ⟨rfl, hlt⟩, ?_⟩
      (conv => whnf)
      refine ⟨y, hiy, ?_⟩
      (conv => whnf)
      refine ⟨[y], rfl, ?_⟩
      (conv => whnf)
      refine ⟨_, _, rfl, rfl, (by simp only [List.length_append, List.length_cons, List.length_nil]; omega), ?_⟩
      repeat' ((conv => whnf); refine I6 ?_)
      refine ag (i + 1) [] [.same 0, .same 1, .same 2, .same 3, .same 4, .same 5, .same 6, .same 7, .same 8, .same 9, .same 10, .same 11, .same 12, .same 13, .same 14, .same 15, .same 18] ⟨hlt, trivial⟩ (by simp only []; omega) ?_
      rw [hst]
      repeat' first | exact trivial | exact rfl | refine And.intro ?_ ?_
     ·have h7 : ¬ kp = true := by have h7 : kp = false := h7; rw [h7]; decide
      rw [if_neg h7, List.append_nil] at hst
      repeat' ((conv => whnf); refine I6 ?_)
      refine ag (i + 1) [] [.same 0, .same 1, .same 2, .same 3, .same 4, .same 5, .same 6, .same 7, .same 8, .same 9, .same 10, .same 11, .same 12, .same 13, .same 14, .same 15, .same 16] ⟨hlt, trivial⟩ (by simp only []; omega) ?_
      rw [hst]
      repeat' first | exact trivial | exact rfl | refine And.intro ?_ ?_
   ·obtain rfl : i = (x 1).length := by have h5 : ¬ (i : Int) < (x 1).length := h5; omega
    rw [List.take_length, ← hswq]
    (conv => whnf)
    refine ⟨1, ⟨rfl, by decide⟩, ?_⟩
    repeat' ((conv => whnf); refine I6 ?_)
    refine ag (1 + 1, upd x 1 (sw 1)) [] [.same 0, .same 1, .same 2, .same 3, .same 4, .same 5, .same 6, .same 7, .same 8, .same 9, .same 10, .same 11, .same 16, .same 13, .same 14, .same 15] ⟨⟨(by show 1 + 1 ≤ 4; decide), hup _ rfl⟩, trivial⟩ (by simp only []; omega) ?_
    repeat' first | exact trivial | exact rfl | refine And.intro ?_ ?_
  ·have hxq : x 2 = w 2 := by rw [hx 2 (by decide), if_neg (by decide)]
   have hwl := hw 2 (by decide)
   have hswq := hsw 2
   rw [← hxq] at hwl hswq
   (conv => whnf)
   refine lp Nat (fun i => ⟨[(0, .c (.ptr 0 0)), (4, .c (.ptr 15 0)), (5, .c (.int .i64 (2 : Nat))), (6, .c (.rw 16)), (7, .c (.int .i64 i))], [.box [.ptr 1 0, .rw 11, .rw 12, .rw 13, .rw 14, .rw 7, .rw 8, .rw 9, .rw 10], .box [.rw 2], .row 6 Ob encOb L, .dead, .dead, .dead, .dead, .row 1 Int encI (b 0), .row 1 Int encI (b 1), .row 1 Int encI (b 2), .row 1 Int encI (b 3), .row 1 Int encI (x 0), .row 1 Int encI (x 1), .row 1 Int encI (x 2), .row 1 Int encI (x 3), .box [.ls 1 Int encI (need 0), .ls 1 Int encI (need 1), .ls 1 Int encI (need 2), .ls 1 Int encI (need 3)], .row 1 Int encI (((x 2).take i).filter fun k => keepB b need 2 k)]⟩) (fun i => i ≤ (x 2).length ∧ True) (fun i => (x 2).length - i) 0 [] [.same 0, .same 1, .same 2, .same 3, .same 4, .same 5, .same 6, .same 7, .same 8, .same 9, .same 10, .same 11, .same 12, .same 13, .same 14, .same 15, .new] ⟨Nat.zero_le _, trivial⟩ ?_ (fun i hi => ?_)
   ·repeat' first | exact trivial | exact rfl | refine And.intro ?_ ?_
   obtain ⟨hi, -⟩ := hi
   (conv => whnf)
   refine ⟨2, ⟨rfl, by decide⟩, ?_⟩
   (conv => whnf)
   refine dec (fun h5 => ?_) (fun h5 => ?_)
   ·have hlt : i < (x 2).length := by have h5 : (i : Int) < (x 2).length := h5; omega
    have hiy : (x 2)[i]? = some (x 2)[i] := List.getElem?_eq_getElem hlt
    have hst := filt_one (p := fun k => keepB b need 2 k) hlt
    have hol : (((x 2).take i).filter fun k => keepB b need 2 k).length ≤ i := Nat.le_trans (List.length_filter_le _ _) (by rw [List.length_take]; omega)
    generalize ((x 2).take i).filter (fun k => keepB b need 2 k) = out at hst hol ⊢
    generalize (x 2)[i] = y at hiy hst
    (conv => whnf)
    refine lp Nat (fun r => ⟨[(0, .c (.ptr 0 0)), (4, .c (.ptr 15 0)), (5, .c (.int .i64 (2 : Nat))), (6, .c (.rw 16)), (7, .c (.int .i64 i)), (8, .c (.bool (kpR b need 2 y r))), (9, .c (.int .i64 r))], [.box [.ptr 1 0, .rw 11, .rw 12, .rw 13, .rw 14, .rw 7, .rw 8, .rw 9, .rw 10], .box [.rw 2], .row 6 Ob encOb L, .dead, .dead, .dead, .dead, .row 1 Int encI (b 0), .row 1 Int encI (b 1), .row 1 Int encI (b 2), .row 1 Int encI (b 3), .row 1 Int encI (x 0), .row 1 Int encI (x 1), .row 1 Int encI (x 2), .row 1 Int encI (x 3), .box [.ls 1 Int encI (need 0), .ls 1 Int encI (need 1), .ls 1 Int encI (need 2), .ls 1 Int encI (need 3)], .row 1 Int encI out]⟩) (fun r => r ≤ 4 ∧ True) (fun r => 4 - r) 0 [] [.same 0, .same 1, .same 2, .same 3, .same 4, .same 5, .same 6, .same 7, .same 8, .same 9, .same 10, .same 11, .same 12, .same 13, .same 14, .same 15, .same 16] ⟨Nat.zero_le _, trivial⟩ ?_ (fun r hr => ?_)
    ·repeat' first | exact trivial | exact rfl | refine And.intro ?_ ?_
    obtain ⟨hr4, -⟩ := hr
    (conv => whnf)
    refine dec (fun h6 => ?_) (fun h6 => ?_)
    ·have hr : r < 4 := by have h6 : (r : Int) < 4 := h6; omega
     have hk2 := kpR_succ (b := b) (need := need) (q := 2) (y := y) (r := r)
     have p2 := lends_spec L x b hb4 (2 : Nat) r (isR_iff.2 ⟨r, hr, rfl⟩)
     have p3 := in_spec (need r) y
     generalize kpR b need 2 y r = kp at hk2 ⊢
     generalize decide (((2 : Nat) : Int) ∈ lendP b r) = ld at p2 hk2
     generalize decide (y ∈ need r) = nd at p3 hk2
     (conv => whnf)
     refine ⟨false, .grow, (.l [0, 1, 2, 3, 4, 5, 6, 7, 8, 9, 10, 11, 12, 13, 14, 15, 16, 17, 18, 19, 20, 21, 22]), by kernel_rfl, .inl ?_⟩
     (conv => whnf)
     refine boo (fun h7 => ?_) (fun h7 => ?_)
     ·have h7 : kp = true := h7
      (conv => whnf)
      rw [h7, Bool.true_or] at hk2
      repeat' ((conv => whnf); refine I6 ?_)
      refine ag _ [] [.same 0, .same 1, .same 2, .same 3, .same 4, .same 5, .same 6, .same 7, .same 8, .same 9, .same 10, .same 11, .same 12, .same 13, .same 14, .same 15, .same 16] ⟨hr, trivial⟩ (by simp only []; omega) ?_
      rw [hk2]
      repeat' first | exact trivial | exact rfl | refine And.intro ?_ ?_
     ·have h7 : kp = false := h7
      rw [h7, Bool.false_or] at hk2
      (conv => whnf)
      refine cl [] [] (p2) ?_
      (conv => whnf)
      refine boo (fun h8 => ?_) (fun h8 => ?_)
      ·have h8 : ld = true := h8
       rw [h8, Bool.true_and] at hk2
       (conv => whnf)
       rcases four hr with rfl | rfl | rfl | rfl <;> (
        (conv => whnf)
        refine ⟨_, ⟨rfl, by decide⟩, ?_⟩
        (conv => whnf)
        refine ⟨2, ⟨rfl, by decide⟩, ?_⟩
        (conv => whnf)
        refine ⟨i, ⟨rfl, hlt⟩, ?_⟩
        (conv => whnf)
        refine ⟨y, hiy, ?_⟩
        (conv => whnf)
        refine cl [] [] (p3) ?_
        repeat' ((conv => whnf); refine I6 ?_)
        refine ag _ [] [.same 0, .same 1, .same 2, .same 3, .same 4, .same 5, .same 6, .same 7, .same 8, .same 9, .same 10, .same 11, .same 12, .same 13, .same 14, .same 15, .same 16] ⟨hr, trivial⟩ (by simp only []; omega) ?_
        rw [hk2]
        repeat' first | exact trivial | exact rfl | refine And.intro ?_ ?_)
      ·have h8 : ld = false := h8
       rw [h8, Bool.false_and] at hk2
       repeat' ((conv => whnf); refine I6 ?_)
       refine ag _ [] [.same 0, .same 1, .same 2, .same 3, .same 4, .same 5, .same 6, .same 7, .same 8, .same 9, .same 10, .same 11, .same 12, .same 13, .same 14, .same 15, .same 16] ⟨hr, trivial⟩ (by simp only []; omega) ?_
       rw [hk2]
       repeat' first | exact trivial | exact rfl | refine And.intro ?_ ?_
    ·obtain rfl : r = 4 := by have h6 : ¬ (r : Int) < 4 := h6; omega
     have hke : kpR b need 2 y 4 = keepB b need 2 y := rfl
     rw [hke]
     generalize keepB b need 2 y = kp at hst ⊢
     (conv => whnf)
     refine boo (fun h7 => ?_) (fun h7 => ?_)
     ·have h7 : kp = true := h7
      rw [if_pos h7] at hst
      (conv => whnf)
      refine ⟨2, ⟨rfl, by decide⟩, ?_⟩
      (conv => whnf)
      refine ⟨i, ⟨rfl, hlt⟩, ?_⟩
      (conv => whnf)
      refine ⟨y, hiy, ?_⟩
      (conv => whnf)
      refine ⟨[y], rfl, ?_⟩
      (conv => whnf)
      refine ⟨_, _, rfl, rfl, (by simp only [List.length_append, List.length_cons, List.length_nil]; omega), ?_⟩
      repeat' ((conv => whnf); refine I6 ?_)
      refine ag (i + 1) [] [.same 0, .same 1, .same 2, .same 3, .same 4, .same 5, .same 6, .same 7, .same 8, .same 9, .same 10, .same 11, .same 12, .same 13, .same 14, .same 15, .same 18] ⟨hlt, trivial⟩ (by simp only []; omega) ?_
      rw [hst]
      repeat' first | exact trivial | exact rfl | refine And.intro ?_ ?_
     ·have h7 : ¬ kp = true := by have h7 : kp = false := h7; rw [h7]; decide
      rw [if_neg h7, List.append_nil] at hst
      repeat' ((conv => whnf); refine I6 ?_)
      refine ag (i + 1) [] [.same 0, .same 1, .same 2, .same 3, .same 4, .same 5, .same 6, .same 7, .same 8, .same 9, .same 10, .same 11, .same 12, .same 13, .same 14, .same 15, .same 16] ⟨hlt, trivial⟩ (by simp only []; omega) ?_
      rw [hst]
      repeat' first | exact trivial | exact rfl | refine And.intro ?_ ?_
   ·obtain rfl : i = (x 2).length := by have h5 : ¬ (i : Int) < (x 2).length := h5; omega
    rw [List.take_length, ← hswq]
    (conv => whnf)
    refine ⟨2, ⟨rfl, by decide⟩, ?_⟩
    repeat' ((conv => whnf); refine I6 ?_)
    refine ag (2 + 1, upd x 2 (sw 2)) [] [.same 0, .same 1, .same 2, .same 3, .same 4, .same 5, .same 6, .same 7, .same 8, .same 9, .same 10, .same 11, .same 12, .same 16, .same 14, .same 15] ⟨⟨(by show 2 + 1 ≤ 4; decide), hup _ rfl⟩, trivial⟩ (by simp only []; omega) ?_
    repeat' first | exact trivial | exact rfl | refine And.intro ?_ ?_
  ·have hxq : x 3 = w 3 := by rw [hx 3 (by decide), if_neg (by decide)]
   have hwl := hw 3 (by decide)
   have hswq := hsw 3
   rw [← hxq] at hwl hswq
   (conv => whnf)
   refine lp Nat (fun i => ⟨[(0, .c (.ptr 0 0)), (4, .c (.ptr 15 0)), (5, .c (.int .i64 (3 : Nat))), (6, .c (.rw 16)), (7, .c (.int .i64 i))], [.box [.ptr 1 0, .rw 11, .rw 12, .rw 13, .rw 14, .rw 7, .rw 8, .rw 9, .rw 10], .box [.rw 2], .row 6 Ob encOb L, .dead, .dead, .dead, .dead, .row 1 Int encI (b 0), .row 1 Int encI (b 1), .row 1 Int encI (b 2), .row 1 Int encI (b 3), .row 1 Int encI (x 0), .row 1 Int encI (x 1), .row 1 Int encI (x 2), .row 1 Int encI (x 3), .box [.ls 1 Int encI (need 0), .ls 1 Int encI (need 1), .ls 1 Int encI (need 2), .ls 1 Int encI (need 3)], .row 1 Int encI (((x 3).take i).filter fun k => keepB b need 3 k)]⟩) (fun i => i ≤ (x 3).length ∧ True) (fun i => (x 3).length - i) 0 [] [.same 0, .same 1, .same 2, .same 3, .same 4, .same 5, .same 6, .same 7, .same 8, .same 9, .same 10, .same 11, .same 12, .same 13, .same 14, .same 15, .new] ⟨Nat.zero_le _, trivial⟩ ?_ (fun i hi => ?_)
   ·repeat' first | exact trivial | exact rfl | refine And.intro ?_ ?_
   obtain ⟨hi, -⟩ := hi
   (conv => whnf)
   refine ⟨3, ⟨rfl, by decide⟩, ?_⟩
   (conv => whnf)
   refine dec (fun h5 => ?_) (fun h5 => ?_)
   ·have hlt : i < (x 3).length := by have h5 : (i : Int) < (x 3).length := h5; omega
    have hiy : (x 3)[i]? = some (x 3)[i] := List.getElem?_eq_getElem hlt
    have hst := filt_one (p := fun k => keepB b need 3 k) hlt
    have hol : (((x 3).take i).filter fun k => keepB b need 3 k).length ≤ i := Nat.le_trans (List.length_filter_le _ _) (by rw [List.length_take]; omega)
    generalize ((x 3).take i).filter (fun k => keepB b need 3 k) = out at hst hol ⊢
    generalize (x 3)[i] = y at hiy hst
    (conv => whnf)
    refine lp Nat (fun r => ⟨[(0, .c (.ptr 0 0)), (4, .c (.ptr 15 0)), (5, .c (.int .i64 (3 : Nat))), (6, .c (.rw 16)), (7, .c (.int .i64 i)), (8, .c (.bool (kpR b need 3 y r))), (9, .c (.int .i64 r))], [.box [.ptr 1 0, .rw 11, .rw 12, .rw 13, .rw 14, .rw 7, .rw 8, .rw 9, .rw 10], .box [.rw 2], .row 6 Ob encOb L, .dead, .dead, .dead, .dead, .row 1 Int encI (b 0), .row 1 Int encI (b 1), .row 1 Int encI (b 2), .row 1 Int encI (b 3), .row 1 Int encI (x 0), .row 1 Int encI (x 1), .row 1 Int encI (x 2), .row 1 Int encI (x 3), .box [.ls 1 Int encI (need 0), .ls 1 Int encI (need 1), .ls 1 Int encI (need 2), .ls 1 Int encI (need 3)], .row 1 Int encI out]⟩) (fun r => r ≤ 4 ∧ True) (fun r => 4 - r) 0 [] [.same 0, .same 1, .same 2, .same 3, .same 4, .same 5, .same 6, .same 7, .same 8, .same 9, .same 10, .same 11, .same 12, .same 13, .same 14, .same 15, .same 16] ⟨Nat.zero_le _, trivial⟩ ?_ (fun r hr => ?_)
    ·repeat' first | exact trivial | exact rfl | refine And.intro ?_ ?_
    obtain ⟨hr4, -⟩ := hr
    (conv => whnf)
    refine dec (fun h6 => ?_) (fun h6 => ?_)
    ·have hr : r < 4 := by have h6 : (r : Int) < 4 := h6; omega
     have hk2 := kpR_succ (b := b) (need := need) (q := 3) (y := y) (r := r)
     have p2 := lends_spec L x b hb4 (3 : Nat) r (isR_iff.2 ⟨r, hr, rfl⟩)
     have p3 := in_spec (need r) y
     generalize kpR b need 3 y r = kp at hk2 ⊢
     generalize decide (((3 : Nat) : Int) ∈ lendP b r) = ld at p2 hk2
     generalize decide (y ∈ need r) = nd at p3 hk2
     (conv => whnf)
     refine ⟨false, .grow, (.l [0, 1, 2, 3, 4, 5, 6, 7, 8, 9, 10, 11, 12, 13, 14, 15, 16, 17, 18, 19, 20, 21, 22]), by kernel_rfl, .inl ?_⟩
     (conv => whnf)
     refine boo (fun h7 => ?_) (fun h7 => ?_)
     ·have h7 : kp = true := h7
      (conv => whnf)
      rw [h7, Bool.true_or] at hk2
      repeat' ((conv => whnf); refine I6 ?_)
      refine ag _ [] [.same 0, .same 1, .same 2, .same 3, .same 4, .same 5, .same 6, .same 7, .same 8, .same 9, .same 10, .same 11, .same 12, .same 13, .same 14, .same 15, .same 16] ⟨hr, trivial⟩ (by simp only []; omega) ?_
      rw [hk2]
      repeat' first | exact trivial | exact rfl | refine And.intro ?_ ?_
     ·have h7 : kp = false := h7
      rw [h7, Bool.false_or] at hk2
      (conv => whnf)
      refine cl [] [] (p2) ?_
      (conv => whnf)
      refine boo (fun h8 => ?_) (fun h8 => ?_)
      ·have h8 : ld = true := h8
       rw [h8, Bool.true_and] at hk2
       (conv => whnf)
       rcases four hr with rfl | rfl | rfl | rfl <;> (
        (conv => whnf)
        refine ⟨_, ⟨rfl, by decide⟩, ?_⟩
        (conv => whnf)
        refine ⟨3, ⟨rfl, by decide⟩, ?_⟩
        (conv => whnf)
        refine ⟨i, ⟨rfl, hlt⟩, ?_⟩
        (conv => whnf)
        refine ⟨y, hiy, ?_⟩
        (conv => whnf)
        refine cl [] [] (p3) ?_
        repeat' ((conv => whnf); refine I6 ?_)
        refine ag _ [] [.same 0, .same 1, .same 2, .same 3, .same 4, .same 5, .same 6, .same 7, .same 8, .same 9, .same 10, .same 11, .same 12, .same 13, .same 14, .same 15, .same 16] ⟨hr, trivial⟩ (by simp only []; omega) ?_
        rw [hk2]
        repeat' first | exact trivial | exact rfl | refine And.intro ?_ ?_)
      ·have h8 : ld = false := h8
       rw [h8, Bool.false_and] at hk2
       repeat' ((conv => whnf); refine I6 ?_)
       refine ag _ [] [.same 0, .same 1, .same 2, .same 3, .same 4, .same 5, .same 6, .same 7, .same 8, .same 9, .same 10, .same 11, .same 12, .same 13, .same 14, .same 15, .same 16] ⟨hr, trivial⟩ (by simp only []; omega) ?_
       rw [hk2]
       repeat' first | exact trivial | exact rfl | refine And.intro ?_ ?_
    ·obtain rfl : r = 4 := by have h6 : ¬ (r : Int) < 4 := h6; omega
     have hke : kpR b need 3 y 4 = keepB b need 3 y := rfl
     rw [hke]
     generalize keepB b need 3 y = kp at hst ⊢
     (conv => whnf)
     refine boo (fun h7 => ?_) (fun h7 => ?_)
     ·have h7 : kp = true := h7
      rw [if_pos h7] at hst
      (conv => whnf)
      refine ⟨3, ⟨rfl, by decide⟩, ?_⟩
      (conv => whnf)
      refine ⟨i, ⟨rfl, hlt⟩, ?_⟩
      (conv => whnf)
      refine ⟨y, hiy, ?_⟩
      (conv => whnf)
      refine ⟨[y], rfl, ?_⟩
      (conv => whnf)
      refine ⟨_, _, rfl, rfl, (by simp only [List.length_append, List.length_cons, List.length_nil]; omega), ?_⟩
      repeat' ((conv => whnf); refine I6 ?_)
      refine ag (i + 1) [] [.same 0, .same 1, .same 2, .same 3, .same 4, .same 5, .same 6, .same 7, .same 8, .same 9, .same 10, .same 11, .same 12, .same 13, .same 14, .same 15, .same 18] ⟨hlt, trivial⟩ (by simp only []; omega) ?_
      rw [hst]
      repeat' first | exact trivial | exact rfl | refine And.intro ?_ ?_
     ·have h7 : ¬ kp = true := by have h7 : kp = false := h7; rw [h7]; decide
      rw [if_neg h7, List.append_nil] at hst
      repeat' ((conv => whnf); refine I6 ?_)
      refine ag (i + 1) [] [.same 0, .same 1, .same 2, .same 3, .same 4, .same 5, .same 6, .same 7, .same 8, .same 9, .same 10, .same 11, .same 12, .same 13, .same 14, .same 15, .same 16] ⟨hlt, trivial⟩ (by simp only []; omega) ?_
      rw [hst]
      repeat' first | exact trivial | exact rfl | refine And.intro ?_ ?_
   ·obtain rfl : i = (x 3).length := by have h5 : ¬ (i : Int) < (x 3).length := h5; omega
    rw [List.take_length, ← hswq]
    (conv => whnf)
    refine ⟨3, ⟨rfl, by decide⟩, ?_⟩
    repeat' ((conv => whnf); refine I6 ?_)
    refine ag (3 + 1, upd x 3 (sw 3)) [] [.same 0, .same 1, .same 2, .same 3, .same 4, .same 5, .same 6, .same 7, .same 8, .same 9, .same 10, .same 11, .same 12, .same 13, .same 16, .same 15] ⟨⟨(by show 3 + 1 ≤ 4; decide), hup _ rfl⟩, trivial⟩ (by simp only []; omega) ?_
    repeat' first | exact trivial | exact rfl | refine And.intro ?_ ?_
 ·obtain rfl : q = 4 := by have h4 : ¬ (q : Int) < 4 := h4; omega
  have e := fun j hj => (hx j hj).trans (if_pos hj)
  rw [← e 0 (by decide), ← e 1 (by decide), ← e 2 (by decide), ← e 3 (by decide)]
  (conv => whnf)
  exact rx [] [.same 0, .same 1, .same 2, .same 3, .same 4, .same 5, .same 6, .same 7, .same 8, .same 9, .same 10, .same 11, .same 12, .same 13, .same 14]
end Go.Nest
end
