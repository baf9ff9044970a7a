/- part -/
import Derived.Test.YtpechfcbnoggfaaGreatDoorD2
import Derived.Test.YtpechfcbnoggfaaGreatDoorV1
import Derived.Test.YtpechfcbnoggfaaGreatDoorE10
import Derived.Test.YtpechfcbnoggfaaGreatDoorW10
import Derived.Test.YtpechfcbnoggfaaGreatDoorG9
import Derived.Test.YtpechfcbnoggfaaGreatDoorAmG
import Derived.Test.YtpechfcbnoggfaaGreatDoorL0
set_option linter.unusedVariables false
set_option linter.unusedSimpArgs false
section

namespace Go.Nest
open Go Go.AM Go.Proofs
open Go.Proofs.YtpechfcbnoggfaaGreatDoor (tab tabOk)
set_option maxRecDepth 4000
def padL (l : List Bool) (n : Nat) : List Bool := l ++ List.replicate (n - l.length) false
def markL (o : Nat → List Bool) (b : Nat → List Int) (r : Nat) (x : List Bool) (id : Int) : List Bool := if hasP ⟨upd o r x, b⟩ r id = true then x else x.set id.toNat true
noncomputable def addL (L : List Ob) (o : Nat → List Bool) (b : Nat → List Int) (r : Nat) (ids : List Int) : List Bool := (reachP L ids).foldl (markL o b r) (padL (o r) L.length)
def addC (L : List Ob) (r : Int) (ids : List Int) : Int := if isR r = false then 1 else if (ids.any fun id => decide (kindOf L id = 0)) = true then 9 else 0
noncomputable def addO (L : List Ob) (o : Nat → List Bool) (b : Nat → List Int) (r : Int) (ids : List Int) : Nat → List Bool := if addC L r ids ≠ 0 then o else upd o r.toNat (addL L o b r.toNat ids)
theorem mark_len {o : Nat → List Bool} {b : Nat → List Int} {r : Nat} : ∀ {l : List Int} {x : List Bool}, (l.foldl (markL o b r) x).length = x.length
 | [], x => rfl
 | id :: l, x => by
  rw [List.foldl_cons, mark_len]
  unfold markL
  split
  ·rfl
  ·rw [List.length_set]
theorem mark_take {o : Nat → List Bool} {b : Nat → List Int} {r : Nat} {l : List Int} {x : List Bool} {i : Nat} (h : i < l.length) : (l.take (i + 1)).foldl (markL o b r) x = markL o b r ((l.take i).foldl (markL o b r) x) l[i] := by
 rw [List.take_succ_eq_append_getElem h, List.foldl_append]; rfl
theorem pad_snoc {l : List Bool} {n : Nat} (h : l.length < n) : padL (l ++ [false]) n = padL l n := by
 unfold padL
 rw [List.length_append, List.length_singleton, List.append_assoc]
 congr 1
 rw [show n - l.length = (n - (l.length + 1)) + 1 by omega, List.replicate_succ]; rfl
theorem pad_full {l : List Bool} {n : Nat} (h : n ≤ l.length) : padL l n = l := by
 unfold padL
 rw [show n - l.length = 0 by omega]; simp
theorem reach_lt {L : List Ob} {ids : List Int} {id : Int} (h : id ∈ reachP L ids) : 0 ≤ id ∧ id.toNat < L.length := by
 unfold reachP at h
 obtain ⟨k, hk, rfl⟩ := List.mem_map.1 h
 have := (List.mem_filter.1 hk).1
 rw [List.mem_range] at this
 omega
set_option maxHeartbeats 8000000 in
theorem addD_dspec (L : List Ob) (hL : PoolOk L) (o : Nat → List Bool) (b : Nat → List Int) (hb4 : BorOk b) (ho : ∀ k, k < 4 → (o k).length ≤ 1000000) (r : Int) (ids : List Int) (hi : ids.length ≤ 1000000) : Does Tryz.prog 204 [.c (.ptr 0 0), .c (.int .i64 r), .c (.bs 1 Int encI ids)] [.box [.ptr 1 0, .rw 3, .rw 4, .rw 5, .rw 6, .rw 7, .rw 8, .rw 9, .rw 10], .box [.rw 2], .row 6 Ob encOb L, .row 1 Bool encBo (o 0), .row 1 Bool encBo (o 1), .row 1 Bool encBo (o 2), .row 1 Bool encBo (o 3), .row 1 Int encI (b 0), .row 1 Int encI (b 1), .row 1 Int encI (b 2), .row 1 Int encI (b 3)] (Rt (.c (.int .i64 (addC L r ids))) [.box [.ptr 1 0, .rw 11, .rw 12, .rw 13, .rw 14, .rw 7, .rw 8, .rw 9, .rw 10], .box [.rw 2], .row 6 Ob encOb L, .dead, .dead, .dead, .dead, .row 1 Int encI (b 0), .row 1 Int encI (b 1), .row 1 Int encI (b 2), .row 1 Int encI (b 3), .row 1 Bool encBo ((addO L o b r ids) 0), .row 1 Bool encBo ((addO L o b r ids) 1), .row 1 Bool encBo ((addO L o b r ids) 2), .row 1 Bool encBo ((addO L o b r ids) 3)]) := by
 have p1 := repo_spec r
 have hlen := hL.len
 refine X_spec (n := 85) (n0 := 11) tabOk Tryz.call204 Tryz.func204 ?_
 intro hb
 cases hr : isR r with
 | false =>
  rw [hr] at p1
  have e : addC L r ids = 1 := by unfold addC; rw [hr]; rfl
  rw [show addO L o b r ids = o by unfold addO; rw [e]; rfl, e]
  (conv => whnf)
  refine cl [] [] (p1) ?_
  (conv => whnf)
  exact rx [] [.same 0, .same 1, .same 2, .same 3, .same 4, .same 5, .same 6, .same 7, .same 8, .same 9, .same 10, .same 3, .same 4, .same 5, .same 6]
 | true =>
  rw [hr] at p1
  have e1 : addC L r ids = if (ids.any fun id => decide (kindOf L id = 0)) = true then 9 else 0 := by unfold addC; rw [hr]; rfl
  (conv => whnf)
  refine cl [] [] (p1) ?_
  (conv => whnf)
  refine lp Nat (fun i => ⟨[(0, .c (.ptr 0 0)), (1, .c (.int .i64 r)), (2, .c (.bs 1 Int encI ids)), (16, .c (.bs 1 Int encI ids)), (17, .c (.int .i64 ids.length)), (18, .c (.int .i64 i))], [.box [.ptr 1 0, .rw 3, .rw 4, .rw 5, .rw 6, .rw 7, .rw 8, .rw 9, .rw 10], .box [.rw 2], .row 6 Ob encOb L, .row 1 Bool encBo (o 0), .row 1 Bool encBo (o 1), .row 1 Bool encBo (o 2), .row 1 Bool encBo (o 3), .row 1 Int encI (b 0), .row 1 Int encI (b 1), .row 1 Int encI (b 2), .row 1 Int encI (b 3)]⟩) (fun i => i ≤ ids.length ∧ (ids.take i).any (fun id => decide (kindOf L id = 0)) = false) (fun i => ids.length - i) 0 [] [.same 0, .same 1, .same 2, .same 3, .same 4, .same 5, .same 6, .same 7, .same 8, .same 9, .same 10] ?_ ?_ (fun i hii => ?_)
  ·simp
  ·repeat' first | exact trivial | exact rfl | refine And.intro ?_ ?_
  obtain ⟨hii, hno⟩ := hii
  (conv => whnf)
  refine dec (fun h4 => ?_) (fun h4 => ?_)
  ·have hlt : i < ids.length := by have h4 : (i : Int) < ids.length := h4; omega
   have hiy : ids[i]? = some ids[i] := List.getElem?_eq_getElem hlt
   have ha := fun h => any_at (l := ids) (p := fun id => decide (kindOf L id = 0)) hlt h
   have ht := fun h => any_take (p := fun id => decide (kindOf L id = 0)) hlt hno h
   generalize ids[i] = x at hiy ha ht
   (conv => whnf)
   refine ⟨i, x, rfl, hiy, ?_⟩
   (conv => whnf)
   refine cl [] [] (get_spec L hL x) ?_
   (conv => whnf)
   refine decN (fun h5 => ?_) (fun h5 => ?_)
   ·have h5 : ¬ kindOf L x ≠ 0 := h5
    have e : addC L r ids = 9 := by rw [e1, ha (decide_eq_true (by omega))]; rfl
    rw [show addO L o b r ids = o by unfold addO; rw [e]; rfl, e]
    (conv => whnf)
    exact rx [] [.same 0, .same 1, .same 2, .same 3, .same 4, .same 5, .same 6, .same 7, .same 8, .same 9, .same 10, .same 3, .same 4, .same 5, .same 6]
   ·have h5 : kindOf L x ≠ 0 := h5
    repeat' ((conv => whnf); refine I6 ?_)
    refine ag (i + 1) [] [.same 0, .same 1, .same 2, .same 3, .same 4, .same 5, .same 6, .same 7, .same 8, .same 9, .same 10] ⟨hlt, ht (decide_eq_false (by omega))⟩ (by simp only []; omega) ?_
    repeat' first | exact trivial | exact rfl | refine And.intro ?_ ?_
  ·have h4 : ¬ (i : Int) < ids.length := h4
   rw [List.take_of_length_le (by omega)] at hno
   have e : addC L r ids = 0 := by rw [e1, hno]; rfl
   obtain ⟨k, hk, rfl⟩ := isR_iff.1 hr
   have eo : addO L o b (k : Int) ids = upd o k (addL L o b k ids) := by unfold addO; rw [e]; rfl
   rw [e, eo]
   (conv => whnf)
   rcases four hk with rfl | rfl | rfl | rfl
   ·refine lp (List Bool) (fun x => ⟨[(0, .c (.ptr 0 0)), (1, .c (.int .i64 (0 : Nat))), (2, .c (.bs 1 Int encI ids))], [.box [.ptr 1 0, .rw 11, .rw 4, .rw 5, .rw 6, .rw 7, .rw 8, .rw 9, .rw 10], .box [.rw 2], .row 6 Ob encOb L, .dead, .row 1 Bool encBo (o 1), .row 1 Bool encBo (o 2), .row 1 Bool encBo (o 3), .row 1 Int encI (b 0), .row 1 Int encI (b 1), .row 1 Int encI (b 2), .row 1 Int encI (b 3), .row 1 Bool encBo x]⟩) (fun x => (x.length ≤ max (o 0).length L.length ∧ padL x L.length = padL (o 0) L.length) ∧ True) (fun x => L.length - x.length) (o 0) [] [.same 0, .same 1, .same 2, .same 3, .same 4, .same 5, .same 6, .same 7, .same 8, .same 9, .same 10, .same 3] ?_ ?_ (fun x hx => ?_)
    ·exact ⟨⟨by omega, rfl⟩, trivial⟩
    ·repeat' first | exact trivial | exact rfl | refine And.intro ?_ ?_
    obtain ⟨⟨hxl, hxp⟩, -⟩ := hx
    (conv => whnf)
    refine ⟨false, .grow, (.l [0, 1, 2, 3, 4, 5, 6, 7, 8, 9, 10, 11, 12]), by kernel_rfl, .inl ?_⟩
    (conv => whnf)
    refine ⟨0, ⟨rfl, by decide⟩, ?_⟩
    (conv => whnf)
    refine cl [] [] (len_spec L) ?_
    (conv => whnf)
    refine dec (fun h5 => ?_) (fun h5 => ?_)
    ·have h5 : (x.length : Int) < L.length := h5
     (conv => whnf)
     refine ⟨false, .grow, (.l [0, 1, 2, 3, 4, 5, 6, 7, 10, 11, 8, 9, 12, 13]), by kernel_rfl, .inl ?_⟩
     (conv => whnf)
     refine ⟨0, ⟨rfl, by decide⟩, ?_⟩
     (conv => whnf)
     refine ⟨[false], rfl, ?_⟩
     (conv => whnf)
     refine ⟨_, _, rfl, rfl, (by simp only [List.length_append, List.length_cons, List.length_nil]; omega), ?_⟩
     (conv => whnf)
     refine ⟨0, ⟨rfl, by decide⟩, ?_⟩
     skip
     refine ag (x ++ [false]) [] [.same 0, .same 1, .same 2, .same 3, .same 4, .same 5, .same 6, .same 7, .same 8, .same 9, .same 10, .same 13] ⟨⟨by rw [List.length_append, List.length_singleton]; omega, by rw [pad_snoc (by omega)]; exact hxp⟩, trivial⟩ (by simp only [List.length_append, List.length_singleton]; omega) ?_
     repeat' first | exact trivial | exact rfl | refine And.intro ?_ ?_
    ·have h5 : ¬ (x.length : Int) < L.length := h5
     rw [pad_full (by omega)] at hxp
     unfold addL
     rw [← hxp]
     have hxn : L.length ≤ x.length := by omega
     have hrm := fun id (h : id ∈ reachP L ids) => reach_lt h
     have hrl := reach_len (l := L) (ids := ids)
     have p3 := reach_spec L hL ids hi
     generalize reachP L ids = rl at hrm hrl p3 ⊢
     clear hxp hxl
     (conv => whnf)
     refine cl [] [] (p3) ?_
     (conv => whnf)
     refine lp Nat (fun i => ⟨[(0, .c (.ptr 0 0)), (1, .c (.int .i64 (0 : Nat))), (65, .c (.rw 12)), (66, .c (.int .i64 rl.length)), (67, .c (.int .i64 i))], [.box [.ptr 1 0, .rw 11, .rw 4, .rw 5, .rw 6, .rw 7, .rw 8, .rw 9, .rw 10], .box [.rw 2], .row 6 Ob encOb L, .dead, .row 1 Bool encBo (o 1), .row 1 Bool encBo (o 2), .row 1 Bool encBo (o 3), .row 1 Int encI (b 0), .row 1 Int encI (b 1), .row 1 Int encI (b 2), .row 1 Int encI (b 3), .row 1 Bool encBo ((rl.take i).foldl (markL o b 0) x)] ++ [.row 1 Int encI rl]⟩) (fun i => i ≤ rl.length ∧ True) (fun i => rl.length - i) 0 [] [.same 0, .same 1, .same 2, .same 3, .same 4, .same 5, .same 6, .same 7, .same 8, .same 9, .same 10, .same 11, .same 12] ?_ ?_ (fun i hii => ?_)
     ·simp
     ·repeat' first | exact trivial | exact rfl | refine And.intro ?_ ?_
     (conv => whnf)
     refine dec (fun h6 => ?_) (fun h6 => ?_)
     ·have hlt : i < rl.length := by have h6 : (i : Int) < rl.length := h6; omega
      have hiy : rl[i]? = some rl[i] := List.getElem?_eq_getElem hlt
      have hst := mark_take (o := o) (b := b) (r := 0) (x := x) hlt
      have hml := mark_len (o := o) (b := b) (r := 0) (x := x) (l := rl.take i)
      have hid := hrm _ (List.getElem_mem hlt)
      generalize (rl.take i).foldl (markL o b 0) x = y at hst hml ⊢
      generalize rl[i] = id at hiy hst hid
      have p4 := hasD_spec L (upd o 0 y) b hb4 (0 : Nat) id
      (conv => whnf)
      refine ⟨i, ⟨rfl, hlt⟩, ?_⟩
      (conv => whnf)
      refine ⟨id, hiy, ?_⟩
      (conv => whnf)
      refine cl [] [] (p4) ?_
      (conv => whnf)
      refine boo (fun h7 => ?_) (fun h7 => ?_)
      ·have h7 : hasP ⟨upd o 0 y, b⟩ (0 : Nat) id = false := by simpa using h7
       rw [show markL o b 0 y id = y.set id.toNat true from if_neg (by rw [h7]; decide)] at hst
       (conv => whnf)
       refine ⟨0, ⟨rfl, by decide⟩, ?_⟩
       (conv => whnf)
       refine ⟨id.toNat, ⟨by omega, by omega⟩, ?_⟩
       (conv => whnf)
       refine ⟨_, true, List.getElem?_eq_getElem (show id.toNat < y.length by omega), ⟨Nat.le_refl 1, rfl⟩, ?_⟩
       repeat' ((conv => whnf); refine I6 ?_)
       refine ag (i + 1) [] [.same 0, .same 1, .same 2, .same 3, .same 4, .same 5, .same 6, .same 7, .same 8, .same 9, .same 10, .same 11, .same 12] ⟨hlt, trivial⟩ (by simp only []; omega) ?_
       rw [hst]
       repeat' first | exact trivial | exact rfl | refine And.intro ?_ ?_
      ·have h7 : hasP ⟨upd o 0 y, b⟩ (0 : Nat) id = true := by simpa using h7
       rw [show markL o b 0 y id = y from if_pos h7] at hst
       repeat' ((conv => whnf); refine I6 ?_)
       refine ag (i + 1) [] [.same 0, .same 1, .same 2, .same 3, .same 4, .same 5, .same 6, .same 7, .same 8, .same 9, .same 10, .same 11, .same 12] ⟨hlt, trivial⟩ (by simp only []; omega) ?_
       rw [hst]
       repeat' first | exact trivial | exact rfl | refine And.intro ?_ ?_
     ·obtain rfl : i = rl.length := by have h6 : ¬ (i : Int) < rl.length := h6; omega
      rw [List.take_length]
      (conv => whnf)
      exact rx [] [.same 0, .same 1, .same 2, .same 3, .same 4, .same 5, .same 6, .same 7, .same 8, .same 9, .same 10, .same 11, .same 4, .same 5, .same 6]
   ·refine lp (List Bool) (fun x => ⟨[(0, .c (.ptr 0 0)), (1, .c (.int .i64 (1 : Nat))), (2, .c (.bs 1 Int encI ids))], [.box [.ptr 1 0, .rw 3, .rw 11, .rw 5, .rw 6, .rw 7, .rw 8, .rw 9, .rw 10], .box [.rw 2], .row 6 Ob encOb L, .row 1 Bool encBo (o 0), .dead, .row 1 Bool encBo (o 2), .row 1 Bool encBo (o 3), .row 1 Int encI (b 0), .row 1 Int encI (b 1), .row 1 Int encI (b 2), .row 1 Int encI (b 3), .row 1 Bool encBo x]⟩) (fun x => (x.length ≤ max (o 1).length L.length ∧ padL x L.length = padL (o 1) L.length) ∧ True) (fun x => L.length - x.length) (o 1) [] [.same 0, .same 1, .same 2, .same 3, .same 4, .same 5, .same 6, .same 7, .same 8, .same 9, .same 10, .same 4] ?_ ?_ (fun x hx => ?_)
    ·exact ⟨⟨by omega, rfl⟩, trivial⟩
    ·repeat' first | exact trivial | exact rfl | refine And.intro ?_ ?_
    obtain ⟨⟨hxl, hxp⟩, -⟩ := hx
    (conv => whnf)
    refine ⟨false, .grow, (.l [0, 1, 2, 3, 4, 5, 6, 7, 8, 9, 10, 11, 12]), by kernel_rfl, .inl ?_⟩
    (conv => whnf)
    refine ⟨1, ⟨rfl, by decide⟩, ?_⟩
    (conv => whnf)
    refine cl [] [] (len_spec L) ?_
    (conv => whnf)
    refine dec (fun h5 => ?_) (fun h5 => ?_)
    ·have h5 : (x.length : Int) < L.length := h5
     (conv => whnf)
     refine ⟨false, .grow, (.l [0, 1, 2, 3, 4, 5, 6, 7, 10, 11, 8, 9, 12, 13]), by kernel_rfl, .inl ?_⟩
     (conv => whnf)
     refine ⟨1, ⟨rfl, by decide⟩, ?_⟩
     (conv => whnf)
     refine ⟨[false], rfl, ?_⟩
     (conv => whnf)
     refine ⟨_, _, rfl, rfl, (by simp only [List.length_append, List.length_cons, List.length_nil]; omega), ?_⟩
     (conv => whnf)
     refine ⟨1, ⟨rfl, by decide⟩, ?_⟩
     skip
     refine ag (x ++ [false]) [] [.same 0, .same 1, .same 2, .same 3, .same 4, .same 5, .same 6, .same 7, .same 8, .same 9, .same 10, .same 13] ⟨⟨by rw [List.length_append, List.length_singleton]; omega, by rw [pad_snoc (by omega)]; exact hxp⟩, trivial⟩ (by simp only [List.length_append, List.length_singleton]; omega) ?_
     repeat' first | exact trivial | exact rfl | refine And.intro ?_ ?_
    ·have h5 : ¬ (x.length : Int) < L.length := h5
     rw [pad_full (by omega)] at hxp
     unfold addL
     rw [← hxp]
     have hxn : L.length ≤ x.length := by omega
     have hrm := fun id (h : id ∈ reachP L ids) => reach_lt h
     have hrl := reach_len (l := L) (ids := ids)
     have p3 := reach_spec L hL ids hi
     generalize reachP L ids = rl at hrm hrl p3 ⊢
     clear hxp hxl
     (conv => whnf)
     refine cl [] [] (p3) ?_
     (conv => whnf)
     refine lp Nat (fun i => ⟨[(0, .c (.ptr 0 0)), (1, .c (.int .i64 (1 : Nat))), (65, .c (.rw 12)), (66, .c (.int .i64 rl.length)), (67, .c (.int .i64 i))], [.box [.ptr 1 0, .rw 3, .rw 11, .rw 5, .rw 6, .rw 7, .rw 8, .rw 9, .rw 10], .box [.rw 2], .row 6 Ob encOb L, .row 1 Bool encBo (o 0), .dead, .row 1 Bool encBo (o 2), .row 1 Bool encBo (o 3), .row 1 Int encI (b 0), .row 1 Int encI (b 1), .row 1 Int encI (b 2), .row 1 Int encI (b 3), .row 1 Bool encBo ((rl.take i).foldl (markL o b 1) x)] ++ [.row 1 Int encI rl]⟩) (fun i => i ≤ rl.length ∧ True) (fun i => rl.length - i) 0 [] [.same 0, .same 1, .same 2, .same 3, .same 4, .same 5, .same 6, .same 7, .same 8, .same 9, .same 10, .same 11, .same 12] ?_ ?_ (fun i hii => ?_)
     ·simp
     ·repeat' first | exact trivial | exact rfl | refine And.intro ?_ ?_
     (conv => whnf)
     refine dec (fun h6 => ?_) (fun h6 => ?_)
     ·have hlt : i < rl.length := by have h6 : (i : Int) < rl.length := h6; omega
      have hiy : rl[i]? = some rl[i] := List.getElem?_eq_getElem hlt
      have hst := mark_take (o := o) (b := b) (r := 1) (x := x) hlt
      have hml := mark_len (o := o) (b := b) (r := 1) (x := x) (l := rl.take i)
      have hid := hrm _ (List.getElem_mem hlt)
      generalize (rl.take i).foldl (markL o b 1) x = y at hst hml ⊢
      generalize rl[i] = id at hiy hst hid
      have p4 := hasD_spec L (upd o 1 y) b hb4 (1 : Nat) id
      (conv => whnf)
      refine ⟨i, ⟨rfl, hlt⟩, ?_⟩
      (conv => whnf)
      refine ⟨id, hiy, ?_⟩
      (conv => whnf)
      refine cl [] [] (p4) ?_
      (conv => whnf)
      refine boo (fun h7 => ?_) (fun h7 => ?_)
      ·have h7 : hasP ⟨upd o 1 y, b⟩ (1 : Nat) id = false := by simpa using h7
       rw [show markL o b 1 y id = y.set id.toNat true from if_neg (by rw [h7]; decide)] at hst
       (conv => whnf)
       refine ⟨1, ⟨rfl, by decide⟩, ?_⟩
       (conv => whnf)
       refine ⟨id.toNat, ⟨by omega, by omega⟩, ?_⟩
       (conv => whnf)
       refine ⟨_, true, List.getElem?_eq_getElem (show id.toNat < y.length by omega), ⟨Nat.le_refl 1, rfl⟩, ?_⟩
       repeat' ((conv => whnf); refine I6 ?_)
       refine ag (i + 1) [] [.same 0, .same 1, .same 2, .same 3, .same 4, .same 5, .same 6, .same 7, .same 8, .same 9, .same 10, .same 11, .same 12] ⟨hlt, trivial⟩ (by simp only []; omega) ?_
       rw [hst]
       repeat' first | exact trivial | exact rfl | refine And.intro ?_ ?_
      ·have h7 : hasP ⟨upd o 1 y, b⟩ (1 : Nat) id = true := by simpa using h7
       rw [show markL o b 1 y id = y from if_pos h7] at hst
       repeat' ((conv => whnf); refine I6 ?_)
       refine ag (i + 1) [] [.same 0, .same 1, .same 2, .same 3, .same 4, .same 5, .same 6, .same 7, .same 8, .same 9, .same 10, .same 11, .same 12] ⟨hlt, trivial⟩ (by simp only []; omega) ?_
       rw [hst]
       repeat' first | exact trivial | exact rfl | refine And.intro ?_ ?_
     ·obtain rfl : i = rl.length := by have h6 : ¬ (i : Int) < rl.length := h6; omega
      rw [List.take_length]
      (conv => whnf)
      exact rx [] [.same 0, .same 1, .same 2, .same 3, .same 4, .same 5, .same 6, .same 7, .same 8, .same 9, .same 10, .same 3, .same 11, .same 5, .same 6]
   ·refine lp (List Bool) (fun x => ⟨[(0, .c (.ptr 0 0)), (1, .c (.int .i64 (2 : Nat))), (2, .c (.bs 1 Int encI ids))], [.box [.ptr 1 0, .rw 3, .rw 4, .rw 11, .rw 6, .rw 7, .rw 8, .rw 9, .rw 10], .box [.rw 2], .row 6 Ob encOb L, .row 1 Bool encBo (o 0), .row 1 Bool encBo (o 1), .dead, .row 1 Bool encBo (o 3), .row 1 Int encI (b 0), .row 1 Int encI (b 1), .row 1 Int encI (b 2), .row 1 Int encI (b 3), .row 1 Bool encBo x]⟩) (fun x => (x.length ≤ max (o 2).length L.length ∧ padL x L.length = padL (o 2) L.length) ∧ True) (fun x => L.length - x.length) (o 2) [] [.same 0, .same 1, .same 2, .same 3, .same 4, .same 5, .same 6, .same 7, .same 8, .same 9, .same 10, .same 5] ?_ ?_ (fun x hx => ?_)
    ·exact ⟨⟨by omega, rfl⟩, trivial⟩
    ·repeat' first | exact trivial | exact rfl | refine And.intro ?_ ?_
    obtain ⟨⟨hxl, hxp⟩, -⟩ := hx
    (conv => whnf)
    refine ⟨false, .grow, (.l [0, 1, 2, 3, 4, 5, 6, 7, 8, 9, 10, 11, 12]), by kernel_rfl, .inl ?_⟩
    (conv => whnf)
    refine ⟨2, ⟨rfl, by decide⟩, ?_⟩
    (conv => whnf)
    refine cl [] [] (len_spec L) ?_
    (conv => whnf)
    refine dec (fun h5 => ?_) (fun h5 => ?_)
    ·have h5 : (x.length : Int) < L.length := h5
     (conv => whnf)
     refine ⟨false, .grow, (.l [0, 1, 2, 3, 4, 5, 6, 7, 10, 11, 8, 9, 12, 13]), by kernel_rfl, .inl ?_⟩
     (conv => whnf)
     refine ⟨2, ⟨rfl, by decide⟩, ?_⟩
     (conv => whnf)
     refine ⟨[false], rfl, ?_⟩
     (conv => whnf)
     refine ⟨_, _, rfl, rfl, (by simp only [List.length_append, List.length_cons, List.length_nil]; omega), ?_⟩
     (conv => whnf)
     refine ⟨2, ⟨rfl, by decide⟩, ?_⟩
     skip
     refine ag (x ++ [false]) [] [.same 0, .same 1, .same 2, .same 3, .same 4, .same 5, .same 6, .same 7, .same 8, .same 9, .same 10, .same 13] ⟨⟨by rw [List.length_append, List.length_singleton]; omega, by rw [pad_snoc (by omega)]; exact hxp⟩, trivial⟩ (by simp only [List.length_append, List.length_singleton]; omega) ?_
     repeat' first | exact trivial | exact rfl | refine And.intro ?_ ?_
    ·have h5 : ¬ (x.length : Int) < L.length := h5
     rw [pad_full (by omega)] at hxp
     unfold addL
     rw [← hxp]
     have hxn : L.length ≤ x.length := by omega
     have hrm := fun id (h : id ∈ reachP L ids) => reach_lt h
     have hrl := reach_len (l := L) (ids := ids)
     have p3 := reach_spec L hL ids hi
     generalize reachP L ids = rl at hrm hrl p3 ⊢
     clear hxp hxl
     (conv => whnf)
     refine cl [] [] (p3) ?_
     (conv => whnf)
     refine lp Nat (fun i => ⟨[(0, .c (.ptr 0 0)), (1, .c (.int .i64 (2 : Nat))), (65, .c (.rw 12)), (66, .c (.int .i64 rl.length)), (67, .c (.int .i64 i))], [.box [.ptr 1 0, .rw 3, .rw 4, .rw 11, .rw 6, .rw 7, .rw 8, .rw 9, .rw 10], .box [.rw 2], .row 6 Ob encOb L, .row 1 Bool encBo (o 0), .row 1 Bool encBo (o 1), .dead, .row 1 Bool encBo (o 3), .row 1 Int encI (b 0), .row 1 Int encI (b 1), .row 1 Int encI (b 2), .row 1 Int encI (b 3), .row 1 Bool encBo ((rl.take i).foldl (markL o b 2) x)] ++ [.row 1 Int encI rl]⟩) (fun i => i ≤ rl.length ∧ True) (fun i => rl.length - i) 0 [] [.same 0, .same 1, .same 2, .same 3, .same 4, .same 5, .same 6, .same 7, .same 8, .same 9, .same 10, .same 11, .same 12] ?_ ?_ (fun i hii => ?_)
     ·simp
     ·repeat' first | exact trivial | exact rfl | refine And.intro ?_ ?_
     (conv => whnf)
     refine dec (fun h6 => ?_) (fun h6 => ?_)
     ·have hlt : i < rl.length := by have h6 : (i : Int) < rl.length := h6; omega
      have hiy : rl[i]? = some rl[i] := List.getElem?_eq_getElem hlt
      have hst := mark_take (o := o) (b := b) (r := 2) (x := x) hlt
      have hml := mark_len (o := o) (b := b) (r := 2) (x := x) (l := rl.take i)
      have hid := hrm _ (List.getElem_mem hlt)
      generalize (rl.take i).foldl (markL o b 2) x = y at hst hml ⊢
      generalize rl[i] = id at hiy hst hid
      have p4 := hasD_spec L (upd o 2 y) b hb4 (2 : Nat) id
      (conv => whnf)
      refine ⟨i, ⟨rfl, hlt⟩, ?_⟩
      (conv => whnf)
      refine ⟨id, hiy, ?_⟩
      (conv => whnf)
      refine cl [] [] (p4) ?_
      (conv => whnf)
      refine boo (fun h7 => ?_) (fun h7 => ?_)
      ·have h7 : hasP ⟨upd o 2 y, b⟩ (2 : Nat) id = false := by simpa using h7
       rw [show markL o b 2 y id = y.set id.toNat true from if_neg (by rw [h7]; decide)] at hst
       (conv => whnf)
       refine ⟨2, ⟨rfl, by decide⟩, ?_⟩
       (conv => whnf)
       refine ⟨id.toNat, ⟨by omega, by omega⟩, ?_⟩
       (conv => whnf)
       refine ⟨_, true, List.getElem?_eq_getElem (show id.toNat < y.length by omega), ⟨Nat.le_refl 1, rfl⟩, ?_⟩
       repeat' ((conv => whnf); refine I6 ?_)
       refine ag (i + 1) [] [.same 0, .same 1, .same 2, .same 3, .same 4, .same 5, .same 6, .same 7, .same 8, .same 9, .same 10, .same 11, .same 12] ⟨hlt, trivial⟩ (by simp only []; omega) ?_
       rw [hst]
       repeat' first | exact trivial | exact rfl | refine And.intro ?_ ?_
      ·have h7 : hasP ⟨upd o 2 y, b⟩ (2 : Nat) id = true := by simpa using h7
       rw [show markL o b 2 y id = y from if_pos h7] at hst
       repeat' ((conv => whnf); refine I6 ?_)
       refine ag (i + 1) [] [.same 0, .same 1, .same 2, .same 3, .same 4, .same 5, .same 6, .same 7, .same 8, .same 9, .same 10, .same 11, .same 12] ⟨hlt, trivial⟩ (by simp only []; omega) ?_
       rw [hst]
       repeat' first | exact trivial | exact rfl | refine And.intro ?_ ?_
     ·obtain rfl : i = rl.length := by have h6 : ¬ (i : Int) < rl.length := h6; omega
      rw [List.take_length]
      (conv => whnf)
      exact rx [] [.same 0, .same 1, .same 2, .same 3, .same 4, .same 5, .same 6, .same 7, .same 8, .same 9, .same 10, .same 3, .same 4, .same 11, .same 6]
   ·refine lp (List Bool) (fun x => ⟨[(0, .c (.ptr 0 0)), (1, .c (.int .i64 (3 : Nat))), (2, .c (.bs 1 Int encI ids))], [.box [.ptr 1 0, .rw 3, .rw 4, .rw 5, .rw 11, .rw 7, .rw 8, .rw 9, .rw 10], .box [.rw 2], .row 6 Ob encOb L, .row 1 Bool encBo (o 0), .row 1 Bool encBo (o 1), .row 1 Bool encBo (o 2), .dead, .row 1 Int encI (b 0), .row 1 Int encI (b 1), .row 1 Int encI (b 2), .row 1 Int encI (b 3), .row 1 Bool encBo x]⟩) (fun x => (x.length ≤ max (o 3).length L.length ∧ padL x L.length = padL (o 3) L.length) ∧ True) (fun x => L.length - x.length) (o 3) [] [.same 0, .same 1, .same 2, .same 3, .same 4, .same 5, .same 6, .same 7, .same 8, .same 9, .same 10, .same 6] ?_ ?_ (fun x hx => ?_)
    ·exact ⟨⟨by omega, rfl⟩, trivial⟩
    ·repeat' first | exact trivial | exact rfl | refine And.intro ?_ ?_
    obtain ⟨⟨hxl, hxp⟩, -⟩ := hx
    (conv => whnf)
    refine ⟨false, .grow, (.l [0, 1, 2, 3, 4, 5, 6, 7, 8, 9, 10, 11, 12]), by kernel_rfl, .inl ?_⟩
    (conv => whnf)
    refine ⟨3, ⟨rfl, by decide⟩, ?_⟩
    (conv => whnf)
    refine cl [] [] (len_spec L) ?_
    (conv => whnf)
    refine dec (fun h5 => ?_) (fun h5 => ?_)
    ·have h5 : (x.length : Int) < L.length := h5
     (conv => whnf)
     refine ⟨false, .grow, (.l [0, 1, 2, 3, 4, 5, 6, 7, 10, 11, 8, 9, 12, 13]), by kernel_rfl, .inl ?_⟩
     (conv => whnf)
     refine ⟨3, ⟨rfl, by decide⟩, ?_⟩
     (conv => whnf)
     refine ⟨[false], rfl, ?_⟩
     (conv => whnf)
     refine ⟨_, _, rfl, rfl, (by simp only [List.length_append, List.length_cons, List.length_nil]; omega), ?_⟩
     (conv => whnf)
     refine ⟨3, ⟨rfl, by decide⟩, ?_⟩
     skip
     refine ag (x ++ [false]) [] [.same 0, .same 1, .same 2, .same 3, .same 4, .same 5, .same 6, .same 7, .same 8, .same 9, .same 10, .same 13] ⟨⟨by rw [List.length_append, List.length_singleton]; omega, by rw [pad_snoc (by omega)]; exact hxp⟩, trivial⟩ (by simp only [List.length_append, List.length_singleton]; omega) ?_
     repeat' first | exact trivial | exact rfl | refine And.intro ?_ ?_
    ·have h5 : ¬ (x.length : Int) < L.length := h5
     rw [pad_full (by omega)] at hxp
     unfold addL
     rw [← hxp]
     have hxn : L.length ≤ x.length := by omega
     have hrm := fun id (h : id ∈ reachP L ids) => reach_lt h
     have hrl := reach_len (l := L) (ids := ids)
     have p3 := reach_spec L hL ids hi
     generalize reachP L ids = rl at hrm hrl p3 ⊢
     clear hxp hxl
     (conv => whnf)
     refine cl [] [] (p3) ?_
     (conv => whnf)
     refine lp Nat (fun i => ⟨[(0, .c (.ptr 0 0)), (1, .c (.int .i64 (3 : Nat))), (65, .c (.rw 12)), (66, .c (.int .i64 rl.length)), (67, .c (.int .i64 i))], [.box [.ptr 1 0, .rw 3, .rw 4, .rw 5, .rw 11, .rw 7, .rw 8, .rw 9, .rw 10], .box [.rw 2], .row 6 Ob encOb L, .row 1 Bool encBo (o 0), .row 1 Bool encBo (o 1), .row 1 Bool encBo (o 2), .dead, .row 1 Int encI (b 0), .row 1 Int encI (b 1), .row 1 Int encI (b 2), .row 1 Int encI (b 3), .row 1 Bool encBo ((rl.take i).foldl (markL o b 3) x)] ++ [.row 1 Int encI rl]⟩) (fun i => i ≤ rl.length ∧ True) (fun i => rl.length - i) 0 [] [.same 0, .same 1, .same 2, .same 3, .same 4, .same 5, .same 6, .same 7, .same 8, .same 9, .same 10, .same 11, .same 12] ?_ ?_ (fun i hii => ?_)
     ·simp
     ·repeat' first | exact trivial | exact rfl | refine And.intro ?_ ?_
     (conv => whnf)
     refine dec (fun h6 => ?_) (fun h6 => ?_)
     ·have hlt : i < rl.length := by have h6 : (i : Int) < rl.length := h6; omega
      have hiy : rl[i]? = some rl[i] := List.getElem?_eq_getElem hlt
      have hst := mark_take (o := o) (b := b) (r := 3) (x := x) hlt
      have hml := mark_len (o := o) (b := b) (r := 3) (x := x) (l := rl.take i)
      have hid := hrm _ (List.getElem_mem hlt)
      generalize (rl.take i).foldl (markL o b 3) x = y at hst hml ⊢
      generalize rl[i] = id at hiy hst hid
      have p4 := hasD_spec L (upd o 3 y) b hb4 (3 : Nat) id
      (conv => whnf)
      refine ⟨i, ⟨rfl, hlt⟩, ?_⟩
      (conv => whnf)
      refine ⟨id, hiy, ?_⟩
      (conv => whnf)
      refine cl [] [] (p4) ?_
      (conv => whnf)
      refine boo (fun h7 => ?_) (fun h7 => ?_)
      ·have h7 : hasP ⟨upd o 3 y, b⟩ (3 : Nat) id = false := by simpa using h7
       rw [show markL o b 3 y id = y.set id.toNat true from if_neg (by rw [h7]; decide)] at hst
       (conv => whnf)
       refine ⟨3, ⟨rfl, by decide⟩, ?_⟩
       (conv => whnf)
       refine ⟨id.toNat, ⟨by omega, by omega⟩, ?_⟩
       (conv => whnf)
       refine ⟨_, true, List.getElem?_eq_getElem (show id.toNat < y.length by omega), ⟨Nat.le_refl 1, rfl⟩, ?_⟩
       repeat' ((conv => whnf); refine I6 ?_)
       refine ag (i + 1) [] [.same 0, .same 1, .same 2, .same 3, .same 4, .same 5, .same 6, .same 7, .same 8, .same 9, .same 10, .same 11, .same 12] ⟨hlt, trivial⟩ (by simp only []; omega) ?_
       rw [hst]
       repeat' first | exact trivial | exact rfl | refine And.intro ?_ ?_
      ·have h7 : hasP ⟨upd o 3 y, b⟩ (3 : Nat) id = true := by simpa using h7
       rw [show markL o b 3 y id = y from if_pos h7] at hst
       repeat' ((conv => whnf); refine I6 ?_)
       refine ag (i + 1) [] [.same 0, .same 1, .same 2, .same 3, .same 4, .same 5, .same 6, .same 7, .same 8, .same 9, .same 10, .same 11, .same 12] ⟨hlt, trivial⟩ (by simp only []; omega) ?_
       rw [hst]
       repeat' first | exact trivial | exact rfl | refine And.intro ?_ ?_
     ·obtain rfl : i = rl.length := by have h6 : ¬ (i : Int) < rl.length := h6; omega
      rw [List.take_length]
      (conv => whnf)
      exact rx [] [.same 0, .same 1, .same 2, .same 3, .same 4, .same 5, .same 6, .same 7, .same 8, .same 9, .same 10, .same 3, .same 4, .same 5, .same 11]
end Go.Nest
end
/- part -/
section

namespace Go.Nest
open Go Go.AM Go.Proofs
open Go.Proofs.YtpechfcbnoggfaaGreatDoor (tab tabOk)
set_option maxRecDepth 4000
def linkE (es : List Ent) : List (Int × Int) := (es.filter fun e => decide (e.mode = 3)).map fun e => (e.repo, e.id)
def linksP (L : List Ob) (ids : List Int) : List (Int × Int) := ids.flatMap fun id => linkE (getP L id).entries
def listP (o : Nat → List Bool) (r : Int) (n : Nat) : List Int := ((List.range n).filter fun k : Nat => ownP o r k).map fun k : Nat => (k : Int)
theorem list_take {o : Nat → List Bool} {r : Int} {n : Nat} : listP o r (n + 1) = listP o r n ++ (if ownP o r n = true then [(n : Int)] else []) := by
 unfold listP
 rw [List.range_succ, List.filter_append, List.map_append, List.filter_cons]
 congr 1
 split
 ·rename_i h; rfl
 ·rename_i h; rfl
theorem list_len {o : Nat → List Bool} {r : Int} {n : Nat} : (listP o r n).length ≤ n := by
 unfold listP
 rw [List.length_map]
 exact Nat.le_trans (List.length_filter_le _ _) (by rw [List.length_range]; exact Nat.le_refl _)
theorem list_dspec (L : List Ob) (hL : PoolOk L) (o : Nat → List Bool) (b : Nat → List Int) (r : Int) : Does Tryz.prog 28 [.c (.bp [.bp [.bs 6 Ob encOb L], .bs 1 Bool encBo (o 0), .bs 1 Bool encBo (o 1), .bs 1 Bool encBo (o 2), .bs 1 Bool encBo (o 3), .bs 1 Int encI (b 0), .bs 1 Int encI (b 1), .bs 1 Int encI (b 2), .bs 1 Int encI (b 3)]), .c (.int .i64 r)] [] (Rt (.c (.rw 0)) [.row 1 Int encI (listP o r L.length)]) := by
 have hlen := hL.len
 refine X_spec (n := 25) (n0 := 0) tabOk Tryz.call28 Tryz.func28 ?_
 intro hb
 (conv => whnf)
 refine cl [] [] (len_spec L) ?_
 (conv => whnf)
 refine lp Nat (fun k => ⟨[(0, .c (.bp [.bp [.bs 6 Ob encOb L], .bs 1 Bool encBo (o 0), .bs 1 Bool encBo (o 1), .bs 1 Bool encBo (o 2), .bs 1 Bool encBo (o 3), .bs 1 Int encI (b 0), .bs 1 Int encI (b 1), .bs 1 Int encI (b 2), .bs 1 Int encI (b 3)])), (1, .c (.int .i64 r)), (5, .c (.rw 0)), (11, .c (.int .i64 L.length)), (12, .c (.int .i64 k))], [.row 1 Int encI (listP o r k)]⟩) (fun k => k ≤ L.length ∧ True) (fun k => L.length - k) 0 [] [.new] ?_ ?_ (fun k hk => ?_)
 ·simp
 ·repeat' first | exact trivial | exact rfl | refine And.intro ?_ ?_
 (conv => whnf)
 refine dec (fun h4 => ?_) (fun h4 => ?_)
 ·have hlt : k < L.length := by have h4 : (k : Int) < L.length := h4; omega
  have hst := list_take (o := o) (r := r) (n := k)
  have hol := list_len (o := o) (r := r) (n := k)
  generalize listP o r k = out at hst hol ⊢
  (conv => whnf)
  refine cl [] [] (ownD_spec L o b r k) ?_
  (conv => whnf)
  refine boo (fun h5 => ?_) (fun h5 => ?_)
  ·rw [if_pos h5] at hst
   (conv => whnf)
   refine ⟨[(k : Int)], rfl, ?_⟩
   (conv => whnf)
   refine ⟨_, _, rfl, rfl, (by simp only [List.length_append, List.length_cons, List.length_nil]; omega), ?_⟩
   repeat' ((conv => whnf); refine I6 ?_)
   refine ag (k + 1) [] [.same 2] ⟨hlt, trivial⟩ (by simp only []; omega) ?_
   rw [hst]
   repeat' first | exact trivial | exact rfl | refine And.intro ?_ ?_
  ·rw [if_neg (by rw [h5]; decide), List.append_nil] at hst
   repeat' ((conv => whnf); refine I6 ?_)
   refine ag (k + 1) [] [.same 0] ⟨hlt, trivial⟩ (by simp only []; omega) ?_
   rw [hst]
   repeat' first | exact trivial | exact rfl | refine And.intro ?_ ?_
 ·obtain rfl : k = L.length := by have h4 : ¬ (k : Int) < L.length := h4; omega
  (conv => whnf)
  exact rx [] [.same 0]
end Go.Nest
end
/- part -/
section

namespace Go.Nest
open Go Go.AM Go.Proofs
open Go.Proofs.YtpechfcbnoggfaaGreatDoor (tab tabOk)
set_option maxRecDepth 4000
def borC (b : Nat → List Int) (r q : Int) : Int := if isR r = false ∨ isR q = false then 1 else if hasI (lendP b q) r = true then 10 else if hasI (b r.toNat) q = true then 11 else 0
def borO (b : Nat → List Int) (r q : Int) : Nat → List Int := if borC b r q ≠ 0 then b else upd b r.toNat (b r.toNat ++ [q])
structure BorNd (b : Nat → List Int) : Prop where
 ok : BorOk b
 nd : ∀ i, i < 4 → (b i).Nodup
theorem BorNd.nil : BorNd fun _ => [] := ⟨fun i h => ⟨Nat.zero_le _, fun q hq => by cases hq⟩, fun i h => List.nodup_nil⟩
theorem BorNd.bor {b : Nat → List Int} (h : BorNd b) (r q : Int) : BorNd (borO b r q) := by
 unfold borO
 split
 ·exact h
 ·rename_i hc
  have hc : borC b r q = 0 := Decidable.not_not.1 hc
  unfold borC at hc
  split at hc
  ·cases hc
  rename_i h1
  split at hc
  ·cases hc
  split at hc
  ·cases hc
  rename_i h3
  have hr : isR r = true := by cases e : isR r with | true => rfl | false => exact absurd (.inl e) h1
  have hq : isR q = true := by cases e : isR q with | true => rfl | false => exact absurd (.inr e) h1
  obtain ⟨k, hk, rfl⟩ := isR_iff.1 hr
  obtain ⟨j, hj, rfl⟩ := isR_iff.1 hq
  rw [Int.toNat_natCast] at h3 ⊢
  have hno : (j : Int) ∉ b k := fun hm => h3 (hasI_iff.2 hm)
  have hnd : (b k ++ [(j : Int)]).Nodup := by
   rw [List.nodup_append]
   exact ⟨h.nd k hk, by simp, fun x hx y hy => by rw [List.mem_singleton] at hy; subst hy; exact fun e => hno (e ▸ hx)⟩
  have hall : ∀ x ∈ b k ++ [(j : Int)], 0 ≤ x ∧ x < (4 : Nat) := fun x hx => by
   rcases List.mem_append.1 hx with hx | hx
   ·exact (h.ok k hk).2 x hx
   ·rw [List.mem_singleton] at hx; subst hx; omega
  have hu : ∀ i, upd b k (b k ++ [(j : Int)]) i = if i = k then b k ++ [(j : Int)] else b i := fun i => by
   unfold upd
   by_cases e : i = k
   ·subst e; rw [Nat.beq_refl, if_pos rfl]; rfl
   ·rw [if_neg e]
    have : Nat.beq i k = false := by
     cases hbq : Nat.beq i k with
     | false => rfl
     | true => exact absurd (Nat.eq_of_beq_eq_true hbq) e
    rw [this]; rfl
  refine ⟨fun i hi => ?_, fun i hi => ?_⟩
  ·rw [hu]
   split
   ·exact ⟨nodup_len 4 hnd hall, hall⟩
   ·exact h.ok i hi
  ·rw [hu]
   split
   ·exact hnd
   ·exact h.nd i hi
end Go.Nest
end
/- part -/
section

namespace Go.Nest
open Go Go.AM
set_option maxRecDepth 10000
def whL (f : Int → Int → List UInt8 → List Fi → List Fi × Int) (pre : List UInt8) : List Fi → List Fi → List Fi × Int
 | [], out => (out, 0)
 | x :: l, out =>
  if x.mode = 3 then
   if (f x.repo x.id ((pre ++ x.path) ++ [47]) out).2 = 0 then whL f pre l (f x.repo x.id ((pre ++ x.path) ++ [47]) out).1 else f x.repo x.id ((pre ++ x.path) ++ [47]) out
  else if out.length = 60 then (out, 5) else whL f pre l (out ++ [⟨pre ++ x.path, x.mode, x.id, x.repo⟩])
noncomputable def goneP (L : List Ob) (has : Int → Int → Bool) (r id : Int) : Bool := !decide (kindOf L id = 3) || (!has r id || (reachP L [(getP L id).tree]).any fun k => !has r k)
noncomputable def whW (L : List Ob) (has : Int → Int → Bool) : Nat → Int → Int → List UInt8 → List Fi → List Fi × Int
 | 0, _, _, _, out => (out, 3)
 | n + 1, r, id, pre, out =>
  if goneP L has r id = true then (out, 14)
  else if (filesP L (getP L id).tree).2 = 0 then whL (whW L has n) pre (filesP L (getP L id).tree).1 out else (out, (filesP L (getP L id).tree).2)
noncomputable def wholeP (L : List Ob) (has : Int → Int → Bool) (r id : Int) : List Fi × Int :=
 if (whW L has 6 r id [] []).2 = 0 then
  if checkF none (inOrdP (whW L has 6 r id [] []).1) = 0 then (inOrdP (whW L has 6 r id [] []).1, 0) else ([], checkF none (inOrdP (whW L has 6 r id [] []).1))
 else ([], (whW L has 6 r id [] []).2)
structure FitF (k : Nat) (l : List Fi) : Prop where
 len : l.length ≤ 60
 path : ∀ f ∈ l, f.path.length ≤ k
theorem FitF.snoc {k : Nat} {l : List Fi} (h : FitF k l) (hl : ¬ l.length = 60) {f : Fi} (hf : f.path.length ≤ k) : FitF k (l ++ [f]) := by
 have := h.len
 refine ⟨by rw [List.length_append, List.length_singleton]; omega, fun g hg => ?_⟩
 rcases List.mem_append.1 hg with hg | hg
 ·exact h.path g hg
 ·rw [List.mem_singleton] at hg; subst hg; exact hf
theorem whL_fit {f : Int → Int → List UInt8 → List Fi → List Fi × Int} {pre : List UInt8} {k : Nat} (hf : ∀ r id p out, p.length ≤ pre.length + 4001 → FitF k out → FitF k (f r id p out).1) (hk : pre.length + 4001 ≤ k) : ∀ {l out : List Fi}, (∀ x ∈ l, x.path.length ≤ 4000) → FitF k out → FitF k (whL f pre l out).1
 | [], out, _, h => h
 | x :: l, out, hl, h => by
  have hx := hl x (by simp)
  have hl' : ∀ x ∈ l, x.path.length ≤ 4000 := fun y hy => hl y (List.mem_cons_of_mem _ hy)
  unfold whL
  have h1 := hf x.repo x.id ((pre ++ x.path) ++ [47]) out (by simp only [List.length_append, List.length_singleton]; omega) h
  split
  ·split
   ·exact whL_fit hf hk hl' h1
   ·exact h1
  ·split
   ·exact h
   ·rename_i h2
    exact whL_fit hf hk hl' (h.snoc h2 (by simp only [List.length_append]; omega))
theorem whW_fit {L : List Ob} (hL : PoolOk L) {has : Int → Int → Bool} {k : Nat} : ∀ {n : Nat} {r id : Int} {pre : List UInt8} {out : List Fi}, pre.length + 4001 * n ≤ k → FitF k out → FitF k (whW L has n r id pre out).1 := by
 intro n
 induction n with
 | zero => intro r id pre out hp h; exact h
 | succ n ih =>
  intro r id pre out hp h
  unfold whW
  split
  ·exact h
  ·split
   ·refine whL_fit (fun r id p out h1 h2 => ih ?_ h2) ?_ (files_sum hL _).2 h
    ·rw [Nat.mul_succ] at hp; omega
    ·rw [Nat.mul_succ] at hp; omega
   ·exact h
theorem inOrd_fit {k : Nat} {l : List Fi} (h : FitF k l) : FitF k (inOrdP l) :=
 ⟨by rw [inOrd_len]; exact h.len, fun f hf => h.path f ((inOrd_perm l).mem_iff.1 hf)⟩
end Go.Nest
end
/- part -/
section

namespace Go.Nest
open Go Go.AM Go.Proofs
open Go.Proofs.YtpechfcbnoggfaaGreatDoor (tab tabOk)
set_option maxRecDepth 4000
theorem whole1_spec (L : List Ob) (o : Nat → List Bool) (b : Nat → List Int) (hb4 : BorOk b) (q x : Int) : Does Tryz.prog 171 [.c (.int .i64 x), .c (.bp [.bp [.bp [.bs 6 Ob encOb L], .bs 1 Bool encBo (o 0), .bs 1 Bool encBo (o 1), .bs 1 Bool encBo (o 2), .bs 1 Bool encBo (o 3), .bs 1 Int encI (b 0), .bs 1 Int encI (b 1), .bs 1 Int encI (b 2), .bs 1 Int encI (b 3)]]), .c (.bp [.int .i64 q])] [] (Rt (.c (.bool (!hasP ⟨o, b⟩ q x))) []) := by
 refine X_spec (n := 10) (n0 := 0) tabOk Tryz.call171 Tryz.func171 ?_
 intro hb
 (conv => whnf)
 refine cl [] [] (hasD_spec L o b hb4 q x) ?_
 (conv => whnf)
 exact rtB rfl
set_option maxHeartbeats 8000000 in
theorem whole_dspec (L : List Ob) (hL : PoolOk L) (o : Nat → List Bool) (b : Nat → List Int) (hb4 : BorOk b) : ∀ (n : Nat) (deep r id : Int) (pre : List UInt8) (out : List Fi), deep + n = 6 → pre.length + 4001 * n ≤ 40000 → FitF 40000 out → Does Tryz.prog 99 [.c (.bp [.bp [.bs 6 Ob encOb L], .bs 1 Bool encBo (o 0), .bs 1 Bool encBo (o 1), .bs 1 Bool encBo (o 2), .bs 1 Bool encBo (o 3), .bs 1 Int encI (b 0), .bs 1 Int encI (b 1), .bs 1 Int encI (b 2), .bs 1 Int encI (b 3)]), .c (.int .i64 r), .c (.int .i64 id), .c (.str pre), .c (.int .i64 deep), .c (.ptr 0 0)] [.box [.rw 1], .row 4 Fi encFi out] (Rt (.c (.int .i64 (whW L (hasP ⟨o, b⟩) n r id pre out).2)) [.box [.rw 2], .dead, .row 4 Fi encFi (whW L (hasP ⟨o, b⟩) n r id pre out).1]) := by
 intro n
 induction n with
 | zero =>
  intro deep r id pre out hd hp hf
  obtain rfl : deep = 6 := by simpa using hd
  refine X_spec (n := 112) (n0 := 2) tabOk Tryz.call99 Tryz.func99 ?_
  intro hb
  unfold whW
  (conv => whnf)
  refine cl [] [] (get_spec L hL id) ?_
  (conv => whnf)
  (conv => whnf)
  exact rx [] [.same 0, .same 1, .same 1]
 | succ n ih =>
  intro deep r id pre out hd hp hf
  have hW : whW L (hasP ⟨o, b⟩) (n + 1) r id pre out = if goneP L (hasP ⟨o, b⟩) r id = true then (out, 14) else if (filesP L (getP L id).tree).2 = 0 then whL (whW L (hasP ⟨o, b⟩) n) pre (filesP L (getP L id).tree).1 out else (out, (filesP L (getP L id).tree).2) := rfl
  have hG : goneP L (hasP ⟨o, b⟩) r id = (!decide (kindOf L id = 3) || (!hasP ⟨o, b⟩ r id || (reachP L [(getP L id).tree]).any fun k => !hasP ⟨o, b⟩ r k)) := rfl
  rw [← getP_kind] at hG
  generalize goneP L (hasP ⟨o, b⟩) r id = G at hW hG
  have hff : ∀ r id p out, p.length ≤ pre.length + 4001 → FitF 40000 out → FitF 40000 (whW L (hasP ⟨o, b⟩) n r id p out).1 := fun r id p out h1 h2 => whW_fit hL (by omega) h2
  generalize whW L (hasP ⟨o, b⟩) (n + 1) r id pre out = W at hW ⊢
  generalize whW L (hasP ⟨o, b⟩) n = F at hW ih hff
  have p1 := get_spec L hL id
  have p2 := hasD_spec L o b hb4 r id
  generalize getP L id = ob at hW hG p1
  have p3 := reach_spec L hL [ob.tree] (by simp)
  have p4 := fun l => containsD 171 L o b r (fun x => !hasP ⟨o, b⟩ r x) (whole1_spec L o b hb4 r) l
  have p5 := flatFiles_spec L hL ob.tree
  obtain ⟨hfl, hfp⟩ := files_sum hL ob.tree
  generalize hasP ⟨o, b⟩ r id = hs at hG p2
  generalize reachP L [ob.tree] = rl at p3 hG
  have p4 := p4 rl
  generalize (rl.any fun k => !hasP ⟨o, b⟩ r k) = lo at p4 hG
  generalize filesP L ob.tree = fs at hW p5 hfl hfp
  obtain ⟨l, c⟩ := fs
  dsimp only at hW p5 hfl hfp
  have hd5 : deep ≤ 5 := by omega
  refine X_spec (n := 112) (n0 := 2) tabOk Tryz.call99 Tryz.func99 ?_
  intro hb
  (conv => whnf)
  refine cl [] [] (p1) ?_
  (conv => whnf)
  refine dec (fun h => absurd (show (5 : Int) < deep from h) (by omega)) (fun _ => ?_)
  (conv => whnf)
  refine decN (fun h1 => ?_) (fun h1 => ?_)
  ·have h1 : ¬ ob.kind = 3 := h1
   rw [decide_eq_false h1] at hG
   rw [hG] at hW
   obtain rfl : W = (out, 14) := hW
   (conv => whnf)
   exact rx [] [.same 0, .same 1, .same 1]
  have h1 : ob.kind = 3 := h1
  rw [decide_eq_true h1] at hG
  (conv => whnf)
  refine cl [] [] (p2) ?_
  (conv => whnf)
  refine booN (fun h2 => ?_) (fun h2 => ?_)
  ·have h2 : hs = false := h2
   rw [h2] at hG
   rw [hG] at hW
   obtain rfl : W = (out, 14) := hW
   (conv => whnf)
   exact rx [] [.same 0, .same 1, .same 1]
  have h2 : hs = true := h2
  rw [h2] at hG
  have hG : G = lo := hG
  subst hG
  (conv => whnf)
  refine ⟨false, .grow, (.l [0, 1, 2, 3, 4, 5, 8, 6, 7, 9, 10]), by kernel_rfl, .inl ?_⟩
  (conv => whnf)
  refine ⟨[ob.tree], rfl, ?_⟩
  (conv => whnf)
  refine cl [] [] (p3) ?_
  (conv => whnf)
  refine cl [] [] (p4) ?_
  (conv => whnf)
  refine boo (fun h3 => ?_) (fun h3 => ?_)
  ·have h3 : G = true := h3
   rw [h3] at hW
   obtain rfl : W = (out, 14) := hW
   (conv => whnf)
   exact rx [] [.same 0, .same 1, .same 1]
  have h3 : G = false := h3
  rw [h3] at hW
  (conv => whnf)
  refine ⟨false, .grow, (.l [0, 1, 2, 3, 4, 5, 6, 7, 8, 9, 10, 11]), by kernel_rfl, .inl ?_⟩
  (conv => whnf)
  refine cl [] [] (p5) ?_
  (conv => whnf)
  refine decN (fun h4 => ?_) (fun h4 => ?_)
  ·have h4 : ¬ c = 0 := h4
   obtain rfl : W = (out, c) := hW.trans (if_neg h4)
   (conv => whnf)
   exact rx [] [.same 0, .same 1, .same 1]
  obtain rfl : c = 0 := h4
  have hW : W = whL F pre l out := hW
  (conv => whnf)
  refine lp (Nat × List Fi) (fun p => ⟨[(3, .c (.str pre)), (4, .c (.int .i64 deep)), (5, .c (.ptr 0 0)), (6, .c (.ptr 3 0)), (16, .c (.int .i64 0)), (67, .c (.rw 4)), (68, .c (.int .i64 l.length)), (69, .c (.int .i64 p.1))], [.box [.rw 2], .dead, .row 4 Fi encFi p.2, .box [.bp [.bp [.bs 6 Ob encOb L], .bs 1 Bool encBo (o 0), .bs 1 Bool encBo (o 1), .bs 1 Bool encBo (o 2), .bs 1 Bool encBo (o 3), .bs 1 Int encI (b 0), .bs 1 Int encI (b 1), .bs 1 Int encI (b 2), .bs 1 Int encI (b 3)]], .row 4 Fi encFi l]⟩) (fun p => ((p.1 ≤ l.length ∧ FitF 40000 p.2) ∧ whL F pre (l.drop p.1) p.2 = W) ∧ True) (fun p => l.length - p.1) (0, out) [] [.same 0, .same 1, .same 1, .same 2, .same 7] ⟨⟨⟨Nat.zero_le _, hf⟩, by rw [List.drop_zero]; exact hW.symm⟩, trivial⟩ ?_ (fun ⟨i, q⟩ hq => ?_)
  ·repeat' first | exact trivial | exact rfl | refine And.intro ?_ ?_
  obtain ⟨⟨⟨hi, hq⟩, hw⟩, -⟩ := hq
  have hq : FitF 40000 q := hq
  have hw : whL F pre (l.drop i) q = W := hw
  have hql := hq.len
  (conv => whnf)
  refine dec (fun h5 => ?_) (fun h5 => ?_)
  ·have hlt : i < l.length := by have h5 : (i : Int) < l.length := h5; omega
   have hiy : l[i]? = some l[i] := List.getElem?_eq_getElem hlt
   have hxp := hfp _ (List.getElem_mem hlt)
   rw [List.drop_eq_getElem_cons hlt] at hw
   generalize l[i] = x at hiy hxp hw
   unfold whL at hw
   (conv => whnf)
   refine ⟨i, ⟨rfl, hlt⟩, ?_⟩
   (conv => whnf)
   refine ⟨x, hiy, ?_⟩
   (conv => whnf)
   refine ⟨(show pre.length + x.path.length ≤ 9223372036854775807 by omega), ?_⟩
   (conv => whnf)
   refine dec (fun h6 => ?_) (fun h6 => ?_)
   ·have h6 : x.mode = 3 := h6
    rw [if_pos h6] at hw
    have hpl : ((pre ++ x.path) ++ [47]).length ≤ pre.length + 4001 := by simp only [List.length_append, List.length_singleton]; omega
    have p6 := ih (deep + 1) x.repo x.id ((pre ++ x.path) ++ [47]) q (by omega) (by omega) hq
    have hf2 := hff x.repo x.id ((pre ++ x.path) ++ [47]) q hpl hq
    generalize F x.repo x.id ((pre ++ x.path) ++ [47]) q = R at p6 hf2 hw
    obtain ⟨o', c'⟩ := R
    dsimp only at p6 hf2 hw
    (conv => whnf)
    refine ⟨(show (pre ++ x.path).length + 1 ≤ 9223372036854775807 by rw [List.length_append]; omega), ?_⟩
    (conv => whnf)
    refine ⟨i64 (by omega) (by omega), ?_⟩
    (conv => whnf)
    refine cl [] [0, 2] (p6) ?_
    (conv => whnf)
    refine decN (fun h7 => ?_) (fun h7 => ?_)
    ·have h7 : ¬ c' = 0 := h7
     rw [if_neg h7] at hw
     subst hw
     (conv => whnf)
     exact rx [] [.same 0, .same 1, .same 6]
    ·obtain rfl : c' = 0 := h7
     repeat' ((conv => whnf); refine I6 ?_)
     refine ag (i + 1, o') [] [.same 0, .same 1, .same 6, .same 3, .same 4] ⟨⟨⟨hlt, hf2⟩, hw⟩, trivial⟩ (by simp only []; omega) ?_
     repeat' first | exact trivial | exact rfl | refine And.intro ?_ ?_
   ·have h6 : ¬ x.mode = 3 := h6
    rw [if_neg h6] at hw
    (conv => whnf)
    refine dec (fun h7 => ?_) (fun h7 => ?_)
    ·have h7 : (q.length : Int) = 60 := h7
     rw [if_pos (by omega)] at hw
     subst hw
     (conv => whnf)
     exact rx [] [.same 0, .same 1, .same 2]
    ·have h7 : ¬ (q.length : Int) = 60 := h7
     rw [if_neg (by omega)] at hw
     have hq2 := hq.snoc (by omega) (f := ⟨pre ++ x.path, x.mode, x.id, x.repo⟩) (by simp only [List.length_append]; omega)
     (conv => whnf)
     refine ⟨false, .grow, (.l [0, 1, 2, 3, 4, 5, 6, 7, 8]), by kernel_rfl, .inl ?_⟩
     (conv => whnf)
     refine ⟨[⟨pre ++ x.path, x.mode, x.id, x.repo⟩], rfl, ?_⟩
     (conv => whnf)
     refine ⟨_, _, rfl, rfl, (by simp only [List.length_append, List.length_cons, List.length_nil]; omega), ?_⟩
     repeat' ((conv => whnf); refine I6 ?_)
     refine ag (i + 1, q ++ [⟨pre ++ x.path, x.mode, x.id, x.repo⟩]) [] [.same 0, .same 1, .same 7, .same 3, .same 4] ⟨⟨⟨hlt, hq2⟩, hw⟩, trivial⟩ (by simp only []; omega) ?_
     repeat' first | exact trivial | exact rfl | refine And.intro ?_ ?_
  ·have h5 : ¬ (i : Int) < l.length := h5
   rw [List.drop_of_length_le (by omega)] at hw
   obtain rfl : (q, 0) = W := hw
   (conv => whnf)
   exact rx [] [.same 0, .same 1, .same 2]
end Go.Nest
end
/- part -/
section

namespace Go.Nest
open Go Go.AM Go.Proofs
open Go.Proofs.YtpechfcbnoggfaaGreatDoor (tab tabOk)
set_option maxRecDepth 4000
theorem fit_path {l : List Fi} (h : FitF 40000 l) : ∀ f ∈ l, f.path.length ≤ 4000000 := fun f hf => by have := h.path f hf; omega
set_option maxHeartbeats 1000000 in
theorem wholeD_spec (L : List Ob) (hL : PoolOk L) (o : Nat → List Bool) (b : Nat → List Int) (hb4 : BorOk b) (r id : Int) : Does Tryz.prog 38 [.c (.bp [.bp [.bs 6 Ob encOb L], .bs 1 Bool encBo (o 0), .bs 1 Bool encBo (o 1), .bs 1 Bool encBo (o 2), .bs 1 Bool encBo (o 3), .bs 1 Int encI (b 0), .bs 1 Int encI (b 1), .bs 1 Int encI (b 2), .bs 1 Int encI (b 3)]), .c (.int .i64 r), .c (.int .i64 id)] [] (Rt (.tup [(false, [.rw 0]), (false, [.int .i64 (wholeP L (hasP ⟨o, b⟩) r id).2])]) [.row 4 Fi encFi (wholeP L (hasP ⟨o, b⟩) r id).1]) := by
 refine X_spM (n := 26) (n0 := 0) tabOk Tryz.call38 Tryz.func38 ?_
 intro hb
 have hs := whole_dspec L hL o b hb4 6 0 r id [] [] (by decide) (by decide) ⟨by simp, fun f h => by cases h⟩
 have hf := whW_fit hL (has := hasP ⟨o, b⟩) (k := 40000) (n := 6) (r := r) (id := id) (pre := []) (out := []) (by decide) ⟨by simp, fun f h => by cases h⟩
 unfold wholeP
 generalize whW L (hasP ⟨o, b⟩) 6 r id [] [] = R at *
 obtain ⟨l, c⟩ := R
 dsimp only at hs hf ⊢
 have hg := inOrd_fit hf
 have p1 := sorted_spec l (by have := hf.len; omega) (fit_path hf)
 have p2 := check_spec' (inOrdP l) hg.len (fit_path hg)
 generalize checkF none (inOrdP l) = d at *
 generalize inOrdP l = m at *
 refine XM.seq ?_
 (conv => whnf)
 refine XM.seq ?_
 (conv => whnf)
 refine XM.le (t := ⟨[(0, .c (.bp [.bp [.bs 6 Ob encOb L], .bs 1 Bool encBo (o 0), .bs 1 Bool encBo (o 1), .bs 1 Bool encBo (o 2), .bs 1 Bool encBo (o 3), .bs 1 Int encI (b 0), .bs 1 Int encI (b 1), .bs 1 Int encI (b 2), .bs 1 Int encI (b 3)])), (1, .c (.int .i64 r)), (2, .c (.int .i64 id)), (8, .c (.ptr 0 0))], [.box [.rw 1], .row 4 Fi encFi []]⟩) [] [.same 0, .new] (by repeat' first | exact trivial | exact rfl | refine And.intro ?_ ?_) ?_
 refine XM.of ?_
 (conv => whnf)
 refine cl [] [0, 1] (hs) ?_
 (conv => whnf)
 refine decN (fun h => ?_) (fun h => ?_)
 ·have h : ¬ c = 0 := h
  rw [if_neg h]
  (conv => whnf)
  exact rx [] [.new]
 ·obtain rfl : c = 0 := h
  rw [if_pos rfl]
  (conv => whnf)
  refine cl [] [] (p1) ?_
  (conv => whnf)
  refine cl [] [] (p2) ?_
  (conv => whnf)
  refine decN (fun h => ?_) (fun h => ?_)
  ·have h : ¬ d = 0 := h
   rw [if_neg h]
   (conv => whnf)
   exact rx [] [.new]
  ·obtain rfl : d = 0 := h
   rw [if_pos rfl]
   (conv => whnf)
   exact rx [] [.same 3]
end Go.Nest
end
