/- part -/
import Derived.Test.YtpmjnbidmcnhnaaGreatDoorD4
import Derived.Test.YtpmjnbidmcnhnaaGreatDoorD18
import Derived.Test.YtpmjnbidmcnhnaaGreatDoorF7
import Derived.Test.YtpmjnbidmcnhnaaGreatDoorD17
import Derived.Test.YtpmjnbidmcnhnaaGreatDoorG12
import Derived.Test.YtpmjnbidmcnhnaaGreatDoorW7
import Derived.Test.YtpmjnbidmcnhnaaGreatDoorU0
section

namespace Go.Nest
open Go Go.AM Go.Proofs
open Go.Proofs.YtpmjnbidmcnhnaaGreatDoor (tab tabOk)
set_option maxRecDepth 4000
def borC (b : Nat → List Int) (r q : Int) : Int := if isR r = false ∨ isR q = false then 1 else if hasI (lendP b q) r = true then 10 else if hasI (b r.toNat) q = true then 11 else 0
def borO (b : Nat → List Int) (r q : Int) : Nat → List Int := if borC b r q ≠ 0 then b else upd b r.toNat (b r.toNat ++ [q])
structure BorNd (b : Nat → List Int) : Prop where
 ok : BorOk b
 nd : ∀ i, i < 4 → (b i).Nodup
theorem BorNd.nil : BorNd fun _ => [] := ⟨fun i h => ⟨Nat.zero_le _, fun q hq => by cases hq⟩, fun i h => List.nodup_nil⟩
theorem BorNd.bor {b : Nat → List Int} (h : BorNd b) (r q : Int) : BorNd (borO b r q) := by
 unfold borO
 split
 ·exact h
 ·rename_i hc
  have hc : borC b r q = 0 := Decidable.not_not.1 hc
  unfold borC at hc
  split at hc
  ·cases hc
  rename_i h1
  split at hc
  ·cases hc
  split at hc
  ·cases hc
  rename_i h3
  have hr : isR r = true := by cases e : isR r with | true => rfl | false => exact absurd (.inl e) h1
  have hq : isR q = true := by cases e : isR q with | true => rfl | false => exact absurd (.inr e) h1
  obtain ⟨k, hk, rfl⟩ := isR_iff.1 hr
  obtain ⟨j, hj, rfl⟩ := isR_iff.1 hq
  rw [Int.toNat_natCast] at h3 ⊢
  have hno : (j : Int) ∉ b k := fun hm => h3 (hasI_iff.2 hm)
  have hnd : (b k ++ [(j : Int)]).Nodup := by
   rw [List.nodup_append]
   exact ⟨h.nd k hk, by simp, fun x hx y hy => by rw [List.mem_singleton] at hy; subst hy; exact fun e => hno (e ▸ hx)⟩
  have hall : ∀ x ∈ b k ++ [(j : Int)], 0 ≤ x ∧ x < (4 : Nat) := fun x hx => by
   rcases List.mem_append.1 hx with hx | hx
   ·exact (h.ok k hk).2 x hx
   ·rw [List.mem_singleton] at hx; subst hx; omega
  have hu : ∀ i, upd b k (b k ++ [(j : Int)]) i = if i = k then b k ++ [(j : Int)] else b i := fun i => by
   unfold upd
   by_cases e : i = k
   ·subst e; rw [Nat.beq_refl, if_pos rfl]; rfl
   ·rw [if_neg e]
    have : Nat.beq i k = false := by
     cases hbq : Nat.beq i k with
     | false => rfl
     | true => exact absurd (Nat.eq_of_beq_eq_true hbq) e
    rw [this]; rfl
  refine ⟨fun i hi => ?_, fun i hi => ?_⟩
  ·rw [hu]
   split
   ·exact ⟨nodup_len 4 hnd hall, hall⟩
   ·exact h.ok i hi
  ·rw [hu]
   split
   ·exact hnd
   ·exact h.nd i hi
set_option maxHeartbeats 4000000 in
theorem borD_spec (L : List Ob) (o : Nat → List Bool) (b : Nat → List Int) (hb4 : BorOk b) (r q : Int) : Does Tryz.prog 49 [.c (.ptr 0 0), .c (.int .i64 r), .c (.int .i64 q)] [.box [.ptr 1 0, .rw 3, .rw 4, .rw 5, .rw 6, .rw 7, .rw 8, .rw 9, .rw 10], .box [.rw 2], .row 6 Ob encOb L, .row 1 Bool encBo (o 0), .row 1 Bool encBo (o 1), .row 1 Bool encBo (o 2), .row 1 Bool encBo (o 3), .row 1 Int encI (b 0), .row 1 Int encI (b 1), .row 1 Int encI (b 2), .row 1 Int encI (b 3)] (Rt (.c (.int .i64 (borC b r q))) [.box [.ptr 1 0, .rw 3, .rw 4, .rw 5, .rw 6, .rw 11, .rw 12, .rw 13, .rw 14], .box [.rw 2], .row 6 Ob encOb L, .row 1 Bool encBo (o 0), .row 1 Bool encBo (o 1), .row 1 Bool encBo (o 2), .row 1 Bool encBo (o 3), .dead, .dead, .dead, .dead, .row 1 Int encI ((borO b r q) 0), .row 1 Int encI ((borO b r q) 1), .row 1 Int encI ((borO b r q) 2), .row 1 Int encI ((borO b r q) 3)]) := by
 have p1 := repo_spec r
 have p2 := repo_spec q
 refine X_spec (n := 45) (n0 := 11) tabOk Tryz.call49 Tryz.func49 ?_
 intro hb
 cases hr : isR r with
 | false =>
  rw [hr] at p1
  have e : borC b r q = 1 := by unfold borC; rw [hr]; rfl
  rw [show borO b r q = b by unfold borO; rw [e]; rfl, e]
  (conv => whnf)
  refine cl [] [] (p1) ?_
  (conv => whnf)
  exact rx [] [.same 0, .same 1, .same 2, .same 3, .same 4, .same 5, .same 6, .same 7, .same 8, .same 9, .same 10, .same 7, .same 8, .same 9, .same 10]
 | true =>
  rw [hr] at p1
  cases hq : isR q with
  | false =>
   rw [hq] at p2
   have e : borC b r q = 1 := by unfold borC; rw [hr, hq]; rfl
   rw [show borO b r q = b by unfold borO; rw [e]; rfl, e]
   (conv => whnf)
   refine cl [] [] (p1) ?_
   (conv => whnf)
   refine cl [] [] (p2) ?_
   (conv => whnf)
   exact rx [] [.same 0, .same 1, .same 2, .same 3, .same 4, .same 5, .same 6, .same 7, .same 8, .same 9, .same 10, .same 7, .same 8, .same 9, .same 10]
  | true =>
   rw [hq] at p2
   have e1 : borC b r q = if hasI (lendP b q) r = true then 10 else if hasI (b r.toNat) q = true then 11 else 0 := by unfold borC; rw [hr, hq]; rfl
   (conv => whnf)
   refine cl [] [] (p1) ?_
   (conv => whnf)
   refine cl [] [] (p2) ?_
   (conv => whnf)
   refine cl [] [] (lenders_spec L o b hb4 q hq) ?_
   (conv => whnf)
   refine cl [] [] (contains_spec (lendP b q) r) ?_
   (conv => whnf)
   refine boo (fun h1 => ?_) (fun h1 => ?_)
   ·have e : borC b r q = 10 := by rw [e1]; exact if_pos h1
    rw [show borO b r q = b by unfold borO; rw [e]; rfl, e]
    (conv => whnf)
    exact rx [] [.same 0, .same 1, .same 2, .same 3, .same 4, .same 5, .same 6, .same 7, .same 8, .same 9, .same 10, .same 7, .same 8, .same 9, .same 10]
   ·have h1 : hasI (lendP b q) r = false := h1
    have e2 : borC b r q = if hasI (b r.toNat) q = true then 11 else 0 := by rw [e1]; exact if_neg (by rw [h1]; decide)
    obtain ⟨k, hk, rfl⟩ := isR_iff.1 hr
    rcases four hk with rfl | rfl | rfl | rfl
    ·(conv => whnf)
     refine ⟨0, ⟨rfl, by decide⟩, ?_⟩
     (conv => whnf)
     refine cl [] [] (contains_spec (b 0) q) ?_
     (conv => whnf)
     refine boo (fun h2 => ?_) (fun h2 => ?_)
     ·have e : borC b (0 : Nat) q = 11 := by rw [e2]; exact if_pos h2
      rw [show borO b (0 : Nat) q = b by unfold borO; rw [e]; rfl, e]
      (conv => whnf)
      exact rx [] [.same 0, .same 1, .same 2, .same 3, .same 4, .same 5, .same 6, .same 7, .same 8, .same 9, .same 10, .same 7, .same 8, .same 9, .same 10]
     ·have h2 : hasI (b 0) q = false := h2
      have hl4 := (hb4 0 (by decide)).1
      have e : borC b (0 : Nat) q = 0 := by rw [e2]; exact if_neg (by show ¬ hasI (b 0) q = true; rw [h2]; decide)
      rw [show borO b (0 : Nat) q = upd b 0 (b 0 ++ [q]) by unfold borO; rw [e]; rfl, e]
      (conv => whnf)
      refine ⟨false, .grow, (.l [0, 1, 2, 3, 4, 5, 6, 7, 8, 11, 12, 9, 10, 13, 14]), by kernel_rfl, .inl ?_⟩
      (conv => whnf)
      refine ⟨0, ⟨rfl, by decide⟩, ?_⟩
      (conv => whnf)
      refine ⟨[q], rfl, ?_⟩
      (conv => whnf)
      refine ⟨_, _, rfl, rfl, (by simp only [List.length_append, List.length_cons, List.length_nil]; omega), ?_⟩
      (conv => whnf)
      refine ⟨0, ⟨rfl, by decide⟩, ?_⟩
      (conv => whnf)
      exact rx [] [.same 0, .same 1, .same 2, .same 3, .same 4, .same 5, .same 6, .same 7, .same 8, .same 9, .same 10, .same 13, .same 8, .same 9, .same 10]
    ·(conv => whnf)
     refine ⟨1, ⟨rfl, by decide⟩, ?_⟩
     (conv => whnf)
     refine cl [] [] (contains_spec (b 1) q) ?_
     (conv => whnf)
     refine boo (fun h2 => ?_) (fun h2 => ?_)
     ·have e : borC b (1 : Nat) q = 11 := by rw [e2]; exact if_pos h2
      rw [show borO b (1 : Nat) q = b by unfold borO; rw [e]; rfl, e]
      (conv => whnf)
      exact rx [] [.same 0, .same 1, .same 2, .same 3, .same 4, .same 5, .same 6, .same 7, .same 8, .same 9, .same 10, .same 7, .same 8, .same 9, .same 10]
     ·have h2 : hasI (b 1) q = false := h2
      have hl4 := (hb4 1 (by decide)).1
      have e : borC b (1 : Nat) q = 0 := by rw [e2]; exact if_neg (by show ¬ hasI (b 1) q = true; rw [h2]; decide)
      rw [show borO b (1 : Nat) q = upd b 1 (b 1 ++ [q]) by unfold borO; rw [e]; rfl, e]
      (conv => whnf)
      refine ⟨false, .grow, (.l [0, 1, 2, 3, 4, 5, 6, 7, 8, 11, 12, 9, 10, 13, 14]), by kernel_rfl, .inl ?_⟩
      (conv => whnf)
      refine ⟨1, ⟨rfl, by decide⟩, ?_⟩
      (conv => whnf)
      refine ⟨[q], rfl, ?_⟩
      (conv => whnf)
      refine ⟨_, _, rfl, rfl, (by simp only [List.length_append, List.length_cons, List.length_nil]; omega), ?_⟩
      (conv => whnf)
      refine ⟨1, ⟨rfl, by decide⟩, ?_⟩
      (conv => whnf)
      exact rx [] [.same 0, .same 1, .same 2, .same 3, .same 4, .same 5, .same 6, .same 7, .same 8, .same 9, .same 10, .same 7, .same 13, .same 9, .same 10]
    ·(conv => whnf)
     refine ⟨2, ⟨rfl, by decide⟩, ?_⟩
     (conv => whnf)
     refine cl [] [] (contains_spec (b 2) q) ?_
     (conv => whnf)
     refine boo (fun h2 => ?_) (fun h2 => ?_)
     ·have e : borC b (2 : Nat) q = 11 := by rw [e2]; exact if_pos h2
      rw [show borO b (2 : Nat) q = b by unfold borO; rw [e]; rfl, e]
      (conv => whnf)
      exact rx [] [.same 0, .same 1, .same 2, .same 3, .same 4, .same 5, .same 6, .same 7, .same 8, .same 9, .same 10, .same 7, .same 8, .same 9, .same 10]
     ·have h2 : hasI (b 2) q = false := h2
      have hl4 := (hb4 2 (by decide)).1
      have e : borC b (2 : Nat) q = 0 := by rw [e2]; exact if_neg (by show ¬ hasI (b 2) q = true; rw [h2]; decide)
      rw [show borO b (2 : Nat) q = upd b 2 (b 2 ++ [q]) by unfold borO; rw [e]; rfl, e]
      (conv => whnf)
      refine ⟨false, .grow, (.l [0, 1, 2, 3, 4, 5, 6, 7, 8, 11, 12, 9, 10, 13, 14]), by kernel_rfl, .inl ?_⟩
      (conv => whnf)
      refine ⟨2, ⟨rfl, by decide⟩, ?_⟩
      (conv => whnf)
      refine ⟨[q], rfl, ?_⟩
      (conv => whnf)
      refine ⟨_, _, rfl, rfl, (by simp only [List.length_append, List.length_cons, List.length_nil]; omega), ?_⟩
      (conv => whnf)
      refine ⟨2, ⟨rfl, by decide⟩, ?_⟩
      (conv => whnf)
      exact rx [] [.same 0, .same 1, .same 2, .same 3, .same 4, .same 5, .same 6, .same 7, .same 8, .same 9, .same 10, .same 7, .same 8, .same 13, .same 10]
    ·(conv => whnf)
     refine ⟨3, ⟨rfl, by decide⟩, ?_⟩
     (conv => whnf)
     refine cl [] [] (contains_spec (b 3) q) ?_
     (conv => whnf)
     refine boo (fun h2 => ?_) (fun h2 => ?_)
     ·have e : borC b (3 : Nat) q = 11 := by rw [e2]; exact if_pos h2
      rw [show borO b (3 : Nat) q = b by unfold borO; rw [e]; rfl, e]
      (conv => whnf)
      exact rx [] [.same 0, .same 1, .same 2, .same 3, .same 4, .same 5, .same 6, .same 7, .same 8, .same 9, .same 10, .same 7, .same 8, .same 9, .same 10]
     ·have h2 : hasI (b 3) q = false := h2
      have hl4 := (hb4 3 (by decide)).1
      have e : borC b (3 : Nat) q = 0 := by rw [e2]; exact if_neg (by show ¬ hasI (b 3) q = true; rw [h2]; decide)
      rw [show borO b (3 : Nat) q = upd b 3 (b 3 ++ [q]) by unfold borO; rw [e]; rfl, e]
      (conv => whnf)
      refine ⟨false, .grow, (.l [0, 1, 2, 3, 4, 5, 6, 7, 8, 11, 12, 9, 10, 13, 14]), by kernel_rfl, .inl ?_⟩
      (conv => whnf)
      refine ⟨3, ⟨rfl, by decide⟩, ?_⟩
      (conv => whnf)
      refine ⟨[q], rfl, ?_⟩
      (conv => whnf)
      refine ⟨_, _, rfl, rfl, (by simp only [List.length_append, List.length_cons, List.length_nil]; omega), ?_⟩
      (conv => whnf)
      refine ⟨3, ⟨rfl, by decide⟩, ?_⟩
      (conv => whnf)
      exact rx [] [.same 0, .same 1, .same 2, .same 3, .same 4, .same 5, .same 6, .same 7, .same 8, .same 9, .same 10, .same 7, .same 8, .same 9, .same 13]
end Go.Nest
end
/- part -/
section

namespace Go.Nest
open Go Go.AM Go.Proofs
open Go.Proofs.YtpmjnbidmcnhnaaGreatDoor (tab tabOk)
set_option maxRecDepth 4000
noncomputable def lostP (L : List Ob) (d : Dp) (q id : Int) : Bool := ((reachP L [id]).any fun k => !hasP d q k) || decide ((reachP L [id]).length = 0)
noncomputable def fetC (L : List Ob) (d : Dp) (r q id : Int) : Int := if isR r = false ∨ isR q = false then 1 else if lostP L d q id = true then 14 else addC L r [id]
noncomputable def fetO (L : List Ob) (o : Nat → List Bool) (b : Nat → List Int) (r q id : Int) : Nat → List Bool := if isR r = false ∨ isR q = false then o else if lostP L ⟨o, b⟩ q id = true then o else addO L o b r [id]
theorem fet1_spec (L : List Ob) (o : Nat → List Bool) (b : Nat → List Int) (hb4 : BorOk b) (q x : Int) : Does Tryz.prog 88 [.c (.int .i64 x), .c (.bp [.bp [.bp [.bs 6 Ob encOb L], .bs 1 Bool encBo (o 0), .bs 1 Bool encBo (o 1), .bs 1 Bool encBo (o 2), .bs 1 Bool encBo (o 3), .bs 1 Int encI (b 0), .bs 1 Int encI (b 1), .bs 1 Int encI (b 2), .bs 1 Int encI (b 3)]]), .c (.bp [.int .i64 q])] [] (Rt (.c (.bool (!hasP ⟨o, b⟩ q x))) []) := by
 refine X_spec (n := 10) (n0 := 0) tabOk Tryz.call88 Tryz.func88 ?_
 intro hb
 (conv => whnf)
 refine cl [] [] (hasD_spec L o b hb4 q x) ?_
 (conv => whnf)
 exact rtB rfl
set_option maxHeartbeats 4000000 in
theorem fetD_spec (L : List Ob) (hL : PoolOk L) (o : Nat → List Bool) (b : Nat → List Int) (hb4 : BorOk b) (ho : ∀ k, k < 4 → (o k).length ≤ 1000000) (r q id : Int) : Does Tryz.prog 48 [.c (.ptr 0 0), .c (.int .i64 r), .c (.int .i64 q), .c (.int .i64 id)] [.box [.ptr 1 0, .rw 3, .rw 4, .rw 5, .rw 6, .rw 7, .rw 8, .rw 9, .rw 10], .box [.rw 2], .row 6 Ob encOb L, .row 1 Bool encBo (o 0), .row 1 Bool encBo (o 1), .row 1 Bool encBo (o 2), .row 1 Bool encBo (o 3), .row 1 Int encI (b 0), .row 1 Int encI (b 1), .row 1 Int encI (b 2), .row 1 Int encI (b 3)] (Rt (.c (.int .i64 (fetC L ⟨o, b⟩ r q id))) [.box [.ptr 1 0, .rw 11, .rw 12, .rw 13, .rw 14, .rw 7, .rw 8, .rw 9, .rw 10], .box [.rw 2], .row 6 Ob encOb L, .dead, .dead, .dead, .dead, .row 1 Int encI (b 0), .row 1 Int encI (b 1), .row 1 Int encI (b 2), .row 1 Int encI (b 3), .row 1 Bool encBo ((fetO L o b r q id) 0), .row 1 Bool encBo ((fetO L o b r q id) 1), .row 1 Bool encBo ((fetO L o b r q id) 2), .row 1 Bool encBo ((fetO L o b r q id) 3)]) := by
 have p1 := repo_spec r
 have p2 := repo_spec q
 refine X_spec (n := 44) (n0 := 11) tabOk Tryz.call48 Tryz.func48 ?_
 intro hb
 cases hr : isR r with
 | false =>
  rw [hr] at p1
  rw [show fetC L ⟨o, b⟩ r q id = 1 by unfold fetC; rw [hr]; rfl, show fetO L o b r q id = o by unfold fetO; rw [hr]; rfl]
  (conv => whnf)
  refine cl [] [] (p1) ?_
  (conv => whnf)
  exact rx [] [.same 0, .same 1, .same 2, .same 3, .same 4, .same 5, .same 6, .same 7, .same 8, .same 9, .same 10, .same 3, .same 4, .same 5, .same 6]
 | true =>
  rw [hr] at p1
  cases hq : isR q with
  | false =>
   rw [hq] at p2
   rw [show fetC L ⟨o, b⟩ r q id = 1 by unfold fetC; rw [hr, hq]; rfl, show fetO L o b r q id = o by unfold fetO; rw [hr, hq]; rfl]
   (conv => whnf)
   refine cl [] [] (p1) ?_
   (conv => whnf)
   refine cl [] [] (p2) ?_
   (conv => whnf)
   exact rx [] [.same 0, .same 1, .same 2, .same 3, .same 4, .same 5, .same 6, .same 7, .same 8, .same 9, .same 10, .same 3, .same 4, .same 5, .same 6]
  | true =>
   rw [hq] at p2
   have e1 : fetC L ⟨o, b⟩ r q id = if lostP L ⟨o, b⟩ q id = true then 14 else addC L r [id] := by unfold fetC; rw [hr, hq]; rfl
   have e2 : fetO L o b r q id = if lostP L ⟨o, b⟩ q id = true then o else addO L o b r [id] := by unfold fetO; rw [hr, hq]; rfl
   have p3 := reach_spec L hL [id] (by simp)
   have p5 := addD_dspec L hL o b hb4 ho r [id] (by simp)
   have p4 := fun l => containsD 88 L o b q (fun x => !hasP ⟨o, b⟩ q x) (fet1_spec L o b hb4 q) l
   have el : lostP L ⟨o, b⟩ q id = (((reachP L [id]).any fun k => !hasP ⟨o, b⟩ q k) || decide ((reachP L [id]).length = 0)) := rfl
   generalize reachP L [id] = rl at p3 el
   have p4 := p4 rl
   generalize (rl.any fun k => !hasP ⟨o, b⟩ q k) = a at p4 el
   generalize lostP L ⟨o, b⟩ q id = lo at el e1 e2
   generalize fetC L ⟨o, b⟩ r q id = C at *
   generalize fetO L o b r q id = O at *
   (conv => whnf)
   refine cl [] [] (p1) ?_
   (conv => whnf)
   refine cl [] [] (p2) ?_
   (conv => whnf)
   refine ⟨[id], rfl, ?_⟩
   (conv => whnf)
   refine cl [] [] (p3) ?_
   (conv => whnf)
   refine cl [] [] (p4) ?_
   (conv => whnf)
   refine boo (fun h1 => ?_) (fun h1 => ?_)
   ·have h1 : a = true := h1
    rw [h1] at el
    rw [el] at e1 e2
    obtain rfl : C = 14 := e1
    obtain rfl : O = o := e2
    (conv => whnf)
    exact rx [] [.same 0, .same 1, .same 2, .same 3, .same 4, .same 5, .same 6, .same 7, .same 8, .same 9, .same 10, .same 3, .same 4, .same 5, .same 6]
   ·have h1 : a = false := h1
    rw [h1, Bool.false_or] at el
    (conv => whnf)
    refine ⟨[id], rfl, ?_⟩
    (conv => whnf)
    refine cl [] [] (p3) ?_
    (conv => whnf)
    refine dec (fun h2 => ?_) (fun h2 => ?_)
    ·have h2 : (rl.length : Int) = 0 := h2
     rw [decide_eq_true (by omega)] at el
     rw [el] at e1 e2
     obtain rfl : C = 14 := e1
     obtain rfl : O = o := e2
     (conv => whnf)
     exact rx [] [.same 0, .same 1, .same 2, .same 3, .same 4, .same 5, .same 6, .same 7, .same 8, .same 9, .same 10, .same 3, .same 4, .same 5, .same 6]
    ·have h2 : ¬ (rl.length : Int) = 0 := h2
     rw [decide_eq_false (by omega)] at el
     rw [el] at e1 e2
     obtain rfl : C = addC L r [id] := e1
     obtain rfl : O = addO L o b r [id] := e2
     (conv => whnf)
     refine ⟨[id], rfl, ?_⟩
     (conv => whnf)
     refine cl [] [0, 1, 2, 3, 4, 5, 6, 7, 8, 9, 10] (p5) ?_
     (conv => whnf)
     exact rx [] [.same 0, .same 1, .same 2, .same 3, .same 4, .same 5, .same 6, .same 7, .same 8, .same 9, .same 10, .same 18, .same 19, .same 20, .same 21]
end Go.Nest
end
/- part -/
section

namespace Go.Nest
open Go Go.AM Go.Proofs
open Go.Proofs.YtpmjnbidmcnhnaaGreatDoor (tab tabOk)
set_option maxRecDepth 4000
theorem whole1_spec (L : List Ob) (o : Nat → List Bool) (b : Nat → List Int) (hb4 : BorOk b) (q x : Int) : Does Tryz.prog 105 [.c (.int .i64 x), .c (.bp [.bp [.bp [.bs 6 Ob encOb L], .bs 1 Bool encBo (o 0), .bs 1 Bool encBo (o 1), .bs 1 Bool encBo (o 2), .bs 1 Bool encBo (o 3), .bs 1 Int encI (b 0), .bs 1 Int encI (b 1), .bs 1 Int encI (b 2), .bs 1 Int encI (b 3)]]), .c (.bp [.int .i64 q])] [] (Rt (.c (.bool (!hasP ⟨o, b⟩ q x))) []) := by
 refine X_spec (n := 10) (n0 := 0) tabOk Tryz.call105 Tryz.func105 ?_
 intro hb
 (conv => whnf)
 refine cl [] [] (hasD_spec L o b hb4 q x) ?_
 (conv => whnf)
 exact rtB rfl
set_option maxHeartbeats 8000000 in
theorem whole_dspec (L : List Ob) (hL : PoolOk L) (o : Nat → List Bool) (b : Nat → List Int) (hb4 : BorOk b) : ∀ (n : Nat) (deep r id : Int) (pre : List UInt8) (out : List Fi), deep + n = 6 → pre.length + 4001 * n ≤ 40000 → FitF 40000 out → Does Tryz.prog 59 [.c (.bp [.bp [.bs 6 Ob encOb L], .bs 1 Bool encBo (o 0), .bs 1 Bool encBo (o 1), .bs 1 Bool encBo (o 2), .bs 1 Bool encBo (o 3), .bs 1 Int encI (b 0), .bs 1 Int encI (b 1), .bs 1 Int encI (b 2), .bs 1 Int encI (b 3)]), .c (.int .i64 r), .c (.int .i64 id), .c (.str pre), .c (.int .i64 deep), .c (.ptr 0 0)] [.box [.rw 1], .row 4 Fi encFi out] (Rt (.c (.int .i64 (whW L (hasP ⟨o, b⟩) n r id pre out).2)) [.box [.rw 2], .dead, .row 4 Fi encFi (whW L (hasP ⟨o, b⟩) n r id pre out).1]) := by
 intro n
 induction n with
 | zero =>
  intro deep r id pre out hd hp hf
  obtain rfl : deep = 6 := by simpa using hd
  refine X_spec (n := 112) (n0 := 2) tabOk Tryz.call59 Tryz.func59 ?_
  intro hb
  unfold whW
  (conv => whnf)
  refine cl [] [] (get_spec L hL id) ?_
  (conv => whnf)
  (conv => whnf)
  exact rx [] [.same 0, .same 1, .same 1]
 | succ n ih =>
  intro deep r id pre out hd hp hf
  have hW : whW L (hasP ⟨o, b⟩) (n + 1) r id pre out = if goneP L (hasP ⟨o, b⟩) r id = true then (out, 14) else if (filesP L (getP L id).tree).2 = 0 then whL (whW L (hasP ⟨o, b⟩) n) pre (filesP L (getP L id).tree).1 out else (out, (filesP L (getP L id).tree).2) := rfl
  have hG : goneP L (hasP ⟨o, b⟩) r id = (!decide (kindOf L id = 3) || (!hasP ⟨o, b⟩ r id || (reachP L [(getP L id).tree]).any fun k => !hasP ⟨o, b⟩ r k)) := rfl
  rw [← getP_kind] at hG
  generalize goneP L (hasP ⟨o, b⟩) r id = G at hW hG
  have hff : ∀ r id p out, p.length ≤ pre.length + 4001 → FitF 40000 out → FitF 40000 (whW L (hasP ⟨o, b⟩) n r id p out).1 := fun r id p out h1 h2 => whW_fit hL (by omega) h2
  generalize whW L (hasP ⟨o, b⟩) (n + 1) r id pre out = W at hW ⊢
  generalize whW L (hasP ⟨o, b⟩) n = F at hW ih hff
  have p1 := get_spec L hL id
  have p2 := hasD_spec L o b hb4 r id
  generalize getP L id = ob at hW hG p1
  have p3 := reach_spec L hL [ob.tree] (by simp)
  have p4 := fun l => containsD 105 L o b r (fun x => !hasP ⟨o, b⟩ r x) (whole1_spec L o b hb4 r) l
  have p5 := flatFiles_spec L hL ob.tree
  obtain ⟨hfl, hfp⟩ := files_sum hL ob.tree
  generalize hasP ⟨o, b⟩ r id = hs at hG p2
  generalize reachP L [ob.tree] = rl at p3 hG
  have p4 := p4 rl
  generalize (rl.any fun k => !hasP ⟨o, b⟩ r k) = lo at p4 hG
  generalize filesP L ob.tree = fs at hW p5 hfl hfp
  obtain ⟨l, c⟩ := fs
  dsimp only at hW p5 hfl hfp
  have hd5 : deep ≤ 5 := by omega
  refine X_spec (n := 112) (n0 := 2) tabOk Tryz.call59 Tryz.func59 ?_
  intro hb
  (conv => whnf)
  refine cl [] [] (p1) ?_
  (conv => whnf)
  refine dec (fun h => absurd (show (5 : Int) < deep from h) (by omega)) (fun _ => ?_)
  (conv => whnf)
  refine decN (fun h1 => ?_) (fun h1 => ?_)
  ·have h1 : ¬ ob.kind = 3 := h1
   rw [decide_eq_false h1] at hG
   rw [hG] at hW
   obtain rfl : W = (out, 14) := hW
   (conv => whnf)
   exact rx [] [.same 0, .same 1, .same 1]
  have h1 : ob.kind = 3 := h1
  rw [decide_eq_true h1] at hG
  (conv => whnf)
  refine cl [] [] (p2) ?_
  (conv => whnf)
  refine booN (fun h2 => ?_) (fun h2 => ?_)
  ·have h2 : hs = false := h2
   rw [h2] at hG
   rw [hG] at hW
   obtain rfl : W = (out, 14) := hW
   (conv => whnf)
   exact rx [] [.same 0, .same 1, .same 1]
  have h2 : hs = true := h2
  rw [h2] at hG
  have hG : G = lo := hG
  subst hG
  (conv => whnf)
  refine ⟨false, .grow, (.l [0, 1, 2, 3, 4, 5, 8, 6, 7, 9, 10]), by kernel_rfl, .inl ?_⟩
  (conv => whnf)
  refine ⟨[ob.tree], rfl, ?_⟩
  (conv => whnf)
  refine cl [] [] (p3) ?_
  (conv => whnf)
  refine cl [] [] (p4) ?_
  (conv => whnf)
  refine boo (fun h3 => ?_) (fun h3 => ?_)
  ·have h3 : G = true := h3
   rw [h3] at hW
   obtain rfl : W = (out, 14) := hW
   (conv => whnf)
   exact rx [] [.same 0, .same 1, .same 1]
  have h3 : G = false := h3
  rw [h3] at hW
  (conv => whnf)
  refine ⟨false, .grow, (.l [0, 1, 2, 3, 4, 5, 6, 7, 8, 9, 10, 11]), by kernel_rfl, .inl ?_⟩
  (conv => whnf)
  refine cl [] [] (p5) ?_
  (conv => whnf)
  refine decN (fun h4 => ?_) (fun h4 => ?_)
  ·have h4 : ¬ c = 0 := h4
   obtain rfl : W = (out, c) := hW.trans (if_neg h4)
   (conv => whnf)
   exact rx [] [.same 0, .same 1, .same 1]
  obtain rfl : c = 0 := h4
  have hW : W = whL F pre l out := hW
  (conv => whnf)
  refine lp (Nat × List Fi) (fun p => ⟨[(3, .c (.str pre)), (4, .c (.int .i64 deep)), (5, .c (.ptr 0 0)), (6, .c (.ptr 3 0)), (16, .c (.int .i64 0)), (67, .c (.rw 4)), (68, .c (.int .i64 l.length)), (69, .c (.int .i64 p.1))], [.box [.rw 2], .dead, .row 4 Fi encFi p.2, .box [.bp [.bp [.bs 6 Ob encOb L], .bs 1 Bool encBo (o 0), .bs 1 Bool encBo (o 1), .bs 1 Bool encBo (o 2), .bs 1 Bool encBo (o 3), .bs 1 Int encI (b 0), .bs 1 Int encI (b 1), .bs 1 Int encI (b 2), .bs 1 Int encI (b 3)]], .row 4 Fi encFi l]⟩) (fun p => ((p.1 ≤ l.length ∧ FitF 40000 p.2) ∧ whL F pre (l.drop p.1) p.2 = W) ∧ True) (fun p => l.length - p.1) (0, out) [] [.same 0, .same 1, .same 1, .same 2, .same 7] ⟨⟨⟨Nat.zero_le _, hf⟩, by rw [List.drop_zero]; exact hW.symm⟩, trivial⟩ ?_ (fun ⟨i, q⟩ hq => ?_)
  ·repeat' first | exact trivial | exact rfl | refine And.intro ?_ ?_
  obtain ⟨⟨⟨hi, hq⟩, hw⟩, -⟩ := hq
  have hq : FitF 40000 q := hq
  have hw : whL F pre (l.drop i) q = W := hw
  have hql := hq.len
  (conv => whnf)
  refine dec (fun h5 => ?_) (fun h5 => ?_)
  ·have hlt : i < l.length := by have h5 : (i : Int) < l.length := h5; omega
   have hiy : l[i]? = some l[i] := List.getElem?_eq_getElem hlt
   have hxp := hfp _ (List.getElem_mem hlt)
   rw [List.drop_eq_getElem_cons hlt] at hw
   generalize l[i] = x at hiy hxp hw
   unfold whL at hw
   (conv => whnf)
   refine ⟨i, ⟨rfl, hlt⟩, ?_⟩
   (conv => whnf)
   refine ⟨x, hiy, ?_⟩
   (conv => whnf)
   refine ⟨(show pre.length + x.path.length ≤ 9223372036854775807 by omega), ?_⟩
   (conv => whnf)
   refine dec (fun h6 => ?_) (fun h6 => ?_)
   ·have h6 : x.mode = 3 := h6
    rw [if_pos h6] at hw
    have hpl : ((pre ++ x.path) ++ [47]).length ≤ pre.length + 4001 := by simp only [List.length_append, List.length_singleton]; omega
    have p6 := ih (deep + 1) x.repo x.id ((pre ++ x.path) ++ [47]) q (by omega) (by omega) hq
    have hf2 := hff x.repo x.id ((pre ++ x.path) ++ [47]) q hpl hq
    generalize F x.repo x.id ((pre ++ x.path) ++ [47]) q = R at p6 hf2 hw
    obtain ⟨o', c'⟩ := R
    dsimp only at p6 hf2 hw
    (conv => whnf)
    refine ⟨(show (pre ++ x.path).length + 1 ≤ 9223372036854775807 by rw [List.length_append]; omega), ?_⟩
    (conv => whnf)
    refine ⟨i64 (by omega) (by omega), ?_⟩
    (conv => whnf)
    refine cl [] [0, 2] (p6) ?_
    (conv => whnf)
    refine decN (fun h7 => ?_) (fun h7 => ?_)
    ·have h7 : ¬ c' = 0 := h7
     rw [if_neg h7] at hw
     subst hw
     (conv => whnf)
     exact rx [] [.same 0, .same 1, .same 6]
    ·obtain rfl : c' = 0 := h7
     repeat' ((conv => whnf); refine I6 ?_)
     refine ag (i + 1, o') [] [.same 0, .same 1, .same 6, .same 3, .same 4] ⟨⟨⟨hlt, hf2⟩, hw⟩, trivial⟩ (by simp only []; omega) ?_
     repeat' first | exact trivial | exact rfl | refine And.intro ?_ ?_
   ·have h6 : ¬ x.mode = 3 := h6
    rw [if_neg h6] at hw
    (conv => whnf)
    refine dec (fun h7 => ?_) (fun h7 => ?_)
    ·have h7 : (q.length : Int) = 60 := h7
     rw [if_pos (by omega)] at hw
     subst hw
     (conv => whnf)
     exact rx [] [.same 0, .same 1, .same 2]
    ·have h7 : ¬ (q.length : Int) = 60 := h7
     rw [if_neg (by omega)] at hw
     have hq2 := hq.snoc (by omega) (f := ⟨pre ++ x.path, x.mode, x.id, x.repo⟩) (by simp only [List.length_append]; omega)
     (conv => whnf)
     refine ⟨false, .grow, (.l [0, 1, 2, 3, 4, 5, 6, 7, 8]), by kernel_rfl, .inl ?_⟩
     (conv => whnf)
     refine ⟨[⟨pre ++ x.path, x.mode, x.id, x.repo⟩], rfl, ?_⟩
     (conv => whnf)
     refine ⟨_, _, rfl, rfl, (by simp only [List.length_append, List.length_cons, List.length_nil]; omega), ?_⟩
     repeat' ((conv => whnf); refine I6 ?_)
     refine ag (i + 1, q ++ [⟨pre ++ x.path, x.mode, x.id, x.repo⟩]) [] [.same 0, .same 1, .same 7, .same 3, .same 4] ⟨⟨⟨hlt, hq2⟩, hw⟩, trivial⟩ (by simp only []; omega) ?_
     repeat' first | exact trivial | exact rfl | refine And.intro ?_ ?_
  ·have h5 : ¬ (i : Int) < l.length := h5
   rw [List.drop_of_length_le (by omega)] at hw
   obtain rfl : (q, 0) = W := hw
   (conv => whnf)
   exact rx [] [.same 0, .same 1, .same 2]
end Go.Nest
end
/- part -/
section

namespace Go.Nest
open Go Go.AM Go.Proofs
open Go.Proofs.YtpmjnbidmcnhnaaGreatDoor (tab tabOk)
set_option maxRecDepth 4000
def markR (o b : Nat → List Int) (r : Nat) (x : List Int) (id : Int) : List Int := if hasR (upd o r x) b r id = true then x else sortI (x ++ [id])
noncomputable def addRL (L : List Ob) (o b : Nat → List Int) (r : Nat) (ids : List Int) : List Int := (reachP L ids).foldl (markR o b r) (o r)
noncomputable def addRO (L : List Ob) (o b : Nat → List Int) (r : Int) (ids : List Int) : Nat → List Int := if addC L r ids ≠ 0 then o else upd o r.toNat (addRL L o b r.toNat ids)
theorem markR_len {o b : Nat → List Int} {r : Nat} : ∀ {l x : List Int}, (l.foldl (markR o b r) x).length ≤ x.length + l.length
 | [], x => Nat.le_refl _
 | id :: l, x => by
  rw [List.foldl_cons]
  have h1 := markR_len (o := o) (b := b) (r := r) (l := l) (x := markR o b r x id)
  have h2 : (markR o b r x id).length ≤ x.length + 1 := by
   unfold markR
   split
   ·omega
   ·have := sortI_len (l := x ++ [id]) (out := [])
    unfold sortI
    simp only [List.length_append, List.length_cons, List.length_nil] at this ⊢
    omega
  rw [List.length_cons]; omega
theorem markR_take {o b : Nat → List Int} {r : Nat} {l x : List Int} {i : Nat} (h : i < l.length) : (l.take (i + 1)).foldl (markR o b r) x = markR o b r ((l.take i).foldl (markR o b r) x) l[i] := by
 rw [List.take_succ_eq_append_getElem h, List.foldl_append]; rfl
set_option maxHeartbeats 8000000 in
theorem addR_dspec (L : List Ob) (hL : PoolOk L) (o b : Nat → List Int) (hb4 : BorOk b) (ho : ∀ k, k < 4 → (o k).length ≤ 10000) (r : Int) (ids : List Int) (hi : ids.length ≤ 1000000) : Does Tryz.prog 54 [.c (.ptr 0 0), .c (.int .i64 r), .c (.bs 1 Int encI ids)] [.box [.ptr 1 0, .rw 3, .rw 4, .rw 5, .rw 6, .rw 7, .rw 8, .rw 9, .rw 10], .box [.rw 2], .row 6 Ob encOb L, .row 1 Int encI (o 0), .row 1 Int encI (o 1), .row 1 Int encI (o 2), .row 1 Int encI (o 3), .row 1 Int encI (b 0), .row 1 Int encI (b 1), .row 1 Int encI (b 2), .row 1 Int encI (b 3)] (Rt (.c (.int .i64 (addC L r ids))) [.box [.ptr 1 0, .rw 11, .rw 12, .rw 13, .rw 14, .rw 7, .rw 8, .rw 9, .rw 10], .box [.rw 2], .row 6 Ob encOb L, .dead, .dead, .dead, .dead, .row 1 Int encI (b 0), .row 1 Int encI (b 1), .row 1 Int encI (b 2), .row 1 Int encI (b 3), .row 1 Int encI ((addRO L o b r ids) 0), .row 1 Int encI ((addRO L o b r ids) 1), .row 1 Int encI ((addRO L o b r ids) 2), .row 1 Int encI ((addRO L o b r ids) 3)]) := by
 have p1 := isRepo_spec r
 have hlen := hL.len
 refine X_spec (n := 67) (n0 := 11) tabOk Tryz.call54 Tryz.func54 ?_
 intro hb
 cases hr : isR r with
 | false =>
  rw [hr] at p1
  have e : addC L r ids = 1 := by unfold addC; rw [hr]; rfl
  rw [show addRO L o b r ids = o by unfold addRO; rw [e]; rfl, e]
  (conv => whnf)
  refine cl [] [] (p1) ?_
  (conv => whnf)
  exact rx [] [.same 0, .same 1, .same 2, .same 3, .same 4, .same 5, .same 6, .same 7, .same 8, .same 9, .same 10, .same 3, .same 4, .same 5, .same 6]
 | true =>
  rw [hr] at p1
  have e1 : addC L r ids = if (ids.any fun id => decide (kindOf L id = 0)) = true then 9 else 0 := by unfold addC; rw [hr]; rfl
  (conv => whnf)
  refine cl [] [] (p1) ?_
  (conv => whnf)
  refine lp Nat (fun i => ⟨[(0, .c (.ptr 0 0)), (1, .c (.int .i64 r)), (2, .c (.bs 1 Int encI ids)), (7, .c (.int .i64 i))], [.box [.ptr 1 0, .rw 3, .rw 4, .rw 5, .rw 6, .rw 7, .rw 8, .rw 9, .rw 10], .box [.rw 2], .row 6 Ob encOb L, .row 1 Int encI (o 0), .row 1 Int encI (o 1), .row 1 Int encI (o 2), .row 1 Int encI (o 3), .row 1 Int encI (b 0), .row 1 Int encI (b 1), .row 1 Int encI (b 2), .row 1 Int encI (b 3)]⟩) (fun i => i ≤ ids.length ∧ (ids.take i).any (fun id => decide (kindOf L id = 0)) = false) (fun i => ids.length - i) 0 [] [.same 0, .same 1, .same 2, .same 3, .same 4, .same 5, .same 6, .same 7, .same 8, .same 9, .same 10] ?_ ?_ (fun i hii => ?_)
  ·simp
  ·repeat' first | exact trivial | exact rfl | refine And.intro ?_ ?_
  obtain ⟨hii, hno⟩ := hii
  (conv => whnf)
  refine dec (fun h4 => ?_) (fun h4 => ?_)
  ·have hlt : i < ids.length := by have h4 : (i : Int) < ids.length := h4; omega
   have hiy : ids[i]? = some ids[i] := List.getElem?_eq_getElem hlt
   have ha := fun h => any_at (l := ids) (p := fun id => decide (kindOf L id = 0)) hlt h
   have ht := fun h => any_take (p := fun id => decide (kindOf L id = 0)) hlt hno h
   generalize ids[i] = x at hiy ha ht
   (conv => whnf)
   refine ⟨false, .grow, (.l [0, 1, 2, 3, 4, 5, 6, 7, 8, 9]), by kernel_rfl, .inl ?_⟩
   (conv => whnf)
   refine ⟨i, x, rfl, hiy, ?_⟩
   (conv => whnf)
   refine cl [] [] (kindR_spec L x) ?_
   (conv => whnf)
   refine dec (fun h5 => ?_) (fun h5 => ?_)
   ·have e : addC L r ids = 9 := by rw [e1, ha (decide_eq_true h5)]; rfl
    rw [show addRO L o b r ids = o by unfold addRO; rw [e]; rfl, e]
    (conv => whnf)
    exact rx [] [.same 0, .same 1, .same 2, .same 3, .same 4, .same 5, .same 6, .same 7, .same 8, .same 9, .same 10, .same 3, .same 4, .same 5, .same 6]
   ·repeat' ((conv => whnf); refine I6 ?_)
    refine ag (i + 1) [] [.same 0, .same 1, .same 2, .same 3, .same 4, .same 5, .same 6, .same 7, .same 8, .same 9, .same 10] ⟨hlt, ht (decide_eq_false h5)⟩ (by simp only []; omega) ?_
    repeat' first | exact trivial | exact rfl | refine And.intro ?_ ?_
  ·have h4 : ¬ (i : Int) < ids.length := h4
   rw [List.take_of_length_le (by omega)] at hno
   have e : addC L r ids = 0 := by rw [e1, hno]; rfl
   obtain ⟨k, hk, rfl⟩ := isR_iff.1 hr
   have eo : addRO L o b (k : Int) ids = upd o k (addRL L o b k ids) := by unfold addRO; rw [e]; rfl
   rw [e, eo]
   unfold addRL
   have hrl := reach_len (l := L) (ids := ids)
   have p3 := reachR_spec L hL ids hi
   generalize reachP L ids = rl at hrl p3 ⊢
   (conv => whnf)
   refine cl [] [] (p3) ?_
   (conv => whnf)
   rcases four hk with rfl | rfl | rfl | rfl
   ·refine lp Nat (fun i => ⟨[(0, .c (.ptr 0 0)), (1, .c (.int .i64 (0 : Nat))), (8, .c (.rw 12)), (9, .c (.int .i64 i))], [.box [.ptr 1 0, .rw 11, .rw 4, .rw 5, .rw 6, .rw 7, .rw 8, .rw 9, .rw 10], .box [.rw 2], .row 6 Ob encOb L, .dead, .row 1 Int encI (o 1), .row 1 Int encI (o 2), .row 1 Int encI (o 3), .row 1 Int encI (b 0), .row 1 Int encI (b 1), .row 1 Int encI (b 2), .row 1 Int encI (b 3), .row 1 Int encI ((rl.take i).foldl (markR o b 0) (o 0))] ++ [.row 1 Int encI rl]⟩) (fun i => i ≤ rl.length ∧ True) (fun i => rl.length - i) 0 [] [.same 0, .same 1, .same 2, .same 3, .same 4, .same 5, .same 6, .same 7, .same 8, .same 9, .same 10, .same 3, .same 11] ?_ ?_ (fun i hii => ?_)
    ·simp
    ·repeat' first | exact trivial | exact rfl | refine And.intro ?_ ?_
    (conv => whnf)
    refine dec (fun h6 => ?_) (fun h6 => ?_)
    ·have hlt : i < rl.length := by have h6 : (i : Int) < rl.length := h6; omega
     have hiy : rl[i]? = some rl[i] := List.getElem?_eq_getElem hlt
     have hst := markR_take (o := o) (b := b) (r := 0) (x := o 0) hlt
     have hml := markR_len (o := o) (b := b) (r := 0) (x := o 0) (l := rl.take i)
     rw [List.length_take] at hml
     have hoq := ho 0 (by decide)
     generalize (rl.take i).foldl (markR o b 0) (o 0) = y at hst hml ⊢
     generalize rl[i] = id at hiy hst
     have p4 := hasR_spec L (upd o 0 y) b hb4 (0 : Nat) id
     (conv => whnf)
     refine ⟨i, ⟨rfl, hlt⟩, ?_⟩
     (conv => whnf)
     refine ⟨id, hiy, ?_⟩
     (conv => whnf)
     refine cl [] [] (p4) ?_
     (conv => whnf)
     refine boo (fun h7 => ?_) (fun h7 => ?_)
     ·have h7 : hasR (upd o 0 y) b (0 : Nat) id = false := by simpa using h7
      rw [show markR o b 0 y id = sortI (y ++ [id]) from if_neg (by rw [h7]; decide)] at hst
      have p5 := sortedI_spec (y ++ [id]) (by rw [List.length_append, List.length_singleton]; omega)
      (conv => whnf)
      refine ⟨false, .grow, (.l [0, 1, 2, 3, 4, 5, 6, 7, 8, 9, 10, 11, 15, 16, 12, 13, 14, 17, 18]), by kernel_rfl, .inl ?_⟩
      (conv => whnf)
      refine ⟨0, ⟨rfl, by decide⟩, ?_⟩
      (conv => whnf)
      refine ⟨i, ⟨rfl, hlt⟩, ?_⟩
      (conv => whnf)
      refine ⟨id, hiy, ?_⟩
      (conv => whnf)
      refine ⟨[id], rfl, ?_⟩
      (conv => whnf)
      refine ⟨_, _, rfl, rfl, (by simp only [List.length_append, List.length_cons, List.length_nil]; omega), ?_⟩
      (conv => whnf)
      refine cl [] [] (p5) ?_
      (conv => whnf)
      refine ⟨0, ⟨rfl, by decide⟩, ?_⟩
      repeat' ((conv => whnf); refine I6 ?_)
      refine ag (i + 1) [] [.same 0, .same 1, .same 2, .same 3, .same 4, .same 5, .same 6, .same 7, .same 8, .same 9, .same 10, .same 15, .same 12] ⟨hlt, trivial⟩ (by simp only []; omega) ?_
      rw [hst]
      repeat' first | exact trivial | exact rfl | refine And.intro ?_ ?_
     ·have h7 : hasR (upd o 0 y) b (0 : Nat) id = true := by simpa using h7
      rw [show markR o b 0 y id = y from if_pos h7] at hst
      repeat' ((conv => whnf); refine I6 ?_)
      refine ag (i + 1) [] [.same 0, .same 1, .same 2, .same 3, .same 4, .same 5, .same 6, .same 7, .same 8, .same 9, .same 10, .same 11, .same 12] ⟨hlt, trivial⟩ (by simp only []; omega) ?_
      rw [hst]
      repeat' first | exact trivial | exact rfl | refine And.intro ?_ ?_
    ·obtain rfl : i = rl.length := by have h6 : ¬ (i : Int) < rl.length := h6; omega
     rw [List.take_length]
     (conv => whnf)
     exact rx [] [.same 0, .same 1, .same 2, .same 3, .same 4, .same 5, .same 6, .same 7, .same 8, .same 9, .same 10, .same 11, .same 4, .same 5, .same 6]
   ·refine lp Nat (fun i => ⟨[(0, .c (.ptr 0 0)), (1, .c (.int .i64 (1 : Nat))), (8, .c (.rw 12)), (9, .c (.int .i64 i))], [.box [.ptr 1 0, .rw 3, .rw 11, .rw 5, .rw 6, .rw 7, .rw 8, .rw 9, .rw 10], .box [.rw 2], .row 6 Ob encOb L, .row 1 Int encI (o 0), .dead, .row 1 Int encI (o 2), .row 1 Int encI (o 3), .row 1 Int encI (b 0), .row 1 Int encI (b 1), .row 1 Int encI (b 2), .row 1 Int encI (b 3), .row 1 Int encI ((rl.take i).foldl (markR o b 1) (o 1))] ++ [.row 1 Int encI rl]⟩) (fun i => i ≤ rl.length ∧ True) (fun i => rl.length - i) 0 [] [.same 0, .same 1, .same 2, .same 3, .same 4, .same 5, .same 6, .same 7, .same 8, .same 9, .same 10, .same 4, .same 11] ?_ ?_ (fun i hii => ?_)
    ·simp
    ·repeat' first | exact trivial | exact rfl | refine And.intro ?_ ?_
    (conv => whnf)
    refine dec (fun h6 => ?_) (fun h6 => ?_)
    ·have hlt : i < rl.length := by have h6 : (i : Int) < rl.length := h6; omega
     have hiy : rl[i]? = some rl[i] := List.getElem?_eq_getElem hlt
     have hst := markR_take (o := o) (b := b) (r := 1) (x := o 1) hlt
     have hml := markR_len (o := o) (b := b) (r := 1) (x := o 1) (l := rl.take i)
     rw [List.length_take] at hml
     have hoq := ho 1 (by decide)
     generalize (rl.take i).foldl (markR o b 1) (o 1) = y at hst hml ⊢
     generalize rl[i] = id at hiy hst
     have p4 := hasR_spec L (upd o 1 y) b hb4 (1 : Nat) id
     (conv => whnf)
     refine ⟨i, ⟨rfl, hlt⟩, ?_⟩
     (conv => whnf)
     refine ⟨id, hiy, ?_⟩
     (conv => whnf)
     refine cl [] [] (p4) ?_
     (conv => whnf)
     refine boo (fun h7 => ?_) (fun h7 => ?_)
     ·have h7 : hasR (upd o 1 y) b (1 : Nat) id = false := by simpa using h7
      rw [show markR o b 1 y id = sortI (y ++ [id]) from if_neg (by rw [h7]; decide)] at hst
      have p5 := sortedI_spec (y ++ [id]) (by rw [List.length_append, List.length_singleton]; omega)
      (conv => whnf)
      refine ⟨false, .grow, (.l [0, 1, 2, 3, 4, 5, 6, 7, 8, 9, 10, 11, 15, 16, 12, 13, 14, 17, 18]), by kernel_rfl, .inl ?_⟩
      (conv => whnf)
      refine ⟨1, ⟨rfl, by decide⟩, ?_⟩
      (conv => whnf)
      refine ⟨i, ⟨rfl, hlt⟩, ?_⟩
      (conv => whnf)
      refine ⟨id, hiy, ?_⟩
      (conv => whnf)
      refine ⟨[id], rfl, ?_⟩
      (conv => whnf)
      refine ⟨_, _, rfl, rfl, (by simp only [List.length_append, List.length_cons, List.length_nil]; omega), ?_⟩
      (conv => whnf)
      refine cl [] [] (p5) ?_
      (conv => whnf)
      refine ⟨1, ⟨rfl, by decide⟩, ?_⟩
      repeat' ((conv => whnf); refine I6 ?_)
      refine ag (i + 1) [] [.same 0, .same 1, .same 2, .same 3, .same 4, .same 5, .same 6, .same 7, .same 8, .same 9, .same 10, .same 15, .same 12] ⟨hlt, trivial⟩ (by simp only []; omega) ?_
      rw [hst]
      repeat' first | exact trivial | exact rfl | refine And.intro ?_ ?_
     ·have h7 : hasR (upd o 1 y) b (1 : Nat) id = true := by simpa using h7
      rw [show markR o b 1 y id = y from if_pos h7] at hst
      repeat' ((conv => whnf); refine I6 ?_)
      refine ag (i + 1) [] [.same 0, .same 1, .same 2, .same 3, .same 4, .same 5, .same 6, .same 7, .same 8, .same 9, .same 10, .same 11, .same 12] ⟨hlt, trivial⟩ (by simp only []; omega) ?_
      rw [hst]
      repeat' first | exact trivial | exact rfl | refine And.intro ?_ ?_
    ·obtain rfl : i = rl.length := by have h6 : ¬ (i : Int) < rl.length := h6; omega
     rw [List.take_length]
     (conv => whnf)
     exact rx [] [.same 0, .same 1, .same 2, .same 3, .same 4, .same 5, .same 6, .same 7, .same 8, .same 9, .same 10, .same 3, .same 11, .same 5, .same 6]
   ·refine lp Nat (fun i => ⟨[(0, .c (.ptr 0 0)), (1, .c (.int .i64 (2 : Nat))), (8, .c (.rw 12)), (9, .c (.int .i64 i))], [.box [.ptr 1 0, .rw 3, .rw 4, .rw 11, .rw 6, .rw 7, .rw 8, .rw 9, .rw 10], .box [.rw 2], .row 6 Ob encOb L, .row 1 Int encI (o 0), .row 1 Int encI (o 1), .dead, .row 1 Int encI (o 3), .row 1 Int encI (b 0), .row 1 Int encI (b 1), .row 1 Int encI (b 2), .row 1 Int encI (b 3), .row 1 Int encI ((rl.take i).foldl (markR o b 2) (o 2))] ++ [.row 1 Int encI rl]⟩) (fun i => i ≤ rl.length ∧ True) (fun i => rl.length - i) 0 [] [.same 0, .same 1, .same 2, .same 3, .same 4, .same 5, .same 6, .same 7, .same 8, .same 9, .same 10, .same 5, .same 11] ?_ ?_ (fun i hii => ?_)
    ·simp
    ·repeat' first | exact trivial | exact rfl | refine And.intro ?_ ?_
    (conv => whnf)
    refine dec (fun h6 => ?_) (fun h6 => ?_)
    ·have hlt : i < rl.length := by have h6 : (i : Int) < rl.length := h6; omega
     have hiy : rl[i]? = some rl[i] := List.getElem?_eq_getElem hlt
     have hst := markR_take (o := o) (b := b) (r := 2) (x := o 2) hlt
     have hml := markR_len (o := o) (b := b) (r := 2) (x := o 2) (l := rl.take i)
     rw [List.length_take] at hml
     have hoq := ho 2 (by decide)
     generalize (rl.take i).foldl (markR o b 2) (o 2) = y at hst hml ⊢
     generalize rl[i] = id at hiy hst
     have p4 := hasR_spec L (upd o 2 y) b hb4 (2 : Nat) id
     (conv => whnf)
     refine ⟨i, ⟨rfl, hlt⟩, ?_⟩
     (conv => whnf)
     refine ⟨id, hiy, ?_⟩
     (conv => whnf)
     refine cl [] [] (p4) ?_
     (conv => whnf)
     refine boo (fun h7 => ?_) (fun h7 => ?_)
     ·have h7 : hasR (upd o 2 y) b (2 : Nat) id = false := by simpa using h7
      rw [show markR o b 2 y id = sortI (y ++ [id]) from if_neg (by rw [h7]; decide)] at hst
      have p5 := sortedI_spec (y ++ [id]) (by rw [List.length_append, List.length_singleton]; omega)
      (conv => whnf)
      refine ⟨false, .grow, (.l [0, 1, 2, 3, 4, 5, 6, 7, 8, 9, 10, 11, 15, 16, 12, 13, 14, 17, 18]), by kernel_rfl, .inl ?_⟩
      (conv => whnf)
      refine ⟨2, ⟨rfl, by decide⟩, ?_⟩
      (conv => whnf)
      refine ⟨i, ⟨rfl, hlt⟩, ?_⟩
      (conv => whnf)
      refine ⟨id, hiy, ?_⟩
      (conv => whnf)
      refine ⟨[id], rfl, ?_⟩
      (conv => whnf)
      refine ⟨_, _, rfl, rfl, (by simp only [List.length_append, List.length_cons, List.length_nil]; omega), ?_⟩
      (conv => whnf)
      refine cl [] [] (p5) ?_
      (conv => whnf)
      refine ⟨2, ⟨rfl, by decide⟩, ?_⟩
      repeat' ((conv => whnf); refine I6 ?_)
      refine ag (i + 1) [] [.same 0, .same 1, .same 2, .same 3, .same 4, .same 5, .same 6, .same 7, .same 8, .same 9, .same 10, .same 15, .same 12] ⟨hlt, trivial⟩ (by simp only []; omega) ?_
      rw [hst]
      repeat' first | exact trivial | exact rfl | refine And.intro ?_ ?_
     ·have h7 : hasR (upd o 2 y) b (2 : Nat) id = true := by simpa using h7
      rw [show markR o b 2 y id = y from if_pos h7] at hst
      repeat' ((conv => whnf); refine I6 ?_)
      refine ag (i + 1) [] [.same 0, .same 1, .same 2, .same 3, .same 4, .same 5, .same 6, .same 7, .same 8, .same 9, .same 10, .same 11, .same 12] ⟨hlt, trivial⟩ (by simp only []; omega) ?_
      rw [hst]
      repeat' first | exact trivial | exact rfl | refine And.intro ?_ ?_
    ·obtain rfl : i = rl.length := by have h6 : ¬ (i : Int) < rl.length := h6; omega
     rw [List.take_length]
     (conv => whnf)
     exact rx [] [.same 0, .same 1, .same 2, .same 3, .same 4, .same 5, .same 6, .same 7, .same 8, .same 9, .same 10, .same 3, .same 4, .same 11, .same 6]
   ·refine lp Nat (fun i => ⟨[(0, .c (.ptr 0 0)), (1, .c (.int .i64 (3 : Nat))), (8, .c (.rw 12)), (9, .c (.int .i64 i))], [.box [.ptr 1 0, .rw 3, .rw 4, .rw 5, .rw 11, .rw 7, .rw 8, .rw 9, .rw 10], .box [.rw 2], .row 6 Ob encOb L, .row 1 Int encI (o 0), .row 1 Int encI (o 1), .row 1 Int encI (o 2), .dead, .row 1 Int encI (b 0), .row 1 Int encI (b 1), .row 1 Int encI (b 2), .row 1 Int encI (b 3), .row 1 Int encI ((rl.take i).foldl (markR o b 3) (o 3))] ++ [.row 1 Int encI rl]⟩) (fun i => i ≤ rl.length ∧ True) (fun i => rl.length - i) 0 [] [.same 0, .same 1, .same 2, .same 3, .same 4, .same 5, .same 6, .same 7, .same 8, .same 9, .same 10, .same 6, .same 11] ?_ ?_ (fun i hii => ?_)
    ·simp
    ·repeat' first | exact trivial | exact rfl | refine And.intro ?_ ?_
    (conv => whnf)
    refine dec (fun h6 => ?_) (fun h6 => ?_)
    ·have hlt : i < rl.length := by have h6 : (i : Int) < rl.length := h6; omega
     have hiy : rl[i]? = some rl[i] := List.getElem?_eq_getElem hlt
     have hst := markR_take (o := o) (b := b) (r := 3) (x := o 3) hlt
     have hml := markR_len (o := o) (b := b) (r := 3) (x := o 3) (l := rl.take i)
     rw [List.length_take] at hml
     have hoq := ho 3 (by decide)
     generalize (rl.take i).foldl (markR o b 3) (o 3) = y at hst hml ⊢
     generalize rl[i] = id at hiy hst
     have p4 := hasR_spec L (upd o 3 y) b hb4 (3 : Nat) id
     (conv => whnf)
     refine ⟨i, ⟨rfl, hlt⟩, ?_⟩
     (conv => whnf)
     refine ⟨id, hiy, ?_⟩
     (conv => whnf)
     refine cl [] [] (p4) ?_
     (conv => whnf)
     refine boo (fun h7 => ?_) (fun h7 => ?_)
     ·have h7 : hasR (upd o 3 y) b (3 : Nat) id = false := by simpa using h7
      rw [show markR o b 3 y id = sortI (y ++ [id]) from if_neg (by rw [h7]; decide)] at hst
      have p5 := sortedI_spec (y ++ [id]) (by rw [List.length_append, List.length_singleton]; omega)
      (conv => whnf)
      refine ⟨false, .grow, (.l [0, 1, 2, 3, 4, 5, 6, 7, 8, 9, 10, 11, 15, 16, 12, 13, 14, 17, 18]), by kernel_rfl, .inl ?_⟩
      (conv => whnf)
      refine ⟨3, ⟨rfl, by decide⟩, ?_⟩
      (conv => whnf)
      refine ⟨i, ⟨rfl, hlt⟩, ?_⟩
      (conv => whnf)
      refine ⟨id, hiy, ?_⟩
      (conv => whnf)
      refine ⟨[id], rfl, ?_⟩
      (conv => whnf)
      refine ⟨_, _, rfl, rfl, (by simp only [List.length_append, List.length_cons, List.length_nil]; omega), ?_⟩
      (conv => whnf)
      refine cl [] [] (p5) ?_
      (conv => whnf)
      refine ⟨3, ⟨rfl, by decide⟩, ?_⟩
      repeat' ((conv => whnf); refine I6 ?_)
      refine ag (i + 1) [] [.same 0, .same 1, .same 2, .same 3, .same 4, .same 5, .same 6, .same 7, .same 8, .same 9, .same 10, .same 15, .same 12] ⟨hlt, trivial⟩ (by simp only []; omega) ?_
      rw [hst]
      repeat' first | exact trivial | exact rfl | refine And.intro ?_ ?_
     ·have h7 : hasR (upd o 3 y) b (3 : Nat) id = true := by simpa using h7
      rw [show markR o b 3 y id = y from if_pos h7] at hst
      repeat' ((conv => whnf); refine I6 ?_)
      refine ag (i + 1) [] [.same 0, .same 1, .same 2, .same 3, .same 4, .same 5, .same 6, .same 7, .same 8, .same 9, .same 10, .same 11, .same 12] ⟨hlt, trivial⟩ (by simp only []; omega) ?_
      rw [hst]
      repeat' first | exact trivial | exact rfl | refine And.intro ?_ ?_
    ·obtain rfl : i = rl.length := by have h6 : ¬ (i : Int) < rl.length := h6; omega
     rw [List.take_length]
     (conv => whnf)
     exact rx [] [.same 0, .same 1, .same 2, .same 3, .same 4, .same 5, .same 6, .same 7, .same 8, .same 9, .same 10, .same 3, .same 4, .same 5, .same 11]
end Go.Nest
end
/- part -/
section

namespace Go.Nest
open Go Go.AM Go.Proofs
open Go.Proofs.YtpmjnbidmcnhnaaGreatDoor (tab tabOk)
set_option maxRecDepth 4000
def okW (R : List Fi × Int) : List Fi := if R.2 = 0 then R.1 else []
set_option maxHeartbeats 8000000 in
theorem whole_rspec (L : List Ob) (hL : PoolOk L) (o b : Nat → List Int) (hb4 : BorOk b) : ∀ (n : Nat) (deep r id : Int) (pre : List UInt8) (out : List Fi), deep + n = 6 → pre.length + 4001 * n ≤ 40000 → FitF 40000 out → Does Tryz.prog 65 ([.c (.bp [.bp [.bs 6 Ob encOb L], .bs 1 Int encI (o 0), .bs 1 Int encI (o 1), .bs 1 Int encI (o 2), .bs 1 Int encI (o 3), .bs 1 Int encI (b 0), .bs 1 Int encI (b 1), .bs 1 Int encI (b 2), .bs 1 Int encI (b 3)]), .c (.int .i64 r), .c (.int .i64 id), .c (.str pre), .c (.int .i64 deep)] ++ [.c (.rw 0)]) [.row 4 Fi encFi out] (Rt (.tup [(false, [.rw 1]), (false, [.int .i64 (whW L (hasR o b) n r id pre out).2])]) [.dead, .row 4 Fi encFi (okW (whW L (hasR o b) n r id pre out))]) := by
 intro n
 induction n with
 | zero =>
  intro deep r id pre out hd hp hf
  obtain rfl : deep = 6 := by simpa using hd
  refine X_spec (n := 137) (n0 := 1) tabOk Tryz.call65 Tryz.func65 ?_
  intro hb
  unfold whW
  (conv => whnf)
  exact rx [] [.same 0, .new]
 | succ n ih =>
  intro deep r id pre out hd hp hf
  refine X_spec (n := 137) (n0 := 1) tabOk Tryz.call65 Tryz.func65 ?_
  intro hb
  have hW : whW L (hasR o b) (n + 1) r id pre out = if goneP L (hasR o b) r id = true then (out, 14) else if (filesP L (getP L id).tree).2 = 0 then whL (whW L (hasR o b) n) pre (filesP L (getP L id).tree).1 out else (out, (filesP L (getP L id).tree).2) := rfl
  have hG : goneP L (hasR o b) r id = (!decide (kindOf L id = 3) || (!hasR o b r id || (reachP L [(getP L id).tree]).any fun k => !hasR o b r k)) := rfl
  have hpos := fun h => kindOf_pos (l := L) (id := id) h
  have hob : ¬ kindOf L id = 0 → L[id.toNat]? = some (getP L id) := fun h => by rw [getP_at (hpos h).1 (hpos h).2]; exact List.getElem?_eq_getElem (hpos h).2
  generalize goneP L (hasR o b) r id = G at hW hG
  have hff : ∀ r id p out, p.length ≤ pre.length + 4001 → FitF 40000 out → FitF 40000 (whW L (hasR o b) n r id p out).1 := fun r id p out h1 h2 => whW_fit hL (by omega) h2
  generalize whW L (hasR o b) (n + 1) r id pre out = W at hW ⊢
  generalize whW L (hasR o b) n = F at hW ih hff
  have p1 := kindR_spec L id
  have p2 := hasR_spec L o b hb4 r id
  generalize getP L id = ob at hW hG hob
  generalize kindOf L id = kd at hG hpos hob p1
  have p3 := reachR_spec L hL [ob.tree] (by simp)
  have hlen := hL.len
  have hrl := reach_len (l := L) (ids := [ob.tree])
  have p4 := fun l hl => hasAll_spec L o b hb4 r l hl
  have p5 := filesOf_spec L hL ob.tree
  obtain ⟨hfl, hfp⟩ := files_sum hL ob.tree
  generalize hasR o b r id = hs at hG p2
  have hlo : ∀ l : List Int, hasAllR o b r l = !(l.any fun k => !hasR o b r k) := fun l => by unfold hasAllR; rw [List.not_any_eq_all_not]; simp
  generalize reachP L [ob.tree] = rl at p3 hG hrl
  have p4 := p4 rl (by omega)
  rw [hlo] at p4
  generalize (rl.any fun k => !hasR o b r k) = lo at p4 hG
  generalize filesP L ob.tree = fs at hW p5 hfl hfp
  obtain ⟨l, c⟩ := fs
  dsimp only at hW p5 hfl hfp
  have hd5 : deep ≤ 5 := by omega
  (conv => whnf)
  refine dec (fun h => absurd (show (5 : Int) < deep from h) (by omega)) (fun _ => ?_)
  (conv => whnf)
  refine ⟨false, .grow, (.l [0, 1, 2, 3, 4, 5, 6, 7, 8, 9, 10, 11, 12, 13, 14, 15, 16, 17, 18, 19, 20, 21, 22, 23, 24, 25, 26, 27, 28, 29, 30, 31, 32, 33, 34, 35, 36]), by kernel_rfl, .inl ?_⟩
  (conv => whnf)
  refine cl [] [] (p1) ?_
  (conv => whnf)
  refine decN (fun h1 => ?_) (fun h1 => ?_)
  ·have h1 : ¬ kd = 3 := h1
   rw [decide_eq_false h1] at hG
   rw [hG] at hW
   obtain rfl : W = (out, 14) := hW
   (conv => whnf)
   exact rx [] [.same 0, .new]
  have h1 : kd = 3 := h1
  rw [decide_eq_true h1] at hG
  have hp2 := hpos (by omega)
  have hob := hob (by omega)
  (conv => whnf)
  refine cl [] [] (p2) ?_
  (conv => whnf)
  refine booN (fun h2 => ?_) (fun h2 => ?_)
  ·have h2 : hs = false := h2
   rw [h2] at hG
   rw [hG] at hW
   obtain rfl : W = (out, 14) := hW
   (conv => whnf)
   exact rx [] [.same 0, .new]
  have h2 : hs = true := h2
  rw [h2] at hG
  have hG : G = lo := hG
  subst hG
  (conv => whnf)
  refine ⟨id.toNat, ob, by omega, hob, ?_⟩
  (conv => whnf)
  refine ⟨[ob.tree], rfl, ?_⟩
  (conv => whnf)
  refine cl [] [] (p3) ?_
  (conv => whnf)
  refine cl [] [] (p4) ?_
  (conv => whnf)
  refine boo (fun h3 => ?_) (fun h3 => ?_)
  ·have h3 : G = true := by simpa using h3
   rw [h3] at hW
   obtain rfl : W = (out, 14) := hW
   (conv => whnf)
   exact rx [] [.same 0, .new]
  have h3 : G = false := by simpa using h3
  rw [h3] at hW
  (conv => whnf)
  refine ⟨false, .grow, (.l [0, 1, 2, 3, 4, 5, 6, 7, 8, 9, 10, 11, 12, 13, 14, 15, 16, 17, 18, 19, 20]), by kernel_rfl, .inl ?_⟩
  (conv => whnf)
  refine ⟨id.toNat, ob, by omega, hob, ?_⟩
  (conv => whnf)
  refine cl [] [] (p5) ?_
  (conv => whnf)
  refine decN (fun h4 => ?_) (fun h4 => ?_)
  ·have h4 : ¬ c = 0 := h4
   obtain rfl : W = (out, c) := hW.trans (if_neg h4)
   rw [show okW (out, c) = [] from if_neg h4]
   (conv => whnf)
   exact rx [] [.same 0, .new]
  obtain rfl : c = 0 := h4
  have hW : W = whL F pre l out := hW
  (conv => whnf)
  refine lp (Nat × List Fi) (fun p => ⟨[(0, .c (.bp [.bp [.bs 6 Ob encOb L], .bs 1 Int encI (o 0), .bs 1 Int encI (o 1), .bs 1 Int encI (o 2), .bs 1 Int encI (o 3), .bs 1 Int encI (b 0), .bs 1 Int encI (b 1), .bs 1 Int encI (b 2), .bs 1 Int encI (b 3)])), (3, .c (.str pre)), (4, .c (.int .i64 deep)), (5, .c (.rw 1)), (14, .c (.rw 2)), (16, .c (.int .i64 p.1))], [.dead, .row 4 Fi encFi p.2, .row 4 Fi encFi l]⟩) (fun p => ((p.1 ≤ l.length ∧ FitF 40000 p.2) ∧ whL F pre (l.drop p.1) p.2 = W) ∧ True) (fun p => l.length - p.1) (0, out) [] [.same 0, .same 0, .same 3] ⟨⟨⟨Nat.zero_le _, hf⟩, by rw [List.drop_zero]; exact hW.symm⟩, trivial⟩ ?_ (fun ⟨i, q⟩ hq => ?_)
  ·repeat' first | exact trivial | exact rfl | refine And.intro ?_ ?_
  obtain ⟨⟨⟨hi, hq⟩, hw⟩, -⟩ := hq
  have hq : FitF 40000 q := hq
  have hw : whL F pre (l.drop i) q = W := hw
  have hql := hq.len
  (conv => whnf)
  refine dec (fun h5 => ?_) (fun h5 => ?_)
  ·have hlt : i < l.length := by have h5 : (i : Int) < l.length := h5; omega
   have hiy : l[i]? = some l[i] := List.getElem?_eq_getElem hlt
   have hxp := hfp _ (List.getElem_mem hlt)
   rw [List.drop_eq_getElem_cons hlt] at hw
   generalize l[i] = x at hiy hxp hw
   unfold whL at hw
   (conv => whnf)
   refine ⟨i, ⟨rfl, hlt⟩, ?_⟩
   (conv => whnf)
   refine ⟨x, hiy, ?_⟩
   (conv => whnf)
   refine dec (fun h6 => ?_) (fun h6 => ?_)
   ·have h6 : x.mode = 3 := h6
    rw [if_pos h6] at hw
    have hpl : ((pre ++ x.path) ++ [47]).length ≤ pre.length + 4001 := by simp only [List.length_append, List.length_singleton]; omega
    have p6 := ih (deep + 1) x.repo x.id ((pre ++ x.path) ++ [47]) q (by omega) (by omega) hq
    have hf2 := hff x.repo x.id ((pre ++ x.path) ++ [47]) q hpl hq
    generalize F x.repo x.id ((pre ++ x.path) ++ [47]) q = R at p6 hf2 hw
    obtain ⟨o', c'⟩ := R
    dsimp only at p6 hf2 hw
    (conv => whnf)
    refine ⟨false, .grow, (.l [0, 1, 2, 3, 4, 5, 6, 7, 8, 9, 10, 11, 12, 13, 14, 15, 16, 17, 18, 19, 20, 21, 22, 23, 24, 25, 26, 27]), by kernel_rfl, .inl ?_⟩
    (conv => whnf)
    refine ⟨i, ⟨rfl, hlt⟩, ?_⟩
    (conv => whnf)
    refine ⟨x, hiy, ?_⟩
    (conv => whnf)
    refine ⟨i, ⟨rfl, hlt⟩, ?_⟩
    (conv => whnf)
    refine ⟨x, hiy, ?_⟩
    (conv => whnf)
    refine ⟨i, ⟨rfl, hlt⟩, ?_⟩
    (conv => whnf)
    refine ⟨x, hiy, ?_⟩
    (conv => whnf)
    refine ⟨(show pre.length + x.path.length ≤ 9223372036854775807 by omega), ?_⟩
    (conv => whnf)
    refine ⟨(show (pre ++ x.path).length + 1 ≤ 9223372036854775807 by rw [List.length_append]; omega), ?_⟩
    (conv => whnf)
    refine ⟨i64 (by omega) (by omega), ?_⟩
    (conv => whnf)
    refine cl [] [1] (p6) ?_
    (conv => whnf)
    refine decN (fun h7 => ?_) (fun h7 => ?_)
    ·have h7 : ¬ c' = 0 := h7
     rw [if_neg h7] at hw
     subst hw
     rw [show okW (o', c') = [] from if_neg h7]
     (conv => whnf)
     exact rx [] [.same 0, .new]
    ·obtain rfl : c' = 0 := h7
     repeat' ((conv => whnf); refine I6 ?_)
     refine ag (i + 1, o') [] [.same 0, .same 3, .same 2] ⟨⟨⟨hlt, hf2⟩, hw⟩, trivial⟩ (by simp only []; omega) ?_
     repeat' first | exact trivial | exact rfl | refine And.intro ?_ ?_
   ·have h6 : ¬ x.mode = 3 := h6
    rw [if_neg h6] at hw
    (conv => whnf)
    refine dec (fun h7 => ?_) (fun h7 => ?_)
    ·have h7 : (60 : Int) ≤ q.length := h7
     rw [if_pos (by omega)] at hw
     subst hw
     rw [show okW (q, 5) = [] from rfl]
     (conv => whnf)
     exact rx [] [.same 0, .new]
    ·have h7 : ¬ (60 : Int) ≤ q.length := h7
     rw [if_neg (by omega)] at hw
     have hq2 := hq.snoc (by omega) (f := ⟨pre ++ x.path, x.mode, x.id, x.repo⟩) (by simp only [List.length_append]; omega)
     (conv => whnf)
     refine ⟨i, ⟨rfl, hlt⟩, ?_⟩
     (conv => whnf)
     refine ⟨x, hiy, ?_⟩
     (conv => whnf)
     refine ⟨(show pre.length + x.path.length ≤ 9223372036854775807 by omega), ?_⟩
     (conv => whnf)
     refine ⟨[⟨pre ++ x.path, x.mode, x.id, x.repo⟩], rfl, ?_⟩
     (conv => whnf)
     refine ⟨_, _, rfl, rfl, (by simp only [List.length_append, List.length_cons, List.length_nil]; omega), ?_⟩
     repeat' ((conv => whnf); refine I6 ?_)
     refine ag (i + 1, q ++ [⟨pre ++ x.path, x.mode, x.id, x.repo⟩]) [] [.same 0, .same 5, .same 2] ⟨⟨⟨hlt, hq2⟩, hw⟩, trivial⟩ (by simp only []; omega) ?_
     repeat' first | exact trivial | exact rfl | refine And.intro ?_ ?_
  ·have h5 : ¬ (i : Int) < l.length := h5
   rw [List.drop_of_length_le (by omega)] at hw
   obtain rfl : (q, 0) = W := hw
   (conv => whnf)
   exact rx [] [.same 0, .same 1]
set_option maxHeartbeats 8000000 in
theorem whole_rnil (L : List Ob) (hL : PoolOk L) (o b : Nat → List Int) (hb4 : BorOk b) (n : Nat) (deep r id : Int) (pre : List UInt8) (hd : deep + ((n + 1 : Nat) : Int) = 6) (hp : pre.length + 4001 * (n + 1) ≤ 40000) : Does Tryz.prog 65 ([.c (.bp [.bp [.bs 6 Ob encOb L], .bs 1 Int encI (o 0), .bs 1 Int encI (o 1), .bs 1 Int encI (o 2), .bs 1 Int encI (o 3), .bs 1 Int encI (b 0), .bs 1 Int encI (b 1), .bs 1 Int encI (b 2), .bs 1 Int encI (b 3)]), .c (.int .i64 r), .c (.int .i64 id), .c (.str pre), .c (.int .i64 deep)] ++ [.c .nil]) [] (Rt (.tup [(false, [.rw 1]), (false, [.int .i64 (whW L (hasR o b) (n + 1) r id pre []).2])]) [.dead, .row 4 Fi encFi (okW (whW L (hasR o b) (n + 1) r id pre []))]) := by
 have ih := whole_rspec L hL o b hb4 n
 have hf : FitF 40000 [] := ⟨by simp, fun f h => by cases h⟩
 refine X_spec (n := 137) (n0 := 0) tabOk Tryz.call65 Tryz.func65 ?_
 intro hb
 have hW : whW L (hasR o b) (n + 1) r id pre ([] : List Fi) = if goneP L (hasR o b) r id = true then (([] : List Fi), 14) else if (filesP L (getP L id).tree).2 = 0 then whL (whW L (hasR o b) n) pre (filesP L (getP L id).tree).1 ([] : List Fi) else (([] : List Fi), (filesP L (getP L id).tree).2) := rfl
 have hG : goneP L (hasR o b) r id = (!decide (kindOf L id = 3) || (!hasR o b r id || (reachP L [(getP L id).tree]).any fun k => !hasR o b r k)) := rfl
 have hpos := fun h => kindOf_pos (l := L) (id := id) h
 have hob : ¬ kindOf L id = 0 → L[id.toNat]? = some (getP L id) := fun h => by rw [getP_at (hpos h).1 (hpos h).2]; exact List.getElem?_eq_getElem (hpos h).2
 generalize goneP L (hasR o b) r id = G at hW hG
 have hff : ∀ r id p out, p.length ≤ pre.length + 4001 → FitF 40000 out → FitF 40000 (whW L (hasR o b) n r id p out).1 := fun r id p out h1 h2 => whW_fit hL (by omega) h2
 generalize whW L (hasR o b) (n + 1) r id pre ([] : List Fi) = W at hW ⊢
 generalize whW L (hasR o b) n = F at hW ih hff
 have p1 := kindR_spec L id
 have p2 := hasR_spec L o b hb4 r id
 generalize getP L id = ob at hW hG hob
 generalize kindOf L id = kd at hG hpos hob p1
 have p3 := reachR_spec L hL [ob.tree] (by simp)
 have hlen := hL.len
 have hrl := reach_len (l := L) (ids := [ob.tree])
 have p4 := fun l hl => hasAll_spec L o b hb4 r l hl
 have p5 := filesOf_spec L hL ob.tree
 obtain ⟨hfl, hfp⟩ := files_sum hL ob.tree
 generalize hasR o b r id = hs at hG p2
 have hlo : ∀ l : List Int, hasAllR o b r l = !(l.any fun k => !hasR o b r k) := fun l => by unfold hasAllR; rw [List.not_any_eq_all_not]; simp
 generalize reachP L [ob.tree] = rl at p3 hG hrl
 have p4 := p4 rl (by omega)
 rw [hlo] at p4
 generalize (rl.any fun k => !hasR o b r k) = lo at p4 hG
 generalize filesP L ob.tree = fs at hW p5 hfl hfp
 obtain ⟨l, c⟩ := fs
 dsimp only at hW p5 hfl hfp
 have hd5 : deep ≤ 5 := by omega
 (conv => whnf)
 refine dec (fun h => absurd (show (5 : Int) < deep from h) (by omega)) (fun _ => ?_)
 (conv => whnf)
 refine ⟨false, .grow, (.l [0, 1, 2, 3, 4, 5, 6, 7, 8, 9, 10, 11, 12, 13, 14, 15, 16, 17, 18, 19, 20, 21, 22, 23, 24, 25, 26, 27, 28, 29, 30, 31, 32, 33, 34, 35, 36]), by kernel_rfl, .inl ?_⟩
 (conv => whnf)
 refine cl [] [] (p1) ?_
 (conv => whnf)
 refine decN (fun h1 => ?_) (fun h1 => ?_)
 ·have h1 : ¬ kd = 3 := h1
  rw [decide_eq_false h1] at hG
  rw [hG] at hW
  obtain rfl : W = (([] : List Fi), 14) := hW
  (conv => whnf)
  exact rx [] [.new, .new]
 have h1 : kd = 3 := h1
 rw [decide_eq_true h1] at hG
 have hp2 := hpos (by omega)
 have hob := hob (by omega)
 (conv => whnf)
 refine cl [] [] (p2) ?_
 (conv => whnf)
 refine booN (fun h2 => ?_) (fun h2 => ?_)
 ·have h2 : hs = false := h2
  rw [h2] at hG
  rw [hG] at hW
  obtain rfl : W = (([] : List Fi), 14) := hW
  (conv => whnf)
  exact rx [] [.new, .new]
 have h2 : hs = true := h2
 rw [h2] at hG
 have hG : G = lo := hG
 subst hG
 (conv => whnf)
 refine ⟨id.toNat, ob, by omega, hob, ?_⟩
 (conv => whnf)
 refine ⟨[ob.tree], rfl, ?_⟩
 (conv => whnf)
 refine cl [] [] (p3) ?_
 (conv => whnf)
 refine cl [] [] (p4) ?_
 (conv => whnf)
 refine boo (fun h3 => ?_) (fun h3 => ?_)
 ·have h3 : G = true := by simpa using h3
  rw [h3] at hW
  obtain rfl : W = (([] : List Fi), 14) := hW
  (conv => whnf)
  exact rx [] [.new, .new]
 have h3 : G = false := by simpa using h3
 rw [h3] at hW
 (conv => whnf)
 refine ⟨false, .grow, (.l [0, 1, 2, 3, 4, 5, 6, 7, 8, 9, 10, 11, 12, 13, 14, 15, 16, 17, 18, 19, 20]), by kernel_rfl, .inl ?_⟩
 (conv => whnf)
 refine ⟨id.toNat, ob, by omega, hob, ?_⟩
 (conv => whnf)
 refine cl [] [] (p5) ?_
 (conv => whnf)
 refine decN (fun h4 => ?_) (fun h4 => ?_)
 ·have h4 : ¬ c = 0 := h4
  obtain rfl : W = (([] : List Fi), c) := hW.trans (if_neg h4)
  rw [show okW (([] : List Fi), c) = [] from if_neg h4]
  (conv => whnf)
  exact rx [] [.new, .new]
 obtain rfl : c = 0 := h4
 have hW : W = whL F pre l ([] : List Fi) := hW
 (conv => whnf)
 refine lp (Nat × List Fi) (fun p => ⟨[(0, .c (.bp [.bp [.bs 6 Ob encOb L], .bs 1 Int encI (o 0), .bs 1 Int encI (o 1), .bs 1 Int encI (o 2), .bs 1 Int encI (o 3), .bs 1 Int encI (b 0), .bs 1 Int encI (b 1), .bs 1 Int encI (b 2), .bs 1 Int encI (b 3)])), (3, .c (.str pre)), (4, .c (.int .i64 deep)), (5, .c (.rw 1)), (14, .c (.rw 2)), (16, .c (.int .i64 p.1))], [.dead, .row 4 Fi encFi p.2, .row 4 Fi encFi l]⟩) (fun p => ((p.1 ≤ l.length ∧ FitF 40000 p.2) ∧ whL F pre (l.drop p.1) p.2 = W) ∧ True) (fun p => l.length - p.1) (0, ([] : List Fi)) [] [.new, .new, .same 2] ⟨⟨⟨Nat.zero_le _, hf⟩, by rw [List.drop_zero]; exact hW.symm⟩, trivial⟩ ?_ (fun ⟨i, q⟩ hq => ?_)
 ·repeat' first | exact trivial | exact rfl | refine And.intro ?_ ?_
 obtain ⟨⟨⟨hi, hq⟩, hw⟩, -⟩ := hq
 have hq : FitF 40000 q := hq
 have hw : whL F pre (l.drop i) q = W := hw
 have hql := hq.len
 (conv => whnf)
 refine dec (fun h5 => ?_) (fun h5 => ?_)
 ·have hlt : i < l.length := by have h5 : (i : Int) < l.length := h5; omega
  have hiy : l[i]? = some l[i] := List.getElem?_eq_getElem hlt
  have hxp := hfp _ (List.getElem_mem hlt)
  rw [List.drop_eq_getElem_cons hlt] at hw
  generalize l[i] = x at hiy hxp hw
  unfold whL at hw
  (conv => whnf)
  refine ⟨i, ⟨rfl, hlt⟩, ?_⟩
  (conv => whnf)
  refine ⟨x, hiy, ?_⟩
  (conv => whnf)
  refine dec (fun h6 => ?_) (fun h6 => ?_)
  ·have h6 : x.mode = 3 := h6
   rw [if_pos h6] at hw
   have hpl : ((pre ++ x.path) ++ [47]).length ≤ pre.length + 4001 := by simp only [List.length_append, List.length_singleton]; omega
   have p6 := ih (deep + 1) x.repo x.id ((pre ++ x.path) ++ [47]) q (by omega) (by omega) hq
   have hf2 := hff x.repo x.id ((pre ++ x.path) ++ [47]) q hpl hq
   generalize F x.repo x.id ((pre ++ x.path) ++ [47]) q = R at p6 hf2 hw
   obtain ⟨o', c'⟩ := R
   dsimp only at p6 hf2 hw
   (conv => whnf)
   refine ⟨false, .grow, (.l [0, 1, 2, 3, 4, 5, 6, 7, 8, 9, 10, 11, 12, 13, 14, 15, 16, 17, 18, 19, 20, 21, 22, 23, 24, 25, 26, 27]), by kernel_rfl, .inl ?_⟩
   (conv => whnf)
   refine ⟨i, ⟨rfl, hlt⟩, ?_⟩
   (conv => whnf)
   refine ⟨x, hiy, ?_⟩
   (conv => whnf)
   refine ⟨i, ⟨rfl, hlt⟩, ?_⟩
   (conv => whnf)
   refine ⟨x, hiy, ?_⟩
   (conv => whnf)
   refine ⟨i, ⟨rfl, hlt⟩, ?_⟩
   (conv => whnf)
   refine ⟨x, hiy, ?_⟩
   (conv => whnf)
   refine ⟨(show pre.length + x.path.length ≤ 9223372036854775807 by omega), ?_⟩
   (conv => whnf)
   refine ⟨(show (pre ++ x.path).length + 1 ≤ 9223372036854775807 by rw [List.length_append]; omega), ?_⟩
   (conv => whnf)
   refine ⟨i64 (by omega) (by omega), ?_⟩
   (conv => whnf)
   refine cl [] [1] (p6) ?_
   (conv => whnf)
   refine decN (fun h7 => ?_) (fun h7 => ?_)
   ·have h7 : ¬ c' = 0 := h7
    rw [if_neg h7] at hw
    subst hw
    rw [show okW (o', c') = [] from if_neg h7]
    (conv => whnf)
    exact rx [] [.new, .new]
   ·obtain rfl : c' = 0 := h7
    repeat' ((conv => whnf); refine I6 ?_)
    refine ag (i + 1, o') [] [.same 0, .same 3, .same 2] ⟨⟨⟨hlt, hf2⟩, hw⟩, trivial⟩ (by simp only []; omega) ?_
    repeat' first | exact trivial | exact rfl | refine And.intro ?_ ?_
  ·have h6 : ¬ x.mode = 3 := h6
   rw [if_neg h6] at hw
   (conv => whnf)
   refine dec (fun h7 => ?_) (fun h7 => ?_)
   ·have h7 : (60 : Int) ≤ q.length := h7
    rw [if_pos (by omega)] at hw
    subst hw
    rw [show okW (q, 5) = [] from rfl]
    (conv => whnf)
    exact rx [] [.new, .new]
   ·have h7 : ¬ (60 : Int) ≤ q.length := h7
    rw [if_neg (by omega)] at hw
    have hq2 := hq.snoc (by omega) (f := ⟨pre ++ x.path, x.mode, x.id, x.repo⟩) (by simp only [List.length_append]; omega)
    (conv => whnf)
    refine ⟨i, ⟨rfl, hlt⟩, ?_⟩
    (conv => whnf)
    refine ⟨x, hiy, ?_⟩
    (conv => whnf)
    refine ⟨(show pre.length + x.path.length ≤ 9223372036854775807 by omega), ?_⟩
    (conv => whnf)
    refine ⟨[⟨pre ++ x.path, x.mode, x.id, x.repo⟩], rfl, ?_⟩
    (conv => whnf)
    refine ⟨_, _, rfl, rfl, (by simp only [List.length_append, List.length_cons, List.length_nil]; omega), ?_⟩
    repeat' ((conv => whnf); refine I6 ?_)
    refine ag (i + 1, q ++ [⟨pre ++ x.path, x.mode, x.id, x.repo⟩]) [] [.same 0, .same 5, .same 2] ⟨⟨⟨hlt, hq2⟩, hw⟩, trivial⟩ (by simp only []; omega) ?_
    repeat' first | exact trivial | exact rfl | refine And.intro ?_ ?_
 ·have h5 : ¬ (i : Int) < l.length := h5
  rw [List.drop_of_length_le (by omega)] at hw
  obtain rfl : (q, 0) = W := hw
  (conv => whnf)
  exact rx [] [.same 0, .same 1]
end Go.Nest
end
