/- part -/
import Derived.Test.YtpmjnbidmcnhnaaGreatDoorD9
import Derived.Test.YtpmjnbidmcnhnaaGreatDoorD18
import Derived.Test.YtpmjnbidmcnhnaaGreatDoorF7
import Derived.Test.YtpmjnbidmcnhnaaGreatDoorD17
import Derived.Test.YtpmjnbidmcnhnaaGreatDoorG12
import Derived.Test.YtpmjnbidmcnhnaaGreatDoorW7
import Derived.Test.YtpmjnbidmcnhnaaGreatDoorU0
import Derived.Test.YtpmjnbidmcnhnaaGreatDoorD14
import Derived.Test.YtpmjnbidmcnhnaaGreatDoorW9
import Derived.Test.YtpmjnbidmcnhnaaGreatDoorR1
set_option linter.unusedVariables false
set_option linter.unusedSimpArgs false
section

namespace Go.Nest
open Go Go.AM Go.Proofs
open Go.Proofs.YtpmjnbidmcnhnaaGreatDoor (tab tabOk)
set_option maxRecDepth 4000
def borC (b : Nat → List Int) (r q : Int) : Int := if isR r = false ∨ isR q = false then 1 else if hasI (lendP b q) r = true then 10 else if hasI (b r.toNat) q = true then 11 else 0
def borO (b : Nat → List Int) (r q : Int) : Nat → List Int := if borC b r q ≠ 0 then b else upd b r.toNat (b r.toNat ++ [q])
structure BorNd (b : Nat → List Int) : Prop where
 ok : BorOk b
 nd : ∀ i, i < 4 → (b i).Nodup
theorem BorNd.nil : BorNd fun _ => [] := ⟨fun i h => ⟨Nat.zero_le _, fun q hq => by cases hq⟩, fun i h => List.nodup_nil⟩
theorem BorNd.bor {b : Nat → List Int} (h : BorNd b) (r q : Int) : BorNd (borO b r q) := by
 unfold borO
 split
 ·exact h
 ·rename_i hc
  have hc : borC b r q = 0 := Decidable.not_not.1 hc
  unfold borC at hc
  split at hc
  ·cases hc
  rename_i h1
  split at hc
  ·cases hc
  split at hc
  ·cases hc
  rename_i h3
  have hr : isR r = true := by cases e : isR r with | true => rfl | false => exact absurd (.inl e) h1
  have hq : isR q = true := by cases e : isR q with | true => rfl | false => exact absurd (.inr e) h1
  obtain ⟨k, hk, rfl⟩ := isR_iff.1 hr
  obtain ⟨j, hj, rfl⟩ := isR_iff.1 hq
  rw [Int.toNat_natCast] at h3 ⊢
  have hno : (j : Int) ∉ b k := fun hm => h3 (hasI_iff.2 hm)
  have hnd : (b k ++ [(j : Int)]).Nodup := by
   rw [List.nodup_append]
   exact ⟨h.nd k hk, by simp, fun x hx y hy => by rw [List.mem_singleton] at hy; subst hy; exact fun e => hno (e ▸ hx)⟩
  have hall : ∀ x ∈ b k ++ [(j : Int)], 0 ≤ x ∧ x < (4 : Nat) := fun x hx => by
   rcases List.mem_append.1 hx with hx | hx
   ·exact (h.ok k hk).2 x hx
   ·rw [List.mem_singleton] at hx; subst hx; omega
  have hu : ∀ i, upd b k (b k ++ [(j : Int)]) i = if i = k then b k ++ [(j : Int)] else b i := fun i => by
   unfold upd
   by_cases e : i = k
   ·subst e; rw [Nat.beq_refl, if_pos rfl]; rfl
   ·rw [if_neg e]
    have : Nat.beq i k = false := by
     cases hbq : Nat.beq i k with
     | false => rfl
     | true => exact absurd (Nat.eq_of_beq_eq_true hbq) e
    rw [this]; rfl
  refine ⟨fun i hi => ?_, fun i hi => ?_⟩
  ·rw [hu]
   split
   ·exact ⟨nodup_len 4 hnd hall, hall⟩
   ·exact h.ok i hi
  ·rw [hu]
   split
   ·exact hnd
   ·exact h.nd i hi
set_option maxHeartbeats 4000000 in
theorem borD_spec (L : List Ob) (o : Nat → List Bool) (b : Nat → List Int) (hb4 : BorOk b) (r q : Int) : Does Tryz.prog 49 [.c (.ptr 0 0), .c (.int .i64 r), .c (.int .i64 q)] [.box [.ptr 1 0, .rw 3, .rw 4, .rw 5, .rw 6, .rw 7, .rw 8, .rw 9, .rw 10], .box [.rw 2], .row 6 Ob encOb L, .row 1 Bool encBo (o 0), .row 1 Bool encBo (o 1), .row 1 Bool encBo (o 2), .row 1 Bool encBo (o 3), .row 1 Int encI (b 0), .row 1 Int encI (b 1), .row 1 Int encI (b 2), .row 1 Int encI (b 3)] (Rt (.c (.int .i64 (borC b r q))) [.box [.ptr 1 0, .rw 3, .rw 4, .rw 5, .rw 6, .rw 11, .rw 12, .rw 13, .rw 14], .box [.rw 2], .row 6 Ob encOb L, .row 1 Bool encBo (o 0), .row 1 Bool encBo (o 1), .row 1 Bool encBo (o 2), .row 1 Bool encBo (o 3), .dead, .dead, .dead, .dead, .row 1 Int encI ((borO b r q) 0), .row 1 Int encI ((borO b r q) 1), .row 1 Int encI ((borO b r q) 2), .row 1 Int encI ((borO b r q) 3)]) := by
 have p1 := repo_spec r
 have p2 := repo_spec q
 refine X_spec (n := 45) (n0 := 11) tabOk Tryz.call49 Tryz.func49 ?_
 intro hb
 cases hr : isR r with
 | false =>
  rw [hr] at p1
  have e : borC b r q = 1 := by unfold borC; rw [hr]; rfl
  rw [show borO b r q = b by unfold borO; rw [e]; rfl, e]
  (conv => whnf)
  refine cl [] [] (p1) ?_
  (conv => whnf)
  exact rx [] [.same 0, .same 1, .same 2, .same 3, .same 4, .same 5, .same 6, .same 7, .same 8, .same 9, .same 10, .same 7, .same 8, .same 9, .same 10]
 | true =>
  rw [hr] at p1
  cases hq : isR q with
  | false =>
   rw [hq] at p2
   have e : borC b r q = 1 := by unfold borC; rw [hr, hq]; rfl
   rw [show borO b r q = b by unfold borO; rw [e]; rfl, e]
   (conv => whnf)
   refine cl [] [] (p1) ?_
   (conv => whnf)
   refine cl [] [] (p2) ?_
   (conv => whnf)
   exact rx [] [.same 0, .same 1, .same 2, .same 3, .same 4, .same 5, .same 6, .same 7, .same 8, .same 9, .same 10, .same 7, .same 8, .same 9, .same 10]
  | true =>
   rw [hq] at p2
   have e1 : borC b r q = if hasI (lendP b q) r = true then 10 else if hasI (b r.toNat) q = true then 11 else 0 := by unfold borC; rw [hr, hq]; rfl
   (conv => whnf)
   refine cl [] [] (p1) ?_
   (conv => whnf)
   refine cl [] [] (p2) ?_
   (conv => whnf)
   refine cl [] [] (lenders_spec L o b hb4 q hq) ?_
   (conv => whnf)
   refine cl [] [] (contains_spec (lendP b q) r) ?_
   (conv => whnf)
   refine boo (fun h1 => ?_) (fun h1 => ?_)
   ·have e : borC b r q = 10 := by rw [e1]; exact if_pos h1
    rw [show borO b r q = b by unfold borO; rw [e]; rfl, e]
    (conv => whnf)
    exact rx [] [.same 0, .same 1, .same 2, .same 3, .same 4, .same 5, .same 6, .same 7, .same 8, .same 9, .same 10, .same 7, .same 8, .same 9, .same 10]
   ·have h1 : hasI (lendP b q) r = false := h1
    have e2 : borC b r q = if hasI (b r.toNat) q = true then 11 else 0 := by rw [e1]; exact if_neg (by rw [h1]; decide)
    obtain ⟨k, hk, rfl⟩ := isR_iff.1 hr
    rcases four hk with rfl | rfl | rfl | rfl
    ·(conv => whnf)
     refine ⟨0, ⟨rfl, by decide⟩, ?_⟩
     (conv => whnf)
     refine cl [] [] (contains_spec (b 0) q) ?_
     (conv => whnf)
     refine boo (fun h2 => ?_) (fun h2 => ?_)
     ·have e : borC b (0 : Nat) q = 11 := by rw [e2]; exact if_pos h2
      rw [show borO b (0 : Nat) q = b by unfold borO; rw [e]; rfl, e]
      (conv => whnf)
      exact rx [] [.same 0, .same 1, .same 2, .same 3, .same 4, .same 5, .same 6, .same 7, .same 8, .same 9, .same 10, .same 7, .same 8, .same 9, .same 10]
     ·have h2 : hasI (b 0) q = false := h2
      have hl4 := (hb4 0 (by decide)).1
      have e : borC b (0 : Nat) q = 0 := by rw [e2]; exact if_neg (by show ¬ hasI (b 0) q = true; rw [h2]; decide)
      rw [show borO b (0 : Nat) q = upd b 0 (b 0 ++ [q]) by unfold borO; rw [e]; rfl, e]
      (conv => whnf)
      refine ⟨false, .grow, (.l [0, 1, 2, 3, 4, 5, 6, 7, 8, 11, 12, 9, 10, 13, 14]), by kernel_rfl, .inl ?_⟩
      (conv => whnf)
      refine ⟨0, ⟨rfl, by decide⟩, ?_⟩
      (conv => whnf)
      refine ⟨[q], rfl, ?_⟩
      (conv => whnf)
      refine ⟨_, _, rfl, rfl, (by simp only [List.length_append, List.length_cons, List.length_nil]; omega), ?_⟩
      (conv => whnf)
      refine ⟨0, ⟨rfl, by decide⟩, ?_⟩
      (conv => whnf)
      exact rx [] [.same 0, .same 1, .same 2, .same 3, .same 4, .same 5, .same 6, .same 7, .same 8, .same 9, .same 10, .same 13, .same 8, .same 9, .same 10]
    ·(conv => whnf)
     refine ⟨1, ⟨rfl, by decide⟩, ?_⟩
     (conv => whnf)
     refine cl [] [] (contains_spec (b 1) q) ?_
     (conv => whnf)
     refine boo (fun h2 => ?_) (fun h2 => ?_)
     ·have e : borC b (1 : Nat) q = 11 := by rw [e2]; exact if_pos h2
      rw [show borO b (1 : Nat) q = b by unfold borO; rw [e]; rfl, e]
      (conv => whnf)
      exact rx [] [.same 0, .same 1, .same 2, .same 3, .same 4, .same 5, .same 6, .same 7, .same 8, .same 9, .same 10, .same 7, .same 8, .same 9, .same 10]
     ·have h2 : hasI (b 1) q = false := h2
      have hl4 := (hb4 1 (by decide)).1
      have e : borC b (1 : Nat) q = 0 := by rw [e2]; exact if_neg (by show ¬ hasI (b 1) q = true; rw [h2]; decide)
      rw [show borO b (1 : Nat) q = upd b 1 (b 1 ++ [q]) by unfold borO; rw [e]; rfl, e]
      (conv => whnf)
      refine ⟨false, .grow, (.l [0, 1, 2, 3, 4, 5, 6, 7, 8, 11, 12, 9, 10, 13, 14]), by kernel_rfl, .inl ?_⟩
      (conv => whnf)
      refine ⟨1, ⟨rfl, by decide⟩, ?_⟩
      (conv => whnf)
      refine ⟨[q], rfl, ?_⟩
      (conv => whnf)
      refine ⟨_, _, rfl, rfl, (by simp only [List.length_append, List.length_cons, List.length_nil]; omega), ?_⟩
      (conv => whnf)
      refine ⟨1, ⟨rfl, by decide⟩, ?_⟩
      (conv => whnf)
      exact rx [] [.same 0, .same 1, .same 2, .same 3, .same 4, .same 5, .same 6, .same 7, .same 8, .same 9, .same 10, .same 7, .same 13, .same 9, .same 10]
    ·(conv => whnf)
     refine ⟨2, ⟨rfl, by decide⟩, ?_⟩
     (conv => whnf)
     refine cl [] [] (contains_spec (b 2) q) ?_
     (conv => whnf)
     refine boo (fun h2 => ?_) (fun h2 => ?_)
     ·have e : borC b (2 : Nat) q = 11 := by rw [e2]; exact if_pos h2
      rw [show borO b (2 : Nat) q = b by unfold borO; rw [e]; rfl, e]
      (conv => whnf)
      exact rx [] [.same 0, .same 1, .same 2, .same 3, .same 4, .same 5, .same 6, .same 7, .same 8, .same 9, .same 10, .same 7, .same 8, .same 9, .same 10]
     ·have h2 : hasI (b 2) q = false := h2
      have hl4 := (hb4 2 (by decide)).1
      have e : borC b (2 : Nat) q = 0 := by rw [e2]; exact if_neg (by show ¬ hasI (b 2) q = true; rw [h2]; decide)
      rw [show borO b (2 : Nat) q = upd b 2 (b 2 ++ [q]) by unfold borO; rw [e]; rfl, e]
      (conv => whnf)
      refine ⟨false, .grow, (.l [0, 1, 2, 3, 4, 5, 6, 7, 8, 11, 12, 9, 10, 13, 14]), by kernel_rfl, .inl ?_⟩
      (conv => whnf)
      refine ⟨2, ⟨rfl, by decide⟩, ?_⟩
      (conv => whnf)
      refine ⟨[q], rfl, ?_⟩
      (conv => whnf)
      refine ⟨_, _, rfl, rfl, (by simp only [List.length_append, List.length_cons, List.length_nil]; omega), ?_⟩
      (conv => whnf)
      refine ⟨2, ⟨rfl, by decide⟩, ?_⟩
      (conv => whnf)
      exact rx [] [.same 0, .same 1, .same 2, .same 3, .same 4, .same 5, .same 6, .same 7, .same 8, .same 9, .same 10, .same 7, .same 8, .same 13, .same 10]
    ·(conv => whnf)
     refine ⟨3, ⟨rfl, by decide⟩, ?_⟩
     (conv => whnf)
     refine cl [] [] (contains_spec (b 3) q) ?_
     (conv => whnf)
     refine boo (fun h2 => ?_) (fun h2 => ?_)
     ·have e : borC b (3 : Nat) q = 11 := by rw [e2]; exact if_pos h2
      rw [show borO b (3 : Nat) q = b by unfold borO; rw [e]; rfl, e]
      (conv => whnf)
      exact rx [] [.same 0, .same 1, .same 2, .same 3, .same 4, .same 5, .same 6, .same 7, .same 8, .same 9, .same 10, .same 7, .same 8, .same 9, .same 10]
     ·have h2 : hasI (b 3) q = false := h2
      have hl4 := (hb4 3 (by decide)).1
      have e : borC b (3 : Nat) q = 0 := by rw [e2]; exact if_neg (by show ¬ hasI (b 3) q = true; rw [h2]; decide)
      rw [show borO b (3 : Nat) q = upd b 3 (b 3 ++ [q]) by unfold borO; rw [e]; rfl, e]
      (conv => whnf)
      refine ⟨false, .grow, (.l [0, 1, 2, 3, 4, 5, 6, 7, 8, 11, 12, 9, 10, 13, 14]), by kernel_rfl, .inl ?_⟩
      (conv => whnf)
      refine ⟨3, ⟨rfl, by decide⟩, ?_⟩
      (conv => whnf)
      refine ⟨[q], rfl, ?_⟩
      (conv => whnf)
      refine ⟨_, _, rfl, rfl, (by simp only [List.length_append, List.length_cons, List.length_nil]; omega), ?_⟩
      (conv => whnf)
      refine ⟨3, ⟨rfl, by decide⟩, ?_⟩
      (conv => whnf)
      exact rx [] [.same 0, .same 1, .same 2, .same 3, .same 4, .same 5, .same 6, .same 7, .same 8, .same 9, .same 10, .same 7, .same 8, .same 9, .same 13]
end Go.Nest
end
/- part -/
section

namespace Go.Nest
open Go Go.AM Go.Proofs
open Go.Proofs.YtpmjnbidmcnhnaaGreatDoor (tab tabOk)
set_option maxRecDepth 4000
noncomputable def lostP (L : List Ob) (d : Dp) (q id : Int) : Bool := ((reachP L [id]).any fun k => !hasP d q k) || decide ((reachP L [id]).length = 0)
noncomputable def fetC (L : List Ob) (d : Dp) (r q id : Int) : Int := if isR r = false ∨ isR q = false then 1 else if lostP L d q id = true then 14 else addC L r [id]
noncomputable def fetO (L : List Ob) (o : Nat → List Bool) (b : Nat → List Int) (r q id : Int) : Nat → List Bool := if isR r = false ∨ isR q = false then o else if lostP L ⟨o, b⟩ q id = true then o else addO L o b r [id]
theorem fet1_spec (L : List Ob) (o : Nat → List Bool) (b : Nat → List Int) (hb4 : BorOk b) (q x : Int) : Does Tryz.prog 88 [.c (.int .i64 x), .c (.bp [.bp [.bp [.bs 6 Ob encOb L], .bs 1 Bool encBo (o 0), .bs 1 Bool encBo (o 1), .bs 1 Bool encBo (o 2), .bs 1 Bool encBo (o 3), .bs 1 Int encI (b 0), .bs 1 Int encI (b 1), .bs 1 Int encI (b 2), .bs 1 Int encI (b 3)]]), .c (.bp [.int .i64 q])] [] (Rt (.c (.bool (!hasP ⟨o, b⟩ q x))) []) := by
 refine X_spec (n := 10) (n0 := 0) tabOk Tryz.call88 Tryz.func88 ?_
 intro hb
 (conv => whnf)
 refine cl [] [] (hasD_spec L o b hb4 q x) ?_
 (conv => whnf)
 exact rtB rfl
set_option maxHeartbeats 4000000 in
theorem fetD_spec (L : List Ob) (hL : PoolOk L) (o : Nat → List Bool) (b : Nat → List Int) (hb4 : BorOk b) (ho : ∀ k, k < 4 → (o k).length ≤ 1000000) (r q id : Int) : Does Tryz.prog 48 [.c (.ptr 0 0), .c (.int .i64 r), .c (.int .i64 q), .c (.int .i64 id)] [.box [.ptr 1 0, .rw 3, .rw 4, .rw 5, .rw 6, .rw 7, .rw 8, .rw 9, .rw 10], .box [.rw 2], .row 6 Ob encOb L, .row 1 Bool encBo (o 0), .row 1 Bool encBo (o 1), .row 1 Bool encBo (o 2), .row 1 Bool encBo (o 3), .row 1 Int encI (b 0), .row 1 Int encI (b 1), .row 1 Int encI (b 2), .row 1 Int encI (b 3)] (Rt (.c (.int .i64 (fetC L ⟨o, b⟩ r q id))) [.box [.ptr 1 0, .rw 11, .rw 12, .rw 13, .rw 14, .rw 7, .rw 8, .rw 9, .rw 10], .box [.rw 2], .row 6 Ob encOb L, .dead, .dead, .dead, .dead, .row 1 Int encI (b 0), .row 1 Int encI (b 1), .row 1 Int encI (b 2), .row 1 Int encI (b 3), .row 1 Bool encBo ((fetO L o b r q id) 0), .row 1 Bool encBo ((fetO L o b r q id) 1), .row 1 Bool encBo ((fetO L o b r q id) 2), .row 1 Bool encBo ((fetO L o b r q id) 3)]) := by
 have p1 := repo_spec r
 have p2 := repo_spec q
 refine X_spec (n := 44) (n0 := 11) tabOk Tryz.call48 Tryz.func48 ?_
 intro hb
 cases hr : isR r with
 | false =>
  rw [hr] at p1
  rw [show fetC L ⟨o, b⟩ r q id = 1 by unfold fetC; rw [hr]; rfl, show fetO L o b r q id = o by unfold fetO; rw [hr]; rfl]
  (conv => whnf)
  refine cl [] [] (p1) ?_
  (conv => whnf)
  exact rx [] [.same 0, .same 1, .same 2, .same 3, .same 4, .same 5, .same 6, .same 7, .same 8, .same 9, .same 10, .same 3, .same 4, .same 5, .same 6]
 | true =>
  rw [hr] at p1
  cases hq : isR q with
  | false =>
   rw [hq] at p2
   rw [show fetC L ⟨o, b⟩ r q id = 1 by unfold fetC; rw [hr, hq]; rfl, show fetO L o b r q id = o by unfold fetO; rw [hr, hq]; rfl]
   (conv => whnf)
   refine cl [] [] (p1) ?_
   (conv => whnf)
   refine cl [] [] (p2) ?_
   (conv => whnf)
   exact rx [] [.same 0, .same 1, .same 2, .same 3, .same 4, .same 5, .same 6, .same 7, .same 8, .same 9, .same 10, .same 3, .same 4, .same 5, .same 6]
  | true =>
   rw [hq] at p2
   have e1 : fetC L ⟨o, b⟩ r q id = if lostP L ⟨o, b⟩ q id = true then 14 else addC L r [id] := by unfold fetC; rw [hr, hq]; rfl
   have e2 : fetO L o b r q id = if lostP L ⟨o, b⟩ q id = true then o else addO L o b r [id] := by unfold fetO; rw [hr, hq]; rfl
   have p3 := reach_spec L hL [id] (by simp)
   have p5 := addD_dspec L hL o b hb4 ho r [id] (by simp)
   have p4 := fun l => containsD 88 L o b q (fun x => !hasP ⟨o, b⟩ q x) (fet1_spec L o b hb4 q) l
   have el : lostP L ⟨o, b⟩ q id = (((reachP L [id]).any fun k => !hasP ⟨o, b⟩ q k) || decide ((reachP L [id]).length = 0)) := rfl
   generalize reachP L [id] = rl at p3 el
   have p4 := p4 rl
   generalize (rl.any fun k => !hasP ⟨o, b⟩ q k) = a at p4 el
   generalize lostP L ⟨o, b⟩ q id = lo at el e1 e2
   generalize fetC L ⟨o, b⟩ r q id = C at *
   generalize fetO L o b r q id = O at *
   (conv => whnf)
   refine cl [] [] (p1) ?_
   (conv => whnf)
   refine cl [] [] (p2) ?_
   (conv => whnf)
   refine ⟨[id], rfl, ?_⟩
   (conv => whnf)
   refine cl [] [] (p3) ?_
   (conv => whnf)
   refine cl [] [] (p4) ?_
   (conv => whnf)
   refine boo (fun h1 => ?_) (fun h1 => ?_)
   ·have h1 : a = true := h1
    rw [h1] at el
    rw [el] at e1 e2
    obtain rfl : C = 14 := e1
    obtain rfl : O = o := e2
    (conv => whnf)
    exact rx [] [.same 0, .same 1, .same 2, .same 3, .same 4, .same 5, .same 6, .same 7, .same 8, .same 9, .same 10, .same 3, .same 4, .same 5, .same 6]
   ·have h1 : a = false := h1
    rw [h1, Bool.false_or] at el
    (conv => whnf)
    refine ⟨[id], rfl, ?_⟩
    (conv => whnf)
    refine cl [] [] (p3) ?_
    (conv => whnf)
    refine dec (fun h2 => ?_) (fun h2 => ?_)
    ·have h2 : (rl.length : Int) = 0 := h2
     rw [decide_eq_true (by omega)] at el
     rw [el] at e1 e2
     obtain rfl : C = 14 := e1
     obtain rfl : O = o := e2
     (conv => whnf)
     exact rx [] [.same 0, .same 1, .same 2, .same 3, .same 4, .same 5, .same 6, .same 7, .same 8, .same 9, .same 10, .same 3, .same 4, .same 5, .same 6]
    ·have h2 : ¬ (rl.length : Int) = 0 := h2
     rw [decide_eq_false (by omega)] at el
     rw [el] at e1 e2
     obtain rfl : C = addC L r [id] := e1
     obtain rfl : O = addO L o b r [id] := e2
     (conv => whnf)
     refine ⟨[id], rfl, ?_⟩
     (conv => whnf)
     refine cl [] [0, 1, 2, 3, 4, 5, 6, 7, 8, 9, 10] (p5) ?_
     (conv => whnf)
     exact rx [] [.same 0, .same 1, .same 2, .same 3, .same 4, .same 5, .same 6, .same 7, .same 8, .same 9, .same 10, .same 18, .same 19, .same 20, .same 21]
end Go.Nest
end
/- part -/
section

namespace Go.Nest
open Go Go.AM Go.Proofs
open Go.Proofs.YtpmjnbidmcnhnaaGreatDoor (tab tabOk)
set_option maxRecDepth 4000
theorem whole1_spec (L : List Ob) (o : Nat → List Bool) (b : Nat → List Int) (hb4 : BorOk b) (q x : Int) : Does Tryz.prog 105 [.c (.int .i64 x), .c (.bp [.bp [.bp [.bs 6 Ob encOb L], .bs 1 Bool encBo (o 0), .bs 1 Bool encBo (o 1), .bs 1 Bool encBo (o 2), .bs 1 Bool encBo (o 3), .bs 1 Int encI (b 0), .bs 1 Int encI (b 1), .bs 1 Int encI (b 2), .bs 1 Int encI (b 3)]]), .c (.bp [.int .i64 q])] [] (Rt (.c (.bool (!hasP ⟨o, b⟩ q x))) []) := by
 refine X_spec (n := 10) (n0 := 0) tabOk Tryz.call105 Tryz.func105 ?_
 intro hb
 (conv => whnf)
 refine cl [] [] (hasD_spec L o b hb4 q x) ?_
 (conv => whnf)
 exact rtB rfl
set_option maxHeartbeats 8000000 in
theorem whole_dspec (L : List Ob) (hL : PoolOk L) (o : Nat → List Bool) (b : Nat → List Int) (hb4 : BorOk b) : ∀ (n : Nat) (deep r id : Int) (pre : List UInt8) (out : List Fi), deep + n = 6 → pre.length + 4001 * n ≤ 40000 → FitF 40000 out → Does Tryz.prog 59 [.c (.bp [.bp [.bs 6 Ob encOb L], .bs 1 Bool encBo (o 0), .bs 1 Bool encBo (o 1), .bs 1 Bool encBo (o 2), .bs 1 Bool encBo (o 3), .bs 1 Int encI (b 0), .bs 1 Int encI (b 1), .bs 1 Int encI (b 2), .bs 1 Int encI (b 3)]), .c (.int .i64 r), .c (.int .i64 id), .c (.str pre), .c (.int .i64 deep), .c (.ptr 0 0)] [.box [.rw 1], .row 4 Fi encFi out] (Rt (.c (.int .i64 (whW L (hasP ⟨o, b⟩) n r id pre out).2)) [.box [.rw 2], .dead, .row 4 Fi encFi (whW L (hasP ⟨o, b⟩) n r id pre out).1]) := by
 intro n
 induction n with
 | zero =>
  intro deep r id pre out hd hp hf
  obtain rfl : deep = 6 := by simpa using hd
  refine X_spec (n := 112) (n0 := 2) tabOk Tryz.call59 Tryz.func59 ?_
  intro hb
  unfold whW
  (conv => whnf)
  refine cl [] [] (get_spec L hL id) ?_
  (conv => whnf)
  (conv => whnf)
  exact rx [] [.same 0, .same 1, .same 1]
 | succ n ih =>
  intro deep r id pre out hd hp hf
  have hW : whW L (hasP ⟨o, b⟩) (n + 1) r id pre out = if goneP L (hasP ⟨o, b⟩) r id = true then (out, 14) else if (filesP L (getP L id).tree).2 = 0 then whL (whW L (hasP ⟨o, b⟩) n) pre (filesP L (getP L id).tree).1 out else (out, (filesP L (getP L id).tree).2) := rfl
  have hG : goneP L (hasP ⟨o, b⟩) r id = (!decide (kindOf L id = 3) || (!hasP ⟨o, b⟩ r id || (reachP L [(getP L id).tree]).any fun k => !hasP ⟨o, b⟩ r k)) := rfl
  rw [← getP_kind] at hG
  generalize goneP L (hasP ⟨o, b⟩) r id = G at hW hG
  have hff : ∀ r id p out, p.length ≤ pre.length + 4001 → FitF 40000 out → FitF 40000 (whW L (hasP ⟨o, b⟩) n r id p out).1 := fun r id p out h1 h2 => whW_fit hL (by omega) h2
  generalize whW L (hasP ⟨o, b⟩) (n + 1) r id pre out = W at hW ⊢
  generalize whW L (hasP ⟨o, b⟩) n = F at hW ih hff
  have p1 := get_spec L hL id
  have p2 := hasD_spec L o b hb4 r id
  generalize getP L id = ob at hW hG p1
  have p3 := reach_spec L hL [ob.tree] (by simp)
  have p4 := fun l => containsD 105 L o b r (fun x => !hasP ⟨o, b⟩ r x) (whole1_spec L o b hb4 r) l
  have p5 := flatFiles_spec L hL ob.tree
  obtain ⟨hfl, hfp⟩ := files_sum hL ob.tree
  generalize hasP ⟨o, b⟩ r id = hs at hG p2
  generalize reachP L [ob.tree] = rl at p3 hG
  have p4 := p4 rl
  generalize (rl.any fun k => !hasP ⟨o, b⟩ r k) = lo at p4 hG
  generalize filesP L ob.tree = fs at hW p5 hfl hfp
  obtain ⟨l, c⟩ := fs
  dsimp only at hW p5 hfl hfp
  have hd5 : deep ≤ 5 := by omega
  refine X_spec (n := 112) (n0 := 2) tabOk Tryz.call59 Tryz.func59 ?_
  intro hb
  (conv => whnf)
  refine cl [] [] (p1) ?_
  (conv => whnf)
  refine dec (fun h => absurd (show (5 : Int) < deep from h) (by omega)) (fun _ => ?_)
  (conv => whnf)
  refine decN (fun h1 => ?_) (fun h1 => ?_)
  ·have h1 : ¬ ob.kind = 3 := h1
   rw [decide_eq_false h1] at hG
   rw [hG] at hW
   obtain rfl : W = (out, 14) := hW
   (conv => whnf)
   exact rx [] [.same 0, .same 1, .same 1]
  have h1 : ob.kind = 3 := h1
  rw [decide_eq_true h1] at hG
  (conv => whnf)
  refine cl [] [] (p2) ?_
  (conv => whnf)
  refine booN (fun h2 => ?_) (fun h2 => ?_)
  ·have h2 : hs = false := h2
   rw [h2] at hG
   rw [hG] at hW
   obtain rfl : W = (out, 14) := hW
   (conv => whnf)
   exact rx [] [.same 0, .same 1, .same 1]
  have h2 : hs = true := h2
  rw [h2] at hG
  have hG : G = lo := hG
  subst hG
  (conv => whnf)
  refine ⟨false, .grow, (.l [0, 1, 2, 3, 4, 5, 8, 6, 7, 9, 10]), by kernel_rfl, .inl ?_⟩
  (conv => whnf)
  refine ⟨[ob.tree], rfl, ?_⟩
  (conv => whnf)
  refine cl [] [] (p3) ?_
  (conv => whnf)
  refine cl [] [] (p4) ?_
  (conv => whnf)
  refine boo (fun h3 => ?_) (fun h3 => ?_)
  ·have h3 : G = true := h3
   rw [h3] at hW
   obtain rfl : W = (out, 14) := hW
   (conv => whnf)
   exact rx [] [.same 0, .same 1, .same 1]
  have h3 : G = false := h3
  rw [h3] at hW
  (conv => whnf)
  refine ⟨false, .grow, (.l [0, 1, 2, 3, 4, 5, 6, 7, 8, 9, 10, 11]), by kernel_rfl, .inl ?_⟩
  (conv => whnf)
  refine cl [] [] (p5) ?_
  (conv => whnf)
  refine decN (fun h4 => ?_) (fun h4 => ?_)
  ·have h4 : ¬ c = 0 := h4
   obtain rfl : W = (out, c) := hW.trans (if_neg h4)
   (conv => whnf)
   exact rx [] [.same 0, .same 1, .same 1]
  obtain rfl : c = 0 := h4
  have hW : W = whL F pre l out := hW
  (conv => whnf)
  refine lp (Nat × List Fi) (fun p => ⟨[(3, .c (.str pre)), (4, .c (.int .i64 deep)), (5, .c (.ptr 0 0)), (6, .c (.ptr 3 0)), (16, .c (.int .i64 0)), (67, .c (.rw 4)), (68, .c (.int .i64 l.length)), (69, .c (.int .i64 p.1))], [.box [.rw 2], .dead, .row 4 Fi encFi p.2, .box [.bp [.bp [.bs 6 Ob encOb L], .bs 1 Bool encBo (o 0), .bs 1 Bool encBo (o 1), .bs 1 Bool encBo (o 2), .bs 1 Bool encBo (o 3), .bs 1 Int encI (b 0), .bs 1 Int encI (b 1), .bs 1 Int encI (b 2), .bs 1 Int encI (b 3)]], .row 4 Fi encFi l]⟩) (fun p => ((p.1 ≤ l.length ∧ FitF 40000 p.2) ∧ whL F pre (l.drop p.1) p.2 = W) ∧ True) (fun p => l.length - p.1) (0, out) [] [.same 0, .same 1, .same 1, .same 2, .same 7] ⟨⟨⟨Nat.zero_le _, hf⟩, by rw [List.drop_zero]; exact hW.symm⟩, trivial⟩ ?_ (fun ⟨i, q⟩ hq => ?_)
  ·repeat' first | exact trivial | exact rfl | refine And.intro ?_ ?_
  obtain ⟨⟨⟨hi, hq⟩, hw⟩, -⟩ := hq
  have hq : FitF 40000 q := hq
  have hw : whL F pre (l.drop i) q = W := hw
  have hql := hq.len
  (conv => whnf)
  refine dec (fun h5 => ?_) (fun h5 => ?_)
  ·have hlt : i < l.length := by have h5 : (i : Int) < l.length := h5; omega
   have hiy : l[i]? = some l[i] := List.getElem?_eq_getElem hlt
   have hxp := hfp _ (List.getElem_mem hlt)
   rw [List.drop_eq_getElem_cons hlt] at hw
   generalize l[i] = x at hiy hxp hw
   unfold whL at hw
   (conv => whnf)
   refine ⟨i, ⟨rfl, hlt⟩, ?_⟩
   (conv => whnf)
   refine ⟨x, hiy, ?_⟩
   (conv => whnf)
   refine ⟨(show pre.length + x.path.length ≤ 9223372036854775807 by omega), ?_⟩
   (conv => whnf)
   refine dec (fun h6 => ?_) (fun h6 => ?_)
   ·have h6 : x.mode = 3 := h6
    rw [if_pos h6] at hw
    have hpl : ((pre ++ x.path) ++ [47]).length ≤ pre.length + 4001 := by simp only [List.length_append, List.length_singleton]; omega
    have p6 := ih (deep + 1) x.repo x.id ((pre ++ x.path) ++ [47]) q (by omega) (by omega) hq
    have hf2 := hff x.repo x.id ((pre ++ x.path) ++ [47]) q hpl hq
    generalize F x.repo x.id ((pre ++ x.path) ++ [47]) q = R at p6 hf2 hw
    obtain ⟨o', c'⟩ := R
    dsimp only at p6 hf2 hw
    (conv => whnf)
    refine ⟨(show (pre ++ x.path).length + 1 ≤ 9223372036854775807 by rw [List.length_append]; omega), ?_⟩
    (conv => whnf)
    refine ⟨i64 (by omega) (by omega), ?_⟩
    (conv => whnf)
    refine cl [] [0, 2] (p6) ?_
    (conv => whnf)
    refine decN (fun h7 => ?_) (fun h7 => ?_)
    ·have h7 : ¬ c' = 0 := h7
     rw [if_neg h7] at hw
     subst hw
     (conv => whnf)
     exact rx [] [.same 0, .same 1, .same 6]
    ·obtain rfl : c' = 0 := h7
     repeat' ((conv => whnf); refine I6 ?_)
     refine ag (i + 1, o') [] [.same 0, .same 1, .same 6, .same 3, .same 4] ⟨⟨⟨hlt, hf2⟩, hw⟩, trivial⟩ (by simp only []; omega) ?_
     repeat' first | exact trivial | exact rfl | refine And.intro ?_ ?_
   ·have h6 : ¬ x.mode = 3 := h6
    rw [if_neg h6] at hw
    (conv => whnf)
    refine dec (fun h7 => ?_) (fun h7 => ?_)
    ·have h7 : (q.length : Int) = 60 := h7
     rw [if_pos (by omega)] at hw
     subst hw
     (conv => whnf)
     exact rx [] [.same 0, .same 1, .same 2]
    ·have h7 : ¬ (q.length : Int) = 60 := h7
     rw [if_neg (by omega)] at hw
     have hq2 := hq.snoc (by omega) (f := ⟨pre ++ x.path, x.mode, x.id, x.repo⟩) (by simp only [List.length_append]; omega)
     (conv => whnf)
     refine ⟨false, .grow, (.l [0, 1, 2, 3, 4, 5, 6, 7, 8]), by kernel_rfl, .inl ?_⟩
     (conv => whnf)
     refine ⟨[⟨pre ++ x.path, x.mode, x.id, x.repo⟩], rfl, ?_⟩
     (conv => whnf)
     refine ⟨_, _, rfl, rfl, (by simp only [List.length_append, List.length_cons, List.length_nil]; omega), ?_⟩
     repeat' ((conv => whnf); refine I6 ?_)
     refine ag (i + 1, q ++ [⟨pre ++ x.path, x.mode, x.id, x.repo⟩]) [] [.same 0, .same 1, .same 7, .same 3, .same 4] ⟨⟨⟨hlt, hq2⟩, hw⟩, trivial⟩ (by simp only []; omega) ?_
     repeat' first | exact trivial | exact rfl | refine And.intro ?_ ?_
  ·have h5 : ¬ (i : Int) < l.length := h5
   rw [List.drop_of_length_le (by omega)] at hw
   obtain rfl : (q, 0) = W := hw
   (conv => whnf)
   exact rx [] [.same 0, .same 1, .same 2]
end Go.Nest
end
/- part -/
section

namespace Go.Nest
open Go Go.AM Go.Proofs
open Go.Proofs.YtpmjnbidmcnhnaaGreatDoor (tab tabOk)
set_option maxRecDepth 4000
def markR (o b : Nat → List Int) (r : Nat) (x : List Int) (id : Int) : List Int := if hasR (upd o r x) b r id = true then x else sortI (x ++ [id])
noncomputable def addRL (L : List Ob) (o b : Nat → List Int) (r : Nat) (ids : List Int) : List Int := (reachP L ids).foldl (markR o b r) (o r)
noncomputable def addRO (L : List Ob) (o b : Nat → List Int) (r : Int) (ids : List Int) : Nat → List Int := if addC L r ids ≠ 0 then o else upd o r.toNat (addRL L o b r.toNat ids)
theorem markR_len {o b : Nat → List Int} {r : Nat} : ∀ {l x : List Int}, (l.foldl (markR o b r) x).length ≤ x.length + l.length
 | [], x => Nat.le_refl _
 | id :: l, x => by
  rw [List.foldl_cons]
  have h1 := markR_len (o := o) (b := b) (r := r) (l := l) (x := markR o b r x id)
  have h2 : (markR o b r x id).length ≤ x.length + 1 := by
   unfold markR
   split
   ·omega
   ·have := sortI_len (l := x ++ [id]) (out := [])
    unfold sortI
    simp only [List.length_append, List.length_cons, List.length_nil] at this ⊢
    omega
  rw [List.length_cons]; omega
theorem markR_take {o b : Nat → List Int} {r : Nat} {l x : List Int} {i : Nat} (h : i < l.length) : (l.take (i + 1)).foldl (markR o b r) x = markR o b r ((l.take i).foldl (markR o b r) x) l[i] := by
 rw [List.take_succ_eq_append_getElem h, List.foldl_append]; rfl
set_option maxHeartbeats 8000000 in
theorem addR_dspec (L : List Ob) (hL : PoolOk L) (o b : Nat → List Int) (hb4 : BorOk b) (ho : ∀ k, k < 4 → (o k).length ≤ 10000) (r : Int) (ids : List Int) (hi : ids.length ≤ 1000000) : Does Tryz.prog 54 [.c (.ptr 0 0), .c (.int .i64 r), .c (.bs 1 Int encI ids)] [.box [.ptr 1 0, .rw 3, .rw 4, .rw 5, .rw 6, .rw 7, .rw 8, .rw 9, .rw 10], .box [.rw 2], .row 6 Ob encOb L, .row 1 Int encI (o 0), .row 1 Int encI (o 1), .row 1 Int encI (o 2), .row 1 Int encI (o 3), .row 1 Int encI (b 0), .row 1 Int encI (b 1), .row 1 Int encI (b 2), .row 1 Int encI (b 3)] (Rt (.c (.int .i64 (addC L r ids))) [.box [.ptr 1 0, .rw 11, .rw 12, .rw 13, .rw 14, .rw 7, .rw 8, .rw 9, .rw 10], .box [.rw 2], .row 6 Ob encOb L, .dead, .dead, .dead, .dead, .row 1 Int encI (b 0), .row 1 Int encI (b 1), .row 1 Int encI (b 2), .row 1 Int encI (b 3), .row 1 Int encI ((addRO L o b r ids) 0), .row 1 Int encI ((addRO L o b r ids) 1), .row 1 Int encI ((addRO L o b r ids) 2), .row 1 Int encI ((addRO L o b r ids) 3)]) := by
 have p1 := isRepo_spec r
 have hlen := hL.len
 refine X_spec (n := 67) (n0 := 11) tabOk Tryz.call54 Tryz.func54 ?_
 intro hb
 cases hr : isR r with
 | false =>
  rw [hr] at p1
  have e : addC L r ids = 1 := by unfold addC; rw [hr]; rfl
  rw [show addRO L o b r ids = o by unfold addRO; rw [e]; rfl, e]
  (conv => whnf)
  refine cl [] [] (p1) ?_
  (conv => whnf)
  exact rx [] [.same 0, .same 1, .same 2, .same 3, .same 4, .same 5, .same 6, .same 7, .same 8, .same 9, .same 10, .same 3, .same 4, .same 5, .same 6]
 | true =>
  rw [hr] at p1
  have e1 : addC L r ids = if (ids.any fun id => decide (kindOf L id = 0)) = true then 9 else 0 := by unfold addC; rw [hr]; rfl
  (conv => whnf)
  refine cl [] [] (p1) ?_
  (conv => whnf)
  refine lp Nat (fun i => ⟨[(0, .c (.ptr 0 0)), (1, .c (.int .i64 r)), (2, .c (.bs 1 Int encI ids)), (7, .c (.int .i64 i))], [.box [.ptr 1 0, .rw 3, .rw 4, .rw 5, .rw 6, .rw 7, .rw 8, .rw 9, .rw 10], .box [.rw 2], .row 6 Ob encOb L, .row 1 Int encI (o 0), .row 1 Int encI (o 1), .row 1 Int encI (o 2), .row 1 Int encI (o 3), .row 1 Int encI (b 0), .row 1 Int encI (b 1), .row 1 Int encI (b 2), .row 1 Int encI (b 3)]⟩) (fun i => i ≤ ids.length ∧ (ids.take i).any (fun id => decide (kindOf L id = 0)) = false) (fun i => ids.length - i) 0 [] [.same 0, .same 1, .same 2, .same 3, .same 4, .same 5, .same 6, .same 7, .same 8, .same 9, .same 10] ?_ ?_ (fun i hii => ?_)
  ·simp
  ·repeat' first | exact trivial | exact rfl | refine And.intro ?_ ?_
  obtain ⟨hii, hno⟩ := hii
  (conv => whnf)
  refine dec (fun h4 => ?_) (fun h4 => ?_)
  ·have hlt : i < ids.length := by have h4 : (i : Int) < ids.length := h4; omega
   have hiy : ids[i]? = some ids[i] := List.getElem?_eq_getElem hlt
   have ha := fun h => any_at (l := ids) (p := fun id => decide (kindOf L id = 0)) hlt h
   have ht := fun h => any_take (p := fun id => decide (kindOf L id = 0)) hlt hno h
   generalize ids[i] = x at hiy ha ht
   (conv => whnf)
   refine ⟨false, .grow, (.l [0, 1, 2, 3, 4, 5, 6, 7, 8, 9]), by kernel_rfl, .inl ?_⟩
   (conv => whnf)
   refine ⟨i, x, rfl, hiy, ?_⟩
   (conv => whnf)
   refine cl [] [] (kindR_spec L x) ?_
   (conv => whnf)
   refine dec (fun h5 => ?_) (fun h5 => ?_)
   ·have e : addC L r ids = 9 := by rw [e1, ha (decide_eq_true h5)]; rfl
    rw [show addRO L o b r ids = o by unfold addRO; rw [e]; rfl, e]
    (conv => whnf)
    exact rx [] [.same 0, .same 1, .same 2, .same 3, .same 4, .same 5, .same 6, .same 7, .same 8, .same 9, .same 10, .same 3, .same 4, .same 5, .same 6]
   ·repeat' ((conv => whnf); refine I6 ?_)
    refine ag (i + 1) [] [.same 0, .same 1, .same 2, .same 3, .same 4, .same 5, .same 6, .same 7, .same 8, .same 9, .same 10] ⟨hlt, ht (decide_eq_false h5)⟩ (by simp only []; omega) ?_
    repeat' first | exact trivial | exact rfl | refine And.intro ?_ ?_
  ·have h4 : ¬ (i : Int) < ids.length := h4
   rw [List.take_of_length_le (by omega)] at hno
   have e : addC L r ids = 0 := by rw [e1, hno]; rfl
   obtain ⟨k, hk, rfl⟩ := isR_iff.1 hr
   have eo : addRO L o b (k : Int) ids = upd o k (addRL L o b k ids) := by unfold addRO; rw [e]; rfl
   rw [e, eo]
   unfold addRL
   have hrl := reach_len (l := L) (ids := ids)
   have p3 := reachR_spec L hL ids hi
   generalize reachP L ids = rl at hrl p3 ⊢
   (conv => whnf)
   refine cl [] [] (p3) ?_
   (conv => whnf)
   rcases four hk with rfl | rfl | rfl | rfl
   ·refine lp Nat (fun i => ⟨[(0, .c (.ptr 0 0)), (1, .c (.int .i64 (0 : Nat))), (8, .c (.rw 12)), (9, .c (.int .i64 i))], [.box [.ptr 1 0, .rw 11, .rw 4, .rw 5, .rw 6, .rw 7, .rw 8, .rw 9, .rw 10], .box [.rw 2], .row 6 Ob encOb L, .dead, .row 1 Int encI (o 1), .row 1 Int encI (o 2), .row 1 Int encI (o 3), .row 1 Int encI (b 0), .row 1 Int encI (b 1), .row 1 Int encI (b 2), .row 1 Int encI (b 3), .row 1 Int encI ((rl.take i).foldl (markR o b 0) (o 0))] ++ [.row 1 Int encI rl]⟩) (fun i => i ≤ rl.length ∧ True) (fun i => rl.length - i) 0 [] [.same 0, .same 1, .same 2, .same 3, .same 4, .same 5, .same 6, .same 7, .same 8, .same 9, .same 10, .same 3, .same 11] ?_ ?_ (fun i hii => ?_)
    ·simp
    ·repeat' first | exact trivial | exact rfl | refine And.intro ?_ ?_
    (conv => whnf)
    refine dec (fun h6 => ?_) (fun h6 => ?_)
    ·have hlt : i < rl.length := by have h6 : (i : Int) < rl.length := h6; omega
     have hiy : rl[i]? = some rl[i] := List.getElem?_eq_getElem hlt
     have hst := markR_take (o := o) (b := b) (r := 0) (x := o 0) hlt
     have hml := markR_len (o := o) (b := b) (r := 0) (x := o 0) (l := rl.take i)
     rw [List.length_take] at hml
     have hoq := ho 0 (by decide)
     generalize (rl.take i).foldl (markR o b 0) (o 0) = y at hst hml ⊢
     generalize rl[i] = id at hiy hst
     have p4 := hasR_spec L (upd o 0 y) b hb4 (0 : Nat) id
     (conv => whnf)
     refine ⟨i, ⟨rfl, hlt⟩, ?_⟩
     (conv => whnf)
     refine ⟨id, hiy, ?_⟩
     (conv => whnf)
     refine cl [] [] (p4) ?_
     (conv => whnf)
     refine boo (fun h7 => ?_) (fun h7 => ?_)
     ·have h7 : hasR (upd o 0 y) b (0 : Nat) id = false := by simpa using h7
      rw [show markR o b 0 y id = sortI (y ++ [id]) from if_neg (by rw [h7]; decide)] at hst
      have p5 := sortedI_spec (y ++ [id]) (by rw [List.length_append, List.length_singleton]; omega)
      (conv => whnf)
      refine ⟨false, .grow, (.l [0, 1, 2, 3, 4, 5, 6, 7, 8, 9, 10, 11, 15, 16, 12, 13, 14, 17, 18]), by kernel_rfl, .inl ?_⟩
      (conv => whnf)
      refine ⟨0, ⟨rfl, by decide⟩, ?_⟩
      (conv => whnf)
      refine ⟨i, ⟨rfl, hlt⟩, ?_⟩
      (conv => whnf)
      refine ⟨id, hiy, ?_⟩
      (conv => whnf)
      refine ⟨[id], rfl, ?_⟩
      (conv => whnf)
      refine ⟨_, _, rfl, rfl, (by simp only [List.length_append, List.length_cons, List.length_nil]; omega), ?_⟩
      (conv => whnf)
      refine cl [] [] (p5) ?_
      (conv => whnf)
      refine ⟨0, ⟨rfl, by decide⟩, ?_⟩
      repeat' ((conv => whnf); refine I6 ?_)
      refine ag (i + 1) [] [.same 0, .same 1, .same 2, .same 3, .same 4, .same 5, .same 6, .same 7, .same 8, .same 9, .same 10, .same 15, .same 12] ⟨hlt, trivial⟩ (by simp only []; omega) ?_
      rw [hst]
      repeat' first | exact trivial | exact rfl | refine And.intro ?_ ?_
     ·have h7 : hasR (upd o 0 y) b (0 : Nat) id = true := by simpa using h7
      rw [show markR o b 0 y id = y from if_pos h7] at hst
      repeat' ((conv => whnf); refine I6 ?_)
      refine ag (i + 1) [] [.same 0, .same 1, .same 2, .same 3, .same 4, .same 5, .same 6, .same 7, .same 8, .same 9, .same 10, .same 11, .same 12] ⟨hlt, trivial⟩ (by simp only []; omega) ?_
      rw [hst]
      repeat' first | exact trivial | exact rfl | refine And.intro ?_ ?_
    ·obtain rfl : i = rl.length := by have h6 : ¬ (i : Int) < rl.length := h6; omega
     rw [List.take_length]
     (conv => whnf)
     exact rx [] [.same 0, .same 1, .same 2, .same 3, .same 4, .same 5, .same 6, .same 7, .same 8, .same 9, .same 10, .same 11, .same 4, .same 5, .same 6]
   ·refine lp Nat (fun i => ⟨[(0, .c (.ptr 0 0)), (1, .c (.int .i64 (1 : Nat))), (8, .c (.rw 12)), (9, .c (.int .i64 i))], [.box [.ptr 1 0, .rw 3, .rw 11, .rw 5, .rw 6, .rw 7, .rw 8, .rw 9, .rw 10], .box [.rw 2], .row 6 Ob encOb L, .row 1 Int encI (o 0), .dead, .row 1 Int encI (o 2), .row 1 Int encI (o 3), .row 1 Int encI (b 0), .row 1 Int encI (b 1), .row 1 Int encI (b 2), .row 1 Int encI (b 3), .row 1 Int encI ((rl.take i).foldl (markR o b 1) (o 1))] ++ [.row 1 Int encI rl]⟩) (fun i => i ≤ rl.length ∧ True) (fun i => rl.length - i) 0 [] [.same 0, .same 1, .same 2, .same 3, .same 4, .same 5, .same 6, .same 7, .same 8, .same 9, .same 10, .same 4, .same 11] ?_ ?_ (fun i hii => ?_)
    ·simp
    ·repeat' first | exact trivial | exact rfl | refine And.intro ?_ ?_
    (conv => whnf)
    refine dec (fun h6 => ?_) (fun h6 => ?_)
    ·have hlt : i < rl.length := by have h6 : (i : Int) < rl.length := h6; omega
     have hiy : rl[i]? = some rl[i] := List.getElem?_eq_getElem hlt
     have hst := markR_take (o := o) (b := b) (r := 1) (x := o 1) hlt
     have hml := markR_len (o := o) (b := b) (r := 1) (x := o 1) (l := rl.take i)
     rw [List.length_take] at hml
     have hoq := ho 1 (by decide)
     generalize (rl.take i).foldl (markR o b 1) (o 1) = y at hst hml ⊢
     generalize rl[i] = id at hiy hst
     have p4 := hasR_spec L (upd o 1 y) b hb4 (1 : Nat) id
     (conv => whnf)
     refine ⟨i, ⟨rfl, hlt⟩, ?_⟩
     (conv => whnf)
     refine ⟨id, hiy, ?_⟩
     (conv => whnf)
     refine cl [] [] (p4) ?_
     (conv => whnf)
     refine boo (fun h7 => ?_) (fun h7 => ?_)
     ·have h7 : hasR (upd o 1 y) b (1 : Nat) id = false := by simpa using h7
      rw [show markR o b 1 y id = sortI (y ++ [id]) from if_neg (by rw [h7]; decide)] at hst
      have p5 := sortedI_spec (y ++ [id]) (by rw [List.length_append, List.length_singleton]; omega)
      (conv => whnf)
      refine ⟨false, .grow, (.l [0, 1, 2, 3, 4, 5, 6, 7, 8, 9, 10, 11, 15, 16, 12, 13, 14, 17, 18]), by kernel_rfl, .inl ?_⟩
      (conv => whnf)
      refine ⟨1, ⟨rfl, by decide⟩, ?_⟩
      (conv => whnf)
      refine ⟨i, ⟨rfl, hlt⟩, ?_⟩
      (conv => whnf)
      refine ⟨id, hiy, ?_⟩
      (conv => whnf)
      refine ⟨[id], rfl, ?_⟩
      (conv => whnf)
      refine ⟨_, _, rfl, rfl, (by simp only [List.length_append, List.length_cons, List.length_nil]; omega), ?_⟩
      (conv => whnf)
      refine cl [] [] (p5) ?_
      (conv => whnf)
      refine ⟨1, ⟨rfl, by decide⟩, ?_⟩
      repeat' ((conv => whnf); refine I6 ?_)
      refine ag (i + 1) [] [.same 0, .same 1, .same 2, .same 3, .same 4, .same 5, .same 6, .same 7, .same 8, .same 9, .same 10, .same 15, .same 12] ⟨hlt, trivial⟩ (by simp only []; omega) ?_
      rw [hst]
      repeat' first | exact trivial | exact rfl | refine And.intro ?_ ?_
     ·have h7 : hasR (upd o 1 y) b (1 : Nat) id = true := by simpa using h7
      rw [show markR o b 1 y id = y from if_pos h7] at hst
      repeat' ((conv => whnf); refine I6 ?_)
      refine ag (i + 1) [] [.same 0, .same 1, .same 2, .same 3, .same 4, .same 5, .same 6, .same 7, .same 8, .same 9, .same 10, .same 11, .same 12] ⟨hlt, trivial⟩ (by simp only []; omega) ?_
      rw [hst]
      repeat' first | exact trivial | exact rfl | refine And.intro ?_ ?_
    ·obtain rfl : i = rl.length := by have h6 : ¬ (i : Int) < rl.length := h6; omega
     rw [List.take_length]
     (conv => whnf)
     exact rx [] [.same 0, .same 1, .same 2, .same 3, .same 4, .same 5, .same 6, .same 7, .same 8, .same 9, .same 10, .same 3, .same 11, .same 5, .same 6]
   ·refine lp Nat (fun i => ⟨[(0, .c (.ptr 0 0)), (1, .c (.int .i64 (2 : Nat))), (8, .c (.rw 12)), (9, .c (.int .i64 i))], [.box [.ptr 1 0, .rw 3, .rw 4, .rw 11, .rw 6, .rw 7, .rw 8, .rw 9, .rw 10], .box [.rw 2], .row 6 Ob encOb L, .row 1 Int encI (o 0), .row 1 Int encI (o 1), .dead, .row 1 Int encI (o 3), .row 1 Int encI (b 0), .row 1 Int encI (b 1), .row 1 Int encI (b 2), .row 1 Int encI (b 3), .row 1 Int encI ((rl.take i).foldl (markR o b 2) (o 2))] ++ [.row 1 Int encI rl]⟩) (fun i => i ≤ rl.length ∧ True) (fun i => rl.length - i) 0 [] [.same 0, .same 1, .same 2, .same 3, .same 4, .same 5, .same 6, .same 7, .same 8, .same 9, .same 10, .same 5, .same 11] ?_ ?_ (fun i hii => ?_)
    ·simp
    ·repeat' first | exact trivial | exact rfl | refine And.intro ?_ ?_
    (conv => whnf)
    refine dec (fun h6 => ?_) (fun h6 => ?_)
    ·have hlt : i < rl.length := by have h6 : (i : Int) < rl.length := h6; omega
     have hiy : rl[i]? = some rl[i] := List.getElem?_eq_getElem hlt
     have hst := markR_take (o := o) (b := b) (r := 2) (x := o 2) hlt
     have hml := markR_len (o := o) (b := b) (r := 2) (x := o 2) (l := rl.take i)
     rw [List.length_take] at hml
     have hoq := ho 2 (by decide)
     generalize (rl.take i).foldl (markR o b 2) (o 2) = y at hst hml ⊢
     generalize rl[i] = id at hiy hst
     have p4 := hasR_spec L (upd o 2 y) b hb4 (2 : Nat) id
     (conv => whnf)
     refine ⟨i, ⟨rfl, hlt⟩, ?_⟩
     (conv => whnf)
     refine ⟨id, hiy, ?_⟩
     (conv => whnf)
     refine cl [] [] (p4) ?_
     (conv => whnf)
     refine boo (fun h7 => ?_) (fun h7 => ?_)
     ·have h7 : hasR (upd o 2 y) b (2 : Nat) id = false := by simpa using h7
      rw [show markR o b 2 y id = sortI (y ++ [id]) from if_neg (by rw [h7]; decide)] at hst
      have p5 := sortedI_spec (y ++ [id]) (by rw [List.length_append, List.length_singleton]; omega)
      (conv => whnf)
      refine ⟨false, .grow, (.l [0, 1, 2, 3, 4, 5, 6, 7, 8, 9, 10, 11, 15, 16, 12, 13, 14, 17, 18]), by kernel_rfl, .inl ?_⟩
      (conv => whnf)
      refine ⟨2, ⟨rfl, by decide⟩, ?_⟩
      (conv => whnf)
      refine ⟨i, ⟨rfl, hlt⟩, ?_⟩
      (conv => whnf)
      refine ⟨id, hiy, ?_⟩
      (conv => whnf)
      refine ⟨[id], rfl, ?_⟩
      (conv => whnf)
      refine ⟨_, _, rfl, rfl, (by simp only [List.length_append, List.length_cons, List.length_nil]; omega), ?_⟩
      (conv => whnf)
      refine cl [] [] (p5) ?_
      (conv => whnf)
      refine ⟨2, ⟨rfl, by decide⟩, ?_⟩
      repeat' ((conv => whnf); refine I6 ?_)
      refine ag (i + 1) [] [.same 0, .same 1, .same 2, .same 3, .same 4, .same 5, .same 6, .same 7, .same 8, .same 9, .same 10, .same 15, .same 12] ⟨hlt, trivial⟩ (by simp only []; omega) ?_
      rw [hst]
      repeat' first | exact trivial | exact rfl | refine And.intro ?_ ?_
     ·have h7 : hasR (upd o 2 y) b (2 : Nat) id = true := by simpa using h7
      rw [show markR o b 2 y id = y from if_pos h7] at hst
      repeat' ((conv => whnf); refine I6 ?_)
      refine ag (i + 1) [] [.same 0, .same 1, .same 2, .same 3, .same 4, .same 5, .same 6, .same 7, .same 8, .same 9, .same 10, .same 11, .same 12] ⟨hlt, trivial⟩ (by simp only []; omega) ?_
      rw [hst]
      repeat' first | exact trivial | exact rfl | refine And.intro ?_ ?_
    ·obtain rfl : i = rl.length := by have h6 : ¬ (i : Int) < rl.length := h6; omega
     rw [List.take_length]
     (conv => whnf)
     exact rx [] [.same 0, .same 1, .same 2, .same 3, .same 4, .same 5, .same 6, .same 7, .same 8, .same 9, .same 10, .same 3, .same 4, .same 11, .same 6]
   ·refine lp Nat (fun i => ⟨[(0, .c (.ptr 0 0)), (1, .c (.int .i64 (3 : Nat))), (8, .c (.rw 12)), (9, .c (.int .i64 i))], [.box [.ptr 1 0, .rw 3, .rw 4, .rw 5, .rw 11, .rw 7, .rw 8, .rw 9, .rw 10], .box [.rw 2], .row 6 Ob encOb L, .row 1 Int encI (o 0), .row 1 Int encI (o 1), .row 1 Int encI (o 2), .dead, .row 1 Int encI (b 0), .row 1 Int encI (b 1), .row 1 Int encI (b 2), .row 1 Int encI (b 3), .row 1 Int encI ((rl.take i).foldl (markR o b 3) (o 3))] ++ [.row 1 Int encI rl]⟩) (fun i => i ≤ rl.length ∧ True) (fun i => rl.length - i) 0 [] [.same 0, .same 1, .same 2, .same 3, .same 4, .same 5, .same 6, .same 7, .same 8, .same 9, .same 10, .same 6, .same 11] ?_ ?_ (fun i hii => ?_)
    ·simp
    ·repeat' first | exact trivial | exact rfl | refine And.intro ?_ ?_
    (conv => whnf)
    refine dec (fun h6 => ?_) (fun h6 => ?_)
    ·have hlt : i < rl.length := by have h6 : (i : Int) < rl.length := h6; omega
     have hiy : rl[i]? = some rl[i] := List.getElem?_eq_getElem hlt
     have hst := markR_take (o := o) (b := b) (r := 3) (x := o 3) hlt
     have hml := markR_len (o := o) (b := b) (r := 3) (x := o 3) (l := rl.take i)
     rw [List.length_take] at hml
     have hoq := ho 3 (by decide)
     generalize (rl.take i).foldl (markR o b 3) (o 3) = y at hst hml ⊢
     generalize rl[i] = id at hiy hst
     have p4 := hasR_spec L (upd o 3 y) b hb4 (3 : Nat) id
     (conv => whnf)
     refine ⟨i, ⟨rfl, hlt⟩, ?_⟩
     (conv => whnf)
     refine ⟨id, hiy, ?_⟩
     (conv => whnf)
     refine cl [] [] (p4) ?_
     (conv => whnf)
     refine boo (fun h7 => ?_) (fun h7 => ?_)
     ·have h7 : hasR (upd o 3 y) b (3 : Nat) id = false := by simpa using h7
      rw [show markR o b 3 y id = sortI (y ++ [id]) from if_neg (by rw [h7]; decide)] at hst
      have p5 := sortedI_spec (y ++ [id]) (by rw [List.length_append, List.length_singleton]; omega)
      (conv => whnf)
      refine ⟨false, .grow, (.l [0, 1, 2, 3, 4, 5, 6, 7, 8, 9, 10, 11, 15, 16, 12, 13, 14, 17, 18]), by kernel_rfl, .inl ?_⟩
      (conv => whnf)
      refine ⟨3, ⟨rfl, by decide⟩, ?_⟩
      (conv => whnf)
      refine ⟨i, ⟨rfl, hlt⟩, ?_⟩
      (conv => whnf)
      refine ⟨id, hiy, ?_⟩
      (conv => whnf)
      refine ⟨[id], rfl, ?_⟩
      (conv => whnf)
      refine ⟨_, _, rfl, rfl, (by simp only [List.length_append, List.length_cons, List.length_nil]; omega), ?_⟩
      (conv => whnf)
      refine cl [] [] (p5) ?_
      (conv => whnf)
      refine ⟨3, ⟨rfl, by decide⟩, ?_⟩
      repeat' ((conv => whnf); refine I6 ?_)
      refine ag (i + 1) [] [.same 0, .same 1, .same 2, .same 3, .same 4, .same 5, .same 6, .same 7, .same 8, .same 9, .same 10, .same 15, .same 12] ⟨hlt, trivial⟩ (by simp only []; omega) ?_
      rw [hst]
      repeat' first | exact trivial | exact rfl | refine And.intro ?_ ?_
     ·have h7 : hasR (upd o 3 y) b (3 : Nat) id = true := by simpa using h7
      rw [show markR o b 3 y id = y from if_pos h7] at hst
      repeat' ((conv => whnf); refine I6 ?_)
      refine ag (i + 1) [] [.same 0, .same 1, .same 2, .same 3, .same 4, .same 5, .same 6, .same 7, .same 8, .same 9, .same 10, .same 11, .same 12] ⟨hlt, trivial⟩ (by simp only []; omega) ?_
      rw [hst]
      repeat' first | exact trivial | exact rfl | refine And.intro ?_ ?_
    ·obtain rfl : i = rl.length := by have h6 : ¬ (i : Int) < rl.length := h6; omega
     rw [List.take_length]
     (conv => whnf)
     exact rx [] [.same 0, .same 1, .same 2, .same 3, .same 4, .same 5, .same 6, .same 7, .same 8, .same 9, .same 10, .same 3, .same 4, .same 5, .same 11]
end Go.Nest
end
/- part -/
section

namespace Go.Nest
open Go Go.AM Go.Proofs
open Go.Proofs.YtpmjnbidmcnhnaaGreatDoor (tab tabOk)
set_option maxRecDepth 4000
end Go.Nest
end
/- part -/
section

namespace Go.Nest
open Go Go.AM Go.Proofs
open Go.Proofs.YtpmjnbidmcnhnaaGreatDoor (tab tabOk)
set_option maxRecDepth 4000
noncomputable def lostR (L : List Ob) (o b : Nat → List Int) (q id : Int) : Bool := decide (kindOf L id = 0) || !hasAllR o b q (reachP L [id])
noncomputable def fetRC (L : List Ob) (o b : Nat → List Int) (r q id : Int) : Int := if isR r = false ∨ isR q = false then 1 else if lostR L o b q id = true then 14 else addC L r [id]
noncomputable def fetRO (L : List Ob) (o b : Nat → List Int) (r q id : Int) : Nat → List Int := if isR r = false ∨ isR q = false then o else if lostR L o b q id = true then o else addRO L o b r [id]
set_option maxHeartbeats 4000000 in
theorem fetR_spec (L : List Ob) (hL : PoolOk L) (o b : Nat → List Int) (hb4 : BorOk b) (ho : ∀ k, k < 4 → (o k).length ≤ 10000) (r q id : Int) : Does Tryz.prog 55 [.c (.ptr 0 0), .c (.int .i64 r), .c (.int .i64 q), .c (.int .i64 id)] [.box [.ptr 1 0, .rw 3, .rw 4, .rw 5, .rw 6, .rw 7, .rw 8, .rw 9, .rw 10], .box [.rw 2], .row 6 Ob encOb L, .row 1 Int encI (o 0), .row 1 Int encI (o 1), .row 1 Int encI (o 2), .row 1 Int encI (o 3), .row 1 Int encI (b 0), .row 1 Int encI (b 1), .row 1 Int encI (b 2), .row 1 Int encI (b 3)] (Rt (.c (.int .i64 (fetRC L o b r q id))) [.box [.ptr 1 0, .rw 11, .rw 12, .rw 13, .rw 14, .rw 7, .rw 8, .rw 9, .rw 10], .box [.rw 2], .row 6 Ob encOb L, .dead, .dead, .dead, .dead, .row 1 Int encI (b 0), .row 1 Int encI (b 1), .row 1 Int encI (b 2), .row 1 Int encI (b 3), .row 1 Int encI ((fetRO L o b r q id) 0), .row 1 Int encI ((fetRO L o b r q id) 1), .row 1 Int encI ((fetRO L o b r q id) 2), .row 1 Int encI ((fetRO L o b r q id) 3)]) := by
 have p1 := isRepo_spec r
 have p2 := isRepo_spec q
 refine X_spec (n := 42) (n0 := 11) tabOk Tryz.call55 Tryz.func55 ?_
 intro hb
 cases hr : isR r with
 | false =>
  rw [hr] at p1
  rw [show fetRC L o b r q id = 1 by unfold fetRC; rw [hr]; rfl, show fetRO L o b r q id = o by unfold fetRO; rw [hr]; rfl]
  (conv => whnf)
  refine cl [] [] (p1) ?_
  (conv => whnf)
  exact rx [] [.same 0, .same 1, .same 2, .same 3, .same 4, .same 5, .same 6, .same 7, .same 8, .same 9, .same 10, .same 3, .same 4, .same 5, .same 6]
 | true =>
  rw [hr] at p1
  cases hq : isR q with
  | false =>
   rw [hq] at p2
   rw [show fetRC L o b r q id = 1 by unfold fetRC; rw [hr, hq]; rfl, show fetRO L o b r q id = o by unfold fetRO; rw [hr, hq]; rfl]
   (conv => whnf)
   refine cl [] [] (p1) ?_
   (conv => whnf)
   refine cl [] [] (p2) ?_
   (conv => whnf)
   exact rx [] [.same 0, .same 1, .same 2, .same 3, .same 4, .same 5, .same 6, .same 7, .same 8, .same 9, .same 10, .same 3, .same 4, .same 5, .same 6]
  | true =>
   rw [hq] at p2
   have hlen := hL.len
   have e1 : fetRC L o b r q id = if lostR L o b q id = true then 14 else addC L r [id] := by unfold fetRC; rw [hr, hq]; rfl
   have e2 : fetRO L o b r q id = if lostR L o b q id = true then o else addRO L o b r [id] := by unfold fetRO; rw [hr, hq]; rfl
   have p3 := reachR_spec L hL [id] (by simp)
   have p5 := addR_dspec L hL o b hb4 ho r [id] (by simp)
   have hrl := reach_len (l := L) (ids := [id])
   have p4 := hasAll_spec L o b hb4 q (reachP L [id]) (by omega)
   have el : lostR L o b q id = (decide (kindOf L id = 0) || !hasAllR o b q (reachP L [id])) := rfl
   generalize reachP L [id] = rl at p3 p4 el
   generalize hasAllR o b q rl = a at p4 el
   generalize lostR L o b q id = lo at el e1 e2
   generalize fetRC L o b r q id = C at *
   generalize fetRO L o b r q id = O at *
   (conv => whnf)
   refine cl [] [] (p1) ?_
   (conv => whnf)
   refine cl [] [] (p2) ?_
   (conv => whnf)
   refine cl [] [] (kindR_spec L id) ?_
   (conv => whnf)
   refine dec (fun h1 => ?_) (fun h1 => ?_)
   ·rw [decide_eq_true h1, Bool.true_or] at el
    rw [el] at e1 e2
    obtain rfl : C = 14 := e1
    obtain rfl : O = o := e2
    (conv => whnf)
    exact rx [] [.same 0, .same 1, .same 2, .same 3, .same 4, .same 5, .same 6, .same 7, .same 8, .same 9, .same 10, .same 3, .same 4, .same 5, .same 6]
   ·rw [decide_eq_false h1, Bool.false_or] at el
    (conv => whnf)
    refine ⟨[id], rfl, ?_⟩
    (conv => whnf)
    refine cl [] [] (p3) ?_
    (conv => whnf)
    refine cl [] [] (p4) ?_
    (conv => whnf)
    refine boo (fun h2 => ?_) (fun h2 => ?_)
    ·rw [h2] at el
     rw [el] at e1 e2
     obtain rfl : C = 14 := e1
     obtain rfl : O = o := e2
     (conv => whnf)
     exact rx [] [.same 0, .same 1, .same 2, .same 3, .same 4, .same 5, .same 6, .same 7, .same 8, .same 9, .same 10, .same 3, .same 4, .same 5, .same 6]
    ·rw [h2] at el
     rw [el] at e1 e2
     obtain rfl : C = addC L r [id] := e1
     obtain rfl : O = addRO L o b r [id] := e2
     (conv => whnf)
     refine ⟨[id], rfl, ?_⟩
     (conv => whnf)
     refine cl [] [0, 1, 2, 3, 4, 5, 6, 7, 8, 9, 10] (p5) ?_
     (conv => whnf)
     exact rx [] [.same 0, .same 1, .same 2, .same 3, .same 4, .same 5, .same 6, .same 7, .same 8, .same 9, .same 10, .same 14, .same 15, .same 16, .same 17]
set_option maxHeartbeats 4000000 in
theorem borR_spec (L : List Ob) (o b : Nat → List Int) (hb4 : BorOk b) (r q : Int) : Does Tryz.prog 56 [.c (.ptr 0 0), .c (.int .i64 r), .c (.int .i64 q)] [.box [.ptr 1 0, .rw 3, .rw 4, .rw 5, .rw 6, .rw 7, .rw 8, .rw 9, .rw 10], .box [.rw 2], .row 6 Ob encOb L, .row 1 Int encI (o 0), .row 1 Int encI (o 1), .row 1 Int encI (o 2), .row 1 Int encI (o 3), .row 1 Int encI (b 0), .row 1 Int encI (b 1), .row 1 Int encI (b 2), .row 1 Int encI (b 3)] (Rt (.c (.int .i64 (borC b r q))) [.box [.ptr 1 0, .rw 3, .rw 4, .rw 5, .rw 6, .rw 11, .rw 12, .rw 13, .rw 14], .box [.rw 2], .row 6 Ob encOb L, .row 1 Int encI (o 0), .row 1 Int encI (o 1), .row 1 Int encI (o 2), .row 1 Int encI (o 3), .dead, .dead, .dead, .dead, .row 1 Int encI ((borO b r q) 0), .row 1 Int encI ((borO b r q) 1), .row 1 Int encI ((borO b r q) 2), .row 1 Int encI ((borO b r q) 3)]) := by
 have p1 := isRepo_spec r
 have p2 := isRepo_spec q
 refine X_spec (n := 41) (n0 := 11) tabOk Tryz.call56 Tryz.func56 ?_
 intro hb
 cases hr : isR r with
 | false =>
  rw [hr] at p1
  have e : borC b r q = 1 := by unfold borC; rw [hr]; rfl
  rw [show borO b r q = b by unfold borO; rw [e]; rfl, e]
  (conv => whnf)
  refine cl [] [] (p1) ?_
  (conv => whnf)
  exact rx [] [.same 0, .same 1, .same 2, .same 3, .same 4, .same 5, .same 6, .same 7, .same 8, .same 9, .same 10, .same 7, .same 8, .same 9, .same 10]
 | true =>
  rw [hr] at p1
  cases hq : isR q with
  | false =>
   rw [hq] at p2
   have e : borC b r q = 1 := by unfold borC; rw [hr, hq]; rfl
   rw [show borO b r q = b by unfold borO; rw [e]; rfl, e]
   (conv => whnf)
   refine cl [] [] (p1) ?_
   (conv => whnf)
   refine cl [] [] (p2) ?_
   (conv => whnf)
   exact rx [] [.same 0, .same 1, .same 2, .same 3, .same 4, .same 5, .same 6, .same 7, .same 8, .same 9, .same 10, .same 7, .same 8, .same 9, .same 10]
  | true =>
   rw [hq] at p2
   have e1 : borC b r q = if hasI (lendP b q) r = true then 10 else if hasI (b r.toNat) q = true then 11 else 0 := by unfold borC; rw [hr, hq]; rfl
   (conv => whnf)
   refine cl [] [] (p1) ?_
   (conv => whnf)
   refine cl [] [] (p2) ?_
   (conv => whnf)
   refine cl [] [] (lends_spec L o b hb4 r q hq) ?_
   (conv => whnf)
   refine dec (fun h1 => ?_) (fun h1 => ?_)
   ·have e : borC b r q = 10 := by rw [e1]; exact if_pos (hasI_iff.2 h1)
    rw [show borO b r q = b by unfold borO; rw [e]; rfl, e]
    (conv => whnf)
    exact rx [] [.same 0, .same 1, .same 2, .same 3, .same 4, .same 5, .same 6, .same 7, .same 8, .same 9, .same 10, .same 7, .same 8, .same 9, .same 10]
   ·have e2 : borC b r q = if hasI (b r.toNat) q = true then 11 else 0 := by rw [e1]; exact if_neg (fun h => h1 (hasI_iff.1 h))
    obtain ⟨k, hk, rfl⟩ := isR_iff.1 hr
    rcases four hk with rfl | rfl | rfl | rfl
    ·(conv => whnf)
     refine ⟨0, ⟨rfl, by decide⟩, ?_⟩
     (conv => whnf)
     refine cl [] [] (in_spec (b 0) q) ?_
     (conv => whnf)
     refine dec (fun h2 => ?_) (fun h2 => ?_)
     ·have e : borC b (0 : Nat) q = 11 := by rw [e2]; exact if_pos (hasI_iff.2 h2)
      rw [show borO b (0 : Nat) q = b by unfold borO; rw [e]; rfl, e]
      (conv => whnf)
      exact rx [] [.same 0, .same 1, .same 2, .same 3, .same 4, .same 5, .same 6, .same 7, .same 8, .same 9, .same 10, .same 7, .same 8, .same 9, .same 10]
     ·have hl4 := (hb4 0 (by decide)).1
      have e : borC b (0 : Nat) q = 0 := by rw [e2]; exact if_neg (fun h => h2 (hasI_iff.1 h))
      rw [show borO b (0 : Nat) q = upd b 0 (b 0 ++ [q]) by unfold borO; rw [e]; rfl, e]
      (conv => whnf)
      refine ⟨false, .grow, (.l [0, 1, 2, 3, 4, 5, 6, 7, 8, 11, 12, 9, 10, 13, 14]), by kernel_rfl, .inl ?_⟩
      (conv => whnf)
      refine ⟨0, ⟨rfl, by decide⟩, ?_⟩
      (conv => whnf)
      refine ⟨[q], rfl, ?_⟩
      (conv => whnf)
      refine ⟨_, _, rfl, rfl, (by simp only [List.length_append, List.length_cons, List.length_nil]; omega), ?_⟩
      (conv => whnf)
      refine ⟨0, ⟨rfl, by decide⟩, ?_⟩
      (conv => whnf)
      exact rx [] [.same 0, .same 1, .same 2, .same 3, .same 4, .same 5, .same 6, .same 7, .same 8, .same 9, .same 10, .same 12, .same 8, .same 9, .same 10]
    ·(conv => whnf)
     refine ⟨1, ⟨rfl, by decide⟩, ?_⟩
     (conv => whnf)
     refine cl [] [] (in_spec (b 1) q) ?_
     (conv => whnf)
     refine dec (fun h2 => ?_) (fun h2 => ?_)
     ·have e : borC b (1 : Nat) q = 11 := by rw [e2]; exact if_pos (hasI_iff.2 h2)
      rw [show borO b (1 : Nat) q = b by unfold borO; rw [e]; rfl, e]
      (conv => whnf)
      exact rx [] [.same 0, .same 1, .same 2, .same 3, .same 4, .same 5, .same 6, .same 7, .same 8, .same 9, .same 10, .same 7, .same 8, .same 9, .same 10]
     ·have hl4 := (hb4 1 (by decide)).1
      have e : borC b (1 : Nat) q = 0 := by rw [e2]; exact if_neg (fun h => h2 (hasI_iff.1 h))
      rw [show borO b (1 : Nat) q = upd b 1 (b 1 ++ [q]) by unfold borO; rw [e]; rfl, e]
      (conv => whnf)
      refine ⟨false, .grow, (.l [0, 1, 2, 3, 4, 5, 6, 7, 8, 11, 12, 9, 10, 13, 14]), by kernel_rfl, .inl ?_⟩
      (conv => whnf)
      refine ⟨1, ⟨rfl, by decide⟩, ?_⟩
      (conv => whnf)
      refine ⟨[q], rfl, ?_⟩
      (conv => whnf)
      refine ⟨_, _, rfl, rfl, (by simp only [List.length_append, List.length_cons, List.length_nil]; omega), ?_⟩
      (conv => whnf)
      refine ⟨1, ⟨rfl, by decide⟩, ?_⟩
      (conv => whnf)
      exact rx [] [.same 0, .same 1, .same 2, .same 3, .same 4, .same 5, .same 6, .same 7, .same 8, .same 9, .same 10, .same 7, .same 12, .same 9, .same 10]
    ·(conv => whnf)
     refine ⟨2, ⟨rfl, by decide⟩, ?_⟩
     (conv => whnf)
     refine cl [] [] (in_spec (b 2) q) ?_
     (conv => whnf)
     refine dec (fun h2 => ?_) (fun h2 => ?_)
     ·have e : borC b (2 : Nat) q = 11 := by rw [e2]; exact if_pos (hasI_iff.2 h2)
      rw [show borO b (2 : Nat) q = b by unfold borO; rw [e]; rfl, e]
      (conv => whnf)
      exact rx [] [.same 0, .same 1, .same 2, .same 3, .same 4, .same 5, .same 6, .same 7, .same 8, .same 9, .same 10, .same 7, .same 8, .same 9, .same 10]
     ·have hl4 := (hb4 2 (by decide)).1
      have e : borC b (2 : Nat) q = 0 := by rw [e2]; exact if_neg (fun h => h2 (hasI_iff.1 h))
      rw [show borO b (2 : Nat) q = upd b 2 (b 2 ++ [q]) by unfold borO; rw [e]; rfl, e]
      (conv => whnf)
      refine ⟨false, .grow, (.l [0, 1, 2, 3, 4, 5, 6, 7, 8, 11, 12, 9, 10, 13, 14]), by kernel_rfl, .inl ?_⟩
      (conv => whnf)
      refine ⟨2, ⟨rfl, by decide⟩, ?_⟩
      (conv => whnf)
      refine ⟨[q], rfl, ?_⟩
      (conv => whnf)
      refine ⟨_, _, rfl, rfl, (by simp only [List.length_append, List.length_cons, List.length_nil]; omega), ?_⟩
      (conv => whnf)
      refine ⟨2, ⟨rfl, by decide⟩, ?_⟩
      (conv => whnf)
      exact rx [] [.same 0, .same 1, .same 2, .same 3, .same 4, .same 5, .same 6, .same 7, .same 8, .same 9, .same 10, .same 7, .same 8, .same 12, .same 10]
    ·(conv => whnf)
     refine ⟨3, ⟨rfl, by decide⟩, ?_⟩
     (conv => whnf)
     refine cl [] [] (in_spec (b 3) q) ?_
     (conv => whnf)
     refine dec (fun h2 => ?_) (fun h2 => ?_)
     ·have e : borC b (3 : Nat) q = 11 := by rw [e2]; exact if_pos (hasI_iff.2 h2)
      rw [show borO b (3 : Nat) q = b by unfold borO; rw [e]; rfl, e]
      (conv => whnf)
      exact rx [] [.same 0, .same 1, .same 2, .same 3, .same 4, .same 5, .same 6, .same 7, .same 8, .same 9, .same 10, .same 7, .same 8, .same 9, .same 10]
     ·have hl4 := (hb4 3 (by decide)).1
      have e : borC b (3 : Nat) q = 0 := by rw [e2]; exact if_neg (fun h => h2 (hasI_iff.1 h))
      rw [show borO b (3 : Nat) q = upd b 3 (b 3 ++ [q]) by unfold borO; rw [e]; rfl, e]
      (conv => whnf)
      refine ⟨false, .grow, (.l [0, 1, 2, 3, 4, 5, 6, 7, 8, 11, 12, 9, 10, 13, 14]), by kernel_rfl, .inl ?_⟩
      (conv => whnf)
      refine ⟨3, ⟨rfl, by decide⟩, ?_⟩
      (conv => whnf)
      refine ⟨[q], rfl, ?_⟩
      (conv => whnf)
      refine ⟨_, _, rfl, rfl, (by simp only [List.length_append, List.length_cons, List.length_nil]; omega), ?_⟩
      (conv => whnf)
      refine ⟨3, ⟨rfl, by decide⟩, ?_⟩
      (conv => whnf)
      exact rx [] [.same 0, .same 1, .same 2, .same 3, .same 4, .same 5, .same 6, .same 7, .same 8, .same 9, .same 10, .same 7, .same 8, .same 9, .same 12]
end Go.Nest
end
/- part -/
section

namespace Go.Nest
open Go Go.AM
structure Sm (L : List Ob) (o : Nat → List Bool) (w : Nat → List Int) : Prop where
 len : ∀ k, k < 4 → (o k).length ≤ L.length
 eq : ∀ k, k < 4 → w k = listP o (k : Int) L.length
theorem own_iff {o : Nat → List Bool} {k : Nat} {z : Int} (hk : k < 4) : ownP o k z = true ↔ 0 ≤ z ∧ (o k)[z.toNat]? = some true := by
 rw [ownP_at hk, Bool.and_eq_true, Bool.and_eq_true, decide_eq_true_iff, decide_eq_true_iff]
 constructor
 ·rintro ⟨h1, h2, h3⟩
  refine ⟨h1, ?_⟩
  cases e : (o k)[z.toNat]? with
  | none => rw [e] at h3; cases h3
  | some v => rw [e] at h3; rw [show v = true from h3]
 ·rintro ⟨h1, h2⟩
  have := (List.getElem?_eq_some_iff.1 h2).1
  exact ⟨h1, by omega, by rw [h2]; rfl⟩
theorem mem_list {o : Nat → List Bool} {r x : Int} {n : Nat} : x ∈ listP o r n ↔ ∃ k : Nat, k < n ∧ ownP o r k = true ∧ x = k := by
 unfold listP
 rw [List.mem_map]
 constructor
 ·rintro ⟨k, h1, h2⟩
  rw [List.mem_filter, List.mem_range] at h1
  exact ⟨k, h1.1, h1.2, h2.symm⟩
 ·rintro ⟨k, h1, h2, h3⟩
  exact ⟨k, List.mem_filter.2 ⟨List.mem_range.2 h1, h2⟩, h3.symm⟩
theorem list_rise {o : Nat → List Bool} {r : Int} {n : Nat} : (listP o r n).Pairwise (· < ·) := by
 unfold listP
 rw [List.pairwise_map]
 exact (List.pairwise_lt_range.filter _).imp fun h => by omega
theorem mem_own {o : Nat → List Bool} {k n : Nat} (hk : k < 4) (hn : (o k).length ≤ n) {x : Int} : x ∈ listP o (k : Int) n ↔ ownP o k x = true := by
 rw [mem_list]
 constructor
 ·rintro ⟨j, h1, h2, rfl⟩; exact h2
 ·intro h
  obtain ⟨h1, h2⟩ := (own_iff hk).1 h
  have := (List.getElem?_eq_some_iff.1 h2).1
  have e : ((x.toNat : Nat) : Int) = x := by omega
  exact ⟨x.toNat, by omega, by rw [e]; exact h, e.symm⟩
theorem Sm.mem {L : List Ob} {o : Nat → List Bool} {w : Nat → List Int} (h : Sm L o w) {k : Nat} (hk : k < 4) {x : Int} : x ∈ w k ↔ ownP o k x = true := by
 rw [h.eq k hk, mem_own hk (h.len k hk)]
theorem Sm.has {L : List Ob} {o : Nat → List Bool} {w b : Nat → List Int} (h : Sm L o w) (hb : BorOk b) (r id : Int) : hasR w b r id = hasP ⟨o, b⟩ r id := by
 unfold hasR hasP
 cases hr : isR r with
 | false => rfl
 | true =>
  rw [Bool.true_and, Bool.true_and, Bool.eq_iff_iff, List.any_eq_true, List.any_eq_true]
  have hn := lend_nd hb hr
  constructor
  ·rintro ⟨q, h1, h2⟩
   have hq : q < 4 := by simpa using h1
   rw [Bool.and_eq_true, decide_eq_true_iff, decide_eq_true_iff] at h2
   exact ⟨q, h2.1, (h.mem hq).1 h2.2⟩
  ·rintro ⟨q, h1, h2⟩
   have := hn.2 q h1
   have e : ((q.toNat : Nat) : Int) = q := by omega
   refine ⟨q.toNat, by rw [List.mem_range]; omega, ?_⟩
   rw [Bool.and_eq_true, decide_eq_true_iff, decide_eq_true_iff, e]
   exact ⟨h1, (h.mem (by omega)).2 (by rw [e]; exact h2)⟩
theorem Sm.one {L : List Ob} {o : Nat → List Bool} {w : Nat → List Int} (h : Sm L o w) {r : Nat} (hr : r < 4) {x : List Bool} {y : List Int} (hx : x.length ≤ L.length) (hy : y.Pairwise (· < ·)) (hm : ∀ z : Int, z ∈ y ↔ 0 ≤ z ∧ x[z.toNat]? = some true) : Sm L (upd o r x) (upd w r y) := by
 refine ⟨fun k hk => ?_, fun k hk => ?_⟩
 ·by_cases e : k = r
  ·subst e; rw [upd_at]; exact hx
  ·rw [upd_ne e]; exact h.len k hk
 ·by_cases e : k = r
  ·subst e
   rw [upd_at]
   refine rise_uniq hy list_rise fun z => ?_
   rw [mem_own hk (by rw [upd_at]; exact hx), own_iff hk, upd_at, hm]
  ·rw [upd_ne e, h.eq k hk]
   unfold listP
   congr 1
   refine List.filter_congr fun j _ => ?_
   rw [Bool.eq_iff_iff, own_iff hk, own_iff hk, upd_ne e]
theorem Sm.rise {L : List Ob} {o : Nat → List Bool} {w : Nat → List Int} (h : Sm L o w) {k : Nat} (hk : k < 4) : (w k).Pairwise (· < ·) := by rw [h.eq k hk]; exact list_rise
theorem Sm.mark {L : List Ob} {o : Nat → List Bool} {w b : Nat → List Int} (hb : BorOk b) {r : Nat} (hr : r < 4) {x : List Bool} {y : List Int} (h : Sm L (upd o r x) (upd w r y)) {id : Int} (h0 : 0 ≤ id ∧ id.toNat < L.length) (hx : x.length = L.length) : Sm L (upd o r (markL o b r x id)) (upd w r (markR w b r y id)) := by
 unfold markL markR
 rw [h.has hb (r : Int) id]
 split
 ·exact h
 ·have hm := fun z => h.mem hr (x := z)
  have := h.one hr (x := x.set id.toNat true) (y := sortI (y ++ [id])) (by rw [List.length_set]; omega) sortI_rise (fun z => by
   have hm := hm z
   rw [upd_at, own_iff hr, upd_at] at hm
   rw [sortI_mem, List.mem_append, List.mem_singleton, hm, List.getElem?_set]
   constructor
   ·rintro (⟨h1, h2⟩ | rfl)
    ·refine ⟨h1, ?_⟩
     split
     ·rw [if_pos (by omega)]
     ·exact h2
    ·refine ⟨h0.1, ?_⟩
     rw [if_pos rfl, if_pos (by omega)]
   ·rintro ⟨h1, h2⟩
    split at h2
    ·exact .inr (by omega)
    ·exact .inl ⟨h1, h2⟩)
  rwa [upd_upd, upd_upd] at this
theorem upd_same {α : Type} {o : Nat → α} {k : Nat} : upd o k (o k) = o := by
 funext j
 by_cases e : j = k
 ·subst e; rw [upd_at]
 ·rw [upd_ne e]
theorem Sm.pad {L : List Ob} {o : Nat → List Bool} {w : Nat → List Int} (h : Sm L o w) {r : Nat} (hr : r < 4) : Sm L (upd o r (padL (o r) L.length)) (upd w r (w r)) := by
 have hl := h.len r hr
 refine h.one hr (by unfold padL; rw [List.length_append, List.length_replicate]; omega) (h.rise hr) fun z => ?_
 rw [h.mem hr, own_iff hr]
 unfold padL
 refine and_congr_right fun _ => ?_
 rw [List.getElem?_append]
 split
 ·rfl
 ·rename_i hz
  rw [List.getElem?_eq_none (by omega), List.getElem?_replicate]
  split <;> simp
theorem addC_r {L : List Ob} {r : Int} {ids : List Int} (h : ¬ addC L r ids ≠ 0) : isR r = true := by
 cases e : isR r with
 | true => rfl
 | false => exact absurd (show addC L r ids ≠ 0 by unfold addC; rw [if_pos e]; decide) h
theorem Sm.add {L : List Ob} {o : Nat → List Bool} {w b : Nat → List Int} (h : Sm L o w) (hb : BorOk b) (r : Int) (ids : List Int) : Sm L (addO L o b r ids) (addRO L w b r ids) := by
 unfold addO addRO
 split
 ·exact h
 ·rename_i hc
  obtain ⟨k, hk, rfl⟩ := isR_iff.1 (addC_r hc)
  rw [Int.toNat_natCast]
  unfold addL addRL
  have key : ∀ (l : List Int) (x : List Bool) (y : List Int), (∀ id ∈ l, 0 ≤ id ∧ id.toNat < L.length) → x.length = L.length → Sm L (upd o k x) (upd w k y) → Sm L (upd o k (l.foldl (markL o b k) x)) (upd w k (l.foldl (markR w b k) y)) := by
   intro l
   induction l with
   | nil => intro x y _ _ h; exact h
   | cons id l ih =>
    intro x y hl hx h
    rw [List.foldl_cons, List.foldl_cons]
    exact ih _ _ (fun z hz => hl z (List.mem_cons_of_mem _ hz)) (by rw [show markL o b k x id = [id].foldl (markL o b k) x from rfl, mark_len, hx]) (h.mark hb hk (hl id (by simp)) hx)
  refine key _ _ _ (fun id h => reach_lt h) ?_ (h.pad hk)
  have := h.len k hk
  unfold padL
  rw [List.length_append, List.length_replicate]; omega
theorem reach_nil {L : List Ob} (hL : PoolOk L) {id : Int} : (reachP L [id]).length = 0 ↔ kindOf L id = 0 := by
 constructor
 ·intro h
  refine Decidable.byContradiction fun hk => ?_
  have : id ∈ reachP L [id] := (mem_reach hL).2 (.base (by simp) hk)
  rw [List.eq_nil_of_length_eq_zero h] at this
  cases this
 ·intro h
  have : reachP L [id] = [] := List.eq_nil_iff_forall_not_mem.2 fun x hx => by
   have hl := (mem_reach hL).1 hx
   clear hx
   induction hl with
   | base h1 h2 => rw [List.mem_singleton] at h1; subst h1; exact h2 h
   | step _ _ ih => exact ih
  rw [this]; rfl
theorem Sm.lost {L : List Ob} (hL : PoolOk L) {o : Nat → List Bool} {w b : Nat → List Int} (h : Sm L o w) (hb : BorOk b) (q id : Int) : lostR L w b q id = lostP L ⟨o, b⟩ q id := by
 unfold lostR lostP hasAllR
 rw [decide_eq_decide.2 (reach_nil hL), Bool.or_comm, List.not_all_eq_any_not]
 congr 1
 refine List.any_congr rfl fun z => ?_
 rw [h.has hb]
theorem Sm.fetC {L : List Ob} (hL : PoolOk L) {o : Nat → List Bool} {w b : Nat → List Int} (h : Sm L o w) (hb : BorOk b) (r q id : Int) : fetRC L w b r q id = fetC L ⟨o, b⟩ r q id := by
 unfold fetRC Nest.fetC
 rw [h.lost hL hb]
theorem Sm.fet {L : List Ob} (hL : PoolOk L) {o : Nat → List Bool} {w b : Nat → List Int} (h : Sm L o w) (hb : BorOk b) (r q id : Int) : Sm L (fetO L o b r q id) (fetRO L w b r q id) := by
 unfold fetO fetRO
 rw [h.lost hL hb]
 split
 ·exact h
 ·split
  ·exact h
  ·exact h.add hb r [id]
noncomputable def sweepR (L : List Ob) (w b r0 : Nat → List Int) : Nat → List Int := fun q => (w q).filter fun k => keepB b (needP L r0) q k
theorem sweep_own {L : List Ob} {o : Nat → List Bool} {b r0 : Nat → List Int} {q : Nat} (hq : q < 4) {z : Int} : ownP (sweepO L o b r0) q z = (ownP o q z && keepB b (needP L r0) q z) := by
 rw [Bool.eq_iff_iff, Bool.and_eq_true, own_iff hq, own_iff hq, and_assoc]
 refine and_congr_right fun hz => ?_
 have e : ((z.toNat : Nat) : Int) = z := by omega
 unfold sweepO sweepL
 rw [List.getElem?_mapIdx]
 show Option.map (fun v => v && keepB b (needP L r0) q ((z.toNat : Nat) : Int)) (o q)[z.toNat]? = some true ↔ _
 rw [e]
 cases (o q)[z.toNat]? with
 | none => simp
 | some v => simp
theorem Sm.sweep {L : List Ob} {o : Nat → List Bool} {w b : Nat → List Int} (h : Sm L o w) (r0 : Nat → List Int) : Sm L (sweepO L o b r0) (sweepR L w b r0) := by
 have hl : ∀ k, k < 4 → (sweepO L o b r0 k).length ≤ L.length := fun k hk => by
  unfold sweepO; rw [sweepL_len]; exact h.len k hk
 refine ⟨hl, fun k hk => rise_uniq ((h.rise hk).filter _) list_rise fun z => ?_⟩
 unfold sweepR
 rw [List.mem_filter, h.mem hk, mem_own hk (hl k hk), sweep_own hk, Bool.and_eq_true]
theorem Sm.nil {L : List Ob} : Sm L (fun _ => []) fun _ => [] := by
 refine ⟨fun k hk => Nat.zero_le _, fun k hk => rise_uniq List.Pairwise.nil list_rise fun z => ?_⟩
 rw [mem_own hk (Nat.zero_le _), own_iff hk]
 simp
end Go.Nest
end
/- part -/
section

namespace Go.Nest
open Go Go.AM Go.Proofs
open Go.Proofs.YtpmjnbidmcnhnaaGreatDoor (tab tabOk)
set_option maxRecDepth 4000
theorem fit_path {l : List Fi} (h : FitF 40000 l) : ∀ f ∈ l, f.path.length ≤ 4000000 := fun f hf => by have := h.path f hf; omega
set_option maxHeartbeats 1000000 in
theorem wholeD_spec (L : List Ob) (hL : PoolOk L) (o : Nat → List Bool) (b : Nat → List Int) (hb4 : BorOk b) (r id : Int) : Does Tryz.prog 15 [.c (.bp [.bp [.bs 6 Ob encOb L], .bs 1 Bool encBo (o 0), .bs 1 Bool encBo (o 1), .bs 1 Bool encBo (o 2), .bs 1 Bool encBo (o 3), .bs 1 Int encI (b 0), .bs 1 Int encI (b 1), .bs 1 Int encI (b 2), .bs 1 Int encI (b 3)]), .c (.int .i64 r), .c (.int .i64 id)] [] (Rt (.tup [(false, [.rw 0]), (false, [.int .i64 (wholeP L (hasP ⟨o, b⟩) r id).2])]) [.row 4 Fi encFi (wholeP L (hasP ⟨o, b⟩) r id).1]) := by
 refine X_spM (n := 26) (n0 := 0) tabOk Tryz.call15 Tryz.func15 ?_
 intro hb
 have hs := whole_dspec L hL o b hb4 6 0 r id [] [] (by decide) (by decide) ⟨by simp, fun f h => by cases h⟩
 have hf := whW_fit hL (has := hasP ⟨o, b⟩) (k := 40000) (n := 6) (r := r) (id := id) (pre := []) (out := []) (by decide) ⟨by simp, fun f h => by cases h⟩
 unfold wholeP
 generalize whW L (hasP ⟨o, b⟩) 6 r id [] [] = R at *
 obtain ⟨l, c⟩ := R
 dsimp only at hs hf ⊢
 have hg := inOrd_fit hf
 have p1 := sorted_spec l (by have := hf.len; omega) (fit_path hf)
 have p2 := check_spec' (inOrdP l) hg.len (fit_path hg)
 generalize checkF none (inOrdP l) = d at *
 generalize inOrdP l = m at *
 refine XM.seq ?_
 (conv => whnf)
 refine XM.seq ?_
 (conv => whnf)
 refine XM.le (t := ⟨[(0, .c (.bp [.bp [.bs 6 Ob encOb L], .bs 1 Bool encBo (o 0), .bs 1 Bool encBo (o 1), .bs 1 Bool encBo (o 2), .bs 1 Bool encBo (o 3), .bs 1 Int encI (b 0), .bs 1 Int encI (b 1), .bs 1 Int encI (b 2), .bs 1 Int encI (b 3)])), (1, .c (.int .i64 r)), (2, .c (.int .i64 id)), (8, .c (.ptr 0 0))], [.box [.rw 1], .row 4 Fi encFi []]⟩) [] [.same 0, .new] (by repeat' first | exact trivial | exact rfl | refine And.intro ?_ ?_) ?_
 refine XM.of ?_
 (conv => whnf)
 refine cl [] [0, 1] (hs) ?_
 (conv => whnf)
 refine decN (fun h => ?_) (fun h => ?_)
 ·have h : ¬ c = 0 := h
  rw [if_neg h]
  (conv => whnf)
  exact rx [] [.new]
 ·obtain rfl : c = 0 := h
  rw [if_pos rfl]
  (conv => whnf)
  refine cl [] [] (p1) ?_
  (conv => whnf)
  refine cl [] [] (p2) ?_
  (conv => whnf)
  refine decN (fun h => ?_) (fun h => ?_)
  ·have h : ¬ d = 0 := h
   rw [if_neg h]
   (conv => whnf)
   exact rx [] [.new]
  ·obtain rfl : d = 0 := h
   rw [if_pos rfl]
   (conv => whnf)
   exact rx [] [.same 3]
end Go.Nest
end
