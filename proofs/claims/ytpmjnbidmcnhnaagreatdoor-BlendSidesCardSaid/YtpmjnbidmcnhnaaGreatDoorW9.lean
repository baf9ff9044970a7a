/- part -/
import Derived.Test.YtpmjnbidmcnhnaaGreatDoorG12
import Derived.Test.YtpmjnbidmcnhnaaGreatDoorP10
import Derived.Test.YtpmjnbidmcnhnaaGreatDoorS3
import Derived.Room.Shelf.Join48
import Derived.Test.YtpmjnbidmcnhnaaGreatDoorProg
import Derived.KernelRfl
import Derived.Test.YtpmjnbidmcnhnaaGreatDoorL1
import Derived.Test.YtpmjnbidmcnhnaaGreatDoorTab3
set_option linter.unusedVariables false
set_option linter.unusedSimpArgs false
section

namespace Go.Nest
open Go Go.AM Go.Proofs
open Go.Proofs.YtpmjnbidmcnhnaaGreatDoor (tab tabOk)
set_option maxRecDepth 4000
theorem eqFi {a b : Fi} : EqCs (encFi a) (encFi b) ↔ a = b := by
 cases a; cases b; simp [encFi, EqCs, EqC]
theorem sameFiles_spec (a b : List Fi) : Does Tryz.prog 18 [.c (.bs 4 Fi encFi a), .c (.bs 4 Fi encFi b)] [] (Rt (.c (.bool (decide (a = b)))) []) := by
 refine X_spec (n := 26) (n0 := 0) tabOk Tryz.call18 Tryz.func18 ?_
 intro hb; have hb : a.length ≤ 9223372036854775807 := hb.1.1
 repeat' ((conv => whnf); first | (refine dec (fun h => ?_) (fun h => ?_) <;> try contradiction) | (refine decN (fun h => ?_) (fun h => ?_) <;> try contradiction) | refine booN (fun h => ?_) (fun h => ?_) | refine boo (fun h => ?_) (fun h => ?_) | refine ⟨i64 (by omega) (by omega), ?_⟩ | refine ⟨_, _, rfl, List.getElem?_eq_getElem (by omega), ?_⟩ | refine ⟨_, ⟨rfl, by omega⟩, ?_⟩ | refine ⟨_, List.getElem?_eq_getElem (by omega), ?_⟩ | refine rtB ?_ | refine rtI ?_ | refine rtC ?_ rfl | fail)
 ·exact ne_len h
 (conv => whnf)
 have hl : a.length = b.length := by omega
 refine lp Nat (fun i => ⟨[(0, .c (.bs 4 Fi encFi a)), (1, .c (.bs 4 Fi encFi b)), (5, .c (.int .i64 i))], []⟩) (fun i => i ≤ a.length ∧ a.take i = b.take i) (fun i => a.length - i) 0 [] [] ?_ ?_ (fun i hi => ?_)
 ·simp
 ·repeat' first | exact trivial | exact rfl | refine And.intro ?_ ?_
 (conv => whnf)
 refine dec (fun h4 => ?_) (fun h4 => ?_)
 ·have hlt : i < a.length := by omega
  have hlt' : i < b.length := by omega
  (conv => whnf)
  refine ⟨false, .grow, (.l [0, 1, 2, 3, 4, 5, 6, 7, 8]), by kernel_rfl, .inl ?_⟩
  repeat' ((conv => whnf); first | (refine dec (fun h => ?_) (fun h => ?_) <;> try contradiction) | (refine decN (fun h => ?_) (fun h => ?_) <;> try contradiction) | refine booN (fun h => ?_) (fun h => ?_) | refine boo (fun h => ?_) (fun h => ?_) | refine ⟨i64 (by omega) (by omega), ?_⟩ | refine ⟨_, _, rfl, List.getElem?_eq_getElem (by omega), ?_⟩ | refine ⟨_, ⟨rfl, by omega⟩, ?_⟩ | refine ⟨_, List.getElem?_eq_getElem (by omega), ?_⟩ | refine rtB ?_ | refine rtI ?_ | refine rtC ?_ rfl | fail)
  ·exact ne_at hlt hlt' (fun e => h ((eqFi).2 e))
  ·refine ag (i + 1) [] [] ⟨hlt, take_step hlt hlt' hi.2 ((eqFi).1 h)⟩ (by simp only []; omega) ?_
   repeat' first | exact trivial | exact rfl | refine And.intro ?_ ?_
 ·repeat' ((conv => whnf); first | (refine dec (fun h => ?_) (fun h => ?_) <;> try contradiction) | (refine decN (fun h => ?_) (fun h => ?_) <;> try contradiction) | refine booN (fun h => ?_) (fun h => ?_) | refine boo (fun h => ?_) (fun h => ?_) | refine ⟨i64 (by omega) (by omega), ?_⟩ | refine ⟨_, _, rfl, List.getElem?_eq_getElem (by omega), ?_⟩ | refine ⟨_, ⟨rfl, by omega⟩, ?_⟩ | refine ⟨_, List.getElem?_eq_getElem (by omega), ?_⟩ | refine rtB ?_ | refine rtI ?_ | refine rtC ?_ rfl | fail)
  exact take_end (by omega) hl hi.2
end Go.Nest
end
/- part -/
section

namespace Go.Nest
open Go Go.AM Go.Proofs
open Go.Proofs.YtpmjnbidmcnhnaaGreatDoor (tab tabOk)
set_option maxRecDepth 4000
theorem ins_at {f : Fi} {out : List Fi} {k : Nat} (hk : k ≤ out.length) (h1 : ∀ g ∈ out.take k, lessP f.path g.path = false) (h2 : ∀ h : k < out.length, lessP f.path out[k].path = true) : insF f out = out.take k ++ f :: out.drop k := by
 obtain ⟨h3, h4⟩ := tw_at (p := fun g : Fi => !lessP f.path g.path) hk (fun g hg => by simp [h1 g hg]) (fun h => by simp [h2 h])
 unfold insF
 rw [h3, h4]
def ordU (l : List Fi) (i : Nat) : List Fi := inOrdP (l.take i)
theorem ordU_succ {l : List Fi} {i : Nat} (h : i < l.length) : ordU l (i + 1) = insF l[i] (ordU l i) := by
 unfold ordU inOrdP
 rw [List.take_succ_eq_append_getElem h, List.foldl_append]; rfl
theorem ordU_len {l : List Fi} {i : Nat} (h : i ≤ l.length) : (ordU l i).length = i := by
 unfold ordU
 rw [(inOrd_perm _).length_eq, List.length_take]; omega
theorem ordU_mem {l : List Fi} {i : Nat} {f : Fi} (h : f ∈ ordU l i) : f ∈ l := List.mem_of_mem_take ((inOrd_perm _).mem_iff.1 h)
set_option maxHeartbeats 2000000 in
theorem inOrder_spec (l : List Fi) (hl : l.length ≤ 1000) (hp : ∀ f ∈ l, f.path.length ≤ 4000000) : Does Tryz.prog 19 [.c (.bs 4 Fi encFi l)] [] (Rt (.c (.rw 0)) [.row 4 Fi encFi (inOrdP l)]) := by
 refine X_spec (n := 50) (n0 := 0) tabOk Tryz.call19 Tryz.func19 ?_
 intro hb
 (conv => whnf)
 refine lp Nat (fun i => ⟨[(0, .c (.bs 4 Fi encFi l)), (3, .c (.rw 0)), (4, .c (.int .i64 i))], [.row 4 Fi encFi (ordU l i)]⟩) (fun i => i ≤ l.length ∧ True) (fun i => l.length - i) 0 [] [.new] ?_ ?_ (fun i hi => ?_)
 ·simp
 ·repeat' first | exact trivial | exact rfl | refine And.intro ?_ ?_
 have hol := ordU_len hi.1
 (conv => whnf)
 refine dec (fun h4 => ?_) (fun h4 => ?_)
 ·have hlt : i < l.length := by omega
  have hfp := hp _ (List.getElem_mem hlt)
  (conv => whnf)
  refine lp Nat (fun k => ⟨[(0, .c (.bs 4 Fi encFi l)), (3, .c (.rw 0)), (4, .c (.int .i64 i)), (5, .c (.int .i64 k))], [.row 4 Fi encFi (ordU l i)]⟩) (fun k => (k ≤ (ordU l i).length ∧ True) ∧ ∀ g ∈ (ordU l i).take k, lessP l[i].path g.path = false) (fun k => (ordU l i).length - k) 0 [] [.same 0] ?_ ?_ (fun k hk => ?_)
  ·simp
  ·repeat' first | exact trivial | exact rfl | refine And.intro ?_ ?_
  have fin : (∀ h : k < (ordU l i).length, lessP l[i].path (ordU l i)[k].path = true) → insF l[i] (ordU l i) = (ordU l i).take k ++ l[i] :: (ordU l i).drop k := fun h => ins_at hk.1.1 hk.2 h
  (conv => whnf)
  refine ⟨false, .grow, (.l [0, 1, 2, 3, 4, 5, 6, 7, 8, 9, 10, 11, 12, 13, 14, 15, 16, 17]), by kernel_rfl, .inl ?_⟩
  (conv => whnf)
  refine dec (fun h5 => ?_) (fun h5 => ?_)
  ·have hkl : k < (ordU l i).length := by omega
   (conv => whnf)
   refine ⟨i, l[i], rfl, List.getElem?_eq_getElem hlt, ?_⟩
   (conv => whnf)
   refine ⟨k, ⟨rfl, hkl⟩, ?_⟩
   (conv => whnf)
   refine ⟨(ordU l i)[k], List.getElem?_eq_getElem hkl, ?_⟩
   (conv => whnf)
   refine cl [] [] (ahead_spec l[i].path (ordU l i)[k].path hfp (hp _ (ordU_mem (List.getElem_mem hkl)))) ?_
   (conv => whnf)
   refine booN (fun h6 => ?_) (fun h6 => ?_)
   ·repeat' ((conv => whnf); refine I6 ?_)
    refine ag (k + 1) [] [.same 0] ⟨⟨hkl, trivial⟩, fun g hg => ?_⟩ (by simp only []; omega) ?_
    ·rw [List.take_succ_eq_append_getElem hkl, List.mem_append, List.mem_singleton] at hg
     rcases hg with hg | rfl
     ·exact hk.2 g hg
     ·exact h6
    ·repeat' first | exact trivial | exact rfl | refine And.intro ?_ ?_
   ·have fin := fin (fun _ => h6)
    rw [← ordU_succ hlt] at fin
    have e : ordU l (i + 1) = (([] ++ ((ordU l i).drop 0).take (k - 0)) ++ [l[i]]) ++ ((ordU l i).drop k).take ((ordU l i).length - k) := by
     rw [fin, List.take_of_length_le (l := List.drop k (ordU l i)) (by rw [List.length_drop]; exact Nat.le_refl _)]
     simp
    (conv => whnf)
    refine ⟨false, .grow, (.alt [0, 1, 2, 3, 5, 6, 7, 8] [4, 9] fun j => bif Nat.beq j 4 then (.l [9, 10, 11]) else bif Nat.beq j 9 then (.l [4, 10, 11]) else .l []), by kernel_rfl, .inl ?_⟩
    (conv => whnf)
    refine ⟨0, k, rfl, rfl, ⟨Nat.zero_le _, hk.1.1⟩, ?_⟩
    (conv => whnf)
    refine ⟨i, l[i], rfl, List.getElem?_eq_getElem hlt, ?_⟩
    (conv => whnf)
    refine And.intro ?_ ?_
    ·(conv => whnf)
     refine ⟨[], _, rfl, rfl, (by simp only [List.length_take, List.length_drop, List.length_nil]; omega), ?_⟩
     (conv => whnf)
     refine ⟨[l[i]], rfl, ?_⟩
     (conv => whnf)
     refine ⟨_, _, rfl, rfl, (by simp only [List.length_take, List.length_drop, List.length_append, List.length_cons, List.length_nil]; omega), ?_⟩
     (conv => whnf)
     refine ⟨k, (ordU l i).length, rfl, rfl, ⟨hk.1.1, Nat.le_refl _⟩, ?_⟩
     (conv => whnf)
     refine ⟨_, _, rfl, rfl, (by simp only [List.length_take, List.length_drop, List.length_append, List.length_cons, List.length_nil]; omega), ?_⟩
     repeat' ((conv => whnf); refine I6 ?_)
     refine ag (i + 1) [] [.same 4] ⟨hlt, trivial⟩ (by simp only []; omega) ?_
     rw [e]
     repeat' first | exact trivial | exact rfl | refine And.intro ?_ ?_
    ·(conv => whnf)
     refine ⟨[l[i]], rfl, ?_⟩
     (conv => whnf)
     refine ⟨[], _, rfl, rfl, (by simp only [List.length_take, List.length_drop, List.length_nil]; omega), ?_⟩
     (conv => whnf)
     refine ⟨_, _, rfl, rfl, (by simp only [List.length_take, List.length_drop, List.length_append, List.length_cons, List.length_nil]; omega), ?_⟩
     (conv => whnf)
     refine ⟨k, (ordU l i).length, rfl, rfl, ⟨hk.1.1, Nat.le_refl _⟩, ?_⟩
     (conv => whnf)
     refine ⟨_, _, rfl, rfl, (by simp only [List.length_take, List.length_drop, List.length_append, List.length_cons, List.length_nil]; omega), ?_⟩
     repeat' ((conv => whnf); refine I6 ?_)
     refine ag (i + 1) [] [.same 4] ⟨hlt, trivial⟩ (by simp only []; omega) ?_
     rw [e]
     repeat' first | exact trivial | exact rfl | refine And.intro ?_ ?_
  ·have fin := fin (fun h => by omega)
   rw [← ordU_succ hlt] at fin
   have e : ordU l (i + 1) = (([] ++ ((ordU l i).drop 0).take (k - 0)) ++ [l[i]]) ++ ((ordU l i).drop k).take ((ordU l i).length - k) := by
    rw [fin, List.take_of_length_le (l := List.drop k (ordU l i)) (by rw [List.length_drop]; exact Nat.le_refl _)]
    simp
   (conv => whnf)
   refine ⟨false, .grow, (.alt [0, 1, 2, 3, 5, 6, 7, 8] [4, 9] fun j => bif Nat.beq j 4 then (.l [9, 10, 11]) else bif Nat.beq j 9 then (.l [4, 10, 11]) else .l []), by kernel_rfl, .inl ?_⟩
   (conv => whnf)
   refine ⟨0, k, rfl, rfl, ⟨Nat.zero_le _, hk.1.1⟩, ?_⟩
   (conv => whnf)
   refine ⟨i, l[i], rfl, List.getElem?_eq_getElem hlt, ?_⟩
   (conv => whnf)
   refine And.intro ?_ ?_
   ·(conv => whnf)
    refine ⟨[], _, rfl, rfl, (by simp only [List.length_take, List.length_drop, List.length_nil]; omega), ?_⟩
    (conv => whnf)
    refine ⟨[l[i]], rfl, ?_⟩
    (conv => whnf)
    refine ⟨_, _, rfl, rfl, (by simp only [List.length_take, List.length_drop, List.length_append, List.length_cons, List.length_nil]; omega), ?_⟩
    (conv => whnf)
    refine ⟨k, (ordU l i).length, rfl, rfl, ⟨hk.1.1, Nat.le_refl _⟩, ?_⟩
    (conv => whnf)
    refine ⟨_, _, rfl, rfl, (by simp only [List.length_take, List.length_drop, List.length_append, List.length_cons, List.length_nil]; omega), ?_⟩
    repeat' ((conv => whnf); refine I6 ?_)
    refine ag (i + 1) [] [.same 4] ⟨hlt, trivial⟩ (by simp only []; omega) ?_
    rw [e]
    repeat' first | exact trivial | exact rfl | refine And.intro ?_ ?_
   ·(conv => whnf)
    refine ⟨[l[i]], rfl, ?_⟩
    (conv => whnf)
    refine ⟨[], _, rfl, rfl, (by simp only [List.length_take, List.length_drop, List.length_nil]; omega), ?_⟩
    (conv => whnf)
    refine ⟨_, _, rfl, rfl, (by simp only [List.length_take, List.length_drop, List.length_append, List.length_cons, List.length_nil]; omega), ?_⟩
    (conv => whnf)
    refine ⟨k, (ordU l i).length, rfl, rfl, ⟨hk.1.1, Nat.le_refl _⟩, ?_⟩
    (conv => whnf)
    refine ⟨_, _, rfl, rfl, (by simp only [List.length_take, List.length_drop, List.length_append, List.length_cons, List.length_nil]; omega), ?_⟩
    repeat' ((conv => whnf); refine I6 ?_)
    refine ag (i + 1) [] [.same 4] ⟨hlt, trivial⟩ (by simp only []; omega) ?_
    rw [e]
    repeat' first | exact trivial | exact rfl | refine And.intro ?_ ?_
 ·have : ordU l i = inOrdP l := by unfold ordU; rw [List.take_of_length_le (by omega)]
  (conv => whnf)
  rw [this]
  exact rx [] [.same 0]
end Go.Nest
end
/- part -/
section

namespace Go.Nest
open Go Go.AM Go.Proofs
open Go.Proofs.YtpmjnbidmcnhnaaGreatDoor (tab tabOk)
set_option maxRecDepth 4000
def prevX (l : List Fi) : Nat → Option Fi
 | 0 => none
 | i + 1 => l[i]?
theorem checkF_at {l : List Fi} {i : Nat} (h : i < l.length) : checkF (prevX l i) (l.drop i) = if (splitP l[i].path).2 ≠ 0 then (splitP l[i].path).2 else if l[i].mode ≠ 1 ∧ l[i].mode ≠ 3 then 6 else if clashF (prevX l i) l[i] ≠ 0 then clashF (prevX l i) l[i] else checkF (prevX l (i + 1)) (l.drop (i + 1)) := by
 rw [List.drop_eq_getElem_cons h]
 rw [show prevX l (i + 1) = some l[i] from List.getElem?_eq_getElem h]
 rfl
theorem underP_is {p d : List UInt8} : (underP p d).2 = (under p d).isSome := by
 unfold underP
 cases under p d <;> rfl
set_option maxHeartbeats 2000000 in
theorem check_spec' (l : List Fi) (hl : l.length ≤ 60) (hp : ∀ f ∈ l, f.path.length ≤ 4000000) : Does Tryz.prog 37 [.c (.bs 4 Fi encFi l)] [] (Rt (.c (.int .i64 (checkF none l))) []) := by
 refine X_spec (n := 68) (n0 := 0) tabOk Tryz.call37 Tryz.func37 ?_
 intro hb
 (conv => whnf)
 refine dec (fun h => by omega) (fun h0 => ?_)
 (conv => whnf)
 refine lp Nat (fun i => ⟨[(0, .c (.bs 4 Fi encFi l)), (12, .c (.bs 4 Fi encFi l)), (13, .c (.int .i64 l.length)), (14, .c (.int .i64 i))], []⟩) (fun i => i ≤ l.length ∧ checkF none l = checkF (prevX l i) (l.drop i)) (fun i => l.length - i) 0 [] [] ?_ ?_ (fun i hi => ?_)
 ·exact ⟨Nat.zero_le _, rfl⟩
 ·repeat' first | exact trivial | exact rfl | refine And.intro ?_ ?_
 obtain ⟨h1, hat⟩ := hi
 (conv => whnf)
 refine dec (fun h4 => ?_) (fun h4 => ?_)
 ·have hlt : i < l.length := by omega
  rw [checkF_at hlt] at hat
  (conv => whnf)
  refine ⟨i, l[i], rfl, List.getElem?_eq_getElem hlt, ?_⟩
  (conv => whnf)
  refine cl [] [] (pathsSplit_spec l[i].path (hp _ (List.getElem_mem _))) ?_
  (conv => whnf)
  refine decN (fun h5 => ?_) (fun h5 => ?_)
  ·rw [if_pos h5] at hat
   repeat' ((conv => whnf); first | (refine dec (fun h => ?_) (fun h => ?_) <;> try contradiction) | (refine decN (fun h => ?_) (fun h => ?_) <;> try contradiction) | refine booN (fun h => ?_) (fun h => ?_) | refine boo (fun h => ?_) (fun h => ?_) | refine ⟨i64 (by omega) (by omega), ?_⟩ | refine ⟨_, _, rfl, List.getElem?_eq_getElem (by omega), ?_⟩ | refine ⟨_, ⟨rfl, by omega⟩, ?_⟩ | refine ⟨_, List.getElem?_eq_getElem (by omega), ?_⟩ | refine rtB ?_ | refine rtI ?_ | refine rtC ?_ rfl | fail)
   exact hat.symm
  ·rw [if_neg (by simpa using h5)] at hat
   (conv => whnf)
   refine decN (fun h6 => ?_) (fun h6 => ?_)
   ·(conv => whnf)
    refine decN (fun h7 => ?_) (fun h7 => ?_)
    ·rw [if_pos ⟨h6, h7⟩] at hat
     repeat' ((conv => whnf); first | (refine dec (fun h => ?_) (fun h => ?_) <;> try contradiction) | (refine decN (fun h => ?_) (fun h => ?_) <;> try contradiction) | refine booN (fun h => ?_) (fun h => ?_) | refine boo (fun h => ?_) (fun h => ?_) | refine ⟨i64 (by omega) (by omega), ?_⟩ | refine ⟨_, _, rfl, List.getElem?_eq_getElem (by omega), ?_⟩ | refine ⟨_, ⟨rfl, by omega⟩, ?_⟩ | refine ⟨_, List.getElem?_eq_getElem (by omega), ?_⟩ | refine rtB ?_ | refine rtI ?_ | refine rtC ?_ rfl | fail)
     exact hat.symm
    ·rw [if_neg (fun h => h.2 h7)] at hat
     (conv => whnf)
     refine ⟨false, .grow, (.l [0, 1, 2, 3, 4, 5, 6, 7, 8, 9, 10, 11, 12, 13, 14]), by kernel_rfl, .inl ?_⟩
     (conv => whnf)
     refine dec (fun h7 => ?_) (fun h7 => ?_)
     ·have hi0 : 0 < i := by omega
      have hpv : prevX l i = some l[i - 1] := by
       obtain ⟨j, rfl⟩ : ∃ j, i = j + 1 := ⟨i - 1, by omega⟩
       exact List.getElem?_eq_getElem (by omega)
      (conv => whnf)
      refine ⟨i64 (by omega) (by omega), ?_⟩
      (conv => whnf)
      refine ⟨i - 1, l[i - 1], by omega, List.getElem?_eq_getElem (by omega), ?_⟩
      (conv => whnf)
      refine cl [] [] (less_spec l[i - 1].path l[i].path (hp _ (List.getElem_mem _)) (hp _ (List.getElem_mem _))) ?_
      (conv => whnf)
      refine booN (fun h8 => ?_) (fun h8 => ?_)
      ·have hc : clashF (prevX l i) l[i] = 8 := by rw [hpv]; unfold clashF; simp [h8]
       rw [hc, if_pos (by decide)] at hat
       repeat' ((conv => whnf); first | (refine dec (fun h => ?_) (fun h => ?_) <;> try contradiction) | (refine decN (fun h => ?_) (fun h => ?_) <;> try contradiction) | refine booN (fun h => ?_) (fun h => ?_) | refine boo (fun h => ?_) (fun h => ?_) | refine ⟨i64 (by omega) (by omega), ?_⟩ | refine ⟨_, _, rfl, List.getElem?_eq_getElem (by omega), ?_⟩ | refine ⟨_, ⟨rfl, by omega⟩, ?_⟩ | refine ⟨_, List.getElem?_eq_getElem (by omega), ?_⟩ | refine rtB ?_ | refine rtI ?_ | refine rtC ?_ rfl | fail)
       exact hat.symm
      ·(conv => whnf)
       refine dec (fun _ => ?_) (fun h => absurd h7 h)
       (conv => whnf)
       refine ⟨false, .grow, (.l [0, 1, 2, 3, 4, 5, 6, 7, 8, 9, 10, 11, 12, 13]), by kernel_rfl, .inl ?_⟩
       (conv => whnf)
       refine ⟨i64 (by omega) (by omega), ?_⟩
       (conv => whnf)
       refine ⟨i - 1, l[i - 1], by omega, List.getElem?_eq_getElem (by omega), ?_⟩
       (conv => whnf)
       refine cl [] [] (under_spec l[i].path l[i - 1].path (hp _ (List.getElem_mem _))) ?_
       rw [underP_is]
       (conv => whnf)
       refine boo (fun h9 => ?_) (fun h9 => ?_)
       ·have hc : clashF (prevX l i) l[i] = 10 := by rw [hpv]; unfold clashF; simp [h8, h9]
        rw [hc, if_pos (by decide)] at hat
        repeat' ((conv => whnf); first | (refine dec (fun h => ?_) (fun h => ?_) <;> try contradiction) | (refine decN (fun h => ?_) (fun h => ?_) <;> try contradiction) | refine booN (fun h => ?_) (fun h => ?_) | refine boo (fun h => ?_) (fun h => ?_) | refine ⟨i64 (by omega) (by omega), ?_⟩ | refine ⟨_, _, rfl, List.getElem?_eq_getElem (by omega), ?_⟩ | refine ⟨_, ⟨rfl, by omega⟩, ?_⟩ | refine ⟨_, List.getElem?_eq_getElem (by omega), ?_⟩ | refine rtB ?_ | refine rtI ?_ | refine rtC ?_ rfl | fail)
        exact hat.symm
       ·have hc : clashF (prevX l i) l[i] = 0 := by rw [hpv]; unfold clashF; simp [h8, h9]
        rw [hc, if_neg (by decide)] at hat
        repeat' ((conv => whnf); refine I6 ?_)
        refine ag (i + 1) [] [] ⟨hlt, hat⟩ (by simp only []; omega) ?_
        repeat' first | exact trivial | exact rfl | refine And.intro ?_ ?_
     ·obtain rfl : i = 0 := by omega
      have hc : clashF (prevX l 0) l[0] = 0 := rfl
      rw [hc, if_neg (by decide)] at hat
      repeat' ((conv => whnf); refine I6 ?_)
      refine ag (0 + 1) [] [] ⟨hlt, hat⟩ (by simp only []; omega) ?_
      repeat' first | exact trivial | exact rfl | refine And.intro ?_ ?_
   ·rw [if_neg (fun h => h.1 h6)] at hat
    (conv => whnf)
    refine ⟨false, .grow, (.l [0, 1, 2, 3, 4, 5, 6, 7, 8, 9, 10, 11, 12, 13, 14]), by kernel_rfl, .inl ?_⟩
    (conv => whnf)
    refine dec (fun h7 => ?_) (fun h7 => ?_)
    ·have hi0 : 0 < i := by omega
     have hpv : prevX l i = some l[i - 1] := by
      obtain ⟨j, rfl⟩ : ∃ j, i = j + 1 := ⟨i - 1, by omega⟩
      exact List.getElem?_eq_getElem (by omega)
     (conv => whnf)
     refine ⟨i64 (by omega) (by omega), ?_⟩
     (conv => whnf)
     refine ⟨i - 1, l[i - 1], by omega, List.getElem?_eq_getElem (by omega), ?_⟩
     (conv => whnf)
     refine cl [] [] (less_spec l[i - 1].path l[i].path (hp _ (List.getElem_mem _)) (hp _ (List.getElem_mem _))) ?_
     (conv => whnf)
     refine booN (fun h8 => ?_) (fun h8 => ?_)
     ·have hc : clashF (prevX l i) l[i] = 8 := by rw [hpv]; unfold clashF; simp [h8]
      rw [hc, if_pos (by decide)] at hat
      repeat' ((conv => whnf); first | (refine dec (fun h => ?_) (fun h => ?_) <;> try contradiction) | (refine decN (fun h => ?_) (fun h => ?_) <;> try contradiction) | refine booN (fun h => ?_) (fun h => ?_) | refine boo (fun h => ?_) (fun h => ?_) | refine ⟨i64 (by omega) (by omega), ?_⟩ | refine ⟨_, _, rfl, List.getElem?_eq_getElem (by omega), ?_⟩ | refine ⟨_, ⟨rfl, by omega⟩, ?_⟩ | refine ⟨_, List.getElem?_eq_getElem (by omega), ?_⟩ | refine rtB ?_ | refine rtI ?_ | refine rtC ?_ rfl | fail)
      exact hat.symm
     ·(conv => whnf)
      refine dec (fun _ => ?_) (fun h => absurd h7 h)
      (conv => whnf)
      refine ⟨false, .grow, (.l [0, 1, 2, 3, 4, 5, 6, 7, 8, 9, 10, 11, 12, 13]), by kernel_rfl, .inl ?_⟩
      (conv => whnf)
      refine ⟨i64 (by omega) (by omega), ?_⟩
      (conv => whnf)
      refine ⟨i - 1, l[i - 1], by omega, List.getElem?_eq_getElem (by omega), ?_⟩
      (conv => whnf)
      refine cl [] [] (under_spec l[i].path l[i - 1].path (hp _ (List.getElem_mem _))) ?_
      rw [underP_is]
      (conv => whnf)
      refine boo (fun h9 => ?_) (fun h9 => ?_)
      ·have hc : clashF (prevX l i) l[i] = 10 := by rw [hpv]; unfold clashF; simp [h8, h9]
       rw [hc, if_pos (by decide)] at hat
       repeat' ((conv => whnf); first | (refine dec (fun h => ?_) (fun h => ?_) <;> try contradiction) | (refine decN (fun h => ?_) (fun h => ?_) <;> try contradiction) | refine booN (fun h => ?_) (fun h => ?_) | refine boo (fun h => ?_) (fun h => ?_) | refine ⟨i64 (by omega) (by omega), ?_⟩ | refine ⟨_, _, rfl, List.getElem?_eq_getElem (by omega), ?_⟩ | refine ⟨_, ⟨rfl, by omega⟩, ?_⟩ | refine ⟨_, List.getElem?_eq_getElem (by omega), ?_⟩ | refine rtB ?_ | refine rtI ?_ | refine rtC ?_ rfl | fail)
       exact hat.symm
      ·have hc : clashF (prevX l i) l[i] = 0 := by rw [hpv]; unfold clashF; simp [h8, h9]
       rw [hc, if_neg (by decide)] at hat
       repeat' ((conv => whnf); refine I6 ?_)
       refine ag (i + 1) [] [] ⟨hlt, hat⟩ (by simp only []; omega) ?_
       repeat' first | exact trivial | exact rfl | refine And.intro ?_ ?_
    ·obtain rfl : i = 0 := by omega
     have hc : clashF (prevX l 0) l[0] = 0 := rfl
     rw [hc, if_neg (by decide)] at hat
     repeat' ((conv => whnf); refine I6 ?_)
     refine ag (0 + 1) [] [] ⟨hlt, hat⟩ (by simp only []; omega) ?_
     repeat' first | exact trivial | exact rfl | refine And.intro ?_ ?_
 ·rw [List.drop_of_length_le (by omega)] at hat
  repeat' ((conv => whnf); first | (refine dec (fun h => ?_) (fun h => ?_) <;> try contradiction) | (refine decN (fun h => ?_) (fun h => ?_) <;> try contradiction) | refine booN (fun h => ?_) (fun h => ?_) | refine boo (fun h => ?_) (fun h => ?_) | refine ⟨i64 (by omega) (by omega), ?_⟩ | refine ⟨_, _, rfl, List.getElem?_eq_getElem (by omega), ?_⟩ | refine ⟨_, ⟨rfl, by omega⟩, ?_⟩ | refine ⟨_, List.getElem?_eq_getElem (by omega), ?_⟩ | refine rtB ?_ | refine rtI ?_ | refine rtC ?_ rfl | fail)
  rw [hat]; unfold checkF; rfl
theorem flatCheck_spec (l : List Fi) (hp : ∀ f ∈ l, f.path.length ≤ 4000000) : Does Tryz.prog 37 [.c (.bs 4 Fi encFi l)] [] (Rt (.c (.int .i64 (filesF l))) []) := by
 by_cases h : 60 < l.length
 ·refine X_spec (n := 68) (n0 := 0) tabOk Tryz.call37 Tryz.func37 ?_
  intro hb
  repeat' ((conv => whnf); first | (refine dec (fun h => ?_) (fun h => ?_) <;> try contradiction) | (refine decN (fun h => ?_) (fun h => ?_) <;> try contradiction) | refine booN (fun h => ?_) (fun h => ?_) | refine boo (fun h => ?_) (fun h => ?_) | refine ⟨i64 (by omega) (by omega), ?_⟩ | refine ⟨_, _, rfl, List.getElem?_eq_getElem (by omega), ?_⟩ | refine ⟨_, ⟨rfl, by omega⟩, ?_⟩ | refine ⟨_, List.getElem?_eq_getElem (by omega), ?_⟩ | refine rtB ?_ | refine rtI ?_ | refine rtC ?_ rfl | fail)
  ·unfold filesF; rw [if_pos (by omega)]
  ·omega
 ·have := check_spec' l (by omega) hp
  unfold filesF
  rw [if_neg h]; exact this
end Go.Nest
end
/- part -/
section

namespace Go.Nest
open Go Go.AM Go.Proofs
open Go.Proofs.YtpmjnbidmcnhnaaGreatDoor (tab tabOk)
set_option maxRecDepth 4000
theorem idxF_find {α : Type} {p : α → Bool} {l : List α} : (¬ 0 ≤ idxF p l ∧ l.find? p = none) ∨ ∃ (i : Nat) (h : i < l.length), idxF p l = i ∧ l.find? p = some l[i] := by
 unfold idxF
 cases h : l.findIdx? p with
 | none =>
  rw [List.findIdx?_eq_none_iff] at h
  exact .inl ⟨by simp, by rw [List.find?_eq_none]; intro x hx; simp [h x hx]⟩
 | some i =>
  rw [List.findIdx?_eq_some_iff_getElem] at h
  obtain ⟨h1, h2, h3⟩ := h
  refine .inr ⟨i, h1, rfl, ?_⟩
  rw [List.find?_eq_some_iff_getElem]
  exact ⟨h2, i, h1, rfl, fun j hj => by simpa using h3 j hj⟩
end Go.Nest
end
/- part -/
section

namespace Go.Nest
open Go Go.AM Go.Proofs
open Go.Proofs.YtpmjnbidmcnhnaaGreatDoor (tab tabOk)
set_option maxRecDepth 4000
theorem findF_spec (x : Fi) (p : List UInt8) : Does Tryz.prog 123 [.st (encFi x), .c (.bp [.str p])] [] (Rt (.c (.bool (decide (x.path = p)))) []) := by
 refine X_spec (n := 8) (n0 := 0) tabOk Tryz.call123 Tryz.func123 ?_
 intro hb
 repeat' ((conv => whnf); first | (refine dec (fun h => ?_) (fun h => ?_) <;> try contradiction) | (refine decN (fun h => ?_) (fun h => ?_) <;> try contradiction) | refine booN (fun h => ?_) (fun h => ?_) | refine boo (fun h => ?_) (fun h => ?_) | refine ⟨i64 (by omega) (by omega), ?_⟩ | refine ⟨_, _, rfl, List.getElem?_eq_getElem (by omega), ?_⟩ | refine ⟨_, ⟨rfl, by omega⟩, ?_⟩ | refine ⟨_, List.getElem?_eq_getElem (by omega), ?_⟩ | refine rtB ?_ | refine rtI ?_ | refine rtC ?_ rfl | fail)
 rfl
theorem indexFi_spec (l : List Fi) (p : List UInt8) : Does Tryz.prog 122 [.c (.bs 4 Fi encFi l), .c (.fn 123 [.bp [.str p]])] [] (Rt (.c (.int .i64 (idxF (fun f : Fi => decide (f.path = p)) l))) []) := by
 refine X_spec (n := 19) (n0 := 0) tabOk Tryz.call122 Tryz.func122 ?_
 intro hb; have hb : l.length ≤ 9223372036854775807 := hb.1.1
 (conv => whnf)
 refine lp Nat (fun i => ⟨[(0, .c (.bs 4 Fi encFi l)), (1, .c (.fn 123 [.bp [.str p]])), (7, .c (.int .i64 l.length)), (8, .c (.int .i64 i))], []⟩) (fun i => i ≤ l.length ∧ (l.take i).any (fun f : Fi => decide (f.path = p)) = false) (fun i => l.length - i) 0 [] [] ?_ ?_ (fun i hi => ?_)
 ·simp
 ·repeat' first | exact trivial | exact rfl | refine And.intro ?_ ?_
 (conv => whnf)
 refine dec (fun h4 => ?_) (fun h4 => ?_)
 ·have hlt : i < l.length := by omega
  repeat' ((conv => whnf); first | (refine dec (fun h => ?_) (fun h => ?_) <;> try contradiction) | (refine decN (fun h => ?_) (fun h => ?_) <;> try contradiction) | refine booN (fun h => ?_) (fun h => ?_) | refine boo (fun h => ?_) (fun h => ?_) | refine ⟨i64 (by omega) (by omega), ?_⟩ | refine ⟨_, _, rfl, List.getElem?_eq_getElem (by omega), ?_⟩ | refine ⟨_, ⟨rfl, by omega⟩, ?_⟩ | refine ⟨_, List.getElem?_eq_getElem (by omega), ?_⟩ | refine rtB ?_ | refine rtI ?_ | refine rtC ?_ rfl | fail)
  (conv => whnf)
  refine cl [] [] (findF_spec l[i] p) ?_
  repeat' ((conv => whnf); first | (refine dec (fun h => ?_) (fun h => ?_) <;> try contradiction) | (refine decN (fun h => ?_) (fun h => ?_) <;> try contradiction) | refine booN (fun h => ?_) (fun h => ?_) | refine boo (fun h => ?_) (fun h => ?_) | refine ⟨i64 (by omega) (by omega), ?_⟩ | refine ⟨_, _, rfl, List.getElem?_eq_getElem (by omega), ?_⟩ | refine ⟨_, ⟨rfl, by omega⟩, ?_⟩ | refine ⟨_, List.getElem?_eq_getElem (by omega), ?_⟩ | refine rtB ?_ | refine rtI ?_ | refine rtC ?_ rfl | fail)
  ·exact idxF_at hlt hi.2 (by simpa using h)
  ·refine ag (i + 1) [] [] ⟨hlt, any_take hlt hi.2 (by simpa using h)⟩ (by simp only []; omega) ?_
   repeat' first | exact trivial | exact rfl | refine And.intro ?_ ?_
 ·repeat' ((conv => whnf); first | (refine dec (fun h => ?_) (fun h => ?_) <;> try contradiction) | (refine decN (fun h => ?_) (fun h => ?_) <;> try contradiction) | refine booN (fun h => ?_) (fun h => ?_) | refine boo (fun h => ?_) (fun h => ?_) | refine ⟨i64 (by omega) (by omega), ?_⟩ | refine ⟨_, _, rfl, List.getElem?_eq_getElem (by omega), ?_⟩ | refine ⟨_, ⟨rfl, by omega⟩, ?_⟩ | refine ⟨_, List.getElem?_eq_getElem (by omega), ?_⟩ | refine rtB ?_ | refine rtI ?_ | refine rtC ?_ rfl | fail)
  have := hi.2
  rw [List.take_of_length_le (by omega)] at this
  exact idxF_none this
theorem find_spec (l : List Fi) (p : List UInt8) : Does Tryz.prog 79 [.c (.bs 4 Fi encFi l), .c (.str p)] [] (Rt (.tup [(true, encFi (fileAtP l p).1), (false, [.bool (fileAtP l p).2])]) []) := by
 refine X_spec (n := 17) (n0 := 0) tabOk Tryz.call79 Tryz.func79 ?_
 intro hb
 (conv => whnf)
 refine cl [] [] (indexFi_spec l p) ?_
 rcases idxF_find (p := fun f : Fi => decide (f.path = p)) (l := l) with ⟨k1, k2⟩ | ⟨k, k1, k2, k3⟩
 ·have e : fileAtP l p = (fi0, false) := by unfold fileAtP; rw [k2]
  rw [e]
  (conv => whnf)
  refine dec (fun _ => ?_) (fun h => absurd (by omega) h)
  (conv => whnf)
  exact rx [] []
 ·have e : fileAtP l p = (l[k], true) := by unfold fileAtP; rw [k3]
  rw [e, k2]
  (conv => whnf)
  refine ⟨k, l[k], rfl, List.getElem?_eq_getElem k1, ?_⟩
  (conv => whnf)
  exact rx [] []
end Go.Nest
end
/- part -/
section

namespace Go.Nest
open Go Go.AM Go.Proofs
open Go.Proofs.YtpmjnbidmcnhnaaGreatDoor (tab tabOk)
set_option maxRecDepth 4000
def meets (p : List UInt8) (f : Fi) : Bool := (underP f.path p).2 || ((underP p f.path).2 || decide (f.path = p))
def blobO (b : List UInt8) : Ob := ⟨1, b, [], 0, [], []⟩
def docStep (s : List Ob × List Fi) (d : Dc) : List Ob × List Fi :=
 if (splitP d.path).2 ≠ 0 then s else if 400 < d.bytes.length then s else if s.2.any (meets d.path) = true then s
 else ((putP s.1 (blobO d.bytes)).2.2, if (putP s.1 (blobO d.bytes)).2.1 = 0 then s.2 ++ [⟨d.path, 1, (putP s.1 (blobO d.bytes)).1, 0⟩] else s.2)
def docsU (L : List Ob) (l : List Dc) : List Ob × List Fi := l.foldl docStep (L, [])
theorem docsU_succ {L : List Ob} {l : List Dc} {i : Nat} (h : i < l.length) : docsU L (l.take (i + 1)) = docStep (docsU L (l.take i)) l[i] := by
 unfold docsU
 rw [List.take_succ_eq_append_getElem h, List.foldl_append]; rfl
theorem docStep_ok {s : List Ob × List Fi} {d : Dc} (h : PoolOk s.1) : PoolOk (docStep s d).1 := by
 unfold docStep
 split
 ·exact h
 split
 ·exact h
 split
 ·exact h
 exact putP_ok h _
theorem docStep_out {s : List Ob × List Fi} {d : Dc} : (docStep s d).2 = s.2 ∨ ∃ id, (docStep s d).2 = s.2 ++ [⟨d.path, 1, id, 0⟩] := by
 unfold docStep
 split
 ·exact .inl rfl
 split
 ·exact .inl rfl
 split
 ·exact .inl rfl
 dsimp only
 split
 ·exact .inr ⟨_, rfl⟩
 ·exact .inl rfl
theorem docs_fold {P : List Ob × List Fi → Prop} {l : List Dc} (hs : ∀ s d, d ∈ l → P s → P (docStep s d)) {s : List Ob × List Fi} (h : P s) : P (l.foldl docStep s) := by
 induction l generalizing s with
 | nil => exact h
 | cons d l ih => exact ih (fun s d hd => hs s d (by simp [hd])) (hs s d (by simp) h)
theorem docs_ok {L : List Ob} {l : List Dc} (h : PoolOk L) : PoolOk (docsU L l).1 := docs_fold (P := fun s => PoolOk s.1) (fun s d _ h => docStep_ok h) h
theorem docs_path {L : List Ob} {l : List Dc} : ∀ f ∈ (docsU L l).2, ∃ d ∈ l, f.path = d.path :=
 docs_fold (P := fun s => ∀ f ∈ s.2, ∃ d ∈ l, f.path = d.path) (fun s d hd h f hf => by
  rcases docStep_out (s := s) (d := d) with e | ⟨id, e⟩
  ·rw [e] at hf; exact h f hf
  ·rw [e, List.mem_append, List.mem_singleton] at hf
   rcases hf with hf | rfl
   ·exact h f hf
   ·exact ⟨d, hd, rfl⟩) (fun f hf => by cases hf)
theorem docs_len : ∀ {l : List Dc} {s : List Ob × List Fi}, (l.foldl docStep s).2.length ≤ s.2.length + l.length
 | [], s => by simp
 | d :: l, s => by
  have := docs_len (l := l) (s := docStep s d)
  have : (docStep s d).2.length ≤ s.2.length + 1 := by
   rcases docStep_out (s := s) (d := d) with e | ⟨id, e⟩ <;> rw [e] <;> simp
  simp only [List.foldl_cons, List.length_cons]; omega
set_option maxHeartbeats 4000000 in
theorem docFiles_spec (L : List Ob) (hL : PoolOk L) (l : List Dc) (hl : DocsOk l) : Does Tryz.prog 34 [.c (.ptr 0 0), .c (.ptr 2 0), .c (.bs 2 Dc encDc l)] [.box [.rw 1], .row 6 Ob encOb L, .box [.rw 3], .row 6 Ob encOb L]
  (Rt (.c (.rw 6)) [.box [.rw 4], .dead, .box [.rw 5], .dead, .row 6 Ob encOb (docsU L l).1, .row 6 Ob encOb (docsU L l).1, .row 4 Fi encFi (inOrdP (docsU L l).2)]) := by
 refine X_spec (n := 139) (n0 := 4) tabOk Tryz.call34 Tryz.func34 ?_
 intro hb
 have hll := hl.1
 (conv => whnf)
 refine lp Nat (fun i => ⟨[(0, .c (.ptr 0 0)), (1, .c (.ptr 2 0)), (2, .c (.bs 2 Dc encDc l)), (7, .c (.rw 6)), (8, .c (.int .i64 i))],
  [.box [.rw 4], .dead, .box [.rw 5], .dead, .row 6 Ob encOb (docsU L (l.take i)).1, .row 6 Ob encOb (docsU L (l.take i)).1, .row 4 Fi encFi (docsU L (l.take i)).2]⟩) (fun i => i ≤ l.length ∧ True) (fun i => l.length - i) 0 [] [.same 0, .same 1, .same 2, .same 3, .same 1, .same 3, .new] ?_ ?_ (fun i hi => ?_)
 ·simp
 ·repeat' first | exact trivial | exact rfl | refine And.intro ?_ ?_
 have hM : PoolOk (docsU L (l.take i)).1 := docs_ok hL
 have hfp : ∀ f ∈ (docsU L (l.take i)).2, f.path.length ≤ 6000 := fun f hf => by
  obtain ⟨d, hd, e⟩ := docs_path f hf
  rw [e]; exact (hl.2 d (List.mem_of_mem_take hd)).1
 have hol : (docsU L (l.take i)).2.length ≤ l.length := by
  have := docs_len (l := l.take i) (s := (L, []))
  rw [List.length_take] at this
  unfold docsU
  simp at this; omega
 (conv => whnf)
 refine dec (fun h4 => ?_) (fun h4 => ?_)
 ·have hlt : i < l.length := by omega
  have hsu := docsU_succ (L := L) hlt
  generalize docsU L (l.take i) = s at *
  obtain ⟨M, out⟩ := s
  dsimp only at hM hfp hol hsu
  have hML := hM.len
  obtain ⟨hp, hbl⟩ := hl.2 _ (List.getElem_mem hlt)
  generalize hd : l[i] = d at *
  have hld : l[i]? = some d := by rw [List.getElem?_eq_getElem hlt, hd]
  (conv => whnf)
  refine ⟨i, d, rfl, hld, ?_⟩
  (conv => whnf)
  refine cl [] [] (pathOf_spec d.path (by omega)) ?_
  (conv => whnf)
  refine decN (fun h5 => ?_) (fun h5 => ?_)
  ·have e : docStep (M, out) d = (M, out) := by unfold docStep; rw [if_pos h5]
   rw [e] at hsu
   repeat' ((conv => whnf); refine I6 ?_)
   refine ag (i + 1) [] [.same 0, .same 1, .same 2, .same 3, .same 4, .same 5, .same 6] ⟨hlt, trivial⟩ (by simp only []; omega) ?_
   rw [hsu]
   repeat' first | exact trivial | exact rfl | refine And.intro ?_ ?_
  have h5 : ¬ (splitP d.path).2 ≠ 0 := by simpa using h5
  (conv => whnf)
  refine ⟨i, d, rfl, hld, ?_⟩
  (conv => whnf)
  refine dec (fun h6 => ?_) (fun h6 => ?_)
  ·have e : docStep (M, out) d = (M, out) := by unfold docStep; rw [if_neg h5, if_pos (by omega)]
   rw [e] at hsu
   repeat' ((conv => whnf); refine I6 ?_)
   refine ag (i + 1) [] [.same 0, .same 1, .same 2, .same 3, .same 4, .same 5, .same 6] ⟨hlt, trivial⟩ (by simp only []; omega) ?_
   rw [hsu]
   repeat' first | exact trivial | exact rfl | refine And.intro ?_ ?_
  (conv => whnf)
  refine lp Nat (fun k => ⟨[(0, .c (.ptr 0 0)), (1, .c (.ptr 2 0)), (2, .c (.bs 2 Dc encDc l)), (7, .c (.rw 6)), (8, .c (.int .i64 i)), (11, .c (.bool ((out.take k).any (meets d.path)))), (12, .c (.int .i64 k))], [.box [.rw 4], .dead, .box [.rw 5], .dead, .row 6 Ob encOb M, .row 6 Ob encOb M, .row 4 Fi encFi out]⟩) (fun k => k ≤ out.length ∧ True) (fun k => out.length - k) 0 [] [.same 0, .same 1, .same 2, .same 3, .same 4, .same 5, .same 6] ?_ ?_ (fun k hk => ?_)
  ·simp
  ·repeat' first | exact trivial | exact rfl | refine And.intro ?_ ?_
  (conv => whnf)
  refine dec (fun h7 => ?_) (fun h7 => ?_)
  ·have hkl : k < out.length := by omega
   have hfk := hfp _ (List.getElem_mem hkl)
   have hst : (out.take (k + 1)).any (meets d.path) = ((out.take k).any (meets d.path) || ((underP out[k].path d.path).2 || ((underP d.path out[k].path).2 || decide (out[k].path = d.path)))) := by
    rw [List.take_succ_eq_append_getElem hkl, List.any_append, List.any_cons, List.any_nil, Bool.or_false]; rfl
   (conv => whnf)
   refine ⟨false, .grow, (.l [0, 1, 2, 3, 4, 5, 6, 7, 8, 9, 10, 11, 12, 13, 14, 15]), by kernel_rfl, .inl ?_⟩
   (conv => whnf)
   refine ⟨k, ⟨rfl, hkl⟩, ?_⟩
   (conv => whnf)
   refine ⟨out[k], List.getElem?_eq_getElem hkl, ?_⟩
   (conv => whnf)
   refine ⟨i, d, rfl, hld, ?_⟩
   (conv => whnf)
   refine cl [] [] (behind_spec out[k].path d.path (by omega)) ?_
   (conv => whnf)
   refine ⟨false, .grow, (.l [0, 1, 2, 3, 4, 5, 6, 7, 8, 9, 10, 11, 12, 13, 14, 15]), by kernel_rfl, .inl ?_⟩
   (conv => whnf)
   refine ⟨i, d, rfl, hld, ?_⟩
   (conv => whnf)
   refine ⟨k, ⟨rfl, hkl⟩, ?_⟩
   (conv => whnf)
   refine ⟨out[k], List.getElem?_eq_getElem hkl, ?_⟩
   (conv => whnf)
   refine cl [] [] (behind_spec d.path out[k].path (by omega)) ?_
   (conv => whnf)
   refine ⟨false, .grow, (.l [0, 1, 2, 3, 4, 5, 6, 7, 8, 9, 10, 11, 12, 13, 14, 15, 16, 17, 18, 19, 20]), by kernel_rfl, .inl ?_⟩
   (conv => whnf)
   refine boo (fun q1 => ?_) (fun q1 => ?_)
   ·rw [q1, Bool.true_or] at hst
    repeat' ((conv => whnf); refine I6 ?_)
    refine ag (k + 1) [] [.same 0, .same 1, .same 2, .same 3, .same 4, .same 5, .same 6] ⟨hkl, trivial⟩ (by simp only []; omega) ?_
    rw [hst]
    repeat' first | exact trivial | exact rfl | refine And.intro ?_ ?_
   rw [q1, Bool.false_or] at hst
   (conv => whnf)
   refine boo (fun q2 => ?_) (fun q2 => ?_)
   ·rw [q2, Bool.true_or] at hst
    repeat' ((conv => whnf); refine I6 ?_)
    refine ag (k + 1) [] [.same 0, .same 1, .same 2, .same 3, .same 4, .same 5, .same 6] ⟨hkl, trivial⟩ (by simp only []; omega) ?_
    rw [hst]
    repeat' first | exact trivial | exact rfl | refine And.intro ?_ ?_
   rw [q2, Bool.false_or] at hst
   (conv => whnf)
   refine boo (fun q3 => ?_) (fun q3 => ?_)
   ·rw [q3, Bool.true_or] at hst
    repeat' ((conv => whnf); refine I6 ?_)
    refine ag (k + 1) [] [.same 0, .same 1, .same 2, .same 3, .same 4, .same 5, .same 6] ⟨hkl, trivial⟩ (by simp only []; omega) ?_
    rw [hst]
    repeat' first | exact trivial | exact rfl | refine And.intro ?_ ?_
   rw [q3, Bool.false_or] at hst
   (conv => whnf)
   refine ⟨k, ⟨rfl, hkl⟩, ?_⟩
   (conv => whnf)
   refine ⟨out[k], List.getElem?_eq_getElem hkl, ?_⟩
   (conv => whnf)
   refine ⟨i, d, rfl, hld, ?_⟩
   repeat' ((conv => whnf); refine I6 ?_)
   refine ag (k + 1) [] [.same 0, .same 1, .same 2, .same 3, .same 4, .same 5, .same 6] ⟨hkl, trivial⟩ (by simp only []; omega) ?_
   rw [hst]
   repeat' first | exact trivial | exact rfl | refine And.intro ?_ ?_
  ·obtain rfl : k = out.length := by omega
   rw [List.take_length]
   have hid : ∀ x, docStep (M, out) d = x → docsU L (l.take (i + 1)) = x := fun x e => by rw [hsu, e]
   (conv => whnf)
   refine boo (fun h8 => ?_) (fun h8 => ?_)
   ·have e := hid (M, out) (by unfold docStep; rw [if_neg h5, if_neg (by omega), if_pos h8])
    repeat' ((conv => whnf); refine I6 ?_)
    refine ag (i + 1) [] [.same 0, .same 1, .same 2, .same 3, .same 4, .same 5, .same 6] ⟨hlt, trivial⟩ (by simp only []; omega) ?_
    rw [e]
    repeat' first | exact trivial | exact rfl | refine And.intro ?_ ?_
   have e := hid _ (by unfold docStep; rw [if_neg h5, if_neg (by omega), if_neg (by simp [h8])])
   (conv => whnf)
   refine ⟨i, d, rfl, hld, ?_⟩
   (conv => whnf)
   refine cl [] [0, 4] (put_spec M (blobO d.bytes) hML) ?_
   (conv => whnf)
   refine cl [] [2, 5] (putR_spec M (blobO d.bytes) hML) ?_
   generalize putP M (blobO d.bytes) = R at *
   (conv => whnf)
   refine dec (fun h9 => ?_) (fun h9 => ?_)
   ·rw [if_pos h9] at e
    (conv => whnf)
    refine dec (fun _ => ?_) (fun h => absurd h9 h)
    (conv => whnf)
    refine ⟨i, d, rfl, hld, ?_⟩
    (conv => whnf)
    refine ⟨[⟨d.path, 1, R.1, 0⟩], rfl, ?_⟩
    (conv => whnf)
    refine ⟨_, _, rfl, rfl, (by simp only [List.length_append, List.length_cons, List.length_nil]; omega), ?_⟩
    repeat' ((conv => whnf); refine I6 ?_)
    refine ag (i + 1) [] [.same 0, .same 1, .same 2, .same 3, .same 8, .same 9, .same 11] ⟨hlt, trivial⟩ (by simp only []; omega) ?_
    rw [e]
    repeat' first | exact trivial | exact rfl | refine And.intro ?_ ?_
   ·rw [if_neg h9] at e
    repeat' ((conv => whnf); refine I6 ?_)
    refine ag (i + 1) [] [.same 0, .same 1, .same 2, .same 3, .same 8, .same 9, .same 6] ⟨hlt, trivial⟩ (by simp only []; omega) ?_
    rw [e]
    repeat' first | exact trivial | exact rfl | refine And.intro ?_ ?_
 ·have e : l.take i = l := List.take_of_length_le (by omega)
  rw [e]
  (conv => whnf)
  refine cl [] [] (inOrder_spec (docsU L l).2 (by rw [e] at hol; omega) (fun f hf => by rw [e] at hfp; have := hfp f hf; omega)) ?_
  (conv => whnf)
  exact rx [] [.same 0, .same 1, .same 2, .same 3, .same 4, .same 5, .same 7]
end Go.Nest
end
