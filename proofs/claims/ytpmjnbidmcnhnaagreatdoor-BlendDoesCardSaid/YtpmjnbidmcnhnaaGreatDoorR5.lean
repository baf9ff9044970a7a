/- part -/
import Derived.Test.YtpmjnbidmcnhnaaGreatDoorW7
import Derived.Test.YtpmjnbidmcnhnaaGreatDoorP10
import Derived.Test.YtpmjnbidmcnhnaaGreatDoorP8
import Derived.Room.Shelf.Join48
import Derived.Test.YtpmjnbidmcnhnaaGreatDoorProg
import Derived.KernelRfl
import Derived.Test.YtpmjnbidmcnhnaaGreatDoorL1
set_option linter.unusedVariables false
set_option linter.unusedSimpArgs false
section

namespace Go.Nest
open Go Go.AM Go.Proofs
open Go.Proofs.YtpmjnbidmcnhnaaGreatDoor (tab tabOk)
set_option maxRecDepth 4000
theorem eqFi {a b : Fi} : EqCs (encFi a) (encFi b) ↔ a = b := by
 cases a; cases b; simp [encFi, EqCs, EqC]
theorem sameFiles_spec (a b : List Fi) : Does Tryz.prog 18 [.c (.bs 4 Fi encFi a), .c (.bs 4 Fi encFi b)] [] (Rt (.c (.bool (decide (a = b)))) []) := by
 refine X_spec (n := 26) (n0 := 0) tabOk Tryz.call18 Tryz.func18 ?_
 intro hb; have hb : a.length ≤ 9223372036854775807 := hb.1.1
 repeat' ((conv => whnf); first | (refine dec (fun h => ?_) (fun h => ?_) <;> try contradiction) | (refine decN (fun h => ?_) (fun h => ?_) <;> try contradiction) | refine booN (fun h => ?_) (fun h => ?_) | refine boo (fun h => ?_) (fun h => ?_) | refine ⟨i64 (by omega) (by omega), ?_⟩ | refine ⟨_, _, rfl, List.getElem?_eq_getElem (by omega), ?_⟩ | refine ⟨_, ⟨rfl, by omega⟩, ?_⟩ | refine ⟨_, List.getElem?_eq_getElem (by omega), ?_⟩ | refine rtB ?_ | refine rtI ?_ | refine rtC ?_ rfl | fail)
 ·exact ne_len h
 (conv => whnf)
 have hl : a.length = b.length := by omega
 refine lp Nat (fun i => ⟨[(0, .c (.bs 4 Fi encFi a)), (1, .c (.bs 4 Fi encFi b)), (5, .c (.int .i64 i))], []⟩) (fun i => i ≤ a.length ∧ a.take i = b.take i) (fun i => a.length - i) 0 [] [] ?_ ?_ (fun i hi => ?_)
 ·simp
 ·repeat' first | exact trivial | exact rfl | refine And.intro ?_ ?_
 (conv => whnf)
 refine dec (fun h4 => ?_) (fun h4 => ?_)
 ·have hlt : i < a.length := by omega
  have hlt' : i < b.length := by omega
  (conv => whnf)
  refine ⟨false, .grow, (.l [0, 1, 2, 3, 4, 5, 6, 7, 8]), by kernel_rfl, .inl ?_⟩
  repeat' ((conv => whnf); first | (refine dec (fun h => ?_) (fun h => ?_) <;> try contradiction) | (refine decN (fun h => ?_) (fun h => ?_) <;> try contradiction) | refine booN (fun h => ?_) (fun h => ?_) | refine boo (fun h => ?_) (fun h => ?_) | refine ⟨i64 (by omega) (by omega), ?_⟩ | refine ⟨_, _, rfl, List.getElem?_eq_getElem (by omega), ?_⟩ | refine ⟨_, ⟨rfl, by omega⟩, ?_⟩ | refine ⟨_, List.getElem?_eq_getElem (by omega), ?_⟩ | refine rtB ?_ | refine rtI ?_ | refine rtC ?_ rfl | fail)
  ·exact ne_at hlt hlt' (fun e => h ((eqFi).2 e))
  ·refine ag (i + 1) [] [] ⟨hlt, take_step hlt hlt' hi.2 ((eqFi).1 h)⟩ (by simp only []; omega) ?_
   repeat' first | exact trivial | exact rfl | refine And.intro ?_ ?_
 ·repeat' ((conv => whnf); first | (refine dec (fun h => ?_) (fun h => ?_) <;> try contradiction) | (refine decN (fun h => ?_) (fun h => ?_) <;> try contradiction) | refine booN (fun h => ?_) (fun h => ?_) | refine boo (fun h => ?_) (fun h => ?_) | refine ⟨i64 (by omega) (by omega), ?_⟩ | refine ⟨_, _, rfl, List.getElem?_eq_getElem (by omega), ?_⟩ | refine ⟨_, ⟨rfl, by omega⟩, ?_⟩ | refine ⟨_, List.getElem?_eq_getElem (by omega), ?_⟩ | refine rtB ?_ | refine rtI ?_ | refine rtC ?_ rfl | fail)
  exact take_end (by omega) hl hi.2
theorem fileAt_spec (l : List Fi) (p : List UInt8) : Does Tryz.prog 39 [.c (.bs 4 Fi encFi l), .c (.str p)] [] (Rt (.tup [(true, encFi (fileAtP l p).1), (false, [.bool (fileAtP l p).2])]) []) := by
 refine X_spec (n := 25) (n0 := 0) tabOk Tryz.call39 Tryz.func39 ?_
 intro hb; have hb : l.length ≤ 9223372036854775807 := hb.1.1
 (conv => whnf)
 refine lp Nat (fun i => ⟨[(0, .c (.bs 4 Fi encFi l)), (1, .c (.str p)), (4, .c (.ptr 0 0)), (5, .c (.bool false)), (6, .c (.int .i64 i))], [.box (encFi fi0)]⟩) (fun i => i ≤ l.length ∧ ∀ f ∈ l.take i, f.path ≠ p) (fun i => l.length - i) 0 [] [.same 0] ?_ ?_ (fun i hi => ?_)
 ·simp
 ·repeat' first | exact trivial | exact rfl | refine And.intro ?_ ?_
 (conv => whnf)
 refine dec (fun h4 => ?_) (fun h4 => ?_)
 ·have hlt : i < l.length := by omega
  repeat' ((conv => whnf); first | (refine dec (fun h => ?_) (fun h => ?_) <;> try contradiction) | (refine decN (fun h => ?_) (fun h => ?_) <;> try contradiction) | refine booN (fun h => ?_) (fun h => ?_) | refine boo (fun h => ?_) (fun h => ?_) | refine ⟨i64 (by omega) (by omega), ?_⟩ | refine ⟨_, _, rfl, List.getElem?_eq_getElem (by omega), ?_⟩ | refine ⟨_, ⟨rfl, by omega⟩, ?_⟩ | refine ⟨_, List.getElem?_eq_getElem (by omega), ?_⟩ | refine rtB ?_ | refine rtI ?_ | refine rtC ?_ rfl | fail)
  ·have : fileAtP l p = (l[i], true) := by
    unfold fileAtP
    have : l.find? (fun f => decide (f.path = p)) = some l[i] := by
     rw [List.find?_eq_some_iff_getElem]
     refine ⟨by simpa using h, i, hlt, rfl, fun j hj => ?_⟩
     have := hi.2 l[j] (by rw [List.mem_take_iff_getElem]; exact ⟨j, by omega, rfl⟩)
     simpa using this
    rw [this]
   rw [this]
   (conv => whnf)
   exact rx [] []
  ·refine ag (i + 1) [] [.same 0] ⟨hlt, ?_⟩ (by simp only []; omega) ?_
   ·intro f hf
    rw [List.take_succ_eq_append_getElem hlt, List.mem_append, List.mem_singleton] at hf
    rcases hf with hf | rfl
    ·exact hi.2 f hf
    ·exact h
   ·repeat' first | exact trivial | exact rfl | refine And.intro ?_ ?_
 ·have h2 := hi.2
  rw [List.take_of_length_le (by omega)] at h2
  have : fileAtP l p = (fi0, false) := by
   unfold fileAtP
   have : l.find? (fun f => decide (f.path = p)) = none := by
    rw [List.find?_eq_none]; intro f hf; simpa using h2 f hf
   rw [this]
  rw [this]
  repeat' ((conv => whnf); refine I6 ?_)
  (conv => whnf)
  exact rx [] []
def sumL (l : List Fi) : Nat := (l.map fun f => f.path.length).sum
theorem sumL_take {l : List Fi} {i : Nat} (h : i < l.length) : sumL (l.take (i + 1)) = sumL (l.take i) + l[i].path.length := by
 unfold sumL
 rw [List.take_succ_eq_append_getElem h, List.map_append, List.sum_append]; simp
theorem sumL_le {l : List Fi} {n : Nat} (h : ∀ f ∈ l, f.path.length ≤ n) : sumL l ≤ l.length * n := by
 induction l with
 | nil => simp [sumL]
 | cons f l ih =>
  have h1 := ih (fun x hx => h x (by simp [hx]))
  have h2 := h f (by simp)
  unfold sumL at h1 ⊢
  rw [List.map_cons, List.sum_cons, List.length_cons, Nat.succ_mul]
  omega
theorem sumL_mem {l : List Fi} {f : Fi} (h : f ∈ l) : f.path.length ≤ sumL l := by
 induction l with
 | nil => cases h
 | cons g l ih =>
  unfold sumL at ih ⊢
  rw [List.map_cons, List.sum_cons]
  rcases List.mem_cons.1 h with rfl | h
  ·omega
  ·have := ih h; omega
def greatF (l : List Fi) : Bool := decide (150 < l.length) || decide (6000 < sumL (l.take 200))
theorem greatF_ok {l : List Fi} (h : greatF l = false) : l.length ≤ 150 ∧ sumL l ≤ 6000 ∧ ∀ f ∈ l, f.path.length ≤ 6000 := by
 unfold greatF at h
 rw [Bool.or_eq_false_iff, decide_eq_false_iff_not, decide_eq_false_iff_not] at h
 have h1 : l.length ≤ 150 := by omega
 rw [List.take_of_length_le (by omega)] at h
 exact ⟨h1, by omega, fun f hf => by have := sumL_mem hf; omega⟩
theorem greatFiles_spec (l : List Fi) (hl : ∀ f ∈ l, f.path.length ≤ 140737488351232) : Does Tryz.prog 41 [.c (.bs 4 Fi encFi l)] [] (Rt (.c (.bool (greatF l))) []) := by
 refine X_spec (n := 30) (n0 := 0) tabOk Tryz.call41 Tryz.func41 ?_
 intro hb; have hb : l.length ≤ 9223372036854775807 := hb.1.1
 (conv => whnf)
 refine lp Nat (fun i => ⟨[(0, .c (.bs 4 Fi encFi l)), (3, .c (.int .i64 (sumL (l.take i)))), (4, .c (.int .i64 i))], []⟩) (fun i => i ≤ l.length ∧ i ≤ 200) (fun i => l.length - i) 0 [] [] ?_ ?_ (fun i hi => ?_)
 ·simp
 ·repeat' first | exact trivial | exact rfl | refine And.intro ?_ ?_
 have hs : sumL (l.take i) ≤ 200 * 140737488351232 := by
  have h2 : (l.take i).length ≤ 200 := by rw [List.length_take]; omega
  have key : ∀ N, (∀ f ∈ l, f.path.length ≤ N) → sumL (l.take i) ≤ 200 * N := fun N h => Nat.le_trans (sumL_le fun f hf => h f (List.mem_of_mem_take hf)) (Nat.mul_le_mul_right N h2)
  exact key _ hl
 have fin : ¬ (i < l.length ∧ i < 200) → sumL (l.take i) = sumL (l.take 200) := fun h => by
  by_cases h3 : i < l.length
  ·have : i = 200 := by omega
   rw [this]
  ·rw [List.take_of_length_le (by omega), List.take_of_length_le (by omega)]
 (conv => whnf)
 refine dec (fun h4 => ?_) (fun h4 => ?_)
 ·(conv => whnf)
  refine dec (fun h5 => ?_) (fun h5 => ?_)
  ·have hlt : i < l.length := by omega
   have hp := hl _ (List.getElem_mem hlt)
   (conv => whnf)
   refine ⟨i, l[i], rfl, List.getElem?_eq_getElem hlt, ?_⟩
   (conv => whnf)
   refine ⟨i64 (by omega) (by omega), ?_⟩
   repeat' ((conv => whnf); refine I6 ?_)
   refine ag (i + 1) [] [] ⟨hlt, by omega⟩ (by simp only []; omega) ?_
   rw [sumL_take hlt]
   repeat' first | exact trivial | exact rfl | refine And.intro ?_ ?_
  ·have := fin (by omega)
   rw [this]
   repeat' ((conv => whnf); first | (refine dec (fun h => ?_) (fun h => ?_) <;> try contradiction) | (refine decN (fun h => ?_) (fun h => ?_) <;> try contradiction) | refine booN (fun h => ?_) (fun h => ?_) | refine boo (fun h => ?_) (fun h => ?_) | refine ⟨i64 (by omega) (by omega), ?_⟩ | refine ⟨_, _, rfl, List.getElem?_eq_getElem (by omega), ?_⟩ | refine ⟨_, ⟨rfl, by omega⟩, ?_⟩ | refine ⟨_, List.getElem?_eq_getElem (by omega), ?_⟩ | refine rtB ?_ | refine rtI ?_ | refine rtC ?_ rfl | fail)
   ·have h : 150 < l.length := by omega
    simp [greatF, h]
   ·have h : ¬ 150 < l.length := by omega
    simp [greatF, h]; omega
 ·have := fin (by omega)
  rw [this]
  repeat' ((conv => whnf); first | (refine dec (fun h => ?_) (fun h => ?_) <;> try contradiction) | (refine decN (fun h => ?_) (fun h => ?_) <;> try contradiction) | refine booN (fun h => ?_) (fun h => ?_) | refine boo (fun h => ?_) (fun h => ?_) | refine ⟨i64 (by omega) (by omega), ?_⟩ | refine ⟨_, _, rfl, List.getElem?_eq_getElem (by omega), ?_⟩ | refine ⟨_, ⟨rfl, by omega⟩, ?_⟩ | refine ⟨_, List.getElem?_eq_getElem (by omega), ?_⟩ | refine rtB ?_ | refine rtI ?_ | refine rtC ?_ rfl | fail)
  ·have h : 150 < l.length := by omega
   simp [greatF, h]
  ·have h : ¬ 150 < l.length := by omega
   simp [greatF, h]; omega
end Go.Nest
end
/- part -/
section

namespace Go.Nest
open Go Go.AM Go.Proofs
open Go.Proofs.YtpmjnbidmcnhnaaGreatDoor (tab tabOk)
set_option maxRecDepth 4000
theorem ins_at {f : Fi} {out : List Fi} {k : Nat} (hk : k ≤ out.length) (h1 : ∀ g ∈ out.take k, lessP f.path g.path = false) (h2 : ∀ h : k < out.length, lessP f.path out[k].path = true) : insF f out = out.take k ++ f :: out.drop k := by
 obtain ⟨h3, h4⟩ := tw_at (p := fun g : Fi => !lessP f.path g.path) hk (fun g hg => by simp [h1 g hg]) (fun h => by simp [h2 h])
 unfold insF
 rw [h3, h4]
def ordU (l : List Fi) (i : Nat) : List Fi := inOrdP (l.take i)
theorem ordU_succ {l : List Fi} {i : Nat} (h : i < l.length) : ordU l (i + 1) = insF l[i] (ordU l i) := by
 unfold ordU inOrdP
 rw [List.take_succ_eq_append_getElem h, List.foldl_append]; rfl
theorem ordU_len {l : List Fi} {i : Nat} (h : i ≤ l.length) : (ordU l i).length = i := by
 unfold ordU
 rw [(inOrd_perm _).length_eq, List.length_take]; omega
theorem ordU_mem {l : List Fi} {i : Nat} {f : Fi} (h : f ∈ ordU l i) : f ∈ l := List.mem_of_mem_take ((inOrd_perm _).mem_iff.1 h)
set_option maxHeartbeats 2000000 in
theorem inOrder_spec (l : List Fi) (hl : l.length ≤ 1000) (hp : ∀ f ∈ l, f.path.length ≤ 4000000) : Does Tryz.prog 19 [.c (.bs 4 Fi encFi l)] [] (Rt (.c (.rw 0)) [.row 4 Fi encFi (inOrdP l)]) := by
 refine X_spec (n := 50) (n0 := 0) tabOk Tryz.call19 Tryz.func19 ?_
 intro hb
 (conv => whnf)
 refine lp Nat (fun i => ⟨[(0, .c (.bs 4 Fi encFi l)), (3, .c (.rw 0)), (4, .c (.int .i64 i))], [.row 4 Fi encFi (ordU l i)]⟩) (fun i => i ≤ l.length ∧ True) (fun i => l.length - i) 0 [] [.new] ?_ ?_ (fun i hi => ?_)
 ·simp
 ·repeat' first | exact trivial | exact rfl | refine And.intro ?_ ?_
 have hol := ordU_len hi.1
 (conv => whnf)
 refine dec (fun h4 => ?_) (fun h4 => ?_)
 ·have hlt : i < l.length := by omega
  have hfp := hp _ (List.getElem_mem hlt)
  (conv => whnf)
  refine lp Nat (fun k => ⟨[(0, .c (.bs 4 Fi encFi l)), (3, .c (.rw 0)), (4, .c (.int .i64 i)), (5, .c (.int .i64 k))], [.row 4 Fi encFi (ordU l i)]⟩) (fun k => (k ≤ (ordU l i).length ∧ True) ∧ ∀ g ∈ (ordU l i).take k, lessP l[i].path g.path = false) (fun k => (ordU l i).length - k) 0 [] [.same 0] ?_ ?_ (fun k hk => ?_)
  ·simp
  ·repeat' first | exact trivial | exact rfl | refine And.intro ?_ ?_
  have fin : (∀ h : k < (ordU l i).length, lessP l[i].path (ordU l i)[k].path = true) → insF l[i] (ordU l i) = (ordU l i).take k ++ l[i] :: (ordU l i).drop k := fun h => ins_at hk.1.1 hk.2 h
  (conv => whnf)
  refine ⟨false, .grow, (.l [0, 1, 2, 3, 4, 5, 6, 7, 8, 9, 10, 11, 12, 13, 14, 15, 16, 17]), by kernel_rfl, .inl ?_⟩
  (conv => whnf)
  refine dec (fun h5 => ?_) (fun h5 => ?_)
  ·have hkl : k < (ordU l i).length := by omega
   (conv => whnf)
   refine ⟨i, l[i], rfl, List.getElem?_eq_getElem hlt, ?_⟩
   (conv => whnf)
   refine ⟨k, ⟨rfl, hkl⟩, ?_⟩
   (conv => whnf)
   refine ⟨(ordU l i)[k], List.getElem?_eq_getElem hkl, ?_⟩
   (conv => whnf)
   refine cl [] [] (ahead_spec l[i].path (ordU l i)[k].path hfp (hp _ (ordU_mem (List.getElem_mem hkl)))) ?_
   (conv => whnf)
   refine booN (fun h6 => ?_) (fun h6 => ?_)
   ·repeat' ((conv => whnf); refine I6 ?_)
    refine ag (k + 1) [] [.same 0] ⟨⟨hkl, trivial⟩, fun g hg => ?_⟩ (by simp only []; omega) ?_
    ·rw [List.take_succ_eq_append_getElem hkl, List.mem_append, List.mem_singleton] at hg
     rcases hg with hg | rfl
     ·exact hk.2 g hg
     ·exact h6
    ·repeat' first | exact trivial | exact rfl | refine And.intro ?_ ?_
   ·have fin := fin (fun _ => h6)
    rw [← ordU_succ hlt] at fin
    have e : ordU l (i + 1) = (([] ++ ((ordU l i).drop 0).take (k - 0)) ++ [l[i]]) ++ ((ordU l i).drop k).take ((ordU l i).length - k) := by
     rw [fin, List.take_of_length_le (l := List.drop k (ordU l i)) (by rw [List.length_drop]; exact Nat.le_refl _)]
     simp
    (conv => whnf)
    refine ⟨false, .grow, (.alt [0, 1, 2, 3, 5, 6, 7, 8] [4, 9] fun j => bif Nat.beq j 4 then (.l [9, 10, 11]) else bif Nat.beq j 9 then (.l [4, 10, 11]) else .l []), by kernel_rfl, .inl ?_⟩
    (conv => whnf)
    refine ⟨0, k, rfl, rfl, ⟨Nat.zero_le _, hk.1.1⟩, ?_⟩
    (conv => whnf)
    refine ⟨i, l[i], rfl, List.getElem?_eq_getElem hlt, ?_⟩
    (conv => whnf)
    refine And.intro ?_ ?_
    ·(conv => whnf)
     refine ⟨[], _, rfl, rfl, (by simp only [List.length_take, List.length_drop, List.length_nil]; omega), ?_⟩
     (conv => whnf)
     refine ⟨[l[i]], rfl, ?_⟩
     (conv => whnf)
     refine ⟨_, _, rfl, rfl, (by simp only [List.length_take, List.length_drop, List.length_append, List.length_cons, List.length_nil]; omega), ?_⟩
     (conv => whnf)
     refine ⟨k, (ordU l i).length, rfl, rfl, ⟨hk.1.1, Nat.le_refl _⟩, ?_⟩
     (conv => whnf)
     refine ⟨_, _, rfl, rfl, (by simp only [List.length_take, List.length_drop, List.length_append, List.length_cons, List.length_nil]; omega), ?_⟩
     repeat' ((conv => whnf); refine I6 ?_)
     refine ag (i + 1) [] [.same 4] ⟨hlt, trivial⟩ (by simp only []; omega) ?_
     rw [e]
     repeat' first | exact trivial | exact rfl | refine And.intro ?_ ?_
    ·(conv => whnf)
     refine ⟨[l[i]], rfl, ?_⟩
     (conv => whnf)
     refine ⟨[], _, rfl, rfl, (by simp only [List.length_take, List.length_drop, List.length_nil]; omega), ?_⟩
     (conv => whnf)
     refine ⟨_, _, rfl, rfl, (by simp only [List.length_take, List.length_drop, List.length_append, List.length_cons, List.length_nil]; omega), ?_⟩
     (conv => whnf)
     refine ⟨k, (ordU l i).length, rfl, rfl, ⟨hk.1.1, Nat.le_refl _⟩, ?_⟩
     (conv => whnf)
     refine ⟨_, _, rfl, rfl, (by simp only [List.length_take, List.length_drop, List.length_append, List.length_cons, List.length_nil]; omega), ?_⟩
     repeat' ((conv => whnf); refine I6 ?_)
     refine ag (i + 1) [] [.same 4] ⟨hlt, trivial⟩ (by simp only []; omega) ?_
     rw [e]
     repeat' first | exact trivial | exact rfl | refine And.intro ?_ ?_
  ·have fin := fin (fun h => by omega)
   rw [← ordU_succ hlt] at fin
   have e : ordU l (i + 1) = (([] ++ ((ordU l i).drop 0).take (k - 0)) ++ [l[i]]) ++ ((ordU l i).drop k).take ((ordU l i).length - k) := by
    rw [fin, List.take_of_length_le (l := List.drop k (ordU l i)) (by rw [List.length_drop]; exact Nat.le_refl _)]
    simp
   (conv => whnf)
   refine ⟨false, .grow, (.alt [0, 1, 2, 3, 5, 6, 7, 8] [4, 9] fun j => bif Nat.beq j 4 then (.l [9, 10, 11]) else bif Nat.beq j 9 then (.l [4, 10, 11]) else .l []), by kernel_rfl, .inl ?_⟩
   (conv => whnf)
   refine ⟨0, k, rfl, rfl, ⟨Nat.zero_le _, hk.1.1⟩, ?_⟩
   (conv => whnf)
   refine ⟨i, l[i], rfl, List.getElem?_eq_getElem hlt, ?_⟩
   (conv => whnf)
   refine And.intro ?_ ?_
   ·(conv => whnf)
    refine ⟨[], _, rfl, rfl, (by simp only [List.length_take, List.length_drop, List.length_nil]; omega), ?_⟩
    (conv => whnf)
    refine ⟨[l[i]], rfl, ?_⟩
    (conv => whnf)
    refine ⟨_, _, rfl, rfl, (by simp only [List.length_take, List.length_drop, List.length_append, List.length_cons, List.length_nil]; omega), ?_⟩
    (conv => whnf)
    refine ⟨k, (ordU l i).length, rfl, rfl, ⟨hk.1.1, Nat.le_refl _⟩, ?_⟩
    (conv => whnf)
    refine ⟨_, _, rfl, rfl, (by simp only [List.length_take, List.length_drop, List.length_append, List.length_cons, List.length_nil]; omega), ?_⟩
    repeat' ((conv => whnf); refine I6 ?_)
    refine ag (i + 1) [] [.same 4] ⟨hlt, trivial⟩ (by simp only []; omega) ?_
    rw [e]
    repeat' first | exact trivial | exact rfl | refine And.intro ?_ ?_
   ·(conv => whnf)
    refine ⟨[l[i]], rfl, ?_⟩
    (conv => whnf)
    refine ⟨[], _, rfl, rfl, (by simp only [List.length_take, List.length_drop, List.length_nil]; omega), ?_⟩
    (conv => whnf)
    refine ⟨_, _, rfl, rfl, (by simp only [List.length_take, List.length_drop, List.length_append, List.length_cons, List.length_nil]; omega), ?_⟩
    (conv => whnf)
    refine ⟨k, (ordU l i).length, rfl, rfl, ⟨hk.1.1, Nat.le_refl _⟩, ?_⟩
    (conv => whnf)
    refine ⟨_, _, rfl, rfl, (by simp only [List.length_take, List.length_drop, List.length_append, List.length_cons, List.length_nil]; omega), ?_⟩
    repeat' ((conv => whnf); refine I6 ?_)
    refine ag (i + 1) [] [.same 4] ⟨hlt, trivial⟩ (by simp only []; omega) ?_
    rw [e]
    repeat' first | exact trivial | exact rfl | refine And.intro ?_ ?_
 ·have : ordU l i = inOrdP l := by unfold ordU; rw [List.take_of_length_le (by omega)]
  (conv => whnf)
  rw [this]
  exact rx [] [.same 0]
end Go.Nest
end
/- part -/
section

namespace Go.Nest
open Go Go.AM Go.Proofs
open Go.Proofs.YtpmjnbidmcnhnaaGreatDoor (tab tabOk)
set_option maxRecDepth 4000
def prevF (l : List Fi) : Nat → Option (List UInt8)
 | 0 => none
 | i + 1 => (l[i]?).map (·.path)
theorem dd_step {l : List Fi} {i : Nat} (h : i < l.length) (h2 : prevF l i = some l[i].path) : ddP (prevF l i) (l.drop i) = ddP (prevF l (i + 1)) (l.drop (i + 1)) := by
 rw [List.drop_eq_getElem_cons h]
 conv => lhs; rw [ddP, if_pos h2]
 rw [prevF, List.getElem?_eq_getElem h]; rfl
theorem dd_new {l : List Fi} {i : Nat} (h : i < l.length) (h2 : prevF l i ≠ some l[i].path) : ddP (prevF l i) (l.drop i) = l[i].path :: ddP (prevF l (i + 1)) (l.drop (i + 1)) := by
 rw [List.drop_eq_getElem_cons h]
 conv => lhs; rw [ddP, if_neg h2]
 rw [prevF, List.getElem?_eq_getElem h]; rfl
set_option maxHeartbeats 2000000 in
theorem pathsOf_spec (ls : List (List Fi)) (h0 : ls.length ≤ 10) (hl : ∀ l ∈ ls, l.length ≤ 150) (hp : ∀ l ∈ ls, ∀ f ∈ l, f.path.length ≤ 4000000) (hsum : ls.flatten.length ≤ 1000) : Does Tryz.prog 38 [.c (.bs 1 (List Fi) (encL 4 encFi) ls)] [] (Rt (.c (.rw 0)) [.row 1 (List UInt8) encS (pathsP ls)]) := by
 refine X_spM (n := 52) (n0 := 0) tabOk Tryz.call38 Tryz.func38 ?_
 intro hb
 refine XM.seq ?_
 (conv => whnf)
 refine XM.seq ?_
 (conv => whnf)
 refine XM.join (ι := Unit) (fun _ => ⟨[(3, .c (.rw 0))], [.row 4 Fi encFi ls.flatten]⟩) (fun _ => True) ?_ (fun _ _ => ?_)
 ·(conv => whnf)
  refine lp Nat (fun i => ⟨[(0, .c (.bs 1 (List Fi) (encL 4 encFi) ls)), (3, .c (.rw 0)), (4, .c (.int .i64 i))], [.row 4 Fi encFi (ls.take i).flatten]⟩) (fun i => i ≤ ls.length ∧ True) (fun i => ls.length - i) 0 [] [.new] ?_ ?_ (fun i hi => ?_)
  ·simp
  ·repeat' first | exact trivial | exact rfl | refine And.intro ?_ ?_
  (conv => whnf)
  refine dec (fun h4 => ?_) (fun h4 => ?_)
  ·have hlt : i < ls.length := by omega
   have e : (ls.take (i + 1)).flatten = (ls.take i).flatten ++ ls[i] := by rw [List.take_succ_eq_append_getElem hlt, List.flatten_append]; simp
   have hle : (ls.take (i + 1)).flatten.length ≤ ls.flatten.length := by
    conv => rhs; rw [← List.take_append_drop (i + 1) ls]
    rw [List.flatten_append, List.length_append]; omega
   rw [e, List.length_append] at hle
   (conv => whnf)
   refine ⟨i, ls[i], rfl, List.getElem?_eq_getElem hlt, ?_⟩
   (conv => whnf)
   refine ⟨_, _, rfl, rfl, (by simp only []; omega), ?_⟩
   repeat' ((conv => whnf); refine I6 ?_)
   refine ag (i + 1) [] [.same 1] ⟨hlt, trivial⟩ (by simp only []; omega) ?_
   rw [e]
   repeat' first | exact trivial | exact rfl | refine And.intro ?_ ?_
  ·have e : (ls.take i).flatten = ls.flatten := by rw [List.take_of_length_le (by omega)]
   (conv => whnf)
   refine ⟨(), trivial, [], [.same 0], ?_⟩
   rw [← e]
   repeat' first | exact trivial | exact rfl | refine And.intro ?_ ?_
 have hmem : ∀ f ∈ ls.flatten, f.path.length ≤ 4000000 := fun f hf => by
  obtain ⟨l, h1, h2⟩ := List.mem_flatten.1 hf
  exact hp l h1 f h2
 refine XM.of ?_
 (conv => whnf)
 refine cl [] [] (inOrder_spec ls.flatten hsum hmem) ?_
 generalize ho : inOrdP ls.flatten = o
 have hol : o.length ≤ 1000 := by rw [← ho, (inOrd_perm _).length_eq]; exact hsum
 have hpp : pathsP ls = ddP (prevF o 0) (o.drop 0) := by unfold pathsP; rw [ho]; rfl
 rw [hpp]
 (conv => whnf)
 refine lp (Nat × List (List UInt8)) (fun x => ⟨[(3, .c (.rw 0)), (5, .c (.rw 1)), (6, .c (.int .i64 x.1))], [.row 4 Fi encFi o, .row 1 (List UInt8) encS x.2]⟩) (fun x => (x.1 ≤ o.length ∧ x.2.length ≤ x.1) ∧ x.2 ++ ddP (prevF o x.1) (o.drop x.1) = ddP (prevF o 0) (o.drop 0)) (fun x => o.length - x.1) (0, []) [] [.same 1, .new] ?_ ?_ (fun x hx => ?_)
 ·simp
 ·repeat' first | exact trivial | exact rfl | refine And.intro ?_ ?_
 obtain ⟨i, out⟩ := x
 obtain ⟨⟨h1, h2⟩, h3⟩ := hx
 dsimp only at h1 h2 h3
 (conv => whnf)
 refine dec (fun h4 => ?_) (fun h4 => ?_)
 ·have hlt : i < o.length := by simpa using h4
  (conv => whnf)
  refine ⟨false, .grow, (.l [0, 1, 2, 3, 4, 5, 6, 7, 8, 9, 10, 11, 12, 13, 14, 15]), by kernel_rfl, .inl ?_⟩
  (conv => whnf)
  refine dec (fun h5 => ?_) (fun h5 => ?_)
  ·have hne : prevF o i ≠ some o[i].path := by
    obtain rfl : i = 0 := by simpa using h5
    simp [prevF]
   (conv => whnf)
   refine ⟨i, ⟨rfl, hlt⟩, ?_⟩
   (conv => whnf)
   refine ⟨o[i], List.getElem?_eq_getElem hlt, ?_⟩
   (conv => whnf)
   refine ⟨[o[i].path], rfl, ?_⟩
   (conv => whnf)
   refine ⟨_, _, rfl, rfl, (by simp only [List.length_append, List.length_cons, List.length_nil]; omega), ?_⟩
   have hst := dd_new hlt hne
   repeat' ((conv => whnf); refine I6 ?_)
   refine ag (i + 1, out ++ [o[i].path]) [] [.same 0, .same 3] ⟨⟨hlt, by simp only [List.length_append, List.length_cons, List.length_nil]; omega⟩, by rw [← h3, hst]; simp⟩ (by simp only []; omega) ?_
   repeat' first | exact trivial | exact rfl | refine And.intro ?_ ?_
  ·have h5 : ¬ i = 0 := by simpa using h5
   have hlt' : i - 1 < o.length := by omega
   have hpv : prevF o i = some o[i - 1].path := by
    obtain ⟨j, rfl⟩ : ∃ j, i = j + 1 := ⟨i - 1, by omega⟩
    show (o[j]?).map (·.path) = some o[j].path
    rw [List.getElem?_eq_getElem (by omega)]; rfl
   (conv => whnf)
   refine ⟨i, ⟨rfl, hlt⟩, ?_⟩
   (conv => whnf)
   refine ⟨o[i], List.getElem?_eq_getElem hlt, ?_⟩
   (conv => whnf)
   refine ⟨i64 (by omega) (by omega), ?_⟩
   (conv => whnf)
   refine ⟨i - 1, ⟨by omega, hlt'⟩, ?_⟩
   (conv => whnf)
   refine ⟨o[i - 1], List.getElem?_eq_getElem hlt', ?_⟩
   (conv => whnf)
   refine decN (fun h6 => ?_) (fun h6 => ?_)
   ·have hne : prevF o i ≠ some o[i].path := by rw [hpv]; intro h; exact h6 (Option.some.inj h).symm
    (conv => whnf)
    refine ⟨i, ⟨rfl, hlt⟩, ?_⟩
    (conv => whnf)
    refine ⟨o[i], List.getElem?_eq_getElem hlt, ?_⟩
    (conv => whnf)
    refine ⟨[o[i].path], rfl, ?_⟩
    (conv => whnf)
    refine ⟨_, _, rfl, rfl, (by simp only [List.length_append, List.length_cons, List.length_nil]; omega), ?_⟩
    have hst := dd_new hlt hne
    repeat' ((conv => whnf); refine I6 ?_)
    refine ag (i + 1, out ++ [o[i].path]) [] [.same 0, .same 3] ⟨⟨hlt, by simp only [List.length_append, List.length_cons, List.length_nil]; omega⟩, by rw [← h3, hst]; simp⟩ (by simp only []; omega) ?_
    repeat' first | exact trivial | exact rfl | refine And.intro ?_ ?_
   ·have hst := dd_step hlt (by rw [hpv, h6])
    repeat' ((conv => whnf); refine I6 ?_)
    refine ag (i + 1, out) [] [.same 0, .same 1] ⟨⟨hlt, by simp only []; omega⟩, by rw [← h3, hst]⟩ (by simp only []; omega) ?_
    repeat' first | exact trivial | exact rfl | refine And.intro ?_ ?_
 ·rw [List.drop_of_length_le (by simp at h4; omega)] at h3
  rw [show ddP (prevF o i) [] = [] by unfold ddP; rfl, List.append_nil] at h3
  (conv => whnf)
  rw [← h3]
  exact rx [] [.same 1]
end Go.Nest
end
/- part -/
section

namespace Go.Nest
open Go Go.AM Go.Proofs
open Go.Proofs.YtpmjnbidmcnhnaaGreatDoor (tab tabOk)
set_option maxRecDepth 4000
def prevX (l : List Fi) : Nat → Option Fi
 | 0 => none
 | i + 1 => l[i]?
theorem checkF_at {l : List Fi} {i : Nat} (h : i < l.length) : checkF (prevX l i) (l.drop i) = if (splitP l[i].path).2 ≠ 0 then (splitP l[i].path).2 else if l[i].mode ≠ 1 ∧ l[i].mode ≠ 3 then 6 else if clashF (prevX l i) l[i] ≠ 0 then clashF (prevX l i) l[i] else checkF (prevX l (i + 1)) (l.drop (i + 1)) := by
 rw [List.drop_eq_getElem_cons h]
 rw [show prevX l (i + 1) = some l[i] from List.getElem?_eq_getElem h]
 rfl
theorem underP_is {p d : List UInt8} : (underP p d).2 = (under p d).isSome := by
 unfold underP
 cases under p d <;> rfl
set_option maxHeartbeats 2000000 in
theorem check_spec' (l : List Fi) (hl : l.length ≤ 60) (hp : ∀ f ∈ l, f.path.length ≤ 4000000) : Does Tryz.prog 37 [.c (.bs 4 Fi encFi l)] [] (Rt (.c (.int .i64 (checkF none l))) []) := by
 refine X_spec (n := 68) (n0 := 0) tabOk Tryz.call37 Tryz.func37 ?_
 intro hb
 (conv => whnf)
 refine dec (fun h => by omega) (fun h0 => ?_)
 (conv => whnf)
 refine lp Nat (fun i => ⟨[(0, .c (.bs 4 Fi encFi l)), (12, .c (.bs 4 Fi encFi l)), (13, .c (.int .i64 l.length)), (14, .c (.int .i64 i))], []⟩) (fun i => i ≤ l.length ∧ checkF none l = checkF (prevX l i) (l.drop i)) (fun i => l.length - i) 0 [] [] ?_ ?_ (fun i hi => ?_)
 ·exact ⟨Nat.zero_le _, rfl⟩
 ·repeat' first | exact trivial | exact rfl | refine And.intro ?_ ?_
 obtain ⟨h1, hat⟩ := hi
 (conv => whnf)
 refine dec (fun h4 => ?_) (fun h4 => ?_)
 ·have hlt : i < l.length := by omega
  rw [checkF_at hlt] at hat
  (conv => whnf)
  refine ⟨i, l[i], rfl, List.getElem?_eq_getElem hlt, ?_⟩
  (conv => whnf)
  refine cl [] [] (pathsSplit_spec l[i].path (hp _ (List.getElem_mem _))) ?_
  (conv => whnf)
  refine decN (fun h5 => ?_) (fun h5 => ?_)
  ·rw [if_pos h5] at hat
   repeat' ((conv => whnf); first | (refine dec (fun h => ?_) (fun h => ?_) <;> try contradiction) | (refine decN (fun h => ?_) (fun h => ?_) <;> try contradiction) | refine booN (fun h => ?_) (fun h => ?_) | refine boo (fun h => ?_) (fun h => ?_) | refine ⟨i64 (by omega) (by omega), ?_⟩ | refine ⟨_, _, rfl, List.getElem?_eq_getElem (by omega), ?_⟩ | refine ⟨_, ⟨rfl, by omega⟩, ?_⟩ | refine ⟨_, List.getElem?_eq_getElem (by omega), ?_⟩ | refine rtB ?_ | refine rtI ?_ | refine rtC ?_ rfl | fail)
   exact hat.symm
  ·rw [if_neg (by simpa using h5)] at hat
   (conv => whnf)
   refine decN (fun h6 => ?_) (fun h6 => ?_)
   ·(conv => whnf)
    refine decN (fun h7 => ?_) (fun h7 => ?_)
    ·rw [if_pos ⟨h6, h7⟩] at hat
     repeat' ((conv => whnf); first | (refine dec (fun h => ?_) (fun h => ?_) <;> try contradiction) | (refine decN (fun h => ?_) (fun h => ?_) <;> try contradiction) | refine booN (fun h => ?_) (fun h => ?_) | refine boo (fun h => ?_) (fun h => ?_) | refine ⟨i64 (by omega) (by omega), ?_⟩ | refine ⟨_, _, rfl, List.getElem?_eq_getElem (by omega), ?_⟩ | refine ⟨_, ⟨rfl, by omega⟩, ?_⟩ | refine ⟨_, List.getElem?_eq_getElem (by omega), ?_⟩ | refine rtB ?_ | refine rtI ?_ | refine rtC ?_ rfl | fail)
     exact hat.symm
    ·rw [if_neg (fun h => h.2 h7)] at hat
     (conv => whnf)
     refine ⟨false, .grow, (.l [0, 1, 2, 3, 4, 5, 6, 7, 8, 9, 10, 11, 12, 13, 14]), by kernel_rfl, .inl ?_⟩
     (conv => whnf)
     refine dec (fun h7 => ?_) (fun h7 => ?_)
     ·have hi0 : 0 < i := by omega
      have hpv : prevX l i = some l[i - 1] := by
       obtain ⟨j, rfl⟩ : ∃ j, i = j + 1 := ⟨i - 1, by omega⟩
       exact List.getElem?_eq_getElem (by omega)
      (conv => whnf)
      refine ⟨i64 (by omega) (by omega), ?_⟩
      (conv => whnf)
      refine ⟨i - 1, l[i - 1], by omega, List.getElem?_eq_getElem (by omega), ?_⟩
      (conv => whnf)
      refine cl [] [] (less_spec l[i - 1].path l[i].path (hp _ (List.getElem_mem _)) (hp _ (List.getElem_mem _))) ?_
      (conv => whnf)
      refine booN (fun h8 => ?_) (fun h8 => ?_)
      ·have hc : clashF (prevX l i) l[i] = 8 := by rw [hpv]; unfold clashF; simp [h8]
       rw [hc, if_pos (by decide)] at hat
       repeat' ((conv => whnf); first | (refine dec (fun h => ?_) (fun h => ?_) <;> try contradiction) | (refine decN (fun h => ?_) (fun h => ?_) <;> try contradiction) | refine booN (fun h => ?_) (fun h => ?_) | refine boo (fun h => ?_) (fun h => ?_) | refine ⟨i64 (by omega) (by omega), ?_⟩ | refine ⟨_, _, rfl, List.getElem?_eq_getElem (by omega), ?_⟩ | refine ⟨_, ⟨rfl, by omega⟩, ?_⟩ | refine ⟨_, List.getElem?_eq_getElem (by omega), ?_⟩ | refine rtB ?_ | refine rtI ?_ | refine rtC ?_ rfl | fail)
       exact hat.symm
      ·(conv => whnf)
       refine dec (fun _ => ?_) (fun h => absurd h7 h)
       (conv => whnf)
       refine ⟨false, .grow, (.l [0, 1, 2, 3, 4, 5, 6, 7, 8, 9, 10, 11, 12, 13]), by kernel_rfl, .inl ?_⟩
       (conv => whnf)
       refine ⟨i64 (by omega) (by omega), ?_⟩
       (conv => whnf)
       refine ⟨i - 1, l[i - 1], by omega, List.getElem?_eq_getElem (by omega), ?_⟩
       (conv => whnf)
       refine cl [] [] (under_spec l[i].path l[i - 1].path (hp _ (List.getElem_mem _))) ?_
       rw [underP_is]
       (conv => whnf)
       refine boo (fun h9 => ?_) (fun h9 => ?_)
       ·have hc : clashF (prevX l i) l[i] = 10 := by rw [hpv]; unfold clashF; simp [h8, h9]
        rw [hc, if_pos (by decide)] at hat
        repeat' ((conv => whnf); first | (refine dec (fun h => ?_) (fun h => ?_) <;> try contradiction) | (refine decN (fun h => ?_) (fun h => ?_) <;> try contradiction) | refine booN (fun h => ?_) (fun h => ?_) | refine boo (fun h => ?_) (fun h => ?_) | refine ⟨i64 (by omega) (by omega), ?_⟩ | refine ⟨_, _, rfl, List.getElem?_eq_getElem (by omega), ?_⟩ | refine ⟨_, ⟨rfl, by omega⟩, ?_⟩ | refine ⟨_, List.getElem?_eq_getElem (by omega), ?_⟩ | refine rtB ?_ | refine rtI ?_ | refine rtC ?_ rfl | fail)
        exact hat.symm
       ·have hc : clashF (prevX l i) l[i] = 0 := by rw [hpv]; unfold clashF; simp [h8, h9]
        rw [hc, if_neg (by decide)] at hat
        repeat' ((conv => whnf); refine I6 ?_)
        refine ag (i + 1) [] [] ⟨hlt, hat⟩ (by simp only []; omega) ?_
        repeat' first | exact trivial | exact rfl | refine And.intro ?_ ?_
     ·obtain rfl : i = 0 := by omega
      have hc : clashF (prevX l 0) l[0] = 0 := rfl
      rw [hc, if_neg (by decide)] at hat
      repeat' ((conv => whnf); refine I6 ?_)
      refine ag (0 + 1) [] [] ⟨hlt, hat⟩ (by simp only []; omega) ?_
      repeat' first | exact trivial | exact rfl | refine And.intro ?_ ?_
   ·rw [if_neg (fun h => h.1 h6)] at hat
    (conv => whnf)
    refine ⟨false, .grow, (.l [0, 1, 2, 3, 4, 5, 6, 7, 8, 9, 10, 11, 12, 13, 14]), by kernel_rfl, .inl ?_⟩
    (conv => whnf)
    refine dec (fun h7 => ?_) (fun h7 => ?_)
    ·have hi0 : 0 < i := by omega
     have hpv : prevX l i = some l[i - 1] := by
      obtain ⟨j, rfl⟩ : ∃ j, i = j + 1 := ⟨i - 1, by omega⟩
      exact List.getElem?_eq_getElem (by omega)
     (conv => whnf)
     refine ⟨i64 (by omega) (by omega), ?_⟩
     (conv => whnf)
     refine ⟨i - 1, l[i - 1], by omega, List.getElem?_eq_getElem (by omega), ?_⟩
     (conv => whnf)
     refine cl [] [] (less_spec l[i - 1].path l[i].path (hp _ (List.getElem_mem _)) (hp _ (List.getElem_mem _))) ?_
     (conv => whnf)
     refine booN (fun h8 => ?_) (fun h8 => ?_)
     ·have hc : clashF (prevX l i) l[i] = 8 := by rw [hpv]; unfold clashF; simp [h8]
      rw [hc, if_pos (by decide)] at hat
      repeat' ((conv => whnf); first | (refine dec (fun h => ?_) (fun h => ?_) <;> try contradiction) | (refine decN (fun h => ?_) (fun h => ?_) <;> try contradiction) | refine booN (fun h => ?_) (fun h => ?_) | refine boo (fun h => ?_) (fun h => ?_) | refine ⟨i64 (by omega) (by omega), ?_⟩ | refine ⟨_, _, rfl, List.getElem?_eq_getElem (by omega), ?_⟩ | refine ⟨_, ⟨rfl, by omega⟩, ?_⟩ | refine ⟨_, List.getElem?_eq_getElem (by omega), ?_⟩ | refine rtB ?_ | refine rtI ?_ | refine rtC ?_ rfl | fail)
      exact hat.symm
     ·(conv => whnf)
      refine dec (fun _ => ?_) (fun h => absurd h7 h)
      (conv => whnf)
      refine ⟨false, .grow, (.l [0, 1, 2, 3, 4, 5, 6, 7, 8, 9, 10, 11, 12, 13]), by kernel_rfl, .inl ?_⟩
      (conv => whnf)
      refine ⟨i64 (by omega) (by omega), ?_⟩
      (conv => whnf)
      refine ⟨i - 1, l[i - 1], by omega, List.getElem?_eq_getElem (by omega), ?_⟩
      (conv => whnf)
      refine cl [] [] (under_spec l[i].path l[i - 1].path (hp _ (List.getElem_mem _))) ?_
      rw [underP_is]
      (conv => whnf)
      refine boo (fun h9 => ?_) (fun h9 => ?_)
      ·have hc : clashF (prevX l i) l[i] = 10 := by rw [hpv]; unfold clashF; simp [h8, h9]
       rw [hc, if_pos (by decide)] at hat
       repeat' ((conv => whnf); first | (refine dec (fun h => ?_) (fun h => ?_) <;> try contradiction) | (refine decN (fun h => ?_) (fun h => ?_) <;> try contradiction) | refine booN (fun h => ?_) (fun h => ?_) | refine boo (fun h => ?_) (fun h => ?_) | refine ⟨i64 (by omega) (by omega), ?_⟩ | refine ⟨_, _, rfl, List.getElem?_eq_getElem (by omega), ?_⟩ | refine ⟨_, ⟨rfl, by omega⟩, ?_⟩ | refine ⟨_, List.getElem?_eq_getElem (by omega), ?_⟩ | refine rtB ?_ | refine rtI ?_ | refine rtC ?_ rfl | fail)
       exact hat.symm
      ·have hc : clashF (prevX l i) l[i] = 0 := by rw [hpv]; unfold clashF; simp [h8, h9]
       rw [hc, if_neg (by decide)] at hat
       repeat' ((conv => whnf); refine I6 ?_)
       refine ag (i + 1) [] [] ⟨hlt, hat⟩ (by simp only []; omega) ?_
       repeat' first | exact trivial | exact rfl | refine And.intro ?_ ?_
    ·obtain rfl : i = 0 := by omega
     have hc : clashF (prevX l 0) l[0] = 0 := rfl
     rw [hc, if_neg (by decide)] at hat
     repeat' ((conv => whnf); refine I6 ?_)
     refine ag (0 + 1) [] [] ⟨hlt, hat⟩ (by simp only []; omega) ?_
     repeat' first | exact trivial | exact rfl | refine And.intro ?_ ?_
 ·rw [List.drop_of_length_le (by omega)] at hat
  repeat' ((conv => whnf); first | (refine dec (fun h => ?_) (fun h => ?_) <;> try contradiction) | (refine decN (fun h => ?_) (fun h => ?_) <;> try contradiction) | refine booN (fun h => ?_) (fun h => ?_) | refine boo (fun h => ?_) (fun h => ?_) | refine ⟨i64 (by omega) (by omega), ?_⟩ | refine ⟨_, _, rfl, List.getElem?_eq_getElem (by omega), ?_⟩ | refine ⟨_, ⟨rfl, by omega⟩, ?_⟩ | refine ⟨_, List.getElem?_eq_getElem (by omega), ?_⟩ | refine rtB ?_ | refine rtI ?_ | refine rtC ?_ rfl | fail)
  rw [hat]; unfold checkF; rfl
theorem flatCheck_spec (l : List Fi) (hp : ∀ f ∈ l, f.path.length ≤ 4000000) : Does Tryz.prog 37 [.c (.bs 4 Fi encFi l)] [] (Rt (.c (.int .i64 (filesF l))) []) := by
 by_cases h : 60 < l.length
 ·refine X_spec (n := 68) (n0 := 0) tabOk Tryz.call37 Tryz.func37 ?_
  intro hb
  repeat' ((conv => whnf); first | (refine dec (fun h => ?_) (fun h => ?_) <;> try contradiction) | (refine decN (fun h => ?_) (fun h => ?_) <;> try contradiction) | refine booN (fun h => ?_) (fun h => ?_) | refine boo (fun h => ?_) (fun h => ?_) | refine ⟨i64 (by omega) (by omega), ?_⟩ | refine ⟨_, _, rfl, List.getElem?_eq_getElem (by omega), ?_⟩ | refine ⟨_, ⟨rfl, by omega⟩, ?_⟩ | refine ⟨_, List.getElem?_eq_getElem (by omega), ?_⟩ | refine rtB ?_ | refine rtI ?_ | refine rtC ?_ rfl | fail)
  ·unfold filesF; rw [if_pos (by omega)]
  ·omega
 ·have := check_spec' l (by omega) hp
  unfold filesF
  rw [if_neg h]; exact this
end Go.Nest
end
/- part -/
section

namespace Go.Nest
open Go Go.AM Go.Proofs
open Go.Proofs.YtpmjnbidmcnhnaaGreatDoor (tab tabOk)
set_option maxRecDepth 4000
theorem idxF_find {α : Type} {p : α → Bool} {l : List α} : (¬ 0 ≤ idxF p l ∧ l.find? p = none) ∨ ∃ (i : Nat) (h : i < l.length), idxF p l = i ∧ l.find? p = some l[i] := by
 unfold idxF
 cases h : l.findIdx? p with
 | none =>
  rw [List.findIdx?_eq_none_iff] at h
  exact .inl ⟨by simp, by rw [List.find?_eq_none]; intro x hx; simp [h x hx]⟩
 | some i =>
  rw [List.findIdx?_eq_some_iff_getElem] at h
  obtain ⟨h1, h2, h3⟩ := h
  refine .inr ⟨i, h1, rfl, ?_⟩
  rw [List.find?_eq_some_iff_getElem]
  exact ⟨h2, i, h1, rfl, fun j hj => by simpa using h3 j hj⟩
end Go.Nest
end
/- part -/
section

namespace Go.Nest
open Go Go.AM Go.Proofs
open Go.Proofs.YtpmjnbidmcnhnaaGreatDoor (tab tabOk)
set_option maxRecDepth 4000
set_option maxHeartbeats 2000000 in
theorem fault_spec' (l : List Fi) (hl : l.length ≤ 60) (hp : ∀ f ∈ l, f.path.length ≤ 4000000) : Does Tryz.prog 66 [.c (.bs 4 Fi encFi l)] [] (Rt (.c (.int .i64 (checkF none l))) []) := by
 refine X_spec (n := 78) (n0 := 0) tabOk Tryz.call66 Tryz.func66 ?_
 intro hb
 (conv => whnf)
 refine dec (fun h => by omega) (fun h0 => ?_)
 (conv => whnf)
 refine lp Nat (fun i => ⟨[(0, .c (.bs 4 Fi encFi l)), (3, .c (.int .i64 i))], []⟩) (fun i => i ≤ l.length ∧ checkF none l = checkF (prevX l i) (l.drop i)) (fun i => l.length - i) 0 [] [] ?_ ?_ (fun i hi => ?_)
 ·exact ⟨Nat.zero_le _, rfl⟩
 ·repeat' first | exact trivial | exact rfl | refine And.intro ?_ ?_
 obtain ⟨h1, hat⟩ := hi
 (conv => whnf)
 refine dec (fun h4 => ?_) (fun h4 => ?_)
 ·have hlt : i < l.length := by omega
  rw [checkF_at hlt] at hat
  (conv => whnf)
  refine ⟨i, l[i], rfl, List.getElem?_eq_getElem hlt, ?_⟩
  (conv => whnf)
  refine cl [] [] (pathOf_spec l[i].path (hp _ (List.getElem_mem _))) ?_
  (conv => whnf)
  refine decN (fun h5 => ?_) (fun h5 => ?_)
  ·rw [if_pos h5] at hat
   repeat' ((conv => whnf); first | (refine dec (fun h => ?_) (fun h => ?_) <;> try contradiction) | (refine decN (fun h => ?_) (fun h => ?_) <;> try contradiction) | refine booN (fun h => ?_) (fun h => ?_) | refine boo (fun h => ?_) (fun h => ?_) | refine ⟨i64 (by omega) (by omega), ?_⟩ | refine ⟨_, _, rfl, List.getElem?_eq_getElem (by omega), ?_⟩ | refine ⟨_, ⟨rfl, by omega⟩, ?_⟩ | refine ⟨_, List.getElem?_eq_getElem (by omega), ?_⟩ | refine rtB ?_ | refine rtI ?_ | refine rtC ?_ rfl | fail)
   exact hat.symm
  ·rw [if_neg (by simpa using h5)] at hat
   (conv => whnf)
   refine ⟨i, l[i], rfl, List.getElem?_eq_getElem hlt, ?_⟩
   (conv => whnf)
   refine decN (fun h6 => ?_) (fun h6 => ?_)
   ·(conv => whnf)
    refine ⟨i, l[i], rfl, List.getElem?_eq_getElem hlt, ?_⟩
    (conv => whnf)
    refine decN (fun h7 => ?_) (fun h7 => ?_)
    ·rw [if_pos ⟨h6, h7⟩] at hat
     repeat' ((conv => whnf); first | (refine dec (fun h => ?_) (fun h => ?_) <;> try contradiction) | (refine decN (fun h => ?_) (fun h => ?_) <;> try contradiction) | refine booN (fun h => ?_) (fun h => ?_) | refine boo (fun h => ?_) (fun h => ?_) | refine ⟨i64 (by omega) (by omega), ?_⟩ | refine ⟨_, _, rfl, List.getElem?_eq_getElem (by omega), ?_⟩ | refine ⟨_, ⟨rfl, by omega⟩, ?_⟩ | refine ⟨_, List.getElem?_eq_getElem (by omega), ?_⟩ | refine rtB ?_ | refine rtI ?_ | refine rtC ?_ rfl | fail)
     exact hat.symm
    ·rw [if_neg (fun h => h.2 h7)] at hat
     (conv => whnf)
     refine ⟨false, .grow, (.l [0, 1, 2, 3, 4, 5, 6, 7, 8, 9, 10, 11, 12, 13, 14, 15, 16]), by kernel_rfl, .inl ?_⟩
     (conv => whnf)
     refine dec (fun h7 => ?_) (fun h7 => ?_)
     ·have hi0 : 0 < i := by omega
      have hpv : prevX l i = some l[i - 1] := by
       obtain ⟨j, rfl⟩ : ∃ j, i = j + 1 := ⟨i - 1, by omega⟩
       exact List.getElem?_eq_getElem (by omega)
      (conv => whnf)
      refine ⟨i64 (by omega) (by omega), ?_⟩
      (conv => whnf)
      refine ⟨i - 1, l[i - 1], by omega, List.getElem?_eq_getElem (by omega), ?_⟩
      (conv => whnf)
      refine ⟨i, l[i], rfl, List.getElem?_eq_getElem hlt, ?_⟩
      (conv => whnf)
      refine cl [] [] (ahead_spec l[i - 1].path l[i].path (hp _ (List.getElem_mem _)) (hp _ (List.getElem_mem _))) ?_
      (conv => whnf)
      refine booN (fun h8 => ?_) (fun h8 => ?_)
      ·have hc : clashF (prevX l i) l[i] = 8 := by rw [hpv]; unfold clashF; simp [h8]
       rw [hc, if_pos (by decide)] at hat
       repeat' ((conv => whnf); first | (refine dec (fun h => ?_) (fun h => ?_) <;> try contradiction) | (refine decN (fun h => ?_) (fun h => ?_) <;> try contradiction) | refine booN (fun h => ?_) (fun h => ?_) | refine boo (fun h => ?_) (fun h => ?_) | refine ⟨i64 (by omega) (by omega), ?_⟩ | refine ⟨_, _, rfl, List.getElem?_eq_getElem (by omega), ?_⟩ | refine ⟨_, ⟨rfl, by omega⟩, ?_⟩ | refine ⟨_, List.getElem?_eq_getElem (by omega), ?_⟩ | refine rtB ?_ | refine rtI ?_ | refine rtC ?_ rfl | fail)
       exact hat.symm
      ·(conv => whnf)
       refine dec (fun _ => ?_) (fun h => absurd h7 h)
       (conv => whnf)
       refine ⟨false, .grow, (.l [0, 1, 2, 3, 4, 5, 6, 7, 8, 9, 10, 11, 12, 13, 14, 15, 16]), by kernel_rfl, .inl ?_⟩
       (conv => whnf)
       refine ⟨i, l[i], rfl, List.getElem?_eq_getElem hlt, ?_⟩
       (conv => whnf)
       refine ⟨i64 (by omega) (by omega), ?_⟩
       (conv => whnf)
       refine ⟨i - 1, l[i - 1], by omega, List.getElem?_eq_getElem (by omega), ?_⟩
       (conv => whnf)
       refine cl [] [] (behind_spec l[i].path l[i - 1].path (hp _ (List.getElem_mem _))) ?_
       rw [underP_is]
       (conv => whnf)
       refine boo (fun h9 => ?_) (fun h9 => ?_)
       ·have hc : clashF (prevX l i) l[i] = 10 := by rw [hpv]; unfold clashF; simp [h8, h9]
        rw [hc, if_pos (by decide)] at hat
        repeat' ((conv => whnf); first | (refine dec (fun h => ?_) (fun h => ?_) <;> try contradiction) | (refine decN (fun h => ?_) (fun h => ?_) <;> try contradiction) | refine booN (fun h => ?_) (fun h => ?_) | refine boo (fun h => ?_) (fun h => ?_) | refine ⟨i64 (by omega) (by omega), ?_⟩ | refine ⟨_, _, rfl, List.getElem?_eq_getElem (by omega), ?_⟩ | refine ⟨_, ⟨rfl, by omega⟩, ?_⟩ | refine ⟨_, List.getElem?_eq_getElem (by omega), ?_⟩ | refine rtB ?_ | refine rtI ?_ | refine rtC ?_ rfl | fail)
        exact hat.symm
       ·have hc : clashF (prevX l i) l[i] = 0 := by rw [hpv]; unfold clashF; simp [h8, h9]
        rw [hc, if_neg (by decide)] at hat
        repeat' ((conv => whnf); refine I6 ?_)
        refine ag (i + 1) [] [] ⟨hlt, hat⟩ (by simp only []; omega) ?_
        repeat' first | exact trivial | exact rfl | refine And.intro ?_ ?_
     ·obtain rfl : i = 0 := by omega
      have hc : clashF (prevX l 0) l[0] = 0 := rfl
      rw [hc, if_neg (by decide)] at hat
      repeat' ((conv => whnf); refine I6 ?_)
      refine ag (0 + 1) [] [] ⟨hlt, hat⟩ (by simp only []; omega) ?_
      repeat' first | exact trivial | exact rfl | refine And.intro ?_ ?_
   ·rw [if_neg (fun h => h.1 h6)] at hat
    (conv => whnf)
    refine ⟨false, .grow, (.l [0, 1, 2, 3, 4, 5, 6, 7, 8, 9, 10, 11, 12, 13, 14, 15, 16]), by kernel_rfl, .inl ?_⟩
    (conv => whnf)
    refine dec (fun h7 => ?_) (fun h7 => ?_)
    ·have hi0 : 0 < i := by omega
     have hpv : prevX l i = some l[i - 1] := by
      obtain ⟨j, rfl⟩ : ∃ j, i = j + 1 := ⟨i - 1, by omega⟩
      exact List.getElem?_eq_getElem (by omega)
     (conv => whnf)
     refine ⟨i64 (by omega) (by omega), ?_⟩
     (conv => whnf)
     refine ⟨i - 1, l[i - 1], by omega, List.getElem?_eq_getElem (by omega), ?_⟩
     (conv => whnf)
     refine ⟨i, l[i], rfl, List.getElem?_eq_getElem hlt, ?_⟩
     (conv => whnf)
     refine cl [] [] (ahead_spec l[i - 1].path l[i].path (hp _ (List.getElem_mem _)) (hp _ (List.getElem_mem _))) ?_
     (conv => whnf)
     refine booN (fun h8 => ?_) (fun h8 => ?_)
     ·have hc : clashF (prevX l i) l[i] = 8 := by rw [hpv]; unfold clashF; simp [h8]
      rw [hc, if_pos (by decide)] at hat
      repeat' ((conv => whnf); first | (refine dec (fun h => ?_) (fun h => ?_) <;> try contradiction) | (refine decN (fun h => ?_) (fun h => ?_) <;> try contradiction) | refine booN (fun h => ?_) (fun h => ?_) | refine boo (fun h => ?_) (fun h => ?_) | refine ⟨i64 (by omega) (by omega), ?_⟩ | refine ⟨_, _, rfl, List.getElem?_eq_getElem (by omega), ?_⟩ | refine ⟨_, ⟨rfl, by omega⟩, ?_⟩ | refine ⟨_, List.getElem?_eq_getElem (by omega), ?_⟩ | refine rtB ?_ | refine rtI ?_ | refine rtC ?_ rfl | fail)
      exact hat.symm
     ·(conv => whnf)
      refine dec (fun _ => ?_) (fun h => absurd h7 h)
      (conv => whnf)
      refine ⟨false, .grow, (.l [0, 1, 2, 3, 4, 5, 6, 7, 8, 9, 10, 11, 12, 13, 14, 15, 16]), by kernel_rfl, .inl ?_⟩
      (conv => whnf)
      refine ⟨i, l[i], rfl, List.getElem?_eq_getElem hlt, ?_⟩
      (conv => whnf)
      refine ⟨i64 (by omega) (by omega), ?_⟩
      (conv => whnf)
      refine ⟨i - 1, l[i - 1], by omega, List.getElem?_eq_getElem (by omega), ?_⟩
      (conv => whnf)
      refine cl [] [] (behind_spec l[i].path l[i - 1].path (hp _ (List.getElem_mem _))) ?_
      rw [underP_is]
      (conv => whnf)
      refine boo (fun h9 => ?_) (fun h9 => ?_)
      ·have hc : clashF (prevX l i) l[i] = 10 := by rw [hpv]; unfold clashF; simp [h8, h9]
       rw [hc, if_pos (by decide)] at hat
       repeat' ((conv => whnf); first | (refine dec (fun h => ?_) (fun h => ?_) <;> try contradiction) | (refine decN (fun h => ?_) (fun h => ?_) <;> try contradiction) | refine booN (fun h => ?_) (fun h => ?_) | refine boo (fun h => ?_) (fun h => ?_) | refine ⟨i64 (by omega) (by omega), ?_⟩ | refine ⟨_, _, rfl, List.getElem?_eq_getElem (by omega), ?_⟩ | refine ⟨_, ⟨rfl, by omega⟩, ?_⟩ | refine ⟨_, List.getElem?_eq_getElem (by omega), ?_⟩ | refine rtB ?_ | refine rtI ?_ | refine rtC ?_ rfl | fail)
       exact hat.symm
      ·have hc : clashF (prevX l i) l[i] = 0 := by rw [hpv]; unfold clashF; simp [h8, h9]
       rw [hc, if_neg (by decide)] at hat
       repeat' ((conv => whnf); refine I6 ?_)
       refine ag (i + 1) [] [] ⟨hlt, hat⟩ (by simp only []; omega) ?_
       repeat' first | exact trivial | exact rfl | refine And.intro ?_ ?_
    ·obtain rfl : i = 0 := by omega
     have hc : clashF (prevX l 0) l[0] = 0 := rfl
     rw [hc, if_neg (by decide)] at hat
     repeat' ((conv => whnf); refine I6 ?_)
     refine ag (0 + 1) [] [] ⟨hlt, hat⟩ (by simp only []; omega) ?_
     repeat' first | exact trivial | exact rfl | refine And.intro ?_ ?_
 ·rw [List.drop_of_length_le (by omega)] at hat
  repeat' ((conv => whnf); first | (refine dec (fun h => ?_) (fun h => ?_) <;> try contradiction) | (refine decN (fun h => ?_) (fun h => ?_) <;> try contradiction) | refine booN (fun h => ?_) (fun h => ?_) | refine boo (fun h => ?_) (fun h => ?_) | refine ⟨i64 (by omega) (by omega), ?_⟩ | refine ⟨_, _, rfl, List.getElem?_eq_getElem (by omega), ?_⟩ | refine ⟨_, ⟨rfl, by omega⟩, ?_⟩ | refine ⟨_, List.getElem?_eq_getElem (by omega), ?_⟩ | refine rtB ?_ | refine rtI ?_ | refine rtC ?_ rfl | fail)
  rw [hat]; unfold checkF; rfl
theorem fault_spec (l : List Fi) (hp : ∀ f ∈ l, f.path.length ≤ 4000000) : Does Tryz.prog 66 [.c (.bs 4 Fi encFi l)] [] (Rt (.c (.int .i64 (filesF l))) []) := by
 by_cases h : 60 < l.length
 ·refine X_spec (n := 78) (n0 := 0) tabOk Tryz.call66 Tryz.func66 ?_
  intro hb
  repeat' ((conv => whnf); first | (refine dec (fun h => ?_) (fun h => ?_) <;> try contradiction) | (refine decN (fun h => ?_) (fun h => ?_) <;> try contradiction) | refine booN (fun h => ?_) (fun h => ?_) | refine boo (fun h => ?_) (fun h => ?_) | refine ⟨i64 (by omega) (by omega), ?_⟩ | refine ⟨_, _, rfl, List.getElem?_eq_getElem (by omega), ?_⟩ | refine ⟨_, ⟨rfl, by omega⟩, ?_⟩ | refine ⟨_, List.getElem?_eq_getElem (by omega), ?_⟩ | refine rtB ?_ | refine rtI ?_ | refine rtC ?_ rfl | fail)
  ·unfold filesF; rw [if_pos (by omega)]
  ·omega
 ·have := fault_spec' l (by omega) hp
  unfold filesF
  rw [if_neg h]; exact this
end Go.Nest
end
/- part -/
section

namespace Go.Nest
open Go Go.AM Go.Proofs
open Go.Proofs.YtpmjnbidmcnhnaaGreatDoor (tab tabOk)
set_option maxRecDepth 4000
theorem findF_spec (x : Fi) (p : List UInt8) : Does Tryz.prog 123 [.st (encFi x), .c (.bp [.str p])] [] (Rt (.c (.bool (decide (x.path = p)))) []) := by
 refine X_spec (n := 8) (n0 := 0) tabOk Tryz.call123 Tryz.func123 ?_
 intro hb
 repeat' ((conv => whnf); first | (refine dec (fun h => ?_) (fun h => ?_) <;> try contradiction) | (refine decN (fun h => ?_) (fun h => ?_) <;> try contradiction) | refine booN (fun h => ?_) (fun h => ?_) | refine boo (fun h => ?_) (fun h => ?_) | refine ⟨i64 (by omega) (by omega), ?_⟩ | refine ⟨_, _, rfl, List.getElem?_eq_getElem (by omega), ?_⟩ | refine ⟨_, ⟨rfl, by omega⟩, ?_⟩ | refine ⟨_, List.getElem?_eq_getElem (by omega), ?_⟩ | refine rtB ?_ | refine rtI ?_ | refine rtC ?_ rfl | fail)
 rfl
theorem indexFi_spec (l : List Fi) (p : List UInt8) : Does Tryz.prog 122 [.c (.bs 4 Fi encFi l), .c (.fn 123 [.bp [.str p]])] [] (Rt (.c (.int .i64 (idxF (fun f : Fi => decide (f.path = p)) l))) []) := by
 refine X_spec (n := 19) (n0 := 0) tabOk Tryz.call122 Tryz.func122 ?_
 intro hb; have hb : l.length ≤ 9223372036854775807 := hb.1.1
 (conv => whnf)
 refine lp Nat (fun i => ⟨[(0, .c (.bs 4 Fi encFi l)), (1, .c (.fn 123 [.bp [.str p]])), (7, .c (.int .i64 l.length)), (8, .c (.int .i64 i))], []⟩) (fun i => i ≤ l.length ∧ (l.take i).any (fun f : Fi => decide (f.path = p)) = false) (fun i => l.length - i) 0 [] [] ?_ ?_ (fun i hi => ?_)
 ·simp
 ·repeat' first | exact trivial | exact rfl | refine And.intro ?_ ?_
 (conv => whnf)
 refine dec (fun h4 => ?_) (fun h4 => ?_)
 ·have hlt : i < l.length := by omega
  repeat' ((conv => whnf); first | (refine dec (fun h => ?_) (fun h => ?_) <;> try contradiction) | (refine decN (fun h => ?_) (fun h => ?_) <;> try contradiction) | refine booN (fun h => ?_) (fun h => ?_) | refine boo (fun h => ?_) (fun h => ?_) | refine ⟨i64 (by omega) (by omega), ?_⟩ | refine ⟨_, _, rfl, List.getElem?_eq_getElem (by omega), ?_⟩ | refine ⟨_, ⟨rfl, by omega⟩, ?_⟩ | refine ⟨_, List.getElem?_eq_getElem (by omega), ?_⟩ | refine rtB ?_ | refine rtI ?_ | refine rtC ?_ rfl | fail)
  (conv => whnf)
  refine cl [] [] (findF_spec l[i] p) ?_
  repeat' ((conv => whnf); first | (refine dec (fun h => ?_) (fun h => ?_) <;> try contradiction) | (refine decN (fun h => ?_) (fun h => ?_) <;> try contradiction) | refine booN (fun h => ?_) (fun h => ?_) | refine boo (fun h => ?_) (fun h => ?_) | refine ⟨i64 (by omega) (by omega), ?_⟩ | refine ⟨_, _, rfl, List.getElem?_eq_getElem (by omega), ?_⟩ | refine ⟨_, ⟨rfl, by omega⟩, ?_⟩ | refine ⟨_, List.getElem?_eq_getElem (by omega), ?_⟩ | refine rtB ?_ | refine rtI ?_ | refine rtC ?_ rfl | fail)
  ·exact idxF_at hlt hi.2 (by simpa using h)
  ·refine ag (i + 1) [] [] ⟨hlt, any_take hlt hi.2 (by simpa using h)⟩ (by simp only []; omega) ?_
   repeat' first | exact trivial | exact rfl | refine And.intro ?_ ?_
 ·repeat' ((conv => whnf); first | (refine dec (fun h => ?_) (fun h => ?_) <;> try contradiction) | (refine decN (fun h => ?_) (fun h => ?_) <;> try contradiction) | refine booN (fun h => ?_) (fun h => ?_) | refine boo (fun h => ?_) (fun h => ?_) | refine ⟨i64 (by omega) (by omega), ?_⟩ | refine ⟨_, _, rfl, List.getElem?_eq_getElem (by omega), ?_⟩ | refine ⟨_, ⟨rfl, by omega⟩, ?_⟩ | refine ⟨_, List.getElem?_eq_getElem (by omega), ?_⟩ | refine rtB ?_ | refine rtI ?_ | refine rtC ?_ rfl | fail)
  have := hi.2
  rw [List.take_of_length_le (by omega)] at this
  exact idxF_none this
theorem find_spec (l : List Fi) (p : List UInt8) : Does Tryz.prog 79 [.c (.bs 4 Fi encFi l), .c (.str p)] [] (Rt (.tup [(true, encFi (fileAtP l p).1), (false, [.bool (fileAtP l p).2])]) []) := by
 refine X_spec (n := 17) (n0 := 0) tabOk Tryz.call79 Tryz.func79 ?_
 intro hb
 (conv => whnf)
 refine cl [] [] (indexFi_spec l p) ?_
 rcases idxF_find (p := fun f : Fi => decide (f.path = p)) (l := l) with ⟨k1, k2⟩ | ⟨k, k1, k2, k3⟩
 ·have e : fileAtP l p = (fi0, false) := by unfold fileAtP; rw [k2]
  rw [e]
  (conv => whnf)
  refine dec (fun _ => ?_) (fun h => absurd (by omega) h)
  (conv => whnf)
  exact rx [] []
 ·have e : fileAtP l p = (l[k], true) := by unfold fileAtP; rw [k3]
  rw [e, k2]
  (conv => whnf)
  refine ⟨k, l[k], rfl, List.getElem?_eq_getElem k1, ?_⟩
  (conv => whnf)
  exact rx [] []
end Go.Nest
end
