/- part -/
import Derived.Test.YtpmjnbidmcnhnaaGreatDoorG9
set_option linter.unusedVariables false
set_option linter.unusedSimpArgs false
section

namespace Go.Nest
open Go Go.AM
inductive Led (l : List Ob) (ids : List Int) : Int → Prop
 | base {k : Int} (h : k ∈ ids) (hk : ¬ kindOf l k = 0) : Led l ids k
 | step {j k : Int} (h : Led l ids j) (hk : k ∈ nextP l j) : Led l ids k
theorem kindOf_app {l m : List Ob} {k : Int} (h : ¬ kindOf l k = 0) : kindOf (l ++ m) k = kindOf l k := by
 obtain ⟨h1, h2⟩ := kindOf_pos h
 unfold kindOf
 rw [if_neg h1, if_neg h1, List.getElem?_append_left h2]
theorem getP_app {l m : List Ob} {k : Int} (h2 : k < l.length) : getP (l ++ m) k = getP l k := by
 unfold getP
 split
 ·rfl
 ·rw [List.getElem?_append_left (by omega)]
theorem getP_end {l : List Ob} {o : Ob} : getP (l ++ [o]) l.length = o := by
 unfold getP
 rw [if_neg (by omega)]; simp
theorem nextP_app {l m : List Ob} {k : Int} (h2 : k < l.length) : nextP (l ++ m) k = nextP l k := by unfold nextP; rw [getP_app h2]
theorem mem_next {l : List Ob} {j k : Int} (h : k ∈ nextP l j) : (∃ e ∈ (getP l j).entries, e.mode ≠ 3 ∧ e.id = k) ∨ ((getP l j).kind = 3 ∧ k = (getP l j).tree) ∨ k ∈ (getP l j).parents := by
 unfold nextP at h
 rw [List.mem_append, List.mem_append, List.mem_map] at h
 rcases h with ⟨e, he, h⟩ | h | h
 ·rw [List.mem_filter] at he
  exact .inl ⟨e, he.1, by simpa using he.2, h⟩
 ·split at h
  ·rw [List.mem_singleton] at h; exact .inr (.inl ⟨‹_›, h⟩)
  ·cases h
 ·exact .inr (.inr h)
theorem leads_next {l : List Ob} {o : Ob} (ho : OkO o) (hl : leadsP l o = true) {j k : Int} (hj : getP (l ++ [o]) j = o) (h : k ∈ nextP (l ++ [o]) j) : ¬ kindOf l k = 0 := by
 unfold leadsP at hl
 rw [Bool.and_eq_true, Bool.and_eq_true, List.all_eq_true, List.all_eq_true] at hl
 have := mem_next h
 rw [hj] at this
 rcases this with ⟨e, he, h1, rfl⟩ | ⟨h1, rfl⟩ | h1
 ·have h2 := hl.1 e he
  have h3 := ho.modes e he
  rw [decide_eq_true_iff] at h2
  omega
 ·have h2 := hl.2.2
  simp [h1] at h2
  omega
 ·have h2 := hl.2.1 k h1
  rw [decide_eq_true_iff] at h2
  omega
theorem next_lt {l : List Ob} (hl : PoolOk l) {j k : Int} (h : k ∈ nextP l j) : ¬ kindOf l k = 0 ∧ k < j := by
 induction hl with
 | nil => unfold nextP getP at h; split at h <;> simp [ob0] at h
 | @snoc l o hp ho hle hn hlen ih =>
  by_cases hj : j < l.length
  ·rw [nextP_app hj] at h
   obtain ⟨h1, h2⟩ := ih h
   exact ⟨by rw [kindOf_app h1]; exact h1, h2⟩
  ·by_cases hj2 : j = l.length
   ·subst hj2
    have h1 := leads_next (objF_ok ho) hle getP_end h
    obtain ⟨h2, h3⟩ := kindOf_pos h1
    exact ⟨by rw [kindOf_app h1]; exact h1, by omega⟩
   ·exfalso
    have : getP (l ++ [o]) j = ob0 := by
     unfold getP
     rw [if_neg (by omega), List.getElem?_eq_none (by rw [List.length_append, List.length_singleton]; omega)]; rfl
    unfold nextP at h
    rw [this] at h
    simp [ob0] at h
theorem Led.kind {l : List Ob} {ids : List Int} (hl : PoolOk l) {k : Int} (h : Led l ids k) : ¬ kindOf l k = 0 := by
 cases h with
 | base _ hk => exact hk
 | step _ hk => exact (next_lt hl hk).1
noncomputable def reachP (l : List Ob) (ids : List Int) : List Int := ((List.range l.length).filter fun k : Nat => @decide (Led l ids (k : Int)) (Classical.propDecidable _)).map fun k : Nat => (k : Int)
def Mk (vis : List Bool) (k : Int) : Prop := ∃ n : Nat, k = n ∧ vis[n]? = some true
def outOf (vis : List Bool) (i : Nat) : List Int := ((List.range i).filter fun k : Nat => (vis[k]?).getD false).map fun k : Nat => (k : Int)
theorem outOf_succ {vis : List Bool} {i : Nat} (h : i < vis.length) : outOf vis (i + 1) = outOf vis i ++ (if vis[i] = true then [(i : Int)] else []) := by
 unfold outOf
 rw [List.range_succ, List.filter_append, List.map_append]
 congr 1
 cases hv : vis[i] <;> simp [List.getElem?_eq_getElem h, hv]
theorem outOf_len {vis : List Bool} {i : Nat} : (outOf vis i).length ≤ i := by
 unfold outOf
 rw [List.length_map]
 exact Nat.le_trans (List.length_filter_le _ _) (by simp)
theorem outOf_reach {l : List Ob} {ids : List Int} {vis : List Bool} (hv : vis.length = l.length) (h : ∀ k, Mk vis k ↔ Led l ids k) : outOf vis l.length = reachP l ids := by
 unfold outOf reachP
 congr 1
 refine List.filter_congr fun k hk => ?_
 rw [List.mem_range] at hk
 have := h k
 rw [Bool.eq_iff_iff, @decide_eq_true_iff _ (Classical.propDecidable _), ← this]
 unfold Mk
 constructor
 ·intro h1
  refine ⟨k, rfl, ?_⟩
  rw [List.getElem?_eq_getElem (by omega)] at h1 ⊢
  simpa using h1
 ·rintro ⟨n, h1, h2⟩
  obtain rfl : k = n := by omega
  rw [h2]; rfl
theorem Mk.set {vis : List Bool} {n : Nat} {k : Int} (hn : n < vis.length) : Mk (vis.set n true) k ↔ Mk vis k ∨ k = n := by
 unfold Mk
 constructor
 ·rintro ⟨m, rfl, h⟩
  by_cases e : n = m
  ·subst e; exact .inr rfl
  ·rw [List.getElem?_set_ne e] at h; exact .inl ⟨m, rfl, h⟩
 ·rintro (⟨m, rfl, h⟩ | rfl)
  ·by_cases e : n = m
   ·subst e; exact ⟨n, rfl, by rw [List.getElem?_set_self hn]⟩
   ·exact ⟨m, rfl, by rw [List.getElem?_set_ne e]; exact h⟩
  ·exact ⟨n, rfl, by rw [List.getElem?_set_self hn]⟩
theorem count_set : ∀ {vis : List Bool} {n : Nat}, vis[n]? = some false → (vis.set n true).count true = vis.count true + 1
 | b :: v, 0, h => by simp at h; subst h; simp
 | b :: v, n + 1, h => by
  simp at h
  rw [List.set_cons_succ, List.count_cons, List.count_cons, count_set h]; omega
theorem Led.of_closed {l : List Ob} {ids : List Int} {vis : List Bool} (h1 : ∀ k ∈ ids, ¬ kindOf l k = 0 → Mk vis k) (h2 : ∀ j, Mk vis j → ∀ k ∈ nextP l j, Mk vis k) {k : Int} (h : Led l ids k) : Mk vis k := by
 induction h with
 | base h hk => exact h1 _ h hk
 | step _ hk ih => exact h2 _ ih _ hk
theorem not_Mk_rep {n : Nat} {k : Int} : ¬ Mk (List.replicate n false) k := by
 rintro ⟨m, rfl, h⟩
 rw [List.getElem?_replicate] at h
 split at h <;> cases h
end Go.Nest
end
/- part -/
section

namespace Go.Nest
open Go Go.AM
theorem PoolOk.nodup {l : List Ob} (h : PoolOk l) : l.Nodup := by
 induction h with
 | nil => exact List.nodup_nil
 | snoc _ _ _ hn _ ih =>
  rw [List.nodup_append]
  exact ⟨ih, by simp, fun a ha b hb => by rw [List.mem_singleton] at hb; subst hb; intro e; subst e; exact hn ha⟩
theorem leads_app {l m : List Ob} {o : Ob} (ho : OkO o) (h : leadsP l o = true) : leadsP (l ++ m) o = true := by
 unfold leadsP at h ⊢
 rw [Bool.and_eq_true, Bool.and_eq_true, List.all_eq_true, List.all_eq_true] at h ⊢
 refine ⟨fun e he => ?_, fun k hk => ?_, ?_⟩
 ·have h1 := h.1 e he
  have h2 := ho.modes e he
  rw [decide_eq_true_iff] at h1 ⊢
  rw [kindOf_app (by omega)]; exact h1
 ·have h1 := h.2.1 k hk
  rw [decide_eq_true_iff] at h1 ⊢
  rw [kindOf_app (by omega)]; exact h1
 ·have h1 := h.2.2
  by_cases h3 : o.kind = 3
  ·simp [h3] at h1 ⊢
   rw [kindOf_app (by omega)]; exact h1
  ·simp [h3]
theorem PoolOk.obj {l : List Ob} (h : PoolOk l) : ∀ o ∈ l, objF o = 0 ∧ leadsP l o = true := by
 induction h with
 | nil => intro o ho; cases ho
 | snoc hp ho hl _ _ ih =>
  intro u hu
  rcases List.mem_append.1 hu with hu | hu
  ·exact ⟨(ih u hu).1, leads_app (objF_ok (ih u hu).1) (ih u hu).2⟩
  ·rw [List.mem_singleton] at hu; subst hu; exact ⟨ho, leads_app (objF_ok ho) hl⟩
theorem putP_again {l : List Ob} (h : PoolOk l) {k : Nat} (hk : k < l.length) : putP l l[k] = ((k : Int), 0, l) := by
 obtain ⟨h1, h2⟩ := h.obj _ (List.getElem_mem hk)
 have hi := idxF_at (p := fun x => decide (x = l[k])) hk (by
  rw [List.any_eq_false]
  intro x hx he
  rw [decide_eq_true_iff] at he
  subst he
  obtain ⟨j, hj, e⟩ := List.mem_take_iff_getElem.1 hx
  have := (List.getElem_inj h.nodup).1 e
  omega) (by simp)
 unfold putP
 rw [if_neg (by simpa using h1), if_neg (by simp [h2]), if_pos (by omega), ← hi]
theorem mem_reach {l : List Ob} {ids : List Int} (hl : PoolOk l) {k : Int} : k ∈ reachP l ids ↔ Led l ids k := by
 unfold reachP
 rw [List.mem_map]
 constructor
 ·rintro ⟨n, h1, rfl⟩
  rw [List.mem_filter] at h1
  exact (@decide_eq_true_iff _ (Classical.propDecidable _)).1 h1.2
 ·intro h
  obtain ⟨h1, h2⟩ := kindOf_pos (h.kind hl)
  refine ⟨k.toNat, List.mem_filter.2 ⟨by rw [List.mem_range]; exact h2, ?_⟩, by omega⟩
  rw [show ((k.toNat : Nat) : Int) = k by omega]
  exact (@decide_eq_true_iff _ (Classical.propDecidable _)).2 h
theorem reach_rise {l : List Ob} {ids : List Int} : (reachP l ids).Pairwise (· < ·) := by
 unfold reachP
 rw [List.pairwise_map]
 have := (List.pairwise_lt_range (n := l.length)).filter (fun k : Nat => @decide (Led l ids (k : Int)) (Classical.propDecidable _))
 exact this.imp (fun h => by omega)
theorem reach_len {l : List Ob} {ids : List Int} : (reachP l ids).length ≤ l.length := by
 unfold reachP
 rw [List.length_map]
 exact Nat.le_trans (List.length_filter_le _ _) (by simp)
theorem led_how {l : List Ob} {ids : List Int} (hl : PoolOk l) {k : Int} (h : Led l ids k) : k ∈ ids ∨ ∃ j ∈ reachP l ids, k ∈ nextP l j := by
 cases h with
 | base h _ => exact .inl h
 | step h hk => exact .inr ⟨_, (mem_reach hl).2 h, hk⟩
end Go.Nest
end
