/- PLAIN LAWS, 3: what is in a pool. -/
import Derived.Test.YtkkjjbejkcgmfaaP2
namespace Go.Nest
open Go Go.AM
set_option linter.unusedVariables false
set_option linter.unusedSimpArgs false

theorem PoolOk.nodup {l : List Ob} (h : PoolOk l) : l.Nodup := by
  induction h with
  | nil => exact List.nodup_nil
  | snoc _ _ _ hn _ ih =>
    rw [List.nodup_append]
    exact ⟨ih, by simp, fun a ha b hb => by rw [List.mem_singleton] at hb; subst hb; intro e; subst e; exact hn ha⟩
theorem leads_app {l m : List Ob} {o : Ob} (ho : OkO o) (h : leadsP l o = true) : leadsP (l ++ m) o = true := by
  unfold leadsP at h ⊢
  rw [Bool.and_eq_true, Bool.and_eq_true, List.all_eq_true, List.all_eq_true] at h ⊢
  refine ⟨fun e he => ?_, fun k hk => ?_, ?_⟩
  · have h1 := h.1 e he
    have h2 := ho.modes e he
    rw [decide_eq_true_iff] at h1 ⊢
    rw [kindOf_app (by omega)]; exact h1
  · have h1 := h.2.1 k hk
    rw [decide_eq_true_iff] at h1 ⊢
    rw [kindOf_app (by omega)]; exact h1
  · have h1 := h.2.2
    by_cases h3 : o.kind = 3
    · simp [h3] at h1 ⊢
      rw [kindOf_app (by omega)]; exact h1
    · simp [h3]
theorem PoolOk.obj {l : List Ob} (h : PoolOk l) : ∀ o ∈ l, objF o = 0 ∧ leadsP l o = true := by
  induction h with
  | nil => intro o ho; cases ho
  | snoc hp ho hl _ _ ih =>
    intro u hu
    rcases List.mem_append.1 hu with hu | hu
    · exact ⟨(ih u hu).1, leads_app (objF_ok (ih u hu).1) (ih u hu).2⟩
    · rw [List.mem_singleton] at hu; subst hu; exact ⟨ho, leads_app (objF_ok ho) hl⟩
theorem putP_again {l : List Ob} (h : PoolOk l) {k : Nat} (hk : k < l.length) : putP l l[k] = ((k : Int), 0, l) := by
  obtain ⟨h1, h2⟩ := h.obj _ (List.getElem_mem hk)
  have hi := idxF_at (p := fun x => decide (x = l[k])) hk (by
    rw [List.any_eq_false]
    intro x hx he
    rw [decide_eq_true_iff] at he
    subst he
    obtain ⟨j, hj, e⟩ := List.mem_take_iff_getElem.1 hx
    have := (List.getElem_inj h.nodup).1 e
    omega) (by simp)
  unfold putP
  rw [if_neg (by simpa using h1), if_neg (by simp [h2]), if_pos (by omega), ← hi]
theorem get_ne {l : List Ob} (h : PoolOk l) {i k : Nat} (hk : k < l.length) (hi : i < k) : ¬ getP l k = getP l i := by
  rw [getP_at (by omega) (by omega), getP_at (by omega) (by omega)]
  intro e
  have := (List.getElem_inj h.nodup).1 e
  omega
theorem mem_reach {l : List Ob} {ids : List Int} (hl : PoolOk l) {k : Int} : k ∈ reachP l ids ↔ Led l ids k := by
  unfold reachP
  rw [List.mem_map]
  constructor
  · rintro ⟨n, h1, rfl⟩
    rw [List.mem_filter] at h1
    exact (@decide_eq_true_iff _ (Classical.propDecidable _)).1 h1.2
  · intro h
    obtain ⟨h1, h2⟩ := kindOf_pos (h.kind hl)
    refine ⟨k.toNat, List.mem_filter.2 ⟨by rw [List.mem_range]; exact h2, ?_⟩, by omega⟩
    rw [show ((k.toNat : Nat) : Int) = k by omega]
    exact (@decide_eq_true_iff _ (Classical.propDecidable _)).2 h
theorem reach_rise {l : List Ob} {ids : List Int} : (reachP l ids).Pairwise (· < ·) := by
  unfold reachP
  rw [List.pairwise_map]
  have := (List.pairwise_lt_range (n := l.length)).filter (fun k : Nat => @decide (Led l ids (k : Int)) (Classical.propDecidable _))
  exact this.imp (fun h => by omega)
theorem reach_len {l : List Ob} {ids : List Int} : (reachP l ids).length ≤ l.length := by
  unfold reachP
  rw [List.length_map]
  exact Nat.le_trans (List.length_filter_le _ _) (by simp)
theorem led_how {l : List Ob} {ids : List Int} (hl : PoolOk l) {k : Int} (h : Led l ids k) : k ∈ ids ∨ ∃ j ∈ reachP l ids, k ∈ nextP l j := by
  cases h with
  | base h _ => exact .inl h
  | step h hk => exact .inr ⟨_, (mem_reach hl).2 h, hk⟩
end Go.Nest
