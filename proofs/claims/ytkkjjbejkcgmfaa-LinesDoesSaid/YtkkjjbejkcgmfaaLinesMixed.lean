/- LINES: the second way to mix, in plain lists. -/
import Derived.Test.YtkkjjbejkcgmfaaLinesMerge
namespace Go.NB.L

abbrev Tr := Nat × Nat × Nat
def row (u : Nat × Nat) (y : List (Nat × Nat)) : List Tr := y.filterMap fun v => if u.1 = v.1 then some (u.1, u.2, v.2) else none
def mids (x y : List (Nat × Nat)) : List Tr := x.flatMap fun u => row u y

theorem row_take (u : Nat × Nat) (y : List (Nat × Nat)) (k : Nat) (h : k < y.length) : row u (y.take (k + 1)) = row u (y.take k) ++ (if u.1 = y[k].1 then [(u.1, u.2, y[k].2)] else []) := by
  unfold row
  rw [List.take_succ_eq_append_getElem h, List.filterMap_append]
  congr 1
  by_cases e : u.1 = y[k].1
  · rw [if_pos e]; simp [e]
  · rw [if_neg e]; simp [e]
theorem row_le (u : Nat × Nat) (y : List (Nat × Nat)) : (row u y).length ≤ y.length := List.length_filterMap_le _ _
theorem mids_take (x y : List (Nat × Nat)) (i : Nat) (h : i < x.length) : mids (x.take (i + 1)) y = mids (x.take i) y ++ row x[i] y := by
  unfold mids
  rw [List.take_succ_eq_append_getElem h, List.flatMap_append]
  simp

theorem sorted_ext {α : Type} (f : α → Nat) : ∀ l m : List α, l.Pairwise (fun a b => f a < f b) → m.Pairwise (fun a b => f a < f b) → (∀ a, a ∈ l ↔ a ∈ m) → l = m
  | [], [], _, _, _ => rfl
  | [], b :: m, _, _, h => by have := (h b).2 (by simp); simp at this
  | a :: l, [], _, _, h => by have := (h a).1 (by simp); simp at this
  | a :: l, b :: m, hl, hm, h => by
    obtain ⟨h1, h2⟩ := List.pairwise_cons.1 hl
    obtain ⟨h3, h4⟩ := List.pairwise_cons.1 hm
    have e : a = b := by
      rcases List.mem_cons.1 ((h a).1 (by simp)) with e | e
      · exact e
      · rcases List.mem_cons.1 ((h b).2 (by simp)) with e' | e'
        · exact e'.symm
        · have := h3 a e; have := h1 b e'; omega
    subst e
    rw [sorted_ext f l m h2 h4 fun c => ⟨fun hc => ?_, fun hc => ?_⟩]
    · rcases List.mem_cons.1 ((h c).1 (List.mem_cons_of_mem _ hc)) with e | e
      · subst e; have := h1 c hc; omega
      · exact e
    · rcases List.mem_cons.1 ((h c).2 (List.mem_cons_of_mem _ hc)) with e | e
      · subst e; have := h3 c hc; omega
      · exact e

theorem mem_row {u : Nat × Nat} {y : List (Nat × Nat)} {t : Tr} : t ∈ row u y ↔ ∃ v ∈ y, u.1 = v.1 ∧ t = (u.1, u.2, v.2) := by
  unfold row
  rw [List.mem_filterMap]
  constructor
  · rintro ⟨v, hv, h⟩
    by_cases e : u.1 = v.1
    · rw [if_pos e] at h; exact ⟨v, hv, e, (Option.some.inj h).symm⟩
    · rw [if_neg e] at h; cases h
  · rintro ⟨v, hv, e, rfl⟩
    exact ⟨v, hv, by rw [if_pos e]⟩
theorem mem_mids {x y : List (Nat × Nat)} {t : Tr} : t ∈ mids x y ↔ (t.1, t.2.1) ∈ x ∧ (t.1, t.2.2) ∈ y := by
  unfold mids
  rw [List.mem_flatMap]
  constructor
  · rintro ⟨u, hu, h⟩
    obtain ⟨v, hv, e, rfl⟩ := mem_row.1 h
    obtain ⟨u1, u2⟩ := u
    obtain ⟨v1, v2⟩ := v
    simp at e
    subst e
    exact ⟨hu, hv⟩
  · rintro ⟨h1, h2⟩
    exact ⟨_, h1, mem_row.2 ⟨_, h2, rfl, rfl⟩⟩
theorem mids_sorted {x y : List (Nat × Nat)} (hx : Rise x) (hy : Rise y) : (mids x y).Pairwise fun a b => a.1 < b.1 := by
  induction x with
  | nil => exact .nil
  | cons u x ih =>
    obtain ⟨h1, h2⟩ := List.pairwise_cons.1 hx
    show (row u y ++ mids x y).Pairwise _
    refine List.pairwise_append.2 ⟨?_, ih h2, fun a ha b hb => ?_⟩
    · clear ih h1 h2 hx
      induction y with
      | nil => exact .nil
      | cons v y ihy =>
        obtain ⟨h3, h4⟩ := List.pairwise_cons.1 hy
        unfold row
        rw [List.filterMap_cons]
        by_cases e : u.1 = v.1
        · rw [if_pos e]
          refine List.pairwise_cons.2 ⟨fun t ht => ?_, ihy h4⟩
          obtain ⟨w, hw, e2, rfl⟩ := mem_row.1 ht
          have := (h3 w hw).1
          omega
        · rw [if_neg e]; exact ihy h4
    · obtain ⟨v, hv, e, rfl⟩ := mem_row.1 ha
      have := (h1 _ (mem_mids.1 hb).1).1
      exact this

theorem mem_held {x y : List (Nat × Nat)} {len n : Nat} {t : Tr} (hx : Rise x) (hy : Rise y) (hl : ∀ u ∈ x, u.1 < len) : t ∈ heldFrom x y len n ↔ n ≤ t.1 ∧ (t.1, t.2.1) ∈ x ∧ (t.1, t.2.2) ∈ y := by
  unfold heldFrom
  rw [List.mem_filterMap]
  constructor
  · rintro ⟨m, hm, h⟩
    by_cases e : 0 ≤ at_ x m ∧ 0 ≤ at_ y m
    · rw [if_pos e] at h
      obtain rfl := Option.some.inj h
      refine ⟨(List.mem_range'_1.1 hm).1, at_mem (Int.toNat_of_nonneg e.1).symm, at_mem (Int.toNat_of_nonneg e.2).symm⟩
    · rw [if_neg e] at h; cases h
  · rintro ⟨h0, h1, h2⟩
    have e1 := at_of_mem hx h1
    have e2 := at_of_mem hy h2
    have := hl _ h1
    refine ⟨t.1, List.mem_range'_1.2 ⟨h0, by simp only [] at this; omega⟩, ?_⟩
    simp only [] at e1 e2
    rw [e1, e2, if_pos ⟨by omega, by omega⟩]
    rfl
theorem held_sorted (x y : List (Nat × Nat)) (len : Nat) : ∀ d n, len - n = d → (heldFrom x y len n).Pairwise (fun a b => a.1 < b.1) ∧ ∀ t ∈ heldFrom x y len n, n ≤ t.1 := by
  intro d
  induction d with
  | zero => intro n h; unfold heldFrom; rw [h]; exact ⟨.nil, fun t ht => by cases ht⟩
  | succ d ih =>
    intro n h
    obtain ⟨h1, h2⟩ := ih (n + 1) (by omega)
    rw [heldFrom_cons _ _ _ _ (by omega)]
    split
    · refine ⟨List.pairwise_cons.2 ⟨fun t ht => h2 t ht, h1⟩, fun t ht => ?_⟩
      rcases List.mem_cons.1 ht with rfl | ht
      · exact Nat.le_refl _
      · have := h2 t ht; omega
    · exact ⟨h1, fun t ht => by have := h2 t ht; omega⟩
theorem mids_held {x y : List (Nat × Nat)} {len : Nat} (hx : Rise x) (hy : Rise y) (hl : ∀ u ∈ x, u.1 < len) : mids x y = heldFrom x y len 0 :=
  sorted_ext (fun t : Tr => t.1) _ _ (mids_sorted hx hy) (held_sorted x y len _ 0 rfl).1 fun t => by
    rw [mem_mids, mem_held hx hy hl]
    exact ⟨fun h => ⟨Nat.zero_le _, h⟩, fun h => h.2⟩

/-- what is held rises, and lies within -/
def Chain (base a b : Ls) : List Tr → Nat → Nat → Nat → Prop
  | [], i, j, k => i ≤ base.length ∧ j ≤ a.length ∧ k ≤ b.length
  | (n, p, q) :: t, i, j, k => i ≤ n ∧ n < base.length ∧ j ≤ p ∧ p < a.length ∧ k ≤ q ∧ q < b.length ∧ Chain base a b t (n + 1) (p + 1) (q + 1)
theorem chain_held {base a b : Ls} : ∀ d n i j k, base.length - n = d → n ≤ base.length → i ≤ n → j ≤ a.length → k ≤ b.length → (∀ u ∈ pairs base a 0 0, n ≤ u.1 → j ≤ u.2) → (∀ u ∈ pairs base b 0 0, n ≤ u.1 → k ≤ u.2) →
    Chain base a b (heldFrom (pairs base a 0 0) (pairs base b 0 0) base.length n) i j k := by
  intro d
  induction d with
  | zero => intro n i j k h hn hi hj hk _ _; unfold heldFrom; rw [h]; exact ⟨by omega, hj, hk⟩
  | succ d ih =>
    intro n i j k h hn hi hj hk hx hy
    rw [heldFrom_cons _ _ _ _ (by omega)]
    split
    · rename_i hc
      have h1 := at_mem (Int.toNat_of_nonneg hc.1).symm
      have h2 := at_mem (Int.toNat_of_nonneg hc.2).symm
      have b1 := pairs_mem base a 0 0 _ h1
      have b2 := pairs_mem base b 0 0 _ h2
      simp only [] at b1 b2
      refine ⟨hi, by omega, hx _ h1 (Nat.le_refl _), by omega, hy _ h2 (Nat.le_refl _), by omega, ih (n + 1) _ _ _ (by omega) (by omega) (Nat.le_refl _) (by omega) (by omega) (fun u hu hn => ?_) (fun u hu hn => ?_)⟩
      · exact Rise.lt (pairs_rise base a 0 0) h1 hu (by simp only []; omega)
      · exact Rise.lt (pairs_rise base b 0 0) h2 hu (by simp only []; omega)
    · exact ih (n + 1) i j k (by omega) (by omega) (by omega) hj hk (fun u hu hn => hx u hu (by omega)) (fun u hu hn => hy u hu (by omega))

def MX (base a b : Ls) : List Tr := mids (pairs base a 0 0) (pairs base b 0 0)
theorem mx_eq (base a b : Ls) : MX base a b = heldFrom (pairs base a 0 0) (pairs base b 0 0) base.length 0 :=
  mids_held (pairs_rise base a 0 0) (pairs_rise base b 0 0) fun u hu => by have := pairs_mem base a 0 0 u hu; omega
theorem mx_chain (base a b : Ls) : Chain base a b (MX base a b) 0 0 0 := by
  rw [mx_eq]; exact chain_held _ 0 0 0 0 rfl (by omega) (by omega) (by omega) (by omega) (fun _ _ _ => by omega) (fun _ _ _ => by omega)
theorem mx_merge (base a b : Ls) : merge base a b = go base a b (MX base a b) 0 0 0 := by rw [mx_eq]; rfl

def tr (t : Tr) : Int × Int × Int := (t.1, t.2.1, t.2.2)
end Go.NB.L
