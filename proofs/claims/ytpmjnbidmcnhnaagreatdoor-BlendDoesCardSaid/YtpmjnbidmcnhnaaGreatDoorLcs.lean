/- part -/
namespace Go.NB.L
section
variable {α : Type} [DecidableEq α]
def lcs : List α → List α → Nat
 | [], _ => 0
 | _ :: _, [] => 0
 | x :: xs, y :: ys => if x = y then lcs xs ys + 1 else max (lcs xs (y :: ys)) (lcs (x :: xs) ys)
termination_by a b => a.length + b.length
theorem lcs_nil (b : List α) : lcs [] b = 0 := by rw [lcs]
theorem lcs_nil' (a : List α) : lcs a [] = 0 := by cases a <;> rw [lcs]
theorem lcs_cons (x y : α) (xs ys : List α) : lcs (x :: xs) (y :: ys) = if x = y then lcs xs ys + 1 else max (lcs xs (y :: ys)) (lcs (x :: xs) ys) := by rw [lcs]
theorem lcs_step (a b : List α) : (∀ x, lcs a b ≤ lcs (x :: a) b ∧ lcs (x :: a) b ≤ lcs a b + 1) ∧ (∀ y, lcs a b ≤ lcs a (y :: b) ∧ lcs a (y :: b) ≤ lcs a b + 1) := by
 match a, b with
 | [], [] => simp [lcs_nil, lcs_nil']
 | [], z :: bs =>
  have ih := lcs_step ([] : List α) bs
  refine ⟨fun x => ?_, fun y => by simp [lcs_nil]⟩
  rw [lcs_cons, lcs_nil]
  split
  ·simp [lcs_nil]
  ·have := (ih.1 x).2
   simp [lcs_nil] at this ⊢
   exact this
 | w :: as, [] =>
  have ih := lcs_step as ([] : List α)
  refine ⟨fun x => by simp [lcs_nil'], fun y => ?_⟩
  rw [lcs_cons, lcs_nil']
  split
  ·simp [lcs_nil']
  ·have := (ih.2 y).2
   simp [lcs_nil'] at this ⊢
   exact this
 | w :: as, z :: bs =>
  have h1 := lcs_step as bs
  have h2 := lcs_step as (z :: bs)
  have h3 := lcs_step (w :: as) bs
  refine ⟨fun x => ?_, fun y => ?_⟩
  ·rw [lcs_cons x z]
   split
   ·refine ⟨?_, ?_⟩
    ·exact (h3.2 z).2
    ·exact Nat.succ_le_succ ((h3.2 z).1)
   ·refine ⟨Nat.le_max_left _ _, Nat.max_le.2 ⟨Nat.le_succ _, ?_⟩⟩
    have e1 := (h3.1 x).2
    have e2 := (h3.2 z).1
    omega
  ·rw [lcs_cons w y]
   split
   ·refine ⟨?_, ?_⟩
    ·exact (h2.1 w).2
    ·exact Nat.succ_le_succ ((h2.1 w).1)
   ·refine ⟨Nat.le_max_right _ _, Nat.max_le.2 ⟨?_, Nat.le_succ _⟩⟩
    have e1 := (h2.2 y).2
    have e2 := (h2.1 w).1
    omega
termination_by a.length + b.length
theorem lcs_le (a b : List α) : lcs a b ≤ a.length := by
 induction a with
 | nil => simp [lcs_nil]
 | cons x a ih => have := (lcs_step a b).1 x; simp; omega
theorem lcs_ref (x y : α) (xs ys : List α) : lcs (x :: xs) (y :: ys) =
  if x = y ∧ lcs xs ys + 1 > max (lcs xs (y :: ys)) (lcs (x :: xs) ys) then lcs xs ys + 1 else max (lcs xs (y :: ys)) (lcs (x :: xs) ys) := by
 rw [lcs_cons]
 by_cases h : x = y
 ·subst h
  have h1 := (lcs_step xs ys).2 x
  have h2 := (lcs_step xs ys).1 x
  have h3 := (lcs_step xs (x :: ys)).1 x
  rw [if_pos rfl]
  split
  ·rfl
  ·rename_i hn
   have : ¬ (lcs xs ys + 1 > max (lcs xs (x :: ys)) (lcs (x :: xs) ys)) := fun h => hn ⟨rfl, h⟩
   have : max (lcs xs (x :: ys)) (lcs (x :: xs) ys) ≤ lcs xs ys + 1 := Nat.max_le.2 ⟨h1.2, h2.2⟩
   omega
 ·rw [if_neg h, if_neg (fun e => h e.1)]
def pairs : List α → List α → Nat → Nat → List (Nat × Nat)
 | [], _, _, _ => []
 | _ :: _, [], _, _ => []
 | x :: xs, y :: ys, i, j =>
  if x = y then (i, j) :: pairs xs ys (i + 1) (j + 1)
  else if lcs (x :: xs) ys ≤ lcs xs (y :: ys) then pairs xs (y :: ys) (i + 1) j else pairs (x :: xs) ys i (j + 1)
termination_by a b => a.length + b.length
theorem pairs_nil (b : List α) (i j : Nat) : pairs [] b i j = [] := by rw [pairs]
theorem pairs_nil' (a : List α) (i j : Nat) : pairs a [] i j = [] := by cases a <;> rw [pairs]
theorem pairs_cons (x y : α) (xs ys : List α) (i j : Nat) : pairs (x :: xs) (y :: ys) i j =
  if x = y then (i, j) :: pairs xs ys (i + 1) (j + 1)
  else if lcs (x :: xs) ys ≤ lcs xs (y :: ys) then pairs xs (y :: ys) (i + 1) j else pairs (x :: xs) ys i (j + 1) := by rw [pairs]
theorem pairs_length (a b : List α) (i j : Nat) : (pairs a b i j).length = lcs a b := by
 match a, b with
 | [], b => rw [pairs_nil, lcs_nil]; rfl
 | x :: xs, [] => rw [pairs_nil', lcs_nil']; rfl
 | x :: xs, y :: ys =>
  rw [pairs_cons, lcs_cons]
  by_cases h : x = y
  ·rw [if_pos h, if_pos h, List.length_cons, pairs_length]
  ·rw [if_neg h, if_neg h]
   split
   ·rw [pairs_length]; omega
   ·rw [pairs_length]; omega
termination_by a.length + b.length
theorem pairs_mem (a b : List α) (i j : Nat) : ∀ p ∈ pairs a b i j, i ≤ p.1 ∧ p.1 < i + a.length ∧ j ≤ p.2 ∧ p.2 < j + b.length ∧ a[p.1 - i]? = b[p.2 - j]? := by
 match a, b with
 | [], b => rw [pairs_nil]; intro p h; cases h
 | x :: xs, [] => rw [pairs_nil']; intro p h; cases h
 | x :: xs, y :: ys =>
  rw [pairs_cons]
  intro p hp
  split at hp
  ·rename_i h
   rcases List.mem_cons.1 hp with rfl | hp
   ·simp [h]
   ·obtain ⟨h1, h2, h3, h4, h5⟩ := pairs_mem xs ys (i + 1) (j + 1) p hp
    refine ⟨by omega, by simp; omega, by omega, by simp; omega, ?_⟩
    rw [show p.1 - i = (p.1 - (i + 1)) + 1 by omega, show p.2 - j = (p.2 - (j + 1)) + 1 by omega]
    simpa using h5
  ·split at hp
   ·obtain ⟨h1, h2, h3, h4, h5⟩ := pairs_mem xs (y :: ys) (i + 1) j p hp
    refine ⟨by omega, by simp; omega, by omega, by simpa using h4, ?_⟩
    rw [show p.1 - i = (p.1 - (i + 1)) + 1 by omega]
    simpa using h5
   ·obtain ⟨h1, h2, h3, h4, h5⟩ := pairs_mem (x :: xs) ys i (j + 1) p hp
    refine ⟨by omega, by simpa using h2, by omega, by simp; omega, ?_⟩
    rw [show p.2 - j = (p.2 - (j + 1)) + 1 by omega]
    simpa using h5
termination_by a.length + b.length
theorem pairs_rise (a b : List α) (i j : Nat) : (pairs a b i j).Pairwise fun p q => p.1 < q.1 ∧ p.2 < q.2 := by
 match a, b with
 | [], b => rw [pairs_nil]; exact .nil
 | x :: xs, [] => rw [pairs_nil']; exact .nil
 | x :: xs, y :: ys =>
  rw [pairs_cons]
  split
  ·refine List.pairwise_cons.2 ⟨fun q hq => ?_, pairs_rise xs ys _ _⟩
   have := pairs_mem xs ys (i + 1) (j + 1) q hq
   exact ⟨by omega, by omega⟩
  ·split
   ·exact pairs_rise xs (y :: ys) _ _
   ·exact pairs_rise (x :: xs) ys _ _
termination_by a.length + b.length
end
end Go.NB.L
