/- part -/
import Derived.Test.YtpmjnbidmcnhnaaGreatDoorG1b
import Derived.Lib.Bytealg
set_option linter.unusedVariables false
set_option linter.unusedSimpArgs false

namespace Go.Nest
open Go Go.AM
theorem bl_irrefl : ∀ {a : List UInt8}, Op.bytesLess a a = false
 | [] => rfl
 | x :: a => by simp [Op.bytesLess, bl_irrefl (a := a)]
theorem bl_trans : ∀ {a b c : List UInt8}, Op.bytesLess a b = true → Op.bytesLess b c = true → Op.bytesLess a c = true
 | _, _, [], _, h => by cases ‹List UInt8› <;> simp [Op.bytesLess] at h
 | _, [], _ :: _, h, _ => by simp [Op.bytesLess] at h
 | [], _ :: _, _ :: _, _, _ => rfl
 | x :: a, y :: b, z :: c, h1, h2 => by
  simp only [Op.bytesLess, Bool.or_eq_true, Bool.and_eq_true, decide_eq_true_iff, beq_iff_eq] at h1 h2 ⊢
  rcases h1 with h1 | ⟨rfl, h1⟩
  ·rcases h2 with h2 | ⟨rfl, h2⟩
   ·exact .inl (UInt8.lt_trans h1 h2)
   ·exact .inl h1
  ·rcases h2 with h2 | ⟨rfl, h2⟩
   ·exact .inl h2
   ·exact .inr ⟨rfl, bl_trans h1 h2⟩
theorem bl_tri : ∀ (a b : List UInt8), Op.bytesLess a b = true ∨ a = b ∨ Op.bytesLess b a = true
 | [], [] => .inr (.inl rfl)
 | [], _ :: _ => .inl rfl
 | _ :: _, [] => .inr (.inr rfl)
 | x :: a, y :: b => by
  simp only [Op.bytesLess, Bool.or_eq_true, Bool.and_eq_true, decide_eq_true_iff, beq_iff_eq, List.cons.injEq]
  rcases Nat.lt_trichotomy x.toNat y.toNat with h | h | h
  ·exact .inl (.inl (UInt8.lt_iff_toNat_lt.2 h))
  ·have : x = y := UInt8.toNat_inj.1 h
   subst this
   rcases bl_tri a b with h | h | h
   ·exact .inl (.inr ⟨rfl, h⟩)
   ·exact .inr (.inl ⟨rfl, h⟩)
   ·exact .inr (.inr (.inr ⟨rfl, h⟩))
  ·exact .inr (.inr (.inl (UInt8.lt_iff_toNat_lt.2 h)))
theorem bl_asymm {a b : List UInt8} (h : Op.bytesLess a b = true) : Op.bytesLess b a = false := by
 cases h2 : Op.bytesLess b a with
 | false => rfl
 | true => have := bl_trans h h2; rw [bl_irrefl] at this; cases this
def spl : List UInt8 → List (List UInt8)
 | [] => [[]]
 | c :: r => if c = 47 then [] :: spl r else match spl r with
  | x :: xs => (c :: x) :: xs
  | [] => [[c]]
theorem spl_ne : ∀ l : List UInt8, spl l ≠ []
 | [] => by simp [spl]
 | c :: r => by
  unfold spl
  split
  ·simp
  ·split <;> simp
theorem spl_pos (l : List UInt8) : 0 < (spl l).length := List.length_pos_iff.2 (spl_ne l)
theorem spl_len : ∀ l : List UInt8, (spl l).length = l.count 47 + 1
 | [] => rfl
 | c :: r => by
  have h := spl_len r
  unfold spl
  rw [List.count_cons]
  split
  ·rename_i e; subst e; simp [h]
  ·rename_i e
   have : (c == 47) = false := by simpa using e
   rw [this]
   split
   ·rename_i x xs hx; rw [hx] at h; simpa using h
   ·rename_i hx; exact absurd hx (spl_ne r)
theorem spl_none : ∀ {l : List UInt8}, l.count 47 = 0 → spl l = [l]
 | [], _ => rfl
 | c :: r, h => by
  rw [List.count_cons] at h
  have hr := spl_none (l := r) (by omega)
  unfold spl
  rw [if_neg (fun e => by subst e; simp at h), hr]
theorem idx_stroke : ∀ {l : List UInt8}, 0 < l.count 47 → ∃ m : Nat, Lib.indexByte l 47 = m ∧ m < l.length ∧ spl l = l.take m :: spl (l.drop (m + 1)) ∧ (l.drop (m + 1)).count 47 + 1 = l.count 47
 | [], h => by simp at h
 | c :: r, h => by
  by_cases e : c = 47
  ·subst e
   exact ⟨0, by simp [Lib.indexByte], by simp, by simp [spl], by simp⟩
  ·rw [List.count_cons] at h
   have hc : (c == 47) = false := by simpa using e
   rw [hc] at h
   obtain ⟨m, h1, h2, h3, h4⟩ := idx_stroke (l := r) (by simpa using h)
   refine ⟨m + 1, ?_, by simp; omega, ?_, ?_⟩
   ·unfold Lib.indexByte
    rw [hc, h1]
    have : ((m : Int) == -1) = false := by simp
    simp [this]
   ·conv => lhs; unfold spl
    rw [if_neg e, h3]; simp
   ·rw [List.drop_succ_cons, h4, List.count_cons, hc]; rfl
theorem idx_none : ∀ {l : List UInt8}, l.count 47 = 0 → Lib.indexByte l 47 = -1
 | [], _ => rfl
 | c :: r, h => by
  rw [List.count_cons] at h
  unfold Lib.indexByte
  rw [idx_none (l := r) (by omega)]
  have : (c == 47) = false := by
   cases hc : c == 47 with
   | false => rfl
   | true => rw [hc] at h; simp at h
  rw [this]; rfl
theorem spl_snoc_stroke : ∀ (l : List UInt8), spl (l ++ [47]) = spl l ++ [[]]
 | [] => rfl
 | c :: r => by
  have h := spl_snoc_stroke r
  rw [List.cons_append]
  unfold spl
  split
  ·rw [h]; rfl
  ·rw [h]
   cases hr : spl r with
   | nil => exact absurd hr (spl_ne r)
   | cons x xs => rfl
theorem spl_snoc : ∀ (l : List UInt8) {c : UInt8}, c ≠ 47 → ∃ (xs : List (List UInt8)) (x : List UInt8), spl l = xs ++ [x] ∧ spl (l ++ [c]) = xs ++ [x ++ [c]]
 | [], c, h => ⟨[], [], rfl, by simp [spl, h]⟩
 | d :: r, c, h => by
  obtain ⟨xs, x, h1, h2⟩ := spl_snoc r h
  rw [List.cons_append]
  unfold spl
  split
  ·exact ⟨[] :: xs, x, by rw [h1]; rfl, by rw [h2]; rfl⟩
  ·rw [h1, h2]
   cases xs with
   | nil => exact ⟨[], d :: x, rfl, rfl⟩
   | cons y ys => exact ⟨(d :: y) :: ys, x, rfl, rfl⟩
theorem spl_append : ∀ (a b : List UInt8), spl (a ++ 47 :: b) = spl a ++ spl b
 | [], b => by simp [spl]
 | c :: a, b => by
  have h := spl_append a b
  have e : ∀ r, spl (c :: r) = if c = 47 then [] :: spl r else match spl r with | x :: xs => (c :: x) :: xs | [] => [[c]] := fun _ => rfl
  rw [List.cons_append, e, e, h]
  split
  ·rfl
  ·cases ha : spl a with
   | nil => exact absurd ha (spl_ne a)
   | cons x xs => rfl
def unsp : List (List UInt8) → List UInt8
 | [] => []
 | [x] => x
 | x :: y :: r => x ++ 47 :: unsp (y :: r)
theorem unsp_spl : ∀ l : List UInt8, unsp (spl l) = l
 | [] => rfl
 | c :: r => by
  have h := unsp_spl r
  unfold spl
  split
  ·rename_i e; subst e
   cases hr : spl r with
   | nil => exact absurd hr (spl_ne r)
   | cons x xs => rw [hr] at h; simp [unsp, h]
  ·cases hr : spl r with
   | nil => exact absurd hr (spl_ne r)
   | cons x xs =>
    rw [hr] at h
    cases xs with
    | nil => simp [unsp] at h ⊢; exact h
    | cons y ys => simp [unsp] at h ⊢; exact h
theorem spl_inj {a b : List UInt8} (h : spl a = spl b) : a = b := by rw [← unsp_spl a, h, unsp_spl]
def lessL : List (List UInt8) → List (List UInt8) → Bool
 | [], [] => false
 | [], _ :: _ => true
 | _ :: _, [] => false
 | x :: r, y :: q => if x = y then lessL r q else Op.bytesLess x y
def lessP (a b : List UInt8) : Bool := lessL (spl a) (spl b)
theorem lessL_irrefl : ∀ {x : List (List UInt8)}, lessL x x = false
 | [] => rfl
 | x :: r => by simp [lessL, lessL_irrefl (x := r)]
theorem lessL_trans : ∀ {a b c : List (List UInt8)}, lessL a b = true → lessL b c = true → lessL a c = true
 | [], [], _, h, _ => by simp [lessL] at h
 | [], _ :: _, [], _, h => by simp [lessL] at h
 | [], _ :: _, _ :: _, _, _ => rfl
 | _ :: _, [], _, h, _ => by simp [lessL] at h
 | _ :: _, _ :: _, [], _, h => by simp [lessL] at h
 | x :: a, y :: b, z :: c, h1, h2 => by
  unfold lessL at h1 h2 ⊢
  split at h1
  ·rename_i e; subst e
   split at h2
   ·rename_i e; subst e; rw [if_pos rfl]; exact lessL_trans h1 h2
   ·rename_i e; rw [if_neg e]; exact h2
  ·rename_i e
   split at h2
   ·rename_i e2; subst e2; rw [if_neg e]; exact h1
   ·have := bl_trans h1 h2
    rw [if_neg (fun e3 => by subst e3; rw [bl_irrefl] at this; cases this)]; exact this
theorem lessL_tri : ∀ (a b : List (List UInt8)), lessL a b = true ∨ a = b ∨ lessL b a = true
 | [], [] => .inr (.inl rfl)
 | [], _ :: _ => .inl rfl
 | _ :: _, [] => .inr (.inr rfl)
 | x :: a, y :: b => by
  by_cases e : x = y
  ·subst e
   rcases lessL_tri a b with h | h | h
   ·exact .inl (by simp [lessL, h])
   ·exact .inr (.inl (by rw [h]))
   ·exact .inr (.inr (by simp [lessL, h]))
  ·rcases bl_tri x y with h | h | h
   ·exact .inl (by simp [lessL, e, h])
   ·exact absurd h e
   ·exact .inr (.inr (by simp [lessL, Ne.symm e, h]))
theorem lessL_pre : ∀ (a : List (List UInt8)) {b : List (List UInt8)}, b ≠ [] → lessL a (a ++ b) = true
 | [], b, h => by cases b with | nil => exact absurd rfl h | cons _ _ => rfl
 | x :: a, b, h => by simp [lessL, lessL_pre a h]
theorem lessP_irrefl {a : List UInt8} : lessP a a = false := lessL_irrefl
theorem lessP_trans {a b c : List UInt8} (h1 : lessP a b = true) (h2 : lessP b c = true) : lessP a c = true := lessL_trans h1 h2
theorem lessP_asymm {a b : List UInt8} (h : lessP a b = true) : lessP b a = false := by
 cases h2 : lessP b a with
 | false => rfl
 | true => have := lessP_trans h h2; rw [lessP_irrefl] at this; cases this
theorem lessP_tri (a b : List UInt8) : lessP a b = true ∨ a = b ∨ lessP b a = true :=
 (lessL_tri (spl a) (spl b)).imp id (Or.imp spl_inj id)
def under (p d : List UInt8) : Option (List UInt8) := if (d ++ [47]).isPrefixOf p = true then some (p.drop (d.length + 1)) else none
theorem under_eq {p d r : List UInt8} (h : under p d = some r) : p = d ++ 47 :: r := by
 unfold under at h
 split at h
 ·rename_i h1
  cases h
  rw [List.isPrefixOf_iff_prefix] at h1
  obtain ⟨t, rfl⟩ := h1
  simp
 ·cases h
theorem under_of {d r : List UInt8} : under (d ++ 47 :: r) d = some r := by
 unfold under
 rw [if_pos (by rw [List.isPrefixOf_iff_prefix]; exact ⟨r, by simp⟩)]
 simp
end Go.Nest
