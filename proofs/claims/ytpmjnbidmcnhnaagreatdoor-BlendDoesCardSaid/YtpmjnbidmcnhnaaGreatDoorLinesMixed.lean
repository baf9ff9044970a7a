/- part -/
import Derived.Lib.Bytealg
import Derived.Test.YtpmjnbidmcnhnaaGreatDoorLcs
section
namespace Go.NB.L
def w64 (n : Int) : Int := (n + 9223372036854775808) % 18446744073709551616 - 9223372036854775808
def total (l : List (List UInt8)) : Int := l.foldl (fun s x => w64 (s + (x.length : Nat))) 0
def great (l : List (List UInt8)) : Bool := decide (60 < l.length) || decide (3000 < total (l.take 200))
def linesOf : List UInt8 → List (List UInt8)
 | [] => []
 | b :: r => if b = 10 then [b] :: linesOf r else
  match linesOf r with
  | [] => [[b]]
  | l :: ls => (b :: l) :: ls
def firstLen : List UInt8 → Nat
 | [] => 0
 | b :: r => if b = 10 then 1 else firstLen r + 1
theorem firstLen_le (l : List UInt8) : firstLen l ≤ l.length := by
 induction l with
 | nil => simp [firstLen]
 | cons b r ih => unfold firstLen; split <;> simp <;> omega
theorem firstLen_pos (l : List UInt8) (h : l ≠ []) : 0 < firstLen l := by
 cases l with
 | nil => exact absurd rfl h
 | cons b r => unfold firstLen; split <;> omega
theorem linesOf_cut (l : List UInt8) (h : l ≠ []) : linesOf l = l.take (firstLen l) :: linesOf (l.drop (firstLen l)) := by
 induction l with
 | nil => exact absurd rfl h
 | cons b r ih =>
  rw [linesOf, firstLen]
  by_cases hb : b = 10
  ·rw [if_pos hb, if_pos hb]; simp
  ·rw [if_neg hb, if_neg hb]
   by_cases hr : r = []
   ·subst hr; simp [linesOf, firstLen]
   ·rw [ih hr]; simp
theorem indexByte_first (l : List UInt8) : (Lib.indexByte l 10 = -1 → firstLen l = l.length) ∧ (Lib.indexByte l 10 ≠ -1 → Lib.indexByte l 10 + 1 = (firstLen l : Int)) := by
 induction l with
 | nil => simp [Lib.indexByte, firstLen]
 | cons b r ih =>
  unfold Lib.indexByte firstLen
  by_cases hb : b = 10
  ·subst hb; simp
  ·have hb' : (b == 10) = false := by simpa using hb
   rw [hb', if_neg hb]
   simp only [Bool.false_eq_true, if_false, List.length_cons]
   by_cases hr : Lib.indexByte r 10 = -1
   ·have := ih.1 hr
    simp [hr]; exact this
   ·have := ih.2 hr
    have hr' : (Lib.indexByte r 10 == -1) = false := by simpa using hr
    simp only [hr', Bool.false_eq_true, if_false]
    have hge := Lib.indexByte_ge r 10
    refine ⟨fun h => by omega, fun _ => by omega⟩
theorem indexByte_le (l : List UInt8) (c : UInt8) : Lib.indexByte l c < l.length ∨ l = [] ∧ Lib.indexByte l c = -1 := by
 induction l with
 | nil => exact .inr ⟨rfl, rfl⟩
 | cons b r ih =>
  left
  unfold Lib.indexByte
  split
  ·simp; try omega
  ·split
   ·simp; try omega
   ·rcases ih with h | ⟨h, e⟩
    ·simp; omega
    ·rw [e]; simp; try omega
theorem linesOf_length (l : List UInt8) : (linesOf l).length ≤ l.length := by
 induction l with
 | nil => simp [linesOf]
 | cons b r ih =>
  unfold linesOf
  split
  ·simp; omega
  ·split
   ·simp
   ·rename_i h; rw [h] at ih; simp at ih ⊢; omega
theorem firstLen_app (cur r : List UInt8) (h : (10 : UInt8) ∉ cur) : firstLen (cur ++ r) = cur.length + firstLen r := by
 induction cur with
 | nil => simp
 | cons b c ih =>
  simp at h
  rw [List.cons_append, firstLen, if_neg (fun e => h.1 e.symm), ih h.2]
  simp; omega
theorem linesOf_at (cur r : List UInt8) (h : (10 : UInt8) ∉ cur) : linesOf (cur ++ (10 : UInt8) :: r) = (cur ++ [10]) :: linesOf r := by
 rw [linesOf_cut _ (by simp), firstLen_app _ _ h]
 have e : firstLen ((10 : UInt8) :: r) = 1 := by simp [firstLen]
 rw [e, show cur ++ (10 : UInt8) :: r = (cur ++ [10]) ++ r by simp, List.take_left' (by simp), List.drop_left' (by simp)]
theorem linesOf_last (cur : List UInt8) (x : UInt8) (h : (10 : UInt8) ∉ cur) : linesOf (cur ++ [x]) = [cur ++ [x]] := by
 have e : firstLen [x] = 1 := by unfold firstLen; split <;> simp [firstLen]
 rw [linesOf_cut _ (by simp), firstLen_app _ _ h, e, List.take_of_length_le (by simp), List.drop_of_length_le (by simp)]
 rfl
section
variable {α : Type}
def findI (p : α → Bool) : List α → Int
 | [] => -1
 | x :: xs => bif p x then 0 else bif findI p xs == -1 then -1 else findI p xs + 1
theorem findI_none {p : α → Bool} {xs : List α} (h : ∀ x ∈ xs, p x = false) : findI p xs = -1 := by
 induction xs with
 | nil => rfl
 | cons x xs ih =>
  rw [findI, h x (by simp), ih (fun y hy => h y (by simp [hy]))]
  rfl
theorem findI_some {p : α → Bool} {xs : List α} {i : Nat} (hi : i < xs.length) (h : p xs[i] = true) (hb : ∀ j (h : j < i), p xs[j] = false) : findI p xs = i := by
 induction xs generalizing i with
 | nil => simp at hi
 | cons x xs ih =>
  cases i with
  | zero =>
   rw [findI]
   simp at h
   rw [h]; rfl
  | succ i =>
   have h0 := hb 0 (by omega)
   simp at h0 hi h
   rw [findI, h0, ih hi h (fun j hj => by have := hb (j + 1) (by omega); simpa using this)]
   have e : ((i : Int) == -1) = false := by simp <;> omega
   simp [e]
theorem findI_cases (p : α → Bool) (xs : List α) : findI p xs = -1 ∧ (∀ x ∈ xs, p x = false) ∨ ∃ i : Nat, ∃ h : i < xs.length, findI p xs = i ∧ p xs[i] = true ∧ ∀ j (h : j < i), p xs[j] = false := by
 induction xs with
 | nil => exact .inl ⟨rfl, by simp⟩
 | cons x xs ih =>
  by_cases hx : p x = true
  ·exact .inr ⟨0, by simp, by rw [findI, hx]; rfl, by simpa using hx, fun j h => by omega⟩
  ·rw [Bool.not_eq_true] at hx
   rcases ih with ⟨h1, h2⟩ | ⟨i, hi, h1, h2, h3⟩
   ·refine .inl ⟨by rw [findI, hx, h1]; rfl, fun y hy => ?_⟩
    rcases List.mem_cons.1 hy with rfl | hy
    ·exact hx
    ·exact h2 y hy
   ·refine .inr ⟨i + 1, by simpa using hi, ?_, by simpa using h2, fun j h => ?_⟩
    ·have e : ((i : Int) == -1) = false := by simp <;> omega
     rw [findI, hx, h1]
     simp [e]
    ·cases j with
     | zero => simpa using hx
     | succ j => simpa using h3 j (by omega)
def eqBy (p : α → α → Bool) : List α → List α → Bool
 | [], [] => true
 | x :: xs, y :: ys => p x y && eqBy p xs ys
 | _, _ => false
theorem eqBy_len {p : α → α → Bool} {a b : List α} (h : a.length ≠ b.length) : eqBy p a b = false := by
 induction a generalizing b with
 | nil => cases b with
  | nil => simp at h
  | cons => rfl
 | cons x a ih => cases b with
  | nil => rfl
  | cons y b => rw [eqBy, ih (by simpa using h), Bool.and_false]
theorem eqBy_no {p : α → α → Bool} {a b : List α} {i : Nat} (h1 : i < a.length) (h2 : i < b.length) (h : p a[i] b[i] = false) : eqBy p a b = false := by
 induction a generalizing b i with
 | nil => simp at h1
 | cons x a ih => cases b with
  | nil => rfl
  | cons y b =>
   cases i with
   | zero => simp at h; rw [eqBy, h, Bool.false_and]
   | succ i => rw [eqBy, ih (i := i) (by simpa using h1) (by simpa using h2) (by simpa using h), Bool.and_false]
theorem eqBy_yes {p : α → α → Bool} {a b : List α} (hl : a.length = b.length) (h : ∀ i (h1 : i < a.length) (h2 : i < b.length), p a[i] b[i] = true) : eqBy p a b = true := by
 induction a generalizing b with
 | nil => cases b with
  | nil => rfl
  | cons => simp at hl
 | cons x a ih => cases b with
  | nil => simp at hl
  | cons y b =>
   have h0 := h 0 (by simp) (by simp)
   simp at h0
   rw [eqBy, h0, ih (by simpa using hl) (fun i h1 h2 => by have := h (i + 1) (by simpa using h1) (by simpa using h2); simpa using this)]
   rfl
theorem eqBy_dec [DecidableEq α] (a b : List α) : eqBy (fun x y => decide (x = y)) a b = decide (a = b) := by
 by_cases h : a = b
 ·subst h
  rw [eqBy_yes rfl (fun i _ _ => by simp)]
  simp
 ·rw [decide_eq_false h]
  by_cases hl : a.length = b.length
  ·rcases Bool.eq_false_or_eq_true (eqBy (fun x y => decide (x = y)) a b) with e | e
   ·exfalso
    apply h
    refine List.ext_getElem hl fun i h1 h2 => ?_
    rcases Classical.em (a[i] = b[i]) with h3 | h3
    ·exact h3
    ·rw [eqBy_no (i := i) h1 h2 (by simpa using h3)] at e
     cases e
   ·exact e
  ·exact eqBy_len hl
def at_ (ps : List (Nat × Nat)) (k : Nat) : Int := match ps.find? (fun p => p.1 == k) with | some p => p.2 | none => -1
theorem at_none {ps : List (Nat × Nat)} {k : Nat} (h : findI (fun p => decide ((p.1 : Int) = k)) ps < 0) : at_ ps k = -1 := by
 rcases findI_cases (fun p : Nat × Nat => decide ((p.1 : Int) = k)) ps with ⟨_, h2⟩ | ⟨i, hi, h1, _⟩
 ·unfold at_
  have : ps.find? (fun p => p.1 == k) = none := List.find?_eq_none.2 fun p hp => by
   have := h2 p hp
   simp at this ⊢
   omega
  rw [this]
 ·omega
theorem at_some {ps : List (Nat × Nat)} {k i : Nat} (hi : i < ps.length) (h : findI (fun p => decide ((p.1 : Int) = k)) ps = i) : at_ ps k = ps[i].2 := by
 rcases findI_cases (fun p : Nat × Nat => decide ((p.1 : Int) = k)) ps with ⟨h1, h2⟩ | ⟨j, hj, h1, h2, h3⟩
 ·omega
 ·obtain rfl : i = j := by omega
  unfold at_
  have : ps.find? (fun p => p.1 == k) = some ps[i] := by
   rw [List.find?_eq_some_iff_getElem]
   refine ⟨by simp at h2 ⊢; omega, i, hi, rfl, fun j hj' => ?_⟩
   have := h3 j hj'
   simp at this ⊢
   omega
  rw [this]
end
end Go.NB.L
end
/- part -/
section
namespace Go.NB.L
theorem at_mem {ps : List (Nat × Nat)} {k p : Nat} (h : at_ ps k = p) : (k, p) ∈ ps := by
 unfold at_ at h
 split at h
 ·rename_i u hu
  have h1 := List.find?_some hu
  have h2 := List.mem_of_find?_eq_some hu
  simp at h1
  have h3 : u.2 = p := by omega
  obtain ⟨u1, u2⟩ := u
  simp at h1 h3
  subst h1 h3
  exact h2
 ·omega
def Rise (ps : List (Nat × Nat)) : Prop := ps.Pairwise fun p q => p.1 < q.1 ∧ p.2 < q.2
theorem Rise.lt {ps : List (Nat × Nat)} (h : Rise ps) {u v : Nat × Nat} (hu : u ∈ ps) (hv : v ∈ ps) (hl : u.1 < v.1) : u.2 < v.2 := by
 induction ps with
 | nil => cases hu
 | cons w ps ih =>
  obtain ⟨h1, h2⟩ := List.pairwise_cons.1 h
  rcases List.mem_cons.1 hu with e1 | hu' <;> rcases List.mem_cons.1 hv with e2 | hv'
  ·rw [e1, e2] at hl; omega
  ·rw [e1]; exact (h1 v hv').2
  ·have := (h1 u hu').1; rw [e2] at hl; omega
  ·exact ih h2 hu' hv'
theorem at_of_mem {ps : List (Nat × Nat)} (h : Rise ps) {u : Nat × Nat} (hu : u ∈ ps) : at_ ps u.1 = u.2 := by
 induction ps with
 | nil => cases hu
 | cons w ps ih =>
  obtain ⟨h1, h2⟩ := List.pairwise_cons.1 h
  unfold at_
  rcases List.mem_cons.1 hu with rfl | hu
  ·simp
  ·have hne : (w.1 == u.1) = false := by have := (h1 u hu).1; simp; omega
   rw [List.find?_cons, hne]
   exact ih h2 hu
abbrev Ls := List (List UInt8)
def mix (old one two : Ls) : Option Ls := if old = one ∨ one = two then some two else if old = two then some one else none
def cut (l : Ls) (i n : Nat) : Ls := (l.take n).drop i
def heldFrom (x y : List (Nat × Nat)) (len n : Nat) : List (Nat × Nat × Nat) :=
 (List.range' n (len - n)).filterMap fun n => if 0 ≤ at_ x n ∧ 0 ≤ at_ y n then some (n, (at_ x n).toNat, (at_ y n).toNat) else none
def go (base a b : Ls) : List (Nat × Nat × Nat) → Nat → Nat → Nat → Option Ls
 | [], i, j, k => mix (cut base i base.length) (cut a j a.length) (cut b k b.length)
 | (n, p, q) :: hs, i, j, k =>
  match mix (cut base i n) (cut a j p) (cut b k q) with
  | none => none
  | some seg => (go base a b hs (n + 1) (p + 1) (q + 1)).map fun r => seg ++ base[n]?.toList ++ r
def merge (base a b : Ls) : Option Ls := go base a b (heldFrom (pairs base a 0 0) (pairs base b 0 0) base.length 0) 0 0 0
def rest (base a b : Ls) (n i j k : Nat) : Option Ls :=
 if n ≤ base.length then go base a b (heldFrom (pairs base a 0 0) (pairs base b 0 0) base.length n) i j k else some []
theorem rest_zero (base a b : Ls) : rest base a b 0 0 0 0 = merge base a b := by unfold rest; rw [if_pos (by omega)]; rfl
theorem heldFrom_cons (x y : List (Nat × Nat)) (len n : Nat) (h : n < len) : heldFrom x y len n =
  (if 0 ≤ at_ x n ∧ 0 ≤ at_ y n then (n, (at_ x n).toNat, (at_ y n).toNat) :: heldFrom x y len (n + 1) else heldFrom x y len (n + 1)) := by
 unfold heldFrom
 rw [show len - n = (len - (n + 1)) + 1 by omega, List.range'_succ, List.filterMap_cons]
 by_cases hc : 0 ≤ at_ x n ∧ 0 ≤ at_ y n
 ·rw [if_pos hc, if_pos hc]
 ·rw [if_neg hc, if_neg hc]
theorem rest_skip {base a b : Ls} {n i j k : Nat} (h : n < base.length) (hc : at_ (pairs base a 0 0) n < 0 ∨ at_ (pairs base b 0 0) n < 0) : rest base a b n i j k = rest base a b (n + 1) i j k := by
 unfold rest
 rw [if_pos (by omega), if_pos (by omega), heldFrom_cons _ _ _ _ h, if_neg (by omega)]
theorem rest_held {base a b : Ls} {n i j k p q : Nat} (h : n < base.length) (hp : at_ (pairs base a 0 0) n = p) (hq : at_ (pairs base b 0 0) n = q) :
  rest base a b n i j k = match mix (cut base i n) (cut a j p) (cut b k q) with
   | none => none
   | some seg => (rest base a b (n + 1) (n + 1) (p + 1) (q + 1)).map fun r => seg ++ base[n]?.toList ++ r := by
 unfold rest
 rw [if_pos (by omega), if_pos (by omega), heldFrom_cons _ _ _ _ h, if_pos ⟨by omega, by omega⟩, go, hp, hq]
 simp only [Int.toNat_natCast]
theorem rest_end {base a b : Ls} {i j k : Nat} : rest base a b base.length i j k = mix (cut base i base.length) (cut a j a.length) (cut b k b.length) := by
 unfold rest heldFrom
 rw [if_pos (by omega), Nat.sub_self]
 rfl
theorem rest_past {base a b : Ls} {i j k : Nat} : rest base a b (base.length + 1) i j k = some [] := by
 unfold rest
 rw [if_neg (by omega)]
theorem cut_length (l : Ls) (i n : Nat) (h : n ≤ l.length) : (cut l i n).length = n - i := by
 unfold cut
 rw [List.length_drop, List.length_take]
 omega
theorem mix_two {old one two : Ls} (h : old = one ∨ one = two) : mix old one two = some two := if_pos h
theorem mix_one {old one two : Ls} (h : ¬(old = one ∨ one = two)) (h2 : old = two) : mix old one two = some one := by unfold mix; rw [if_neg h, if_pos h2]
theorem mix_none {old one two : Ls} (h : ¬(old = one ∨ one = two)) (h2 : ¬ old = two) : mix old one two = none := by unfold mix; rw [if_neg h, if_neg h2]
theorem step_held {base a b out : Ls} {n i j k p q : Nat} {seg : Ls} (hgo : merge base a b = (rest base a b n i j k).map fun r => out ++ r) (h : n < base.length) (hp : at_ (pairs base a 0 0) n = p) (hq : at_ (pairs base b 0 0) n = q)
  (hm : mix (cut base i n) (cut a j p) (cut b k q) = some seg) : merge base a b = (rest base a b (n + 1) (n + 1) (p + 1) (q + 1)).map fun r => ((out ++ seg) ++ [base[n]]) ++ r := by
 rw [hgo, rest_held h hp hq, hm]
 simp only [Option.map_map]
 congr 1
 funext r
 simp [h]
theorem step_end {base a b out : Ls} {i j k i' j' k' : Nat} {seg : Ls} (hgo : merge base a b = (rest base a b base.length i j k).map fun r => out ++ r)
  (hm : mix (cut base i base.length) (cut a j a.length) (cut b k b.length) = some seg) : merge base a b = (rest base a b (base.length + 1) i' j' k').map fun r => (out ++ seg) ++ r := by
 rw [hgo, rest_end, hm, rest_past]
 simp
theorem fail_held {base a b out : Ls} {n i j k p q : Nat} (hgo : merge base a b = (rest base a b n i j k).map fun r => out ++ r) (h : n < base.length) (hp : at_ (pairs base a 0 0) n = p) (hq : at_ (pairs base b 0 0) n = q)
  (hm : mix (cut base i n) (cut a j p) (cut b k q) = none) : merge base a b = none := by
 rw [hgo, rest_held h hp hq, hm]
 rfl
theorem fail_end {base a b out : Ls} {i j k : Nat} (hgo : merge base a b = (rest base a b base.length i j k).map fun r => out ++ r)
  (hm : mix (cut base i base.length) (cut a j a.length) (cut b k b.length) = none) : merge base a b = none := by
 rw [hgo, rest_end, hm]
 rfl
end Go.NB.L
end
/- part -/
section
namespace Go.NB.L
abbrev Tr := Nat × Nat × Nat
def row (u : Nat × Nat) (y : List (Nat × Nat)) : List Tr := y.filterMap fun v => if u.1 = v.1 then some (u.1, u.2, v.2) else none
def mids (x y : List (Nat × Nat)) : List Tr := x.flatMap fun u => row u y
theorem row_take (u : Nat × Nat) (y : List (Nat × Nat)) (k : Nat) (h : k < y.length) : row u (y.take (k + 1)) = row u (y.take k) ++ (if u.1 = y[k].1 then [(u.1, u.2, y[k].2)] else []) := by
 unfold row
 rw [List.take_succ_eq_append_getElem h, List.filterMap_append]
 congr 1
 by_cases e : u.1 = y[k].1
 ·rw [if_pos e]; simp [e]
 ·rw [if_neg e]; simp [e]
theorem row_le (u : Nat × Nat) (y : List (Nat × Nat)) : (row u y).length ≤ y.length := List.length_filterMap_le _ _
theorem mids_take (x y : List (Nat × Nat)) (i : Nat) (h : i < x.length) : mids (x.take (i + 1)) y = mids (x.take i) y ++ row x[i] y := by
 unfold mids
 rw [List.take_succ_eq_append_getElem h, List.flatMap_append]
 simp
theorem sorted_ext {α : Type} (f : α → Nat) : ∀ l m : List α, l.Pairwise (fun a b => f a < f b) → m.Pairwise (fun a b => f a < f b) → (∀ a, a ∈ l ↔ a ∈ m) → l = m
 | [], [], _, _, _ => rfl
 | [], b :: m, _, _, h => by have := (h b).2 (by simp); simp at this
 | a :: l, [], _, _, h => by have := (h a).1 (by simp); simp at this
 | a :: l, b :: m, hl, hm, h => by
  obtain ⟨h1, h2⟩ := List.pairwise_cons.1 hl
  obtain ⟨h3, h4⟩ := List.pairwise_cons.1 hm
  have e : a = b := by
   rcases List.mem_cons.1 ((h a).1 (by simp)) with e | e
   ·exact e
   ·rcases List.mem_cons.1 ((h b).2 (by simp)) with e' | e'
    ·exact e'.symm
    ·have := h3 a e; have := h1 b e'; omega
  subst e
  rw [sorted_ext f l m h2 h4 fun c => ⟨fun hc => ?_, fun hc => ?_⟩]
  ·rcases List.mem_cons.1 ((h c).1 (List.mem_cons_of_mem _ hc)) with e | e
   ·subst e; have := h1 c hc; omega
   ·exact e
  ·rcases List.mem_cons.1 ((h c).2 (List.mem_cons_of_mem _ hc)) with e | e
   ·subst e; have := h3 c hc; omega
   ·exact e
theorem mem_row {u : Nat × Nat} {y : List (Nat × Nat)} {t : Tr} : t ∈ row u y ↔ ∃ v ∈ y, u.1 = v.1 ∧ t = (u.1, u.2, v.2) := by
 unfold row
 rw [List.mem_filterMap]
 constructor
 ·rintro ⟨v, hv, h⟩
  by_cases e : u.1 = v.1
  ·rw [if_pos e] at h; exact ⟨v, hv, e, (Option.some.inj h).symm⟩
  ·rw [if_neg e] at h; cases h
 ·rintro ⟨v, hv, e, rfl⟩
  exact ⟨v, hv, by rw [if_pos e]⟩
theorem mem_mids {x y : List (Nat × Nat)} {t : Tr} : t ∈ mids x y ↔ (t.1, t.2.1) ∈ x ∧ (t.1, t.2.2) ∈ y := by
 unfold mids
 rw [List.mem_flatMap]
 constructor
 ·rintro ⟨u, hu, h⟩
  obtain ⟨v, hv, e, rfl⟩ := mem_row.1 h
  obtain ⟨u1, u2⟩ := u
  obtain ⟨v1, v2⟩ := v
  simp at e
  subst e
  exact ⟨hu, hv⟩
 ·rintro ⟨h1, h2⟩
  exact ⟨_, h1, mem_row.2 ⟨_, h2, rfl, rfl⟩⟩
theorem mids_sorted {x y : List (Nat × Nat)} (hx : Rise x) (hy : Rise y) : (mids x y).Pairwise fun a b => a.1 < b.1 := by
 induction x with
 | nil => exact .nil
 | cons u x ih =>
  obtain ⟨h1, h2⟩ := List.pairwise_cons.1 hx
  show (row u y ++ mids x y).Pairwise _
  refine List.pairwise_append.2 ⟨?_, ih h2, fun a ha b hb => ?_⟩
  ·clear ih h1 h2 hx
   induction y with
   | nil => exact .nil
   | cons v y ihy =>
    obtain ⟨h3, h4⟩ := List.pairwise_cons.1 hy
    unfold row
    rw [List.filterMap_cons]
    by_cases e : u.1 = v.1
    ·rw [if_pos e]
     refine List.pairwise_cons.2 ⟨fun t ht => ?_, ihy h4⟩
     obtain ⟨w, hw, e2, rfl⟩ := mem_row.1 ht
     have := (h3 w hw).1
     omega
    ·rw [if_neg e]; exact ihy h4
  ·obtain ⟨v, hv, e, rfl⟩ := mem_row.1 ha
   have := (h1 _ (mem_mids.1 hb).1).1
   exact this
theorem mem_held {x y : List (Nat × Nat)} {len n : Nat} {t : Tr} (hx : Rise x) (hy : Rise y) (hl : ∀ u ∈ x, u.1 < len) : t ∈ heldFrom x y len n ↔ n ≤ t.1 ∧ (t.1, t.2.1) ∈ x ∧ (t.1, t.2.2) ∈ y := by
 unfold heldFrom
 rw [List.mem_filterMap]
 constructor
 ·rintro ⟨m, hm, h⟩
  by_cases e : 0 ≤ at_ x m ∧ 0 ≤ at_ y m
  ·rw [if_pos e] at h
   obtain rfl := Option.some.inj h
   refine ⟨(List.mem_range'_1.1 hm).1, at_mem (Int.toNat_of_nonneg e.1).symm, at_mem (Int.toNat_of_nonneg e.2).symm⟩
  ·rw [if_neg e] at h; cases h
 ·rintro ⟨h0, h1, h2⟩
  have e1 := at_of_mem hx h1
  have e2 := at_of_mem hy h2
  have := hl _ h1
  refine ⟨t.1, List.mem_range'_1.2 ⟨h0, by simp only [] at this; omega⟩, ?_⟩
  simp only [] at e1 e2
  rw [e1, e2, if_pos ⟨by omega, by omega⟩]
  rfl
theorem held_sorted (x y : List (Nat × Nat)) (len : Nat) : ∀ d n, len - n = d → (heldFrom x y len n).Pairwise (fun a b => a.1 < b.1) ∧ ∀ t ∈ heldFrom x y len n, n ≤ t.1 := by
 intro d
 induction d with
 | zero => intro n h; unfold heldFrom; rw [h]; exact ⟨.nil, fun t ht => by cases ht⟩
 | succ d ih =>
  intro n h
  obtain ⟨h1, h2⟩ := ih (n + 1) (by omega)
  rw [heldFrom_cons _ _ _ _ (by omega)]
  split
  ·refine ⟨List.pairwise_cons.2 ⟨fun t ht => h2 t ht, h1⟩, fun t ht => ?_⟩
   rcases List.mem_cons.1 ht with rfl | ht
   ·exact Nat.le_refl _
   ·have := h2 t ht; omega
  ·exact ⟨h1, fun t ht => by have := h2 t ht; omega⟩
theorem mids_held {x y : List (Nat × Nat)} {len : Nat} (hx : Rise x) (hy : Rise y) (hl : ∀ u ∈ x, u.1 < len) : mids x y = heldFrom x y len 0 :=
 sorted_ext (fun t : Tr => t.1) _ _ (mids_sorted hx hy) (held_sorted x y len _ 0 rfl).1 fun t => by
  rw [mem_mids, mem_held hx hy hl]
  exact ⟨fun h => ⟨Nat.zero_le _, h⟩, fun h => h.2⟩
def Chain (base a b : Ls) : List Tr → Nat → Nat → Nat → Prop
 | [], i, j, k => i ≤ base.length ∧ j ≤ a.length ∧ k ≤ b.length
 | (n, p, q) :: t, i, j, k => i ≤ n ∧ n < base.length ∧ j ≤ p ∧ p < a.length ∧ k ≤ q ∧ q < b.length ∧ Chain base a b t (n + 1) (p + 1) (q + 1)
theorem chain_held {base a b : Ls} : ∀ d n i j k, base.length - n = d → n ≤ base.length → i ≤ n → j ≤ a.length → k ≤ b.length → (∀ u ∈ pairs base a 0 0, n ≤ u.1 → j ≤ u.2) → (∀ u ∈ pairs base b 0 0, n ≤ u.1 → k ≤ u.2) →
  Chain base a b (heldFrom (pairs base a 0 0) (pairs base b 0 0) base.length n) i j k := by
 intro d
 induction d with
 | zero => intro n i j k h hn hi hj hk _ _; unfold heldFrom; rw [h]; exact ⟨by omega, hj, hk⟩
 | succ d ih =>
  intro n i j k h hn hi hj hk hx hy
  rw [heldFrom_cons _ _ _ _ (by omega)]
  split
  ·rename_i hc
   have h1 := at_mem (Int.toNat_of_nonneg hc.1).symm
   have h2 := at_mem (Int.toNat_of_nonneg hc.2).symm
   have b1 := pairs_mem base a 0 0 _ h1
   have b2 := pairs_mem base b 0 0 _ h2
   simp only [] at b1 b2
   refine ⟨hi, by omega, hx _ h1 (Nat.le_refl _), by omega, hy _ h2 (Nat.le_refl _), by omega, ih (n + 1) _ _ _ (by omega) (by omega) (Nat.le_refl _) (by omega) (by omega) (fun u hu hn => ?_) (fun u hu hn => ?_)⟩
   ·exact Rise.lt (pairs_rise base a 0 0) h1 hu (by simp only []; omega)
   ·exact Rise.lt (pairs_rise base b 0 0) h2 hu (by simp only []; omega)
  ·exact ih (n + 1) i j k (by omega) (by omega) (by omega) hj hk (fun u hu hn => hx u hu (by omega)) (fun u hu hn => hy u hu (by omega))
def MX (base a b : Ls) : List Tr := mids (pairs base a 0 0) (pairs base b 0 0)
theorem mx_eq (base a b : Ls) : MX base a b = heldFrom (pairs base a 0 0) (pairs base b 0 0) base.length 0 :=
 mids_held (pairs_rise base a 0 0) (pairs_rise base b 0 0) fun u hu => by have := pairs_mem base a 0 0 u hu; omega
theorem mx_chain (base a b : Ls) : Chain base a b (MX base a b) 0 0 0 := by
 rw [mx_eq]; exact chain_held _ 0 0 0 0 rfl (by omega) (by omega) (by omega) (by omega) (fun _ _ _ => by omega) (fun _ _ _ => by omega)
theorem mx_merge (base a b : Ls) : merge base a b = go base a b (MX base a b) 0 0 0 := by rw [mx_eq]; rfl
def tr (t : Tr) : Int × Int × Int := (t.1, t.2.1, t.2.2)
end Go.NB.L
end
