/- LINES: what two made of a base, in one: plain lists. -/
import Derived.Test.YtkkjjbejkcgmfaaLinesSpec
import Derived.Test.YtkkjjbejkcgmfaaLcs
namespace Go.NB.L

theorem at_mem {ps : List (Nat × Nat)} {k p : Nat} (h : at_ ps k = p) : (k, p) ∈ ps := by
  unfold at_ at h
  split at h
  · rename_i u hu
    have h1 := List.find?_some hu
    have h2 := List.mem_of_find?_eq_some hu
    simp at h1
    have h3 : u.2 = p := by omega
    obtain ⟨u1, u2⟩ := u
    simp at h1 h3
    subst h1 h3
    exact h2
  · omega

def Rise (ps : List (Nat × Nat)) : Prop := ps.Pairwise fun p q => p.1 < q.1 ∧ p.2 < q.2

theorem Rise.lt {ps : List (Nat × Nat)} (h : Rise ps) {u v : Nat × Nat} (hu : u ∈ ps) (hv : v ∈ ps) (hl : u.1 < v.1) : u.2 < v.2 := by
  induction ps with
  | nil => cases hu
  | cons w ps ih =>
    obtain ⟨h1, h2⟩ := List.pairwise_cons.1 h
    rcases List.mem_cons.1 hu with e1 | hu' <;> rcases List.mem_cons.1 hv with e2 | hv'
    · rw [e1, e2] at hl; omega
    · rw [e1]; exact (h1 v hv').2
    · have := (h1 u hu').1; rw [e2] at hl; omega
    · exact ih h2 hu' hv'

theorem at_of_mem {ps : List (Nat × Nat)} (h : Rise ps) {u : Nat × Nat} (hu : u ∈ ps) : at_ ps u.1 = u.2 := by
  induction ps with
  | nil => cases hu
  | cons w ps ih =>
    obtain ⟨h1, h2⟩ := List.pairwise_cons.1 h
    unfold at_
    rcases List.mem_cons.1 hu with rfl | hu
    · simp
    · have hne : (w.1 == u.1) = false := by have := (h1 u hu).1; simp; omega
      rw [List.find?_cons, hne]
      exact ih h2 hu

theorem at_range (ps : List (Nat × Nat)) (k : Nat) : at_ ps k = -1 ∨ ∃ p : Nat, at_ ps k = p := by
  unfold at_
  split
  · exact .inr ⟨_, rfl⟩
  · exact .inl rfl

abbrev Ls := List (List UInt8)

def mix (old one two : Ls) : Option Ls := if old = one ∨ one = two then some two else if old = two then some one else none

def cut (l : Ls) (i n : Nat) : Ls := (l.take n).drop i

/-- the held lines of the base from n on -/
def heldFrom (x y : List (Nat × Nat)) (len n : Nat) : List (Nat × Nat × Nat) :=
  (List.range' n (len - n)).filterMap fun n => if 0 ≤ at_ x n ∧ 0 ≤ at_ y n then some (n, (at_ x n).toNat, (at_ y n).toNat) else none

def go (base a b : Ls) : List (Nat × Nat × Nat) → Nat → Nat → Nat → Option Ls
  | [], i, j, k => mix (cut base i base.length) (cut a j a.length) (cut b k b.length)
  | (n, p, q) :: hs, i, j, k =>
    match mix (cut base i n) (cut a j p) (cut b k q) with
    | none => none
    | some seg => (go base a b hs (n + 1) (p + 1) (q + 1)).map fun r => seg ++ base[n]?.toList ++ r

def merge (base a b : Ls) : Option Ls := go base a b (heldFrom (pairs base a 0 0) (pairs base b 0 0) base.length 0) 0 0 0

/-- what is still to come, ahead of line n -/
def rest (base a b : Ls) (n i j k : Nat) : Option Ls :=
  if n ≤ base.length then go base a b (heldFrom (pairs base a 0 0) (pairs base b 0 0) base.length n) i j k else some []

theorem rest_zero (base a b : Ls) : rest base a b 0 0 0 0 = merge base a b := by unfold rest; rw [if_pos (by omega)]; rfl

theorem heldFrom_cons (x y : List (Nat × Nat)) (len n : Nat) (h : n < len) : heldFrom x y len n =
    (if 0 ≤ at_ x n ∧ 0 ≤ at_ y n then (n, (at_ x n).toNat, (at_ y n).toNat) :: heldFrom x y len (n + 1) else heldFrom x y len (n + 1)) := by
  unfold heldFrom
  rw [show len - n = (len - (n + 1)) + 1 by omega, List.range'_succ, List.filterMap_cons]
  by_cases hc : 0 ≤ at_ x n ∧ 0 ≤ at_ y n
  · rw [if_pos hc, if_pos hc]
  · rw [if_neg hc, if_neg hc]

theorem rest_skip {base a b : Ls} {n i j k : Nat} (h : n < base.length) (hc : at_ (pairs base a 0 0) n < 0 ∨ at_ (pairs base b 0 0) n < 0) : rest base a b n i j k = rest base a b (n + 1) i j k := by
  unfold rest
  rw [if_pos (by omega), if_pos (by omega), heldFrom_cons _ _ _ _ h, if_neg (by omega)]

theorem rest_held {base a b : Ls} {n i j k p q : Nat} (h : n < base.length) (hp : at_ (pairs base a 0 0) n = p) (hq : at_ (pairs base b 0 0) n = q) :
    rest base a b n i j k = match mix (cut base i n) (cut a j p) (cut b k q) with
      | none => none
      | some seg => (rest base a b (n + 1) (n + 1) (p + 1) (q + 1)).map fun r => seg ++ base[n]?.toList ++ r := by
  unfold rest
  rw [if_pos (by omega), if_pos (by omega), heldFrom_cons _ _ _ _ h, if_pos ⟨by omega, by omega⟩, go, hp, hq]
  simp only [Int.toNat_natCast]

theorem rest_end {base a b : Ls} {i j k : Nat} : rest base a b base.length i j k = mix (cut base i base.length) (cut a j a.length) (cut b k b.length) := by
  unfold rest heldFrom
  rw [if_pos (by omega), Nat.sub_self]
  rfl

theorem rest_past {base a b : Ls} {i j k : Nat} : rest base a b (base.length + 1) i j k = some [] := by
  unfold rest
  rw [if_neg (by omega)]

theorem cut_length (l : Ls) (i n : Nat) (h : n ≤ l.length) : (cut l i n).length = n - i := by
  unfold cut
  rw [List.length_drop, List.length_take]
  omega


theorem mix_two {old one two : Ls} (h : old = one ∨ one = two) : mix old one two = some two := if_pos h
theorem mix_one {old one two : Ls} (h : ¬(old = one ∨ one = two)) (h2 : old = two) : mix old one two = some one := by unfold mix; rw [if_neg h, if_pos h2]
theorem mix_none {old one two : Ls} (h : ¬(old = one ∨ one = two)) (h2 : ¬ old = two) : mix old one two = none := by unfold mix; rw [if_neg h, if_neg h2]

/-- the next held line, or the end: what is told of the whole -/
theorem step_held {base a b out : Ls} {n i j k p q : Nat} {seg : Ls} (hgo : merge base a b = (rest base a b n i j k).map fun r => out ++ r) (h : n < base.length) (hp : at_ (pairs base a 0 0) n = p) (hq : at_ (pairs base b 0 0) n = q)
    (hm : mix (cut base i n) (cut a j p) (cut b k q) = some seg) : merge base a b = (rest base a b (n + 1) (n + 1) (p + 1) (q + 1)).map fun r => ((out ++ seg) ++ [base[n]]) ++ r := by
  rw [hgo, rest_held h hp hq, hm]
  simp only [Option.map_map]
  congr 1
  funext r
  simp [h]
theorem step_end {base a b out : Ls} {i j k i' j' k' : Nat} {seg : Ls} (hgo : merge base a b = (rest base a b base.length i j k).map fun r => out ++ r)
    (hm : mix (cut base i base.length) (cut a j a.length) (cut b k b.length) = some seg) : merge base a b = (rest base a b (base.length + 1) i' j' k').map fun r => (out ++ seg) ++ r := by
  rw [hgo, rest_end, hm, rest_past]
  simp
theorem fail_held {base a b out : Ls} {n i j k p q : Nat} (hgo : merge base a b = (rest base a b n i j k).map fun r => out ++ r) (h : n < base.length) (hp : at_ (pairs base a 0 0) n = p) (hq : at_ (pairs base b 0 0) n = q)
    (hm : mix (cut base i n) (cut a j p) (cut b k q) = none) : merge base a b = none := by
  rw [hgo, rest_held h hp hq, hm]
  rfl
theorem fail_end {base a b out : Ls} {i j k : Nat} (hgo : merge base a b = (rest base a b base.length i j k).map fun r => out ++ r)
    (hm : mix (cut base i base.length) (cut a j a.length) (cut b k b.length) = none) : merge base a b = none := by
  rw [hgo, rest_end, hm]
  rfl

end Go.NB.L
