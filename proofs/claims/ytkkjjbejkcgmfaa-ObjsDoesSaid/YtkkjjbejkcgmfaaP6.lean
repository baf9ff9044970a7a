/- PLAIN LAWS, 6: reading that tells when the bytes end too early. -/
import Derived.Test.YtkkjjbejkcgmfaaP5
namespace Go.Nest
open Go Go.AM
set_option linter.unusedVariables false
set_option linter.unusedSimpArgs false

abbrev RS := List UInt8 × Bool
def someP (n : Int) (s : RS) : List UInt8 × RS := if s.2 = true ∨ (s.1.length : Int) < n then ([], (s.1, true)) else (s.1.take n.toNat, (s.1.drop n.toNat, false))
def leP : List UInt8 → Int
  | [] => 0
  | c :: r => (c.toNat : Int) + 256 * leP r
def numP (n : Int) (s : RS) : Int × RS := (leP (someP n s).1, (someP n s).2)
def txtP (s : RS) : List UInt8 × RS := someP (numP 3 s).1 (numP 3 s).2
def entP (s : RS) : Ent × RS := (⟨(txtP s).1, (numP 1 (txtP s).2).1, (numP 3 (numP 1 (numP 1 (txtP s).2).2).2).1, (numP 1 (numP 1 (txtP s).2).2).1⟩, (numP 3 (numP 1 (numP 1 (txtP s).2).2).2).2)

theorem leP_pos : ∀ {l : List UInt8}, 0 ≤ leP l
  | [] => by simp [leP]
  | c :: r => by have := leP_pos (l := r); simp only [leP]; omega
theorem leP_lt : ∀ {l : List UInt8}, l.length ≤ 3 → leP l < 16777216
  | [], _ => by simp [leP]
  | [a], _ => by have := a.toNat_lt; simp only [leP]; omega
  | [a, b], _ => by have := a.toNat_lt; have := b.toNat_lt; simp only [leP]; omega
  | [a, b, c], _ => by have := a.toNat_lt; have := b.toNat_lt; have := c.toNat_lt; simp only [leP]; omega
  | _ :: _ :: _ :: _ :: _, h => by simp at h
theorem someP_len {n : Int} {s : RS} : ((someP n s).1.length : Int) ≤ max n 0 := by
  unfold someP
  split
  · simp only [List.length_nil]; omega
  · simp only [List.length_take]; omega
theorem numP_pos {n : Int} {s : RS} : 0 ≤ (numP n s).1 := leP_pos
theorem numP_lt {n : Int} {s : RS} (h : n ≤ 3) : (numP n s).1 < 16777216 := leP_lt (by have := someP_len (n := n) (s := s); omega)

/-- p reads as q does -/
def Same {α : Type} (p : RS → α × RS) (q : List UInt8 → Option (α × List UInt8)) : Prop :=
  (∀ b x r, q b = some (x, r) → p (b, false) = (x, (r, false))) ∧ (∀ b, q b = none → (p (b, false)).2.2 = true) ∧ ∀ b, (p (b, true)).2.2 = true

theorem someP_same {n : Int} : Same (someP n) (tk n) := by
  refine ⟨fun b x r h => ?_, fun b h => ?_, fun b => ?_⟩
  · unfold tk at h
    split at h
    · cases h
      unfold someP
      rw [if_neg (by simp; omega)]
    · cases h
  · unfold tk at h
    split at h
    · cases h
    · unfold someP
      rw [if_pos (.inr (by show (b.length : Int) < n; omega))]
  · unfold someP; rw [if_pos (.inl rfl)]
theorem num1_same : Same (numP 1) rd1 := by
  refine ⟨fun b x r h => ?_, fun b h => ?_, fun b => (someP_same (n := 1)).2.2 b⟩
  · match b, h with
    | c :: q, h =>
      have e := (someP_same (n := 1)).1 (c :: q) [c] q (by simp [tk]; omega)
      cases h
      unfold numP
      rw [e]; simp [leP]
  · refine (someP_same (n := 1)).2.1 b ?_
    match b, h with
    | [], _ => rfl
theorem num3_same : Same (numP 3) rd3 := by
  refine ⟨fun b x r h => ?_, fun b h => ?_, fun b => (someP_same (n := 3)).2.2 b⟩
  · match b, h with
    | c :: d :: e :: q, h =>
      have e := (someP_same (n := 3)).1 (c :: d :: e :: q) [c, d, e] q (by simp [tk]; omega)
      cases h
      unfold numP
      rw [e]; simp only [leP, Prod.mk.injEq, and_true]; omega
  · refine (someP_same (n := 3)).2.1 b ?_
    match b, h with
    | [], _ => rfl
    | [_], _ => rfl
    | [_, _], _ => rfl
theorem txt_same : Same txtP rdT := by
  refine ⟨fun b x r h => ?_, fun b h => ?_, fun b => ?_⟩
  · unfold rdT at h
    split at h
    · rename_i n q h1
      unfold txtP
      rw [num3_same.1 _ _ _ h1]
      exact someP_same.1 _ _ _ h
    · cases h
  · unfold rdT at h
    unfold txtP
    split at h
    · rename_i n q h1
      rw [num3_same.1 _ _ _ h1]
      exact someP_same.2.1 _ h
    · rename_i h1
      have := num3_same.2.1 _ h1
      generalize numP 3 (b, false) = y at this
      obtain ⟨y1, y2, y3⟩ := y
      cases this
      exact someP_same.2.2 _
  · have := num3_same.2.2 b
    unfold txtP
    generalize numP 3 (b, true) = y at this
    obtain ⟨y1, y2, y3⟩ := y
    cases this
    exact someP_same.2.2 _
theorem Same.stick {α : Type} {p : RS → α × RS} {q : List UInt8 → Option (α × List UInt8)} (h : Same p q) {s : RS} (hs : s.2 = true) : (p s).2.2 = true := by
  obtain ⟨s1, s2⟩ := s
  cases hs
  exact h.2.2 _
theorem ent_same : Same entP rdE := by
  have stick : ∀ s : RS, (txtP s).2.2 = true → (entP s).2.2 = true := fun s h => num3_same.stick (num1_same.stick (num1_same.stick h))
  refine ⟨fun b x r h => ?_, fun b h => ?_, fun b => stick _ (txt_same.2.2 b)⟩
  · unfold rdE at h
    split at h
    · rename_i nm r1 h1
      split at h
      · rename_i md r2 h2
        split at h
        · rename_i rp r3 h3
          split at h
          · rename_i id r4 h4
            cases h
            unfold entP
            rw [txt_same.1 _ _ _ h1]
            dsimp only
            rw [num1_same.1 _ _ _ h2]
            dsimp only
            rw [num1_same.1 _ _ _ h3]
            dsimp only
            rw [num3_same.1 _ _ _ h4]
          · cases h
        · cases h
      · cases h
    · cases h
  · unfold rdE at h
    split at h
    · rename_i nm r1 h1
      have e1 := txt_same.1 _ _ _ h1
      split at h
      · rename_i md r2 h2
        have e2 := num1_same.1 _ _ _ h2
        split at h
        · rename_i rp r3 h3
          have e3 := num1_same.1 _ _ _ h3
          split at h
          · cases h
          · rename_i h4
            have := num3_same.2.1 _ h4
            show (numP 3 (numP 1 (numP 1 (txtP (b, false)).2).2).2).2.2 = true
            rw [e1]; dsimp only; rw [e2]; dsimp only; rw [e3]; exact this
        · rename_i h3
          have := num1_same.2.1 _ h3
          show (numP 3 (numP 1 (numP 1 (txtP (b, false)).2).2).2).2.2 = true
          rw [e1]; dsimp only; rw [e2]; dsimp only
          exact num3_same.stick this
      · rename_i h2
        have := num1_same.2.1 _ h2
        show (numP 3 (numP 1 (numP 1 (txtP (b, false)).2).2).2).2.2 = true
        rw [e1]; dsimp only
        exact num3_same.stick (num1_same.stick this)
    · rename_i h1
      exact stick _ (txt_same.2.1 _ h1)

/-- what was read is what the bytes are, or they ended too early -/
def PJ (b : List UInt8) (o : Ob) (s : RS) : Prop := (s.2 = true ∧ decP b = none) ∨ (s.2 = false ∧ decP b = some (o, s.1))
/-- things are being read -/
def EI {α : Type} (q : List UInt8 → Option (α × List UInt8)) (F : List α × List UInt8 → Option (Ob × List UInt8)) (b : List UInt8) (n : Int) (i : Nat) (s : RS) (es : List α) : Prop :=
  (s.2 = true ∧ decP b = none) ∨ (s.2 = false ∧ decP b = match rdN q (n.toNat - i) s.1 with
    | some (xs, r) => F (es ++ xs, r)
    | none => none)
theorem EI.go {α : Type} {p : RS → α × RS} {q : List UInt8 → Option (α × List UInt8)} {F : List α × List UInt8 → Option (Ob × List UInt8)} {b : List UInt8} {n : Int} {i : Nat} {s : RS} {es : List α} (hs : Same p q) (h : EI q F b n i s es) (h0 : s.2 = false) (hi : (i : Int) < n) : EI q F b n (i + 1) (p s).2 (es ++ [(p s).1]) := by
  rcases h with ⟨h1, _⟩ | ⟨h1, h2⟩
  · rw [h0] at h1; cases h1
  obtain ⟨s1, s2⟩ := s
  cases h0
  rw [show n.toNat - i = (n.toNat - (i + 1)) + 1 by omega, rdN] at h2
  cases hq : q s1 with
  | none => rw [hq] at h2; exact .inl ⟨hs.2.1 _ hq, h2⟩
  | some y =>
    obtain ⟨x, r⟩ := y
    rw [hq] at h2
    rw [hs.1 _ _ _ hq]
    refine .inr ⟨rfl, ?_⟩
    rw [h2]
    dsimp only
    cases rdN q (n.toNat - (i + 1)) r with
    | none => rfl
    | some z => simp
theorem EI.fin {α : Type} {q : List UInt8 → Option (α × List UInt8)} {F : List α × List UInt8 → Option (Ob × List UInt8)} {b : List UInt8} {n : Int} {i : Nat} {s : RS} {es : List α} (h : EI q F b n i s es) (hi : n ≤ i ∨ s.2 = true) : (s.2 = true ∧ decP b = none) ∨ (s.2 = false ∧ decP b = F (es, s.1)) := by
  rcases h with h1 | ⟨h1, h2⟩
  · exact .inl h1
  · rcases hi with hi | hi
    · rw [show n.toNat - i = 0 by omega, rdN] at h2
      simp only [List.append_nil] at h2
      exact .inr ⟨h1, h2⟩
    · rw [h1] at hi; cases hi

def kindP (b : List UInt8) : Int := (numP 1 (b, false)).1
def restP (b : List UInt8) : RS := (numP 1 (b, false)).2
theorem kind_some {b : List UInt8} (h : kindP b ≠ 0) : ∃ r, rd1 b = some (kindP b, r) ∧ restP b = (r, false) := by
  cases hq : rd1 b with
  | none =>
    exfalso
    apply h
    match b, hq with
    | [], _ => rfl
  | some y =>
    obtain ⟨k, r⟩ := y
    have := num1_same.1 _ _ _ hq
    unfold kindP restP
    rw [this]
    exact ⟨r, rfl, rfl⟩
theorem pj1 {b : List UInt8} (h : kindP b = 1) : PJ b ⟨kindP b, (txtP (restP b)).1, [], 0, [], []⟩ (txtP (restP b)).2 := by
  obtain ⟨r, h1, h2⟩ := kind_some (b := b) (by omega)
  have hd : decP b = decP b := rfl
  conv at hd => rhs; unfold decP; rw [h1]
  dsimp only at hd
  rw [if_pos h] at hd
  rw [h2]
  cases hq : rdT r with
  | none => rw [hq] at hd; exact .inl ⟨txt_same.2.1 _ hq, hd⟩
  | some y =>
    obtain ⟨t, r1⟩ := y
    rw [hq] at hd
    rw [txt_same.1 _ _ _ hq]
    exact .inr ⟨rfl, hd⟩
def F2 (k : Int) (y : List Ent × List UInt8) : Option (Ob × List UInt8) := some (⟨k, [], y.1, 0, [], []⟩, y.2)
def F3 (k t : Int) (y : List Int × List UInt8) : Option (Ob × List UInt8) := match rdT y.2 with
  | some (tx, r) => some (⟨k, [], [], t, y.1, tx⟩, r)
  | none => none
theorem ei2 {b : List UInt8} (h : kindP b = 2) : EI rdE (F2 (kindP b)) b (numP 3 (restP b)).1 0 (numP 3 (restP b)).2 [] := by
  obtain ⟨r, h1, h2⟩ := kind_some (b := b) (by omega)
  have hd : decP b = decP b := rfl
  conv at hd => rhs; unfold decP; rw [h1]
  dsimp only at hd
  rw [if_neg (by omega), if_pos h] at hd
  rw [h2]
  cases hq : rd3 r with
  | none => rw [hq] at hd; exact .inl ⟨num3_same.2.1 _ hq, hd⟩
  | some y =>
    obtain ⟨t, r1⟩ := y
    rw [hq] at hd
    rw [num3_same.1 _ _ _ hq]
    refine .inr ⟨rfl, hd.trans ?_⟩
    dsimp only
    rw [Nat.sub_zero]
    cases rdN rdE t.toNat r1 <;> rfl
theorem ei3 {b : List UInt8} (h : kindP b = 3) : EI rd3 (F3 (kindP b) (numP 3 (restP b)).1) b (numP 3 (numP 3 (restP b)).2).1 0 (numP 3 (numP 3 (restP b)).2).2 [] := by
  obtain ⟨r, h1, h2⟩ := kind_some (b := b) (by omega)
  have hd : decP b = decP b := rfl
  conv at hd => rhs; unfold decP; rw [h1]
  dsimp only at hd
  rw [if_neg (by omega), if_neg (by omega), if_pos h] at hd
  rw [h2]
  cases hq : rd3 r with
  | none => rw [hq] at hd; exact .inl ⟨num3_same.stick (num3_same.2.1 _ hq), hd⟩
  | some y =>
    obtain ⟨t, r1⟩ := y
    rw [hq] at hd
    rw [num3_same.1 _ _ _ hq]
    dsimp only at hd ⊢
    cases hq1 : rd3 r1 with
    | none => rw [hq1] at hd; exact .inl ⟨num3_same.2.1 _ hq1, hd⟩
    | some y =>
      obtain ⟨n, r2⟩ := y
      rw [hq1] at hd
      rw [num3_same.1 _ _ _ hq1]
      refine .inr ⟨rfl, hd.trans ?_⟩
      dsimp only
      rw [Nat.sub_zero]
      cases rdN rd3 n.toNat r2 <;> rfl
theorem pj2 {b : List UInt8} {k : Int} {s : RS} {es : List Ent} (h : (s.2 = true ∧ decP b = none) ∨ (s.2 = false ∧ decP b = F2 k (es, s.1))) : PJ b ⟨k, [], es, 0, [], []⟩ s := h
theorem pj3 {b : List UInt8} {k t : Int} {s : RS} {ps : List Int} (h : (s.2 = true ∧ decP b = none) ∨ (s.2 = false ∧ decP b = F3 k t (ps, s.1))) : PJ b ⟨k, [], [], t, ps, (txtP s).1⟩ (txtP s).2 := by
  rcases h with ⟨h1, h2⟩ | ⟨h1, h2⟩
  · exact .inl ⟨txt_same.stick h1, h2⟩
  · obtain ⟨s1, s2⟩ := s
    cases h1
    unfold F3 at h2
    dsimp only at h2
    cases hq : rdT s1 with
    | none => rw [hq] at h2; exact .inl ⟨txt_same.2.1 _ hq, h2⟩
    | some y =>
      obtain ⟨tx, r⟩ := y
      rw [hq] at h2
      rw [txt_same.1 _ _ _ hq]
      exact .inr ⟨rfl, h2⟩
theorem pj4 {b : List UInt8} (h1 : ¬ kindP b = 1) (h2 : ¬ kindP b = 2) (h3 : ¬ kindP b = 3) : PJ b ⟨kindP b, [], [], 0, [], []⟩ (restP b) := by
  cases hq : rd1 b with
  | none => exact .inl ⟨num1_same.2.1 _ hq, by unfold decP; rw [hq]⟩
  | some y =>
    obtain ⟨k, r⟩ := y
    have e := num1_same.1 _ _ _ hq
    unfold kindP at h1 h2 h3 ⊢
    unfold restP
    rw [e] at h1 h2 h3 ⊢
    exact .inr ⟨rfl, by unfold decP; rw [hq]; dsimp only at h1 h2 h3 ⊢; rw [if_neg h1, if_neg h2, if_neg h3]⟩
end Go.Nest
