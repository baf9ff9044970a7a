/- THE ABSTRACT MACHINE, part 12: blocks under other numbers; what a call sees, and what is there behind it. -/
import Derived.Test.YtgbppkcebaoebaaAm11
namespace Go.AM
open Go Go.NB
set_option linter.unusedVariables false
set_option linter.unusedSimpArgs false

def mB (fr : Nat → Bool) (ah : List B) (ρ : List Rn) (r : Rn) (b : B) : Prop :=
  match b with
  | .dead => True
  | .box cs => match r with
    | .same j => match ah[j]? with
      | some (.box cs0) => all2 (mC fr ah 5 ρ) cs0 cs
      | _ => False
    | _ => False
  | .row sz α enc l => match r with
    | .same j => match ah[j]? with
      | some (.row sz' α' enc' l') => (⟨sz', α', enc', l'⟩ : LS) = ⟨sz, α, enc, l⟩
      | _ => False
    | .new => l = []
    | .cut sz0 j lo m => match ah[j]? with
      | some (.row sz' α' enc' l') => bif Nat.beq sz0 sz' then lo + m ≤ l'.length ∧ (⟨sz', α', enc', (l'.drop lo).take m⟩ : LS) = ⟨sz, α, enc, l⟩ else False
      | _ => False
  | .fro sz α enc l => match r with
    | .same j => match ah[j]? with
      | some (.fro sz' α' enc' l') => (⟨sz', α', enc', l'⟩ : LS) = ⟨sz, α, enc, l⟩
      | _ => False
    | _ => False

def mBs (fr : Nat → Bool) (ah : List B) (ρ : List Rn) : List Rn → List B → Prop
  | [], [] => True
  | r :: rs, b :: bs => mB fr ah ρ r b ∧ mBs fr ah ρ rs bs
  | _, _ => False

def srcR : Rn → List Nat
  | .same j => [j]
  | .cut _ j _ _ => [j]
  | .new => []

def liveB : B → Bool
  | .box _ | .row .. => true
  | _ => false

def usedOf : List Rn → List B → List Nat
  | r :: rs, .box _ :: bs => srcR r ++ usedOf rs bs
  | r :: rs, .row .. :: bs => srcR r ++ usedOf rs bs
  | _ :: rs, _ :: bs => usedOf rs bs
  | _, _ => []

def nodupB : List Nat → Bool
  | [] => true
  | j :: r => !(r.any (Nat.beq j)) && nodupB r

theorem nodupB_spec : ∀ {l : List Nat}, nodupB l = true → l.Nodup
  | [], _ => .nil
  | j :: r, h => by
    simp only [nodupB, Bool.and_eq_true, Bool.not_eq_true', List.any_eq_false] at h
    refine List.nodup_cons.2 ⟨fun hj => h.1 j hj (Nat.beq_refl j), nodupB_spec h.2⟩

section
variable {E : En} {F : Nat → Prop} {γ : List Value} {ah : List B} {H : Heap} {B' : Nat → Prop} {fr : Nat → Bool} {ρ : List Rn} {tah : List B}

theorem mBs_get : ∀ {rs : List Rn} {bs : List B}, mBs fr ah ρ rs bs → rs.length = bs.length ∧ ∀ (i : Nat) (b : B), bs[i]? = some b → ∃ r, rs[i]? = some r ∧ mB fr ah ρ r b
  | [], [], _ => ⟨rfl, fun i b h => by simp at h⟩
  | r :: rs, b :: bs, ⟨h1, h2⟩ => by
    obtain ⟨h3, h4⟩ := mBs_get h2
    refine ⟨by simp [h3], fun i b' h => ?_⟩
    cases i with
    | zero => cases h; exact ⟨r, rfl, h1⟩
    | succ i => simpa using h4 i b' (by simpa using h)

/-- where what a block owns comes of -/
theorem mB_own (hW : WR E F γ ah H) {r : Rn} {b : B} (h : mB fr ah ρ r b) : ∀ k ∈ obv b (gOf γ r), ∃ j bj gj, srcR r = [j] ∧ ah[j]? = some bj ∧ γ[j]? = some gj ∧ k ∈ obv bj gj ∧ liveB b = true := by
  intro k hk
  have gget : ∀ {j : Nat} {bj : B}, ah[j]? = some bj → ∃ gj, γ[j]? = some gj := fun hj => ⟨_, List.getElem?_eq_getElem (by rw [hW.len]; exact (List.getElem?_eq_some_iff.1 hj).1)⟩
  cases b with
  | dead => simp [obv] at hk
  | fro => simp [obv] at hk
  | box cs =>
    cases r with
    | same j =>
      simp only [mB] at h
      split at h
      · rename_i cs0 hj
        obtain ⟨gj, hg⟩ := gget hj
        refine ⟨j, _, gj, rfl, hj, hg, ?_, rfl⟩
        simp only [gOf, hg, Option.getD_some] at hk
        cases gj with
        | pointer p => cases p <;> first | (simp [obv] at hk; done) | simpa [obv] using hk
        | _ => simp [obv] at hk
      · exact h.elim
    | _ => simp only [mB] at h
  | row sz α enc l =>
    cases r with
    | same j =>
      simp only [mB] at h
      split at h
      · rename_i hj
        obtain ⟨gj, hg⟩ := gget hj
        refine ⟨j, _, gj, rfl, hj, hg, ?_, rfl⟩
        simp only [gOf, hg, Option.getD_some] at hk
        rw [obv_row] at hk ⊢
        exact hk
      · exact h.elim
    | new => simp [gOf, obv] at hk
    | cut sz0 j lo m =>
      simp only [mB] at h
      split at h
      · rename_i sz' α' enc' l' hj
        obtain ⟨hz, h1, h2⟩ := bguard h
        obtain ⟨gj, hg⟩ := gget hj
        refine ⟨j, _, gj, rfl, hj, hg, ?_, rfl⟩
        obtain ⟨cs, g1, g2, g3⟩ := row_g (hW.br _ _ _ hj hg)
        obtain ⟨p, n0, cap, rfl⟩ : ∃ p n0 cap, gj = .slice p n0 cap := by
          rcases g1.2 with ⟨p, e, _⟩ | ⟨_, _, _, _, _, e, _⟩ <;> exact ⟨_, _, _, e⟩
        have hn : n0 = l'.length := by
          rcases g1.2 with ⟨p, e, e2⟩ | ⟨_, _, _, _, _, e, _⟩
          · cases e; exact e2.symm
          · simp at e; exact e.2.1
        subst hn
        simp only [gOf, hg] at hk
        rw [obv_row] at hk ⊢
        exact (g1.part (lo := lo) (n := m) h1 (fun _ => rfl)).2 k (by rw [Nat.eq_of_beq_eq_true hz] at hk; exact hk)
      · exact h.elim

theorem usedOf_mem : ∀ {rs : List Rn} {bs : List B} {i j : Nat} {r : Rn} {b : B}, rs[i]? = some r → bs[i]? = some b → liveB b = true → srcR r = [j] → j ∈ usedOf rs bs
  | [], _, i, j, r, b, hr, _, _, _ => by simp at hr
  | _ :: _, [], i, j, r, b, _, hb, _, _ => by simp at hb
  | r' :: rs, b' :: bs, 0, j, r, b, hr, hb, hl, hs => by
    cases hr; cases hb
    cases b' with
    | box => simp [usedOf, hs]
    | row => simp [usedOf, hs]
    | fro => cases hl
    | dead => cases hl
  | r' :: rs, b' :: bs, i + 1, j, r, b, hr, hb, hl, hs => by
    have := usedOf_mem (rs := rs) (bs := bs) (i := i) (by simpa using hr) (by simpa using hb) hl hs
    cases b' <;> simp [usedOf, this]

theorem usedOf_nodup : ∀ {rs : List Rn} {bs : List B} {i i' j : Nat} {r r' : Rn} {b b' : B}, (usedOf rs bs).Nodup → i ≠ i' → rs[i]? = some r → bs[i]? = some b → rs[i']? = some r' → bs[i']? = some b' →
    liveB b = true → liveB b' = true → srcR r = [j] → srcR r' = [j] → False
  | [], _, i, i', j, r, r', b, b', _, _, hr, _, _, _, _, _, _, _ => by simp at hr
  | _ :: _, [], i, i', j, r, r', b, b', _, _, _, hb, _, _, _, _, _, _ => by simp at hb
  | r0 :: rs, b0 :: bs, i, i', j, r, r', b, b', hn, hne, hr, hb, hr', hb', hl, hl', hs, hs' => by
    have hn2 : (usedOf rs bs).Nodup := by
      cases b0 <;> simp only [usedOf] at hn
      · exact (List.nodup_append.1 hn).2.1
      · exact (List.nodup_append.1 hn).2.1
      · exact hn
      · exact hn
    have hdis : ∀ {q : Nat}, liveB b0 = true → srcR r0 = [q] → q ∈ usedOf rs bs → False := fun {q} hl hs hm => by
      cases b0 with
      | box =>
        simp only [usedOf, hs] at hn
        exact (List.nodup_append.1 hn).2.2 q (by simp) q hm rfl
      | row =>
        simp only [usedOf, hs] at hn
        exact (List.nodup_append.1 hn).2.2 q (by simp) q hm rfl
      | fro => cases hl
      | dead => cases hl
    cases i with
    | zero =>
      cases i' with
      | zero => exact hne rfl
      | succ i' =>
        cases hr; cases hb
        exact hdis hl hs (usedOf_mem (i := i') (by simpa using hr') (by simpa using hb') hl' hs')
    | succ i =>
      cases i' with
      | zero =>
        cases hr'; cases hb'
        exact hdis hl' hs' (usedOf_mem (i := i) (by simpa using hr) (by simpa using hb) hl hs)
      | succ i' => exact usedOf_nodup (i := i) (i' := i') hn2 (by omega) (by simpa using hr) (by simpa using hb) (by simpa using hr') (by simpa using hb') hl hl' hs hs'

/-- blocks under other numbers -/
structure Core (B' : Nat → Prop) (own : Nat → Prop) (F : Nat → Prop) (γ : List Value) (ah : List B) (H : Heap) : Prop where
  len : γ.length = ah.length
  br : ∀ (j : Nat) (b : B) (g : Value), ah[j]? = some b → γ[j]? = some g → BR F H ⟨B', γ⟩ b g
  disj : ∀ (i j : Nat) (b b' : B) (g g' : Value), i ≠ j → ah[i]? = some b → γ[i]? = some g → ah[j]? = some b' → γ[j]? = some g' → ∀ k, k ∈ obv b g → k ∉ obv b' g'
  nf : ∀ (j : Nat) (b : B) (g : Value) (k : Nat), ah[j]? = some b → γ[j]? = some g → k ∈ obv b g → (¬ F k ∧ ¬ B' k) ∧ own k

/-- what is lent to a call -/
def lent (E : En) (γ : List Value) (ah : List B) (fr : Nat → Bool) (k : Nat) : Prop := E.B k ∨ ∃ (j : Nat) (b : B) (g : Value), ah[j]? = some b ∧ γ[j]? = some g ∧ fr j = true ∧ k ∈ obv b g
def owned (γ : List Value) (ah : List B) (k : Nat) : Prop := ∃ (j : Nat) (b : B) (g : Value), ah[j]? = some b ∧ γ[j]? = some g ∧ k ∈ obv b g

theorem core (hW : WR E F γ ah H) (hm : mBs fr ah ρ ρ tah) (hnd : nodupB (usedOf ρ tah) = true) (hfu : ∀ j, fr j = true → j ∉ usedOf ρ tah) :
    Core (lent E γ ah fr) (owned γ ah) F (ρ.map (gOf γ)) tah H := by
  obtain ⟨hlen, hget⟩ := mBs_get hm
  have hget' : ∀ {i : Nat} {b : B} {g : Value}, tah[i]? = some b → (ρ.map (gOf γ))[i]? = some g → ∃ r, ρ[i]? = some r ∧ g = gOf γ r ∧ mB fr ah ρ r b := fun hb hg => by
    obtain ⟨r, h1, h2⟩ := hget _ _ hb
    rw [List.getElem?_map, h1] at hg
    exact ⟨r, h1, by simpa using hg.symm, h2⟩
  have hND := nodupB_spec hnd
  refine ⟨by simp [hlen], fun i b g hb hg => ?_, fun i i' b b' g g' hne hb hg hb' hg' k hk hk' => ?_, fun i b g k hb hg hk => ?_⟩
  · obtain ⟨r, hr, rfl, hmb⟩ := hget' hb hg
    have hcell : ∀ {cs0 cs : List C} {vs : List Value}, all2 (mC fr ah 5 ρ) cs0 cs → RL F H ⟨E.B, γ⟩ cs0 vs → RL F H ⟨lent E γ ah fr, ρ.map (gOf γ)⟩ cs vs := fun h1 h2 =>
      all2_sound (fun c0 c v h hr => mC_sound hW (fun _ h => .inl h) (fun j b g h1 h2 h3 k hk => .inr ⟨j, b, g, h2, h3, h1, hk⟩) 5 h hr) h1 h2
    have gget : ∀ {j : Nat} {bj : B}, ah[j]? = some bj → ∃ gj, γ[j]? = some gj := fun hj => ⟨_, List.getElem?_eq_getElem (by rw [hW.len]; exact (List.getElem?_eq_some_iff.1 hj).1)⟩
    cases b with
    | dead => trivial
    | box cs =>
      cases r with
      | same j =>
        simp only [mB] at hmb
        split at hmb
        · rename_i cs0 hj
          obtain ⟨gj, hgj⟩ := gget hj
          obtain ⟨k, e, vs, h1, h2, h3⟩ := hW.br _ _ _ hj hgj
          refine ⟨k, e, vs, ?_, h2, hcell hmb h3⟩
          simp [gOf, hgj, h1]
        · exact hmb.elim
      | _ => simp only [mB] at hmb
    | row sz α enc l =>
      cases r with
      | same j =>
        simp only [mB] at hmb
        split at hmb
        · rename_i hj
          obtain ⟨gj, hgj⟩ := gget hj
          cases hmb
          have := hW.br _ _ _ hj hgj
          simp only [gOf, hgj, Option.getD_some]
          exact this
        · exact hmb.elim
      | new => exact .inl ⟨none, rfl, hmb⟩
      | cut sz0 j lo m =>
        simp only [mB] at hmb
        split at hmb
        · rename_i sz' α' enc' l' hj
          obtain ⟨hz, h1, h2⟩ := bguard hmb
          have hz := Nat.eq_of_beq_eq_true hz
          obtain ⟨gj, hgj⟩ := gget hj
          obtain ⟨cs, g1, g2, g3⟩ := row_g (hW.br _ _ _ hj hgj)
          obtain ⟨p, n0, cap, rfl⟩ : ∃ p n0 cap, gj = .slice p n0 cap := by
            rcases g1.2 with ⟨p, e, _⟩ | ⟨_, _, _, _, _, e, _⟩ <;> exact ⟨_, _, _, e⟩
          have hn : n0 = l'.length := by
            rcases g1.2 with ⟨p, e, e2⟩ | ⟨_, _, _, _, _, e, _⟩
            · cases e; exact e2.symm
            · simp at e; exact e.2.1
          subst hn
          cases h2
          simp only [gOf, hgj]
          rw [hz]
          have h6 : ∀ x ∈ l'.drop lo, (enc x).length = sz := fun x hx => g3 x (List.mem_of_mem_drop hx)
          refine g_row (g1.part (lo := lo) (n := m) h1 (fun _ => rfl)).1 (by rw [List.length_take, List.length_drop]; omega) ?_ (fun x hx => h6 x (List.mem_of_mem_take hx))
          rw [← flat_take m h6, ← flat_drop lo g3]
          exact (g2.drop _).take _
        · exact hmb.elim
    | fro sz α enc l =>
      cases r with
      | same j =>
        simp only [mB] at hmb
        split at hmb
        · rename_i hj
          obtain ⟨gj, hgj⟩ := gget hj
          cases hmb
          have := hW.br _ _ _ hj hgj
          simp only [gOf, hgj, Option.getD_some]
          exact this
        · exact hmb.elim
      | _ => simp only [mB] at hmb
  · obtain ⟨r, hr, rfl, hmb⟩ := hget' hb hg
    obtain ⟨r', hr', rfl, hmb'⟩ := hget' hb' hg'
    obtain ⟨j, bj, gj, h1, h2, h3, h4, h5⟩ := mB_own hW hmb k hk
    obtain ⟨j', bj', gj', h1', h2', h3', h4', h5'⟩ := mB_own hW hmb' k hk'
    by_cases e : j = j'
    · subst e
      exact usedOf_nodup hND hne hr hb hr' hb' h5 h5' h1 h1'
    · exact hW.disj _ _ _ _ _ _ e h2 h3 h2' h3' k h4 h4'
  · obtain ⟨r, hr, rfl, hmb⟩ := hget' hb hg
    obtain ⟨j, bj, gj, h1, h2, h3, h4, h5⟩ := mB_own hW hmb k hk
    obtain ⟨h6, h7⟩ := hW.nf _ _ _ k h2 h3 h4
    refine ⟨⟨h6, fun h => ?_⟩, j, bj, gj, h2, h3, h4⟩
    rcases h with h | ⟨j', bj', gj', h2', h3', h8, h9⟩
    · exact h7 h
    · by_cases e : j = j'
      · subst e
        exact hfu _ h8 (usedOf_mem hr hb h5 h1)
      · exact hW.disj _ _ _ _ _ _ e h2 h3 h2' h3' k h4 h9

/-- less is said, under other numbers -/
theorem weaken (hW : WR E F γ ah H) (hm : mBs (fun _ => false) ah ρ ρ tah) (hnd : nodupB (usedOf ρ tah) = true) (hid : ∀ i, i < E.γ0.length → ρ[i]? = some (.same i)) :
    WR E F (ρ.map (gOf γ)) tah H ∧ ∀ {n : Nat} {c0 c : C} {v : Value}, mC (fun _ => false) ah n ρ c0 c → RL F H ⟨E.B, γ⟩ [c0] [v] → RL F H ⟨E.B, ρ.map (gOf γ)⟩ [c] [v] := by
  have hc := core hW hm hnd (fun j h => by cases h)
  have hB : lent E γ ah (fun _ => false) = E.B := by
    funext k
    apply propext
    constructor
    · rintro (h | ⟨_, _, _, _, _, h, _⟩)
      · exact h
      · cases h
    · exact .inl
  rw [hB] at hc
  refine ⟨⟨hc.len, hc.br, hc.disj, fun j b g k h1 h2 h3 => (hc.nf j b g k h1 h2 h3).1, hW.fb, hW.bb, hW.size, hW.keep, hW.fmono, hW.fnew, fun j b g k h1 h2 h3 => ?_, fun i v hi => ?_⟩, fun h hr => mC_sound hW (fun _ h => h) (fun j b g h => by cases h) _ h hr⟩
  · obtain ⟨j', b', g', h4, h5, h6⟩ := (hc.nf j b g k h1 h2 h3).2
    exact hW.onew _ _ _ k h4 h5 h6
  · have h1 := hid i (List.getElem?_eq_some_iff.1 hi).1
    rw [List.getElem?_map, h1]
    simp [gOf, hW.pre i v hi]
end
end Go.AM
