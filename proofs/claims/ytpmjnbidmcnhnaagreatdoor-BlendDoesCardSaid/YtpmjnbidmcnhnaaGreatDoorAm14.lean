/- part -/
import Derived.Test.YtpmjnbidmcnhnaaGreatDoorAm11
set_option linter.unusedVariables false
set_option linter.unusedSimpArgs false
section
namespace Go.AM
open Go Go.NB
def mB (fr : Nat → Bool) (ah : List B) (ρ : List Rn) (r : Rn) (b : B) : Prop :=
 match b with
 | .dead => True
 | .box cs => match r with
  | .same j => match ah[j]? with
   | some (.box cs0) => all2 (mC fr ah 5 ρ) cs0 cs
   | _ => False
  | _ => False
 | .row sz α enc l => match r with
  | .same j => match ah[j]? with
   | some (.row sz' α' enc' l') => (⟨sz', α', enc', l'⟩ : LS) = ⟨sz, α, enc, l⟩
   | _ => False
  | .new => l = []
  | .cut sz0 j lo m => match ah[j]? with
   | some (.row sz' α' enc' l') => bif Nat.beq sz0 sz' then lo + m ≤ l'.length ∧ (⟨sz', α', enc', (l'.drop lo).take m⟩ : LS) = ⟨sz, α, enc, l⟩ else False
   | _ => False
 | .fro sz α enc l => match r with
  | .same j => match ah[j]? with
   | some (.fro sz' α' enc' l') => (⟨sz', α', enc', l'⟩ : LS) = ⟨sz, α, enc, l⟩
   | _ => False
  | _ => False
def mBs (fr : Nat → Bool) (ah : List B) (ρ : List Rn) : List Rn → List B → Prop
 | [], [] => True
 | r :: rs, b :: bs => mB fr ah ρ r b ∧ mBs fr ah ρ rs bs
 | _, _ => False
def srcR : Rn → List Nat
 | .same j => [j]
 | .cut _ j _ _ => [j]
 | .new => []
def liveB : B → Bool
 | .box _ | .row .. => true
 | _ => false
def usedOf : List Rn → List B → List Nat
 | r :: rs, .box _ :: bs => srcR r ++ usedOf rs bs
 | r :: rs, .row .. :: bs => srcR r ++ usedOf rs bs
 | _ :: rs, _ :: bs => usedOf rs bs
 | _, _ => []
def nodupB : List Nat → Bool
 | [] => true
 | j :: r => !(r.any (Nat.beq j)) && nodupB r
theorem nodupB_spec : ∀ {l : List Nat}, nodupB l = true → l.Nodup
 | [], _ => .nil
 | j :: r, h => by
  simp only [nodupB, Bool.and_eq_true, Bool.not_eq_true', List.any_eq_false] at h
  refine List.nodup_cons.2 ⟨fun hj => h.1 j hj (Nat.beq_refl j), nodupB_spec h.2⟩
section
variable {E : En} {F : Nat → Prop} {γ : List Value} {ah : List B} {H : Heap} {B' : Nat → Prop} {fr : Nat → Bool} {ρ : List Rn} {tah : List B}
theorem mBs_get : ∀ {rs : List Rn} {bs : List B}, mBs fr ah ρ rs bs → rs.length = bs.length ∧ ∀ (i : Nat) (b : B), bs[i]? = some b → ∃ r, rs[i]? = some r ∧ mB fr ah ρ r b
 | [], [], _ => ⟨rfl, fun i b h => by simp at h⟩
 | r :: rs, b :: bs, ⟨h1, h2⟩ => by
  obtain ⟨h3, h4⟩ := mBs_get h2
  refine ⟨by simp [h3], fun i b' h => ?_⟩
  cases i with
  | zero => cases h; exact ⟨r, rfl, h1⟩
  | succ i => simpa using h4 i b' (by simpa using h)
theorem mB_own (hW : WR E F γ ah H) {r : Rn} {b : B} (h : mB fr ah ρ r b) : ∀ k ∈ obv b (gOf γ r), ∃ j bj gj, srcR r = [j] ∧ ah[j]? = some bj ∧ γ[j]? = some gj ∧ k ∈ obv bj gj ∧ liveB b = true := by
 intro k hk
 have gget : ∀ {j : Nat} {bj : B}, ah[j]? = some bj → ∃ gj, γ[j]? = some gj := fun hj => ⟨_, List.getElem?_eq_getElem (by rw [hW.len]; exact (List.getElem?_eq_some_iff.1 hj).1)⟩
 cases b with
 | dead => simp [obv] at hk
 | fro => simp [obv] at hk
 | box cs =>
  cases r with
  | same j =>
   simp only [mB] at h
   split at h
   ·rename_i cs0 hj
    obtain ⟨gj, hg⟩ := gget hj
    refine ⟨j, _, gj, rfl, hj, hg, ?_, rfl⟩
    simp only [gOf, hg, Option.getD_some] at hk
    cases gj with
    | pointer p => cases p <;> first | (simp [obv] at hk; done) | simpa [obv] using hk
    | _ => simp [obv] at hk
   ·exact h.elim
  | _ => simp only [mB] at h
 | row sz α enc l =>
  cases r with
  | same j =>
   simp only [mB] at h
   split at h
   ·rename_i hj
    obtain ⟨gj, hg⟩ := gget hj
    refine ⟨j, _, gj, rfl, hj, hg, ?_, rfl⟩
    simp only [gOf, hg, Option.getD_some] at hk
    rw [obv_row] at hk ⊢
    exact hk
   ·exact h.elim
  | new => simp [gOf, obv] at hk
  | cut sz0 j lo m =>
   simp only [mB] at h
   split at h
   ·rename_i sz' α' enc' l' hj
    obtain ⟨hz, h1, h2⟩ := bguard h
    obtain ⟨gj, hg⟩ := gget hj
    refine ⟨j, _, gj, rfl, hj, hg, ?_, rfl⟩
    obtain ⟨cs, g1, g2, g3⟩ := row_g (hW.br _ _ _ hj hg)
    obtain ⟨p, n0, cap, rfl⟩ : ∃ p n0 cap, gj = .slice p n0 cap := by
     rcases g1.2 with ⟨p, e, _⟩ | ⟨_, _, _, _, _, e, _⟩ <;> exact ⟨_, _, _, e⟩
    have hn : n0 = l'.length := by
     rcases g1.2 with ⟨p, e, e2⟩ | ⟨_, _, _, _, _, e, _⟩
     ·cases e; exact e2.symm
     ·simp at e; exact e.2.1
    subst hn
    simp only [gOf, hg] at hk
    rw [obv_row] at hk ⊢
    exact (g1.part (lo := lo) (n := m) h1 (fun _ => rfl)).2 k (by rw [Nat.eq_of_beq_eq_true hz] at hk; exact hk)
   ·exact h.elim
theorem usedOf_mem : ∀ {rs : List Rn} {bs : List B} {i j : Nat} {r : Rn} {b : B}, rs[i]? = some r → bs[i]? = some b → liveB b = true → srcR r = [j] → j ∈ usedOf rs bs
 | [], _, i, j, r, b, hr, _, _, _ => by simp at hr
 | _ :: _, [], i, j, r, b, _, hb, _, _ => by simp at hb
 | r' :: rs, b' :: bs, 0, j, r, b, hr, hb, hl, hs => by
  cases hr; cases hb
  cases b' with
  | box => simp [usedOf, hs]
  | row => simp [usedOf, hs]
  | fro => cases hl
  | dead => cases hl
 | r' :: rs, b' :: bs, i + 1, j, r, b, hr, hb, hl, hs => by
  have := usedOf_mem (rs := rs) (bs := bs) (i := i) (by simpa using hr) (by simpa using hb) hl hs
  cases b' <;> simp [usedOf, this]
theorem usedOf_nodup : ∀ {rs : List Rn} {bs : List B} {i i' j : Nat} {r r' : Rn} {b b' : B}, (usedOf rs bs).Nodup → i ≠ i' → rs[i]? = some r → bs[i]? = some b → rs[i']? = some r' → bs[i']? = some b' →
  liveB b = true → liveB b' = true → srcR r = [j] → srcR r' = [j] → False
 | [], _, i, i', j, r, r', b, b', _, _, hr, _, _, _, _, _, _, _ => by simp at hr
 | _ :: _, [], i, i', j, r, r', b, b', _, _, _, hb, _, _, _, _, _, _ => by simp at hb
 | r0 :: rs, b0 :: bs, i, i', j, r, r', b, b', hn, hne, hr, hb, hr', hb', hl, hl', hs, hs' => by
  have hn2 : (usedOf rs bs).Nodup := by
   cases b0 <;> simp only [usedOf] at hn
   ·exact (List.nodup_append.1 hn).2.1
   ·exact (List.nodup_append.1 hn).2.1
   ·exact hn
   ·exact hn
  have hdis : ∀ {q : Nat}, liveB b0 = true → srcR r0 = [q] → q ∈ usedOf rs bs → False := fun {q} hl hs hm => by
   cases b0 with
   | box =>
    simp only [usedOf, hs] at hn
    exact (List.nodup_append.1 hn).2.2 q (by simp) q hm rfl
   | row =>
    simp only [usedOf, hs] at hn
    exact (List.nodup_append.1 hn).2.2 q (by simp) q hm rfl
   | fro => cases hl
   | dead => cases hl
  cases i with
  | zero =>
   cases i' with
   | zero => exact hne rfl
   | succ i' =>
    cases hr; cases hb
    exact hdis hl hs (usedOf_mem (i := i') (by simpa using hr') (by simpa using hb') hl' hs')
  | succ i =>
   cases i' with
   | zero =>
    cases hr'; cases hb'
    exact hdis hl' hs' (usedOf_mem (i := i) (by simpa using hr) (by simpa using hb) hl hs)
   | succ i' => exact usedOf_nodup (i := i) (i' := i') hn2 (by omega) (by simpa using hr) (by simpa using hb) (by simpa using hr') (by simpa using hb') hl hl' hs hs'
structure Core (B' : Nat → Prop) (own : Nat → Prop) (F : Nat → Prop) (γ : List Value) (ah : List B) (H : Heap) : Prop where
 len : γ.length = ah.length
 br : ∀ (j : Nat) (b : B) (g : Value), ah[j]? = some b → γ[j]? = some g → BR F H ⟨B', γ⟩ b g
 disj : ∀ (i j : Nat) (b b' : B) (g g' : Value), i ≠ j → ah[i]? = some b → γ[i]? = some g → ah[j]? = some b' → γ[j]? = some g' → ∀ k, k ∈ obv b g → k ∉ obv b' g'
 nf : ∀ (j : Nat) (b : B) (g : Value) (k : Nat), ah[j]? = some b → γ[j]? = some g → k ∈ obv b g → (¬ F k ∧ ¬ B' k) ∧ own k
def lent (E : En) (γ : List Value) (ah : List B) (fr : Nat → Bool) (k : Nat) : Prop := E.B k ∨ ∃ (j : Nat) (b : B) (g : Value), ah[j]? = some b ∧ γ[j]? = some g ∧ fr j = true ∧ k ∈ obv b g
def owned (γ : List Value) (ah : List B) (k : Nat) : Prop := ∃ (j : Nat) (b : B) (g : Value), ah[j]? = some b ∧ γ[j]? = some g ∧ k ∈ obv b g
theorem core (hW : WR E F γ ah H) (hm : mBs fr ah ρ ρ tah) (hnd : nodupB (usedOf ρ tah) = true) (hfu : ∀ j, fr j = true → j ∉ usedOf ρ tah) :
  Core (lent E γ ah fr) (owned γ ah) F (ρ.map (gOf γ)) tah H := by
 obtain ⟨hlen, hget⟩ := mBs_get hm
 have hget' : ∀ {i : Nat} {b : B} {g : Value}, tah[i]? = some b → (ρ.map (gOf γ))[i]? = some g → ∃ r, ρ[i]? = some r ∧ g = gOf γ r ∧ mB fr ah ρ r b := fun hb hg => by
  obtain ⟨r, h1, h2⟩ := hget _ _ hb
  rw [List.getElem?_map, h1] at hg
  exact ⟨r, h1, by simpa using hg.symm, h2⟩
 have hND := nodupB_spec hnd
 refine ⟨by simp [hlen], fun i b g hb hg => ?_, fun i i' b b' g g' hne hb hg hb' hg' k hk hk' => ?_, fun i b g k hb hg hk => ?_⟩
 ·obtain ⟨r, hr, rfl, hmb⟩ := hget' hb hg
  have hcell : ∀ {cs0 cs : List C} {vs : List Value}, all2 (mC fr ah 5 ρ) cs0 cs → RL F H ⟨E.B, γ⟩ cs0 vs → RL F H ⟨lent E γ ah fr, ρ.map (gOf γ)⟩ cs vs := fun h1 h2 =>
   all2_sound (fun c0 c v h hr => mC_sound hW (fun _ h => .inl h) (fun j b g h1 h2 h3 k hk => .inr ⟨j, b, g, h2, h3, h1, hk⟩) 5 h hr) h1 h2
  have gget : ∀ {j : Nat} {bj : B}, ah[j]? = some bj → ∃ gj, γ[j]? = some gj := fun hj => ⟨_, List.getElem?_eq_getElem (by rw [hW.len]; exact (List.getElem?_eq_some_iff.1 hj).1)⟩
  cases b with
  | dead => trivial
  | box cs =>
   cases r with
   | same j =>
    simp only [mB] at hmb
    split at hmb
    ·rename_i cs0 hj
     obtain ⟨gj, hgj⟩ := gget hj
     obtain ⟨k, e, vs, h1, h2, h3⟩ := hW.br _ _ _ hj hgj
     refine ⟨k, e, vs, ?_, h2, hcell hmb h3⟩
     simp [gOf, hgj, h1]
    ·exact hmb.elim
   | _ => simp only [mB] at hmb
  | row sz α enc l =>
   cases r with
   | same j =>
    simp only [mB] at hmb
    split at hmb
    ·rename_i hj
     obtain ⟨gj, hgj⟩ := gget hj
     cases hmb
     have := hW.br _ _ _ hj hgj
     simp only [gOf, hgj, Option.getD_some]
     exact this
    ·exact hmb.elim
   | new => exact .inl ⟨none, rfl, hmb⟩
   | cut sz0 j lo m =>
    simp only [mB] at hmb
    split at hmb
    ·rename_i sz' α' enc' l' hj
     obtain ⟨hz, h1, h2⟩ := bguard hmb
     have hz := Nat.eq_of_beq_eq_true hz
     obtain ⟨gj, hgj⟩ := gget hj
     obtain ⟨cs, g1, g2, g3⟩ := row_g (hW.br _ _ _ hj hgj)
     obtain ⟨p, n0, cap, rfl⟩ : ∃ p n0 cap, gj = .slice p n0 cap := by
      rcases g1.2 with ⟨p, e, _⟩ | ⟨_, _, _, _, _, e, _⟩ <;> exact ⟨_, _, _, e⟩
     have hn : n0 = l'.length := by
      rcases g1.2 with ⟨p, e, e2⟩ | ⟨_, _, _, _, _, e, _⟩
      ·cases e; exact e2.symm
      ·simp at e; exact e.2.1
     subst hn
     cases h2
     simp only [gOf, hgj]
     rw [hz]
     have h6 : ∀ x ∈ l'.drop lo, (enc x).length = sz := fun x hx => g3 x (List.mem_of_mem_drop hx)
     refine g_row (g1.part (lo := lo) (n := m) h1 (fun _ => rfl)).1 (by rw [List.length_take, List.length_drop]; omega) ?_ (fun x hx => h6 x (List.mem_of_mem_take hx))
     rw [← flat_take m h6, ← flat_drop lo g3]
     exact (g2.drop _).take _
    ·exact hmb.elim
  | fro sz α enc l =>
   cases r with
   | same j =>
    simp only [mB] at hmb
    split at hmb
    ·rename_i hj
     obtain ⟨gj, hgj⟩ := gget hj
     cases hmb
     have := hW.br _ _ _ hj hgj
     simp only [gOf, hgj, Option.getD_some]
     exact this
    ·exact hmb.elim
   | _ => simp only [mB] at hmb
 ·obtain ⟨r, hr, rfl, hmb⟩ := hget' hb hg
  obtain ⟨r', hr', rfl, hmb'⟩ := hget' hb' hg'
  obtain ⟨j, bj, gj, h1, h2, h3, h4, h5⟩ := mB_own hW hmb k hk
  obtain ⟨j', bj', gj', h1', h2', h3', h4', h5'⟩ := mB_own hW hmb' k hk'
  by_cases e : j = j'
  ·subst e
   exact usedOf_nodup hND hne hr hb hr' hb' h5 h5' h1 h1'
  ·exact hW.disj _ _ _ _ _ _ e h2 h3 h2' h3' k h4 h4'
 ·obtain ⟨r, hr, rfl, hmb⟩ := hget' hb hg
  obtain ⟨j, bj, gj, h1, h2, h3, h4, h5⟩ := mB_own hW hmb k hk
  obtain ⟨h6, h7⟩ := hW.nf _ _ _ k h2 h3 h4
  refine ⟨⟨h6, fun h => ?_⟩, j, bj, gj, h2, h3, h4⟩
  rcases h with h | ⟨j', bj', gj', h2', h3', h8, h9⟩
  ·exact h7 h
  ·by_cases e : j = j'
   ·subst e
    exact hfu _ h8 (usedOf_mem hr hb h5 h1)
   ·exact hW.disj _ _ _ _ _ _ e h2 h3 h2' h3' k h4 h9
theorem weaken (hW : WR E F γ ah H) (hm : mBs (fun _ => false) ah ρ ρ tah) (hnd : nodupB (usedOf ρ tah) = true) (hid : ∀ i, i < E.γ0.length → ρ[i]? = some (.same i)) :
  WR E F (ρ.map (gOf γ)) tah H ∧ ∀ {n : Nat} {c0 c : C} {v : Value}, mC (fun _ => false) ah n ρ c0 c → RL F H ⟨E.B, γ⟩ [c0] [v] → RL F H ⟨E.B, ρ.map (gOf γ)⟩ [c] [v] := by
 have hc := core hW hm hnd (fun j h => by cases h)
 have hB : lent E γ ah (fun _ => false) = E.B := by
  funext k
  apply propext
  constructor
  ·rintro (h | ⟨_, _, _, _, _, h, _⟩)
   ·exact h
   ·cases h
  ·exact .inl
 rw [hB] at hc
 refine ⟨⟨hc.len, hc.br, hc.disj, fun j b g k h1 h2 h3 => (hc.nf j b g k h1 h2 h3).1, hW.fb, hW.bb, hW.size, hW.keep, hW.fmono, hW.fnew, fun j b g k h1 h2 h3 => ?_, fun i v hi => ?_⟩, fun h hr => mC_sound hW (fun _ h => h) (fun j b g h => by cases h) _ h hr⟩
 ·obtain ⟨j', b', g', h4, h5, h6⟩ := (hc.nf j b g k h1 h2 h3).2
  exact hW.onew _ _ _ k h4 h5 h6
 ·have h1 := hid i (List.getElem?_eq_some_iff.1 hi).1
  rw [List.getElem?_map, h1]
  simp [gOf, hW.pre i v hi]
end
end Go.AM
end
/- part -/
section
namespace Go.AM
open Go Go.NB
def ren1 (σ : Nat → Nat) : C → C
 | .rw j => .rw (σ j)
 | .sw sz j lo n => .sw sz (σ j) lo n
 | .ptr j o => .ptr (σ j) o
 | c => c
def clean1 : C → Bool
 | .rw _ | .sw .. | .ptr .. => true
 | .iface _ _ cs => closedB cs
 | c => closed1 c
def cleanB : List C → Bool
 | [] => true
 | c :: cs => clean1 c && cleanB cs
def renB (σ : Nat → Nat) : B → B
 | .box cs => .box (cs.map (ren1 σ))
 | b => b
def cleanBlk : B → Bool
 | .box cs => cleanB cs
 | _ => true
def renA (σ : Nat → Nat) : A → A
 | .c x => .c (ren1 σ x)
 | .st cs => .st (cs.map (ren1 σ))
 | .tup ts => .tup (ts.map fun t => (t.1, t.2.map (ren1 σ)))
 | a => a
def cleanA : A → Bool
 | .c x => clean1 x
 | .st cs => cleanB cs
 | .tup ts => ts.all fun t => cleanB t.2
 | .undef => true
 | .off => false
inductive Out : Type 1 where
 | ret (a : A)
 | pan (a : A)
def Out.a : Out → A
 | .ret a => a
 | .pan a => a
section
variable {F : Nat → Prop} {H : Heap} {m m' : Md} {σ : Nat → Nat}
theorem ren_sound (hσ : ∀ (j : Nat) (g : Value), m.γ[j]? = some g → m'.γ[σ j]? = some g) {cs : List C} {vs : List Value} (h : RL F H m cs vs) (hc : cleanB cs = true) : RL F H m' (cs.map (ren1 σ)) vs := by
 induction h with
 | nl => exact .nl
 | int _ ih => simp [cleanB, clean1, closed1] at hc; exact .int (ih hσ hc)
 | bool _ ih => simp [cleanB, clean1, closed1] at hc; exact .bool (ih hσ hc)
 | str h _ ih => simp [cleanB, clean1, closed1] at hc; exact .str h (ih hσ hc)
 | raw h _ ih => simp [cleanB, clean1, closed1] at hc; exact .raw h (ih hσ hc)
 | nil _ ih => simp [cleanB, clean1, closed1] at hc; exact .nil (ih hσ hc)
 | ls0 _ ih => simp [cleanB, clean1, closed1] at hc; exact .ls0 (ih hσ hc)
 | ls hb h1 h2 hr hz hcc _ _ ih => simp [cleanB, clean1, closed1] at hc; exact .ls hb h1 h2 hr hz hcc (ih hσ hc)
 | rw hg hq _ ih => simp [cleanB, clean1] at hc; exact .rw (hσ _ _ hg) hq (ih hσ hc)
 | sw hg hle hq _ ih => simp [cleanB, clean1] at hc; exact .sw (hσ _ _ hg) hle hq (ih hσ hc)
 | ptr hg _ ih => simp [cleanB, clean1] at hc; exact .ptr (hσ _ _ hg) (ih hσ hc)
 | iface hr _ _ ih => simp [cleanB, clean1] at hc; exact .iface (closed_up hr hc.1) (ih hσ hc.2)
 | _ => simp [cleanB, clean1, closed1] at hc
theorem renT_sound (hσ : ∀ (j : Nat) (g : Value), m.γ[j]? = some g → m'.γ[σ j]? = some g) : ∀ {ts : List (Bool × List C)} {vs : List Value}, RT F H m ts vs → (ts.all fun t => cleanB t.2) = true → RT F H m' (ts.map fun t => (t.1, t.2.map (ren1 σ))) vs
 | [], [], _, _ => trivial
 | (g, cs) :: ts, v :: vs, ⟨⟨us, h1, h2, h3⟩, h⟩, hc => by
  simp only [List.all_cons, Bool.and_eq_true] at hc
  exact ⟨⟨us, ren_sound hσ h1 hc.1, h2, fun h => by simp [h3 h]⟩, renT_sound hσ h hc.2⟩
theorem renA_sound (hσ : ∀ (j : Nat) (g : Value), m.γ[j]? = some g → m'.γ[σ j]? = some g) {a : A} {v : Value} (h : RA F H m a v) (hc : cleanA a = true) : RA F H m' (renA σ a) v := by
 cases a with
 | undef => trivial
 | off => cases hc
 | c x => exact ren_sound hσ (cs := [x]) h (by simpa [cleanB, cleanA] using hc)
 | st cs => obtain ⟨vs, rfl, h⟩ := h; exact ⟨vs, rfl, ren_sound hσ h hc⟩
 | tup ts => obtain ⟨vs, rfl, h⟩ := h; exact ⟨vs, rfl, renT_sound hσ h hc⟩
theorem renB_sound (hσ : ∀ (j : Nat) (g : Value), m.γ[j]? = some g → m'.γ[σ j]? = some g) {b : B} {g : Value} (h : BR F H m b g) (hc : cleanBlk b = true) : BR F H m' (renB σ b) g := by
 cases b with
 | box cs => obtain ⟨k, e, vs, h1, h2, h3⟩ := h; exact ⟨k, e, vs, h1, h2, ren_sound hσ h3 hc⟩
 | row sz α enc l => exact h
 | fro sz α enc l => exact h
 | dead => trivial
theorem obv_ren {b : B} {g : Value} : obv (renB σ b) g = obv b g := by
 cases g with
 | pointer p => cases b <;> cases p <;> rfl
 | _ => cases b <;> rfl
end
def RAs (F : Nat → Prop) (H : Heap) (m : Md) : List A → List Value → Prop
 | [], [] => True
 | a :: as, v :: vs => RA F H m a v ∧ RAs F H m as vs
 | _, _ => False
structure AmbD (d : Bool) (w w' : World) : Prop where
 os : w'.os = w.os
 tape : w'.tape = w.tape
 output : w'.output = w.output
 drawn : d = true → w.drawn ≤ w'.drawn
theorem AmbD.refl {d : Bool} (w : World) : AmbD d w w := ⟨rfl, rfl, rfl, fun _ => Nat.le_refl _⟩
theorem AmbD.trans {d : Bool} {a b c : World} (h : AmbD d a b) (k : AmbD d b c) : AmbD d a c := ⟨k.os.trans h.os, k.tape.trans h.tape, k.output.trans h.output, fun e => Nat.le_trans (h.drawn e) (k.drawn e)⟩
theorem AmbD.of {d : Bool} {a b : World} (h : Amb a b) : AmbD d a b := ⟨h.os, h.tape, h.output, fun _ => h.drawn⟩
theorem AmbD.weak {d : Bool} {a b : World} (h : AmbD d a b) : AmbD false a b := ⟨h.os, h.tape, h.output, fun e => by cases e⟩
def UponP (d : Bool) (P : Program) (w : World) (R : Bool → Value → Heap → Prop) : Result Next → Prop
 | .ok (.value v) w' => w' = w ∧ R true v w.heap
 | .ok (.enter f args) w' => w' = w ∧ Calls P f args w fun e w' => (∃ v, e = .returned v ∧ R true v w'.heap ∧ AmbD d w w') ∨ (∃ v, e = .panicked [{ v := v, recovered := false }] ∧ R false v w'.heap ∧ AmbD d w w')
 | _ => False
def CallsP (d : Bool) (P : Program) (f : FuncId) (args : Array Value) (H : Heap) (R : Bool → Value → Heap → Prop) : Prop :=
 ∀ w : World, w.heap = H → UponP d P w R ((callFunc f args).run P w)
theorem CallsP.mono {d : Bool} {P : Program} {f : FuncId} {args : Array Value} {H : Heap} {R R' : Bool → Value → Heap → Prop} (h : CallsP d P f args H R) (hr : ∀ b v H', R b v H' → R' b v H') : CallsP d P f args H R' := by
 intro w hw
 have := h w hw
 unfold UponP at *
 split at this
 ·exact ⟨this.1, hr _ _ _ this.2⟩
 ·refine ⟨this.1, this.2.mono fun e w' h => ?_⟩
  rcases h with ⟨v, h1, h2, h3⟩ | ⟨v, h1, h2, h3⟩
  ·exact .inl ⟨v, h1, hr _ _ _ h2, h3⟩
  ·exact .inr ⟨v, h1, hr _ _ _ h2, h3⟩
 ·exact this.elim
def en (F L : Nat → Prop) (γ : List Value) (ah : List B) (H : Heap) : En := ⟨F, L, owned γ ah, H, γ⟩
def Behind (F L : Nat → Prop) (γ : List Value) (ah : List B) (H : Heap) (Q : Out → List B → Prop) (ok : Bool) (v : Value) (H' : Heap) : Prop :=
 ∃ out ah' F' γ', Q out ah' ∧ cleanA out.a = true ∧ ah'.all cleanBlk = true ∧ (match out with | .ret _ => ok = true | .pan _ => ok = false) ∧ RA F' H' ⟨L, γ'⟩ out.a v ∧ WR (en F L γ ah H) F' γ' ah' H'
def DoesD (d : Bool) (P : Program) (f : FuncId) (args : List A) (ah : List B) (Q : Out → List B → Prop) : Prop :=
 ∀ (F L : Nat → Prop) (γ : List Value) (H : Heap) (vs : List Value), RAs F H ⟨L, γ⟩ args vs → WR (en F L γ ah H) F γ ah H → CallsP d P f vs.toArray H (Behind F L γ ah H Q)
abbrev Does (P : Program) (f : FuncId) (args : List A) (ah : List B) (Q : Out → List B → Prop) : Prop := DoesD false P f args ah Q
theorem DoesD.mono {d : Bool} {P : Program} {f : FuncId} {args : List A} {ah : List B} {Q Q' : Out → List B → Prop} (h : DoesD d P f args ah Q) (hq : ∀ o b, Q o b → Q' o b) : DoesD d P f args ah Q' :=
 fun F L γ H vs h1 h2 => (h F L γ H vs h1 h2).mono fun ok v H' ⟨out, ah', F', γ', h3, h4⟩ => ⟨out, ah', F', γ', hq _ _ h3, h4⟩
theorem Does.mono {P : Program} {f : FuncId} {args : List A} {ah : List B} {Q Q' : Out → List B → Prop} (h : Does P f args ah Q) (hq : ∀ o b, Q o b → Q' o b) : Does P f args ah Q' := DoesD.mono h hq
theorem DoesD.weak {d : Bool} {P : Program} {f : FuncId} {args : List A} {ah : List B} {Q : Out → List B → Prop} (h : DoesD d P f args ah Q) : Does P f args ah Q := by
 intro F L γ H vs h1 h2 w hw
 have := h F L γ H vs h1 h2 w hw
 unfold UponP at *
 split at this
 ·exact this
 ·refine ⟨this.1, this.2.mono fun e w' h => ?_⟩
  rcases h with ⟨v, h1, h2, h3⟩ | ⟨v, h1, h2, h3⟩
  ·exact .inl ⟨v, h1, h2, h3.weak⟩
  ·exact .inr ⟨v, h1, h2, h3.weak⟩
 ·exact this.elim
def mT (f : C → C → Prop) : List (Bool × List C) → List (Bool × List C) → Prop
 | [], [] => True
 | (g0, cs0) :: ts0, (g, cs) :: ts => (g0 = g ∧ all2 f cs0 cs) ∧ mT f ts0 ts
 | _, _ => False
def mA (fr : Nat → Bool) (ah : List B) (ρ : List Rn) : A → A → Prop
 | _, .undef => True
 | .c c0, .c c => mC fr ah 5 ρ c0 c
 | .st cs0, .st cs => all2 (mC fr ah 5 ρ) cs0 cs
 | .tup ts0, .tup ts => mT (mC fr ah 5 ρ) ts0 ts
 | .off, .off => True
 | _, _ => False
def mAs (fr : Nat → Bool) (ah : List B) (ρ : List Rn) : List A → List A → Prop
 | [], [] => True
 | a0 :: as0, a :: as => mA fr ah ρ a0 a ∧ mAs fr ah ρ as0 as
 | _, _ => False
def sig (m : List Nat) (n : Nat) (j : Nat) : Nat := bif Nat.blt j m.length then m.getD j 0 else n + (j - m.length)
def setAll : List Nat → List B → List B → List B
 | j :: m, b :: bs, ah => setAll m bs (ah.set j b)
 | _, _, ah => ah
def mrg (m : List Nat) (ah ah' : List B) : List B := setAll m (ah'.map (renB (sig m ah.length))) ah ++ (ah'.drop m.length).map (renB (sig m ah.length))
theorem setAll_length : ∀ (m : List Nat) (bs ah : List B), (setAll m bs ah).length = ah.length
 | [], _, _ => rfl
 | _ :: _, [], _ => rfl
 | j :: m, b :: bs, ah => by rw [setAll, setAll_length m bs, List.length_set]
theorem setAll_get : ∀ {m : List Nat} {bs ah : List B} {i : Nat} {b : B}, m.Nodup → (setAll m bs ah)[i]? = some b → (ah[i]? = some b ∧ (i ∈ m → ∃ q, m[q]? = some i ∧ bs.length ≤ q)) ∨ ∃ q : Nat, m[q]? = some i ∧ bs[q]? = some b
 | [], bs, ah, i, b, _, h => .inl ⟨h, fun h => by cases h⟩
 | j :: m, [], ah, i, b, _, h => .inl ⟨h, fun hm => by
   obtain ⟨q, hq⟩ := List.getElem?_of_mem hm
   exact ⟨q, hq, by simp⟩⟩
 | j :: m, b' :: bs, ah, i, b, hn, h => by
  obtain ⟨h1, h2⟩ := List.nodup_cons.1 hn
  rw [setAll] at h
  rcases setAll_get h2 h with ⟨h3, h4⟩ | ⟨q, h3, h4⟩
  ·rcases get_set h3 with ⟨h5, h6⟩ | ⟨rfl, _, rfl⟩
   ·refine .inl ⟨h6, fun hm => ?_⟩
    rcases List.mem_cons.1 hm with e | hm
    ·exact (h5 e).elim
    ·obtain ⟨q, g1, g2⟩ := h4 hm
     exact ⟨q + 1, by simpa using g1, by simpa using g2⟩
   ·exact .inr ⟨0, rfl, rfl⟩
  ·exact .inr ⟨q + 1, by simpa using h3, by simpa using h4⟩
theorem sig_lt {m : List Nat} {n q j : Nat} (h : m[q]? = some j) : sig m n q = j := by
 obtain ⟨hlt, e⟩ := List.getElem?_eq_some_iff.1 h
 have : Nat.blt q m.length = true := Nat.ble_eq_true_of_le hlt
 unfold sig
 rw [this]
 simp [List.getD_eq_getElem?_getD, h]
theorem sig_ge {m : List Nat} {n q : Nat} (h : m.length ≤ q) : sig m n q = n + (q - m.length) := by
 have : Nat.blt q m.length = false := by
  cases e : Nat.blt q m.length with
  | false => rfl
  | true => have := Nat.le_of_ble_eq_true e; omega
 unfold sig
 rw [this]
 rfl
section
variable {E : En} {F F' : Nat → Prop} {γ γ' : List Value} {ah ah' tah : List B} {H H' : Heap} {fr : Nat → Bool} {m : List Nat}
def samesR (m : List Nat) : List Rn := m.map .same
theorem merge (hW : WR E F γ ah H) (hm : mBs fr ah (samesR m) (samesR m) tah) (hn : m.Nodup) (hlt : ∀ j ∈ m, j < ah.length) (hc : Core (lent E γ ah fr) (owned γ ah) F ((samesR m).map (gOf γ)) tah H)
  (hR : WR (en F (lent E γ ah fr) ((samesR m).map (gOf γ)) tah H) F' γ' ah' H') (hcl : ah'.all cleanBlk = true) :
  WR E F' (γ ++ γ'.drop m.length) (mrg m ah ah') H' ∧ Ext F H ⟨E.B, γ⟩ F' H' ⟨E.B, γ ++ γ'.drop m.length⟩ ∧ (∀ (j : Nat) (g : Value), γ'[j]? = some g → (γ ++ γ'.drop m.length)[sig m ah.length j]? = some g) ∧ (m = [] → Keep [] H H') ∧
  ∀ k, (F k ∨ E.B k ∨ ∃ j bj gj, j ∉ m ∧ ah[j]? = some bj ∧ γ[j]? = some gj ∧ k ∈ obv bj gj) → H'[k]? = H[k]? := by
 have hml : tah.length = m.length := by have := (mBs_get hm).1; simpa [samesR] using this.symm
 -- what the call owns is of m
 have hown : ∀ k, owned ((samesR m).map (gOf γ)) tah k → ∃ j bj gj, j ∈ m ∧ ah[j]? = some bj ∧ γ[j]? = some gj ∧ k ∈ obv bj gj := fun k ⟨i, b, g, hb, hg, hk⟩ => by
  obtain ⟨r, h1, h2⟩ := (mBs_get hm).2 _ _ hb
  rw [List.getElem?_map, h1] at hg
  simp at hg
  subst hg
  obtain ⟨j, bj, gj, h3, h4, h5, h6, _⟩ := mB_own hW h2 k hk
  have hmem := List.mem_of_getElem? h1
  simp only [samesR, List.mem_map] at hmem
  obtain ⟨j', hj', rfl⟩ := hmem
  simp [srcR] at h3
  subst h3
  exact ⟨j', bj, gj, hj', h4, h5, h6⟩
 have hγ : ∀ (j : Nat) (g : Value), γ'[j]? = some g → (γ ++ γ'.drop m.length)[sig m ah.length j]? = some g := fun q g hq => by
  rcases Nat.lt_or_ge q m.length with h | h
  ·have hmq : m[q]? = some m[q] := List.getElem?_eq_getElem h
   rw [sig_lt hmq]
   have hj : m[q] < γ.length := by rw [hW.len]; exact hlt _ (List.getElem_mem h)
   rw [List.getElem?_append_left hj]
   have h1 : ((samesR m).map (gOf γ))[q]? = some (γ[m[q]]) := by
    simp [samesR, hmq, gOf, List.getElem?_eq_getElem hj]
   have h2 := hR.pre q _ h1
   rw [h2] at hq
   rw [List.getElem?_eq_getElem hj]
   exact hq
  ·rw [sig_ge h, List.getElem?_append_right (by rw [hW.len]; omega), List.getElem?_drop, hW.len]
   rw [show m.length + (ah.length + (q - m.length) - ah.length) = q by omega]
   exact hq
 have hlen' : m.length ≤ ah'.length := by
  rw [← hR.len]
  rcases Nat.eq_zero_or_pos m.length with h | h
  ·omega
  ·have h1 : ((samesR m).map (gOf γ))[m.length - 1]? = some (((samesR m).map (gOf γ))[m.length - 1]'(by simp [samesR]; omega)) := List.getElem?_eq_getElem _
   have := (List.getElem?_eq_some_iff.1 (hR.pre _ _ h1)).1
   omega
 have get : ∀ {i : Nat} {b : B} {g : Value}, (mrg m ah ah')[i]? = some b → (γ ++ γ'.drop m.length)[i]? = some g → (i ∉ m ∧ ah[i]? = some b ∧ γ[i]? = some g) ∨ ∃ q b', ah'[q]? = some b' ∧ γ'[q]? = some g ∧ sig m ah.length q = i ∧ b = renB (sig m ah.length) b' := fun {i b g} hb hg => by
  unfold mrg at hb
  rcases Nat.lt_or_ge i ah.length with h | h
  ·rw [List.getElem?_append_left (by rw [setAll_length]; exact h)] at hb
   rw [List.getElem?_append_left (by rw [hW.len]; exact h)] at hg
   rcases setAll_get hn hb with ⟨h1, h2⟩ | ⟨q, h1, h2⟩
   ·refine .inl ⟨fun hm => ?_, h1, hg⟩
    obtain ⟨q, h3, h4⟩ := h2 hm
    rw [List.length_map] at h4
    have := (List.getElem?_eq_some_iff.1 h3).1
    omega
   ·rw [List.getElem?_map] at h2
    obtain ⟨b', h3, h4⟩ := Option.map_eq_some_iff.1 h2
    refine .inr ⟨q, b', h3, ?_, sig_lt h1, h4.symm⟩
    have hq := (List.getElem?_eq_some_iff.1 h3).1
    have h5 : γ'[q]? = some (γ'[q]'(by rw [hR.len]; exact hq)) := List.getElem?_eq_getElem _
    have h6 := hγ q _ h5
    rw [sig_lt h1, List.getElem?_append_left (by rw [hW.len]; exact h)] at h6
    rw [h5]
    rw [hg] at h6
    exact h6.symm
  ·rw [List.getElem?_append_right (by rw [setAll_length]; exact h), setAll_length, List.getElem?_map, List.getElem?_drop] at hb
   rw [List.getElem?_append_right (by rw [hW.len]; exact h), List.getElem?_drop, hW.len] at hg
   obtain ⟨b', h3, h4⟩ := Option.map_eq_some_iff.1 hb
   exact .inr ⟨m.length + (i - ah.length), b', h3, hg, by rw [sig_ge (by omega)]; omega, h4.symm⟩
 have keepF : ∀ k, F k ∨ E.B k → H'[k]? = H[k]? := fun k hk => by
  refine hR.keep k ?_ (fun ho => ?_)
  ·exact hk.elim (hW.fb k) (fun h => Nat.lt_of_lt_of_le (hW.bb k h).1 hW.size)
  ·obtain ⟨j, bj, gj, _, h2, h3, h4⟩ := hown k ho
   have := hW.nf j bj gj k h2 h3 h4
   exact hk.elim this.1 this.2
 have ex : Ext F H ⟨E.B, γ⟩ F' H' ⟨E.B, γ ++ γ'.drop m.length⟩ := ⟨hR.fmono, fun b o u hb hc => cell_of_get (keepF b hb) hc, fun _ h => h, fun j v hj => by
  rw [List.getElem?_append_left (List.getElem?_eq_some_iff.1 hj).1]; exact hj⟩
 have old : ∀ {i b g}, i ∉ m → ah[i]? = some b → γ[i]? = some g → ∀ k ∈ obv b g, ¬ owned ((samesR m).map (gOf γ)) tah k ∧ H'[k]? = H[k]? := fun hi hb hg k hk => by
  have hno : ¬ owned ((samesR m).map (gOf γ)) tah k := fun ho => by
   obtain ⟨j, bj, gj, h1, h2, h3, h4⟩ := hown k ho
   exact hW.disj _ _ _ _ _ _ (fun e => hi (by subst e; exact h1)) hb hg h2 h3 k hk h4
  exact ⟨hno, hR.keep k (obv_lt (hW.br _ _ _ hb hg) k hk) hno⟩
 have own' : ∀ {q b g k}, ah'[q]? = some b → γ'[q]? = some g → k ∈ obv b g → (∃ j bj gj, j ∈ m ∧ ah[j]? = some bj ∧ γ[j]? = some gj ∧ k ∈ obv bj gj) ∨ H.size ≤ k := fun hb hg hk => by
  rcases hR.onew _ _ _ _ hb hg hk with h | h
  ·exact .inl (hown _ h)
  ·exact .inr h
 refine ⟨⟨?_, fun i b g hb hg => ?_, fun i i' b b' g g' hne hb hg hb' hg' k hk hk' => ?_, fun i b g k hb hg hk => ?_, hR.fb, hW.bb, Nat.le_trans hW.size hR.size, fun k hk ho => ?_, fun k hk => hR.fmono k (hW.fmono k hk), fun k hk => ?_, fun i b g k hb hg hk => ?_, fun j v hj => ex.g j v (hW.pre j v hj)⟩, ex, hγ, fun hm0 => ⟨hR.size, fun k hk _ => hR.keep k hk (fun ho => ?_)⟩, fun k hk => hk.elim (fun h => keepF k (.inl h)) fun h => h.elim (fun h => keepF k (.inr h)) fun ⟨j, bj, gj, h1, h2, h3, h4⟩ => (old h1 h2 h3 k h4).2⟩
 ·unfold mrg
  simp [setAll_length, hW.len, hR.len]
 ·rcases get hb hg with ⟨h1, h2, h3⟩ | ⟨q, b', h1, h2, h3, rfl⟩
  ·exact BR.ext ex (fun k hk => (old h1 h2 h3 k hk).2) (hW.br _ _ _ h2 h3)
  ·exact renB_sound hγ (hR.br _ _ _ h1 h2) (List.all_eq_true.1 hcl _ (List.mem_of_getElem? h1))
 ·rcases get hb hg with ⟨h1, h2, h3⟩ | ⟨q, b1, h1, h2, h3, rfl⟩
  ·rcases get hb' hg' with ⟨h1', h2', h3'⟩ | ⟨q', b1', h1', h2', h3', rfl⟩
   ·exact hW.disj _ _ _ _ _ _ hne h2 h3 h2' h3' k hk hk'
   ·rw [obv_ren] at hk'
    have h4 := obv_lt (hW.br _ _ _ h2 h3) k hk
    rcases own' h1' h2' hk' with ⟨j, bj, gj, g1, g2, g3, g4⟩ | h
    ·exact hW.disj _ _ _ _ _ _ (fun e => h1 (by subst e; exact g1)) h2 h3 g2 g3 k hk g4
    ·omega
  ·rw [obv_ren] at hk
   rcases get hb' hg' with ⟨h1', h2', h3'⟩ | ⟨q', b1', h1', h2', h3', rfl⟩
   ·have h4 := obv_lt (hW.br _ _ _ h2' h3') k hk'
    rcases own' h1 h2 hk with ⟨j, bj, gj, g1, g2, g3, g4⟩ | h
    ·exact hW.disj _ _ _ _ _ _ (fun e => h1' (by subst e; exact g1)) h2' h3' g2 g3 k hk' g4
    ·omega
   ·rw [obv_ren] at hk'
    exact hR.disj _ _ _ _ _ _ (fun e => hne (by rw [← h3, ← h3', e])) h1 h2 h1' h2' k hk hk'
 ·rcases get hb hg with ⟨h1, h2, h3⟩ | ⟨q, b', h1, h2, h3, rfl⟩
  ·have h4 := hW.nf _ _ _ k h2 h3 hk
   refine ⟨fun hf => ?_, h4.2⟩
   rcases hR.fnew k hf with h | h | h
   ·exact h4.1 h
   ·exact (old h1 h2 h3 k hk).1 h
   ·have : k < H.size := obv_lt (hW.br _ _ _ h2 h3) k hk
    have : H.size ≤ k := h
    omega
  ·rw [obv_ren] at hk
   have h4 := hR.nf _ _ _ k h1 h2 hk
   exact ⟨h4.1, fun h => h4.2 (.inl h)⟩
 ·have h1 : k < H.size := Nat.lt_of_lt_of_le hk hW.size
  rw [hR.keep k h1 (fun h => ?_)]
  ·exact hW.keep k hk ho
  ·obtain ⟨j, bj, gj, _, g2, g3, g4⟩ := hown k h
   rcases hW.onew _ _ _ k g2 g3 g4 with h5 | h5
   ·exact ho h5
   ·omega
 ·rcases hR.fnew k hk with h | h | h
  ·exact hW.fnew k h
  ·obtain ⟨j, bj, gj, _, g2, g3, g4⟩ := hown k h
   exact .inr (hW.onew _ _ _ k g2 g3 g4)
  ·exact .inr (.inr (Nat.le_trans hW.size h))
 ·rcases get hb hg with ⟨h1, h2, h3⟩ | ⟨q, b', h1, h2, h3, rfl⟩
  ·exact hW.onew _ _ _ k h2 h3 hk
  ·rw [obv_ren] at hk
   rcases own' h1 h2 hk with ⟨j, bj, gj, g1, g2, g3, g4⟩ | h
   ·exact hW.onew _ _ _ k g2 g3 g4
   ·exact .inr (Nat.le_trans hW.size h)
 ·subst hm0
  obtain ⟨j, _, _, h, _⟩ := hown k ho
  cases h
end
end Go.AM
end
/- part -/
section
namespace Go.AM
open Go Go.NB
structure Cfg : Type 1 where
 P : Program
 tab : Nat → Option TD
 n : Nat
 n0 : Nat
 d : Bool
structure Run where
 E : En
 ds : List Deferred
 W0 : World
def frz : List Nat → List B → List B
 | [], ah => ah
 | j :: r, ah => frz r (match ah[j]? with
  | some (.row sz α enc l) => ah.set j (.fro sz α enc l)
  | _ => ah)
theorem frz_sound {E : En} {γ : List Value} {H : Heap} : ∀ {js : List Nat} {F : Nat → Prop} {ah : List B}, WR E F γ ah H → ∃ F', (∀ k, F k → F' k) ∧ WR E F' γ (frz js ah) H
 | [], F, ah, h => ⟨F, fun _ h => h, h⟩
 | j :: r, F, ah, h => by
  unfold frz
  split
  ·rename_i sz α enc l hj
   obtain ⟨F1, h1, h2, _⟩ := h.freeze hj
   obtain ⟨F2, h3, h4⟩ := frz_sound h2
   exact ⟨F2, fun k hk => h3 k (h1 k hk), h4⟩
  ·exact frz_sound h
def SRf (c : Cfg) (r : Run) (F : Nat → Prop) (γ : List Value) (s : St) (x : A) (v : Value) (a : Act) (w : World) : Prop :=
 a.tmps.size = c.n ∧ a.defers = r.ds ∧ AmbD c.d r.W0 w ∧ WR r.E F γ s.ah w.heap ∧ ER F w.heap ⟨r.E.B, γ⟩ s.env a ∧ RA F w.heap ⟨r.E.B, γ⟩ x v
def SR (c : Cfg) (r : Run) (s : St) (x : A) (v : Value) (a : Act) (w : World) : Prop := ∃ F γ, SRf c r F γ s x v a w
inductive G where
 | any
 | grow
 | prot (pl : List Nat)
def isBox : Option B → Bool
 | some (.box _) => true
 | _ => false
def inL (pl : List Nat) (j : Nat) : Bool := pl.any (Nat.beq j)
def G.mem (g : G) (op : Op) (s : St) : Bool := match op with
 | .load _ x => match g with
  | .prot pl => match opn s x with
   | .c (.ptr j _) => inL pl j
   | .c (.bp _) => true
   | _ => false
  | _ => true
 | .convert .. => match g with
  | .prot _ => false
  | _ => true
 | _ => true
def G.call : G → List Nat → Bool
 | .any, _ => true
 | .grow, m => m.isEmpty
 | .prot pl, m => m.all fun j => !inL pl j
def G.act : G → Bool → Bool
 | .any, _ => true
 | .grow, b => b
 | .prot pl, b => b || pl.isEmpty
def G.actA (g : G) (s : St) (op : Op) : Bool := g.act (grows s op) || (match g with
 | .prot _ => apps op
 | _ => false)
def G.still : G → List B → Bool
 | .prot pl, ah => pl.all fun j => isBox ah[j]?
 | _, _ => true
def G.strict : G → Bool
 | .any => false
 | _ => true
def PrOf (g : G) (E : En) (F : Nat → Prop) (γ : List Value) (ah : List B) (H : Heap) (k : Nat) : Prop := match g with
 | .prot pl => F k ∨ E.B k ∨ ∃ j cs v, inL pl j = true ∧ ah[j]? = some (.box cs) ∧ γ[j]? = some v ∧ k ∈ obv (.box cs) v
 | _ => k < H.size
theorem PrOf_lt {g : G} {E : En} {F : Nat → Prop} {γ : List Value} {ah : List B} {H : Heap} {k : Nat} (hW : WR E F γ ah H) (h : PrOf g E F γ ah H k) : k < H.size := by
 cases g with
 | prot pl =>
  rcases h with h | h | ⟨j, cs, v, _, h2, h3, h4⟩
  ·exact hW.fb k h
  ·exact Nat.lt_of_lt_of_le (hW.bb k h).1 hW.size
  ·exact obv_lt (hW.br _ _ _ h2 h3) k h4
 | _ => exact h
theorem obv_box {cs cs' : List C} {v : Value} {k : Nat} (h : k ∈ obv (.box cs) v) : k ∈ obv (.box cs') v := by
 cases v with
 | pointer p => cases p <;> exact h
 | _ => exact h
theorem PrOf_step {g : G} {E : En} {F F' : Nat → Prop} {γ γ' : List Value} {ah ah' : List B} {H H' : Heap} {k : Nat} (hs : H.size ≤ H'.size) (hF : ∀ k, F k → F' k) (hγ : ∀ (j : Nat) (v : Value), γ[j]? = some v → γ'[j]? = some v)
  (hst : g.still ah' = true) (h : PrOf g E F γ ah H k) : PrOf g E F' γ' ah' H' k := by
 cases g with
 | prot pl =>
  rcases h with h | h | ⟨j, cs, v, h1, h2, h3, h4⟩
  ·exact .inl (hF k h)
  ·exact .inr (.inl h)
  ·have h5 : isBox ah'[j]? = true := by
    have h1' := h1
    unfold inL at h1'
    rw [List.any_eq_true] at h1'
    obtain ⟨i, hi, e⟩ := h1'
    obtain rfl := Nat.eq_of_beq_eq_true e
    exact List.all_eq_true.1 hst j hi
   unfold isBox at h5
   split at h5
   ·rename_i cs' e
    exact .inr (.inr ⟨j, cs', v, h1, e, hγ _ _ h3, obv_box h4⟩)
   ·cases h5
 | _ => exact Nat.lt_of_lt_of_le h hs
theorem y_loadB {P : Program} {tab : Nat → Option TD} {E : En} {F : Nat → Prop} {γ : List Value} {s : St} {a : Act} {w : World} {o : Oper} {k : A → Prop} {pl : List Nat} (hT : TabOk P tab) (hE : ER F w.heap ⟨E.B, γ⟩ s.env a) (hW : WR E F γ s.ah w.heap) {t : Nat} {x : Operand} (ho : o.op = .load t x) (h : Y1 tab s (.load t x) k)
  (hm : (G.prot pl).mem (.load t x) s = true) : ∃ b, PrOf (.prot pl) E F γ s.ah w.heap b ∧ YdC P F ⟨E.B, γ⟩ a w o k b := by
 simp only [Y1] at h
 simp only [G.mem] at hm
 split at h
 ·rename_i d ht
  split at h
  ·rename_i j off hx
   rw [hx] at hm
   have hx := opn_c hE hx
   split at h
   ·rename_i cs hb
    generalize hv : a.eval x = v at hx
    cases hx with
    | ptr hg _ =>
     obtain ⟨k', vs, e, h1, h2⟩ := box_get (o := off) (hW.br j _ _ hb hg)
     cases e
     exact ⟨_, .inr (.inr ⟨j, cs, _, hm, hb, hg, by simp [obv]⟩), rd_loadC hT ht ho h1 h2 hv h⟩
   ·exact h.elim
  ·rename_i cs hx
   have hx := opn_c hE hx
   generalize hv : a.eval x = v at hx
   cases hx with
   | bp hb hr hc _ => exact ⟨_, hb.imp id .inl, rd_loadC hT ht ho (hr.ext ⟨fun _ h => h, fun _ _ _ _ h => h, fun _ h => h, fun j v h => by cases h⟩) hc hv h⟩
  ·rename_i sz j i off hx
   rw [hx] at hm; cases hm
  ·exact h.elim
 ·exact h.elim
def SameAt (g : G) (H H' : Heap) (k : Nat) : Prop := match g with
 | .prot _ => ∀ o u, cell H k o = some u → cell H' k o = some u
 | _ => H'[k]? = H[k]?
theorem SameAt.of {g : G} {H H' : Heap} {k : Nat} (h : H'[k]? = H[k]?) : SameAt g H H' k := by
 cases g with
 | prot pl => exact fun o u hu => cell_of_get h hu
 | _ => exact h
theorem SameAt.trans {g : G} {H H' H2 : Heap} {k : Nat} (h : SameAt g H H' k) (h2 : SameAt g H' H2 k) : SameAt g H H2 k := by
 cases g with
 | prot pl => exact fun o u hu => h2 o u (h o u hu)
 | _ => exact Eq.trans h2 h
def Nx (g : G) (c : Cfg) (r : Run) (k : St → Prop) (F : Nat → Prop) (γ : List Value) (ah : List B) (w : World) (a' : Act) (w' : World) : Prop :=
 ∃ F' γ' s', k s' ∧ SRf c r F' γ' s' .undef undef a' w' ∧ (g.strict = true → ∀ q, PrOf g r.E F γ ah w.heap q → SameAt g w.heap w'.heap q ∧ PrOf g r.E F' γ' s'.ah w'.heap q)
inductive XE : Type 1 where
 | normal
 | exit (id : Nat)
 | ret
 | pan (v : A)
def Qk (c : Cfg) (r : Run) (K : XE → St → Prop) : Exit → Act → World → Prop
 | .normal, a, w => ∃ s, K .normal s ∧ SR c r s .undef undef a w
 | .exit id, a, w => ∃ s, K (.exit id) s ∧ SR c r s .undef undef a w
 | .ret, a, w => ∃ s, K .ret s ∧ SR c r s .undef undef a w
 | .panic ch, a, w => ∃ v x s, ch = [{ v := v, recovered := false }] ∧ K (.pan x) s ∧ SR c r s x v a w
 | _, _, _ => False
def lits : List Nat := [0, 1, 2, 3, 4, 5, 6, 7, 8, 9, 10, 11, 12, 13, 14, 15, 16, 17, 18, 19, 20, 21, 22, 23, 24, 25, 26, 27, 28, 29, 30, 31, 32, 33, 34, 35, 36, 37, 38, 39, 40]
def foN : List Nat → Nat → (Nat → Prop) → Prop
 | [], n, k => k n
 | i :: r, n, k => bif Nat.beq n i then k i else foN r n k
theorem foN_eq {k : Nat → Prop} : ∀ {l : List Nat} {n : Nat}, foN l n k → k n
 | [], _, h => h
 | i :: r, n, h => by
  unfold foN at h
  rcases bcase h with ⟨e, h⟩ | ⟨_, h⟩
  ·rw [Nat.eq_of_beq_eq_true e]; exact h
  ·exact foN_eq h
def foC (x : C) (k : C → Prop) : Prop := match x with
 | .int q n => k (.int q n)
 | .bool b => k (.bool b)
 | .str l => k (.str l)
 | .raw v => k (.raw v)
 | .nil => k .nil
 | .ls sz α enc l => k (.ls sz α enc l)
 | .bs sz α enc l => k (.bs sz α enc l)
 | .rw j => foN lits j fun j => k (.rw j)
 | .sw sz j lo n => foN lits j fun j => k (.sw sz j lo n)
 | .ptr j o => foN lits j fun j => foN lits o fun o => k (.ptr j o)
 | .ep sz j i o => foN lits j fun j => foN lits o fun o => k (.ep sz j i o)
 | .bp cs => k (.bp cs)
 | .fn f caps => k (.fn f caps)
 | .iface t g cs => k (.iface t g cs)
theorem foC_eq {x : C} {k : C → Prop} (h : foC x k) : k x := by
 cases x with
 | rw j => exact foN_eq (k := fun j => k (.rw j)) h
 | sw sz j lo n => exact foN_eq (k := fun j => k (.sw sz j lo n)) h
 | ptr j o => exact foN_eq (k := fun o => k (.ptr j o)) (foN_eq (k := fun j => foN lits o fun o => k (.ptr j o)) h)
 | ep sz j i o => exact foN_eq (k := fun o => k (.ep sz j i o)) (foN_eq (k := fun j => foN lits o fun o => k (.ep sz j i o)) h)
 | _ => exact h
def foCs : List C → (List C → Prop) → Prop
 | [], k => k []
 | x :: r, k => foC x fun x => foCs r fun r => k (x :: r)
theorem foCs_eq : ∀ {l : List C} {k : List C → Prop}, foCs l k → k l
 | [], _, h => h
 | x :: r, k, h => foCs_eq (k := fun r => k (x :: r)) (foC_eq (k := fun x => foCs r fun r => k (x :: r)) h)
def foT : List (Bool × List C) → (List (Bool × List C) → Prop) → Prop
 | [], k => k []
 | (g, cs) :: r, k => foCs cs fun cs => foT r fun r => k ((g, cs) :: r)
theorem foT_eq : ∀ {l : List (Bool × List C)} {k : List (Bool × List C) → Prop}, foT l k → k l
 | [], _, h => h
 | (g, cs) :: r, k, h => foT_eq (k := fun r => k ((g, cs) :: r)) (foCs_eq (k := fun cs => foT r fun r => k ((g, cs) :: r)) h)
def foA (x : A) (k : A → Prop) : Prop := match x with
 | .undef => k .undef
 | .off => k .off
 | .c x => foC x fun x => k (.c x)
 | .st cs => foCs cs fun cs => k (.st cs)
 | .tup ts => foT ts fun ts => k (.tup ts)
theorem foA_eq {x : A} {k : A → Prop} (h : foA x k) : k x := by
 cases x with
 | c x => exact foC_eq (k := fun x => k (.c x)) h
 | st cs => exact foCs_eq (k := fun cs => k (.st cs)) h
 | tup ts => exact foT_eq (k := fun ts => k (.tup ts)) h
 | _ => exact h
def foBs : List B → (List B → Prop) → Prop
 | [], k => k []
 | .box cs :: r, k => foCs cs fun cs => foBs r fun r => k (.box cs :: r)
 | .row sz α enc l :: r, k => foBs r fun r => k (.row sz α enc l :: r)
 | .fro sz α enc l :: r, k => foBs r fun r => k (.fro sz α enc l :: r)
 | .dead :: r, k => foBs r fun r => k (.dead :: r)
theorem foBs_eq : ∀ {l : List B} {k : List B → Prop}, foBs l k → k l
 | [], _, h => h
 | .box cs :: r, k, h => foBs_eq (k := fun r => k (.box cs :: r)) (foCs_eq (k := fun cs => foBs r fun r => k (.box cs :: r)) h)
 | .row sz α enc l :: r, k, h => foBs_eq (k := fun r => k (.row sz α enc l :: r)) h
 | .fro sz α enc l :: r, k, h => foBs_eq (k := fun r => k (.fro sz α enc l :: r)) h
 | .dead :: r, k, h => foBs_eq (k := fun r => k (.dead :: r)) h
def putD (n : Nat) (s : St) (d : Option Nat) (x : A) (k : St → Prop) : Prop := match d with
 | none => k s
 | some d => bif Nat.blt d n then foA x fun x => match s with
  | ⟨e, ah⟩ => k ⟨(d, x) :: e, ah⟩ else False
def isAct (tab : Nat → Option TD) (s : St) : Op → Bool
 | .alloc _ | .box .. | .buildSlice .. | .makeSlice .. | .store .. => true
 | .convert _ u x => match opn s x, tab u with
  | .c (.str _), some d => (match d.kind with | .sl _ => true | _ => false)
  | .c (.rw _), some d => (match d.kind with | .sl _ => true | _ => false)
  | _, _ => false
 | .call c => (match c.callee with | .builtin .append => true | .builtin .clear => true | _ => false)
 | _ => false
def frOf (m : List Nat) (tah : List B) (j : Nat) : Bool := !((usedOf (samesR m) tah).any (Nat.beq j))
def CallOk (ah : List B) (m : List Nat) (args targs : List A) (tah : List B) : Prop :=
 bif nodupB m && m.all (fun j => Nat.blt j ah.length) && nodupB (usedOf (samesR m) tah) then mAs (frOf m tah) ah (samesR m) args targs ∧ mBs (frOf m tah) ah (samesR m) (samesR m) tah else False
def ap2 {α β : Type 1} (k : α → β → Prop) (x : α) (y : β) : Prop := k x y
def YC (c : Cfg) (g : G) (s : St) (fx : Operand) (as : List Operand) (k : List B → A → Prop) (kp : A → St → Prop) : Prop :=
 match opn s fx with
 | .c (.fn f caps) => ∃ (js m : List Nat) (targs : List A) (tah : List B) (Q : Out → List B → Prop), DoesD c.d c.P f targs tah Q ∧ CallOk (frz js s.ah) m (as.map (opn s) ++ caps.map .c) targs tah ∧ g.call m = true ∧
   ∀ out ah', Q out ah' → match out with
    | .ret a => ap2 k (mrg m (frz js s.ah) ah') (renA (sig m (frz js s.ah).length) a)
    | .pan a => ap2 kp (renA (sig m (frz js s.ah).length) a) ⟨s.env, mrg m (frz js s.ah) ah'⟩
 | _ => False
def Xo (c : Cfg) (g : G) (o : Oper) (s : St) (k : St → Prop) (kp : A → St → Prop) : Prop :=
 match o.op with
 | .panic x => match opn s x with
  | .c (.iface t ag cs) => kp (.c (.iface t ag cs)) s
  | _ => False
 | .call ⟨.value fx, as, _⟩ => YC c g s fx as.toList (fun ah x => foBs ah fun ah => bif g.still ah then putD c.n ⟨s.env, ah⟩ o.dst x k else False) kp
 | op => bif isAct c.tab s op then (bif g.actA s op then Y2 c.tab s op fun ah x => foBs ah fun ah => bif g.still ah then putD c.n ⟨s.env, ah⟩ o.dst x k else False else False)
   else bif g.mem op s then Y1 c.tab s op fun x => putD c.n s o.dst x k else False
section
variable {c : Cfg} {r : Run} {s : St} {a : Act} {w : World} {o : Oper}
theorem ER.put {F : Nat → Prop} {H : Heap} {m : Md} {env : List (Nat × A)} (h : ER F H m env a) {d : Nat} (hd : d < a.tmps.size) {x : A} {v : Value} (hx : RA F H m x v) : ER F H m ((d, x) :: env) (a.put (some d) v) := by
 intro t y hl
 unfold lk at hl
 by_cases hb : Nat.beq d t = true
 ·rw [hb] at hl
  cases hl
  obtain rfl := Nat.eq_of_beq_eq_true hb
  simpa [Act.put, Array.getD, hd] using hx
 ·rw [Bool.not_eq_true] at hb
  rw [hb] at hl
  have hne : d ≠ t := fun e => by subst e; simp at hb
  have := h t y hl
  simpa [Act.put, Array.getD_eq_getD_getElem?, hne] using this
theorem ER.ext {F F' : Nat → Prop} {H H' : Heap} {m m' : Md} {env : List (Nat × A)} (h : ER F H m env a) (e : Ext F H m F' H' m') : ER F' H' m' env a := fun t x hl => (h t x hl).ext e
theorem put_sound {F : Nat → Prop} {γ : List Value} {s : St} {x : A} {v : Value} {k : St → Prop} {d : Option Nat} (hk : putD c.n s d x k) (hn : a.tmps.size = c.n) (hds : a.defers = r.ds) (hA : AmbD c.d r.W0 w) (hW : WR r.E F γ s.ah w.heap) (hE : ER F w.heap ⟨r.E.B, γ⟩ s.env a) (hx : RA F w.heap ⟨r.E.B, γ⟩ x v) :
  ∃ s', k s' ∧ s'.ah = s.ah ∧ SRf c r F γ s' .undef undef (a.put d v) w := by
 unfold putD at hk
 split at hk
 ·exact ⟨s, hk, rfl, by simpa [Act.put] using hn, by simpa [Act.put] using hds, hA, hW, by simpa [Act.put] using hE, trivial⟩
 ·rename_i d
  obtain ⟨hd, hk⟩ := bguard hk
  have hd' : d < a.tmps.size := by rw [hn]; exact Nat.le_of_ble_eq_true hd
  exact ⟨_, foA_eq hk, rfl, by simp [Act.put, hn], by simp [Act.put, hds], hA, hW, hE.put hd' hx, trivial⟩
theorem put_nx {g : G} {F : Nat → Prop} {γ : List Value} {s : St} {x : A} {v : Value} {k : St → Prop} {d : Option Nat} (hk : putD c.n s d x k) (hn : a.tmps.size = c.n) (hds : a.defers = r.ds) (hA : AmbD c.d r.W0 w) (hW : WR r.E F γ s.ah w.heap) (hE : ER F w.heap ⟨r.E.B, γ⟩ s.env a) (hx : RA F w.heap ⟨r.E.B, γ⟩ x v) :
  Nx g c r k F γ s.ah w (a.put d v) w := by
 obtain ⟨s', h1, h2, h3⟩ := put_sound hk hn hds hA hW hE hx
 exact ⟨F, γ, s', h1, h3, fun _ q hq => ⟨.of rfl, by rw [h2]; exact hq⟩⟩
theorem frz_box {j : Nat} {cs : List C} : ∀ {js : List Nat} {ah : List B}, ah[j]? = some (.box cs) → (frz js ah)[j]? = some (.box cs)
 | [], _, h => h
 | i :: r, ah, h => by
  unfold frz
  refine frz_box (js := r) ?_
  split
  ·rename_i e
   rw [List.getElem?_set]
   split
   ·rename_i e2; subst e2; rw [h] at e; cases e
   ·exact h
  ·exact h
theorem mT_sound {f : C → C → Prop} {F : Nat → Prop} {H : Heap} {m m' : Md} (hf : ∀ c0 c v, f c0 c → RL F H m [c0] [v] → RL F H m' [c] [v]) : ∀ {ts0 ts : List (Bool × List C)} {vs : List Value}, mT f ts0 ts → RT F H m ts0 vs → RT F H m' ts vs
 | [], [], [], _, _ => trivial
 | (g0, cs0) :: ts0, (g, cs) :: ts, v :: vs, ⟨⟨e, h1⟩, h2⟩, ⟨⟨us, h3, h4, h5⟩, h6⟩ => ⟨⟨us, all2_sound hf h1 h3, by rw [← e]; exact h4, fun h => by rw [← all2_len h1]; exact h5 (e.trans h)⟩, mT_sound hf h2 h6⟩
theorem mA_sound {E : En} {F : Nat → Prop} {γ : List Value} {ah : List B} {H : Heap} {B' : Nat → Prop} {fr : Nat → Bool} {ρ : List Rn} (hW : WR E F γ ah H) (hB : ∀ k, E.B k → B' k) (hfr : ∀ j b g, fr j = true → ah[j]? = some b → γ[j]? = some g → ∀ k ∈ obv b g, B' k)
  {x0 x : A} {v : Value} (h : mA fr ah ρ x0 x) (hr : RA F H ⟨E.B, γ⟩ x0 v) : RA F H ⟨B', ρ.map (gOf γ)⟩ x v := by
 have hf : ∀ c0 c v, mC fr ah 5 ρ c0 c → RL F H ⟨E.B, γ⟩ [c0] [v] → RL F H ⟨B', ρ.map (gOf γ)⟩ [c] [v] := fun c0 c v h hr => mC_sound hW hB hfr 5 h hr
 cases x with
 | undef => trivial
 | off => cases x0 <;> first | exact h.elim | exact hr
 | c y => cases x0 <;> first | exact h.elim | exact hf _ _ _ h hr
 | st cs =>
  cases x0 with
  | st cs0 => obtain ⟨vs, rfl, hr⟩ := hr; exact ⟨vs, rfl, all2_sound hf h hr⟩
  | _ => exact h.elim
 | tup ts =>
  cases x0 with
  | tup ts0 => obtain ⟨vs, rfl, hr⟩ := hr; exact ⟨vs, rfl, mT_sound hf h hr⟩
  | _ => exact h.elim
theorem mAs_sound {E : En} {F : Nat → Prop} {γ : List Value} {ah : List B} {H : Heap} {B' : Nat → Prop} {fr : Nat → Bool} {ρ : List Rn} (hW : WR E F γ ah H) (hB : ∀ k, E.B k → B' k) (hfr : ∀ j b g, fr j = true → ah[j]? = some b → γ[j]? = some g → ∀ k ∈ obv b g, B' k) :
  ∀ {xs0 xs : List A} {vs : List Value}, mAs fr ah ρ xs0 xs → RAs F H ⟨E.B, γ⟩ xs0 vs → RAs F H ⟨B', ρ.map (gOf γ)⟩ xs vs
 | [], [], [], _, _ => trivial
 | x0 :: xs0, x :: xs, v :: vs, ⟨h1, h2⟩, ⟨h3, h4⟩ => ⟨mA_sound hW hB hfr h1 h3, mAs_sound hW hB hfr h2 h4⟩
theorem RAs.ext {F F' : Nat → Prop} {H H' : Heap} {m m' : Md} (e : Ext F H m F' H' m') : ∀ {as : List A} {vs : List Value}, RAs F H m as vs → RAs F' H' m' as vs
 | [], [], _ => trivial
 | _ :: _, _ :: _, ⟨h1, h2⟩ => ⟨h1.ext e, RAs.ext e h2⟩
theorem args_sound {F : Nat → Prop} {H : Heap} {m : Md} (hE : ER F H m s.env a) {caps : List C} {us : List Value} (hc : RL F H m caps us) : ∀ (as : List Operand), RAs F H m (as.map (opn s) ++ caps.map .c) (as.map a.eval ++ us)
 | [] => by
  have : ∀ {caps : List C} {us : List Value}, RL F H m caps us → RAs F H m (caps.map .c) us := fun {caps} => by
   induction caps with
   | nil => intro us h; cases h; trivial
   | cons c cs ih =>
    intro us h
    obtain ⟨v, vs, rfl, h1, h2⟩ := h.uncons
    exact ⟨h1, ih h2⟩
  exact this hc
 | x :: as => ⟨opn_sound hE x, args_sound hE hc as⟩
theorem frOf_spec {m : List Nat} {tah : List B} (j : Nat) (h : frOf m tah j = true) : j ∉ usedOf (samesR m) tah := fun hj => by
 unfold frOf at h
 rw [Bool.not_eq_true', List.any_eq_false] at h
 exact h j hj (Nat.beq_refl j)
theorem YC_sound {g : G} {F : Nat → Prop} {γ : List Value} {fx : Operand} {as : List Operand} {tys : Array TypeId} {k : St → Prop} {K : XE → St → Prop} {Q : Exit → Act → World → Prop} (ho : o.op = .call ⟨.value fx, as.toArray, tys⟩)
  (h : YC c g s fx as (fun ah x => foBs ah fun ah => bif g.still ah then putD c.n ⟨s.env, ah⟩ o.dst x k else False) (fun v s => K (.pan v) s)) (hs : SRf c r F γ s .undef undef a w) (hQ : ∀ ch a w, Qk c r K (.panic ch) a w → Q (.panic ch) a w) :
  o.wp c.P a w (fun a' w' => Nx g c r k F γ s.ah w a' w') Q := by
 obtain ⟨hn, hds, hA, hW, hE, _⟩ := hs
 unfold YC at h
 split at h
 ·rename_i f caps hfx
  obtain ⟨js, m, targs, tah, QQ, hspec, hok, hg, hk⟩ := h
  have hc := opn_c hE hfx
  generalize hfv : a.eval fx = fv at hc
  cases hc with
  | @fn _ _ _ us _ _ hcaps _ =>
   obtain ⟨F1, hF1, hW1⟩ := frz_sound (js := js) hW
   have e1 : Ext F w.heap ⟨r.E.B, γ⟩ F1 w.heap ⟨r.E.B, γ⟩ := frozen_ext hF1
   obtain ⟨hchk, hma, hmb⟩ := bguard hok
   simp only [Bool.and_eq_true, List.all_eq_true] at hchk
   obtain ⟨⟨hnd, hlt⟩, hnu⟩ := hchk
   have hlt' : ∀ j ∈ m, j < (frz js s.ah).length := fun j hj => Nat.le_of_ble_eq_true (hlt j hj)
   have hcore := core hW1 hmb hnu frOf_spec
   have hargs := mAs_sound (B' := lent r.E γ (frz js s.ah) (frOf m tah)) hW1 (fun _ h => .inl h) (fun j b g h1 h2 h3 k hk => .inr ⟨j, b, g, h2, h3, h1, hk⟩) hma ((args_sound hE hcaps as).ext e1)
   have hWc : WR (en F1 (lent r.E γ (frz js s.ah) (frOf m tah)) ((samesR m).map (gOf γ)) tah w.heap) F1 ((samesR m).map (gOf γ)) tah w.heap := by
    refine ⟨hcore.len, hcore.br, hcore.disj, fun j b g k h1 h2 h3 => (hcore.nf j b g k h1 h2 h3).1, hW1.fb, fun k hk => ⟨?_, fun ⟨j, b, g, h1, h2, h3⟩ => (hcore.nf j b g k h1 h2 h3).1.2 hk⟩, Nat.le_refl _, fun _ _ _ => rfl, fun _ h => h, fun _ h => .inl h, fun j b g k h1 h2 h3 => .inl ⟨j, b, g, h1, h2, h3⟩, fun _ _ h => h⟩
    rcases hk with hk | ⟨j, b, g, h1, h2, _, h3⟩
    ·exact Nat.lt_of_lt_of_le (hW1.bb k hk).1 hW1.size
    ·exact obv_lt (hW1.br _ _ _ h1 h2) k h3
   have hcall := hspec F1 _ _ w.heap _ hargs hWc w rfl
   have he := exec_call (a := a) (first := []) (caps := us) (vs := as.map a.eval) ho hfv rfl
   rw [List.nil_append] at he
   unfold Oper.wp
   rw [he]
   -- behind it
   have fin : ∀ (ok : Bool) (v : Value) (w' : World), AmbD c.d w w' → Behind F1 (lent r.E γ (frz js s.ah) (frOf m tah)) ((samesR m).map (gOf γ)) tah w.heap QQ ok v w'.heap →
     (ok = true → Nx g c r k F γ s.ah w (a.put o.dst v) w') ∧ (ok = false → Q (.panic [{ v := v, recovered := false }]) a w') := by
    intro ok v w' hA' ⟨out, ah', F', γ', hq, hca, hcb, hok, hra, hWR⟩
    obtain ⟨m1, m2, m3, m4, m5⟩ := merge hW1 hmb (nodupB_spec hnd) hlt' hcore hWR hcb
    have hk' := hk out ah' hq
    have e2 : Ext F w.heap ⟨r.E.B, γ⟩ F' w'.heap ⟨r.E.B, γ ++ γ'.drop m.length⟩ := ⟨fun q hq => m2.f q (hF1 q hq), fun b o u hb hcc => m2.h b o u (hb.imp (hF1 b) id) hcc, m2.b, m2.g⟩
    have hra' : RA F' w'.heap ⟨r.E.B, γ ++ γ'.drop m.length⟩ (renA (sig m (frz js s.ah).length) out.a) v := renA_sound m3 hra hca
    refine ⟨fun hok1 => ?_, fun hok0 => ?_⟩
    ·cases out with
     | pan a => rw [hok1] at hok; cases hok
     | ret x =>
      obtain ⟨hst, hk2⟩ := bguard (foBs_eq hk')
      obtain ⟨s', q1, q2, q3⟩ := put_sound (s := ⟨s.env, _⟩) hk2 hn hds (hA.trans hA') m1 (hE.ext e2) hra'
      have hsz : w.heap.size ≤ w'.heap.size := hWR.size
      refine ⟨F', _, s', q1, q3, fun hstr q hq => ⟨?_, by rw [q2]; exact PrOf_step hsz e2.f e2.g hst hq⟩⟩
      cases g with
      | any => cases hstr
      | grow => exact (m4 (List.isEmpty_iff.1 hg)).2 q hq (by simp)
      | prot pl =>
       refine SameAt.of (m5 q ?_)
       rcases hq with hq | hq | ⟨j, cs, v, g1, g2, g3, g4⟩
       ·exact .inl (hF1 q hq)
       ·exact .inr (.inl hq)
       ·refine .inr (.inr ⟨j, _, v, fun hj => ?_, frz_box g2, g3, g4⟩)
        have := List.all_eq_true.1 hg j hj
        rw [g1] at this; cases this
    ·cases out with
     | ret x => rw [hok0] at hok; cases hok
     | pan x => exact hQ _ _ _ ⟨v, _, _, rfl, hk', F', _, hn, hds, hA.trans hA', m1, hE.ext e2, hra'⟩
   unfold UponP at hcall
   split at hcall
   ·rename_i v w' hr
    obtain ⟨rfl, hb⟩ := hcall
    rw [hr]
    exact (fin true v _ (AmbD.refl _) hb).1 rfl
   ·rename_i f' args' w' hr
    obtain ⟨rfl, hb⟩ := hcall
    rw [hr]
    refine hb.mono fun e w'' he => ?_
    rcases he with ⟨v, rfl, hb, hA'⟩ | ⟨v, rfl, hb, hA'⟩
    ·exact (fin true v w'' hA' hb).1 rfl
    ·exact (fin false v w'' hA' hb).2 rfl
   ·exact hcall.elim
 ·exact h.elim
theorem Xo_sound (hT : TabOk c.P c.tab) {g : G} {F : Nat → Prop} {γ : List Value} {k : St → Prop} {K : XE → St → Prop} {Q : Exit → Act → World → Prop} (h : Xo c g o s k (fun v s => K (.pan v) s)) (hs : SRf c r F γ s .undef undef a w) (hQ : ∀ ch a w, Qk c r K (.panic ch) a w → Q (.panic ch) a w) :
  o.wp c.P a w (fun a' w' => Nx g c r k F γ s.ah w a' w') Q := by
 have stable : Y1 c.tab s o.op (fun x => putD c.n s o.dst x k) → o.wp c.P a w (fun a' w' => Nx g c r k F γ s.ah w a' w') Q := fun h => by
  obtain ⟨hn, hds, hA, hW, hE, _⟩ := hs
  obtain ⟨v, x, hk, hx, hrun⟩ := Y1_sound hT hE hW h
  unfold Oper.wp
  rw [hrun w (.inr (Keep.refl _ _))]
  exact put_nx hk hn hds hA hW hE hx
 have active : g.actA s o.op = true → Y2 c.tab s o.op (fun ah x => foBs ah fun ah => bif g.still ah then putD c.n ⟨s.env, ah⟩ o.dst x k else False) → o.wp c.P a w (fun a' w' => Nx g c r k F γ s.ah w a' w') Q := fun hgr h => by
  obtain ⟨hn, hds, hA, hW, hE, _⟩ := hs
  obtain ⟨nx, v, w', ah', x, F', γ', ⟨hnx, hrun⟩, hA', hk, hst, hx, hgk, hbk⟩ := Y2_sound hT hE hW h
  obtain ⟨hsl, hk2⟩ := bguard (foBs_eq hk)
  obtain ⟨s', q1, q2, q3⟩ := put_sound (s := ⟨s.env, _⟩) hk2 hn hds (hA.trans (AmbD.of hA')) hst.wr (hE.ext hst.ext) hx
  have hp : Nx g c r k F γ s.ah w (a.put o.dst v) w' := by
   refine ⟨F', γ', s', q1, q3, fun hstr q hq => ?_⟩
   have hlt := PrOf_lt hW hq
   have kp : grows s o.op = true → SameAt g w.heap w'.heap q ∧ PrOf g r.E F' γ' s'.ah w'.heap q := fun hgr' => by
    have hK := hgk hgr'
    exact ⟨.of (hK.2 q hlt (by simp)), by rw [q2]; exact PrOf_step hK.1 hst.ext.f hst.ext.g hsl hq⟩
   cases g with
   | any => cases hstr
   | grow => exact kp (by simpa [G.actA, G.act] using hgr)
   | prot pl =>
    simp only [G.actA, G.act, Bool.or_eq_true] at hgr
    rcases hgr with (hgr | hgr) | hgr
    ·exact kp hgr
    ·obtain rfl : pl = [] := List.isEmpty_iff.1 hgr
     rcases hq with hq | hq | ⟨j, cs, u, g1, _⟩
     ·exact ⟨fun o u hu => hst.ext.h q o u (.inl hq) hu, .inl (hst.ext.f q hq)⟩
     ·exact ⟨fun o u hu => hst.ext.h q o u (.inr hq) hu, .inr (.inl hq)⟩
     ·cases g1
    ·obtain ⟨hsz, hbk⟩ := hbk hgr
     refine ⟨?_, by rw [q2]; exact PrOf_step hsz hst.ext.f hst.ext.g hsl hq⟩
     rcases hq with hq | hq | ⟨j, cs, u, g1, g2, g3, g4⟩
     ·exact fun o u hu => hst.ext.h q o u (.inl hq) hu
     ·exact fun o u hu => hst.ext.h q o u (.inr hq) hu
     ·exact .of (hbk j cs u g2 g3 q g4)
  unfold Oper.wp
  rw [hrun]
  rcases hnx with rfl | ⟨rfl, rfl⟩
  ·exact hp
  ·exact hp
 unfold Xo at h
 split at h
 ·rename_i x ho
  split at h
  ·rename_i t ag cs hx
   obtain ⟨hn, hds, hA, hW, hE, _⟩ := hs
   have hc := opn_c hE hx
   generalize hv : a.eval x = v at hc
   have hc' := hc
   cases hc with
   | @iface _ _ _ _ us _ _ hr _ =>
    have hrun : (execOp a.eval o).run c.P w = .halt (.panic (.iface t (fval ag us))) w := by
     unfold execOp; rw [ho]; simp [hv, Instr.panic, goPanic]
    unfold Oper.wp
    rw [hrun]
    exact hQ _ _ _ ⟨_, _, s, rfl, h, F, γ, hn, hds, hA, hW, hE, hc'⟩
  ·exact h.elim
 ·rename_i fx as tys ho
  have ho' : o.op = .call ⟨.value fx, as.toList.toArray, tys⟩ := by rw [ho]
  exact YC_sound ho' h hs hQ
 ·rename_i op hne1 hne2
  rcases bcase h with ⟨ha, h⟩ | ⟨ha, h⟩
  ·obtain ⟨h1, h⟩ := bguard h
   exact active h1 h
  ·exact stable (bguard h).2
end
end Go.AM
end
