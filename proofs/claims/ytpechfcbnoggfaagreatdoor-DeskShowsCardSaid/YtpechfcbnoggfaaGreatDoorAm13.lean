/- part -/
import Derived.Test.YtpechfcbnoggfaaGreatDoorAm10
set_option linter.unusedVariables false
set_option linter.unusedSimpArgs false
section
namespace Go.AM
open Go Go.NB
inductive Rn where
 | new
 | same (j : Nat)
 | cut (sz j lo n : Nat)
def all2 (f : C → C → Prop) : List C → List C → Prop
 | [], [] => True
 | x :: r, y :: q => f x y ∧ all2 f r q
 | _, _ => False
def pre2 (f : C → C → Prop) : List C → List C → Prop
 | _, [] => True
 | x :: r, y :: q => f x y ∧ pre2 f r q
 | [], _ :: _ => False
def frOK (fr : Nat → Bool) (ah : List B) (j : Nat) : Bool := match ah[j]? with
 | some (.fro ..) => true
 | some (.row ..) => fr j
 | some (.box _ _) => fr j
 | _ => false
def mC (fr : Nat → Bool) (ah : List B) : Nat → List Rn → C → C → Prop
 | 0, _, _, _ => False
 | n + 1, ρ, c0, c => match c with
  | .rw i => match ρ[i]? with
   | some (.same j) => c0 = .rw j
   | some .new => c0 = .nil
   | some (.cut sz j lo m) => c0 = .sw sz j lo m
   | none => False
  | .sw sz i lo m => match ρ[i]? with
   | some (.same j) => c0 = .sw sz j lo m
   | _ => False
  | .ptr i o => match ρ[i]? with
   | some (.same j) => c0 = .ptr j o
   | _ => False
  | .ep sz i x o => match ρ[i]? with
   | some (.same j) => c0 = .ep sz j x o
   | _ => False
  | .ls sz α enc l => match c0 with
   | .nil => l = []
   | .ls sz' α' enc' l' => (⟨sz', α', enc', l'⟩ : LS) = ⟨sz, α, enc, l⟩
   | .rw j => match ah[j]? with
    | some (.fro sz' α' enc' l') => (⟨sz', α', enc', l'⟩ : LS) = ⟨sz, α, enc, l⟩
    | _ => False
   | .sw sz0 j lo m => match ah[j]? with
    | some (.fro sz' α' enc' l') => bif Nat.beq sz0 sz' then (⟨sz', α', enc', (l'.drop lo).take m⟩ : LS) = ⟨sz, α, enc, l⟩ else False
    | _ => False
   | _ => False
  | .bs sz α enc l => match c0 with
   | .nil => l = []
   | .ls sz' α' enc' l' => (⟨sz', α', enc', l'⟩ : LS) = ⟨sz, α, enc, l⟩
   | .bs sz' α' enc' l' => (⟨sz', α', enc', l'⟩ : LS) = ⟨sz, α, enc, l⟩
   | .rw j => bif frOK fr ah j then (ah[j]?).bind rowOf = some ⟨sz, α, enc, l⟩ else False
   | .sw sz0 j lo m => bif frOK fr ah j then slOf ah (.sw sz0 j lo m) = some ⟨sz, α, enc, l⟩ else False
   | _ => False
  | .bp cs => match c0 with
   | .bp cs0 => pre2 (mC fr ah n []) cs0 cs
   | .ptr j o => match ah[j]? with
    | some (.box cs0 _) => bif fr j then pre2 (mC fr ah n []) (cs0.drop o) cs else False
    | _ => False
   | .ep sz j i o => bif frOK fr ah j then match (ah[j]?).bind rowOf with
    | some L => bif Nat.beq sz L.sz then ∃ x, L.l[i]? = some x ∧ pre2 (mC fr ah n []) ((L.enc x).drop o) cs else False
    | none => False
    else False
   | _ => False
  | .fn f caps => match c0 with
   | .fn f0 caps0 => f0 = f ∧ all2 (mC fr ah n ρ) caps0 caps
   | _ => False
  | .iface t g cs => match c0 with
   | .iface t0 g0 cs0 => (t0 = t ∧ g0 = g) ∧ all2 (mC fr ah n ρ) cs0 cs
   | _ => False
  | c => c0 = c
def gOf (γ : List Value) : Rn → Value
 | .same j => (γ[j]?).getD undef
 | .new => .slice none 0 0
 | .cut sz j lo n => match γ[j]? with
  | some (.slice p _ cap) => .slice (p.map (·.add (lo * sz))) n (cap - lo)
  | _ => undef
section
variable {E : En} {F : Nat → Prop} {γ : List Value} {ah : List B} {H : Heap} {B' : Nat → Prop} {fr : Nat → Bool}
theorem RL.ls_of {m m' : Md} {sz : Nat} {α : Type} {enc : α → List C} {l : List α} {v : Value} (h : RL F H m [.ls sz α enc l] [v]) : RL F H m' [.ls sz α enc l] [v] := by
 cases h with
 | ls0 _ => exact .ls0 .nl
 | ls hb h1 h2 hr hz hc _ => exact .ls hb h1 h2 hr hz hc .nl
theorem RL.ls_bs {m m' : Md} {sz : Nat} {α : Type} {enc : α → List C} {l : List α} {v : Value} (h : RL F H m [.ls sz α enc l] [v]) : RL F H m' [.bs sz α enc l] [v] := by
 cases h with
 | ls0 _ => exact .bs0 .nl
 | ls hb h1 h2 hr hz hc _ => exact .bs (.inl hb) h1 h2 hr hz hc .nl
theorem RL.bs_ptr {m : Md} {sz : Nat} {α : Type} {enc : α → List C} {l : List α} {p q : Option Addr} {n cap : Nat} (hs : SV F H ⟨sz, α, enc, l⟩ (.slice p n cap)) (h : RL F H m [.bs sz α enc l] [.slice p n cap]) (hq : cap ≠ 0 → q = p) : RL F H m [.bs sz α enc l] [.slice q n cap] := by
 by_cases e : cap = 0
 ·obtain ⟨p', cap', e', h1, _⟩ := hs.slice
  cases e'
  have h1 : l.length ≤ cap := h1
  have : l = [] := List.eq_nil_of_length_eq_zero (by omega)
  subst this
  rw [e]
  exact .bs0 .nl
 ·rw [hq e]; exact h
theorem row_bs {b : B} {g : Value} {L : LS} {m m' : Md} (h : BR F H m b g) (hL : rowOf b = some L) (hB : ∀ k ∈ obv b g, m'.B k) : RL F H m' [.bs L.sz L.α L.enc L.l] [g] := by
 cases b with
 | box cs ty => cases hL
 | dead => cases hL
 | buf => cases hL
 | row sz α enc l =>
  have hs := row_sv h hL
  cases hL
  rcases h with ⟨p, rfl, rfl⟩ | ⟨k, off, cap, cur, t, css, rfl, h1, h2, h3, h4, h5, h6, h7⟩
  ·exact .bs0 .nl
  ·rcases hs with ⟨p', e, e2⟩ | ⟨b, off', cap', css', e, g1, g2, g3, g4, g5⟩
   ·simp at e
   ·simp at e
    obtain ⟨⟨rfl, rfl⟩, rfl⟩ := e
    exact .bs (.inr (hB k (by simp [obv]))) g1 g2 g3 g4 g5 .nl
 | fro sz α enc l => cases hL; exact RL.ls_bs h
theorem frOK_B (hfr : ∀ j b g, fr j = true → ah[j]? = some b → γ[j]? = some g → ∀ k ∈ obv b g, B' k) {j : Nat} {b : B} {g : Value} (h : frOK fr ah j = true) (hb : ah[j]? = some b) (hg : γ[j]? = some g) : ∀ k ∈ obv b g, B' k := by
 unfold frOK at h
 rw [hb] at h
 cases b with
 | fro => intro k hk; simp [obv] at hk
 | row => exact hfr j _ _ h hb hg
 | box => exact hfr j _ _ h hb hg
 | dead => cases h
 | buf => cases h
theorem pre2_sound {f : C → C → Prop} {m m' : Md} (hf : ∀ c0 c v, f c0 c → RL F H m [c0] [v] → RL F H m' [c] [v]) : ∀ {cs0 cs : List C} {vs : List Value}, pre2 f cs0 cs → RL F H m cs0 vs → ∃ us : List Value, RL F H m' cs us ∧ ∀ (j : Nat) (u : Value), us[j]? = some u → vs[j]? = some u
 | _, [], vs, _, _ => ⟨[], .nl, fun j u h => by simp at h⟩
 | c0 :: cs0, c :: cs, vs, ⟨h1, h2⟩, hr => by
  obtain ⟨v, us, rfl, h3, h4⟩ := hr.uncons
  obtain ⟨us', h5, h6⟩ := pre2_sound hf h2 h4
  refine ⟨v :: us', (hf _ _ _ h1 h3).cons h5, fun j u hj => ?_⟩
  cases j with
  | zero => simpa using hj
  | succ j => simpa using h6 j u (by simpa using hj)
theorem all2_sound {f : C → C → Prop} {m m' : Md} (hf : ∀ c0 c v, f c0 c → RL F H m [c0] [v] → RL F H m' [c] [v]) : ∀ {cs0 cs : List C} {vs : List Value}, all2 f cs0 cs → RL F H m cs0 vs → RL F H m' cs vs
 | [], [], vs, _, hr => by cases hr; exact .nl
 | c0 :: cs0, c :: cs, vs, ⟨h1, h2⟩, hr => by
  obtain ⟨v, us, rfl, h3, h4⟩ := hr.uncons
  exact (hf _ _ _ h1 h3).cons (all2_sound hf h2 h4)
theorem all2_len {f : C → C → Prop} : ∀ {cs0 cs : List C}, all2 f cs0 cs → cs0.length = cs.length
 | [], [], _ => rfl
 | _ :: _, _ :: _, ⟨_, h⟩ => by simp [all2_len h]
theorem RL.noγ {m : Md} {cs : List C} {vs : List Value} (h : RL F H ⟨m.B, []⟩ cs vs) : RL F H m cs vs := h.ext ⟨fun _ h => h, fun _ _ _ _ h => h, fun _ h => h, fun j v h => by cases h⟩
theorem bs_blk {m : Md} {sz : Nat} {α : Type} {enc : α → List C} {l : List α} {b off n cap : Nat} (h : RL F H m [.bs sz α enc l] [.slice (some ⟨b, off, none⟩) n cap]) (hl : l ≠ []) : F b ∨ m.B b := by
 cases h with
 | bs0 _ => exact (hl rfl).elim
 | bs hb _ _ _ _ _ _ => exact hb
theorem mC_sound (hW : WR E F γ ah H) (hB : ∀ k, E.B k → B' k) (hfr : ∀ j b g, fr j = true → ah[j]? = some b → γ[j]? = some g → ∀ k ∈ obv b g, B' k) :
  ∀ (n : Nat) {ρ : List Rn} {c0 c : C} {v : Value}, mC fr ah n ρ c0 c → RL F H ⟨E.B, γ⟩ [c0] [v] → RL F H ⟨B', ρ.map (gOf γ)⟩ [c] [v] := by
 intro n
 induction n with
 | zero => intro ρ c0 c v h; exact h.elim
 | succ n ih =>
  intro ρ c0 c v h hr
  have hat : ∀ {i j : Nat} {g : Value}, ρ[i]? = some (.same j) → γ[j]? = some g → (ρ.map (gOf γ))[i]? = some g := fun hi hg => by
   rw [List.getElem?_map, hi]; simp [gOf, hg]
  have bpc : ∀ {b o : Nat} {cs0 cs : List C} {vs : List Value} {m : Md}, (F b ∨ B' b) → RL F H ⟨E.B, γ⟩ cs0 vs → (∀ j u, vs[j]? = some u → cell H b (o + j) = some u) → pre2 (mC fr ah n []) cs0 cs → RL F H ⟨B', ρ.map (gOf γ)⟩ [.bp cs] [.pointer (some ⟨b, o, none⟩)] := fun hb h1 h2 h3 => by
   obtain ⟨us, g1, g2⟩ := pre2_sound (m' := ⟨B', []⟩) (fun c0 c v h hr => ih (ρ := []) h hr) h3 h1
   exact .bp hb g1 (fun j u hj => h2 j u (g2 j u hj)) .nl
  cases c with
  | rw i =>
   simp only [mC] at h
   split at h
   ·rename_i j hi
    subst h
    cases hr with
    | rw hg hq _ => exact .rw (hat hi hg) hq .nl
   ·rename_i hi
    subst h
    cases hr
    refine .rw (p := none) (by rw [List.getElem?_map, hi]; rfl) (fun h => (h rfl).elim) .nl
   ·rename_i sz j lo m hi
    subst h
    cases hr with
    | @sw _ _ _ _ _ p q n0 cap _ _ hg hle hq _ =>
     have hg' : γ[j]? = some _ := hg
     exact .rw (p := p.map (·.add (lo * sz))) (by rw [List.getElem?_map, hi]; simp [gOf, hg']) (fun h => hq (by omega)) .nl
   ·exact h.elim
  | sw sz i lo m =>
   simp only [mC] at h
   split at h
   ·rename_i j hi
    subst h
    cases hr with
    | sw hg hle hq _ => exact .sw (hat hi hg) hle hq .nl
   ·exact h.elim
  | ptr i o =>
   simp only [mC] at h
   split at h
   ·rename_i j hi
    subst h
    cases hr with
    | ptr hg _ => exact .ptr (hat hi hg) .nl
   ·exact h.elim
  | ep sz i x o =>
   simp only [mC] at h
   split at h
   ·rename_i j hi
    subst h
    cases hr with
    | ep hg _ => exact .ep (hat hi hg) .nl
   ·exact h.elim
  | ls sz α enc l =>
   simp only [mC] at h
   split at h
   ·subst h; cases hr; exact .ls0 .nl
   ·cases h; exact hr.ls_of
   ·split at h
    ·rename_i hb
     cases h
     cases hr with
     | rw hg hq _ => exact RL.ls_of (m := m0) ((RL.up (m := m0) (hW.br _ _ _ hb hg)).ptr' hq)
    ·exact h.elim
   ·rename_i sz0 j lo m
    split at h
    ·rename_i sz' α' enc' l' hb
     obtain ⟨hz, h⟩ := bguard h
     obtain rfl := Nat.eq_of_beq_eq_true hz
     have h1 := fz1_sound hW hr
     rw [show fz1 ah (.sw sz0 j lo m) = (ah, .ls sz0 α' enc' ((l'.drop lo).take m)) by simp only [fz1, hb, hz, cond_true]] at h1
     cases hr with
     | @sw _ _ _ _ _ p q n0 cap _ _ hg hle hq _ =>
      have hf : RL F H m0 [.ls sz0 α' enc' l'] [.slice p n0 cap] := hW.br _ _ _ hb hg
      cases h
      have hn : n0 = l'.length := by
       obtain ⟨p', cap', e, _⟩ := hf.sv.slice
       cases e; rfl
      by_cases e : cap = lo
      ·obtain ⟨p', cap', e', g1, _⟩ := hf.sv.slice
       cases e'
       have g1 : l'.length ≤ cap := g1
       obtain rfl : m = 0 := by omega
       rw [List.take_zero, e, Nat.sub_self]
       exact .ls0 .nl
      ·have := hf.cut (x := lo) (y := lo + m) (by omega) (by omega)
       simp only [subv, if_neg e] at this
       rw [hq e]
       rw [show lo + m - lo = m by omega] at this
       exact this.ls_of
    ·exact h.elim
   ·exact h.elim
  | bs sz α enc l =>
   simp only [mC] at h
   split at h
   ·subst h; cases hr; exact .bs0 .nl
   ·cases h; exact hr.ls_bs
   ·cases h
    cases hr with
    | bs0 _ => exact .bs0 .nl
    | bs hb h1 h2 hr hz hc _ => exact .bs (hb.imp id (hB _)) h1 h2 hr hz hc .nl
   ·rename_i j
    obtain ⟨hf, h⟩ := bguard h
    obtain ⟨b, hb, hL⟩ := Option.bind_eq_some_iff.1 h
    cases hr with
    | rw hg hq _ =>
     have hg' : γ[j]? = some _ := hg
     exact RL.bs_ptr (row_sv (hW.br _ _ _ hb hg') hL) (row_bs (m' := ⟨B', ρ.map (gOf γ)⟩) (hW.br _ _ _ hb hg') hL (frOK_B hfr hf hb hg')) hq
   ·rename_i sz0 j lo m
    obtain ⟨hf, h⟩ := bguard h
    have hs := hW.sl hr h
    cases hr with
    | @sw _ _ _ _ _ p q n0 cap _ _ hg hle hq _ =>
     have hg' : γ[j]? = some _ := hg
     simp only [slOf] at h
     cases hb : (ah[j]?).bind rowOf with
     | none => rw [hb] at h; cases h
     | some L0 =>
      rw [hb] at h
      simp only [] at h
      by_cases hz : Nat.beq sz0 L0.sz = true
      ·rw [hz] at h
       obtain ⟨b, hb1, hL⟩ := Option.bind_eq_some_iff.1 hb
       have hz := Nat.eq_of_beq_eq_true hz
       have hrow := row_bs (m' := ⟨B', ρ.map (gOf γ)⟩) (hW.br _ _ _ hb1 hg') hL (frOK_B hfr hf hb1 hg')
       have hsv := row_sv (hW.br _ _ _ hb1 hg') hL
       have hn : n0 = L0.l.length := by
        obtain ⟨p', cap', e, _⟩ := hsv.slice
        cases e; rfl
       cases h
       by_cases e : cap = lo
       ·obtain ⟨p', cap', e', g1, _⟩ := hsv.slice
        cases e'
        obtain rfl : m = 0 := by omega
        rw [List.take_zero, e, Nat.sub_self]
        exact .bs0 .nl
       ·have := RL.cutb hsv hrow (x := lo) (y := lo + m) (by omega) (by omega)
        simp only [subv, if_neg e] at this
        rw [hq e, hz]
        rw [show lo + m - lo = m by omega] at this
        exact this
      ·rw [Bool.not_eq_true] at hz; rw [hz] at h; cases h
   ·exact h.elim
  | bp cs =>
   simp only [mC] at h
   split at h
   ·cases hr with
    | bp hb hr' hc _ => exact bpc (m := m0) (hb.imp id (hB _)) hr'.noγ hc h
   ·rename_i j o
    split at h
    ·rename_i cs0 hb
     obtain ⟨hf, h⟩ := bguard h
     cases hr with
     | ptr hg _ =>
      have hg' : γ[j]? = some _ := hg
      obtain ⟨k', vs, e, h1, h2⟩ := box_get (o := o) (hW.br j _ _ hb hg')
      cases e
      exact bpc (m := m0) (.inr (hfr j _ _ hf hb hg' _ (by simp [obv]))) h1 h2 h
    ·exact h.elim
   ·rename_i sz j i o
    obtain ⟨hf, h⟩ := bguard h
    split at h
    ·rename_i L hL
     obtain ⟨hz, x, hi, h'⟩ := bguard h
     obtain rfl := Nat.eq_of_beq_eq_true hz
     obtain ⟨b, hb, hL⟩ := Option.bind_eq_some_iff.1 hL
     cases hr with
     | ep hg _ =>
      have hg' : γ[j]? = some _ := hg
      obtain ⟨us, h1, h2⟩ := rowOf_br (hW.br j b _ hb hg') hL rfl hi o
      have hbl := row_bs (m' := ⟨B', []⟩) (hW.br j b _ hb hg') hL (frOK_B hfr hf hb hg')
      have hblk := bs_blk hbl (List.ne_nil_of_length_pos (by have := (List.getElem?_eq_some_iff.1 hi).1; omega))
      exact bpc (m := m0) hblk h1.up h2 h'
    ·exact h.elim
   ·exact h.elim
  | fn f caps =>
   simp only [mC] at h
   split at h
   ·obtain ⟨rfl, h⟩ := h
    cases hr with
    | fn hr' _ => exact .fn (all2_sound (fun c0 c v h hr => ih h hr) h hr') .nl
   ·exact h.elim
  | iface t g cs =>
   simp only [mC] at h
   split at h
   ·obtain ⟨⟨rfl, rfl⟩, h⟩ := h
    cases hr with
    | iface hr' _ => exact .iface (all2_sound (fun c0 c v h hr => ih h hr) h hr') .nl
   ·exact h.elim
  | int k i => simp only [mC] at h; subst h; cases hr; exact .int .nl
  | bool b => simp only [mC] at h; subst h; cases hr; exact .bool .nl
  | str l => simp only [mC] at h; subst h; cases hr with | str h _ => exact .str h .nl
  | raw v => simp only [mC] at h; subst h; cases hr with | raw h _ => exact .raw h .nl
  | nil => simp only [mC] at h; subst h; cases hr; exact .nil .nl
end
end Go.AM
end
/- part -/
section
namespace Go.AM
open Go Go.NB
def tyLe : Option Nat → Option Nat → Prop
 | none, _ => True
 | some q, t0 => t0 = some q
theorem tyLe_getD {t t0 : Option Nat} (h : tyLe t t0) (e : Nat) : t.getD (t0.getD e) = t0.getD e := by
 cases t with
 | none => rfl
 | some q => rw [show t0 = some q from h]; rfl
def mB (fr : Nat → Bool) (ah : List B) (ρ : List Rn) (r : Rn) (b : B) : Prop :=
 match b with
 | .dead => True
 | .box cs t => match r with
  | .same j => match ah[j]? with
   | some (.box cs0 t0) => tyLe t t0 ∧ all2 (mC fr ah 5 ρ) cs0 cs
   | _ => False
  | _ => False
 | .row sz α enc l => match r with
  | .same j => match ah[j]? with
   | some (.row sz' α' enc' l') => (⟨sz', α', enc', l'⟩ : LS) = ⟨sz, α, enc, l⟩
   | _ => False
  | .new => l = []
  | .cut sz0 j lo m => match ah[j]? with
   | some (.row sz' α' enc' l') => bif Nat.beq sz0 sz' then lo + m ≤ l'.length ∧ (⟨sz', α', enc', (l'.drop lo).take m⟩ : LS) = ⟨sz, α, enc, l⟩ else False
   | _ => False
 | .fro sz α enc l => match r with
  | .same j => match ah[j]? with
   | some (.fro sz' α' enc' l') => (⟨sz', α', enc', l'⟩ : LS) = ⟨sz, α, enc, l⟩
   | _ => False
  | _ => False
 | .buf t sz α enc l => match r with
  | .same j => match ah[j]? with
   | some (.buf t' sz' α' enc' l') => t' = t ∧ (⟨sz', α', enc', l'⟩ : LS) = ⟨sz, α, enc, l⟩
   | _ => False
  | .new => l = []
  | _ => False
def mBs (fr : Nat → Bool) (ah : List B) (ρ : List Rn) : List Rn → List B → Prop
 | [], [] => True
 | r :: rs, b :: bs => mB fr ah ρ r b ∧ mBs fr ah ρ rs bs
 | _, _ => False
def srcR : Rn → List Nat
 | .same j => [j]
 | .cut _ j _ _ => [j]
 | .new => []
def liveB : B → Bool
 | .box .. | .row .. | .buf .. => true
 | _ => false
def usedOf : List Rn → List B → List Nat
 | r :: rs, .box _ _ :: bs => srcR r ++ usedOf rs bs
 | r :: rs, .row .. :: bs => srcR r ++ usedOf rs bs
 | r :: rs, .buf .. :: bs => srcR r ++ usedOf rs bs
 | _ :: rs, _ :: bs => usedOf rs bs
 | _, _ => []
def nodupB : List Nat → Bool
 | [] => true
 | j :: r => !(r.any (Nat.beq j)) && nodupB r
theorem nodupB_spec : ∀ {l : List Nat}, nodupB l = true → l.Nodup
 | [], _ => .nil
 | j :: r, h => by
  simp only [nodupB, Bool.and_eq_true, Bool.not_eq_true', List.any_eq_false] at h
  refine List.nodup_cons.2 ⟨fun hj => h.1 j hj (Nat.beq_refl j), nodupB_spec h.2⟩
section
variable {E : En} {F : Nat → Prop} {γ : List Value} {ah : List B} {H : Heap} {B' : Nat → Prop} {fr : Nat → Bool} {ρ : List Rn} {tah : List B}
theorem mBs_get : ∀ {rs : List Rn} {bs : List B}, mBs fr ah ρ rs bs → rs.length = bs.length ∧ ∀ (i : Nat) (b : B), bs[i]? = some b → ∃ r, rs[i]? = some r ∧ mB fr ah ρ r b
 | [], [], _ => ⟨rfl, fun i b h => by simp at h⟩
 | r :: rs, b :: bs, ⟨h1, h2⟩ => by
  obtain ⟨h3, h4⟩ := mBs_get h2
  refine ⟨by simp [h3], fun i b' h => ?_⟩
  cases i with
  | zero => cases h; exact ⟨r, rfl, h1⟩
  | succ i => simpa using h4 i b' (by simpa using h)
theorem mB_own (hW : WR E F γ ah H) {r : Rn} {b : B} (h : mB fr ah ρ r b) : ∀ k ∈ obv b (gOf γ r), ∃ j bj gj, srcR r = [j] ∧ ah[j]? = some bj ∧ γ[j]? = some gj ∧ k ∈ obv bj gj ∧ liveB b = true := by
 intro k hk
 have gget : ∀ {j : Nat} {bj : B}, ah[j]? = some bj → ∃ gj, γ[j]? = some gj := fun hj => ⟨_, List.getElem?_eq_getElem (by rw [hW.len]; exact (List.getElem?_eq_some_iff.1 hj).1)⟩
 cases b with
 | dead => simp [obv] at hk
 | fro => simp [obv] at hk
 | buf t sz α enc l =>
  cases r with
  | same j =>
   simp only [mB] at h
   split at h
   ·rename_i hj
    obtain ⟨gj, hg⟩ := gget hj
    refine ⟨j, _, gj, rfl, hj, hg, ?_, rfl⟩
    simp only [gOf, hg, Option.getD_some] at hk
    cases gj with
    | slice p n c => cases p <;> cases c <;> first | (simp [obv] at hk; done) | simpa [obv] using hk
    | _ => simp [obv] at hk
   ·exact h.elim
  | new => simp [gOf, obv] at hk
  | cut => simp only [mB] at h
 | box cs ty =>
  cases r with
  | same j =>
   simp only [mB] at h
   split at h
   ·rename_i cs0 t0 hj
    obtain ⟨gj, hg⟩ := gget hj
    refine ⟨j, _, gj, rfl, hj, hg, ?_, rfl⟩
    simp only [gOf, hg, Option.getD_some] at hk
    cases gj with
    | pointer p => cases p <;> first | (simp [obv] at hk; done) | simpa [obv] using hk
    | _ => simp [obv] at hk
   ·exact h.elim
  | _ => simp only [mB] at h
 | row sz α enc l =>
  cases r with
  | same j =>
   simp only [mB] at h
   split at h
   ·rename_i hj
    obtain ⟨gj, hg⟩ := gget hj
    refine ⟨j, _, gj, rfl, hj, hg, ?_, rfl⟩
    simp only [gOf, hg, Option.getD_some] at hk
    rw [obv_row] at hk ⊢
    exact hk
   ·exact h.elim
  | new => simp [gOf, obv] at hk
  | cut sz0 j lo m =>
   simp only [mB] at h
   split at h
   ·rename_i sz' α' enc' l' hj
    obtain ⟨hz, h1, h2⟩ := bguard h
    obtain ⟨gj, hg⟩ := gget hj
    refine ⟨j, _, gj, rfl, hj, hg, ?_, rfl⟩
    obtain ⟨cs, g1, g2, g3⟩ := row_g (hW.br _ _ _ hj hg)
    obtain ⟨p, n0, cap, rfl⟩ : ∃ p n0 cap, gj = .slice p n0 cap := by
     rcases g1.2 with ⟨p, e, _⟩ | ⟨_, _, _, _, _, e, _⟩ <;> exact ⟨_, _, _, e⟩
    have hn : n0 = l'.length := by
     rcases g1.2 with ⟨p, e, e2⟩ | ⟨_, _, _, _, _, e, _⟩
     ·cases e; exact e2.symm
     ·simp at e; exact e.2.1
    subst hn
    simp only [gOf, hg] at hk
    rw [obv_row] at hk ⊢
    exact (g1.part (lo := lo) (n := m) h1 (fun _ => rfl)).2 k (by rw [Nat.eq_of_beq_eq_true hz] at hk; exact hk)
   ·exact h.elim
theorem usedOf_mem : ∀ {rs : List Rn} {bs : List B} {i j : Nat} {r : Rn} {b : B}, rs[i]? = some r → bs[i]? = some b → liveB b = true → srcR r = [j] → j ∈ usedOf rs bs
 | [], _, i, j, r, b, hr, _, _, _ => by simp at hr
 | _ :: _, [], i, j, r, b, _, hb, _, _ => by simp at hb
 | r' :: rs, b' :: bs, 0, j, r, b, hr, hb, hl, hs => by
  cases hr; cases hb
  cases b' with
  | box => simp [usedOf, hs]
  | row => simp [usedOf, hs]
  | buf => simp [usedOf, hs]
  | fro => cases hl
  | dead => cases hl
 | r' :: rs, b' :: bs, i + 1, j, r, b, hr, hb, hl, hs => by
  have := usedOf_mem (rs := rs) (bs := bs) (i := i) (by simpa using hr) (by simpa using hb) hl hs
  cases b' <;> simp [usedOf, this]
theorem usedOf_nodup : ∀ {rs : List Rn} {bs : List B} {i i' j : Nat} {r r' : Rn} {b b' : B}, (usedOf rs bs).Nodup → i ≠ i' → rs[i]? = some r → bs[i]? = some b → rs[i']? = some r' → bs[i']? = some b' →
  liveB b = true → liveB b' = true → srcR r = [j] → srcR r' = [j] → False
 | [], _, i, i', j, r, r', b, b', _, _, hr, _, _, _, _, _, _, _ => by simp at hr
 | _ :: _, [], i, i', j, r, r', b, b', _, _, _, hb, _, _, _, _, _, _ => by simp at hb
 | r0 :: rs, b0 :: bs, i, i', j, r, r', b, b', hn, hne, hr, hb, hr', hb', hl, hl', hs, hs' => by
  have hn2 : (usedOf rs bs).Nodup := by
   cases b0 <;> simp only [usedOf] at hn
   ·exact (List.nodup_append.1 hn).2.1
   ·exact (List.nodup_append.1 hn).2.1
   ·exact hn
   ·exact (List.nodup_append.1 hn).2.1
   ·exact hn
  have hdis : ∀ {q : Nat}, liveB b0 = true → srcR r0 = [q] → q ∈ usedOf rs bs → False := fun {q} hl hs hm => by
   cases b0 with
   | box _ _ =>
    simp only [usedOf, hs] at hn
    exact (List.nodup_append.1 hn).2.2 q (by simp) q hm rfl
   | row =>
    simp only [usedOf, hs] at hn
    exact (List.nodup_append.1 hn).2.2 q (by simp) q hm rfl
   | buf =>
    simp only [usedOf, hs] at hn
    exact (List.nodup_append.1 hn).2.2 q (by simp) q hm rfl
   | fro => cases hl
   | dead => cases hl
  cases i with
  | zero =>
   cases i' with
   | zero => exact hne rfl
   | succ i' =>
    cases hr; cases hb
    exact hdis hl hs (usedOf_mem (i := i') (by simpa using hr') (by simpa using hb') hl' hs')
  | succ i =>
   cases i' with
   | zero =>
    cases hr'; cases hb'
    exact hdis hl' hs' (usedOf_mem (i := i) (by simpa using hr) (by simpa using hb) hl hs)
   | succ i' => exact usedOf_nodup (i := i) (i' := i') hn2 (by omega) (by simpa using hr) (by simpa using hb) (by simpa using hr') (by simpa using hb') hl hl' hs hs'
structure Core (B' : Nat → Prop) (own : Nat → Prop) (F : Nat → Prop) (γ : List Value) (ah : List B) (H : Heap) : Prop where
 len : γ.length = ah.length
 br : ∀ (j : Nat) (b : B) (g : Value), ah[j]? = some b → γ[j]? = some g → BR F H ⟨B', γ⟩ b g
 disj : ∀ (i j : Nat) (b b' : B) (g g' : Value), i ≠ j → ah[i]? = some b → γ[i]? = some g → ah[j]? = some b' → γ[j]? = some g' → ∀ k, k ∈ obv b g → k ∉ obv b' g'
 nf : ∀ (j : Nat) (b : B) (g : Value) (k : Nat), ah[j]? = some b → γ[j]? = some g → k ∈ obv b g → (¬ F k ∧ ¬ B' k) ∧ own k
def lent (E : En) (γ : List Value) (ah : List B) (fr : Nat → Bool) (k : Nat) : Prop := E.B k ∨ ∃ (j : Nat) (b : B) (g : Value), ah[j]? = some b ∧ γ[j]? = some g ∧ fr j = true ∧ k ∈ obv b g
def owned (γ : List Value) (ah : List B) (k : Nat) : Prop := ∃ (j : Nat) (b : B) (g : Value), ah[j]? = some b ∧ γ[j]? = some g ∧ k ∈ obv b g
theorem core (hW : WR E F γ ah H) (hm : mBs fr ah ρ ρ tah) (hnd : nodupB (usedOf ρ tah) = true) (hfu : ∀ j, fr j = true → j ∉ usedOf ρ tah) :
  Core (lent E γ ah fr) (owned γ ah) F (ρ.map (gOf γ)) tah H := by
 obtain ⟨hlen, hget⟩ := mBs_get hm
 have hget' : ∀ {i : Nat} {b : B} {g : Value}, tah[i]? = some b → (ρ.map (gOf γ))[i]? = some g → ∃ r, ρ[i]? = some r ∧ g = gOf γ r ∧ mB fr ah ρ r b := fun hb hg => by
  obtain ⟨r, h1, h2⟩ := hget _ _ hb
  rw [List.getElem?_map, h1] at hg
  exact ⟨r, h1, by simpa using hg.symm, h2⟩
 have hND := nodupB_spec hnd
 refine ⟨by simp [hlen], fun i b g hb hg => ?_, fun i i' b b' g g' hne hb hg hb' hg' k hk hk' => ?_, fun i b g k hb hg hk => ?_⟩
 ·obtain ⟨r, hr, rfl, hmb⟩ := hget' hb hg
  have hcell : ∀ {cs0 cs : List C} {vs : List Value}, all2 (mC fr ah 5 ρ) cs0 cs → RL F H ⟨E.B, γ⟩ cs0 vs → RL F H ⟨lent E γ ah fr, ρ.map (gOf γ)⟩ cs vs := fun h1 h2 =>
   all2_sound (fun c0 c v h hr => mC_sound hW (fun _ h => .inl h) (fun j b g h1 h2 h3 k hk => .inr ⟨j, b, g, h2, h3, h1, hk⟩) 5 h hr) h1 h2
  have gget : ∀ {j : Nat} {bj : B}, ah[j]? = some bj → ∃ gj, γ[j]? = some gj := fun hj => ⟨_, List.getElem?_eq_getElem (by rw [hW.len]; exact (List.getElem?_eq_some_iff.1 hj).1)⟩
  cases b with
  | dead => trivial
  | buf t sz α enc l =>
   cases r with
   | same j =>
    simp only [mB] at hmb
    split at hmb
    ·rename_i hj
     obtain ⟨gj, hgj⟩ := gget hj
     obtain ⟨rfl, hmb⟩ := hmb
     cases hmb
     have := hW.br _ _ _ hj hgj
     simp only [gOf, hgj, Option.getD_some]
     exact this
    ·exact hmb.elim
   | new => exact .inl ⟨none, rfl, hmb⟩
   | cut => simp only [mB] at hmb
  | box cs ty =>
   cases r with
   | same j =>
    simp only [mB] at hmb
    split at hmb
    ·rename_i cs0 t0 hj
     obtain ⟨gj, hgj⟩ := gget hj
     obtain ⟨k, e, vs, h1, h2, h3⟩ := hW.br _ _ _ hj hgj
     refine ⟨k, t0.getD e, vs, ?_, by rw [tyLe_getD hmb.1]; exact h2, hcell hmb.2 h3⟩
     simp [gOf, hgj, h1]
    ·exact hmb.elim
   | _ => simp only [mB] at hmb
  | row sz α enc l =>
   cases r with
   | same j =>
    simp only [mB] at hmb
    split at hmb
    ·rename_i hj
     obtain ⟨gj, hgj⟩ := gget hj
     cases hmb
     have := hW.br _ _ _ hj hgj
     simp only [gOf, hgj, Option.getD_some]
     exact this
    ·exact hmb.elim
   | new => exact .inl ⟨none, rfl, hmb⟩
   | cut sz0 j lo m =>
    simp only [mB] at hmb
    split at hmb
    ·rename_i sz' α' enc' l' hj
     obtain ⟨hz, h1, h2⟩ := bguard hmb
     have hz := Nat.eq_of_beq_eq_true hz
     obtain ⟨gj, hgj⟩ := gget hj
     obtain ⟨cs, g1, g2, g3⟩ := row_g (hW.br _ _ _ hj hgj)
     obtain ⟨p, n0, cap, rfl⟩ : ∃ p n0 cap, gj = .slice p n0 cap := by
      rcases g1.2 with ⟨p, e, _⟩ | ⟨_, _, _, _, _, e, _⟩ <;> exact ⟨_, _, _, e⟩
     have hn : n0 = l'.length := by
      rcases g1.2 with ⟨p, e, e2⟩ | ⟨_, _, _, _, _, e, _⟩
      ·cases e; exact e2.symm
      ·simp at e; exact e.2.1
     subst hn
     cases h2
     simp only [gOf, hgj]
     rw [hz]
     have h6 : ∀ x ∈ l'.drop lo, (enc x).length = sz := fun x hx => g3 x (List.mem_of_mem_drop hx)
     refine g_row (g1.part (lo := lo) (n := m) h1 (fun _ => rfl)).1 (by rw [List.length_take, List.length_drop]; omega) ?_ (fun x hx => h6 x (List.mem_of_mem_take hx))
     rw [← flat_take m h6, ← flat_drop lo g3]
     exact (g2.drop _).take _
    ·exact hmb.elim
  | fro sz α enc l =>
   cases r with
   | same j =>
    simp only [mB] at hmb
    split at hmb
    ·rename_i hj
     obtain ⟨gj, hgj⟩ := gget hj
     cases hmb
     have := hW.br _ _ _ hj hgj
     simp only [gOf, hgj, Option.getD_some]
     exact this
    ·exact hmb.elim
   | _ => simp only [mB] at hmb
 ·obtain ⟨r, hr, rfl, hmb⟩ := hget' hb hg
  obtain ⟨r', hr', rfl, hmb'⟩ := hget' hb' hg'
  obtain ⟨j, bj, gj, h1, h2, h3, h4, h5⟩ := mB_own hW hmb k hk
  obtain ⟨j', bj', gj', h1', h2', h3', h4', h5'⟩ := mB_own hW hmb' k hk'
  by_cases e : j = j'
  ·subst e
   exact usedOf_nodup hND hne hr hb hr' hb' h5 h5' h1 h1'
  ·exact hW.disj _ _ _ _ _ _ e h2 h3 h2' h3' k h4 h4'
 ·obtain ⟨r, hr, rfl, hmb⟩ := hget' hb hg
  obtain ⟨j, bj, gj, h1, h2, h3, h4, h5⟩ := mB_own hW hmb k hk
  obtain ⟨h6, h7⟩ := hW.nf _ _ _ k h2 h3 h4
  refine ⟨⟨h6, fun h => ?_⟩, j, bj, gj, h2, h3, h4⟩
  rcases h with h | ⟨j', bj', gj', h2', h3', h8, h9⟩
  ·exact h7 h
  ·by_cases e : j = j'
   ·subst e
    exact hfu _ h8 (usedOf_mem hr hb h5 h1)
   ·exact hW.disj _ _ _ _ _ _ e h2 h3 h2' h3' k h4 h9
theorem weaken (hW : WR E F γ ah H) (hm : mBs (fun _ => false) ah ρ ρ tah) (hnd : nodupB (usedOf ρ tah) = true) (hid : ∀ i, i < E.γ0.length → ρ[i]? = some (.same i)) :
  WR E F (ρ.map (gOf γ)) tah H ∧ ∀ {n : Nat} {c0 c : C} {v : Value}, mC (fun _ => false) ah n ρ c0 c → RL F H ⟨E.B, γ⟩ [c0] [v] → RL F H ⟨E.B, ρ.map (gOf γ)⟩ [c] [v] := by
 have hc := core hW hm hnd (fun j h => by cases h)
 have hB : lent E γ ah (fun _ => false) = E.B := by
  funext k
  apply propext
  constructor
  ·rintro (h | ⟨_, _, _, _, _, h, _⟩)
   ·exact h
   ·cases h
  ·exact .inl
 rw [hB] at hc
 refine ⟨⟨hc.len, hc.br, hc.disj, fun j b g k h1 h2 h3 => (hc.nf j b g k h1 h2 h3).1, hW.fb, hW.bb, hW.size, hW.keep, hW.fmono, hW.fnew, fun j b g k h1 h2 h3 => ?_, fun i v hi => ?_⟩, fun h hr => mC_sound hW (fun _ h => h) (fun j b g h => by cases h) _ h hr⟩
 ·obtain ⟨j', b', g', h4, h5, h6⟩ := (hc.nf j b g k h1 h2 h3).2
  exact hW.onew _ _ _ k h4 h5 h6
 ·have h1 := hid i (List.getElem?_eq_some_iff.1 hi).1
  rw [List.getElem?_map, h1]
  simp [gOf, hW.pre i v hi]
end
end Go.AM
end
/- part -/
section
namespace Go.AM
open Go Go.NB
def ren1 (σ : Nat → Nat) : C → C
 | .rw j => .rw (σ j)
 | .sw sz j lo n => .sw sz (σ j) lo n
 | .ptr j o => .ptr (σ j) o
 | c => c
def clean1 : C → Bool
 | .rw _ | .sw .. | .ptr .. => true
 | .iface _ _ cs => closedB cs
 | c => closed1 c
def cleanB : List C → Bool
 | [] => true
 | c :: cs => clean1 c && cleanB cs
def renB (σ : Nat → Nat) : B → B
 | .box cs t => .box (cs.map (ren1 σ)) t
 | b => b
def cleanBlk : B → Bool
 | .box cs _ => cleanB cs
 | _ => true
def renA (σ : Nat → Nat) : A → A
 | .c x => .c (ren1 σ x)
 | .st cs => .st (cs.map (ren1 σ))
 | .tup ts => .tup (ts.map fun t => (t.1, t.2.map (ren1 σ)))
 | a => a
def cleanA : A → Bool
 | .c x => clean1 x
 | .st cs => cleanB cs
 | .tup ts => ts.all fun t => cleanB t.2
 | .undef => true
 | .off => false
inductive Out : Type 1 where
 | ret (a : A)
 | pan (a : A)
def Out.a : Out → A
 | .ret a => a
 | .pan a => a
section
variable {F : Nat → Prop} {H : Heap} {m m' : Md} {σ : Nat → Nat}
theorem ren_sound (hσ : ∀ (j : Nat) (g : Value), m.γ[j]? = some g → m'.γ[σ j]? = some g) {cs : List C} {vs : List Value} (h : RL F H m cs vs) (hc : cleanB cs = true) : RL F H m' (cs.map (ren1 σ)) vs := by
 induction h with
 | nl => exact .nl
 | int _ ih => simp [cleanB, clean1, closed1] at hc; exact .int (ih hσ hc)
 | bool _ ih => simp [cleanB, clean1, closed1] at hc; exact .bool (ih hσ hc)
 | str h _ ih => simp [cleanB, clean1, closed1] at hc; exact .str h (ih hσ hc)
 | raw h _ ih => simp [cleanB, clean1, closed1] at hc; exact .raw h (ih hσ hc)
 | nil _ ih => simp [cleanB, clean1, closed1] at hc; exact .nil (ih hσ hc)
 | ls0 _ ih => simp [cleanB, clean1, closed1] at hc; exact .ls0 (ih hσ hc)
 | ls hb h1 h2 hr hz hcc _ _ ih => simp [cleanB, clean1, closed1] at hc; exact .ls hb h1 h2 hr hz hcc (ih hσ hc)
 | rw hg hq _ ih => simp [cleanB, clean1] at hc; exact .rw (hσ _ _ hg) hq (ih hσ hc)
 | sw hg hle hq _ ih => simp [cleanB, clean1] at hc; exact .sw (hσ _ _ hg) hle hq (ih hσ hc)
 | ptr hg _ ih => simp [cleanB, clean1] at hc; exact .ptr (hσ _ _ hg) (ih hσ hc)
 | iface hr _ _ ih => simp [cleanB, clean1] at hc; exact .iface (closed_up hr hc.1) (ih hσ hc.2)
 | _ => simp [cleanB, clean1, closed1] at hc
theorem renT_sound (hσ : ∀ (j : Nat) (g : Value), m.γ[j]? = some g → m'.γ[σ j]? = some g) : ∀ {ts : List (Bool × List C)} {vs : List Value}, RT F H m ts vs → (ts.all fun t => cleanB t.2) = true → RT F H m' (ts.map fun t => (t.1, t.2.map (ren1 σ))) vs
 | [], [], _, _ => trivial
 | (g, cs) :: ts, v :: vs, ⟨⟨us, h1, h2, h3⟩, h⟩, hc => by
  simp only [List.all_cons, Bool.and_eq_true] at hc
  exact ⟨⟨us, ren_sound hσ h1 hc.1, h2, fun h => by simp [h3 h]⟩, renT_sound hσ h hc.2⟩
theorem renA_sound (hσ : ∀ (j : Nat) (g : Value), m.γ[j]? = some g → m'.γ[σ j]? = some g) {a : A} {v : Value} (h : RA F H m a v) (hc : cleanA a = true) : RA F H m' (renA σ a) v := by
 cases a with
 | undef => trivial
 | off => cases hc
 | c x => exact ren_sound hσ (cs := [x]) h (by simpa [cleanB, cleanA] using hc)
 | st cs => obtain ⟨vs, rfl, h⟩ := h; exact ⟨vs, rfl, ren_sound hσ h hc⟩
 | tup ts => obtain ⟨vs, rfl, h⟩ := h; exact ⟨vs, rfl, renT_sound hσ h hc⟩
theorem renB_sound (hσ : ∀ (j : Nat) (g : Value), m.γ[j]? = some g → m'.γ[σ j]? = some g) {b : B} {g : Value} (h : BR F H m b g) (hc : cleanBlk b = true) : BR F H m' (renB σ b) g := by
 cases b with
 | box cs ty => obtain ⟨k, e, vs, h1, h2, h3⟩ := h; exact ⟨k, e, vs, h1, h2, ren_sound hσ h3 hc⟩
 | row sz α enc l => exact h
 | fro sz α enc l => exact h
 | buf t sz α enc l => exact h
 | dead => trivial
theorem obv_ren {b : B} {g : Value} : obv (renB σ b) g = obv b g := by
 cases g with
 | pointer p => cases b <;> cases p <;> rfl
 | _ => cases b <;> rfl
end
def RAs (F : Nat → Prop) (H : Heap) (m : Md) : List A → List Value → Prop
 | [], [] => True
 | a :: as, v :: vs => RA F H m a v ∧ RAs F H m as vs
 | _, _ => False
structure AmbD (d : Bool) (w w' : World) : Prop where
 os : w'.os = w.os
 tape : w'.tape = w.tape
 output : w'.output = w.output
 drawn : d = true → w.drawn ≤ w'.drawn
theorem AmbD.refl {d : Bool} (w : World) : AmbD d w w := ⟨rfl, rfl, rfl, fun _ => Nat.le_refl _⟩
theorem AmbD.trans {d : Bool} {a b c : World} (h : AmbD d a b) (k : AmbD d b c) : AmbD d a c := ⟨k.os.trans h.os, k.tape.trans h.tape, k.output.trans h.output, fun e => Nat.le_trans (h.drawn e) (k.drawn e)⟩
theorem AmbD.of {d : Bool} {a b : World} (h : Amb a b) : AmbD d a b := ⟨h.os, h.tape, h.output, fun _ => h.drawn⟩
def UponP (d : Bool) (P : Program) (w : World) (R : Bool → Value → Heap → Prop) : Result Next → Prop
 | .ok (.value v) w' => w' = w ∧ R true v w.heap
 | .ok (.enter f args) w' => w' = w ∧ Calls P f args w fun e w' => (∃ v, e = .returned v ∧ R true v w'.heap ∧ AmbD d w w') ∨ (∃ v, e = .panicked [{ v := v, recovered := false }] ∧ R false v w'.heap ∧ AmbD d w w')
 | _ => False
def CallsP (d : Bool) (P : Program) (f : FuncId) (args : Array Value) (H : Heap) (R : Bool → Value → Heap → Prop) : Prop :=
 ∀ w : World, w.heap = H → UponP d P w R ((callFunc f args).run P w)
theorem CallsP.mono {d : Bool} {P : Program} {f : FuncId} {args : Array Value} {H : Heap} {R R' : Bool → Value → Heap → Prop} (h : CallsP d P f args H R) (hr : ∀ b v H', R b v H' → R' b v H') : CallsP d P f args H R' := by
 intro w hw
 have := h w hw
 unfold UponP at *
 split at this
 ·exact ⟨this.1, hr _ _ _ this.2⟩
 ·refine ⟨this.1, this.2.mono fun e w' h => ?_⟩
  rcases h with ⟨v, h1, h2, h3⟩ | ⟨v, h1, h2, h3⟩
  ·exact .inl ⟨v, h1, hr _ _ _ h2, h3⟩
  ·exact .inr ⟨v, h1, hr _ _ _ h2, h3⟩
 ·exact this.elim
def en (F L : Nat → Prop) (γ : List Value) (ah : List B) (H : Heap) : En := ⟨F, L, owned γ ah, H, γ⟩
def Behind (F L : Nat → Prop) (γ : List Value) (ah : List B) (H : Heap) (Q : Out → List B → Prop) (ok : Bool) (v : Value) (H' : Heap) : Prop :=
 ∃ out ah' F' γ', Q out ah' ∧ cleanA out.a = true ∧ ah'.all cleanBlk = true ∧ (match out with | .ret _ => ok = true | .pan _ => ok = false) ∧ RA F' H' ⟨L, γ'⟩ out.a v ∧ WR (en F L γ ah H) F' γ' ah' H'
def DoesD (d : Bool) (P : Program) (f : FuncId) (args : List A) (ah : List B) (Q : Out → List B → Prop) : Prop :=
 ∀ (F L : Nat → Prop) (γ : List Value) (H : Heap) (vs : List Value), RAs F H ⟨L, γ⟩ args vs → WR (en F L γ ah H) F γ ah H → CallsP d P f vs.toArray H (Behind F L γ ah H Q)
abbrev Does (P : Program) (f : FuncId) (args : List A) (ah : List B) (Q : Out → List B → Prop) : Prop := DoesD false P f args ah Q
theorem DoesD.mono {d : Bool} {P : Program} {f : FuncId} {args : List A} {ah : List B} {Q Q' : Out → List B → Prop} (h : DoesD d P f args ah Q) (hq : ∀ o b, Q o b → Q' o b) : DoesD d P f args ah Q' :=
 fun F L γ H vs h1 h2 => (h F L γ H vs h1 h2).mono fun ok v H' ⟨out, ah', F', γ', h3, h4⟩ => ⟨out, ah', F', γ', hq _ _ h3, h4⟩
theorem Does.mono {P : Program} {f : FuncId} {args : List A} {ah : List B} {Q Q' : Out → List B → Prop} (h : Does P f args ah Q) (hq : ∀ o b, Q o b → Q' o b) : Does P f args ah Q' := DoesD.mono h hq
def mT (f : C → C → Prop) : List (Bool × List C) → List (Bool × List C) → Prop
 | [], [] => True
 | (g0, cs0) :: ts0, (g, cs) :: ts => (g0 = g ∧ all2 f cs0 cs) ∧ mT f ts0 ts
 | _, _ => False
def mA (fr : Nat → Bool) (ah : List B) (ρ : List Rn) : A → A → Prop
 | _, .undef => True
 | .c c0, .c c => mC fr ah 5 ρ c0 c
 | .st cs0, .st cs => all2 (mC fr ah 5 ρ) cs0 cs
 | .tup ts0, .tup ts => mT (mC fr ah 5 ρ) ts0 ts
 | .off, .off => True
 | _, _ => False
def mAs (fr : Nat → Bool) (ah : List B) (ρ : List Rn) : List A → List A → Prop
 | [], [] => True
 | a0 :: as0, a :: as => mA fr ah ρ a0 a ∧ mAs fr ah ρ as0 as
 | _, _ => False
def sig (m : List Nat) (n : Nat) (j : Nat) : Nat := bif Nat.blt j m.length then m.getD j 0 else n + (j - m.length)
def setAll : List Nat → List B → List B → List B
 | j :: m, b :: bs, ah => setAll m bs (ah.set j b)
 | _, _, ah => ah
def kp1 (f : B → B) (x : B) (t b : B) : B := match t with
 | .dead => match b with
  | .dead => x
  | b => f b
 | _ => f b
theorem kp1_or (f : B → B) (x t b : B) : (t = .dead ∧ kp1 f x t b = x) ∨ kp1 f x t b = f b := by
 cases t with
 | dead =>
  cases b with
  | dead => exact .inl ⟨rfl, rfl⟩
  | _ => exact .inr rfl
 | _ => exact .inr rfl
def kpL (f : B → B) (ah : List B) : List Nat → List B → List B → List B
 | j :: m, t :: ts, b :: bs => kp1 f ((ah[j]?).getD .dead) t b :: kpL f ah m ts bs
 | _, _, _ => []
theorem kpL_length {f : B → B} {ah : List B} : ∀ {m : List Nat} {ts bs : List B}, ts.length = m.length → m.length ≤ bs.length → (kpL f ah m ts bs).length = m.length
 | [], _, _, _, _ => rfl
 | j :: m, t :: ts, b :: bs, h1, h2 => by
  simp only [kpL, List.length_cons]
  rw [kpL_length (by simpa using h1) (by simpa using h2)]
 | j :: m, [], _, h1, _ => by simp at h1
 | j :: m, t :: ts, [], _, h2 => by simp at h2
theorem kpL_get {f : B → B} {ah : List B} : ∀ {m : List Nat} {ts bs : List B} {q i : Nat} {b : B}, m[q]? = some i → (kpL f ah m ts bs)[q]? = some b → (ts[q]? = some .dead ∧ b = (ah[i]?).getD .dead) ∨ ∃ b', bs[q]? = some b' ∧ b = f b'
 | [], _, _, _, _, _, h, _ => by simp at h
 | j :: m, [], _, _, _, _, _, h => by simp [kpL] at h
 | j :: m, t :: ts, [], _, _, _, _, h => by simp [kpL] at h
 | j :: m, t :: ts, b :: bs, 0, i, x, h1, h2 => by
  obtain rfl : j = i := by simpa using h1
  have h2 : kp1 f ((ah[j]?).getD .dead) t b = x := by simpa [kpL] using h2
  subst h2
  rcases kp1_or f ((ah[j]?).getD .dead) t b with ⟨rfl, h⟩ | h
  ·exact .inl ⟨rfl, h⟩
  ·exact .inr ⟨b, rfl, h⟩
 | j :: m, t :: ts, b :: bs, q + 1, i, x, h1, h2 => by
  rcases kpL_get (m := m) (ts := ts) (bs := bs) (q := q) (by simpa using h1) (by simpa [kpL] using h2) with ⟨h3, h4⟩ | ⟨b', h3, h4⟩
  ·exact .inl ⟨by simpa using h3, h4⟩
  ·exact .inr ⟨b', by simpa using h3, h4⟩
def mrg (m : List Nat) (tah ah ah' : List B) : List B := setAll m (kpL (renB (sig m ah.length)) ah m tah ah') ah ++ (ah'.drop m.length).map (renB (sig m ah.length))
theorem setAll_length : ∀ (m : List Nat) (bs ah : List B), (setAll m bs ah).length = ah.length
 | [], _, _ => rfl
 | _ :: _, [], _ => rfl
 | j :: m, b :: bs, ah => by rw [setAll, setAll_length m bs, List.length_set]
theorem setAll_get : ∀ {m : List Nat} {bs ah : List B} {i : Nat} {b : B}, m.Nodup → (setAll m bs ah)[i]? = some b → (ah[i]? = some b ∧ (i ∈ m → ∃ q, m[q]? = some i ∧ bs.length ≤ q)) ∨ ∃ q : Nat, m[q]? = some i ∧ bs[q]? = some b
 | [], bs, ah, i, b, _, h => .inl ⟨h, fun h => by cases h⟩
 | j :: m, [], ah, i, b, _, h => .inl ⟨h, fun hm => by
   obtain ⟨q, hq⟩ := List.getElem?_of_mem hm
   exact ⟨q, hq, by simp⟩⟩
 | j :: m, b' :: bs, ah, i, b, hn, h => by
  obtain ⟨h1, h2⟩ := List.nodup_cons.1 hn
  rw [setAll] at h
  rcases setAll_get h2 h with ⟨h3, h4⟩ | ⟨q, h3, h4⟩
  ·rcases get_set h3 with ⟨h5, h6⟩ | ⟨rfl, _, rfl⟩
   ·refine .inl ⟨h6, fun hm => ?_⟩
    rcases List.mem_cons.1 hm with e | hm
    ·exact (h5 e).elim
    ·obtain ⟨q, g1, g2⟩ := h4 hm
     exact ⟨q + 1, by simpa using g1, by simpa using g2⟩
   ·exact .inr ⟨0, rfl, rfl⟩
  ·exact .inr ⟨q + 1, by simpa using h3, by simpa using h4⟩
theorem sig_lt {m : List Nat} {n q j : Nat} (h : m[q]? = some j) : sig m n q = j := by
 obtain ⟨hlt, e⟩ := List.getElem?_eq_some_iff.1 h
 have : Nat.blt q m.length = true := Nat.ble_eq_true_of_le hlt
 unfold sig
 rw [this]
 simp [List.getD_eq_getElem?_getD, h]
theorem sig_ge {m : List Nat} {n q : Nat} (h : m.length ≤ q) : sig m n q = n + (q - m.length) := by
 have : Nat.blt q m.length = false := by
  cases e : Nat.blt q m.length with
  | false => rfl
  | true => have := Nat.le_of_ble_eq_true e; omega
 unfold sig
 rw [this]
 rfl
section
variable {E : En} {F F' : Nat → Prop} {γ γ' : List Value} {ah ah' tah : List B} {H H' : Heap} {fr : Nat → Bool} {m : List Nat}
def samesR (m : List Nat) : List Rn := m.map .same
theorem merge (hW : WR E F γ ah H) (hm : mBs fr ah (samesR m) (samesR m) tah) (hn : m.Nodup) (hlt : ∀ j ∈ m, j < ah.length) (hc : Core (lent E γ ah fr) (owned γ ah) F ((samesR m).map (gOf γ)) tah H)
  (hR : WR (en F (lent E γ ah fr) ((samesR m).map (gOf γ)) tah H) F' γ' ah' H') (hcl : ah'.all cleanBlk = true) :
  WR E F' (γ ++ γ'.drop m.length) (mrg m tah ah ah') H' ∧ Ext F H ⟨E.B, γ⟩ F' H' ⟨E.B, γ ++ γ'.drop m.length⟩ ∧ (∀ (j : Nat) (g : Value), γ'[j]? = some g → (γ ++ γ'.drop m.length)[sig m ah.length j]? = some g) ∧ (m = [] → Keep [] H H') ∧
  ∀ k, (F k ∨ E.B k ∨ ∃ j bj gj, j ∉ m ∧ ah[j]? = some bj ∧ γ[j]? = some gj ∧ k ∈ obv bj gj) → H'[k]? = H[k]? := by
 have hml : tah.length = m.length := by have := (mBs_get hm).1; simpa [samesR] using this.symm
 let Kept : Nat → Prop := fun i => i ∉ m ∨ ∃ q : Nat, m[q]? = some i ∧ tah[q]? = some .dead
 -- what the call owns is of m, and was lent
 have hown : ∀ k, owned ((samesR m).map (gOf γ)) tah k → ∃ j bj gj, ¬ Kept j ∧ ah[j]? = some bj ∧ γ[j]? = some gj ∧ k ∈ obv bj gj := fun k ⟨i, b, g, hb, hg, hk⟩ => by
  obtain ⟨r, h1, h2⟩ := (mBs_get hm).2 _ _ hb
  rw [List.getElem?_map, h1] at hg
  simp at hg
  subst hg
  obtain ⟨j, bj, gj, h3, h4, h5, h6, _⟩ := mB_own hW h2 k hk
  have h1' := h1
  unfold samesR at h1'
  rw [List.getElem?_map] at h1'
  obtain ⟨j', hj', rfl⟩ := Option.map_eq_some_iff.1 h1'
  simp [srcR] at h3
  subst h3
  refine ⟨j', bj, gj, fun hkp => ?_, h4, h5, h6⟩
  rcases hkp with hkp | ⟨q, hq, hd⟩
  ·exact hkp (List.mem_of_getElem? hj')
  ·obtain ⟨g1, g2⟩ := List.getElem?_eq_some_iff.1 hq
   obtain ⟨g3, g4⟩ := List.getElem?_eq_some_iff.1 hj'
   obtain rfl : q = i := (List.getElem_inj hn).1 (g2.trans g4.symm)
   rw [hd] at hb
   cases hb
   simp [obv] at hk
 have hγ : ∀ (j : Nat) (g : Value), γ'[j]? = some g → (γ ++ γ'.drop m.length)[sig m ah.length j]? = some g := fun q g hq => by
  rcases Nat.lt_or_ge q m.length with h | h
  ·have hmq : m[q]? = some m[q] := List.getElem?_eq_getElem h
   rw [sig_lt hmq]
   have hj : m[q] < γ.length := by rw [hW.len]; exact hlt _ (List.getElem_mem h)
   rw [List.getElem?_append_left hj]
   have h1 : ((samesR m).map (gOf γ))[q]? = some (γ[m[q]]) := by
    simp [samesR, hmq, gOf, List.getElem?_eq_getElem hj]
   have h2 := hR.pre q _ h1
   rw [h2] at hq
   rw [List.getElem?_eq_getElem hj]
   exact hq
  ·rw [sig_ge h, List.getElem?_append_right (by rw [hW.len]; omega), List.getElem?_drop, hW.len]
   rw [show m.length + (ah.length + (q - m.length) - ah.length) = q by omega]
   exact hq
 have hlen' : m.length ≤ ah'.length := by
  rw [← hR.len]
  rcases Nat.eq_zero_or_pos m.length with h | h
  ·omega
  ·have h1 : ((samesR m).map (gOf γ))[m.length - 1]? = some (((samesR m).map (gOf γ))[m.length - 1]'(by simp [samesR]; omega)) := List.getElem?_eq_getElem _
   have := (List.getElem?_eq_some_iff.1 (hR.pre _ _ h1)).1
   omega
 have get : ∀ {i : Nat} {b : B} {g : Value}, (mrg m tah ah ah')[i]? = some b → (γ ++ γ'.drop m.length)[i]? = some g → (Kept i ∧ ah[i]? = some b ∧ γ[i]? = some g) ∨ ∃ q b', ah'[q]? = some b' ∧ γ'[q]? = some g ∧ sig m ah.length q = i ∧ b = renB (sig m ah.length) b' := fun {i b g} hb hg => by
  unfold mrg at hb
  rcases Nat.lt_or_ge i ah.length with h | h
  ·rw [List.getElem?_append_left (by rw [setAll_length]; exact h)] at hb
   rw [List.getElem?_append_left (by rw [hW.len]; exact h)] at hg
   rcases setAll_get hn hb with ⟨h1, h2⟩ | ⟨q, h1, h2⟩
   ·refine .inl ⟨.inl fun hm => ?_, h1, hg⟩
    obtain ⟨q, h3, h4⟩ := h2 hm
    rw [kpL_length hml hlen'] at h4
    have := (List.getElem?_eq_some_iff.1 h3).1
    omega
   ·rcases kpL_get h1 h2 with ⟨h3, h4⟩ | ⟨b', h3, h4⟩
    ·refine .inl ⟨.inr ⟨q, h1, h3⟩, ?_, hg⟩
     rw [h4, List.getElem?_eq_getElem h]
     rfl
    refine .inr ⟨q, b', h3, ?_, sig_lt h1, h4⟩
    have hq := (List.getElem?_eq_some_iff.1 h3).1
    have h5 : γ'[q]? = some (γ'[q]'(by rw [hR.len]; exact hq)) := List.getElem?_eq_getElem _
    have h6 := hγ q _ h5
    rw [sig_lt h1, List.getElem?_append_left (by rw [hW.len]; exact h)] at h6
    rw [h5]
    rw [hg] at h6
    exact h6.symm
  ·rw [List.getElem?_append_right (by rw [setAll_length]; exact h), setAll_length, List.getElem?_map, List.getElem?_drop] at hb
   rw [List.getElem?_append_right (by rw [hW.len]; exact h), List.getElem?_drop, hW.len] at hg
   obtain ⟨b', h3, h4⟩ := Option.map_eq_some_iff.1 hb
   exact .inr ⟨m.length + (i - ah.length), b', h3, hg, by rw [sig_ge (by omega)]; omega, h4.symm⟩
 have keepF : ∀ k, F k ∨ E.B k → H'[k]? = H[k]? := fun k hk => by
  refine hR.keep k ?_ (fun ho => ?_)
  ·exact hk.elim (hW.fb k) (fun h => Nat.lt_of_lt_of_le (hW.bb k h).1 hW.size)
  ·obtain ⟨j, bj, gj, _, h2, h3, h4⟩ := hown k ho
   have := hW.nf j bj gj k h2 h3 h4
   exact hk.elim this.1 this.2
 have ex : Ext F H ⟨E.B, γ⟩ F' H' ⟨E.B, γ ++ γ'.drop m.length⟩ := ⟨hR.fmono, fun b o u hb hc => cell_of_get (keepF b hb) hc, fun _ h => h, fun j v hj => by
  rw [List.getElem?_append_left (List.getElem?_eq_some_iff.1 hj).1]; exact hj⟩
 have old : ∀ {i b g}, Kept i → ah[i]? = some b → γ[i]? = some g → ∀ k ∈ obv b g, ¬ owned ((samesR m).map (gOf γ)) tah k ∧ H'[k]? = H[k]? := fun {i b g} hi hb hg k hk => by
  have hno : ¬ owned ((samesR m).map (gOf γ)) tah k := fun ho => by
   obtain ⟨j, bj, gj, h1, h2, h3, h4⟩ := hown k ho
   exact hW.disj _ _ _ _ _ _ (fun e => h1 (by rw [← e]; exact hi)) hb hg h2 h3 k hk h4
  exact ⟨hno, hR.keep k (obv_lt (hW.br _ _ _ hb hg) k hk) hno⟩
 have own' : ∀ {q b g k}, ah'[q]? = some b → γ'[q]? = some g → k ∈ obv b g → (∃ j bj gj, ¬ Kept j ∧ ah[j]? = some bj ∧ γ[j]? = some gj ∧ k ∈ obv bj gj) ∨ H.size ≤ k := fun hb hg hk => by
  rcases hR.onew _ _ _ _ hb hg hk with h | h
  ·exact .inl (hown _ h)
  ·exact .inr h
 refine ⟨⟨?_, fun i b g hb hg => ?_, fun i i' b b' g g' hne hb hg hb' hg' k hk hk' => ?_, fun i b g k hb hg hk => ?_, hR.fb, hW.bb, Nat.le_trans hW.size hR.size, fun k hk ho => ?_, fun k hk => hR.fmono k (hW.fmono k hk), fun k hk => ?_, fun i b g k hb hg hk => ?_, fun j v hj => ex.g j v (hW.pre j v hj)⟩, ex, hγ, fun hm0 => ⟨hR.size, fun k hk _ => hR.keep k hk (fun ho => ?_)⟩, fun k hk => hk.elim (fun h => keepF k (.inl h)) fun h => h.elim (fun h => keepF k (.inr h)) fun ⟨j, bj, gj, h1, h2, h3, h4⟩ => (old (.inl h1) h2 h3 k h4).2⟩
 ·unfold mrg
  simp [setAll_length, hW.len, hR.len]
 ·rcases get hb hg with ⟨h1, h2, h3⟩ | ⟨q, b', h1, h2, h3, rfl⟩
  ·exact BR.ext ex (fun k hk => (old h1 h2 h3 k hk).2) (hW.br _ _ _ h2 h3)
  ·exact renB_sound hγ (hR.br _ _ _ h1 h2) (List.all_eq_true.1 hcl _ (List.mem_of_getElem? h1))
 ·rcases get hb hg with ⟨h1, h2, h3⟩ | ⟨q, b1, h1, h2, h3, rfl⟩
  ·rcases get hb' hg' with ⟨h1', h2', h3'⟩ | ⟨q', b1', h1', h2', h3', rfl⟩
   ·exact hW.disj _ _ _ _ _ _ hne h2 h3 h2' h3' k hk hk'
   ·rw [obv_ren] at hk'
    have h4 := obv_lt (hW.br _ _ _ h2 h3) k hk
    rcases own' h1' h2' hk' with ⟨j, bj, gj, g1, g2, g3, g4⟩ | h
    ·exact hW.disj _ _ _ _ _ _ (fun e => g1 (by rw [← e]; exact h1)) h2 h3 g2 g3 k hk g4
    ·omega
  ·rw [obv_ren] at hk
   rcases get hb' hg' with ⟨h1', h2', h3'⟩ | ⟨q', b1', h1', h2', h3', rfl⟩
   ·have h4 := obv_lt (hW.br _ _ _ h2' h3') k hk'
    rcases own' h1 h2 hk with ⟨j, bj, gj, g1, g2, g3, g4⟩ | h
    ·exact hW.disj _ _ _ _ _ _ (fun e => g1 (by rw [← e]; exact h1')) h2' h3' g2 g3 k hk' g4
    ·omega
   ·rw [obv_ren] at hk'
    exact hR.disj _ _ _ _ _ _ (fun e => hne (by rw [← h3, ← h3', e])) h1 h2 h1' h2' k hk hk'
 ·rcases get hb hg with ⟨h1, h2, h3⟩ | ⟨q, b', h1, h2, h3, rfl⟩
  ·have h4 := hW.nf _ _ _ k h2 h3 hk
   refine ⟨fun hf => ?_, h4.2⟩
   rcases hR.fnew k hf with h | h | h
   ·exact h4.1 h
   ·exact (old h1 h2 h3 k hk).1 h
   ·have : k < H.size := obv_lt (hW.br _ _ _ h2 h3) k hk
    have : H.size ≤ k := h
    omega
  ·rw [obv_ren] at hk
   have h4 := hR.nf _ _ _ k h1 h2 hk
   exact ⟨h4.1, fun h => h4.2 (.inl h)⟩
 ·have h1 : k < H.size := Nat.lt_of_lt_of_le hk hW.size
  rw [hR.keep k h1 (fun h => ?_)]
  ·exact hW.keep k hk ho
  ·obtain ⟨j, bj, gj, _, g2, g3, g4⟩ := hown k h
   rcases hW.onew _ _ _ k g2 g3 g4 with h5 | h5
   ·exact ho h5
   ·omega
 ·rcases hR.fnew k hk with h | h | h
  ·exact hW.fnew k h
  ·obtain ⟨j, bj, gj, _, g2, g3, g4⟩ := hown k h
   exact .inr (hW.onew _ _ _ k g2 g3 g4)
  ·exact .inr (.inr (Nat.le_trans hW.size h))
 ·rcases get hb hg with ⟨h1, h2, h3⟩ | ⟨q, b', h1, h2, h3, rfl⟩
  ·exact hW.onew _ _ _ k h2 h3 hk
  ·rw [obv_ren] at hk
   rcases own' h1 h2 hk with ⟨j, bj, gj, g1, g2, g3, g4⟩ | h
   ·exact hW.onew _ _ _ k g2 g3 g4
   ·exact .inr (Nat.le_trans hW.size h)
 ·subst hm0
  obtain ⟨j, _, _, h, _⟩ := hown k ho
  exact h (.inl (by simp))
end
end Go.AM
end
