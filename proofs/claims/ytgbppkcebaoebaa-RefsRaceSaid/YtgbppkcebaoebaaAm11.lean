/- THE ABSTRACT MACHINE, part 11: from one abstract state to one that says less, under other numbers. -/
import Derived.Test.YtgbppkcebaoebaaAm10
namespace Go.AM
open Go Go.NB
set_option linter.unusedVariables false
set_option linter.unusedSimpArgs false

/-- which block a number means, in the numbers of before -/
inductive Rn where
  | new
  | same (j : Nat)
  | cut (sz j lo n : Nat)

def all2 (f : C → C → Prop) : List C → List C → Prop
  | [], [] => True
  | x :: r, y :: q => f x y ∧ all2 f r q
  | _, _ => False
def pre2 (f : C → C → Prop) : List C → List C → Prop
  | _, [] => True
  | x :: r, y :: q => f x y ∧ pre2 f r q
  | [], _ :: _ => False

def frOK (fr : Nat → Bool) (ah : List B) (j : Nat) : Bool := match ah[j]? with
  | some (.fro ..) => true
  | some (.row ..) => fr j
  | some (.box _) => fr j
  | _ => false

/-- a cell reads as another one says -/
def mC (fr : Nat → Bool) (ah : List B) : Nat → List Rn → C → C → Prop
  | 0, _, _, _ => False
  | n + 1, ρ, c0, c => match c with
    | .rw i => match ρ[i]? with
      | some (.same j) => c0 = .rw j
      | some .new => c0 = .nil
      | some (.cut sz j lo m) => c0 = .sw sz j lo m
      | none => False
    | .sw sz i lo m => match ρ[i]? with
      | some (.same j) => c0 = .sw sz j lo m
      | _ => False
    | .ptr i o => match ρ[i]? with
      | some (.same j) => c0 = .ptr j o
      | _ => False
    | .ep sz i x o => match ρ[i]? with
      | some (.same j) => c0 = .ep sz j x o
      | _ => False
    | .ls sz α enc l => match c0 with
      | .nil => l = []
      | .ls sz' α' enc' l' => (⟨sz', α', enc', l'⟩ : LS) = ⟨sz, α, enc, l⟩
      | .rw j => match ah[j]? with
        | some (.fro sz' α' enc' l') => (⟨sz', α', enc', l'⟩ : LS) = ⟨sz, α, enc, l⟩
        | _ => False
      | .sw sz0 j lo m => match ah[j]? with
        | some (.fro sz' α' enc' l') => bif Nat.beq sz0 sz' then (⟨sz', α', enc', (l'.drop lo).take m⟩ : LS) = ⟨sz, α, enc, l⟩ else False
        | _ => False
      | _ => False
    | .bs sz α enc l => match c0 with
      | .nil => l = []
      | .ls sz' α' enc' l' => (⟨sz', α', enc', l'⟩ : LS) = ⟨sz, α, enc, l⟩
      | .bs sz' α' enc' l' => (⟨sz', α', enc', l'⟩ : LS) = ⟨sz, α, enc, l⟩
      | .rw j => bif frOK fr ah j then (ah[j]?).bind rowOf = some ⟨sz, α, enc, l⟩ else False
      | .sw sz0 j lo m => bif frOK fr ah j then slOf ah (.sw sz0 j lo m) = some ⟨sz, α, enc, l⟩ else False
      | _ => False
    | .bp cs => match c0 with
      | .bp cs0 => pre2 (mC fr ah n []) cs0 cs
      | .ptr j o => match ah[j]? with
        | some (.box cs0) => bif fr j then pre2 (mC fr ah n []) (cs0.drop o) cs else False
        | _ => False
      | .ep sz j i o => bif frOK fr ah j then match (ah[j]?).bind rowOf with
        | some L => bif Nat.beq sz L.sz then ∃ x, L.l[i]? = some x ∧ pre2 (mC fr ah n []) ((L.enc x).drop o) cs else False
        | none => False
        else False
      | _ => False
    | .fn f caps => match c0 with
      | .fn f0 caps0 => f0 = f ∧ all2 (mC fr ah n ρ) caps0 caps
      | _ => False
    | .iface t g cs => match c0 with
      | .iface t0 g0 cs0 => (t0 = t ∧ g0 = g) ∧ all2 (mC fr ah n ρ) cs0 cs
      | _ => False
    | c => c0 = c

def gOf (γ : List Value) : Rn → Value
  | .same j => (γ[j]?).getD undef
  | .new => .slice none 0 0
  | .cut sz j lo n => match γ[j]? with
    | some (.slice p _ cap) => .slice (p.map (·.add (lo * sz))) n (cap - lo)
    | _ => undef

section
variable {E : En} {F : Nat → Prop} {γ : List Value} {ah : List B} {H : Heap} {B' : Nat → Prop} {fr : Nat → Bool}

theorem RL.ls_of {m m' : Md} {sz : Nat} {α : Type} {enc : α → List C} {l : List α} {v : Value} (h : RL F H m [.ls sz α enc l] [v]) : RL F H m' [.ls sz α enc l] [v] := by
  cases h with
  | ls0 _ => exact .ls0 .nl
  | ls hb h1 h2 hr hz hc _ => exact .ls hb h1 h2 hr hz hc .nl
theorem RL.ls_bs {m m' : Md} {sz : Nat} {α : Type} {enc : α → List C} {l : List α} {v : Value} (h : RL F H m [.ls sz α enc l] [v]) : RL F H m' [.bs sz α enc l] [v] := by
  cases h with
  | ls0 _ => exact .bs0 .nl
  | ls hb h1 h2 hr hz hc _ => exact .bs (.inl hb) h1 h2 hr hz hc .nl
theorem RL.bs_ptr {m : Md} {sz : Nat} {α : Type} {enc : α → List C} {l : List α} {p q : Option Addr} {n cap : Nat} (hs : SV F H ⟨sz, α, enc, l⟩ (.slice p n cap)) (h : RL F H m [.bs sz α enc l] [.slice p n cap]) (hq : cap ≠ 0 → q = p) : RL F H m [.bs sz α enc l] [.slice q n cap] := by
  by_cases e : cap = 0
  · obtain ⟨p', cap', e', h1, _⟩ := hs.slice
    cases e'
    have h1 : l.length ≤ cap := h1
    have : l = [] := List.eq_nil_of_length_eq_zero (by omega)
    subst this
    rw [e]
    exact .bs0 .nl
  · rw [hq e]; exact h

theorem row_bs {b : B} {g : Value} {L : LS} {m m' : Md} (h : BR F H m b g) (hL : rowOf b = some L) (hB : ∀ k ∈ obv b g, m'.B k) : RL F H m' [.bs L.sz L.α L.enc L.l] [g] := by
  cases b with
  | box cs => cases hL
  | dead => cases hL
  | row sz α enc l =>
    have hs := row_sv h hL
    cases hL
    rcases h with ⟨p, rfl, rfl⟩ | ⟨k, off, cap, cur, t, css, rfl, h1, h2, h3, h4, h5, h6, h7⟩
    · exact .bs0 .nl
    · rcases hs with ⟨p', e, e2⟩ | ⟨b, off', cap', css', e, g1, g2, g3, g4, g5⟩
      · simp at e
      · simp at e
        obtain ⟨⟨rfl, rfl⟩, rfl⟩ := e
        exact .bs (.inr (hB k (by simp [obv]))) g1 g2 g3 g4 g5 .nl
  | fro sz α enc l => cases hL; exact RL.ls_bs h

theorem frOK_B (hfr : ∀ j b g, fr j = true → ah[j]? = some b → γ[j]? = some g → ∀ k ∈ obv b g, B' k) {j : Nat} {b : B} {g : Value} (h : frOK fr ah j = true) (hb : ah[j]? = some b) (hg : γ[j]? = some g) : ∀ k ∈ obv b g, B' k := by
  unfold frOK at h
  rw [hb] at h
  cases b with
  | fro => intro k hk; simp [obv] at hk
  | row => exact hfr j _ _ h hb hg
  | box => exact hfr j _ _ h hb hg
  | dead => cases h

theorem pre2_sound {f : C → C → Prop} {m m' : Md} (hf : ∀ c0 c v, f c0 c → RL F H m [c0] [v] → RL F H m' [c] [v]) : ∀ {cs0 cs : List C} {vs : List Value}, pre2 f cs0 cs → RL F H m cs0 vs → ∃ us : List Value, RL F H m' cs us ∧ ∀ (j : Nat) (u : Value), us[j]? = some u → vs[j]? = some u
  | _, [], vs, _, _ => ⟨[], .nl, fun j u h => by simp at h⟩
  | c0 :: cs0, c :: cs, vs, ⟨h1, h2⟩, hr => by
    obtain ⟨v, us, rfl, h3, h4⟩ := hr.uncons
    obtain ⟨us', h5, h6⟩ := pre2_sound hf h2 h4
    refine ⟨v :: us', (hf _ _ _ h1 h3).cons h5, fun j u hj => ?_⟩
    cases j with
    | zero => simpa using hj
    | succ j => simpa using h6 j u (by simpa using hj)
theorem all2_sound {f : C → C → Prop} {m m' : Md} (hf : ∀ c0 c v, f c0 c → RL F H m [c0] [v] → RL F H m' [c] [v]) : ∀ {cs0 cs : List C} {vs : List Value}, all2 f cs0 cs → RL F H m cs0 vs → RL F H m' cs vs
  | [], [], vs, _, hr => by cases hr; exact .nl
  | c0 :: cs0, c :: cs, vs, ⟨h1, h2⟩, hr => by
    obtain ⟨v, us, rfl, h3, h4⟩ := hr.uncons
    exact (hf _ _ _ h1 h3).cons (all2_sound hf h2 h4)
theorem all2_len {f : C → C → Prop} : ∀ {cs0 cs : List C}, all2 f cs0 cs → cs0.length = cs.length
  | [], [], _ => rfl
  | _ :: _, _ :: _, ⟨_, h⟩ => by simp [all2_len h]

theorem RL.noγ {m : Md} {cs : List C} {vs : List Value} (h : RL F H ⟨m.B, []⟩ cs vs) : RL F H m cs vs := h.ext ⟨fun _ h => h, fun _ _ _ _ h => h, fun _ h => h, fun j v h => by cases h⟩

theorem bs_blk {m : Md} {sz : Nat} {α : Type} {enc : α → List C} {l : List α} {b off n cap : Nat} (h : RL F H m [.bs sz α enc l] [.slice (some ⟨b, off, none⟩) n cap]) (hl : l ≠ []) : F b ∨ m.B b := by
  cases h with
  | bs0 _ => exact (hl rfl).elim
  | bs hb _ _ _ _ _ _ => exact hb

theorem mC_sound (hW : WR E F γ ah H) (hB : ∀ k, E.B k → B' k) (hfr : ∀ j b g, fr j = true → ah[j]? = some b → γ[j]? = some g → ∀ k ∈ obv b g, B' k) :
    ∀ (n : Nat) {ρ : List Rn} {c0 c : C} {v : Value}, mC fr ah n ρ c0 c → RL F H ⟨E.B, γ⟩ [c0] [v] → RL F H ⟨B', ρ.map (gOf γ)⟩ [c] [v] := by
  intro n
  induction n with
  | zero => intro ρ c0 c v h; exact h.elim
  | succ n ih =>
    intro ρ c0 c v h hr
    have hat : ∀ {i j : Nat} {g : Value}, ρ[i]? = some (.same j) → γ[j]? = some g → (ρ.map (gOf γ))[i]? = some g := fun hi hg => by
      rw [List.getElem?_map, hi]; simp [gOf, hg]
    have bpc : ∀ {b o : Nat} {cs0 cs : List C} {vs : List Value} {m : Md}, (F b ∨ B' b) → RL F H ⟨E.B, γ⟩ cs0 vs → (∀ j u, vs[j]? = some u → cell H b (o + j) = some u) → pre2 (mC fr ah n []) cs0 cs → RL F H ⟨B', ρ.map (gOf γ)⟩ [.bp cs] [.pointer (some ⟨b, o, none⟩)] := fun hb h1 h2 h3 => by
      obtain ⟨us, g1, g2⟩ := pre2_sound (m' := ⟨B', []⟩) (fun c0 c v h hr => ih (ρ := []) h hr) h3 h1
      exact .bp hb g1 (fun j u hj => h2 j u (g2 j u hj)) .nl
    cases c with
    | rw i =>
      simp only [mC] at h
      split at h
      · rename_i j hi
        subst h
        cases hr with
        | rw hg hq _ => exact .rw (hat hi hg) hq .nl
      · rename_i hi
        subst h
        cases hr
        refine .rw (p := none) (by rw [List.getElem?_map, hi]; rfl) (fun h => (h rfl).elim) .nl
      · rename_i sz j lo m hi
        subst h
        cases hr with
        | @sw _ _ _ _ _ p q n0 cap _ _ hg hle hq _ =>
          have hg' : γ[j]? = some _ := hg
          exact .rw (p := p.map (·.add (lo * sz))) (by rw [List.getElem?_map, hi]; simp [gOf, hg']) (fun h => hq (by omega)) .nl
      · exact h.elim
    | sw sz i lo m =>
      simp only [mC] at h
      split at h
      · rename_i j hi
        subst h
        cases hr with
        | sw hg hle hq _ => exact .sw (hat hi hg) hle hq .nl
      · exact h.elim
    | ptr i o =>
      simp only [mC] at h
      split at h
      · rename_i j hi
        subst h
        cases hr with
        | ptr hg _ => exact .ptr (hat hi hg) .nl
      · exact h.elim
    | ep sz i x o =>
      simp only [mC] at h
      split at h
      · rename_i j hi
        subst h
        cases hr with
        | ep hg _ => exact .ep (hat hi hg) .nl
      · exact h.elim
    | ls sz α enc l =>
      simp only [mC] at h
      split at h
      · subst h; cases hr; exact .ls0 .nl
      · cases h; exact hr.ls_of
      · split at h
        · rename_i hb
          cases h
          cases hr with
          | rw hg hq _ => exact RL.ls_of (m := m0) ((RL.up (m := m0) (hW.br _ _ _ hb hg)).ptr' hq)
        · exact h.elim
      · rename_i sz0 j lo m
        split at h
        · rename_i sz' α' enc' l' hb
          obtain ⟨hz, h⟩ := bguard h
          obtain rfl := Nat.eq_of_beq_eq_true hz
          have h1 := fz1_sound hW hr
          rw [show fz1 ah (.sw sz0 j lo m) = (ah, .ls sz0 α' enc' ((l'.drop lo).take m)) by simp only [fz1, hb, hz, cond_true]] at h1
          cases hr with
          | @sw _ _ _ _ _ p q n0 cap _ _ hg hle hq _ =>
            have hf : RL F H m0 [.ls sz0 α' enc' l'] [.slice p n0 cap] := hW.br _ _ _ hb hg
            cases h
            have hn : n0 = l'.length := by
              obtain ⟨p', cap', e, _⟩ := hf.sv.slice
              cases e; rfl
            by_cases e : cap = lo
            · obtain ⟨p', cap', e', g1, _⟩ := hf.sv.slice
              cases e'
              have g1 : l'.length ≤ cap := g1
              obtain rfl : m = 0 := by omega
              rw [List.take_zero, e, Nat.sub_self]
              exact .ls0 .nl
            · have := hf.cut (x := lo) (y := lo + m) (by omega) (by omega)
              simp only [subv, if_neg e] at this
              rw [hq e]
              rw [show lo + m - lo = m by omega] at this
              exact this.ls_of
        · exact h.elim
      · exact h.elim
    | bs sz α enc l =>
      simp only [mC] at h
      split at h
      · subst h; cases hr; exact .bs0 .nl
      · cases h; exact hr.ls_bs
      · cases h
        cases hr with
        | bs0 _ => exact .bs0 .nl
        | bs hb h1 h2 hr hz hc _ => exact .bs (hb.imp id (hB _)) h1 h2 hr hz hc .nl
      · rename_i j
        obtain ⟨hf, h⟩ := bguard h
        obtain ⟨b, hb, hL⟩ := Option.bind_eq_some_iff.1 h
        cases hr with
        | rw hg hq _ =>
          have hg' : γ[j]? = some _ := hg
          exact RL.bs_ptr (row_sv (hW.br _ _ _ hb hg') hL) (row_bs (m' := ⟨B', ρ.map (gOf γ)⟩) (hW.br _ _ _ hb hg') hL (frOK_B hfr hf hb hg')) hq
      · rename_i sz0 j lo m
        obtain ⟨hf, h⟩ := bguard h
        have hs := hW.sl hr h
        cases hr with
        | @sw _ _ _ _ _ p q n0 cap _ _ hg hle hq _ =>
          have hg' : γ[j]? = some _ := hg
          simp only [slOf] at h
          cases hb : (ah[j]?).bind rowOf with
          | none => rw [hb] at h; cases h
          | some L0 =>
            rw [hb] at h
            simp only [] at h
            by_cases hz : Nat.beq sz0 L0.sz = true
            · rw [hz] at h
              obtain ⟨b, hb1, hL⟩ := Option.bind_eq_some_iff.1 hb
              have hz := Nat.eq_of_beq_eq_true hz
              have hrow := row_bs (m' := ⟨B', ρ.map (gOf γ)⟩) (hW.br _ _ _ hb1 hg') hL (frOK_B hfr hf hb1 hg')
              have hsv := row_sv (hW.br _ _ _ hb1 hg') hL
              have hn : n0 = L0.l.length := by
                obtain ⟨p', cap', e, _⟩ := hsv.slice
                cases e; rfl
              cases h
              by_cases e : cap = lo
              · obtain ⟨p', cap', e', g1, _⟩ := hsv.slice
                cases e'
                obtain rfl : m = 0 := by omega
                rw [List.take_zero, e, Nat.sub_self]
                exact .bs0 .nl
              · have := RL.cutb hsv hrow (x := lo) (y := lo + m) (by omega) (by omega)
                simp only [subv, if_neg e] at this
                rw [hq e, hz]
                rw [show lo + m - lo = m by omega] at this
                exact this
            · rw [Bool.not_eq_true] at hz; rw [hz] at h; cases h
      · exact h.elim
    | bp cs =>
      simp only [mC] at h
      split at h
      · cases hr with
        | bp hb hr' hc _ => exact bpc (m := m0) (hb.imp id (hB _)) hr'.noγ hc h
      · rename_i j o
        split at h
        · rename_i cs0 hb
          obtain ⟨hf, h⟩ := bguard h
          cases hr with
          | ptr hg _ =>
            have hg' : γ[j]? = some _ := hg
            obtain ⟨k', vs, e, h1, h2⟩ := box_get (o := o) (hW.br j _ _ hb hg')
            cases e
            exact bpc (m := m0) (.inr (hfr j _ _ hf hb hg' _ (by simp [obv]))) h1 h2 h
        · exact h.elim
      · rename_i sz j i o
        obtain ⟨hf, h⟩ := bguard h
        split at h
        · rename_i L hL
          obtain ⟨hz, x, hi, h'⟩ := bguard h
          obtain rfl := Nat.eq_of_beq_eq_true hz
          obtain ⟨b, hb, hL⟩ := Option.bind_eq_some_iff.1 hL
          cases hr with
          | ep hg _ =>
            have hg' : γ[j]? = some _ := hg
            obtain ⟨us, h1, h2⟩ := rowOf_br (hW.br j b _ hb hg') hL rfl hi o
            have hbl := row_bs (m' := ⟨B', []⟩) (hW.br j b _ hb hg') hL (frOK_B hfr hf hb hg')
            have hblk := bs_blk hbl (List.ne_nil_of_length_pos (by have := (List.getElem?_eq_some_iff.1 hi).1; omega))
            exact bpc (m := m0) hblk h1.up h2 h'
        · exact h.elim
      · exact h.elim
    | fn f caps =>
      simp only [mC] at h
      split at h
      · obtain ⟨rfl, h⟩ := h
        cases hr with
        | fn hr' _ => exact .fn (all2_sound (fun c0 c v h hr => ih h hr) h hr') .nl
      · exact h.elim
    | iface t g cs =>
      simp only [mC] at h
      split at h
      · obtain ⟨⟨rfl, rfl⟩, h⟩ := h
        cases hr with
        | iface hr' _ => exact .iface (all2_sound (fun c0 c v h hr => ih h hr) h hr') .nl
      · exact h.elim
    | int k i => simp only [mC] at h; subst h; cases hr; exact .int .nl
    | bool b => simp only [mC] at h; subst h; cases hr; exact .bool .nl
    | str l => simp only [mC] at h; subst h; cases hr with | str h _ => exact .str h .nl
    | raw v => simp only [mC] at h; subst h; cases hr with | raw h _ => exact .raw h .nl
    | nil => simp only [mC] at h; subst h; cases hr; exact .nil .nl
end
end Go.AM
