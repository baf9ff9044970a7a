/- THE ABSTRACT MACHINE, part 15: regions, and code. -/
import Derived.Test.YtgbppkcebaoebaaAm14
import Derived.OrdersHeld
namespace Go.AM
open Go Go.NB
set_option linter.unusedVariables false
set_option linter.unusedSimpArgs false

/-- is the operation carried out? -/
def Xg (ops : Array Oper) (o : Oper) (s : St) (yes : St → Prop) (no : St → Prop) : Prop :=
  match o.guard with
  | none => yes s
  | some (j, want) => match (ops[j]?).bind (·.dst) with
    | some d => match lk s.env d with
      | some (.c (.bool b)) => match s with
        | ⟨e, ah⟩ => @Bool.rec (fun _ => Prop) (bif want then no ⟨(d, .c (.bool false)) :: e, ah⟩ else yes ⟨(d, .c (.bool false)) :: e, ah⟩)
          (bif want then yes ⟨(d, .c (.bool true)) :: e, ah⟩ else no ⟨(d, .c (.bool true)) :: e, ah⟩) b
      | some .off => no s
      | _ => False
    | none => False

/-- operations one behind the other; with each what it may write -/
def Xl (c : Cfg) (ops : Array Oper) : List (G × Oper) → St → (St → Prop) → (A → St → Prop) → Prop
  | [], s, k, _ => k s
  | (g, o) :: r, s, k, kp => Xg ops o s (fun s => Xo c g o s (fun s => Xl c ops r s k kp) kp) (fun s => putD c.n s o.dst .off fun s => Xl c ops r s k kp)

section
variable {c : Cfg} {r : Run} {s : St} {a : Act} {w : World} {o : Oper}

theorem yielded_at {F : Nat → Prop} {H : Heap} {m : Md} {ops : Array Oper} (hE : ER F H m s.env a) {j d : Nat} {x : A} (hj : (ops[j]?).bind (·.dst) = some d) (hl : lk s.env d = some x) (hx : ∀ v, RA F H m x v → v ≠ undef ∨ True) :
    yielded ops a.tmps j = (match a.tmps.getD d undef with | .bool b => some b | _ => none) := by
  unfold yielded
  rw [hj]
  show (match a.tmps[d]? with | some (.bool b) => some b | _ => none) = _
  by_cases h : d < a.tmps.size
  · rw [Array.getElem?_eq_getElem h]
    simp [Array.getD, h]
    cases a.tmps[d] <;> rfl
  · rw [Array.getElem?_eq_none (by omega)]
    simp [Array.getD, h]
    rfl

/-- whether it is, and in which state then -/
theorem Xg_sound {ops : Array Oper} {F : Nat → Prop} {γ : List Value} {yes no : St → Prop} (h : Xg ops o s yes no) (hs : SRf c r F γ s .undef undef a w) :
    (Region.wanted o (yielded ops a.tmps) = true ∧ ∃ s', yes s' ∧ s'.ah = s.ah ∧ SRf c r F γ s' .undef undef a w) ∨ (Region.wanted o (yielded ops a.tmps) = false ∧ ∃ s', no s' ∧ s'.ah = s.ah ∧ SRf c r F γ s' .undef undef a w) := by
  unfold Xg at h
  split at h
  · rename_i hg
    exact .inl ⟨by simp [Region.wanted, hg], s, h, rfl, hs⟩
  · rename_i j want hg
    split at h
    · rename_i d hd
      have hs' := hs
      obtain ⟨hn, hds, hA, hW, hE, _⟩ := hs'
      split at h
      · rename_i b hl
        have hy := yielded_at (ops := ops) hE hd hl (fun _ _ => .inr trivial)
        have hv := hE d _ hl
        generalize hvv : a.tmps.getD d undef = v at hy hv
        cases hv with
        | bool _ =>
          have put : ∀ b', b' = b → SRf c r F γ ⟨(d, .c (.bool b')) :: s.env, s.ah⟩ .undef undef a w := fun b' hb => by
            subst hb
            refine ⟨hn, hds, hA, hW, fun t x hlk => ?_, trivial⟩
            simp only [lk] at hlk
            by_cases e : Nat.beq d t = true
            · rw [e] at hlk
              cases hlk
              obtain rfl := Nat.eq_of_beq_eq_true e
              rw [hvv]
              exact .bool .nl
            · rw [Bool.not_eq_true] at e
              rw [e] at hlk
              exact hE t x hlk
          have hw : Region.wanted o (yielded ops a.tmps) = (some b == some want) := by simp only [Region.wanted, hg, hy]
          cases b with
          | true =>
            have h : bif want then yes ⟨(d, .c (.bool true)) :: s.env, s.ah⟩ else no ⟨(d, .c (.bool true)) :: s.env, s.ah⟩ := h
            rcases bcase h with ⟨rfl, h⟩ | ⟨rfl, h⟩
            · exact .inl ⟨by rw [hw]; rfl, _, h, rfl, put _ rfl⟩
            · exact .inr ⟨by rw [hw]; rfl, _, h, rfl, put _ rfl⟩
          | false =>
            have h : bif want then no ⟨(d, .c (.bool false)) :: s.env, s.ah⟩ else yes ⟨(d, .c (.bool false)) :: s.env, s.ah⟩ := h
            rcases bcase h with ⟨rfl, h⟩ | ⟨rfl, h⟩
            · exact .inr ⟨by rw [hw]; rfl, _, h, rfl, put _ rfl⟩
            · exact .inl ⟨by rw [hw]; rfl, _, h, rfl, put _ rfl⟩
      · rename_i hl
        have hy := yielded_at (ops := ops) hE hd hl (fun _ _ => .inr trivial)
        have hv : a.tmps.getD d undef = undef := hE d _ hl
        rw [hv] at hy
        have hy' : yielded ops a.tmps j = none := by rw [hy]; rfl
        refine .inr ⟨?_, s, h, rfl, hs⟩
        simp only [Region.wanted, hg, hy']
        rfl
      · exact h.elim
    · exact h.elim

/-- a plain region -/
theorem Xl_sound (hT : TabOk c.P c.tab) {ops : Array Oper} {k : St → Prop} {K : XE → St → Prop} {Q : Exit → Act → World → Prop} (hQn : ∀ s a w, k s → SR c r s .undef undef a w → Q .normal a w) (hQ : ∀ ch a w, Qk c r K (.panic ch) a w → Q (.panic ch) a w) :
    ∀ (l : List Oper) (s : St) (a : Act) (w : World), Xl c ops (l.map fun o => (G.any, o)) s k (fun v s => K (.pan v) s) → SR c r s .undef undef a w → wpList c.P ops Q l a w := by
  intro l
  induction l with
  | nil => intro s a w h hs; exact wpList_nil (hQn _ _ _ h hs)
  | cons o l ih =>
    intro s a w h hs
    refine wpList_step fun KK hK => ?_
    obtain ⟨F, γ, hs⟩ := hs
    rcases Xg_sound h hs with ⟨hw, s', h, _, hs'⟩ | ⟨hw, s', h, _, hs'⟩
    · rw [if_pos hw]
      exact Oper.wp_mono (fun a' w' ⟨F2, γ2, s2, h2, hs2, _⟩ => hK _ _ (ih s2 a' w' h2 ⟨F2, γ2, hs2⟩)) (Xo_sound hT h hs' hQ)
    · rw [if_neg (by rw [hw]; simp)]
      obtain ⟨hn, hds, hA, hW, hE, _⟩ := hs'
      obtain ⟨s2, h2, _, hs2⟩ := put_sound (x := .off) (v := undef) h hn hds hA hW hE rfl
      exact hK _ _ (ih s2 _ _ h2 ⟨F, γ, hs2⟩)
end
end Go.AM
