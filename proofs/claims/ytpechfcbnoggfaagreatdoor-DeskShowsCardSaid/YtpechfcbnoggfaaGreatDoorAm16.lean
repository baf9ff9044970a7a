/- part -/
import Derived.Test.YtpechfcbnoggfaaGreatDoorAm14
import Derived.OrdersHeld
set_option linter.unusedVariables false
set_option linter.unusedSimpArgs false
section
namespace Go.AM
open Go Go.NB
def Xg (ops : Array Oper) (o : Oper) (s : St) (yes : St → Prop) (no : St → Prop) : Prop :=
 match o.guard with
 | none => yes s
 | some (j, want) => match (ops[j]?).bind (·.dst) with
  | some d => match lk s.env d with
   | some (.c (.bool b)) => match s with
    | ⟨e, ah⟩ => @Bool.rec (fun _ => Prop) (bif want then no ⟨(d, .c (.bool false)) :: e, ah⟩ else yes ⟨(d, .c (.bool false)) :: e, ah⟩)
     (bif want then yes ⟨(d, .c (.bool true)) :: e, ah⟩ else no ⟨(d, .c (.bool true)) :: e, ah⟩) b
   | some .off => no s
   | _ => False
  | none => False
def Xl (c : Cfg) (ops : Array Oper) (l : List (G × Oper)) : St → (St → Prop) → (A → St → Prop) → Prop :=
 List.rec (motive := fun _ => St → (St → Prop) → (A → St → Prop) → Prop) (fun s k _ => k s)
  (fun x _ ih s k kp => Xg ops x.2 s (fun s => Xo c x.1 x.2 s (fun s => ih s k kp) kp) (fun s => putD c.n s x.2.dst .off fun s => ih s k kp)) l
theorem Xl_cons {c : Cfg} {ops : Array Oper} {g : G} {o : Oper} {r : List (G × Oper)} {s : St} {k : St → Prop} {kp : A → St → Prop} (h : Xl c ops ((g, o) :: r) s k kp) : Xg ops o s (fun s => Xo c g o s (fun s => Xl c ops r s k kp) kp) (fun s => putD c.n s o.dst .off fun s => Xl c ops r s k kp) := h
section
variable {c : Cfg} {r : Run} {s : St} {a : Act} {w : World} {o : Oper}
theorem yielded_at {F : Nat → Prop} {H : Heap} {m : Md} {ops : Array Oper} (hE : ER F H m s.env a) {j d : Nat} {x : A} (hj : (ops[j]?).bind (·.dst) = some d) (hl : lk s.env d = some x) (hx : ∀ v, RA F H m x v → v ≠ undef ∨ True) :
  yielded ops a.tmps j = (match a.tmps.getD d undef with | .bool b => some b | _ => none) := by
 unfold yielded
 rw [hj]
 show (match a.tmps[d]? with | some (.bool b) => some b | _ => none) = _
 by_cases h : d < a.tmps.size
 ·rw [Array.getElem?_eq_getElem h]
  simp [Array.getD, h]
  cases a.tmps[d] <;> rfl
 ·rw [Array.getElem?_eq_none (by omega)]
  simp [Array.getD, h]
  rfl
theorem Xg_sound {ops : Array Oper} {F : Nat → Prop} {γ : List Value} {yes no : St → Prop} (h : Xg ops o s yes no) (hs : SRf c r F γ s .undef undef a w) :
  (Region.wanted o (yielded ops a.tmps) = true ∧ ∃ s', yes s' ∧ s'.ah = s.ah ∧ SRf c r F γ s' .undef undef a w) ∨ (Region.wanted o (yielded ops a.tmps) = false ∧ ∃ s', no s' ∧ s'.ah = s.ah ∧ SRf c r F γ s' .undef undef a w) := by
 unfold Xg at h
 split at h
 ·rename_i hg
  exact .inl ⟨by simp [Region.wanted, hg], s, h, rfl, hs⟩
 ·rename_i j want hg
  split at h
  ·rename_i d hd
   have hs' := hs
   obtain ⟨hn, hds, hA, hW, hE, _⟩ := hs'
   split at h
   ·rename_i b hl
    have hy := yielded_at (ops := ops) hE hd hl (fun _ _ => .inr trivial)
    have hv := hE d _ hl
    generalize hvv : a.tmps.getD d undef = v at hy hv
    cases hv with
    | bool _ =>
     have put : ∀ b', b' = b → SRf c r F γ ⟨(d, .c (.bool b')) :: s.env, s.ah⟩ .undef undef a w := fun b' hb => by
      subst hb
      refine ⟨hn, hds, hA, hW, fun t x hlk => ?_, trivial⟩
      simp only [lk] at hlk
      by_cases e : Nat.beq d t = true
      ·rw [e] at hlk
       cases hlk
       obtain rfl := Nat.eq_of_beq_eq_true e
       rw [hvv]
       exact .bool .nl
      ·rw [Bool.not_eq_true] at e
       rw [e] at hlk
       exact hE t x hlk
     have hw : Region.wanted o (yielded ops a.tmps) = (some b == some want) := by simp only [Region.wanted, hg, hy]
     cases b with
     | true =>
      have h : bif want then yes ⟨(d, .c (.bool true)) :: s.env, s.ah⟩ else no ⟨(d, .c (.bool true)) :: s.env, s.ah⟩ := h
      rcases bcase h with ⟨rfl, h⟩ | ⟨rfl, h⟩
      ·exact .inl ⟨by rw [hw]; rfl, _, h, rfl, put _ rfl⟩
      ·exact .inr ⟨by rw [hw]; rfl, _, h, rfl, put _ rfl⟩
     | false =>
      have h : bif want then no ⟨(d, .c (.bool false)) :: s.env, s.ah⟩ else yes ⟨(d, .c (.bool false)) :: s.env, s.ah⟩ := h
      rcases bcase h with ⟨rfl, h⟩ | ⟨rfl, h⟩
      ·exact .inr ⟨by rw [hw]; rfl, _, h, rfl, put _ rfl⟩
      ·exact .inl ⟨by rw [hw]; rfl, _, h, rfl, put _ rfl⟩
   ·rename_i hl
    have hy := yielded_at (ops := ops) hE hd hl (fun _ _ => .inr trivial)
    have hv : a.tmps.getD d undef = undef := hE d _ hl
    rw [hv] at hy
    have hy' : yielded ops a.tmps j = none := by rw [hy]; rfl
    refine .inr ⟨?_, s, h, rfl, hs⟩
    simp only [Region.wanted, hg, hy']
    rfl
   ·exact h.elim
  ·exact h.elim
theorem Xl_sound (hT : TabOk c.P c.tab) {ops : Array Oper} {k : St → Prop} {K : XE → St → Prop} {Q : Exit → Act → World → Prop} (hQn : ∀ s a w, k s → SR c r s .undef undef a w → Q .normal a w) (hQ : ∀ ch a w, Qk c r K (.panic ch) a w → Q (.panic ch) a w) :
  ∀ (l : List Oper) (s : St) (a : Act) (w : World), Xl c ops (l.map fun o => (G.any, o)) s k (fun v s => K (.pan v) s) → SR c r s .undef undef a w → wpList c.P ops Q l a w := by
 intro l
 induction l with
 | nil => intro s a w h hs; exact wpList_nil (hQn _ _ _ h hs)
 | cons o l ih =>
  intro s a w h hs
  refine wpList_step fun KK hK => ?_
  obtain ⟨F, γ, hs⟩ := hs
  rcases Xg_sound (Xl_cons h) hs with ⟨hw, s', h, _, hs'⟩ | ⟨hw, s', h, _, hs'⟩
  ·rw [if_pos hw]
   exact Oper.wp_mono (fun a' w' ⟨F2, γ2, s2, h2, hs2, _⟩ => hK _ _ (ih s2 a' w' h2 ⟨F2, γ2, hs2⟩)) (Xo_sound hT h hs' hQ)
  ·rw [if_neg (by rw [hw]; simp)]
   obtain ⟨hn, hds, hA, hW, hE, _⟩ := hs'
   obtain ⟨s2, h2, _, hs2⟩ := put_sound (x := .off) (v := undef) h hn hds hA hW hE rfl
   exact hK _ _ (ih s2 _ _ h2 ⟨F, γ, hs2⟩)
end
end Go.AM
end
/- part -/
section
namespace Go.AM
open Go Go.NB
def bitsOf (acc : Array Nat) (o : Oper) : Nat := o.after.toList.foldl (fun s e => bif Region.binds .any e then s ||| 2 ^ e.on ||| acc.getD e.on 0 else s) 0
def bitsAll : List Oper → Array Nat → Array Nat
 | [], acc => acc
 | o :: r, acc => bitsAll r (acc.push (bitsOf acc o))
inductive Ahead (ops : Array Oper) : Nat → Nat → Prop
 | one {i j : Nat} {o : Oper} {e : Edge} (h : ops[j]? = some o) (he : e ∈ o.after) (hb : Region.binds .any e = true) (hi : e.on = i) : Ahead ops i j
 | more {i j : Nat} {o : Oper} {e : Edge} (h : ops[j]? = some o) (he : e ∈ o.after) (hb : Region.binds .any e = true) (hi : Ahead ops i e.on) : Ahead ops i j
theorem bitsOf_spec {ops : Array Oper} {acc : Array Nat} {o : Oper} {j : Nat} (ho : ops[j]? = some o) (hacc : ∀ i q, (acc.getD q 0).testBit i = true → Ahead ops i q) : ∀ i, (bitsOf acc o).testBit i = true → Ahead ops i j := by
 have key : ∀ (l : List Edge) (s : Nat), (∀ e ∈ l, e ∈ o.after) → (∀ i, s.testBit i = true → Ahead ops i j) → ∀ i, (l.foldl (fun s e => bif Region.binds .any e then s ||| 2 ^ e.on ||| acc.getD e.on 0 else s) s).testBit i = true → Ahead ops i j := by
  intro l
  induction l with
  | nil => intro s _ hs i h; exact hs i h
  | cons e l ih =>
   intro s hl hs i h
   rw [List.foldl_cons] at h
   refine ih _ (fun e he => hl e (by simp [he])) (fun i hi => ?_) i h
   by_cases hb : Region.binds .any e = true
   ·rw [hb, cond_true, Nat.testBit_or, Nat.testBit_or, Bool.or_eq_true, Bool.or_eq_true] at hi
    rcases hi with (hi | hi) | hi
    ·exact hs i hi
    ·rw [Nat.testBit_two_pow] at hi
     exact .one ho (hl e (by simp)) hb (by simpa using hi)
    ·exact .more ho (hl e (by simp)) hb (hacc i _ hi)
   ·rw [Bool.not_eq_true] at hb
    rw [hb, cond_false] at hi
    exact hs i hi
 intro i h
 exact key o.after.toList 0 (fun e he => by simpa using he) (fun i hi => by simp at hi) i h
theorem bitsAll_spec {ops : Array Oper} : ∀ (l : List Oper) (acc : Array Nat), (∀ q o, l[q]? = some o → ops[acc.size + q]? = some o) → (∀ i q, (acc.getD q 0).testBit i = true → Ahead ops i q) → ∀ i q, ((bitsAll l acc).getD q 0).testBit i = true → Ahead ops i q
 | [], acc, _, h => h
 | o :: r, acc, hl, h => by
  refine bitsAll_spec r _ (fun q o' hq => ?_) (fun i q hi => ?_)
  ·have := hl (q + 1) o' (by simpa using hq)
   rw [Array.size_push]
   rw [show acc.size + 1 + q = acc.size + (q + 1) by omega]
   exact this
  ·by_cases hq : q < acc.size
   ·refine h i q ?_
    simp only [Array.getD_eq_getD_getElem?] at hi ⊢
    rw [Array.getElem?_push_lt hq] at hi
    rw [Array.getElem?_eq_getElem hq]
    exact hi
   ·by_cases he : q = acc.size
    ·subst he
     have h1 := hl 0 o rfl
     simp only [Array.getD_eq_getD_getElem?, Array.getElem?_push_size, Option.getD_some] at hi
     exact bitsOf_spec h1 h i hi
    ·simp only [Array.getD_eq_getD_getElem?] at hi
     rw [Array.getElem?_eq_none (by simp; omega)] at hi
     simp at hi
def isR (op : Op) : Bool := !isN op
def lateB (ops : Array Oper) (bits : Array Nat) (j : Nat) : Bool := (List.range ops.size).all fun i => match ops[i]? with
 | some o => !isR o.op || Nat.beq i j || (bits.getD j 0).testBit i || (bits.getD i 0).testBit j
 | none => true
section
variable {P : Program} {ops : Array Oper} {Q : Exit → Act → World → Prop} {S : World → Prop} {late : Nat → Bool}
def Cl (ops : Array Oper) (listed : Array Bool) : Prop :=
 ∀ (j : Nat) (oj : Oper), ops[j]? = some oj → listed.getD j false = true → ∀ e ∈ oj.after, Region.binds .any e = true → listed.getD e.on false = true
theorem Cl.step {listed : Array Bool} {j : Nat} (hc : Cl ops listed) (hj : j ∈ Region.ready .any ops listed) : Cl ops (listed.setIfInBounds j true) := fun k ok hk hl e he hb => by
 obtain ⟨_, oj, hoj, hall⟩ := mem_ready.1 hj
 by_cases hkj : j = k
 ·subst hkj
  rw [hk] at hoj
  cases hoj
  exact getD_set_true (hall e he hb)
 ·rw [getD_set_ne false hkj] at hl
  exact getD_set_true (hc k ok hk hl e he hb)
theorem ahead_listed {listed : Array Bool} (hc : Cl ops listed) {i j : Nat} (h : Ahead ops i j) : (∀ o, ops[j]? = some o → ∀ e ∈ o.after, Region.binds .any e = true → listed.getD e.on false = true) → listed.getD i false = true := by
 induction h with
 | one h he hb hi => intro hj; rw [← hi]; exact hj _ h _ he hb
 | more h he hb _ ih => intro hj; exact ih fun o' ho' e' he' hb' => hc _ _ ho' (hj _ h _ he hb) e' he' hb'
def Same (g : G) (D : Nat → Prop) (H H' : Heap) : Prop := ∀ k, D k → SameAt g H H' k
theorem Same.keep {H H' : Heap} (h : Same .grow (fun k => k < H.size) H H') : Keep [] H H' := by
 refine ⟨?_, fun k hk _ => h k hk⟩
 rcases Nat.eq_zero_or_pos H.size with h0 | h0
 ·omega
 ·have : H'[H.size - 1]? = H[H.size - 1]? := h (H.size - 1) (by show H.size - 1 < H.size; omega)
  rw [Array.getElem?_eq_getElem (by omega : H.size - 1 < H.size)] at this
  have := (Array.getElem?_eq_some_iff.1 this).1
  omega
def wpAnyG (P : Program) (ops : Array Oper) (Q : Exit → Act → World → Prop) (late : Nat → Bool) (g : G) : Nat → (Nat → Prop) → Array Bool → Act → World → Prop
 | 0, _, listed, a, w => Region.ready .any ops listed = [] ∧ Q .normal a w
 | fuel + 1, Pr, listed, a, w => (Region.ready .any ops listed = [] → Q .normal a w) ∧
  ∀ i ∈ Region.ready .any ops listed, wpOp P ops Q i (fun a' w' => ∃ Pr', (late i = true ∨ (Same g Pr w.heap w'.heap ∧ ∀ k, Pr k → Pr' k)) ∧ wpAnyG P ops Q late g fuel Pr' (listed.setIfInBounds i true) a' w') a w
theorem wpAny_of_G {g : G} : ∀ (fuel : Nat) (Pr : Nat → Prop) (listed : Array Bool) (a : Act) (w : World), wpAnyG P ops Q late g fuel Pr listed a w → wpAny P .any ops Q fuel listed a w
 | 0, _, _, _, _, h => h
 | fuel + 1, _, _, _, _, h => ⟨h.1, fun i hi => wpOp_mono (fun a' w' ⟨Pr', _, h'⟩ => wpAny_of_G fuel Pr' _ a' w' h') (h.2 i hi)⟩
theorem unlisted {listed : Array Bool} {i : Nat} (h : listed.getD i true = false) : listed.getD i false = false := by
 rcases Nat.lt_or_ge i listed.size with h' | h'
 ·simp [h'] at h ⊢; exact h
 ·simp [Array.getElem?_eq_none h'] at h
theorem wpAnyG_first {g : G} {i : Nat} {oi : Oper} {v : Value} (hi : ops[i]? = some oi) (hsel : ∀ (j : Nat) (o : Oper) cs b, ops[j]? = some o → o.op ≠ .select cs b)
  (hQ : ∀ c a w, Q (.panic c) (a.put oi.dst v) w → Q (.panic c) a w) {w0 : World} {D : Nat → Prop} {n : Prop}
  (hl : n ∨ ∀ (listed : Array Bool) (j : Nat), Cl ops listed → i ∈ Region.ready .any ops listed → j ∈ Region.ready .any ops listed → listed.getD i false = false → j ≠ i → late j = false) :
  ∀ (fuel : Nat) (Pr : Nat → Prop) (listed : Array Bool) (a : Act) (w : World), Cl ops listed →
   (∀ j oj, ops[j]? = some oj → j ≠ i → listed.getD j true = false → (∀ e ∈ oj.after, Region.binds .any e = true → e.on ≠ i) → oi.apart ops oj = true) →
   i ∈ Region.ready .any ops listed → YieldsIf P ops (fun w' => n ∨ Same g D w0.heap w'.heap) oi v a → (n ∨ (Same g D w0.heap w.heap ∧ ∀ k, D k → Pr k)) →
   wpAnyG P ops Q late g fuel Pr (listed.setIfInBounds i true) (a.put oi.dst v) w → wpAnyG P ops Q late g (fuel + 1) Pr listed a w := by
 intro fuel
 induction fuel with
 | zero =>
  intro Pr listed a w _ _ hr hy hSw H
  have hSw' : n ∨ Same g D w0.heap w.heap := hSw.imp id (·.1)
  refine ⟨fun h => (by rw [h] at hr; cases hr), fun j hj => ?_⟩
  by_cases hji : j = i
  ·subst hji; exact hy.wpOp hi hSw' ⟨Pr, .inr ⟨fun _ _ => .of rfl, fun _ h => h⟩, H⟩
  ·have := ready_mono hj hji
   rw [H.1] at this
   cases this
 | succ fuel ih =>
  intro Pr listed a w hc hfree hr hy hSw H
  have hSw' : n ∨ Same g D w0.heap w.heap := hSw.imp id (·.1)
  refine ⟨fun h => (by rw [h] at hr; cases hr), fun j hj => ?_⟩
  by_cases hji : j = i
  ·subst hji; exact hy.wpOp hi hSw' ⟨Pr, .inr ⟨fun _ _ => .of rfl, fun _ h => h⟩, H⟩
  ·have h1 := H.2 j (ready_mono hj hji)
   have hiun := unlisted (mem_ready.1 hr).1
   obtain ⟨hjun, oj, hoj, hall⟩ := mem_ready.1 hj
   have hnot : ∀ e ∈ oj.after, Region.binds .any e = true → e.on ≠ i := fun e he hb heq => by
    have h2 := hall e he hb
    rw [heq, hiun] at h2
    cases h2
   have h2 := wpOp_putIf hoj (hfree j oj hoj hji hjun hnot) (fun cs b => hsel i oi cs b hi) (fun cs b => hsel j oj cs b hoj) hQ hy h1
   have hfree' : ∀ k ok, ops[k]? = some ok → k ≠ i → (listed.setIfInBounds j true).getD k true = false →
     (∀ e ∈ ok.after, Region.binds .any e = true → e.on ≠ i) → oi.apart ops ok = true := fun k ok hk hki hun hno => by
    refine hfree k ok hk hki ?_ hno
    by_cases hjk : j = k
    ·subst hjk; exact hjun
    ·rw [getD_set_ne true hjk] at hun; exact hun
   refine wpOp_mono (fun a' w' h3 => ?_) h2
   obtain ⟨h4, Pr', h5, h6⟩ := h3
   have hS2 : n ∨ (Same g D w0.heap w'.heap ∧ ∀ k, D k → Pr' k) := by
    rcases hl with hl | hl
    ·exact .inl hl
    ·rcases hSw with hSw | ⟨g1, g2⟩
     ·exact .inl hSw
     ·rcases h5 with h5 | ⟨h5, h7⟩
      ·rw [hl listed j hc hr hj hiun hji] at h5; cases h5
      ·exact .inr ⟨fun k hk => (g1 k hk).trans (h5 k (g2 k hk)), fun k hk => h7 k (g2 k hk)⟩
   refine ⟨Pr', h5, ih Pr' (listed.setIfInBounds j true) a' w' (hc.step hj) hfree' (ready_mono hr (Ne.symm hji)) h4 hS2 ?_⟩
   rw [Array.setIfInBounds_comm _ _ hji]
   exact h6
theorem late_spec {bits : Array Nat} (hbits : ∀ i q, (bits.getD q 0).testBit i = true → Ahead ops i q) {i : Nat} {oi : Oper} (hi : ops[i]? = some oi) (hr : isR oi.op = true) :
  ∀ (listed : Array Bool) (j : Nat), Cl ops listed → i ∈ Region.ready .any ops listed → j ∈ Region.ready .any ops listed → listed.getD i false = false → j ≠ i → lateB ops bits j = false := fun listed j hc hri hj hun hne => by
 cases h : lateB ops bits j with
 | false => rfl
 | true =>
  have hlt := (Array.getElem?_eq_some_iff.1 hi).1
  have h1 := List.all_eq_true.1 h i (List.mem_range.2 hlt)
  rw [hi] at h1
  simp only [hr, Bool.not_true, Bool.false_or, Bool.or_eq_true] at h1
  rcases h1 with (h1 | h1) | h1
  ·exact (hne (Nat.eq_of_beq_eq_true h1).symm).elim
  ·obtain ⟨_, oj, hoj, hall⟩ := mem_ready.1 hj
   have := ahead_listed hc (hbits i j h1) fun o ho e he hb => by rw [hoj] at ho; cases ho; exact hall e he hb
   rw [hun] at this
   cases this
  ·obtain ⟨_, oi', hoi, hall⟩ := mem_ready.1 hri
   have := ahead_listed hc (hbits j i h1) fun o ho e he hb => by rw [hoi] at ho; cases ho; exact hall e he hb
   rw [unlisted (mem_ready.1 hj).1] at this
   cases this
end
def stab (tab : Nat → Option TD) : Op → Bool
 | .move _ | .assign _ | .pick .. | .load .. | .nilCheck _ | .binOp .. | .unOp .. | .build .. | .fieldAddr .. | .field .. | .indexAddr .. | .index .. | .slice .. | .extract .. | .makeFunc .. | .makeInterface .. => true
 | .convert _ u _ => match tab u with
  | some d => match d.kind with
   | .int _ => true
   | .str => true
   | _ => false
  | none => false
 | .call c => match c.callee with
  | .builtin .len => true
  | .builtin .max => true
  | .builtin .min => true
  | _ => false
 | _ => false
def stabM (m : Bool) (tab : Nat → Option TD) (op : Op) : Bool := stab tab op && (!m || isN op)
def drawB (m : Bool) (tab : Nat → Option TD) (ops : Array Oper) : List Nat → Array Bool → (Array Bool → Bool) → Bool
 | [], listed, D => D listed
 | i :: r, listed, D => (match ops[i]? with
   | some o => bif stabM m tab o.op then Region.free .any ops listed i && (Region.ready .any ops listed).contains i else Region.ready .any ops listed == [i]
   | none => false) && drawB m tab ops r (listed.setIfInBounds i true) D
inductive DT where
 | l (ord : List Nat)
 | alt (ord js : List Nat) (f : Nat → DT)
def drawT (m : Bool) (tab : Nat → Option TD) (ops : Array Oper) : DT → Array Bool → Bool
 | .l ord, listed => drawB m tab ops ord listed fun listed => (Region.ready .any ops listed).isEmpty
 | .alt ord js f, listed => drawB m tab ops ord listed fun listed => !js.isEmpty && (Region.ready .any ops listed == js) && js.all fun j => drawT m tab ops (f j) (listed.setIfInBounds j true)
def lenT : DT → Nat → Bool
 | .l ord, n => Nat.beq ord.length n
 | .alt ord js f, n => Nat.ble (ord.length + 1) n && js.all fun j => lenT (f j) (n - (ord.length + 1))
def lateM (m : Bool) (ops : Array Oper) (bits : Array Nat) (j : Nat) : Bool := m || lateB ops bits j
def flagged (ops : Array Oper) (late : Nat → Bool) (g : G) : List Nat → List (G × Oper)
 | [] => []
 | i :: r => match ops[i]? with
  | some o => (bif isN o.op && late i then .any else g, o) :: flagged ops late g r
  | none => flagged ops late g r
def drawOK (m : Bool) (g : G) (tab : Nat → Option TD) (ops : Array Oper) (t : DT) : Bool :=
 (m || g.strict) && lenT t ops.size && Region.noSelect ops && drawT m tab ops t (Array.replicate ops.size false)
def AllJ (P : Nat → Prop) (l : List Nat) : Prop :=
 List.rec (motive := fun _ => Prop) True (fun j r ih => List.rec (motive := fun _ => Prop) (P j) (fun _ _ _ => P j ∧ ih) r) l
theorem AllJ.get {P : Nat → Prop} : ∀ {l : List Nat}, AllJ P l → ∀ j ∈ l, P j
 | [], _, j, h => by cases h
 | [i], h, j, hj => by simp at hj; subst hj; exact h
 | i :: k :: r, h, j, hj => by
  have h : P i ∧ AllJ P (k :: r) := h
  rcases List.mem_cons.1 hj with rfl | hj
  ·exact h.1
  ·exact AllJ.get h.2 j hj
def XT (c : Cfg) (ops : Array Oper) (late : Nat → Bool) (g : G) (k : St → Prop) (kp : A → St → Prop) (t : DT) : St → Prop :=
 DT.rec (motive := fun _ => St → Prop) (fun ord s => Xl c ops (flagged ops late g ord) s k kp)
  (fun ord js _ ih s => Xl c ops (flagged ops late g ord) s (fun s => AllJ (fun j => Xl c ops (flagged ops late g [j]) s (fun s => ih j s) kp) js) kp) t
section
variable {c : Cfg} {r : Run} {o : Oper}
theorem stab_not_act {tab : Nat → Option TD} {s : St} {op : Op} (h : stab tab op = true) : isAct tab s op = false ∧ (∀ x, op ≠ .panic x) ∧ (∀ fx as tys, op ≠ .call ⟨.value fx, as, tys⟩) := by
 cases op with
 | convert t u x =>
  refine ⟨?_, (fun _ h => by cases h), (fun _ _ _ h => by cases h)⟩
  simp only [isAct]
  simp only [stab] at h
  cases hu : tab u with
  | none => rw [hu] at h; cases h
  | some d =>
   rw [hu] at h
   simp only [] at h
   cases hx : opn s x with
   | c y =>
    cases y with
    | str l =>
     simp only []
     cases hd : d.kind with
     | sl e => rw [hd] at h; cases h
     | _ => rfl
    | rw l =>
     simp only []
     cases hd : d.kind with
     | sl e => rw [hd] at h; cases h
     | _ => rfl
    | _ => rfl
   | _ => rfl
 | call cl =>
  obtain ⟨cal, as, tys⟩ := cl
  cases cal with
  | builtin b => cases b <;> first | (cases h; done) | exact ⟨rfl, (fun _ h => by cases h), (fun _ _ _ h => by cases h)⟩
  | value f => cases h
  | invoke f n => cases h
 | _ => first | (cases h; done) | exact ⟨rfl, (fun _ h => by cases h), (fun _ _ _ h => by cases h)⟩
theorem Xo_stab {g : G} {s : St} {k : St → Prop} {kp : A → St → Prop} (hs : stab c.tab o.op = true) (h : Xo c g o s k kp) : g.mem o.op s = true ∧ Y1 c.tab s o.op (fun x => putD c.n s o.dst x k) := by
 obtain ⟨h1, h2, h3⟩ := stab_not_act (s := s) hs
 unfold Xo at h
 split at h
 ·rename_i x ho; exact (h2 x ho).elim
 ·rename_i fx as tys ho; exact (h3 fx as tys ho).elim
 ·rcases bcase h with ⟨ha, _⟩ | ⟨_, h⟩
  ·rw [h1] at ha; cases ha
  ·exact bguard h
def NoE (K : XE → St → Prop) : Prop := ∀ x s, K (.pan x) s → K (.pan x) ⟨[], s.ah⟩
def nE (K : XE → St → Prop) : XE → St → Prop
 | .pan x, s => K (.pan x) ⟨[], s.ah⟩
 | e, s => K e s
theorem Qk_put {K : XE → St → Prop} (hK : NoE K) {ch : List PanicEntry} {a : Act} {w : World} {d : Option Nat} {v : Value} (h : Qk c r K (.panic ch) (a.put d v) w) : Qk c r K (.panic ch) a w := by
 obtain ⟨v', x, s, h1, h2, F, γ, h3, h4, h5, h6, h7, h8⟩ := h
 refine ⟨v', x, ⟨[], s.ah⟩, h1, hK _ _ h2, F, γ, ?_, ?_, h5, h6, (fun t x h => by cases h), h8⟩
 ·cases d <;> simpa [Act.put] using h3
 ·cases d <;> simpa [Act.put] using h4
abbrev AnyG (c : Cfg) (ops : Array Oper) (Q : Exit → Act → World → Prop) (late : Nat → Bool) (g : G) (r : Run) (F : Nat → Prop) (γ : List Value) (s : St) (fuel : Nat) (listed : Array Bool) (a : Act) (w : World) : Prop :=
 wpAnyG c.P ops Q late g fuel (PrOf g r.E F γ s.ah w.heap) listed a w
theorem act_step (hT : TabOk c.P c.tab) {ops : Array Oper} {late : Nat → Bool} {g : G} (hg : (∀ i, late i = true) ∨ g.strict = true) {k : St → Prop} {K : XE → St → Prop} {j : Nat} {s : St} {F : Nat → Prop} {γ : List Value} {a : Act} {w : World} {R : (Nat → Prop) → Act → World → Prop} (ho : ops[j]? = some o)
  (h : Xl c ops (flagged ops late g [j]) s k (fun v s => K (.pan v) s)) (hs : SRf c r F γ s .undef undef a w) (hR : ∀ F γ s a w, k s → SRf c r F γ s .undef undef a w → R (PrOf g r.E F γ s.ah w.heap) a w) :
  wpOp c.P ops (Qk c r K) j (fun a' w' => ∃ Pr', (late j = true ∨ (Same g (PrOf g r.E F γ s.ah w.heap) w.heap w'.heap ∧ ∀ q, PrOf g r.E F γ s.ah w.heap q → Pr' q)) ∧ R Pr' a' w') a w := by
 simp only [flagged, ho] at h
 unfold wpOp
 simp only [ho]
 rcases Xg_sound (Xl_cons h) hs with ⟨hw, s1, h1, e1, hs1⟩ | ⟨hw, s1, h1, e1, hs1⟩
 ·rw [if_pos hw]
  refine .inl (Oper.wp_mono (fun a' w' ⟨F2, γ2, s2, h2, hs2, hp⟩ => ⟨_, ?_, hR F2 γ2 s2 _ _ h2 hs2⟩) (Xo_sound hT h1 hs1 (fun ch a w h => h)))
  cases hl : late j with
  | true => exact .inl rfl
  | false =>
   rcases hg with hg | hg
   ·rw [hg j] at hl; cases hl
   ·rw [hl, Bool.and_false] at hp
    rw [← e1]
    exact .inr ⟨fun q hq => (hp hg q hq).1, fun q hq => (hp hg q hq).2⟩
 ·rw [if_neg (by rw [hw]; simp)]
  obtain ⟨hn, hds, hA, hW, hE, _⟩ := hs1
  obtain ⟨s2, h2, e2, hs2⟩ := put_sound (x := .off) (v := undef) h1 hn hds hA hW hE rfl
  exact ⟨_, .inr ⟨fun _ _ => .of rfl, fun q hq => by rw [e2, e1]; exact hq⟩, hR F γ s2 _ _ h2 hs2⟩
theorem load_sound (hT : TabOk c.P c.tab) {g : G} {s : St} {k : A → Prop} {F : Nat → Prop} {γ : List Value} {a : Act} {w : World} (hg : g.strict = true) (hst : stab c.tab o.op = true) (hE : ER F w.heap ⟨r.E.B, γ⟩ s.env a) (hW : WR r.E F γ s.ah w.heap)
  (hm : g.mem o.op s = true) (h : Y1 c.tab s o.op k) : ∃ v x, k x ∧ RA F w.heap ⟨r.E.B, γ⟩ x v ∧ ∀ w' : World, (isN o.op = true ∨ Same g (PrOf g r.E F γ s.ah w.heap) w.heap w'.heap) → (execOp a.eval o).run c.P w' = .ok (.value v) w' := by
 cases hN : isN o.op with
 | true =>
  obtain ⟨v, x, h1, h2, h3⟩ := Y1_sound hT hE hW h
  exact ⟨v, x, h1, h2, fun w' _ => h3 w' (.inl hN)⟩
 | false =>
  cases g with
  | any => cases hg
  | grow =>
   obtain ⟨v, x, h1, h2, h3⟩ := Y1_sound hT hE hW h
   exact ⟨v, x, h1, h2, fun w' hw => h3 w' (.inr (Same.keep (hw.resolve_left (by simp))))⟩
  | prot pl =>
   generalize ho : o.op = op at hm h hN
   cases op with
   | load t x =>
    obtain ⟨b, hb, hy⟩ := y_loadB (pl := pl) hT hE hW ho h hm
    obtain ⟨v, y, h1, h2, h3⟩ := hy
    exact ⟨v, y, h1, h2, fun w' hw => h3 w' (hw.resolve_left (by simp) b hb)⟩
   | convert t u x => cases hm
   | _ => cases hN
theorem Xd_sound (hT : TabOk c.P c.tab) {K : XE → St → Prop} (hK : NoE K) {ops : Array Oper} {bits : Array Nat} {m : Bool} {g : G} (hg : (m || g.strict) = true) (hbits : ∀ i q, (bits.getD q 0).testBit i = true → Ahead ops i q) (hsel : Region.noSelect ops = true) {k : St → Prop} {D : Array Bool → Bool} {fuel : Nat}
  (hk : ∀ (listed : Array Bool) (F : Nat → Prop) (γ : List Value) (s : St) (a : Act) (w : World), Cl ops listed → D listed = true → k s → SRf c r F γ s .undef undef a w → AnyG c ops (Qk c r K) (lateM m ops bits) g r F γ s fuel listed a w) :
  ∀ (ord : List Nat) (listed : Array Bool) (F : Nat → Prop) (γ : List Value) (s : St) (a : Act) (w : World), Cl ops listed → drawB m c.tab ops ord listed D = true → Xl c ops (flagged ops (lateM m ops bits) g ord) s k (fun v s => K (.pan v) s) → SRf c r F γ s .undef undef a w →
   AnyG c ops (Qk c r K) (lateM m ops bits) g r F γ s (fuel + ord.length) listed a w := by
 have hgl : (∀ i, lateM m ops bits i = true) ∨ g.strict = true := by
  rw [Bool.or_eq_true] at hg
  exact hg.imp (fun h i => by unfold lateM; rw [h]; rfl) id
 intro ord
 induction ord with
 | nil =>
  intro listed F γ s a w hc hd h hs
  exact hk listed F γ s a w hc hd h hs
 | cons i ord ih =>
  intro listed F γ s a w hc hd h hs
  simp only [drawB, Bool.and_eq_true] at hd
  obtain ⟨hd1, hd2⟩ := hd
  cases ho : ops[i]? with
  | none => rw [ho] at hd1; cases hd1
  | some o =>
   rw [ho] at hd1
   have h0 := h
   simp only [flagged, ho] at h
   simp only [] at hd1
   by_cases hst : stabM m c.tab o.op = true
   ·rw [hst] at hd1
    simp only [cond_true, Bool.and_eq_true] at hd1
    obtain ⟨hfree, hrd⟩ := hd1
    have hrd' : i ∈ Region.ready .any ops listed := by simpa using hrd
    have hst' := hst
    unfold stabM at hst'
    rw [Bool.and_eq_true, Bool.or_eq_true, Bool.not_eq_true'] at hst'
    -- the value, in this world and in those that come of it
    have key : ∃ v, YieldsIf c.P ops (fun w' => isN o.op = true ∨ Same g (PrOf g r.E F γ s.ah w.heap) w.heap w'.heap) o v a ∧ ∃ s', s'.ah = s.ah ∧ Xl c ops (flagged ops (lateM m ops bits) g ord) s' k (fun v s => K (.pan v) s) ∧ SRf c r F γ s' .undef undef (a.put o.dst v) w := by
     rcases Xg_sound (Xl_cons h) hs with ⟨hw, s1, h1, e1, hn, hds, hA, hW, hE, _⟩ | ⟨hw, s1, h1, e1, hn, hds, hA, hW, hE, _⟩
     ·suffices hh : ∃ v x, putD c.n s1 o.dst x (fun s => Xl c ops (flagged ops (lateM m ops bits) g ord) s k (fun v s => K (.pan v) s)) ∧ RA F w.heap ⟨r.E.B, γ⟩ x v ∧ ∀ w' : World, (isN o.op = true ∨ Same g (PrOf g r.E F γ s.ah w.heap) w.heap w'.heap) → (execOp a.eval o).run c.P w' = .ok (.value v) w' by
       obtain ⟨v, x, hk2, hx, hrun⟩ := hh
       obtain ⟨s', g1, e2, g2⟩ := put_sound hk2 hn hds hA hW hE hx
       exact ⟨v, .inl ⟨hw, fun w' h => hrun w' h⟩, s', by rw [e2, e1], g1, g2⟩
      obtain ⟨hm1, hy⟩ := Xo_stab hst'.1 h1
      cases hN : isN o.op with
      | true =>
       obtain ⟨v, x, q1, q2, q3⟩ := Y1_sound hT hE hW hy
       exact ⟨v, x, q1, q2, fun w' _ => q3 w' (.inl hN)⟩
      | false =>
       have hm0 : m = false := hst'.2.resolve_right (by rw [hN]; simp)
       have hgs : g.strict = true := by rw [hm0] at hg; exact hg
       rw [hN, Bool.false_and, cond_false] at hm1
       have := load_sound (r := r) hT hgs hst'.1 hE hW hm1 hy
       rw [hN, e1] at this
       exact this
     ·obtain ⟨s', g1, e2, g2⟩ := put_sound (x := .off) (v := undef) h1 hn hds hA hW hE rfl
      exact ⟨undef, .inr ⟨hw, rfl⟩, s', by rw [e2, e1], g1, g2⟩
    obtain ⟨v, hy, s', e', h', hs'⟩ := key
    refine wpAnyG_first (w0 := w) (D := PrOf g r.E F γ s.ah w.heap) (n := isN o.op = true) (v := v) (g := g) ho (Region.noSelect_spec hsel) (fun ch a w h => Qk_put hK h) ?_ _ _ listed a w hc (Region.free_spec ho hfree) hrd' hy (.inr ⟨fun _ _ => .of rfl, fun _ h => h⟩) (by have := ih _ F γ s' _ _ (hc.step hrd') hd2 h' hs'; unfold AnyG at this; rw [e'] at this; exact this)
    by_cases hN : isN o.op = true
    ·exact .inl hN
    ·have hm : m = false := hst'.2.resolve_right hN
     subst hm
     exact .inr (late_spec hbits ho (by simp [isR, hN]))
   ·rw [Bool.not_eq_true] at hst
    rw [hst] at hd1
    simp only [cond_false] at hd1
    have hrd : Region.ready .any ops listed = [i] := by simpa using hd1
    have hrd' : i ∈ Region.ready .any ops listed := by rw [hrd]; simp
    refine ⟨fun h0 => (by rw [hrd] at h0; cases h0), fun j hj => ?_⟩
    rw [hrd] at hj
    obtain rfl : j = i := by simpa using hj
    refine act_step (late := lateM m ops bits) (g := g) (k := fun s => Xl c ops (flagged ops (lateM m ops bits) g ord) s k (fun v s => K (.pan v) s)) (R := fun Pr a' w' => wpAnyG c.P ops (Qk c r K) (lateM m ops bits) g (fuel + ord.length) Pr (listed.setIfInBounds j true) a' w') hT hgl ho ?_ hs (fun F2 γ2 s2 a' w' h2 hs2 => ih _ F2 γ2 s2 _ _ (hc.step hrd') hd2 h2 hs2)
    simp only [flagged, ho]
    exact h
theorem XT_sound (hT : TabOk c.P c.tab) {K : XE → St → Prop} (hK : NoE K) {ops : Array Oper} {bits : Array Nat} {m : Bool} {g : G} (hg : (m || g.strict) = true) (hbits : ∀ i q, (bits.getD q 0).testBit i = true → Ahead ops i q) (hsel : Region.noSelect ops = true) {k : St → Prop} (hk : ∀ s, k s → K .normal s) :
  ∀ (t : DT) (n : Nat) (listed : Array Bool) (F : Nat → Prop) (γ : List Value) (s : St) (a : Act) (w : World), lenT t n = true → Cl ops listed → drawT m c.tab ops t listed = true → XT c ops (lateM m ops bits) g k (fun v s => K (.pan v) s) t s → SRf c r F γ s .undef undef a w →
   AnyG c ops (Qk c r K) (lateM m ops bits) g r F γ s n listed a w := by
 have hgl : (∀ i, lateM m ops bits i = true) ∨ g.strict = true := by
  rw [Bool.or_eq_true] at hg
  exact hg.imp (fun h i => by unfold lateM; rw [h]; rfl) id
 intro t
 induction t with
 | l ord =>
  intro n listed F γ s a w hn hc hd h hs
  obtain rfl := Nat.eq_of_beq_eq_true hn
  have := Xd_sound (r := r) (K := K) (D := fun listed => (Region.ready .any ops listed).isEmpty) (fuel := 0) hT hK hg hbits hsel (fun listed F γ s a w _ hD hk' hs => ⟨by simpa using hD, s, hk s hk', F, γ, hs⟩) ord listed F γ s a w hc hd h hs
  rw [Nat.zero_add] at this
  exact this
 | alt ord js f ih =>
  intro n listed F γ s a w hn hc hd h hs
  simp only [lenT, Bool.and_eq_true] at hn
  have hle := Nat.le_of_ble_eq_true hn.1
  have := Xd_sound (r := r) (K := K) (fuel := n - (ord.length + 1) + 1) hT hK hg hbits hsel (fun listed F γ s a w hc hD hk' hs => ?_) ord listed F γ s a w hc hd h hs
  ·rw [show n - (ord.length + 1) + 1 + ord.length = n by omega] at this
   exact this
  ·rw [Bool.and_eq_true, Bool.and_eq_true, beq_iff_eq] at hD
   obtain ⟨⟨hD0, hD1⟩, hD2⟩ := hD
   refine ⟨fun h0 => ?_, fun j hj => ?_⟩
   ·rw [h0] at hD1
    subst hD1
    cases hD0
   ·have hj' : j ∈ js := by rw [← hD1]; exact hj
    obtain ⟨_, o, ho, _⟩ := mem_ready.1 hj
    refine act_step (g := g) (R := fun Pr a' w' => wpAnyG c.P ops (Qk c r K) (lateM m ops bits) g (n - (ord.length + 1)) Pr (listed.setIfInBounds j true) a' w') hT hgl ho (AllJ.get hk' j hj') hs (fun F2 γ2 s2 a' w' h2 hs2 => ?_)
    exact ih j _ _ F2 γ2 s2 _ _ (List.all_eq_true.1 hn.2 j hj') (hc.step hj) (List.all_eq_true.1 hD2 j hj') h2 hs2
theorem draw_sound (hT : TabOk c.P c.tab) (hm : c.P.follows .mixedOrders = true) {id : Nat} {ops : Array Oper} {m : Bool} {g : G} {t : DT} {K : XE → St → Prop} (hd : drawOK m g c.tab ops t = true) {s : St} {a : Act} {w : World}
  (h : XT c ops (lateM m ops (bitsAll ops.toList #[])) g (K .normal) (fun v s => K (.pan v) ⟨[], s.ah⟩) t s) (hs : SR c r s .undef undef a w) : (Code.region id ops true).wp c.P (Qk c r K) a w := by
 refine Code.wp_mono (Q := Qk c r (nE K)) (fun e a w hq => ?_) ?_
 ·cases e with
  | panic ch => obtain ⟨v, x, s, h1, h2, F, γ, h3, h4, h5, h6, h7, h8⟩ := hq; exact ⟨v, x, ⟨[], s.ah⟩, h1, h2, F, γ, h3, h4, h5, h6, (fun t x h => by cases h), h8⟩
  | _ => exact hq
 simp only [drawOK, Bool.and_eq_true] at hd
 obtain ⟨⟨⟨h0, h1⟩, h2⟩, h3⟩ := hd
 obtain ⟨F, γ, hn, hds, hA, hW, hE, hx⟩ := hs
 refine wp_region_any hm (wpAny_of_G (late := lateM m ops (bitsAll ops.toList #[])) (g := g) _ (PrOf g r.E F γ s.ah w.heap) _ _ _ ?_)
 have hs' : SRf c r F γ s .undef undef a { w with drawn := w.drawn + 1 } := ⟨hn, hds, ⟨hA.os, hA.tape, hA.output, fun h => Nat.le_succ_of_le (hA.drawn h)⟩, hW, hE, hx⟩
 refine XT_sound hT (K := nE K) (fun _ _ h => h) h0 (bitsAll_spec _ _ (fun q o hq => by simpa using hq) (fun i q h => by simp at h)) h2 (fun s h => h) t _ _ F γ s a _ h1 (fun j oj hj hl => ?_) h3 h hs'
 exfalso
 simp only [Array.getD_eq_getD_getElem?] at hl
 rcases Nat.lt_or_ge j ops.size with hlt | hge
 ·rw [Array.getElem?_eq_getElem (by simpa using hlt)] at hl; simp at hl
 ·rw [Array.getElem?_eq_none (by simpa using hge)] at hl; simp at hl
end
end Go.AM
end
