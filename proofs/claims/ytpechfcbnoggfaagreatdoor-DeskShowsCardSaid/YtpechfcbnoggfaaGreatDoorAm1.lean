/- part -/
import Derived.Test.YtpechfcbnoggfaaGreatDoorHeap
set_option linter.unusedVariables false
set_option linter.unusedSimpArgs false
namespace Go.AM
open Go Go.NB
inductive C : Type 1 where
 | int (k : IntKind) (n : Int)
 | bool (b : Bool)
 | str (l : List UInt8)
 | raw (v : Value)
 | nil
 | ls (sz : Nat) (α : Type) (enc : α → List C) (l : List α)
 | bs (sz : Nat) (α : Type) (enc : α → List C) (l : List α)
 | rw (j : Nat)
 | sw (sz j lo n : Nat)
 | ptr (j o : Nat)
 | ep (sz j i o : Nat)
 | bp (cs : List C)
 | fn (f : Nat) (caps : List C)
 | iface (t : Nat) (agg : Bool) (cs : List C)
inductive A : Type 1 where
 | undef
 | off
 | c (x : C)
 | st (cs : List C)
 | tup (ts : List (Bool × List C))
inductive B : Type 1 where
 | box (cs : List C) (t : Option Nat := none)
 | row (sz : Nat) (α : Type) (enc : α → List C) (l : List α)
 | fro (sz : Nat) (α : Type) (enc : α → List C) (l : List α)
 | buf (t sz : Nat) (α : Type) (enc : α → List C) (l : List α)
 | dead
structure St : Type 1 where
 env : List (Nat × A)
 ah : List B
def lk : List (Nat × A) → Nat → Option A
 | [], _ => none
 | (t, x) :: r, s => bif Nat.beq t s then some x else lk r s
def St.put (s : St) (d : Nat) (x : A) : St := { s with env := (d, x) :: s.env }
structure Md where
 B : Nat → Prop
 γ : List Value
def m0 : Md := ⟨fun _ => False, []⟩
def subv (sz lo n : Nat) : Value → Value
 | .slice p _ cap => .slice (if cap = lo then p else p.map (·.add (lo * sz))) n (cap - lo)
 | v => v
def fval (agg : Bool) (vs : List Value) : Value := bif agg then .agg vs.toArray else vs.headD undef
inductive RL (F : Nat → Prop) (H : Heap) : Md → List C → List Value → Prop
 | nl {m} : RL F H m [] []
 | int {m k n cs vs} (t : RL F H m cs vs) : RL F H m (.int k n :: cs) (.int k n :: vs)
 | bool {m b cs vs} (t : RL F H m cs vs) : RL F H m (.bool b :: cs) (.bool b :: vs)
 | str {m l cs vs} (hl : l.length ≤ 9223372036854775807) (t : RL F H m cs vs) : RL F H m (.str l :: cs) (NB.str l :: vs)
 | raw {m v cs vs} (h : v.oneCell' = true) (t : RL F H m cs vs) : RL F H m (.raw v :: cs) (v :: vs)
 | nil {m cs vs} (t : RL F H m cs vs) : RL F H m (.nil :: cs) (.slice none 0 0 :: vs)
 | ls0 {m sz α enc p cs vs} (t : RL F H m cs vs) : RL F H m (.ls sz α enc [] :: cs) (.slice p 0 0 :: vs)
 | ls {m sz α enc l b off cap css cs vs} (hb : F b) (h1 : l.length ≤ cap) (h2 : cap ≤ maxLen) (hr : RL F H m0 (l.flatMap enc) css) (hz : ∀ x ∈ l, (enc x).length = sz)
   (hc : ∀ j u, css[j]? = some u → cell H b (off + j) = some u) (t : RL F H m cs vs) : RL F H m (.ls sz α enc l :: cs) (.slice (some ⟨b, off, none⟩) l.length cap :: vs)
 | bs0 {m sz α enc p cs vs} (t : RL F H m cs vs) : RL F H m (.bs sz α enc [] :: cs) (.slice p 0 0 :: vs)
 | bs {m sz α enc l b off cap css cs vs} (hb : F b ∨ m.B b) (h1 : l.length ≤ cap) (h2 : cap ≤ maxLen) (hr : RL F H m0 (l.flatMap enc) css) (hz : ∀ x ∈ l, (enc x).length = sz)
   (hc : ∀ j u, css[j]? = some u → cell H b (off + j) = some u) (t : RL F H m cs vs) : RL F H m (.bs sz α enc l :: cs) (.slice (some ⟨b, off, none⟩) l.length cap :: vs)
 | rw {m j p q n cap cs vs} (hg : m.γ[j]? = some (.slice p n cap)) (hq : cap ≠ 0 → q = p) (t : RL F H m cs vs) : RL F H m (.rw j :: cs) (.slice q n cap :: vs)
 | sw {m sz j lo n p q n0 cap cs vs} (hg : m.γ[j]? = some (.slice p n0 cap)) (h : lo + n ≤ n0) (hq : cap ≠ lo → q = p.map (·.add (lo * sz))) (t : RL F H m cs vs) : RL F H m (.sw sz j lo n :: cs) (.slice q n (cap - lo) :: vs)
 | ptr {m j o b cs vs} (hg : m.γ[j]? = some (.pointer (some ⟨b, 0, none⟩))) (t : RL F H m cs vs) : RL F H m (.ptr j o :: cs) (.pointer (some ⟨b, o, none⟩) :: vs)
 | ep {m sz j i o b off n cap cs vs} (hg : m.γ[j]? = some (.slice (some ⟨b, off, none⟩) n cap)) (t : RL F H m cs vs) : RL F H m (.ep sz j i o :: cs) (.pointer (some ⟨b, off + i * sz + o, none⟩) :: vs)
 | bp {m cs' css b o cs vs} (hb : F b ∨ m.B b) (hr : RL F H ⟨m.B, []⟩ cs' css) (hc : ∀ j u, css[j]? = some u → cell H b (o + j) = some u) (t : RL F H m cs vs) : RL F H m (.bp cs' :: cs) (.pointer (some ⟨b, o, none⟩) :: vs)
 | fn {m f caps us cs vs} (hr : RL F H m caps us) (t : RL F H m cs vs) : RL F H m (.fn f caps :: cs) (.func (.func f) #[] us.toArray :: vs)
 | iface {m ty agg cs' us cs vs} (hr : RL F H m cs' us) (t : RL F H m cs vs) : RL F H m (.iface ty agg cs' :: cs) (.iface ty (fval agg us) :: vs)
section
variable {F : Nat → Prop} {H : Heap} {m : Md}
theorem RL.length {cs : List C} {vs : List Value} (h : RL F H m cs vs) : cs.length = vs.length := by
 induction h <;> simp_all
theorem RL.one {cs : List C} {vs : List Value} (h : RL F H m cs vs) : ∀ u ∈ vs, u.oneCell' = true := by
 induction h with
 | nl => intro u hu; cases hu
 | raw h _ ih => intro u hu; rcases List.mem_cons.1 hu with rfl | hu; exact h; exact ih u hu
 | int _ ih | bool _ ih | str _ _ ih | nil _ ih | ls0 _ ih | rw _ _ _ ih | sw _ _ _ _ ih | ls _ _ _ _ _ _ _ _ ih | bs0 _ ih | bs _ _ _ _ _ _ _ _ ih | ptr _ _ ih | ep _ _ ih | bp _ _ _ _ _ ih | fn _ _ _ ih | iface _ _ _ ih =>
  intro u hu
  rcases List.mem_cons.1 hu with rfl | hu
  ·rfl
  ·exact ih u hu
structure Ext (F : Nat → Prop) (H : Heap) (m : Md) (F' : Nat → Prop) (H' : Heap) (m' : Md) : Prop where
 f : ∀ k, F k → F' k
 h : ∀ (b o : Nat) (u : Value), F b ∨ m.B b → cell H b o = some u → cell H' b o = some u
 b : ∀ k, m.B k → m'.B k
 g : ∀ (j : Nat) (v : Value), m.γ[j]? = some v → m'.γ[j]? = some v
theorem Ext.m0 {F F' : Nat → Prop} {H H' : Heap} {m m' : Md} (e : Ext F H m F' H' m') : Ext F H AM.m0 F' H' AM.m0 :=
 ⟨e.f, fun b o u hb => e.h b o u (hb.elim .inl False.elim), fun _ h => h, fun _ _ h => h⟩
theorem Ext.noγ {F F' : Nat → Prop} {H H' : Heap} {m m' : Md} (e : Ext F H m F' H' m') : Ext F H ⟨m.B, []⟩ F' H' ⟨m'.B, []⟩ :=
 ⟨e.f, e.h, e.b, fun _ _ h => h⟩
theorem Ext.hb {F F' : Nat → Prop} {H H' : Heap} {m m' : Md} (e : Ext F H m F' H' m') {b : Nat} (h : F b ∨ m.B b) : F' b ∨ m'.B b := h.imp (e.f b) (e.b b)
theorem RL.ext {F F' : Nat → Prop} {H H' : Heap} {m : Md} {cs : List C} {vs : List Value} (h : RL F H m cs vs) : ∀ {m' : Md}, Ext F H m F' H' m' → RL F' H' m' cs vs := by
 induction h with
 | nl => intro m' e; exact .nl
 | int _ ih => intro m' e; exact .int (ih e)
 | bool _ ih => intro m' e; exact .bool (ih e)
 | str h _ ih => intro m' e; exact .str h (ih e)
 | raw h _ ih => intro m' e; exact .raw h (ih e)
 | nil _ ih => intro m' e; exact .nil (ih e)
 | ls0 _ ih => intro m' e; exact .ls0 (ih e)
 | ls hb h1 h2 hr hz hc _ ihr ih => intro m' e; exact .ls (e.f _ hb) h1 h2 (ihr e.m0) hz (fun j u hj => e.h _ _ _ (.inl hb) (hc j u hj)) (ih e)
 | bs0 _ ih => intro m' e; exact .bs0 (ih e)
 | bs hb h1 h2 hr hz hc _ ihr ih => intro m' e; exact .bs (e.hb hb) h1 h2 (ihr e.m0) hz (fun j u hj => e.h _ _ _ hb (hc j u hj)) (ih e)
 | rw hg hq _ ih => intro m' e; exact .rw (e.g _ _ hg) hq (ih e)
 | sw hg h hq _ ih => intro m' e; exact .sw (e.g _ _ hg) h hq (ih e)
 | ptr hg _ ih => intro m' e; exact .ptr (e.g _ _ hg) (ih e)
 | ep hg _ ih => intro m' e; exact .ep (e.g _ _ hg) (ih e)
 | bp hb hr hc _ ihr ih => intro m' e; exact .bp (e.hb hb) (ihr e.noγ) (fun j u hj => e.h _ _ _ hb (hc j u hj)) (ih e)
 | fn hr _ ihr ih => intro m' e; exact .fn (ihr e) (ih e)
 | iface hr _ ihr ih => intro m' e; exact .iface (ihr e) (ih e)
theorem RL.append {cs ds : List C} {vs us : List Value} (h : RL F H m cs vs) (k : RL F H m ds us) : RL F H m (cs ++ ds) (vs ++ us) := by
 induction h with
 | nl => exact k
 | int _ ih => exact .int (ih k)
 | bool _ ih => exact .bool (ih k)
 | str h _ ih => exact .str h (ih k)
 | raw h _ ih => exact .raw h (ih k)
 | nil _ ih => exact .nil (ih k)
 | ls0 _ ih => exact .ls0 (ih k)
 | ls hb h1 h2 hr hz hc _ _ ih => exact .ls hb h1 h2 hr hz hc (ih k)
 | bs0 _ ih => exact .bs0 (ih k)
 | bs hb h1 h2 hr hz hc _ _ ih => exact .bs hb h1 h2 hr hz hc (ih k)
 | rw hg hq _ ih => exact .rw hg hq (ih k)
 | sw hg h hq _ ih => exact .sw hg h hq (ih k)
 | ptr hg _ ih => exact .ptr hg (ih k)
 | ep hg _ ih => exact .ep hg (ih k)
 | bp hb hr hc _ _ ih => exact .bp hb hr hc (ih k)
 | fn hr _ _ ih => exact .fn hr (ih k)
 | iface hr _ _ ih => exact .iface hr (ih k)
theorem RL.uncons {c : C} {cs : List C} {vs : List Value} (h : RL F H m (c :: cs) vs) : ∃ v us, vs = v :: us ∧ RL F H m [c] [v] ∧ RL F H m cs us := by
 cases h with
 | int t => exact ⟨_, _, rfl, .int .nl, t⟩
 | bool t => exact ⟨_, _, rfl, .bool .nl, t⟩
 | str h t => exact ⟨_, _, rfl, .str h .nl, t⟩
 | raw h t => exact ⟨_, _, rfl, .raw h .nl, t⟩
 | nil t => exact ⟨_, _, rfl, .nil .nl, t⟩
 | ls0 t => exact ⟨_, _, rfl, .ls0 .nl, t⟩
 | ls hb h1 h2 hr hz hc t => exact ⟨_, _, rfl, .ls hb h1 h2 hr hz hc .nl, t⟩
 | bs0 t => exact ⟨_, _, rfl, .bs0 .nl, t⟩
 | bs hb h1 h2 hr hz hc t => exact ⟨_, _, rfl, .bs hb h1 h2 hr hz hc .nl, t⟩
 | rw hg hq t => exact ⟨_, _, rfl, .rw hg hq .nl, t⟩
 | sw hg h hq t => exact ⟨_, _, rfl, .sw hg h hq .nl, t⟩
 | ptr hg t => exact ⟨_, _, rfl, .ptr hg .nl, t⟩
 | ep hg t => exact ⟨_, _, rfl, .ep hg .nl, t⟩
 | bp hb hr hc t => exact ⟨_, _, rfl, .bp hb hr hc .nl, t⟩
 | fn hr t => exact ⟨_, _, rfl, .fn hr .nl, t⟩
 | iface hr t => exact ⟨_, _, rfl, .iface hr .nl, t⟩
theorem RL.cons {c : C} {v : Value} {cs : List C} {vs : List Value} (h : RL F H m [c] [v]) (t : RL F H m cs vs) : RL F H m (c :: cs) (v :: vs) := h.append t
theorem RL.split : ∀ {cs ds : List C} {vs : List Value}, RL F H m (cs ++ ds) vs → ∃ us ws, vs = us ++ ws ∧ RL F H m cs us ∧ RL F H m ds ws
 | [], ds, vs, h => ⟨[], vs, rfl, .nl, h⟩
 | c :: cs, ds, vs, h => by
  obtain ⟨v, us, rfl, h1, h2⟩ := RL.uncons h
  obtain ⟨us1, us2, rfl, h3, h4⟩ := RL.split h2
  exact ⟨v :: us1, us2, rfl, h1.cons h3, h4⟩
theorem RL.take {cs : List C} {vs : List Value} (h : RL F H m cs vs) (n : Nat) : RL F H m (cs.take n) (vs.take n) := by
 have h' := h
 rw [← List.take_append_drop n cs] at h'
 obtain ⟨us, ws, rfl, h1, h2⟩ := h'.split
 have e := h1.length
 have : (us ++ ws).take n = us := by
  by_cases hn : n ≤ cs.length
  ·rw [List.length_take, Nat.min_eq_left hn] at e
   rw [e, List.take_left]
  ·rw [List.take_of_length_le (l := cs) (by omega)] at e
   have e2 := h2.length
   rw [List.drop_of_length_le (by omega)] at e2
   have : ws = [] := List.eq_nil_of_length_eq_zero e2.symm
   subst this
   rw [List.append_nil, List.take_of_length_le (by omega)]
 rw [this]; exact h1
theorem RL.drop {cs : List C} {vs : List Value} (h : RL F H m cs vs) (n : Nat) : RL F H m (cs.drop n) (vs.drop n) := by
 have h' := h
 rw [← List.take_append_drop n cs] at h'
 obtain ⟨us, ws, rfl, h1, h2⟩ := h'.split
 have e := h1.length
 have : (us ++ ws).drop n = ws := by
  by_cases hn : n ≤ cs.length
  ·rw [List.length_take, Nat.min_eq_left hn] at e
   rw [e, List.drop_left]
  ·have e2 := h2.length
   rw [List.drop_of_length_le (by omega)] at e2
   have : ws = [] := List.eq_nil_of_length_eq_zero e2.symm
   subst this
   rw [List.append_nil, List.drop_of_length_le (by rw [← e, List.length_take]; omega)]
 rw [this]; exact h2
theorem RL.get {cs : List C} {vs : List Value} (h : RL F H m cs vs) {i : Nat} {c : C} (hi : cs[i]? = some c) : ∃ v, vs[i]? = some v ∧ RL F H m [c] [v] := by
 obtain ⟨hlt, e⟩ := List.getElem?_eq_some_iff.1 hi
 have h1 := h.drop i
 rw [List.drop_eq_getElem_cons hlt, e] at h1
 obtain ⟨v, us, e2, h3, _⟩ := h1.uncons
 refine ⟨v, ?_, h3⟩
 have := congrArg List.head? e2
 simpa using this
theorem RL.single {c : C} {vs : List Value} (h : RL F H m [c] vs) : ∃ v, vs = [v] ∧ RL F H m [c] [v] := by
 obtain ⟨v, us, rfl, h1, h2⟩ := h.uncons
 cases h2
 exact ⟨v, rfl, h1⟩
end
def RT (F : Nat → Prop) (H : Heap) (m : Md) : List (Bool × List C) → List Value → Prop
 | [], [] => True
 | (g, cs) :: ts, v :: vs => (∃ us, RL F H m cs us ∧ v = fval g us ∧ (g = false → cs.length = 1)) ∧ RT F H m ts vs
 | _, _ => False
def RA (F : Nat → Prop) (H : Heap) (m : Md) : A → Value → Prop
 | .undef, _ => True
 | .off, v => v = undef
 | .c x, v => RL F H m [x] [v]
 | .st cs, v => ∃ vs, v = .agg vs.toArray ∧ RL F H m cs vs
 | .tup ts, v => ∃ vs, v = .tuple vs.toArray ∧ RT F H m ts vs
theorem RT.ext {F F' : Nat → Prop} {H H' : Heap} {m m' : Md} (e : Ext F H m F' H' m') : ∀ {ts : List (Bool × List C)} {vs : List Value}, RT F H m ts vs → RT F' H' m' ts vs
 | [], [], _ => trivial
 | (_, _) :: _, _ :: _, ⟨⟨us, h1, h2, h3⟩, h⟩ => ⟨⟨us, h1.ext e, h2, h3⟩, RT.ext e h⟩
theorem RA.ext {F F' : Nat → Prop} {H H' : Heap} {m m' : Md} (e : Ext F H m F' H' m') {a : A} {v : Value} (h : RA F H m a v) : RA F' H' m' a v := by
 cases a with
 | undef => trivial
 | off => exact h
 | c x => exact RL.ext h e
 | st cs => obtain ⟨vs, rfl, h⟩ := h; exact ⟨vs, rfl, h.ext e⟩
 | tup ts => obtain ⟨vs, rfl, h⟩ := h; exact ⟨vs, rfl, RT.ext e h⟩
structure LS : Type 1 where
 sz : Nat
 α : Type
 enc : α → List C
 l : List α
def LS.part (L : LS) (lo n : Nat) : LS := ⟨L.sz, L.α, L.enc, (L.l.drop lo).take n⟩
def rowOf : B → Option LS
 | .row sz α enc l | .fro sz α enc l => some ⟨sz, α, enc, l⟩
 | _ => none
def slOf (ah : List B) : C → Option LS
 | .ls sz α enc l | .bs sz α enc l => some ⟨sz, α, enc, l⟩
 | .rw j => (ah[j]?).bind rowOf
 | .sw sz j lo n => match (ah[j]?).bind rowOf with
  | some L => bif Nat.beq sz L.sz then some (L.part lo n) else none
  | none => none
 | _ => none
def obv : B → Value → List Nat
 | .box _ _, .pointer (some a) => [a.block]
 | .row .., .slice (some a) _ (_ + 1) => [a.block]
 | .buf .., .slice (some a) _ (_ + 1) => [a.block]
 | _, _ => []
def BR (F : Nat → Prop) (H : Heap) (m : Md) : B → Value → Prop
 | .box cs t, g => ∃ k e vs, g = .pointer (some ⟨k, 0, none⟩) ∧ H[k]? = some (.cells (List.toArray vs) (t.getD e) (0, 0)) ∧ RL F H m cs vs
 | .row sz _ enc l, g => (∃ p, g = .slice p 0 0 ∧ l = []) ∨ ∃ k off cap cur e css, g = .slice (some ⟨k, off, none⟩) l.length (cap + 1) ∧ H[k]? = some (.cells cur e (0, 0)) ∧ l.length ≤ cap + 1 ∧ cap + 1 ≤ maxLen ∧
   off + (cap + 1) * sz ≤ cur.size ∧ RL F H m0 (l.flatMap enc) css ∧ (∀ x ∈ l, (enc x).length = sz) ∧ (cur.toList.drop off).take css.length = css
 | .fro sz _ enc l, g => RL F H m0 [.ls sz _ enc l] [g]
 | .buf t sz _ enc l, g => (∃ p, g = .slice p 0 0 ∧ l = []) ∨ ∃ k cap cur css, g = .slice (some ⟨k, 0, none⟩) l.length (cap + 1) ∧ H[k]? = some (.cells cur t (0, 0)) ∧ l.length ≤ cap + 1 ∧ cap + 1 ≤ maxLen ∧
   (cap + 1) * sz ≤ cur.size ∧ RL F H m0 (l.flatMap enc) css ∧ (∀ x ∈ l, (enc x).length = sz) ∧ cur.toList.take css.length = css
 | .dead, _ => True
theorem BR.ext {F F' : Nat → Prop} {H H' : Heap} {m m' : Md} (e : Ext F H m F' H' m') {b : B} {g : Value} (hk : ∀ k ∈ obv b g, H'[k]? = H[k]?) (h : BR F H m b g) : BR F' H' m' b g := by
 cases b with
 | box cs ty =>
  obtain ⟨k, t, vs, rfl, h1, h2⟩ := h
  exact ⟨k, t, vs, rfl, by rw [hk k (by simp [obv])]; exact h1, h2.ext e⟩
 | row sz α enc l =>
  rcases h with h | ⟨k, off, cap, cur, t, css, rfl, h1, h2, h3, h4, h5, h6, h7⟩
  ·exact .inl h
  ·exact .inr ⟨k, off, cap, cur, t, css, rfl, by rw [hk k (by simp [obv])]; exact h1, h2, h3, h4, h5.ext e.m0, h6, h7⟩
 | fro sz α enc l => exact RL.ext h e.m0
 | buf t sz α enc l =>
  rcases h with h | ⟨k, cap, cur, css, rfl, h1, h2, h3, h4, h5, h6, h7⟩
  ·exact .inl h
  ·exact .inr ⟨k, cap, cur, css, rfl, by rw [hk k (by simp [obv])]; exact h1, h2, h3, h4, h5.ext e.m0, h6, h7⟩
 | dead => trivial
structure En where
 F0 : Nat → Prop
 B : Nat → Prop
 own : Nat → Prop
 H0 : Heap
 γ0 : List Value
structure WR (E : En) (F : Nat → Prop) (γ : List Value) (ah : List B) (H : Heap) : Prop where
 len : γ.length = ah.length
 br : ∀ (j : Nat) (b : B) (g : Value), ah[j]? = some b → γ[j]? = some g → BR F H ⟨E.B, γ⟩ b g
 disj : ∀ (i j : Nat) (b b' : B) (g g' : Value), i ≠ j → ah[i]? = some b → γ[i]? = some g → ah[j]? = some b' → γ[j]? = some g' → ∀ k, k ∈ obv b g → k ∉ obv b' g'
 nf : ∀ (j : Nat) (b : B) (g : Value) (k : Nat), ah[j]? = some b → γ[j]? = some g → k ∈ obv b g → ¬ F k ∧ ¬ E.B k
 fb : ∀ k, F k → k < H.size
 bb : ∀ k, E.B k → k < E.H0.size ∧ ¬ E.own k
 size : E.H0.size ≤ H.size
 keep : ∀ k, k < E.H0.size → ¬ E.own k → H[k]? = E.H0[k]?
 fmono : ∀ k, E.F0 k → F k
 fnew : ∀ k, F k → E.F0 k ∨ E.own k ∨ E.H0.size ≤ k
 onew : ∀ (j : Nat) (b : B) (g : Value) (k : Nat), ah[j]? = some b → γ[j]? = some g → k ∈ obv b g → E.own k ∨ E.H0.size ≤ k
 pre : ∀ (j : Nat) (v : Value), E.γ0[j]? = some v → γ[j]? = some v
theorem cell_of_get {H H' : Heap} {b o : Nat} {u : Value} (e : H'[b]? = H[b]?) (h : cell H b o = some u) : cell H' b o = some u := by
 unfold cell at *; rw [e]; exact h
theorem obv_lt {F : Nat → Prop} {H : Heap} {m : Md} {b : B} {g : Value} (h : BR F H m b g) : ∀ k ∈ obv b g, k < H.size := by
 intro k hk
 cases b with
 | box cs ty =>
  obtain ⟨k', t, vs, rfl, h1, h2⟩ := h
  simp [obv] at hk
  subst hk
  exact (Array.getElem?_eq_some_iff.1 h1).1
 | row sz α enc l =>
  rcases h with ⟨p, rfl, _⟩ | ⟨k', off, cap, cur, t, css, rfl, h1, _⟩
  ·cases p <;> simp [obv] at hk
  ·simp [obv] at hk
   subst hk
   exact (Array.getElem?_eq_some_iff.1 h1).1
 | fro sz α enc l => simp [obv] at hk
 | buf t sz α enc l =>
  rcases h with ⟨p, rfl, _⟩ | ⟨k', cap, cur, css, rfl, h1, _⟩
  ·cases p <;> simp [obv] at hk
  ·simp [obv] at hk
   subst hk
   exact (Array.getElem?_eq_some_iff.1 h1).1
 | dead => simp [obv] at hk
section
variable {E : En} {F : Nat → Prop} {γ : List Value} {ah : List B} {H H' : Heap}
theorem WR.ext (h : WR E F γ ah H) {W : List Nat} (hW : ∀ k ∈ W, ¬ F k ∧ ¬ E.B k) (hK : Keep W H H') (γ' : List Value) : Ext F H ⟨E.B, γ⟩ F H' ⟨E.B, γ ++ γ'⟩ :=
 ⟨fun _ h => h, fun b o u hb hc => cell_keep hc hK (fun hm => hb.elim (hW b hm).1 (hW b hm).2), fun _ h => h, fun j v hj => by
  have := (List.getElem?_eq_some_iff.1 hj).1
  rw [List.getElem?_append_left this]; exact hj⟩
theorem WR.hist (h : WR E F γ ah H) {W : List Nat} (hO : ∀ k ∈ W, E.own k ∨ E.H0.size ≤ k) (hK : Keep W H H') : E.H0.size ≤ H'.size ∧ ∀ k, k < E.H0.size → ¬ E.own k → H'[k]? = E.H0[k]? := by
 refine ⟨Nat.le_trans h.size hK.1, fun k hk ho => ?_⟩
 rw [hK.2 k (Nat.lt_of_lt_of_le hk h.size) (fun hm => (hO k hm).elim ho (fun h' => by omega))]
 exact h.keep k hk ho
theorem get_append {α : Type _} {l : List α} {x y : α} {j : Nat} (h : (l ++ [x])[j]? = some y) : (j < l.length ∧ l[j]? = some y) ∨ (j = l.length ∧ y = x) := by
 by_cases hj : j < l.length
 ·rw [List.getElem?_append_left hj] at h; exact .inl ⟨hj, h⟩
 ·obtain ⟨hlt, e⟩ := List.getElem?_eq_some_iff.1 h
  have : j = l.length := by simp at hlt; omega
  subst this
  simp at e
  exact .inr ⟨rfl, e.symm⟩
theorem get_set {α : Type _} {l : List α} {x y : α} {i j : Nat} (h : (l.set i x)[j]? = some y) : (j ≠ i ∧ l[j]? = some y) ∨ (j = i ∧ j < l.length ∧ y = x) := by
 rw [List.getElem?_set] at h
 by_cases e : i = j
 ·subst e
  rw [if_pos rfl] at h
  split at h
  ·exact .inr ⟨rfl, by assumption, by simpa using h.symm⟩
  ·cases h
 ·rw [if_neg e] at h; exact .inl ⟨fun e' => e e'.symm, h⟩
theorem WR.upd (h : WR E F γ ah H) {j : Nat} {b b1 : B} {g : Value} (hj : ah[j]? = some b) (hg : γ[j]? = some g) (hK : Keep (obv b g) H H') (ho : ∀ k ∈ obv b1 g, k ∈ obv b g)
  (hb1 : BR F H' ⟨E.B, γ⟩ b1 g) : WR E F γ (ah.set j b1) H' := by
 have hW := fun k hk => h.nf j b g k hj hg hk
 have e := h.ext (γ' := []) hW hK
 rw [List.append_nil] at e
 obtain ⟨h1, h2⟩ := h.hist (fun k hk => h.onew j b g k hj hg hk) hK
 have other : ∀ {i b' g'}, i ≠ j → ah[i]? = some b' → γ[i]? = some g' → ∀ k ∈ obv b' g', H'[k]? = H[k]? := fun hi hb' hg' k hk =>
  hK.2 k (obv_lt (h.br _ _ _ hb' hg') k hk) (fun hm => h.disj _ _ _ _ _ _ hi hb' hg' hj hg k hk hm)
 have get : ∀ {i b' g'}, (ah.set j b1)[i]? = some b' → γ[i]? = some g' → (i ≠ j ∧ ah[i]? = some b') ∨ (i = j ∧ b' = b1 ∧ g' = g) := fun hi hg' => by
  rcases get_set hi with h3 | ⟨rfl, _, rfl⟩
  ·exact .inl h3
  ·rw [hg] at hg'; exact .inr ⟨rfl, rfl, by simpa using hg'.symm⟩
 refine ⟨by simp [h.len], fun i b' g' hi hg' => ?_, fun i i' b' b'' g' g'' hne hi hg' hi' hg'' k hk hk' => ?_, fun i b' g' k hi hg' hk => ?_, fun k hk => Nat.lt_of_lt_of_le (h.fb k hk) hK.1, h.bb, h1, h2, h.fmono, h.fnew, fun i b' g' k hi hg' hk => ?_, h.pre⟩
 ·rcases get hi hg' with ⟨h3, h4⟩ | ⟨rfl, rfl, rfl⟩
  ·exact BR.ext e (other h3 h4 hg') (h.br _ _ _ h4 hg')
  ·exact hb1
 ·rcases get hi hg' with ⟨h3, h4⟩ | ⟨rfl, rfl, rfl⟩
  ·rcases get hi' hg'' with ⟨h5, h6⟩ | ⟨rfl, rfl, rfl⟩
   ·exact h.disj _ _ _ _ _ _ hne h4 hg' h6 hg'' k hk hk'
   ·exact h.disj _ _ _ _ _ _ hne h4 hg' hj hg k hk (ho k hk')
  ·rcases get hi' hg'' with ⟨h5, h6⟩ | ⟨rfl, rfl, rfl⟩
   ·exact h.disj _ _ _ _ _ _ hne hj hg h6 hg'' k (ho k hk) hk'
   ·exact hne rfl
 ·rcases get hi hg' with ⟨h3, h4⟩ | ⟨rfl, rfl, rfl⟩
  ·exact h.nf _ _ _ k h4 hg' hk
  ·exact h.nf _ _ _ k hj hg (ho k hk)
 ·rcases get hi hg' with ⟨h3, h4⟩ | ⟨rfl, rfl, rfl⟩
  ·exact h.onew _ _ _ k h4 hg' hk
  ·exact h.onew _ _ _ k hj hg (ho k hk)
theorem WR.same (h : WR E F γ ah H) (hK : Keep [] H H') : WR E F γ ah H' := by
 have e := h.ext (γ' := []) (W := []) (fun k hk => by cases hk) hK
 rw [List.append_nil] at e
 obtain ⟨h1, h2⟩ := h.hist (W := []) (fun k hk => by cases hk) hK
 exact ⟨h.len, fun i b' g' hi hg' => BR.ext e (fun k hk => hK.2 k (obv_lt (h.br _ _ _ hi hg') k hk) (by simp)) (h.br _ _ _ hi hg'), h.disj, h.nf, fun k hk => Nat.lt_of_lt_of_le (h.fb k hk) hK.1, h.bb, h1, h2, h.fmono, h.fnew, h.onew, h.pre⟩
theorem WR.push (h : WR E F γ ah H) (hK : Keep [] H H') {b : B} {g : Value} (ho : ∀ k ∈ obv b g, H.size ≤ k) (hb : BR F H' ⟨E.B, γ ++ [g]⟩ b g) : WR E F (γ ++ [g]) (ah ++ [b]) H' := by
 have e := h.ext (γ' := [g]) (W := []) (fun k hk => by cases hk) hK
 obtain ⟨h1, h2⟩ := h.hist (W := []) (fun k hk => by cases hk) hK
 have get : ∀ {i b' g'}, (ah ++ [b])[i]? = some b' → (γ ++ [g])[i]? = some g' → (i < ah.length ∧ ah[i]? = some b' ∧ γ[i]? = some g') ∨ (i = ah.length ∧ b' = b ∧ g' = g) := fun hi hg' => by
  rcases get_append hi with ⟨h3, h4⟩ | ⟨h3, h4⟩
  ·rw [List.getElem?_append_left (by rw [h.len]; exact h3)] at hg'; exact .inl ⟨h3, h4, hg'⟩
  ·rcases get_append hg' with ⟨h5, h6⟩ | ⟨h5, h6⟩
   ·rw [h.len] at h5; omega
   ·exact .inr ⟨h3, h4, h6⟩
 refine ⟨by simp [h.len], fun i b' g' hi hg' => ?_, fun i i' b' b'' g' g'' hne hi hg' hi' hg'' k hk hk' => ?_, fun i b' g' k hi hg' hk => ?_, fun k hk => Nat.lt_of_lt_of_le (h.fb k hk) hK.1, h.bb, h1, h2, h.fmono, h.fnew, fun i b' g' k hi hg' hk => ?_, fun j v hj => ?_⟩
 ·rcases get hi hg' with ⟨_, h4, h5⟩ | ⟨rfl, rfl, rfl⟩
  ·exact BR.ext e (fun k hk => hK.2 k (obv_lt (h.br _ _ _ h4 h5) k hk) (by simp)) (h.br _ _ _ h4 h5)
  ·exact hb
 ·rcases get hi hg' with ⟨_, h4, h5⟩ | ⟨rfl, rfl, rfl⟩
  ·rcases get hi' hg'' with ⟨_, h6, h7⟩ | ⟨rfl, rfl, rfl⟩
   ·exact h.disj _ _ _ _ _ _ hne h4 h5 h6 h7 k hk hk'
   ·have := obv_lt (h.br _ _ _ h4 h5) k hk; have := ho k hk'; omega
  ·rcases get hi' hg'' with ⟨_, h6, h7⟩ | ⟨rfl, rfl, rfl⟩
   ·have := obv_lt (h.br _ _ _ h6 h7) k hk'; have := ho k hk; omega
   ·exact hne rfl
 ·rcases get hi hg' with ⟨_, h4, h5⟩ | ⟨rfl, rfl, rfl⟩
  ·exact h.nf _ _ _ k h4 h5 hk
  ·have := ho k hk
   exact ⟨fun hf => by have := h.fb k hf; omega, fun hB => by have := (h.bb k hB).1; have := h.size; omega⟩
 ·rcases get hi hg' with ⟨_, h4, h5⟩ | ⟨rfl, rfl, rfl⟩
  ·exact h.onew _ _ _ k h4 h5 hk
  ·have := ho k hk; have := h.size; exact .inr (by omega)
 ·have h3 := h.pre j v hj
  have := (List.getElem?_eq_some_iff.1 h3).1
  rw [List.getElem?_append_left this]; exact h3
theorem WR.move (h : WR E F γ ah H) {j : Nat} {b b2 : B} {g g2 : Value} (hj : ah[j]? = some b) (hg : γ[j]? = some g) (hK : Keep (obv b g) H H') (ho : ∀ k ∈ obv b2 g2, k ∈ obv b g ∨ H.size ≤ k)
  (hb : BR F H' ⟨E.B, γ ++ [g2]⟩ b2 g2) : WR E F (γ ++ [g2]) (ah.set j .dead ++ [b2]) H' := by
 have hlt := (List.getElem?_eq_some_iff.1 hj).1
 have hW := fun k hk => h.nf j b g k hj hg hk
 have e := h.ext (γ' := [g2]) hW hK
 obtain ⟨h1, h2⟩ := h.hist (fun k hk => h.onew j b g k hj hg hk) hK
 have other : ∀ {i b' g'}, i ≠ j → ah[i]? = some b' → γ[i]? = some g' → ∀ k ∈ obv b' g', H'[k]? = H[k]? := fun hi hb' hg' k hk =>
  hK.2 k (obv_lt (h.br _ _ _ hb' hg') k hk) (fun hm => h.disj _ _ _ _ _ _ hi hb' hg' hj hg k hk hm)
 have get : ∀ {i b' g'}, (ah.set j .dead ++ [b2])[i]? = some b' → (γ ++ [g2])[i]? = some g' → (i ≠ j ∧ ah[i]? = some b' ∧ γ[i]? = some g') ∨ (b' = .dead) ∨ (i = ah.length ∧ b' = b2 ∧ g' = g2) := fun hi hg' => by
  rcases get_append hi with ⟨h3, h4⟩ | ⟨h3, h4⟩
  ·rw [List.length_set] at h3
   rw [List.getElem?_append_left (by rw [h.len]; exact h3)] at hg'
   rcases get_set h4 with ⟨h5, h6⟩ | ⟨_, _, h6⟩
   ·exact .inl ⟨h5, h6, hg'⟩
   ·exact .inr (.inl h6)
  ·rw [List.length_set] at h3
   rcases get_append hg' with ⟨h5, h6⟩ | ⟨h5, h6⟩
   ·rw [h.len] at h5; omega
   ·exact .inr (.inr ⟨h3, h4, h6⟩)
 refine ⟨by simp [h.len], fun i b' g' hi hg' => ?_, fun i i' b' b'' g' g'' hne hi hg' hi' hg'' k hk hk' => ?_, fun i b' g' k hi hg' hk => ?_, fun k hk => Nat.lt_of_lt_of_le (h.fb k hk) hK.1, h.bb, h1, h2, h.fmono, h.fnew, fun i b' g' k hi hg' hk => ?_, fun j v hj => ?_⟩
 ·rcases get hi hg' with ⟨h3, h4, h5⟩ | rfl | ⟨rfl, rfl, rfl⟩
  ·exact BR.ext e (other h3 h4 h5) (h.br _ _ _ h4 h5)
  ·trivial
  ·exact hb
 ·rcases get hi hg' with ⟨h3, h4, h5⟩ | rfl | ⟨rfl, rfl, rfl⟩
  ·rcases get hi' hg'' with ⟨_, h6, h7⟩ | rfl | ⟨rfl, rfl, rfl⟩
   ·exact h.disj _ _ _ _ _ _ hne h4 h5 h6 h7 k hk hk'
   ·simp [obv] at hk'
   ·rcases ho k hk' with h8 | h8
    ·exact h.disj _ _ _ _ _ _ h3 h4 h5 hj hg k hk h8
    ·have := obv_lt (h.br _ _ _ h4 h5) k hk; omega
  ·simp [obv] at hk
  ·rcases get hi' hg'' with ⟨h3, h6, h7⟩ | rfl | ⟨rfl, rfl, rfl⟩
   ·rcases ho k hk with h8 | h8
    ·exact h.disj _ _ _ _ _ _ h3 h6 h7 hj hg k hk' h8
    ·have := obv_lt (h.br _ _ _ h6 h7) k hk'; omega
   ·simp [obv] at hk'
   ·exact hne rfl
 ·rcases get hi hg' with ⟨_, h4, h5⟩ | rfl | ⟨rfl, rfl, rfl⟩
  ·exact h.nf _ _ _ k h4 h5 hk
  ·simp [obv] at hk
  ·rcases ho k hk with h8 | h8
   ·exact h.nf _ _ _ k hj hg h8
   ·exact ⟨fun hf => by have := h.fb k hf; omega, fun hB => by have := (h.bb k hB).1; have := h.size; omega⟩
 ·rcases get hi hg' with ⟨_, h4, h5⟩ | rfl | ⟨rfl, rfl, rfl⟩
  ·exact h.onew _ _ _ k h4 h5 hk
  ·simp [obv] at hk
  ·rcases ho k hk with h8 | h8
   ·exact h.onew _ _ _ k hj hg h8
   ·have := h.size; exact .inr (by omega)
 ·have h3 := h.pre j v hj
  have := (List.getElem?_eq_some_iff.1 h3).1
  rw [List.getElem?_append_left this]; exact h3
theorem WR.freeze (h : WR E F γ ah H) {j sz : Nat} {α : Type} {enc : α → List C} {l : List α} (hj : ah[j]? = some (.row sz α enc l)) :
  ∃ F', (∀ k, F k → F' k) ∧ WR E F' γ (ah.set j (.fro sz α enc l)) H ∧ ∀ g, γ[j]? = some g → RL F' H m0 [.ls sz α enc l] [g] := by
 have hlt := (List.getElem?_eq_some_iff.1 hj).1
 obtain ⟨g, hg⟩ : ∃ g, γ[j]? = some g := ⟨γ[j]'(by rw [h.len]; exact hlt), List.getElem?_eq_getElem _⟩
 let F' := fun k => F k ∨ k ∈ obv (.row sz α enc l) g
 have e : Ext F H ⟨E.B, γ⟩ F' H ⟨E.B, γ⟩ := ⟨fun _ h => .inl h, fun _ _ _ _ h => h, fun _ h => h, fun _ _ h => h⟩
 have hfro : RL F' H m0 [.ls sz α enc l] [g] := by
  rcases h.br _ _ _ hj hg with ⟨p, rfl, rfl⟩ | ⟨k, off, cap, cur, t, css, rfl, h1, h2, h3, h4, h5, h6, h7⟩
  ·exact .ls0 .nl
  ·refine .ls (b := k) (.inr (by simp [obv])) h2 h3 (h5.ext e.m0) h6 (fun i u hi => ?_) .nl
   unfold cell
   rw [h1]
   rw [← h7, List.getElem?_take] at hi
   split at hi
   ·rw [List.getElem?_drop] at hi; simpa using hi
   ·cases hi
 refine ⟨F', fun _ h => .inl h, ?_, fun g' hg' => by rw [hg] at hg'; cases hg'; exact hfro⟩
 have get : ∀ {i b' g'}, (ah.set j (.fro sz α enc l))[i]? = some b' → γ[i]? = some g' → (i ≠ j ∧ ah[i]? = some b') ∨ (i = j ∧ b' = .fro sz α enc l ∧ g' = g) := fun hi hg' => by
  rcases get_set hi with h3 | ⟨rfl, _, rfl⟩
  ·exact .inl h3
  ·rw [hg] at hg'; exact .inr ⟨rfl, rfl, by simpa using hg'.symm⟩
 refine ⟨by simp [h.len], fun i b' g' hi hg' => ?_, fun i i' b' b'' g' g'' hne hi hg' hi' hg'' k hk hk' => ?_, fun i b' g' k hi hg' hk => ?_, fun k hk => ?_, h.bb, h.size, h.keep, fun k hk => .inl (h.fmono k hk), fun k hk => ?_, fun i b' g' k hi hg' hk => ?_, h.pre⟩
 ·rcases get hi hg' with ⟨h3, h4⟩ | ⟨rfl, rfl, rfl⟩
  ·exact BR.ext e (fun _ _ => rfl) (h.br _ _ _ h4 hg')
  ·exact hfro
 ·rcases get hi hg' with ⟨h3, h4⟩ | ⟨rfl, rfl, rfl⟩
  ·rcases get hi' hg'' with ⟨h5, h6⟩ | ⟨rfl, rfl, rfl⟩
   ·exact h.disj _ _ _ _ _ _ hne h4 hg' h6 hg'' k hk hk'
   ·simp [obv] at hk'
  ·simp [obv] at hk
 ·rcases get hi hg' with ⟨h3, h4⟩ | ⟨rfl, rfl, rfl⟩
  ·exact ⟨fun hf => hf.elim (h.nf _ _ _ k h4 hg' hk).1 (fun hm => h.disj _ _ _ _ _ _ h3 h4 hg' hj hg k hk hm), (h.nf _ _ _ k h4 hg' hk).2⟩
  ·simp [obv] at hk
 ·rcases hk with hk | hk
  ·exact h.fb k hk
  ·exact obv_lt (h.br _ _ _ hj hg) k hk
 ·rcases hk with hk | hk
  ·exact h.fnew k hk
  ·exact .inr (h.onew _ _ _ k hj hg hk)
 ·rcases get hi hg' with ⟨h3, h4⟩ | ⟨rfl, rfl, rfl⟩
  ·exact h.onew _ _ _ k h4 hg' hk
  ·simp [obv] at hk
end
def SV (F : Nat → Prop) (H : Heap) (L : LS) (v : Value) : Prop :=
 (∃ p, v = .slice p 0 0 ∧ L.l = []) ∨ ∃ b off cap css, v = .slice (some ⟨b, off, none⟩) L.l.length cap ∧ L.l.length ≤ cap ∧ cap ≤ maxLen ∧ RL F H m0 (L.l.flatMap L.enc) css ∧
  (∀ x ∈ L.l, (L.enc x).length = L.sz) ∧ ∀ j u, css[j]? = some u → cell H b (off + j) = some u
theorem flat_length {α : Type} {enc : α → List C} {sz : Nat} : ∀ {l : List α}, (∀ x ∈ l, (enc x).length = sz) → (l.flatMap enc).length = l.length * sz
 | [], _ => by simp
 | x :: l, h => by
  rw [List.flatMap_cons, List.length_append, h x (by simp), flat_length (fun y hy => h y (by simp [hy])), List.length_cons, Nat.succ_mul, Nat.add_comm]
theorem flat_drop {α : Type} {enc : α → List C} {sz : Nat} : ∀ {l : List α} (i : Nat), (∀ x ∈ l, (enc x).length = sz) → (l.flatMap enc).drop (i * sz) = (l.drop i).flatMap enc
 | [], i, _ => by simp
 | x :: l, 0, _ => by simp
 | x :: l, i + 1, h => by
  rw [List.flatMap_cons, List.drop_succ_cons, Nat.succ_mul, Nat.add_comm, ← List.drop_drop, ← h x (by simp), List.drop_left, h x (by simp)]
  exact flat_drop i (fun y hy => h y (by simp [hy]))
theorem flat_take {α : Type} {enc : α → List C} {sz : Nat} : ∀ {l : List α} (i : Nat), (∀ x ∈ l, (enc x).length = sz) → (l.flatMap enc).take (i * sz) = (l.take i).flatMap enc
 | [], i, _ => by simp
 | x :: l, 0, _ => by simp
 | x :: l, i + 1, h => by
  have hx := h x (by simp)
  rw [List.flatMap_cons, List.take_succ_cons, List.flatMap_cons, Nat.succ_mul, Nat.add_comm, ← hx, List.take_length_add_append, hx, flat_take i (fun y hy => h y (by simp [hy]))]
section
variable {E : En} {F : Nat → Prop} {γ : List Value} {ah : List B} {H H' : Heap} {m : Md}
theorem RL.sv {sz : Nat} {α : Type} {enc : α → List C} {l : List α} {v : Value} (h : RL F H m [.ls sz α enc l] [v]) : SV F H ⟨sz, α, enc, l⟩ v := by
 cases h with
 | ls0 _ => exact .inl ⟨_, rfl, rfl⟩
 | ls hb h1 h2 hr hz hc _ => exact .inr ⟨_, _, _, _, rfl, h1, h2, hr, hz, hc⟩
theorem row_sv {b : B} {g : Value} {L : LS} (h : BR F H m b g) (hL : rowOf b = some L) : SV F H L g := by
 cases b with
 | box cs ty => cases hL
 | dead => cases hL
 | buf => cases hL
 | row sz α enc l =>
  cases hL
  rcases h with ⟨p, rfl, rfl⟩ | ⟨k, off, cap, cur, t, css, rfl, h1, h2, h3, h4, h5, h6, h7⟩
  ·exact .inl ⟨_, rfl, rfl⟩
  ·refine .inr ⟨_, _, _, _, rfl, h2, h3, h5, h6, fun j u hj => ?_⟩
   unfold cell
   rw [h1]
   rw [← h7, List.getElem?_take] at hj
   split at hj
   ·rw [List.getElem?_drop] at hj; simpa using hj
   ·cases hj
 | fro sz α enc l => cases hL; exact RL.sv h
theorem SV.slice {L : LS} {v : Value} (h : SV F H L v) : ∃ p cap, v = .slice p L.l.length cap ∧ L.l.length ≤ cap ∧ cap ≤ maxLen := by
 rcases h with ⟨p, rfl, e⟩ | ⟨b, off, cap, css, rfl, h1, h2, _⟩
 ·exact ⟨p, 0, by rw [e]; rfl, by rw [e]; exact Nat.le_refl _, Nat.zero_le _⟩
 ·exact ⟨_, _, rfl, h1, h2⟩
theorem SV.part {L : LS} {p : Option Addr} {n0 cap lo n : Nat} (h : SV F H L (.slice p n0 cap)) (hle : lo + n ≤ n0) : SV F H (L.part lo n) (subv L.sz lo n (.slice p n0 cap)) := by
 have hl : L.l.length = n0 := by
  obtain ⟨p', cap', e, _⟩ := h.slice
  cases e; rfl
 rcases h with ⟨p', e, e2⟩ | ⟨b, off, cap', css, e, h1, h2, hr, hz, hc⟩
 ·cases e
  obtain rfl : lo = 0 := by omega
  obtain rfl : n = 0 := by omega
  exact .inl ⟨p, by simp [subv], by simp [LS.part]⟩
 ·cases e
  have hlen : (L.part lo n).l.length = n := by simp [LS.part]; omega
  by_cases hcl : cap = lo
  ·subst hcl
   obtain rfl : n = 0 := by omega
   refine .inl ⟨some ⟨b, off, none⟩, by simp [subv], List.eq_nil_of_length_eq_zero hlen⟩
  ·have hz' : ∀ x ∈ (L.part lo n).l, (L.enc x).length = L.sz := fun x hx => hz x (List.mem_of_mem_drop (List.mem_of_mem_take hx))
   have e1 : (L.part lo n).l.flatMap L.enc = ((L.l.flatMap L.enc).drop (lo * L.sz)).take (n * L.sz) := by
    have h3 : ∀ x ∈ L.l.drop lo, (L.enc x).length = L.sz := fun x hx => hz x (List.mem_of_mem_drop hx)
    rw [flat_drop lo hz, flat_take n h3]; rfl
   refine .inr ⟨b, off + lo * L.sz, cap - lo, (css.drop (lo * L.sz)).take (n * L.sz), by simp [subv, hcl, Addr.add_lit, hlen], by rw [hlen]; omega, by omega, ?_, hz', fun j u hj => ?_⟩
   ·show RL F H m0 ((L.part lo n).l.flatMap L.enc) _
    rw [e1]
    exact (hr.drop _).take _
   ·rw [List.getElem?_take] at hj
    split at hj
    ·rw [List.getElem?_drop] at hj
     rw [Nat.add_assoc]
     exact hc _ _ hj
    ·cases hj
theorem SV.partq {L : LS} {p q : Option Addr} {n0 cap lo n : Nat} (h : SV F H L (.slice p n0 cap)) (hle : lo + n ≤ n0) (hq : cap ≠ lo → q = p.map (·.add (lo * L.sz))) : SV F H (L.part lo n) (.slice q n (cap - lo)) := by
 by_cases e : cap = lo
 ·have hl : L.l.length = n0 := by
   obtain ⟨p', cap', e, _⟩ := h.slice
   cases e; rfl
  obtain ⟨p', cap', e', h1, _⟩ := h.slice
  cases e'
  obtain rfl : n = 0 := by omega
  exact .inl ⟨q, by rw [e, Nat.sub_self], by simp [LS.part]⟩
 ·have := h.part hle
  simp only [subv, if_neg e] at this
  rw [hq e]
  exact this
theorem SV.elem {L : LS} {b off n cap : Nat} (h : SV F H L (.slice (some ⟨b, off, none⟩) n cap)) {i : Nat} {x : L.α} (hi : L.l[i]? = some x) :
  ∃ us, RL F H m0 (L.enc x) us ∧ ∀ j u, us[j]? = some u → cell H b (off + i * L.sz + j) = some u := by
 obtain ⟨hlt, e0⟩ := List.getElem?_eq_some_iff.1 hi
 rcases h with ⟨p, e, e2⟩ | ⟨b, off, cap', css, e, h1, h2, hr, hz, hc⟩
 ·rw [e2] at hlt; cases hlt
 ·cases e
  have e1 : L.enc x = ((L.l.flatMap L.enc).drop (i * L.sz)).take L.sz := by
   rw [flat_drop i hz, List.drop_eq_getElem_cons hlt, e0, List.flatMap_cons, ← hz x (List.mem_of_getElem? hi), List.take_left]
  refine ⟨(css.drop (i * L.sz)).take L.sz, by rw [e1]; exact (hr.drop _).take _, fun j u hj => ?_⟩
  rw [List.getElem?_take] at hj
  split at hj
  ·rw [List.getElem?_drop] at hj
   rw [Nat.add_assoc]
   exact hc _ _ hj
  ·cases hj
theorem SV.some {L : LS} {v : Value} (h : SV F H L v) (hl : 0 < L.l.length) : ∃ b off cap, v = .slice (some ⟨b, off, none⟩) L.l.length cap := by
 rcases h with ⟨p, e, e2⟩ | ⟨b, off, cap', css, e, _⟩
 ·rw [e2] at hl; cases hl
 ·exact ⟨_, _, _, e⟩
theorem SV.ptr {L : LS} {p q : Option Addr} {n cap : Nat} (h : SV F H L (.slice p n cap)) (hq : cap ≠ 0 → q = p) : SV F H L (.slice q n cap) := by
 by_cases e : cap = 0
 ·obtain ⟨p', cap', e', h1, _⟩ := h.slice
  cases e'
  have : L.l = [] := List.eq_nil_of_length_eq_zero (by omega)
  exact .inl ⟨q, by rw [this, e]; rfl, this⟩
 ·rw [hq e]; exact h
theorem WR.sl (h : WR E F γ ah H) {c : C} {v : Value} {L : LS} (hc : RL F H ⟨E.B, γ⟩ [c] [v]) (hL : slOf ah c = some L) : SV F H L v := by
 cases c with
 | ls sz α enc l => cases hL; exact hc.sv
 | bs sz α enc l =>
  cases hL
  cases hc with
  | bs0 _ => exact .inl ⟨_, rfl, rfl⟩
  | bs hb h1 h2 hr hz hc _ => exact .inr ⟨_, _, _, _, rfl, h1, h2, hr, hz, hc⟩
 | rw j =>
  cases hc with
  | rw hg hq _ =>
   simp only [slOf] at hL
   cases hb : ah[j]? with
   | none => rw [hb] at hL; cases hL
   | some b => rw [hb] at hL; exact (row_sv (h.br j b _ hb hg) hL).ptr hq
 | sw sz j lo n =>
  cases hc with
  | sw hg hle hq _ =>
   simp only [slOf] at hL
   cases hb : ah[j]? with
   | none => rw [hb] at hL; cases hL
   | some b =>
    rw [hb] at hL
    cases hr : rowOf b with
    | none => rw [show Option.bind (Option.some b) rowOf = none from hr] at hL; cases hL
    | some L0 =>
     rw [show Option.bind (Option.some b) rowOf = some L0 from hr] at hL
     simp only [] at hL
     by_cases hz : Nat.beq sz L0.sz = true
     ·rw [hz] at hL
      cases hL
      obtain rfl := Nat.eq_of_beq_eq_true hz
      exact (row_sv (h.br j b _ hb hg) hr).partq hle hq
     ·rw [Bool.not_eq_true] at hz; rw [hz] at hL; cases hL
 | _ => cases hL
end
end Go.AM
