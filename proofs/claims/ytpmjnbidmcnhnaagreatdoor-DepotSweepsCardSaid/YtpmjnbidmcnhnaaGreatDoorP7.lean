/- part -/
import Derived.Test.YtpmjnbidmcnhnaaGreatDoorP4
import Derived.Test.YtpmjnbidmcnhnaaGreatDoorAmT
set_option linter.unusedVariables false
set_option linter.unusedSimpArgs false

namespace Go.Nest
open Go Go.AM
def fi0 : Fi := ⟨[], 0, 0, 0⟩
def fileAtP (l : List Fi) (p : List UInt8) : Fi × Bool := match l.find? fun f => decide (f.path = p) with
 | some f => (f, true)
 | none => (fi0, false)
def atP (l : List Fi) (p : List UInt8) : Fi := (fileAtP l p).1
def Ris {α : Type} (k : α → List UInt8) (l : List α) : Prop := l.Pairwise fun x y => lessP (k x) (k y) = true
theorem less_ne {a b : List UInt8} (h : lessP a b = true) : a ≠ b := fun e => by rw [e, lessP_irrefl] at h; cases h
theorem atP_cons {x : Fi} {l : List Fi} {p : List UInt8} : atP (x :: l) p = if x.path = p then x else atP l p := by
 unfold atP fileAtP
 rw [List.find?_cons]
 by_cases h : x.path = p <;> simp [h]
theorem atP_none : ∀ {l : List Fi} {p : List UInt8}, (∀ f ∈ l, f.path ≠ p) → atP l p = fi0
 | [], _, _ => rfl
 | x :: l, p, h => by rw [atP_cons, if_neg (h x (by simp)), atP_none fun f hf => h f (by simp [hf])]
structure Files (l : List Fi) : Prop where
 ris : Ris (·.path) l
 md : ∀ f ∈ l, f.mode ≠ 0
theorem Files.tail {x : Fi} {l : List Fi} (h : Files (x :: l)) : Files l := ⟨(List.pairwise_cons.1 h.ris).2, fun f hf => h.md f (by simp [hf])⟩
theorem Files.head {x : Fi} {l : List Fi} (h : Files (x :: l)) : ∀ f ∈ l, lessP x.path f.path = true := (List.pairwise_cons.1 h.ris).1
theorem Files.ne {l : List Fi} (h : Files l) {f : Fi} (hf : f ∈ l) : f ≠ fi0 := fun e => h.md f hf (by rw [e]; rfl)
def Ky (a b : List Fi) (p : List UInt8) : Prop := (∃ f ∈ a, f.path = p) ∨ ∃ f ∈ b, f.path = p
structure Told (a b : List Fi) (c : Ch) : Prop where
 key : Ky a b c.path
 old : c.old = atP a c.path
 new : c.new = atP b c.path
 ne : c.old ≠ c.new
theorem Told.fst {a : Fi} {ar b : List Fi} {c : Ch} (ha : Files (a :: ar)) (hb : ∀ f ∈ b, lessP a.path f.path = true) : Told (a :: ar) b c ↔ c = ⟨a.path, a, fi0⟩ ∨ Told ar b c := by
 have hab : atP b a.path = fi0 := atP_none fun f hf e => less_ne (hb f hf) e.symm
 constructor
 ·rintro ⟨h1, h2, h3, h4⟩
  by_cases e : a.path = c.path
  ·left
   rw [atP_cons, if_pos e] at h2
   rw [← e, hab] at h3
   obtain ⟨p, o, n⟩ := c
   simp only at e h2 h3
   rw [e, h2, h3]
  ·right
   rw [atP_cons, if_neg e] at h2
   refine ⟨?_, h2, h3, h4⟩
   rcases h1 with ⟨f, hf, h⟩ | h
   ·rcases List.mem_cons.1 hf with rfl | hf
    ·exact absurd h e
    ·exact .inl ⟨f, hf, h⟩
   ·exact .inr h
 ·rintro (rfl | ⟨h1, h2, h3, h4⟩)
  ·exact ⟨.inl ⟨a, by simp, rfl⟩, by simp [atP_cons], hab.symm, ha.ne (by simp)⟩
  ·have e : a.path ≠ c.path := fun e => by
    rcases h1 with ⟨f, hf, h⟩ | ⟨f, hf, h⟩
    ·exact less_ne (ha.head f hf) (e.trans h.symm)
    ·exact less_ne (hb f hf) (e.trans h.symm)
   refine ⟨?_, by rw [atP_cons, if_neg e]; exact h2, h3, h4⟩
   rcases h1 with ⟨f, hf, h⟩ | h
   ·exact .inl ⟨f, by simp [hf], h⟩
   ·exact .inr h
theorem Told.both {a b : Fi} {ar bs : List Fi} {c : Ch} (ha : Files (a :: ar)) (hb : Files (b :: bs)) (e0 : a.path = b.path) : Told (a :: ar) (b :: bs) c ↔ (a ≠ b ∧ c = ⟨a.path, a, b⟩) ∨ Told ar bs c := by
 constructor
 ·rintro ⟨h1, h2, h3, h4⟩
  by_cases e : a.path = c.path
  ·left
   rw [atP_cons, if_pos e] at h2
   rw [atP_cons, if_pos (e0 ▸ e)] at h3
   obtain ⟨p, o, n⟩ := c
   simp only at e h2 h3 h4
   subst h2; subst h3; subst e
   exact ⟨h4, rfl⟩
  ·right
   rw [atP_cons, if_neg e] at h2
   rw [atP_cons, if_neg (e0 ▸ e)] at h3
   refine ⟨?_, h2, h3, h4⟩
   rcases h1 with ⟨f, hf, h⟩ | ⟨f, hf, h⟩
   ·rcases List.mem_cons.1 hf with rfl | hf
    ·exact absurd h e
    ·exact .inl ⟨f, hf, h⟩
   ·rcases List.mem_cons.1 hf with rfl | hf
    ·exact absurd (e0.trans h) e
    ·exact .inr ⟨f, hf, h⟩
 ·rintro (⟨hne, rfl⟩ | ⟨h1, h2, h3, h4⟩)
  ·exact ⟨.inl ⟨a, by simp, rfl⟩, by simp [atP_cons], by simp [atP_cons, e0], hne⟩
  ·have e : a.path ≠ c.path := fun e => by
    rcases h1 with ⟨f, hf, h⟩ | ⟨f, hf, h⟩
    ·exact less_ne (ha.head f hf) (e.trans h.symm)
    ·exact less_ne (hb.head f hf) (e0.symm.trans (e.trans h.symm))
   refine ⟨?_, by rw [atP_cons, if_neg e]; exact h2, by rw [atP_cons, if_neg (e0 ▸ e)]; exact h3, h4⟩
   rcases h1 with ⟨f, hf, h⟩ | ⟨f, hf, h⟩
   ·exact .inl ⟨f, by simp [hf], h⟩
   ·exact .inr ⟨f, by simp [hf], h⟩
def insF (f : Fi) (out : List Fi) : List Fi := out.takeWhile (fun g => !lessP f.path g.path) ++ f :: out.dropWhile (fun g => !lessP f.path g.path)
def inOrdP (l : List Fi) : List Fi := l.foldl (fun out f => insF f out) []
def Wk (l : List Fi) : Prop := l.Pairwise fun x y => lessP y.path x.path = false
theorem insF_perm (f : Fi) (out : List Fi) : (insF f out).Perm (f :: out) := by
 unfold insF
 refine List.perm_middle.trans (.cons f ?_)
 rw [List.takeWhile_append_dropWhile]
theorem insF_wk {f : Fi} : ∀ {out : List Fi}, Wk out → Wk (insF f out)
 | [], _ => by simp [insF, Wk]
 | g :: out, h => by
  obtain ⟨h1, h2⟩ := List.pairwise_cons.1 h
  by_cases hg : lessP f.path g.path = true
  ·have : insF f (g :: out) = f :: g :: out := by simp [insF, hg]
   rw [this]
   refine List.pairwise_cons.2 ⟨fun y hy => ?_, h⟩
   rcases List.mem_cons.1 hy with rfl | hy
   ·exact lessP_asymm hg
   ·have h3 := h1 y hy
    rcases lessP_tri g.path y.path with h4 | h4 | h4
    ·exact lessP_asymm (lessP_trans hg h4)
    ·rw [← h4]; exact lessP_asymm hg
    ·rw [h4] at h3; cases h3
  ·rw [Bool.not_eq_true] at hg
   have : insF f (g :: out) = g :: insF f out := by simp [insF, hg]
   rw [this]
   refine List.pairwise_cons.2 ⟨fun y hy => ?_, insF_wk h2⟩
   rcases List.mem_cons.1 ((insF_perm f out).mem_iff.1 hy) with rfl | hy
   ·exact hg
   ·exact h1 y hy
theorem inOrd_gen : ∀ (l out : List Fi), Wk out → Wk (l.foldl (fun out f => insF f out) out) ∧ (l.foldl (fun out f => insF f out) out).Perm (l ++ out)
 | [], out, h => ⟨h, .refl _⟩
 | f :: l, out, h => by
  obtain ⟨h1, h2⟩ := inOrd_gen l (insF f out) (insF_wk h)
  refine ⟨h1, h2.trans ?_⟩
  exact ((insF_perm f out).append_left l).trans List.perm_middle
theorem inOrd_wk (l : List Fi) : Wk (inOrdP l) := (inOrd_gen l [] .nil).1
theorem inOrd_perm (l : List Fi) : (inOrdP l).Perm l := by have := (inOrd_gen l [] .nil).2; rwa [List.append_nil] at this
end Go.Nest
