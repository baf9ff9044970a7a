/- part -/
import Derived.Test.YtpmjnbidmcnhnaaGreatDoorP7
set_option linter.unusedVariables false
set_option linter.unusedSimpArgs false

namespace Go.Nest
open Go Go.AM
def atK (p : List UInt8) (l : List Fi) : List Fi := l.filter fun f => decide (f.path = p)
theorem atK_app (p : List UInt8) (a b : List Fi) : atK p (a ++ b) = atK p a ++ atK p b := List.filter_append ..
theorem atK_cons (p : List UInt8) (f : Fi) (l : List Fi) : atK p (f :: l) = (if f.path = p then [f] else []) ++ atK p l := by
 unfold atK
 rw [List.filter_cons]
 by_cases h : f.path = p <;> simp [h]
theorem atK_nil {p : List UInt8} {l : List Fi} (h : ∀ f ∈ l, f.path ≠ p) : atK p l = [] := by
 unfold atK
 rw [List.filter_eq_nil_iff]
 intro f hf
 simpa using h f hf
def Stb (a b : List Fi) : Prop := ∀ p, atK p a = atK p b
theorem Stb.refl (a : List Fi) : Stb a a := fun _ => rfl
theorem Stb.symm {a b : List Fi} (h : Stb a b) : Stb b a := fun p => (h p).symm
theorem Stb.trans {a b c : List Fi} (h : Stb a b) (g : Stb b c) : Stb a c := fun p => (h p).trans (g p)
theorem Stb.app {a b c d : List Fi} (h : Stb a b) (g : Stb c d) : Stb (a ++ c) (b ++ d) := fun p => by rw [atK_app, atK_app, h p, g p]
theorem Stb.mem {a b : List Fi} (h : Stb a b) {f : Fi} (hf : f ∈ a) : f ∈ b := by
 have : f ∈ atK f.path a := List.mem_filter.2 ⟨hf, by simp⟩
 rw [h] at this
 exact (List.mem_filter.1 this).1
theorem Stb.swap {a b : List Fi} (h : ∀ x ∈ a, ∀ y ∈ b, x.path ≠ y.path) : Stb (a ++ b) (b ++ a) := fun p => by
 rw [atK_app, atK_app]
 by_cases ha : ∃ x ∈ a, x.path = p
 ·obtain ⟨x, hx, e⟩ := ha
  rw [atK_nil (l := b) fun y hy e2 => h x hx y hy (e.trans e2.symm)]; simp
 ·rw [atK_nil (l := a) fun x hx e => ha ⟨x, hx, e⟩]; simp
theorem wk_mem {x : Fi} {l : List Fi} (h : Wk (x :: l)) : ∀ y ∈ l, lessP y.path x.path = false := (List.pairwise_cons.1 h).1
theorem stb_uniq : ∀ {a b : List Fi}, Wk a → Wk b → Stb a b → a = b
 | [], [], _, _, _ => rfl
 | [], y :: b, _, _, h => by have := h y.path; rw [atK_cons, if_pos rfl] at this; simp [atK] at this
 | x :: a, [], _, _, h => by have := h x.path; rw [atK_cons, if_pos rfl] at this; simp [atK] at this
 | x :: a, y :: b, ha, hb, h => by
  have hx : x ∈ y :: b := h.mem (by simp)
  have hy : y ∈ x :: a := h.symm.mem (by simp)
  have e : x.path = y.path := by
   rcases lessP_tri x.path y.path with h1 | h1 | h1
   ·exfalso
    rcases List.mem_cons.1 hx with e | hx
    ·rw [e, lessP_irrefl] at h1; cases h1
    ·rw [wk_mem hb x hx] at h1; cases h1
   ·exact h1
   ·exfalso
    rcases List.mem_cons.1 hy with e | hy
    ·rw [e, lessP_irrefl] at h1; cases h1
    ·rw [wk_mem ha y hy] at h1; cases h1
  have h1 := h x.path
  rw [atK_cons, atK_cons, if_pos rfl, if_pos e.symm] at h1
  have h2 := List.cons.inj h1
  obtain rfl := h2.1
  congr 1
  refine stb_uniq (List.pairwise_cons.1 ha).2 (List.pairwise_cons.1 hb).2 fun p => ?_
  have h3 := h p
  rw [atK_cons, atK_cons] at h3
  exact List.append_cancel_left h3
theorem insF_stb {f : Fi} : ∀ {out : List Fi}, Wk out → Stb (insF f out) (out ++ [f]) := by
 intro out hw p
 unfold insF
 have hsplit := List.takeWhile_append_dropWhile (p := fun g : Fi => !lessP f.path g.path) (l := out)
 have hd : ∀ y ∈ out.dropWhile (fun g : Fi => !lessP f.path g.path), lessP f.path y.path = true := by
  cases hdw : out.dropWhile (fun g : Fi => !lessP f.path g.path) with
  | nil => intro y hy; cases hy
  | cons z r =>
   have hz : lessP f.path z.path = true := by
    have := List.head?_dropWhile_not (fun g : Fi => !lessP f.path g.path) out
    rw [hdw] at this
    simpa using this
   have hwd : Wk (z :: r) := by rw [← hdw]; exact List.Pairwise.sublist (List.dropWhile_sublist _) hw
   intro y hy
   rcases List.mem_cons.1 hy with rfl | hy
   ·exact hz
   ·have h1 := wk_mem hwd y hy
    rcases lessP_tri z.path y.path with h2 | h2 | h2
    ·exact lessP_trans hz h2
    ·rw [← h2]; exact hz
    ·rw [h2] at h1; cases h1
 conv => rhs; rw [← hsplit]
 rw [atK_app, atK_app, atK_app, atK_cons, List.append_assoc]
 congr 1
 have h2 : atK p [f] = if f.path = p then [f] else [] := by rw [atK_cons]; simp [atK]
 rw [h2]
 by_cases e : f.path = p
 ·rw [if_pos e, atK_nil (l := out.dropWhile _) fun y hy e2 => less_ne (hd y hy) (e.trans e2.symm)]; simp
 ·rw [if_neg e]; simp
theorem inOrd_stb (l : List Fi) : Stb (inOrdP l) l := by
 have key : ∀ (l out : List Fi), Wk out → Stb (l.foldl (fun out f => insF f out) out) (out ++ l) := by
  intro l
  induction l with
  | nil => intro out _; rw [List.append_nil]; exact .refl _
  | cons f l ih =>
   intro out h
   refine (ih (insF f out) (insF_wk h)).trans ?_
   rw [show out ++ f :: l = (out ++ [f]) ++ l by simp]
   exact (insF_stb h).app (.refl l)
 exact key l [] .nil
theorem inOrd_uniq {a l : List Fi} (h : Wk a) (hs : Stb a l) : a = inOrdP l := stb_uniq h (inOrd_wk l) (hs.trans (inOrd_stb l).symm)
theorem inOrd_id {a : List Fi} (h : Wk a) : inOrdP a = a := (inOrd_uniq h (.refl a)).symm
theorem inOrd_two (a b : List Fi) : inOrdP (inOrdP a ++ inOrdP b) = inOrdP (a ++ b) := inOrd_uniq (inOrd_wk _) ((inOrd_stb _).trans ((inOrd_stb a).app (inOrd_stb b)))
theorem inOrd_len (l : List Fi) : (inOrdP l).length = l.length := (inOrd_perm l).length_eq
theorem inOrd_snoc (l : List Fi) (f : Fi) : inOrdP (l ++ [f]) = insF f (inOrdP l) := by unfold inOrdP; rw [List.foldl_append]; rfl
theorem wk_app {a b : List Fi} (ha : Wk a) (hb : Wk b) (h : ∀ x ∈ a, ∀ y ∈ b, lessP y.path x.path = false) : Wk (a ++ b) := List.pairwise_append.2 ⟨ha, hb, h⟩
theorem wk_parts {a b : List Fi} (h : Wk (a ++ b)) : Wk a ∧ Wk b ∧ ∀ x ∈ a, ∀ y ∈ b, lessP y.path x.path = false := List.pairwise_append.1 h
theorem le_trans' {x y z : List UInt8} (h1 : lessP y x = false) (h2 : lessP z y = false) : lessP z x = false := by
 cases h : lessP z x with
 | false => rfl
 | true =>
  rcases lessP_tri y z with h3 | h3 | h3
  ·have := lessP_trans h3 h; rw [h1] at this; cases this
  ·rw [← h3, h1] at h; cases h
  ·rw [h2] at h3; cases h3
theorem lt_le {x y z : List UInt8} (h1 : lessP x y = true) (h2 : lessP z y = false) : lessP x z = true := by
 rcases lessP_tri y z with h3 | h3 | h3
 ·exact lessP_trans h1 h3
 ·rw [← h3]; exact h1
 ·rw [h2] at h3; cases h3
theorem le_lt {x y z : List UInt8} (h1 : lessP y x = false) (h2 : lessP y z = true) : lessP x z = true := by
 rcases lessP_tri x y with h3 | h3 | h3
 ·exact lessP_trans h3 h2
 ·rw [h3]; exact h2
 ·rw [h1] at h3; cases h3
theorem one_front {x : Fi} {Y : List Fi} {k : Nat} (hY : Wk Y) (h1 : ∀ y ∈ Y.take k, lessP y.path x.path = true) (h2 : ∀ y ∈ Y.drop k, lessP y.path x.path = false) : Y.take k ++ x :: Y.drop k = inOrdP ([x] ++ Y) := by
 have e := List.take_append_drop k Y
 rw [← e] at hY
 obtain ⟨w1, w2, w3⟩ := wk_parts hY
 refine inOrd_uniq (wk_app w1 (List.pairwise_cons.2 ⟨h2, w2⟩) fun a ha b hb => ?_) ?_
 ·rcases List.mem_cons.1 hb with rfl | hb
  ·exact lessP_asymm (h1 a ha)
  ·exact w3 a ha b hb
 ·rw [show Y.take k ++ x :: Y.drop k = (Y.take k ++ [x]) ++ Y.drop k by simp]
  conv => rhs; rw [← e, ← List.append_assoc]
  refine Stb.app (Stb.swap fun a ha b hb => ?_) (.refl _)
  rw [List.mem_singleton] at hb
  subst hb
  exact less_ne (h1 a ha)
theorem one_back {y : Fi} {X : List Fi} {k : Nat} (hX : Wk X) (h1 : ∀ x ∈ X.take k, lessP y.path x.path = false) (h2 : ∀ x ∈ X.drop k, lessP y.path x.path = true) : X.take k ++ y :: X.drop k = inOrdP (X ++ [y]) := by
 have e := List.take_append_drop k X
 rw [← e] at hX
 obtain ⟨w1, w2, w3⟩ := wk_parts hX
 refine inOrd_uniq (wk_app w1 (List.pairwise_cons.2 ⟨fun b hb => lessP_asymm (h2 b hb), w2⟩) fun a ha b hb => ?_) ?_
 ·rcases List.mem_cons.1 hb with rfl | hb
  ·exact h1 a ha
  ·exact w3 a ha b hb
 ·rw [show X.take k ++ y :: X.drop k = X.take k ++ ([y] ++ X.drop k) by simp]
  conv => rhs; rw [← e, List.append_assoc]
  refine Stb.app (.refl _) (Stb.swap fun a ha b hb => ?_)
  rw [List.mem_singleton] at ha
  subst ha
  exact less_ne (h2 b hb)
theorem sym_ok {X1 X2 Y1 Y2 : List Fi} (hX : Wk (X1 ++ X2)) (hY : Wk (Y1 ++ Y2)) (h1 : ∀ x ∈ X2, ∀ y ∈ Y1, lessP y.path x.path = true) (h2 : ∀ x ∈ X1, ∀ y ∈ Y2, lessP y.path x.path = false) :
  inOrdP (X1 ++ Y1) ++ inOrdP (X2 ++ Y2) = inOrdP ((X1 ++ X2) ++ (Y1 ++ Y2)) := by
 obtain ⟨a1, a2, a3⟩ := wk_parts hX
 obtain ⟨b1, b2, b3⟩ := wk_parts hY
 refine inOrd_uniq (wk_app (inOrd_wk _) (inOrd_wk _) fun u hu v hv => ?_) ?_
 ·have hu := (inOrd_perm _).mem_iff.1 hu
  have hv := (inOrd_perm _).mem_iff.1 hv
  rcases List.mem_append.1 hu with hu | hu <;> rcases List.mem_append.1 hv with hv | hv
  ·exact a3 u hu v hv
  ·exact h2 u hu v hv
  ·exact lessP_asymm (h1 v hv u hu)
  ·exact b3 u hu v hv
 ·refine ((inOrd_stb _).app (inOrd_stb _)).trans ?_
  rw [show (X1 ++ Y1) ++ (X2 ++ Y2) = X1 ++ ((Y1 ++ X2) ++ Y2) by simp, show (X1 ++ X2) ++ (Y1 ++ Y2) = X1 ++ ((X2 ++ Y1) ++ Y2) by simp]
  exact Stb.app (.refl _) (Stb.app (Stb.swap fun a ha b hb => less_ne (h1 b hb a ha)) (.refl _))
def srt (bs : Nat) (d : List Fi) : List Fi := if h : d.length ≤ bs ∨ bs = 0 then inOrdP d else inOrdP (d.take bs) ++ srt bs (d.drop bs)
termination_by d.length
decreasing_by rw [List.length_drop]; omega
theorem srt_few {bs : Nat} {d : List Fi} (h : d.length ≤ bs) : srt bs d = inOrdP d := by rw [srt, dif_pos (.inl h)]
theorem srt_more {bs : Nat} {d : List Fi} (hb : 0 < bs) (h : bs ≤ d.length) : srt bs d = inOrdP (d.take bs) ++ srt bs (d.drop bs) := by
 by_cases e : d.length ≤ bs
 ·rw [srt_few e, List.take_of_length_le e, List.drop_of_length_le e, srt_few (by simp)]
  rw [show inOrdP [] = [] from rfl, List.append_nil]
 ·conv => lhs; rw [srt, dif_neg (by omega)]
theorem srt_len : ∀ (n bs : Nat) (d : List Fi), d.length ≤ n → (srt bs d).length = d.length := by
 intro n
 induction n with
 | zero => intro bs d h; rw [srt_few (by omega), inOrd_len]
 | succ n ih =>
  intro bs d h
  by_cases e : d.length ≤ bs ∨ bs = 0
  ·rw [srt, dif_pos e, inOrd_len]
  ·rw [srt, dif_neg e, List.length_append, inOrd_len, ih bs _ (by rw [List.length_drop]; omega), List.length_take, List.length_drop]; omega
end Go.Nest
