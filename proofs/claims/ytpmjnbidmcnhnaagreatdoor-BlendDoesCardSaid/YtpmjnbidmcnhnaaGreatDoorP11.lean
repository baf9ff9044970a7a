/- part -/
import Derived.Test.YtpmjnbidmcnhnaaGreatDoorG3
import Derived.Lib.Bytealg
import Derived.Test.YtpmjnbidmcnhnaaGreatDoorL1
set_option linter.unusedVariables false
set_option linter.unusedSimpArgs false
section

namespace Go.Nest
open Go Go.AM
theorem bl_irrefl : ∀ {a : List UInt8}, Op.bytesLess a a = false
 | [] => rfl
 | x :: a => by simp [Op.bytesLess, bl_irrefl (a := a)]
theorem bl_trans : ∀ {a b c : List UInt8}, Op.bytesLess a b = true → Op.bytesLess b c = true → Op.bytesLess a c = true
 | _, _, [], _, h => by cases ‹List UInt8› <;> simp [Op.bytesLess] at h
 | _, [], _ :: _, h, _ => by simp [Op.bytesLess] at h
 | [], _ :: _, _ :: _, _, _ => rfl
 | x :: a, y :: b, z :: c, h1, h2 => by
  simp only [Op.bytesLess, Bool.or_eq_true, Bool.and_eq_true, decide_eq_true_iff, beq_iff_eq] at h1 h2 ⊢
  rcases h1 with h1 | ⟨rfl, h1⟩
  ·rcases h2 with h2 | ⟨rfl, h2⟩
   ·exact .inl (UInt8.lt_trans h1 h2)
   ·exact .inl h1
  ·rcases h2 with h2 | ⟨rfl, h2⟩
   ·exact .inl h2
   ·exact .inr ⟨rfl, bl_trans h1 h2⟩
theorem bl_tri : ∀ (a b : List UInt8), Op.bytesLess a b = true ∨ a = b ∨ Op.bytesLess b a = true
 | [], [] => .inr (.inl rfl)
 | [], _ :: _ => .inl rfl
 | _ :: _, [] => .inr (.inr rfl)
 | x :: a, y :: b => by
  simp only [Op.bytesLess, Bool.or_eq_true, Bool.and_eq_true, decide_eq_true_iff, beq_iff_eq, List.cons.injEq]
  rcases Nat.lt_trichotomy x.toNat y.toNat with h | h | h
  ·exact .inl (.inl (UInt8.lt_iff_toNat_lt.2 h))
  ·have : x = y := UInt8.toNat_inj.1 h
   subst this
   rcases bl_tri a b with h | h | h
   ·exact .inl (.inr ⟨rfl, h⟩)
   ·exact .inr (.inl ⟨rfl, h⟩)
   ·exact .inr (.inr (.inr ⟨rfl, h⟩))
  ·exact .inr (.inr (.inl (UInt8.lt_iff_toNat_lt.2 h)))
theorem bl_asymm {a b : List UInt8} (h : Op.bytesLess a b = true) : Op.bytesLess b a = false := by
 cases h2 : Op.bytesLess b a with
 | false => rfl
 | true => have := bl_trans h h2; rw [bl_irrefl] at this; cases this
def spl : List UInt8 → List (List UInt8)
 | [] => [[]]
 | c :: r => if c = 47 then [] :: spl r else match spl r with
  | x :: xs => (c :: x) :: xs
  | [] => [[c]]
theorem spl_ne : ∀ l : List UInt8, spl l ≠ []
 | [] => by simp [spl]
 | c :: r => by
  unfold spl
  split
  ·simp
  ·split <;> simp
theorem spl_pos (l : List UInt8) : 0 < (spl l).length := List.length_pos_iff.2 (spl_ne l)
theorem spl_len : ∀ l : List UInt8, (spl l).length = l.count 47 + 1
 | [] => rfl
 | c :: r => by
  have h := spl_len r
  unfold spl
  rw [List.count_cons]
  split
  ·rename_i e; subst e; simp [h]
  ·rename_i e
   have : (c == 47) = false := by simpa using e
   rw [this]
   split
   ·rename_i x xs hx; rw [hx] at h; simpa using h
   ·rename_i hx; exact absurd hx (spl_ne r)
theorem spl_none : ∀ {l : List UInt8}, l.count 47 = 0 → spl l = [l]
 | [], _ => rfl
 | c :: r, h => by
  rw [List.count_cons] at h
  have hr := spl_none (l := r) (by omega)
  unfold spl
  rw [if_neg (fun e => by subst e; simp at h), hr]
theorem idx_stroke : ∀ {l : List UInt8}, 0 < l.count 47 → ∃ m : Nat, Lib.indexByte l 47 = m ∧ m < l.length ∧ spl l = l.take m :: spl (l.drop (m + 1)) ∧ (l.drop (m + 1)).count 47 + 1 = l.count 47
 | [], h => by simp at h
 | c :: r, h => by
  by_cases e : c = 47
  ·subst e
   exact ⟨0, by simp [Lib.indexByte], by simp, by simp [spl], by simp⟩
  ·rw [List.count_cons] at h
   have hc : (c == 47) = false := by simpa using e
   rw [hc] at h
   obtain ⟨m, h1, h2, h3, h4⟩ := idx_stroke (l := r) (by simpa using h)
   refine ⟨m + 1, ?_, by simp; omega, ?_, ?_⟩
   ·unfold Lib.indexByte
    rw [hc, h1]
    have : ((m : Int) == -1) = false := by simp
    simp [this]
   ·conv => lhs; unfold spl
    rw [if_neg e, h3]; simp
   ·rw [List.drop_succ_cons, h4, List.count_cons, hc]; rfl
theorem spl_snoc_stroke : ∀ (l : List UInt8), spl (l ++ [47]) = spl l ++ [[]]
 | [] => rfl
 | c :: r => by
  have h := spl_snoc_stroke r
  rw [List.cons_append]
  unfold spl
  split
  ·rw [h]; rfl
  ·rw [h]
   cases hr : spl r with
   | nil => exact absurd hr (spl_ne r)
   | cons x xs => rfl
theorem spl_snoc : ∀ (l : List UInt8) {c : UInt8}, c ≠ 47 → ∃ (xs : List (List UInt8)) (x : List UInt8), spl l = xs ++ [x] ∧ spl (l ++ [c]) = xs ++ [x ++ [c]]
 | [], c, h => ⟨[], [], rfl, by simp [spl, h]⟩
 | d :: r, c, h => by
  obtain ⟨xs, x, h1, h2⟩ := spl_snoc r h
  rw [List.cons_append]
  unfold spl
  split
  ·exact ⟨[] :: xs, x, by rw [h1]; rfl, by rw [h2]; rfl⟩
  ·rw [h1, h2]
   cases xs with
   | nil => exact ⟨[], d :: x, rfl, rfl⟩
   | cons y ys => exact ⟨(d :: y) :: ys, x, rfl, rfl⟩
theorem spl_append : ∀ (a b : List UInt8), spl (a ++ 47 :: b) = spl a ++ spl b
 | [], b => by simp [spl]
 | c :: a, b => by
  have h := spl_append a b
  have e : ∀ r, spl (c :: r) = if c = 47 then [] :: spl r else match spl r with | x :: xs => (c :: x) :: xs | [] => [[c]] := fun _ => rfl
  rw [List.cons_append, e, e, h]
  split
  ·rfl
  ·cases ha : spl a with
   | nil => exact absurd ha (spl_ne a)
   | cons x xs => rfl
def unsp : List (List UInt8) → List UInt8
 | [] => []
 | [x] => x
 | x :: y :: r => x ++ 47 :: unsp (y :: r)
theorem unsp_spl : ∀ l : List UInt8, unsp (spl l) = l
 | [] => rfl
 | c :: r => by
  have h := unsp_spl r
  unfold spl
  split
  ·rename_i e; subst e
   cases hr : spl r with
   | nil => exact absurd hr (spl_ne r)
   | cons x xs => rw [hr] at h; simp [unsp, h]
  ·cases hr : spl r with
   | nil => exact absurd hr (spl_ne r)
   | cons x xs =>
    rw [hr] at h
    cases xs with
    | nil => simp [unsp] at h ⊢; exact h
    | cons y ys => simp [unsp] at h ⊢; exact h
theorem spl_inj {a b : List UInt8} (h : spl a = spl b) : a = b := by rw [← unsp_spl a, h, unsp_spl]
def lessL : List (List UInt8) → List (List UInt8) → Bool
 | [], [] => false
 | [], _ :: _ => true
 | _ :: _, [] => false
 | x :: r, y :: q => if x = y then lessL r q else Op.bytesLess x y
def lessP (a b : List UInt8) : Bool := lessL (spl a) (spl b)
theorem lessL_irrefl : ∀ {x : List (List UInt8)}, lessL x x = false
 | [] => rfl
 | x :: r => by simp [lessL, lessL_irrefl (x := r)]
theorem lessL_trans : ∀ {a b c : List (List UInt8)}, lessL a b = true → lessL b c = true → lessL a c = true
 | [], [], _, h, _ => by simp [lessL] at h
 | [], _ :: _, [], _, h => by simp [lessL] at h
 | [], _ :: _, _ :: _, _, _ => rfl
 | _ :: _, [], _, h, _ => by simp [lessL] at h
 | _ :: _, _ :: _, [], _, h => by simp [lessL] at h
 | x :: a, y :: b, z :: c, h1, h2 => by
  unfold lessL at h1 h2 ⊢
  split at h1
  ·rename_i e; subst e
   split at h2
   ·rename_i e; subst e; rw [if_pos rfl]; exact lessL_trans h1 h2
   ·rename_i e; rw [if_neg e]; exact h2
  ·rename_i e
   split at h2
   ·rename_i e2; subst e2; rw [if_neg e]; exact h1
   ·have := bl_trans h1 h2
    rw [if_neg (fun e3 => by subst e3; rw [bl_irrefl] at this; cases this)]; exact this
theorem lessL_tri : ∀ (a b : List (List UInt8)), lessL a b = true ∨ a = b ∨ lessL b a = true
 | [], [] => .inr (.inl rfl)
 | [], _ :: _ => .inl rfl
 | _ :: _, [] => .inr (.inr rfl)
 | x :: a, y :: b => by
  by_cases e : x = y
  ·subst e
   rcases lessL_tri a b with h | h | h
   ·exact .inl (by simp [lessL, h])
   ·exact .inr (.inl (by rw [h]))
   ·exact .inr (.inr (by simp [lessL, h]))
  ·rcases bl_tri x y with h | h | h
   ·exact .inl (by simp [lessL, e, h])
   ·exact absurd h e
   ·exact .inr (.inr (by simp [lessL, Ne.symm e, h]))
theorem lessP_irrefl {a : List UInt8} : lessP a a = false := lessL_irrefl
theorem lessP_trans {a b c : List UInt8} (h1 : lessP a b = true) (h2 : lessP b c = true) : lessP a c = true := lessL_trans h1 h2
theorem lessP_asymm {a b : List UInt8} (h : lessP a b = true) : lessP b a = false := by
 cases h2 : lessP b a with
 | false => rfl
 | true => have := lessP_trans h h2; rw [lessP_irrefl] at this; cases this
theorem lessP_tri (a b : List UInt8) : lessP a b = true ∨ a = b ∨ lessP b a = true :=
 (lessL_tri (spl a) (spl b)).imp id (Or.imp spl_inj id)
def under (p d : List UInt8) : Option (List UInt8) := if (d ++ [47]).isPrefixOf p = true then some (p.drop (d.length + 1)) else none
theorem under_eq {p d r : List UInt8} (h : under p d = some r) : p = d ++ 47 :: r := by
 unfold under at h
 split at h
 ·rename_i h1
  cases h
  rw [List.isPrefixOf_iff_prefix] at h1
  obtain ⟨t, rfl⟩ := h1
  simp
 ·cases h
theorem under_of {d r : List UInt8} : under (d ++ 47 :: r) d = some r := by
 unfold under
 rw [if_pos (by rw [List.isPrefixOf_iff_prefix]; exact ⟨r, by simp⟩)]
 simp
end Go.Nest
end
/- part -/
section

namespace Go.Nest
open Go Go.AM
def fi0 : Fi := ⟨[], 0, 0, 0⟩
def fileAtP (l : List Fi) (p : List UInt8) : Fi × Bool := match l.find? fun f => decide (f.path = p) with
 | some f => (f, true)
 | none => (fi0, false)
def atP (l : List Fi) (p : List UInt8) : Fi := (fileAtP l p).1
def Ris {α : Type} (k : α → List UInt8) (l : List α) : Prop := l.Pairwise fun x y => lessP (k x) (k y) = true
theorem less_ne {a b : List UInt8} (h : lessP a b = true) : a ≠ b := fun e => by rw [e, lessP_irrefl] at h; cases h
theorem ris_ext {α : Type} {k : α → List UInt8} : ∀ {l m : List α}, Ris k l → Ris k m → (∀ x, x ∈ l ↔ x ∈ m) → l = m
 | [], [], _, _, _ => rfl
 | [], y :: m, _, _, h => by have := (h y).2 (by simp); cases this
 | x :: l, [], _, _, h => by have := (h x).1 (by simp); cases this
 | x :: l, y :: m, hl, hm, h => by
  obtain ⟨h1, h2⟩ := List.pairwise_cons.1 hl
  obtain ⟨h3, h4⟩ := List.pairwise_cons.1 hm
  have e : x = y := by
   rcases List.mem_cons.1 ((h x).1 (by simp)) with e | hx
   ·exact e
   rcases List.mem_cons.1 ((h y).2 (by simp)) with e | hy
   ·exact e.symm
   have := lessP_asymm (h1 y hy)
   rw [h3 x hx] at this; cases this
  subst e
  congr 1
  refine ris_ext h2 h4 fun z => ⟨fun hz => ?_, fun hz => ?_⟩
  ·rcases List.mem_cons.1 ((h z).1 (by simp [hz])) with rfl | h5
   ·exact absurd rfl (less_ne (h1 _ hz))
   ·exact h5
  ·rcases List.mem_cons.1 ((h z).2 (by simp [hz])) with rfl | h5
   ·exact absurd rfl (less_ne (h3 _ hz))
   ·exact h5
theorem atP_cons {x : Fi} {l : List Fi} {p : List UInt8} : atP (x :: l) p = if x.path = p then x else atP l p := by
 unfold atP fileAtP
 rw [List.find?_cons]
 by_cases h : x.path = p <;> simp [h]
theorem atP_none : ∀ {l : List Fi} {p : List UInt8}, (∀ f ∈ l, f.path ≠ p) → atP l p = fi0
 | [], _, _ => rfl
 | x :: l, p, h => by rw [atP_cons, if_neg (h x (by simp)), atP_none fun f hf => h f (by simp [hf])]
theorem atP_mem : ∀ {l : List Fi} {p : List UInt8}, (∃ f ∈ l, f.path = p) → atP l p ∈ l ∧ (atP l p).path = p
 | [], _, ⟨f, h, _⟩ => by cases h
 | x :: l, p, ⟨f, h, e⟩ => by
  rw [atP_cons]
  split
  ·exact ⟨by simp, by assumption⟩
  ·rcases List.mem_cons.1 h with rfl | h
   ·contradiction
   ·obtain ⟨h1, h2⟩ := atP_mem ⟨f, h, e⟩; exact ⟨by simp [h1], h2⟩
theorem atP_or (l : List Fi) (p : List UInt8) : (atP l p = fi0 ∧ ∀ f ∈ l, f.path ≠ p) ∨ (atP l p ∈ l ∧ (atP l p).path = p) := by
 by_cases h : ∃ f ∈ l, f.path = p
 ·exact .inr (atP_mem h)
 ·have h : ∀ f ∈ l, f.path ≠ p := fun f hf e => h ⟨f, hf, e⟩
  exact .inl ⟨atP_none h, h⟩
structure Files (l : List Fi) : Prop where
 ris : Ris (·.path) l
 md : ∀ f ∈ l, f.mode ≠ 0
theorem Files.tail {x : Fi} {l : List Fi} (h : Files (x :: l)) : Files l := ⟨(List.pairwise_cons.1 h.ris).2, fun f hf => h.md f (by simp [hf])⟩
theorem Files.head {x : Fi} {l : List Fi} (h : Files (x :: l)) : ∀ f ∈ l, lessP x.path f.path = true := (List.pairwise_cons.1 h.ris).1
theorem Files.ne {l : List Fi} (h : Files l) {f : Fi} (hf : f ∈ l) : f ≠ fi0 := fun e => h.md f hf (by rw [e]; rfl)
def Ky (a b : List Fi) (p : List UInt8) : Prop := (∃ f ∈ a, f.path = p) ∨ ∃ f ∈ b, f.path = p
structure Told (a b : List Fi) (c : Ch) : Prop where
 key : Ky a b c.path
 old : c.old = atP a c.path
 new : c.new = atP b c.path
 ne : c.old ≠ c.new
theorem Told.fst {a : Fi} {ar b : List Fi} {c : Ch} (ha : Files (a :: ar)) (hb : ∀ f ∈ b, lessP a.path f.path = true) : Told (a :: ar) b c ↔ c = ⟨a.path, a, fi0⟩ ∨ Told ar b c := by
 have hab : atP b a.path = fi0 := atP_none fun f hf e => less_ne (hb f hf) e.symm
 constructor
 ·rintro ⟨h1, h2, h3, h4⟩
  by_cases e : a.path = c.path
  ·left
   rw [atP_cons, if_pos e] at h2
   rw [← e, hab] at h3
   obtain ⟨p, o, n⟩ := c
   simp only at e h2 h3
   rw [e, h2, h3]
  ·right
   rw [atP_cons, if_neg e] at h2
   refine ⟨?_, h2, h3, h4⟩
   rcases h1 with ⟨f, hf, h⟩ | h
   ·rcases List.mem_cons.1 hf with rfl | hf
    ·exact absurd h e
    ·exact .inl ⟨f, hf, h⟩
   ·exact .inr h
 ·rintro (rfl | ⟨h1, h2, h3, h4⟩)
  ·exact ⟨.inl ⟨a, by simp, rfl⟩, by simp [atP_cons], hab.symm, ha.ne (by simp)⟩
  ·have e : a.path ≠ c.path := fun e => by
    rcases h1 with ⟨f, hf, h⟩ | ⟨f, hf, h⟩
    ·exact less_ne (ha.head f hf) (e.trans h.symm)
    ·exact less_ne (hb f hf) (e.trans h.symm)
   refine ⟨?_, by rw [atP_cons, if_neg e]; exact h2, h3, h4⟩
   rcases h1 with ⟨f, hf, h⟩ | h
   ·exact .inl ⟨f, by simp [hf], h⟩
   ·exact .inr h
theorem Told.both {a b : Fi} {ar bs : List Fi} {c : Ch} (ha : Files (a :: ar)) (hb : Files (b :: bs)) (e0 : a.path = b.path) : Told (a :: ar) (b :: bs) c ↔ (a ≠ b ∧ c = ⟨a.path, a, b⟩) ∨ Told ar bs c := by
 constructor
 ·rintro ⟨h1, h2, h3, h4⟩
  by_cases e : a.path = c.path
  ·left
   rw [atP_cons, if_pos e] at h2
   rw [atP_cons, if_pos (e0 ▸ e)] at h3
   obtain ⟨p, o, n⟩ := c
   simp only at e h2 h3 h4
   subst h2; subst h3; subst e
   exact ⟨h4, rfl⟩
  ·right
   rw [atP_cons, if_neg e] at h2
   rw [atP_cons, if_neg (e0 ▸ e)] at h3
   refine ⟨?_, h2, h3, h4⟩
   rcases h1 with ⟨f, hf, h⟩ | ⟨f, hf, h⟩
   ·rcases List.mem_cons.1 hf with rfl | hf
    ·exact absurd h e
    ·exact .inl ⟨f, hf, h⟩
   ·rcases List.mem_cons.1 hf with rfl | hf
    ·exact absurd (e0.trans h) e
    ·exact .inr ⟨f, hf, h⟩
 ·rintro (⟨hne, rfl⟩ | ⟨h1, h2, h3, h4⟩)
  ·exact ⟨.inl ⟨a, by simp, rfl⟩, by simp [atP_cons], by simp [atP_cons, e0], hne⟩
  ·have e : a.path ≠ c.path := fun e => by
    rcases h1 with ⟨f, hf, h⟩ | ⟨f, hf, h⟩
    ·exact less_ne (ha.head f hf) (e.trans h.symm)
    ·exact less_ne (hb.head f hf) (e0.symm.trans (e.trans h.symm))
   refine ⟨?_, by rw [atP_cons, if_neg e]; exact h2, by rw [atP_cons, if_neg (e0 ▸ e)]; exact h3, h4⟩
   rcases h1 with ⟨f, hf, h⟩ | ⟨f, hf, h⟩
   ·exact .inl ⟨f, by simp [hf], h⟩
   ·exact .inr ⟨f, by simp [hf], h⟩
def insF (f : Fi) (out : List Fi) : List Fi := out.takeWhile (fun g => !lessP f.path g.path) ++ f :: out.dropWhile (fun g => !lessP f.path g.path)
def inOrdP (l : List Fi) : List Fi := l.foldl (fun out f => insF f out) []
def Wk (l : List Fi) : Prop := l.Pairwise fun x y => lessP y.path x.path = false
theorem insF_perm (f : Fi) (out : List Fi) : (insF f out).Perm (f :: out) := by
 unfold insF
 refine List.perm_middle.trans (.cons f ?_)
 rw [List.takeWhile_append_dropWhile]
theorem insF_wk {f : Fi} : ∀ {out : List Fi}, Wk out → Wk (insF f out)
 | [], _ => by simp [insF, Wk]
 | g :: out, h => by
  obtain ⟨h1, h2⟩ := List.pairwise_cons.1 h
  by_cases hg : lessP f.path g.path = true
  ·have : insF f (g :: out) = f :: g :: out := by simp [insF, hg]
   rw [this]
   refine List.pairwise_cons.2 ⟨fun y hy => ?_, h⟩
   rcases List.mem_cons.1 hy with rfl | hy
   ·exact lessP_asymm hg
   ·have h3 := h1 y hy
    rcases lessP_tri g.path y.path with h4 | h4 | h4
    ·exact lessP_asymm (lessP_trans hg h4)
    ·rw [← h4]; exact lessP_asymm hg
    ·rw [h4] at h3; cases h3
  ·rw [Bool.not_eq_true] at hg
   have : insF f (g :: out) = g :: insF f out := by simp [insF, hg]
   rw [this]
   refine List.pairwise_cons.2 ⟨fun y hy => ?_, insF_wk h2⟩
   rcases List.mem_cons.1 ((insF_perm f out).mem_iff.1 hy) with rfl | hy
   ·exact hg
   ·exact h1 y hy
theorem inOrd_gen : ∀ (l out : List Fi), Wk out → Wk (l.foldl (fun out f => insF f out) out) ∧ (l.foldl (fun out f => insF f out) out).Perm (l ++ out)
 | [], out, h => ⟨h, .refl _⟩
 | f :: l, out, h => by
  obtain ⟨h1, h2⟩ := inOrd_gen l (insF f out) (insF_wk h)
  refine ⟨h1, h2.trans ?_⟩
  exact ((insF_perm f out).append_left l).trans List.perm_middle
theorem inOrd_wk (l : List Fi) : Wk (inOrdP l) := (inOrd_gen l [] .nil).1
theorem inOrd_perm (l : List Fi) : (inOrdP l).Perm l := by have := (inOrd_gen l [] .nil).2; rwa [List.append_nil] at this
def ddP : Option (List UInt8) → List Fi → List (List UInt8)
 | _, [] => []
 | prev, f :: r => if prev = some f.path then ddP (some f.path) r else f.path :: ddP (some f.path) r
theorem dd_gen : ∀ {l : List Fi} {p : List UInt8}, Wk l → (∀ f ∈ l, lessP f.path p = false) → Ris id (ddP (some p) l) ∧ ∀ q, q ∈ ddP (some p) l ↔ q ≠ p ∧ ∃ f ∈ l, f.path = q
 | [], p, _, _ => ⟨.nil, fun q => ⟨fun h => (by cases h), fun ⟨_, f, hf, _⟩ => by cases hf⟩⟩
 | f :: r, p, h, hp => by
  obtain ⟨h1, h2⟩ := List.pairwise_cons.1 h
  obtain ⟨h3, h4⟩ := dd_gen (p := f.path) h2 h1
  have hf := hp f (by simp)
  unfold ddP
  split
  ·rename_i e
   have e : p = f.path := by simpa using e
   refine ⟨h3, fun q => ?_⟩
   rw [h4, e]
   refine and_congr_right fun hq => ⟨fun ⟨g, hg, h7⟩ => ⟨g, by simp [hg], h7⟩, fun ⟨g, hg, h7⟩ => ?_⟩
   rcases List.mem_cons.1 hg with e7 | hg
   ·rw [e7] at h7; exact absurd h7.symm hq
   ·exact ⟨g, hg, h7⟩
  ·rename_i e
   have e : p ≠ f.path := by simpa using e
   have hpf : lessP p f.path = true := by
    rcases lessP_tri p f.path with h | h | h
    ·exact h
    ·exact absurd h e
    ·rw [h] at hf; cases hf
   have gt : ∀ g ∈ r, lessP p g.path = true := fun g hg => by
    have := h1 g hg
    rcases lessP_tri f.path g.path with h | h | h
    ·exact lessP_trans hpf h
    ·rw [← h]; exact hpf
    ·rw [h] at this; cases this
   refine ⟨List.pairwise_cons.2 ⟨fun q hq => ?_, h3⟩, fun q => ?_⟩
   ·obtain ⟨h5, g, hg, rfl⟩ := (h4 q).1 hq
    have := h1 g hg
    rcases lessP_tri f.path g.path with h | h | h
    ·exact h
    ·exact absurd h.symm h5
    ·rw [h] at this; cases this
   ·rw [List.mem_cons, h4]
    constructor
    ·rintro (rfl | ⟨h5, g, hg, rfl⟩)
     ·exact ⟨Ne.symm e, f, by simp, rfl⟩
     ·exact ⟨Ne.symm (less_ne (gt g hg)), g, by simp [hg], rfl⟩
    ·rintro ⟨h5, g, hg, rfl⟩
     rcases List.mem_cons.1 hg with rfl | hg
     ·exact .inl rfl
     ·by_cases e2 : g.path = f.path
      ·exact .inl e2
      ·exact .inr ⟨e2, g, hg, rfl⟩
theorem dd_spec {l : List Fi} (h : Wk l) : Ris id (ddP none l) ∧ ∀ q, q ∈ ddP none l ↔ ∃ f ∈ l, f.path = q := by
 cases l with
 | nil => exact ⟨.nil, fun q => ⟨fun h => (by cases h), fun ⟨f, hf, _⟩ => by cases hf⟩⟩
 | cons f r =>
  obtain ⟨h1, h2⟩ := List.pairwise_cons.1 h
  obtain ⟨h3, h4⟩ := dd_gen (p := f.path) h2 h1
  have : ddP none (f :: r) = f.path :: ddP (some f.path) r := by rw [ddP, if_neg (by simp)]
  rw [this]
  refine ⟨List.pairwise_cons.2 ⟨fun q hq => ?_, h3⟩, fun q => ?_⟩
  ·obtain ⟨h5, g, hg, rfl⟩ := (h4 q).1 hq
   have := h1 g hg
   rcases lessP_tri f.path g.path with h | h | h
   ·exact h
   ·exact absurd h.symm h5
   ·rw [h] at this; cases this
  ·rw [List.mem_cons, h4]
   constructor
   ·rintro (rfl | ⟨h5, g, hg, rfl⟩)
    ·exact ⟨f, by simp, rfl⟩
    ·exact ⟨g, by simp [hg], rfl⟩
   ·rintro ⟨g, hg, rfl⟩
    rcases List.mem_cons.1 hg with rfl | hg
    ·exact .inl rfl
    ·by_cases e2 : g.path = f.path
     ·exact .inl e2
     ·exact .inr ⟨e2, g, hg, rfl⟩
def pathsP (l : List (List Fi)) : List (List UInt8) := ddP none (inOrdP l.flatten)
end Go.Nest
end
/- part -/
section

namespace Go.Nest
open Go Go.AM
def atK (p : List UInt8) (l : List Fi) : List Fi := l.filter fun f => decide (f.path = p)
theorem atK_app (p : List UInt8) (a b : List Fi) : atK p (a ++ b) = atK p a ++ atK p b := List.filter_append ..
theorem atK_nil {p : List UInt8} {l : List Fi} (h : ∀ f ∈ l, f.path ≠ p) : atK p l = [] := by
 unfold atK
 rw [List.filter_eq_nil_iff]
 intro f hf
 simpa using h f hf
def Stb (a b : List Fi) : Prop := ∀ p, atK p a = atK p b
theorem Stb.refl (a : List Fi) : Stb a a := fun _ => rfl
theorem Stb.symm {a b : List Fi} (h : Stb a b) : Stb b a := fun p => (h p).symm
theorem Stb.trans {a b c : List Fi} (h : Stb a b) (g : Stb b c) : Stb a c := fun p => (h p).trans (g p)
theorem Stb.app {a b c d : List Fi} (h : Stb a b) (g : Stb c d) : Stb (a ++ c) (b ++ d) := fun p => by rw [atK_app, atK_app, h p, g p]
theorem Stb.mem {a b : List Fi} (h : Stb a b) {f : Fi} (hf : f ∈ a) : f ∈ b := by
 have : f ∈ atK f.path a := List.mem_filter.2 ⟨hf, by simp⟩
 rw [h] at this
 exact (List.mem_filter.1 this).1
theorem Stb.swap {a b : List Fi} (h : ∀ x ∈ a, ∀ y ∈ b, x.path ≠ y.path) : Stb (a ++ b) (b ++ a) := fun p => by
 rw [atK_app, atK_app]
 by_cases ha : ∃ x ∈ a, x.path = p
 ·obtain ⟨x, hx, e⟩ := ha
  rw [atK_nil (l := b) fun y hy e2 => h x hx y hy (e.trans e2.symm)]; simp
 ·rw [atK_nil (l := a) fun x hx e => ha ⟨x, hx, e⟩]; simp
theorem le_trans' {x y z : List UInt8} (h1 : lessP y x = false) (h2 : lessP z y = false) : lessP z x = false := by
 cases h : lessP z x with
 | false => rfl
 | true =>
  rcases lessP_tri y z with h3 | h3 | h3
  ·have := lessP_trans h3 h; rw [h1] at this; cases this
  ·rw [← h3, h1] at h; cases h
  ·rw [h2] at h3; cases h3
end Go.Nest
end
