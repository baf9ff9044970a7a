/- part -/
import Derived.Test.YtpechfcbnoggfaaGreatDoorL0
import Derived.Lib.Bytealg
import Derived.Test.YtpechfcbnoggfaaGreatDoorAmG
set_option linter.unusedVariables false
set_option linter.unusedSimpArgs false
section

namespace Go.Nest
open Go Go.AM
theorem bl_irrefl : ∀ {a : List UInt8}, Op.bytesLess a a = false
 | [] => rfl
 | x :: a => by simp [Op.bytesLess, bl_irrefl (a := a)]
theorem bl_trans : ∀ {a b c : List UInt8}, Op.bytesLess a b = true → Op.bytesLess b c = true → Op.bytesLess a c = true
 | _, _, [], _, h => by cases ‹List UInt8› <;> simp [Op.bytesLess] at h
 | _, [], _ :: _, h, _ => by simp [Op.bytesLess] at h
 | [], _ :: _, _ :: _, _, _ => rfl
 | x :: a, y :: b, z :: c, h1, h2 => by
  simp only [Op.bytesLess, Bool.or_eq_true, Bool.and_eq_true, decide_eq_true_iff, beq_iff_eq] at h1 h2 ⊢
  rcases h1 with h1 | ⟨rfl, h1⟩
  ·rcases h2 with h2 | ⟨rfl, h2⟩
   ·exact .inl (UInt8.lt_trans h1 h2)
   ·exact .inl h1
  ·rcases h2 with h2 | ⟨rfl, h2⟩
   ·exact .inl h2
   ·exact .inr ⟨rfl, bl_trans h1 h2⟩
theorem bl_tri : ∀ (a b : List UInt8), Op.bytesLess a b = true ∨ a = b ∨ Op.bytesLess b a = true
 | [], [] => .inr (.inl rfl)
 | [], _ :: _ => .inl rfl
 | _ :: _, [] => .inr (.inr rfl)
 | x :: a, y :: b => by
  simp only [Op.bytesLess, Bool.or_eq_true, Bool.and_eq_true, decide_eq_true_iff, beq_iff_eq, List.cons.injEq]
  rcases Nat.lt_trichotomy x.toNat y.toNat with h | h | h
  ·exact .inl (.inl (UInt8.lt_iff_toNat_lt.2 h))
  ·have : x = y := UInt8.toNat_inj.1 h
   subst this
   rcases bl_tri a b with h | h | h
   ·exact .inl (.inr ⟨rfl, h⟩)
   ·exact .inr (.inl ⟨rfl, h⟩)
   ·exact .inr (.inr (.inr ⟨rfl, h⟩))
  ·exact .inr (.inr (.inl (UInt8.lt_iff_toNat_lt.2 h)))
theorem bl_asymm {a b : List UInt8} (h : Op.bytesLess a b = true) : Op.bytesLess b a = false := by
 cases h2 : Op.bytesLess b a with
 | false => rfl
 | true => have := bl_trans h h2; rw [bl_irrefl] at this; cases this
def spl : List UInt8 → List (List UInt8)
 | [] => [[]]
 | c :: r => if c = 47 then [] :: spl r else match spl r with
  | x :: xs => (c :: x) :: xs
  | [] => [[c]]
theorem spl_ne : ∀ l : List UInt8, spl l ≠ []
 | [] => by simp [spl]
 | c :: r => by
  unfold spl
  split
  ·simp
  ·split <;> simp
theorem spl_pos (l : List UInt8) : 0 < (spl l).length := List.length_pos_iff.2 (spl_ne l)
theorem spl_len : ∀ l : List UInt8, (spl l).length = l.count 47 + 1
 | [] => rfl
 | c :: r => by
  have h := spl_len r
  unfold spl
  rw [List.count_cons]
  split
  ·rename_i e; subst e; simp [h]
  ·rename_i e
   have : (c == 47) = false := by simpa using e
   rw [this]
   split
   ·rename_i x xs hx; rw [hx] at h; simpa using h
   ·rename_i hx; exact absurd hx (spl_ne r)
theorem spl_none : ∀ {l : List UInt8}, l.count 47 = 0 → spl l = [l]
 | [], _ => rfl
 | c :: r, h => by
  rw [List.count_cons] at h
  have hr := spl_none (l := r) (by omega)
  unfold spl
  rw [if_neg (fun e => by subst e; simp at h), hr]
theorem idx_stroke : ∀ {l : List UInt8}, 0 < l.count 47 → ∃ m : Nat, Lib.indexByte l 47 = m ∧ m < l.length ∧ spl l = l.take m :: spl (l.drop (m + 1)) ∧ (l.drop (m + 1)).count 47 + 1 = l.count 47
 | [], h => by simp at h
 | c :: r, h => by
  by_cases e : c = 47
  ·subst e
   exact ⟨0, by simp [Lib.indexByte], by simp, by simp [spl], by simp⟩
  ·rw [List.count_cons] at h
   have hc : (c == 47) = false := by simpa using e
   rw [hc] at h
   obtain ⟨m, h1, h2, h3, h4⟩ := idx_stroke (l := r) (by simpa using h)
   refine ⟨m + 1, ?_, by simp; omega, ?_, ?_⟩
   ·unfold Lib.indexByte
    rw [hc, h1]
    have : ((m : Int) == -1) = false := by simp
    simp [this]
   ·conv => lhs; unfold spl
    rw [if_neg e, h3]; simp
   ·rw [List.drop_succ_cons, h4, List.count_cons, hc]; rfl
theorem idx_none : ∀ {l : List UInt8}, l.count 47 = 0 → Lib.indexByte l 47 = -1
 | [], _ => rfl
 | c :: r, h => by
  rw [List.count_cons] at h
  unfold Lib.indexByte
  rw [idx_none (l := r) (by omega)]
  have : (c == 47) = false := by
   cases hc : c == 47 with
   | false => rfl
   | true => rw [hc] at h; simp at h
  rw [this]; rfl
theorem spl_append : ∀ (a b : List UInt8), spl (a ++ 47 :: b) = spl a ++ spl b
 | [], b => by simp [spl]
 | c :: a, b => by
  have h := spl_append a b
  have e : ∀ r, spl (c :: r) = if c = 47 then [] :: spl r else match spl r with | x :: xs => (c :: x) :: xs | [] => [[c]] := fun _ => rfl
  rw [List.cons_append, e, e, h]
  split
  ·rfl
  ·cases ha : spl a with
   | nil => exact absurd ha (spl_ne a)
   | cons x xs => rfl
def unsp : List (List UInt8) → List UInt8
 | [] => []
 | [x] => x
 | x :: y :: r => x ++ 47 :: unsp (y :: r)
theorem unsp_spl : ∀ l : List UInt8, unsp (spl l) = l
 | [] => rfl
 | c :: r => by
  have h := unsp_spl r
  unfold spl
  split
  ·rename_i e; subst e
   cases hr : spl r with
   | nil => exact absurd hr (spl_ne r)
   | cons x xs => rw [hr] at h; simp [unsp, h]
  ·cases hr : spl r with
   | nil => exact absurd hr (spl_ne r)
   | cons x xs =>
    rw [hr] at h
    cases xs with
    | nil => simp [unsp] at h ⊢; exact h
    | cons y ys => simp [unsp] at h ⊢; exact h
theorem spl_inj {a b : List UInt8} (h : spl a = spl b) : a = b := by rw [← unsp_spl a, h, unsp_spl]
def lessL : List (List UInt8) → List (List UInt8) → Bool
 | [], [] => false
 | [], _ :: _ => true
 | _ :: _, [] => false
 | x :: r, y :: q => if x = y then lessL r q else Op.bytesLess x y
def lessP (a b : List UInt8) : Bool := lessL (spl a) (spl b)
theorem lessL_irrefl : ∀ {x : List (List UInt8)}, lessL x x = false
 | [] => rfl
 | x :: r => by simp [lessL, lessL_irrefl (x := r)]
theorem lessL_trans : ∀ {a b c : List (List UInt8)}, lessL a b = true → lessL b c = true → lessL a c = true
 | [], [], _, h, _ => by simp [lessL] at h
 | [], _ :: _, [], _, h => by simp [lessL] at h
 | [], _ :: _, _ :: _, _, _ => rfl
 | _ :: _, [], _, h, _ => by simp [lessL] at h
 | _ :: _, _ :: _, [], _, h => by simp [lessL] at h
 | x :: a, y :: b, z :: c, h1, h2 => by
  unfold lessL at h1 h2 ⊢
  split at h1
  ·rename_i e; subst e
   split at h2
   ·rename_i e; subst e; rw [if_pos rfl]; exact lessL_trans h1 h2
   ·rename_i e; rw [if_neg e]; exact h2
  ·rename_i e
   split at h2
   ·rename_i e2; subst e2; rw [if_neg e]; exact h1
   ·have := bl_trans h1 h2
    rw [if_neg (fun e3 => by subst e3; rw [bl_irrefl] at this; cases this)]; exact this
theorem lessL_tri : ∀ (a b : List (List UInt8)), lessL a b = true ∨ a = b ∨ lessL b a = true
 | [], [] => .inr (.inl rfl)
 | [], _ :: _ => .inl rfl
 | _ :: _, [] => .inr (.inr rfl)
 | x :: a, y :: b => by
  by_cases e : x = y
  ·subst e
   rcases lessL_tri a b with h | h | h
   ·exact .inl (by simp [lessL, h])
   ·exact .inr (.inl (by rw [h]))
   ·exact .inr (.inr (by simp [lessL, h]))
  ·rcases bl_tri x y with h | h | h
   ·exact .inl (by simp [lessL, e, h])
   ·exact absurd h e
   ·exact .inr (.inr (by simp [lessL, Ne.symm e, h]))
theorem lessP_irrefl {a : List UInt8} : lessP a a = false := lessL_irrefl
theorem lessP_trans {a b c : List UInt8} (h1 : lessP a b = true) (h2 : lessP b c = true) : lessP a c = true := lessL_trans h1 h2
theorem lessP_asymm {a b : List UInt8} (h : lessP a b = true) : lessP b a = false := by
 cases h2 : lessP b a with
 | false => rfl
 | true => have := lessP_trans h h2; rw [lessP_irrefl] at this; cases this
theorem lessP_tri (a b : List UInt8) : lessP a b = true ∨ a = b ∨ lessP b a = true :=
 (lessL_tri (spl a) (spl b)).imp id (Or.imp spl_inj id)
def under (p d : List UInt8) : Option (List UInt8) := if (d ++ [47]).isPrefixOf p = true then some (p.drop (d.length + 1)) else none
theorem under_eq {p d r : List UInt8} (h : under p d = some r) : p = d ++ 47 :: r := by
 unfold under at h
 split at h
 ·rename_i h1
  cases h
  rw [List.isPrefixOf_iff_prefix] at h1
  obtain ⟨t, rfl⟩ := h1
  simp
 ·cases h
theorem under_of {d r : List UInt8} : under (d ++ 47 :: r) d = some r := by
 unfold under
 rw [if_pos (by rw [List.isPrefixOf_iff_prefix]; exact ⟨r, by simp⟩)]
 simp
end Go.Nest
end
/- part -/
section

namespace Go.Nest
open Go Go.AM
def fi0 : Fi := ⟨[], 0, 0, 0⟩
def fileAtP (l : List Fi) (p : List UInt8) : Fi × Bool := match l.find? fun f => decide (f.path = p) with
 | some f => (f, true)
 | none => (fi0, false)
def atP (l : List Fi) (p : List UInt8) : Fi := (fileAtP l p).1
def Ris {α : Type} (k : α → List UInt8) (l : List α) : Prop := l.Pairwise fun x y => lessP (k x) (k y) = true
theorem less_ne {a b : List UInt8} (h : lessP a b = true) : a ≠ b := fun e => by rw [e, lessP_irrefl] at h; cases h
theorem atP_cons {x : Fi} {l : List Fi} {p : List UInt8} : atP (x :: l) p = if x.path = p then x else atP l p := by
 unfold atP fileAtP
 rw [List.find?_cons]
 by_cases h : x.path = p <;> simp [h]
def diffP : List Fi → List Fi → List Ch
 | [], [] => []
 | a :: ar, [] => ⟨a.path, a, fi0⟩ :: diffP ar []
 | [], b :: bs => ⟨b.path, fi0, b⟩ :: diffP [] bs
 | a :: ar, b :: bs => if lessP a.path b.path = true then ⟨a.path, a, fi0⟩ :: diffP ar (b :: bs) else if lessP b.path a.path = true then ⟨b.path, fi0, b⟩ :: diffP (a :: ar) bs
  else if a ≠ b then ⟨a.path, a, b⟩ :: diffP ar bs else diffP ar bs
termination_by a b => a.length + b.length
structure Files (l : List Fi) : Prop where
 ris : Ris (·.path) l
 md : ∀ f ∈ l, f.mode ≠ 0
theorem Files.tail {x : Fi} {l : List Fi} (h : Files (x :: l)) : Files l := ⟨(List.pairwise_cons.1 h.ris).2, fun f hf => h.md f (by simp [hf])⟩
theorem Files.head {x : Fi} {l : List Fi} (h : Files (x :: l)) : ∀ f ∈ l, lessP x.path f.path = true := (List.pairwise_cons.1 h.ris).1
theorem Files.ne {l : List Fi} (h : Files l) {f : Fi} (hf : f ∈ l) : f ≠ fi0 := fun e => h.md f hf (by rw [e]; rfl)
def Ky (a b : List Fi) (p : List UInt8) : Prop := (∃ f ∈ a, f.path = p) ∨ ∃ f ∈ b, f.path = p
structure Told (a b : List Fi) (c : Ch) : Prop where
 key : Ky a b c.path
 old : c.old = atP a c.path
 new : c.new = atP b c.path
 ne : c.old ≠ c.new
theorem Told.both {a b : Fi} {ar bs : List Fi} {c : Ch} (ha : Files (a :: ar)) (hb : Files (b :: bs)) (e0 : a.path = b.path) : Told (a :: ar) (b :: bs) c ↔ (a ≠ b ∧ c = ⟨a.path, a, b⟩) ∨ Told ar bs c := by
 constructor
 ·rintro ⟨h1, h2, h3, h4⟩
  by_cases e : a.path = c.path
  ·left
   rw [atP_cons, if_pos e] at h2
   rw [atP_cons, if_pos (e0 ▸ e)] at h3
   obtain ⟨p, o, n⟩ := c
   simp only at e h2 h3 h4
   subst h2; subst h3; subst e
   exact ⟨h4, rfl⟩
  ·right
   rw [atP_cons, if_neg e] at h2
   rw [atP_cons, if_neg (e0 ▸ e)] at h3
   refine ⟨?_, h2, h3, h4⟩
   rcases h1 with ⟨f, hf, h⟩ | ⟨f, hf, h⟩
   ·rcases List.mem_cons.1 hf with rfl | hf
    ·exact absurd h e
    ·exact .inl ⟨f, hf, h⟩
   ·rcases List.mem_cons.1 hf with rfl | hf
    ·exact absurd (e0.trans h) e
    ·exact .inr ⟨f, hf, h⟩
 ·rintro (⟨hne, rfl⟩ | ⟨h1, h2, h3, h4⟩)
  ·exact ⟨.inl ⟨a, by simp, rfl⟩, by simp [atP_cons], by simp [atP_cons, e0], hne⟩
  ·have e : a.path ≠ c.path := fun e => by
    rcases h1 with ⟨f, hf, h⟩ | ⟨f, hf, h⟩
    ·exact less_ne (ha.head f hf) (e.trans h.symm)
    ·exact less_ne (hb.head f hf) (e0.symm.trans (e.trans h.symm))
   refine ⟨?_, by rw [atP_cons, if_neg e]; exact h2, by rw [atP_cons, if_neg (e0 ▸ e)]; exact h3, h4⟩
   rcases h1 with ⟨f, hf, h⟩ | ⟨f, hf, h⟩
   ·exact .inl ⟨f, by simp [hf], h⟩
   ·exact .inr ⟨f, by simp [hf], h⟩
def insF (f : Fi) (out : List Fi) : List Fi := out.takeWhile (fun g => !lessP f.path g.path) ++ f :: out.dropWhile (fun g => !lessP f.path g.path)
def inOrdP (l : List Fi) : List Fi := l.foldl (fun out f => insF f out) []
def Wk (l : List Fi) : Prop := l.Pairwise fun x y => lessP y.path x.path = false
theorem insF_perm (f : Fi) (out : List Fi) : (insF f out).Perm (f :: out) := by
 unfold insF
 refine List.perm_middle.trans (.cons f ?_)
 rw [List.takeWhile_append_dropWhile]
theorem insF_wk {f : Fi} : ∀ {out : List Fi}, Wk out → Wk (insF f out)
 | [], _ => by simp [insF, Wk]
 | g :: out, h => by
  obtain ⟨h1, h2⟩ := List.pairwise_cons.1 h
  by_cases hg : lessP f.path g.path = true
  ·have : insF f (g :: out) = f :: g :: out := by simp [insF, hg]
   rw [this]
   refine List.pairwise_cons.2 ⟨fun y hy => ?_, h⟩
   rcases List.mem_cons.1 hy with rfl | hy
   ·exact lessP_asymm hg
   ·have h3 := h1 y hy
    rcases lessP_tri g.path y.path with h4 | h4 | h4
    ·exact lessP_asymm (lessP_trans hg h4)
    ·rw [← h4]; exact lessP_asymm hg
    ·rw [h4] at h3; cases h3
  ·rw [Bool.not_eq_true] at hg
   have : insF f (g :: out) = g :: insF f out := by simp [insF, hg]
   rw [this]
   refine List.pairwise_cons.2 ⟨fun y hy => ?_, insF_wk h2⟩
   rcases List.mem_cons.1 ((insF_perm f out).mem_iff.1 hy) with rfl | hy
   ·exact hg
   ·exact h1 y hy
theorem inOrd_gen : ∀ (l out : List Fi), Wk out → Wk (l.foldl (fun out f => insF f out) out) ∧ (l.foldl (fun out f => insF f out) out).Perm (l ++ out)
 | [], out, h => ⟨h, .refl _⟩
 | f :: l, out, h => by
  obtain ⟨h1, h2⟩ := inOrd_gen l (insF f out) (insF_wk h)
  refine ⟨h1, h2.trans ?_⟩
  exact ((insF_perm f out).append_left l).trans List.perm_middle
theorem inOrd_wk (l : List Fi) : Wk (inOrdP l) := (inOrd_gen l [] .nil).1
theorem inOrd_perm (l : List Fi) : (inOrdP l).Perm l := by have := (inOrd_gen l [] .nil).2; rwa [List.append_nil] at this
end Go.Nest
end
/- part -/
section

namespace Go.Nest
open Go Go.AM
def atK (p : List UInt8) (l : List Fi) : List Fi := l.filter fun f => decide (f.path = p)
theorem atK_app (p : List UInt8) (a b : List Fi) : atK p (a ++ b) = atK p a ++ atK p b := List.filter_append ..
theorem atK_cons (p : List UInt8) (f : Fi) (l : List Fi) : atK p (f :: l) = (if f.path = p then [f] else []) ++ atK p l := by
 unfold atK
 rw [List.filter_cons]
 by_cases h : f.path = p <;> simp [h]
theorem atK_nil {p : List UInt8} {l : List Fi} (h : ∀ f ∈ l, f.path ≠ p) : atK p l = [] := by
 unfold atK
 rw [List.filter_eq_nil_iff]
 intro f hf
 simpa using h f hf
def Stb (a b : List Fi) : Prop := ∀ p, atK p a = atK p b
theorem Stb.refl (a : List Fi) : Stb a a := fun _ => rfl
theorem Stb.symm {a b : List Fi} (h : Stb a b) : Stb b a := fun p => (h p).symm
theorem Stb.trans {a b c : List Fi} (h : Stb a b) (g : Stb b c) : Stb a c := fun p => (h p).trans (g p)
theorem Stb.app {a b c d : List Fi} (h : Stb a b) (g : Stb c d) : Stb (a ++ c) (b ++ d) := fun p => by rw [atK_app, atK_app, h p, g p]
theorem Stb.mem {a b : List Fi} (h : Stb a b) {f : Fi} (hf : f ∈ a) : f ∈ b := by
 have : f ∈ atK f.path a := List.mem_filter.2 ⟨hf, by simp⟩
 rw [h] at this
 exact (List.mem_filter.1 this).1
theorem Stb.swap {a b : List Fi} (h : ∀ x ∈ a, ∀ y ∈ b, x.path ≠ y.path) : Stb (a ++ b) (b ++ a) := fun p => by
 rw [atK_app, atK_app]
 by_cases ha : ∃ x ∈ a, x.path = p
 ·obtain ⟨x, hx, e⟩ := ha
  rw [atK_nil (l := b) fun y hy e2 => h x hx y hy (e.trans e2.symm)]; simp
 ·rw [atK_nil (l := a) fun x hx e => ha ⟨x, hx, e⟩]; simp
theorem wk_mem {x : Fi} {l : List Fi} (h : Wk (x :: l)) : ∀ y ∈ l, lessP y.path x.path = false := (List.pairwise_cons.1 h).1
theorem stb_uniq : ∀ {a b : List Fi}, Wk a → Wk b → Stb a b → a = b
 | [], [], _, _, _ => rfl
 | [], y :: b, _, _, h => by have := h y.path; rw [atK_cons, if_pos rfl] at this; simp [atK] at this
 | x :: a, [], _, _, h => by have := h x.path; rw [atK_cons, if_pos rfl] at this; simp [atK] at this
 | x :: a, y :: b, ha, hb, h => by
  have hx : x ∈ y :: b := h.mem (by simp)
  have hy : y ∈ x :: a := h.symm.mem (by simp)
  have e : x.path = y.path := by
   rcases lessP_tri x.path y.path with h1 | h1 | h1
   ·exfalso
    rcases List.mem_cons.1 hx with e | hx
    ·rw [e, lessP_irrefl] at h1; cases h1
    ·rw [wk_mem hb x hx] at h1; cases h1
   ·exact h1
   ·exfalso
    rcases List.mem_cons.1 hy with e | hy
    ·rw [e, lessP_irrefl] at h1; cases h1
    ·rw [wk_mem ha y hy] at h1; cases h1
  have h1 := h x.path
  rw [atK_cons, atK_cons, if_pos rfl, if_pos e.symm] at h1
  have h2 := List.cons.inj h1
  obtain rfl := h2.1
  congr 1
  refine stb_uniq (List.pairwise_cons.1 ha).2 (List.pairwise_cons.1 hb).2 fun p => ?_
  have h3 := h p
  rw [atK_cons, atK_cons] at h3
  exact List.append_cancel_left h3
theorem insF_stb {f : Fi} : ∀ {out : List Fi}, Wk out → Stb (insF f out) (out ++ [f]) := by
 intro out hw p
 unfold insF
 have hsplit := List.takeWhile_append_dropWhile (p := fun g : Fi => !lessP f.path g.path) (l := out)
 have hd : ∀ y ∈ out.dropWhile (fun g : Fi => !lessP f.path g.path), lessP f.path y.path = true := by
  cases hdw : out.dropWhile (fun g : Fi => !lessP f.path g.path) with
  | nil => intro y hy; cases hy
  | cons z r =>
   have hz : lessP f.path z.path = true := by
    have := List.head?_dropWhile_not (fun g : Fi => !lessP f.path g.path) out
    rw [hdw] at this
    simpa using this
   have hwd : Wk (z :: r) := by rw [← hdw]; exact List.Pairwise.sublist (List.dropWhile_sublist _) hw
   intro y hy
   rcases List.mem_cons.1 hy with rfl | hy
   ·exact hz
   ·have h1 := wk_mem hwd y hy
    rcases lessP_tri z.path y.path with h2 | h2 | h2
    ·exact lessP_trans hz h2
    ·rw [← h2]; exact hz
    ·rw [h2] at h1; cases h1
 conv => rhs; rw [← hsplit]
 rw [atK_app, atK_app, atK_app, atK_cons, List.append_assoc]
 congr 1
 have h2 : atK p [f] = if f.path = p then [f] else [] := by rw [atK_cons]; simp [atK]
 rw [h2]
 by_cases e : f.path = p
 ·rw [if_pos e, atK_nil (l := out.dropWhile _) fun y hy e2 => less_ne (hd y hy) (e.trans e2.symm)]; simp
 ·rw [if_neg e]; simp
theorem inOrd_stb (l : List Fi) : Stb (inOrdP l) l := by
 have key : ∀ (l out : List Fi), Wk out → Stb (l.foldl (fun out f => insF f out) out) (out ++ l) := by
  intro l
  induction l with
  | nil => intro out _; rw [List.append_nil]; exact .refl _
  | cons f l ih =>
   intro out h
   refine (ih (insF f out) (insF_wk h)).trans ?_
   rw [show out ++ f :: l = (out ++ [f]) ++ l by simp]
   exact (insF_stb h).app (.refl l)
 exact key l [] .nil
theorem inOrd_uniq {a l : List Fi} (h : Wk a) (hs : Stb a l) : a = inOrdP l := stb_uniq h (inOrd_wk l) (hs.trans (inOrd_stb l).symm)
theorem inOrd_id {a : List Fi} (h : Wk a) : inOrdP a = a := (inOrd_uniq h (.refl a)).symm
theorem inOrd_two (a b : List Fi) : inOrdP (inOrdP a ++ inOrdP b) = inOrdP (a ++ b) := inOrd_uniq (inOrd_wk _) ((inOrd_stb _).trans ((inOrd_stb a).app (inOrd_stb b)))
theorem inOrd_len (l : List Fi) : (inOrdP l).length = l.length := (inOrd_perm l).length_eq
theorem inOrd_snoc (l : List Fi) (f : Fi) : inOrdP (l ++ [f]) = insF f (inOrdP l) := by unfold inOrdP; rw [List.foldl_append]; rfl
theorem wk_app {a b : List Fi} (ha : Wk a) (hb : Wk b) (h : ∀ x ∈ a, ∀ y ∈ b, lessP y.path x.path = false) : Wk (a ++ b) := List.pairwise_append.2 ⟨ha, hb, h⟩
theorem wk_parts {a b : List Fi} (h : Wk (a ++ b)) : Wk a ∧ Wk b ∧ ∀ x ∈ a, ∀ y ∈ b, lessP y.path x.path = false := List.pairwise_append.1 h
theorem le_trans' {x y z : List UInt8} (h1 : lessP y x = false) (h2 : lessP z y = false) : lessP z x = false := by
 cases h : lessP z x with
 | false => rfl
 | true =>
  rcases lessP_tri y z with h3 | h3 | h3
  ·have := lessP_trans h3 h; rw [h1] at this; cases this
  ·rw [← h3, h1] at h; cases h
  ·rw [h2] at h3; cases h3
theorem lt_le {x y z : List UInt8} (h1 : lessP x y = true) (h2 : lessP z y = false) : lessP x z = true := by
 rcases lessP_tri y z with h3 | h3 | h3
 ·exact lessP_trans h1 h3
 ·rw [← h3]; exact h1
 ·rw [h2] at h3; cases h3
theorem le_lt {x y z : List UInt8} (h1 : lessP y x = false) (h2 : lessP y z = true) : lessP x z = true := by
 rcases lessP_tri x y with h3 | h3 | h3
 ·exact lessP_trans h3 h2
 ·rw [h3]; exact h2
 ·rw [h1] at h3; cases h3
theorem one_front {x : Fi} {Y : List Fi} {k : Nat} (hY : Wk Y) (h1 : ∀ y ∈ Y.take k, lessP y.path x.path = true) (h2 : ∀ y ∈ Y.drop k, lessP y.path x.path = false) : Y.take k ++ x :: Y.drop k = inOrdP ([x] ++ Y) := by
 have e := List.take_append_drop k Y
 rw [← e] at hY
 obtain ⟨w1, w2, w3⟩ := wk_parts hY
 refine inOrd_uniq (wk_app w1 (List.pairwise_cons.2 ⟨h2, w2⟩) fun a ha b hb => ?_) ?_
 ·rcases List.mem_cons.1 hb with rfl | hb
  ·exact lessP_asymm (h1 a ha)
  ·exact w3 a ha b hb
 ·rw [show Y.take k ++ x :: Y.drop k = (Y.take k ++ [x]) ++ Y.drop k by simp]
  conv => rhs; rw [← e, ← List.append_assoc]
  refine Stb.app (Stb.swap fun a ha b hb => ?_) (.refl _)
  rw [List.mem_singleton] at hb
  subst hb
  exact less_ne (h1 a ha)
theorem one_back {y : Fi} {X : List Fi} {k : Nat} (hX : Wk X) (h1 : ∀ x ∈ X.take k, lessP y.path x.path = false) (h2 : ∀ x ∈ X.drop k, lessP y.path x.path = true) : X.take k ++ y :: X.drop k = inOrdP (X ++ [y]) := by
 have e := List.take_append_drop k X
 rw [← e] at hX
 obtain ⟨w1, w2, w3⟩ := wk_parts hX
 refine inOrd_uniq (wk_app w1 (List.pairwise_cons.2 ⟨fun b hb => lessP_asymm (h2 b hb), w2⟩) fun a ha b hb => ?_) ?_
 ·rcases List.mem_cons.1 hb with rfl | hb
  ·exact h1 a ha
  ·exact w3 a ha b hb
 ·rw [show X.take k ++ y :: X.drop k = X.take k ++ ([y] ++ X.drop k) by simp]
  conv => rhs; rw [← e, List.append_assoc]
  refine Stb.app (.refl _) (Stb.swap fun a ha b hb => ?_)
  rw [List.mem_singleton] at ha
  subst ha
  exact less_ne (h2 b hb)
theorem sym_ok {X1 X2 Y1 Y2 : List Fi} (hX : Wk (X1 ++ X2)) (hY : Wk (Y1 ++ Y2)) (h1 : ∀ x ∈ X2, ∀ y ∈ Y1, lessP y.path x.path = true) (h2 : ∀ x ∈ X1, ∀ y ∈ Y2, lessP y.path x.path = false) :
  inOrdP (X1 ++ Y1) ++ inOrdP (X2 ++ Y2) = inOrdP ((X1 ++ X2) ++ (Y1 ++ Y2)) := by
 obtain ⟨a1, a2, a3⟩ := wk_parts hX
 obtain ⟨b1, b2, b3⟩ := wk_parts hY
 refine inOrd_uniq (wk_app (inOrd_wk _) (inOrd_wk _) fun u hu v hv => ?_) ?_
 ·have hu := (inOrd_perm _).mem_iff.1 hu
  have hv := (inOrd_perm _).mem_iff.1 hv
  rcases List.mem_append.1 hu with hu | hu <;> rcases List.mem_append.1 hv with hv | hv
  ·exact a3 u hu v hv
  ·exact h2 u hu v hv
  ·exact lessP_asymm (h1 v hv u hu)
  ·exact b3 u hu v hv
 ·refine ((inOrd_stb _).app (inOrd_stb _)).trans ?_
  rw [show (X1 ++ Y1) ++ (X2 ++ Y2) = X1 ++ ((Y1 ++ X2) ++ Y2) by simp, show (X1 ++ X2) ++ (Y1 ++ Y2) = X1 ++ ((X2 ++ Y1) ++ Y2) by simp]
  exact Stb.app (.refl _) (Stb.app (Stb.swap fun a ha b hb => less_ne (h1 b hb a ha)) (.refl _))
def srt (bs : Nat) (d : List Fi) : List Fi := if h : d.length ≤ bs ∨ bs = 0 then inOrdP d else inOrdP (d.take bs) ++ srt bs (d.drop bs)
termination_by d.length
decreasing_by rw [List.length_drop]; omega
theorem srt_few {bs : Nat} {d : List Fi} (h : d.length ≤ bs) : srt bs d = inOrdP d := by rw [srt, dif_pos (.inl h)]
theorem srt_more {bs : Nat} {d : List Fi} (hb : 0 < bs) (h : bs ≤ d.length) : srt bs d = inOrdP (d.take bs) ++ srt bs (d.drop bs) := by
 by_cases e : d.length ≤ bs
 ·rw [srt_few e, List.take_of_length_le e, List.drop_of_length_le e, srt_few (by simp)]
  rw [show inOrdP [] = [] from rfl, List.append_nil]
 ·conv => lhs; rw [srt, dif_neg (by omega)]
theorem srt_len : ∀ (n bs : Nat) (d : List Fi), d.length ≤ n → (srt bs d).length = d.length := by
 intro n
 induction n with
 | zero => intro bs d h; rw [srt_few (by omega), inOrd_len]
 | succ n ih =>
  intro bs d h
  by_cases e : d.length ≤ bs ∨ bs = 0
  ·rw [srt, dif_pos e, inOrd_len]
  ·rw [srt, dif_neg e, List.length_append, inOrd_len, ih bs _ (by rw [List.length_drop]; omega), List.length_take, List.length_drop]; omega
end Go.Nest
end
/- part -/
section

namespace Go.Nest
open Go Go.AM
def cmpN (a b : List UInt8) : Int := if Op.bytesLess a b = true then -1 else if a = b then 0 else 1
theorem cmpN_lt {a b : List UInt8} : cmpN a b < 0 ↔ Op.bytesLess a b = true := by
 unfold cmpN
 split
 ·rename_i h; simp [h]
 ·rename_i h
  split <;> simp [h]
theorem cmpN_eq {a b : List UInt8} (h : Op.bytesLess a b = false) : cmpN a b = 0 ↔ a = b := by
 unfold cmpN
 rw [if_neg (by simp [h])]
 split
 ·rename_i h2; simp [h2]
 ·rename_i h2; simp [h2]
def RSort (l : List Rf) : Prop := l.Pairwise fun a b => Op.bytesLess a.name b.name = true
def posR (l : List Rf) (n : List UInt8) : Nat := (l.takeWhile fun r => Op.bytesLess r.name n).length
def hasRf (l : List Rf) (n : List UInt8) : Bool := decide ((l[posR l n]?).map (·.name) = some n)
def getR (l : List Rf) (n : List UInt8) : Int := match l[posR l n]? with | some r => if r.name = n then r.id else -1 | none => -1
theorem posR_le {l : List Rf} {n : List UInt8} : posR l n ≤ l.length := (List.takeWhile_sublist _).length_le
theorem posR_at {l : List Rf} {n : List UInt8} {k : Nat} (hk : k ≤ l.length) (h1 : ∀ g ∈ l.take k, Op.bytesLess g.name n = true) (h2 : ∀ h : k < l.length, Op.bytesLess l[k].name n = false) : posR l n = k := by
 unfold posR
 rw [(tw_at (p := fun r : Rf => Op.bytesLess r.name n) hk h1 h2).1, List.length_take, Nat.min_eq_left hk]
theorem posR_lo {n : List UInt8} : ∀ {l : List Rf}, ∀ g ∈ l.take (posR l n), Op.bytesLess g.name n = true
 | [], g, h => by simp at h
 | x :: l, g, h => by
  unfold posR at h
  rw [List.takeWhile_cons] at h
  split at h
  ·rename_i hx
   rw [List.length_cons, List.take_succ_cons] at h
   rcases List.mem_cons.1 h with rfl | h
   ·exact hx
   ·exact posR_lo g h
  ·simp at h
theorem posR_hi {n : List UInt8} : ∀ {l : List Rf} (h : posR l n < l.length), Op.bytesLess l[posR l n].name n = false
 | [], h => by simp at h
 | x :: l, h => by
  by_cases hx : Op.bytesLess x.name n = true
  ·have e : posR (x :: l) n = posR l n + 1 := by unfold posR; rw [List.takeWhile_cons, if_pos hx]; rfl
   have h' : posR l n < l.length := by rw [e] at h; simpa using h
   simp only [e, List.getElem_cons_succ]
   exact posR_hi h'
  ·have e : posR (x :: l) n = 0 := by unfold posR; rw [List.takeWhile_cons, if_neg hx]; rfl
   simp only [e, List.getElem_cons_zero]
   simpa using hx
theorem hasR_at {l : List Rf} {n : List UInt8} (h : hasRf l n = true) : ∃ hlt : posR l n < l.length, l[posR l n].name = n := by
 unfold hasRf at h
 rw [decide_eq_true_iff] at h
 by_cases hlt : posR l n < l.length
 ·refine ⟨hlt, ?_⟩
  rw [List.getElem?_eq_getElem hlt] at h
  simpa using h
 ·rw [List.getElem?_eq_none (by omega)] at h; cases h
theorem hasR_no {l : List Rf} {n : List UInt8} (h : hasRf l n = false) (hlt : posR l n < l.length) : l[posR l n].name ≠ n := fun e => by
 unfold hasRf at h
 rw [decide_eq_false_iff_not, List.getElem?_eq_getElem hlt] at h
 exact h (by simp [e])
theorem getR_has {l : List Rf} {n : List UInt8} (h : hasRf l n = true) : ∃ hlt : posR l n < l.length, l[posR l n].name = n ∧ getR l n = l[posR l n].id := by
 obtain ⟨hlt, e⟩ := hasR_at h
 refine ⟨hlt, e, ?_⟩
 unfold getR
 rw [List.getElem?_eq_getElem hlt]
 simp [e]
theorem getR_no {l : List Rf} {n : List UInt8} (h : hasRf l n = false) : getR l n = -1 := by
 unfold getR
 by_cases hlt : posR l n < l.length
 ·rw [List.getElem?_eq_getElem hlt]
  simp [hasR_no h hlt]
 ·rw [List.getElem?_eq_none (by omega)]
theorem posR_mem {l : List Rf} (hs : RSort l) {i : Nat} (hi : i < l.length) : posR l l[i].name = i := by
 refine posR_at (by omega) (fun g hg => ?_) (fun _ => bl_irrefl)
 obtain ⟨k, hk, e⟩ := List.mem_take_iff_getElem.1 hg
 subst e
 exact List.pairwise_iff_getElem.1 hs k i (by omega) hi (by omega)
theorem hasR_mem {l : List Rf} (hs : RSort l) {r : Rf} (h : r ∈ l) : hasRf l r.name = true ∧ getR l r.name = r.id := by
 obtain ⟨i, hi, e⟩ := List.mem_iff_getElem.1 h
 subst e
 have hp := posR_mem hs hi
 constructor
 ·unfold hasRf; rw [hp, List.getElem?_eq_getElem hi]; simp
 ·unfold getR; rw [hp, List.getElem?_eq_getElem hi]; simp
theorem mem_of_get {l : List Rf} {n : List UInt8} (h : 0 ≤ getR l n) : ⟨n, getR l n⟩ ∈ l := by
 cases hh : hasRf l n with
 | false => rw [getR_no hh] at h; omega
 | true =>
  obtain ⟨hlt, e1, e2⟩ := getR_has hh
  have hm := List.getElem_mem hlt
  rw [e2]
  generalize l[posR l n] = r at e1 hm ⊢
  subst e1
  exact hm
theorem rsort_uniq : ∀ {a b : List Rf}, RSort a → RSort b → (∀ x, x ∈ a ↔ x ∈ b) → a = b
 | [], [], _, _, _ => rfl
 | [], y :: b, _, _, h => by have := (h y).2 (by simp); cases this
 | x :: a, [], _, _, h => by have := (h x).1 (by simp); cases this
 | x :: a, y :: b, ha, hb, h => by
  obtain ⟨h1, h2⟩ := List.pairwise_cons.1 ha
  obtain ⟨h3, h4⟩ := List.pairwise_cons.1 hb
  have e : x = y := by
   rcases List.mem_cons.1 ((h x).1 (by simp)) with e | hx
   ·exact e
   rcases List.mem_cons.1 ((h y).2 (by simp)) with e | hy
   ·exact e.symm
   have q1 := h1 y hy; have q2 := h3 x hx
   rw [bl_asymm q1] at q2; cases q2
  subst e
  congr 1
  refine rsort_uniq h2 h4 fun z => ⟨fun hz => ?_, fun hz => ?_⟩
  ·rcases List.mem_cons.1 ((h z).1 (by simp [hz])) with rfl | h5
   ·have := h1 _ hz; rw [bl_irrefl] at this; cases this
   ·exact h5
  ·rcases List.mem_cons.1 ((h z).2 (by simp [hz])) with rfl | h5
   ·have := h3 _ hz; rw [bl_irrefl] at this; cases this
   ·exact h5
def insR (l : List Rf) (x : Rf) : List Rf := l.take (posR l x.name) ++ x :: l.drop (posR l x.name)
theorem insR_sort {l : List Rf} {x : Rf} (hs : RSort l) (hn : hasRf l x.name = false) : RSort (insR l x) := by
 unfold insR RSort
 rw [List.pairwise_append, List.pairwise_cons]
 have hi : ∀ y ∈ l.drop (posR l x.name), Op.bytesLess x.name y.name = true := fun y hy => by
  by_cases hlt : posR l x.name < l.length
  ·have h0 : Op.bytesLess x.name l[posR l x.name].name = true := by
    rcases bl_tri l[posR l x.name].name x.name with h | h | h
    ·rw [posR_hi hlt] at h; cases h
    ·exact absurd h (hasR_no hn hlt)
    ·exact h
   rw [List.drop_eq_getElem_cons hlt] at hy
   rcases List.mem_cons.1 hy with rfl | hy
   ·exact h0
   ·have := (List.pairwise_cons.1 (by have := List.Pairwise.drop (i := posR l x.name) hs; rwa [List.drop_eq_getElem_cons hlt] at this)).1 y hy
    exact bl_trans h0 this
  ·rw [List.drop_of_length_le (by omega)] at hy; cases hy
 refine ⟨List.Pairwise.take hs, ⟨hi, List.Pairwise.drop hs⟩, fun a ha b hb => ?_⟩
 have h1 := posR_lo a ha
 rcases List.mem_cons.1 hb with rfl | hb
 ·exact h1
 ·exact bl_trans h1 (hi b hb)
theorem insR_mem {l : List Rf} {x y : Rf} : y ∈ insR l x ↔ y = x ∨ y ∈ l := by
 unfold insR
 rw [List.mem_append, List.mem_cons]
 constructor
 ·rintro (h | h | h)
  ·exact .inr (List.mem_of_mem_take h)
  ·exact .inl h
  ·exact .inr (List.mem_of_mem_drop h)
 ·rintro (h | h)
  ·exact .inr (.inl h)
  ·rw [← List.take_append_drop (posR l x.name) l, List.mem_append] at h
   exact h.imp id .inr
theorem insR_len {l : List Rf} {x : Rf} : (insR l x).length = l.length + 1 := by
 unfold insR
 have := posR_le (l := l) (n := x.name)
 simp; omega
def getM (m : List Mv) (n : List UInt8) : Int := m.foldl (fun id x => if x.name = n then x.new else id) (-1)
theorem getM_snoc {m : List Mv} {x : Mv} {n : List UInt8} : getM (m ++ [x]) n = if x.name = n then x.new else getM m n := by
 unfold getM
 rw [List.foldl_append]; rfl
theorem getM_succ {m : List Mv} {n : List UInt8} {i : Nat} (h : i < m.length) : getM (m.take (i + 1)) n = if m[i].name = n then m[i].new else getM (m.take i) n := by
 rw [List.take_succ_eq_append_getElem h, getM_snoc]
theorem getM_memU {m : List Mv} {n : List UInt8} : ∀ {k : Nat}, k ≤ m.length → getM (m.take k) n ≠ -1 → ∃ x ∈ m.take k, x.name = n ∧ x.new = getM (m.take k) n
 | 0, _, h => absurd rfl h
 | k + 1, hk, h => by
  have hlt : k < m.length := hk
  rw [getM_succ hlt] at h ⊢
  rw [List.take_succ_eq_append_getElem hlt]
  split at h
  ·rename_i e
   rw [if_pos e]
   exact ⟨_, List.mem_append_right _ (List.mem_singleton.2 rfl), e, rfl⟩
  ·rename_i e
   rw [if_neg e]
   obtain ⟨y, h1, h2⟩ := getM_memU (by omega) h
   exact ⟨y, List.mem_append_left _ h1, h2⟩
theorem getM_mem {m : List Mv} {n : List UInt8} (h : getM m n ≠ -1) : ∃ x ∈ m, x.name = n ∧ x.new = getM m n := by
 have := getM_memU (m := m) (n := n) (k := m.length) (Nat.le_refl _)
 rw [List.take_length] at this
 exact this h
def metM (m : List Mv) (i : Nat) (n : List UInt8) : Bool := (m.take i).any fun x => decide (x.name = n)
def lstep (m : List Mv) (out : List Rf) (i : Nat) : List Rf := match m[i]? with
 | some x => if (decide (getM m x.name < 0) || metM m i x.name) = true then out else insR out ⟨x.name, getM m x.name⟩
 | none => out
def listU (m : List Mv) (k : Nat) : List Rf := (List.range k).foldl (lstep m) []
def listM (m : List Mv) : List Rf := listU m m.length
theorem listU_succ {m : List Mv} {k : Nat} : listU m (k + 1) = lstep m (listU m k) k := by
 unfold listU
 rw [List.range_succ, List.foldl_append]; rfl
theorem metM_iff {m : List Mv} {i : Nat} {n : List UInt8} : metM m i n = true ↔ ∃ x ∈ m.take i, x.name = n := by
 unfold metM
 rw [List.any_eq_true]
 simp
theorem listU_ok {m : List Mv} : ∀ {k : Nat}, k ≤ m.length → RSort (listU m k) ∧ ∀ r, r ∈ listU m k ↔ 0 ≤ r.id ∧ r.id = getM m r.name ∧ ∃ x ∈ m.take k, x.name = r.name
 | 0, _ => ⟨.nil, fun r => by simp [listU]⟩
 | k + 1, hk => by
  obtain ⟨h1, h2⟩ := listU_ok (m := m) (k := k) (by omega)
  have hlt : k < m.length := hk
  rw [listU_succ]
  unfold lstep
  rw [List.getElem?_eq_getElem hlt]
  dsimp only
  have tk : ∀ n, (∃ x ∈ m.take (k + 1), x.name = n) ↔ (∃ x ∈ m.take k, x.name = n) ∨ m[k].name = n := fun n => by
   rw [List.take_succ_eq_append_getElem hlt]
   simp only [List.mem_append, List.mem_singleton]
   constructor
   ·rintro ⟨x, h | rfl, e⟩
    ·exact .inl ⟨x, h, e⟩
    ·exact .inr e
   ·rintro (⟨x, h, e⟩ | e)
    ·exact ⟨x, .inl h, e⟩
    ·exact ⟨_, .inr rfl, e⟩
  split
  ·rename_i hc
   refine ⟨h1, fun r => ?_⟩
   rw [h2, tk]
   rw [Bool.or_eq_true, decide_eq_true_iff, metM_iff] at hc
   refine and_congr_right fun h3 => and_congr_right fun h4 => ⟨.inl, ?_⟩
   rintro (h | e)
   ·exact h
   ·rcases hc with hc | hc
    ·rw [e] at hc; omega
    ·rwa [e] at hc
  ·rename_i hc
   rw [Bool.not_eq_true, Bool.or_eq_false_iff, decide_eq_false_iff_not] at hc
   have hnm : ¬ ∃ x ∈ m.take k, x.name = m[k].name := fun h => by rw [← metM_iff, hc.2] at h; cases h
   have hno : hasRf (listU m k) m[k].name = false := by
    cases hh : hasRf (listU m k) m[k].name with
    | false => rfl
    | true =>
     obtain ⟨hlt, e⟩ := hasR_at hh
     have := ((h2 _).1 (List.getElem_mem hlt)).2.2
     rw [e] at this
     exact absurd this hnm
   refine ⟨insR_sort h1 hno, fun r => ?_⟩
   rw [insR_mem, h2, tk]
   constructor
   ·rintro (rfl | ⟨h3, h4, h5⟩)
    ·exact ⟨by show 0 ≤ getM m m[k].name; omega, rfl, .inr rfl⟩
    ·exact ⟨h3, h4, .inl h5⟩
   ·rintro ⟨h3, h4, h5 | h5⟩
    ·exact .inr ⟨h3, h4, h5⟩
    ·refine .inl ?_
     cases r
     simp_all
def updR (l : List Rf) (n : List UInt8) (id : Int) : List Rf :=
 if hasRf l n = false then insR l ⟨n, id⟩ else if id < 0 then l.take (posR l n) ++ l.drop (posR l n + 1) else l.set (posR l n) ⟨n, id⟩
def codeR (l : List Rf) (n : List UInt8) (old id : Int) : Int :=
 if nameC n ≠ 0 then nameC n else if id < -1 then 1 else if old ≠ getR l n then 12 else if hasRf l n = false ∧ 0 ≤ id ∧ l.length = 8 then 5 else if id = old then 17 else 0
def faultM (m : List Mv) (n : List UInt8) (old id : Int) : Int :=
 if nameC n ≠ 0 then nameC n else if id < -1 then 1 else if getM m n ≠ old then 12 else if old < 0 ∧ 0 ≤ id ∧ 8 ≤ (listM m).length then 5 else if old = id then 17 else 0
inductive Refd : List Rf → List Mv → Prop
 | nil : Refd [] []
 | snoc {l : List Rf} {m : List Mv} {n : List UInt8} {old id : Int} (h : Refd l m) (hc : codeR l n old id = 0) : Refd (updR l n id) (m ++ [⟨n, old, id⟩])
theorem codeR_0 {l : List Rf} {n : List UInt8} {old id : Int} (h : codeR l n old id = 0) : nameC n = 0 ∧ -1 ≤ id ∧ old = getR l n ∧ ¬ (hasRf l n = false ∧ 0 ≤ id ∧ l.length = 8) ∧ id ≠ old := by
 unfold codeR at h
 split at h
 ·rename_i h1; exact absurd h h1
 rename_i h1
 split at h
 ·cases h
 rename_i h2
 split at h
 ·cases h
 rename_i h3
 split at h
 ·cases h
 rename_i h4
 split at h
 ·cases h
 rename_i h5
 exact ⟨by omega, by omega, Decidable.not_not.1 h3, h4, h5⟩
structure RfInv (l : List Rf) (m : List Mv) : Prop where
 sort : RSort l
 ids : ∀ r ∈ l, 0 ≤ r.id
 len : l.length ≤ 8
 get : ∀ n, getR l n = getM m n
theorem get_of_mem {l : List Rf} (hs : RSort l) {n : List UInt8} {k : Int} (h : (⟨n, k⟩ : Rf) ∈ l) : getR l n = k := (hasR_mem hs h).2
theorem get_none {l : List Rf} (hs : RSort l) {n : List UInt8} (h : ∀ r ∈ l, r.name ≠ n) : getR l n = -1 := by
 cases hh : hasRf l n with
 | false => exact getR_no hh
 | true => obtain ⟨hlt, e⟩ := hasR_at hh; exact absurd e (h _ (List.getElem_mem hlt))
theorem get_same {l k : List Rf} (hl : RSort l) (hk : RSort k) {n : List UInt8} (h : ∀ r : Rf, r.name = n → (r ∈ l ↔ r ∈ k)) : getR l n = getR k n := by
 cases hh : hasRf l n with
 | false =>
  rw [getR_no hh, get_none hk fun r hr e => ?_]
  have := (h r e).2 hr
  have h2 := (hasR_mem hl this).1
  rw [e, hh] at h2; cases h2
 | true =>
  obtain ⟨hlt, e1, e2⟩ := getR_has hh
  rw [e2]
  have := (hasR_mem hk ((h _ e1).1 (List.getElem_mem hlt))).2
  rw [e1] at this
  exact this.symm
theorem upd_inv {l : List Rf} {m : List Mv} (h : RfInv l m) {n : List UInt8} {old id : Int} (hc : codeR l n old id = 0) : RfInv (updR l n id) (m ++ [⟨n, old, id⟩]) := by
 obtain ⟨c1, c2, c3, c4, c5⟩ := codeR_0 hc
 have fin : ∀ {k : List Rf}, RSort k → (∀ r ∈ k, 0 ≤ r.id) → k.length ≤ 8 → (∀ r : Rf, r.name ≠ n → (r ∈ l ↔ r ∈ k)) → getR k n = id → RfInv k (m ++ [⟨n, old, id⟩]) := fun hs hi hl hm hg => ⟨hs, hi, hl, fun q => by
  rw [getM_snoc]
  show getR _ q = if n = q then id else getM m q
  split
  ·rename_i e; rw [← e]; exact hg
  ·rename_i e
   rw [← h.get q]
   exact (get_same h.sort hs (fun r hr => hm r (fun e2 => e (e2.symm.trans hr)))).symm⟩
 unfold updR
 split
 ·rename_i hh
  have hid : 0 ≤ id := by rw [getR_no hh] at c3; omega
  refine fin (insR_sort h.sort hh) (fun r hr => ?_) ?_ (fun r hr => ?_) ?_
  ·rcases insR_mem.1 hr with rfl | hr
   ·exact hid
   ·exact h.ids r hr
  ·rw [insR_len]; have := h.len; have : ¬ l.length = 8 := fun e => c4 ⟨hh, hid, e⟩; omega
  ·rw [insR_mem]; exact ⟨.inr, fun h2 => h2.resolve_left fun e => hr (by rw [e])⟩
  ·exact get_of_mem (insR_sort h.sort hh) (insR_mem.2 (.inl rfl))
 ·rename_i hh
  rw [Bool.not_eq_false] at hh
  obtain ⟨hlt, e1, e2⟩ := getR_has hh
  split
  ·rename_i hid
   have hs : RSort (l.take (posR l n) ++ l.drop (posR l n + 1)) := by
    refine List.Pairwise.sublist ?_ h.sort
    conv => rhs; rw [← List.take_append_drop (posR l n) l]
    exact List.Sublist.append (List.Sublist.refl _) (by rw [List.drop_eq_getElem_cons hlt]; exact List.sublist_cons_self _ _)
   have hm : ∀ r : Rf, r ∈ l ↔ r ∈ l.take (posR l n) ∨ r = l[posR l n] ∨ r ∈ l.drop (posR l n + 1) := fun r => by
    conv => lhs; rw [← List.take_append_drop (posR l n) l, List.drop_eq_getElem_cons hlt, List.mem_append, List.mem_cons]
   refine fin hs (fun r hr => ?_) ?_ (fun r hr => ?_) ?_
   ·refine h.ids r ((hm r).2 ?_)
    rcases List.mem_append.1 hr with hr | hr
    ·exact .inl hr
    ·exact .inr (.inr hr)
   ·have := h.len; simp; omega
   ·rw [hm, List.mem_append]
    constructor
    ·rintro (h2 | rfl | h2)
     ·exact .inl h2
     ·exact absurd e1 hr
     ·exact .inr h2
    ·rintro (h2 | h2)
     ·exact .inl h2
     ·exact .inr (.inr h2)
   ·have hid2 : id = -1 := by omega
    rw [hid2]
    refine get_none hs fun r hr e => ?_
    have hi := List.pairwise_iff_getElem.1 h.sort
    rcases List.mem_append.1 hr with hr | hr
    ·have := posR_lo r hr
     rw [e, bl_irrefl] at this; cases this
    ·obtain ⟨k, hk, e3⟩ := List.mem_iff_getElem.1 hr
     rw [List.getElem_drop] at e3
     have := hi (posR l n) (posR l n + 1 + k) hlt (by rw [List.length_drop] at hk; omega) (by omega)
     rw [e3, e1, e, bl_irrefl] at this; cases this
  ·rename_i hid
   have hs : RSort (l.set (posR l n) ⟨n, id⟩) := by
    refine List.pairwise_iff_getElem.2 fun i j hi hj hij => ?_
    have key := List.pairwise_iff_getElem.1 h.sort i j (by simpa using hi) (by simpa using hj) hij
    rw [List.getElem_set, List.getElem_set]
    split
    ·rename_i e3; subst e3
     rw [if_neg (by omega)]
     rw [e1] at key; exact key
    ·split
     ·rename_i e3; subst e3
      show Op.bytesLess _ n = true
      rw [e1] at key; exact key
     ·exact key
   refine fin hs (fun r hr => ?_) (by rw [List.length_set]; exact h.len) (fun r hr => ?_) (get_of_mem hs (List.mem_set hlt _))
   ·rcases List.mem_or_eq_of_mem_set hr with hr | rfl
    ·exact h.ids r hr
    ·show 0 ≤ id; omega
   ·constructor
    ·intro h2
     obtain ⟨k, hk, e3⟩ := List.mem_iff_getElem.1 h2
     refine List.mem_iff_getElem.2 ⟨k, by simpa using hk, ?_⟩
     rw [List.getElem_set, if_neg (fun e4 => hr (by subst e4; rw [← e3]; exact e1))]
     exact e3
    ·intro h2
     exact (List.mem_or_eq_of_mem_set h2).resolve_right fun e => hr (by rw [e])
theorem Refd.inv {l : List Rf} {m : List Mv} (h : Refd l m) : RfInv l m := by
 induction h with
 | nil => exact ⟨.nil, fun r h => (by cases h), by decide, fun n => rfl⟩
 | snoc _ hc ih => exact upd_inv ih hc
theorem RfInv.list {l : List Rf} {m : List Mv} (h : RfInv l m) : listM m = l := by
 obtain ⟨h1, h2⟩ := listU_ok (m := m) (k := m.length) (Nat.le_refl _)
 refine rsort_uniq h1 h.sort fun r => ?_
 show r ∈ listU m m.length ↔ _
 rw [h2, List.take_length]
 constructor
 ·rintro ⟨h3, h4, _⟩
  have := mem_of_get (l := l) (n := r.name) (by rw [h.get, ← h4]; exact h3)
  rwa [h.get, ← h4] at this
 ·intro hr
  have h3 := h.ids r hr
  have h4 := (hasR_mem h.sort hr).2
  rw [h.get] at h4
  obtain ⟨x, hx, e, _⟩ := getM_mem (m := m) (n := r.name) (by rw [h4]; omega)
  exact ⟨h3, h4.symm, x, hx, e⟩
theorem RfInv.has {l : List Rf} {m : List Mv} (h : RfInv l m) {n : List UInt8} : hasRf l n = false ↔ getR l n < 0 := by
 constructor
 ·intro hh; rw [getR_no hh]; decide
 ·intro hg
  cases hh : hasRf l n with
  | false => rfl
  | true =>
   obtain ⟨hlt, e1, e2⟩ := getR_has hh
   have := h.ids _ (List.getElem_mem hlt)
   omega
theorem RfInv.code {l : List Rf} {m : List Mv} (h : RfInv l m) {n : List UInt8} {old id : Int} : codeR l n old id = faultM m n old id := by
 unfold codeR faultM
 rw [h.list, ← h.get n]
 split
 ·rfl
 split
 ·rfl
 by_cases h3 : old = getR l n
 ·rw [if_neg (show ¬ (old ≠ getR l n) from fun h => h h3), if_neg (show ¬ (getR l n ≠ old) from fun h => h h3.symm)]
  have e : (hasRf l n = false ∧ 0 ≤ id ∧ l.length = 8) ↔ (old < 0 ∧ 0 ≤ id ∧ 8 ≤ l.length) := by
   rw [h.has, ← h3]
   have := h.len
   constructor
   ·rintro ⟨a, b, c⟩; exact ⟨a, b, by omega⟩
   ·rintro ⟨a, b, c⟩; exact ⟨a, b, by omega⟩
  by_cases h4 : old < 0 ∧ 0 ≤ id ∧ 8 ≤ l.length
  ·rw [if_pos (e.2 h4), if_pos h4]
  ·rw [if_neg (fun h5 => h4 (e.1 h5)), if_neg h4]
   by_cases h5 : id = old
   ·rw [if_pos h5, if_pos h5.symm]
   ·rw [if_neg h5, if_neg (fun e => h5 e.symm)]
 ·rw [if_pos h3, if_pos (fun e => h3 e.symm)]
end Go.Nest
end
/- part -/
section

namespace Go.Nest
open Go
def hexB (n : Nat) : UInt8 := if n < 10 then UInt8.ofNat (48 + n) else UInt8.ofNat (87 + n)
def showB (c : UInt8) : List UInt8 := if c = 10 then [92, 110] else if c = 92 then [92, 92] else if c.toNat < 32 ∨ 126 < c.toNat then [92, 120, hexB (c.toNat / 16), hexB (c.toNat % 16)] else [c]
def showT (l : List UInt8) : List UInt8 := l.flatMap showB
def meanG : Bool → List UInt8 → Option (List UInt8)
 | false, [] => some []
 | true, [] => none
 | false, c :: r => if c = 92 then meanG true r else (meanG false r).map (c :: ·)
 | true, d :: r => if d = 110 then (meanG false r).map (10 :: ·) else if d = 92 then (meanG false r).map (92 :: ·) else none
def meanT (l : List UInt8) : Option (List UInt8) := meanG false l
def nice (c : UInt8) : Bool := decide (32 ≤ c.toNat) && decide (c.toNat ≤ 126)
theorem hex_nice : ∀ n : Fin 16, nice (hexB n.val) = true := by decide
theorem showB_nice (c : UInt8) : ∀ x ∈ showB c, nice x = true := by
 intro x hx
 unfold showB at hx
 split at hx
 ·rcases List.mem_cons.1 hx with rfl | hx
  ·decide
  ·rw [List.mem_singleton] at hx; subst hx; decide
 split at hx
 ·have : x = 92 := by simpa using hx
  subst this; decide
 split at hx
 ·have hl := c.toNat_lt
  have h1 := hex_nice ⟨c.toNat / 16, by omega⟩
  have h2 := hex_nice ⟨c.toNat % 16, by omega⟩
  simp only [List.mem_cons, List.not_mem_nil, or_false] at hx
  rcases hx with rfl | rfl | rfl | rfl
  ·decide
  ·decide
  ·exact h1
  ·exact h2
 ·rename_i h
  rw [List.mem_singleton] at hx
  subst hx
  unfold nice
  simp only [Bool.and_eq_true, decide_eq_true_eq]
  omega
theorem show_nice (l : List UInt8) : ∀ x ∈ showT l, nice x = true := fun x hx => by
 obtain ⟨c, _, h⟩ := List.mem_flatMap.1 hx
 exact showB_nice c x h
theorem mean_show : ∀ l : List UInt8, (∀ c ∈ l, c = 10 ∨ nice c = true) → meanT (showT l) = some l
 | [], _ => rfl
 | c :: l, h => by
  have ih := mean_show l fun d hd => h d (List.mem_cons_of_mem _ hd)
  have hc := h c (by simp)
  show meanG false (showB c ++ showT l) = _
  have ih : meanG false (showT l) = some l := ih
  unfold showB
  by_cases h1 : c = 10
  ·rw [if_pos h1, h1]
   show (if (92 : UInt8) = 92 then (if (110 : UInt8) = 110 then (meanG false (showT l)).map (10 :: ·) else _) else _) = _
   rw [if_pos rfl, if_pos rfl, ih]; rfl
  ·rw [if_neg h1]
   by_cases h2 : c = 92
   ·rw [if_pos h2, h2]
    show (if (92 : UInt8) = 92 then (if (92 : UInt8) = 110 then _ else if (92 : UInt8) = 92 then (meanG false (showT l)).map (92 :: ·) else _) else _) = _
    rw [if_pos rfl, if_neg (by decide), if_pos rfl, ih]; rfl
   ·have hn := hc.resolve_left h1
    unfold nice at hn
    simp only [Bool.and_eq_true, decide_eq_true_eq] at hn
    rw [if_neg h2, if_neg (by omega)]
    show (if c = 92 then _ else (meanG false (showT l)).map (c :: ·)) = _
    rw [if_neg h2, ih]; rfl
theorem mean_plain {s : List UInt8} {i : Nat} (h : i < s.length) (h1 : s[i] ≠ 92) : meanT (s.drop i) = (meanT (s.drop (i + 1))).map (s[i] :: ·) := by
 unfold meanT
 rw [List.drop_eq_getElem_cons h, meanG, if_neg h1]
theorem mean_esc {s : List UInt8} {i : Nat} (h : i + 1 < s.length) (h1 : s[i] = 92) : meanT (s.drop i) = if s[i + 1] = 110 then (meanT (s.drop (i + 2))).map (10 :: ·) else if s[i + 1] = 92 then (meanT (s.drop (i + 2))).map (92 :: ·) else none := by
 unfold meanT
 rw [List.drop_eq_getElem_cons (by omega), List.drop_eq_getElem_cons h, meanG, if_pos h1, meanG]
theorem mean_end {s : List UInt8} {i : Nat} (h : i < s.length) (h1 : s[i] = 92) (h2 : i + 1 = s.length) : meanT (s.drop i) = none := by
 unfold meanT
 rw [List.drop_eq_getElem_cons h, List.drop_of_length_le (by omega), meanG, if_pos h1, meanG]
theorem show_succ {l : List UInt8} {i : Nat} (h : i < l.length) : showT (l.take (i + 1)) = showT (l.take i) ++ showB l[i] := by
 unfold showT
 rw [List.take_succ_eq_append_getElem h, List.flatMap_append]
 simp
theorem showB_len (c : UInt8) : (showB c).length ≤ 4 := by
 unfold showB
 split
 ·simp
 split
 ·simp
 split
 ·simp
 ·simp
theorem show_len : ∀ l : List UInt8, (showT l).length ≤ 4 * l.length
 | [] => by simp [showT]
 | c :: l => by
  have := show_len l
  have := showB_len c
  show (showB c ++ showT l).length ≤ _
  rw [List.length_append, List.length_cons]; omega
end Go.Nest
end
