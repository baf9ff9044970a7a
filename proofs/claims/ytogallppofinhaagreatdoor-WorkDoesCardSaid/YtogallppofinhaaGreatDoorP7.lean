/- PLAIN LAWS, 7: two lists of files. -/
import Derived.Test.YtogallppofinhaaGreatDoorP4
import Derived.Test.YtogallppofinhaaGreatDoorAmT
namespace Go.Nest
open Go Go.AM
set_option linter.unusedVariables false
set_option linter.unusedSimpArgs false

def fi0 : Fi := ⟨[], 0, 0, 0⟩
def fileAtP (l : List Fi) (p : List UInt8) : Fi × Bool := match l.find? fun f => decide (f.path = p) with
  | some f => (f, true)
  | none => (fi0, false)
def atP (l : List Fi) (p : List UInt8) : Fi := (fileAtP l p).1
/-! ### lists that rise -/
def Ris {α : Type} (k : α → List UInt8) (l : List α) : Prop := l.Pairwise fun x y => lessP (k x) (k y) = true
theorem less_ne {a b : List UInt8} (h : lessP a b = true) : a ≠ b := fun e => by rw [e, lessP_irrefl] at h; cases h
theorem ris_ext {α : Type} {k : α → List UInt8} : ∀ {l m : List α}, Ris k l → Ris k m → (∀ x, x ∈ l ↔ x ∈ m) → l = m
  | [], [], _, _, _ => rfl
  | [], y :: m, _, _, h => by have := (h y).2 (by simp); cases this
  | x :: l, [], _, _, h => by have := (h x).1 (by simp); cases this
  | x :: l, y :: m, hl, hm, h => by
    obtain ⟨h1, h2⟩ := List.pairwise_cons.1 hl
    obtain ⟨h3, h4⟩ := List.pairwise_cons.1 hm
    have e : x = y := by
      rcases List.mem_cons.1 ((h x).1 (by simp)) with e | hx
      · exact e
      rcases List.mem_cons.1 ((h y).2 (by simp)) with e | hy
      · exact e.symm
      have := lessP_asymm (h1 y hy)
      rw [h3 x hx] at this; cases this
    subst e
    congr 1
    refine ris_ext h2 h4 fun z => ⟨fun hz => ?_, fun hz => ?_⟩
    · rcases List.mem_cons.1 ((h z).1 (by simp [hz])) with rfl | h5
      · exact absurd rfl (less_ne (h1 _ hz))
      · exact h5
    · rcases List.mem_cons.1 ((h z).2 (by simp [hz])) with rfl | h5
      · exact absurd rfl (less_ne (h3 _ hz))
      · exact h5
/-! ### the file of a path -/
theorem atP_cons {x : Fi} {l : List Fi} {p : List UInt8} : atP (x :: l) p = if x.path = p then x else atP l p := by
  unfold atP fileAtP
  rw [List.find?_cons]
  by_cases h : x.path = p <;> simp [h]
theorem atP_none : ∀ {l : List Fi} {p : List UInt8}, (∀ f ∈ l, f.path ≠ p) → atP l p = fi0
  | [], _, _ => rfl
  | x :: l, p, h => by rw [atP_cons, if_neg (h x (by simp)), atP_none fun f hf => h f (by simp [hf])]
/-! ### what is not the same -/
def diffP : List Fi → List Fi → List Ch
  | [], [] => []
  | a :: ar, [] => ⟨a.path, a, fi0⟩ :: diffP ar []
  | [], b :: bs => ⟨b.path, fi0, b⟩ :: diffP [] bs
  | a :: ar, b :: bs => if lessP a.path b.path = true then ⟨a.path, a, fi0⟩ :: diffP ar (b :: bs) else if lessP b.path a.path = true then ⟨b.path, fi0, b⟩ :: diffP (a :: ar) bs
    else if a ≠ b then ⟨a.path, a, b⟩ :: diffP ar bs else diffP ar bs
termination_by a b => a.length + b.length

structure Files (l : List Fi) : Prop where
  ris : Ris (·.path) l
  md : ∀ f ∈ l, f.mode ≠ 0
theorem Files.tail {x : Fi} {l : List Fi} (h : Files (x :: l)) : Files l := ⟨(List.pairwise_cons.1 h.ris).2, fun f hf => h.md f (by simp [hf])⟩
theorem Files.head {x : Fi} {l : List Fi} (h : Files (x :: l)) : ∀ f ∈ l, lessP x.path f.path = true := (List.pairwise_cons.1 h.ris).1
theorem Files.ne {l : List Fi} (h : Files l) {f : Fi} (hf : f ∈ l) : f ≠ fi0 := fun e => h.md f hf (by rw [e]; rfl)
def Ky (a b : List Fi) (p : List UInt8) : Prop := (∃ f ∈ a, f.path = p) ∨ ∃ f ∈ b, f.path = p

/-- what is told -/
structure Told (a b : List Fi) (c : Ch) : Prop where
  key : Ky a b c.path
  old : c.old = atP a c.path
  new : c.new = atP b c.path
  ne : c.old ≠ c.new

theorem Told.fst {a : Fi} {ar b : List Fi} {c : Ch} (ha : Files (a :: ar)) (hb : ∀ f ∈ b, lessP a.path f.path = true) : Told (a :: ar) b c ↔ c = ⟨a.path, a, fi0⟩ ∨ Told ar b c := by
  have hab : atP b a.path = fi0 := atP_none fun f hf e => less_ne (hb f hf) e.symm
  constructor
  · rintro ⟨h1, h2, h3, h4⟩
    by_cases e : a.path = c.path
    · left
      rw [atP_cons, if_pos e] at h2
      rw [← e, hab] at h3
      obtain ⟨p, o, n⟩ := c
      simp only at e h2 h3
      rw [e, h2, h3]
    · right
      rw [atP_cons, if_neg e] at h2
      refine ⟨?_, h2, h3, h4⟩
      rcases h1 with ⟨f, hf, h⟩ | h
      · rcases List.mem_cons.1 hf with rfl | hf
        · exact absurd h e
        · exact .inl ⟨f, hf, h⟩
      · exact .inr h
  · rintro (rfl | ⟨h1, h2, h3, h4⟩)
    · exact ⟨.inl ⟨a, by simp, rfl⟩, by simp [atP_cons], hab.symm, ha.ne (by simp)⟩
    · have e : a.path ≠ c.path := fun e => by
        rcases h1 with ⟨f, hf, h⟩ | ⟨f, hf, h⟩
        · exact less_ne (ha.head f hf) (e.trans h.symm)
        · exact less_ne (hb f hf) (e.trans h.symm)
      refine ⟨?_, by rw [atP_cons, if_neg e]; exact h2, h3, h4⟩
      rcases h1 with ⟨f, hf, h⟩ | h
      · exact .inl ⟨f, by simp [hf], h⟩
      · exact .inr h
theorem Told.snd {b : Fi} {a bs : List Fi} {c : Ch} (hb : Files (b :: bs)) (ha : ∀ f ∈ a, lessP b.path f.path = true) : Told a (b :: bs) c ↔ c = ⟨b.path, fi0, b⟩ ∨ Told a bs c := by
  have hab : atP a b.path = fi0 := atP_none fun f hf e => less_ne (ha f hf) e.symm
  constructor
  · rintro ⟨h1, h2, h3, h4⟩
    by_cases e : b.path = c.path
    · left
      rw [atP_cons, if_pos e] at h3
      rw [← e, hab] at h2
      obtain ⟨p, o, n⟩ := c
      simp only at e h2 h3
      rw [e, h2, h3]
    · right
      rw [atP_cons, if_neg e] at h3
      refine ⟨?_, h2, h3, h4⟩
      rcases h1 with h | ⟨f, hf, h⟩
      · exact .inl h
      · rcases List.mem_cons.1 hf with rfl | hf
        · exact absurd h e
        · exact .inr ⟨f, hf, h⟩
  · rintro (rfl | ⟨h1, h2, h3, h4⟩)
    · exact ⟨.inr ⟨b, by simp, rfl⟩, hab.symm, by simp [atP_cons], fun e => hb.ne (by simp) e.symm⟩
    · have e : b.path ≠ c.path := fun e => by
        rcases h1 with ⟨f, hf, h⟩ | ⟨f, hf, h⟩
        · exact less_ne (ha f hf) (e.trans h.symm)
        · exact less_ne (hb.head f hf) (e.trans h.symm)
      refine ⟨?_, h2, by rw [atP_cons, if_neg e]; exact h3, h4⟩
      rcases h1 with h | ⟨f, hf, h⟩
      · exact .inl h
      · exact .inr ⟨f, by simp [hf], h⟩
theorem Told.both {a b : Fi} {ar bs : List Fi} {c : Ch} (ha : Files (a :: ar)) (hb : Files (b :: bs)) (e0 : a.path = b.path) : Told (a :: ar) (b :: bs) c ↔ (a ≠ b ∧ c = ⟨a.path, a, b⟩) ∨ Told ar bs c := by
  constructor
  · rintro ⟨h1, h2, h3, h4⟩
    by_cases e : a.path = c.path
    · left
      rw [atP_cons, if_pos e] at h2
      rw [atP_cons, if_pos (e0 ▸ e)] at h3
      obtain ⟨p, o, n⟩ := c
      simp only at e h2 h3 h4
      subst h2; subst h3; subst e
      exact ⟨h4, rfl⟩
    · right
      rw [atP_cons, if_neg e] at h2
      rw [atP_cons, if_neg (e0 ▸ e)] at h3
      refine ⟨?_, h2, h3, h4⟩
      rcases h1 with ⟨f, hf, h⟩ | ⟨f, hf, h⟩
      · rcases List.mem_cons.1 hf with rfl | hf
        · exact absurd h e
        · exact .inl ⟨f, hf, h⟩
      · rcases List.mem_cons.1 hf with rfl | hf
        · exact absurd (e0.trans h) e
        · exact .inr ⟨f, hf, h⟩
  · rintro (⟨hne, rfl⟩ | ⟨h1, h2, h3, h4⟩)
    · exact ⟨.inl ⟨a, by simp, rfl⟩, by simp [atP_cons], by simp [atP_cons, e0], hne⟩
    · have e : a.path ≠ c.path := fun e => by
        rcases h1 with ⟨f, hf, h⟩ | ⟨f, hf, h⟩
        · exact less_ne (ha.head f hf) (e.trans h.symm)
        · exact less_ne (hb.head f hf) (e0.symm.trans (e.trans h.symm))
      refine ⟨?_, by rw [atP_cons, if_neg e]; exact h2, by rw [atP_cons, if_neg (e0 ▸ e)]; exact h3, h4⟩
      rcases h1 with ⟨f, hf, h⟩ | ⟨f, hf, h⟩
      · exact .inl ⟨f, by simp [hf], h⟩
      · exact .inr ⟨f, by simp [hf], h⟩

theorem mem_diff : ∀ {a b : List Fi} {c : Ch}, Files a → Files b → (c ∈ diffP a b ↔ Told a b c)
  | [], [], c, _, _ => by
    unfold diffP
    exact ⟨fun h => (by cases h), fun ⟨h, _, _, _⟩ => by rcases h with ⟨f, hf, _⟩ | ⟨f, hf, _⟩ <;> cases hf⟩
  | a :: ar, [], c, ha, hb => by
    unfold diffP
    rw [List.mem_cons, mem_diff ha.tail hb, Told.fst ha (fun f hf => by cases hf)]
  | [], b :: bs, c, ha, hb => by
    unfold diffP
    rw [List.mem_cons, mem_diff ha hb.tail, Told.snd hb (fun f hf => by cases hf)]
  | a :: ar, b :: bs, c, ha, hb => by
    unfold diffP
    split
    · rename_i h
      rw [List.mem_cons, mem_diff ha.tail hb, Told.fst ha (fun f hf => ?_)]
      rcases List.mem_cons.1 hf with rfl | hf
      · exact h
      · exact lessP_trans h (hb.head f hf)
    split
    · rename_i h
      rw [List.mem_cons, mem_diff ha hb.tail, Told.snd hb (fun f hf => ?_)]
      rcases List.mem_cons.1 hf with rfl | hf
      · exact h
      · exact lessP_trans h (ha.head f hf)
    rename_i h1 h2
    have e0 : a.path = b.path := (lessP_tri a.path b.path).resolve_left h1 |>.resolve_right h2
    rw [Told.both ha hb e0]
    split
    · rename_i hne
      rw [List.mem_cons, mem_diff ha.tail hb.tail]
      exact ⟨fun h => h.imp (fun h => ⟨hne, h⟩) id, fun h => h.imp (fun h => h.2) id⟩
    · rename_i hne
      rw [mem_diff ha.tail hb.tail]
      exact ⟨.inr, fun h => h.resolve_left fun h => hne h.1⟩
termination_by a b => a.length + b.length
theorem ris_cons {x : Ch} {l : List Ch} (h : ∀ c ∈ l, lessP x.path c.path = true) (hl : Ris (·.path) l) : Ris (·.path) (x :: l) := List.pairwise_cons.2 ⟨h, hl⟩
theorem ris_diff : ∀ {a b : List Fi}, Files a → Files b → Ris (·.path) (diffP a b)
  | [], [], _, _ => by unfold diffP; exact .nil
  | a :: ar, [], ha, hb => by
    unfold diffP
    refine ris_cons (fun c hc => ?_) (ris_diff ha.tail hb)
    rcases ((mem_diff ha.tail hb).1 hc).key with ⟨f, hf, e⟩ | ⟨f, hf, e⟩
    · rw [← e]; exact ha.head f hf
    · cases hf
  | [], b :: bs, ha, hb => by
    unfold diffP
    refine ris_cons (fun c hc => ?_) (ris_diff ha hb.tail)
    rcases ((mem_diff ha hb.tail).1 hc).key with ⟨f, hf, e⟩ | ⟨f, hf, e⟩
    · cases hf
    · rw [← e]; exact hb.head f hf
  | a :: ar, b :: bs, ha, hb => by
    unfold diffP
    split
    · rename_i h
      refine ris_cons (fun c hc => ?_) (ris_diff ha.tail hb)
      rcases ((mem_diff ha.tail hb).1 hc).key with ⟨f, hf, e⟩ | ⟨f, hf, e⟩
      · rw [← e]; exact ha.head f hf
      · rw [← e]
        rcases List.mem_cons.1 hf with rfl | hf
        · exact h
        · exact lessP_trans h (hb.head f hf)
    split
    · rename_i h
      refine ris_cons (fun c hc => ?_) (ris_diff ha hb.tail)
      rcases ((mem_diff ha hb.tail).1 hc).key with ⟨f, hf, e⟩ | ⟨f, hf, e⟩
      · rw [← e]
        rcases List.mem_cons.1 hf with rfl | hf
        · exact h
        · exact lessP_trans h (ha.head f hf)
      · rw [← e]; exact hb.head f hf
    rename_i h1 h2
    have e0 : a.path = b.path := (lessP_tri a.path b.path).resolve_left h1 |>.resolve_right h2
    split
    · refine ris_cons (fun c hc => ?_) (ris_diff ha.tail hb.tail)
      rcases ((mem_diff ha.tail hb.tail).1 hc).key with ⟨f, hf, e⟩ | ⟨f, hf, e⟩
      · rw [← e]; exact ha.head f hf
      · rw [← e]; show lessP a.path f.path = true; rw [e0]; exact hb.head f hf
    · exact ris_diff ha.tail hb.tail
termination_by a b => a.length + b.length
/-! ### in order -/
def insF (f : Fi) (out : List Fi) : List Fi := out.takeWhile (fun g => !lessP f.path g.path) ++ f :: out.dropWhile (fun g => !lessP f.path g.path)
def inOrdP (l : List Fi) : List Fi := l.foldl (fun out f => insF f out) []
def Wk (l : List Fi) : Prop := l.Pairwise fun x y => lessP y.path x.path = false
theorem insF_perm (f : Fi) (out : List Fi) : (insF f out).Perm (f :: out) := by
  unfold insF
  refine List.perm_middle.trans (.cons f ?_)
  rw [List.takeWhile_append_dropWhile]
theorem insF_wk {f : Fi} : ∀ {out : List Fi}, Wk out → Wk (insF f out)
  | [], _ => by simp [insF, Wk]
  | g :: out, h => by
    obtain ⟨h1, h2⟩ := List.pairwise_cons.1 h
    by_cases hg : lessP f.path g.path = true
    · have : insF f (g :: out) = f :: g :: out := by simp [insF, hg]
      rw [this]
      refine List.pairwise_cons.2 ⟨fun y hy => ?_, h⟩
      rcases List.mem_cons.1 hy with rfl | hy
      · exact lessP_asymm hg
      · have h3 := h1 y hy
        rcases lessP_tri g.path y.path with h4 | h4 | h4
        · exact lessP_asymm (lessP_trans hg h4)
        · rw [← h4]; exact lessP_asymm hg
        · rw [h4] at h3; cases h3
    · rw [Bool.not_eq_true] at hg
      have : insF f (g :: out) = g :: insF f out := by simp [insF, hg]
      rw [this]
      refine List.pairwise_cons.2 ⟨fun y hy => ?_, insF_wk h2⟩
      rcases List.mem_cons.1 ((insF_perm f out).mem_iff.1 hy) with rfl | hy
      · exact hg
      · exact h1 y hy
theorem inOrd_gen : ∀ (l out : List Fi), Wk out → Wk (l.foldl (fun out f => insF f out) out) ∧ (l.foldl (fun out f => insF f out) out).Perm (l ++ out)
  | [], out, h => ⟨h, .refl _⟩
  | f :: l, out, h => by
    obtain ⟨h1, h2⟩ := inOrd_gen l (insF f out) (insF_wk h)
    refine ⟨h1, h2.trans ?_⟩
    exact ((insF_perm f out).append_left l).trans List.perm_middle
theorem inOrd_wk (l : List Fi) : Wk (inOrdP l) := (inOrd_gen l [] .nil).1
theorem inOrd_perm (l : List Fi) : (inOrdP l).Perm l := by have := (inOrd_gen l [] .nil).2; rwa [List.append_nil] at this
/-! ### all paths -/
def ddP : Option (List UInt8) → List Fi → List (List UInt8)
  | _, [] => []
  | prev, f :: r => if prev = some f.path then ddP (some f.path) r else f.path :: ddP (some f.path) r
theorem dd_gen : ∀ {l : List Fi} {p : List UInt8}, Wk l → (∀ f ∈ l, lessP f.path p = false) → Ris id (ddP (some p) l) ∧ ∀ q, q ∈ ddP (some p) l ↔ q ≠ p ∧ ∃ f ∈ l, f.path = q
  | [], p, _, _ => ⟨.nil, fun q => ⟨fun h => (by cases h), fun ⟨_, f, hf, _⟩ => by cases hf⟩⟩
  | f :: r, p, h, hp => by
    obtain ⟨h1, h2⟩ := List.pairwise_cons.1 h
    obtain ⟨h3, h4⟩ := dd_gen (p := f.path) h2 h1
    have hf := hp f (by simp)
    unfold ddP
    split
    · rename_i e
      have e : p = f.path := by simpa using e
      refine ⟨h3, fun q => ?_⟩
      rw [h4, e]
      refine and_congr_right fun hq => ⟨fun ⟨g, hg, h7⟩ => ⟨g, by simp [hg], h7⟩, fun ⟨g, hg, h7⟩ => ?_⟩
      rcases List.mem_cons.1 hg with e7 | hg
      · rw [e7] at h7; exact absurd h7.symm hq
      · exact ⟨g, hg, h7⟩
    · rename_i e
      have e : p ≠ f.path := by simpa using e
      have hpf : lessP p f.path = true := by
        rcases lessP_tri p f.path with h | h | h
        · exact h
        · exact absurd h e
        · rw [h] at hf; cases hf
      have gt : ∀ g ∈ r, lessP p g.path = true := fun g hg => by
        have := h1 g hg
        rcases lessP_tri f.path g.path with h | h | h
        · exact lessP_trans hpf h
        · rw [← h]; exact hpf
        · rw [h] at this; cases this
      refine ⟨List.pairwise_cons.2 ⟨fun q hq => ?_, h3⟩, fun q => ?_⟩
      · obtain ⟨h5, g, hg, rfl⟩ := (h4 q).1 hq
        have := h1 g hg
        rcases lessP_tri f.path g.path with h | h | h
        · exact h
        · exact absurd h.symm h5
        · rw [h] at this; cases this
      · rw [List.mem_cons, h4]
        constructor
        · rintro (rfl | ⟨h5, g, hg, rfl⟩)
          · exact ⟨Ne.symm e, f, by simp, rfl⟩
          · exact ⟨Ne.symm (less_ne (gt g hg)), g, by simp [hg], rfl⟩
        · rintro ⟨h5, g, hg, rfl⟩
          rcases List.mem_cons.1 hg with rfl | hg
          · exact .inl rfl
          · by_cases e2 : g.path = f.path
            · exact .inl e2
            · exact .inr ⟨e2, g, hg, rfl⟩
theorem dd_spec {l : List Fi} (h : Wk l) : Ris id (ddP none l) ∧ ∀ q, q ∈ ddP none l ↔ ∃ f ∈ l, f.path = q := by
  cases l with
  | nil => exact ⟨.nil, fun q => ⟨fun h => (by cases h), fun ⟨f, hf, _⟩ => by cases hf⟩⟩
  | cons f r =>
    obtain ⟨h1, h2⟩ := List.pairwise_cons.1 h
    obtain ⟨h3, h4⟩ := dd_gen (p := f.path) h2 h1
    have : ddP none (f :: r) = f.path :: ddP (some f.path) r := by rw [ddP, if_neg (by simp)]
    rw [this]
    refine ⟨List.pairwise_cons.2 ⟨fun q hq => ?_, h3⟩, fun q => ?_⟩
    · obtain ⟨h5, g, hg, rfl⟩ := (h4 q).1 hq
      have := h1 g hg
      rcases lessP_tri f.path g.path with h | h | h
      · exact h
      · exact absurd h.symm h5
      · rw [h] at this; cases this
    · rw [List.mem_cons, h4]
      constructor
      · rintro (rfl | ⟨h5, g, hg, rfl⟩)
        · exact ⟨f, by simp, rfl⟩
        · exact ⟨g, by simp [hg], rfl⟩
      · rintro ⟨g, hg, rfl⟩
        rcases List.mem_cons.1 hg with rfl | hg
        · exact .inl rfl
        · by_cases e2 : g.path = f.path
          · exact .inl e2
          · exact .inr ⟨e2, g, hg, rfl⟩
def pathsP (l : List (List Fi)) : List (List UInt8) := ddP none (inOrdP l.flatten)
def chP (a b : List Fi) (p : List UInt8) : Ch := ⟨p, atP a p, atP b p⟩
def changesP (a b : List Fi) : List Ch := ((pathsP [a, b]).map (chP a b)).filter fun c => decide (c.old ≠ c.new)
theorem paths_spec {a b : List Fi} : Ris id (pathsP [a, b]) ∧ ∀ q, q ∈ pathsP [a, b] ↔ Ky a b q := by
  obtain ⟨h1, h2⟩ := dd_spec (inOrd_wk ([a, b].flatten))
  refine ⟨h1, fun q => (h2 q).trans ?_⟩
  constructor
  · rintro ⟨f, hf, e⟩
    have := (inOrd_perm _).mem_iff.1 hf
    simp at this
    exact this.imp (fun h => ⟨f, h, e⟩) (fun h => ⟨f, h, e⟩)
  · rintro (⟨f, hf, e⟩ | ⟨f, hf, e⟩)
    · exact ⟨f, (inOrd_perm _).mem_iff.2 (by simp [hf]), e⟩
    · exact ⟨f, (inOrd_perm _).mem_iff.2 (by simp [hf]), e⟩
/-- what is told is just what is not the same -/
theorem diff_changes {a b : List Fi} (ha : Files a) (hb : Files b) : diffP a b = changesP a b := by
  obtain ⟨h1, h2⟩ := paths_spec (a := a) (b := b)
  refine ris_ext (ris_diff ha hb) ?_ fun c => ?_
  · refine List.Pairwise.filter _ ?_
    rw [List.pairwise_map]
    exact h1
  · rw [mem_diff ha hb]
    unfold changesP
    rw [List.mem_filter, List.mem_map, decide_eq_true_iff]
    constructor
    · rintro ⟨h3, h4, h5, h6⟩
      refine ⟨⟨c.path, (h2 _).2 h3, ?_⟩, h6⟩
      obtain ⟨p, o, n⟩ := c
      simp only at h4 h5
      rw [chP, h4, h5]
    · rintro ⟨⟨p, hp, rfl⟩, h6⟩
      exact ⟨(h2 _).1 hp, rfl, rfl, h6⟩

end Go.Nest
