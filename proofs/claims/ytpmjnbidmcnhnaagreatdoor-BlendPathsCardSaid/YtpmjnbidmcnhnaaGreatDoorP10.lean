/- part -/
import Derived.Test.YtpmjnbidmcnhnaaGreatDoorG12
import Derived.Test.YtpmjnbidmcnhnaaGreatDoorS3
import Derived.Test.YtpmjnbidmcnhnaaGreatDoorP11
set_option linter.unusedVariables false
set_option linter.unusedSimpArgs false
section

namespace Go.Nest
open Go Go.AM
def cutP (s : List UInt8) : List UInt8 × List UInt8 × Bool := if 0 ≤ Lib.indexByte s 47 then (s.take (Lib.indexByte s 47).toNat, s.drop ((Lib.indexByte s 47).toNat + 1), true) else (s, [], false)
theorem cut_of : ∀ {a b : List UInt8}, a.count 47 = 0 → cutP (a ++ 47 :: b) = (a, b, true) := by
 intro a b h
 have key : Lib.indexByte (a ++ 47 :: b) 47 = a.length := by
  induction a with
  | nil => simp [Lib.indexByte]
  | cons c a ih =>
   rw [List.count_cons] at h
   have hc : (c == 47) = false := by
    cases hc : c == 47 with
    | false => rfl
    | true => rw [hc] at h; simp at h
   rw [List.cons_append]
   unfold Lib.indexByte
   rw [hc, ih (by omega)]
   have : ((a.length : Int) == -1) = false := by simp
   simp [this]
 unfold cutP
 rw [key, if_pos (by omega)]
 simp
theorem cut_some {s : List UInt8} (h : ¬ s.count 47 = 0) : ∃ a b, cutP s = (a, b, true) ∧ s = a ++ 47 :: b ∧ a.count 47 = 0 := by
 have key : ∀ {s : List UInt8}, ¬ s.count 47 = 0 → ∃ a b, s = a ++ 47 :: b ∧ a.count 47 = 0 := by
  intro s
  induction s with
  | nil => intro h; simp at h
  | cons c s ih =>
   intro h
   by_cases e : c = 47
   ·exact ⟨[], s, by rw [e]; rfl, rfl⟩
   ·have hc : (c == 47) = false := by simpa using e
    rw [List.count_cons, hc] at h
    obtain ⟨a, b, h1, h2⟩ := ih (by simpa using h)
    exact ⟨c :: a, b, by rw [h1]; rfl, by rw [List.count_cons, hc, h2]; rfl⟩
 obtain ⟨a, b, h1, h2⟩ := key h
 exact ⟨a, b, by rw [h1]; exact cut_of h2, h1, h2⟩
theorem name_stroke {n : List UInt8} (h : nameC n = 0) : n.count 47 = 0 := by
 rw [List.count_eq_zero]
 intro hm
 unfold nameC at h
 rw [if_pos] at h
 ·cases h
 ·refine .inr (.inr (.inr ?_))
  rw [List.any_eq_true]
  exact ⟨47, hm, by decide⟩
def stepE (rec : Int → List (List UInt8) → List Fi → Int × List Fi) (ins : List (List UInt8)) : List Ent → List Fi → Int × List Fi
 | [], out => (0, out)
 | e :: r, out => if e.mode = 2 then (if (rec e.id (ins ++ [e.name]) out).1 ≠ 0 then rec e.id (ins ++ [e.name]) out else stepE rec ins r (rec e.id (ins ++ [e.name]) out).2)
  else if out.length = 60 then (5, out) else stepE rec ins r (out ++ [⟨unsp (ins ++ [e.name]), e.mode, e.id, e.repo⟩])
def goF (L : List Ob) : Nat → Int → List (List UInt8) → List Fi → Int × List Fi
 | 0, _, _, out => (0, out)
 | n + 1, t, ins, out => if kindOf L t ≠ 2 then (9, out) else if 8 ≤ ins.length ∧ 0 < (getP L t).entries.length then (3, out) else stepE (goF L n) ins (getP L t).entries out
def filesP (L : List Ob) (t : Int) : List Fi × Int := if (goF L 9 t [] []).1 = 0 then ((goF L 9 t [] []).2, 0) else ([], (goF L 9 t [] []).1)
def insideP (name : List UInt8) : List Fi → List Fi × List Fi
 | [] => ([], [])
 | f :: r => match under f.path name with
  | none => ([], f :: r)
  | some p => (⟨p, f.mode, f.id, f.repo⟩ :: (insideP name r).1, (insideP name r).2)
def obT (es : List Ent) : Ob := ⟨2, [], es, 0, [], []⟩
def goB : Nat → List Ob → List Ent → List Fi → Int × Int × List Ob
 | 0, L, _, _ => (0, 0, L)
 | n + 1, L, es, [] => putP L (obT es)
 | n + 1, L, es, f :: r => if f.path.count 47 = 0 then goB n L (es ++ [⟨f.path, f.mode, f.id, f.repo⟩]) r
  else if (goB n L [] (insideP (cutP f.path).1 (f :: r)).1).2.1 ≠ 0 then (0, (goB n L [] (insideP (cutP f.path).1 (f :: r)).1).2.1, (goB n L [] (insideP (cutP f.path).1 (f :: r)).1).2.2)
   else goB n (goB n L [] (insideP (cutP f.path).1 (f :: r)).1).2.2 (es ++ [⟨(cutP f.path).1, 2, (goB n L [] (insideP (cutP f.path).1 (f :: r)).1).1, 0⟩]) (insideP (cutP f.path).1 (f :: r)).2
def mu (l : List Fi) : Nat := (l.map fun f => f.path.length + 1).sum
theorem mu_cons {f : Fi} {l : List Fi} : mu (f :: l) = f.path.length + 1 + mu l := by unfold mu; rw [List.map_cons, List.sum_cons]
theorem mu_app {l m : List Fi} : mu (l ++ m) = mu l + mu m := by unfold mu; rw [List.map_append, List.sum_append]
def clashF (p : Option Fi) (f : Fi) : Int := match p with
 | none => 0
 | some g => if lessP g.path f.path = false then 8 else if (under f.path g.path).isSome = true then 10 else 0
def checkF : Option Fi → List Fi → Int
 | _, [] => 0
 | p, f :: r => if (splitP f.path).2 ≠ 0 then (splitP f.path).2 else if f.mode ≠ 1 ∧ f.mode ≠ 3 then 6 else if clashF p f ≠ 0 then clashF p f else checkF (some f) r
def filesF (l : List Fi) : Int := if 60 < l.length then 5 else checkF none l
def buildP (L : List Ob) (l : List Fi) : Int × Int × List Ob := if filesF l ≠ 0 then (0, filesF l, L) else goB (mu l + 1) L [] l
def pre (n : List UInt8) (f : Fi) : Fi := ⟨n ++ 47 :: f.path, f.mode, f.id, f.repo⟩
inductive Ents (ne : Bool) (L : List Ob) : List Ent → List Fi → Prop
 | nil : Ents ne L [] []
 | file {e : Ent} {es : List Ent} {l : List Fi} (hm : e.mode ≠ 2) (h : Ents ne L es l) : Ents ne L (e :: es) (⟨e.name, e.mode, e.id, e.repo⟩ :: l)
 | dir {e : Ent} {es : List Ent} {m l : List Fi} (hm : e.mode = 2) (hk : kindOf L e.id = 2) (hne : ne = true → m ≠ []) (h1 : Ents ne L (getP L e.id).entries m) (h : Ents ne L es l) : Ents ne L (e :: es) (m.map (pre e.name) ++ l)
def TreeOf (ne : Bool) (L : List Ob) (t : Int) (l : List Fi) : Prop := kindOf L t = 2 ∧ Ents ne L (getP L t).entries l
theorem ext_kind {L M : List Ob} (h : L <+: M) {k : Int} (hk : ¬ kindOf L k = 0) : kindOf M k = kindOf L k := by
 obtain ⟨t, rfl⟩ := h; exact kindOf_app hk
theorem ext_get {L M : List Ob} (h : L <+: M) {k : Int} (hk : ¬ kindOf L k = 0) : getP M k = getP L k := by
 obtain ⟨t, rfl⟩ := h
 have := kindOf_pos hk
 exact getP_app (by omega)
theorem Ents.mono {ne : Bool} {L M : List Ob} (hx : L <+: M) {es : List Ent} {l : List Fi} (h : Ents ne L es l) : Ents ne M es l := by
 induction h with
 | nil => exact .nil
 | file hm _ ih => exact .file hm ih
 | @dir e es m l hm hk hne h1 h ih1 ih =>
  refine .dir hm (by rw [ext_kind hx (by omega)]; exact hk) hne ?_ ih
  rw [ext_get hx (by omega)]; exact ih1
theorem Ents.weak {ne : Bool} {L : List Ob} {es : List Ent} {l : List Fi} (h : Ents ne L es l) : Ents false L es l := by
 induction h with
 | nil => exact .nil
 | file hm _ ih => exact .file hm ih
 | dir hm hk hne h1 h ih1 ih => exact .dir hm hk (fun h => by cases h) ih1 ih
theorem PoolOk.tree {L : List Ob} (hp : PoolOk L) {t : Int} (hk : kindOf L t = 2) : getP L t = obT (getP L t).entries ∧ entsF none (getP L t).entries = 0 ∧ (getP L t).entries.length ≤ 60 ∧ (∀ e ∈ (getP L t).entries, kindOf L e.id = e.mode) := by
 have h := hp.get (id := t) (by omega)
 have hk2 := getP_kind (l := L) (id := t)
 rw [hk] at hk2
 have h1 := h.nb (by omega)
 have h2 := h.nc (by omega)
 refine ⟨?_, h.ents, h.entries, ?_⟩
 ·generalize getP L t = o at *
  obtain ⟨a, b, c, d, e, f⟩ := o
  simp only at hk2 h1 h2
  rw [hk2, h1, h2.1, h2.2.1, h2.2.2]; rfl
 ·have hpos := kindOf_pos (l := L) (id := t) (by omega)
  have := (hp.obj (getP L t) (by rw [getP_at hpos.1 hpos.2]; exact List.getElem_mem _)).2
  unfold leadsP at this
  rw [Bool.and_eq_true, List.all_eq_true] at this
  intro e he
  simpa using this.1 e he
def Rise : Option (List UInt8) → List Ent → Prop
 | _, [] => True
 | p, e :: r => (∀ q, p = some q → Op.bytesLess q e.name = true) ∧ Rise (some e.name) r
theorem ents_rise : ∀ {es : List Ent} {p : Option (List UInt8)}, entsF p es = 0 → Rise p es
 | [], _, _ => trivial
 | e :: r, p, h => by
  unfold entsF at h
  split at h
  ·rename_i h0
   refine ⟨fun q hq => ?_, ents_rise h⟩
   subst hq
   unfold entF at h0
   split at h0
   ·exact absurd h0 ‹_›
   split at h0
   ·cases h0
   split at h0
   ·cases h0
   split at h0
   ·cases h0
   simp only at h0
   split at h0
   ·assumption
   ·cases h0
  ·exact absurd h ‹_›
theorem rise_all : ∀ {es : List Ent} {q : List UInt8}, Rise (some q) es → ∀ e ∈ es, Op.bytesLess q e.name = true
 | e :: r, q, ⟨h1, h2⟩, x, hx => by
  rcases List.mem_cons.1 hx with rfl | hx
  ·exact h1 q rfl
  ·exact bl_trans (h1 q rfl) (rise_all h2 x hx)
theorem rise_weak : ∀ {es : List Ent} {p : Option (List UInt8)}, Rise p es → Rise none es
 | [], _, _ => trivial
 | _ :: _, _, ⟨_, h⟩ => ⟨fun _ hq => (by cases hq), h⟩
theorem rise_low : ∀ {es : List Ent} {q r : List UInt8}, Op.bytesLess q r = true → Rise (some r) es → Rise (some q) es
 | [], _, _, _, _ => trivial
 | _ :: _, _, _, h, ⟨h1, h2⟩ => ⟨fun s hs => (by cases hs; exact bl_trans h (h1 _ rfl)), h2⟩
structure EntOk (L : List Ob) (e : Ent) : Prop where
 name : nameC e.name = 0
 m1 : 1 ≤ e.mode
 m3 : e.mode ≤ 3
 id : 0 ≤ e.id
 repo : 0 ≤ e.repo ∧ e.repo < 4
 link : e.mode = 3 ∨ e.repo = 0
 kind : kindOf L e.id = e.mode
theorem EntOk.mono {L M : List Ob} (hx : L <+: M) {e : Ent} (h : EntOk L e) : EntOk M e :=
 ⟨h.name, h.m1, h.m3, h.id, h.repo, h.link, by have := h.kind; have := h.m1; rw [ext_kind hx (by omega)]; exact h.kind⟩
theorem tree_ok {L : List Ob} (hp : PoolOk L) {t : Int} (hk : kindOf L t = 2) : Rise none (getP L t).entries ∧ ∀ e ∈ (getP L t).entries, EntOk L e := by
 obtain ⟨h1, h2, h3, h4⟩ := hp.tree hk
 refine ⟨ents_rise h2, fun e he => ?_⟩
 obtain ⟨g1, g2, g3, g4, g5⟩ := entsF_ok h2 e he
 exact ⟨g1, g2.1, g2.2, g3, g4, g5, h4 e he⟩
theorem ents_zero {L : List Ob} : ∀ {es : List Ent} {p : Option (List UInt8)}, Rise p es → (∀ e ∈ es, EntOk L e) → entsF p es = 0
 | [], _, _, _ => rfl
 | e :: r, p, ⟨h1, h2⟩, h => by
  have he := h e (by simp)
  have h0 : entF p e = 0 := by
   unfold entF
   have g1 := he.name; have g2 := he.m1; have g3 := he.m3; have g4 := he.id; have g5 := he.repo; have g6 := he.link
   rw [if_neg (by simpa using g1), if_neg (by omega), if_neg (by omega)]
   cases p with
   | none => simp; try omega
   | some q => simp [h1 q rfl]; try omega
  unfold entsF
  rw [if_pos h0]
  exact ents_zero h2 fun x hx => h x (by simp [hx])
theorem put_tree {L : List Ob} (hp : PoolOk L) {es : List Ent} (h1 : Rise none es) (h2 : ∀ e ∈ es, EntOk L e) (h3 : es.length ≤ 60) : (putP L (obT es)).2.1 = 0 ∨ (putP L (obT es)).2.1 = 15 := by
 have hf : objF (obT es) = 0 := by
  unfold objF obT treeC
  simp [ents_zero h1 h2]
  omega
 have hl : leadsP L (obT es) = true := by
  unfold leadsP obT
  simp
  intro e he
  exact (h2 e he).kind
 unfold putP
 rw [if_neg (by simpa using hf), if_neg (by simp [hl])]
 split
 ·exact .inl rfl
 split
 ·exact .inr rfl
 ·exact .inl rfl
theorem put_ext {L : List Ob} (o : Ob) : L <+: (putP L o).2.2 := by
 unfold putP
 split
 ·exact List.prefix_refl _
 split
 ·exact List.prefix_refl _
 split
 ·exact List.prefix_refl _
 split
 ·exact List.prefix_refl _
 ·exact List.prefix_append _ _
theorem put_get {L : List Ob} {o : Ob} (h : (putP L o).2.1 = 0) : 0 ≤ (putP L o).1 ∧ getP (putP L o).2.2 (putP L o).1 = o := by
 unfold putP at h ⊢
 split at h
 ·exact absurd h ‹_›
 split at h
 ·cases h
 split at h
 ·rename_i h1 h2 h3
  rw [if_neg h1, if_neg h2, if_pos h3]
  refine ⟨h3, ?_⟩
  show getP L (idxF (fun x => decide (x = o)) L) = o
  unfold idxF at h3 ⊢
  cases hi : L.findIdx? (fun x => decide (x = o)) with
  | none => rw [hi] at h3; simp at h3
  | some i =>
   rw [List.findIdx?_eq_some_iff_getElem] at hi
   obtain ⟨h4, h5, _⟩ := hi
   rw [getP_at (by simp) (by simpa using h4)]
   simpa using h5
 split at h
 ·cases h
 ·rename_i h1 h2 h3 h4
  rw [if_neg h1, if_neg h2, if_neg h3, if_neg h4]
  exact ⟨by simp, getP_end⟩
theorem put_same {L : List Ob} (hp : PoolOk L) {t : Int} (hk : kindOf L t = 2) : putP L (getP L t) = (t, 0, L) := by
 obtain ⟨h1, h2⟩ := kindOf_pos (l := L) (id := t) (by omega)
 rw [getP_at h1 h2, putP_again hp h2]
 simp
 omega
theorem inside_eq (name : List UInt8) : ∀ l : List Fi, l = (insideP name l).1.map (pre name) ++ (insideP name l).2
 | [] => rfl
 | f :: r => by
  have ih := inside_eq name r
  unfold insideP
  cases h : under f.path name with
  | none => rfl
  | some p =>
   simp only [List.map_cons, List.cons_append]
   rw [← ih]
   congr 1
   obtain ⟨a, b, c, d⟩ := f
   have := under_eq h
   simp only at this
   rw [pre, this]
theorem inside_pos {name : List UInt8} {f : Fi} {r : List Fi} {b : List UInt8} (h : f.path = name ++ 47 :: b) : (insideP name (f :: r)).1 ≠ [] := by
 unfold insideP
 rw [h, under_of]; simp
theorem mu_pre (n : List UInt8) : ∀ m : List Fi, mu m + (n.length + 1) * m.length = mu (m.map (pre n))
 | [] => rfl
 | f :: m => by
  have := mu_pre n m
  rw [List.map_cons, mu_cons, mu_cons, List.length_cons, Nat.mul_succ, ← this]
  simp [pre]
  omega
theorem inside_mu {name : List UInt8} {f : Fi} {r : List Fi} {b : List UInt8} (h : f.path = name ++ 47 :: b) : mu (insideP name (f :: r)).1 < mu (f :: r) ∧ mu (insideP name (f :: r)).2 < mu (f :: r) := by
 have h1 := inside_pos (r := r) h
 have h2 := inside_eq name (f :: r)
 have h3 := mu_pre name (insideP name (f :: r)).1
 have h4 : mu (f :: r) = mu ((insideP name (f :: r)).1.map (pre name)) + mu (insideP name (f :: r)).2 := by rw [← mu_app, ← h2]
 have h5 : 0 < (insideP name (f :: r)).1.length := List.length_pos_iff.2 h1
 have h6 : (insideP name (f :: r)).1.length ≤ (name.length + 1) * (insideP name (f :: r)).1.length := Nat.le_mul_of_pos_left _ (by omega)
 omega
theorem inside_of {name : List UInt8} : ∀ {m l : List Fi}, (∀ f ∈ l, under f.path name = none) → insideP name (m.map (pre name) ++ l) = (m, l)
 | [], [], _ => rfl
 | [], f :: l, h => by
  show insideP name (f :: l) = _
  unfold insideP
  rw [h f (by simp)]
 | f :: m, l, h => by
  show insideP name (pre name f :: (m.map (pre name) ++ l)) = _
  unfold insideP
  rw [show (pre name f).path = name ++ 47 :: f.path from rfl, under_of, inside_of h]
  rfl
theorem spl_pre {n : List UInt8} (h : n.count 47 = 0) (p : List UInt8) : spl (n ++ 47 :: p) = n :: spl p := by rw [spl_append, spl_none h]; rfl
theorem Ents.fst {ne : Bool} {L : List Ob} {es : List Ent} {l : List Fi} (h : Ents ne L es l) : (∀ e ∈ es, nameC e.name = 0) → ∀ f ∈ l, ∃ e ∈ es, ∃ r, spl f.path = e.name :: r := by
 induction h with
 | nil => intro _ f hf; cases hf
 | @file e es l hm _ ih =>
  intro hn f hf
  rcases List.mem_cons.1 hf with rfl | hf
  ·exact ⟨e, by simp, [], spl_none (name_stroke (hn e (by simp)))⟩
  ·obtain ⟨e2, h2, h3⟩ := ih (fun x hx => hn x (by simp [hx])) f hf
   exact ⟨e2, by simp [h2], h3⟩
 | @dir e es m l hm hk hne h1 h ih1 ih =>
  intro hn f hf
  rcases List.mem_append.1 hf with hf | hf
  ·obtain ⟨g, hg, rfl⟩ := List.mem_map.1 hf
   exact ⟨e, by simp, spl g.path, spl_pre (name_stroke (hn e (by simp))) _⟩
  ·obtain ⟨e2, h2, h3⟩ := ih (fun x hx => hn x (by simp [hx])) f hf
   exact ⟨e2, by simp [h2], h3⟩
theorem under_fst {p n : List UInt8} (hn : n.count 47 = 0) {x : List UInt8} {r : List (List UInt8)} (h : spl p = x :: r) (hx : x ≠ n) : under p n = none := by
 cases hu : under p n with
 | none => rfl
 | some q =>
  have := under_eq hu
  rw [this, spl_pre hn] at h
  cases h
  exact absurd rfl hx
theorem bl_ne {a b : List UInt8} (h : Op.bytesLess a b = true) : b ≠ a := fun e => by rw [e, bl_irrefl] at h; cases h
theorem Ents.apart {ne : Bool} {L : List Ob} {e : Ent} {es : List Ent} {l : List Fi} {p : Option (List UInt8)} (h : Ents ne L es l) (hn : ∀ x ∈ e :: es, nameC x.name = 0) (hr : Rise p (e :: es)) : ∀ f ∈ l, ∃ x r, spl f.path = x :: r ∧ Op.bytesLess e.name x = true := fun f hf => by
 obtain ⟨e2, h2, r, h3⟩ := h.fst (fun x hx => hn x (by simp [hx])) f hf
 exact ⟨e2.name, r, h3, rise_all hr.2 e2 h2⟩
def Made (ne : Bool) (L0 L : List Ob) (acc es : List Ent) (p : Option (List UInt8)) (r : Int × Int × List Ob) : Prop :=
 ∃ L', L <+: L' ∧ PoolOk L' ∧ ((r.2.1 = 15 ∧ ne = false) ∨ ∃ es', r = putP L' (obT (acc ++ es')) ∧ Rise p es' ∧ (∀ e ∈ es', EntOk L' e) ∧ es'.length ≤ es.length ∧ (ne = true → es' = es ∧ L' = L))
theorem Ents.rebuild {ne : Bool} {L0 : List Ob} (h0 : PoolOk L0) {es : List Ent} {l : List Fi} (h : Ents ne L0 es l) : ∀ (n : Nat) (L : List Ob) (acc : List Ent) (p : Option (List UInt8)), L0 <+: L → PoolOk L → Rise p es → (∀ e ∈ es, EntOk L0 e) → es.length ≤ 60 → mu l < n → Made ne L0 L acc es p (goB n L acc l) := by
 induction h with
 | nil =>
  intro n L acc p hx hp hr he hlen hn
  obtain ⟨n, rfl⟩ : ∃ m, n = m + 1 := ⟨n - 1, by omega⟩
  refine ⟨L, List.prefix_refl _, hp, .inr ⟨[], ?_, trivial, fun e he => (by cases he), Nat.le_refl _, fun _ => ⟨rfl, rfl⟩⟩⟩
  rw [List.append_nil]; rfl
 | @file e es l hm h ih =>
  intro n L acc p hx hp hr he hlen hn
  obtain ⟨n, rfl⟩ : ∃ m, n = m + 1 := ⟨n - 1, by omega⟩
  rw [mu_cons] at hn
  have hE := he e (by simp)
  unfold goB
  rw [if_pos (name_stroke hE.name)]
  obtain ⟨L', g1, g2, g3⟩ := ih n L (acc ++ [e]) (some e.name) hx hp hr.2 (fun x hx => he x (by simp [hx])) (by simp at hlen; omega) (by omega)
  refine ⟨L', g1, g2, g3.imp id ?_⟩
  rintro ⟨es', k1, k2, k3, k4, k5⟩
  refine ⟨e :: es', ?_, ⟨hr.1, k2⟩, fun x hx2 => ?_, by simp; omega, fun h => ⟨by rw [(k5 h).1], (k5 h).2⟩⟩
  ·rw [show acc ++ e :: es' = (acc ++ [e]) ++ es' by simp]; exact k1
  ·rcases List.mem_cons.1 hx2 with rfl | hx2
   ·exact hE.mono (hx.trans g1)
   ·exact k3 x hx2
 | @dir e es m l hm hk hne h1 h ih1 ih =>
  intro n L acc p hx hp hr he hlen hn
  have hE := he e (by simp)
  have hs := name_stroke hE.name
  by_cases hm0 : m = []
  ·subst hm0
   have hne2 : ne = false := by cases ne with | false => rfl | true => exact absurd rfl (hne rfl)
   obtain ⟨L', g1, g2, g3⟩ := ih n L acc p hx hp (by
    cases p with
    | none => exact rise_weak hr.2
    | some q => exact rise_low (hr.1 q rfl) hr.2) (fun x hx => he x (by simp [hx])) (by simp at hlen; omega) (by simpa using hn)
   refine ⟨L', g1, g2, g3.imp id ?_⟩
   rintro ⟨es', k1, k2, k3, k4, k5⟩
   exact ⟨es', k1, k2, k3, by simp; omega, fun h => by rw [hne2] at h; cases h⟩
  obtain ⟨n, rfl⟩ : ∃ m, n = m + 1 := ⟨n - 1, by omega⟩
  obtain ⟨f0, m0, rfl⟩ : ∃ f0 m0, m = f0 :: m0 := by cases m with | nil => exact absurd rfl hm0 | cons a b => exact ⟨a, b, rfl⟩
  have hcut : cutP (pre e.name f0).path = (e.name, f0.path, true) := cut_of hs
  have hin : insideP e.name (pre e.name f0 :: (m0.map (pre e.name) ++ l)) = (f0 :: m0, l) := inside_of (m := f0 :: m0) fun f hf => by
   obtain ⟨x, r, e1, e2⟩ := h.apart (fun x hx => (he x hx).name) hr f hf
   exact under_fst hs e1 (bl_ne e2)
  have hcnt : ¬ (pre e.name f0).path.count 47 = 0 := by
   show ¬ (e.name ++ 47 :: f0.path).count 47 = 0
   rw [List.count_append, List.count_cons_self]; omega
  have hmu := mu_pre e.name (f0 :: m0)
  rw [mu_app] at hn
  rw [List.length_cons] at hmu
  have hmu2 : 0 < (e.name.length + 1) * (m0.length + 1) := Nat.mul_pos (by omega) (by omega)
  rw [List.map_cons, List.cons_append]
  unfold goB
  rw [if_neg hcnt, hcut, hin]
  dsimp only
  obtain ⟨q1, q2⟩ := tree_ok h0 hk
  obtain ⟨L1, g1, g2, g3⟩ := ih1 n L [] none hx hp q1 q2 (h0.tree hk).2.2.1 (by omega)
  have fin15 : ne = false → ∀ {a : Int} {M : List Ob}, Made ne L0 L acc (e :: es) p (a, 15, M) := fun h a M => ⟨L, List.prefix_refl _, hp, .inl ⟨rfl, h⟩⟩
  rcases g3 with ⟨g3, g4⟩ | ⟨es1, k1, k2, k3, k4, k5⟩
  ·rw [if_pos (by rw [g3]; decide), g3]
   exact fin15 g4
  rw [List.nil_append] at k1
  rw [k1]
  have hlen1 : es1.length ≤ 60 := by have := (h0.tree hk).2.2.1; omega
  have htrue : ne = true → putP L1 (obT es1) = (e.id, 0, L) := fun h => by
   obtain ⟨e1, e2⟩ := k5 h
   rw [e1, e2]
   have hk' : kindOf L e.id = 2 := by rw [ext_kind hx (by omega)]; exact hk
   have hg : getP L e.id = getP L0 e.id := ext_get hx (by omega)
   have := put_same hp hk'
   rw [hg, (h0.tree hk).1] at this
   exact this
  rcases put_tree g2 k2 k3 hlen1 with hz | hz
  ·rw [if_neg (by rw [hz]; simp)]
   obtain ⟨z1, z2⟩ := put_get hz
   have zx : L <+: (putP L1 (obT es1)).2.2 := g1.trans (put_ext _)
   have zk : kindOf (putP L1 (obT es1)).2.2 (putP L1 (obT es1)).1 = 2 := by rw [← getP_kind, z2]; rfl
   have newOk : EntOk (putP L1 (obT es1)).2.2 ⟨e.name, 2, (putP L1 (obT es1)).1, 0⟩ := ⟨hE.name, by simp, by simp, z1, by simp, .inr rfl, zk⟩
   obtain ⟨L', j1, j2, j3⟩ := ih n (putP L1 (obT es1)).2.2 (acc ++ [⟨e.name, 2, (putP L1 (obT es1)).1, 0⟩]) (some e.name) (hx.trans zx) (putP_ok g2 _) hr.2 (fun x hx => he x (by simp [hx])) (by simp at hlen; omega) (by omega)
   refine ⟨L', zx.trans j1, j2, j3.imp id ?_⟩
   rintro ⟨es', t1, t2, t3, t4, t5⟩
   refine ⟨⟨e.name, 2, (putP L1 (obT es1)).1, 0⟩ :: es', ?_, ⟨hr.1, t2⟩, fun x hx2 => ?_, by simp; omega, fun h => ?_⟩
   ·rw [t1]; simp
   ·rcases List.mem_cons.1 hx2 with rfl | hx2
    ·exact newOk.mono j1
    ·exact t3 x hx2
   ·rw [htrue h] at t5 ⊢
    refine ⟨?_, (t5 h).2⟩
    rw [(t5 h).1]
    congr 1
    have hrep : e.repo = 0 := by have := hE.link; omega
    obtain ⟨a, b, c, d⟩ := e
    simp only at hm hrep
    rw [hm, hrep]
  ·cases hne2 : ne with
   | true => rw [htrue hne2] at hz; cases hz
   | false =>
    rw [if_pos (by rw [hz]; decide), hz]
    rw [hne2] at fin15
    exact fin15 rfl
theorem tree_again {ne : Bool} {L : List Ob} (hp : PoolOk L) {t : Int} {l : List Fi} (h : TreeOf ne L t l) {n : Nat} (hn : mu l < n) : ((goB n L [] l).2.1 = 0 ∨ (goB n L [] l).2.1 = 15) ∧ (ne = true → goB n L [] l = (t, 0, L)) := by
 obtain ⟨q1, q2⟩ := tree_ok hp h.1
 have q3 := (hp.tree h.1).2.2.1
 obtain ⟨L', g1, g2, g3⟩ := h.2.rebuild hp n L [] none (List.prefix_refl _) hp q1 q2 q3 hn
 rcases g3 with ⟨g3, g4⟩ | ⟨es', k1, k2, k3, k4, k5⟩
 ·exact ⟨.inr g3, fun h => by rw [g4] at h; cases h⟩
 ·rw [List.nil_append] at k1
  rw [k1]
  refine ⟨put_tree g2 k2 k3 (by omega), fun h2 => ?_⟩
  obtain ⟨e1, e2⟩ := k5 h2
  rw [e1, e2, ← (hp.tree h.1).1]
  exact put_same hp h.1
end Go.Nest
end
/- part -/
section

namespace Go.Nest
open Go Go.AM
theorem goB_ok : ∀ (n : Nat) (L : List Ob) (acc : List Ent) (l : List Fi), PoolOk L → PoolOk (goB n L acc l).2.2 ∧ L <+: (goB n L acc l).2.2
 | 0, L, _, _, h => ⟨h, List.prefix_refl _⟩
 | n + 1, L, acc, [], h => ⟨putP_ok h _, put_ext _⟩
 | n + 1, L, acc, f :: r, h => by
  unfold goB
  split
  ·exact goB_ok n L _ r h
  obtain ⟨h1, h2⟩ := goB_ok n L [] (insideP (cutP f.path).1 (f :: r)).1 h
  split
  ·exact ⟨h1, h2⟩
  obtain ⟨h3, h4⟩ := goB_ok n _ (acc ++ [⟨(cutP f.path).1, 2, (goB n L [] (insideP (cutP f.path).1 (f :: r)).1).1, 0⟩]) (insideP (cutP f.path).1 (f :: r)).2 h1
  exact ⟨h3, h2.trans h4⟩
theorem goB_tree : ∀ (n : Nat) (L : List Ob) (acc : List Ent) (l : List Fi), PoolOk L → mu l < n → (∀ f ∈ l, f.mode ≠ 2) → (goB n L acc l).2.1 = 0 → ∃ es, Ents true (goB n L acc l).2.2 es l ∧ getP (goB n L acc l).2.2 (goB n L acc l).1 = obT (acc ++ es)
 | 0, _, _, _, _, h, _, _ => absurd h (by omega)
 | n + 1, L, acc, [], hp, hn, hm, h => by
  unfold goB at h ⊢
  obtain ⟨h1, h2⟩ := put_get h
  exact ⟨[], .nil, by rw [List.append_nil]; exact h2⟩
 | n + 1, L, acc, f :: r, hp, hn, hm, h => by
  rw [mu_cons] at hn
  unfold goB at h ⊢
  split at h
  ·rename_i hc
   rw [if_pos hc]
   obtain ⟨es, h1, h2⟩ := goB_tree n L (acc ++ [⟨f.path, f.mode, f.id, f.repo⟩]) r hp (by omega) (fun x hx => hm x (by simp [hx])) h
   refine ⟨⟨f.path, f.mode, f.id, f.repo⟩ :: es, .file (e := ⟨f.path, f.mode, f.id, f.repo⟩) (hm f (by simp)) h1, ?_⟩
   rw [h2]; simp
  ·rename_i hc
   rw [if_neg hc]
   obtain ⟨a, b, hcut, hab, ha⟩ := cut_some hc
   have hmu := inside_mu (r := r) hab
   rw [mu_cons] at hmu
   have hps := inside_pos (r := r) hab
   have heq := inside_eq a (f :: r)
   rw [hcut] at h ⊢
   dsimp only at h ⊢
   generalize hin : insideP a (f :: r) = I at *
   obtain ⟨m, l'⟩ := I
   dsimp only at *
   split at h
   ·exact absurd h ‹_›
   rename_i h0
   rw [if_neg h0]
   have h0 : (goB n L [] m).2.1 = 0 := Classical.not_not.1 h0
   have hmm : ∀ g ∈ m, g.mode ≠ 2 := fun g hg => hm (pre a g) (by rw [heq]; exact List.mem_append.2 (.inl (List.mem_map.2 ⟨g, hg, rfl⟩)))
   have hml : ∀ g ∈ l', g.mode ≠ 2 := fun g hg => hm g (by rw [heq]; exact List.mem_append.2 (.inr hg))
   obtain ⟨es1, k1, k2⟩ := goB_tree n L [] m hp (by omega) hmm h0
   obtain ⟨p1, p2⟩ := goB_ok n L [] m hp
   obtain ⟨p3, p4⟩ := goB_ok n (goB n L [] m).2.2 (acc ++ [⟨a, 2, (goB n L [] m).1, 0⟩]) l' p1
   obtain ⟨es2, k3, k4⟩ := goB_tree n (goB n L [] m).2.2 (acc ++ [⟨a, 2, (goB n L [] m).1, 0⟩]) l' p1 (by omega) hml h
   have hk : kindOf (goB n L [] m).2.2 (goB n L [] m).1 = 2 := by rw [← getP_kind, k2]; rfl
   refine ⟨⟨a, 2, (goB n L [] m).1, 0⟩ :: es2, ?_, by rw [k4]; simp⟩
   rw [heq]
   refine .dir (e := ⟨a, 2, (goB n L [] m).1, 0⟩) rfl (by rw [ext_kind p4 (by simp only []; omega)]; exact hk) (fun _ => hps) ?_ k3
   simp only []
   rw [ext_get p4 (by omega), k2]
   rw [List.nil_append]
   exact k1.mono p4
theorem checkF_all : ∀ {l : List Fi} {p : Option Fi}, checkF p l = 0 → ∀ f ∈ l, (splitP f.path).2 = 0 ∧ (f.mode = 1 ∨ f.mode = 3)
 | f :: r, p, h, g, hg => by
  unfold checkF at h
  split at h
  ·exact absurd h ‹_›
  split at h
  ·cases h
  split at h
  ·exact absurd h ‹_›
  rcases List.mem_cons.1 hg with rfl | hg
  ·exact ⟨by simpa using ‹¬ (splitP _).2 ≠ 0›, by omega⟩
  ·exact checkF_all h g hg
theorem filesF_all {l : List Fi} (h : filesF l = 0) : l.length ≤ 60 ∧ ∀ f ∈ l, (splitP f.path).2 = 0 ∧ (f.mode = 1 ∨ f.mode = 3) := by
 unfold filesF at h
 split at h
 ·cases h
 ·exact ⟨by omega, checkF_all h⟩
theorem split_zero {s : List UInt8} (h : (splitP s).2 = 0) : namesF (spl s) = 0 ∧ (spl s).length ≤ 8 ∧ (splitP s).1 = spl s := by
 unfold splitP at h ⊢
 split at h
 ·rename_i h1
  split at h
  ·cases h
  ·rename_i h2
   rw [if_pos h1, if_neg h2]
   exact ⟨h1, by omega, rfl⟩
 ·exact absurd h ‹_›
theorem buildP_tree {L : List Ob} (hp : PoolOk L) {l : List Fi} (h : (buildP L l).2.1 = 0) : filesF l = 0 ∧ TreeOf true (buildP L l).2.2 (buildP L l).1 l := by
 unfold buildP at h ⊢
 split at h
 ·exact absurd h ‹_›
 rename_i h1
 rw [if_neg h1]
 have h1 : filesF l = 0 := by simpa using h1
 obtain ⟨es, h2, h3⟩ := goB_tree _ L [] l hp (Nat.lt_succ_self _) (fun f hf => by have := (filesF_all h1).2 f hf; omega) h
 refine ⟨h1, by rw [← getP_kind, h3]; rfl, ?_⟩
 rw [h3]
 rw [List.nil_append]
 exact h2
def full (ins : List (List UInt8)) (f : Fi) : Fi := ⟨unsp (ins ++ [f.path]), f.mode, f.id, f.repo⟩
theorem unsp_end : ∀ (ins : List (List UInt8)) (a b : List UInt8), unsp (ins ++ [a ++ 47 :: b]) = unsp (ins ++ [a] ++ [b])
 | [], a, b => rfl
 | [x], a, b => by simp [unsp]
 | x :: y :: r, a, b => by
  have := unsp_end (y :: r) a b
  simp [unsp] at this ⊢
  exact this
theorem full_pre (ins : List (List UInt8)) (n : List UInt8) (f : Fi) : full ins (pre n f) = full (ins ++ [n]) f := by
 unfold full pre
 rw [unsp_end]
theorem full_nil : full [] = id := by funext f; rfl
theorem Ents.told {L : List Ob} (hp : PoolOk L) {es : List Ent} {l : List Fi} (h : Ents true L es l) : ∀ (n : Nat) (ins : List (List UInt8)) (out : List Fi), ins.length + n = 8 → (∀ e ∈ es, nameC e.name = 0) → (∀ f ∈ l, (spl f.path).length + ins.length ≤ 8) → out.length + l.length ≤ 60 → stepE (goF L n) ins es out = (0, out ++ l.map (full ins)) := by
 induction h with
 | nil => intro n ins out _ _ _ _; simp [stepE]
 | @file e es l hm _ ih =>
  intro n ins out hn hnm hf hlen
  rw [List.length_cons] at hlen
  unfold stepE
  rw [if_neg hm, if_neg (by omega), ih n ins _ hn (fun x hx => hnm x (by simp [hx])) (fun f h => hf f (by simp [h])) (by rw [List.length_append, List.length_singleton]; omega)]
  simp [full]
 | @dir e es m l hm hk hne h1 h ih1 ih =>
  intro n ins out hn hnm hf hlen
  have hs := name_stroke (hnm e (by simp))
  have hm0 := hne rfl
  obtain ⟨f0, m0, rfl⟩ : ∃ f0 m0, m = f0 :: m0 := by cases m with | nil => exact absurd rfl hm0 | cons a b => exact ⟨a, b, rfl⟩
  have hd : ∀ f ∈ f0 :: m0, (spl f.path).length + 1 + ins.length ≤ 8 := fun f h => by
   have := hf (pre e.name f) (List.mem_append.2 (.inl (List.mem_map.2 ⟨f, h, rfl⟩)))
   rw [show (pre e.name f).path = e.name ++ 47 :: f.path from rfl, spl_pre hs, List.length_cons] at this
   exact this
  have h8 := hd f0 (by simp)
  have h9 := spl_pos f0.path
  obtain ⟨n, rfl⟩ : ∃ m, n = m + 1 := ⟨n - 1, by omega⟩
  rw [List.length_append, List.length_map] at hlen
  have hin : goF L (n + 1) e.id (ins ++ [e.name]) out = (0, out ++ (f0 :: m0).map (full (ins ++ [e.name]))) := by
   unfold goF
   rw [if_neg (by simpa using hk), if_neg (by rw [List.length_append, List.length_singleton]; omega)]
   exact ih1 n (ins ++ [e.name]) out (by rw [List.length_append, List.length_singleton]; omega) (fun x hx => (entsF_ok (hp.tree hk).2.1 x hx).1) (fun f h => by rw [List.length_append, List.length_singleton]; have := hd f h; omega) (by omega)
  unfold stepE
  rw [if_pos hm, hin]
  rw [if_neg (by simp)]
  rw [ih (n + 1) ins _ hn (fun x hx => hnm x (by simp [hx])) (fun f h => hf f (List.mem_append.2 (.inr h))) (by rw [List.length_append, List.length_map]; omega)]
  have hc : full ins ∘ pre e.name = full (ins ++ [e.name]) := funext fun f => full_pre ins e.name f
  rw [List.map_append, List.map_map, hc, List.append_assoc]
theorem tree_files {L : List Ob} (hp : PoolOk L) {t : Int} {l : List Fi} (h : TreeOf true L t l) (h1 : l.length ≤ 60) (h2 : ∀ f ∈ l, (spl f.path).length ≤ 8) : filesP L t = (l, 0) := by
 have key : goF L 9 t [] [] = (0, l) := by
  unfold goF
  rw [if_neg (by simpa using h.1), if_neg (by simp)]
  rw [h.2.told hp 8 [] [] rfl (fun x hx => (entsF_ok (hp.tree h.1).2.1 x hx).1) (fun f hf => by simpa using h2 f hf) (by simpa using h1)]
  simp [full_nil]
 unfold filesP
 rw [key]
 simp
def Apt (f g : Fi) : Prop := lessP f.path g.path = true ∧ under g.path f.path = none
theorem apt_fst {f g : Fi} {a b : List UInt8} {r s : List (List UInt8)} (hf : spl f.path = a :: r) (hg : spl g.path = b :: s) (h : Op.bytesLess a b = true) : Apt f g := by
 refine ⟨?_, ?_⟩
 ·unfold lessP
  rw [hf, hg, lessL, if_neg (fun e => bl_ne h e.symm)]; exact h
 ·cases hu : under g.path f.path with
  | none => rfl
  | some q =>
   have := under_eq hu
   rw [this, spl_append, hf] at hg
   cases hg
   rw [bl_irrefl] at h; cases h
theorem apt_pre {n : List UInt8} (hn : n.count 47 = 0) {f g : Fi} (h : Apt f g) : Apt (pre n f) (pre n g) := by
 refine ⟨?_, ?_⟩
 ·unfold lessP
  rw [show (pre n f).path = n ++ 47 :: f.path from rfl, show (pre n g).path = n ++ 47 :: g.path from rfl, spl_pre hn, spl_pre hn, lessL, if_pos rfl]
  exact h.1
 ·cases hu : under (pre n g).path (pre n f).path with
  | none => rfl
  | some q =>
   have h1 := under_eq hu
   have h2 : n ++ 47 :: g.path = (n ++ 47 :: f.path) ++ 47 :: q := h1
   rw [List.append_assoc, List.append_cancel_left_eq] at h2
   have h3 : g.path = f.path ++ 47 :: q := by simpa using h2
   have h4 := h.2
   rw [h3, under_of] at h4; cases h4
theorem Ents.apt {ne : Bool} {L : List Ob} (hp : PoolOk L) {es : List Ent} {l : List Fi} (h : Ents ne L es l) : ∀ {p : Option (List UInt8)}, Rise p es → (∀ e ∈ es, EntOk L e) → l.Pairwise Apt ∧ (∀ f ∈ l, namesF (spl f.path) = 0 ∧ (f.mode = 1 ∨ f.mode = 3)) := by
 induction h with
 | nil => intro p _ _; exact ⟨.nil, fun f hf => by cases hf⟩
 | @file e es l hm h ih =>
  intro p hr he
  have hE := he e (by simp)
  have hs := name_stroke hE.name
  obtain ⟨h1, h2⟩ := ih hr.2 (fun x hx => he x (by simp [hx]))
  refine ⟨List.pairwise_cons.2 ⟨fun g hg => ?_, h1⟩, fun f hf => ?_⟩
  ·obtain ⟨x, r, e1, e2⟩ := h.apart (fun x hx => (he x hx).name) hr g hg
   exact apt_fst (spl_none hs) e1 e2
  ·rcases List.mem_cons.1 hf with rfl | hf
   ·refine ⟨?_, ?_⟩
    ·rw [spl_none hs]; simp [namesF, hE.name]
    ·have := hE.m1; have := hE.m3; show e.mode = 1 ∨ e.mode = 3; omega
   ·exact h2 f hf
 | @dir e es m l hm hk hne h1 h ih1 ih =>
  intro p hr he
  have hE := he e (by simp)
  have hs := name_stroke hE.name
  obtain ⟨q1, q2⟩ := tree_ok hp hk
  obtain ⟨g1, g2⟩ := ih1 q1 q2
  obtain ⟨g3, g4⟩ := ih hr.2 (fun x hx => he x (by simp [hx]))
  refine ⟨List.pairwise_append.2 ⟨?_, g3, fun f hf g hg => ?_⟩, fun f hf => ?_⟩
  ·rw [List.pairwise_map]
   exact g1.imp fun h => apt_pre hs h
  ·obtain ⟨f, hf, rfl⟩ := List.mem_map.1 hf
   obtain ⟨x, r, e1, e2⟩ := h.apart (fun x hx => (he x hx).name) hr g hg
   exact apt_fst (spl_pre hs f.path) e1 e2
  ·rcases List.mem_append.1 hf with hf | hf
   ·obtain ⟨g, hg, rfl⟩ := List.mem_map.1 hf
    refine ⟨?_, (g2 g hg).2⟩
    rw [show (pre e.name g).path = e.name ++ 47 :: g.path from rfl, spl_pre hs]
    unfold namesF
    rw [if_pos hE.name]; exact (g2 g hg).1
   ·exact g4 f hf
theorem check_of : ∀ {l : List Fi} {p : Option Fi}, (∀ g, p = some g → ∀ f ∈ l, Apt g f) → l.Pairwise Apt → (∀ f ∈ l, (splitP f.path).2 = 0 ∧ (f.mode = 1 ∨ f.mode = 3)) → checkF p l = 0
 | [], _, _, _, _ => rfl
 | f :: r, p, hp, h, hf => by
  obtain ⟨h1, h2⟩ := List.pairwise_cons.1 h
  have hc : clashF p f = 0 := by
   cases p with
   | none => rfl
   | some g =>
    have := hp g rfl f (by simp)
    unfold clashF
    simp [this.1, this.2]
  have h3 := hf f (by simp)
  unfold checkF
  rw [if_neg (by simpa using h3.1), if_neg (by omega), if_neg (by simpa using hc)]
  exact check_of (fun g hg x hx => by cases hg; exact h1 x hx) h2 fun x hx => hf x (by simp [hx])
def Bare (L : List Ob) (k : Int) : Prop := kindOf L k = 2 ∧ (getP L k).entries = []
theorem led_trans {L : List Ob} {i j k : Int} (h1 : Led L [i] j) (h2 : Led L [j] k) : Led L [i] k := by
 induction h2 with
 | base h hk => rw [List.mem_singleton] at h; subst h; exact h1
 | step _ hk ih => exact .step ih hk
theorem Ents.bare {L : List Ob} {es : List Ent} {l : List Fi} (h : Ents false L es l) : Ents true L es l ∨ ∃ e ∈ es, e.mode = 2 ∧ ∃ k, Led L [e.id] k ∧ Bare L k := by
 induction h with
 | nil => exact .inl .nil
 | @file e es l hm _ ih =>
  rcases ih with h | ⟨e2, h2, h3⟩
  ·exact .inl (.file hm h)
  ·exact .inr ⟨e2, by simp [h2], h3⟩
 | @dir e es m l hm hk hne h1 h ih1 ih =>
  have lb : Led L [e.id] e.id := .base (by simp) (by omega)
  rcases ih1 with g | ⟨e2, h2, h3, k, h4, h5⟩
  ·by_cases hm0 : m = []
   ·subst hm0
    refine .inr ⟨e, by simp, hm, e.id, lb, hk, ?_⟩
    cases hg : (getP L e.id).entries with
    | nil => rfl
    | cons x r =>
     rw [hg] at g
     generalize hq : ([] : List Fi) = q at g
     cases g with
     | file _ _ => cases hq
     | dir _ _ hn _ _ =>
      have := (List.append_eq_nil_iff.1 hq.symm).1
      rw [List.map_eq_nil_iff] at this
      exact absurd this (hn rfl)
   ·rcases ih with h | ⟨e2, h2, h3⟩
    ·exact .inl (.dir hm hk (fun _ => hm0) g h)
    ·exact .inr ⟨e2, by simp [h2], h3⟩
  ·refine .inr ⟨e, by simp, hm, k, ?_, h5⟩
   refine led_trans (.step lb ?_) h4
   unfold nextP
   rw [List.mem_append, List.mem_map]
   exact .inl ⟨e2, List.mem_filter.2 ⟨h2, by simp [h3]⟩, rfl⟩
theorem TreeOf.mono {ne : Bool} {L M : List Ob} (hx : L <+: M) {t : Int} {l : List Fi} (h : TreeOf ne L t l) : TreeOf ne M t l := by
 have hk := h.1
 exact ⟨by rw [ext_kind hx (by omega)]; exact hk, by rw [ext_get hx (by omega)]; exact h.2.mono hx⟩
theorem Bare.mono {L M : List Ob} (hx : L <+: M) {k : Int} (h : Bare L k) : Bare M k := by
 have hk := h.1
 exact ⟨by rw [ext_kind hx (by omega)]; exact hk, by rw [ext_get hx (by omega)]; exact h.2⟩
end Go.Nest
end
/- part -/
section

namespace Go.Nest
open Go Go.AM
theorem between : ∀ {x y z : List (List UInt8)}, lessL x y = true → lessL y (x ++ z) = true → ∃ w, w ≠ [] ∧ y = x ++ w
 | [], [], _, h, _ => by simp [lessL] at h
 | [], b :: y, _, _, _ => ⟨b :: y, by simp, rfl⟩
 | a :: x, [], _, h, _ => by simp [lessL] at h
 | a :: x, b :: y, z, h1, h2 => by
  rw [List.cons_append] at h2
  unfold lessL at h1 h2
  by_cases e : a = b
  ·subst e
   rw [if_pos rfl] at h1 h2
   obtain ⟨w, hw, e⟩ := between h1 h2
   exact ⟨w, hw, by rw [e]; rfl⟩
  ·rw [if_neg e] at h1
   rw [if_neg (Ne.symm e)] at h2
   have := bl_asymm h1
   rw [h2] at this; cases this
end Go.Nest
end
