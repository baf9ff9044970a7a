/- part -/
import Derived.Test.YtpmjnbidmcnhnaaGreatDoorP8
set_option linter.unusedVariables false
set_option linter.unusedSimpArgs false
section

namespace Go.Nest
open Go Go.AM
theorem goB_ok : ∀ (n : Nat) (L : List Ob) (acc : List Ent) (l : List Fi), PoolOk L → PoolOk (goB n L acc l).2.2 ∧ L <+: (goB n L acc l).2.2
 | 0, L, _, _, h => ⟨h, List.prefix_refl _⟩
 | n + 1, L, acc, [], h => ⟨putP_ok h _, put_ext _⟩
 | n + 1, L, acc, f :: r, h => by
  unfold goB
  split
  ·exact goB_ok n L _ r h
  obtain ⟨h1, h2⟩ := goB_ok n L [] (insideP (cutP f.path).1 (f :: r)).1 h
  split
  ·exact ⟨h1, h2⟩
  obtain ⟨h3, h4⟩ := goB_ok n _ (acc ++ [⟨(cutP f.path).1, 2, (goB n L [] (insideP (cutP f.path).1 (f :: r)).1).1, 0⟩]) (insideP (cutP f.path).1 (f :: r)).2 h1
  exact ⟨h3, h2.trans h4⟩
theorem goB_tree : ∀ (n : Nat) (L : List Ob) (acc : List Ent) (l : List Fi), PoolOk L → mu l < n → (∀ f ∈ l, f.mode ≠ 2) → (goB n L acc l).2.1 = 0 → ∃ es, Ents true (goB n L acc l).2.2 es l ∧ getP (goB n L acc l).2.2 (goB n L acc l).1 = obT (acc ++ es)
 | 0, _, _, _, _, h, _, _ => absurd h (by omega)
 | n + 1, L, acc, [], hp, hn, hm, h => by
  unfold goB at h ⊢
  obtain ⟨h1, h2⟩ := put_get h
  exact ⟨[], .nil, by rw [List.append_nil]; exact h2⟩
 | n + 1, L, acc, f :: r, hp, hn, hm, h => by
  rw [mu_cons] at hn
  unfold goB at h ⊢
  split at h
  ·rename_i hc
   rw [if_pos hc]
   obtain ⟨es, h1, h2⟩ := goB_tree n L (acc ++ [⟨f.path, f.mode, f.id, f.repo⟩]) r hp (by omega) (fun x hx => hm x (by simp [hx])) h
   refine ⟨⟨f.path, f.mode, f.id, f.repo⟩ :: es, .file (e := ⟨f.path, f.mode, f.id, f.repo⟩) (hm f (by simp)) h1, ?_⟩
   rw [h2]; simp
  ·rename_i hc
   rw [if_neg hc]
   obtain ⟨a, b, hcut, hab, ha⟩ := cut_some hc
   have hmu := inside_mu (r := r) hab
   rw [mu_cons] at hmu
   have hps := inside_pos (r := r) hab
   have heq := inside_eq a (f :: r)
   rw [hcut] at h ⊢
   dsimp only at h ⊢
   generalize hin : insideP a (f :: r) = I at *
   obtain ⟨m, l'⟩ := I
   dsimp only at *
   split at h
   ·exact absurd h ‹_›
   rename_i h0
   rw [if_neg h0]
   have h0 : (goB n L [] m).2.1 = 0 := Classical.not_not.1 h0
   have hmm : ∀ g ∈ m, g.mode ≠ 2 := fun g hg => hm (pre a g) (by rw [heq]; exact List.mem_append.2 (.inl (List.mem_map.2 ⟨g, hg, rfl⟩)))
   have hml : ∀ g ∈ l', g.mode ≠ 2 := fun g hg => hm g (by rw [heq]; exact List.mem_append.2 (.inr hg))
   obtain ⟨es1, k1, k2⟩ := goB_tree n L [] m hp (by omega) hmm h0
   obtain ⟨p1, p2⟩ := goB_ok n L [] m hp
   obtain ⟨p3, p4⟩ := goB_ok n (goB n L [] m).2.2 (acc ++ [⟨a, 2, (goB n L [] m).1, 0⟩]) l' p1
   obtain ⟨es2, k3, k4⟩ := goB_tree n (goB n L [] m).2.2 (acc ++ [⟨a, 2, (goB n L [] m).1, 0⟩]) l' p1 (by omega) hml h
   have hk : kindOf (goB n L [] m).2.2 (goB n L [] m).1 = 2 := by rw [← getP_kind, k2]; rfl
   refine ⟨⟨a, 2, (goB n L [] m).1, 0⟩ :: es2, ?_, by rw [k4]; simp⟩
   rw [heq]
   refine .dir (e := ⟨a, 2, (goB n L [] m).1, 0⟩) rfl (by rw [ext_kind p4 (by simp only []; omega)]; exact hk) (fun _ => hps) ?_ k3
   simp only []
   rw [ext_get p4 (by omega), k2]
   rw [List.nil_append]
   exact k1.mono p4
theorem checkF_all : ∀ {l : List Fi} {p : Option Fi}, checkF p l = 0 → ∀ f ∈ l, (splitP f.path).2 = 0 ∧ (f.mode = 1 ∨ f.mode = 3)
 | f :: r, p, h, g, hg => by
  unfold checkF at h
  split at h
  ·exact absurd h ‹_›
  split at h
  ·cases h
  split at h
  ·exact absurd h ‹_›
  rcases List.mem_cons.1 hg with rfl | hg
  ·exact ⟨by simpa using ‹¬ (splitP _).2 ≠ 0›, by omega⟩
  ·exact checkF_all h g hg
theorem filesF_all {l : List Fi} (h : filesF l = 0) : l.length ≤ 60 ∧ ∀ f ∈ l, (splitP f.path).2 = 0 ∧ (f.mode = 1 ∨ f.mode = 3) := by
 unfold filesF at h
 split at h
 ·cases h
 ·exact ⟨by omega, checkF_all h⟩
theorem split_zero {s : List UInt8} (h : (splitP s).2 = 0) : namesF (spl s) = 0 ∧ (spl s).length ≤ 8 ∧ (splitP s).1 = spl s := by
 unfold splitP at h ⊢
 split at h
 ·rename_i h1
  split at h
  ·cases h
  ·rename_i h2
   rw [if_pos h1, if_neg h2]
   exact ⟨h1, by omega, rfl⟩
 ·exact absurd h ‹_›
theorem buildP_tree {L : List Ob} (hp : PoolOk L) {l : List Fi} (h : (buildP L l).2.1 = 0) : filesF l = 0 ∧ TreeOf true (buildP L l).2.2 (buildP L l).1 l := by
 unfold buildP at h ⊢
 split at h
 ·exact absurd h ‹_›
 rename_i h1
 rw [if_neg h1]
 have h1 : filesF l = 0 := by simpa using h1
 obtain ⟨es, h2, h3⟩ := goB_tree _ L [] l hp (Nat.lt_succ_self _) (fun f hf => by have := (filesF_all h1).2 f hf; omega) h
 refine ⟨h1, by rw [← getP_kind, h3]; rfl, ?_⟩
 rw [h3]
 rw [List.nil_append]
 exact h2
def full (ins : List (List UInt8)) (f : Fi) : Fi := ⟨unsp (ins ++ [f.path]), f.mode, f.id, f.repo⟩
theorem unsp_end : ∀ (ins : List (List UInt8)) (a b : List UInt8), unsp (ins ++ [a ++ 47 :: b]) = unsp (ins ++ [a] ++ [b])
 | [], a, b => rfl
 | [x], a, b => by simp [unsp]
 | x :: y :: r, a, b => by
  have := unsp_end (y :: r) a b
  simp [unsp] at this ⊢
  exact this
theorem full_pre (ins : List (List UInt8)) (n : List UInt8) (f : Fi) : full ins (pre n f) = full (ins ++ [n]) f := by
 unfold full pre
 rw [unsp_end]
theorem full_nil : full [] = id := by funext f; rfl
theorem Ents.told {L : List Ob} (hp : PoolOk L) {es : List Ent} {l : List Fi} (h : Ents true L es l) : ∀ (n : Nat) (ins : List (List UInt8)) (out : List Fi), ins.length + n = 8 → (∀ e ∈ es, nameC e.name = 0) → (∀ f ∈ l, (spl f.path).length + ins.length ≤ 8) → out.length + l.length ≤ 60 → stepE (goF L n) ins es out = (0, out ++ l.map (full ins)) := by
 induction h with
 | nil => intro n ins out _ _ _ _; simp [stepE]
 | @file e es l hm _ ih =>
  intro n ins out hn hnm hf hlen
  rw [List.length_cons] at hlen
  unfold stepE
  rw [if_neg hm, if_neg (by omega), ih n ins _ hn (fun x hx => hnm x (by simp [hx])) (fun f h => hf f (by simp [h])) (by rw [List.length_append, List.length_singleton]; omega)]
  simp [full]
 | @dir e es m l hm hk hne h1 h ih1 ih =>
  intro n ins out hn hnm hf hlen
  have hs := name_stroke (hnm e (by simp))
  have hm0 := hne rfl
  obtain ⟨f0, m0, rfl⟩ : ∃ f0 m0, m = f0 :: m0 := by cases m with | nil => exact absurd rfl hm0 | cons a b => exact ⟨a, b, rfl⟩
  have hd : ∀ f ∈ f0 :: m0, (spl f.path).length + 1 + ins.length ≤ 8 := fun f h => by
   have := hf (pre e.name f) (List.mem_append.2 (.inl (List.mem_map.2 ⟨f, h, rfl⟩)))
   rw [show (pre e.name f).path = e.name ++ 47 :: f.path from rfl, spl_pre hs, List.length_cons] at this
   exact this
  have h8 := hd f0 (by simp)
  have h9 := spl_pos f0.path
  obtain ⟨n, rfl⟩ : ∃ m, n = m + 1 := ⟨n - 1, by omega⟩
  rw [List.length_append, List.length_map] at hlen
  have hin : goF L (n + 1) e.id (ins ++ [e.name]) out = (0, out ++ (f0 :: m0).map (full (ins ++ [e.name]))) := by
   unfold goF
   rw [if_neg (by simpa using hk), if_neg (by rw [List.length_append, List.length_singleton]; omega)]
   exact ih1 n (ins ++ [e.name]) out (by rw [List.length_append, List.length_singleton]; omega) (fun x hx => (entsF_ok (hp.tree hk).2.1 x hx).1) (fun f h => by rw [List.length_append, List.length_singleton]; have := hd f h; omega) (by omega)
  unfold stepE
  rw [if_pos hm, hin]
  rw [if_neg (by simp)]
  rw [ih (n + 1) ins _ hn (fun x hx => hnm x (by simp [hx])) (fun f h => hf f (List.mem_append.2 (.inr h))) (by rw [List.length_append, List.length_map]; omega)]
  have hc : full ins ∘ pre e.name = full (ins ++ [e.name]) := funext fun f => full_pre ins e.name f
  rw [List.map_append, List.map_map, hc, List.append_assoc]
theorem tree_files {L : List Ob} (hp : PoolOk L) {t : Int} {l : List Fi} (h : TreeOf true L t l) (h1 : l.length ≤ 60) (h2 : ∀ f ∈ l, (spl f.path).length ≤ 8) : filesP L t = (l, 0) := by
 have key : goF L 9 t [] [] = (0, l) := by
  unfold goF
  rw [if_neg (by simpa using h.1), if_neg (by simp)]
  rw [h.2.told hp 8 [] [] rfl (fun x hx => (entsF_ok (hp.tree h.1).2.1 x hx).1) (fun f hf => by simpa using h2 f hf) (by simpa using h1)]
  simp [full_nil]
 unfold filesP
 rw [key]
 simp
def Apt (f g : Fi) : Prop := lessP f.path g.path = true ∧ under g.path f.path = none
theorem apt_fst {f g : Fi} {a b : List UInt8} {r s : List (List UInt8)} (hf : spl f.path = a :: r) (hg : spl g.path = b :: s) (h : Op.bytesLess a b = true) : Apt f g := by
 refine ⟨?_, ?_⟩
 ·unfold lessP
  rw [hf, hg, lessL, if_neg (fun e => bl_ne h e.symm)]; exact h
 ·cases hu : under g.path f.path with
  | none => rfl
  | some q =>
   have := under_eq hu
   rw [this, spl_append, hf] at hg
   cases hg
   rw [bl_irrefl] at h; cases h
theorem apt_pre {n : List UInt8} (hn : n.count 47 = 0) {f g : Fi} (h : Apt f g) : Apt (pre n f) (pre n g) := by
 refine ⟨?_, ?_⟩
 ·unfold lessP
  rw [show (pre n f).path = n ++ 47 :: f.path from rfl, show (pre n g).path = n ++ 47 :: g.path from rfl, spl_pre hn, spl_pre hn, lessL, if_pos rfl]
  exact h.1
 ·cases hu : under (pre n g).path (pre n f).path with
  | none => rfl
  | some q =>
   have h1 := under_eq hu
   have h2 : n ++ 47 :: g.path = (n ++ 47 :: f.path) ++ 47 :: q := h1
   rw [List.append_assoc, List.append_cancel_left_eq] at h2
   have h3 : g.path = f.path ++ 47 :: q := by simpa using h2
   have h4 := h.2
   rw [h3, under_of] at h4; cases h4
theorem Ents.apt {ne : Bool} {L : List Ob} (hp : PoolOk L) {es : List Ent} {l : List Fi} (h : Ents ne L es l) : ∀ {p : Option (List UInt8)}, Rise p es → (∀ e ∈ es, EntOk L e) → l.Pairwise Apt ∧ (∀ f ∈ l, namesF (spl f.path) = 0 ∧ (f.mode = 1 ∨ f.mode = 3)) := by
 induction h with
 | nil => intro p _ _; exact ⟨.nil, fun f hf => by cases hf⟩
 | @file e es l hm h ih =>
  intro p hr he
  have hE := he e (by simp)
  have hs := name_stroke hE.name
  obtain ⟨h1, h2⟩ := ih hr.2 (fun x hx => he x (by simp [hx]))
  refine ⟨List.pairwise_cons.2 ⟨fun g hg => ?_, h1⟩, fun f hf => ?_⟩
  ·obtain ⟨x, r, e1, e2⟩ := h.apart (fun x hx => (he x hx).name) hr g hg
   exact apt_fst (spl_none hs) e1 e2
  ·rcases List.mem_cons.1 hf with rfl | hf
   ·refine ⟨?_, ?_⟩
    ·rw [spl_none hs]; simp [namesF, hE.name]
    ·have := hE.m1; have := hE.m3; show e.mode = 1 ∨ e.mode = 3; omega
   ·exact h2 f hf
 | @dir e es m l hm hk hne h1 h ih1 ih =>
  intro p hr he
  have hE := he e (by simp)
  have hs := name_stroke hE.name
  obtain ⟨q1, q2⟩ := tree_ok hp hk
  obtain ⟨g1, g2⟩ := ih1 q1 q2
  obtain ⟨g3, g4⟩ := ih hr.2 (fun x hx => he x (by simp [hx]))
  refine ⟨List.pairwise_append.2 ⟨?_, g3, fun f hf g hg => ?_⟩, fun f hf => ?_⟩
  ·rw [List.pairwise_map]
   exact g1.imp fun h => apt_pre hs h
  ·obtain ⟨f, hf, rfl⟩ := List.mem_map.1 hf
   obtain ⟨x, r, e1, e2⟩ := h.apart (fun x hx => (he x hx).name) hr g hg
   exact apt_fst (spl_pre hs f.path) e1 e2
  ·rcases List.mem_append.1 hf with hf | hf
   ·obtain ⟨g, hg, rfl⟩ := List.mem_map.1 hf
    refine ⟨?_, (g2 g hg).2⟩
    rw [show (pre e.name g).path = e.name ++ 47 :: g.path from rfl, spl_pre hs]
    unfold namesF
    rw [if_pos hE.name]; exact (g2 g hg).1
   ·exact g4 f hf
theorem check_of : ∀ {l : List Fi} {p : Option Fi}, (∀ g, p = some g → ∀ f ∈ l, Apt g f) → l.Pairwise Apt → (∀ f ∈ l, (splitP f.path).2 = 0 ∧ (f.mode = 1 ∨ f.mode = 3)) → checkF p l = 0
 | [], _, _, _, _ => rfl
 | f :: r, p, hp, h, hf => by
  obtain ⟨h1, h2⟩ := List.pairwise_cons.1 h
  have hc : clashF p f = 0 := by
   cases p with
   | none => rfl
   | some g =>
    have := hp g rfl f (by simp)
    unfold clashF
    simp [this.1, this.2]
  have h3 := hf f (by simp)
  unfold checkF
  rw [if_neg (by simpa using h3.1), if_neg (by omega), if_neg (by simpa using hc)]
  exact check_of (fun g hg x hx => by cases hg; exact h1 x hx) h2 fun x hx => hf x (by simp [hx])
def Bare (L : List Ob) (k : Int) : Prop := kindOf L k = 2 ∧ (getP L k).entries = []
theorem led_trans {L : List Ob} {i j k : Int} (h1 : Led L [i] j) (h2 : Led L [j] k) : Led L [i] k := by
 induction h2 with
 | base h hk => rw [List.mem_singleton] at h; subst h; exact h1
 | step _ hk ih => exact .step ih hk
theorem Ents.bare {L : List Ob} {es : List Ent} {l : List Fi} (h : Ents false L es l) : Ents true L es l ∨ ∃ e ∈ es, e.mode = 2 ∧ ∃ k, Led L [e.id] k ∧ Bare L k := by
 induction h with
 | nil => exact .inl .nil
 | @file e es l hm _ ih =>
  rcases ih with h | ⟨e2, h2, h3⟩
  ·exact .inl (.file hm h)
  ·exact .inr ⟨e2, by simp [h2], h3⟩
 | @dir e es m l hm hk hne h1 h ih1 ih =>
  have lb : Led L [e.id] e.id := .base (by simp) (by omega)
  rcases ih1 with g | ⟨e2, h2, h3, k, h4, h5⟩
  ·by_cases hm0 : m = []
   ·subst hm0
    refine .inr ⟨e, by simp, hm, e.id, lb, hk, ?_⟩
    cases hg : (getP L e.id).entries with
    | nil => rfl
    | cons x r =>
     rw [hg] at g
     generalize hq : ([] : List Fi) = q at g
     cases g with
     | file _ _ => cases hq
     | dir _ _ hn _ _ =>
      have := (List.append_eq_nil_iff.1 hq.symm).1
      rw [List.map_eq_nil_iff] at this
      exact absurd this (hn rfl)
   ·rcases ih with h | ⟨e2, h2, h3⟩
    ·exact .inl (.dir hm hk (fun _ => hm0) g h)
    ·exact .inr ⟨e2, by simp [h2], h3⟩
  ·refine .inr ⟨e, by simp, hm, k, ?_, h5⟩
   refine led_trans (.step lb ?_) h4
   unfold nextP
   rw [List.mem_append, List.mem_map]
   exact .inl ⟨e2, List.mem_filter.2 ⟨h2, by simp [h3]⟩, rfl⟩
theorem TreeOf.mono {ne : Bool} {L M : List Ob} (hx : L <+: M) {t : Int} {l : List Fi} (h : TreeOf ne L t l) : TreeOf ne M t l := by
 have hk := h.1
 exact ⟨by rw [ext_kind hx (by omega)]; exact hk, by rw [ext_get hx (by omega)]; exact h.2.mono hx⟩
theorem Bare.mono {L M : List Ob} (hx : L <+: M) {k : Int} (h : Bare L k) : Bare M k := by
 have hk := h.1
 exact ⟨by rw [ext_kind hx (by omega)]; exact hk, by rw [ext_get hx (by omega)]; exact h.2⟩
end Go.Nest
end
/- part -/
section

namespace Go.Nest
open Go Go.AM
theorem between : ∀ {x y z : List (List UInt8)}, lessL x y = true → lessL y (x ++ z) = true → ∃ w, w ≠ [] ∧ y = x ++ w
 | [], [], _, h, _ => by simp [lessL] at h
 | [], b :: y, _, _, _ => ⟨b :: y, by simp, rfl⟩
 | a :: x, [], _, h, _ => by simp [lessL] at h
 | a :: x, b :: y, z, h1, h2 => by
  rw [List.cons_append] at h2
  unfold lessL at h1 h2
  by_cases e : a = b
  ·subst e
   rw [if_pos rfl] at h1 h2
   obtain ⟨w, hw, e⟩ := between h1 h2
   exact ⟨w, hw, by rw [e]; rfl⟩
  ·rw [if_neg e] at h1
   rw [if_neg (Ne.symm e)] at h2
   have := bl_asymm h1
   rw [h2] at this; cases this
end Go.Nest
end
