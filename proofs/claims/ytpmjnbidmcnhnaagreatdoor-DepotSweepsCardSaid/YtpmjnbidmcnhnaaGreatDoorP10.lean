/- part -/
import Derived.Test.YtpmjnbidmcnhnaaGreatDoorP9
set_option linter.unusedVariables false
set_option linter.unusedSimpArgs false

namespace Go.Nest
open Go Go.AM
def fstN (p : List UInt8) : List UInt8 := (spl p)[0]'(spl_pos p)
theorem fstN_of {p x : List UInt8} {r : List (List UInt8)} (h : spl p = x :: r) : fstN p = x := by
 unfold fstN
 simp [h]
theorem fstN_file {p : List UInt8} (h : p.count 47 = 0) : fstN p = p := fstN_of (spl_none h)
theorem fstN_dir {a b : List UInt8} (h : a.count 47 = 0) : fstN (a ++ 47 :: b) = a := fstN_of (spl_pre h b)
theorem spl_fst (p : List UInt8) : ∃ r, spl p = fstN p :: r := by
 cases h : spl p with
 | nil => exact absurd h (spl_ne p)
 | cons x r => exact ⟨r, by rw [fstN_of h]⟩
def lastN (es : List Ent) : Option (List UInt8) := es.getLast?.map (·.name)
theorem lastN_snoc {es : List Ent} {e : Ent} : lastN (es ++ [e]) = some e.name := by unfold lastN; simp
def goT : Nat → List Ob → List Ent → List Fi → Int × Int × List Ob
 | 0, L, _, _ => (0, 0, L)
 | n + 1, L, es, [] => putP L (obT es)
 | n + 1, L, es, f :: r => if f.path.count 47 = 0 then goT n L (es ++ [⟨fstN f.path, f.mode, f.id, f.repo⟩]) r
  else if lastN es = some (fstN f.path) then goT n L es r
  else if (goT n L [] (behindF (fstN f.path) (f :: r))).2.1 ≠ 0 then (0, (goT n L [] (behindF (fstN f.path) (f :: r))).2.1, (goT n L [] (behindF (fstN f.path) (f :: r))).2.2)
   else goT n (goT n L [] (behindF (fstN f.path) (f :: r))).2.2 (es ++ [⟨fstN f.path, 2, (goT n L [] (behindF (fstN f.path) (f :: r))).1, 0⟩]) r
theorem between : ∀ {x y z : List (List UInt8)}, lessL x y = true → lessL y (x ++ z) = true → ∃ w, w ≠ [] ∧ y = x ++ w
 | [], [], _, h, _ => by simp [lessL] at h
 | [], b :: y, _, _, _ => ⟨b :: y, by simp, rfl⟩
 | a :: x, [], _, h, _ => by simp [lessL] at h
 | a :: x, b :: y, z, h1, h2 => by
  rw [List.cons_append] at h2
  unfold lessL at h1 h2
  by_cases e : a = b
  ·subst e
   rw [if_pos rfl] at h1 h2
   obtain ⟨w, hw, e⟩ := between h1 h2
   exact ⟨w, hw, by rw [e]; rfl⟩
  ·rw [if_neg e] at h1
   rw [if_neg (Ne.symm e)] at h2
   have := bl_asymm h1
   rw [h2] at this; cases this
theorem unsp_app : ∀ {x w : List (List UInt8)}, x ≠ [] → w ≠ [] → unsp (x ++ w) = unsp x ++ 47 :: unsp w
 | [], _, h, _ => absurd rfl h
 | [a], b :: w, _, _ => by simp [unsp]
 | a :: a2 :: x, w, _, hw => by
  have := unsp_app (x := a2 :: x) (w := w) (by simp) hw
  simp [unsp] at this ⊢
  exact this
 | [a], [], _, h => absurd rfl h
theorem apt_far {f g h : Fi} (h1 : Apt f g) (h2 : lessP g.path h.path = true) : Apt f h := by
 refine ⟨lessP_trans h1.1 h2, ?_⟩
 cases hu : under h.path f.path with
 | none => rfl
 | some q =>
  exfalso
  have e := under_eq hu
  have h3 := h2
  unfold lessP at h3
  rw [e, spl_append] at h3
  obtain ⟨w, hw, e2⟩ := between h1.1 h3
  have e3 : g.path = f.path ++ 47 :: unsp w := by
   rw [← unsp_spl g.path, e2, unsp_app (spl_ne _) hw, unsp_spl]
  have := h1.2
  rw [e3, under_of] at this; cases this
theorem check_apt : ∀ {l : List Fi} {p : Option Fi}, checkF p l = 0 → l.Pairwise Apt ∧ ∀ g, p = some g → ∀ f ∈ l, Apt g f
 | [], _, _ => ⟨.nil, fun g _ f hf => by cases hf⟩
 | f :: r, p, h => by
  unfold checkF at h
  split at h
  ·exact absurd h ‹_›
  split at h
  ·cases h
  split at h
  ·exact absurd h ‹_›
  rename_i hc
  obtain ⟨h1, h2⟩ := check_apt h
  have h3 := h2 f rfl
  refine ⟨List.pairwise_cons.2 ⟨h3, h1⟩, fun g hg x hx => ?_⟩
  subst hg
  have hgf : Apt g f := by
   have hc : clashF (some g) f = 0 := Classical.not_not.1 hc
   unfold clashF at hc
   simp only at hc
   split at hc
   ·cases hc
   split at hc
   ·cases hc
   ·rename_i k1 k2
    refine ⟨by simpa using k1, ?_⟩
    cases hu : under f.path g.path with
    | none => rfl
    | some _ => rw [hu] at k2; simp at k2
  rcases List.mem_cons.1 hx with rfl | hx
  ·exact hgf
  ·exact apt_far hgf (h3 x hx).1
theorem fst_less {f g : Fi} (h : lessP f.path g.path = true) : fstN f.path = fstN g.path ∨ Op.bytesLess (fstN f.path) (fstN g.path) = true := by
 obtain ⟨r, hr⟩ := spl_fst f.path
 obtain ⟨s, hs⟩ := spl_fst g.path
 unfold lessP at h
 rw [hr, hs] at h
 unfold lessL at h
 split at h
 ·exact .inl ‹_›
 ·exact .inr h
theorem fst_file {f g : Fi} (hf : f.path.count 47 = 0) (h : Apt f g) : fstN g.path ≠ f.path := by
 intro e
 obtain ⟨s, hs⟩ := spl_fst g.path
 rw [e] at hs
 cases s with
 | nil =>
  have : g.path = f.path := by rw [← unsp_spl g.path, hs]; rfl
  have h1 := h.1
  rw [this, lessP_irrefl] at h1; cases h1
 | cons x s =>
  have e3 : g.path = f.path ++ 47 :: unsp (x :: s) := by rw [← unsp_spl g.path, hs]; rfl
  have := h.2
  rw [e3, under_of] at this; cases this
theorem under_fstN {p a : List UInt8} (ha : a.count 47 = 0) (h : fstN p ≠ a) : under p a = none := by
 obtain ⟨s, hs⟩ := spl_fst p
 exact under_fst ha hs h
theorem rest_fst {a : List UInt8} (ha : a.count 47 = 0) {f : Fi} {b : List UInt8} (hf : f.path = a ++ 47 :: b) : ∀ {l : List Fi}, (∀ g ∈ l, lessP f.path g.path = true) → l.Pairwise (fun x y => lessP x.path y.path = true) → (∀ g r, l = g :: r → under g.path a = none) → ∀ g ∈ l, fstN g.path ≠ a := by
 intro l h1 h2 h3
 cases l with
 | nil => intro g hg; cases hg
 | cons g r =>
  have hg0 : Op.bytesLess a (fstN g.path) = true := by
   have h4 := fst_less (h1 g (by simp))
   rw [hf, fstN_dir ha] at h4
   rcases h4 with e | h4
   ·exfalso
    obtain ⟨s, hs⟩ := spl_fst g.path
    rw [← e] at hs
    cases s with
    | nil =>
     have e2 : g.path = a := by rw [← unsp_spl g.path, hs]; rfl
     have h5 := h1 g (by simp)
     have h6 : lessP g.path f.path = true := by
      unfold lessP; rw [e2, hf, spl_append]; exact lessL_pre _ (spl_ne b)
     rw [lessP_asymm h5] at h6; cases h6
    | cons x s =>
     have e3 : g.path = a ++ 47 :: unsp (x :: s) := by rw [← unsp_spl g.path, hs]; rfl
     have := h3 g r rfl
     rw [e3, under_of] at this; cases this
   ·exact h4
  intro x hx
  rcases List.mem_cons.1 hx with rfl | hx
  ·exact bl_ne hg0
  ·rcases fst_less ((List.pairwise_cons.1 h2).1 x hx) with e | h
   ·rw [← e]; exact bl_ne hg0
   ·exact bl_ne (bl_trans hg0 h)
theorem inside_head (a : List UInt8) : ∀ (l : List Fi) (g : Fi) (r : List Fi), (insideP a l).2 = g :: r → under g.path a = none
 | [], g, r, h => by cases h
 | f :: l, g, r, h => by
  rw [insideP] at h
  cases hu : under f.path a with
  | none => rw [hu] at h; cases h; exact hu
  | some p => rw [hu] at h; exact inside_head a l g r h
theorem behind_all {a : List UInt8} {l : List Fi} (h : ∀ f ∈ l, fstN f.path ≠ a) (ha : a.count 47 = 0) : behindF a l = [] := behind_nil fun f hf => under_fstN ha (h f hf)
theorem apt_unpre {n : List UInt8} (hn : n.count 47 = 0) {f g : Fi} (h : Apt (pre n f) (pre n g)) : Apt f g := by
 have h1 := h.1
 unfold lessP at h1
 rw [show (pre n f).path = n ++ 47 :: f.path from rfl, show (pre n g).path = n ++ 47 :: g.path from rfl, spl_pre hn, spl_pre hn, lessL, if_pos rfl] at h1
 refine ⟨h1, ?_⟩
 cases hu : under g.path f.path with
 | none => rfl
 | some q =>
  have e := under_eq hu
  have h2 := h.2
  rw [show (pre n g).path = (pre n f).path ++ 47 :: q by show n ++ 47 :: g.path = _; rw [e]; simp [pre], under_of] at h2
  cases h2
theorem goT_skip (L : List Ob) {es : List Ent} {a : List UInt8} (ha : a.count 47 = 0) (hl : lastN es = some a) : ∀ (m : List Fi) (n : Nat) (q : List Fi), goT (n + m.length) L es (m.map (pre a) ++ q) = goT n L es q
 | [], _, _ => rfl
 | f :: m, n, q => by
  have ih := goT_skip L ha hl m n q
  rw [List.map_cons, List.cons_append, List.length_cons, ← Nat.add_assoc, goT]
  have hc : ¬ (pre a f).path.count 47 = 0 := by
   show ¬ (a ++ 47 :: f.path).count 47 = 0
   rw [List.count_append, List.count_cons_self]; omega
  rw [if_neg hc, show fstN (pre a f).path = a from fstN_dir ha, if_pos hl]
  exact ih
theorem goT_goB : ∀ (k : Nat) (l : List Fi) (n m : Nat) (L : List Ob) (es : List Ent), mu l ≤ k → mu l < n → mu l < m → l.Pairwise Apt → (∀ f ∈ l, lastN es ≠ some (fstN f.path)) → goT n L es l = goB m L es l := by
 intro k
 induction k with
 | zero =>
  intro l n m L es hk hn hm hA hE
  cases l with
  | nil =>
   obtain ⟨n, rfl⟩ : ∃ x, n = x + 1 := ⟨n - 1, by omega⟩
   obtain ⟨m, rfl⟩ : ∃ x, m = x + 1 := ⟨m - 1, by omega⟩
   rfl
  | cons f r => rw [mu_cons] at hk; omega
 | succ k ih =>
  intro l n m L es hk hn hm hA hE
  obtain ⟨n, rfl⟩ : ∃ x, n = x + 1 := ⟨n - 1, by omega⟩
  obtain ⟨m, rfl⟩ : ∃ x, m = x + 1 := ⟨m - 1, by omega⟩
  cases l with
  | nil => rfl
  | cons f r =>
   rw [mu_cons] at hk hn hm
   obtain ⟨hA1, hA2⟩ := List.pairwise_cons.1 hA
   rw [goT, goB]
   by_cases hc : f.path.count 47 = 0
   ·rw [if_pos hc, if_pos hc, fstN_file hc]
    refine ih r n m L _ (by omega) (by omega) (by omega) hA2 fun g hg e => ?_
    rw [lastN_snoc] at e
    exact fst_file hc (hA1 g hg) (Option.some.inj e).symm
   ·obtain ⟨a, b, hcut, hab, ha⟩ := cut_some hc
    have hfa : fstN f.path = a := by rw [hab]; exact fstN_dir ha
    have hne := hE f (by simp)
    rw [if_neg hc, if_neg hc, if_neg hne, hfa, hcut]
    dsimp only
    have hmu := inside_mu (r := r) hab
    rw [mu_cons] at hmu
    have heq := inside_eq a (f :: r)
    have hps := inside_pos (r := r) hab
    have hhd := inside_head a (f :: r)
    generalize hI : insideP a (f :: r) = I at *
    obtain ⟨inn, q⟩ := I
    dsimp only at hmu heq hps hhd ⊢
    have hAll := hA
    rw [heq] at hAll
    obtain ⟨p1, p2, p3⟩ := List.pairwise_append.1 hAll
    -- what is behind the group
    have hq : ∀ g ∈ q, fstN g.path ≠ a := by
     refine rest_fst ha hab (fun g hg => ?_) (p2.imp fun h => h.1) hhd
     have hm0 : f ∈ inn.map (pre a) := by
      cases inn with
      | nil => exact absurd rfl hps
      | cons x inn =>
       rw [List.map_cons, List.cons_append] at heq
       have := (List.cons.inj heq).1
       rw [this]; simp
     exact (p3 f hm0 g hg).1
    have hbe : behindF a (f :: r) = inn := by rw [heq, behind_app, behind_pre, behind_all hq ha, List.append_nil]
    rw [hbe]
    rw [List.pairwise_map] at p1
    have hin : goT n L [] inn = goB m L [] inn := ih inn n m L [] (by omega) (by omega) (by omega) (p1.imp fun h => apt_unpre ha h) (fun _ _ e => by cases e)
    rw [hin]
    by_cases hz : (goB m L [] inn).2.1 ≠ 0
    ·rw [if_pos hz, if_pos hz]
    ·rw [if_neg hz, if_neg hz]
     -- the others of the group are passed over
     obtain ⟨x, inn', rfl⟩ : ∃ x inn', inn = x :: inn' := by cases inn with | nil => exact absurd rfl hps | cons x y => exact ⟨x, y, rfl⟩
     rw [List.map_cons, List.cons_append] at heq
     have hr : r = inn'.map (pre a) ++ q := (List.cons.inj heq).2
     have hmr : mu r = mu (inn'.map (pre a)) + mu q := by rw [hr, mu_app]
     have hmp := mu_pre a inn'
     have hml : inn'.length ≤ (a.length + 1) * inn'.length := Nat.le_mul_of_pos_left _ (by omega)
     obtain ⟨n', hn'⟩ : ∃ n', n = n' + inn'.length := ⟨n - inn'.length, by omega⟩
     rw [hr, hn', goT_skip _ ha lastN_snoc]
     refine ih q n' m _ _ (by omega) (by omega) (by omega) p2 fun g hg e => ?_
     rw [lastN_snoc] at e
     exact hq g hg (Option.some.inj e).symm
def treeP (L : List Ob) (l : List Fi) : Int × Int × List Ob := if filesF l ≠ 0 then (0, filesF l, L) else goT (mu l + 1) L [] l
theorem tree_same (L : List Ob) (l : List Fi) : treeP L l = buildP L l := by
 unfold treeP buildP
 split
 ·rfl
 ·rename_i h
  have h : filesF l = 0 := Classical.not_not.1 h
  have hc : checkF none l = 0 := by
   unfold filesF at h
   split at h
   ·cases h
   ·exact h
  exact goT_goB (mu l) l _ _ L [] (Nat.le_refl _) (Nat.lt_succ_self _) (Nat.lt_succ_self _) (check_apt hc).1 (fun _ _ e => by cases e)
end Go.Nest
