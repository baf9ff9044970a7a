/- part -/
import Derived.Test.YtpmjnbidmcnhnaaGreatDoorB11
import Derived.Test.YtpmjnbidmcnhnaaGreatDoorW11
import Derived.Test.YtpmjnbidmcnhnaaGreatDoorS3
set_option linter.unusedVariables false
set_option linter.unusedSimpArgs false
section

namespace Go.Nest
open Go Go.AM
def keep (f : Fi) : Option Fi := if 0 < f.mode then some f else none
def cfT (M : List Ob) (f g h : Fi) : Bool := if g = h ∨ h = f then false else if g = f then false else (mixT M f g h).isNone
def resB (M : List Ob) (base x y : List Fi) (q : List UInt8) : Option Fi := keep (pkF M (atP base q) (atP x q) (atP y q) q)
def cfB (M : List Ob) (base x y : List Fi) (q : List UInt8) : Bool := cfT M (atP base q) (atP x q) (atP y q)
theorem pk_one {L : List Ob} (hL : PoolOk L) (hl : L.length < 600) {q : List UInt8} {f g h : Fi} (hf : OnF L q f) (hg : OnF L q g) (hh : OnF L q h) :
  PoolOk (pkL L f g h) ∧ L <+: pkL L f g h ∧ (pkL L f g h).length ≤ L.length + 1 ∧ pkC L 0 f g h = 0 ∧
   ∀ M, PoolOk M → pkL L f g h <+: M → pkF L f g h q = pkF M f g h q ∧ (∀ cf, pkX L cf f g h q = if cfT M f g h = true then cf ++ [q] else cf) ∧ OnF M q (pkF M f g h q) := by
 unfold pkF pkL pkC pkX cfT
 by_cases c1 : g = h ∨ h = f
 ·simp only [if_pos c1]
  exact ⟨hL, List.prefix_refl _, by omega, trivial, fun M _ hM => ⟨trivial, fun cf => by simp, hg.mono hM⟩⟩
 simp only [if_neg c1]
 by_cases c2 : g = f
 ·simp only [if_pos c2]
  exact ⟨hL, List.prefix_refl _, by omega, trivial, fun M _ hM => ⟨trivial, fun cf => by simp, hh.mono hM⟩⟩
 simp only [if_neg c2]
 cases e : mixT L f g h with
 | none =>
  have k := fun c => mix_no (p := q) (code := c) e
  refine ⟨by rw [(k 0).2.1]; exact hL, by rw [(k 0).2.1]; exact List.prefix_refl _, by rw [(k 0).2.1]; omega, (k 0).2.2, fun M hM hx => ?_⟩
  rw [(k 0).2.1] at hx
  have e2 : mixT M f g h = none := (mixT_mono hf hg hh hx).trans e
  have k2 := mix_no (p := q) (code := 0) e2
  rw [(k 0).1, k2.1, e2]
  refine ⟨rfl, fun cf => rfl, ?_⟩
  show OnF M q (if g.mode = 0 then h else g)
  split
  ·exact hh.mono hx
  ·exact hg.mono hx
 | some b =>
  obtain ⟨hb, g1, -⟩ := mixT_len e
  have hp := put_blob hb hl
  obtain ⟨k1, k2, k3⟩ := mix_yes (p := q) (code := 0) e
  rw [k2, k3]
  refine ⟨putP_ok hL _, put_ext _, put_one _, by rw [if_neg (fun h => h.1 hp)], fun M hM hx => ?_⟩
  have hLM : L <+: M := (put_ext _).trans hx
  have e2 : mixT M f g h = some b := (mixT_mono hf hg hh hLM).trans e
  obtain ⟨m1, m2⟩ := put_more (o := obM b) (show (1 : Int) ≠ 0 by decide) hp hM hx
  have k4 := (mix_yes (p := q) (code := 0) e2).1
  rw [m1] at k4
  rw [k1, k4, e2]
  refine ⟨rfl, fun cf => rfl, .inr ⟨⟨?_, rfl, ?_⟩, rfl⟩⟩
  ·rcases hg.mode with ⟨_, h0⟩ | ⟨_, _, h1⟩
   ·omega
   ·exact h1
  ·show kindOf M (putP L (obM b)).1 = 1
   rw [← getP_kind, m2]; rfl
theorem addF_keep (out : List Fi) (f : Fi) : addF out f = out ++ (keep f).toList := by
 unfold addF keep
 split
 ·rfl
 ·simp
theorem run_gen {L0 : List Ob} {base x y : List Fi} (hb : FL L0 base) (hx : FL L0 x) (hy : FL L0 y) : ∀ (qs : List (List UInt8)) (s : BS), PoolOk s.L → L0 <+: s.L → s.L.length + qs.length ≤ 600 → s.code = 0 →
  PoolOk (runB base x y s qs).L ∧ s.L <+: (runB base x y s qs).L ∧ (runB base x y s qs).L.length ≤ s.L.length + qs.length ∧ (runB base x y s qs).code = 0 ∧
   ∀ M, PoolOk M → (runB base x y s qs).L <+: M → (runB base x y s qs).out = s.out ++ qs.filterMap (resB M base x y) ∧ (runB base x y s qs).cf = s.cf ++ qs.filter (cfB M base x y) ∧ ∀ q ∈ qs, OnF M q (pkF M (atP base q) (atP x q) (atP y q) q)
 | [], s, h1, h2, h3, h4 => ⟨h1, List.prefix_refl _, by simp [runB], h4, fun M _ _ => ⟨by simp [runB], by simp [runB], fun q hq => by cases hq⟩⟩
 | q :: qs, s, h1, h2, h3, h4 => by
  rw [List.length_cons] at h3
  obtain ⟨k1, k2, k3, k4, k5⟩ := pk_one h1 (by omega) ((hb.on q).mono h2) ((hx.on q).mono h2) ((hy.on q).mono h2)
  have e : runB base x y s (q :: qs) = runB base x y (stepB base x y s q) qs := rfl
  have hc : (stepB base x y s q).code = 0 := by
   show pkC s.L s.code _ _ _ = 0
   rw [h4]; exact k4
  obtain ⟨r1, r2, r3, r4, r5⟩ := run_gen hb hx hy qs (stepB base x y s q) k1 (h2.trans k2) (by have : (stepB base x y s q).L.length ≤ s.L.length + 1 := k3; omega) hc
  rw [e]
  have k3 : (stepB base x y s q).L.length ≤ s.L.length + 1 := k3
  refine ⟨r1, k2.trans r2, by rw [List.length_cons]; omega, r4, fun M hM hxM => ?_⟩
  obtain ⟨a1, a2, a3⟩ := r5 M hM hxM
  obtain ⟨b1, b2, b3⟩ := k5 M hM (List.IsPrefix.trans r2 hxM)
  refine ⟨?_, ?_, fun p hp => ?_⟩
  ·rw [a1]
   have : (stepB base x y s q).out = s.out ++ (resB M base x y q).toList := by
    show addF s.out (pkF s.L (atP base q) (atP x q) (atP y q) q) = _
    rw [addF_keep, b1]; rfl
   rw [this, List.append_assoc]
   congr 1
   rw [List.filterMap_cons]
   cases resB M base x y q <;> rfl
  ·rw [a2]
   have : (stepB base x y s q).cf = _ := b2 s.cf
   rw [this, List.filter_cons]
   show _ = s.cf ++ if cfT M (atP base q) (atP x q) (atP y q) = true then _ else _
   split
   ·rw [List.append_assoc]; rfl
   ·rfl
  ·rcases List.mem_cons.1 hp with rfl | hp
   ·exact b3
   ·exact a3 p hp
theorem run_same {base x y : List Fi} (hc : ∀ q, (atP x q = atP y q ∨ atP y q = atP base q) ∨ atP x q = atP base q) : ∀ (qs : List (List UInt8)) (s : BS), (runB base x y s qs).L = s.L
 | [], s => rfl
 | q :: qs, s => by
  show (runB base x y (stepB base x y s q) qs).L = s.L
  rw [run_same hc qs]
  show pkL s.L (atP base q) (atP x q) (atP y q) = s.L
  unfold pkL
  rcases hc q with h | h
  ·rw [if_pos h]
  ·rw [if_pos h]; split <;> rfl
theorem paths3 {base x y : List Fi} : Ris id (pathsP [base, x, y]) ∧ ∀ q, q ∈ pathsP [base, x, y] ↔ (∃ f ∈ base, f.path = q) ∨ (∃ f ∈ x, f.path = q) ∨ ∃ f ∈ y, f.path = q := by
 obtain ⟨h1, h2⟩ := dd_spec (inOrd_wk ([base, x, y].flatten))
 refine ⟨h1, fun q => (h2 q).trans ?_⟩
 constructor
 ·rintro ⟨f, hf, e⟩
  have := (inOrd_perm _).mem_iff.1 hf
  simp at this
  exact this.imp (fun h => ⟨f, h, e⟩) fun h => h.imp (fun h => ⟨f, h, e⟩) (fun h => ⟨f, h, e⟩)
 ·rintro (⟨f, hf, e⟩ | ⟨f, hf, e⟩ | ⟨f, hf, e⟩)
  ·exact ⟨f, (inOrd_perm _).mem_iff.2 (by simp [hf]), e⟩
  ·exact ⟨f, (inOrd_perm _).mem_iff.2 (by simp [hf]), e⟩
  ·exact ⟨f, (inOrd_perm _).mem_iff.2 (by simp [hf]), e⟩
theorem paths3_swap {base x y : List Fi} : pathsP [base, y, x] = pathsP [base, x, y] := by
 obtain ⟨a1, a2⟩ := paths3 (base := base) (x := x) (y := y)
 obtain ⟨b1, b2⟩ := paths3 (base := base) (x := y) (y := x)
 refine ris_ext b1 a1 fun q => ?_
 rw [a2, b2]
 exact or_congr_right or_comm
theorem paths3_len {M : List Ob} {base x y : List Fi} (hb : FL M base) (hx : FL M x) (hy : FL M y) : (pathsP [base, x, y]).length ≤ 120 := by
 have h := paths_len [base, x, y]
 simp only [List.flatten_cons, List.flatten_nil, List.length_append, List.length_nil] at h
 have := hb.len; have := hx.len; have := hy.len
 omega
theorem ris_map {qs : List (List UInt8)} (hr : Ris id qs) {r : List UInt8 → Option Fi} (h : ∀ q ∈ qs, ∀ f, r q = some f → f.path = q) : Ris (·.path) (qs.filterMap r) := by
 unfold Ris
 rw [List.pairwise_filterMap]
 refine hr.imp_of_mem fun {a b} ha hb hl f hf g hg => ?_
 show lessP f.path g.path = true
 rw [h a ha f hf, h b hb g hg]; exact hl
theorem keep_all {M : List Ob} {z : List Fi} (hz : FL M z) {qs : List (List UInt8)} (hr : Ris id qs) (hq : ∀ f ∈ z, f.path ∈ qs) : qs.filterMap (fun q => keep (atP z q)) = z := by
 have hk : ∀ q f, keep (atP z q) = some f → f = atP z q ∧ f ∈ z ∧ f.path = q := fun q f h => by
  unfold keep at h
  split at h
  ·rename_i h1
   cases h
   rcases hz.at_or q with ⟨h2, _⟩ | ⟨h2, h3, h4⟩
   ·rw [h2] at h1; exact absurd h1 (by decide)
   ·exact ⟨rfl, h4, h3⟩
  ·cases h
 refine ris_ext (k := (·.path)) (ris_map hr fun q _ f h => (hk q f h).2.2) hz.ris fun f => ?_
 rw [List.mem_filterMap]
 constructor
 ·rintro ⟨q, _, h⟩
  exact (hk q f h).2.1
 ·intro hf
  refine ⟨f.path, hq f hf, ?_⟩
  rw [atP_self hz.ris hf]
  unfold keep
  rw [if_pos (by rw [(hz.all f hf).mode]; decide)]
theorem blend_of {L : List Ob} {base x y : List Fi} (hb : FL L base) (hx : FL L x) (hy : FL L y) (hL : PoolOk L) (hn : L.length ≤ 480) :
  blendB L base x y = (if filesF (runB base x y ⟨L, [], [], 0⟩ (pathsP [base, x, y])).out ≠ 0 then ⟨(runB base x y ⟨L, [], [], 0⟩ (pathsP [base, x, y])).L, [], [], filesF (runB base x y ⟨L, [], [], 0⟩ (pathsP [base, x, y])).out⟩
   else ⟨(runB base x y ⟨L, [], [], 0⟩ (pathsP [base, x, y])).L, (runB base x y ⟨L, [], [], 0⟩ (pathsP [base, x, y])).out, (runB base x y ⟨L, [], [], 0⟩ (pathsP [base, x, y])).cf, 0⟩) := by
 have hl := paths3_len hb hx hy
 obtain ⟨-, -, -, h4, -⟩ := run_gen hb hx hy (pathsP [base, x, y]) ⟨L, [], [], 0⟩ hL (List.prefix_refl _) (by show L.length + _ ≤ 600; omega) rfl
 have h0 : firstC [base, x, y] = 0 := by
  unfold firstC; rw [if_neg (fun h => h hb.zero)]
  unfold firstC; rw [if_neg (fun h => h hx.zero)]
  unfold firstC; rw [if_neg (fun h => h hy.zero)]
  rfl
 unfold blendB
 rw [if_neg (fun h => h h0)]
 dsimp only
 rw [if_pos h4]
theorem blend_keep {L : List Ob} {base x y z : List Fi} (hb : FL L base) (hx : FL L x) (hy : FL L y) (hz : FL L z) (hL : PoolOk L) (hn : L.length ≤ 480)
  (hc : ∀ q, (atP x q = atP y q ∨ atP y q = atP base q) ∨ atP x q = atP base q) (hv : ∀ q, pkF L (atP base q) (atP x q) (atP y q) q = atP z q) (hq : ∀ f ∈ z, f.path ∈ pathsP [base, x, y]) : blendB L base x y = ⟨L, z, [], 0⟩ := by
 have hl := paths3_len hb hx hy
 rw [blend_of hb hx hy hL hn]
 obtain ⟨-, -, -, -, h5⟩ := run_gen hb hx hy (pathsP [base, x, y]) ⟨L, [], [], 0⟩ hL (List.prefix_refl _) (by show L.length + _ ≤ 600; omega) rfl
 have hs := run_same hc (pathsP [base, x, y]) ⟨L, [], [], 0⟩
 obtain ⟨a1, a2, -⟩ := h5 L hL (by rw [hs]; exact List.prefix_refl _)
 have e1 : (runB base x y ⟨L, [], [], 0⟩ (pathsP [base, x, y])).out = z := by
  rw [a1]
  show (pathsP [base, x, y]).filterMap (fun q => keep (pkF L (atP base q) (atP x q) (atP y q) q)) = z
  rw [show (fun q => keep (pkF L (atP base q) (atP x q) (atP y q) q)) = fun q => keep (atP z q) from funext fun q => by rw [hv]]
  exact keep_all hz paths3.1 hq
 have e2 : (runB base x y ⟨L, [], [], 0⟩ (pathsP [base, x, y])).cf = [] := by
  rw [a2]
  show (pathsP [base, x, y]).filter (cfB L base x y) = []
  rw [List.filter_eq_nil_iff]
  intro q _
  unfold cfB cfT
  rcases hc q with h | h
  ·rw [if_pos h]; decide
  ·rw [if_pos h]; split <;> decide
 rw [hs, e1, e2, if_neg (fun h => h hz.zero)]
theorem side_y {L : List Ob} {base y : List Fi} (hb : FL L base) (hy : FL L y) (hL : PoolOk L) (hn : L.length ≤ 480) : blendB L base base y = ⟨L, y, [], 0⟩ :=
 blend_keep hb hb hy hy hL hn (fun q => .inr rfl) (fun q => by
  unfold pkF
  split
  ·rename_i h; exact h.elim id Eq.symm
  ·rw [if_pos rfl]) fun f hf => (paths3.2 _).2 (.inr (.inr ⟨f, hf, rfl⟩))
theorem side_x {L : List Ob} {base x : List Fi} (hb : FL L base) (hx : FL L x) (hL : PoolOk L) (hn : L.length ≤ 480) : blendB L base x base = ⟨L, x, [], 0⟩ :=
 blend_keep hb hx hb hx hL hn (fun q => .inl (.inr rfl)) (fun q => by
  unfold pkF
  rw [if_pos (.inr rfl)]) fun f hf => (paths3.2 _).2 (.inr (.inl ⟨f, hf, rfl⟩))
theorem side_b {L : List Ob} {base x : List Fi} (hb : FL L base) (hx : FL L x) (hL : PoolOk L) (hn : L.length ≤ 480) : blendB L base x x = ⟨L, x, [], 0⟩ :=
 blend_keep hb hx hx hx hL hn (fun q => .inl (.inl rfl)) (fun q => by
  unfold pkF
  rw [if_pos (.inl rfl)]) fun f hf => (paths3.2 _).2 (.inr (.inl ⟨f, hf, rfl⟩))
end Go.Nest
end
/- part -/
section

namespace Go.Nest
open Go Go.AM
def pm (f : Fi) : List UInt8 × Int := (f.path, f.mode)
theorem clash_congr {p q : Option Fi} {f g : Fi} (hp : p.map pm = q.map pm) (hf : pm f = pm g) : clashF p f = clashF q g := by
 have h1 : f.path = g.path := congrArg Prod.fst hf
 cases p with
 | none => cases q with
  | none => rfl
  | some b => cases hp
 | some a => cases q with
  | none => cases hp
  | some b =>
   have h2 : a.path = b.path := congrArg Prod.fst (Option.some.inj hp)
   unfold clashF
   simp only [h1, h2]
theorem check_congr : ∀ {l m : List Fi} {p q : Option Fi}, l.map pm = m.map pm → p.map pm = q.map pm → checkF p l = checkF q m
 | [], [], _, _, _, _ => rfl
 | [], _ :: _, _, _, h, _ => by cases h
 | _ :: _, [], _, _, h, _ => by cases h
 | f :: l, g :: m, p, q, h, hp => by
  rw [List.map_cons, List.map_cons] at h
  obtain ⟨h1, h2⟩ := List.cons.inj h
  have e1 : f.path = g.path := congrArg Prod.fst h1
  have e2 : f.mode = g.mode := congrArg Prod.snd h1
  unfold checkF
  rw [clash_congr hp h1, e1, e2, check_congr h2 (show (some f).map pm = (some g).map pm from congrArg some h1)]
theorem files_congr {l m : List Fi} (h : l.map pm = m.map pm) : filesF l = filesF m := by
 have hl : l.length = m.length := by have := congrArg List.length h; simpa using this
 unfold filesF
 rw [hl, check_congr h rfl]
theorem cf_swap {M : List Ob} {q : List UInt8} {f g h : Fi} (hf : OnF M q f) (hg : OnF M q g) (hh : OnF M q h) : cfT M f h g = cfT M f g h := by
 unfold cfT
 rw [mixT_swap hf hg hh (List.prefix_refl _)]
 by_cases c1 : g = h
 ·rw [if_pos (.inl c1.symm), if_pos (.inl c1)]
 by_cases c2 : h = f
 ·rw [if_pos (.inr c2 : g = h ∨ h = f)]
  by_cases c3 : g = f
  ·rw [if_pos (.inr c3)]
  ·rw [if_neg (fun e => e.elim (fun e => c1 e.symm) c3), if_pos c2]
 rw [if_neg (fun e => e.elim c1 c2 : ¬ (g = h ∨ h = f))]
 by_cases c3 : g = f
 ·rw [if_pos (.inr c3), if_pos c3]
 ·rw [if_neg (fun e => e.elim (fun e => c1 e.symm) c3), if_neg c2, if_neg c3]
theorem pk_swap {M : List Ob} {q : List UInt8} {f g h : Fi} (hf : OnF M q f) (hg : OnF M q g) (hh : OnF M q h) (hc : cfT M f g h = false) : pkF M f h g q = pkF M f g h q := by
 have hs := mixT_swap hf hg hh (List.prefix_refl _)
 unfold cfT at hc
 unfold pkF
 by_cases c1 : g = h
 ·subst c1; rfl
 by_cases c2 : h = f
 ·rw [if_pos (.inr c2 : g = h ∨ h = f)]
  by_cases c3 : g = f
  ·exact absurd (c3.trans c2.symm) c1
  ·rw [if_neg (fun e => e.elim (fun e => c1 e.symm) c3), if_pos c2]
 rw [if_neg (fun e => e.elim c1 c2 : ¬ (g = h ∨ h = f))] at hc ⊢
 by_cases c3 : g = f
 ·rw [if_pos (.inr c3), if_pos c3]
 rw [if_neg c3] at hc
 rw [if_neg (fun e => e.elim (fun e => c1 e.symm) c3 : ¬ (h = g ∨ g = f)), if_neg c2, if_neg c3]
 unfold mixF
 rw [hs]
 cases e : mixT M f g h with
 | none => rw [e] at hc; cases hc
 | some b => rfl
theorem pk_pm {M : List Ob} {q : List UInt8} {f g h : Fi} (hf : OnF M q f) (hg : OnF M q g) (hh : OnF M q h) : (keep (pkF M f h g q)).map pm = (keep (pkF M f g h q)).map pm := by
 cases hc : cfT M f g h with
 | false => rw [pk_swap hf hg hh hc]
 | true =>
  have hs := mixT_swap hf hg hh (List.prefix_refl _)
  have key : ∀ {a b : Fi}, OnF M q a → OnF M q b → a ≠ b → (keep (if a.mode = 0 then b else a)).map pm = some (q, 1) := fun {a b} ha hb hne => by
   rcases ha.mode with ⟨a1, a2⟩ | ⟨a1, a2, -⟩
   ·rw [if_pos a2]
    rcases hb.mode with ⟨b1, b2⟩ | ⟨b1, b2, -⟩
    ·exact absurd (a1.trans b1.symm) hne
    ·unfold keep pm; rw [if_pos (by omega), Option.map_some, b1, b2]
   ·rw [if_neg (by omega)]
    unfold keep pm; rw [if_pos (by omega), Option.map_some, a1, a2]
  unfold cfT at hc
  by_cases c1 : g = h ∨ h = f
  ·rw [if_pos c1] at hc; cases hc
  rw [if_neg c1] at hc
  by_cases c3 : g = f
  ·rw [if_pos c3] at hc; cases hc
  rw [if_neg c3] at hc
  have hn : mixT M f g h = none := by simpa using hc
  have hn2 : mixT M f h g = none := hs.trans hn
  unfold pkF
  rw [if_neg c1, if_neg c3, if_neg (fun e => e.elim (fun e => c1 (.inl e.symm)) c3 : ¬ (h = g ∨ g = f)), if_neg (fun e => c1 (.inr e)), (mix_no (p := q) (code := 0) hn).1, (mix_no (p := q) (code := 0) hn2).1]
  show (keep (if h.mode = 0 then g else h)).map pm = (keep (if g.mode = 0 then h else g)).map pm
  rw [key hh hg (fun e => c1 (.inl e.symm)), key hg hh (fun e => c1 (.inl e))]
theorem fm_congr {α β : Type} {f g : α → Option β} : ∀ {l : List α}, (∀ x ∈ l, f x = g x) → l.filterMap f = l.filterMap g
 | [], _ => rfl
 | x :: l, h => by rw [List.filterMap_cons, List.filterMap_cons, h x (by simp), fm_congr fun y hy => h y (by simp [hy])]
theorem blend_fl {L : List Ob} {base x y : List Fi} (hb : FL L base) (hx : FL L x) (hy : FL L y) (hL : PoolOk L) (hn : L.length ≤ 480) : PoolOk (blendB L base x y).L ∧ L <+: (blendB L base x y).L ∧ (blendB L base x y).L.length ≤ L.length + 120 := by
 have hl := paths3_len hb hx hy
 obtain ⟨h1, h2, h3, h4, -⟩ := run_gen hb hx hy (pathsP [base, x, y]) ⟨L, [], [], 0⟩ hL (List.prefix_refl _) (by show L.length + _ ≤ 600; omega) rfl
 have h3 : (runB base x y ⟨L, [], [], 0⟩ (pathsP [base, x, y])).L.length ≤ L.length + (pathsP [base, x, y]).length := h3
 rw [blend_of hb hx hy hL hn]
 split
 ·exact ⟨h1, h2, by dsimp only; omega⟩
 ·exact ⟨h1, h2, by dsimp only; omega⟩
theorem blend_swap {L : List Ob} {base x y : List Fi} (hb : FL L base) (hx : FL L x) (hy : FL L y) (hL : PoolOk L) (hn : L.length ≤ 360) :
  (blendB (blendB L base x y).L base y x).code = (blendB L base x y).code ∧ ((blendB L base x y).code ≠ 0 → (blendB L base x y).out = [] ∧ (blendB (blendB L base x y).L base y x).out = []) ∧
   ((blendB L base x y).code = 0 → (blendB (blendB L base x y).L base y x).cf = (blendB L base x y).cf ∧ ((blendB L base x y).cf = [] → (blendB (blendB L base x y).L base y x).out = (blendB L base x y).out) ∧ filesF (blendB L base x y).out = 0) := by
 obtain ⟨p1, p2, p3⟩ := blend_fl hb hx hy hL (by omega)
 have hl := paths3_len hb hx hy
 have eA := blend_of hb hx hy hL (by omega)
 obtain ⟨-, -, -, -, r5⟩ := run_gen hb hx hy (pathsP [base, x, y]) ⟨L, [], [], 0⟩ hL (List.prefix_refl _) (by show L.length + _ ≤ 600; omega) rfl
 have eL : (runB base x y ⟨L, [], [], 0⟩ (pathsP [base, x, y])).L = (blendB L base x y).L := by rw [eA]; split <;> rfl
 generalize blendB L base x y = A at *
 have eB := blend_of (hb.mono p2) (hy.mono p2) (hx.mono p2) p1 (by omega)
 rw [paths3_swap] at eB
 obtain ⟨t1, t2, -, -, t5⟩ := run_gen (hb.mono p2) (hy.mono p2) (hx.mono p2) (pathsP [base, x, y]) ⟨A.L, [], [], 0⟩ p1 (List.prefix_refl _) (by show A.L.length + _ ≤ 600; omega) rfl
 have t2 : A.L <+: (runB base y x ⟨A.L, [], [], 0⟩ (pathsP [base, x, y])).L := t2
 generalize blendB A.L base y x = B at *
 generalize runB base x y ⟨L, [], [], 0⟩ (pathsP [base, x, y]) = s at *
 generalize runB base y x ⟨A.L, [], [], 0⟩ (pathsP [base, x, y]) = t at *
 obtain ⟨a1, a2, -⟩ := r5 t.L t1 (by rw [eL]; exact t2)
 obtain ⟨b1, b2, -⟩ := t5 t.L t1 (List.prefix_refl _)
 have hLM := p2.trans t2
 have ob : ∀ q, OnF t.L q (atP base q) := fun q => (hb.on q).mono hLM
 have ox : ∀ q, OnF t.L q (atP x q) := fun q => (hx.on q).mono hLM
 have oy : ∀ q, OnF t.L q (atP y q) := fun q => (hy.on q).mono hLM
 have hcf : t.cf = s.cf := by
  rw [a2, b2]
  show List.filter _ _ = List.filter _ _
  congr 1
  funext q
  exact cf_swap (ob q) (ox q) (oy q)
 have hout : s.cf = [] → t.out = s.out := fun h => by
  rw [a1, b1]
  show List.filterMap _ _ = List.filterMap _ _
  refine fm_congr fun q hq => ?_
  rw [a2] at h
  have := (List.filter_eq_nil_iff.1 h) q hq
  unfold resB
  have this : cfT t.L (atP base q) (atP x q) (atP y q) = false := Bool.eq_false_iff.2 this
  rw [pk_swap (ob q) (ox q) (oy q) this]
 have hf : filesF t.out = filesF s.out := by
  refine files_congr ?_
  rw [a1, b1]
  show List.map _ (List.filterMap _ _) = List.map _ (List.filterMap _ _)
  rw [List.map_filterMap, List.map_filterMap]
  congr 1
  funext q
  exact pk_pm (ob q) (ox q) (oy q)
 rw [eA, eB, hf]
 by_cases h0 : filesF s.out = 0
 ·rw [if_neg (fun h => h h0), if_neg (fun h => h h0)]
  exact ⟨rfl, fun h => absurd rfl h, fun _ => ⟨hcf, hout, h0⟩⟩
 ·rw [if_pos h0, if_pos h0]
  exact ⟨rfl, fun _ => ⟨rfl, rfl⟩, fun h => absurd h h0⟩
end Go.Nest
end
/- part -/
section

namespace Go.AM
open Go Go.NB
theorem Does.conv3 {P : Program} {f : FuncId} {a b : A} {c c' : C} {args : List A} {ah : List B} {Q : Out → List B → Prop} (h : Does P f (a :: b :: .c c :: args) ah Q) (hc : ∀ {F : Nat → Prop} {H : Heap} {m : Md} {v : Value}, RL F H m [c'] [v] → RL F H m [c] [v]) : Does P f (a :: b :: .c c' :: args) ah Q :=
 fun F L γ H vs h1 h2 => h F L γ H vs (match vs, h1 with | _ :: _ :: _ :: _, ⟨h3, h4, h5, h6⟩ => ⟨h3, h4, hc h5, h6⟩) h2
end Go.AM
namespace Go.Nest
open Go Go.AM Go.Proofs
open Go.NB (Heap)
open Go.Proofs.YtpmjnbidmcnhnaaGreatDoor.T3 (tab tabOk)
set_option maxRecDepth 4000
theorem bd_conv {F : Nat → Prop} {H : Heap} {m : Md} {l : List Dc} {v : Value} (h : RL F H m [.bs 2 Dc encDcN l] [v]) : RL F H m [.bs 2 Dc encDc l] [v] := by
 cases h with
 | bs0 _ => exact .bs0 .nl
 | bs hb h1 h2 hr hs hq _ => exact .bs hb h1 h2 (flat_conv dc_conv hr) (fun y hy => rfl) hq .nl
def bd1 : List Dc := [⟨[102], [49, 10, 50, 10]⟩]
def bd2 : List Dc := [⟨[102], [48, 10, 50, 10]⟩]
def bd3 : List Dc := [⟨[102], [49, 10, 50, 10, 51, 10]⟩, ⟨[103], []⟩]
def bo (l : List UInt8) : Ob := ⟨1, l, [], 0, [], []⟩
def bL1 : List Ob := [bo [49, 10, 50, 10]]
def bL2 : List Ob := [bo [49, 10, 50, 10], bo [48, 10, 50, 10]]
def bL3 : List Ob := [bo [49, 10, 50, 10], bo [48, 10, 50, 10], bo [49, 10, 50, 10, 51, 10], bo []]
def bL4 : List Ob := bL3 ++ [bo [48, 10, 50, 10, 51, 10]]
def bf1 : List Fi := [⟨[102], 1, 0, 0⟩]
def bf2 : List Fi := [⟨[102], 1, 1, 0⟩]
def bf3 : List Fi := [⟨[102], 1, 2, 0⟩, ⟨[103], 1, 3, 0⟩]
def bf4 : List Fi := [⟨[102], 1, 4, 0⟩, ⟨[103], 1, 3, 0⟩]
theorem bk1 : docsU [] bd1 = (bL1, bf1) := by decide +kernel
theorem bk2 : docsU bL1 bd2 = (bL2, bf2) := by decide +kernel
theorem bk3 : docsU bL2 bd3 = (bL3, bf3) := by decide +kernel
theorem bi1 : inOrdP bf1 = bf1 := by decide +kernel
theorem bi2 : inOrdP bf2 = bf2 := by decide +kernel
theorem bi3 : inOrdP bf3 = bf3 := by decide +kernel
theorem bl1 : PoolOk bL1 := by have := docs_ok (l := bd1) PoolOk.nil; rw [bk1] at this; exact this
theorem bl2 : PoolOk bL2 := by have := docs_ok (l := bd2) bl1; rw [bk2] at this; exact this
theorem bl3 : PoolOk bL3 := by have := docs_ok (l := bd3) bl2; rw [bk3] at this; exact this
theorem bm1 : (blendB bL3 bf1 bf2 bf3).L = bL4 ∧ (blendB bL3 bf1 bf2 bf3).out = bf4 ∧ (blendB bL3 bf1 bf2 bf3).cf = [] ∧ (blendB bL3 bf1 bf2 bf3).code = 0 := by decide +kernel
theorem bl4 : PoolOk bL4 := by
 have h := bl3
 exact .snoc h (by decide +kernel) (by decide +kernel) (by decide +kernel) (by decide)
theorem bg1 : getP bL4 4 = bo [48, 10, 50, 10, 51, 10] := by decide +kernel
theorem bdok : DocsOk bd1 ∧ DocsOk bd2 ∧ DocsOk bd3 := by
 refine ⟨⟨by decide, fun d hd => ?_⟩, ⟨by decide, fun d hd => ?_⟩, ⟨by decide, fun d hd => ?_⟩⟩
 ·have : d = ⟨[102], [49, 10, 50, 10]⟩ := by simpa [bd1] using hd
  subst this; exact ⟨by decide, by decide⟩
 ·have : d = ⟨[102], [48, 10, 50, 10]⟩ := by simpa [bd2] using hd
  subst this; exact ⟨by decide, by decide⟩
 ·have : d = ⟨[102], [49, 10, 50, 10, 51, 10]⟩ ∨ d = ⟨[103], []⟩ := by simpa [bd3] using hd
  rcases this with rfl | rfl
  ·exact ⟨by decide, by decide⟩
  ·exact ⟨by decide, by decide⟩
set_option maxHeartbeats 4000000 in
theorem blendBegun_spec : Does Tryz.prog 31 [] [] (Rt (.c (.bool true)) []) := by
 have p1 := docFiles_spec [] .nil bd1 bdok.1
 rw [bk1] at p1
 dsimp only at p1
 rw [bi1] at p1
 have p1 := p1.conv3 bd_conv
 have p2 := docFiles_spec bL1 bl1 bd2 bdok.2.1
 rw [bk2] at p2
 dsimp only at p2
 rw [bi2] at p2
 have p2 := p2.conv3 bd_conv
 have p3 := docFiles_spec bL2 bl2 bd3 bdok.2.2
 rw [bk3] at p3
 dsimp only at p3
 rw [bi3] at p3
 have p3 := p3.conv3 bd_conv
 have p4 := blendMerge_spec bL3 bl3 (by decide) bf1 bf2 bf3 (fun l hl f hf => by
  have hl : l = bf1 ∨ l = bf2 ∨ l = bf3 := by simpa using hl
  have : ∀ l, l = bf1 ∨ l = bf2 ∨ l = bf3 → ∀ f ∈ l, f.path.length ≤ 4000000 := by
   intro l hl
   rcases hl with rfl | rfl | rfl <;> decide
  exact this l hl f hf)
 rw [bm1.1, bm1.2.1, bm1.2.2.1, bm1.2.2.2] at p4
 have p5 := get_spec bL4 bl4 4
 rw [bg1] at p5
 refine X_spM (n := 72) (n0 := 0) tabOk Tryz.call31 Tryz.func31 ?_
 intro hb
 refine XM.seq ?_
 (conv => whnf)
 refine XM.seq ?_
 (conv => whnf)
 refine cl [] [] (new_spec) ?_
 (conv => whnf)
 refine XM.le (t := ⟨[(1, .c (.ptr 0 0)), (2, .c (.ptr 2 0))], [.box [.rw 1], .row 6 Ob encOb [], .box [.rw 3], .row 6 Ob encOb []]⟩) [] [.same 0, .same 1, .same 2, .new] (by repeat' first | exact trivial | exact rfl | refine And.intro ?_ ?_) ?_
 refine XM.of ?_
 (conv => whnf)
 refine ⟨[49, 10, 50, 10], rfl, ?_⟩
 (conv => whnf)
 refine ⟨bd1, rfl, ?_⟩
 (conv => whnf)
 refine cl [] [0, 1, 2, 3] (p1) ?_
 (conv => whnf)
 refine ⟨[48, 10, 50, 10], rfl, ?_⟩
 (conv => whnf)
 refine ⟨bd2, rfl, ?_⟩
 (conv => whnf)
 refine cl [] [0, 6, 2, 7] (p2) ?_
 (conv => whnf)
 refine ⟨[49, 10, 50, 10, 51, 10], rfl, ?_⟩
 (conv => whnf)
 refine ⟨bd3, rfl, ?_⟩
 (conv => whnf)
 refine cl [] [0, 11, 2, 12] (p3) ?_
 (conv => whnf)
 refine cl [8, 13, 18] [0, 16] (p4) ?_
 (conv => whnf)
 refine ⟨0, ⟨rfl, by decide⟩, ?_⟩
 (conv => whnf)
 refine ⟨⟨[102], 1, 4, 0⟩, rfl, ?_⟩
 (conv => whnf)
 refine cl [] [] (p5) ?_
 (conv => whnf)
 refine ⟨[48, 10, 50, 10, 51, 10], rfl, ?_⟩
 (conv => whnf)
 exact rtB rfl
end Go.Nest
end
/- part -/
section

namespace Go.Nest
open Go Go.AM Go.Proofs
open Go.Proofs.YtpmjnbidmcnhnaaGreatDoor (tab tabOk)
set_option maxRecDepth 4000
theorem docs3 (L : List Ob) (hL : PoolOk L) (d : List Dc) (h : DocsOk d) : PoolOk (docsU L d).1 ∧ L <+: (docsU L d).1 ∧ (docsU L d).1.length ≤ L.length + 40 ∧ FL (docsU L d).1 (inOrdP (docsU L d).2) := by
 refine ⟨docs_ok hL, docs_ext, ?_, docs_fl h.1⟩
 have h1 := docs_pool (l := d) (s := (L, []))
 have h2 := h.1
 unfold docsU
 dsimp only at h1
 omega
theorem docs_long {L : List Ob} {d : List Dc} (h : DocsOk d) : ∀ f ∈ inOrdP (docsU L d).2, f.path.length ≤ 4000000 := fun f hf => by
 obtain ⟨c, hc, e⟩ := docs_path f ((inOrd_perm _).mem_iff.1 hf)
 have := (h.2 c hc).1
 rw [e]; omega
theorem blend_long {L : List Ob} {base x y : List Fi} (hx : ∀ f ∈ x, f.path.length ≤ 4000000) (hy : ∀ f ∈ y, f.path.length ≤ 4000000) (hp : ∀ l ∈ [base, x, y], ∀ f ∈ l, f.path.length ≤ 4000000) : ∀ f ∈ (blendB L base x y).out, f.path.length ≤ 4000000 := by
 unfold blendB
 split
 ·intro f hf; cases hf
 dsimp only
 generalize (if (runB base x y ⟨L, [], [], 0⟩ (pathsP [base, x, y])).code = 0 then filesF (runB base x y ⟨L, [], [], 0⟩ (pathsP [base, x, y])).out else (runB base x y ⟨L, [], [], 0⟩ (pathsP [base, x, y])).code) = c
 split
 ·intro f hf; cases hf
 ·exact runB_paths hx hy _ _ (fun q hq => by
   obtain ⟨l, h1, f, h2, rfl⟩ := paths_mem hq
   exact hp l h1 f h2) fun f hf => by cases hf
theorem all3 {P : Fi → Prop} {a b c : List Fi} (h1 : ∀ f ∈ a, P f) (h2 : ∀ f ∈ b, P f) (h3 : ∀ f ∈ c, P f) : ∀ l ∈ [a, b, c], ∀ f ∈ l, P f := by
 intro l hl
 rw [List.mem_cons, List.mem_cons, List.mem_singleton] at hl
 rcases hl with e | e | e <;> rw [e] <;> assumption
set_option maxHeartbeats 4000000 in
theorem blendSides_spec (d0 d1 d2 : List Dc) (h0 : DocsFit d0) (h1 : DocsFit d1) (h2 : DocsFit d2) : Does Tryz.prog 6 [.st [.ls 2 Dc encDc d0, .ls 2 Dc encDc d1, .ls 2 Dc encDc d2]] [] (Rt (.c (.bool true)) []) := by
 refine X_spM (n := 188) (n0 := 0) tabOk Tryz.call6 Tryz.func6 ?_
 intro hb
 refine XM.seq ?_
 (conv => whnf)
 refine XM.seq ?_
 (conv => whnf)
 refine cl [] [] (blendBegun_spec) ?_
 (conv => whnf)
 refine XM.seq ?_
 (conv => whnf)
 refine ⟨0, ⟨rfl, by decide⟩, ?_⟩
 (conv => whnf)
 refine cl [] [] (greatDocs_spec d0 h0) ?_
 (conv => whnf)
 refine boo (fun g0 => ?_) (fun g0 => ?_)
 ·(conv => whnf)
  exact rtC rfl rfl
 have g0 := greatD_ok g0
 (conv => whnf)
 refine ⟨1, ⟨rfl, by decide⟩, ?_⟩
 (conv => whnf)
 refine cl [] [] (greatDocs_spec d1 h1) ?_
 (conv => whnf)
 refine boo (fun g1 => ?_) (fun g1 => ?_)
 ·(conv => whnf)
  exact rtC rfl rfl
 have g1 := greatD_ok g1
 (conv => whnf)
 refine ⟨2, ⟨rfl, by decide⟩, ?_⟩
 (conv => whnf)
 refine cl [] [] (greatDocs_spec d2 h2) ?_
 (conv => whnf)
 refine boo (fun g2 => ?_) (fun g2 => ?_)
 ·(conv => whnf)
  exact rtC rfl rfl
 have g2 := greatD_ok g2
 (conv => whnf)
 refine XM.seq ?_
 (conv => whnf)
 refine cl [] [] (new_spec) ?_
 (conv => whnf)
 refine XM.le (t := ⟨[(1, .c (.ptr 0 0)), (3, .c (.ptr 1 0)), (4, .c (.ptr 3 0))], [.box [.ls 2 Dc encDc d0, .ls 2 Dc encDc d1, .ls 2 Dc encDc d2], .box [.rw 2], .row 6 Ob encOb [], .box [.rw 4], .row 6 Ob encOb []]⟩) [] [.same 0, .same 1, .same 2, .same 3, .new] (by repeat' first | exact trivial | exact rfl | refine And.intro ?_ ?_) ?_
 refine XM.of ?_
 have p1 := docFiles_spec [] .nil d0 g0
 obtain ⟨a1, a2, a3, a4⟩ := docs3 [] .nil d0 g0
 have a5 : ∀ f ∈ inOrdP (docsU [] d0).2, f.path.length ≤ 4000000 := docs_long g0
 generalize inOrdP (docsU [] d0).2 = base at *
 generalize (docsU [] d0).1 = L1 at *
 have p2 := docFiles_spec L1 a1 d1 g1
 obtain ⟨b1, b2, b3, b4⟩ := docs3 L1 a1 d1 g1
 have b5 : ∀ f ∈ inOrdP (docsU L1 d1).2, f.path.length ≤ 4000000 := docs_long g1
 generalize inOrdP (docsU L1 d1).2 = x at *
 generalize (docsU L1 d1).1 = L2 at *
 have p3 := docFiles_spec L2 b1 d2 g2
 obtain ⟨c1, c2, c3, c4⟩ := docs3 L2 b1 d2 g2
 have c5 : ∀ f ∈ inOrdP (docsU L2 d2).2, f.path.length ≤ 4000000 := docs_long g2
 generalize inOrdP (docsU L2 d2).2 = y at *
 generalize (docsU L2 d2).1 = L at *
 have a4 := a4.mono (b2.trans c2)
 have b4 := b4.mono c2
 have hL : L.length ≤ 120 := by simp only [List.length_nil] at a3; omega
 (conv => whnf)
 have hn : L.length ≤ 600 := by omega
 have q1 := blendMerge_spec L c1 hn base base y (all3 a5 a5 c5)
 rw [side_y a4 c4 c1 (by omega)] at q1
 have q2 := blendMerge_spec L c1 hn base x base (all3 a5 b5 a5)
 rw [side_x a4 b4 c1 (by omega)] at q2
 have q3 := blendMerge_spec L c1 hn base x x (all3 a5 b5 b5)
 rw [side_b a4 b4 c1 (by omega)] at q3
 dsimp only at q1 q2 q3
 have q4 := blendMerge_spec L c1 hn base x y (all3 a5 b5 c5)
 obtain ⟨w1, w2, w3⟩ := blend_fl a4 b4 c4 c1 (by omega)
 obtain ⟨s1, s2, s3⟩ := blend_swap a4 b4 c4 c1 (by omega)
 have hlo : ∀ f ∈ (blendB L base x y).out, f.path.length ≤ 4000000 := blend_long b5 c5 (all3 a5 b5 c5)
 generalize blendB L base x y = A at *
 have q5 := blendMerge_spec A.L w1 (by omega) base y x (all3 a5 c5 b5)
 generalize blendB A.L base y x = B at *
 rw [s1] at q5
 refine ⟨false, .prot [0], (.l [0, 1, 2, 3, 5, 6, 7, 8, 10, 11, 12, 13, 4, 9, 14, 15, 16, 17]), by kernel_rfl, .inl ?_⟩
 (conv => whnf)
 refine ⟨0, ⟨rfl, by decide⟩, ?_⟩
 (conv => whnf)
 refine ⟨1, ⟨rfl, by decide⟩, ?_⟩
 (conv => whnf)
 refine ⟨2, ⟨rfl, by decide⟩, ?_⟩
 (conv => whnf)
 refine cl [] [1, 2, 3, 4] (p1) ?_
 (conv => whnf)
 refine cl [] [1, 5, 3, 6] (p2) ?_
 (conv => whnf)
 refine cl [] [1, 8, 3, 9] (p3) ?_
 (conv => whnf)
 refine dec (fun _ => ?_) (fun _ => ?_)
 ·(conv => whnf)
  exact rtC rfl rfl
 (conv => whnf)
 refine dec (fun _ => ?_) (fun _ => ?_)
 ·(conv => whnf)
  exact rtC rfl rfl
 (conv => whnf)
 refine dec (fun _ => ?_) (fun _ => ?_)
 ·(conv => whnf)
  exact rtC rfl rfl
 (conv => whnf)
 refine cl [7, 10, 13] [1, 11] (q1) ?_
 (conv => whnf)
 refine cl [] [1, 14] (q2) ?_
 (conv => whnf)
 refine cl [] [1, 17] (q3) ?_
 have r1 := fun l => sameFiles_spec l l
 simp only [decide_true] at r1
 (conv => whnf)
 refine ⟨i64 (by decide) (by decide), ?_⟩
 (conv => whnf)
 refine ⟨i64 (by decide) (by decide), ?_⟩
 (conv => whnf)
 refine cl [] [] (r1 y) ?_
 (conv => whnf)
 refine cl [] [] (r1 x) ?_
 (conv => whnf)
 refine cl [] [] (r1 x) ?_
 (conv => whnf)
 refine cl [] [1, 20] (q4) ?_
 (conv => whnf)
 refine cl [] [1, 23] (q5) ?_
 (conv => whnf)
 refine decN (fun h => ?_) (fun h => ?_)
 ·(conv => whnf)
  refine dec (fun _ => ?_) (fun e => absurd rfl e)
  (conv => whnf)
  exact rtC rfl rfl
 ·obtain ⟨s4, s5, s6⟩ := s3 h
  have r2 := sameTexts_spec A.cf A.cf
  simp only [decide_true] at r2
  rw [s4]
  (conv => whnf)
  refine decN (fun e => absurd h e) (fun _ => ?_)
  (conv => whnf)
  refine cl [] [] (r2) ?_
  (conv => whnf)
  refine dec (fun _ => ?_) (fun h7 => ?_)
  ·(conv => whnf)
   exact rtC rfl rfl
  have h7 : ¬ (0 : Int) < A.cf.length := h7
  have hcf : A.cf = [] := List.eq_nil_of_length_eq_zero (by omega)
  have r3 := flatCheck_spec A.out hlo
  rw [s6] at r3
  rw [s5 hcf]
  (conv => whnf)
  refine cl [] [] (r1 A.out) ?_
  (conv => whnf)
  refine cl [] [] (r3) ?_
  (conv => whnf)
  exact rtC rfl rfl
end Go.Nest
end
