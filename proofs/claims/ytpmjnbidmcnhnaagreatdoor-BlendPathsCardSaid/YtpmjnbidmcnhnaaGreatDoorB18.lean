/- part -/
import Derived.Test.YtpmjnbidmcnhnaaGreatDoorB12
import Derived.Test.YtpmjnbidmcnhnaaGreatDoorW11
import Derived.Test.YtpmjnbidmcnhnaaGreatDoorS3
set_option linter.unusedVariables false
set_option linter.unusedSimpArgs false
section

namespace Go.Nest
open Go Go.AM
theorem blend_fl {L : List Ob} {base x y : List Fi} (hb : FL L base) (hx : FL L x) (hy : FL L y) (hL : PoolOk L) (hn : L.length ≤ 480) : PoolOk (blendB L base x y).L ∧ L <+: (blendB L base x y).L ∧ (blendB L base x y).L.length ≤ L.length + 120 := by
 have hl := paths3_len hb hx hy
 obtain ⟨h1, h2, h3, h4, -⟩ := run_gen hb hx hy (pathsP [base, x, y]) ⟨L, [], [], 0⟩ hL (List.prefix_refl _) (by show L.length + _ ≤ 600; omega) rfl
 have h3 : (runB base x y ⟨L, [], [], 0⟩ (pathsP [base, x, y])).L.length ≤ L.length + (pathsP [base, x, y]).length := h3
 rw [blend_of hb hx hy hL hn]
 split
 ·exact ⟨h1, h2, by dsimp only; omega⟩
 ·exact ⟨h1, h2, by dsimp only; omega⟩
def sg (l : List Fi) (q : List UInt8) : List Fi := if (fileAtP l q).2 = true then [(fileAtP l q).1] else []
theorem at_two (l : List Fi) (q : List UInt8) : ((fileAtP l q).2 = true ↔ ∃ f ∈ l, f.path = q) ∧ ((fileAtP l q).2 = false → atP l q = fi0) := by
 unfold atP fileAtP
 cases h : l.find? fun f => decide (f.path = q) with
 | none =>
  refine ⟨⟨fun h => (by cases h), fun ⟨f, hf, e⟩ => ?_⟩, fun _ => rfl⟩
  have := (List.find?_eq_none.1 h) f hf
  simp [e] at this
 | some f =>
  exact ⟨⟨fun _ => ⟨f, List.mem_of_find?_eq_some h, by simpa using List.find?_some h⟩, fun _ => rfl⟩, fun h => (by cases h)⟩
theorem sg_fl {M : List Ob} {l : List Fi} (h : FL M l) (q : List UInt8) : FL M (sg l q) ∧ atP (sg l q) q = atP l q ∧ ∀ p, (∃ f ∈ sg l q, f.path = p) ↔ p = q ∧ ∃ f ∈ l, f.path = q := by
 obtain ⟨h1, h2⟩ := at_two l q
 unfold sg
 by_cases c : (fileAtP l q).2 = true
 ·rw [if_pos c]
  obtain ⟨m1, m2⟩ := atP_mem (h1.1 c)
  refine ⟨⟨fun f hf => ?_, by simp, by simp⟩, ?_, fun p => ?_⟩
  ·rw [List.mem_singleton] at hf
   rw [hf]; exact h.all _ m1
  ·rw [atP_cons]
   show (if (atP l q).path = q then atP l q else _) = _
   rw [if_pos m2]
  ·constructor
   ·rintro ⟨f, hf, e⟩
    rw [List.mem_singleton] at hf
    subst hf
    exact ⟨e.symm.trans m2, h1.1 c⟩
   ·rintro ⟨rfl, _⟩
    exact ⟨_, List.mem_singleton.2 rfl, m2⟩
 ·rw [if_neg c]
  refine ⟨⟨fun f hf => (by cases hf), .nil, by simp⟩, (h2 (by simpa using c)).symm, fun p => ⟨fun ⟨f, hf, _⟩ => (by cases hf), fun ⟨_, e⟩ => absurd (h1.2 e) c⟩⟩
theorem blend_single {L : List Ob} {base x y : List Fi} (hb : FL L base) (hx : FL L x) (hy : FL L y) (hL : PoolOk L) (hn : L.length ≤ 360) (hc : (blendB L base x y).code = 0) {q : List UInt8} (hq : q ∈ pathsP [base, x, y]) :
  (blendB (blendB L base x y).L (sg base q) (sg x q) (sg y q)).code = 0 ∧ ∃ (o : Option Fi) (c : Bool), (blendB (blendB L base x y).L (sg base q) (sg x q) (sg y q)).out = o.toList ∧ (blendB (blendB L base x y).L (sg base q) (sg x q) (sg y q)).cf = (if c = true then [q] else []) ∧
   (c = true ↔ q ∈ (blendB L base x y).cf) ∧ fileAtP (blendB L base x y).out q = (o.getD fi0, o.isSome) := by
 obtain ⟨p1, p2, p3⟩ := blend_fl hb hx hy hL (by omega)
 have hl := paths3_len hb hx hy
 have eA := blend_of hb hx hy hL (by omega)
 obtain ⟨-, -, -, -, r5⟩ := run_gen hb hx hy (pathsP [base, x, y]) ⟨L, [], [], 0⟩ hL (List.prefix_refl _) (by show L.length + _ ≤ 600; omega) rfl
 have eL : (runB base x y ⟨L, [], [], 0⟩ (pathsP [base, x, y])).L = (blendB L base x y).L := by rw [eA]; split <;> rfl
 obtain ⟨q1, q2⟩ := paths3 (base := base) (x := x) (y := y)
 have hqm := (q2 q).1 hq
 generalize blendB L base x y = A at *
 obtain ⟨sb, sb1, sb2⟩ := sg_fl (hb.mono p2) q
 obtain ⟨sx, sx1, sx2⟩ := sg_fl (hx.mono p2) q
 obtain ⟨sy, sy1, sy2⟩ := sg_fl (hy.mono p2) q
 have eP : pathsP [sg base q, sg x q, sg y q] = [q] := by
  obtain ⟨k1, k2⟩ := paths3 (base := sg base q) (x := sg x q) (y := sg y q)
  refine ris_ext k1 (by simp [Ris]) fun p => ?_
  rw [k2, sb2, sx2, sy2, List.mem_singleton]
  constructor
  ·rintro (h | h | h)
   ·exact h.1
   ·exact h.1
   ·exact h.1
  ·intro e
   exact hqm.imp (fun h => ⟨e, h⟩) fun h => h.imp (fun h => ⟨e, h⟩) fun h => ⟨e, h⟩
 have eB := blend_of sb sx sy p1 (by omega)
 rw [eP] at eB
 obtain ⟨t1, t2, -, -, t5⟩ := run_gen sb sx sy [q] ⟨A.L, [], [], 0⟩ p1 (List.prefix_refl _) (by simp; omega) rfl
 have t2 : A.L <+: (runB (sg base q) (sg x q) (sg y q) ⟨A.L, [], [], 0⟩ [q]).L := t2
 generalize blendB A.L (sg base q) (sg x q) (sg y q) = B at *
 generalize runB base x y ⟨L, [], [], 0⟩ (pathsP [base, x, y]) = s at *
 generalize runB (sg base q) (sg x q) (sg y q) ⟨A.L, [], [], 0⟩ [q] = t at *
 obtain ⟨a1, a2, a3⟩ := r5 t.L t1 (by rw [eL]; exact t2)
 obtain ⟨b1, b2, -⟩ := t5 t.L t1 (List.prefix_refl _)
 have hr : resB t.L (sg base q) (sg x q) (sg y q) q = resB t.L base x y q := by unfold resB; rw [sb1, sx1, sy1]
 have hcf : cfB t.L (sg base q) (sg x q) (sg y q) q = cfB t.L base x y q := by unfold cfB; rw [sb1, sx1, sy1]
 have b1 : t.out = (resB t.L base x y q).toList := by
  rw [b1, ← hr]
  show List.filterMap _ [q] = _
  rw [List.filterMap_cons]
  cases resB t.L (sg base q) (sg x q) (sg y q) q <;> rfl
 have b2 : t.cf = if cfB t.L base x y q = true then [q] else [] := by
  rw [b2, ← hcf]
  show List.filter _ [q] = _
  rw [List.filter_cons]; rfl
 have hkeep : ∀ p ∈ pathsP [base, x, y], ∀ f, resB t.L base x y p = some f → f.path = p ∧ f.mode = 1 ∧ (splitP f.path).2 = 0 := fun p hp f h => by
  unfold resB keep at h
  split at h
  ·rename_i h1
   cases h
   rcases (a3 p hp).mode with ⟨_, h2⟩ | ⟨h2, h3, h4⟩
   ·omega
   ·exact ⟨h3, h2, by rw [h3]; exact h4⟩
  ·cases h
 have hz : filesF t.out = 0 := by
  rw [b1]
  cases e : resB t.L base x y q with
  | none => rfl
  | some f =>
   obtain ⟨k1, k2, k3⟩ := hkeep q hq f e
   exact apt_zero (l := [f]) (fun g hg => by rw [List.mem_singleton] at hg; subst hg; exact ⟨k3, k2⟩) (by simp) (by simp)
 have hs : filesF s.out = 0 := Classical.byContradiction fun h => by
  rw [eA, if_pos h] at hc; exact h hc
 rw [if_neg (fun h => h hs)] at eA
 rw [if_neg (fun h => h hz)] at eB
 rw [eB, eA]
 refine ⟨rfl, resB t.L base x y q, cfB t.L base x y q, b1, b2, ?_, ?_⟩
 ·show _ ↔ q ∈ s.cf
  rw [a2]
  show _ ↔ q ∈ List.filter _ _
  rw [List.mem_filter]
  exact ⟨fun h => ⟨hq, h⟩, fun h => h.2⟩
 ·show fileAtP s.out q = _
  have a1 : s.out = (pathsP [base, x, y]).filterMap (resB t.L base x y) := a1
  have hris : Ris (·.path) s.out := by rw [a1]; exact ris_map q1 fun p hp f h => (hkeep p hp f h).1
  have hm : ∀ f, f ∈ s.out ↔ ∃ p ∈ pathsP [base, x, y], resB t.L base x y p = some f := fun f => by rw [a1, List.mem_filterMap]
  obtain ⟨w1, w2⟩ := at_two s.out q
  cases e : resB t.L base x y q with
  | none =>
   have h0 : (fileAtP s.out q).2 = false := by
    refine Bool.eq_false_iff.2 fun h => ?_
    obtain ⟨f, hf, e2⟩ := w1.1 h
    obtain ⟨p, hp, e3⟩ := (hm f).1 hf
    have := (hkeep p hp f e3).1
    rw [← this, e2, e] at e3; cases e3
   exact Prod.ext (w2 h0) h0
  | some f =>
   have hf : f ∈ s.out := (hm f).2 ⟨q, hq, e⟩
   have hp := (hkeep q hq f e).1
   have h1 := atP_self hris hf
   rw [hp] at h1
   exact Prod.ext h1 (w1.2 ⟨f, hf, hp⟩)
end Go.Nest
end
/- part -/
section

namespace Go.AM
open Go Go.NB
theorem Does.conv3 {P : Program} {f : FuncId} {a b : A} {c c' : C} {args : List A} {ah : List B} {Q : Out → List B → Prop} (h : Does P f (a :: b :: .c c :: args) ah Q) (hc : ∀ {F : Nat → Prop} {H : Heap} {m : Md} {v : Value}, RL F H m [c'] [v] → RL F H m [c] [v]) : Does P f (a :: b :: .c c' :: args) ah Q :=
 fun F L γ H vs h1 h2 => h F L γ H vs (match vs, h1 with | _ :: _ :: _ :: _, ⟨h3, h4, h5, h6⟩ => ⟨h3, h4, hc h5, h6⟩) h2
end Go.AM
namespace Go.Nest
open Go Go.AM Go.Proofs
open Go.NB (Heap)
open Go.Proofs.YtpmjnbidmcnhnaaGreatDoor.T3 (tab tabOk)
set_option maxRecDepth 4000
theorem bd_conv {F : Nat → Prop} {H : Heap} {m : Md} {l : List Dc} {v : Value} (h : RL F H m [.bs 2 Dc encDcN l] [v]) : RL F H m [.bs 2 Dc encDc l] [v] := by
 cases h with
 | bs0 _ => exact .bs0 .nl
 | bs hb h1 h2 hr hs hq _ => exact .bs hb h1 h2 (flat_conv dc_conv hr) (fun y hy => rfl) hq .nl
def bd1 : List Dc := [⟨[102], [49, 10, 50, 10]⟩]
def bd2 : List Dc := [⟨[102], [48, 10, 50, 10]⟩]
def bd3 : List Dc := [⟨[102], [49, 10, 50, 10, 51, 10]⟩, ⟨[103], []⟩]
def bo (l : List UInt8) : Ob := ⟨1, l, [], 0, [], []⟩
def bL1 : List Ob := [bo [49, 10, 50, 10]]
def bL2 : List Ob := [bo [49, 10, 50, 10], bo [48, 10, 50, 10]]
def bL3 : List Ob := [bo [49, 10, 50, 10], bo [48, 10, 50, 10], bo [49, 10, 50, 10, 51, 10], bo []]
def bL4 : List Ob := bL3 ++ [bo [48, 10, 50, 10, 51, 10]]
def bf1 : List Fi := [⟨[102], 1, 0, 0⟩]
def bf2 : List Fi := [⟨[102], 1, 1, 0⟩]
def bf3 : List Fi := [⟨[102], 1, 2, 0⟩, ⟨[103], 1, 3, 0⟩]
def bf4 : List Fi := [⟨[102], 1, 4, 0⟩, ⟨[103], 1, 3, 0⟩]
theorem bk1 : docsU [] bd1 = (bL1, bf1) := by decide +kernel
theorem bk2 : docsU bL1 bd2 = (bL2, bf2) := by decide +kernel
theorem bk3 : docsU bL2 bd3 = (bL3, bf3) := by decide +kernel
theorem bi1 : inOrdP bf1 = bf1 := by decide +kernel
theorem bi2 : inOrdP bf2 = bf2 := by decide +kernel
theorem bi3 : inOrdP bf3 = bf3 := by decide +kernel
theorem bl1 : PoolOk bL1 := by have := docs_ok (l := bd1) PoolOk.nil; rw [bk1] at this; exact this
theorem bl2 : PoolOk bL2 := by have := docs_ok (l := bd2) bl1; rw [bk2] at this; exact this
theorem bl3 : PoolOk bL3 := by have := docs_ok (l := bd3) bl2; rw [bk3] at this; exact this
theorem bm1 : (blendB bL3 bf1 bf2 bf3).L = bL4 ∧ (blendB bL3 bf1 bf2 bf3).out = bf4 ∧ (blendB bL3 bf1 bf2 bf3).cf = [] ∧ (blendB bL3 bf1 bf2 bf3).code = 0 := by decide +kernel
theorem bl4 : PoolOk bL4 := by
 have h := bl3
 exact .snoc h (by decide +kernel) (by decide +kernel) (by decide +kernel) (by decide)
theorem bg1 : getP bL4 4 = bo [48, 10, 50, 10, 51, 10] := by decide +kernel
theorem bdok : DocsOk bd1 ∧ DocsOk bd2 ∧ DocsOk bd3 := by
 refine ⟨⟨by decide, fun d hd => ?_⟩, ⟨by decide, fun d hd => ?_⟩, ⟨by decide, fun d hd => ?_⟩⟩
 ·have : d = ⟨[102], [49, 10, 50, 10]⟩ := by simpa [bd1] using hd
  subst this; exact ⟨by decide, by decide⟩
 ·have : d = ⟨[102], [48, 10, 50, 10]⟩ := by simpa [bd2] using hd
  subst this; exact ⟨by decide, by decide⟩
 ·have : d = ⟨[102], [49, 10, 50, 10, 51, 10]⟩ ∨ d = ⟨[103], []⟩ := by simpa [bd3] using hd
  rcases this with rfl | rfl
  ·exact ⟨by decide, by decide⟩
  ·exact ⟨by decide, by decide⟩
set_option maxHeartbeats 4000000 in
theorem blendBegun_spec : Does Tryz.prog 31 [] [] (Rt (.c (.bool true)) []) := by
 have p1 := docFiles_spec [] .nil bd1 bdok.1
 rw [bk1] at p1
 dsimp only at p1
 rw [bi1] at p1
 have p1 := p1.conv3 bd_conv
 have p2 := docFiles_spec bL1 bl1 bd2 bdok.2.1
 rw [bk2] at p2
 dsimp only at p2
 rw [bi2] at p2
 have p2 := p2.conv3 bd_conv
 have p3 := docFiles_spec bL2 bl2 bd3 bdok.2.2
 rw [bk3] at p3
 dsimp only at p3
 rw [bi3] at p3
 have p3 := p3.conv3 bd_conv
 have p4 := blendMerge_spec bL3 bl3 (by decide) bf1 bf2 bf3 (fun l hl f hf => by
  have hl : l = bf1 ∨ l = bf2 ∨ l = bf3 := by simpa using hl
  have : ∀ l, l = bf1 ∨ l = bf2 ∨ l = bf3 → ∀ f ∈ l, f.path.length ≤ 4000000 := by
   intro l hl
   rcases hl with rfl | rfl | rfl <;> decide
  exact this l hl f hf)
 rw [bm1.1, bm1.2.1, bm1.2.2.1, bm1.2.2.2] at p4
 have p5 := get_spec bL4 bl4 4
 rw [bg1] at p5
 refine X_spM (n := 72) (n0 := 0) tabOk Tryz.call31 Tryz.func31 ?_
 intro hb
 refine XM.seq ?_
 (conv => whnf)
 refine XM.seq ?_
 (conv => whnf)
 refine cl [] [] (new_spec) ?_
 (conv => whnf)
 refine XM.le (t := ⟨[(1, .c (.ptr 0 0)), (2, .c (.ptr 2 0))], [.box [.rw 1], .row 6 Ob encOb [], .box [.rw 3], .row 6 Ob encOb []]⟩) [] [.same 0, .same 1, .same 2, .new] (by repeat' first | exact trivial | exact rfl | refine And.intro ?_ ?_) ?_
 refine XM.of ?_
 (conv => whnf)
 refine ⟨[49, 10, 50, 10], rfl, ?_⟩
 (conv => whnf)
 refine ⟨bd1, rfl, ?_⟩
 (conv => whnf)
 refine cl [] [0, 1, 2, 3] (p1) ?_
 (conv => whnf)
 refine ⟨[48, 10, 50, 10], rfl, ?_⟩
 (conv => whnf)
 refine ⟨bd2, rfl, ?_⟩
 (conv => whnf)
 refine cl [] [0, 6, 2, 7] (p2) ?_
 (conv => whnf)
 refine ⟨[49, 10, 50, 10, 51, 10], rfl, ?_⟩
 (conv => whnf)
 refine ⟨bd3, rfl, ?_⟩
 (conv => whnf)
 refine cl [] [0, 11, 2, 12] (p3) ?_
 (conv => whnf)
 refine cl [8, 13, 18] [0, 16] (p4) ?_
 (conv => whnf)
 refine ⟨0, ⟨rfl, by decide⟩, ?_⟩
 (conv => whnf)
 refine ⟨⟨[102], 1, 4, 0⟩, rfl, ?_⟩
 (conv => whnf)
 refine cl [] [] (p5) ?_
 (conv => whnf)
 refine ⟨[48, 10, 50, 10, 51, 10], rfl, ?_⟩
 (conv => whnf)
 exact rtB rfl
end Go.Nest
end
/- part -/
section

namespace Go.Nest
open Go Go.AM Go.Proofs
open Go.Proofs.YtpmjnbidmcnhnaaGreatDoor (tab tabOk)
set_option maxRecDepth 4000
theorem docs3 (L : List Ob) (hL : PoolOk L) (d : List Dc) (h : DocsOk d) : PoolOk (docsU L d).1 ∧ L <+: (docsU L d).1 ∧ (docsU L d).1.length ≤ L.length + 40 ∧ FL (docsU L d).1 (inOrdP (docsU L d).2) := by
 refine ⟨docs_ok hL, docs_ext, ?_, docs_fl h.1⟩
 have h1 := docs_pool (l := d) (s := (L, []))
 have h2 := h.1
 unfold docsU
 dsimp only at h1
 omega
theorem docs_long {L : List Ob} {d : List Dc} (h : DocsOk d) : ∀ f ∈ inOrdP (docsU L d).2, f.path.length ≤ 4000000 := fun f hf => by
 obtain ⟨c, hc, e⟩ := docs_path f ((inOrd_perm _).mem_iff.1 hf)
 have := (h.2 c hc).1
 rw [e]; omega
theorem all3 {P : Fi → Prop} {a b c : List Fi} (h1 : ∀ f ∈ a, P f) (h2 : ∀ f ∈ b, P f) (h3 : ∀ f ∈ c, P f) : ∀ l ∈ [a, b, c], ∀ f ∈ l, P f := by
 intro l hl
 rw [List.mem_cons, List.mem_cons, List.mem_singleton] at hl
 rcases hl with e | e | e <;> rw [e] <;> assumption
end Go.Nest
end
/- part -/
section

namespace Go.Nest
open Go Go.AM Go.Proofs
open Go.Proofs.YtpmjnbidmcnhnaaGreatDoor (tab tabOk)
set_option maxRecDepth 4000
theorem dec_self {p : Prop} {inst : Decidable p} (h : p) : @decide p inst = true := @decide_eq_true p inst h
theorem blend_none {L : List Ob} {base x y : List Fi} (h : (blendB L base x y).code ≠ 0 ∨ pathsP [base, x, y] = []) : (blendB L base x y).out = [] := by
 unfold blendB at h ⊢
 by_cases c1 : firstC [base, x, y] ≠ 0
 ·rw [if_pos c1]
 rw [if_neg c1] at h ⊢
 dsimp only at h ⊢
 generalize hs : runB base x y ⟨L, [], [], 0⟩ (pathsP [base, x, y]) = s at *
 generalize (if s.code = 0 then filesF s.out else s.code) = c at *
 by_cases c2 : c ≠ 0
 ·rw [if_pos c2]
 ·rw [if_neg c2] at h ⊢
  rcases h with h | h
  ·exact absurd rfl h
  ·rw [h] at hs; rw [← hs]; rfl
theorem blend_cf {L : List Ob} {base x y : List Fi} (hb : FL L base) (hx : FL L x) (hy : FL L y) (hL : PoolOk L) (hn : L.length ≤ 480) : (blendB L base x y).cf.length ≤ 120 := by
 have h := (runB_ok (base := base) (x := x) (y := y) (pathsP [base, x, y]) (s := ⟨L, [], [], 0⟩) (n := 0) ⟨hL, by show L.length ≤ 600; omega, Nat.le_refl _, Nat.le_refl _⟩).cf
 have hl := paths3_len hb hx hy
 rw [blend_of hb hx hy hL hn]
 split
 ·exact Nat.zero_le _
 ·dsimp only; omega
def sgs (l : List Fi) (q : List UInt8) (b : Bool) : List Fi := if b = true then sg l q else []
theorem sg_long {l : List Fi} {q : List UInt8} (h : ∀ f ∈ l, f.path.length ≤ 4000000) : ∀ f ∈ sg l q, f.path.length ≤ 4000000 := by
 unfold sg
 split
 ·intro f hf
  rw [List.mem_singleton] at hf
  rw [hf]; exact at_len h
 ·intro f hf; cases hf
theorem sgs_no {l : List Fi} {q : List UInt8} {b : Bool} (h : (fileAtP l q).2 = false) : sgs l q b = [] := by
 unfold sgs sg
 split
 ·rw [if_neg (by rw [h]; decide)]
 ·rfl
theorem sgs_yes {l : List Fi} {q : List UInt8} (h : (fileAtP l q).2 = true) : [(fileAtP l q).1] = sgs l q true := by
 unfold sgs sg
 rw [if_pos rfl, if_pos h]
set_option maxHeartbeats 8000000 in
theorem blendPaths_spec (d0 d1 d2 : List Dc) (k : Int) (h0 : DocsFit d0) (h1 : DocsFit d1) (h2 : DocsFit d2) : Does Tryz.prog 7 [.st [.ls 2 Dc encDc d0, .ls 2 Dc encDc d1, .ls 2 Dc encDc d2], .c (.int .i64 k)] [] (Rt (.c (.bool true)) []) := by
 refine X_spM (n := 176) (n0 := 0) tabOk Tryz.call7 Tryz.func7 ?_
 intro hb
 refine XM.seq ?_
 (conv => whnf)
 refine XM.seq ?_
 (conv => whnf)
 refine cl [] [] (blendBegun_spec) ?_
 (conv => whnf)
 refine XM.seq ?_
 (conv => whnf)
 refine ⟨0, ⟨rfl, by decide⟩, ?_⟩
 (conv => whnf)
 refine cl [] [] (greatDocs_spec d0 h0) ?_
 (conv => whnf)
 refine boo (fun g0 => ?_) (fun g0 => ?_)
 ·(conv => whnf)
  exact rtC rfl rfl
 have g0 := greatD_ok g0
 (conv => whnf)
 refine ⟨1, ⟨rfl, by decide⟩, ?_⟩
 (conv => whnf)
 refine cl [] [] (greatDocs_spec d1 h1) ?_
 (conv => whnf)
 refine boo (fun g1 => ?_) (fun g1 => ?_)
 ·(conv => whnf)
  exact rtC rfl rfl
 have g1 := greatD_ok g1
 (conv => whnf)
 refine ⟨2, ⟨rfl, by decide⟩, ?_⟩
 (conv => whnf)
 refine cl [] [] (greatDocs_spec d2 h2) ?_
 (conv => whnf)
 refine boo (fun g2 => ?_) (fun g2 => ?_)
 ·(conv => whnf)
  exact rtC rfl rfl
 have g2 := greatD_ok g2
 (conv => whnf)
 refine XM.seq ?_
 (conv => whnf)
 refine cl [] [] (new_spec) ?_
 (conv => whnf)
 refine XM.le (t := ⟨[(1, .c (.int .i64 k)), (2, .c (.ptr 0 0)), (5, .c (.ptr 1 0)), (6, .c (.ptr 3 0))], [.box [.ls 2 Dc encDc d0, .ls 2 Dc encDc d1, .ls 2 Dc encDc d2], .box [.rw 2], .row 6 Ob encOb [], .box [.rw 4], .row 6 Ob encOb []]⟩) [] [.same 0, .same 1, .same 2, .same 3, .new] (by repeat' first | exact trivial | exact rfl | refine And.intro ?_ ?_) ?_
 refine XM.of ?_
 have p1 := docFiles_spec [] .nil d0 g0
 obtain ⟨a1, a2, a3, a4⟩ := docs3 [] .nil d0 g0
 have a5 : ∀ f ∈ inOrdP (docsU [] d0).2, f.path.length ≤ 4000000 := docs_long g0
 generalize inOrdP (docsU [] d0).2 = base at *
 generalize (docsU [] d0).1 = L1 at *
 have p2 := docFiles_spec L1 a1 d1 g1
 obtain ⟨b1, b2, b3, b4⟩ := docs3 L1 a1 d1 g1
 have b5 : ∀ f ∈ inOrdP (docsU L1 d1).2, f.path.length ≤ 4000000 := docs_long g1
 generalize inOrdP (docsU L1 d1).2 = x at *
 generalize (docsU L1 d1).1 = L2 at *
 have p3 := docFiles_spec L2 b1 d2 g2
 obtain ⟨c1, c2, c3, c4⟩ := docs3 L2 b1 d2 g2
 have c5 : ∀ f ∈ inOrdP (docsU L2 d2).2, f.path.length ≤ 4000000 := docs_long g2
 generalize inOrdP (docsU L2 d2).2 = y at *
 generalize (docsU L2 d2).1 = L at *
 have a4 := a4.mono (b2.trans c2)
 have b4 := b4.mono c2
 have hL : L.length ≤ 120 := by simp only [List.length_nil] at a3; omega
 have u1 := pathsOf_spec [base, x, y] (by simp) (fun l hl => by
  have hl : l = base ∨ l = x ∨ l = y := by simpa using hl
  have := a4.len; have := b4.len; have := c4.len
  rcases hl with e | e | e <;> rw [e] <;> omega) (all3 a5 b5 c5) (by
  have := a4.len; have := b4.len; have := c4.len
  simp only [List.flatten_cons, List.flatten_nil, List.length_append, List.length_nil]
  omega)
 have q1 := blendMerge_spec L c1 (by omega) base x y (all3 a5 b5 c5)
 obtain ⟨w1, w2, w3⟩ := blend_fl a4 b4 c4 c1 (by omega)
 have hcl := blend_cf a4 b4 c4 c1 (by omega)
 have hno := blend_none (L := L) (base := base) (x := x) (y := y)
 have hone := fun h q hq => blend_single a4 b4 c4 c1 (by omega) h (q := q) hq
 have hql := paths3_len a4 b4 c4
 generalize blendB L base x y = A at *
 generalize pathsP [base, x, y] = qs at *
 (conv => whnf)
 refine ⟨false, .prot [0], (.l [0, 1, 2, 3, 5, 6, 7, 8, 10, 11, 12, 13, 4, 9, 14, 15, 16]), by kernel_rfl, .inl ?_⟩
 (conv => whnf)
 refine ⟨0, ⟨rfl, by decide⟩, ?_⟩
 (conv => whnf)
 refine ⟨1, ⟨rfl, by decide⟩, ?_⟩
 (conv => whnf)
 refine ⟨2, ⟨rfl, by decide⟩, ?_⟩
 (conv => whnf)
 refine cl [] [1, 2, 3, 4] (p1) ?_
 (conv => whnf)
 refine cl [] [1, 5, 3, 6] (p2) ?_
 (conv => whnf)
 refine cl [] [1, 8, 3, 9] (p3) ?_
 (conv => whnf)
 refine ⟨[base, x, y], rfl, ?_⟩
 (conv => whnf)
 refine cl [] [] (u1) ?_
 (conv => whnf)
 refine ⟨false, .grow, (.l [0, 1, 2, 3, 4, 5, 6, 7, 8, 9, 10, 11, 12, 13, 14, 15, 16, 17]), by kernel_rfl, .inl ?_⟩
 (conv => whnf)
 refine ⟨0, ⟨rfl, by simp⟩, ?_⟩
 (conv => whnf)
 refine ⟨base, rfl, ?_⟩
 (conv => whnf)
 refine ⟨1, ⟨rfl, by simp⟩, ?_⟩
 (conv => whnf)
 refine ⟨x, rfl, ?_⟩
 (conv => whnf)
 refine ⟨2, ⟨rfl, by simp⟩, ?_⟩
 (conv => whnf)
 refine ⟨y, rfl, ?_⟩
 (conv => whnf)
 refine cl [] [1, 11] (q1) ?_
 (conv => whnf)
 refine decN (fun h => ?_) (fun hc => ?_)
 ·rw [hno (.inl h)]
  (conv => whnf)
  exact rtC rfl rfl
 (conv => whnf)
 refine dec (fun h => ?_) (fun hz => ?_)
 ·have h : (qs.length : Int) = 0 := h
  rw [hno (.inr (List.eq_nil_of_length_eq_zero (by omega)))]
  (conv => whnf)
  exact rtC rfl rfl
 have hz : ¬ (qs.length : Int) = 0 := hz
 (conv => whnf)
 refine ⟨wrapU_ne (by omega) (by omega), ?_⟩
 (conv => whnf)
 obtain ⟨r1, r2⟩ := round_at (k := k) (n := qs.length) (by omega) (by omega)
 refine ⟨_, ⟨r1, r2⟩, ?_⟩
 (conv => whnf)
 refine ⟨_, List.getElem?_eq_getElem r2, ?_⟩
 obtain ⟨e1, o, c, e2, e3, e4, e5⟩ := hone hc _ (List.getElem_mem r2)
 have q2 := fun q h => blendMerge_spec A.L w1 (by omega) (sg base q) (sg x q) (sg y q) h
 clear hone hno r1
 generalize qs[(k % 18446744073709551616 % qs.length).toNat] = q at *
 have hs : ∀ {l : List Fi}, (∀ f ∈ l, f.path.length ≤ 4000000) → ∀ f ∈ sg l q, f.path.length ≤ 4000000 := fun h => sg_long h
 have q2 := q2 q (all3 (hs a5) (hs b5) (hs c5))
 rw [e1, e2, e3] at q2
 clear hs e1 e2 e3
 generalize (blendB A.L (sg base q) (sg x q) (sg y q)).L = M at *
 (conv => whnf)
 refine lp (Nat × List Fi × List Fi × List Fi) (fun p => ⟨[(5, .c (.ptr 0 0)), (7, .c (.rw 2)), (9, .c (.rw 3)), (10, .c (.rw 4)), (12, .c (.str q)), (13, .c (.ptr 5 0)), (14, .c (.int .i64 p.1))], [.box [.rw 1], .row 6 Ob encOb A.L, .row 1 (List Fi) (encL 4 encFi) [base, x, y], .row 4 Fi encFi A.out, .row 1 (List UInt8) encS A.cf, .box [.rw 6, .rw 7, .rw 8], .row 4 Fi encFi p.2.1, .row 4 Fi encFi p.2.2.1, .row 4 Fi encFi p.2.2.2]⟩) (fun p => p.1 ≤ 3 ∧ p.2.1 = sgs base q (decide (0 < p.1)) ∧ p.2.2.1 = sgs x q (decide (1 < p.1)) ∧ p.2.2.2 = sgs y q (decide (2 < p.1))) (fun p => 3 - p.1) (0, [], [], []) [] [.same 1, .same 16, .same 14, .same 17, .same 18, .same 19, .new, .new, .new] ⟨Nat.zero_le _, rfl, rfl, rfl⟩ ?_ (fun p hp => ?_)
 ·repeat' first | exact trivial | exact rfl | refine And.intro ?_ ?_
 obtain ⟨i, s0, s1, s2⟩ := p
 obtain ⟨hi, f0, f1, f2⟩ := hp
 dsimp only at hi f0 f1 f2
 (conv => whnf)
 refine dec (fun h4 => ?_) (fun h4 => ?_)
 ·have h4 : (i : Int) < 3 := h4
  have hi3 : i = 0 ∨ i = 1 ∨ i = 2 := by omega
  rcases hi3 with rfl | rfl | rfl
  ·(conv => whnf)
   refine ⟨0, ⟨rfl, by simp⟩, ?_⟩
   (conv => whnf)
   refine ⟨base, rfl, ?_⟩
   (conv => whnf)
   refine cl [] [] (fileAt_spec base q) ?_
   (conv => whnf)
   refine boo (fun h5 => ?_) (fun h5 => ?_)
   ·(conv => whnf)
    refine ⟨[(fileAtP base q).1], rfl, ?_⟩
    (conv => whnf)
    refine ⟨0, ⟨rfl, by decide⟩, ?_⟩
    repeat' ((conv => whnf); first | (refine dec (fun h => ?_) (fun h => ?_) <;> try contradiction) | (refine decN (fun h => ?_) (fun h => ?_) <;> try contradiction) | refine booN (fun h => ?_) (fun h => ?_) | refine boo (fun h => ?_) (fun h => ?_) | refine ⟨i64 (by omega) (by omega), ?_⟩ | refine ⟨_, _, rfl, List.getElem?_eq_getElem (by omega), ?_⟩ | refine ⟨_, ⟨rfl, by omega⟩, ?_⟩ | refine ⟨_, List.getElem?_eq_getElem (by omega), ?_⟩ | refine rtB ?_ | refine rtI ?_ | refine rtC ?_ rfl | fail)
    refine ag (0 + 1, [(fileAtP base q).1], s1, s2) [] [.same 0, .same 1, .same 2, .same 3, .same 4, .same 5, .same 10, .same 7, .same 8] ⟨by simp, sgs_yes h5, f1, f2⟩ (by simp only []; omega) ?_
    repeat' first | exact trivial | exact rfl | refine And.intro ?_ ?_
   ·repeat' ((conv => whnf); first | (refine dec (fun h => ?_) (fun h => ?_) <;> try contradiction) | (refine decN (fun h => ?_) (fun h => ?_) <;> try contradiction) | refine booN (fun h => ?_) (fun h => ?_) | refine boo (fun h => ?_) (fun h => ?_) | refine ⟨i64 (by omega) (by omega), ?_⟩ | refine ⟨_, _, rfl, List.getElem?_eq_getElem (by omega), ?_⟩ | refine ⟨_, ⟨rfl, by omega⟩, ?_⟩ | refine ⟨_, List.getElem?_eq_getElem (by omega), ?_⟩ | refine rtB ?_ | refine rtI ?_ | refine rtC ?_ rfl | fail)
    refine ag (0 + 1, s0, s1, s2) [] [.same 0, .same 1, .same 2, .same 3, .same 4, .same 5, .same 6, .same 7, .same 8] ⟨by simp, f0.trans (sgs_no h5).symm, f1, f2⟩ (by simp only []; omega) ?_
    repeat' first | exact trivial | exact rfl | refine And.intro ?_ ?_
  ·(conv => whnf)
   refine ⟨1, ⟨rfl, by simp⟩, ?_⟩
   (conv => whnf)
   refine ⟨x, rfl, ?_⟩
   (conv => whnf)
   refine cl [] [] (fileAt_spec x q) ?_
   (conv => whnf)
   refine boo (fun h5 => ?_) (fun h5 => ?_)
   ·(conv => whnf)
    refine ⟨[(fileAtP x q).1], rfl, ?_⟩
    (conv => whnf)
    refine ⟨1, ⟨rfl, by decide⟩, ?_⟩
    repeat' ((conv => whnf); first | (refine dec (fun h => ?_) (fun h => ?_) <;> try contradiction) | (refine decN (fun h => ?_) (fun h => ?_) <;> try contradiction) | refine booN (fun h => ?_) (fun h => ?_) | refine boo (fun h => ?_) (fun h => ?_) | refine ⟨i64 (by omega) (by omega), ?_⟩ | refine ⟨_, _, rfl, List.getElem?_eq_getElem (by omega), ?_⟩ | refine ⟨_, ⟨rfl, by omega⟩, ?_⟩ | refine ⟨_, List.getElem?_eq_getElem (by omega), ?_⟩ | refine rtB ?_ | refine rtI ?_ | refine rtC ?_ rfl | fail)
    refine ag (1 + 1, s0, [(fileAtP x q).1], s2) [] [.same 0, .same 1, .same 2, .same 3, .same 4, .same 5, .same 6, .same 10, .same 8] ⟨by simp, f0, sgs_yes h5, f2⟩ (by simp only []; omega) ?_
    repeat' first | exact trivial | exact rfl | refine And.intro ?_ ?_
   ·repeat' ((conv => whnf); first | (refine dec (fun h => ?_) (fun h => ?_) <;> try contradiction) | (refine decN (fun h => ?_) (fun h => ?_) <;> try contradiction) | refine booN (fun h => ?_) (fun h => ?_) | refine boo (fun h => ?_) (fun h => ?_) | refine ⟨i64 (by omega) (by omega), ?_⟩ | refine ⟨_, _, rfl, List.getElem?_eq_getElem (by omega), ?_⟩ | refine ⟨_, ⟨rfl, by omega⟩, ?_⟩ | refine ⟨_, List.getElem?_eq_getElem (by omega), ?_⟩ | refine rtB ?_ | refine rtI ?_ | refine rtC ?_ rfl | fail)
    refine ag (1 + 1, s0, s1, s2) [] [.same 0, .same 1, .same 2, .same 3, .same 4, .same 5, .same 6, .same 7, .same 8] ⟨by simp, f0, f1.trans (sgs_no h5).symm, f2⟩ (by simp only []; omega) ?_
    repeat' first | exact trivial | exact rfl | refine And.intro ?_ ?_
  ·(conv => whnf)
   refine ⟨2, ⟨rfl, by simp⟩, ?_⟩
   (conv => whnf)
   refine ⟨y, rfl, ?_⟩
   (conv => whnf)
   refine cl [] [] (fileAt_spec y q) ?_
   (conv => whnf)
   refine boo (fun h5 => ?_) (fun h5 => ?_)
   ·(conv => whnf)
    refine ⟨[(fileAtP y q).1], rfl, ?_⟩
    (conv => whnf)
    refine ⟨2, ⟨rfl, by decide⟩, ?_⟩
    repeat' ((conv => whnf); first | (refine dec (fun h => ?_) (fun h => ?_) <;> try contradiction) | (refine decN (fun h => ?_) (fun h => ?_) <;> try contradiction) | refine booN (fun h => ?_) (fun h => ?_) | refine boo (fun h => ?_) (fun h => ?_) | refine ⟨i64 (by omega) (by omega), ?_⟩ | refine ⟨_, _, rfl, List.getElem?_eq_getElem (by omega), ?_⟩ | refine ⟨_, ⟨rfl, by omega⟩, ?_⟩ | refine ⟨_, List.getElem?_eq_getElem (by omega), ?_⟩ | refine rtB ?_ | refine rtI ?_ | refine rtC ?_ rfl | fail)
    refine ag (2 + 1, s0, s1, [(fileAtP y q).1]) [] [.same 0, .same 1, .same 2, .same 3, .same 4, .same 5, .same 6, .same 7, .same 10] ⟨by simp, f0, f1, sgs_yes h5⟩ (by simp only []; omega) ?_
    repeat' first | exact trivial | exact rfl | refine And.intro ?_ ?_
   ·repeat' ((conv => whnf); first | (refine dec (fun h => ?_) (fun h => ?_) <;> try contradiction) | (refine decN (fun h => ?_) (fun h => ?_) <;> try contradiction) | refine booN (fun h => ?_) (fun h => ?_) | refine boo (fun h => ?_) (fun h => ?_) | refine ⟨i64 (by omega) (by omega), ?_⟩ | refine ⟨_, _, rfl, List.getElem?_eq_getElem (by omega), ?_⟩ | refine ⟨_, ⟨rfl, by omega⟩, ?_⟩ | refine ⟨_, List.getElem?_eq_getElem (by omega), ?_⟩ | refine rtB ?_ | refine rtI ?_ | refine rtC ?_ rfl | fail)
    refine ag (2 + 1, s0, s1, s2) [] [.same 0, .same 1, .same 2, .same 3, .same 4, .same 5, .same 6, .same 7, .same 8] ⟨by simp, f0, f1, f2.trans (sgs_no h5).symm⟩ (by simp only []; omega) ?_
    repeat' first | exact trivial | exact rfl | refine And.intro ?_ ?_
 obtain rfl : i = 3 := by have h4 : ¬ (i : Int) < 3 := h4; omega
 replace f0 : s0 = sg base q := f0
 replace f1 : s1 = sg x q := f1
 replace f2 : s2 = sg y q := f2
 subst f0 f1 f2
 have r3 := fileAt_spec A.out q
 rw [e5] at r3
 dsimp only at r3
 have hh : A.cf.any (fun p => decide (p = q)) = c := by
  rw [Bool.eq_iff_iff, e4, List.any_eq_true]
  constructor
  ·rintro ⟨p, h1, h2⟩
   have h2 : p = q := by simpa using h2
   exact h2 ▸ h1
  ·exact fun h => ⟨q, h, by simp⟩
 clear e4 e5 u1 p1 p2 p3 q1
 (conv => whnf)
 refine ⟨0, ⟨rfl, by decide⟩, ?_⟩
 (conv => whnf)
 refine ⟨1, ⟨rfl, by decide⟩, ?_⟩
 (conv => whnf)
 refine ⟨2, ⟨rfl, by decide⟩, ?_⟩
 (conv => whnf)
 refine cl [6, 7, 8] [0, 1] (q2) ?_
 (conv => whnf)
 refine lp Nat (fun j => ⟨[(9, .c (.rw 0)), (10, .c (.rw 1)), (12, .c (.str q)), (17, .c (.rw 2)), (18, .c (.rw 3)), (19, .c (.int .i64 0)), (20, .c (.bool ((A.cf.take j).any (fun p => decide (p = q))))), (21, .c (.int .i64 j))], [.row 4 Fi encFi A.out, .row 1 (List UInt8) encS A.cf, .row 4 Fi encFi o.toList, .row 1 (List UInt8) encS (if c = true then [q] else [])]⟩) (fun j => j ≤ A.cf.length ∧ True) (fun j => A.cf.length - j) 0 [] [.same 3, .same 4, .same 10, .same 11] ⟨Nat.zero_le _, trivial⟩ ?_ (fun j hj => ?_)
 ·repeat' first | exact trivial | exact rfl | refine And.intro ?_ ?_
 obtain ⟨hj, -⟩ := hj
 (conv => whnf)
 refine dec (fun h4 => ?_) (fun h4 => ?_)
 ·have hlt : j < A.cf.length := by have h4 : (j : Int) < A.cf.length := h4; omega
  have hjy : A.cf[j]? = some A.cf[j] := List.getElem?_eq_getElem hlt
  have hst : (A.cf.take (j + 1)).any (fun p => decide (p = q)) = ((A.cf.take j).any (fun p => decide (p = q)) || decide (A.cf[j] = q)) := by
   rw [List.take_succ_eq_append_getElem hlt, List.any_append, List.any_cons, List.any_nil, Bool.or_false]
  generalize A.cf[j] = u at *
  generalize (A.cf.take j).any (fun p => decide (p = q)) = b at *
  (conv => whnf)
  refine boo (fun h5 => ?_) (fun h5 => ?_)
  ·subst h5
   rw [Bool.true_or] at hst
   (conv => whnf)
   refine I6 ?_
   (conv => whnf)
   refine ag (j + 1) [] [.same 0, .same 1, .same 2, .same 3] ⟨hlt, trivial⟩ (by simp only []; omega) ?_
   rw [hst]
   repeat' first | exact trivial | exact rfl | refine And.intro ?_ ?_
  ·subst h5
   rw [Bool.false_or] at hst
   (conv => whnf)
   refine ⟨j, ⟨rfl, hlt⟩, ?_⟩
   (conv => whnf)
   refine ⟨u, hjy, ?_⟩
   (conv => whnf)
   refine I6 ?_
   (conv => whnf)
   refine ag (j + 1) [] [.same 0, .same 1, .same 2, .same 3] ⟨hlt, trivial⟩ (by simp only []; omega) ?_
   rw [hst]
   repeat' first | exact trivial | exact rfl | refine And.intro ?_ ?_
 obtain rfl : j = A.cf.length := by have h4 : ¬ (j : Int) < A.cf.length := h4; omega
 rw [List.take_length, hh]
 clear hh
 cases o with
 | none =>
  have r3 : Does Tryz.prog 39 [.c (.bs 4 Fi encFi A.out), .c (.str q)] [] (Rt (.tup [(true, encFi fi0), (false, [.bool false])]) []) := r3
  cases c
  all_goals
   (conv => whnf)
   refine cl [] [] (r3) ?_
   (conv => whnf)
   refine ⟨false, .grow, (.l [0, 1, 2, 3, 4, 5, 6, 7, 8, 9, 10, 11, 12, 13, 14, 15, 16]), by kernel_rfl, .inl ?_⟩
   (conv => whnf)
   exact rtC rfl rfl
 | some f =>
  have r3 : Does Tryz.prog 39 [.c (.bs 4 Fi encFi A.out), .c (.str q)] [] (Rt (.tup [(true, encFi f), (false, [.bool true])]) []) := r3
  cases c
  all_goals
   (conv => whnf)
   refine cl [] [] (r3) ?_
   (conv => whnf)
   refine ⟨false, .grow, (.l [0, 1, 2, 3, 4, 5, 6, 7, 8, 9, 10, 11, 12, 13, 14, 15, 16]), by kernel_rfl, .inl ?_⟩
   (conv => whnf)
   refine ⟨0, ⟨rfl, Nat.zero_lt_one⟩, ?_⟩
   (conv => whnf)
   refine ⟨f, rfl, ?_⟩
   (conv => whnf)
   exact rtB (dec_self (eqFi.2 rfl))
end Go.Nest
end
