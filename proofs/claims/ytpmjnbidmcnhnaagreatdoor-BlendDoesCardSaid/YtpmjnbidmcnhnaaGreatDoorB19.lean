/- part -/
import Derived.Test.YtpmjnbidmcnhnaaGreatDoorB10
import Derived.Test.YtpmjnbidmcnhnaaGreatDoorB17
import Derived.Test.YtpmjnbidmcnhnaaGreatDoorR5
import Derived.Test.YtpmjnbidmcnhnaaGreatDoorW7
set_option linter.unusedVariables false
set_option linter.unusedSimpArgs false
section

namespace Go.Nest
open Go Go.AM Go.Proofs
open Go.NB.L (linesOf)
open Go.Proofs.YtpmjnbidmcnhnaaGreatDoor (tab tabOk)
set_option maxRecDepth 4000
theorem bytesOf_spec (L : List Ob) (hL : PoolOk L) (f : Fi) : Does Tryz.prog 87 [.c (.bp [.bs 6 Ob encOb L]), .st (encFi f)] [] (Rt (.c (.ls 1 UInt8 bytesC (byP L f))) []) := by
 refine X_spec (n := 19) (n0 := 0) tabOk Tryz.call87 Tryz.func87 ?_
 intro hb
 (conv => whnf)
 refine dec (fun h1 => ?_) (fun h1 => ?_)
 ·rw [show byP L f = _ from if_pos h1]
  (conv => whnf)
  exact rx [] []
 ·rw [show byP L f = _ from if_neg h1]
  (conv => whnf)
  refine cl [] [] (getR_spec L hL f.id) ?_
  (conv => whnf)
  exact rx [] []
end Go.Nest
end
/- part -/
section

namespace Go.Nest
open Go Go.AM Go.Proofs
open Go.NB.L (linesOf)
open Go.Proofs.YtpmjnbidmcnhnaaGreatDoor (tab tabOk)
set_option maxRecDepth 4000
set_option maxHeartbeats 8000000 in
theorem blendD_spec (L : List Ob) (hL : PoolOk L) (base x y : List Fi) (hp : ∀ l ∈ [base, x, y], ∀ f ∈ l, f.path.length ≤ 4000000) :
  Does Tryz.prog 43 [.c (.ptr 0 0), .c (.ls 4 Fi encFi base), .c (.ls 4 Fi encFi x), .c (.ls 4 Fi encFi y)] [.box [.rw 1], .row 6 Ob encOb L] (Rt (.tup [(false, [.rw 3]), (false, [.rw 4]), (false, [.int .i64 (blendB L base x y).code])]) [.box [.rw 2], .dead, .row 6 Ob encOb (blendB L base x y).L, .row 4 Fi encFi (blendB L base x y).out, .row 1 (List UInt8) encS (blendB L base x y).cf]) := by
 have hn := hL.len
 refine X_spec (n := 193) (n0 := 2) tabOk Tryz.call43 Tryz.func43 ?_
 intro hb
 (conv => whnf)
 refine ⟨[base, x, y], rfl, ?_⟩
 (conv => whnf)
 refine lp Nat (fun i => ⟨[(0, .c (.ptr 0 0)), (1, .c (.ls 4 Fi encFi base)), (2, .c (.ls 4 Fi encFi x)), (3, .c (.ls 4 Fi encFi y)), (11, .c (.rw 2)), (12, .c (.int .i64 i))], [.box [.rw 1], .row 6 Ob encOb L, .row 1 (List Fi) (encL 4 encFi) [base, x, y]]⟩) (fun i => i ≤ 3 ∧ firstC [base, x, y] = firstC ([base, x, y].drop i)) (fun i => 3 - i) 0 [] [.same 0, .same 1, .same 2] ⟨Nat.zero_le _, rfl⟩ ?_ (fun i hi => ?_)
 ·repeat' first | exact trivial | exact rfl | refine And.intro ?_ ?_
 obtain ⟨hi, hat⟩ := hi
 (conv => whnf)
 refine dec (fun h4 => ?_) (fun h4 => ?_)
 ·have hlt : i < [base, x, y].length := by show i < 3; omega
  have hiy : [base, x, y][i]? = some [base, x, y][i] := List.getElem?_eq_getElem hlt
  have hd := List.drop_eq_getElem_cons hlt
  have hpi := hp [base, x, y][i] (List.getElem_mem hlt)
  generalize [base, x, y][i] = l at hiy hd hpi
  rw [hd] at hat
  have hat : firstC [base, x, y] = if filesF l ≠ 0 then filesF l else firstC ([base, x, y].drop (i + 1)) := hat
  (conv => whnf)
  refine ⟨i, ⟨rfl, hlt⟩, ?_⟩
  (conv => whnf)
  refine ⟨l, hiy, ?_⟩
  (conv => whnf)
  refine cl [] [] (fault_spec l hpi) ?_
  (conv => whnf)
  refine decN (fun h5 => ?_) (fun h5 => ?_)
  ·rw [if_pos h5] at hat
   have e : blendB L base x y = ⟨L, [], [], filesF l⟩ := by unfold blendB; rw [hat, if_pos h5]
   rw [e]
   (conv => whnf)
   exact rx [] [.same 0, .same 1, .same 1, .new, .new]
  ·rw [if_neg (fun h => h h5)] at hat
   repeat' ((conv => whnf); first | (refine dec (fun h => ?_) (fun h => ?_) <;> try contradiction) | (refine decN (fun h => ?_) (fun h => ?_) <;> try contradiction) | refine booN (fun h => ?_) (fun h => ?_) | refine boo (fun h => ?_) (fun h => ?_) | refine ⟨i64 (by omega) (by omega), ?_⟩ | refine ⟨_, _, rfl, List.getElem?_eq_getElem (by omega), ?_⟩ | refine ⟨_, ⟨rfl, by omega⟩, ?_⟩ | refine ⟨_, List.getElem?_eq_getElem (by omega), ?_⟩ | refine rtB ?_ | refine rtI ?_ | refine rtC ?_ rfl | fail)
   refine ag (i + 1) [] [.same 0, .same 1, .same 2] ⟨hlt, hat⟩ (by simp only []; omega) ?_
   repeat' first | exact trivial | exact rfl | refine And.intro ?_ ?_
 have h3 : i = 3 := by omega
 subst h3
 have h0 : firstC [base, x, y] = 0 := hat
 have z : ∀ l, filesF l = 0 → l.length ≤ 60 := fun l h => by
  refine Classical.byContradiction fun h2 => ?_
  unfold filesF at h
  rw [if_pos (by omega)] at h
  exact absurd h (by decide)
 have a1 : filesF base = 0 := Classical.byContradiction fun h => by
  have : firstC [base, x, y] = filesF base := if_pos h
  omega
 have e1 : firstC [base, x, y] = firstC [x, y] := if_neg (fun h => h a1)
 have a2 : filesF x = 0 := Classical.byContradiction fun h => by
  have : firstC [x, y] = filesF x := if_pos h
  omega
 have e2 : firstC [x, y] = firstC [y] := if_neg (fun h => h a2)
 have a3 : filesF y = 0 := Classical.byContradiction fun h => by
  have : firstC [y] = filesF y := if_pos h
  omega
 have z1 := z _ a1
 have z2 := z _ a2
 have z3 := z _ a3
 have hfl : [base, x, y].flatten.length ≤ 1000 := by
  simp only [List.flatten_cons, List.flatten_nil, List.length_append, List.length_nil]
  omega
 have u1 := pathsOf_spec [base, x, y] (by simp) (fun l hl => by
  have hl : l = base ∨ l = x ∨ l = y := by simpa using hl
  rcases hl with rfl | rfl | rfl <;> omega) hp hfl
 (conv => whnf)
 refine cl [] [] (u1) ?_
 (conv => whnf)
 have hql : ∀ q ∈ pathsP [base, x, y], q.length ≤ 4000000 := fun q hq => by
  obtain ⟨l, h1, f, h2, rfl⟩ := paths_mem hq
  exact hp l h1 f h2
 have hqn : (pathsP [base, x, y]).length ≤ 1000 := Nat.le_trans (paths_len _) hfl
 have h00 : BOk ⟨L, [], [], 0⟩ 0 := ⟨hL, hn, Nat.le_refl _, Nat.le_refl _⟩
 have eB : blendB L base x y = _ := if_neg (fun h => h h0)
 rw [eB]
 generalize pathsP [base, x, y] = qs at *
 refine lp Nat (fun i => ⟨[(0, .c (.ptr 0 0)), (1, .c (.ls 4 Fi encFi base)), (2, .c (.ls 4 Fi encFi x)), (3, .c (.ls 4 Fi encFi y)), (14, .c (.rw 3)), (15, .c (.rw 4)), (16, .c (.int .i64 (runB base x y ⟨L, [], [], 0⟩ (qs.take i)).code)), (17, .c (.rw 2)), (18, .c (.int .i64 i))],
  [.box [.rw 5], .dead, .row 1 (List UInt8) encS qs, .row 4 Fi encFi (runB base x y ⟨L, [], [], 0⟩ (qs.take i)).out, .row 1 (List UInt8) encS (runB base x y ⟨L, [], [], 0⟩ (qs.take i)).cf, .row 6 Ob encOb (runB base x y ⟨L, [], [], 0⟩ (qs.take i)).L]⟩) (fun i => i ≤ qs.length ∧ True) (fun i => qs.length - i) 0 [] [.same 0, .same 1, .same 3, .new, .new, .same 1] ⟨Nat.zero_le _, trivial⟩ ?_ (fun i hi => ?_)
 ·repeat' first | exact trivial | exact rfl | refine And.intro ?_ ?_
 obtain ⟨hi, -⟩ := hi
 (conv => whnf)
 refine dec (fun h4 => ?_) (fun h4 => ?_)
 ·have hlt : i < qs.length := by have h4 : (i : Int) < qs.length := h4; omega
  have hiy : qs[i]? = some qs[i] := List.getElem?_eq_getElem hlt
  have hq := hql _ (List.getElem_mem hlt)
  have hst := runB_take (base := base) (x := x) (y := y) (s := ⟨L, [], [], 0⟩) hlt
  have hok := runB_ok (base := base) (x := x) (y := y) (qs.take i) h00
  rw [List.length_take, Nat.min_eq_left (by omega)] at hok
  generalize qs[i] = q at hiy hq hst
  generalize runB base x y ⟨L, [], [], 0⟩ (qs.take i) = s at hst hok ⊢
  obtain ⟨sL, so, sc, sk⟩ := s
  have hso := hok.out
  have hsc := hok.cf
  have hsL := hok.L
  clear hok
  dsimp only at hso hsc hsL
  have hst : runB base x y ⟨L, [], [], 0⟩ (qs.take (i + 1)) = ⟨pkL sL (fileAtP base q).1 (fileAtP x q).1 (fileAtP y q).1, addF so (pkF sL (fileAtP base q).1 (fileAtP x q).1 (fileAtP y q).1 q), pkX sL sc (fileAtP base q).1 (fileAtP x q).1 (fileAtP y q).1 q, pkC sL sk (fileAtP base q).1 (fileAtP x q).1 (fileAtP y q).1⟩ := hst
  (conv => whnf)
  refine ⟨i, ⟨rfl, hlt⟩, ?_⟩
  (conv => whnf)
  refine ⟨q, hiy, ?_⟩
  (conv => whnf)
  refine cl [] [] (fileAt_spec base q) ?_
  (conv => whnf)
  refine ⟨i, ⟨rfl, hlt⟩, ?_⟩
  (conv => whnf)
  refine ⟨q, hiy, ?_⟩
  (conv => whnf)
  refine cl [] [] (fileAt_spec x q) ?_
  (conv => whnf)
  refine ⟨i, ⟨rfl, hlt⟩, ?_⟩
  (conv => whnf)
  refine ⟨q, hiy, ?_⟩
  (conv => whnf)
  refine cl [] [] (fileAt_spec y q) ?_
  generalize (fileAtP base q).1 = f at *
  generalize (fileAtP x q).1 = g at *
  generalize (fileAtP y q).1 = k at *
  unfold pkL pkF pkX pkC at hst
  (conv => whnf)
  refine decN (fun h5 => ?_) (fun h5 => ?_)
  ·(conv => whnf)
   refine decN (fun h6 => ?_) (fun h6 => ?_)
   ·have c1 : ¬ (g = k ∨ k = f) := fun h => h.elim (fun h => h5 (eqFi.2 h)) fun h => h6 (eqFi.2 h)
    rw [if_neg c1, if_neg c1, if_neg c1, if_neg c1] at hst
    (conv => whnf)
    refine dec (fun h7 => ?_) (fun h7 => ?_)
    ·have c2 : g = f := eqFi.1 h7
     rw [if_pos c2, if_pos c2, if_pos c2, if_pos c2] at hst
     (conv => whnf)
     unfold addF at hst
     refine dec (fun h8 => ?_) (fun h8 => ?_)
     ·rw [if_pos h8] at hst
      (conv => whnf)
      refine ⟨[k], rfl, ?_⟩
      (conv => whnf)
      refine ⟨_, _, rfl, rfl, (by simp only [List.length_append, List.length_cons, List.length_nil]; omega), ?_⟩
      repeat' ((conv => whnf); first | (refine dec (fun h => ?_) (fun h => ?_) <;> try contradiction) | (refine decN (fun h => ?_) (fun h => ?_) <;> try contradiction) | refine booN (fun h => ?_) (fun h => ?_) | refine boo (fun h => ?_) (fun h => ?_) | refine ⟨i64 (by omega) (by omega), ?_⟩ | refine ⟨_, _, rfl, List.getElem?_eq_getElem (by omega), ?_⟩ | refine ⟨_, ⟨rfl, by omega⟩, ?_⟩ | refine ⟨_, List.getElem?_eq_getElem (by omega), ?_⟩ | refine rtB ?_ | refine rtI ?_ | refine rtC ?_ rfl | fail)
      refine ag (i + 1) [] [.same 0, .same 1, .same 2, .same 11, .same 4, .same 5] ⟨hlt, trivial⟩ (by simp only []; omega) ?_
      rw [hst]
      repeat' first | exact trivial | exact rfl | refine And.intro ?_ ?_
     ·rw [if_neg h8] at hst
      repeat' ((conv => whnf); first | (refine dec (fun h => ?_) (fun h => ?_) <;> try contradiction) | (refine decN (fun h => ?_) (fun h => ?_) <;> try contradiction) | refine booN (fun h => ?_) (fun h => ?_) | refine boo (fun h => ?_) (fun h => ?_) | refine ⟨i64 (by omega) (by omega), ?_⟩ | refine ⟨_, _, rfl, List.getElem?_eq_getElem (by omega), ?_⟩ | refine ⟨_, ⟨rfl, by omega⟩, ?_⟩ | refine ⟨_, List.getElem?_eq_getElem (by omega), ?_⟩ | refine rtB ?_ | refine rtI ?_ | refine rtC ?_ rfl | fail)
      refine ag (i + 1) [] [.same 0, .same 1, .same 2, .same 3, .same 4, .same 5] ⟨hlt, trivial⟩ (by simp only []; omega) ?_
      rw [hst]
      repeat' first | exact trivial | exact rfl | refine And.intro ?_ ?_
    have c2 : ¬ g = f := fun h => h7 (eqFi.2 h)
    rw [if_neg c2, if_neg c2, if_neg c2, if_neg c2] at hst
    (conv => whnf)
    refine dec (fun h9 => ?_) (fun h9 => ?_)
    ·(conv => whnf)
     refine dec (fun h10 => ?_) (fun h10 => ?_)
     ·(conv => whnf)
      refine decN (fun h11 => ?_) (fun h11 => ?_)
      ·have e0 : mixT sL f g k = _ := if_neg (fun h => h.elim (fun h => h h9) (fun h => h.elim (fun h => h h10) h11))
       have b1 := byP_len hsL f
       have b2 := byP_len hsL g
       have b3 := byP_len hsL k
       have p1 := bytesOf_spec sL hsL f
       have p2 := bytesOf_spec sL hsL g
       have p3 := bytesOf_spec sL hsL k
       generalize byP sL f = tb at *
       generalize byP sL g = tx at *
       generalize byP sL k = ty at *
       have q1 := linesOfD_spec tb (by omega)
       have q2 := linesOfD_spec tx (by omega)
       have q3 := linesOfD_spec ty (by omega)
       have lx := Go.NB.L.linesOf_length tb
       have ly := Go.NB.L.linesOf_length tx
       have lz := Go.NB.L.linesOf_length ty
       have mb := fun l => merge_bound (l := l) b1 b2 b3
       have q4 := mixedD_spec (linesOf tb) (linesOf tx) (linesOf ty) (by omega) (by omega) (by omega)
       (conv => whnf)
       refine ⟨false, .grow, (.l [0, 1, 4, 5, 8, 9, 2, 3, 6, 7, 10, 11, 12, 13, 14, 15, 16, 17]), by kernel_rfl, .inl ?_⟩
       (conv => whnf)
       refine cl [] [] (p1) ?_
       (conv => whnf)
       refine cl [] [] (q1) ?_
       (conv => whnf)
       refine cl [] [] (p2) ?_
       (conv => whnf)
       refine cl [] [] (q2) ?_
       (conv => whnf)
       refine cl [] [] (p3) ?_
       (conv => whnf)
       refine cl [] [] (q3) ?_
       (conv => whnf)
       refine cl [] [] (q4) ?_
       generalize Go.NB.L.merge (linesOf tb) (linesOf tx) (linesOf ty) = R at *
       have hl : (R.getD []).length ≤ 160801 ∧ (R.getD []).flatten.length ≤ 64320400 := by
        cases R with
        | none => exact ⟨by decide, by decide⟩
        | some l => exact mb l rfl
       clear mb p1 p2 p3 q1 q2 q3 q4
       generalize hR : R.getD [] = l at *
       (conv => whnf)
       refine lp Nat (fun j => ⟨[(0, .c (.ptr 0 0)), (1, .c (.ls 4 Fi encFi base)), (2, .c (.ls 4 Fi encFi x)), (3, .c (.ls 4 Fi encFi y)), (14, .c (.rw 3)), (15, .c (.rw 4)), (16, .c (.int .i64 sk)), (17, .c (.rw 2)), (18, .c (.int .i64 i)), (19, .c (.ptr 6 0)), (21, .c (.ptr 7 0)), (23, .c (.ptr 8 0)), (25, .c (.ptr 9 0)), (27, .c (.rw 10)), (28, .c (lsC l)), (29, .c (.bool R.isSome)), (30, .c (.int .i64 j))], [.box [.rw 5], .dead, .row 1 (List UInt8) encS qs, .row 4 Fi encFi so, .row 1 (List UInt8) encS sc, .row 6 Ob encOb sL, .box (encFi f), .box (encFi g), .box (encFi k), .box (encFi g), .row 1 UInt8 bytesC (l.take j).flatten]⟩) (fun j => j ≤ l.length ∧ True) (fun j => l.length - j) 0 [] [.same 0, .same 1, .same 2, .same 3, .same 4, .same 5, .same 6, .same 7, .same 8, .same 9, .new] ⟨Nat.zero_le _, trivial⟩ ?_ (fun j hj => ?_)
       ·repeat' first | exact trivial | exact rfl | refine And.intro ?_ ?_
       obtain ⟨hj, -⟩ := hj
       (conv => whnf)
       refine dec (fun h12 => ?_) (fun h12 => ?_)
       ·have hjt : j < l.length := by have h12 : (j : Int) < l.length := h12; omega
        have hjy : l[j]? = some l[j] := List.getElem?_eq_getElem hjt
        have hnx : (l.take (j + 1)).flatten = (l.take j).flatten ++ l[j] := by
         rw [List.take_succ_eq_append_getElem hjt, List.flatten_append]; simp
        have hfl2 : ((l.take j).flatten ++ l[j]).length ≤ 64320400 := by
         rw [← hnx]
         refine Nat.le_trans ?_ hl.2
         conv => rhs; rw [← List.take_append_drop (j + 1) l]
         rw [List.flatten_append, List.length_append]; omega
        rw [List.length_append] at hfl2
        generalize l[j] = u at hjy hnx hfl2
        generalize (l.take j).flatten = cur at hnx hfl2 ⊢
        (conv => whnf)
        refine ⟨j, u, rfl, hjy, ?_⟩
        (conv => whnf)
        refine ⟨_, _, rfl, rfl, (by simp only [List.length_append, List.length_cons, List.length_nil]; omega), ?_⟩
        repeat' ((conv => whnf); first | (refine dec (fun h => ?_) (fun h => ?_) <;> try contradiction) | (refine decN (fun h => ?_) (fun h => ?_) <;> try contradiction) | refine booN (fun h => ?_) (fun h => ?_) | refine boo (fun h => ?_) (fun h => ?_) | refine ⟨i64 (by omega) (by omega), ?_⟩ | refine ⟨_, _, rfl, List.getElem?_eq_getElem (by omega), ?_⟩ | refine ⟨_, ⟨rfl, by omega⟩, ?_⟩ | refine ⟨_, List.getElem?_eq_getElem (by omega), ?_⟩ | refine rtB ?_ | refine rtI ?_ | refine rtC ?_ rfl | fail)
        refine ag (j + 1) [] [.same 0, .same 1, .same 2, .same 3, .same 4, .same 5, .same 6, .same 7, .same 8, .same 9, .same 11] ⟨hjt, trivial⟩ (by simp only []; omega) ?_
        rw [hnx]
        repeat' first | exact trivial | exact rfl | refine And.intro ?_ ?_
       obtain rfl : j = l.length := by have h12 : ¬ (j : Int) < l.length := h12; omega
       rw [List.take_length]
       cases R with
       | none =>
        obtain ⟨e1, e2, e3⟩ := mix_no (L := sL) (base := f) (x := g) (y := k) (p := q) (code := sk) (e0)
        rw [e1, e2, e3] at hst
        dsimp only at hst
        rw [if_neg Bool.false_ne_true, if_neg Bool.false_ne_true] at hst
        (conv => whnf)
        refine ⟨i, ⟨rfl, hlt⟩, ?_⟩
        (conv => whnf)
        refine ⟨q, hiy, ?_⟩
        (conv => whnf)
        refine ⟨[q], rfl, ?_⟩
        (conv => whnf)
        refine ⟨_, _, rfl, rfl, (by simp only [List.length_append, List.length_cons, List.length_nil]; omega), ?_⟩
        (conv => whnf)
        refine dec (fun h12 => ?_) (fun h12 => ?_)
        ·rw [if_pos h12] at hst
         (conv => whnf)
         unfold addF at hst
         refine dec (fun h8 => ?_) (fun h8 => ?_)
         ·rw [if_pos h8] at hst
          (conv => whnf)
          refine ⟨[k], rfl, ?_⟩
          (conv => whnf)
          refine ⟨_, _, rfl, rfl, (by simp only [List.length_append, List.length_cons, List.length_nil]; omega), ?_⟩
          repeat' ((conv => whnf); first | (refine dec (fun h => ?_) (fun h => ?_) <;> try contradiction) | (refine decN (fun h => ?_) (fun h => ?_) <;> try contradiction) | refine booN (fun h => ?_) (fun h => ?_) | refine boo (fun h => ?_) (fun h => ?_) | refine ⟨i64 (by omega) (by omega), ?_⟩ | refine ⟨_, _, rfl, List.getElem?_eq_getElem (by omega), ?_⟩ | refine ⟨_, ⟨rfl, by omega⟩, ?_⟩ | refine ⟨_, List.getElem?_eq_getElem (by omega), ?_⟩ | refine rtB ?_ | refine rtI ?_ | refine rtC ?_ rfl | fail)
          refine ag (i + 1) [] [.same 0, .same 1, .same 2, .same 14, .same 12, .same 5] ⟨hlt, trivial⟩ (by simp only []; omega) ?_
          rw [hst]
          repeat' first | exact trivial | exact rfl | refine And.intro ?_ ?_
         ·rw [if_neg h8] at hst
          repeat' ((conv => whnf); first | (refine dec (fun h => ?_) (fun h => ?_) <;> try contradiction) | (refine decN (fun h => ?_) (fun h => ?_) <;> try contradiction) | refine booN (fun h => ?_) (fun h => ?_) | refine boo (fun h => ?_) (fun h => ?_) | refine ⟨i64 (by omega) (by omega), ?_⟩ | refine ⟨_, _, rfl, List.getElem?_eq_getElem (by omega), ?_⟩ | refine ⟨_, ⟨rfl, by omega⟩, ?_⟩ | refine ⟨_, List.getElem?_eq_getElem (by omega), ?_⟩ | refine rtB ?_ | refine rtI ?_ | refine rtC ?_ rfl | fail)
          refine ag (i + 1) [] [.same 0, .same 1, .same 2, .same 3, .same 12, .same 5] ⟨hlt, trivial⟩ (by simp only []; omega) ?_
          rw [hst]
          repeat' first | exact trivial | exact rfl | refine And.intro ?_ ?_
        ·rw [if_neg h12] at hst
         (conv => whnf)
         unfold addF at hst
         refine dec (fun h8 => ?_) (fun h8 => ?_)
         ·rw [if_pos h8] at hst
          (conv => whnf)
          refine ⟨[g], rfl, ?_⟩
          (conv => whnf)
          refine ⟨_, _, rfl, rfl, (by simp only [List.length_append, List.length_cons, List.length_nil]; omega), ?_⟩
          repeat' ((conv => whnf); first | (refine dec (fun h => ?_) (fun h => ?_) <;> try contradiction) | (refine decN (fun h => ?_) (fun h => ?_) <;> try contradiction) | refine booN (fun h => ?_) (fun h => ?_) | refine boo (fun h => ?_) (fun h => ?_) | refine ⟨i64 (by omega) (by omega), ?_⟩ | refine ⟨_, _, rfl, List.getElem?_eq_getElem (by omega), ?_⟩ | refine ⟨_, ⟨rfl, by omega⟩, ?_⟩ | refine ⟨_, List.getElem?_eq_getElem (by omega), ?_⟩ | refine rtB ?_ | refine rtI ?_ | refine rtC ?_ rfl | fail)
          refine ag (i + 1) [] [.same 0, .same 1, .same 2, .same 14, .same 12, .same 5] ⟨hlt, trivial⟩ (by simp only []; omega) ?_
          rw [hst]
          repeat' first | exact trivial | exact rfl | refine And.intro ?_ ?_
         ·rw [if_neg h8] at hst
          repeat' ((conv => whnf); first | (refine dec (fun h => ?_) (fun h => ?_) <;> try contradiction) | (refine decN (fun h => ?_) (fun h => ?_) <;> try contradiction) | refine booN (fun h => ?_) (fun h => ?_) | refine boo (fun h => ?_) (fun h => ?_) | refine ⟨i64 (by omega) (by omega), ?_⟩ | refine ⟨_, _, rfl, List.getElem?_eq_getElem (by omega), ?_⟩ | refine ⟨_, ⟨rfl, by omega⟩, ?_⟩ | refine ⟨_, List.getElem?_eq_getElem (by omega), ?_⟩ | refine rtB ?_ | refine rtI ?_ | refine rtC ?_ rfl | fail)
          refine ag (i + 1) [] [.same 0, .same 1, .same 2, .same 3, .same 12, .same 5] ⟨hlt, trivial⟩ (by simp only []; omega) ?_
          rw [hst]
          repeat' first | exact trivial | exact rfl | refine And.intro ?_ ?_
       | some m =>
        have hR : m = l := hR
        subst hR
        have hl := hl.2
        have e0 : mixT sL f g k = if 400 < m.flatten.length then none else some m.flatten := e0
        generalize m.flatten = al at *
        (conv => whnf)
        refine dec (fun h13 => ?_) (fun h13 => ?_)
        ·have h13 : (al.length : Int) ≤ 400 := h13
         obtain ⟨e1, e2, e3⟩ := mix_yes (L := sL) (base := f) (x := g) (y := k) (p := q) (code := sk) (e0.trans (if_neg (by omega)))
         rw [e1, e2, e3] at hst
         dsimp only at hst
         rw [if_pos rfl, if_pos rfl] at hst
         have p5 := putR_spec sL (obM al) hsL.len
         generalize putP sL (obM al) = R at *
         obtain ⟨id, c, L2⟩ := R
         dsimp only at p5 hst
         (conv => whnf)
         refine cl [] [0, 5] (p5) ?_
         have h1 : (0 : Int) < (⟨q, 1, id, 0⟩ : Fi).mode := show (0 : Int) < 1 by decide
         unfold addF at hst
         rw [if_pos h1] at hst
         (conv => whnf)
         refine decN (fun h14 => ?_) (fun h14 => ?_)
         ·(conv => whnf)
          refine dec (fun h15 => ?_) (fun h15 => ?_)
          ·rw [if_pos ⟨h14, h15⟩] at hst
           (conv => whnf)
           refine ⟨i, ⟨rfl, hlt⟩, ?_⟩
           (conv => whnf)
           refine ⟨q, hiy, ?_⟩
           (conv => whnf)
           refine ⟨[⟨q, 1, id, 0⟩], rfl, ?_⟩
           (conv => whnf)
           refine ⟨_, _, rfl, rfl, (by simp only [List.length_append, List.length_cons, List.length_nil]; omega), ?_⟩
           repeat' ((conv => whnf); first | (refine dec (fun h => ?_) (fun h => ?_) <;> try contradiction) | (refine decN (fun h => ?_) (fun h => ?_) <;> try contradiction) | refine booN (fun h => ?_) (fun h => ?_) | refine boo (fun h => ?_) (fun h => ?_) | refine ⟨i64 (by omega) (by omega), ?_⟩ | refine ⟨_, _, rfl, List.getElem?_eq_getElem (by omega), ?_⟩ | refine ⟨_, ⟨rfl, by omega⟩, ?_⟩ | refine ⟨_, List.getElem?_eq_getElem (by omega), ?_⟩ | refine rtB ?_ | refine rtI ?_ | refine rtC ?_ rfl | fail)
           refine ag (i + 1) [] [.same 0, .same 1, .same 2, .same 13, .same 4, .same 11] ⟨hlt, trivial⟩ (by simp only []; omega) ?_
           rw [hst]
           repeat' first | exact trivial | exact rfl | refine And.intro ?_ ?_
          ·rw [if_neg (fun h => h15 h.2)] at hst
           (conv => whnf)
           refine ⟨i, ⟨rfl, hlt⟩, ?_⟩
           (conv => whnf)
           refine ⟨q, hiy, ?_⟩
           (conv => whnf)
           refine ⟨[⟨q, 1, id, 0⟩], rfl, ?_⟩
           (conv => whnf)
           refine ⟨_, _, rfl, rfl, (by simp only [List.length_append, List.length_cons, List.length_nil]; omega), ?_⟩
           repeat' ((conv => whnf); first | (refine dec (fun h => ?_) (fun h => ?_) <;> try contradiction) | (refine decN (fun h => ?_) (fun h => ?_) <;> try contradiction) | refine booN (fun h => ?_) (fun h => ?_) | refine boo (fun h => ?_) (fun h => ?_) | refine ⟨i64 (by omega) (by omega), ?_⟩ | refine ⟨_, _, rfl, List.getElem?_eq_getElem (by omega), ?_⟩ | refine ⟨_, ⟨rfl, by omega⟩, ?_⟩ | refine ⟨_, List.getElem?_eq_getElem (by omega), ?_⟩ | refine rtB ?_ | refine rtI ?_ | refine rtC ?_ rfl | fail)
           refine ag (i + 1) [] [.same 0, .same 1, .same 2, .same 13, .same 4, .same 11] ⟨hlt, trivial⟩ (by simp only []; omega) ?_
           rw [hst]
           repeat' first | exact trivial | exact rfl | refine And.intro ?_ ?_
         ·rw [if_neg (fun h => h.1 h14)] at hst
          (conv => whnf)
          refine ⟨i, ⟨rfl, hlt⟩, ?_⟩
          (conv => whnf)
          refine ⟨q, hiy, ?_⟩
          (conv => whnf)
          refine ⟨[⟨q, 1, id, 0⟩], rfl, ?_⟩
          (conv => whnf)
          refine ⟨_, _, rfl, rfl, (by simp only [List.length_append, List.length_cons, List.length_nil]; omega), ?_⟩
          repeat' ((conv => whnf); first | (refine dec (fun h => ?_) (fun h => ?_) <;> try contradiction) | (refine decN (fun h => ?_) (fun h => ?_) <;> try contradiction) | refine booN (fun h => ?_) (fun h => ?_) | refine boo (fun h => ?_) (fun h => ?_) | refine ⟨i64 (by omega) (by omega), ?_⟩ | refine ⟨_, _, rfl, List.getElem?_eq_getElem (by omega), ?_⟩ | refine ⟨_, ⟨rfl, by omega⟩, ?_⟩ | refine ⟨_, List.getElem?_eq_getElem (by omega), ?_⟩ | refine rtB ?_ | refine rtI ?_ | refine rtC ?_ rfl | fail)
          refine ag (i + 1) [] [.same 0, .same 1, .same 2, .same 13, .same 4, .same 11] ⟨hlt, trivial⟩ (by simp only []; omega) ?_
          rw [hst]
          repeat' first | exact trivial | exact rfl | refine And.intro ?_ ?_
        ·have h13 : ¬ (al.length : Int) ≤ 400 := h13
         obtain ⟨e1, e2, e3⟩ := mix_no (L := sL) (base := f) (x := g) (y := k) (p := q) (code := sk) (e0.trans (if_pos (by omega)))
         rw [e1, e2, e3] at hst
         dsimp only at hst
         rw [if_neg Bool.false_ne_true, if_neg Bool.false_ne_true] at hst
         (conv => whnf)
         refine ⟨i, ⟨rfl, hlt⟩, ?_⟩
         (conv => whnf)
         refine ⟨q, hiy, ?_⟩
         (conv => whnf)
         refine ⟨[q], rfl, ?_⟩
         (conv => whnf)
         refine ⟨_, _, rfl, rfl, (by simp only [List.length_append, List.length_cons, List.length_nil]; omega), ?_⟩
         (conv => whnf)
         refine dec (fun h12 => ?_) (fun h12 => ?_)
         ·rw [if_pos h12] at hst
          (conv => whnf)
          unfold addF at hst
          refine dec (fun h8 => ?_) (fun h8 => ?_)
          ·rw [if_pos h8] at hst
           (conv => whnf)
           refine ⟨[k], rfl, ?_⟩
           (conv => whnf)
           refine ⟨_, _, rfl, rfl, (by simp only [List.length_append, List.length_cons, List.length_nil]; omega), ?_⟩
           repeat' ((conv => whnf); first | (refine dec (fun h => ?_) (fun h => ?_) <;> try contradiction) | (refine decN (fun h => ?_) (fun h => ?_) <;> try contradiction) | refine booN (fun h => ?_) (fun h => ?_) | refine boo (fun h => ?_) (fun h => ?_) | refine ⟨i64 (by omega) (by omega), ?_⟩ | refine ⟨_, _, rfl, List.getElem?_eq_getElem (by omega), ?_⟩ | refine ⟨_, ⟨rfl, by omega⟩, ?_⟩ | refine ⟨_, List.getElem?_eq_getElem (by omega), ?_⟩ | refine rtB ?_ | refine rtI ?_ | refine rtC ?_ rfl | fail)
           refine ag (i + 1) [] [.same 0, .same 1, .same 2, .same 14, .same 12, .same 5] ⟨hlt, trivial⟩ (by simp only []; omega) ?_
           rw [hst]
           repeat' first | exact trivial | exact rfl | refine And.intro ?_ ?_
          ·rw [if_neg h8] at hst
           repeat' ((conv => whnf); first | (refine dec (fun h => ?_) (fun h => ?_) <;> try contradiction) | (refine decN (fun h => ?_) (fun h => ?_) <;> try contradiction) | refine booN (fun h => ?_) (fun h => ?_) | refine boo (fun h => ?_) (fun h => ?_) | refine ⟨i64 (by omega) (by omega), ?_⟩ | refine ⟨_, _, rfl, List.getElem?_eq_getElem (by omega), ?_⟩ | refine ⟨_, ⟨rfl, by omega⟩, ?_⟩ | refine ⟨_, List.getElem?_eq_getElem (by omega), ?_⟩ | refine rtB ?_ | refine rtI ?_ | refine rtC ?_ rfl | fail)
           refine ag (i + 1) [] [.same 0, .same 1, .same 2, .same 3, .same 12, .same 5] ⟨hlt, trivial⟩ (by simp only []; omega) ?_
           rw [hst]
           repeat' first | exact trivial | exact rfl | refine And.intro ?_ ?_
         ·rw [if_neg h12] at hst
          (conv => whnf)
          unfold addF at hst
          refine dec (fun h8 => ?_) (fun h8 => ?_)
          ·rw [if_pos h8] at hst
           (conv => whnf)
           refine ⟨[g], rfl, ?_⟩
           (conv => whnf)
           refine ⟨_, _, rfl, rfl, (by simp only [List.length_append, List.length_cons, List.length_nil]; omega), ?_⟩
           repeat' ((conv => whnf); first | (refine dec (fun h => ?_) (fun h => ?_) <;> try contradiction) | (refine decN (fun h => ?_) (fun h => ?_) <;> try contradiction) | refine booN (fun h => ?_) (fun h => ?_) | refine boo (fun h => ?_) (fun h => ?_) | refine ⟨i64 (by omega) (by omega), ?_⟩ | refine ⟨_, _, rfl, List.getElem?_eq_getElem (by omega), ?_⟩ | refine ⟨_, ⟨rfl, by omega⟩, ?_⟩ | refine ⟨_, List.getElem?_eq_getElem (by omega), ?_⟩ | refine rtB ?_ | refine rtI ?_ | refine rtC ?_ rfl | fail)
           refine ag (i + 1) [] [.same 0, .same 1, .same 2, .same 14, .same 12, .same 5] ⟨hlt, trivial⟩ (by simp only []; omega) ?_
           rw [hst]
           repeat' first | exact trivial | exact rfl | refine And.intro ?_ ?_
          ·rw [if_neg h8] at hst
           repeat' ((conv => whnf); first | (refine dec (fun h => ?_) (fun h => ?_) <;> try contradiction) | (refine decN (fun h => ?_) (fun h => ?_) <;> try contradiction) | refine booN (fun h => ?_) (fun h => ?_) | refine boo (fun h => ?_) (fun h => ?_) | refine ⟨i64 (by omega) (by omega), ?_⟩ | refine ⟨_, _, rfl, List.getElem?_eq_getElem (by omega), ?_⟩ | refine ⟨_, ⟨rfl, by omega⟩, ?_⟩ | refine ⟨_, List.getElem?_eq_getElem (by omega), ?_⟩ | refine rtB ?_ | refine rtI ?_ | refine rtC ?_ rfl | fail)
           refine ag (i + 1) [] [.same 0, .same 1, .same 2, .same 3, .same 12, .same 5] ⟨hlt, trivial⟩ (by simp only []; omega) ?_
           rw [hst]
           repeat' first | exact trivial | exact rfl | refine And.intro ?_ ?_
      ·obtain ⟨e1, e2, e3⟩ := mix_no (L := sL) (base := f) (x := g) (y := k) (p := q) (code := sk) (if_pos (.inr (.inr h11)))
       rw [e1, e2, e3] at hst
       dsimp only at hst
       rw [if_neg Bool.false_ne_true, if_neg Bool.false_ne_true] at hst
       (conv => whnf)
       refine decN (fun h => absurd h11 h) (fun _ => ?_)
       (conv => whnf)
       refine ⟨i, ⟨rfl, hlt⟩, ?_⟩
       (conv => whnf)
       refine ⟨q, hiy, ?_⟩
       (conv => whnf)
       refine ⟨[q], rfl, ?_⟩
       (conv => whnf)
       refine ⟨_, _, rfl, rfl, (by simp only [List.length_append, List.length_cons, List.length_nil]; omega), ?_⟩
       (conv => whnf)
       refine dec (fun h12 => ?_) (fun h12 => ?_)
       ·rw [if_pos h12] at hst
        (conv => whnf)
        unfold addF at hst
        refine dec (fun h8 => ?_) (fun h8 => ?_)
        ·rw [if_pos h8] at hst
         (conv => whnf)
         refine ⟨[k], rfl, ?_⟩
         (conv => whnf)
         refine ⟨_, _, rfl, rfl, (by simp only [List.length_append, List.length_cons, List.length_nil]; omega), ?_⟩
         repeat' ((conv => whnf); first | (refine dec (fun h => ?_) (fun h => ?_) <;> try contradiction) | (refine decN (fun h => ?_) (fun h => ?_) <;> try contradiction) | refine booN (fun h => ?_) (fun h => ?_) | refine boo (fun h => ?_) (fun h => ?_) | refine ⟨i64 (by omega) (by omega), ?_⟩ | refine ⟨_, _, rfl, List.getElem?_eq_getElem (by omega), ?_⟩ | refine ⟨_, ⟨rfl, by omega⟩, ?_⟩ | refine ⟨_, List.getElem?_eq_getElem (by omega), ?_⟩ | refine rtB ?_ | refine rtI ?_ | refine rtC ?_ rfl | fail)
         refine ag (i + 1) [] [.same 0, .same 1, .same 2, .same 13, .same 11, .same 5] ⟨hlt, trivial⟩ (by simp only []; omega) ?_
         rw [hst]
         repeat' first | exact trivial | exact rfl | refine And.intro ?_ ?_
        ·rw [if_neg h8] at hst
         repeat' ((conv => whnf); first | (refine dec (fun h => ?_) (fun h => ?_) <;> try contradiction) | (refine decN (fun h => ?_) (fun h => ?_) <;> try contradiction) | refine booN (fun h => ?_) (fun h => ?_) | refine boo (fun h => ?_) (fun h => ?_) | refine ⟨i64 (by omega) (by omega), ?_⟩ | refine ⟨_, _, rfl, List.getElem?_eq_getElem (by omega), ?_⟩ | refine ⟨_, ⟨rfl, by omega⟩, ?_⟩ | refine ⟨_, List.getElem?_eq_getElem (by omega), ?_⟩ | refine rtB ?_ | refine rtI ?_ | refine rtC ?_ rfl | fail)
         refine ag (i + 1) [] [.same 0, .same 1, .same 2, .same 3, .same 11, .same 5] ⟨hlt, trivial⟩ (by simp only []; omega) ?_
         rw [hst]
         repeat' first | exact trivial | exact rfl | refine And.intro ?_ ?_
       ·rw [if_neg h12] at hst
        (conv => whnf)
        unfold addF at hst
        refine dec (fun h8 => ?_) (fun h8 => ?_)
        ·rw [if_pos h8] at hst
         (conv => whnf)
         refine ⟨[g], rfl, ?_⟩
         (conv => whnf)
         refine ⟨_, _, rfl, rfl, (by simp only [List.length_append, List.length_cons, List.length_nil]; omega), ?_⟩
         repeat' ((conv => whnf); first | (refine dec (fun h => ?_) (fun h => ?_) <;> try contradiction) | (refine decN (fun h => ?_) (fun h => ?_) <;> try contradiction) | refine booN (fun h => ?_) (fun h => ?_) | refine boo (fun h => ?_) (fun h => ?_) | refine ⟨i64 (by omega) (by omega), ?_⟩ | refine ⟨_, _, rfl, List.getElem?_eq_getElem (by omega), ?_⟩ | refine ⟨_, ⟨rfl, by omega⟩, ?_⟩ | refine ⟨_, List.getElem?_eq_getElem (by omega), ?_⟩ | refine rtB ?_ | refine rtI ?_ | refine rtC ?_ rfl | fail)
         refine ag (i + 1) [] [.same 0, .same 1, .same 2, .same 13, .same 11, .same 5] ⟨hlt, trivial⟩ (by simp only []; omega) ?_
         rw [hst]
         repeat' first | exact trivial | exact rfl | refine And.intro ?_ ?_
        ·rw [if_neg h8] at hst
         repeat' ((conv => whnf); first | (refine dec (fun h => ?_) (fun h => ?_) <;> try contradiction) | (refine decN (fun h => ?_) (fun h => ?_) <;> try contradiction) | refine booN (fun h => ?_) (fun h => ?_) | refine boo (fun h => ?_) (fun h => ?_) | refine ⟨i64 (by omega) (by omega), ?_⟩ | refine ⟨_, _, rfl, List.getElem?_eq_getElem (by omega), ?_⟩ | refine ⟨_, ⟨rfl, by omega⟩, ?_⟩ | refine ⟨_, List.getElem?_eq_getElem (by omega), ?_⟩ | refine rtB ?_ | refine rtI ?_ | refine rtC ?_ rfl | fail)
         refine ag (i + 1) [] [.same 0, .same 1, .same 2, .same 3, .same 11, .same 5] ⟨hlt, trivial⟩ (by simp only []; omega) ?_
         rw [hst]
         repeat' first | exact trivial | exact rfl | refine And.intro ?_ ?_
     ·obtain ⟨e1, e2, e3⟩ := mix_no (L := sL) (base := f) (x := g) (y := k) (p := q) (code := sk) (if_pos (.inr (.inl h10)))
      rw [e1, e2, e3] at hst
      dsimp only at hst
      rw [if_neg Bool.false_ne_true, if_neg Bool.false_ne_true] at hst
      (conv => whnf)
      refine ⟨i, ⟨rfl, hlt⟩, ?_⟩
      (conv => whnf)
      refine ⟨q, hiy, ?_⟩
      (conv => whnf)
      refine ⟨[q], rfl, ?_⟩
      (conv => whnf)
      refine ⟨_, _, rfl, rfl, (by simp only [List.length_append, List.length_cons, List.length_nil]; omega), ?_⟩
      (conv => whnf)
      refine dec (fun h12 => ?_) (fun h12 => ?_)
      ·rw [if_pos h12] at hst
       (conv => whnf)
       unfold addF at hst
       refine dec (fun h8 => ?_) (fun h8 => ?_)
       ·rw [if_pos h8] at hst
        (conv => whnf)
        refine ⟨[k], rfl, ?_⟩
        (conv => whnf)
        refine ⟨_, _, rfl, rfl, (by simp only [List.length_append, List.length_cons, List.length_nil]; omega), ?_⟩
        repeat' ((conv => whnf); first | (refine dec (fun h => ?_) (fun h => ?_) <;> try contradiction) | (refine decN (fun h => ?_) (fun h => ?_) <;> try contradiction) | refine booN (fun h => ?_) (fun h => ?_) | refine boo (fun h => ?_) (fun h => ?_) | refine ⟨i64 (by omega) (by omega), ?_⟩ | refine ⟨_, _, rfl, List.getElem?_eq_getElem (by omega), ?_⟩ | refine ⟨_, ⟨rfl, by omega⟩, ?_⟩ | refine ⟨_, List.getElem?_eq_getElem (by omega), ?_⟩ | refine rtB ?_ | refine rtI ?_ | refine rtC ?_ rfl | fail)
        refine ag (i + 1) [] [.same 0, .same 1, .same 2, .same 13, .same 11, .same 5] ⟨hlt, trivial⟩ (by simp only []; omega) ?_
        rw [hst]
        repeat' first | exact trivial | exact rfl | refine And.intro ?_ ?_
       ·rw [if_neg h8] at hst
        repeat' ((conv => whnf); first | (refine dec (fun h => ?_) (fun h => ?_) <;> try contradiction) | (refine decN (fun h => ?_) (fun h => ?_) <;> try contradiction) | refine booN (fun h => ?_) (fun h => ?_) | refine boo (fun h => ?_) (fun h => ?_) | refine ⟨i64 (by omega) (by omega), ?_⟩ | refine ⟨_, _, rfl, List.getElem?_eq_getElem (by omega), ?_⟩ | refine ⟨_, ⟨rfl, by omega⟩, ?_⟩ | refine ⟨_, List.getElem?_eq_getElem (by omega), ?_⟩ | refine rtB ?_ | refine rtI ?_ | refine rtC ?_ rfl | fail)
        refine ag (i + 1) [] [.same 0, .same 1, .same 2, .same 3, .same 11, .same 5] ⟨hlt, trivial⟩ (by simp only []; omega) ?_
        rw [hst]
        repeat' first | exact trivial | exact rfl | refine And.intro ?_ ?_
      ·rw [if_neg h12] at hst
       (conv => whnf)
       unfold addF at hst
       refine dec (fun h8 => ?_) (fun h8 => ?_)
       ·rw [if_pos h8] at hst
        (conv => whnf)
        refine ⟨[g], rfl, ?_⟩
        (conv => whnf)
        refine ⟨_, _, rfl, rfl, (by simp only [List.length_append, List.length_cons, List.length_nil]; omega), ?_⟩
        repeat' ((conv => whnf); first | (refine dec (fun h => ?_) (fun h => ?_) <;> try contradiction) | (refine decN (fun h => ?_) (fun h => ?_) <;> try contradiction) | refine booN (fun h => ?_) (fun h => ?_) | refine boo (fun h => ?_) (fun h => ?_) | refine ⟨i64 (by omega) (by omega), ?_⟩ | refine ⟨_, _, rfl, List.getElem?_eq_getElem (by omega), ?_⟩ | refine ⟨_, ⟨rfl, by omega⟩, ?_⟩ | refine ⟨_, List.getElem?_eq_getElem (by omega), ?_⟩ | refine rtB ?_ | refine rtI ?_ | refine rtC ?_ rfl | fail)
        refine ag (i + 1) [] [.same 0, .same 1, .same 2, .same 13, .same 11, .same 5] ⟨hlt, trivial⟩ (by simp only []; omega) ?_
        rw [hst]
        repeat' first | exact trivial | exact rfl | refine And.intro ?_ ?_
       ·rw [if_neg h8] at hst
        repeat' ((conv => whnf); first | (refine dec (fun h => ?_) (fun h => ?_) <;> try contradiction) | (refine decN (fun h => ?_) (fun h => ?_) <;> try contradiction) | refine booN (fun h => ?_) (fun h => ?_) | refine boo (fun h => ?_) (fun h => ?_) | refine ⟨i64 (by omega) (by omega), ?_⟩ | refine ⟨_, _, rfl, List.getElem?_eq_getElem (by omega), ?_⟩ | refine ⟨_, ⟨rfl, by omega⟩, ?_⟩ | refine ⟨_, List.getElem?_eq_getElem (by omega), ?_⟩ | refine rtB ?_ | refine rtI ?_ | refine rtC ?_ rfl | fail)
        refine ag (i + 1) [] [.same 0, .same 1, .same 2, .same 3, .same 11, .same 5] ⟨hlt, trivial⟩ (by simp only []; omega) ?_
        rw [hst]
        repeat' first | exact trivial | exact rfl | refine And.intro ?_ ?_
    ·obtain ⟨e1, e2, e3⟩ := mix_no (L := sL) (base := f) (x := g) (y := k) (p := q) (code := sk) (if_pos (.inl h9))
     rw [e1, e2, e3] at hst
     dsimp only at hst
     rw [if_neg Bool.false_ne_true, if_neg Bool.false_ne_true] at hst
     (conv => whnf)
     refine ⟨i, ⟨rfl, hlt⟩, ?_⟩
     (conv => whnf)
     refine ⟨q, hiy, ?_⟩
     (conv => whnf)
     refine ⟨[q], rfl, ?_⟩
     (conv => whnf)
     refine ⟨_, _, rfl, rfl, (by simp only [List.length_append, List.length_cons, List.length_nil]; omega), ?_⟩
     (conv => whnf)
     refine dec (fun h12 => ?_) (fun h12 => ?_)
     ·rw [if_pos h12] at hst
      (conv => whnf)
      unfold addF at hst
      refine dec (fun h8 => ?_) (fun h8 => ?_)
      ·rw [if_pos h8] at hst
       (conv => whnf)
       refine ⟨[k], rfl, ?_⟩
       (conv => whnf)
       refine ⟨_, _, rfl, rfl, (by simp only [List.length_append, List.length_cons, List.length_nil]; omega), ?_⟩
       repeat' ((conv => whnf); first | (refine dec (fun h => ?_) (fun h => ?_) <;> try contradiction) | (refine decN (fun h => ?_) (fun h => ?_) <;> try contradiction) | refine booN (fun h => ?_) (fun h => ?_) | refine boo (fun h => ?_) (fun h => ?_) | refine ⟨i64 (by omega) (by omega), ?_⟩ | refine ⟨_, _, rfl, List.getElem?_eq_getElem (by omega), ?_⟩ | refine ⟨_, ⟨rfl, by omega⟩, ?_⟩ | refine ⟨_, List.getElem?_eq_getElem (by omega), ?_⟩ | refine rtB ?_ | refine rtI ?_ | refine rtC ?_ rfl | fail)
       refine ag (i + 1) [] [.same 0, .same 1, .same 2, .same 13, .same 11, .same 5] ⟨hlt, trivial⟩ (by simp only []; omega) ?_
       rw [hst]
       repeat' first | exact trivial | exact rfl | refine And.intro ?_ ?_
      ·rw [if_neg h8] at hst
       repeat' ((conv => whnf); first | (refine dec (fun h => ?_) (fun h => ?_) <;> try contradiction) | (refine decN (fun h => ?_) (fun h => ?_) <;> try contradiction) | refine booN (fun h => ?_) (fun h => ?_) | refine boo (fun h => ?_) (fun h => ?_) | refine ⟨i64 (by omega) (by omega), ?_⟩ | refine ⟨_, _, rfl, List.getElem?_eq_getElem (by omega), ?_⟩ | refine ⟨_, ⟨rfl, by omega⟩, ?_⟩ | refine ⟨_, List.getElem?_eq_getElem (by omega), ?_⟩ | refine rtB ?_ | refine rtI ?_ | refine rtC ?_ rfl | fail)
       refine ag (i + 1) [] [.same 0, .same 1, .same 2, .same 3, .same 11, .same 5] ⟨hlt, trivial⟩ (by simp only []; omega) ?_
       rw [hst]
       repeat' first | exact trivial | exact rfl | refine And.intro ?_ ?_
     ·rw [if_neg h12] at hst
      (conv => whnf)
      unfold addF at hst
      refine dec (fun h8 => ?_) (fun h8 => ?_)
      ·rw [if_pos h8] at hst
       (conv => whnf)
       refine ⟨[g], rfl, ?_⟩
       (conv => whnf)
       refine ⟨_, _, rfl, rfl, (by simp only [List.length_append, List.length_cons, List.length_nil]; omega), ?_⟩
       repeat' ((conv => whnf); first | (refine dec (fun h => ?_) (fun h => ?_) <;> try contradiction) | (refine decN (fun h => ?_) (fun h => ?_) <;> try contradiction) | refine booN (fun h => ?_) (fun h => ?_) | refine boo (fun h => ?_) (fun h => ?_) | refine ⟨i64 (by omega) (by omega), ?_⟩ | refine ⟨_, _, rfl, List.getElem?_eq_getElem (by omega), ?_⟩ | refine ⟨_, ⟨rfl, by omega⟩, ?_⟩ | refine ⟨_, List.getElem?_eq_getElem (by omega), ?_⟩ | refine rtB ?_ | refine rtI ?_ | refine rtC ?_ rfl | fail)
       refine ag (i + 1) [] [.same 0, .same 1, .same 2, .same 13, .same 11, .same 5] ⟨hlt, trivial⟩ (by simp only []; omega) ?_
       rw [hst]
       repeat' first | exact trivial | exact rfl | refine And.intro ?_ ?_
      ·rw [if_neg h8] at hst
       repeat' ((conv => whnf); first | (refine dec (fun h => ?_) (fun h => ?_) <;> try contradiction) | (refine decN (fun h => ?_) (fun h => ?_) <;> try contradiction) | refine booN (fun h => ?_) (fun h => ?_) | refine boo (fun h => ?_) (fun h => ?_) | refine ⟨i64 (by omega) (by omega), ?_⟩ | refine ⟨_, _, rfl, List.getElem?_eq_getElem (by omega), ?_⟩ | refine ⟨_, ⟨rfl, by omega⟩, ?_⟩ | refine ⟨_, List.getElem?_eq_getElem (by omega), ?_⟩ | refine rtB ?_ | refine rtI ?_ | refine rtC ?_ rfl | fail)
       refine ag (i + 1) [] [.same 0, .same 1, .same 2, .same 3, .same 11, .same 5] ⟨hlt, trivial⟩ (by simp only []; omega) ?_
       rw [hst]
       repeat' first | exact trivial | exact rfl | refine And.intro ?_ ?_
   ·have c1 : g = k ∨ k = f := .inr (eqFi.1 h6)
    rw [if_pos c1, if_pos c1, if_pos c1, if_pos c1] at hst
    (conv => whnf)
    unfold addF at hst
    refine dec (fun h8 => ?_) (fun h8 => ?_)
    ·rw [if_pos h8] at hst
     (conv => whnf)
     refine ⟨[g], rfl, ?_⟩
     (conv => whnf)
     refine ⟨_, _, rfl, rfl, (by simp only [List.length_append, List.length_cons, List.length_nil]; omega), ?_⟩
     repeat' ((conv => whnf); first | (refine dec (fun h => ?_) (fun h => ?_) <;> try contradiction) | (refine decN (fun h => ?_) (fun h => ?_) <;> try contradiction) | refine booN (fun h => ?_) (fun h => ?_) | refine boo (fun h => ?_) (fun h => ?_) | refine ⟨i64 (by omega) (by omega), ?_⟩ | refine ⟨_, _, rfl, List.getElem?_eq_getElem (by omega), ?_⟩ | refine ⟨_, ⟨rfl, by omega⟩, ?_⟩ | refine ⟨_, List.getElem?_eq_getElem (by omega), ?_⟩ | refine rtB ?_ | refine rtI ?_ | refine rtC ?_ rfl | fail)
     refine ag (i + 1) [] [.same 0, .same 1, .same 2, .same 11, .same 4, .same 5] ⟨hlt, trivial⟩ (by simp only []; omega) ?_
     rw [hst]
     repeat' first | exact trivial | exact rfl | refine And.intro ?_ ?_
    ·rw [if_neg h8] at hst
     repeat' ((conv => whnf); first | (refine dec (fun h => ?_) (fun h => ?_) <;> try contradiction) | (refine decN (fun h => ?_) (fun h => ?_) <;> try contradiction) | refine booN (fun h => ?_) (fun h => ?_) | refine boo (fun h => ?_) (fun h => ?_) | refine ⟨i64 (by omega) (by omega), ?_⟩ | refine ⟨_, _, rfl, List.getElem?_eq_getElem (by omega), ?_⟩ | refine ⟨_, ⟨rfl, by omega⟩, ?_⟩ | refine ⟨_, List.getElem?_eq_getElem (by omega), ?_⟩ | refine rtB ?_ | refine rtI ?_ | refine rtC ?_ rfl | fail)
     refine ag (i + 1) [] [.same 0, .same 1, .same 2, .same 3, .same 4, .same 5] ⟨hlt, trivial⟩ (by simp only []; omega) ?_
     rw [hst]
     repeat' first | exact trivial | exact rfl | refine And.intro ?_ ?_
  ·have c1 : g = k ∨ k = f := .inl (eqFi.1 h5)
   rw [if_pos c1, if_pos c1, if_pos c1, if_pos c1] at hst
   (conv => whnf)
   unfold addF at hst
   refine dec (fun h8 => ?_) (fun h8 => ?_)
   ·rw [if_pos h8] at hst
    (conv => whnf)
    refine ⟨[g], rfl, ?_⟩
    (conv => whnf)
    refine ⟨_, _, rfl, rfl, (by simp only [List.length_append, List.length_cons, List.length_nil]; omega), ?_⟩
    repeat' ((conv => whnf); first | (refine dec (fun h => ?_) (fun h => ?_) <;> try contradiction) | (refine decN (fun h => ?_) (fun h => ?_) <;> try contradiction) | refine booN (fun h => ?_) (fun h => ?_) | refine boo (fun h => ?_) (fun h => ?_) | refine ⟨i64 (by omega) (by omega), ?_⟩ | refine ⟨_, _, rfl, List.getElem?_eq_getElem (by omega), ?_⟩ | refine ⟨_, ⟨rfl, by omega⟩, ?_⟩ | refine ⟨_, List.getElem?_eq_getElem (by omega), ?_⟩ | refine rtB ?_ | refine rtI ?_ | refine rtC ?_ rfl | fail)
    refine ag (i + 1) [] [.same 0, .same 1, .same 2, .same 11, .same 4, .same 5] ⟨hlt, trivial⟩ (by simp only []; omega) ?_
    rw [hst]
    repeat' first | exact trivial | exact rfl | refine And.intro ?_ ?_
   ·rw [if_neg h8] at hst
    repeat' ((conv => whnf); first | (refine dec (fun h => ?_) (fun h => ?_) <;> try contradiction) | (refine decN (fun h => ?_) (fun h => ?_) <;> try contradiction) | refine booN (fun h => ?_) (fun h => ?_) | refine boo (fun h => ?_) (fun h => ?_) | refine ⟨i64 (by omega) (by omega), ?_⟩ | refine ⟨_, _, rfl, List.getElem?_eq_getElem (by omega), ?_⟩ | refine ⟨_, ⟨rfl, by omega⟩, ?_⟩ | refine ⟨_, List.getElem?_eq_getElem (by omega), ?_⟩ | refine rtB ?_ | refine rtI ?_ | refine rtC ?_ rfl | fail)
    refine ag (i + 1) [] [.same 0, .same 1, .same 2, .same 3, .same 4, .same 5] ⟨hlt, trivial⟩ (by simp only []; omega) ?_
    rw [hst]
    repeat' first | exact trivial | exact rfl | refine And.intro ?_ ?_
 obtain rfl : i = qs.length := by have h4 : ¬ (i : Int) < qs.length := h4; omega
 rw [List.take_length]
 have hso4 := runB_paths (base := base) (hp x (by simp)) (hp y (by simp)) qs ⟨L, [], [], 0⟩ hql (fun f hf => by cases hf)
 generalize runB base x y ⟨L, [], [], 0⟩ qs = s at *
 obtain ⟨sL, so, sc, sk⟩ := s
 have hso4 : ∀ f ∈ so, f.path.length ≤ 4000000 := hso4
 dsimp only
 (conv => whnf)
 refine dec (fun h5 => ?_) (fun h5 => ?_)
 ·rw [if_pos h5]
  (conv => whnf)
  refine cl [] [] (fault_spec so hso4) ?_
  (conv => whnf)
  refine decN (fun h6 => ?_) (fun h6 => ?_)
  ·rw [if_pos h6]
   (conv => whnf)
   exact rx [] [.same 0, .same 1, .same 5, .new, .new]
  ·rw [if_neg (fun h => h h6)]
   (conv => whnf)
   exact rx [] [.same 0, .same 1, .same 5, .same 3, .same 4]
 ·rw [if_neg h5]
  (conv => whnf)
  refine decN (fun h6 => ?_) (fun h6 => absurd h6 h5)
  rw [if_pos h6]
  (conv => whnf)
  exact rx [] [.same 0, .same 1, .same 5, .new, .new]
end Go.Nest
end
/- part -/
section

namespace Go.Nest
open Go Go.AM Go.Proofs
open Go.Proofs.YtpmjnbidmcnhnaaGreatDoor (tab tabOk)
set_option maxRecDepth 4000
theorem blend_pool {L : List Ob} (hL : PoolOk L) (base x y : List Fi) : PoolOk (blendB L base x y).L := by
 have h := (runB_ok (base := base) (x := x) (y := y) (pathsP [base, x, y]) (s := ⟨L, [], [], 0⟩) (n := 0) ⟨hL, hL.len, Nat.le_refl _, Nat.le_refl _⟩).L
 unfold blendB
 split
 ·exact hL
 dsimp only
 generalize (if (runB base x y ⟨L, [], [], 0⟩ (pathsP [base, x, y])).code = 0 then filesF (runB base x y ⟨L, [], [], 0⟩ (pathsP [base, x, y])).out else (runB base x y ⟨L, [], [], 0⟩ (pathsP [base, x, y])).code) = c
 split
 ·exact h
 ·exact h
set_option maxHeartbeats 8000000 in
theorem blendDoes_spec (o : List Ob) (base x y : List Fi) (d0 d1 d2 : List Dc) (hb0 : ∀ f ∈ base, f.path.length ≤ 140737488351232) (hx0 : ∀ f ∈ x, f.path.length ≤ 140737488351232) (hy0 : ∀ f ∈ y, f.path.length ≤ 140737488351232) (h0 : DocsFit d0) (h1 : DocsFit d1) (h2 : DocsFit d2) :
  Does Tryz.prog 8 [.c (.ls 6 Ob encOb o), .c (.ls 4 Fi encFi base), .c (.ls 4 Fi encFi x), .c (.ls 4 Fi encFi y), .st [.ls 2 Dc encDc d0, .ls 2 Dc encDc d1, .ls 2 Dc encDc d2]] [] (Rt (.c (.bool true)) []) := by
 refine X_spec (n := 159) (n0 := 0) tabOk Tryz.call8 Tryz.func8 ?_
 intro hb
 (conv => whnf)
 refine cl [] [] (blendBegun_spec) ?_
 (conv => whnf)
 refine cl [] [] (greatObjects_spec o) ?_
 (conv => whnf)
 refine boo (fun g => ?_) (fun g => ?_)
 ·(conv => whnf)
  exact rtC rfl rfl
 (conv => whnf)
 refine cl [] [] (greatFiles_spec base hb0) ?_
 (conv => whnf)
 refine boo (fun pb => ?_) (fun pb => ?_)
 ·(conv => whnf)
  exact rtC rfl rfl
 have pb : ∀ f ∈ base, f.path.length ≤ 4000000 := fun f h => by have := (greatF_ok pb).2.2 f h; omega
 (conv => whnf)
 refine cl [] [] (greatFiles_spec x hx0) ?_
 (conv => whnf)
 refine boo (fun px => ?_) (fun px => ?_)
 ·(conv => whnf)
  exact rtC rfl rfl
 have px : ∀ f ∈ x, f.path.length ≤ 4000000 := fun f h => by have := (greatF_ok px).2.2 f h; omega
 (conv => whnf)
 refine cl [] [] (greatFiles_spec y hy0) ?_
 (conv => whnf)
 refine boo (fun py => ?_) (fun py => ?_)
 ·(conv => whnf)
  exact rtC rfl rfl
 have py : ∀ f ∈ y, f.path.length ≤ 4000000 := fun f h => by have := (greatF_ok py).2.2 f h; omega
 (conv => whnf)
 refine ⟨0, ⟨rfl, by decide⟩, ?_⟩
 (conv => whnf)
 refine cl [] [] (greatDocs_spec d0 h0) ?_
 (conv => whnf)
 refine boo (fun g0 => ?_) (fun g0 => ?_)
 ·(conv => whnf)
  exact rtC rfl rfl
 have g0 := greatD_ok g0
 (conv => whnf)
 refine ⟨1, ⟨rfl, by decide⟩, ?_⟩
 (conv => whnf)
 refine cl [] [] (greatDocs_spec d1 h1) ?_
 (conv => whnf)
 refine boo (fun g1 => ?_) (fun g1 => ?_)
 ·(conv => whnf)
  exact rtC rfl rfl
 have g1 := greatD_ok g1
 (conv => whnf)
 refine ⟨2, ⟨rfl, by decide⟩, ?_⟩
 (conv => whnf)
 refine cl [] [] (greatDocs_spec d2 h2) ?_
 (conv => whnf)
 refine boo (fun g2 => ?_) (fun g2 => ?_)
 ·(conv => whnf)
  exact rtC rfl rfl
 have g2 := greatD_ok g2
 (conv => whnf)
 refine cl [] [] (pools_spec o) ?_
 have hL : PoolOk (putAll [] o) := putAll_ok .nil
 generalize putAll [] o = L at *
 have q1 := blendMerge_spec L hL hL.len base x y (all3 pb px py)
 have q2 := blendD_spec L hL base x y (all3 pb px py)
 have hA := blend_pool hL base x y
 generalize blendB L base x y = A at *
 have p1 := docFiles_spec A.L hA d0 g0
 have a1 := docs_ok (l := d0) hA
 have a5 : ∀ f ∈ inOrdP (docsU A.L d0).2, f.path.length ≤ 4000000 := docs_long g0
 generalize inOrdP (docsU A.L d0).2 = u at *
 generalize (docsU A.L d0).1 = L1 at *
 have p2 := docFiles_spec L1 a1 d1 g1
 have b1 := docs_ok (l := d1) a1
 have b5 : ∀ f ∈ inOrdP (docsU L1 d1).2, f.path.length ≤ 4000000 := docs_long g1
 generalize inOrdP (docsU L1 d1).2 = v at *
 generalize (docsU L1 d1).1 = L2 at *
 have p3 := docFiles_spec L2 b1 d2 g2
 have c1 := docs_ok (l := d2) b1
 have c5 : ∀ f ∈ inOrdP (docsU L2 d2).2, f.path.length ≤ 4000000 := docs_long g2
 generalize inOrdP (docsU L2 d2).2 = w at *
 generalize (docsU L2 d2).1 = L3 at *
 have q3 := blendMerge_spec L3 c1 c1.len u v w (all3 a5 b5 c5)
 have q4 := blendD_spec L3 c1 u v w (all3 a5 b5 c5)
 generalize blendB L3 u v w = B at *
 have r1 := fun l => sameFiles_spec l l
 have r2 := fun l => sameTexts_spec l l
 simp only [decide_true] at r1 r2
 (conv => whnf)
 refine cl [] [1, 2] (q1) ?_
 (conv => whnf)
 refine cl [] [3, 4] (q2) ?_
 (conv => whnf)
 refine ⟨false, .grow, (.l [0, 1, 2, 3, 4, 5, 6, 7, 8, 9, 10, 11, 12, 13, 14, 15, 16, 18, 19, 20, 21, 22, 17, 23, 24]), by kernel_rfl, .inl ?_⟩
 (conv => whnf)
 refine cl [] [] (r1 A.out) ?_
 (conv => whnf)
 refine cl [] [] (r2 A.cf) ?_
 (conv => whnf)
 refine decN (fun h => absurd rfl h) (fun _ => ?_)
 (conv => whnf)
 refine cl [] [] (len_spec A.L) ?_
 (conv => whnf)
 refine decN (fun h => absurd rfl h) (fun _ => ?_)
 (conv => whnf)
 refine ⟨false, .prot [0], (.l [0, 1, 2, 3, 5, 6, 7, 8, 10, 11, 12, 13, 4, 9, 14, 15, 16, 17]), by kernel_rfl, .inl ?_⟩
 (conv => whnf)
 refine ⟨0, ⟨rfl, by decide⟩, ?_⟩
 (conv => whnf)
 refine ⟨1, ⟨rfl, by decide⟩, ?_⟩
 (conv => whnf)
 refine ⟨2, ⟨rfl, by decide⟩, ?_⟩
 (conv => whnf)
 refine cl [] [1, 5, 3, 8] (p1) ?_
 (conv => whnf)
 refine cl [] [1, 11, 3, 12] (p2) ?_
 (conv => whnf)
 refine cl [] [1, 14, 3, 15] (p3) ?_
 (conv => whnf)
 refine cl [13, 16, 19] [1, 17] (q3) ?_
 (conv => whnf)
 refine cl [] [3, 18] (q4) ?_
 (conv => whnf)
 refine ⟨false, .grow, (.l [0, 1, 2, 3, 4, 5, 6, 7, 8, 9, 10, 11, 12, 13, 14, 16, 17, 18, 19, 20, 15, 21, 22, 23]), by kernel_rfl, .inl ?_⟩
 (conv => whnf)
 refine cl [] [] (r1 B.out) ?_
 (conv => whnf)
 refine cl [] [] (r2 B.cf) ?_
 (conv => whnf)
 refine dec (fun _ => ?_) (fun h => absurd rfl h)
 (conv => whnf)
 refine cl [] [] (len_spec B.L) ?_
 (conv => whnf)
 exact rtB (decide_eq_true rfl)
end Go.Nest
end
