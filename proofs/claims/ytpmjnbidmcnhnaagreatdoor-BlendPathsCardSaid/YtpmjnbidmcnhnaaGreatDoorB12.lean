/- part -/
import Derived.Test.YtpmjnbidmcnhnaaGreatDoorB6
import Derived.Test.YtpmjnbidmcnhnaaGreatDoorR5
import Derived.Test.YtpmjnbidmcnhnaaGreatDoorW11
set_option linter.unusedVariables false
set_option linter.unusedSimpArgs false
section

namespace Go.Nest
open Go Go.AM Go.Proofs
open Go.Proofs.YtpmjnbidmcnhnaaGreatDoor (tab tabOk)
set_option maxRecDepth 4000
def pkF (L : List Ob) (base x y : Fi) (p : List UInt8) : Fi := if x = y ∨ y = base then x else if x = base then y else if (mixF L base x y p).2 = true then (mixF L base x y p).1 else if x.mode = 0 then y else x
def pkL (L : List Ob) (base x y : Fi) : List Ob := if x = y ∨ y = base then L else if x = base then L else mixL L base x y
def pkC (L : List Ob) (code : Int) (base x y : Fi) : Int := if x = y ∨ y = base then code else if x = base then code else mixC L code base x y
def pkX (L : List Ob) (cf : List (List UInt8)) (base x y : Fi) (p : List UInt8) : List (List UInt8) := if x = y ∨ y = base then cf else if x = base then cf else if (mixF L base x y p).2 = true then cf else cf ++ [p]
def addF (out : List Fi) (f : Fi) : List Fi := if 0 < f.mode then out ++ [f] else out
theorem path_bspec (L : List Ob) (hL : PoolOk L) (hn : L.length ≤ 600) (out : List Fi) (ho : out.length ≤ 1000) (cf : List (List UInt8)) (hc : cf.length ≤ 1000) (code : Int) (base x y : Fi) (p : List UInt8) (hp : p.length ≤ 4000000) :
  Does Tryz.prog 80 [.c (.ptr 0 0), .c (.str p), .st (encFi base), .st (encFi x), .st (encFi y)] [.box [.ptr 1 0, .rw 3, .rw 4, .int .i64 code], .box [.rw 2], .row 6 Ob encOb L, .row 4 Fi encFi out, .row 1 (List UInt8) encS cf] (Rt (.tup []) [.box [.ptr 1 0, .rw 6, .rw 7, .int .i64 (pkC L code base x y)], .box [.rw 5], .dead, .dead, .dead, .row 6 Ob encOb (pkL L base x y), .row 4 Fi encFi (addF out (pkF L base x y p)), .row 1 (List UInt8) encS (pkX L cf base x y p)]) := by
 have q1 := mixed_spec L hL hn out cf code base x y p hp
 unfold pkF pkL pkX pkC
 refine X_spec (n := 66) (n0 := 5) tabOk Tryz.call80 Tryz.func80 ?_
 intro hb
 (conv => whnf)
 refine dec (fun h1 => ?_) (fun h1 => ?_)
 ·have c1 : x = y ∨ y = base := .inl (eqFi.1 h1)
  rw [if_pos c1, if_pos c1, if_pos c1, if_pos c1]
  (conv => whnf)
  unfold addF
  refine dec (fun h2 => ?_) (fun h2 => ?_)
  ·rw [if_pos h2]
   (conv => whnf)
   refine ⟨false, .grow, (.l [0, 1, 2, 3, 4, 5, 6, 7, 8, 9, 10]), by kernel_rfl, .inl ?_⟩
   (conv => whnf)
   refine ⟨[x], rfl, ?_⟩
   (conv => whnf)
   refine ⟨_, _, rfl, rfl, (by simp only [List.length_append, List.length_cons, List.length_nil]; omega), ?_⟩
   (conv => whnf)
   exact rx [] [.same 0, .same 1, .same 2, .same 3, .same 4, .same 2, .same 10, .same 4]
  ·rw [if_neg h2]
   (conv => whnf)
   exact rx [] [.same 0, .same 1, .same 2, .same 3, .same 4, .same 2, .same 3, .same 4]
 (conv => whnf)
 refine dec (fun h3 => ?_) (fun h3 => ?_)
 ·have c1 : x = y ∨ y = base := .inr (eqFi.1 h3)
  rw [if_pos c1, if_pos c1, if_pos c1, if_pos c1]
  (conv => whnf)
  unfold addF
  refine dec (fun h2 => ?_) (fun h2 => ?_)
  ·rw [if_pos h2]
   (conv => whnf)
   refine ⟨false, .grow, (.l [0, 1, 2, 3, 4, 5, 6, 7, 8, 9, 10]), by kernel_rfl, .inl ?_⟩
   (conv => whnf)
   refine ⟨[x], rfl, ?_⟩
   (conv => whnf)
   refine ⟨_, _, rfl, rfl, (by simp only [List.length_append, List.length_cons, List.length_nil]; omega), ?_⟩
   (conv => whnf)
   exact rx [] [.same 0, .same 1, .same 2, .same 3, .same 4, .same 2, .same 10, .same 4]
  ·rw [if_neg h2]
   (conv => whnf)
   exact rx [] [.same 0, .same 1, .same 2, .same 3, .same 4, .same 2, .same 3, .same 4]
 have c1 : ¬ (x = y ∨ y = base) := fun h => h.elim (fun h => h1 (eqFi.2 h)) (fun h => h3 (eqFi.2 h))
 rw [if_neg c1, if_neg c1, if_neg c1, if_neg c1]
 (conv => whnf)
 refine dec (fun h4 => ?_) (fun h4 => ?_)
 ·have c2 : x = base := eqFi.1 h4
  rw [if_pos c2, if_pos c2, if_pos c2, if_pos c2]
  (conv => whnf)
  unfold addF
  refine dec (fun h2 => ?_) (fun h2 => ?_)
  ·rw [if_pos h2]
   (conv => whnf)
   refine ⟨false, .grow, (.l [0, 1, 2, 3, 4, 5, 6, 7, 8, 9, 10]), by kernel_rfl, .inl ?_⟩
   (conv => whnf)
   refine ⟨[y], rfl, ?_⟩
   (conv => whnf)
   refine ⟨_, _, rfl, rfl, (by simp only [List.length_append, List.length_cons, List.length_nil]; omega), ?_⟩
   (conv => whnf)
   exact rx [] [.same 0, .same 1, .same 2, .same 3, .same 4, .same 2, .same 10, .same 4]
  ·rw [if_neg h2]
   (conv => whnf)
   exact rx [] [.same 0, .same 1, .same 2, .same 3, .same 4, .same 2, .same 3, .same 4]
 have c2 : ¬ x = base := fun h => h4 (eqFi.2 h)
 rw [if_neg c2, if_neg c2, if_neg c2, if_neg c2]
 generalize mixF L base x y p = R at *
 generalize mixL L base x y = L2 at *
 generalize mixC L code base x y = code2 at *
 obtain ⟨f, ok⟩ := R
 dsimp only at q1 ⊢
 (conv => whnf)
 refine cl [] [0, 1, 2, 3, 4] (q1) ?_
 (conv => whnf)
 refine boo (fun h5 => ?_) (fun h5 => ?_)
 ·subst h5
  rw [if_pos rfl, if_pos rfl]
  (conv => whnf)
  unfold addF
  refine dec (fun h2 => ?_) (fun h2 => ?_)
  ·rw [if_pos h2]
   (conv => whnf)
   refine ⟨false, .grow, (.l [0, 1, 2, 3, 4, 5, 6, 7, 8, 9, 10]), by kernel_rfl, .inl ?_⟩
   (conv => whnf)
   refine ⟨[f], rfl, ?_⟩
   (conv => whnf)
   refine ⟨_, _, rfl, rfl, (by simp only [List.length_append, List.length_cons, List.length_nil]; omega), ?_⟩
   (conv => whnf)
   exact rx [] [.same 0, .same 1, .same 2, .same 3, .same 4, .same 9, .same 14, .same 11]
  ·rw [if_neg h2]
   (conv => whnf)
   exact rx [] [.same 0, .same 1, .same 2, .same 3, .same 4, .same 9, .same 10, .same 11]
 ·subst h5
  rw [if_neg Bool.false_ne_true, if_neg Bool.false_ne_true]
  (conv => whnf)
  refine ⟨[p], rfl, ?_⟩
  (conv => whnf)
  refine ⟨_, _, rfl, rfl, (by simp only [List.length_append, List.length_cons, List.length_nil]; omega), ?_⟩
  (conv => whnf)
  refine dec (fun h6 => ?_) (fun h6 => ?_)
  ·rw [if_pos h6]
   (conv => whnf)
   unfold addF
   refine dec (fun h2 => ?_) (fun h2 => ?_)
   ·rw [if_pos h2]
    (conv => whnf)
    refine ⟨false, .grow, (.l [0, 1, 2, 3, 4, 5, 6, 7, 8, 9, 10]), by kernel_rfl, .inl ?_⟩
    (conv => whnf)
    refine ⟨[y], rfl, ?_⟩
    (conv => whnf)
    refine ⟨_, _, rfl, rfl, (by simp only [List.length_append, List.length_cons, List.length_nil]; omega), ?_⟩
    (conv => whnf)
    exact rx [] [.same 0, .same 1, .same 2, .same 3, .same 4, .same 9, .same 16, .same 14]
   ·rw [if_neg h2]
    (conv => whnf)
    exact rx [] [.same 0, .same 1, .same 2, .same 3, .same 4, .same 9, .same 10, .same 14]
  ·rw [if_neg h6]
   (conv => whnf)
   unfold addF
   refine dec (fun h2 => ?_) (fun h2 => ?_)
   ·rw [if_pos h2]
    (conv => whnf)
    refine ⟨false, .grow, (.l [0, 1, 2, 3, 4, 5, 6, 7, 8, 9, 10]), by kernel_rfl, .inl ?_⟩
    (conv => whnf)
    refine ⟨[x], rfl, ?_⟩
    (conv => whnf)
    refine ⟨_, _, rfl, rfl, (by simp only [List.length_append, List.length_cons, List.length_nil]; omega), ?_⟩
    (conv => whnf)
    exact rx [] [.same 0, .same 1, .same 2, .same 3, .same 4, .same 9, .same 16, .same 14]
   ·rw [if_neg h2]
    (conv => whnf)
    exact rx [] [.same 0, .same 1, .same 2, .same 3, .same 4, .same 9, .same 10, .same 14]
end Go.Nest
end
/- part -/
section

namespace Go.Nest
open Go Go.AM Go.Proofs
open Go.Proofs.YtpmjnbidmcnhnaaGreatDoor (tab tabOk)
set_option maxRecDepth 4000
theorem putP_le {L : List Ob} {o : Ob} (h : L.length ≤ 600) : (putP L o).2.2.length ≤ 600 := by
 unfold putP
 split
 ·exact h
 split
 ·exact h
 split
 ·exact h
 split
 ·exact h
 ·simp only [List.length_append, List.length_singleton]; omega
theorem mixL_ok {L : List Ob} (hL : PoolOk L) (hn : L.length ≤ 600) (base x y : Fi) : PoolOk (mixL L base x y) ∧ (mixL L base x y).length ≤ 600 := by
 unfold mixL
 split
 ·exact ⟨hL, hn⟩
 ·exact ⟨putP_ok hL _, putP_le hn⟩
structure BS where
 L : List Ob
 out : List Fi
 cf : List (List UInt8)
 code : Int
def stepB (base x y : List Fi) (s : BS) (q : List UInt8) : BS :=
 let f := (fileAtP base q).1
 let g := (fileAtP x q).1
 let h := (fileAtP y q).1
 ⟨pkL s.L f g h, addF s.out (pkF s.L f g h q), pkX s.L s.cf f g h q, pkC s.L s.code f g h⟩
structure BOk (s : BS) (n : Nat) : Prop where
 L : PoolOk s.L
 sz : s.L.length ≤ 600
 out : s.out.length ≤ n
 cf : s.cf.length ≤ n
theorem stepB_ok {base x y : List Fi} {s : BS} {n : Nat} (h : BOk s n) (q : List UInt8) : BOk (stepB base x y s q) (n + 1) := by
 have h1 : ∀ f g k, PoolOk (pkL s.L f g k) ∧ (pkL s.L f g k).length ≤ 600 := fun f g k => by
  unfold pkL
  split
  ·exact ⟨h.L, h.sz⟩
  split
  ·exact ⟨h.L, h.sz⟩
  exact mixL_ok h.L h.sz _ _ _
 have h2 : ∀ f, (addF s.out f).length ≤ n + 1 := fun f => by
  have := h.out
  unfold addF
  split
  ·simp only [List.length_append, List.length_singleton]; omega
  ·omega
 have h3 : ∀ f g k q, (pkX s.L s.cf f g k q).length ≤ n + 1 := fun f g k q => by
  have := h.cf
  unfold pkX
  split
  ·omega
  split
  ·omega
  split
  ·omega
  ·simp only [List.length_append, List.length_singleton]; omega
 exact ⟨(h1 _ _ _).1, (h1 _ _ _).2, h2 _, h3 _ _ _ _⟩
def runB (base x y : List Fi) (s : BS) (qs : List (List UInt8)) : BS := qs.foldl (stepB base x y) s
theorem runB_ok {base x y : List Fi} : ∀ (qs : List (List UInt8)) {s : BS} {n : Nat}, BOk s n → BOk (runB base x y s qs) (n + qs.length)
 | [], s, n, h => h
 | q :: qs, s, n, h => by
  have := runB_ok (base := base) (x := x) (y := y) qs (stepB_ok (base := base) (x := x) (y := y) h q)
  rw [List.length_cons, show n + (qs.length + 1) = n + 1 + qs.length by omega]
  exact this
theorem runB_take {base x y : List Fi} {s : BS} {qs : List (List UInt8)} {i : Nat} (h : i < qs.length) : runB base x y s (qs.take (i + 1)) = stepB base x y (runB base x y s (qs.take i)) qs[i] := by
 unfold runB
 rw [List.take_succ_eq_append_getElem h, List.foldl_append]; rfl
def firstC : List (List Fi) → Int
 | [] => 0
 | l :: r => if filesF l ≠ 0 then filesF l else firstC r
def blendB (L : List Ob) (base x y : List Fi) : BS :=
 if firstC [base, x, y] ≠ 0 then ⟨L, [], [], firstC [base, x, y]⟩
 else
  let s := runB base x y ⟨L, [], [], 0⟩ (pathsP [base, x, y])
  let c := if s.code = 0 then filesF s.out else s.code
  if c ≠ 0 then ⟨s.L, [], [], c⟩ else ⟨s.L, s.out, s.cf, 0⟩
end Go.Nest
end
/- part -/
section

namespace Go.Nest
open Go Go.AM Go.Proofs
open Go.Proofs.YtpmjnbidmcnhnaaGreatDoor (tab tabOk)
set_option maxRecDepth 4000
theorem ddT_sub : ∀ (l : List (List UInt8)) (p : Option (List UInt8)), (ddT p l).Sublist l
 | [], p => .slnil
 | x :: l, p => by
  rw [ddT]
  split
  ·exact (ddT_sub l _).cons _
  ·exact (ddT_sub l _).cons_cons _
theorem paths_len (ls : List (List Fi)) : (pathsP ls).length ≤ ls.flatten.length := by
 rw [← union_paths]
 refine Nat.le_trans (ddT_sub _ _).length_le ?_
 unfold srtT
 rw [List.length_mergeSort, List.length_map]
 exact Nat.le_refl _
theorem paths_mem {ls : List (List Fi)} {q : List UInt8} (h : q ∈ pathsP ls) : ∃ l ∈ ls, ∃ f ∈ l, f.path = q := by
 rw [← union_paths] at h
 have h := (ddT_sub _ _).mem h
 unfold srtT at h
 rw [(List.mergeSort_perm _ _).mem_iff] at h
 obtain ⟨f, hf, rfl⟩ := List.mem_map.1 h
 obtain ⟨l, h1, h2⟩ := List.mem_flatten.1 hf
 exact ⟨l, h1, f, h2, rfl⟩
theorem at_len {l : List Fi} {p : List UInt8} (h : ∀ f ∈ l, f.path.length ≤ 4000000) : (fileAtP l p).1.path.length ≤ 4000000 := by
 rcases atP_or l p with ⟨e, _⟩ | ⟨e, _⟩
 ·rw [show (fileAtP l p).1 = fi0 from e]; exact Nat.zero_le _
 ·exact h _ e
theorem mixF_len {L : List Ob} {b x y : Fi} {q : List UInt8} (hq : q.length ≤ 4000000) : (mixF L b x y q).1.path.length ≤ 4000000 := by
 unfold mixF
 split
 ·exact Nat.zero_le _
 ·exact hq
theorem pkF_len {L : List Ob} {b x y : Fi} {q : List UInt8} (hx : x.path.length ≤ 4000000) (hy : y.path.length ≤ 4000000) (hq : q.length ≤ 4000000) : (pkF L b x y q).path.length ≤ 4000000 := by
 unfold pkF
 repeat' split
 all_goals first | exact hx | exact hy | exact mixF_len hq
theorem runB_paths {base x y : List Fi} (hx : ∀ f ∈ x, f.path.length ≤ 4000000) (hy : ∀ f ∈ y, f.path.length ≤ 4000000) : ∀ (qs : List (List UInt8)) (s : BS), (∀ q ∈ qs, q.length ≤ 4000000) → (∀ f ∈ s.out, f.path.length ≤ 4000000) → ∀ f ∈ (runB base x y s qs).out, f.path.length ≤ 4000000
 | [], s, _, h => h
 | q :: qs, s, hq, h => runB_paths hx hy qs (stepB base x y s q) (fun r hr => hq r (by simp [hr])) (fun f hf => by
  have hf : f ∈ addF s.out (pkF s.L (fileAtP base q).1 (fileAtP x q).1 (fileAtP y q).1 q) := hf
  unfold addF at hf
  split at hf
  ·rcases List.mem_append.1 hf with hf | hf
   ·exact h f hf
   ·rw [List.mem_singleton] at hf
    rw [hf]
    exact pkF_len (at_len hx) (at_len hy) (hq q (by simp))
  ·exact h f hf)
set_option maxHeartbeats 2000000 in
theorem blendMerge_spec (L : List Ob) (hL : PoolOk L) (hn : L.length ≤ 600) (base x y : List Fi) (hp : ∀ l ∈ [base, x, y], ∀ f ∈ l, f.path.length ≤ 4000000) :
  Does Tryz.prog 35 [.c (.ptr 0 0), .c (.ls 4 Fi encFi base), .c (.ls 4 Fi encFi x), .c (.ls 4 Fi encFi y)] [.box [.rw 1], .row 6 Ob encOb L] (Rt (.tup [(false, [.rw 3]), (false, [.rw 4]), (false, [.int .i64 (blendB L base x y).code])]) [.box [.rw 2], .dead, .row 6 Ob encOb (blendB L base x y).L, .row 4 Fi encFi (blendB L base x y).out, .row 1 (List UInt8) encS (blendB L base x y).cf]) := by
 have c1 := flatCheck_spec base (hp _ (by simp))
 have c2 := flatCheck_spec x (hp _ (by simp))
 have c3 := flatCheck_spec y (hp _ (by simp))
 refine X_spec (n := 106) (n0 := 2) tabOk Tryz.call35 Tryz.func35 ?_
 intro hb
 (conv => whnf)
 refine ⟨[base, x, y], rfl, ?_⟩
 (conv => whnf)
 refine lp Nat (fun i => ⟨[(0, .c (.ptr 0 0)), (1, .c (.ls 4 Fi encFi base)), (2, .c (.ls 4 Fi encFi x)), (3, .c (.ls 4 Fi encFi y)), (26, .c (.rw 2)), (27, .c (.int .i64 3)), (28, .c (.int .i64 i))], [.box [.rw 1], .row 6 Ob encOb L, .row 1 (List Fi) (encL 4 encFi) [base, x, y]]⟩) (fun i => i ≤ 3 ∧ firstC [base, x, y] = firstC ([base, x, y].drop i)) (fun i => 3 - i) 0 [] [.same 0, .same 1, .same 2] ⟨Nat.zero_le _, rfl⟩ ?_ (fun i hi => ?_)
 ·repeat' first | exact trivial | exact rfl | refine And.intro ?_ ?_
 obtain ⟨hi, hat⟩ := hi
 (conv => whnf)
 refine dec (fun h4 => ?_) (fun h4 => ?_)
 ·have hlt : i < [base, x, y].length := by show i < 3; omega
  have hiy : [base, x, y][i]? = some [base, x, y][i] := List.getElem?_eq_getElem hlt
  have hd := List.drop_eq_getElem_cons hlt
  have hpi := hp [base, x, y][i] (List.getElem_mem hlt)
  generalize [base, x, y][i] = l at hiy hd hpi
  rw [hd] at hat
  have hat : firstC [base, x, y] = if filesF l ≠ 0 then filesF l else firstC ([base, x, y].drop (i + 1)) := hat
  (conv => whnf)
  refine ⟨i, ⟨rfl, hlt⟩, ?_⟩
  (conv => whnf)
  refine ⟨l, hiy, ?_⟩
  (conv => whnf)
  refine cl [] [] (flatCheck_spec l hpi) ?_
  (conv => whnf)
  refine decN (fun h5 => ?_) (fun h5 => ?_)
  ·rw [if_pos h5] at hat
   have e : blendB L base x y = ⟨L, [], [], filesF l⟩ := by unfold blendB; rw [hat, if_pos h5]
   rw [e]
   (conv => whnf)
   exact rx [] [.same 0, .same 1, .same 1, .new, .new]
  ·rw [if_neg (fun h => h h5)] at hat
   repeat' ((conv => whnf); first | (refine dec (fun h => ?_) (fun h => ?_) <;> try contradiction) | (refine decN (fun h => ?_) (fun h => ?_) <;> try contradiction) | refine booN (fun h => ?_) (fun h => ?_) | refine boo (fun h => ?_) (fun h => ?_) | refine ⟨i64 (by omega) (by omega), ?_⟩ | refine ⟨_, _, rfl, List.getElem?_eq_getElem (by omega), ?_⟩ | refine ⟨_, ⟨rfl, by omega⟩, ?_⟩ | refine ⟨_, List.getElem?_eq_getElem (by omega), ?_⟩ | refine rtB ?_ | refine rtI ?_ | refine rtC ?_ rfl | fail)
   refine ag (i + 1) [] [.same 0, .same 1, .same 2] ⟨hlt, hat⟩ (by simp only []; omega) ?_
   repeat' first | exact trivial | exact rfl | refine And.intro ?_ ?_
 have h3 : i = 3 := by omega
 subst h3
 have h0 : firstC [base, x, y] = 0 := hat
 have hfl : [base, x, y].flatten.length ≤ 1000 := by
  have z : ∀ l, filesF l = 0 → l.length ≤ 60 := fun l h => by
   refine Classical.byContradiction fun h2 => ?_
   unfold filesF at h
   rw [if_pos (by omega)] at h
   exact absurd h (by decide)
  have a1 : filesF base = 0 := Classical.byContradiction fun h => by
   have : firstC [base, x, y] = filesF base := if_pos h
   omega
  have e1 : firstC [base, x, y] = firstC [x, y] := if_neg (fun h => h a1)
  have a2 : filesF x = 0 := Classical.byContradiction fun h => by
   have : firstC [x, y] = filesF x := if_pos h
   omega
  have e2 : firstC [x, y] = firstC [y] := if_neg (fun h => h a2)
  have a3 : filesF y = 0 := Classical.byContradiction fun h => by
   have : firstC [y] = filesF y := if_pos h
   omega
  have z1 := z _ a1
  have z2 := z _ a2
  have z3 := z _ a3
  simp only [List.flatten_cons, List.flatten_nil, List.length_append, List.length_nil]
  omega
 have u1 := union_spec [base, x, y] hfl hp
 (conv => whnf)
 refine ⟨[base, x, y], rfl, ?_⟩
 (conv => whnf)
 refine cl [] [] (u1) ?_
 (conv => whnf)
 have hql : ∀ q ∈ pathsP [base, x, y], q.length ≤ 4000000 := fun q hq => by
  obtain ⟨l, h1, f, h2, rfl⟩ := paths_mem hq
  exact hp l h1 f h2
 have hqn : (pathsP [base, x, y]).length ≤ 1000 := Nat.le_trans (paths_len _) hfl
 have h00 : BOk ⟨L, [], [], 0⟩ 0 := ⟨hL, hn, Nat.le_refl _, Nat.le_refl _⟩
 have eB : blendB L base x y = _ := if_neg (fun h => h h0)
 rw [eB]
 generalize pathsP [base, x, y] = qs at *
 refine lp Nat (fun i => ⟨[(1, .c (.ls 4 Fi encFi base)), (2, .c (.ls 4 Fi encFi x)), (3, .c (.ls 4 Fi encFi y)), (14, .c (.ptr 2 0)), (45, .c (.rw 3)), (46, .c (.int .i64 qs.length)), (47, .c (.int .i64 i))],
  [.box [.rw 6], .dead, .box [.ptr 0 0, .rw 4, .rw 5, .int .i64 (runB base x y ⟨L, [], [], 0⟩ (qs.take i)).code], .row 1 (List UInt8) encS qs, .row 4 Fi encFi (runB base x y ⟨L, [], [], 0⟩ (qs.take i)).out, .row 1 (List UInt8) encS (runB base x y ⟨L, [], [], 0⟩ (qs.take i)).cf, .row 6 Ob encOb (runB base x y ⟨L, [], [], 0⟩ (qs.take i)).L]⟩) (fun i => i ≤ qs.length ∧ True) (fun i => qs.length - i) 0 [] [.same 0, .same 1, .same 3, .same 5, .new, .new, .same 1] ⟨Nat.zero_le _, trivial⟩ ?_ (fun i hi => ?_)
 ·repeat' first | exact trivial | exact rfl | refine And.intro ?_ ?_
 obtain ⟨hi, -⟩ := hi
 (conv => whnf)
 refine dec (fun h4 => ?_) (fun h4 => ?_)
 ·have hlt : i < qs.length := by have h4 : (i : Int) < qs.length := h4; omega
  have hiy : qs[i]? = some qs[i] := List.getElem?_eq_getElem hlt
  have hq := hql _ (List.getElem_mem hlt)
  have hst := runB_take (base := base) (x := x) (y := y) (s := ⟨L, [], [], 0⟩) hlt
  have hok := runB_ok (base := base) (x := x) (y := y) (qs.take i) h00
  rw [List.length_take, Nat.min_eq_left (by omega)] at hok
  generalize qs[i] = q at hiy hq hst
  generalize runB base x y ⟨L, [], [], 0⟩ (qs.take i) = s at hst hok ⊢
  obtain ⟨sL, so, sc, sk⟩ := s
  (conv => whnf)
  refine ⟨i, ⟨rfl, hlt⟩, ?_⟩
  (conv => whnf)
  refine ⟨q, hiy, ?_⟩
  (conv => whnf)
  refine cl [] [] (find_spec base q) ?_
  (conv => whnf)
  refine cl [] [] (find_spec x q) ?_
  (conv => whnf)
  refine cl [] [] (find_spec y q) ?_
  (conv => whnf)
  have hso := hok.out
  have hsc := hok.cf
  refine cl [] [2, 0, 6, 4, 5] (path_bspec sL hok.L hok.sz so (by simp only [] at hso; omega) sc (by simp only [] at hsc; omega) sk (fileAtP base q).1 (fileAtP x q).1 (fileAtP y q).1 q hq) ?_
  repeat' ((conv => whnf); first | (refine dec (fun h => ?_) (fun h => ?_) <;> try contradiction) | (refine decN (fun h => ?_) (fun h => ?_) <;> try contradiction) | refine booN (fun h => ?_) (fun h => ?_) | refine boo (fun h => ?_) (fun h => ?_) | refine ⟨i64 (by omega) (by omega), ?_⟩ | refine ⟨_, _, rfl, List.getElem?_eq_getElem (by omega), ?_⟩ | refine ⟨_, ⟨rfl, by omega⟩, ?_⟩ | refine ⟨_, List.getElem?_eq_getElem (by omega), ?_⟩ | refine rtB ?_ | refine rtI ?_ | refine rtC ?_ rfl | fail)
  refine ag (i + 1) [] [.same 0, .same 1, .same 2, .same 3, .same 11, .same 12, .same 10] ⟨hlt, trivial⟩ (by simp only []; omega) ?_
  rw [hst]
  unfold stepB
  dsimp only
  repeat' first | exact trivial | exact rfl | refine And.intro ?_ ?_
 obtain rfl : i = qs.length := by have h4 : ¬ (i : Int) < qs.length := h4; omega
 rw [List.take_length]
 have hso4 := runB_paths (base := base) (hp x (by simp)) (hp y (by simp)) qs ⟨L, [], [], 0⟩ hql (fun f hf => by cases hf)
 generalize runB base x y ⟨L, [], [], 0⟩ qs = s at *
 obtain ⟨sL, so, sc, sk⟩ := s
 have hso4 : ∀ f ∈ so, f.path.length ≤ 4000000 := hso4
 dsimp only
 (conv => whnf)
 refine dec (fun h5 => ?_) (fun h5 => ?_)
 ·rw [if_pos h5]
  (conv => whnf)
  refine cl [] [] (flatCheck_spec so hso4) ?_
  (conv => whnf)
  refine decN (fun h6 => ?_) (fun h6 => ?_)
  ·rw [if_pos h6]
   (conv => whnf)
   refine ⟨false, .grow, (.l [0, 1, 2, 3, 4, 5, 6]), by kernel_rfl, .inl ?_⟩
   (conv => whnf)
   exact rx [] [.same 0, .same 1, .same 6, .new, .new]
  ·rw [if_neg (fun h => h h6)]
   (conv => whnf)
   refine ⟨false, .grow, (.l [0, 1, 2, 3, 4, 5, 6, 7, 8, 9, 10]), by kernel_rfl, .inl ?_⟩
   (conv => whnf)
   exact rx [] [.same 0, .same 1, .same 6, .same 4, .same 5]
 ·rw [if_neg h5]
  (conv => whnf)
  refine decN (fun h6 => ?_) (fun h6 => absurd h6 h5)
  rw [if_pos h6]
  (conv => whnf)
  refine ⟨false, .grow, (.l [0, 1, 2, 3, 4, 5, 6]), by kernel_rfl, .inl ?_⟩
  (conv => whnf)
  exact rx [] [.same 0, .same 1, .same 6, .new, .new]
end Go.Nest
end
/- part -/
section

namespace Go.Nest
open Go Go.AM
open Go.NB.L (linesOf go mix cut heldFrom pairs Ls at_)
theorem meets_no {p : List UInt8} {f : Fi} (h : meets p f = false) : under f.path p = none ∧ under p f.path = none ∧ f.path ≠ p := by
 unfold meets at h
 simp only [Bool.or_eq_false_iff, decide_eq_false_iff_not] at h
 obtain ⟨h1, h2, h3⟩ := h
 refine ⟨?_, ?_, h3⟩
 ·unfold underP at h1
  cases hu : under f.path p with
  | none => rfl
  | some r => rw [hu] at h1; cases h1
 ·unfold underP at h2
  cases hu : under p f.path with
  | none => rfl
  | some r => rw [hu] at h2; cases h2
structure DocF (M : List Ob) (f : Fi) : Prop where
 path : (splitP f.path).2 = 0
 mode : f.mode = 1
 kind : kindOf M f.id = 1
theorem DocF.mono {L M : List Ob} {f : Fi} (h : DocF L f) (hx : L <+: M) : DocF M f := ⟨h.path, h.mode, by rw [ext_kind hx (by rw [h.kind]; decide)]; exact h.kind⟩
def Off (f g : Fi) : Prop := under f.path g.path = none ∧ under g.path f.path = none ∧ f.path ≠ g.path
theorem docs_all {L : List Ob} {l : List Dc} : (∀ f ∈ (docsU L l).2, DocF (docsU L l).1 f) ∧ (docsU L l).2.Pairwise Off :=
 docs_fold (P := fun s => (∀ f ∈ s.2, DocF s.1 f) ∧ s.2.Pairwise Off) (fun s d hd ⟨h1, h2⟩ => by
  unfold docStep
  split
  ·exact ⟨h1, h2⟩
  split
  ·exact ⟨h1, h2⟩
  split
  ·exact ⟨h1, h2⟩
  rename_i c1 c2 c3
  have hx := put_ext (L := s.1) (blobO d.bytes)
  dsimp only
  split
  ·rename_i c4
   obtain ⟨g1, g2⟩ := put_get c4
   refine ⟨fun f hf => ?_, List.pairwise_append.2 ⟨h2, by simp, fun f hf g hg => ?_⟩⟩
   ·rcases List.mem_append.1 hf with hf | hf
    ·exact (h1 f hf).mono hx
    ·rw [List.mem_singleton] at hf
     subst hf
     exact ⟨by simpa using c1, rfl, by rw [← getP_kind, g2]; rfl⟩
   ·rw [List.mem_singleton] at hg
    subst hg
    have := List.any_eq_false.1 (by simpa only [Bool.not_eq_true] using c3) f hf
    exact meets_no (by simpa only [Bool.not_eq_true] using this)
  ·exact ⟨fun f hf => (h1 f hf).mono hx, h2⟩) ⟨fun f hf => (by cases hf), .nil⟩
structure FL (M : List Ob) (l : List Fi) : Prop where
 all : ∀ f ∈ l, DocF M f
 apt : l.Pairwise Apt
 len : l.length ≤ 40
theorem FL.mono {L M : List Ob} {l : List Fi} (h : FL L l) (hx : L <+: M) : FL M l := ⟨fun f hf => (h.all f hf).mono hx, h.apt, h.len⟩
theorem Off.symm {f g : Fi} (h : Off f g) : Off g f := ⟨h.2.1, h.1, h.2.2.symm⟩
theorem off_all : ∀ {l : List Fi}, l.Pairwise Off → ∀ f ∈ l, ∀ g ∈ l, f.path ≠ g.path → Off f g
 | [], _, f, hf, _, _, _ => by cases hf
 | x :: l, h, f, hf, g, hg, hne => by
  obtain ⟨h1, h2⟩ := List.pairwise_cons.1 h
  rcases List.mem_cons.1 hf with e1 | hf <;> rcases List.mem_cons.1 hg with e2 | hg
  ·rw [e1, e2] at hne; exact absurd rfl hne
  ·rw [e1]; exact h1 g hg
  ·rw [e2]; exact (h1 f hf).symm
  ·exact off_all h2 f hf g hg hne
theorem docs_fl {L : List Ob} {l : List Dc} (h : l.length ≤ 40) : FL (docsU L l).1 (inOrdP (docsU L l).2) := by
 obtain ⟨h1, h2⟩ := docs_all (L := L) (l := l)
 have hr := inOrd_ris (h2.imp fun h => h.2.2)
 have hm := inOrd_perm (docsU L l).2
 refine ⟨fun f hf => h1 f (hm.mem_iff.1 hf), hr.imp_of_mem fun {f g} hf hg hl => ⟨hl, ?_⟩, ?_⟩
 ·exact (off_all h2 f (hm.mem_iff.1 hf) g (hm.mem_iff.1 hg) (less_ne hl)).2.1
 ·rw [inOrd_len]
  have := docs_len (l := l) (s := (L, []))
  unfold docsU
  simp at this; omega
theorem FL.ris {M : List Ob} {l : List Fi} (h : FL M l) : Ris (·.path) l := h.apt.imp fun h => h.1
theorem apt_zero {l : List Fi} (h1 : ∀ f ∈ l, (splitP f.path).2 = 0 ∧ f.mode = 1) (h2 : l.Pairwise Apt) (h3 : l.length ≤ 60) : filesF l = 0 := by
 unfold filesF
 rw [if_neg (by omega)]
 exact check_of (fun g hg => by cases hg) h2 fun f hf => ⟨(h1 f hf).1, .inl (h1 f hf).2⟩
theorem FL.zero {M : List Ob} {l : List Fi} (h : FL M l) : filesF l = 0 := apt_zero (fun f hf => ⟨(h.all f hf).path, (h.all f hf).mode⟩) h.apt (by have := h.len; omega)
theorem docStep_len {s : List Ob × List Fi} {d : Dc} : (docStep s d).1.length ≤ s.1.length + 1 := by
 unfold docStep
 split
 ·omega
 split
 ·omega
 split
 ·omega
 dsimp only
 unfold putP
 split
 ·simp
 split
 ·simp
 split
 ·simp
 split
 ·simp
 ·simp
theorem docs_pool : ∀ {l : List Dc} {s : List Ob × List Fi}, (l.foldl docStep s).1.length ≤ s.1.length + l.length
 | [], s => by simp
 | d :: l, s => by
  have h1 := docs_pool (l := l) (s := docStep s d)
  have h2 := docStep_len (s := s) (d := d)
  simp only [List.foldl_cons, List.length_cons]; omega
theorem FL.at_or {M : List Ob} {l : List Fi} (h : FL M l) (q : List UInt8) : (atP l q = fi0 ∧ ∀ f ∈ l, f.path ≠ q) ∨ (DocF M (atP l q) ∧ (atP l q).path = q ∧ atP l q ∈ l) := by
 rcases atP_or l q with h1 | ⟨h1, h2⟩
 ·exact .inl h1
 ·exact .inr ⟨h.all _ h1, h2, h1⟩
def OnF (M : List Ob) (q : List UInt8) (f : Fi) : Prop := f = fi0 ∨ (DocF M f ∧ f.path = q)
theorem FL.on {M : List Ob} {l : List Fi} (h : FL M l) (q : List UInt8) : OnF M q (atP l q) := (h.at_or q).imp (fun h => h.1) fun h => ⟨h.1, h.2.1⟩
theorem OnF.mono {L M : List Ob} {q : List UInt8} {f : Fi} (h : OnF L q f) (hx : L <+: M) : OnF M q f := h.imp id fun h => ⟨h.1.mono hx, h.2⟩
theorem OnF.bytes {L M : List Ob} {q : List UInt8} {f : Fi} (h : OnF L q f) (hx : L <+: M) : byP M f = byP L f := by
 rcases h with rfl | ⟨h, _⟩
 ·rfl
 ·unfold byP
  rw [ext_get hx (by rw [h.kind]; decide)]
theorem OnF.mode {L : List Ob} {q : List UInt8} {f : Fi} (h : OnF L q f) : (f = fi0 ∧ f.mode = 0) ∨ (f.mode = 1 ∧ f.path = q ∧ (splitP q).2 = 0) := by
 rcases h with rfl | ⟨h, e⟩
 ·exact .inl ⟨rfl, rfl⟩
 ·exact .inr ⟨h.mode, e, e ▸ h.path⟩
theorem mixT_mono {L M : List Ob} {q : List UInt8} {f g h : Fi} (hf : OnF L q f) (hg : OnF L q g) (hh : OnF L q h) (hx : L <+: M) : mixT M f g h = mixT L f g h := by
 unfold mixT
 rw [hf.bytes hx, hg.bytes hx, hh.bytes hx]
theorem mixT_len {L : List Ob} {f g h : Fi} {b : List UInt8} (e : mixT L f g h = some b) : b.length ≤ 400 ∧ g.mode = 1 ∧ h.mode = 1 := by
 unfold mixT at e
 split at e
 ·cases e
 ·rename_i h1
  obtain ⟨l, _, h2⟩ := Option.bind_eq_some_iff.1 e
  split at h2
  ·cases h2
  ·cases h2
   refine ⟨by omega, ?_, ?_⟩
   ·exact Classical.byContradiction fun h => h1 (.inl h)
   ·exact Classical.byContradiction fun h => h1 (.inr (.inl h))
theorem put_blob {L : List Ob} {b : List UInt8} (hb : b.length ≤ 400) (hl : L.length < 600) : (putP L (obM b)).2.1 = 0 := by
 have h1 : objF (obM b) = 0 := by
  unfold objF obM
  simp [treeC, entsF]
  omega
 unfold putP
 rw [if_neg (by rw [h1]; decide), if_neg (by simp [leadsP, obM])]
 split
 ·rfl
 ·rw [if_neg (by omega)]
theorem put_one {L : List Ob} (o : Ob) : (putP L o).2.2.length ≤ L.length + 1 := by
 unfold putP
 split
 ·simp
 split
 ·simp
 split
 ·simp
 split
 ·simp
 ·simp
end Go.Nest
end
/- part -/
section

namespace Go.Nest
open Go Go.AM
def keep (f : Fi) : Option Fi := if 0 < f.mode then some f else none
def cfT (M : List Ob) (f g h : Fi) : Bool := if g = h ∨ h = f then false else if g = f then false else (mixT M f g h).isNone
def resB (M : List Ob) (base x y : List Fi) (q : List UInt8) : Option Fi := keep (pkF M (atP base q) (atP x q) (atP y q) q)
def cfB (M : List Ob) (base x y : List Fi) (q : List UInt8) : Bool := cfT M (atP base q) (atP x q) (atP y q)
theorem pk_one {L : List Ob} (hL : PoolOk L) (hl : L.length < 600) {q : List UInt8} {f g h : Fi} (hf : OnF L q f) (hg : OnF L q g) (hh : OnF L q h) :
  PoolOk (pkL L f g h) ∧ L <+: pkL L f g h ∧ (pkL L f g h).length ≤ L.length + 1 ∧ pkC L 0 f g h = 0 ∧
   ∀ M, PoolOk M → pkL L f g h <+: M → pkF L f g h q = pkF M f g h q ∧ (∀ cf, pkX L cf f g h q = if cfT M f g h = true then cf ++ [q] else cf) ∧ OnF M q (pkF M f g h q) := by
 unfold pkF pkL pkC pkX cfT
 by_cases c1 : g = h ∨ h = f
 ·simp only [if_pos c1]
  exact ⟨hL, List.prefix_refl _, by omega, trivial, fun M _ hM => ⟨trivial, fun cf => by simp, hg.mono hM⟩⟩
 simp only [if_neg c1]
 by_cases c2 : g = f
 ·simp only [if_pos c2]
  exact ⟨hL, List.prefix_refl _, by omega, trivial, fun M _ hM => ⟨trivial, fun cf => by simp, hh.mono hM⟩⟩
 simp only [if_neg c2]
 cases e : mixT L f g h with
 | none =>
  have k := fun c => mix_no (p := q) (code := c) e
  refine ⟨by rw [(k 0).2.1]; exact hL, by rw [(k 0).2.1]; exact List.prefix_refl _, by rw [(k 0).2.1]; omega, (k 0).2.2, fun M hM hx => ?_⟩
  rw [(k 0).2.1] at hx
  have e2 : mixT M f g h = none := (mixT_mono hf hg hh hx).trans e
  have k2 := mix_no (p := q) (code := 0) e2
  rw [(k 0).1, k2.1, e2]
  refine ⟨rfl, fun cf => rfl, ?_⟩
  show OnF M q (if g.mode = 0 then h else g)
  split
  ·exact hh.mono hx
  ·exact hg.mono hx
 | some b =>
  obtain ⟨hb, g1, -⟩ := mixT_len e
  have hp := put_blob hb hl
  obtain ⟨k1, k2, k3⟩ := mix_yes (p := q) (code := 0) e
  rw [k2, k3]
  refine ⟨putP_ok hL _, put_ext _, put_one _, by rw [if_neg (fun h => h.1 hp)], fun M hM hx => ?_⟩
  have hLM : L <+: M := (put_ext _).trans hx
  have e2 : mixT M f g h = some b := (mixT_mono hf hg hh hLM).trans e
  obtain ⟨m1, m2⟩ := put_more (o := obM b) (show (1 : Int) ≠ 0 by decide) hp hM hx
  have k4 := (mix_yes (p := q) (code := 0) e2).1
  rw [m1] at k4
  rw [k1, k4, e2]
  refine ⟨rfl, fun cf => rfl, .inr ⟨⟨?_, rfl, ?_⟩, rfl⟩⟩
  ·rcases hg.mode with ⟨_, h0⟩ | ⟨_, _, h1⟩
   ·omega
   ·exact h1
  ·show kindOf M (putP L (obM b)).1 = 1
   rw [← getP_kind, m2]; rfl
theorem addF_keep (out : List Fi) (f : Fi) : addF out f = out ++ (keep f).toList := by
 unfold addF keep
 split
 ·rfl
 ·simp
theorem run_gen {L0 : List Ob} {base x y : List Fi} (hb : FL L0 base) (hx : FL L0 x) (hy : FL L0 y) : ∀ (qs : List (List UInt8)) (s : BS), PoolOk s.L → L0 <+: s.L → s.L.length + qs.length ≤ 600 → s.code = 0 →
  PoolOk (runB base x y s qs).L ∧ s.L <+: (runB base x y s qs).L ∧ (runB base x y s qs).L.length ≤ s.L.length + qs.length ∧ (runB base x y s qs).code = 0 ∧
   ∀ M, PoolOk M → (runB base x y s qs).L <+: M → (runB base x y s qs).out = s.out ++ qs.filterMap (resB M base x y) ∧ (runB base x y s qs).cf = s.cf ++ qs.filter (cfB M base x y) ∧ ∀ q ∈ qs, OnF M q (pkF M (atP base q) (atP x q) (atP y q) q)
 | [], s, h1, h2, h3, h4 => ⟨h1, List.prefix_refl _, by simp [runB], h4, fun M _ _ => ⟨by simp [runB], by simp [runB], fun q hq => by cases hq⟩⟩
 | q :: qs, s, h1, h2, h3, h4 => by
  rw [List.length_cons] at h3
  obtain ⟨k1, k2, k3, k4, k5⟩ := pk_one h1 (by omega) ((hb.on q).mono h2) ((hx.on q).mono h2) ((hy.on q).mono h2)
  have e : runB base x y s (q :: qs) = runB base x y (stepB base x y s q) qs := rfl
  have hc : (stepB base x y s q).code = 0 := by
   show pkC s.L s.code _ _ _ = 0
   rw [h4]; exact k4
  obtain ⟨r1, r2, r3, r4, r5⟩ := run_gen hb hx hy qs (stepB base x y s q) k1 (h2.trans k2) (by have : (stepB base x y s q).L.length ≤ s.L.length + 1 := k3; omega) hc
  rw [e]
  have k3 : (stepB base x y s q).L.length ≤ s.L.length + 1 := k3
  refine ⟨r1, k2.trans r2, by rw [List.length_cons]; omega, r4, fun M hM hxM => ?_⟩
  obtain ⟨a1, a2, a3⟩ := r5 M hM hxM
  obtain ⟨b1, b2, b3⟩ := k5 M hM (List.IsPrefix.trans r2 hxM)
  refine ⟨?_, ?_, fun p hp => ?_⟩
  ·rw [a1]
   have : (stepB base x y s q).out = s.out ++ (resB M base x y q).toList := by
    show addF s.out (pkF s.L (atP base q) (atP x q) (atP y q) q) = _
    rw [addF_keep, b1]; rfl
   rw [this, List.append_assoc]
   congr 1
   rw [List.filterMap_cons]
   cases resB M base x y q <;> rfl
  ·rw [a2]
   have : (stepB base x y s q).cf = _ := b2 s.cf
   rw [this, List.filter_cons]
   show _ = s.cf ++ if cfT M (atP base q) (atP x q) (atP y q) = true then _ else _
   split
   ·rw [List.append_assoc]; rfl
   ·rfl
  ·rcases List.mem_cons.1 hp with rfl | hp
   ·exact b3
   ·exact a3 p hp
theorem paths3 {base x y : List Fi} : Ris id (pathsP [base, x, y]) ∧ ∀ q, q ∈ pathsP [base, x, y] ↔ (∃ f ∈ base, f.path = q) ∨ (∃ f ∈ x, f.path = q) ∨ ∃ f ∈ y, f.path = q := by
 obtain ⟨h1, h2⟩ := dd_spec (inOrd_wk ([base, x, y].flatten))
 refine ⟨h1, fun q => (h2 q).trans ?_⟩
 constructor
 ·rintro ⟨f, hf, e⟩
  have := (inOrd_perm _).mem_iff.1 hf
  simp at this
  exact this.imp (fun h => ⟨f, h, e⟩) fun h => h.imp (fun h => ⟨f, h, e⟩) (fun h => ⟨f, h, e⟩)
 ·rintro (⟨f, hf, e⟩ | ⟨f, hf, e⟩ | ⟨f, hf, e⟩)
  ·exact ⟨f, (inOrd_perm _).mem_iff.2 (by simp [hf]), e⟩
  ·exact ⟨f, (inOrd_perm _).mem_iff.2 (by simp [hf]), e⟩
  ·exact ⟨f, (inOrd_perm _).mem_iff.2 (by simp [hf]), e⟩
theorem paths3_len {M : List Ob} {base x y : List Fi} (hb : FL M base) (hx : FL M x) (hy : FL M y) : (pathsP [base, x, y]).length ≤ 120 := by
 have h := paths_len [base, x, y]
 simp only [List.flatten_cons, List.flatten_nil, List.length_append, List.length_nil] at h
 have := hb.len; have := hx.len; have := hy.len
 omega
theorem ris_map {qs : List (List UInt8)} (hr : Ris id qs) {r : List UInt8 → Option Fi} (h : ∀ q ∈ qs, ∀ f, r q = some f → f.path = q) : Ris (·.path) (qs.filterMap r) := by
 unfold Ris
 rw [List.pairwise_filterMap]
 refine hr.imp_of_mem fun {a b} ha hb hl f hf g hg => ?_
 show lessP f.path g.path = true
 rw [h a ha f hf, h b hb g hg]; exact hl
theorem blend_of {L : List Ob} {base x y : List Fi} (hb : FL L base) (hx : FL L x) (hy : FL L y) (hL : PoolOk L) (hn : L.length ≤ 480) :
  blendB L base x y = (if filesF (runB base x y ⟨L, [], [], 0⟩ (pathsP [base, x, y])).out ≠ 0 then ⟨(runB base x y ⟨L, [], [], 0⟩ (pathsP [base, x, y])).L, [], [], filesF (runB base x y ⟨L, [], [], 0⟩ (pathsP [base, x, y])).out⟩
   else ⟨(runB base x y ⟨L, [], [], 0⟩ (pathsP [base, x, y])).L, (runB base x y ⟨L, [], [], 0⟩ (pathsP [base, x, y])).out, (runB base x y ⟨L, [], [], 0⟩ (pathsP [base, x, y])).cf, 0⟩) := by
 have hl := paths3_len hb hx hy
 obtain ⟨-, -, -, h4, -⟩ := run_gen hb hx hy (pathsP [base, x, y]) ⟨L, [], [], 0⟩ hL (List.prefix_refl _) (by show L.length + _ ≤ 600; omega) rfl
 have h0 : firstC [base, x, y] = 0 := by
  unfold firstC; rw [if_neg (fun h => h hb.zero)]
  unfold firstC; rw [if_neg (fun h => h hx.zero)]
  unfold firstC; rw [if_neg (fun h => h hy.zero)]
  rfl
 unfold blendB
 rw [if_neg (fun h => h h0)]
 dsimp only
 rw [if_pos h4]
end Go.Nest
end
