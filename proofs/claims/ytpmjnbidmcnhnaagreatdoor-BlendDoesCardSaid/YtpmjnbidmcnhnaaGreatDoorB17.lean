/- part -/
import Derived.Test.YtpmjnbidmcnhnaaGreatDoorB6
import Derived.Test.YtpmjnbidmcnhnaaGreatDoorR5
import Derived.Test.YtpmjnbidmcnhnaaGreatDoorW11
import Derived.Test.YtpmjnbidmcnhnaaGreatDoorP8
set_option linter.unusedVariables false
set_option linter.unusedSimpArgs false
section

namespace Go.Nest
open Go Go.AM Go.Proofs
open Go.Proofs.YtpmjnbidmcnhnaaGreatDoor (tab tabOk)
set_option maxRecDepth 4000
def pkF (L : List Ob) (base x y : Fi) (p : List UInt8) : Fi := if x = y ∨ y = base then x else if x = base then y else if (mixF L base x y p).2 = true then (mixF L base x y p).1 else if x.mode = 0 then y else x
def pkL (L : List Ob) (base x y : Fi) : List Ob := if x = y ∨ y = base then L else if x = base then L else mixL L base x y
def pkC (L : List Ob) (code : Int) (base x y : Fi) : Int := if x = y ∨ y = base then code else if x = base then code else mixC L code base x y
def pkX (L : List Ob) (cf : List (List UInt8)) (base x y : Fi) (p : List UInt8) : List (List UInt8) := if x = y ∨ y = base then cf else if x = base then cf else if (mixF L base x y p).2 = true then cf else cf ++ [p]
def addF (out : List Fi) (f : Fi) : List Fi := if 0 < f.mode then out ++ [f] else out
theorem path_bspec (L : List Ob) (hL : PoolOk L) (hn : L.length ≤ 600) (out : List Fi) (ho : out.length ≤ 1000) (cf : List (List UInt8)) (hc : cf.length ≤ 1000) (code : Int) (base x y : Fi) (p : List UInt8) (hp : p.length ≤ 4000000) :
  Does Tryz.prog 80 [.c (.ptr 0 0), .c (.str p), .st (encFi base), .st (encFi x), .st (encFi y)] [.box [.ptr 1 0, .rw 3, .rw 4, .int .i64 code], .box [.rw 2], .row 6 Ob encOb L, .row 4 Fi encFi out, .row 1 (List UInt8) encS cf] (Rt (.tup []) [.box [.ptr 1 0, .rw 6, .rw 7, .int .i64 (pkC L code base x y)], .box [.rw 5], .dead, .dead, .dead, .row 6 Ob encOb (pkL L base x y), .row 4 Fi encFi (addF out (pkF L base x y p)), .row 1 (List UInt8) encS (pkX L cf base x y p)]) := by
 have q1 := mixed_spec L hL hn out cf code base x y p hp
 unfold pkF pkL pkX pkC
 refine X_spec (n := 66) (n0 := 5) tabOk Tryz.call80 Tryz.func80 ?_
 intro hb
 (conv => whnf)
 refine dec (fun h1 => ?_) (fun h1 => ?_)
 ·have c1 : x = y ∨ y = base := .inl (eqFi.1 h1)
  rw [if_pos c1, if_pos c1, if_pos c1, if_pos c1]
  (conv => whnf)
  unfold addF
  refine dec (fun h2 => ?_) (fun h2 => ?_)
  ·rw [if_pos h2]
   (conv => whnf)
   refine ⟨false, .grow, (.l [0, 1, 2, 3, 4, 5, 6, 7, 8, 9, 10]), by kernel_rfl, .inl ?_⟩
   (conv => whnf)
   refine ⟨[x], rfl, ?_⟩
   (conv => whnf)
   refine ⟨_, _, rfl, rfl, (by simp only [List.length_append, List.length_cons, List.length_nil]; omega), ?_⟩
   (conv => whnf)
   exact rx [] [.same 0, .same 1, .same 2, .same 3, .same 4, .same 2, .same 10, .same 4]
  ·rw [if_neg h2]
   (conv => whnf)
   exact rx [] [.same 0, .same 1, .same 2, .same 3, .same 4, .same 2, .same 3, .same 4]
 (conv => whnf)
 refine dec (fun h3 => ?_) (fun h3 => ?_)
 ·have c1 : x = y ∨ y = base := .inr (eqFi.1 h3)
  rw [if_pos c1, if_pos c1, if_pos c1, if_pos c1]
  (conv => whnf)
  unfold addF
  refine dec (fun h2 => ?_) (fun h2 => ?_)
  ·rw [if_pos h2]
   (conv => whnf)
   refine ⟨false, .grow, (.l [0, 1, 2, 3, 4, 5, 6, 7, 8, 9, 10]), by kernel_rfl, .inl ?_⟩
   (conv => whnf)
   refine ⟨[x], rfl, ?_⟩
   (conv => whnf)
   refine ⟨_, _, rfl, rfl, (by simp only [List.length_append, List.length_cons, List.length_nil]; omega), ?_⟩
   (conv => whnf)
   exact rx [] [.same 0, .same 1, .same 2, .same 3, .same 4, .same 2, .same 10, .same 4]
  ·rw [if_neg h2]
   (conv => whnf)
   exact rx [] [.same 0, .same 1, .same 2, .same 3, .same 4, .same 2, .same 3, .same 4]
 have c1 : ¬ (x = y ∨ y = base) := fun h => h.elim (fun h => h1 (eqFi.2 h)) (fun h => h3 (eqFi.2 h))
 rw [if_neg c1, if_neg c1, if_neg c1, if_neg c1]
 (conv => whnf)
 refine dec (fun h4 => ?_) (fun h4 => ?_)
 ·have c2 : x = base := eqFi.1 h4
  rw [if_pos c2, if_pos c2, if_pos c2, if_pos c2]
  (conv => whnf)
  unfold addF
  refine dec (fun h2 => ?_) (fun h2 => ?_)
  ·rw [if_pos h2]
   (conv => whnf)
   refine ⟨false, .grow, (.l [0, 1, 2, 3, 4, 5, 6, 7, 8, 9, 10]), by kernel_rfl, .inl ?_⟩
   (conv => whnf)
   refine ⟨[y], rfl, ?_⟩
   (conv => whnf)
   refine ⟨_, _, rfl, rfl, (by simp only [List.length_append, List.length_cons, List.length_nil]; omega), ?_⟩
   (conv => whnf)
   exact rx [] [.same 0, .same 1, .same 2, .same 3, .same 4, .same 2, .same 10, .same 4]
  ·rw [if_neg h2]
   (conv => whnf)
   exact rx [] [.same 0, .same 1, .same 2, .same 3, .same 4, .same 2, .same 3, .same 4]
 have c2 : ¬ x = base := fun h => h4 (eqFi.2 h)
 rw [if_neg c2, if_neg c2, if_neg c2, if_neg c2]
 generalize mixF L base x y p = R at *
 generalize mixL L base x y = L2 at *
 generalize mixC L code base x y = code2 at *
 obtain ⟨f, ok⟩ := R
 dsimp only at q1 ⊢
 (conv => whnf)
 refine cl [] [0, 1, 2, 3, 4] (q1) ?_
 (conv => whnf)
 refine boo (fun h5 => ?_) (fun h5 => ?_)
 ·subst h5
  rw [if_pos rfl, if_pos rfl]
  (conv => whnf)
  unfold addF
  refine dec (fun h2 => ?_) (fun h2 => ?_)
  ·rw [if_pos h2]
   (conv => whnf)
   refine ⟨false, .grow, (.l [0, 1, 2, 3, 4, 5, 6, 7, 8, 9, 10]), by kernel_rfl, .inl ?_⟩
   (conv => whnf)
   refine ⟨[f], rfl, ?_⟩
   (conv => whnf)
   refine ⟨_, _, rfl, rfl, (by simp only [List.length_append, List.length_cons, List.length_nil]; omega), ?_⟩
   (conv => whnf)
   exact rx [] [.same 0, .same 1, .same 2, .same 3, .same 4, .same 9, .same 14, .same 11]
  ·rw [if_neg h2]
   (conv => whnf)
   exact rx [] [.same 0, .same 1, .same 2, .same 3, .same 4, .same 9, .same 10, .same 11]
 ·subst h5
  rw [if_neg Bool.false_ne_true, if_neg Bool.false_ne_true]
  (conv => whnf)
  refine ⟨[p], rfl, ?_⟩
  (conv => whnf)
  refine ⟨_, _, rfl, rfl, (by simp only [List.length_append, List.length_cons, List.length_nil]; omega), ?_⟩
  (conv => whnf)
  refine dec (fun h6 => ?_) (fun h6 => ?_)
  ·rw [if_pos h6]
   (conv => whnf)
   unfold addF
   refine dec (fun h2 => ?_) (fun h2 => ?_)
   ·rw [if_pos h2]
    (conv => whnf)
    refine ⟨false, .grow, (.l [0, 1, 2, 3, 4, 5, 6, 7, 8, 9, 10]), by kernel_rfl, .inl ?_⟩
    (conv => whnf)
    refine ⟨[y], rfl, ?_⟩
    (conv => whnf)
    refine ⟨_, _, rfl, rfl, (by simp only [List.length_append, List.length_cons, List.length_nil]; omega), ?_⟩
    (conv => whnf)
    exact rx [] [.same 0, .same 1, .same 2, .same 3, .same 4, .same 9, .same 16, .same 14]
   ·rw [if_neg h2]
    (conv => whnf)
    exact rx [] [.same 0, .same 1, .same 2, .same 3, .same 4, .same 9, .same 10, .same 14]
  ·rw [if_neg h6]
   (conv => whnf)
   unfold addF
   refine dec (fun h2 => ?_) (fun h2 => ?_)
   ·rw [if_pos h2]
    (conv => whnf)
    refine ⟨false, .grow, (.l [0, 1, 2, 3, 4, 5, 6, 7, 8, 9, 10]), by kernel_rfl, .inl ?_⟩
    (conv => whnf)
    refine ⟨[x], rfl, ?_⟩
    (conv => whnf)
    refine ⟨_, _, rfl, rfl, (by simp only [List.length_append, List.length_cons, List.length_nil]; omega), ?_⟩
    (conv => whnf)
    exact rx [] [.same 0, .same 1, .same 2, .same 3, .same 4, .same 9, .same 16, .same 14]
   ·rw [if_neg h2]
    (conv => whnf)
    exact rx [] [.same 0, .same 1, .same 2, .same 3, .same 4, .same 9, .same 10, .same 14]
end Go.Nest
end
/- part -/
section

namespace Go.Nest
open Go Go.AM Go.Proofs
open Go.Proofs.YtpmjnbidmcnhnaaGreatDoor (tab tabOk)
set_option maxRecDepth 4000
theorem putP_le {L : List Ob} {o : Ob} (h : L.length ≤ 600) : (putP L o).2.2.length ≤ 600 := by
 unfold putP
 split
 ·exact h
 split
 ·exact h
 split
 ·exact h
 split
 ·exact h
 ·simp only [List.length_append, List.length_singleton]; omega
theorem mixL_ok {L : List Ob} (hL : PoolOk L) (hn : L.length ≤ 600) (base x y : Fi) : PoolOk (mixL L base x y) ∧ (mixL L base x y).length ≤ 600 := by
 unfold mixL
 split
 ·exact ⟨hL, hn⟩
 ·exact ⟨putP_ok hL _, putP_le hn⟩
structure BS where
 L : List Ob
 out : List Fi
 cf : List (List UInt8)
 code : Int
def stepB (base x y : List Fi) (s : BS) (q : List UInt8) : BS :=
 let f := (fileAtP base q).1
 let g := (fileAtP x q).1
 let h := (fileAtP y q).1
 ⟨pkL s.L f g h, addF s.out (pkF s.L f g h q), pkX s.L s.cf f g h q, pkC s.L s.code f g h⟩
structure BOk (s : BS) (n : Nat) : Prop where
 L : PoolOk s.L
 sz : s.L.length ≤ 600
 out : s.out.length ≤ n
 cf : s.cf.length ≤ n
theorem stepB_ok {base x y : List Fi} {s : BS} {n : Nat} (h : BOk s n) (q : List UInt8) : BOk (stepB base x y s q) (n + 1) := by
 have h1 : ∀ f g k, PoolOk (pkL s.L f g k) ∧ (pkL s.L f g k).length ≤ 600 := fun f g k => by
  unfold pkL
  split
  ·exact ⟨h.L, h.sz⟩
  split
  ·exact ⟨h.L, h.sz⟩
  exact mixL_ok h.L h.sz _ _ _
 have h2 : ∀ f, (addF s.out f).length ≤ n + 1 := fun f => by
  have := h.out
  unfold addF
  split
  ·simp only [List.length_append, List.length_singleton]; omega
  ·omega
 have h3 : ∀ f g k q, (pkX s.L s.cf f g k q).length ≤ n + 1 := fun f g k q => by
  have := h.cf
  unfold pkX
  split
  ·omega
  split
  ·omega
  split
  ·omega
  ·simp only [List.length_append, List.length_singleton]; omega
 exact ⟨(h1 _ _ _).1, (h1 _ _ _).2, h2 _, h3 _ _ _ _⟩
def runB (base x y : List Fi) (s : BS) (qs : List (List UInt8)) : BS := qs.foldl (stepB base x y) s
theorem runB_ok {base x y : List Fi} : ∀ (qs : List (List UInt8)) {s : BS} {n : Nat}, BOk s n → BOk (runB base x y s qs) (n + qs.length)
 | [], s, n, h => h
 | q :: qs, s, n, h => by
  have := runB_ok (base := base) (x := x) (y := y) qs (stepB_ok (base := base) (x := x) (y := y) h q)
  rw [List.length_cons, show n + (qs.length + 1) = n + 1 + qs.length by omega]
  exact this
theorem runB_take {base x y : List Fi} {s : BS} {qs : List (List UInt8)} {i : Nat} (h : i < qs.length) : runB base x y s (qs.take (i + 1)) = stepB base x y (runB base x y s (qs.take i)) qs[i] := by
 unfold runB
 rw [List.take_succ_eq_append_getElem h, List.foldl_append]; rfl
def firstC : List (List Fi) → Int
 | [] => 0
 | l :: r => if filesF l ≠ 0 then filesF l else firstC r
def blendB (L : List Ob) (base x y : List Fi) : BS :=
 if firstC [base, x, y] ≠ 0 then ⟨L, [], [], firstC [base, x, y]⟩
 else
  let s := runB base x y ⟨L, [], [], 0⟩ (pathsP [base, x, y])
  let c := if s.code = 0 then filesF s.out else s.code
  if c ≠ 0 then ⟨s.L, [], [], c⟩ else ⟨s.L, s.out, s.cf, 0⟩
end Go.Nest
end
/- part -/
section

namespace Go.Nest
open Go Go.AM Go.Proofs
open Go.Proofs.YtpmjnbidmcnhnaaGreatDoor (tab tabOk)
set_option maxRecDepth 4000
theorem ddT_sub : ∀ (l : List (List UInt8)) (p : Option (List UInt8)), (ddT p l).Sublist l
 | [], p => .slnil
 | x :: l, p => by
  rw [ddT]
  split
  ·exact (ddT_sub l _).cons _
  ·exact (ddT_sub l _).cons_cons _
theorem paths_len (ls : List (List Fi)) : (pathsP ls).length ≤ ls.flatten.length := by
 rw [← union_paths]
 refine Nat.le_trans (ddT_sub _ _).length_le ?_
 unfold srtT
 rw [List.length_mergeSort, List.length_map]
 exact Nat.le_refl _
theorem paths_mem {ls : List (List Fi)} {q : List UInt8} (h : q ∈ pathsP ls) : ∃ l ∈ ls, ∃ f ∈ l, f.path = q := by
 rw [← union_paths] at h
 have h := (ddT_sub _ _).mem h
 unfold srtT at h
 rw [(List.mergeSort_perm _ _).mem_iff] at h
 obtain ⟨f, hf, rfl⟩ := List.mem_map.1 h
 obtain ⟨l, h1, h2⟩ := List.mem_flatten.1 hf
 exact ⟨l, h1, f, h2, rfl⟩
theorem at_len {l : List Fi} {p : List UInt8} (h : ∀ f ∈ l, f.path.length ≤ 4000000) : (fileAtP l p).1.path.length ≤ 4000000 := by
 rcases atP_or l p with ⟨e, _⟩ | ⟨e, _⟩
 ·rw [show (fileAtP l p).1 = fi0 from e]; exact Nat.zero_le _
 ·exact h _ e
theorem mixF_len {L : List Ob} {b x y : Fi} {q : List UInt8} (hq : q.length ≤ 4000000) : (mixF L b x y q).1.path.length ≤ 4000000 := by
 unfold mixF
 split
 ·exact Nat.zero_le _
 ·exact hq
theorem pkF_len {L : List Ob} {b x y : Fi} {q : List UInt8} (hx : x.path.length ≤ 4000000) (hy : y.path.length ≤ 4000000) (hq : q.length ≤ 4000000) : (pkF L b x y q).path.length ≤ 4000000 := by
 unfold pkF
 repeat' split
 all_goals first | exact hx | exact hy | exact mixF_len hq
theorem runB_paths {base x y : List Fi} (hx : ∀ f ∈ x, f.path.length ≤ 4000000) (hy : ∀ f ∈ y, f.path.length ≤ 4000000) : ∀ (qs : List (List UInt8)) (s : BS), (∀ q ∈ qs, q.length ≤ 4000000) → (∀ f ∈ s.out, f.path.length ≤ 4000000) → ∀ f ∈ (runB base x y s qs).out, f.path.length ≤ 4000000
 | [], s, _, h => h
 | q :: qs, s, hq, h => runB_paths hx hy qs (stepB base x y s q) (fun r hr => hq r (by simp [hr])) (fun f hf => by
  have hf : f ∈ addF s.out (pkF s.L (fileAtP base q).1 (fileAtP x q).1 (fileAtP y q).1 q) := hf
  unfold addF at hf
  split at hf
  ·rcases List.mem_append.1 hf with hf | hf
   ·exact h f hf
   ·rw [List.mem_singleton] at hf
    rw [hf]
    exact pkF_len (at_len hx) (at_len hy) (hq q (by simp))
  ·exact h f hf)
set_option maxHeartbeats 2000000 in
theorem blendMerge_spec (L : List Ob) (hL : PoolOk L) (hn : L.length ≤ 600) (base x y : List Fi) (hp : ∀ l ∈ [base, x, y], ∀ f ∈ l, f.path.length ≤ 4000000) :
  Does Tryz.prog 35 [.c (.ptr 0 0), .c (.ls 4 Fi encFi base), .c (.ls 4 Fi encFi x), .c (.ls 4 Fi encFi y)] [.box [.rw 1], .row 6 Ob encOb L] (Rt (.tup [(false, [.rw 3]), (false, [.rw 4]), (false, [.int .i64 (blendB L base x y).code])]) [.box [.rw 2], .dead, .row 6 Ob encOb (blendB L base x y).L, .row 4 Fi encFi (blendB L base x y).out, .row 1 (List UInt8) encS (blendB L base x y).cf]) := by
 have c1 := flatCheck_spec base (hp _ (by simp))
 have c2 := flatCheck_spec x (hp _ (by simp))
 have c3 := flatCheck_spec y (hp _ (by simp))
 refine X_spec (n := 106) (n0 := 2) tabOk Tryz.call35 Tryz.func35 ?_
 intro hb
 (conv => whnf)
 refine ⟨[base, x, y], rfl, ?_⟩
 (conv => whnf)
 refine lp Nat (fun i => ⟨[(0, .c (.ptr 0 0)), (1, .c (.ls 4 Fi encFi base)), (2, .c (.ls 4 Fi encFi x)), (3, .c (.ls 4 Fi encFi y)), (26, .c (.rw 2)), (27, .c (.int .i64 3)), (28, .c (.int .i64 i))], [.box [.rw 1], .row 6 Ob encOb L, .row 1 (List Fi) (encL 4 encFi) [base, x, y]]⟩) (fun i => i ≤ 3 ∧ firstC [base, x, y] = firstC ([base, x, y].drop i)) (fun i => 3 - i) 0 [] [.same 0, .same 1, .same 2] ⟨Nat.zero_le _, rfl⟩ ?_ (fun i hi => ?_)
 ·repeat' first | exact trivial | exact rfl | refine And.intro ?_ ?_
 obtain ⟨hi, hat⟩ := hi
 (conv => whnf)
 refine dec (fun h4 => ?_) (fun h4 => ?_)
 ·have hlt : i < [base, x, y].length := by show i < 3; omega
  have hiy : [base, x, y][i]? = some [base, x, y][i] := List.getElem?_eq_getElem hlt
  have hd := List.drop_eq_getElem_cons hlt
  have hpi := hp [base, x, y][i] (List.getElem_mem hlt)
  generalize [base, x, y][i] = l at hiy hd hpi
  rw [hd] at hat
  have hat : firstC [base, x, y] = if filesF l ≠ 0 then filesF l else firstC ([base, x, y].drop (i + 1)) := hat
  (conv => whnf)
  refine ⟨i, ⟨rfl, hlt⟩, ?_⟩
  (conv => whnf)
  refine ⟨l, hiy, ?_⟩
  (conv => whnf)
  refine cl [] [] (flatCheck_spec l hpi) ?_
  (conv => whnf)
  refine decN (fun h5 => ?_) (fun h5 => ?_)
  ·rw [if_pos h5] at hat
   have e : blendB L base x y = ⟨L, [], [], filesF l⟩ := by unfold blendB; rw [hat, if_pos h5]
   rw [e]
   (conv => whnf)
   exact rx [] [.same 0, .same 1, .same 1, .new, .new]
  ·rw [if_neg (fun h => h h5)] at hat
   repeat' ((conv => whnf); first | (refine dec (fun h => ?_) (fun h => ?_) <;> try contradiction) | (refine decN (fun h => ?_) (fun h => ?_) <;> try contradiction) | refine booN (fun h => ?_) (fun h => ?_) | refine boo (fun h => ?_) (fun h => ?_) | refine ⟨i64 (by omega) (by omega), ?_⟩ | refine ⟨_, _, rfl, List.getElem?_eq_getElem (by omega), ?_⟩ | refine ⟨_, ⟨rfl, by omega⟩, ?_⟩ | refine ⟨_, List.getElem?_eq_getElem (by omega), ?_⟩ | refine rtB ?_ | refine rtI ?_ | refine rtC ?_ rfl | fail)
   refine ag (i + 1) [] [.same 0, .same 1, .same 2] ⟨hlt, hat⟩ (by simp only []; omega) ?_
   repeat' first | exact trivial | exact rfl | refine And.intro ?_ ?_
 have h3 : i = 3 := by omega
 subst h3
 have h0 : firstC [base, x, y] = 0 := hat
 have hfl : [base, x, y].flatten.length ≤ 1000 := by
  have z : ∀ l, filesF l = 0 → l.length ≤ 60 := fun l h => by
   refine Classical.byContradiction fun h2 => ?_
   unfold filesF at h
   rw [if_pos (by omega)] at h
   exact absurd h (by decide)
  have a1 : filesF base = 0 := Classical.byContradiction fun h => by
   have : firstC [base, x, y] = filesF base := if_pos h
   omega
  have e1 : firstC [base, x, y] = firstC [x, y] := if_neg (fun h => h a1)
  have a2 : filesF x = 0 := Classical.byContradiction fun h => by
   have : firstC [x, y] = filesF x := if_pos h
   omega
  have e2 : firstC [x, y] = firstC [y] := if_neg (fun h => h a2)
  have a3 : filesF y = 0 := Classical.byContradiction fun h => by
   have : firstC [y] = filesF y := if_pos h
   omega
  have z1 := z _ a1
  have z2 := z _ a2
  have z3 := z _ a3
  simp only [List.flatten_cons, List.flatten_nil, List.length_append, List.length_nil]
  omega
 have u1 := union_spec [base, x, y] hfl hp
 (conv => whnf)
 refine ⟨[base, x, y], rfl, ?_⟩
 (conv => whnf)
 refine cl [] [] (u1) ?_
 (conv => whnf)
 have hql : ∀ q ∈ pathsP [base, x, y], q.length ≤ 4000000 := fun q hq => by
  obtain ⟨l, h1, f, h2, rfl⟩ := paths_mem hq
  exact hp l h1 f h2
 have hqn : (pathsP [base, x, y]).length ≤ 1000 := Nat.le_trans (paths_len _) hfl
 have h00 : BOk ⟨L, [], [], 0⟩ 0 := ⟨hL, hn, Nat.le_refl _, Nat.le_refl _⟩
 have eB : blendB L base x y = _ := if_neg (fun h => h h0)
 rw [eB]
 generalize pathsP [base, x, y] = qs at *
 refine lp Nat (fun i => ⟨[(1, .c (.ls 4 Fi encFi base)), (2, .c (.ls 4 Fi encFi x)), (3, .c (.ls 4 Fi encFi y)), (14, .c (.ptr 2 0)), (45, .c (.rw 3)), (46, .c (.int .i64 qs.length)), (47, .c (.int .i64 i))],
  [.box [.rw 6], .dead, .box [.ptr 0 0, .rw 4, .rw 5, .int .i64 (runB base x y ⟨L, [], [], 0⟩ (qs.take i)).code], .row 1 (List UInt8) encS qs, .row 4 Fi encFi (runB base x y ⟨L, [], [], 0⟩ (qs.take i)).out, .row 1 (List UInt8) encS (runB base x y ⟨L, [], [], 0⟩ (qs.take i)).cf, .row 6 Ob encOb (runB base x y ⟨L, [], [], 0⟩ (qs.take i)).L]⟩) (fun i => i ≤ qs.length ∧ True) (fun i => qs.length - i) 0 [] [.same 0, .same 1, .same 3, .same 5, .new, .new, .same 1] ⟨Nat.zero_le _, trivial⟩ ?_ (fun i hi => ?_)
 ·repeat' first | exact trivial | exact rfl | refine And.intro ?_ ?_
 obtain ⟨hi, -⟩ := hi
 (conv => whnf)
 refine dec (fun h4 => ?_) (fun h4 => ?_)
 ·have hlt : i < qs.length := by have h4 : (i : Int) < qs.length := h4; omega
  have hiy : qs[i]? = some qs[i] := List.getElem?_eq_getElem hlt
  have hq := hql _ (List.getElem_mem hlt)
  have hst := runB_take (base := base) (x := x) (y := y) (s := ⟨L, [], [], 0⟩) hlt
  have hok := runB_ok (base := base) (x := x) (y := y) (qs.take i) h00
  rw [List.length_take, Nat.min_eq_left (by omega)] at hok
  generalize qs[i] = q at hiy hq hst
  generalize runB base x y ⟨L, [], [], 0⟩ (qs.take i) = s at hst hok ⊢
  obtain ⟨sL, so, sc, sk⟩ := s
  (conv => whnf)
  refine ⟨i, ⟨rfl, hlt⟩, ?_⟩
  (conv => whnf)
  refine ⟨q, hiy, ?_⟩
  (conv => whnf)
  refine cl [] [] (find_spec base q) ?_
  (conv => whnf)
  refine cl [] [] (find_spec x q) ?_
  (conv => whnf)
  refine cl [] [] (find_spec y q) ?_
  (conv => whnf)
  have hso := hok.out
  have hsc := hok.cf
  refine cl [] [2, 0, 6, 4, 5] (path_bspec sL hok.L hok.sz so (by simp only [] at hso; omega) sc (by simp only [] at hsc; omega) sk (fileAtP base q).1 (fileAtP x q).1 (fileAtP y q).1 q hq) ?_
  repeat' ((conv => whnf); first | (refine dec (fun h => ?_) (fun h => ?_) <;> try contradiction) | (refine decN (fun h => ?_) (fun h => ?_) <;> try contradiction) | refine booN (fun h => ?_) (fun h => ?_) | refine boo (fun h => ?_) (fun h => ?_) | refine ⟨i64 (by omega) (by omega), ?_⟩ | refine ⟨_, _, rfl, List.getElem?_eq_getElem (by omega), ?_⟩ | refine ⟨_, ⟨rfl, by omega⟩, ?_⟩ | refine ⟨_, List.getElem?_eq_getElem (by omega), ?_⟩ | refine rtB ?_ | refine rtI ?_ | refine rtC ?_ rfl | fail)
  refine ag (i + 1) [] [.same 0, .same 1, .same 2, .same 3, .same 11, .same 12, .same 10] ⟨hlt, trivial⟩ (by simp only []; omega) ?_
  rw [hst]
  unfold stepB
  dsimp only
  repeat' first | exact trivial | exact rfl | refine And.intro ?_ ?_
 obtain rfl : i = qs.length := by have h4 : ¬ (i : Int) < qs.length := h4; omega
 rw [List.take_length]
 have hso4 := runB_paths (base := base) (hp x (by simp)) (hp y (by simp)) qs ⟨L, [], [], 0⟩ hql (fun f hf => by cases hf)
 generalize runB base x y ⟨L, [], [], 0⟩ qs = s at *
 obtain ⟨sL, so, sc, sk⟩ := s
 have hso4 : ∀ f ∈ so, f.path.length ≤ 4000000 := hso4
 dsimp only
 (conv => whnf)
 refine dec (fun h5 => ?_) (fun h5 => ?_)
 ·rw [if_pos h5]
  (conv => whnf)
  refine cl [] [] (flatCheck_spec so hso4) ?_
  (conv => whnf)
  refine decN (fun h6 => ?_) (fun h6 => ?_)
  ·rw [if_pos h6]
   (conv => whnf)
   refine ⟨false, .grow, (.l [0, 1, 2, 3, 4, 5, 6]), by kernel_rfl, .inl ?_⟩
   (conv => whnf)
   exact rx [] [.same 0, .same 1, .same 6, .new, .new]
  ·rw [if_neg (fun h => h h6)]
   (conv => whnf)
   refine ⟨false, .grow, (.l [0, 1, 2, 3, 4, 5, 6, 7, 8, 9, 10]), by kernel_rfl, .inl ?_⟩
   (conv => whnf)
   exact rx [] [.same 0, .same 1, .same 6, .same 4, .same 5]
 ·rw [if_neg h5]
  (conv => whnf)
  refine decN (fun h6 => ?_) (fun h6 => absurd h6 h5)
  rw [if_pos h6]
  (conv => whnf)
  refine ⟨false, .grow, (.l [0, 1, 2, 3, 4, 5, 6]), by kernel_rfl, .inl ?_⟩
  (conv => whnf)
  exact rx [] [.same 0, .same 1, .same 6, .new, .new]
end Go.Nest
end
/- part -/
section

namespace Go.Nest
open Go Go.AM
open Go.NB.L (linesOf go mix cut heldFrom pairs Ls at_)
structure DocF (M : List Ob) (f : Fi) : Prop where
 path : (splitP f.path).2 = 0
 mode : f.mode = 1
 kind : kindOf M f.id = 1
theorem DocF.mono {L M : List Ob} {f : Fi} (h : DocF L f) (hx : L <+: M) : DocF M f := ⟨h.path, h.mode, by rw [ext_kind hx (by rw [h.kind]; decide)]; exact h.kind⟩
def Off (f g : Fi) : Prop := under f.path g.path = none ∧ under g.path f.path = none ∧ f.path ≠ g.path
structure FL (M : List Ob) (l : List Fi) : Prop where
 all : ∀ f ∈ l, DocF M f
 apt : l.Pairwise Apt
 len : l.length ≤ 40
theorem FL.mono {L M : List Ob} {l : List Fi} (h : FL L l) (hx : L <+: M) : FL M l := ⟨fun f hf => (h.all f hf).mono hx, h.apt, h.len⟩
theorem Off.symm {f g : Fi} (h : Off f g) : Off g f := ⟨h.2.1, h.1, h.2.2.symm⟩
theorem FL.ris {M : List Ob} {l : List Fi} (h : FL M l) : Ris (·.path) l := h.apt.imp fun h => h.1
theorem apt_zero {l : List Fi} (h1 : ∀ f ∈ l, (splitP f.path).2 = 0 ∧ f.mode = 1) (h2 : l.Pairwise Apt) (h3 : l.length ≤ 60) : filesF l = 0 := by
 unfold filesF
 rw [if_neg (by omega)]
 exact check_of (fun g hg => by cases hg) h2 fun f hf => ⟨(h1 f hf).1, .inl (h1 f hf).2⟩
theorem FL.zero {M : List Ob} {l : List Fi} (h : FL M l) : filesF l = 0 := apt_zero (fun f hf => ⟨(h.all f hf).path, (h.all f hf).mode⟩) h.apt (by have := h.len; omega)
theorem FL.at_or {M : List Ob} {l : List Fi} (h : FL M l) (q : List UInt8) : (atP l q = fi0 ∧ ∀ f ∈ l, f.path ≠ q) ∨ (DocF M (atP l q) ∧ (atP l q).path = q ∧ atP l q ∈ l) := by
 rcases atP_or l q with h1 | ⟨h1, h2⟩
 ·exact .inl h1
 ·exact .inr ⟨h.all _ h1, h2, h1⟩
def OnF (M : List Ob) (q : List UInt8) (f : Fi) : Prop := f = fi0 ∨ (DocF M f ∧ f.path = q)
theorem FL.on {M : List Ob} {l : List Fi} (h : FL M l) (q : List UInt8) : OnF M q (atP l q) := (h.at_or q).imp (fun h => h.1) fun h => ⟨h.1, h.2.1⟩
theorem OnF.mono {L M : List Ob} {q : List UInt8} {f : Fi} (h : OnF L q f) (hx : L <+: M) : OnF M q f := h.imp id fun h => ⟨h.1.mono hx, h.2⟩
theorem OnF.bytes {L M : List Ob} {q : List UInt8} {f : Fi} (h : OnF L q f) (hx : L <+: M) : byP M f = byP L f := by
 rcases h with rfl | ⟨h, _⟩
 ·rfl
 ·unfold byP
  rw [ext_get hx (by rw [h.kind]; decide)]
theorem OnF.mode {L : List Ob} {q : List UInt8} {f : Fi} (h : OnF L q f) : (f = fi0 ∧ f.mode = 0) ∨ (f.mode = 1 ∧ f.path = q ∧ (splitP q).2 = 0) := by
 rcases h with rfl | ⟨h, e⟩
 ·exact .inl ⟨rfl, rfl⟩
 ·exact .inr ⟨h.mode, e, e ▸ h.path⟩
end Go.Nest
end
/- part -/
section

namespace Go.Nest
open Go Go.AM
def keep (f : Fi) : Option Fi := if 0 < f.mode then some f else none
end Go.Nest
end
/- part -/
section

namespace Go.AM
open Go Go.NB
theorem Does.conv3 {P : Program} {f : FuncId} {a b : A} {c c' : C} {args : List A} {ah : List B} {Q : Out → List B → Prop} (h : Does P f (a :: b :: .c c :: args) ah Q) (hc : ∀ {F : Nat → Prop} {H : Heap} {m : Md} {v : Value}, RL F H m [c'] [v] → RL F H m [c] [v]) : Does P f (a :: b :: .c c' :: args) ah Q :=
 fun F L γ H vs h1 h2 => h F L γ H vs (match vs, h1 with | _ :: _ :: _ :: _, ⟨h3, h4, h5, h6⟩ => ⟨h3, h4, hc h5, h6⟩) h2
end Go.AM
namespace Go.Nest
open Go Go.AM Go.Proofs
open Go.NB (Heap)
open Go.Proofs.YtpmjnbidmcnhnaaGreatDoor.T3 (tab tabOk)
set_option maxRecDepth 4000
theorem bd_conv {F : Nat → Prop} {H : Heap} {m : Md} {l : List Dc} {v : Value} (h : RL F H m [.bs 2 Dc encDcN l] [v]) : RL F H m [.bs 2 Dc encDc l] [v] := by
 cases h with
 | bs0 _ => exact .bs0 .nl
 | bs hb h1 h2 hr hs hq _ => exact .bs hb h1 h2 (flat_conv dc_conv hr) (fun y hy => rfl) hq .nl
def bd1 : List Dc := [⟨[102], [49, 10, 50, 10]⟩]
def bd2 : List Dc := [⟨[102], [48, 10, 50, 10]⟩]
def bd3 : List Dc := [⟨[102], [49, 10, 50, 10, 51, 10]⟩, ⟨[103], []⟩]
def bo (l : List UInt8) : Ob := ⟨1, l, [], 0, [], []⟩
def bL1 : List Ob := [bo [49, 10, 50, 10]]
def bL2 : List Ob := [bo [49, 10, 50, 10], bo [48, 10, 50, 10]]
def bL3 : List Ob := [bo [49, 10, 50, 10], bo [48, 10, 50, 10], bo [49, 10, 50, 10, 51, 10], bo []]
def bL4 : List Ob := bL3 ++ [bo [48, 10, 50, 10, 51, 10]]
def bf1 : List Fi := [⟨[102], 1, 0, 0⟩]
def bf2 : List Fi := [⟨[102], 1, 1, 0⟩]
def bf3 : List Fi := [⟨[102], 1, 2, 0⟩, ⟨[103], 1, 3, 0⟩]
def bf4 : List Fi := [⟨[102], 1, 4, 0⟩, ⟨[103], 1, 3, 0⟩]
theorem bk1 : docsU [] bd1 = (bL1, bf1) := by decide +kernel
theorem bk2 : docsU bL1 bd2 = (bL2, bf2) := by decide +kernel
theorem bk3 : docsU bL2 bd3 = (bL3, bf3) := by decide +kernel
theorem bi1 : inOrdP bf1 = bf1 := by decide +kernel
theorem bi2 : inOrdP bf2 = bf2 := by decide +kernel
theorem bi3 : inOrdP bf3 = bf3 := by decide +kernel
theorem bl1 : PoolOk bL1 := by have := docs_ok (l := bd1) PoolOk.nil; rw [bk1] at this; exact this
theorem bl2 : PoolOk bL2 := by have := docs_ok (l := bd2) bl1; rw [bk2] at this; exact this
theorem bl3 : PoolOk bL3 := by have := docs_ok (l := bd3) bl2; rw [bk3] at this; exact this
theorem bm1 : (blendB bL3 bf1 bf2 bf3).L = bL4 ∧ (blendB bL3 bf1 bf2 bf3).out = bf4 ∧ (blendB bL3 bf1 bf2 bf3).cf = [] ∧ (blendB bL3 bf1 bf2 bf3).code = 0 := by decide +kernel
theorem bl4 : PoolOk bL4 := by
 have h := bl3
 exact .snoc h (by decide +kernel) (by decide +kernel) (by decide +kernel) (by decide)
theorem bg1 : getP bL4 4 = bo [48, 10, 50, 10, 51, 10] := by decide +kernel
theorem bdok : DocsOk bd1 ∧ DocsOk bd2 ∧ DocsOk bd3 := by
 refine ⟨⟨by decide, fun d hd => ?_⟩, ⟨by decide, fun d hd => ?_⟩, ⟨by decide, fun d hd => ?_⟩⟩
 ·have : d = ⟨[102], [49, 10, 50, 10]⟩ := by simpa [bd1] using hd
  subst this; exact ⟨by decide, by decide⟩
 ·have : d = ⟨[102], [48, 10, 50, 10]⟩ := by simpa [bd2] using hd
  subst this; exact ⟨by decide, by decide⟩
 ·have : d = ⟨[102], [49, 10, 50, 10, 51, 10]⟩ ∨ d = ⟨[103], []⟩ := by simpa [bd3] using hd
  rcases this with rfl | rfl
  ·exact ⟨by decide, by decide⟩
  ·exact ⟨by decide, by decide⟩
set_option maxHeartbeats 4000000 in
theorem blendBegun_spec : Does Tryz.prog 31 [] [] (Rt (.c (.bool true)) []) := by
 have p1 := docFiles_spec [] .nil bd1 bdok.1
 rw [bk1] at p1
 dsimp only at p1
 rw [bi1] at p1
 have p1 := p1.conv3 bd_conv
 have p2 := docFiles_spec bL1 bl1 bd2 bdok.2.1
 rw [bk2] at p2
 dsimp only at p2
 rw [bi2] at p2
 have p2 := p2.conv3 bd_conv
 have p3 := docFiles_spec bL2 bl2 bd3 bdok.2.2
 rw [bk3] at p3
 dsimp only at p3
 rw [bi3] at p3
 have p3 := p3.conv3 bd_conv
 have p4 := blendMerge_spec bL3 bl3 (by decide) bf1 bf2 bf3 (fun l hl f hf => by
  have hl : l = bf1 ∨ l = bf2 ∨ l = bf3 := by simpa using hl
  have : ∀ l, l = bf1 ∨ l = bf2 ∨ l = bf3 → ∀ f ∈ l, f.path.length ≤ 4000000 := by
   intro l hl
   rcases hl with rfl | rfl | rfl <;> decide
  exact this l hl f hf)
 rw [bm1.1, bm1.2.1, bm1.2.2.1, bm1.2.2.2] at p4
 have p5 := get_spec bL4 bl4 4
 rw [bg1] at p5
 refine X_spM (n := 72) (n0 := 0) tabOk Tryz.call31 Tryz.func31 ?_
 intro hb
 refine XM.seq ?_
 (conv => whnf)
 refine XM.seq ?_
 (conv => whnf)
 refine cl [] [] (new_spec) ?_
 (conv => whnf)
 refine XM.le (t := ⟨[(1, .c (.ptr 0 0)), (2, .c (.ptr 2 0))], [.box [.rw 1], .row 6 Ob encOb [], .box [.rw 3], .row 6 Ob encOb []]⟩) [] [.same 0, .same 1, .same 2, .new] (by repeat' first | exact trivial | exact rfl | refine And.intro ?_ ?_) ?_
 refine XM.of ?_
 (conv => whnf)
 refine ⟨[49, 10, 50, 10], rfl, ?_⟩
 (conv => whnf)
 refine ⟨bd1, rfl, ?_⟩
 (conv => whnf)
 refine cl [] [0, 1, 2, 3] (p1) ?_
 (conv => whnf)
 refine ⟨[48, 10, 50, 10], rfl, ?_⟩
 (conv => whnf)
 refine ⟨bd2, rfl, ?_⟩
 (conv => whnf)
 refine cl [] [0, 6, 2, 7] (p2) ?_
 (conv => whnf)
 refine ⟨[49, 10, 50, 10, 51, 10], rfl, ?_⟩
 (conv => whnf)
 refine ⟨bd3, rfl, ?_⟩
 (conv => whnf)
 refine cl [] [0, 11, 2, 12] (p3) ?_
 (conv => whnf)
 refine cl [8, 13, 18] [0, 16] (p4) ?_
 (conv => whnf)
 refine ⟨0, ⟨rfl, by decide⟩, ?_⟩
 (conv => whnf)
 refine ⟨⟨[102], 1, 4, 0⟩, rfl, ?_⟩
 (conv => whnf)
 refine cl [] [] (p5) ?_
 (conv => whnf)
 refine ⟨[48, 10, 50, 10, 51, 10], rfl, ?_⟩
 (conv => whnf)
 exact rtB rfl
end Go.Nest
end
/- part -/
section

namespace Go.Nest
open Go Go.AM Go.Proofs
open Go.Proofs.YtpmjnbidmcnhnaaGreatDoor (tab tabOk)
set_option maxRecDepth 4000
theorem docs_long {L : List Ob} {d : List Dc} (h : DocsOk d) : ∀ f ∈ inOrdP (docsU L d).2, f.path.length ≤ 4000000 := fun f hf => by
 obtain ⟨c, hc, e⟩ := docs_path f ((inOrd_perm _).mem_iff.1 hf)
 have := (h.2 c hc).1
 rw [e]; omega
theorem all3 {P : Fi → Prop} {a b c : List Fi} (h1 : ∀ f ∈ a, P f) (h2 : ∀ f ∈ b, P f) (h3 : ∀ f ∈ c, P f) : ∀ l ∈ [a, b, c], ∀ f ∈ l, P f := by
 intro l hl
 rw [List.mem_cons, List.mem_cons, List.mem_singleton] at hl
 rcases hl with e | e | e <;> rw [e] <;> assumption
end Go.Nest
end
