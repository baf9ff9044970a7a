/- WALKS, N10: refs by the document: RefsDoes. -/
import Derived.Test.YtgbppkcebaoebaaN7
import Derived.Test.YtgbppkcebaoebaaG2
namespace Go.Nest
open Go Go.AM Go.Proofs
open Go.Proofs.Ytgbppkcebaoebaa (tab tabOk)
set_option linter.unusedVariables false
set_option linter.unusedSimpArgs false
set_option maxRecDepth 4000
theorem setM_same {l : List Rf} {m : List Mv} (h : RInv l m) {n : List UInt8} {old id : Int} : setV l m n old id = setM m n old id := by
  unfold setV setM
  rw [h.code]
theorem sameI_dec (l : List Int) : Does Try.prog 13 [.c (.bs 1 Int encI l), .c (.bs 1 Int encI l)] [] (Rt (.c (.bool true)) []) := by
  have h := sameInts_spec l l
  rwa [show decide (l = l) = true from decide_eq_true rfl] at h
set_option maxHeartbeats 4000000 in
theorem refsDoes_spec (l : List Rs) (name : List UInt8) : Does Try.prog 4 [.c (.ls 4 Rs encRs l), .c (.str name)] [] (Rt (.c (.bool true)) []) := by
  refine X_spec (n := 189) (n0 := 0) tabOk Try.call4 Try.func4 ?_
  intro hb
  (conv => whnf)
  refine cl [] [] (refsBegun_spec) ?_
  (conv => whnf)
  refine dec (fun h => ?_) (fun g1 => ?_)
  · repeat' ((conv => whnf); first | (refine dec (fun h => ?_) (fun h => ?_) <;> try contradiction) | (refine decN (fun h => ?_) (fun h => ?_) <;> try contradiction) | refine booN (fun h => ?_) (fun h => ?_) | refine boo (fun h => ?_) (fun h => ?_) | refine ⟨i64 (by omega) (by omega), ?_⟩ | refine ⟨_, _, rfl, List.getElem?_eq_getElem (by omega), ?_⟩ | refine ⟨_, ⟨rfl, by omega⟩, ?_⟩ | refine ⟨_, List.getElem?_eq_getElem (by omega), ?_⟩ | refine rtB ?_ | refine rtI ?_ | refine rtC ?_ rfl | fail)
    rfl
  (conv => whnf)
  refine dec (fun h => ?_) (fun g2 => ?_)
  · repeat' ((conv => whnf); first | (refine dec (fun h => ?_) (fun h => ?_) <;> try contradiction) | (refine decN (fun h => ?_) (fun h => ?_) <;> try contradiction) | refine booN (fun h => ?_) (fun h => ?_) | refine boo (fun h => ?_) (fun h => ?_) | refine ⟨i64 (by omega) (by omega), ?_⟩ | refine ⟨_, _, rfl, List.getElem?_eq_getElem (by omega), ?_⟩ | refine ⟨_, ⟨rfl, by omega⟩, ?_⟩ | refine ⟨_, List.getElem?_eq_getElem (by omega), ?_⟩ | refine rtB ?_ | refine rtI ?_ | refine rtC ?_ rfl | fail)
    rfl
  have g1 : l.length ≤ 100 := by omega
  (conv => whnf)
  refine cl [] [] (newRefs_spec) ?_
  (conv => whnf)
  refine lp (Nat × List Rf × List Mv) (fun | (i, L, m) => ⟨[(0, .c (.ls 4 Rs encRs l)), (1, .c (.str name)), (5, .c (.ptr 0 0)), (6, .c (.ptr 3 0)), (7, .c (.int .i64 i))], [.box [.rw 1, .rw 2], .row 2 Rf encRf L, .row 3 Mv encMv m, .box [.rw 4], .row 3 Mv encMv m]⟩) (fun x => (x.1 ≤ l.length ∧ x.2.2.length ≤ x.1) ∧ Refd x.2.1 x.2.2) (fun x => l.length - x.1) (0, [], []) [] [.same 0, .same 1, .same 2, .same 3, .new] ?_ ?_ (fun x hx => ?_)
  · exact ⟨⟨Nat.zero_le _, Nat.zero_le _⟩, .nil⟩
  · repeat' first | exact trivial | exact rfl | refine And.intro ?_ ?_
  obtain ⟨i, L, m⟩ := x
  obtain ⟨⟨h1, h2⟩, hr⟩ := hx
  dsimp only at h1 h2 hr
  have hv := hr.inv
  (conv => whnf)
  refine dec (fun h4 => ?_) (fun h4 => ?_)
  · have hlt : i < l.length := by omega
    (conv => whnf)
    refine ⟨i, l[i], rfl, List.getElem?_eq_getElem hlt, ?_⟩
    generalize l[i] = x
    obtain ⟨xn, xo, xi, xr⟩ := x
    (conv => whnf)
    refine dec (fun h5 => ?_) (fun h5 => ?_)
    · repeat' ((conv => whnf); first | (refine dec (fun h => ?_) (fun h => ?_) <;> try contradiction) | (refine decN (fun h => ?_) (fun h => ?_) <;> try contradiction) | refine booN (fun h => ?_) (fun h => ?_) | refine boo (fun h => ?_) (fun h => ?_) | refine ⟨i64 (by omega) (by omega), ?_⟩ | refine ⟨_, _, rfl, List.getElem?_eq_getElem (by omega), ?_⟩ | refine ⟨_, ⟨rfl, by omega⟩, ?_⟩ | refine ⟨_, List.getElem?_eq_getElem (by omega), ?_⟩ | refine rtB ?_ | refine rtI ?_ | refine rtC ?_ rfl | fail)
      rfl
    (conv => whnf)
    refine boo (fun h6 => ?_) (fun h6 => ?_)
    · subst h6
      (conv => whnf)
      refine cl [] [] (getN_spec m xn (by omega)) ?_
      have hq := hr.set xn (getM m xn) xi
      have hq1 := hq.inv
      have hvl := setV_len (l := L) (m := m) (n := xn) (old := (getM m xn)) (id := xi)
      have e1 : setM m xn (getM m xn) xi = setV L m xn (getM m xn) xi := (setM_same hv).symm
      have e2 : faultM m xn (getM m xn) xi = codeR L xn (getM m xn) xi := hv.code.symm
      have p1 := setR_spec L m xn (getM m xn) xi hv.sort hv.ids hv.len (by omega)
      have p2 := setN_spec m xn (getM m xn) xi (by omega)
      rw [e1, e2] at p2
      generalize setL L xn (getM m xn) xi = L' at *
      generalize setV L m xn (getM m xn) xi = m' at *
      have g1 := fun k => getRefs_spec L' m' k hq1.sort (by have := hq1.len; omega)
      have g2 := fun k => getN_spec m' k (by omega)
      have g3 := idsRefs_spec L' m' (by omega)
      have g4 := idsN_spec m' (by omega)
      rw [ids_same] at g3
      have g5 := listRefs_spec L' m' (by have := hq1.len; omega)
      have g6 := listN_spec m' (by omega)
      rw [hq1.list] at g6
      have g7 := movesRefs_spec L' m' (by omega)
      have hg := hq1.get
      have hll := hq1.len
      (conv => whnf)
      refine ⟨false, .prot [5], (.l [0, 1, 2, 3, 4, 5, 6, 8, 9, 10, 11, 12, 13, 14, 7, 15, 16, 17, 18, 19, 20, 22, 23, 24, 21, 25, 26, 27, 28, 29, 30, 32, 33, 31, 34, 35, 36, 37, 38, 40, 39, 41, 42, 43, 44]), by kernel_rfl, .inl ?_⟩
      (conv => whnf)
      refine cl [] [0, 1, 2] (p1) ?_
      (conv => whnf)
      refine cl [] [3, 4] (p2) ?_
      (conv => whnf)
      refine decN (fun h => absurd rfl h) (fun _ => ?_)
      (conv => whnf)
      refine cl [] [] (g1 xn) ?_
      (conv => whnf)
      refine cl [] [] (g2 xn) ?_
      (conv => whnf)
      refine decN (fun h => absurd (hg _) h) (fun _ => ?_)
      (conv => whnf)
      refine cl [] [] (g1 name) ?_
      (conv => whnf)
      refine cl [] [] (g2 name) ?_
      (conv => whnf)
      refine decN (fun h => absurd (hg _) h) (fun _ => ?_)
      (conv => whnf)
      refine cl [] [] (g3) ?_
      (conv => whnf)
      refine cl [] [] (g4) ?_
      (conv => whnf)
      refine cl [] [] (sameI_dec (idsM m')) ?_
      (conv => whnf)
      refine cl [] [] (g5) ?_
      (conv => whnf)
      refine cl [] [] (g6) ?_
      (conv => whnf)
      refine ⟨false, .grow, (.l [0, 2, 3, 4, 5, 1, 6, 7]), by kernel_rfl, .inl ?_⟩
      (conv => whnf)
      refine cl [] [] (g7) ?_
      (conv => whnf)
      refine decN (fun h => absurd rfl h) (fun _ => ?_)
      (conv => whnf)
      refine decN (fun h => absurd rfl h) (fun _ => ?_)
      (conv => whnf)
      refine lp Nat (fun k => ⟨[(0, .c (.ls 4 Rs encRs l)), (1, .c (.str name)), (5, .c (.ptr 0 0)), (6, .c (.ptr 3 0)), (7, .c (.int .i64 i)), (9, .c (.rw 5)), (10, .c (.rw 6)), (11, .c (.rw 7)), (12, .c (.rw 4)), (13, .c (.int .i64 k))], [.box [.rw 1, .rw 2], .row 2 Rf encRf L', .row 3 Mv encMv m', .box [.rw 4], .row 3 Mv encMv m', .row 2 Rf encRf L', .row 2 Rf encRf L', .row 3 Mv encMv m']⟩) (fun k => k ≤ L'.length ∧ True) (fun k => L'.length - k) 0 [] [.same 0, .same 6, .same 7, .same 3, .same 8, .same 11, .same 12, .same 13] ?_ ?_ (fun k hk => ?_)
      · simp
      · repeat' first | exact trivial | exact rfl | refine And.intro ?_ ?_
      (conv => whnf)
      refine dec (fun h7 => ?_) (fun h7 => ?_)
      · have hkl : k < L'.length := by omega
        have hk0 : L'[k]? = some L'[k] := List.getElem?_eq_getElem hkl
        (conv => whnf)
        refine ⟨false, .grow, (.l [0, 1, 2, 3, 4, 5, 6, 7, 8, 9, 10, 11, 12, 13, 14, 15, 16, 17, 18, 19, 20, 21, 22, 23]), by kernel_rfl, .inl ?_⟩
        (conv => whnf)
        refine ⟨k, ⟨rfl, hkl⟩, ?_⟩
        (conv => whnf)
        refine ⟨L'[k], hk0, ?_⟩
        (conv => whnf)
        refine ⟨k, ⟨rfl, hkl⟩, ?_⟩
        (conv => whnf)
        refine ⟨L'[k], hk0, ?_⟩
        (conv => whnf)
        refine decN (fun h => absurd rfl h) (fun _ => ?_)
        (conv => whnf)
        refine ⟨k, ⟨rfl, hkl⟩, ?_⟩
        (conv => whnf)
        refine ⟨L'[k], hk0, ?_⟩
        (conv => whnf)
        refine ⟨k, ⟨rfl, hkl⟩, ?_⟩
        (conv => whnf)
        refine ⟨L'[k], hk0, ?_⟩
        (conv => whnf)
        refine decN (fun h => absurd rfl h) (fun _ => ?_)
        repeat' ((conv => whnf); first | (refine dec (fun h => ?_) (fun h => ?_) <;> try contradiction) | (refine decN (fun h => ?_) (fun h => ?_) <;> try contradiction) | refine booN (fun h => ?_) (fun h => ?_) | refine boo (fun h => ?_) (fun h => ?_) | refine ⟨i64 (by omega) (by omega), ?_⟩ | refine ⟨_, _, rfl, List.getElem?_eq_getElem (by omega), ?_⟩ | refine ⟨_, ⟨rfl, by omega⟩, ?_⟩ | refine ⟨_, List.getElem?_eq_getElem (by omega), ?_⟩ | refine rtB ?_ | refine rtI ?_ | refine rtC ?_ rfl | fail)
        refine ag (k + 1) [] [.same 0, .same 1, .same 2, .same 3, .same 4, .same 5, .same 6, .same 7] ⟨hkl, trivial⟩ (by simp only []; omega) ?_
        repeat' first | exact trivial | exact rfl | refine And.intro ?_ ?_
      · (conv => whnf)
        refine lp Nat (fun k => ⟨[(0, .c (.ls 4 Rs encRs l)), (1, .c (.str name)), (5, .c (.ptr 0 0)), (6, .c (.ptr 3 0)), (7, .c (.int .i64 i)), (11, .c (.rw 5)), (12, .c (.rw 4)), (14, .c (.int .i64 k))], [.box [.rw 1, .rw 2], .row 2 Rf encRf L', .row 3 Mv encMv m', .box [.rw 4], .row 3 Mv encMv m', .row 3 Mv encMv m']⟩) (fun k => k ≤ m'.length ∧ True) (fun k => m'.length - k) 0 [] [.same 0, .same 1, .same 2, .same 3, .same 4, .same 7] ?_ ?_ (fun k hk => ?_)
        · simp
        · repeat' first | exact trivial | exact rfl | refine And.intro ?_ ?_
        (conv => whnf)
        refine dec (fun h8 => ?_) (fun h8 => ?_)
        · have hkl : k < m'.length := by omega
          have hk0 : m'[k]? = some m'[k] := List.getElem?_eq_getElem hkl
          (conv => whnf)
          refine ⟨false, .grow, (.l [0, 1, 2, 3, 4, 5, 6, 7, 8, 9, 10, 11, 12, 13, 14, 15, 16, 17, 18, 19, 20, 21, 22, 23, 24, 25, 26, 27, 28, 29, 30, 31, 32, 33, 34, 35, 36]), by kernel_rfl, .inl ?_⟩
          (conv => whnf)
          refine ⟨k, ⟨rfl, hkl⟩, ?_⟩
          (conv => whnf)
          refine ⟨m'[k], hk0, ?_⟩
          (conv => whnf)
          refine ⟨k, ⟨rfl, hkl⟩, ?_⟩
          (conv => whnf)
          refine ⟨m'[k], hk0, ?_⟩
          (conv => whnf)
          refine decN (fun h => absurd rfl h) (fun _ => ?_)
          (conv => whnf)
          refine ⟨k, ⟨rfl, hkl⟩, ?_⟩
          (conv => whnf)
          refine ⟨m'[k], hk0, ?_⟩
          (conv => whnf)
          refine ⟨k, ⟨rfl, hkl⟩, ?_⟩
          (conv => whnf)
          refine ⟨m'[k], hk0, ?_⟩
          (conv => whnf)
          refine decN (fun h => absurd rfl h) (fun _ => ?_)
          (conv => whnf)
          refine ⟨k, ⟨rfl, hkl⟩, ?_⟩
          (conv => whnf)
          refine ⟨m'[k], hk0, ?_⟩
          (conv => whnf)
          refine ⟨k, ⟨rfl, hkl⟩, ?_⟩
          (conv => whnf)
          refine ⟨m'[k], hk0, ?_⟩
          (conv => whnf)
          refine decN (fun h => absurd rfl h) (fun _ => ?_)
          repeat' ((conv => whnf); first | (refine dec (fun h => ?_) (fun h => ?_) <;> try contradiction) | (refine decN (fun h => ?_) (fun h => ?_) <;> try contradiction) | refine booN (fun h => ?_) (fun h => ?_) | refine boo (fun h => ?_) (fun h => ?_) | refine ⟨i64 (by omega) (by omega), ?_⟩ | refine ⟨_, _, rfl, List.getElem?_eq_getElem (by omega), ?_⟩ | refine ⟨_, ⟨rfl, by omega⟩, ?_⟩ | refine ⟨_, List.getElem?_eq_getElem (by omega), ?_⟩ | refine rtB ?_ | refine rtI ?_ | refine rtC ?_ rfl | fail)
          refine ag (k + 1) [] [.same 0, .same 1, .same 2, .same 3, .same 4, .same 5] ⟨hkl, trivial⟩ (by simp only []; omega) ?_
          repeat' first | exact trivial | exact rfl | refine And.intro ?_ ?_
        · repeat' ((conv => whnf); first | (refine dec (fun h => ?_) (fun h => ?_) <;> try contradiction) | (refine decN (fun h => ?_) (fun h => ?_) <;> try contradiction) | refine booN (fun h => ?_) (fun h => ?_) | refine boo (fun h => ?_) (fun h => ?_) | refine ⟨i64 (by omega) (by omega), ?_⟩ | refine ⟨_, _, rfl, List.getElem?_eq_getElem (by omega), ?_⟩ | refine ⟨_, ⟨rfl, by omega⟩, ?_⟩ | refine ⟨_, List.getElem?_eq_getElem (by omega), ?_⟩ | refine rtB ?_ | refine rtI ?_ | refine rtC ?_ rfl | fail)
          refine ag (i + 1, L', m') [] [.same 0, .same 1, .same 2, .same 3, .same 4] ⟨⟨hlt, ?_⟩, hq⟩ (by simp only []; omega) ?_
          · simp only []; omega
          · repeat' first | exact trivial | exact rfl | refine And.intro ?_ ?_
    · subst h6
      have hq := hr.set xn xo xi
      have hq1 := hq.inv
      have hvl := setV_len (l := L) (m := m) (n := xn) (old := xo) (id := xi)
      have e1 : setM m xn xo xi = setV L m xn xo xi := (setM_same hv).symm
      have e2 : faultM m xn xo xi = codeR L xn xo xi := hv.code.symm
      have p1 := setR_spec L m xn xo xi hv.sort hv.ids hv.len (by omega)
      have p2 := setN_spec m xn xo xi (by omega)
      rw [e1, e2] at p2
      generalize setL L xn xo xi = L' at *
      generalize setV L m xn xo xi = m' at *
      have g1 := fun k => getRefs_spec L' m' k hq1.sort (by have := hq1.len; omega)
      have g2 := fun k => getN_spec m' k (by omega)
      have g3 := idsRefs_spec L' m' (by omega)
      have g4 := idsN_spec m' (by omega)
      rw [ids_same] at g3
      have g5 := listRefs_spec L' m' (by have := hq1.len; omega)
      have g6 := listN_spec m' (by omega)
      rw [hq1.list] at g6
      have g7 := movesRefs_spec L' m' (by omega)
      have hg := hq1.get
      have hll := hq1.len
      (conv => whnf)
      refine ⟨false, .prot [5], (.l [0, 1, 2, 3, 4, 5, 6, 8, 9, 10, 11, 12, 13, 14, 7, 15, 16, 17, 18, 19, 20, 22, 23, 24, 21, 25, 26, 27, 28, 29, 30, 32, 33, 31, 34, 35, 36, 37, 38, 40, 39, 41, 42, 43, 44]), by kernel_rfl, .inl ?_⟩
      (conv => whnf)
      refine cl [] [0, 1, 2] (p1) ?_
      (conv => whnf)
      refine cl [] [3, 4] (p2) ?_
      (conv => whnf)
      refine decN (fun h => absurd rfl h) (fun _ => ?_)
      (conv => whnf)
      refine cl [] [] (g1 xn) ?_
      (conv => whnf)
      refine cl [] [] (g2 xn) ?_
      (conv => whnf)
      refine decN (fun h => absurd (hg _) h) (fun _ => ?_)
      (conv => whnf)
      refine cl [] [] (g1 name) ?_
      (conv => whnf)
      refine cl [] [] (g2 name) ?_
      (conv => whnf)
      refine decN (fun h => absurd (hg _) h) (fun _ => ?_)
      (conv => whnf)
      refine cl [] [] (g3) ?_
      (conv => whnf)
      refine cl [] [] (g4) ?_
      (conv => whnf)
      refine cl [] [] (sameI_dec (idsM m')) ?_
      (conv => whnf)
      refine cl [] [] (g5) ?_
      (conv => whnf)
      refine cl [] [] (g6) ?_
      (conv => whnf)
      refine ⟨false, .grow, (.l [0, 2, 3, 4, 5, 1, 6, 7]), by kernel_rfl, .inl ?_⟩
      (conv => whnf)
      refine cl [] [] (g7) ?_
      (conv => whnf)
      refine decN (fun h => absurd rfl h) (fun _ => ?_)
      (conv => whnf)
      refine decN (fun h => absurd rfl h) (fun _ => ?_)
      (conv => whnf)
      refine lp Nat (fun k => ⟨[(0, .c (.ls 4 Rs encRs l)), (1, .c (.str name)), (5, .c (.ptr 0 0)), (6, .c (.ptr 3 0)), (7, .c (.int .i64 i)), (9, .c (.rw 5)), (10, .c (.rw 6)), (11, .c (.rw 7)), (12, .c (.rw 4)), (13, .c (.int .i64 k))], [.box [.rw 1, .rw 2], .row 2 Rf encRf L', .row 3 Mv encMv m', .box [.rw 4], .row 3 Mv encMv m', .row 2 Rf encRf L', .row 2 Rf encRf L', .row 3 Mv encMv m']⟩) (fun k => k ≤ L'.length ∧ True) (fun k => L'.length - k) 0 [] [.same 0, .same 6, .same 7, .same 3, .same 8, .same 11, .same 12, .same 13] ?_ ?_ (fun k hk => ?_)
      · simp
      · repeat' first | exact trivial | exact rfl | refine And.intro ?_ ?_
      (conv => whnf)
      refine dec (fun h7 => ?_) (fun h7 => ?_)
      · have hkl : k < L'.length := by omega
        have hk0 : L'[k]? = some L'[k] := List.getElem?_eq_getElem hkl
        (conv => whnf)
        refine ⟨false, .grow, (.l [0, 1, 2, 3, 4, 5, 6, 7, 8, 9, 10, 11, 12, 13, 14, 15, 16, 17, 18, 19, 20, 21, 22, 23]), by kernel_rfl, .inl ?_⟩
        (conv => whnf)
        refine ⟨k, ⟨rfl, hkl⟩, ?_⟩
        (conv => whnf)
        refine ⟨L'[k], hk0, ?_⟩
        (conv => whnf)
        refine ⟨k, ⟨rfl, hkl⟩, ?_⟩
        (conv => whnf)
        refine ⟨L'[k], hk0, ?_⟩
        (conv => whnf)
        refine decN (fun h => absurd rfl h) (fun _ => ?_)
        (conv => whnf)
        refine ⟨k, ⟨rfl, hkl⟩, ?_⟩
        (conv => whnf)
        refine ⟨L'[k], hk0, ?_⟩
        (conv => whnf)
        refine ⟨k, ⟨rfl, hkl⟩, ?_⟩
        (conv => whnf)
        refine ⟨L'[k], hk0, ?_⟩
        (conv => whnf)
        refine decN (fun h => absurd rfl h) (fun _ => ?_)
        repeat' ((conv => whnf); first | (refine dec (fun h => ?_) (fun h => ?_) <;> try contradiction) | (refine decN (fun h => ?_) (fun h => ?_) <;> try contradiction) | refine booN (fun h => ?_) (fun h => ?_) | refine boo (fun h => ?_) (fun h => ?_) | refine ⟨i64 (by omega) (by omega), ?_⟩ | refine ⟨_, _, rfl, List.getElem?_eq_getElem (by omega), ?_⟩ | refine ⟨_, ⟨rfl, by omega⟩, ?_⟩ | refine ⟨_, List.getElem?_eq_getElem (by omega), ?_⟩ | refine rtB ?_ | refine rtI ?_ | refine rtC ?_ rfl | fail)
        refine ag (k + 1) [] [.same 0, .same 1, .same 2, .same 3, .same 4, .same 5, .same 6, .same 7] ⟨hkl, trivial⟩ (by simp only []; omega) ?_
        repeat' first | exact trivial | exact rfl | refine And.intro ?_ ?_
      · (conv => whnf)
        refine lp Nat (fun k => ⟨[(0, .c (.ls 4 Rs encRs l)), (1, .c (.str name)), (5, .c (.ptr 0 0)), (6, .c (.ptr 3 0)), (7, .c (.int .i64 i)), (11, .c (.rw 5)), (12, .c (.rw 4)), (14, .c (.int .i64 k))], [.box [.rw 1, .rw 2], .row 2 Rf encRf L', .row 3 Mv encMv m', .box [.rw 4], .row 3 Mv encMv m', .row 3 Mv encMv m']⟩) (fun k => k ≤ m'.length ∧ True) (fun k => m'.length - k) 0 [] [.same 0, .same 1, .same 2, .same 3, .same 4, .same 7] ?_ ?_ (fun k hk => ?_)
        · simp
        · repeat' first | exact trivial | exact rfl | refine And.intro ?_ ?_
        (conv => whnf)
        refine dec (fun h8 => ?_) (fun h8 => ?_)
        · have hkl : k < m'.length := by omega
          have hk0 : m'[k]? = some m'[k] := List.getElem?_eq_getElem hkl
          (conv => whnf)
          refine ⟨false, .grow, (.l [0, 1, 2, 3, 4, 5, 6, 7, 8, 9, 10, 11, 12, 13, 14, 15, 16, 17, 18, 19, 20, 21, 22, 23, 24, 25, 26, 27, 28, 29, 30, 31, 32, 33, 34, 35, 36]), by kernel_rfl, .inl ?_⟩
          (conv => whnf)
          refine ⟨k, ⟨rfl, hkl⟩, ?_⟩
          (conv => whnf)
          refine ⟨m'[k], hk0, ?_⟩
          (conv => whnf)
          refine ⟨k, ⟨rfl, hkl⟩, ?_⟩
          (conv => whnf)
          refine ⟨m'[k], hk0, ?_⟩
          (conv => whnf)
          refine decN (fun h => absurd rfl h) (fun _ => ?_)
          (conv => whnf)
          refine ⟨k, ⟨rfl, hkl⟩, ?_⟩
          (conv => whnf)
          refine ⟨m'[k], hk0, ?_⟩
          (conv => whnf)
          refine ⟨k, ⟨rfl, hkl⟩, ?_⟩
          (conv => whnf)
          refine ⟨m'[k], hk0, ?_⟩
          (conv => whnf)
          refine decN (fun h => absurd rfl h) (fun _ => ?_)
          (conv => whnf)
          refine ⟨k, ⟨rfl, hkl⟩, ?_⟩
          (conv => whnf)
          refine ⟨m'[k], hk0, ?_⟩
          (conv => whnf)
          refine ⟨k, ⟨rfl, hkl⟩, ?_⟩
          (conv => whnf)
          refine ⟨m'[k], hk0, ?_⟩
          (conv => whnf)
          refine decN (fun h => absurd rfl h) (fun _ => ?_)
          repeat' ((conv => whnf); first | (refine dec (fun h => ?_) (fun h => ?_) <;> try contradiction) | (refine decN (fun h => ?_) (fun h => ?_) <;> try contradiction) | refine booN (fun h => ?_) (fun h => ?_) | refine boo (fun h => ?_) (fun h => ?_) | refine ⟨i64 (by omega) (by omega), ?_⟩ | refine ⟨_, _, rfl, List.getElem?_eq_getElem (by omega), ?_⟩ | refine ⟨_, ⟨rfl, by omega⟩, ?_⟩ | refine ⟨_, List.getElem?_eq_getElem (by omega), ?_⟩ | refine rtB ?_ | refine rtI ?_ | refine rtC ?_ rfl | fail)
          refine ag (k + 1) [] [.same 0, .same 1, .same 2, .same 3, .same 4, .same 5] ⟨hkl, trivial⟩ (by simp only []; omega) ?_
          repeat' first | exact trivial | exact rfl | refine And.intro ?_ ?_
        · repeat' ((conv => whnf); first | (refine dec (fun h => ?_) (fun h => ?_) <;> try contradiction) | (refine decN (fun h => ?_) (fun h => ?_) <;> try contradiction) | refine booN (fun h => ?_) (fun h => ?_) | refine boo (fun h => ?_) (fun h => ?_) | refine ⟨i64 (by omega) (by omega), ?_⟩ | refine ⟨_, _, rfl, List.getElem?_eq_getElem (by omega), ?_⟩ | refine ⟨_, ⟨rfl, by omega⟩, ?_⟩ | refine ⟨_, List.getElem?_eq_getElem (by omega), ?_⟩ | refine rtB ?_ | refine rtI ?_ | refine rtC ?_ rfl | fail)
          refine ag (i + 1, L', m') [] [.same 0, .same 1, .same 2, .same 3, .same 4] ⟨⟨hlt, ?_⟩, hq⟩ (by simp only []; omega) ?_
          · simp only []; omega
          · repeat' first | exact trivial | exact rfl | refine And.intro ?_ ?_
  · repeat' ((conv => whnf); first | (refine dec (fun h => ?_) (fun h => ?_) <;> try contradiction) | (refine decN (fun h => ?_) (fun h => ?_) <;> try contradiction) | refine booN (fun h => ?_) (fun h => ?_) | refine boo (fun h => ?_) (fun h => ?_) | refine ⟨i64 (by omega) (by omega), ?_⟩ | refine ⟨_, _, rfl, List.getElem?_eq_getElem (by omega), ?_⟩ | refine ⟨_, ⟨rfl, by omega⟩, ?_⟩ | refine ⟨_, List.getElem?_eq_getElem (by omega), ?_⟩ | refine rtB ?_ | refine rtI ?_ | refine rtC ?_ rfl | fail)
    rfl
end Go.Nest
