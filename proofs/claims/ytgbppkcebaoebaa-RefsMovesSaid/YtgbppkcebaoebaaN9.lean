/- WALKS, N9: where they lead is what the moves say: RefsMoves. -/
import Derived.Test.YtgbppkcebaoebaaN7
import Derived.Test.YtgbppkcebaoebaaG2
namespace Go.Nest
open Go Go.AM Go.Proofs
open Go.Proofs.Ytgbppkcebaoebaa (tab tabOk)
set_option linter.unusedVariables false
set_option linter.unusedSimpArgs false
set_option maxRecDepth 4000
theorem eqRf {a b : Rf} : EqCs (encRf a) (encRf b) ↔ a = b := by
  cases a; cases b; simp [encRf, EqCs, EqC]
set_option maxHeartbeats 4000000 in
theorem refsMoves_spec (l : List Rs) : Does Try.prog 5 [.c (.ls 4 Rs encRs l)] [] (Rt (.c (.bool true)) []) := by
  refine X_spec (n := 164) (n0 := 0) tabOk Try.call5 Try.func5 ?_
  intro hb
  (conv => whnf)
  refine cl [] [] (refsBegun_spec) ?_
  (conv => whnf)
  refine dec (fun h => ?_) (fun g1 => ?_)
  · repeat' ((conv => whnf); first | (refine dec (fun h => ?_) (fun h => ?_) <;> try contradiction) | (refine decN (fun h => ?_) (fun h => ?_) <;> try contradiction) | refine booN (fun h => ?_) (fun h => ?_) | refine boo (fun h => ?_) (fun h => ?_) | refine ⟨i64 (by omega) (by omega), ?_⟩ | refine ⟨_, _, rfl, List.getElem?_eq_getElem (by omega), ?_⟩ | refine ⟨_, ⟨rfl, by omega⟩, ?_⟩ | refine ⟨_, List.getElem?_eq_getElem (by omega), ?_⟩ | refine rtB ?_ | refine rtI ?_ | refine rtC ?_ rfl | fail)
    rfl
  have g1 : l.length ≤ 100 := by omega
  (conv => whnf)
  refine cl [] [] (newRefs_spec) ?_
  (conv => whnf)
  refine cl [] [] (newRefs_spec) ?_
  (conv => whnf)
  refine lp (Nat × List Rf × List Mv) (fun | (i, L, m) => ⟨[(0, .c (.ls 4 Rs encRs l)), (3, .c (.ptr 0 0)), (4, .c (.ptr 3 0)), (5, .c (.int .i64 i))], [.box [.rw 1, .rw 2], .row 2 Rf encRf L, .row 3 Mv encMv m, .box [.rw 4, .rw 5], .row 2 Rf encRf [], .row 3 Mv encMv []]⟩) (fun x => (x.1 ≤ l.length ∧ x.2.2.length ≤ x.1) ∧ Refd x.2.1 x.2.2) (fun x => l.length - x.1) (0, [], []) [] [.same 0, .same 1, .same 2, .same 3, .same 4, .same 5] ?_ ?_ (fun x hx => ?_)
  · exact ⟨⟨Nat.zero_le _, Nat.zero_le _⟩, .nil⟩
  · repeat' first | exact trivial | exact rfl | refine And.intro ?_ ?_
  obtain ⟨i, L, m⟩ := x
  obtain ⟨⟨h1, h2⟩, hr⟩ := hx
  dsimp only at h1 h2 hr
  have hv := hr.inv
  (conv => whnf)
  refine dec (fun h4 => ?_) (fun h4 => ?_)
  · have hlt : i < l.length := by omega
    (conv => whnf)
    refine ⟨i, l[i], rfl, List.getElem?_eq_getElem hlt, ?_⟩
    generalize l[i] = x
    obtain ⟨xn, xo, xi, xr⟩ := x
    (conv => whnf)
    refine boo (fun h5 => ?_) (fun h5 => ?_)
    · subst h5
      (conv => whnf)
      refine cl [] [] (getRefs_spec L m xn hv.sort (by have := hv.len; omega)) ?_
      (conv => whnf)
      refine cl [] [0, 1, 2] (setR_spec L m xn (getR L xn) xi hv.sort hv.ids hv.len (by omega)) ?_
      repeat' ((conv => whnf); first | (refine dec (fun h => ?_) (fun h => ?_) <;> try contradiction) | (refine decN (fun h => ?_) (fun h => ?_) <;> try contradiction) | refine booN (fun h => ?_) (fun h => ?_) | refine boo (fun h => ?_) (fun h => ?_) | refine ⟨i64 (by omega) (by omega), ?_⟩ | refine ⟨_, _, rfl, List.getElem?_eq_getElem (by omega), ?_⟩ | refine ⟨_, ⟨rfl, by omega⟩, ?_⟩ | refine ⟨_, List.getElem?_eq_getElem (by omega), ?_⟩ | refine rtB ?_ | refine rtI ?_ | refine rtC ?_ rfl | fail)
      refine ag (i + 1, setL L xn (getR L xn) xi, setV L m xn (getR L xn) xi) [] [.same 0, .same 7, .same 8, .same 3, .same 4, .same 5] ⟨⟨hlt, ?_⟩, hr.set ..⟩ (by simp only []; omega) ?_
      · have := setV_len (l := L) (m := m) (n := xn) (old := getR L xn) (id := xi)
        simp only []; omega
      · repeat' first | exact trivial | exact rfl | refine And.intro ?_ ?_
    · subst h5
      (conv => whnf)
      refine cl [] [0, 1, 2] (setR_spec L m xn xo xi hv.sort hv.ids hv.len (by omega)) ?_
      repeat' ((conv => whnf); first | (refine dec (fun h => ?_) (fun h => ?_) <;> try contradiction) | (refine decN (fun h => ?_) (fun h => ?_) <;> try contradiction) | refine booN (fun h => ?_) (fun h => ?_) | refine boo (fun h => ?_) (fun h => ?_) | refine ⟨i64 (by omega) (by omega), ?_⟩ | refine ⟨_, _, rfl, List.getElem?_eq_getElem (by omega), ?_⟩ | refine ⟨_, ⟨rfl, by omega⟩, ?_⟩ | refine ⟨_, List.getElem?_eq_getElem (by omega), ?_⟩ | refine rtB ?_ | refine rtI ?_ | refine rtC ?_ rfl | fail)
      refine ag (i + 1, setL L xn xo xi, setV L m xn xo xi) [] [.same 0, .same 7, .same 8, .same 3, .same 4, .same 5] ⟨⟨hlt, ?_⟩, hr.set ..⟩ (by simp only []; omega) ?_
      · have := setV_len (l := L) (m := m) (n := xn) (old := xo) (id := xi)
        simp only []; omega
      · repeat' first | exact trivial | exact rfl | refine And.intro ?_ ?_
  · have hml : m.length ≤ 100 := by omega
    (conv => whnf)
    refine cl [] [] (movesRefs_spec L m (by omega)) ?_
    (conv => whnf)
    refine lp Nat (fun k => ⟨[(3, .c (.ptr 0 0)), (4, .c (.ptr 3 0)), (7, .c (.rw 6)), (8, .c (.int .i64 k))], [.box [.rw 1, .rw 2], .row 2 Rf encRf L, .row 3 Mv encMv m, .box [.rw 4, .rw 5], .row 2 Rf encRf (listM (m.take k)), .row 3 Mv encMv (m.take k), .row 3 Mv encMv m]⟩) (fun k => k ≤ m.length ∧ True) (fun k => m.length - k) 0 [] [.same 0, .same 1, .same 2, .same 3, .same 4, .same 5, .same 6] ?_ ?_ (fun k hk => ?_)
    · simp
    · repeat' first | exact trivial | exact rfl | refine And.intro ?_ ?_
    (conv => whnf)
    refine dec (fun h5 => ?_) (fun h5 => ?_)
    · have hlt : k < m.length := by omega
      obtain ⟨a1, a2⟩ := hr.again k hlt
      have a3 := again_upd hr hlt
      have hv1 := a1.inv
      obtain ⟨c1, c2, c3, c4, c5⟩ := codeR_0 a2
      have e1 : setL (listM (m.take k)) m[k].name m[k].old m[k].new = listM (m.take (k + 1)) := (if_pos a2).trans a3
      have e2 : setV (listM (m.take k)) (m.take k) m[k].name m[k].old m[k].new = m.take (k + 1) := (if_pos a2).trans (by rw [List.take_succ_eq_append_getElem hlt])
      have p1 := getRefs_spec (listM (m.take k)) (m.take k) m[k].name hv1.sort (by have := hv1.len; omega)
      have p2 := setR_spec (listM (m.take k)) (m.take k) m[k].name m[k].old m[k].new hv1.sort hv1.ids hv1.len (by rw [List.length_take]; omega)
      rw [e1, e2, a2] at p2
      rw [← c3] at p1
      have hk0 : m[k]? = some m[k] := List.getElem?_eq_getElem hlt
      (conv => whnf)
      refine ⟨false, .grow, (.l [0, 1, 2, 3, 4, 5, 7, 8, 9, 10, 11, 6, 12, 13, 14, 15, 16, 17, 18, 19, 20, 21, 22, 23, 24, 25, 26, 27, 28, 29, 30, 31, 32, 33, 34, 35, 36, 37, 38, 39, 40, 41, 42, 43, 44, 45]), by kernel_rfl, .inl ?_⟩
      (conv => whnf)
      refine ⟨k, ⟨rfl, hlt⟩, ?_⟩
      (conv => whnf)
      refine ⟨m[k], hk0, ?_⟩
      (conv => whnf)
      refine ⟨k, ⟨rfl, hlt⟩, ?_⟩
      (conv => whnf)
      refine ⟨m[k], hk0, ?_⟩
      (conv => whnf)
      refine cl [] [] (p1) ?_
      (conv => whnf)
      refine decN (fun h => absurd rfl h) (fun _ => ?_)
      (conv => whnf)
      refine ⟨k, ⟨rfl, hlt⟩, ?_⟩
      (conv => whnf)
      refine ⟨m[k], hk0, ?_⟩
      (conv => whnf)
      refine ⟨k, ⟨rfl, hlt⟩, ?_⟩
      (conv => whnf)
      refine ⟨m[k], hk0, ?_⟩
      (conv => whnf)
      refine dec (fun h => absurd h.symm c5) (fun _ => ?_)
      (conv => whnf)
      refine ⟨k, ⟨rfl, hlt⟩, ?_⟩
      (conv => whnf)
      refine ⟨m[k], hk0, ?_⟩
      (conv => whnf)
      refine ⟨k, ⟨rfl, hlt⟩, ?_⟩
      (conv => whnf)
      refine ⟨m[k], hk0, ?_⟩
      (conv => whnf)
      refine ⟨k, ⟨rfl, hlt⟩, ?_⟩
      (conv => whnf)
      refine ⟨m[k], hk0, ?_⟩
      (conv => whnf)
      refine cl [] [3, 4, 5] (p2) ?_
      (conv => whnf)
      repeat' ((conv => whnf); first | (refine dec (fun h => ?_) (fun h => ?_) <;> try contradiction) | (refine decN (fun h => ?_) (fun h => ?_) <;> try contradiction) | refine booN (fun h => ?_) (fun h => ?_) | refine boo (fun h => ?_) (fun h => ?_) | refine ⟨i64 (by omega) (by omega), ?_⟩ | refine ⟨_, _, rfl, List.getElem?_eq_getElem (by omega), ?_⟩ | refine ⟨_, ⟨rfl, by omega⟩, ?_⟩ | refine ⟨_, List.getElem?_eq_getElem (by omega), ?_⟩ | refine rtB ?_ | refine rtI ?_ | refine rtC ?_ rfl | fail)
      refine ag (k + 1) [] [.same 0, .same 1, .same 2, .same 3, .same 7, .same 8, .same 6] ⟨hlt, trivial⟩ (by simp only []; omega) ?_
      repeat' first | exact trivial | exact rfl | refine And.intro ?_ ?_
    · obtain rfl : k = m.length := by omega
      rw [List.take_length, hv.list]
      (conv => whnf)
      refine cl [] [] (listRefs_spec L m (by have := hv.len; omega)) ?_
      (conv => whnf)
      refine cl [] [] (listRefs_spec L m (by have := hv.len; omega)) ?_
      (conv => whnf)
      refine decN (fun h => absurd rfl h) (fun _ => ?_)
      (conv => whnf)
      have hll := hv.len
      refine dec (fun h => absurd (show (8 : Int) < L.length from h) (by omega)) (fun _ => ?_)
      (conv => whnf)
      refine lp Nat (fun q => ⟨[(3, .c (.ptr 0 0)), (9, .c (.rw 3)), (10, .c (.rw 4)), (11, .c (.int .i64 q))], [.box [.rw 1, .rw 2], .row 2 Rf encRf L, .row 3 Mv encMv m, .row 2 Rf encRf L, .row 2 Rf encRf L]⟩) (fun q => q ≤ L.length ∧ True) (fun q => L.length - q) 0 [] [.same 0, .same 1, .same 2, .same 7, .same 8] ?_ ?_ (fun q hq => ?_)
      · simp
      · repeat' first | exact trivial | exact rfl | refine And.intro ?_ ?_
      (conv => whnf)
      refine dec (fun h5 => ?_) (fun h5 => ?_)
      · have hlt : q < L.length := by omega
        have hq0 : L[q]? = some L[q] := List.getElem?_eq_getElem hlt
        have hin := ids_has hv (List.getElem_mem hlt)
        have hid := hv.ids _ (List.getElem_mem hlt)
        have p3 := in_spec (idsR m) L[q].id
        rw [decide_eq_true hin] at p3
        (conv => whnf)
        refine ⟨false, .grow, (.l [0, 1, 2, 3, 4, 5, 6, 7, 8, 9, 10, 11, 12, 13, 14, 15, 16, 17, 18, 19, 20, 21, 22, 23, 24, 25, 26, 27, 28, 29, 30, 31, 32, 33, 34, 35, 36, 38, 39, 40, 41, 42, 37, 43, 44, 45]), by kernel_rfl, .inl ?_⟩
        (conv => whnf)
        refine ⟨q, ⟨rfl, hlt⟩, ?_⟩
        (conv => whnf)
        refine ⟨L[q], hq0, ?_⟩
        (conv => whnf)
        refine ⟨q, ⟨rfl, hlt⟩, ?_⟩
        (conv => whnf)
        refine ⟨L[q], hq0, ?_⟩
        (conv => whnf)
        refine decN (fun h => absurd (eqRf.2 rfl) h) (fun _ => ?_)
        (conv => whnf)
        refine dec (fun h6 => ?_) (fun h6 => ?_)
        · have hq1 : L[q - 1]? = some L[q - 1] := List.getElem?_eq_getElem (by omega)
          have hlo : Op.bytesLess L[q - 1].name L[q].name = true := List.pairwise_iff_getElem.1 hv.sort (q - 1) q (by omega) hlt (by omega)
          (conv => whnf)
          refine ⟨i64 (by omega) (by omega), ?_⟩
          (conv => whnf)
          refine ⟨q - 1, ⟨by omega, by omega⟩, ?_⟩
          (conv => whnf)
          refine ⟨L[q - 1], hq1, ?_⟩
          (conv => whnf)
          refine ⟨q, ⟨rfl, hlt⟩, ?_⟩
          (conv => whnf)
          refine ⟨L[q], hq0, ?_⟩
          (conv => whnf)
          refine booN (fun h => by rw [hlo] at h; cases h) (fun _ => ?_)
          (conv => whnf)
          refine ⟨q, ⟨rfl, hlt⟩, ?_⟩
          (conv => whnf)
          refine ⟨L[q], hq0, ?_⟩
          (conv => whnf)
          refine dec (fun h => absurd hid (by show ¬ 0 ≤ L[q].id; omega)) (fun _ => ?_)
          (conv => whnf)
          refine ⟨q, ⟨rfl, hlt⟩, ?_⟩
          (conv => whnf)
          refine ⟨L[q], hq0, ?_⟩
          (conv => whnf)
          refine cl [] [] (idsRefs_spec L m (by omega)) ?_
          (conv => whnf)
          refine cl [] [] (p3) ?_
          repeat' ((conv => whnf); first | (refine dec (fun h => ?_) (fun h => ?_) <;> try contradiction) | (refine decN (fun h => ?_) (fun h => ?_) <;> try contradiction) | refine booN (fun h => ?_) (fun h => ?_) | refine boo (fun h => ?_) (fun h => ?_) | refine ⟨i64 (by omega) (by omega), ?_⟩ | refine ⟨_, _, rfl, List.getElem?_eq_getElem (by omega), ?_⟩ | refine ⟨_, ⟨rfl, by omega⟩, ?_⟩ | refine ⟨_, List.getElem?_eq_getElem (by omega), ?_⟩ | refine rtB ?_ | refine rtI ?_ | refine rtC ?_ rfl | fail)
          refine ag (q + 1) [] [.same 0, .same 1, .same 2, .same 3, .same 4] ⟨hlt, trivial⟩ (by simp only []; omega) ?_
          repeat' first | exact trivial | exact rfl | refine And.intro ?_ ?_
        · (conv => whnf)
          refine ⟨q, ⟨rfl, hlt⟩, ?_⟩
          (conv => whnf)
          refine ⟨L[q], hq0, ?_⟩
          (conv => whnf)
          refine dec (fun h => absurd hid (by show ¬ 0 ≤ L[q].id; omega)) (fun _ => ?_)
          (conv => whnf)
          refine ⟨q, ⟨rfl, hlt⟩, ?_⟩
          (conv => whnf)
          refine ⟨L[q], hq0, ?_⟩
          (conv => whnf)
          refine cl [] [] (idsRefs_spec L m (by omega)) ?_
          (conv => whnf)
          refine cl [] [] (p3) ?_
          repeat' ((conv => whnf); first | (refine dec (fun h => ?_) (fun h => ?_) <;> try contradiction) | (refine decN (fun h => ?_) (fun h => ?_) <;> try contradiction) | refine booN (fun h => ?_) (fun h => ?_) | refine boo (fun h => ?_) (fun h => ?_) | refine ⟨i64 (by omega) (by omega), ?_⟩ | refine ⟨_, _, rfl, List.getElem?_eq_getElem (by omega), ?_⟩ | refine ⟨_, ⟨rfl, by omega⟩, ?_⟩ | refine ⟨_, List.getElem?_eq_getElem (by omega), ?_⟩ | refine rtB ?_ | refine rtI ?_ | refine rtC ?_ rfl | fail)
          refine ag (q + 1) [] [.same 0, .same 1, .same 2, .same 3, .same 4] ⟨hlt, trivial⟩ (by simp only []; omega) ?_
          repeat' first | exact trivial | exact rfl | refine And.intro ?_ ?_
      · repeat' ((conv => whnf); first | (refine dec (fun h => ?_) (fun h => ?_) <;> try contradiction) | (refine decN (fun h => ?_) (fun h => ?_) <;> try contradiction) | refine booN (fun h => ?_) (fun h => ?_) | refine boo (fun h => ?_) (fun h => ?_) | refine ⟨i64 (by omega) (by omega), ?_⟩ | refine ⟨_, _, rfl, List.getElem?_eq_getElem (by omega), ?_⟩ | refine ⟨_, ⟨rfl, by omega⟩, ?_⟩ | refine ⟨_, List.getElem?_eq_getElem (by omega), ?_⟩ | refine rtB ?_ | refine rtI ?_ | refine rtC ?_ rfl | fail)
        rfl
end Go.Nest
