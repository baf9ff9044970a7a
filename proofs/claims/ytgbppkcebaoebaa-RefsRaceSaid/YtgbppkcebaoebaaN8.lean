/- WALKS, N8: of two one: RefsRace. -/
import Derived.Test.YtgbppkcebaoebaaN7
namespace Go.Nest
open Go Go.AM Go.Proofs
open Go.Proofs.Ytgbppkcebaoebaa (tab tabOk)
set_option linter.unusedVariables false
set_option linter.unusedSimpArgs false
set_option maxRecDepth 4000
set_option maxHeartbeats 2000000 in
theorem refsRace_spec (l : List Rs) (name : List UInt8) (a b : Int) : Does Try.prog 3 [.c (.ls 4 Rs encRs l), .c (.str name), .c (.int .i64 a), .c (.int .i64 b)] [] (Rt (.c (.bool true)) []) := by
  refine X_spec (n := 102) (n0 := 0) tabOk Try.call3 Try.func3 ?_
  intro hb
  (conv => whnf)
  refine cl [] [] (refsBegun_spec) ?_
  (conv => whnf)
  refine dec (fun h => ?_) (fun g1 => ?_)
  · repeat' ((conv => whnf); first | (refine dec (fun h => ?_) (fun h => ?_) <;> try contradiction) | (refine decN (fun h => ?_) (fun h => ?_) <;> try contradiction) | refine booN (fun h => ?_) (fun h => ?_) | refine boo (fun h => ?_) (fun h => ?_) | refine ⟨i64 (by omega) (by omega), ?_⟩ | refine ⟨_, _, rfl, List.getElem?_eq_getElem (by omega), ?_⟩ | refine ⟨_, ⟨rfl, by omega⟩, ?_⟩ | refine ⟨_, List.getElem?_eq_getElem (by omega), ?_⟩ | refine rtB ?_ | refine rtI ?_ | refine rtC ?_ rfl | fail)
    rfl
  (conv => whnf)
  refine dec (fun h => ?_) (fun g2 => ?_)
  · repeat' ((conv => whnf); first | (refine dec (fun h => ?_) (fun h => ?_) <;> try contradiction) | (refine decN (fun h => ?_) (fun h => ?_) <;> try contradiction) | refine booN (fun h => ?_) (fun h => ?_) | refine boo (fun h => ?_) (fun h => ?_) | refine ⟨i64 (by omega) (by omega), ?_⟩ | refine ⟨_, _, rfl, List.getElem?_eq_getElem (by omega), ?_⟩ | refine ⟨_, ⟨rfl, by omega⟩, ?_⟩ | refine ⟨_, List.getElem?_eq_getElem (by omega), ?_⟩ | refine rtB ?_ | refine rtI ?_ | refine rtC ?_ rfl | fail)
    rfl
  (conv => whnf)
  refine dec (fun h => ?_) (fun g3 => ?_)
  · repeat' ((conv => whnf); first | (refine dec (fun h => ?_) (fun h => ?_) <;> try contradiction) | (refine decN (fun h => ?_) (fun h => ?_) <;> try contradiction) | refine booN (fun h => ?_) (fun h => ?_) | refine boo (fun h => ?_) (fun h => ?_) | refine ⟨i64 (by omega) (by omega), ?_⟩ | refine ⟨_, _, rfl, List.getElem?_eq_getElem (by omega), ?_⟩ | refine ⟨_, ⟨rfl, by omega⟩, ?_⟩ | refine ⟨_, List.getElem?_eq_getElem (by omega), ?_⟩ | refine rtB ?_ | refine rtI ?_ | refine rtC ?_ rfl | fail)
    rfl
  (conv => whnf)
  refine dec (fun h => ?_) (fun g4 => ?_)
  · repeat' ((conv => whnf); first | (refine dec (fun h => ?_) (fun h => ?_) <;> try contradiction) | (refine decN (fun h => ?_) (fun h => ?_) <;> try contradiction) | refine booN (fun h => ?_) (fun h => ?_) | refine boo (fun h => ?_) (fun h => ?_) | refine ⟨i64 (by omega) (by omega), ?_⟩ | refine ⟨_, _, rfl, List.getElem?_eq_getElem (by omega), ?_⟩ | refine ⟨_, ⟨rfl, by omega⟩, ?_⟩ | refine ⟨_, List.getElem?_eq_getElem (by omega), ?_⟩ | refine rtB ?_ | refine rtI ?_ | refine rtC ?_ rfl | fail)
    rfl
  have g1 : l.length ≤ 100 := by omega
  (conv => whnf)
  refine cl [] [] (newRefs_spec) ?_
  (conv => whnf)
  refine lp (Nat × List Rf × List Mv) (fun | (i, L, m) => ⟨[(0, .c (.ls 4 Rs encRs l)), (1, .c (.str name)), (2, .c (.int .i64 a)), (3, .c (.int .i64 b)), (9, .c (.ptr 0 0)), (10, .c (.int .i64 i))], [.box [.rw 1, .rw 2], .row 2 Rf encRf L, .row 3 Mv encMv m]⟩) (fun x => (x.1 ≤ l.length ∧ x.2.2.length ≤ x.1) ∧ Refd x.2.1 x.2.2) (fun x => l.length - x.1) (0, [], []) [] [.same 0, .same 1, .same 2] ?_ ?_ (fun x hx => ?_)
  · exact ⟨⟨Nat.zero_le _, Nat.zero_le _⟩, .nil⟩
  · repeat' first | exact trivial | exact rfl | refine And.intro ?_ ?_
  obtain ⟨i, L, m⟩ := x
  obtain ⟨⟨h1, h2⟩, hr⟩ := hx
  dsimp only at h1 h2 hr
  have hv := hr.inv
  (conv => whnf)
  refine dec (fun h4 => ?_) (fun h4 => ?_)
  · have hlt : i < l.length := by omega
    (conv => whnf)
    refine ⟨i, l[i], rfl, List.getElem?_eq_getElem hlt, ?_⟩
    generalize l[i] = x
    obtain ⟨xn, xo, xi, xr⟩ := x
    (conv => whnf)
    refine boo (fun h5 => ?_) (fun h5 => ?_)
    · subst h5
      (conv => whnf)
      refine cl [] [] (getRefs_spec L m xn hv.sort (by have := hv.len; omega)) ?_
      (conv => whnf)
      refine cl [] [0, 1, 2] (setR_spec L m xn (getR L xn) xi hv.sort hv.ids hv.len (by omega)) ?_
      repeat' ((conv => whnf); first | (refine dec (fun h => ?_) (fun h => ?_) <;> try contradiction) | (refine decN (fun h => ?_) (fun h => ?_) <;> try contradiction) | refine booN (fun h => ?_) (fun h => ?_) | refine boo (fun h => ?_) (fun h => ?_) | refine ⟨i64 (by omega) (by omega), ?_⟩ | refine ⟨_, _, rfl, List.getElem?_eq_getElem (by omega), ?_⟩ | refine ⟨_, ⟨rfl, by omega⟩, ?_⟩ | refine ⟨_, List.getElem?_eq_getElem (by omega), ?_⟩ | refine rtB ?_ | refine rtI ?_ | refine rtC ?_ rfl | fail)
      refine ag (i + 1, setL L xn (getR L xn) xi, setV L m xn (getR L xn) xi) [] [.same 0, .same 4, .same 5] ⟨⟨hlt, ?_⟩, hr.set ..⟩ (by simp only []; omega) ?_
      · have := setV_len (l := L) (m := m) (n := xn) (old := getR L xn) (id := xi)
        simp only []; omega
      · repeat' first | exact trivial | exact rfl | refine And.intro ?_ ?_
    · subst h5
      (conv => whnf)
      refine cl [] [0, 1, 2] (setR_spec L m xn xo xi hv.sort hv.ids hv.len (by omega)) ?_
      repeat' ((conv => whnf); first | (refine dec (fun h => ?_) (fun h => ?_) <;> try contradiction) | (refine decN (fun h => ?_) (fun h => ?_) <;> try contradiction) | refine booN (fun h => ?_) (fun h => ?_) | refine boo (fun h => ?_) (fun h => ?_) | refine ⟨i64 (by omega) (by omega), ?_⟩ | refine ⟨_, _, rfl, List.getElem?_eq_getElem (by omega), ?_⟩ | refine ⟨_, ⟨rfl, by omega⟩, ?_⟩ | refine ⟨_, List.getElem?_eq_getElem (by omega), ?_⟩ | refine rtB ?_ | refine rtI ?_ | refine rtC ?_ rfl | fail)
      refine ag (i + 1, setL L xn xo xi, setV L m xn xo xi) [] [.same 0, .same 4, .same 5] ⟨⟨hlt, ?_⟩, hr.set ..⟩ (by simp only []; omega) ?_
      · have := setV_len (l := L) (m := m) (n := xn) (old := xo) (id := xi)
        simp only []; omega
      · repeat' first | exact trivial | exact rfl | refine And.intro ?_ ?_
  · (conv => whnf)
    refine cl [] [] (getRefs_spec L m name hv.sort (by have := hv.len; omega)) ?_
    (conv => whnf)
    refine cl [] [0, 1, 2] (setR_spec L m name (getR L name) a hv.sort hv.ids hv.len (by omega)) ?_
    (conv => whnf)
    refine decN (fun h5 => ?_) (fun h5 => ?_)
    · rw [show setL L name (getR L name) a = L from if_neg h5, show setV L m name (getR L name) a = m from if_neg h5]
      (conv => whnf)
      refine cl [] [] (getRefs_spec L m name hv.sort (by have := hv.len; omega)) ?_
      (conv => whnf)
      exact rtB (decide_eq_true rfl)
    · have h5 : codeR L name (getR L name) a = 0 := h5
      have hr2 := Refd.snoc hr h5
      have hv2 := hr2.inv
      obtain ⟨c1, c2, c3, c4, c5⟩ := codeR_0 h5
      rw [show setL L name (getR L name) a = updR L name a from if_pos h5, show setV L m name (getR L name) a = m ++ [⟨name, getR L name, a⟩] from if_pos h5]
      have hg : getR (updR L name a) name = a := by rw [hv2.get, getM_snoc, if_pos rfl]
      have hc : codeR (updR L name a) name (getR L name) b = 12 := by
        unfold codeR
        rw [if_neg (by omega), if_neg (by omega), if_pos (by rw [hg]; exact fun e => c5 e.symm)]
      have hml : (m ++ [(⟨name, getR L name, a⟩ : Mv)]).length ≤ 101 := by rw [List.length_append, List.length_singleton]; omega
      generalize hL' : updR L name a = L' at *
      generalize hm' : m ++ [⟨name, getR L name, a⟩] = m' at *
      have e1 : setL L' name (getR L name) b = L' := if_neg (by rw [hc]; decide)
      have e2 : setV L' m' name (getR L name) b = m' := if_neg (by rw [hc]; decide)
      have p1 := getRefs_spec L' m' name hv2.sort (by have := hv2.len; omega)
      have p2 := setR_spec L' m' name (getR L name) b hv2.sort hv2.ids hv2.len (by omega)
      have p3 := movesRefs_spec L' m' (by omega)
      rw [hg] at p1
      rw [hc, e1, e2] at p2
      (conv => whnf)
      refine cl [] [] (p3) ?_
      (conv => whnf)
      refine cl [] [] (p1) ?_
      (conv => whnf)
      refine dec (fun _ => ?_) (fun h => absurd rfl h)
      (conv => whnf)
      refine cl [] [0, 3, 4] (p2) ?_
      (conv => whnf)
      refine cl [] [] (p1) ?_
      (conv => whnf)
      refine dec (fun _ => ?_) (fun h => absurd rfl h)
      (conv => whnf)
      refine cl [] [] (p3) ?_
      (conv => whnf)
      exact rtB (decide_eq_true rfl)
end Go.Nest
