/- WALKS, F8: what each law of the flat files begins with. -/
import Derived.Test.YtkoiljgjipmhbaaDoorF7
import Derived.Test.YtkoiljgjipmhbaaDoorG12
section
namespace Go.Nest
open Go Go.AM Go.Proofs
open Go.Proofs.YtkoiljgjipmhbaaDoor (tab tabOk)
set_option linter.unusedVariables false
set_option linter.unusedSimpArgs false
set_option maxRecDepth 4000

theorem any_succ {α : Type} {p : α → Bool} {l : List α} {i : Nat} (h : i < l.length) : (l.take (i + 1)).any p = ((l.take i).any p || p l[i]) := by
  rw [List.take_succ_eq_append_getElem h, List.any_append]; simp
theorem filter_succ {α : Type} {p : α → Bool} {l : List α} {i : Nat} (h : i < l.length) : (l.take (i + 1)).filter p = (l.take i).filter p ++ if p l[i] = true then [l[i]] else [] := by
  rw [List.take_succ_eq_append_getElem h, List.filter_append, List.filter_cons]
  split <;> simp

def fA : Ob := ⟨1, [], [], 0, [], []⟩
def fB : Ob := ⟨2, [], [⟨[98], 1, 0, 0⟩], 0, [], []⟩
def fC : Ob := ⟨2, [], [⟨[97], 2, 1, 0⟩, ⟨[99], 1, 0, 0⟩], 0, [], []⟩
def fl1 : Fi := ⟨[97, 47, 98], 1, 0, 0⟩
def fl2 : Fi := ⟨[99], 1, 0, 0⟩
def fl3 : Fi := ⟨[97], 1, 0, 0⟩
theorem fb1 : putP [] fA = (0, 0, [fA]) := by decide +kernel
theorem fb2 : buildP [fA] [fl1, fl2] = (2, 0, [fA, fB, fC]) := by decide +kernel
theorem fb3 : filesP [fA, fB, fC] 2 = ([fl1, fl2], 0) := by decide +kernel
theorem fb4 : atF [fA, fB, fC] 2 [97] = (1, 0) := by decide +kernel
theorem fb5 : filesF [fl3, fl1] = 10 := by decide +kernel
theorem fb6 : diffP [fl1, fl2] [fl2] = [⟨[97, 47, 98], fl1, fi0⟩] := by
  rw [diffP, if_pos (by decide +kernel), diff_self]; rfl
theorem fok1 : PoolOk [fA] := by have := putP_ok .nil fA; rw [fb1] at this; exact this
theorem fok3 : PoolOk [fA, fB, fC] := by have := (buildP_ok fok1 [fl1, fl2]).1; rw [fb2] at this; exact this

set_option maxHeartbeats 2000000 in
theorem flatBegun_spec : Does Tryd.prog 6 [] [] (Rt (.c (.bool true)) []) := by
  have p1 := put_spec [] fA (by decide)
  have p2 := flatBuild_spec [fA] [fl1, fl2] fok1 (by decide)
  have p3 := flatFiles_spec [fA, fB, fC] fok3 2
  have p4 := at_spec [fA, fB, fC] fok3 2 [97] (by decide)
  have p5 := flatCheck_spec [fl3, fl1] (by decide)
  have p6 := diff_spec [fl1, fl2] [fl2] (by decide) (by decide) (by decide) (by decide)
  rw [fb1] at p1
  rw [fb2] at p2
  rw [fb3] at p3
  rw [fb4] at p4
  rw [fb5] at p5
  rw [fb6] at p6
  dsimp only at p1 p2 p3 p4 p5 p6
  refine X_spec ⟨Tryd.prog, tab, 72, 0⟩ tabOk (by kernel_rfl) Tryd.call6 Tryd.func6 rfl rfl (by kernel_rfl) rfl ?_
  intro hb
  (conv => whnf)
  refine cl [] [] (new_spec) (by (repeat' first | exact trivial | exact rfl | refine And.intro ?_ ?_); first | done | fail) (by first | exact trivial | exact rfl) ?_
  (conv => whnf)
  refine cl [] [0, 1] (p1) (by (repeat' first | exact trivial | exact rfl | refine And.intro ?_ ?_); first | done | fail) (by first | exact trivial | exact rfl) ?_
  (conv => whnf)
  refine ⟨[fl1, fl2], rfl, ?_⟩
  (conv => whnf)
  refine cl [3] [0, 2] (p2) (by (repeat' first | exact trivial | exact rfl | refine And.intro ?_ ?_); first | done | fail) (by first | exact trivial | exact rfl) ?_
  (conv => whnf)
  refine cl [] [] (p3) (by (repeat' first | exact trivial | exact rfl | refine And.intro ?_ ?_); first | done | fail) (by first | exact trivial | exact rfl) ?_
  (conv => whnf)
  refine cl [] [] (p4) (by (repeat' first | exact trivial | exact rfl | refine And.intro ?_ ?_); first | done | fail) (by first | exact trivial | exact rfl) ?_
  (conv => whnf)
  refine cl [] [] (sameFiles_spec [fl1, fl2] [fl1, fl2]) (by (repeat' first | exact trivial | exact rfl | refine And.intro ?_ ?_); first | done | fail) (by first | exact trivial | exact rfl) ?_
  rw [show decide ([fl1, fl2] = [fl1, fl2]) = true from decide_eq_true rfl]
  (conv => whnf)
  refine ⟨1, 2, rfl, rfl, by decide, ?_⟩
  (conv => whnf)
  refine cl [] [] (p6) (by (repeat' first | exact trivial | exact rfl | refine And.intro ?_ ?_); first | done | fail) (by first | exact trivial | exact rfl) ?_
  (conv => whnf)
  refine ⟨[fl3, fl1], rfl, ?_⟩
  (conv => whnf)
  refine cl [] [] (p5) (by (repeat' first | exact trivial | exact rfl | refine And.intro ?_ ?_); first | done | fail) (by first | exact trivial | exact rfl) ?_
  (conv => whnf)
  exact rtB rfl
end Go.Nest
end
/- WALKS, F11: FlatBack. -/
section
namespace Go.Nest
open Go Go.AM Go.Proofs
open Go.Proofs.YtkoiljgjipmhbaaDoor (tab tabOk)
set_option linter.unusedVariables false
set_option linter.unusedSimpArgs false
set_option maxRecDepth 4000

/-- what the last loop looks for -/
def bareB (L : List Ob) (t k : Int) : Bool := decide (k ≠ t) && (decide ((getP L k).kind = 2) && decide ((getP L k).entries.length = 0))
theorem bare_of {L : List Ob} {t k : Int} (h1 : k ≠ t) (h2 : Bare L k) : bareB L t k = true := by
  unfold bareB
  rw [decide_eq_true h1, decide_eq_true (getP_kind.trans h2.1), h2.2]; rfl
theorem any_mem {α : Type} {p : α → Bool} {l : List α} {x : α} (h : x ∈ l) (hp : p x = true) : l.any p = true := List.any_eq_true.2 ⟨x, h, hp⟩

set_option maxHeartbeats 4000000 in
/-- the second half, of any pool -/
theorem flatBack_spec (o : List Ob) (l : List Fi) (t : Int) (hp : ∀ f ∈ l, f.path.length ≤ 140737488351232) : Does Tryd.prog 5 [.c (.ls 6 Ob encOb o), .c (.ls 4 Fi encFi l), .c (.int .i64 t)] [] (Rt (.c (.bool true)) []) := by
  refine X_specM ⟨Tryd.prog, tab, 137, 0⟩ tabOk (by kernel_rfl) Tryd.call5 Tryd.func5 rfl rfl (by kernel_rfl) rfl ?_
  intro hb
  refine XM.seq ?_
  (conv => whnf)
  refine XM.seq ?_
  (conv => whnf)
  refine cl [] [] (flatBegun_spec) (by (repeat' first | exact trivial | exact rfl | refine And.intro ?_ ?_); first | done | fail) (by first | exact trivial | exact rfl) ?_
  (conv => whnf)
  refine XM.seq ?_
  (conv => whnf)
  refine cl [] [] (greatObjects_spec o) (by (repeat' first | exact trivial | exact rfl | refine And.intro ?_ ?_); first | done | fail) (by first | exact trivial | exact rfl) ?_
  (conv => whnf)
  refine boo (fun g1 => ?_) (fun g1 => ?_)
  · (conv => whnf)
    exact rtC rfl rfl
  (conv => whnf)
  refine cl [] [] (greatFiles_spec l hp) (by (repeat' first | exact trivial | exact rfl | refine And.intro ?_ ?_); first | done | fail) (by first | exact trivial | exact rfl) ?_
  (conv => whnf)
  refine boo (fun ga => ?_) (fun ga => ?_)
  · (conv => whnf)
    exact rtC rfl rfl
  obtain ⟨la, _, pa⟩ := greatF_ok ga
  have pa4 : ∀ f ∈ l, f.path.length ≤ 4000000 := fun f h => by have := pa f h; omega
  (conv => whnf)
  refine XM.seq ?_
  (conv => whnf)
  refine cl [] [] (pools_spec o) (by (repeat' first | exact trivial | exact rfl | refine And.intro ?_ ?_); first | done | fail) (by first | exact trivial | exact rfl) ?_
  have hL : PoolOk (putAll [] o) := putAll_ok .nil
  generalize putAll [] o = L at *
  (conv => whnf)
  refine XM.join (ι := List Ob) (fun M => ⟨[(2, .c (.int .i64 t)), (7, .c (.ptr 0 0)), (8, .c (.ptr 2 0))], [.box [.rw 1], .row 6 Ob encOb M, .box [.rw 3], .row 6 Ob encOb L]⟩) (fun M => PoolOk M) ?_ (fun M hM => ?_)
  · (conv => whnf)
    refine cl [] [0, 1] (flatBuild_spec L l hL pa4) (by (repeat' first | exact trivial | exact rfl | refine And.intro ?_ ?_); first | done | fail) (by first | exact trivial | exact rfl) ?_
    have hB := (buildP_ok hL l).1
    have hF := back_first hL (l := l)
    generalize buildP L l = R at *
    (conv => whnf)
    refine dec (fun h => ?_) (fun h => ?_)
    · obtain ⟨hF1, hF2⟩ := hF h
      have p1 := flatFiles_spec R.2.2 hB R.1
      have p2 := flatBuild_spec R.2.2 l hB pa4
      rw [hF1] at p1
      rw [hF2] at p2
      (conv => whnf)
      refine cl [] [] (p1) (by (repeat' first | exact trivial | exact rfl | refine And.intro ?_ ?_); first | done | fail) (by first | exact trivial | exact rfl) ?_
      (conv => whnf)
      refine cl [] [] (sameFiles_spec l l) (by (repeat' first | exact trivial | exact rfl | refine And.intro ?_ ?_); first | done | fail) (by first | exact trivial | exact rfl) ?_
      rw [show decide (l = l) = true from decide_eq_true rfl]
      (conv => whnf)
      refine cl [] [0, 4] (p2) (by (repeat' first | exact trivial | exact rfl | refine And.intro ?_ ?_); first | done | fail) (by first | exact trivial | exact rfl) ?_
      (conv => whnf)
      refine decN (fun h => absurd rfl h) (fun _ => ?_)
      (conv => whnf)
      refine ⟨R.2.2, hB, [], [.same 0, .same 6, .same 2, .same 3], ?_⟩
      repeat' first | exact trivial | exact rfl | refine And.intro ?_ ?_
    · (conv => whnf)
      refine ⟨R.2.2, hB, [], [.same 0, .same 4, .same 2, .same 3], ?_⟩
      repeat' first | exact trivial | exact rfl | refine And.intro ?_ ?_
  refine XM.of ?_
  (conv => whnf)
  refine cl [] [] (flatFiles_spec M hM t) (by (repeat' first | exact trivial | exact rfl | refine And.intro ?_ ?_); first | done | fail) (by first | exact trivial | exact rfl) ?_
  by_cases hz : (filesP M t).2 ≠ 0
  · rw [files_nil hz]
    (conv => whnf)
    refine decN (fun _ => ?_) (fun h => absurd h hz)
    (conv => whnf)
    exact rtB rfl
  have hz : (filesP M t).2 = 0 := Classical.not_not.1 hz
  obtain ⟨f1, f2, f3⟩ := files_told hM hz
  have hmp : ∀ f ∈ (filesP M t).1, f.path.length ≤ 4000000 := fun f hf => by
    obtain ⟨q1, q2⟩ := tree_ok hM f1.1
    have h1 := ((f1.2.apt hM q1 q2).2 f hf).1
    have h2 := unsp_bound (spl f.path) fun s hs => name_len (namesF_all h1 s hs)
    rw [unsp_spl] at h2
    have := f3 f hf
    omega
  have hlast := back_second hM (t := t) hz
  have hB := (buildP_ok hM (filesP M t).1).1
  rw [hz]
  (conv => whnf)
  refine cl [4] [0, 1] (flatBuild_spec M (filesP M t).1 hM hmp) (by (repeat' first | exact trivial | exact rfl | refine And.intro ?_ ?_); first | done | fail) (by first | exact trivial | exact rfl) ?_
  generalize buildP M (filesP M t).1 = R at *
  (conv => whnf)
  refine decN (fun h => ?_) (fun h => ?_)
  · have : R.2.1 = 15 := hlast.resolve_right fun h2 => h h2.1
    rw [this]
    (conv => whnf)
    exact rtB rfl
  have hlast := (hlast.resolve_left fun h2 => by rw [h2] at h; cases h).2
  (conv => whnf)
  refine ⟨[t], rfl, ?_⟩
  (conv => whnf)
  refine cl [] [] (reach_spec R.2.2 hB [t] (by simp)) (by (repeat' first | exact trivial | exact rfl | refine And.intro ?_ ?_); first | done | fail) (by first | exact trivial | exact rfl) ?_
  have hrl := reach_len (l := R.2.2) (ids := [t])
  have hRl := hB.len
  generalize reachP R.2.2 [t] = q at *
  (conv => whnf)
  refine lp Nat (fun i => ⟨[(2, .c (.int .i64 t)), (7, .c (.ptr 0 0)), (8, .c (.ptr 2 0)), (18, .c (.int .i64 R.1)), (20, .c (.rw 4)), (21, .c (.int .i64 i))], [.box [.rw 1], .row 6 Ob encOb R.2.2, .box [.rw 3], .row 6 Ob encOb L, .row 1 Int encI q]⟩) (fun i => i ≤ q.length ∧ (q.take i).any (bareB R.2.2 t) = false) (fun i => q.length - i) 0 [] [.same 0, .same 5, .same 2, .same 3, .same 7] ?_ ?_ (fun i hi => ?_)
  · simp
  · repeat' first | exact trivial | exact rfl | refine And.intro ?_ ?_
  (conv => whnf)
  refine dec (fun h4 => ?_) (fun h4 => ?_)
  · have hlt : i < q.length := by omega
    have hst := any_succ (p := bareB R.2.2 t) hlt
    rw [hi.2, Bool.false_or] at hst
    (conv => whnf)
    refine ⟨i, ⟨rfl, hlt⟩, ?_⟩
    (conv => whnf)
    refine ⟨q[i], List.getElem?_eq_getElem hlt, ?_⟩
    (conv => whnf)
    refine cl [] [] (get_spec R.2.2 hB q[i]) (by (repeat' first | exact trivial | exact rfl | refine And.intro ?_ ?_); first | done | fail) (by first | exact trivial | exact rfl) ?_
    (conv => whnf)
    refine ⟨i, ⟨rfl, hlt⟩, ?_⟩
    (conv => whnf)
    refine ⟨q[i], List.getElem?_eq_getElem hlt, ?_⟩
    (conv => whnf)
    refine decN (fun c1 => ?_) (fun c1 => ?_)
    · (conv => whnf)
      refine dec (fun c2 => ?_) (fun c2 => ?_)
      · (conv => whnf)
        refine dec (fun c3 => ?_) (fun c3 => ?_)
        · (conv => whnf)
          exact rtB rfl
        · have hb0 : bareB R.2.2 t q[i] = false := by
            unfold bareB
            rw [show decide ((getP R.2.2 q[i]).entries.length = 0) = false from decide_eq_false (by omega), Bool.and_false, Bool.and_false]
          rw [hb0] at hst
          repeat' ((conv => whnf); first | (refine dec (fun h => ?_) (fun h => ?_) <;> try contradiction) | (refine decN (fun h => ?_) (fun h => ?_) <;> try contradiction) | refine booN (fun h => ?_) (fun h => ?_) | refine boo (fun h => ?_) (fun h => ?_) | refine ⟨i64 (by omega) (by omega), ?_⟩ | refine ⟨_, _, rfl, List.getElem?_eq_getElem (by omega), ?_⟩ | refine ⟨_, ⟨rfl, by omega⟩, ?_⟩ | refine ⟨_, List.getElem?_eq_getElem (by omega), ?_⟩ | refine rtB ?_ | refine rtI ?_ | refine rtC ?_ rfl | fail)
          refine ag (i + 1) [] [.same 0, .same 1, .same 2, .same 3, .same 4] ⟨hlt, hst⟩ (by simp only []; omega) ?_
          repeat' first | exact trivial | exact rfl | refine And.intro ?_ ?_
      · have hb0 : bareB R.2.2 t q[i] = false := by
          unfold bareB
          rw [decide_eq_false c2, Bool.false_and, Bool.and_false]
        rw [hb0] at hst
        repeat' ((conv => whnf); first | (refine dec (fun h => ?_) (fun h => ?_) <;> try contradiction) | (refine decN (fun h => ?_) (fun h => ?_) <;> try contradiction) | refine booN (fun h => ?_) (fun h => ?_) | refine boo (fun h => ?_) (fun h => ?_) | refine ⟨i64 (by omega) (by omega), ?_⟩ | refine ⟨_, _, rfl, List.getElem?_eq_getElem (by omega), ?_⟩ | refine ⟨_, ⟨rfl, by omega⟩, ?_⟩ | refine ⟨_, List.getElem?_eq_getElem (by omega), ?_⟩ | refine rtB ?_ | refine rtI ?_ | refine rtC ?_ rfl | fail)
        refine ag (i + 1) [] [.same 0, .same 1, .same 2, .same 3, .same 4] ⟨hlt, hst⟩ (by simp only []; omega) ?_
        repeat' first | exact trivial | exact rfl | refine And.intro ?_ ?_
    · have hb0 : bareB R.2.2 t q[i] = false := by
        unfold bareB
        rw [decide_eq_false (by simpa using c1), Bool.false_and]
      rw [hb0] at hst
      repeat' ((conv => whnf); first | (refine dec (fun h => ?_) (fun h => ?_) <;> try contradiction) | (refine decN (fun h => ?_) (fun h => ?_) <;> try contradiction) | refine booN (fun h => ?_) (fun h => ?_) | refine boo (fun h => ?_) (fun h => ?_) | refine ⟨i64 (by omega) (by omega), ?_⟩ | refine ⟨_, _, rfl, List.getElem?_eq_getElem (by omega), ?_⟩ | refine ⟨_, ⟨rfl, by omega⟩, ?_⟩ | refine ⟨_, List.getElem?_eq_getElem (by omega), ?_⟩ | refine rtB ?_ | refine rtI ?_ | refine rtC ?_ rfl | fail)
      refine ag (i + 1) [] [.same 0, .same 1, .same 2, .same 3, .same 4] ⟨hlt, hst⟩ (by simp only []; omega) ?_
      repeat' first | exact trivial | exact rfl | refine And.intro ?_ ?_
  · have hno := hi.2
    rw [List.take_of_length_le (by omega)] at hno
    have hRt : R.1 = t := by
      rcases hlast with h | ⟨k, h1, h2, h3⟩
      · exact h
      · have := any_mem h1 (bare_of h2 h3)
        rw [hno] at this; cases this
    (conv => whnf)
    refine dec (fun _ => ?_) (fun h => absurd hRt h)
    (conv => whnf)
    exact rtB rfl
theorem flatBack_all (o : List Ob) (l : List Fi) (t : Int) (k1 : ∀ f ∈ l, f.path.length ≤ 140737488351232 ∧ True ∧ True ∧ True) : Does Tryd.prog 5 [.c (.ls 6 Ob encOb o), .c (.ls 4 Fi encFi l), .c (.int .i64 t)] [] (Rt (.c (.bool true)) []) :=
  flatBack_spec o l t (fun f hf => (k1 f hf).1)
end Go.Nest
end
