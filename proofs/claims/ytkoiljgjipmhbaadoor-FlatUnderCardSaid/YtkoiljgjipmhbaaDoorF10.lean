/- WALKS, F8: what each law of the flat files begins with. -/
import Derived.Test.YtkoiljgjipmhbaaDoorF7
import Derived.Test.YtkoiljgjipmhbaaDoorG12
section
namespace Go.Nest
open Go Go.AM Go.Proofs
open Go.Proofs.YtkoiljgjipmhbaaDoor (tab tabOk)
set_option linter.unusedVariables false
set_option linter.unusedSimpArgs false
set_option maxRecDepth 4000

theorem any_succ {α : Type} {p : α → Bool} {l : List α} {i : Nat} (h : i < l.length) : (l.take (i + 1)).any p = ((l.take i).any p || p l[i]) := by
  rw [List.take_succ_eq_append_getElem h, List.any_append]; simp
theorem filter_succ {α : Type} {p : α → Bool} {l : List α} {i : Nat} (h : i < l.length) : (l.take (i + 1)).filter p = (l.take i).filter p ++ if p l[i] = true then [l[i]] else [] := by
  rw [List.take_succ_eq_append_getElem h, List.filter_append, List.filter_cons]
  split <;> simp

def fA : Ob := ⟨1, [], [], 0, [], []⟩
def fB : Ob := ⟨2, [], [⟨[98], 1, 0, 0⟩], 0, [], []⟩
def fC : Ob := ⟨2, [], [⟨[97], 2, 1, 0⟩, ⟨[99], 1, 0, 0⟩], 0, [], []⟩
def fl1 : Fi := ⟨[97, 47, 98], 1, 0, 0⟩
def fl2 : Fi := ⟨[99], 1, 0, 0⟩
def fl3 : Fi := ⟨[97], 1, 0, 0⟩
theorem fb1 : putP [] fA = (0, 0, [fA]) := by decide +kernel
theorem fb2 : buildP [fA] [fl1, fl2] = (2, 0, [fA, fB, fC]) := by decide +kernel
theorem fb3 : filesP [fA, fB, fC] 2 = ([fl1, fl2], 0) := by decide +kernel
theorem fb4 : atF [fA, fB, fC] 2 [97] = (1, 0) := by decide +kernel
theorem fb5 : filesF [fl3, fl1] = 10 := by decide +kernel
theorem fb6 : diffP [fl1, fl2] [fl2] = [⟨[97, 47, 98], fl1, fi0⟩] := by
  rw [diffP, if_pos (by decide +kernel), diff_self]; rfl
theorem fok1 : PoolOk [fA] := by have := putP_ok .nil fA; rw [fb1] at this; exact this
theorem fok3 : PoolOk [fA, fB, fC] := by have := (buildP_ok fok1 [fl1, fl2]).1; rw [fb2] at this; exact this

set_option maxHeartbeats 2000000 in
theorem flatBegun_spec : Does Tryd.prog 6 [] [] (Rt (.c (.bool true)) []) := by
  have p1 := put_spec [] fA (by decide)
  have p2 := flatBuild_spec [fA] [fl1, fl2] fok1 (by decide)
  have p3 := flatFiles_spec [fA, fB, fC] fok3 2
  have p4 := at_spec [fA, fB, fC] fok3 2 [97] (by decide)
  have p5 := flatCheck_spec [fl3, fl1] (by decide)
  have p6 := diff_spec [fl1, fl2] [fl2] (by decide) (by decide) (by decide) (by decide)
  rw [fb1] at p1
  rw [fb2] at p2
  rw [fb3] at p3
  rw [fb4] at p4
  rw [fb5] at p5
  rw [fb6] at p6
  dsimp only at p1 p2 p3 p4 p5 p6
  refine X_spec ⟨Tryd.prog, tab, 72, 0⟩ tabOk (by kernel_rfl) Tryd.call6 Tryd.func6 rfl rfl (by kernel_rfl) rfl ?_
  intro hb
  (conv => whnf)
  refine cl [] [] (new_spec) (by (repeat' first | exact trivial | exact rfl | refine And.intro ?_ ?_); first | done | fail) (by first | exact trivial | exact rfl) ?_
  (conv => whnf)
  refine cl [] [0, 1] (p1) (by (repeat' first | exact trivial | exact rfl | refine And.intro ?_ ?_); first | done | fail) (by first | exact trivial | exact rfl) ?_
  (conv => whnf)
  refine ⟨[fl1, fl2], rfl, ?_⟩
  (conv => whnf)
  refine cl [3] [0, 2] (p2) (by (repeat' first | exact trivial | exact rfl | refine And.intro ?_ ?_); first | done | fail) (by first | exact trivial | exact rfl) ?_
  (conv => whnf)
  refine cl [] [] (p3) (by (repeat' first | exact trivial | exact rfl | refine And.intro ?_ ?_); first | done | fail) (by first | exact trivial | exact rfl) ?_
  (conv => whnf)
  refine cl [] [] (p4) (by (repeat' first | exact trivial | exact rfl | refine And.intro ?_ ?_); first | done | fail) (by first | exact trivial | exact rfl) ?_
  (conv => whnf)
  refine cl [] [] (sameFiles_spec [fl1, fl2] [fl1, fl2]) (by (repeat' first | exact trivial | exact rfl | refine And.intro ?_ ?_); first | done | fail) (by first | exact trivial | exact rfl) ?_
  rw [show decide ([fl1, fl2] = [fl1, fl2]) = true from decide_eq_true rfl]
  (conv => whnf)
  refine ⟨1, 2, rfl, rfl, by decide, ?_⟩
  (conv => whnf)
  refine cl [] [] (p6) (by (repeat' first | exact trivial | exact rfl | refine And.intro ?_ ?_); first | done | fail) (by first | exact trivial | exact rfl) ?_
  (conv => whnf)
  refine ⟨[fl3, fl1], rfl, ?_⟩
  (conv => whnf)
  refine cl [] [] (p5) (by (repeat' first | exact trivial | exact rfl | refine And.intro ?_ ?_); first | done | fail) (by first | exact trivial | exact rfl) ?_
  (conv => whnf)
  exact rtB rfl
end Go.Nest
end
/- WALKS, F10: FlatUnder. -/
section
namespace Go.Nest
open Go Go.AM Go.Proofs
open Go.Proofs.YtkoiljgjipmhbaaDoor (tab tabOk)
set_option linter.unusedVariables false
set_option linter.unusedSimpArgs false
set_option maxRecDepth 4000

theorem behind_succ {d : List UInt8} {l : List Fi} {i : Nat} (h : i < l.length) : behindF d (l.take (i + 1)) = behindF d (l.take i) ++ match under l[i].path d with
    | some p => [⟨p, l[i].mode, l[i].id, l[i].repo⟩]
    | none => [] := by
  rw [List.take_succ_eq_append_getElem h, behind_app]
  congr 1
  unfold behindF
  rw [List.filterMap_cons, List.filterMap_nil]
  unfold stripF
  cases under l[i].path d <;> rfl

set_option maxHeartbeats 4000000 in
theorem flatUnder_spec (o : List Ob) (l : List Fi) (dir : List UInt8) (hp : ∀ f ∈ l, f.path.length ≤ 140737488351232) : Does Tryd.prog 4 [.c (.ls 6 Ob encOb o), .c (.ls 4 Fi encFi l), .c (.str dir)] [] (Rt (.c (.bool true)) []) := by
  refine X_spec ⟨Tryd.prog, tab, 121, 0⟩ tabOk (by kernel_rfl) Tryd.call4 Tryd.func4 rfl rfl (by kernel_rfl) rfl ?_
  intro hb
  (conv => whnf)
  refine cl [] [] (flatBegun_spec) (by (repeat' first | exact trivial | exact rfl | refine And.intro ?_ ?_); first | done | fail) (by first | exact trivial | exact rfl) ?_
  (conv => whnf)
  refine cl [] [] (greatObjects_spec o) (by (repeat' first | exact trivial | exact rfl | refine And.intro ?_ ?_); first | done | fail) (by first | exact trivial | exact rfl) ?_
  (conv => whnf)
  refine boo (fun g1 => ?_) (fun g1 => ?_)
  · (conv => whnf)
    exact rtC rfl rfl
  (conv => whnf)
  refine cl [] [] (greatFiles_spec l hp) (by (repeat' first | exact trivial | exact rfl | refine And.intro ?_ ?_); first | done | fail) (by first | exact trivial | exact rfl) ?_
  (conv => whnf)
  refine boo (fun ga => ?_) (fun ga => ?_)
  · (conv => whnf)
    exact rtC rfl rfl
  obtain ⟨la, _, pa⟩ := greatF_ok ga
  have pa4 : ∀ f ∈ l, f.path.length ≤ 4000000 := fun f h => by have := pa f h; omega
  (conv => whnf)
  refine dec (fun h => ?_) (fun hd => ?_)
  · (conv => whnf)
    exact rtC rfl rfl
  have hd4 : dir.length ≤ 4000000 := by omega
  (conv => whnf)
  refine cl [] [] (pools_spec o) (by (repeat' first | exact trivial | exact rfl | refine And.intro ?_ ?_); first | done | fail) (by first | exact trivial | exact rfl) ?_
  have hL : PoolOk (putAll [] o) := putAll_ok .nil
  generalize putAll [] o = L at *
  (conv => whnf)
  refine cl [] [0, 1] (flatBuild_spec L l hL pa4) (by (repeat' first | exact trivial | exact rfl | refine And.intro ?_ ?_); first | done | fail) (by first | exact trivial | exact rfl) ?_
  have hB := buildP_ok hL l
  have hT := buildP_tree hL (l := l)
  have hA : (buildP L l).2.1 = 0 → (splitP dir).2 = 0 → _ := fun h h2 => at_tree hL h h2
  generalize buildP L l = R at *
  (conv => whnf)
  refine decN (fun h => ?_) (fun h0 => ?_)
  · (conv => whnf)
    exact rtC rfl rfl
  have h60 := (filesF_all (hT h0).1).1
  have hA := hA h0
  (conv => whnf)
  refine lp Nat (fun i => ⟨[(1, .c (.ls 4 Fi encFi l)), (2, .c (.str dir)), (7, .c (.ptr 0 0)), (10, .c (.int .i64 R.1)), (12, .c (.rw 2)), (13, .c (.int .i64 i))], [.box [.rw 1], .row 6 Ob encOb R.2.2, .row 4 Fi encFi (behindF dir (l.take i))]⟩) (fun i => i ≤ l.length ∧ True) (fun i => l.length - i) 0 [] [.same 0, .same 4, .new] ?_ ?_ (fun i hi => ?_)
  · simp
  · repeat' first | exact trivial | exact rfl | refine And.intro ?_ ?_
  (conv => whnf)
  refine dec (fun h4 => ?_) (fun h4 => ?_)
  · have hlt : i < l.length := by omega
    have hst := behind_succ (d := dir) hlt
    have hbl : (behindF dir (l.take i)).length ≤ 60 := Nat.le_trans behind_len (by rw [List.length_take]; omega)
    (conv => whnf)
    refine ⟨i, l[i], rfl, List.getElem?_eq_getElem hlt, ?_⟩
    (conv => whnf)
    refine cl [] [] (behind_spec l[i].path dir hd4) (by (repeat' first | exact trivial | exact rfl | refine And.intro ?_ ?_); first | done | fail) (by first | exact trivial | exact rfl) ?_
    cases hu : under l[i].path dir with
    | none =>
      rw [hu] at hst
      simp only [List.append_nil] at hst
      rw [show underP l[i].path dir = (l[i].path, false) by unfold underP; rw [hu]]
      repeat' ((conv => whnf); first | (refine dec (fun h => ?_) (fun h => ?_) <;> try contradiction) | (refine decN (fun h => ?_) (fun h => ?_) <;> try contradiction) | refine booN (fun h => ?_) (fun h => ?_) | refine boo (fun h => ?_) (fun h => ?_) | refine ⟨i64 (by omega) (by omega), ?_⟩ | refine ⟨_, _, rfl, List.getElem?_eq_getElem (by omega), ?_⟩ | refine ⟨_, ⟨rfl, by omega⟩, ?_⟩ | refine ⟨_, List.getElem?_eq_getElem (by omega), ?_⟩ | refine rtB ?_ | refine rtI ?_ | refine rtC ?_ rfl | fail)
      refine ag (i + 1) [] [.same 0, .same 1, .same 2] ⟨hlt, trivial⟩ (by simp only []; omega) ?_
      rw [hst]
      repeat' first | exact trivial | exact rfl | refine And.intro ?_ ?_
    | some p =>
      rw [hu] at hst
      simp only [] at hst
      rw [show underP l[i].path dir = (p, true) by unfold underP; rw [hu]]
      (conv => whnf)
      refine ⟨i, l[i], rfl, List.getElem?_eq_getElem hlt, ?_⟩
      (conv => whnf)
      refine ⟨[⟨p, l[i].mode, l[i].id, l[i].repo⟩], rfl, ?_⟩
      (conv => whnf)
      refine ⟨_, _, rfl, rfl, (by simp only [List.length_append, List.length_cons, List.length_nil]; omega), ?_⟩
      repeat' ((conv => whnf); first | (refine dec (fun h => ?_) (fun h => ?_) <;> try contradiction) | (refine decN (fun h => ?_) (fun h => ?_) <;> try contradiction) | refine booN (fun h => ?_) (fun h => ?_) | refine boo (fun h => ?_) (fun h => ?_) | refine ⟨i64 (by omega) (by omega), ?_⟩ | refine ⟨_, _, rfl, List.getElem?_eq_getElem (by omega), ?_⟩ | refine ⟨_, ⟨rfl, by omega⟩, ?_⟩ | refine ⟨_, List.getElem?_eq_getElem (by omega), ?_⟩ | refine rtB ?_ | refine rtI ?_ | refine rtC ?_ rfl | fail)
      refine ag (i + 1) [] [.same 0, .same 1, .same 5] ⟨hlt, trivial⟩ (by simp only []; omega) ?_
      rw [hst]
      repeat' first | exact trivial | exact rfl | refine And.intro ?_ ?_
  rw [show l.take i = l from List.take_of_length_le (by omega)]
  generalize hW : behindF dir l = W at *
  (conv => whnf)
  refine cl [] [] (at_spec R.2.2 hB.1 R.1 dir hd4) (by (repeat' first | exact trivial | exact rfl | refine And.intro ?_ ?_); first | done | fail) (by first | exact trivial | exact rfl) ?_
  (conv => whnf)
  refine cl [] [] (pathOf_spec dir hd4) (by (repeat' first | exact trivial | exact rfl | refine And.intro ?_ ?_); first | done | fail) (by first | exact trivial | exact rfl) ?_
  by_cases hs : (splitP dir).2 ≠ 0
  · have e : atF R.2.2 R.1 dir = (0, (splitP dir).2) := by unfold atF; rw [if_pos hs]
    rw [e]
    (conv => whnf)
    refine decN (fun _ => ?_) (fun h => absurd h hs)
    (conv => whnf)
    exact rtB (decide_eq_true rfl)
  have hs : (splitP dir).2 = 0 := Classical.not_not.1 hs
  have hA := hA hs
  rw [hs]
  rcases hA with ⟨u, e1, e2, e3⟩ | ⟨e1, e2⟩
  · rw [e1]
    (conv => whnf)
    have hF := flatFiles_spec R.2.2 hB.1 u
    rw [e2] at hF
    refine cl [] [] (hF) (by (repeat' first | exact trivial | exact rfl | refine And.intro ?_ ?_); first | done | fail) (by first | exact trivial | exact rfl) ?_
    have hW0 : 0 < W.length := List.length_pos_iff.2 e3
    (conv => whnf)
    refine dec (fun _ => ?_) (fun h => absurd (by omega) h)
    (conv => whnf)
    refine cl [] [] (sameFiles_spec W W) (by (repeat' first | exact trivial | exact rfl | refine And.intro ?_ ?_); first | done | fail) (by first | exact trivial | exact rfl) ?_
    rw [show decide (W = W) = true from decide_eq_true rfl]
    (conv => whnf)
    exact rtB rfl
  · rw [e1, e2]
    (conv => whnf)
    exact rtB rfl
theorem flatUnder_all (o : List Ob) (l : List Fi) (dir : List UInt8) (k1 : ∀ f ∈ l, f.path.length ≤ 140737488351232 ∧ True ∧ True ∧ True) : Does Tryd.prog 4 [.c (.ls 6 Ob encOb o), .c (.ls 4 Fi encFi l), .c (.str dir)] [] (Rt (.c (.bool true)) []) :=
  flatUnder_spec o l dir (fun f hf => (k1 f hf).1)
end Go.Nest
end
