/- WALKS, K13: of the law of works: great steps, a pair, documents that are the same. -/
import Derived.Test.YtogallppofinhaaGreatDoorK12
section
namespace Go.Nest
open Go Go.AM Go.Proofs
open Go.Proofs.YtogallppofinhaaGreatDoor (tab tabOk)
set_option linter.unusedVariables false
set_option linter.unusedSimpArgs false
set_option maxRecDepth 4000
def ws0 : WS := ⟨[], [], -1, []⟩
theorem ws0_inv : WInv ws0 := ⟨.nil, WOk.nil, fun x h => (by cases h), .inl (by decide)⟩
theorem newWork_spec (L : List Ob) : Does Tryz.prog 81 [.c (.ptr 0 0)] [.box [.rw 1], .row 6 Ob encOb L] (Rt (.c (.ptr 2 0)) [.box [.rw 1], .row 6 Ob encOb L, .box [.ptr 0 0, .rw 3, .int .i64 (-1)], .row 5 It encIt []]) := by
  refine X_spec (n := 6) (n0 := 2) tabOk Tryz.call81 Tryz.func81 ?_
  intro hb
  (conv => whnf)
  exact rx [] [.same 0, .same 1, .same 2, .new]
theorem newPair_spec : Does Tryz.prog 17 [] [] (Rt (.c (.ptr 0 0)) [.box [.ptr 2 0, .ptr 1 0, .ptr 5 0, .rw 9], .box [.ptr 2 0, .rw 4, .int .i64 ws0.h], .box [.rw 3], .row 6 Ob encOb ws0.L, .row 5 It encIt ws0.l, .box [.ptr 6 0, .rw 8, .int .i64 ws0.h], .box [.rw 7], .row 6 Ob encOb ws0.L, .row 5 It encIt ws0.l, .row 1 Int encI ws0.made]) := by
  refine X_spec (n := 12) (n0 := 0) tabOk Tryz.call17 Tryz.func17 ?_
  intro hb
  (conv => whnf)
  refine cl [] [] (new_spec) ?_
  (conv => whnf)
  refine cl [] [0, 1] (newWork_spec []) ?_
  (conv => whnf)
  exact rx [] [.same 6, .same 2, .same 0, .same 1, .same 3, .same 5, .same 4, .new, .new, .new]
def sumW (l : List Ws) : Nat := (l.map fun x => x.path.length + x.bytes.length + x.text.length).sum
theorem sumW_take {l : List Ws} {i : Nat} (h : i < l.length) : sumW (l.take (i + 1)) = sumW (l.take i) + (l[i].path.length + l[i].bytes.length + l[i].text.length) := by
  unfold sumW
  rw [List.take_succ_eq_append_getElem h, List.map_append, List.sum_append]; simp
theorem sumW_le {l : List Ws} {n : Nat} (h : ∀ x ∈ l, x.path.length + x.bytes.length + x.text.length ≤ n) : sumW l ≤ l.length * n := by
  induction l with
  | nil => simp [sumW]
  | cons x l ih =>
    have h1 := h x (by simp)
    have h2 := ih fun y hy => h y (by simp [hy])
    have : sumW (x :: l) = x.path.length + x.bytes.length + x.text.length + sumW l := by simp [sumW]
    rw [this, List.length_cons, Nat.add_mul]; omega
theorem sumW_mem {l : List Ws} {x : Ws} (h : x ∈ l) : x.path.length + x.bytes.length + x.text.length ≤ sumW l := by
  induction l with
  | nil => cases h
  | cons y l ih =>
    have : sumW (y :: l) = y.path.length + y.bytes.length + y.text.length + sumW l := by simp [sumW]
    rcases List.mem_cons.1 h with rfl | h
    · omega
    · have := ih h; omega
def greatW (l : List Ws) : Bool := decide (50 < l.length) || decide (8000 < sumW (l.take 100))
theorem greatW_ok {l : List Ws} (h : greatW l = false) : l.length ≤ 50 ∧ ∀ x ∈ l, x.path.length ≤ 8000 := by
  unfold greatW at h
  rw [Bool.or_eq_false_iff, decide_eq_false_iff_not, decide_eq_false_iff_not] at h
  refine ⟨by omega, fun x hx => ?_⟩
  rw [List.take_of_length_le (by omega)] at h
  have := sumW_mem hx; omega
def WsFit (l : List Ws) : Prop := ∀ x ∈ l, x.path.length ≤ 140737488351232 ∧ x.bytes.length ≤ 140737488351232 ∧ x.text.length ≤ 140737488351232
theorem sumW_fit {l : List Ws} {i n m k : Nat} (h : ∀ x ∈ l, x.path.length + x.bytes.length + x.text.length ≤ n) (hi : i ≤ m) (hk : m * n = k) : sumW (l.take i) ≤ k := by
  have h1 := sumW_le (l := l.take i) (n := n) fun x hx => h x (List.mem_of_mem_take hx)
  rw [List.length_take] at h1
  have h2 : min i l.length * n ≤ m * n := Nat.mul_le_mul_right _ (by omega)
  omega
theorem sumW_bnd {l : List Ws} {i : Nat} (hl : WsFit l) (hi : i ≤ 100) : sumW (l.take i) ≤ 42221246505369600 :=
  sumW_fit (n := 422212465053696) (m := 100) (fun x hx => by obtain ⟨a, b, c⟩ := hl x hx; omega) hi (by decide)
theorem greatWork_spec (l : List Ws) (hl : WsFit l) : Does Tryz.prog 16 [.c (.bs 7 Ws encWs l)] [] (Rt (.c (.bool (greatW l))) []) := by
  refine X_spec (n := 44) (n0 := 0) tabOk Tryz.call16 Tryz.func16 ?_
  intro hb; have hb : l.length ≤ 9223372036854775807 := hb.1.1
  (conv => whnf)
  refine lp Nat (fun i => ⟨[(0, .c (.bs 7 Ws encWs l)), (3, .c (.int .i64 (sumW (l.take i)))), (4, .c (.int .i64 i))], []⟩) (fun i => (i ≤ l.length ∧ i ≤ 100) ∧ True) (fun i => l.length - i) 0 [] [] ?_ ?_ (fun i hi => ?_)
  · simp
  · repeat' first | exact trivial | exact rfl | refine And.intro ?_ ?_
  have hsm : sumW (l.take i) ≤ 42221246505369600 := sumW_bnd hl (by omega)
  have fin : ¬ (i < l.length ∧ i < 100) → l.take 100 = l.take i := fun h => by
    by_cases h1 : i = 100
    · rw [h1]
    · rw [List.take_of_length_le (by omega), List.take_of_length_le (by omega)]
  (conv => whnf)
  refine dec (fun h4 => ?_) (fun h4 => ?_)
  · (conv => whnf)
    refine dec (fun h5 => ?_) (fun h5 => ?_)
    · have hlt : i < l.length := by omega
      have hst := sumW_take hlt
      have hiy : l[i]? = some l[i] := List.getElem?_eq_getElem hlt
      obtain ⟨b1, b2, b3⟩ := hl _ (List.getElem_mem hlt)
      generalize l[i] = x at *
      (conv => whnf)
      refine ⟨false, .grow, (.l [0, 1, 2, 3, 4, 5, 6, 7, 8, 9, 10, 11, 12, 13, 14, 15, 16, 17, 18, 19, 20, 21, 22]), by kernel_rfl, .inl ?_⟩
      (conv => whnf)
      refine ⟨i, x, rfl, hiy, ?_⟩
      (conv => whnf)
      refine ⟨i, x, rfl, hiy, ?_⟩
      (conv => whnf)
      refine ⟨i64 (by omega) (by omega), ?_⟩
      (conv => whnf)
      refine ⟨i, x, rfl, hiy, ?_⟩
      repeat' ((conv => whnf); first | (refine dec (fun h => ?_) (fun h => ?_) <;> try contradiction) | (refine decN (fun h => ?_) (fun h => ?_) <;> try contradiction) | refine booN (fun h => ?_) (fun h => ?_) | refine boo (fun h => ?_) (fun h => ?_) | refine ⟨i64 (by omega) (by omega), ?_⟩ | refine ⟨_, _, rfl, List.getElem?_eq_getElem (by omega), ?_⟩ | refine ⟨_, ⟨rfl, by omega⟩, ?_⟩ | refine ⟨_, List.getElem?_eq_getElem (by omega), ?_⟩ | refine rtB ?_ | refine rtI ?_ | refine rtC ?_ rfl | fail)
      refine ag (i + 1) [] [] ⟨⟨hlt, by omega⟩, trivial⟩ (by simp only []; omega) ?_
      rw [hst]
      repeat' first | exact trivial | exact rfl | refine And.intro ?_ ?_
    · unfold greatW
      rw [fin (by omega)]
      (conv => whnf)
      refine dec (fun h6 => ?_) (fun h6 => ?_)
      · (conv => whnf)
        exact rtB (by rw [show decide (50 < l.length) = true from decide_eq_true (by omega)]; rfl)
      · (conv => whnf)
        exact rtB (by rw [show decide (50 < l.length) = false from decide_eq_false (by omega), Bool.false_or, decide_eq_decide]; omega)
  · unfold greatW
    rw [fin (by omega)]
    (conv => whnf)
    refine dec (fun h6 => ?_) (fun h6 => ?_)
    · (conv => whnf)
      exact rtB (by rw [show decide (50 < l.length) = true from decide_eq_true (by omega)]; rfl)
    · (conv => whnf)
      exact rtB (by rw [show decide (50 < l.length) = false from decide_eq_false (by omega), Bool.false_or, decide_eq_decide]; omega)
theorem sameDocs_spec (a : List Dc) : Does Tryz.prog 22 [.c (.bs 2 Dc encDc a), .c (.bs 2 Dc encDc a)] [] (Rt (.c (.bool true)) []) := by
  refine X_spec (n := 42) (n0 := 0) tabOk Tryz.call22 Tryz.func22 ?_
  intro hb; have hb : a.length ≤ 9223372036854775807 := hb.1.1
  (conv => whnf)
  refine decN (fun h => absurd rfl h) (fun _ => ?_)
  (conv => whnf)
  refine lp Nat (fun i => ⟨[(0, .c (.bs 2 Dc encDc a)), (1, .c (.bs 2 Dc encDc a)), (5, .c (.int .i64 i))], []⟩) (fun i => i ≤ a.length ∧ True) (fun i => a.length - i) 0 [] [] ?_ ?_ (fun i hi => ?_)
  · simp
  · repeat' first | exact trivial | exact rfl | refine And.intro ?_ ?_
  (conv => whnf)
  refine dec (fun h4 => ?_) (fun h4 => ?_)
  · have hlt : i < a.length := by omega
    have hiy : a[i]? = some a[i] := List.getElem?_eq_getElem hlt
    have p1 := sameBytes_spec a[i].bytes a[i].bytes
    rw [show decide (a[i].bytes = a[i].bytes) = true from decide_eq_true rfl] at p1
    (conv => whnf)
    refine ⟨false, .grow, (.l [0, 1, 2, 3, 4, 5, 6, 7, 8, 9, 10, 11, 12, 13, 14, 15, 16, 17, 18, 19, 20, 21, 22, 23, 24]), by kernel_rfl, .inl ?_⟩
    (conv => whnf)
    refine ⟨i, a[i], rfl, hiy, ?_⟩
    (conv => whnf)
    refine ⟨i, a[i], rfl, hiy, ?_⟩
    (conv => whnf)
    refine decN (fun h => absurd rfl h) (fun _ => ?_)
    (conv => whnf)
    refine ⟨i, a[i], rfl, hiy, ?_⟩
    (conv => whnf)
    refine ⟨i, a[i], rfl, hiy, ?_⟩
    (conv => whnf)
    refine cl [] [] (p1) ?_
    repeat' ((conv => whnf); first | (refine dec (fun h => ?_) (fun h => ?_) <;> try contradiction) | (refine decN (fun h => ?_) (fun h => ?_) <;> try contradiction) | refine booN (fun h => ?_) (fun h => ?_) | refine boo (fun h => ?_) (fun h => ?_) | refine ⟨i64 (by omega) (by omega), ?_⟩ | refine ⟨_, _, rfl, List.getElem?_eq_getElem (by omega), ?_⟩ | refine ⟨_, ⟨rfl, by omega⟩, ?_⟩ | refine ⟨_, List.getElem?_eq_getElem (by omega), ?_⟩ | refine rtB ?_ | refine rtI ?_ | refine rtC ?_ rfl | fail)
    refine ag (i + 1) [] [] ⟨hlt, trivial⟩ (by simp only []; omega) ?_
    repeat' first | exact trivial | exact rfl | refine And.intro ?_ ?_
  · repeat' ((conv => whnf); first | (refine dec (fun h => ?_) (fun h => ?_) <;> try contradiction) | (refine decN (fun h => ?_) (fun h => ?_) <;> try contradiction) | refine booN (fun h => ?_) (fun h => ?_) | refine boo (fun h => ?_) (fun h => ?_) | refine ⟨i64 (by omega) (by omega), ?_⟩ | refine ⟨_, _, rfl, List.getElem?_eq_getElem (by omega), ?_⟩ | refine ⟨_, ⟨rfl, by omega⟩, ?_⟩ | refine ⟨_, List.getElem?_eq_getElem (by omega), ?_⟩ | refine rtB ?_ | refine rtI ?_ | refine rtC ?_ rfl | fail)
    rfl
end Go.Nest
end
/- WALKS, K14: of the law of works: they begin. -/
section
namespace Go.Nest
open Go Go.AM Go.Proofs
open Go.Proofs.YtogallppofinhaaGreatDoor (tab tabOk)
set_option linter.unusedVariables false
set_option linter.unusedSimpArgs false
set_option maxRecDepth 4000
def wl1 : List It := [⟨[97, 47, 98], [120], false, 0, 0⟩]
def wbA : List Ob := (commW [] wl1 (-1) [111, 110, 101] []).2.2
def wbI : Int := (commW [] wl1 (-1) [111, 110, 101] []).1
theorem wb1 : wrW [] [97, 47, 98] [120] = (0, wl1) := by rfl
theorem wb2 : (commW [] wl1 (-1) [111, 110, 101] []).2.1 = 0 ∧ headW [] wl1 (-1) [111, 110, 101] [] = wbI := by decide +kernel
theorem wb3 : wrW wl1 [97] [] = (10, wl1) := by rfl
theorem wb4 : remW wl1 [97, 47, 98] = (0, []) := by rfl
theorem wb5 : coC wbA [] wbI wbI = 13 ∧ coW wbA [] wbI wbI = [] ∧ coH wbA [] wbI wbI = wbI ∧ coL wbA [] wbI = (treeW wbA []).2.2 := by decide +kernel
theorem workBegun_spec : Does Tryz.prog 15 [] [] (Rt (.c (.bool true)) []) := by
  have o1 : WOk wl1 := (put_ok WOk.nil ⟨[97, 47, 98], [120], false, 0, 0⟩).1
  have b1 : ∀ y ∈ wl1, y.path.length ≤ 4000000 := fun y hy => by rw [wl1, List.mem_singleton] at hy; subst hy; decide
  have p1 := write_wspec [] [] (-1) [97, 47, 98] [120] (by decide) (fun y h => by cases h) (by decide)
  have p2 := commit_wspec [] .nil wl1 (-1) b1 (by decide) [111, 110, 101] [] (by decide) (.inl (by decide))
  have hA := (commW_ok (l := wl1) (h := -1) (text := [111, 110, 101]) (others := []) PoolOk.nil).1
  have hh := comm_head PoolOk.nil (l := wl1) (h := -1) (.inl (by decide)) [111, 110, 101] []
  rw [wb1] at p1
  rw [wb2.1, wb2.2] at p2
  rw [wb2.2] at hh
  rw [show (commW [] wl1 (-1) [111, 110, 101] []).1 = wbI from rfl] at p2
  rw [show (commW [] wl1 (-1) [111, 110, 101] []).2.2 = wbA from rfl] at p2 hA hh
  have p3 := write_wspec wbA wl1 wbI [97] [] (by decide) b1 (by decide)
  rw [wb3] at p3
  have p4 := remove_wspec wbA wl1 wbI [97, 47, 98] (by decide)
  rw [wb4] at p4
  have p5 := checkout_wspec wbA hA [] wbI (fun y h => by cases h) (by decide) wbI
  rw [wb5.1, wb5.2.1, wb5.2.2.1, wb5.2.2.2] at p5
  refine X_spec (n := 64) (n0 := 0) tabOk Tryz.call15 Tryz.func15 ?_
  intro hb
  (conv => whnf)
  refine cl [] [] (new_spec) ?_
  (conv => whnf)
  refine cl [] [0, 1] (newWork_spec []) ?_
  (conv => whnf)
  refine ⟨[120], rfl, ?_⟩
  (conv => whnf)
  refine cl [] [2, 0, 1, 3] (p1) ?_
  (conv => whnf)
  refine cl [] [2, 0, 5, 6] (p2) ?_
  (conv => whnf)
  refine cl [] [2, 0, 7, 8] (p3) ?_
  (conv => whnf)
  refine cl [] [2, 0, 9, 10] (p4) ?_
  (conv => whnf)
  refine cl [] [2, 0, 11, 12] (p5) ?_
  (conv => whnf)
  refine cl [] [] (head_wspec (treeW wbA []).2.2 [] wbI) ?_
  (conv => whnf)
  refine cl [] [] (docs_wspec (treeW wbA []).2.2 [] wbI (by decide) (fun x h => by cases h)) ?_
  (conv => whnf)
  exact rtB (by rw [decide_eq_true_iff]; rfl)
end Go.Nest
end
