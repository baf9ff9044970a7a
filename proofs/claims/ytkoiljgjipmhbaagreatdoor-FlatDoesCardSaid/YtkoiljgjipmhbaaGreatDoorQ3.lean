/- WALKS, Q1: parts of a list change places. -/
import Derived.Test.YtkoiljgjipmhbaaGreatDoorP11
import Derived.Test.YtkoiljgjipmhbaaGreatDoorR5
section
namespace Go.Nest
open Go Go.AM Go.Proofs
open Go.Proofs.YtkoiljgjipmhbaaGreatDoor (tab tabOk)
set_option linter.unusedVariables false
set_option linter.unusedSimpArgs false
set_option maxRecDepth 4000

theorem t_get {α : Type} {P R : List α} {u : α} {n : Nat} (h : n = P.length) : (P ++ u :: R)[n]? = some u := by subst h; simp
theorem t_set {α : Type} {P R : List α} {u v : α} {n : Nat} (h : n = P.length) : (P ++ u :: R).set n v = P ++ v :: R := by subst h; simp
theorem t_lt {α : Type} {P R : List α} {u : α} {n : Nat} (h : n = P.length) : n < (P ++ u :: R).length := by subst h; simp

theorem t_get2 {α : Type} {P Q R : List α} {u v : α} {n : Nat} (h : n = P.length + 1 + Q.length) : (P ++ u :: (Q ++ v :: R))[n]? = some v := by
  have := t_get (P := P ++ u :: Q) (R := R) (u := v) (n := n) (by simp; omega)
  simpa using this
theorem t_set2 {α : Type} {P Q R : List α} {u v w : α} {n : Nat} (h : n = P.length + 1 + Q.length) : (P ++ u :: (Q ++ v :: R)).set n w = P ++ u :: (Q ++ w :: R) := by
  have := t_set (P := P ++ u :: Q) (R := R) (u := v) (v := w) (n := n) (by simp; omega)
  simpa using this
theorem t_lt2 {α : Type} {P Q R : List α} {u v : α} {n : Nat} (h : n = P.length + 1 + Q.length) : n < (P ++ u :: (Q ++ v :: R)).length := by simp; omega

def cmpP (x y : Fi) : Int := if lessP x.path y.path = true then -1 else if lessP y.path x.path = true then 1 else 0
theorem cmpP_neg {x y : Fi} : cmpP x y < 0 ↔ lessP x.path y.path = true := by
  unfold cmpP
  split
  · simp [*]
  · split <;> simp [*]
theorem sortedF_spec (x y : Fi) (hx : x.path.length ≤ 4000000) (hy : y.path.length ≤ 4000000) : Does Tryz.prog 60 [.st (encFi x), .st (encFi y)] [] (Rt (.c (.int .i64 (cmpP x y))) []) := by
  refine X_spec ⟨Tryz.prog, tab, 17, 0⟩ tabOk (by kernel_rfl) Tryz.call60 Tryz.func60 rfl rfl (by kernel_rfl) rfl ?_
  intro hb
  (conv => whnf)
  refine cl [] [] (less_spec x.path y.path hx hy) (by (repeat' first | exact trivial | exact rfl | refine And.intro ?_ ?_); first | done | fail) (by first | exact trivial | exact rfl) ?_
  unfold cmpP
  (conv => whnf)
  refine boo (fun h => ?_) (fun h => ?_)
  · rw [if_pos h]
    (conv => whnf)
    exact rtI rfl
  · rw [if_neg (by simp [h])]
    (conv => whnf)
    refine cl [] [] (less_spec y.path x.path hy hx) (by (repeat' first | exact trivial | exact rfl | refine And.intro ?_ ?_); first | done | fail) (by first | exact trivial | exact rfl) ?_
    (conv => whnf)
    refine boo (fun h => ?_) (fun h => ?_)
    · rw [if_pos h]
      (conv => whnf)
      exact rtI rfl
    · rw [if_neg (by simp [h])]
      (conv => whnf)
      exact rtI rfl

set_option maxHeartbeats 1000000 in
theorem swapRange_spec (A U M V B : List Fi) (h : U.length = V.length) (hn : A.length + U.length + M.length + V.length + B.length ≤ 1000) (a b n : Int) (ha : a = A.length) (hb' : b = A.length + U.length + M.length) (hn' : n = U.length) : Does Tryz.prog 149 [.c (.rw 0), .c (.int .i64 a), .c (.int .i64 b), .c (.int .i64 n), .c (.fn 60 [])] [.row 4 Fi encFi (A ++ U ++ M ++ V ++ B)] (Rt (.tup []) [.row 4 Fi encFi (A ++ V ++ M ++ U ++ B)]) := by
  subst ha; subst hb'; subst hn'
  refine X_spec ⟨Tryz.prog, tab, 38, 1⟩ tabOk (by kernel_rfl) Tryz.call149 Tryz.func149 rfl rfl (by kernel_rfl) rfl ?_
  intro hb
  (conv => whnf)
  refine lp Nat (fun i => ⟨[(0, .c (.rw 0)), (1, .c (.int .i64 A.length)), (2, .c (.int .i64 ((A.length : Int) + U.length + M.length))), (3, .c (.int .i64 U.length)), (10, .c (.int .i64 i))], [.row 4 Fi encFi (A ++ (V.take i ++ U.drop i) ++ M ++ (U.take i ++ V.drop i) ++ B)]⟩) (fun i => i ≤ U.length ∧ True) (fun i => U.length - i) 0 [] [.same 0] ?_ ?_ (fun i hi => ?_)
  · simp
  · repeat' first | exact trivial | exact rfl | refine And.intro ?_ ?_
  (conv => whnf)
  refine dec (fun h4 => ?_) (fun h4 => ?_)
  · have hlt : i < U.length := by omega
    have hlv : i < V.length := by omega
    have hD : A ++ (V.take i ++ U.drop i) ++ M ++ (U.take i ++ V.drop i) ++ B = (A ++ V.take i) ++ U[i] :: ((U.drop (i + 1) ++ M ++ U.take i) ++ V[i] :: (V.drop (i + 1) ++ B)) := by
      rw [List.drop_eq_getElem_cons hlt, List.drop_eq_getElem_cons hlv]; simp only [List.append_assoc, List.cons_append, List.nil_append]
    have hE : A ++ (V.take (i + 1) ++ U.drop (i + 1)) ++ M ++ (U.take (i + 1) ++ V.drop (i + 1)) ++ B = (A ++ V.take i) ++ V[i] :: ((U.drop (i + 1) ++ M ++ U.take i) ++ U[i] :: (V.drop (i + 1) ++ B)) := by
      rw [List.take_succ_eq_append_getElem hlt, List.take_succ_eq_append_getElem hlv]; simp only [List.append_assoc, List.cons_append, List.nil_append]
    have l1 : A.length + i = (A ++ V.take i).length := by rw [List.length_append, List.length_take]; omega
    have l2 : A.length + U.length + M.length + i = (A ++ V.take i).length + 1 + (U.drop (i + 1) ++ M ++ U.take i).length := by
      simp only [List.length_append, List.length_take, List.length_drop]; omega
    rw [hD]
    generalize A ++ V.take i = P at *
    generalize U.drop (i + 1) ++ M ++ U.take i = Q at *
    generalize V.drop (i + 1) ++ B = R at *
    (conv => whnf)
    refine ⟨false, (.l [0, 1, 2, 3, 4, 5, 6, 7, 8, 9, 10, 11, 12, 13, 14, 15, 16, 17, 18, 19, 20, 21, 22, 23]), by kernel_rfl, .inl ?_⟩
    (conv => whnf)
    refine ⟨i64 (by omega) (by omega), ?_⟩
    (conv => whnf)
    refine ⟨i64 (by omega) (by omega), ?_⟩
    (conv => whnf)
    refine ⟨i64 (by omega) (by omega), ?_⟩
    (conv => whnf)
    refine ⟨A.length + U.length + M.length + i, ⟨by omega, t_lt2 l2⟩, ?_⟩
    (conv => whnf)
    refine ⟨V[i], t_get2 l2, ?_⟩
    (conv => whnf)
    refine ⟨i64 (by omega) (by omega), ?_⟩
    (conv => whnf)
    refine ⟨A.length + i, ⟨by omega, t_lt l1⟩, ?_⟩
    (conv => whnf)
    refine ⟨U[i], t_get l1, ?_⟩
    (conv => whnf)
    refine ⟨A.length + i, ⟨by omega, t_lt l1⟩, ?_⟩
    (conv => whnf)
    refine ⟨U[i], V[i], t_get l1, ⟨by simp, rfl⟩, ?_⟩
    rw [t_set l1]
    (conv => whnf)
    refine ⟨A.length + U.length + M.length + i, ⟨by omega, t_lt2 l2⟩, ?_⟩
    (conv => whnf)
    refine ⟨V[i], U[i], t_get2 l2, ⟨by simp, rfl⟩, ?_⟩
    rw [t_set2 l2]
    repeat' ((conv => whnf); first | (refine dec (fun h => ?_) (fun h => ?_) <;> try contradiction) | (refine decN (fun h => ?_) (fun h => ?_) <;> try contradiction) | refine booN (fun h => ?_) (fun h => ?_) | refine boo (fun h => ?_) (fun h => ?_) | refine ⟨i64 (by omega) (by omega), ?_⟩ | refine ⟨_, _, rfl, List.getElem?_eq_getElem (by omega), ?_⟩ | refine ⟨_, ⟨rfl, by omega⟩, ?_⟩ | refine ⟨_, List.getElem?_eq_getElem (by omega), ?_⟩ | refine rtB ?_ | refine rtI ?_ | refine rtC ?_ rfl | fail)
    refine ag (i + 1) [] [.same 0] ⟨hlt, trivial⟩ (by simp only []; omega) ?_
    rw [hE]
    repeat' first | exact trivial | exact rfl | refine And.intro ?_ ?_
  · have e : A ++ (V.take i ++ U.drop i) ++ M ++ (U.take i ++ V.drop i) ++ B = A ++ V ++ M ++ U ++ B := by
      rw [List.take_of_length_le (l := V) (by omega), List.take_of_length_le (l := U) (by omega), List.drop_of_length_le (l := V) (by omega), List.drop_of_length_le (l := U) (by omega), List.append_nil, List.append_nil]
    rw [e]
    (conv => whnf)
    refine rt [] [.same 0] (by repeat' first | exact trivial | exact rfl | refine And.intro ?_ ?_) rfl ⟨rfl, rfl⟩
end Go.Nest
end
/- WALKS, Q2: neighbours change places. -/
section
namespace Go.Nest
open Go Go.AM Go.Proofs
open Go.Proofs.YtkoiljgjipmhbaaGreatDoor (tab tabOk)
set_option linter.unusedVariables false
set_option linter.unusedSimpArgs false
set_option maxRecDepth 4000
set_option maxHeartbeats 1000000 in
theorem rotate_spec (A U V B : List Fi) (hu : 0 < U.length) (hv : 0 < V.length) (hn : (A ++ U ++ V ++ B).length ≤ 1000) (a m b : Int) (ha : a = A.length) (hm : m = A.length + U.length) (hb' : b = A.length + U.length + V.length) : Does Tryz.prog 133 [.c (.rw 0), .c (.int .i64 a), .c (.int .i64 m), .c (.int .i64 b), .c (.fn 60 [])] [.row 4 Fi encFi (A ++ U ++ V ++ B)] (Rt (.tup []) [.row 4 Fi encFi (A ++ V ++ U ++ B)]) := by
  subst ha; subst hm; subst hb'
  have hn0 : A.length + U.length + V.length + B.length ≤ 1000 := by simpa [Nat.add_assoc] using hn
  refine X_spec ⟨Tryz.prog, tab, 58, 1⟩ tabOk (by kernel_rfl) Tryz.call133 Tryz.func133 rfl rfl (by kernel_rfl) rfl ?_
  intro hb
  (conv => whnf)
  refine ⟨i64 (by omega) (by omega), ?_⟩
  (conv => whnf)
  refine ⟨i64 (by omega) (by omega), ?_⟩
  rw [show (A.length : Int) + U.length - A.length = U.length by omega, show (A.length : Int) + U.length + V.length - (A.length + U.length) = V.length by omega]
  (conv => whnf)
  refine lp (List Fi × List Fi × List Fi × List Fi) (fun x => ⟨[(0, .c (.rw 0)), (2, .c (.int .i64 ((A.length : Int) + U.length))), (4, .c (.fn 60 [])), (10, .c (.int .i64 x.2.1.length)), (11, .c (.int .i64 x.2.2.1.length))], [.row 4 Fi encFi (x.1 ++ x.2.1 ++ x.2.2.1 ++ x.2.2.2)]⟩)
    (fun x => (x.1.length + x.2.1.length = A.length + U.length ∧ 0 < x.2.1.length ∧ 0 < x.2.2.1.length ∧ x.1.length + x.2.1.length + x.2.2.1.length + x.2.2.2.length ≤ 1000) ∧ x.1 ++ x.2.2.1 ++ x.2.1 ++ x.2.2.2 = A ++ V ++ U ++ B) (fun x => x.2.1.length + x.2.2.1.length) (A, U, V, B) [] [.same 0] ?_ ?_ (fun x hx => ?_)
  · exact ⟨⟨rfl, hu, hv, hn0⟩, rfl⟩
  · repeat' first | exact trivial | exact rfl | refine And.intro ?_ ?_
  obtain ⟨P, u, v, Q⟩ := x
  obtain ⟨⟨h1, h2, h3, h4⟩, h5⟩ := hx
  dsimp only at h1 h2 h3 h4 h5
  (conv => whnf)
  refine decN (fun h => ?_) (fun h => ?_)
  · have h : u.length ≠ v.length := fun e => h (by simp only []; omega)
    (conv => whnf)
    refine dec (fun h6 => ?_) (fun h6 => ?_)
    · have h6 : v.length < u.length := by simp only [] at h6; omega
      have eu : u = u.take v.length ++ u.drop v.length := (List.take_append_drop _ _).symm
      have l1 : (u.take v.length).length = v.length := by rw [List.length_take]; omega
      have l2 : (u.drop v.length).length = u.length - v.length := List.length_drop ..
      generalize u.take v.length = u1 at *
      generalize u.drop v.length = u2 at *
      have hrow : (P, u, v, Q).1 ++ (P, u, v, Q).2.1 ++ (P, u, v, Q).2.2.1 ++ (P, u, v, Q).2.2.2 = P ++ u1 ++ u2 ++ v ++ Q := by simp [eu]
      rw [hrow]
      (conv => whnf)
      refine ⟨i64 (by simp only []; omega) (by simp only []; omega), ?_⟩
      (conv => whnf)
      refine cl [] [0] (swapRange_spec P u1 u2 v Q l1 (by omega) ((A.length : Int) + U.length - u.length) ((A.length : Int) + U.length) v.length (by omega) (by omega) (by omega)) (by (repeat' first | exact trivial | exact rfl | refine And.intro ?_ ?_); first | done | fail) (by first | exact trivial | exact rfl) ?_
      (conv => whnf)
      refine ⟨i64 (by simp only []; omega) (by simp only []; omega), ?_⟩
      rw [show (((P, u, v, Q).2.1.length : Nat) : Int) - (((P, u, v, Q).2.2.1.length : Nat) : Int) = u2.length by simp only []; omega]
      repeat' ((conv => whnf); first | (refine dec (fun h => ?_) (fun h => ?_) <;> try contradiction) | (refine decN (fun h => ?_) (fun h => ?_) <;> try contradiction) | refine booN (fun h => ?_) (fun h => ?_) | refine boo (fun h => ?_) (fun h => ?_) | refine ⟨i64 (by omega) (by omega), ?_⟩ | refine ⟨_, _, rfl, List.getElem?_eq_getElem (by omega), ?_⟩ | refine ⟨_, ⟨rfl, by omega⟩, ?_⟩ | refine ⟨_, List.getElem?_eq_getElem (by omega), ?_⟩ | refine rtB ?_ | refine rtI ?_ | refine rtC ?_ rfl | fail)
      have c1 : (P ++ v).length + u2.length = A.length + U.length := by rw [List.length_append]; omega
      have c4 : (P ++ v).length + u2.length + u1.length + Q.length ≤ 1000 := by rw [List.length_append]; omega
      refine ag (P ++ v, u2, u1, Q) [] [.same 0] ⟨⟨c1, by simp only []; omega, by simp only []; omega, c4⟩, by rw [← h5, eu]; simp⟩ (by simp only []; omega) ?_
      rw [show (((P, u, v, Q).2.2.1.length : Nat) : Int) = u1.length by simp only []; omega]
      repeat' first | exact trivial | exact rfl | refine And.intro ?_ ?_
      all_goals trace_state
    · have h6 : u.length < v.length := by simp only [] at h6; omega
      have ev : v = v.take (v.length - u.length) ++ v.drop (v.length - u.length) := (List.take_append_drop _ _).symm
      have l1 : (v.take (v.length - u.length)).length = v.length - u.length := by rw [List.length_take]; omega
      have l2 : (v.drop (v.length - u.length)).length = u.length := by rw [List.length_drop]; omega
      generalize v.take (v.length - u.length) = v1 at *
      generalize v.drop (v.length - u.length) = v2 at *
      have hrow : (P, u, v, Q).1 ++ (P, u, v, Q).2.1 ++ (P, u, v, Q).2.2.1 ++ (P, u, v, Q).2.2.2 = P ++ u ++ v1 ++ v2 ++ Q := by simp [ev]
      rw [hrow]
      (conv => whnf)
      refine ⟨i64 (by simp only []; omega) (by simp only []; omega), ?_⟩
      (conv => whnf)
      refine ⟨i64 (by simp only []; omega) (by simp only []; omega), ?_⟩
      (conv => whnf)
      refine ⟨i64 (by simp only []; omega) (by simp only []; omega), ?_⟩
      (conv => whnf)
      refine cl [] [0] (swapRange_spec P u v1 v2 Q l2.symm (by omega) ((A.length : Int) + U.length - u.length) ((A.length : Int) + U.length + v.length - u.length) u.length (by omega) (by omega) (by omega)) (by (repeat' first | exact trivial | exact rfl | refine And.intro ?_ ?_); first | done | fail) (by first | exact trivial | exact rfl) ?_
      (conv => whnf)
      refine ⟨i64 (by simp only []; omega) (by simp only []; omega), ?_⟩
      rw [show (((P, u, v, Q).2.2.1.length : Nat) : Int) - (((P, u, v, Q).2.1.length : Nat) : Int) = v1.length by simp only []; omega]
      repeat' ((conv => whnf); first | (refine dec (fun h => ?_) (fun h => ?_) <;> try contradiction) | (refine decN (fun h => ?_) (fun h => ?_) <;> try contradiction) | refine booN (fun h => ?_) (fun h => ?_) | refine boo (fun h => ?_) (fun h => ?_) | refine ⟨i64 (by omega) (by omega), ?_⟩ | refine ⟨_, _, rfl, List.getElem?_eq_getElem (by omega), ?_⟩ | refine ⟨_, ⟨rfl, by omega⟩, ?_⟩ | refine ⟨_, List.getElem?_eq_getElem (by omega), ?_⟩ | refine rtB ?_ | refine rtI ?_ | refine rtC ?_ rfl | fail)
      have c4 : P.length + v2.length + v1.length + (u ++ Q).length ≤ 1000 := by rw [List.length_append]; omega
      refine ag (P, v2, v1, u ++ Q) [] [.same 0] ⟨⟨by simp only []; omega, by simp only []; omega, by simp only []; omega, c4⟩, by rw [← h5, ev]; simp⟩ (by simp only []; omega) ?_
      rw [show (((P, u, v, Q).2.1.length : Nat) : Int) = v2.length by simp only []; omega, show P ++ v2 ++ v1 ++ u ++ Q = P ++ v2 ++ v1 ++ (u ++ Q) by simp]
      repeat' first | exact trivial | exact rfl | refine And.intro ?_ ?_
      all_goals trace_state
  · have h : u.length = v.length := by simp only [] at h; omega
    have hrow : (P, u, v, Q).1 ++ (P, u, v, Q).2.1 ++ (P, u, v, Q).2.2.1 ++ (P, u, v, Q).2.2.2 = P ++ u ++ [] ++ v ++ Q := by simp
    rw [hrow]
    (conv => whnf)
    refine ⟨i64 (by simp only []; omega) (by simp only []; omega), ?_⟩
    (conv => whnf)
    refine cl [] [0] (swapRange_spec P u [] v Q h (by simp; omega) ((A.length : Int) + U.length - u.length) ((A.length : Int) + U.length) u.length (by omega) (by simp; omega) (by omega)) (by (repeat' first | exact trivial | exact rfl | refine And.intro ?_ ?_); first | done | fail) (by first | exact trivial | exact rfl) ?_
    rw [show P ++ v ++ [] ++ u ++ Q = A ++ V ++ U ++ B by rw [← h5]; simp]
    (conv => whnf)
    refine rt [] [.same 0] (by repeat' first | exact trivial | exact rfl | refine And.intro ?_ ?_) rfl ⟨rfl, rfl⟩
end Go.Nest
end
/- WALKS, Q3: put in order one behind the other. -/
section
namespace Go.Nest
open Go Go.AM Go.Proofs
open Go.Proofs.YtkoiljgjipmhbaaGreatDoor (tab tabOk)
set_option linter.unusedVariables false
set_option linter.unusedSimpArgs false
set_option maxRecDepth 4000
theorem wk_last {T : List Fi} {k : Nat} (hw : Wk T) (hk : k < T.length) : ∀ g ∈ T.take k, lessP T[k].path g.path = false := by
  intro g hg
  obtain ⟨i, hi, e⟩ := List.mem_take_iff_getElem.1 hg
  rw [← e]
  exact (List.pairwise_iff_getElem.1 hw) i k (by omega) hk (by omega)
set_option maxHeartbeats 2000000 in
theorem insertSort_spec (A S B : List Fi) (hn : A.length + S.length + B.length ≤ 1000) (hp : ∀ f ∈ S, f.path.length ≤ 4000000) (a b : Int) (ha : a = A.length) (hb' : b = A.length + S.length) : Does Tryz.prog 111 [.c (.rw 0), .c (.int .i64 a), .c (.int .i64 b), .c (.fn 60 [])] [.row 4 Fi encFi (A ++ S ++ B)] (Rt (.tup []) [.row 4 Fi encFi (A ++ inOrdP S ++ B)]) := by
  subst ha; subst hb'
  refine X_spec ⟨Tryz.prog, tab, 53, 1⟩ tabOk (by kernel_rfl) Tryz.call111 Tryz.func111 rfl rfl (by kernel_rfl) rfl ?_
  intro hb
  (conv => whnf)
  refine ⟨i64 (by omega) (by omega), ?_⟩
  (conv => whnf)
  refine lp Nat (fun c => ⟨[(0, .c (.rw 0)), (1, .c (.int .i64 A.length)), (2, .c (.int .i64 ((A.length : Int) + S.length))), (3, .c (.fn 60 [])), (8, .c (.int .i64 ((A.length : Int) + (c + 1 : Nat))))], [.row 4 Fi encFi (A ++ inOrdP (S.take (c + 1)) ++ S.drop (c + 1) ++ B)]⟩) (fun c => (c ≤ S.length) ∧ True) (fun c => S.length - c) 0 [] [.same 0] ?_ ?_ (fun c hc => ?_)
  · simp
  · have e : A ++ inOrdP (S.take (0 + 1)) ++ S.drop (0 + 1) ++ B = A ++ S ++ B := by
      cases S with
      | nil => simp [inOrdP]
      | cons x S => simp [inOrdP, insF]
    rw [e]
    repeat' first | exact trivial | exact rfl | refine And.intro ?_ ?_
  (conv => whnf)
  refine dec (fun h4 => ?_) (fun h4 => ?_)
  · have hlt : c + 1 < S.length := by omega
    have hST := inOrd_snoc (S.take (c + 1)) S[c + 1]
    rw [← List.take_succ_eq_append_getElem hlt] at hST
    have hTl : (inOrdP (S.take (c + 1))).length = c + 1 := by rw [inOrd_len, List.length_take]; omega
    have hTw := inOrd_wk (S.take (c + 1))
    have hTp : ∀ f ∈ inOrdP (S.take (c + 1)), f.path.length ≤ 4000000 := fun f hf => hp f (List.mem_of_mem_take ((inOrd_perm _).mem_iff.1 hf))
    have hxp := hp _ (List.getElem_mem hlt)
    rw [List.drop_eq_getElem_cons hlt]
    generalize inOrdP (S.take (c + 1)) = T at *
    generalize S[c + 1] = x at *
    generalize hR : S.drop (c + 1 + 1) = R at *
    have hRl : R.length + (c + 2) = S.length := by rw [← hR, List.length_drop]; omega
    (conv => whnf)
    refine lp Nat (fun k => ⟨[(0, .c (.rw 0)), (1, .c (.int .i64 A.length)), (2, .c (.int .i64 ((A.length : Int) + S.length))), (3, .c (.fn 60 [])), (8, .c (.int .i64 ((A.length : Int) + (c + 1 : Nat)))), (9, .c (.int .i64 ((A.length : Int) + k)))], [.row 4 Fi encFi (A ++ (T.take k ++ x :: T.drop k) ++ R ++ B)]⟩) (fun k => (k ≤ T.length ∧ True) ∧ ∀ y ∈ T.drop k, lessP x.path y.path = true) (fun k => k) (c + 1) [] [.same 0] ?_ ?_ (fun k hk => ?_)
    · refine ⟨⟨by omega, trivial⟩, fun y hy => ?_⟩
      rw [List.drop_of_length_le (by omega)] at hy; cases hy
    · have e : A ++ T ++ x :: R ++ B = A ++ (T.take (c + 1) ++ x :: T.drop (c + 1)) ++ R ++ B := by
        rw [List.take_of_length_le (by omega), List.drop_of_length_le (by omega)]; simp
      rw [← e]
      repeat' first | exact trivial | exact rfl | refine And.intro ?_ ?_
    obtain ⟨⟨hk1, _⟩, hk2⟩ := hk
    have fin : (∀ h : 0 < k, lessP x.path (T[k - 1]'(by omega)).path = false) → inOrdP (S.take (c + 1 + 1)) = T.take k ++ x :: T.drop k := fun h => by
      rw [hST]
      refine ins_at hk1 (fun g hg => ?_) (fun hkl => hk2 _ (by rw [List.drop_eq_getElem_cons hkl]; exact List.mem_cons_self ..))
      cases k with
      | zero => cases hg
      | succ k =>
        have h1 := h (by omega)
        cases h2 : lessP x.path g.path with
        | false => rfl
        | true =>
          rw [List.take_succ_eq_append_getElem (by omega)] at hg
          rcases List.mem_append.1 hg with hg | hg
          · have h3 := wk_last hTw (by omega : k < T.length) g hg
            have := lt_le h2 h3
            simp only [Nat.add_sub_cancel] at h1
            rw [this] at h1; cases h1
          · rw [List.mem_singleton] at hg
            subst hg
            simp only [Nat.add_sub_cancel] at h1
            rw [h2] at h1; cases h1
    (conv => whnf)
    refine ⟨false, (.l [0, 1, 2, 3, 4, 5, 6, 7, 8, 9, 10, 11, 12, 13, 14, 15, 16]), by kernel_rfl, .inl ?_⟩
    (conv => whnf)
    refine dec (fun h5 => ?_) (fun h5 => ?_)
    · obtain ⟨k, rfl⟩ : ∃ m, k = m + 1 := ⟨k - 1, by omega⟩
      have hkl : k < T.length := by omega
      have hD : A ++ (T.take (k + 1) ++ x :: T.drop (k + 1)) ++ R ++ B = (A ++ T.take k) ++ T[k] :: ([] ++ x :: (T.drop (k + 1) ++ R ++ B)) := by
        rw [List.take_succ_eq_append_getElem hkl]; simp only [List.append_assoc, List.cons_append, List.nil_append]
      have hE : A ++ (T.take k ++ x :: T.drop k) ++ R ++ B = (A ++ T.take k) ++ x :: ([] ++ T[k] :: (T.drop (k + 1) ++ R ++ B)) := by
        rw [List.drop_eq_getElem_cons hkl]; simp only [List.append_assoc, List.cons_append, List.nil_append]
      have l1 : A.length + k = (A ++ T.take k).length := by rw [List.length_append, List.length_take]; omega
      have l2 : A.length + (k + 1) = (A ++ T.take k).length + 1 + ([] : List Fi).length := by rw [← l1]; simp; omega
      have htk := hTp _ (List.getElem_mem hkl)
      have fin : lessP x.path T[k].path = false → inOrdP (S.take (c + 1 + 1)) = T.take (k + 1) ++ x :: T.drop (k + 1) := fun h => fin (fun _ => by simpa using h)
      rw [hD]
      (conv => whnf)
      refine ⟨A.length + (k + 1), ⟨by simp, t_lt2 l2⟩, ?_⟩
      (conv => whnf)
      refine ⟨x, t_get2 l2, ?_⟩
      (conv => whnf)
      refine ⟨i64 (by omega) (by omega), ?_⟩
      (conv => whnf)
      refine ⟨A.length + k, ⟨by omega, t_lt l1⟩, ?_⟩
      (conv => whnf)
      refine ⟨T[k], t_get l1, ?_⟩
      (conv => whnf)
      refine cl [] [] (sortedF_spec x T[k] hxp htk) (by (repeat' first | exact trivial | exact rfl | refine And.intro ?_ ?_); first | done | fail) (by first | exact trivial | exact rfl) ?_
      (conv => whnf)
      refine dec (fun h6 => ?_) (fun h6 => ?_)
      · have h6 := cmpP_neg.1 h6
        (conv => whnf)
        refine ⟨false, (.l [0, 1, 2, 3, 4, 5, 6, 7, 8, 9, 10, 11, 12, 13, 14, 15, 16, 17]), by kernel_rfl, .inl ?_⟩
        (conv => whnf)
        refine ⟨i64 (by omega) (by omega), ?_⟩
        (conv => whnf)
        refine ⟨i64 (by omega) (by omega), ?_⟩
        (conv => whnf)
        refine ⟨A.length + k, ⟨by omega, t_lt l1⟩, ?_⟩
        (conv => whnf)
        refine ⟨T[k], t_get l1, ?_⟩
        (conv => whnf)
        refine ⟨A.length + (k + 1), ⟨by simp, t_lt2 l2⟩, ?_⟩
        (conv => whnf)
        refine ⟨x, t_get2 l2, ?_⟩
        (conv => whnf)
        refine ⟨A.length + (k + 1), ⟨by simp, t_lt2 l2⟩, ?_⟩
        (conv => whnf)
        refine ⟨x, T[k], t_get2 l2, ⟨by simp, rfl⟩, ?_⟩
        rw [t_set2 l2]
        (conv => whnf)
        refine ⟨A.length + k, ⟨by omega, t_lt l1⟩, ?_⟩
        (conv => whnf)
        refine ⟨T[k], x, t_get l1, ⟨by simp, rfl⟩, ?_⟩
        rw [t_set l1]
        (conv => whnf)
        refine ⟨i64 (by omega) (by omega), ?_⟩
        rw [show (A.length : Int) + ((k + 1 : Nat) : Int) - 1 = A.length + k by omega]
        (conv => whnf)
        refine ag k [] [.same 0] ⟨⟨by omega, trivial⟩, fun y hy => ?_⟩ (by simp) ?_
        · rw [List.drop_eq_getElem_cons hkl] at hy
          rcases List.mem_cons.1 hy with rfl | hy
          · exact h6
          · exact hk2 y hy
        · rw [hE]
          repeat' first | exact trivial | exact rfl | refine And.intro ?_ ?_
      · have h6 : lessP x.path T[k].path = false := by
          cases h7 : lessP x.path T[k].path with
          | false => rfl
          | true => exact absurd (cmpP_neg.2 h7) h6
        have fin := fin h6
        rw [← hD]
        (conv => whnf)
        refine ⟨i64 (by omega) (by omega), ?_⟩
        rw [show (A.length : Int) + ((c + 1 : Nat) : Int) + 1 = A.length + ((c + 1 + 1 : Nat) : Int) by omega]
        (conv => whnf)
        refine ag (c + 1) [] [.same 0] ⟨by omega, trivial⟩ (by simp only []; omega) ?_
        rw [fin, hR]
        repeat' first | exact trivial | exact rfl | refine And.intro ?_ ?_
    · have fin := fin (fun h => by omega)
      (conv => whnf)
      refine ⟨i64 (by omega) (by omega), ?_⟩
      rw [show (A.length : Int) + ((c + 1 : Nat) : Int) + 1 = A.length + ((c + 1 + 1 : Nat) : Int) by omega]
      (conv => whnf)
      refine ag (c + 1) [] [.same 0] ⟨by omega, trivial⟩ (by simp only []; omega) ?_
      rw [fin, hR]
      repeat' first | exact trivial | exact rfl | refine And.intro ?_ ?_
  · have e : A ++ inOrdP (S.take (c + 1)) ++ S.drop (c + 1) ++ B = A ++ inOrdP S ++ B := by
      rw [List.take_of_length_le (by omega), List.drop_of_length_le (by omega)]; simp
    rw [e]
    (conv => whnf)
    refine rt [] [.same 0] (by repeat' first | exact trivial | exact rfl | refine And.intro ?_ ?_) rfl ⟨rfl, rfl⟩
end Go.Nest
end
