/- part -/
import Derived.Test.YtpmjnbidmcnhnaaGreatDoorP11
import Derived.Test.YtpmjnbidmcnhnaaGreatDoorU0
import Derived.Test.YtpmjnbidmcnhnaaGreatDoorF7
import Derived.Test.YtpmjnbidmcnhnaaGreatDoorW9
import Derived.Test.YtpmjnbidmcnhnaaGreatDoorD9
set_option linter.unusedVariables false
set_option linter.unusedSimpArgs false
section

namespace Go.Nest
open Go Go.AM Go.Proofs
open Go.Proofs.YtpmjnbidmcnhnaaGreatDoor (tab tabOk)
set_option maxRecDepth 4000
theorem t_get {α : Type} {P R : List α} {u : α} {n : Nat} (h : n = P.length) : (P ++ u :: R)[n]? = some u := by subst h; simp
theorem t_set {α : Type} {P R : List α} {u v : α} {n : Nat} (h : n = P.length) : (P ++ u :: R).set n v = P ++ v :: R := by subst h; simp
theorem t_lt {α : Type} {P R : List α} {u : α} {n : Nat} (h : n = P.length) : n < (P ++ u :: R).length := by subst h; simp
theorem t_get2 {α : Type} {P Q R : List α} {u v : α} {n : Nat} (h : n = P.length + 1 + Q.length) : (P ++ u :: (Q ++ v :: R))[n]? = some v := by
 have := t_get (P := P ++ u :: Q) (R := R) (u := v) (n := n) (by simp; omega)
 simpa using this
theorem t_set2 {α : Type} {P Q R : List α} {u v w : α} {n : Nat} (h : n = P.length + 1 + Q.length) : (P ++ u :: (Q ++ v :: R)).set n w = P ++ u :: (Q ++ w :: R) := by
 have := t_set (P := P ++ u :: Q) (R := R) (u := v) (v := w) (n := n) (by simp; omega)
 simpa using this
theorem t_lt2 {α : Type} {P Q R : List α} {u v : α} {n : Nat} (h : n = P.length + 1 + Q.length) : n < (P ++ u :: (Q ++ v :: R)).length := by simp; omega
def cmpP (x y : Fi) : Int := if lessP x.path y.path = true then -1 else if lessP y.path x.path = true then 1 else 0
theorem cmpP_neg {x y : Fi} : cmpP x y < 0 ↔ lessP x.path y.path = true := by
 unfold cmpP
 split
 ·simp [*]
 ·split <;> simp [*]
theorem sortedF_spec (x y : Fi) (hx : x.path.length ≤ 4000000) (hy : y.path.length ≤ 4000000) : Does Tryz.prog 108 [.st (encFi x), .st (encFi y)] [] (Rt (.c (.int .i64 (cmpP x y))) []) := by
 refine X_spec (n := 17) (n0 := 0) tabOk Tryz.call108 Tryz.func108 ?_
 intro hb
 (conv => whnf)
 refine cl [] [] (less_spec x.path y.path hx hy) ?_
 unfold cmpP
 (conv => whnf)
 refine boo (fun h => ?_) (fun h => ?_)
 ·rw [if_pos h]
  (conv => whnf)
  exact rtI rfl
 ·rw [if_neg (by simp [h])]
  (conv => whnf)
  refine cl [] [] (less_spec y.path x.path hy hx) ?_
  (conv => whnf)
  refine boo (fun h => ?_) (fun h => ?_)
  ·rw [if_pos h]
   (conv => whnf)
   exact rtI rfl
  ·rw [if_neg (by simp [h])]
   (conv => whnf)
   exact rtI rfl
set_option maxHeartbeats 1000000 in
theorem swapRange_spec (A U M V B : List Fi) (h : U.length = V.length) (hn : A.length + U.length + M.length + V.length + B.length ≤ 1000) (a b n : Int) (ha : a = A.length) (hb' : b = A.length + U.length + M.length) (hn' : n = U.length) : Does Tryz.prog 198 [.c (.rw 0), .c (.int .i64 a), .c (.int .i64 b), .c (.int .i64 n), .c (.fn 108 [])] [.row 4 Fi encFi (A ++ U ++ M ++ V ++ B)] (Rt (.tup []) [.row 4 Fi encFi (A ++ V ++ M ++ U ++ B)]) := by
 subst ha; subst hb'; subst hn'
 refine X_spec (n := 38) (n0 := 1) tabOk Tryz.call198 Tryz.func198 ?_
 intro hb
 (conv => whnf)
 refine lp Nat (fun i => ⟨[(0, .c (.rw 0)), (1, .c (.int .i64 A.length)), (2, .c (.int .i64 ((A.length : Int) + U.length + M.length))), (3, .c (.int .i64 U.length)), (10, .c (.int .i64 i))], [.row 4 Fi encFi (A ++ (V.take i ++ U.drop i) ++ M ++ (U.take i ++ V.drop i) ++ B)]⟩) (fun i => i ≤ U.length ∧ True) (fun i => U.length - i) 0 [] [.same 0] ?_ ?_ (fun i hi => ?_)
 ·simp
 ·repeat' first | exact trivial | exact rfl | refine And.intro ?_ ?_
 (conv => whnf)
 refine dec (fun h4 => ?_) (fun h4 => ?_)
 ·have hlt : i < U.length := by omega
  have hlv : i < V.length := by omega
  have hD : A ++ (V.take i ++ U.drop i) ++ M ++ (U.take i ++ V.drop i) ++ B = (A ++ V.take i) ++ U[i] :: ((U.drop (i + 1) ++ M ++ U.take i) ++ V[i] :: (V.drop (i + 1) ++ B)) := by
   rw [List.drop_eq_getElem_cons hlt, List.drop_eq_getElem_cons hlv]; simp only [List.append_assoc, List.cons_append, List.nil_append]
  have hE : A ++ (V.take (i + 1) ++ U.drop (i + 1)) ++ M ++ (U.take (i + 1) ++ V.drop (i + 1)) ++ B = (A ++ V.take i) ++ V[i] :: ((U.drop (i + 1) ++ M ++ U.take i) ++ U[i] :: (V.drop (i + 1) ++ B)) := by
   rw [List.take_succ_eq_append_getElem hlt, List.take_succ_eq_append_getElem hlv]; simp only [List.append_assoc, List.cons_append, List.nil_append]
  have l1 : A.length + i = (A ++ V.take i).length := by rw [List.length_append, List.length_take]; omega
  have l2 : A.length + U.length + M.length + i = (A ++ V.take i).length + 1 + (U.drop (i + 1) ++ M ++ U.take i).length := by
   simp only [List.length_append, List.length_take, List.length_drop]; omega
  rw [hD]
  generalize A ++ V.take i = P at *
  generalize U.drop (i + 1) ++ M ++ U.take i = Q at *
  generalize V.drop (i + 1) ++ B = R at *
  (conv => whnf)
  refine ⟨false, .grow, (.l [0, 1, 2, 3, 4, 5, 6, 7, 8, 9, 10, 11, 12, 13, 14, 15, 16, 17, 18, 19, 20, 21, 22, 23]), by kernel_rfl, .inl ?_⟩
  (conv => whnf)
  refine ⟨i64 (by omega) (by omega), ?_⟩
  (conv => whnf)
  refine ⟨i64 (by omega) (by omega), ?_⟩
  (conv => whnf)
  refine ⟨i64 (by omega) (by omega), ?_⟩
  (conv => whnf)
  refine ⟨A.length + U.length + M.length + i, ⟨by omega, t_lt2 l2⟩, ?_⟩
  (conv => whnf)
  refine ⟨V[i], t_get2 l2, ?_⟩
  (conv => whnf)
  refine ⟨i64 (by omega) (by omega), ?_⟩
  (conv => whnf)
  refine ⟨A.length + i, ⟨by omega, t_lt l1⟩, ?_⟩
  (conv => whnf)
  refine ⟨U[i], t_get l1, ?_⟩
  (conv => whnf)
  refine ⟨A.length + i, ⟨by omega, t_lt l1⟩, ?_⟩
  (conv => whnf)
  refine ⟨U[i], V[i], t_get l1, ⟨by simp, rfl⟩, ?_⟩
  rw [t_set l1]
  (conv => whnf)
  refine ⟨A.length + U.length + M.length + i, ⟨by omega, t_lt2 l2⟩, ?_⟩
  (conv => whnf)
  refine ⟨V[i], U[i], t_get2 l2, ⟨by simp, rfl⟩, ?_⟩
  rw [t_set2 l2]
  repeat' ((conv => whnf); refine I6 ?_)
  refine ag (i + 1) [] [.same 0] ⟨hlt, trivial⟩ (by simp only []; omega) ?_
  rw [hE]
  repeat' first | exact trivial | exact rfl | refine And.intro ?_ ?_
 ·have e : A ++ (V.take i ++ U.drop i) ++ M ++ (U.take i ++ V.drop i) ++ B = A ++ V ++ M ++ U ++ B := by
   rw [List.take_of_length_le (l := V) (by omega), List.take_of_length_le (l := U) (by omega), List.drop_of_length_le (l := V) (by omega), List.drop_of_length_le (l := U) (by omega), List.append_nil, List.append_nil]
  rw [e]
  (conv => whnf)
  exact rx [] [.same 0]
end Go.Nest
end
/- part -/
section

namespace Go.Nest
open Go Go.AM Go.Proofs
open Go.Proofs.YtpmjnbidmcnhnaaGreatDoor (tab tabOk)
set_option maxRecDepth 4000
set_option maxHeartbeats 1000000 in
theorem rotate_spec (A U V B : List Fi) (hu : 0 < U.length) (hv : 0 < V.length) (hn : (A ++ U ++ V ++ B).length ≤ 1000) (a m b : Int) (ha : a = A.length) (hm : m = A.length + U.length) (hb' : b = A.length + U.length + V.length) : Does Tryz.prog 178 [.c (.rw 0), .c (.int .i64 a), .c (.int .i64 m), .c (.int .i64 b), .c (.fn 108 [])] [.row 4 Fi encFi (A ++ U ++ V ++ B)] (Rt (.tup []) [.row 4 Fi encFi (A ++ V ++ U ++ B)]) := by
 subst ha; subst hm; subst hb'
 have hn0 : A.length + U.length + V.length + B.length ≤ 1000 := by simpa [Nat.add_assoc] using hn
 refine X_spec (n := 58) (n0 := 1) tabOk Tryz.call178 Tryz.func178 ?_
 intro hb
 (conv => whnf)
 refine ⟨i64 (by omega) (by omega), ?_⟩
 (conv => whnf)
 refine ⟨i64 (by omega) (by omega), ?_⟩
 rw [show (A.length : Int) + U.length - A.length = U.length by omega, show (A.length : Int) + U.length + V.length - (A.length + U.length) = V.length by omega]
 (conv => whnf)
 refine lp (List Fi × List Fi × List Fi × List Fi) (fun x => ⟨[(0, .c (.rw 0)), (2, .c (.int .i64 ((A.length : Int) + U.length))), (4, .c (.fn 108 [])), (10, .c (.int .i64 x.2.1.length)), (11, .c (.int .i64 x.2.2.1.length))], [.row 4 Fi encFi (x.1 ++ x.2.1 ++ x.2.2.1 ++ x.2.2.2)]⟩)
  (fun x => (x.1.length + x.2.1.length = A.length + U.length ∧ 0 < x.2.1.length ∧ 0 < x.2.2.1.length ∧ x.1.length + x.2.1.length + x.2.2.1.length + x.2.2.2.length ≤ 1000) ∧ x.1 ++ x.2.2.1 ++ x.2.1 ++ x.2.2.2 = A ++ V ++ U ++ B) (fun x => x.2.1.length + x.2.2.1.length) (A, U, V, B) [] [.same 0] ?_ ?_ (fun x hx => ?_)
 ·exact ⟨⟨rfl, hu, hv, hn0⟩, rfl⟩
 ·repeat' first | exact trivial | exact rfl | refine And.intro ?_ ?_
 obtain ⟨P, u, v, Q⟩ := x
 obtain ⟨⟨h1, h2, h3, h4⟩, h5⟩ := hx
 dsimp only at h1 h2 h3 h4 h5
 (conv => whnf)
 refine decN (fun h => ?_) (fun h => ?_)
 ·have h : u.length ≠ v.length := fun e => h (by simp only []; omega)
  (conv => whnf)
  refine dec (fun h6 => ?_) (fun h6 => ?_)
  ·have h6 : v.length < u.length := by simp only [] at h6; omega
   have eu : u = u.take v.length ++ u.drop v.length := (List.take_append_drop _ _).symm
   have l1 : (u.take v.length).length = v.length := by rw [List.length_take]; omega
   have l2 : (u.drop v.length).length = u.length - v.length := List.length_drop ..
   generalize u.take v.length = u1 at *
   generalize u.drop v.length = u2 at *
   have hrow : (P, u, v, Q).1 ++ (P, u, v, Q).2.1 ++ (P, u, v, Q).2.2.1 ++ (P, u, v, Q).2.2.2 = P ++ u1 ++ u2 ++ v ++ Q := by simp [eu]
   rw [hrow]
   (conv => whnf)
   refine ⟨i64 (by simp only []; omega) (by simp only []; omega), ?_⟩
   (conv => whnf)
   refine cl [] [0] (swapRange_spec P u1 u2 v Q l1 (by omega) ((A.length : Int) + U.length - u.length) ((A.length : Int) + U.length) v.length (by omega) (by omega) (by omega)) ?_
   (conv => whnf)
   refine ⟨i64 (by simp only []; omega) (by simp only []; omega), ?_⟩
   rw [show (((P, u, v, Q).2.1.length : Nat) : Int) - (((P, u, v, Q).2.2.1.length : Nat) : Int) = u2.length by simp only []; omega]
   repeat' ((conv => whnf); refine I6 ?_)
   have c1 : (P ++ v).length + u2.length = A.length + U.length := by rw [List.length_append]; omega
   have c4 : (P ++ v).length + u2.length + u1.length + Q.length ≤ 1000 := by rw [List.length_append]; omega
   refine ag (P ++ v, u2, u1, Q) [] [.same 0] ⟨⟨c1, by simp only []; omega, by simp only []; omega, c4⟩, by rw [← h5, eu]; simp⟩ (by simp only []; omega) ?_
   rw [show (((P, u, v, Q).2.2.1.length : Nat) : Int) = u1.length by simp only []; omega]
   repeat' first | exact trivial | exact rfl | refine And.intro ?_ ?_
   all_goals trace_state
  ·have h6 : u.length < v.length := by simp only [] at h6; omega
   have ev : v = v.take (v.length - u.length) ++ v.drop (v.length - u.length) := (List.take_append_drop _ _).symm
   have l1 : (v.take (v.length - u.length)).length = v.length - u.length := by rw [List.length_take]; omega
   have l2 : (v.drop (v.length - u.length)).length = u.length := by rw [List.length_drop]; omega
   generalize v.take (v.length - u.length) = v1 at *
   generalize v.drop (v.length - u.length) = v2 at *
   have hrow : (P, u, v, Q).1 ++ (P, u, v, Q).2.1 ++ (P, u, v, Q).2.2.1 ++ (P, u, v, Q).2.2.2 = P ++ u ++ v1 ++ v2 ++ Q := by simp [ev]
   rw [hrow]
   (conv => whnf)
   refine ⟨i64 (by simp only []; omega) (by simp only []; omega), ?_⟩
   (conv => whnf)
   refine ⟨i64 (by simp only []; omega) (by simp only []; omega), ?_⟩
   (conv => whnf)
   refine ⟨i64 (by simp only []; omega) (by simp only []; omega), ?_⟩
   (conv => whnf)
   refine cl [] [0] (swapRange_spec P u v1 v2 Q l2.symm (by omega) ((A.length : Int) + U.length - u.length) ((A.length : Int) + U.length + v.length - u.length) u.length (by omega) (by omega) (by omega)) ?_
   (conv => whnf)
   refine ⟨i64 (by simp only []; omega) (by simp only []; omega), ?_⟩
   rw [show (((P, u, v, Q).2.2.1.length : Nat) : Int) - (((P, u, v, Q).2.1.length : Nat) : Int) = v1.length by simp only []; omega]
   repeat' ((conv => whnf); refine I6 ?_)
   have c4 : P.length + v2.length + v1.length + (u ++ Q).length ≤ 1000 := by rw [List.length_append]; omega
   refine ag (P, v2, v1, u ++ Q) [] [.same 0] ⟨⟨by simp only []; omega, by simp only []; omega, by simp only []; omega, c4⟩, by rw [← h5, ev]; simp⟩ (by simp only []; omega) ?_
   rw [show (((P, u, v, Q).2.1.length : Nat) : Int) = v2.length by simp only []; omega, show P ++ v2 ++ v1 ++ u ++ Q = P ++ v2 ++ v1 ++ (u ++ Q) by simp]
   repeat' first | exact trivial | exact rfl | refine And.intro ?_ ?_
   all_goals trace_state
 ·have h : u.length = v.length := by simp only [] at h; omega
  have hrow : (P, u, v, Q).1 ++ (P, u, v, Q).2.1 ++ (P, u, v, Q).2.2.1 ++ (P, u, v, Q).2.2.2 = P ++ u ++ [] ++ v ++ Q := by simp
  rw [hrow]
  (conv => whnf)
  refine ⟨i64 (by simp only []; omega) (by simp only []; omega), ?_⟩
  (conv => whnf)
  refine cl [] [0] (swapRange_spec P u [] v Q h (by simp; omega) ((A.length : Int) + U.length - u.length) ((A.length : Int) + U.length) u.length (by omega) (by simp; omega) (by omega)) ?_
  rw [show P ++ v ++ [] ++ u ++ Q = A ++ V ++ U ++ B by rw [← h5]; simp]
  (conv => whnf)
  exact rx [] [.same 0]
end Go.Nest
end
/- part -/
section

namespace Go.Nest
open Go Go.AM Go.Proofs
open Go.Proofs.YtpmjnbidmcnhnaaGreatDoor (tab tabOk)
set_option maxRecDepth 4000
theorem wk_last {T : List Fi} {k : Nat} (hw : Wk T) (hk : k < T.length) : ∀ g ∈ T.take k, lessP T[k].path g.path = false := by
 intro g hg
 obtain ⟨i, hi, e⟩ := List.mem_take_iff_getElem.1 hg
 rw [← e]
 exact (List.pairwise_iff_getElem.1 hw) i k (by omega) hk (by omega)
set_option maxHeartbeats 2000000 in
theorem insertSort_spec (A S B : List Fi) (hn : A.length + S.length + B.length ≤ 1000) (hp : ∀ f ∈ S, f.path.length ≤ 4000000) (a b : Int) (ha : a = A.length) (hb' : b = A.length + S.length) : Does Tryz.prog 152 [.c (.rw 0), .c (.int .i64 a), .c (.int .i64 b), .c (.fn 108 [])] [.row 4 Fi encFi (A ++ S ++ B)] (Rt (.tup []) [.row 4 Fi encFi (A ++ inOrdP S ++ B)]) := by
 subst ha; subst hb'
 refine X_spec (n := 53) (n0 := 1) tabOk Tryz.call152 Tryz.func152 ?_
 intro hb
 (conv => whnf)
 refine ⟨i64 (by omega) (by omega), ?_⟩
 (conv => whnf)
 refine lp Nat (fun c => ⟨[(0, .c (.rw 0)), (1, .c (.int .i64 A.length)), (2, .c (.int .i64 ((A.length : Int) + S.length))), (3, .c (.fn 108 [])), (8, .c (.int .i64 ((A.length : Int) + (c + 1 : Nat))))], [.row 4 Fi encFi (A ++ inOrdP (S.take (c + 1)) ++ S.drop (c + 1) ++ B)]⟩) (fun c => (c ≤ S.length) ∧ True) (fun c => S.length - c) 0 [] [.same 0] ?_ ?_ (fun c hc => ?_)
 ·simp
 ·have e : A ++ inOrdP (S.take (0 + 1)) ++ S.drop (0 + 1) ++ B = A ++ S ++ B := by
   cases S with
   | nil => simp [inOrdP]
   | cons x S => simp [inOrdP, insF]
  rw [e]
  repeat' first | exact trivial | exact rfl | refine And.intro ?_ ?_
 (conv => whnf)
 refine dec (fun h4 => ?_) (fun h4 => ?_)
 ·have hlt : c + 1 < S.length := by omega
  have hST := inOrd_snoc (S.take (c + 1)) S[c + 1]
  rw [← List.take_succ_eq_append_getElem hlt] at hST
  have hTl : (inOrdP (S.take (c + 1))).length = c + 1 := by rw [inOrd_len, List.length_take]; omega
  have hTw := inOrd_wk (S.take (c + 1))
  have hTp : ∀ f ∈ inOrdP (S.take (c + 1)), f.path.length ≤ 4000000 := fun f hf => hp f (List.mem_of_mem_take ((inOrd_perm _).mem_iff.1 hf))
  have hxp := hp _ (List.getElem_mem hlt)
  rw [List.drop_eq_getElem_cons hlt]
  generalize inOrdP (S.take (c + 1)) = T at *
  generalize S[c + 1] = x at *
  generalize hR : S.drop (c + 1 + 1) = R at *
  have hRl : R.length + (c + 2) = S.length := by rw [← hR, List.length_drop]; omega
  (conv => whnf)
  refine lp Nat (fun k => ⟨[(0, .c (.rw 0)), (1, .c (.int .i64 A.length)), (2, .c (.int .i64 ((A.length : Int) + S.length))), (3, .c (.fn 108 [])), (8, .c (.int .i64 ((A.length : Int) + (c + 1 : Nat)))), (9, .c (.int .i64 ((A.length : Int) + k)))], [.row 4 Fi encFi (A ++ (T.take k ++ x :: T.drop k) ++ R ++ B)]⟩) (fun k => (k ≤ T.length ∧ True) ∧ ∀ y ∈ T.drop k, lessP x.path y.path = true) (fun k => k) (c + 1) [] [.same 0] ?_ ?_ (fun k hk => ?_)
  ·refine ⟨⟨by omega, trivial⟩, fun y hy => ?_⟩
   rw [List.drop_of_length_le (by omega)] at hy; cases hy
  ·have e : A ++ T ++ x :: R ++ B = A ++ (T.take (c + 1) ++ x :: T.drop (c + 1)) ++ R ++ B := by
    rw [List.take_of_length_le (by omega), List.drop_of_length_le (by omega)]; simp
   rw [← e]
   repeat' first | exact trivial | exact rfl | refine And.intro ?_ ?_
  obtain ⟨⟨hk1, _⟩, hk2⟩ := hk
  have fin : (∀ h : 0 < k, lessP x.path (T[k - 1]'(by omega)).path = false) → inOrdP (S.take (c + 1 + 1)) = T.take k ++ x :: T.drop k := fun h => by
   rw [hST]
   refine ins_at hk1 (fun g hg => ?_) (fun hkl => hk2 _ (by rw [List.drop_eq_getElem_cons hkl]; exact List.mem_cons_self ..))
   cases k with
   | zero => cases hg
   | succ k =>
    have h1 := h (by omega)
    cases h2 : lessP x.path g.path with
    | false => rfl
    | true =>
     rw [List.take_succ_eq_append_getElem (by omega)] at hg
     rcases List.mem_append.1 hg with hg | hg
     ·have h3 := wk_last hTw (by omega : k < T.length) g hg
      have := lt_le h2 h3
      simp only [Nat.add_sub_cancel] at h1
      rw [this] at h1; cases h1
     ·rw [List.mem_singleton] at hg
      subst hg
      simp only [Nat.add_sub_cancel] at h1
      rw [h2] at h1; cases h1
  (conv => whnf)
  refine ⟨false, .grow, (.l [0, 1, 2, 3, 4, 5, 6, 7, 8, 9, 10, 11, 12, 13, 14, 15, 16]), by kernel_rfl, .inl ?_⟩
  (conv => whnf)
  refine dec (fun h5 => ?_) (fun h5 => ?_)
  ·obtain ⟨k, rfl⟩ : ∃ m, k = m + 1 := ⟨k - 1, by omega⟩
   have hkl : k < T.length := by omega
   have hD : A ++ (T.take (k + 1) ++ x :: T.drop (k + 1)) ++ R ++ B = (A ++ T.take k) ++ T[k] :: ([] ++ x :: (T.drop (k + 1) ++ R ++ B)) := by
    rw [List.take_succ_eq_append_getElem hkl]; simp only [List.append_assoc, List.cons_append, List.nil_append]
   have hE : A ++ (T.take k ++ x :: T.drop k) ++ R ++ B = (A ++ T.take k) ++ x :: ([] ++ T[k] :: (T.drop (k + 1) ++ R ++ B)) := by
    rw [List.drop_eq_getElem_cons hkl]; simp only [List.append_assoc, List.cons_append, List.nil_append]
   have l1 : A.length + k = (A ++ T.take k).length := by rw [List.length_append, List.length_take]; omega
   have l2 : A.length + (k + 1) = (A ++ T.take k).length + 1 + ([] : List Fi).length := by rw [← l1]; simp; omega
   have htk := hTp _ (List.getElem_mem hkl)
   have fin : lessP x.path T[k].path = false → inOrdP (S.take (c + 1 + 1)) = T.take (k + 1) ++ x :: T.drop (k + 1) := fun h => fin (fun _ => by simpa using h)
   rw [hD]
   (conv => whnf)
   refine ⟨A.length + (k + 1), ⟨by simp, t_lt2 l2⟩, ?_⟩
   (conv => whnf)
   refine ⟨x, t_get2 l2, ?_⟩
   (conv => whnf)
   refine ⟨i64 (by omega) (by omega), ?_⟩
   (conv => whnf)
   refine ⟨A.length + k, ⟨by omega, t_lt l1⟩, ?_⟩
   (conv => whnf)
   refine ⟨T[k], t_get l1, ?_⟩
   (conv => whnf)
   refine cl [] [] (sortedF_spec x T[k] hxp htk) ?_
   (conv => whnf)
   refine dec (fun h6 => ?_) (fun h6 => ?_)
   ·have h6 := cmpP_neg.1 h6
    (conv => whnf)
    refine ⟨false, .grow, (.l [0, 1, 2, 3, 4, 5, 6, 7, 8, 9, 10, 11, 12, 13, 14, 15, 16, 17]), by kernel_rfl, .inl ?_⟩
    (conv => whnf)
    refine ⟨i64 (by omega) (by omega), ?_⟩
    (conv => whnf)
    refine ⟨i64 (by omega) (by omega), ?_⟩
    (conv => whnf)
    refine ⟨A.length + k, ⟨by omega, t_lt l1⟩, ?_⟩
    (conv => whnf)
    refine ⟨T[k], t_get l1, ?_⟩
    (conv => whnf)
    refine ⟨A.length + (k + 1), ⟨by simp, t_lt2 l2⟩, ?_⟩
    (conv => whnf)
    refine ⟨x, t_get2 l2, ?_⟩
    (conv => whnf)
    refine ⟨A.length + (k + 1), ⟨by simp, t_lt2 l2⟩, ?_⟩
    (conv => whnf)
    refine ⟨x, T[k], t_get2 l2, ⟨by simp, rfl⟩, ?_⟩
    rw [t_set2 l2]
    (conv => whnf)
    refine ⟨A.length + k, ⟨by omega, t_lt l1⟩, ?_⟩
    (conv => whnf)
    refine ⟨T[k], x, t_get l1, ⟨by simp, rfl⟩, ?_⟩
    rw [t_set l1]
    (conv => whnf)
    refine ⟨i64 (by omega) (by omega), ?_⟩
    rw [show (A.length : Int) + ((k + 1 : Nat) : Int) - 1 = A.length + k by omega]
    (conv => whnf)
    refine ag k [] [.same 0] ⟨⟨by omega, trivial⟩, fun y hy => ?_⟩ (by simp) ?_
    ·rw [List.drop_eq_getElem_cons hkl] at hy
     rcases List.mem_cons.1 hy with rfl | hy
     ·exact h6
     ·exact hk2 y hy
    ·rw [hE]
     repeat' first | exact trivial | exact rfl | refine And.intro ?_ ?_
   ·have h6 : lessP x.path T[k].path = false := by
     cases h7 : lessP x.path T[k].path with
     | false => rfl
     | true => exact absurd (cmpP_neg.2 h7) h6
    have fin := fin h6
    rw [← hD]
    (conv => whnf)
    refine ⟨i64 (by omega) (by omega), ?_⟩
    rw [show (A.length : Int) + ((c + 1 : Nat) : Int) + 1 = A.length + ((c + 1 + 1 : Nat) : Int) by omega]
    (conv => whnf)
    refine ag (c + 1) [] [.same 0] ⟨by omega, trivial⟩ (by simp only []; omega) ?_
    rw [fin, hR]
    repeat' first | exact trivial | exact rfl | refine And.intro ?_ ?_
  ·have fin := fin (fun h => by omega)
   (conv => whnf)
   refine ⟨i64 (by omega) (by omega), ?_⟩
   rw [show (A.length : Int) + ((c + 1 : Nat) : Int) + 1 = A.length + ((c + 1 + 1 : Nat) : Int) by omega]
   (conv => whnf)
   refine ag (c + 1) [] [.same 0] ⟨by omega, trivial⟩ (by simp only []; omega) ?_
   rw [fin, hR]
   repeat' first | exact trivial | exact rfl | refine And.intro ?_ ?_
 ·have e : A ++ inOrdP (S.take (c + 1)) ++ S.drop (c + 1) ++ B = A ++ inOrdP S ++ B := by
   rw [List.take_of_length_le (by omega), List.drop_of_length_le (by omega)]; simp
  rw [e]
  (conv => whnf)
  exact rx [] [.same 0]
end Go.Nest
end
/- part -/
section

namespace Go.Nest
open Go Go.AM Go.Proofs
open Go.Proofs.YtpmjnbidmcnhnaaGreatDoor (tab tabOk)
set_option maxRecDepth 4000
theorem wk_le {Y : List Fi} (h : Wk Y) {i j : Nat} (hij : i < j) (hj : j < Y.length) : lessP Y[j].path (Y[i]'(by omega)).path = false := (List.pairwise_iff_getElem.1 h) i j (by omega) hj hij
theorem lt_take {Y : List Fi} {x : Fi} (h : Wk Y) {q : Nat} (hq : q < Y.length) (hl : lessP Y[q].path x.path = true) : ∀ y ∈ Y.take (q + 1), lessP y.path x.path = true := by
 intro y hy
 obtain ⟨i, hi, e⟩ := List.mem_take_iff_getElem.1 hy
 subst e
 by_cases e : i = q
 ·subst e; exact hl
 ·exact le_lt (wk_le h (by omega) hq) hl
theorem ge_drop {Y : List Fi} {x : Fi} (h : Wk Y) {q : Nat} (hq : q < Y.length) (hl : lessP Y[q].path x.path = false) : ∀ y ∈ Y.drop q, lessP y.path x.path = false := by
 intro y hy
 obtain ⟨i, hi, e⟩ := List.mem_drop_iff_getElem.1 hy
 subst e
 by_cases e : i = 0
 ·subst e; exact hl
 ·exact le_trans' hl (wk_le h (i := q) (j := q + i) (by omega) (by omega))
theorem ge_take {X : List Fi} {y : Fi} (h : Wk X) {q : Nat} (hq : q < X.length) (hl : lessP y.path X[q].path = false) : ∀ x ∈ X.take (q + 1), lessP y.path x.path = false := by
 intro x hx
 obtain ⟨i, hi, e⟩ := List.mem_take_iff_getElem.1 hx
 subst e
 by_cases e : i = q
 ·subst e; exact hl
 ·exact le_trans' (wk_le h (by omega) hq) hl
theorem lt_drop {X : List Fi} {y : Fi} (h : Wk X) {q : Nat} (hq : q < X.length) (hl : lessP y.path X[q].path = true) : ∀ x ∈ X.drop q, lessP y.path x.path = true := by
 intro x hx
 obtain ⟨i, hi, e⟩ := List.mem_drop_iff_getElem.1 hx
 subst e
 by_cases e : i = 0
 ·subst e; exact hl
 ·exact lt_le hl (wk_le h (i := q) (j := q + i) (by omega) (by omega))
theorem half {e : Int} {k : Nat} (h : e / 2 = k) (h0 : 0 ≤ e) (h1 : e ≤ 4000) : IntKind.i64.wrap ((IntKind.u64.wrap e).fdiv (2 ^ min (Int.toNat 1) IntKind.u64.bits)) = (k : Int) := by
 have e1 : (2 : Int) ^ min (Int.toNat 1) IntKind.u64.bits = 2 := by decide
 rw [IntKind.wrap_u64, IntKind.wrap_i64, e1, Int.fdiv_eq_ediv_of_nonneg _ (by omega)]
 omega
set_option maxHeartbeats 4000000 in
theorem symOne_spec (A Y B : List Fi) (x : Fi) (hy : 0 < Y.length) (wy : Wk Y) (hn : A.length + 1 + Y.length + B.length ≤ 1000) (hpx : x.path.length ≤ 4000000) (hp : ∀ f ∈ Y, f.path.length ≤ 4000000) (a m b : Int) (ha : a = A.length) (hm : m = A.length + 1) (hb' : b = A.length + 1 + Y.length) : Does Tryz.prog 153 [.c (.rw 0), .c (.int .i64 a), .c (.int .i64 m), .c (.int .i64 b), .c (.fn 108 [])] [.row 4 Fi encFi (A ++ [x] ++ Y ++ B)] (Rt (.tup []) [.row 4 Fi encFi (A ++ inOrdP ([x] ++ Y) ++ B)]) := by
 subst ha; subst hm; subst hb'
 refine X_spec (n := 220) (n0 := 1) tabOk Tryz.call153 Tryz.func153 ?_
 intro hb
 (conv => whnf)
 refine ⟨i64 (by omega) (by omega), ?_⟩
 (conv => whnf)
 refine dec (fun _ => ?_) (fun h => absurd (by omega) h)
 (conv => whnf)
 have hx0 : A ++ [x] ++ Y ++ B = A ++ x :: (Y ++ B) := by simp
 rw [hx0]
 refine lp (Nat × Nat) (fun z => ⟨[(0, .c (.rw 0)), (1, .c (.int .i64 A.length)), (4, .c (.fn 108 [])), (10, .c (.int .i64 ((A.length : Int) + 1 + z.1))), (11, .c (.int .i64 ((A.length : Int) + 1 + z.2)))], [.row 4 Fi encFi (A ++ x :: (Y ++ B))]⟩) (fun z => (z.1 ≤ z.2 ∧ z.2 ≤ Y.length) ∧ (∀ y ∈ Y.take z.1, lessP y.path x.path = true) ∧ ∀ y ∈ Y.drop z.2, lessP y.path x.path = false) (fun z => z.2 - z.1) (0, Y.length) [] [.same 0] ?_ ?_ (fun z hz => ?_)
 ·exact ⟨⟨Nat.zero_le _, Nat.le_refl _⟩, by simp, by simp⟩
 ·rw [show ((A.length : Int) + 1) = A.length + 1 + ((0 : Nat) : Int) by omega]
  repeat' first | exact trivial | exact rfl | refine And.intro ?_ ?_
 obtain ⟨lo, hi⟩ := z
 obtain ⟨⟨h1, h2⟩, h3, h4⟩ := hz
 dsimp only at h1 h2 h3 h4
 (conv => whnf)
 refine dec (fun h5 => ?_) (fun h5 => ?_)
 ·have h5 : lo < hi := by simp only [] at h5; omega
  (conv => whnf)
  refine ⟨i64 (by simp only []; omega) (by simp only []; omega), ?_⟩
  (conv => whnf)
  refine ⟨by decide, ?_⟩
  (conv => whnf)
  obtain ⟨q, hq⟩ : ∃ q, q = (lo + hi) / 2 := ⟨_, rfl⟩
  have hqY : q < Y.length := by omega
  have hqp := hp _ (List.getElem_mem hqY)
  have hrow : A ++ x :: (Y ++ B) = A ++ x :: (Y.take q ++ Y[q] :: (Y.drop (q + 1) ++ B)) := by
   conv => lhs; rw [← List.take_append_drop q Y, List.drop_eq_getElem_cons hqY]
   simp only [List.append_assoc, List.cons_append]
  have l1 : A.length = A.length := rfl
  have l2 : A.length + 1 + q = A.length + 1 + (Y.take q).length := by rw [List.length_take]; omega
  rw [half (e := (A.length : Int) + 1 + (((lo, hi).1 : Nat) : Int) + ((A.length : Int) + 1 + (((lo, hi).2 : Nat) : Int))) (k := A.length + 1 + q) (by simp only []; omega) (by simp only []; omega) (by simp only []; omega), hrow]
  refine ⟨false, .grow, (.l [0, 1, 2, 3, 4, 5, 6, 7, 8, 9, 10]), by kernel_rfl, .inl ?_⟩
  (conv => whnf)
  refine ⟨A.length + 1 + q, ⟨rfl, t_lt2 l2⟩, ?_⟩
  (conv => whnf)
  refine ⟨Y[q], t_get2 l2, ?_⟩
  (conv => whnf)
  refine ⟨A.length, ⟨rfl, t_lt l1⟩, ?_⟩
  (conv => whnf)
  refine ⟨x, t_get l1, ?_⟩
  (conv => whnf)
  refine cl [] [] (sortedF_spec Y[q] x hqp hpx) ?_
  rw [← hrow]
  (conv => whnf)
  refine dec (fun h6 => ?_) (fun h6 => ?_)
  ·have h6 := cmpP_neg.1 h6
   (conv => whnf)
   refine ⟨i64 (by omega) (by omega), ?_⟩
   rw [show ((A.length + 1 + q : Nat) : Int) + 1 = (A.length : Int) + 1 + ((q + 1 : Nat) : Int) by omega]
   (conv => whnf)
   refine ag (q + 1, hi) [] [.same 0] ⟨⟨by simp only []; omega, h2⟩, lt_take wy hqY h6, h4⟩ (by simp only []; omega) ?_
   repeat' first | exact trivial | exact rfl | refine And.intro ?_ ?_
  ·have h6 : lessP Y[q].path x.path = false := by
    cases h7 : lessP Y[q].path x.path with
    | false => rfl
    | true => exact absurd (cmpP_neg.2 h7) h6
   rw [show ((A.length + 1 + q : Nat) : Int) = (A.length : Int) + 1 + (q : Nat) by omega]
   (conv => whnf)
   refine ag (lo, q) [] [.same 0] ⟨⟨by simp only []; omega, by simp only []; omega⟩, h3, ge_drop wy hqY h6⟩ (by simp only []; omega) ?_
   repeat' first | exact trivial | exact rfl | refine And.intro ?_ ?_
 ·have h5 : lo = hi := by simp only [] at h5; omega
  subst h5
  have hfin := one_front wy h3 h4
  rw [show A ++ x :: (Y ++ B) = A ++ (Y.take 0 ++ x :: Y.drop 0) ++ B by simp]
  (conv => whnf)
  refine lp Nat (fun t => ⟨[(0, .c (.rw 0)), (10, .c (.int .i64 ((A.length : Int) + 1 + lo))), (13, .c (.int .i64 ((A.length : Int) + t)))], [.row 4 Fi encFi (A ++ (Y.take t ++ x :: Y.drop t) ++ B)]⟩) (fun t => t ≤ lo ∧ True) (fun t => lo - t) 0 [] [.same 0] ?_ ?_ (fun t ht => ?_)
  ·simp
  ·rw [show (A.length : Int) = A.length + ((0 : Nat) : Int) by omega]
   repeat' first | exact trivial | exact rfl | refine And.intro ?_ ?_
  (conv => whnf)
  refine ⟨i64 (by omega) (by omega), ?_⟩
  (conv => whnf)
  refine dec (fun h6 => ?_) (fun h6 => ?_)
  ·have htl : t < Y.length := by omega
   have hD : A ++ (Y.take t ++ x :: Y.drop t) ++ B = (A ++ Y.take t) ++ x :: ([] ++ Y[t] :: (Y.drop (t + 1) ++ B)) := by
    rw [List.drop_eq_getElem_cons htl]; simp only [List.append_assoc, List.cons_append, List.nil_append]
   have hE : A ++ (Y.take (t + 1) ++ x :: Y.drop (t + 1)) ++ B = (A ++ Y.take t) ++ Y[t] :: ([] ++ x :: (Y.drop (t + 1) ++ B)) := by
    rw [List.take_succ_eq_append_getElem htl]; simp only [List.append_assoc, List.cons_append, List.nil_append]
   have l1 : A.length + t = (A ++ Y.take t).length := by rw [List.length_append, List.length_take]; omega
   have l2 : A.length + (t + 1) = (A ++ Y.take t).length + 1 + ([] : List Fi).length := by rw [← l1]; simp; omega
   rw [hD]
   (conv => whnf)
   refine ⟨false, .grow, (.l [0, 1, 2, 3, 4, 5, 6, 7, 8, 9, 10, 11, 12, 13, 14, 15, 16, 17]), by kernel_rfl, .inl ?_⟩
   (conv => whnf)
   refine ⟨i64 (by omega) (by omega), ?_⟩
   (conv => whnf)
   refine ⟨i64 (by omega) (by omega), ?_⟩
   (conv => whnf)
   refine ⟨A.length + (t + 1), ⟨by omega, t_lt2 l2⟩, ?_⟩
   (conv => whnf)
   refine ⟨Y[t], t_get2 l2, ?_⟩
   (conv => whnf)
   refine ⟨A.length + t, ⟨by omega, t_lt l1⟩, ?_⟩
   (conv => whnf)
   refine ⟨x, t_get l1, ?_⟩
   (conv => whnf)
   refine ⟨A.length + t, ⟨by omega, t_lt l1⟩, ?_⟩
   (conv => whnf)
   refine ⟨x, Y[t], t_get l1, ⟨by simp, rfl⟩, ?_⟩
   rw [t_set l1]
   (conv => whnf)
   refine ⟨A.length + (t + 1), ⟨by omega, t_lt2 l2⟩, ?_⟩
   (conv => whnf)
   refine ⟨Y[t], x, t_get2 l2, ⟨by simp, rfl⟩, ?_⟩
   rw [t_set2 l2]
   (conv => whnf)
   refine ⟨i64 (by omega) (by omega), ?_⟩
   rw [show (A.length : Int) + (t : Nat) + 1 = A.length + ((t + 1 : Nat) : Int) by omega]
   (conv => whnf)
   refine ag (t + 1) [] [.same 0] ⟨by omega, trivial⟩ (by simp only []; omega) ?_
   rw [hE]
   repeat' first | exact trivial | exact rfl | refine And.intro ?_ ?_
  ·obtain rfl : t = lo := by omega
   rw [hfin]
   (conv => whnf)
   exact rx [] [.same 0]
set_option maxHeartbeats 4000000 in
theorem symLast_spec (A X B : List Fi) (y : Fi) (hx : 1 < X.length) (wx : Wk X) (hn : A.length + X.length + 1 + B.length ≤ 1000) (hpy : y.path.length ≤ 4000000) (hp : ∀ f ∈ X, f.path.length ≤ 4000000) (a m b : Int) (ha : a = A.length) (hm : m = A.length + X.length) (hb' : b = A.length + X.length + 1) : Does Tryz.prog 153 [.c (.rw 0), .c (.int .i64 a), .c (.int .i64 m), .c (.int .i64 b), .c (.fn 108 [])] [.row 4 Fi encFi (A ++ X ++ [y] ++ B)] (Rt (.tup []) [.row 4 Fi encFi (A ++ inOrdP (X ++ [y]) ++ B)]) := by
 subst ha; subst hm; subst hb'
 refine X_spec (n := 220) (n0 := 1) tabOk Tryz.call153 Tryz.func153 ?_
 intro hb
 (conv => whnf)
 refine ⟨i64 (by omega) (by omega), ?_⟩
 (conv => whnf)
 refine dec (fun h => absurd h (by omega)) (fun _ => ?_)
 (conv => whnf)
 refine ⟨i64 (by omega) (by omega), ?_⟩
 (conv => whnf)
 refine dec (fun _ => ?_) (fun h => absurd (by omega) h)
 (conv => whnf)
 have hx0 : A ++ X ++ [y] ++ B = A ++ X ++ y :: B := by simp
 rw [hx0]
 refine lp (Nat × Nat) (fun z => ⟨[(0, .c (.rw 0)), (2, .c (.int .i64 ((A.length : Int) + X.length))), (4, .c (.fn 108 [])), (14, .c (.int .i64 ((A.length : Int) + z.1))), (15, .c (.int .i64 ((A.length : Int) + z.2)))], [.row 4 Fi encFi (A ++ X ++ y :: B)]⟩) (fun z => (z.1 ≤ z.2 ∧ z.2 ≤ X.length) ∧ (∀ x ∈ X.take z.1, lessP y.path x.path = false) ∧ ∀ x ∈ X.drop z.2, lessP y.path x.path = true) (fun z => z.2 - z.1) (0, X.length) [] [.same 0] ?_ ?_ (fun z hz => ?_)
 ·exact ⟨⟨Nat.zero_le _, Nat.le_refl _⟩, by simp, by simp⟩
 ·repeat' first | exact trivial | exact rfl | refine And.intro ?_ ?_
 obtain ⟨lo, hi⟩ := z
 obtain ⟨⟨h1, h2⟩, h3, h4⟩ := hz
 dsimp only at h1 h2 h3 h4
 (conv => whnf)
 refine dec (fun h5 => ?_) (fun h5 => ?_)
 ·have h5 : lo < hi := by simp only [] at h5; omega
  (conv => whnf)
  refine ⟨i64 (by simp only []; omega) (by simp only []; omega), ?_⟩
  (conv => whnf)
  refine ⟨by decide, ?_⟩
  (conv => whnf)
  obtain ⟨q, hq⟩ : ∃ q, q = (lo + hi) / 2 := ⟨_, rfl⟩
  have hqX : q < X.length := by omega
  have hqp := hp _ (List.getElem_mem hqX)
  have hrow : A ++ X ++ y :: B = (A ++ X.take q) ++ X[q] :: (X.drop (q + 1) ++ y :: B) := by
   conv => lhs; rw [← List.take_append_drop q X, List.drop_eq_getElem_cons hqX]
   simp only [List.append_assoc, List.cons_append]
  have l1 : A.length + q = (A ++ X.take q).length := by rw [List.length_append, List.length_take]; omega
  have l2 : A.length + X.length = (A ++ X.take q).length + 1 + (X.drop (q + 1)).length := by rw [← l1, List.length_drop]; omega
  rw [half (e := (A.length : Int) + (((lo, hi).1 : Nat) : Int) + ((A.length : Int) + (((lo, hi).2 : Nat) : Int))) (k := A.length + q) (by simp only []; omega) (by simp only []; omega) (by simp only []; omega), hrow]
  refine ⟨false, .grow, (.l [0, 1, 2, 3, 4, 5, 6, 7, 8, 9, 10, 11]), by kernel_rfl, .inl ?_⟩
  (conv => whnf)
  refine ⟨A.length + X.length, ⟨by omega, t_lt2 l2⟩, ?_⟩
  (conv => whnf)
  refine ⟨y, t_get2 l2, ?_⟩
  (conv => whnf)
  refine ⟨A.length + q, ⟨rfl, t_lt l1⟩, ?_⟩
  (conv => whnf)
  refine ⟨X[q], t_get l1, ?_⟩
  (conv => whnf)
  refine cl [] [] (sortedF_spec y X[q] hpy hqp) ?_
  rw [← hrow]
  (conv => whnf)
  refine decN (fun h6 => ?_) (fun h6 => ?_)
  ·have h6 : lessP y.path X[q].path = false := by
    cases h7 : lessP y.path X[q].path with
    | false => rfl
    | true => exact absurd (cmpP_neg.2 h7) h6
   (conv => whnf)
   refine ⟨i64 (by omega) (by omega), ?_⟩
   rw [show ((A.length + q : Nat) : Int) + 1 = (A.length : Int) + ((q + 1 : Nat) : Int) by omega]
   (conv => whnf)
   refine ag (q + 1, hi) [] [.same 0] ⟨⟨by simp only []; omega, h2⟩, ge_take wx hqX h6, h4⟩ (by simp only []; omega) ?_
   repeat' first | exact trivial | exact rfl | refine And.intro ?_ ?_
  ·have h6 := cmpP_neg.1 h6
   rw [show ((A.length + q : Nat) : Int) = (A.length : Int) + (q : Nat) by omega]
   (conv => whnf)
   refine ag (lo, q) [] [.same 0] ⟨⟨by simp only []; omega, by simp only []; omega⟩, h3, lt_drop wx hqX h6⟩ (by simp only []; omega) ?_
   repeat' first | exact trivial | exact rfl | refine And.intro ?_ ?_
 ·have h5 : lo = hi := by simp only [] at h5; omega
  subst h5
  have hfin := one_back wx h3 h4
  rw [show A ++ X ++ y :: B = A ++ (X.take X.length ++ y :: X.drop X.length) ++ B by simp]
  (conv => whnf)
  refine lp Nat (fun t => ⟨[(0, .c (.rw 0)), (14, .c (.int .i64 ((A.length : Int) + lo))), (17, .c (.int .i64 ((A.length : Int) + t)))], [.row 4 Fi encFi (A ++ (X.take t ++ y :: X.drop t) ++ B)]⟩) (fun t => (lo ≤ t ∧ t ≤ X.length) ∧ True) (fun t => t - lo) X.length [] [.same 0] ?_ ?_ (fun t ht => ?_)
  ·exact ⟨⟨h2, Nat.le_refl _⟩, trivial⟩
  ·repeat' first | exact trivial | exact rfl | refine And.intro ?_ ?_
  (conv => whnf)
  refine dec (fun h6 => ?_) (fun h6 => ?_)
  ·obtain ⟨t, rfl⟩ : ∃ u, t = u + 1 := ⟨t - 1, by omega⟩
   have htl : t < X.length := by omega
   have hE : A ++ (X.take t ++ y :: X.drop t) ++ B = (A ++ X.take t) ++ y :: ([] ++ X[t] :: (X.drop (t + 1) ++ B)) := by
    rw [List.drop_eq_getElem_cons htl]; simp only [List.append_assoc, List.cons_append, List.nil_append]
   have hD : A ++ (X.take (t + 1) ++ y :: X.drop (t + 1)) ++ B = (A ++ X.take t) ++ X[t] :: ([] ++ y :: (X.drop (t + 1) ++ B)) := by
    rw [List.take_succ_eq_append_getElem htl]; simp only [List.append_assoc, List.cons_append, List.nil_append]
   have l1 : A.length + t = (A ++ X.take t).length := by rw [List.length_append, List.length_take]; omega
   have l2 : A.length + (t + 1) = (A ++ X.take t).length + 1 + ([] : List Fi).length := by rw [← l1]; simp; omega
   rw [hD]
   (conv => whnf)
   refine ⟨false, .grow, (.l [0, 1, 2, 3, 4, 5, 6, 7, 8, 9, 10, 11, 12, 13, 14, 15, 16, 17]), by kernel_rfl, .inl ?_⟩
   (conv => whnf)
   refine ⟨i64 (by omega) (by omega), ?_⟩
   (conv => whnf)
   refine ⟨i64 (by omega) (by omega), ?_⟩
   (conv => whnf)
   refine ⟨A.length + t, ⟨by omega, t_lt l1⟩, ?_⟩
   (conv => whnf)
   refine ⟨X[t], t_get l1, ?_⟩
   (conv => whnf)
   refine ⟨A.length + (t + 1), ⟨by simp, t_lt2 l2⟩, ?_⟩
   (conv => whnf)
   refine ⟨y, t_get2 l2, ?_⟩
   (conv => whnf)
   refine ⟨A.length + (t + 1), ⟨by simp, t_lt2 l2⟩, ?_⟩
   (conv => whnf)
   refine ⟨y, X[t], t_get2 l2, ⟨by simp, rfl⟩, ?_⟩
   rw [t_set2 l2]
   (conv => whnf)
   refine ⟨A.length + t, ⟨by omega, t_lt l1⟩, ?_⟩
   (conv => whnf)
   refine ⟨X[t], y, t_get l1, ⟨by simp, rfl⟩, ?_⟩
   rw [t_set l1]
   (conv => whnf)
   refine ⟨i64 (by omega) (by omega), ?_⟩
   rw [show (A.length : Int) + ((t + 1 : Nat) : Int) - 1 = A.length + (t : Nat) by omega]
   (conv => whnf)
   refine ag t [] [.same 0] ⟨⟨by omega, by omega⟩, trivial⟩ (by simp only []; omega) ?_
   rw [hE]
   repeat' first | exact trivial | exact rfl | refine And.intro ?_ ?_
  ·obtain rfl : t = lo := by omega
   rw [hfin]
   (conv => whnf)
   exact rx [] [.same 0]
end Go.Nest
end
/- part -/
section

namespace Go.Nest
open Go Go.AM Go.Proofs
open Go.Proofs.YtpmjnbidmcnhnaaGreatDoor (tab tabOk)
set_option maxRecDepth 4000
structure SymI (X Y : List Fi) (h lo0 hi0 : Nat) : Prop where
 a1 : lo0 ≤ hi0
 a2 : hi0 ≤ X.length
 a3 : hi0 ≤ h
 a4 : h ≤ lo0 + Y.length
 a5 : hi0 = h ∨ hi0 = X.length
 a6 : lo0 = 0 ∨ lo0 + Y.length = h
structure SymJ (X Y : List Fi) (h lo0 hi0 s t : Nat) : Prop where
 b1 : lo0 ≤ s
 b2 : s ≤ t
 b3 : t ≤ hi0
 p1 : ∀ i j (hi : i < Y.length) (hj : j < X.length), lo0 < s → i + s = h → j + 1 = s → lessP Y[i].path X[j].path = false
 p2 : ∀ i j (hi : i < Y.length) (hj : j < X.length), t < hi0 → i + t + 1 = h → j = t → lessP Y[i].path X[j].path = true
theorem sym_cut {X Y : List Fi} {h lo0 hi0 s : Nat} (wx : Wk X) (wy : Wk Y) (hI : SymI X Y h lo0 hi0) (hJ : SymJ X Y h lo0 hi0 s s) :
  (∀ x ∈ X.drop s, ∀ y ∈ Y.take (h - s), lessP y.path x.path = true) ∧ ∀ x ∈ X.take s, ∀ y ∈ Y.drop (h - s), lessP y.path x.path = false := by
 obtain ⟨a1, a2, a3, a4, a5, a6⟩ := hI
 obtain ⟨b1, b2, b3, p1, p2⟩ := hJ
 refine ⟨fun x hx y hy => ?_, fun x hx y hy => ?_⟩
 ·have hs : s < X.length := Classical.byContradiction fun h => by rw [List.drop_of_length_le (by omega)] at hx; cases hx
  have hk : 0 < h - s := Classical.byContradiction fun h' => by rw [show h - s = 0 by omega] at hy; simp at hy
  have hky : h - s - 1 < Y.length := by omega
  have h1 := p2 (h - s - 1) s hky hs (by omega) (by omega) rfl
  have h2 : lessP y.path X[s].path = true := lt_take wy hky h1 y (by rw [show h - s - 1 + 1 = h - s by omega]; exact hy)
  obtain ⟨i, hi, e⟩ := List.mem_drop_iff_getElem.1 hx
  subst e
  by_cases e : i = 0
  ·subst e; exact h2
  ·exact lt_le h2 (wk_le wx (i := s) (j := s + i) (by omega) (by omega))
 ·have hs : 0 < s := Classical.byContradiction fun h => by rw [show s = 0 by omega] at hx; simp at hx
  have hk : h - s < Y.length := Classical.byContradiction fun h' => by rw [List.drop_of_length_le (by omega)] at hy; cases hy
  have hsx : s - 1 < X.length := by omega
  have h1 := p1 (h - s) (s - 1) hk hsx (by omega) (by omega) (by omega)
  have h2 : lessP Y[h - s].path x.path = false := by
   have h3 := ge_take (y := Y[h - s]) wx hsx h1 x (by rw [show s - 1 + 1 = s by omega]; exact hx)
   exact h3
  obtain ⟨i, hi, e⟩ := List.mem_drop_iff_getElem.1 hy
  subst e
  by_cases e : i = 0
  ·subst e; exact h2
  ·exact le_trans' h2 (wk_le wy (i := h - s) (j := h - s + i) (by omega) (by omega))
set_option maxHeartbeats 8000000 in
theorem symMerge_spec : ∀ (n : Nat) (A X Y B : List Fi), X.length + Y.length ≤ n → 0 < X.length → 0 < Y.length → Wk X → Wk Y → A.length + X.length + Y.length + B.length ≤ 1000 → (∀ f ∈ X, f.path.length ≤ 4000000) → (∀ f ∈ Y, f.path.length ≤ 4000000) → ∀ (a m b : Int), a = A.length → m = A.length + X.length → b = A.length + X.length + Y.length → Does Tryz.prog 153 [.c (.rw 0), .c (.int .i64 a), .c (.int .i64 m), .c (.int .i64 b), .c (.fn 108 [])] [.row 4 Fi encFi (A ++ X ++ Y ++ B)] (Rt (.tup []) [.row 4 Fi encFi (A ++ inOrdP (X ++ Y) ++ B)]) := by
 intro n
 induction n with
 | zero => intro A X Y B h hx hy; omega
 | succ n ih =>
 intro A X Y B hXY hx hy wx wy hn hpx hpy a m b ha hm hb'
 by_cases h1 : X.length = 1
 ·obtain ⟨x, rfl⟩ : ∃ x, X = [x] := List.length_eq_one_iff.1 h1
  exact symOne_spec A Y B x hy wy (by simpa using hn) (hpx x (by simp)) hpy a m b ha (by simpa using hm) (by simpa using hb')
 by_cases h2 : Y.length = 1
 ·obtain ⟨y, rfl⟩ : ∃ y, Y = [y] := List.length_eq_one_iff.1 h2
  exact symLast_spec A X B y (by omega) wx (by simpa using hn) (hpy y (by simp)) hpx a m b ha hm (by simpa using hb')
 subst ha; subst hm; subst hb'
 obtain ⟨h, hh⟩ : ∃ h, h = (X.length + Y.length) / 2 := ⟨_, rfl⟩
 refine X_spM (n := 220) (n0 := 1) tabOk Tryz.call153 Tryz.func153 ?_
 intro hb
 refine XM.seq ?_
 (conv => whnf)
 refine ⟨i64 (by omega) (by omega), ?_⟩
 (conv => whnf)
 refine dec (fun h => absurd h (by omega)) (fun _ => ?_)
 (conv => whnf)
 refine XM.seq ?_
 (conv => whnf)
 refine ⟨i64 (by omega) (by omega), ?_⟩
 (conv => whnf)
 refine dec (fun h => absurd h (by omega)) (fun _ => ?_)
 (conv => whnf)
 refine XM.seq ?_
 (conv => whnf)
 refine ⟨i64 (by omega) (by omega), ?_⟩
 (conv => whnf)
 refine ⟨by decide, ?_⟩
 (conv => whnf)
 rw [half (e := (A.length : Int) + ((A.length : Int) + X.length + Y.length)) (k := A.length + h) (by omega) (by omega) (by omega)]
 refine XM.seq ?_
 (conv => whnf)
 refine ⟨i64 (by omega) (by omega), ?_⟩
 (conv => whnf)
 refine XM.seq ?_
 (conv => whnf)
 refine XM.join (ι := Nat × Nat) (fun z => ⟨[(0, .c (.rw 0)), (1, .c (.int .i64 A.length)), (2, .c (.int .i64 ((A.length : Int) + X.length))), (3, .c (.int .i64 ((A.length : Int) + X.length + Y.length))), (4, .c (.fn 108 [])), (18, .c (.int .i64 ((A.length + h : Nat) : Int))), (19, .c (.int .i64 (((A.length + h : Nat) : Int) + ((A.length : Int) + X.length)))), (20, .c (.int .i64 ((A.length : Int) + z.1))), (21, .c (.int .i64 ((A.length : Int) + z.2)))], [.row 4 Fi encFi (A ++ X ++ Y ++ B)]⟩) (fun z => SymI X Y h z.1 z.2) ?_ (fun z hI => ?_)
 ·(conv => whnf)
  refine dec (fun h3 => ?_) (fun h3 => ?_)
  ·(conv => whnf)
   refine ⟨i64 (by omega) (by omega), ?_⟩
   rw [show ((A.length + h : Nat) : Int) + ((A.length : Int) + X.length) - ((A.length : Int) + X.length + Y.length) = (A.length : Int) + ((h - Y.length : Nat) : Int) by omega, show ((A.length + h : Nat) : Int) = (A.length : Int) + h by omega]
   (conv => whnf)
   refine ⟨(h - Y.length, h), ⟨by simp only []; omega, by simp only []; omega, by simp only []; omega, by simp only []; omega, .inl rfl, by simp only []; omega⟩, [], [.same 0], ?_⟩
   repeat' first | exact trivial | exact rfl | refine And.intro ?_ ?_
   trace_state
  ·(conv => whnf)
   refine ⟨(0, X.length), ⟨by simp only []; omega, by simp only []; omega, by simp only []; omega, by simp only []; omega, .inr rfl, .inl rfl⟩, [], [.same 0], ?_⟩
   rw [show (A.length : Int) = (A.length : Int) + ((0 : Nat) : Int) by omega]
   repeat' first | exact trivial | exact rfl | refine And.intro ?_ ?_
   trace_state
 obtain ⟨lo0, hi0⟩ := z
 have hI := hI
 dsimp only at hI
 obtain ⟨a1, a2, a3, a4, a5, a6⟩ := id hI
 refine XM.seq ?_
 (conv => whnf)
 refine ⟨i64 (by omega) (by omega), ?_⟩
 (conv => whnf)
 refine XM.join (ι := Nat) (fun s => ⟨[(0, .c (.rw 0)), (1, .c (.int .i64 A.length)), (2, .c (.int .i64 ((A.length : Int) + X.length))), (3, .c (.int .i64 ((A.length : Int) + X.length + Y.length))), (4, .c (.fn 108 [])), (18, .c (.int .i64 ((A.length + h : Nat) : Int))), (19, .c (.int .i64 (((A.length + h : Nat) : Int) + ((A.length : Int) + X.length)))), (20, .c (.int .i64 ((A.length : Int) + s)))], [.row 4 Fi encFi (A ++ X ++ Y ++ B)]⟩) (fun s => SymJ X Y h lo0 hi0 s s) ?_ (fun s hJ => ?_)
 ·(conv => whnf)
  refine lp (Nat × Nat) (fun z => ⟨[(0, .c (.rw 0)), (1, .c (.int .i64 A.length)), (2, .c (.int .i64 ((A.length : Int) + X.length))), (3, .c (.int .i64 ((A.length : Int) + X.length + Y.length))), (4, .c (.fn 108 [])), (18, .c (.int .i64 ((A.length + h : Nat) : Int))), (19, .c (.int .i64 (((A.length + h : Nat) : Int) + ((A.length : Int) + X.length)))), (22, .c (.int .i64 (((A.length + h : Nat) : Int) + ((A.length : Int) + X.length) - 1))), (20, .c (.int .i64 ((A.length : Int) + z.1))), (21, .c (.int .i64 ((A.length : Int) + z.2)))], [.row 4 Fi encFi (A ++ X ++ Y ++ B)]⟩) (fun z => SymJ X Y h lo0 hi0 z.1 z.2) (fun z => z.2 - z.1) (lo0, hi0) [] [.same 0] ?_ ?_ (fun z hz => ?_)
  ·exact ⟨Nat.le_refl _, a1, Nat.le_refl _, fun i j hi hj h => absurd h (by omega), fun i j hi hj h => absurd h (by omega)⟩
  ·repeat' first | exact trivial | exact rfl | refine And.intro ?_ ?_
  obtain ⟨s, t⟩ := z
  obtain ⟨b1, b2, b3, p1, p2⟩ := hz
  dsimp only at b1 b2 b3 p1 p2
  (conv => whnf)
  refine dec (fun h5 => ?_) (fun h5 => ?_)
  ·have h5 : s < t := by simp only [] at h5; omega
   (conv => whnf)
   refine ⟨i64 (by simp only []; omega) (by simp only []; omega), ?_⟩
   (conv => whnf)
   refine ⟨by decide, ?_⟩
   (conv => whnf)
   obtain ⟨q, hq⟩ : ∃ q, q = (s + t) / 2 := ⟨_, rfl⟩
   obtain ⟨i, hi⟩ : ∃ i, i = h - 1 - q := ⟨_, rfl⟩
   have hqX : q < X.length := by omega
   have hiY : i < Y.length := by omega
   have hqp := hpx _ (List.getElem_mem hqX)
   have hip := hpy _ (List.getElem_mem hiY)
   have hrow : A ++ X ++ Y ++ B = (A ++ X.take q) ++ X[q] :: ((X.drop (q + 1) ++ Y.take i) ++ Y[i] :: (Y.drop (i + 1) ++ B)) := by
    conv => lhs; rw [← List.take_append_drop q X, List.drop_eq_getElem_cons hqX, ← List.take_append_drop i Y, List.drop_eq_getElem_cons hiY]
    simp only [List.append_assoc, List.cons_append]
   have l1 : A.length + q = (A ++ X.take q).length := by rw [List.length_append, List.length_take]; omega
   have l2 : A.length + X.length + i = (A ++ X.take q).length + 1 + (X.drop (q + 1) ++ Y.take i).length := by rw [← l1, List.length_append, List.length_drop, List.length_take]; omega
   rw [half (e := (A.length : Int) + (((s, t).1 : Nat) : Int) + ((A.length : Int) + (((s, t).2 : Nat) : Int))) (k := A.length + q) (by simp only []; omega) (by simp only []; omega) (by simp only []; omega), hrow]
   refine ⟨false, .grow, (.l [0, 1, 2, 3, 4, 5, 6, 7, 8, 9, 10, 11, 12, 13]), by kernel_rfl, .inl ?_⟩
   (conv => whnf)
   refine ⟨i64 (by omega) (by omega), ?_⟩
   (conv => whnf)
   refine ⟨A.length + X.length + i, ⟨by omega, t_lt2 l2⟩, ?_⟩
   (conv => whnf)
   refine ⟨Y[i], t_get2 l2, ?_⟩
   (conv => whnf)
   refine ⟨A.length + q, ⟨rfl, t_lt l1⟩, ?_⟩
   (conv => whnf)
   refine ⟨X[q], t_get l1, ?_⟩
   (conv => whnf)
   refine cl [] [] (sortedF_spec Y[i] X[q] hip hqp) ?_
   rw [← hrow]
   (conv => whnf)
   refine decN (fun h6 => ?_) (fun h6 => ?_)
   ·have h6 : lessP Y[i].path X[q].path = false := by
     cases h7 : lessP Y[i].path X[q].path with
     | false => rfl
     | true => exact absurd (cmpP_neg.2 h7) h6
    (conv => whnf)
    refine ⟨i64 (by omega) (by omega), ?_⟩
    rw [show ((A.length + q : Nat) : Int) + 1 = (A.length : Int) + ((q + 1 : Nat) : Int) by omega]
    (conv => whnf)
    refine ag (q + 1, t) [] [.same 0] ⟨by simp only []; omega, by simp only []; omega, by simp only []; omega, fun i' j' hi' hj' _ e1 e2 => ?_, p2⟩ (by simp only []; omega) ?_
    ·obtain rfl : j' = q := by simp only [] at e2; omega
     obtain rfl : i' = i := by simp only [] at e1; omega
     exact h6
    ·repeat' first | exact trivial | exact rfl | refine And.intro ?_ ?_
   ·have h6 := cmpP_neg.1 h6
    rw [show ((A.length + q : Nat) : Int) = (A.length : Int) + (q : Nat) by omega]
    (conv => whnf)
    refine ag (s, q) [] [.same 0] ⟨by simp only []; omega, by simp only []; omega, by simp only []; omega, p1, fun i' j' hi' hj' _ e1 e2 => ?_⟩ (by simp only []; omega) ?_
    ·obtain rfl : j' = q := by simp only [] at e2; omega
     obtain rfl : i' = i := by simp only [] at e1; omega
     exact h6
    ·repeat' first | exact trivial | exact rfl | refine And.intro ?_ ?_
  ·obtain rfl : s = t := by simp only [] at h5; omega
   (conv => whnf)
   refine ⟨s, ⟨b1, b2, b3, p1, p2⟩, [], [.same 0], ?_⟩
   repeat' first | exact trivial | exact rfl | refine And.intro ?_ ?_
 obtain ⟨c1, c2⟩ := sym_cut wx wy hI hJ
 obtain ⟨b1, _, b3, _, _⟩ := id hJ
 obtain ⟨k, hk⟩ : ∃ k, k = h - s := ⟨_, rfl⟩
 rw [← hk] at c1 c2
 have eX : X.take s ++ X.drop s = X := List.take_append_drop s X
 have eY : Y.take k ++ Y.drop k = Y := List.take_append_drop k Y
 have lX1 : (X.take s).length = s := by rw [List.length_take]; omega
 have lX2 : (X.drop s).length = X.length - s := List.length_drop ..
 have lY1 : (Y.take k).length = k := by rw [List.length_take]; omega
 have lY2 : (Y.drop k).length = Y.length - k := List.length_drop ..
 have hsym := sym_ok (X1 := X.take s) (X2 := X.drop s) (Y1 := Y.take k) (Y2 := Y.drop k) (by rw [eX]; exact wx) (by rw [eY]; exact wy) c1 c2
 rw [eX, eY] at hsym
 have q1 : ∀ f ∈ X.take s, f.path.length ≤ 4000000 := fun f hf => hpx f (List.mem_of_mem_take hf)
 have q2 : ∀ f ∈ X.drop s, f.path.length ≤ 4000000 := fun f hf => hpx f (List.mem_of_mem_drop hf)
 have q3 : ∀ f ∈ Y.take k, f.path.length ≤ 4000000 := fun f hf => hpy f (List.mem_of_mem_take hf)
 have q4 : ∀ f ∈ Y.drop k, f.path.length ≤ 4000000 := fun f hf => hpy f (List.mem_of_mem_drop hf)
 obtain ⟨wX1, wX2, _⟩ := wk_parts (by rw [eX]; exact wx : Wk (X.take s ++ X.drop s))
 obtain ⟨wY1, wY2, _⟩ := wk_parts (by rw [eY]; exact wy : Wk (Y.take k ++ Y.drop k))
 have hrow : A ++ X ++ Y ++ B = (A ++ X.take s) ++ X.drop s ++ Y.take k ++ (Y.drop k ++ B) := by
  conv => lhs; rw [← eX, ← eY]
  simp only [List.append_assoc]
 rw [hrow, ← hsym]
 clear hsym hrow c1 c2
 generalize X.take s = X1 at *
 generalize X.drop s = X2 at *
 generalize Y.take k = Y1 at *
 generalize Y.drop k = Y2 at *
 refine XM.seq ?_
 (conv => whnf)
 refine ⟨i64 (by omega) (by omega), ?_⟩
 rw [show ((A.length + h : Nat) : Int) + ((A.length : Int) + X.length) - ((A.length : Int) + s) = (A.length : Int) + X.length + k by omega]
 (conv => whnf)
 have nil2 : X2.length = 0 → X2 = [] := List.eq_nil_of_length_eq_zero
 have nil1 : X1.length = 0 → X1 = [] := List.eq_nil_of_length_eq_zero
 have nil3 : Y1.length = 0 → Y1 = [] := List.eq_nil_of_length_eq_zero
 have nil4 : Y2.length = 0 → Y2 = [] := List.eq_nil_of_length_eq_zero
 have li1 := inOrd_len (X1 ++ Y1)
 rw [List.length_append] at li1
 refine XM.join (ι := Unit) (fun _ => ⟨[(0, .c (.rw 0)), (1, .c (.int .i64 A.length)), (2, .c (.int .i64 ((A.length : Int) + X.length))), (3, .c (.int .i64 ((A.length : Int) + X.length + Y.length))), (4, .c (.fn 108 [])), (18, .c (.int .i64 ((A.length + h : Nat) : Int))), (20, .c (.int .i64 ((A.length : Int) + s))), (24, .c (.int .i64 ((A.length : Int) + X.length + k)))], [.row 4 Fi encFi (A ++ X1 ++ Y1 ++ (X2 ++ Y2 ++ B))]⟩) (fun _ => True) ?_ (fun _ _ => ?_)
 ·(conv => whnf)
  refine dec (fun h3 => ?_) (fun h3 => ?_)
  ·(conv => whnf)
   refine dec (fun h4 => ?_) (fun h4 => ?_)
   ·(conv => whnf)
    refine cl [] [0] (rotate_spec (A ++ X1) X2 Y1 (Y2 ++ B) (by omega) (by omega) (by simp only [List.length_append]; omega) ((A.length : Int) + s) ((A.length : Int) + X.length) ((A.length : Int) + X.length + k) (by rw [List.length_append]; omega) (by rw [List.length_append]; omega) (by rw [List.length_append]; omega)) ?_
    rw [show A ++ X1 ++ Y1 ++ X2 ++ (Y2 ++ B) = A ++ X1 ++ Y1 ++ (X2 ++ Y2 ++ B) by simp]
    (conv => whnf)
    refine ⟨(), trivial, [], [.same 0], ?_⟩
    repeat' first | exact trivial | exact rfl | refine And.intro ?_ ?_
   ·rw [show A ++ X1 ++ X2 ++ Y1 ++ (Y2 ++ B) = A ++ X1 ++ Y1 ++ (X2 ++ Y2 ++ B) by rw [nil3 (by omega)]; simp]
    (conv => whnf)
    refine ⟨(), trivial, [], [.same 0], ?_⟩
    repeat' first | exact trivial | exact rfl | refine And.intro ?_ ?_
  ·rw [show A ++ X1 ++ X2 ++ Y1 ++ (Y2 ++ B) = A ++ X1 ++ Y1 ++ (X2 ++ Y2 ++ B) by rw [nil2 (by omega)]; simp]
   (conv => whnf)
   refine ⟨(), trivial, [], [.same 0], ?_⟩
   repeat' first | exact trivial | exact rfl | refine And.intro ?_ ?_
 refine XM.join (ι := Unit) (fun _ => ⟨[(0, .c (.rw 0)), (1, .c (.int .i64 A.length)), (2, .c (.int .i64 ((A.length : Int) + X.length))), (3, .c (.int .i64 ((A.length : Int) + X.length + Y.length))), (4, .c (.fn 108 [])), (18, .c (.int .i64 ((A.length + h : Nat) : Int))), (20, .c (.int .i64 ((A.length : Int) + s))), (24, .c (.int .i64 ((A.length : Int) + X.length + k)))], [.row 4 Fi encFi (A ++ inOrdP (X1 ++ Y1) ++ (X2 ++ Y2 ++ B))]⟩) (fun _ => True) ?_ (fun _ _ => ?_)
 ·(conv => whnf)
  refine dec (fun h3 => ?_) (fun h3 => ?_)
  ·(conv => whnf)
   refine dec (fun h4 => ?_) (fun h4 => ?_)
   ·(conv => whnf)
    refine cl [] [0] (ih A X1 Y1 (X2 ++ Y2 ++ B) (by omega) (by omega) (by omega) wX1 wY1 (by simp only [List.length_append]; omega) q1 q3 (A.length : Int) ((A.length : Int) + s) ((A.length + h : Nat) : Int) rfl (by omega) (by omega)) ?_
    (conv => whnf)
    refine ⟨(), trivial, [], [.same 0], ?_⟩
    repeat' first | exact trivial | exact rfl | refine And.intro ?_ ?_
   ·rw [show A ++ X1 ++ Y1 ++ (X2 ++ Y2 ++ B) = A ++ inOrdP (X1 ++ Y1) ++ (X2 ++ Y2 ++ B) by rw [nil3 (by omega), List.append_nil, List.append_nil, inOrd_id wX1]]
    (conv => whnf)
    refine ⟨(), trivial, [], [.same 0], ?_⟩
    repeat' first | exact trivial | exact rfl | refine And.intro ?_ ?_
  ·rw [show A ++ X1 ++ Y1 ++ (X2 ++ Y2 ++ B) = A ++ inOrdP (X1 ++ Y1) ++ (X2 ++ Y2 ++ B) by rw [nil1 (by omega), List.append_nil, List.nil_append, inOrd_id wY1]]
   (conv => whnf)
   refine ⟨(), trivial, [], [.same 0], ?_⟩
   repeat' first | exact trivial | exact rfl | refine And.intro ?_ ?_
 generalize inOrdP (X1 ++ Y1) = Z at *
 refine XM.of ?_
 (conv => whnf)
 refine dec (fun h3 => ?_) (fun h3 => ?_)
 ·(conv => whnf)
  refine dec (fun h4 => ?_) (fun h4 => ?_)
  ·rw [show A ++ Z ++ (X2 ++ Y2 ++ B) = (A ++ Z) ++ X2 ++ Y2 ++ B by simp]
   (conv => whnf)
   refine cl [] [0] (ih (A ++ Z) X2 Y2 B (by omega) (by omega) (by omega) wX2 wY2 (by simp only [List.length_append]; omega) q2 q4 ((A.length + h : Nat) : Int) ((A.length : Int) + X.length + k) ((A.length : Int) + X.length + Y.length) (by rw [List.length_append]; omega) (by rw [List.length_append]; omega) (by rw [List.length_append]; omega)) ?_
   rw [show A ++ (Z ++ inOrdP (X2 ++ Y2)) ++ B = A ++ Z ++ inOrdP (X2 ++ Y2) ++ B by simp]
   (conv => whnf)
   exact rx [] [.same 0]
  ·rw [show A ++ (Z ++ inOrdP (X2 ++ Y2)) ++ B = A ++ Z ++ (X2 ++ Y2 ++ B) by rw [nil4 (by omega), List.append_nil, inOrd_id wX2]; simp]
   (conv => whnf)
   exact rx [] [.same 0]
 ·rw [show A ++ (Z ++ inOrdP (X2 ++ Y2)) ++ B = A ++ Z ++ (X2 ++ Y2 ++ B) by rw [nil2 (by omega), List.nil_append, inOrd_id wY2]; simp]
  (conv => whnf)
  exact rx [] [.same 0]
end Go.Nest
end
/- part -/
section

namespace Go.Nest
open Go Go.AM Go.Proofs
open Go.Proofs.YtpmjnbidmcnhnaaGreatDoor (tab tabOk)
set_option maxRecDepth 4000
theorem srt_two {bs : Nat} {r : List Fi} (hb : 0 < bs) (h : 2 * bs ≤ r.length) : srt bs r = inOrdP (r.take bs) ++ inOrdP ((r.drop bs).take bs) ++ srt bs (r.drop (2 * bs)) ∧ inOrdP (inOrdP (r.take bs) ++ inOrdP ((r.drop bs).take bs)) = inOrdP (r.take (2 * bs)) := by
 have e : (r.drop bs).drop bs = r.drop (2 * bs) := by rw [List.drop_drop]; congr 1; omega
 refine ⟨?_, ?_⟩
 ·rw [srt_more hb (by omega), srt_more hb (by rw [List.length_drop]; omega), e, List.append_assoc]
 ·rw [inOrd_two]
  congr 1
  conv => rhs; rw [show 2 * bs = bs + bs by omega, List.take_add]
theorem srt_rest {bs : Nat} {r : List Fi} (hb : 0 < bs) (h1 : bs < r.length) (h2 : r.length < 2 * bs) : srt bs r = inOrdP (r.take bs) ++ inOrdP (r.drop bs) ∧ inOrdP (inOrdP (r.take bs) ++ inOrdP (r.drop bs)) = srt (2 * bs) r := by
 refine ⟨?_, ?_⟩
 ·rw [srt_more hb (by omega), srt_few (d := r.drop bs) (by rw [List.length_drop]; omega)]
 ·rw [inOrd_two, List.take_append_drop, srt_few (by omega)]
set_option maxHeartbeats 4000000 in
theorem stable_spec (d : List Fi) (hn : d.length ≤ 150) (hp : ∀ f ∈ d, f.path.length ≤ 4000000) (n : Int) (hn' : n = d.length) : Does Tryz.prog 139 [.c (.rw 0), .c (.int .i64 n), .c (.fn 108 [])] [.row 4 Fi encFi (d)] (Rt (.tup []) [.row 4 Fi encFi (inOrdP d)]) := by
 subst hn'
 refine X_spM (n := 63) (n0 := 1) tabOk Tryz.call139 Tryz.func139 ?_
 intro hb
 refine XM.seq ?_
 (conv => whnf)
 refine XM.seq ?_
 (conv => whnf)
 refine XM.join (ι := Nat × List Fi) (fun z => ⟨[(0, .c (.rw 0)), (1, .c (.int .i64 d.length)), (2, .c (.fn 108 [])), (6, .c (.int .i64 20)), (7, .c (.int .i64 z.1))], [.row 4 Fi encFi (z.2 ++ d.drop z.1)]⟩) (fun z => (z.1 ≤ d.length ∧ d.length < z.1 + 20) ∧ z.2.length = z.1 ∧ z.2 ++ srt 20 (d.drop z.1) = srt 20 d) ?_ (fun z hz => ?_)
 ·(conv => whnf)
  refine lp (Nat × List Fi) (fun z => ⟨[(0, .c (.rw 0)), (1, .c (.int .i64 d.length)), (2, .c (.fn 108 [])), (6, .c (.int .i64 20)), (7, .c (.int .i64 z.1)), (8, .c (.int .i64 ((z.1 : Int) + 20)))], [.row 4 Fi encFi (z.2 ++ d.drop z.1)]⟩) (fun z => (z.1 ≤ d.length) ∧ z.2.length = z.1 ∧ z.2 ++ srt 20 (d.drop z.1) = srt 20 d) (fun z => d.length - z.1) (0, []) [] [.same 0] ?_ ?_ (fun z hz => ?_)
  ·simp
  ·repeat' first | exact trivial | exact rfl | refine And.intro ?_ ?_
  obtain ⟨p, P⟩ := z
  obtain ⟨h1, h2, h3⟩ := hz
  dsimp only at h1 h2 h3
  (conv => whnf)
  refine dec (fun h4 => ?_) (fun h4 => ?_)
  ·have h4 : p + 20 ≤ d.length := by simp only [] at h4; omega
   have e : (p, P).2 ++ d.drop (p, P).1 = P ++ (d.drop p).take 20 ++ (d.drop p).drop 20 := by rw [List.append_assoc, List.take_append_drop]
   have e2 : (d.drop p).drop 20 = d.drop (p + 20) := List.drop_drop ..
   have ld : (d.drop p).length = d.length - p := List.length_drop ..
   have l20 : ((d.drop p).take 20).length = 20 := by rw [List.length_take]; omega
   have h5 := srt_more (bs := 20) (d := d.drop p) (by omega) (by omega)
   rw [e2] at h5
   rw [e]
   (conv => whnf)
   refine cl [] [0] (insertSort_spec P ((d.drop p).take 20) ((d.drop p).drop 20) (by rw [e2, List.length_drop]; omega) (fun f hf => hp f (List.mem_of_mem_drop (List.mem_of_mem_take hf))) p ((p : Int) + 20) (by omega) (by omega)) ?_
   (conv => whnf)
   refine ⟨i64 (by simp only []; omega) (by simp only []; omega), ?_⟩
   rw [e2, show ((((p, P).1 : Nat) : Int) + 20) = ((p + 20 : Nat) : Int) by simp only []; omega]
   (conv => whnf)
   refine ag (p + 20, P ++ inOrdP ((d.drop p).take 20)) [] [.same 0] ⟨h4, by rw [List.length_append, inOrd_len]; omega, by rw [List.append_assoc, ← h5, h3]⟩ (by simp only []; omega) ?_
   repeat' first | exact trivial | exact rfl | refine And.intro ?_ ?_
  ·(conv => whnf)
   refine ⟨(p, P), ⟨⟨h1, by simp only [] at h4; omega⟩, h2, h3⟩, [], [.same 0], ?_⟩
   repeat' first | exact trivial | exact rfl | refine And.intro ?_ ?_
 obtain ⟨p, P⟩ := z
 obtain ⟨⟨h1, h4⟩, h2, h3⟩ := hz
 dsimp only at h1 h2 h3 h4
 refine XM.seq ?_
 rw [show (p, P).2 ++ d.drop (p, P).1 = P ++ d.drop p ++ [] by simp]
 have ld : (d.drop p).length = d.length - p := List.length_drop ..
 (conv => whnf)
 refine cl [] [0] (insertSort_spec P (d.drop p) [] (by simp; omega) (fun f hf => hp f (List.mem_of_mem_drop hf)) p (d.length : Int) (by omega) (by omega)) ?_
 rw [show P ++ inOrdP (d.drop p) ++ [] = srt 20 d by rw [← h3, srt_few (by omega)]; simp]
 refine XM.of ?_
 have len : ∀ bs, (srt bs d).length = d.length := fun bs => srt_len d.length bs d (Nat.le_refl _)
 (conv => whnf)
 refine lp Nat (fun bs => ⟨[(0, .c (.rw 0)), (1, .c (.int .i64 d.length)), (2, .c (.fn 108 [])), (6, .c (.int .i64 bs))], [.row 4 Fi encFi (srt bs d)]⟩) (fun bs => (20 ≤ bs ∧ bs ≤ 400) ∧ True) (fun bs => 400 - bs) 20 [] [.same 0] ?_ ?_ (fun bs hbs => ?_)
 ·simp
 ·repeat' first | exact trivial | exact rfl | refine And.intro ?_ ?_
 obtain ⟨⟨g1, g2⟩, _⟩ := hbs
 (conv => whnf)
 refine dec (fun h5 => ?_) (fun h5 => ?_)
 ·have h5 : bs < d.length := by omega
  (conv => whnf)
  refine ⟨i64 (by omega) (by omega), ?_⟩
  rw [show (2 : Int) * (bs : Nat) = ((0 : Nat) : Int) + 2 * bs by omega]
  rw [show srt bs d = [] ++ srt bs (d.drop 0) by simp]
  (conv => whnf)
  refine lp (Nat × List Fi) (fun z => ⟨[(0, .c (.rw 0)), (1, .c (.int .i64 d.length)), (2, .c (.fn 108 [])), (6, .c (.int .i64 bs)), (7, .c (.int .i64 z.1)), (8, .c (.int .i64 ((z.1 : Int) + 2 * bs)))], [.row 4 Fi encFi (z.2 ++ srt bs (d.drop z.1))]⟩) (fun z => (z.1 ≤ d.length) ∧ z.2.length = z.1 ∧ z.2 ++ srt (2 * bs) (d.drop z.1) = srt (2 * bs) d) (fun z => d.length - z.1) (0, []) [] [.same 0] ?_ ?_ (fun z hz => ?_)
  ·simp
  ·repeat' first | exact trivial | exact rfl | refine And.intro ?_ ?_
  obtain ⟨p, P⟩ := z
  obtain ⟨k1, k2, k3⟩ := hz
  dsimp only at k1 k2 k3
  have ld : (d.drop p).length = d.length - p := List.length_drop ..
  have mem : ∀ (l : List Fi), (∀ f ∈ l, f ∈ d.drop p) → ∀ f ∈ inOrdP l, f.path.length ≤ 4000000 := fun l hl f hf => hp f (List.mem_of_mem_drop (hl f ((inOrd_perm _).mem_iff.1 hf)))
  (conv => whnf)
  refine dec (fun h6 => ?_) (fun h6 => ?_)
  ·have h6 : p + 2 * bs ≤ d.length := by simp only [] at h6; omega
   obtain ⟨m1, m2⟩ := srt_two (r := d.drop p) (bs := bs) (by omega) (by omega)
   have m3 := srt_more (bs := 2 * bs) (d := d.drop p) (by omega) (by omega)
   have e2 : (d.drop p).drop (2 * bs) = d.drop (p + 2 * bs) := List.drop_drop ..
   rw [e2] at m1 m3
   have u1 : (inOrdP ((d.drop p).take bs)).length = bs := by rw [inOrd_len, List.length_take]; omega
   have u2 : (inOrdP (((d.drop p).drop bs).take bs)).length = bs := by rw [inOrd_len, List.length_take, List.length_drop]; omega
   have u3 := srt_len (d.drop (p + 2 * bs)).length bs (d.drop (p + 2 * bs)) (Nat.le_refl _)
   rw [List.length_drop] at u3
   rw [show (p, P).2 ++ srt bs (d.drop (p, P).1) = P ++ inOrdP ((d.drop p).take bs) ++ inOrdP (((d.drop p).drop bs).take bs) ++ srt bs (d.drop (p + 2 * bs)) by rw [show d.drop (p, P).1 = d.drop p from rfl, m1]; simp]
   (conv => whnf)
   refine ⟨i64 (by simp only []; omega) (by simp only []; omega), ?_⟩
   (conv => whnf)
   refine cl [] [0] (symMerge_spec 1000 P (inOrdP ((d.drop p).take bs)) (inOrdP (((d.drop p).drop bs).take bs)) (srt bs (d.drop (p + 2 * bs))) (by omega) (by omega) (by omega) (inOrd_wk _) (inOrd_wk _) (by omega) (mem _ fun f hf => List.mem_of_mem_take hf) (mem _ fun f hf => List.mem_of_mem_drop (List.mem_of_mem_take hf)) p ((p : Int) + bs) ((p : Int) + 2 * bs) (by omega) (by omega) (by omega)) ?_
   rw [m2]
   (conv => whnf)
   refine ⟨i64 (by omega) (by omega), ?_⟩
   (conv => whnf)
   refine ⟨i64 (by simp only []; omega) (by simp only []; omega), ?_⟩
   rw [show ((((p, P).1 : Nat) : Int) + 2 * (bs : Nat)) = ((p + 2 * bs : Nat) : Int) by simp only []; omega]
   (conv => whnf)
   refine ag (p + 2 * bs, P ++ inOrdP ((d.drop p).take (2 * bs))) [] [.same 0] ⟨h6, by rw [List.length_append, inOrd_len, List.length_take]; omega, by rw [List.append_assoc, ← m3, k3]⟩ (by simp only []; omega) ?_
   repeat' first | exact trivial | exact rfl | refine And.intro ?_ ?_
  ·have h6 : d.length < p + 2 * bs := by simp only [] at h6; omega
   (conv => whnf)
   refine ⟨i64 (by simp only []; omega) (by simp only []; omega), ?_⟩
   (conv => whnf)
   refine dec (fun h7 => ?_) (fun h7 => ?_)
   ·have h7 : p + bs < d.length := by simp only [] at h7; omega
    obtain ⟨m1, m2⟩ := srt_rest (r := d.drop p) (bs := bs) (by omega) (by omega) (by omega)
    have u1 : (inOrdP ((d.drop p).take bs)).length = bs := by rw [inOrd_len, List.length_take]; omega
    have u2 : (inOrdP ((d.drop p).drop bs)).length = d.length - p - bs := by rw [inOrd_len, List.length_drop]; omega
    rw [show (p, P).2 ++ srt bs (d.drop (p, P).1) = P ++ inOrdP ((d.drop p).take bs) ++ inOrdP ((d.drop p).drop bs) ++ [] by rw [show d.drop (p, P).1 = d.drop p from rfl, m1]; simp]
    (conv => whnf)
    refine cl [] [0] (symMerge_spec 1000 P (inOrdP ((d.drop p).take bs)) (inOrdP ((d.drop p).drop bs)) [] (by omega) (by omega) (by omega) (inOrd_wk _) (inOrd_wk _) (by rw [List.length_nil]; omega) (mem _ fun f hf => List.mem_of_mem_take hf) (mem _ fun f hf => List.mem_of_mem_drop hf) p ((p : Int) + bs) (d.length : Int) (by omega) (by omega) (by omega)) ?_
    rw [m2, show P ++ srt (2 * bs) (d.drop p) ++ [] = srt (2 * bs) d by rw [k3]; simp]
    (conv => whnf)
    refine ⟨i64 (by omega) (by omega), ?_⟩
    rw [show (bs : Int) * 2 = ((2 * bs : Nat) : Int) by omega]
    (conv => whnf)
    refine ag (2 * bs) [] [.same 0] ⟨⟨by omega, by omega⟩, trivial⟩ (by simp only []; omega) ?_
    repeat' first | exact trivial | exact rfl | refine And.intro ?_ ?_
   ·have h7 : d.length ≤ p + bs := by simp only [] at h7; omega
    rw [show (p, P).2 ++ srt bs (d.drop (p, P).1) = srt (2 * bs) d by rw [← k3, show d.drop (p, P).1 = d.drop p from rfl, srt_few (bs := bs) (by omega), srt_few (bs := 2 * bs) (by omega)]]
    (conv => whnf)
    refine ⟨i64 (by omega) (by omega), ?_⟩
    rw [show (bs : Int) * 2 = ((2 * bs : Nat) : Int) by omega]
    (conv => whnf)
    refine ag (2 * bs) [] [.same 0] ⟨⟨by omega, by omega⟩, trivial⟩ (by simp only []; omega) ?_
    repeat' first | exact trivial | exact rfl | refine And.intro ?_ ?_
 ·rw [srt_few (by omega)]
  (conv => whnf)
  exact rx [] [.same 0]
theorem sortStable_spec (d : List Fi) (hn : d.length ≤ 150) (hp : ∀ f ∈ d, f.path.length ≤ 4000000) : Does Tryz.prog 107 [.c (.rw 0), .c (.fn 108 [])] [.row 4 Fi encFi (d)] (Rt (.tup []) [.row 4 Fi encFi (inOrdP d)]) := by
 refine X_spec (n := 9) (n0 := 1) tabOk Tryz.call107 Tryz.func107 ?_
 intro hb
 (conv => whnf)
 refine cl [] [0] (stable_spec d hn hp d.length rfl) ?_
 (conv => whnf)
 exact rx [] [.same 0]
theorem cloneFis_spec (l : List Fi) (hl : l.length * 40 ≤ 140737488355328) : Does Tryz.prog 106 [.c (.bs 4 Fi encFi l)] [] (Rt (.c (.rw 0)) [.row 4 Fi encFi l]) := by
 refine X_spec (n := 8) (n0 := 0) tabOk Tryz.call106 Tryz.func106 ?_
 intro hb
 (conv => whnf)
 intro q hq
 (conv => whnf)
 refine boo (fun h => ?_) (fun h => ?_)
 ·obtain rfl := hq h
  (conv => whnf)
  exact rx [] [.new]
 ·(conv => whnf)
  refine ⟨[], rfl, ?_⟩
  (conv => whnf)
  refine ⟨_, _, rfl, rfl, (by simp only [List.length_append, List.length_cons, List.length_nil]; omega), ?_⟩
  (conv => whnf)
  exact rx [] [.same 1]
theorem sorted_spec (d : List Fi) (hn : d.length ≤ 150) (hp : ∀ f ∈ d, f.path.length ≤ 4000000) : Does Tryz.prog 60 [.c (.bs 4 Fi encFi d)] [] (Rt (.c (.rw 0)) [.row 4 Fi encFi (inOrdP d)]) := by
 refine X_spec (n := 9) (n0 := 0) tabOk Tryz.call60 Tryz.func60 ?_
 intro hb
 (conv => whnf)
 refine cl [] [] (cloneFis_spec d (by omega)) ?_
 (conv => whnf)
 refine cl [] [0] (sortStable_spec d hn hp) ?_
 (conv => whnf)
 exact rx [] [.same 0]
end Go.Nest
end
/- part -/
section

namespace Go.Nest
open Go Go.AM Go.Proofs
open Go.Proofs.YtpmjnbidmcnhnaaGreatDoor (tab tabOk)
set_option maxRecDepth 4000
theorem path_short' {p : List UInt8} (h : (splitP p).2 = 0) : p.length ≤ 168 := by
 obtain ⟨h1, h2, _⟩ := split_zero h
 have h3 := unsp_bound (spl p) fun s hs => name_len (namesF_all h1 s hs)
 rw [unsp_spl] at h3
 omega
theorem files_sum {L : List Ob} (hL : PoolOk L) (t : Int) : (filesP L t).1.length ≤ 60 ∧ ∀ f ∈ (filesP L t).1, f.path.length ≤ 4000 := by
 by_cases h : (filesP L t).2 = 0
 ·obtain ⟨h1, h2, h3⟩ := files_told hL h
  have hc := tree_check hL h1 h2 h3
  refine ⟨h2, fun f hf => ?_⟩
  have := path_short' ((filesF_all hc).2 f hf).1
  omega
 ·rw [files_nil h]
  exact ⟨Nat.zero_le _, fun f hf => by cases hf⟩
end Go.Nest
end
/- part -/
section

namespace Go.Nest
open Go Go.AM
set_option maxRecDepth 10000
def whL (f : Int → Int → List UInt8 → List Fi → List Fi × Int) (pre : List UInt8) : List Fi → List Fi → List Fi × Int
 | [], out => (out, 0)
 | x :: l, out =>
  if x.mode = 3 then
   if (f x.repo x.id ((pre ++ x.path) ++ [47]) out).2 = 0 then whL f pre l (f x.repo x.id ((pre ++ x.path) ++ [47]) out).1 else f x.repo x.id ((pre ++ x.path) ++ [47]) out
  else if out.length = 60 then (out, 5) else whL f pre l (out ++ [⟨pre ++ x.path, x.mode, x.id, x.repo⟩])
noncomputable def goneP (L : List Ob) (has : Int → Int → Bool) (r id : Int) : Bool := !decide (kindOf L id = 3) || (!has r id || (reachP L [(getP L id).tree]).any fun k => !has r k)
noncomputable def whW (L : List Ob) (has : Int → Int → Bool) : Nat → Int → Int → List UInt8 → List Fi → List Fi × Int
 | 0, _, _, _, out => (out, 3)
 | n + 1, r, id, pre, out =>
  if goneP L has r id = true then (out, 14)
  else if (filesP L (getP L id).tree).2 = 0 then whL (whW L has n) pre (filesP L (getP L id).tree).1 out else (out, (filesP L (getP L id).tree).2)
noncomputable def wholeP (L : List Ob) (has : Int → Int → Bool) (r id : Int) : List Fi × Int :=
 if (whW L has 6 r id [] []).2 = 0 then
  if checkF none (inOrdP (whW L has 6 r id [] []).1) = 0 then (inOrdP (whW L has 6 r id [] []).1, 0) else ([], checkF none (inOrdP (whW L has 6 r id [] []).1))
 else ([], (whW L has 6 r id [] []).2)
structure FitF (k : Nat) (l : List Fi) : Prop where
 len : l.length ≤ 60
 path : ∀ f ∈ l, f.path.length ≤ k
theorem FitF.snoc {k : Nat} {l : List Fi} (h : FitF k l) (hl : ¬ l.length = 60) {f : Fi} (hf : f.path.length ≤ k) : FitF k (l ++ [f]) := by
 have := h.len
 refine ⟨by rw [List.length_append, List.length_singleton]; omega, fun g hg => ?_⟩
 rcases List.mem_append.1 hg with hg | hg
 ·exact h.path g hg
 ·rw [List.mem_singleton] at hg; subst hg; exact hf
theorem whL_fit {f : Int → Int → List UInt8 → List Fi → List Fi × Int} {pre : List UInt8} {k : Nat} (hf : ∀ r id p out, p.length ≤ pre.length + 4001 → FitF k out → FitF k (f r id p out).1) (hk : pre.length + 4001 ≤ k) : ∀ {l out : List Fi}, (∀ x ∈ l, x.path.length ≤ 4000) → FitF k out → FitF k (whL f pre l out).1
 | [], out, _, h => h
 | x :: l, out, hl, h => by
  have hx := hl x (by simp)
  have hl' : ∀ x ∈ l, x.path.length ≤ 4000 := fun y hy => hl y (List.mem_cons_of_mem _ hy)
  unfold whL
  have h1 := hf x.repo x.id ((pre ++ x.path) ++ [47]) out (by simp only [List.length_append, List.length_singleton]; omega) h
  split
  ·split
   ·exact whL_fit hf hk hl' h1
   ·exact h1
  ·split
   ·exact h
   ·rename_i h2
    exact whL_fit hf hk hl' (h.snoc h2 (by simp only [List.length_append]; omega))
theorem whW_fit {L : List Ob} (hL : PoolOk L) {has : Int → Int → Bool} {k : Nat} : ∀ {n : Nat} {r id : Int} {pre : List UInt8} {out : List Fi}, pre.length + 4001 * n ≤ k → FitF k out → FitF k (whW L has n r id pre out).1 := by
 intro n
 induction n with
 | zero => intro r id pre out hp h; exact h
 | succ n ih =>
  intro r id pre out hp h
  unfold whW
  split
  ·exact h
  ·split
   ·refine whL_fit (fun r id p out h1 h2 => ih ?_ h2) ?_ (files_sum hL _).2 h
    ·rw [Nat.mul_succ] at hp; omega
    ·rw [Nat.mul_succ] at hp; omega
   ·exact h
theorem inOrd_fit {k : Nat} {l : List Fi} (h : FitF k l) : FitF k (inOrdP l) :=
 ⟨by rw [inOrd_len]; exact h.len, fun f hf => h.path f ((inOrd_perm l).mem_iff.1 hf)⟩
end Go.Nest
end
