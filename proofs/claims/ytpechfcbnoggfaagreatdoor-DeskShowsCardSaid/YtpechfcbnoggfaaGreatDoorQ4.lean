/- part -/
import Derived.Test.YtpechfcbnoggfaaGreatDoorW10
import Derived.Test.YtpechfcbnoggfaaGreatDoorE0
import Derived.Test.YtpechfcbnoggfaaGreatDoorV1
import Derived.Test.YtpechfcbnoggfaaGreatDoorG9
import Derived.Test.YtpechfcbnoggfaaGreatDoorP9
set_option linter.unusedVariables false
set_option linter.unusedSimpArgs false
section

namespace Go.Nest
open Go Go.AM
def lnF (x : It) : Fi := ⟨x.path, 3, x.id, x.repo⟩
def filesW : List Ob → List It → List Fi → List Fi × Int × List Ob
 | L, [], out => (out, 0, L)
 | L, x :: r, out => if x.link = true then filesW L r (out ++ [lnF x]) else
  if (putP L (blobO x.bytes)).2.1 ≠ 0 then ([], (putP L (blobO x.bytes)).2.1, (putP L (blobO x.bytes)).2.2) else filesW (putP L (blobO x.bytes)).2.2 r (out ++ [⟨x.path, 1, (putP L (blobO x.bytes)).1, 0⟩])
def treeW (L : List Ob) (l : List It) : Int × Int × List Ob :=
 if (filesW L l []).2.1 ≠ 0 then (0, (filesW L l []).2.1, (filesW L l []).2.2) else buildP (filesW L l []).2.2 (filesW L l []).1
def saysW (L : List Ob) (l : List It) (h t : Int) : Bool := if h < 0 then decide (l.length = 0) else decide ((getP L h).tree = t)
def statusW (L : List Ob) (l : List It) (h : Int) : List Ch × Int :=
 if (filesW L l []).2.1 ≠ 0 then ([], (filesW L l []).2.1) else if h < 0 then (diffP [] (filesW L l []).1, 0) else
 if (filesP (filesW L l []).2.2 (getP (filesW L l []).2.2 h).tree).2 ≠ 0 then ([], (filesP (filesW L l []).2.2 (getP (filesW L l []).2.2 h).tree).2) else (diffP (filesP (filesW L l []).2.2 (getP (filesW L l []).2.2 h).tree).1 (filesW L l []).1, 0)
def upW (h : Int) (others : List Int) : List Int := (if 0 ≤ h then [h] else []) ++ others
def commW (L : List Ob) (l : List It) (h : Int) (text : List UInt8) (others : List Int) : Int × Int × List Ob :=
 if (treeW L l).2.1 ≠ 0 then (0, (treeW L l).2.1, (treeW L l).2.2) else if 0 ≤ h ∧ saysW (treeW L l).2.2 l h (treeW L l).1 = true ∧ others.length = 0 then (0, 17, (treeW L l).2.2) else
 if (putP (treeW L l).2.2 (comO (treeW L l).1 (upW h others) text)).2.1 ≠ 0 then (0, (putP (treeW L l).2.2 (comO (treeW L l).1 (upW h others) text)).2.1, (putP (treeW L l).2.2 (comO (treeW L l).1 (upW h others) text)).2.2)
 else putP (treeW L l).2.2 (comO (treeW L l).1 (upW h others) text)
def headW (L : List Ob) (l : List It) (h : Int) (text : List UInt8) (others : List Int) : Int := if (commW L l h text others).2.1 = 0 then (commW L l h text others).1 else h
def docW (x : It) : Dc := ⟨x.path, x.bytes⟩
theorem filesW_ok : ∀ {l : List It} {L : List Ob} {out : List Fi}, PoolOk L → PoolOk (filesW L l out).2.2 ∧ L <+: (filesW L l out).2.2
 | [], L, out, h => ⟨h, List.prefix_refl _⟩
 | x :: r, L, out, h => by
  unfold filesW
  split
  ·exact filesW_ok h
  split
  ·exact ⟨putP_ok h _, put_ext _⟩
  ·obtain ⟨h1, h2⟩ := filesW_ok (l := r) (out := out ++ [⟨x.path, 1, (putP L (blobO x.bytes)).1, 0⟩]) (putP_ok h (blobO x.bytes))
   exact ⟨h1, (put_ext _).trans h2⟩
theorem treeW_ok {L : List Ob} {l : List It} (h : PoolOk L) : PoolOk (treeW L l).2.2 ∧ L <+: (treeW L l).2.2 := by
 obtain ⟨h1, h2⟩ := filesW_ok (l := l) (out := []) h
 unfold treeW
 split
 ·exact ⟨h1, h2⟩
 ·obtain ⟨h3, h4⟩ := buildP_ok h1 (filesW L l []).1
  exact ⟨h3, h2.trans h4⟩
theorem commW_ok {L : List Ob} {l : List It} {h : Int} {text : List UInt8} {others : List Int} (hL : PoolOk L) : PoolOk (commW L l h text others).2.2 ∧ L <+: (commW L l h text others).2.2 := by
 obtain ⟨h1, h2⟩ := treeW_ok (l := l) hL
 unfold commW
 split
 ·exact ⟨h1, h2⟩
 split
 ·exact ⟨h1, h2⟩
 split
 ·exact ⟨putP_ok h1 _, h2.trans (put_ext _)⟩
 ·exact ⟨putP_ok h1 _, h2.trans (put_ext _)⟩
theorem filesW_len : ∀ {l : List It} {L : List Ob} {out : List Fi}, (filesW L l out).1.length ≤ out.length + l.length
 | [], L, out => by simp [filesW]
 | x :: r, L, out => by
  unfold filesW
  split
  ·have := filesW_len (l := r) (L := L) (out := out ++ [lnF x])
   simp only [List.length_append, List.length_cons, List.length_nil] at this ⊢; omega
  split
  ·simp
  ·have := filesW_len (l := r) (L := (putP L (blobO x.bytes)).2.2) (out := out ++ [⟨x.path, 1, (putP L (blobO x.bytes)).1, 0⟩])
   simp only [List.length_append, List.length_cons, List.length_nil] at this ⊢; omega
theorem filesW_path {n : Nat} : ∀ {l : List It} {L : List Ob} {out : List Fi}, (∀ f ∈ out, f.path.length ≤ n) → (∀ x ∈ l, x.path.length ≤ n) → ∀ f ∈ (filesW L l out).1, f.path.length ≤ n
 | [], L, out, h, _ => h
 | x :: r, L, out, h, hl => by
  have hx := hl x (by simp)
  have hr : ∀ y ∈ r, y.path.length ≤ n := fun y hy => hl y (by simp [hy])
  unfold filesW
  split
  ·refine filesW_path (fun f hf => ?_) hr
   rcases List.mem_append.1 hf with hf | hf
   ·exact h f hf
   ·rw [List.mem_singleton] at hf; subst hf; exact hx
  split
  ·intro f hf; cases hf
  ·refine filesW_path (fun f hf => ?_) hr
   rcases List.mem_append.1 hf with hf | hf
   ·exact h f hf
   ·rw [List.mem_singleton] at hf; subst hf; exact hx
end Go.Nest
end
/- part -/
section

namespace Go.Nest
open Go Go.AM Go.Proofs
open Go.Proofs.YtpechfcbnoggfaaGreatDoor (tab tabOk)
set_option maxRecDepth 4000
theorem t_get {α : Type} {P R : List α} {u : α} {n : Nat} (h : n = P.length) : (P ++ u :: R)[n]? = some u := by subst h; simp
theorem t_set {α : Type} {P R : List α} {u v : α} {n : Nat} (h : n = P.length) : (P ++ u :: R).set n v = P ++ v :: R := by subst h; simp
theorem t_lt {α : Type} {P R : List α} {u : α} {n : Nat} (h : n = P.length) : n < (P ++ u :: R).length := by subst h; simp
theorem t_get2 {α : Type} {P Q R : List α} {u v : α} {n : Nat} (h : n = P.length + 1 + Q.length) : (P ++ u :: (Q ++ v :: R))[n]? = some v := by
 have := t_get (P := P ++ u :: Q) (R := R) (u := v) (n := n) (by simp; omega)
 simpa using this
theorem t_set2 {α : Type} {P Q R : List α} {u v w : α} {n : Nat} (h : n = P.length + 1 + Q.length) : (P ++ u :: (Q ++ v :: R)).set n w = P ++ u :: (Q ++ w :: R) := by
 have := t_set (P := P ++ u :: Q) (R := R) (u := v) (v := w) (n := n) (by simp; omega)
 simpa using this
theorem t_lt2 {α : Type} {P Q R : List α} {u v : α} {n : Nat} (h : n = P.length + 1 + Q.length) : n < (P ++ u :: (Q ++ v :: R)).length := by simp; omega
def cmpP (x y : Fi) : Int := if lessP x.path y.path = true then -1 else if lessP y.path x.path = true then 1 else 0
theorem cmpP_neg {x y : Fi} : cmpP x y < 0 ↔ lessP x.path y.path = true := by
 unfold cmpP
 split
 ·simp [*]
 ·split <;> simp [*]
theorem sortedF_spec (x y : Fi) (hx : x.path.length ≤ 4000000) (hy : y.path.length ≤ 4000000) : Does Tryz.prog 174 [.st (encFi x), .st (encFi y)] [] (Rt (.c (.int .i64 (cmpP x y))) []) := by
 refine X_spec (n := 17) (n0 := 0) tabOk Tryz.call174 Tryz.func174 ?_
 intro hb
 (conv => whnf)
 refine cl [] [] (less_spec x.path y.path hx hy) ?_
 unfold cmpP
 (conv => whnf)
 refine boo (fun h => ?_) (fun h => ?_)
 ·rw [if_pos h]
  (conv => whnf)
  exact rtI rfl
 ·rw [if_neg (by simp [h])]
  (conv => whnf)
  refine cl [] [] (less_spec y.path x.path hy hx) ?_
  (conv => whnf)
  refine boo (fun h => ?_) (fun h => ?_)
  ·rw [if_pos h]
   (conv => whnf)
   exact rtI rfl
  ·rw [if_neg (by simp [h])]
   (conv => whnf)
   exact rtI rfl
set_option maxHeartbeats 1000000 in
theorem swapRange_spec (A U M V B : List Fi) (h : U.length = V.length) (hn : A.length + U.length + M.length + V.length + B.length ≤ 1000) (a b n : Int) (ha : a = A.length) (hb' : b = A.length + U.length + M.length) (hn' : n = U.length) : Does Tryz.prog 349 [.c (.rw 0), .c (.int .i64 a), .c (.int .i64 b), .c (.int .i64 n), .c (.fn 174 [])] [.row 4 Fi encFi (A ++ U ++ M ++ V ++ B)] (Rt (.tup []) [.row 4 Fi encFi (A ++ V ++ M ++ U ++ B)]) := by
 subst ha; subst hb'; subst hn'
 refine X_spec (n := 38) (n0 := 1) tabOk Tryz.call349 Tryz.func349 ?_
 intro hb
 (conv => whnf)
 refine lp Nat (fun i => ⟨[(0, .c (.rw 0)), (1, .c (.int .i64 A.length)), (2, .c (.int .i64 ((A.length : Int) + U.length + M.length))), (3, .c (.int .i64 U.length)), (10, .c (.int .i64 i))], [.row 4 Fi encFi (A ++ (V.take i ++ U.drop i) ++ M ++ (U.take i ++ V.drop i) ++ B)]⟩) (fun i => i ≤ U.length ∧ True) (fun i => U.length - i) 0 [] [.same 0] ?_ ?_ (fun i hi => ?_)
 ·simp
 ·repeat' first | exact trivial | exact rfl | refine And.intro ?_ ?_
 (conv => whnf)
 refine dec (fun h4 => ?_) (fun h4 => ?_)
 ·have hlt : i < U.length := by omega
  have hlv : i < V.length := by omega
  have hD : A ++ (V.take i ++ U.drop i) ++ M ++ (U.take i ++ V.drop i) ++ B = (A ++ V.take i) ++ U[i] :: ((U.drop (i + 1) ++ M ++ U.take i) ++ V[i] :: (V.drop (i + 1) ++ B)) := by
   rw [List.drop_eq_getElem_cons hlt, List.drop_eq_getElem_cons hlv]; simp only [List.append_assoc, List.cons_append, List.nil_append]
  have hE : A ++ (V.take (i + 1) ++ U.drop (i + 1)) ++ M ++ (U.take (i + 1) ++ V.drop (i + 1)) ++ B = (A ++ V.take i) ++ V[i] :: ((U.drop (i + 1) ++ M ++ U.take i) ++ U[i] :: (V.drop (i + 1) ++ B)) := by
   rw [List.take_succ_eq_append_getElem hlt, List.take_succ_eq_append_getElem hlv]; simp only [List.append_assoc, List.cons_append, List.nil_append]
  have l1 : A.length + i = (A ++ V.take i).length := by rw [List.length_append, List.length_take]; omega
  have l2 : A.length + U.length + M.length + i = (A ++ V.take i).length + 1 + (U.drop (i + 1) ++ M ++ U.take i).length := by
   simp only [List.length_append, List.length_take, List.length_drop]; omega
  rw [hD]
  generalize A ++ V.take i = P at *
  generalize U.drop (i + 1) ++ M ++ U.take i = Q at *
  generalize V.drop (i + 1) ++ B = R at *
  (conv => whnf)
  refine ⟨false, .grow, (.l [0, 1, 2, 3, 4, 5, 6, 7, 8, 9, 10, 11, 12, 13, 14, 15, 16, 17, 18, 19, 20, 21, 22, 23]), by kernel_rfl, .inl ?_⟩
  (conv => whnf)
  refine ⟨i64 (by omega) (by omega), ?_⟩
  (conv => whnf)
  refine ⟨i64 (by omega) (by omega), ?_⟩
  (conv => whnf)
  refine ⟨i64 (by omega) (by omega), ?_⟩
  (conv => whnf)
  refine ⟨A.length + U.length + M.length + i, ⟨by omega, t_lt2 l2⟩, ?_⟩
  (conv => whnf)
  refine ⟨V[i], t_get2 l2, ?_⟩
  (conv => whnf)
  refine ⟨i64 (by omega) (by omega), ?_⟩
  (conv => whnf)
  refine ⟨A.length + i, ⟨by omega, t_lt l1⟩, ?_⟩
  (conv => whnf)
  refine ⟨U[i], t_get l1, ?_⟩
  (conv => whnf)
  refine ⟨A.length + i, ⟨by omega, t_lt l1⟩, ?_⟩
  (conv => whnf)
  refine ⟨U[i], V[i], t_get l1, ⟨by simp, rfl⟩, ?_⟩
  rw [t_set l1]
  (conv => whnf)
  refine ⟨A.length + U.length + M.length + i, ⟨by omega, t_lt2 l2⟩, ?_⟩
  (conv => whnf)
  refine ⟨V[i], U[i], t_get2 l2, ⟨by simp, rfl⟩, ?_⟩
  rw [t_set2 l2]
  repeat' ((conv => whnf); refine I6 ?_)
  refine ag (i + 1) [] [.same 0] ⟨hlt, trivial⟩ (by simp only []; omega) ?_
  rw [hE]
  repeat' first | exact trivial | exact rfl | refine And.intro ?_ ?_
 ·have e : A ++ (V.take i ++ U.drop i) ++ M ++ (U.take i ++ V.drop i) ++ B = A ++ V ++ M ++ U ++ B := by
   rw [List.take_of_length_le (l := V) (by omega), List.take_of_length_le (l := U) (by omega), List.drop_of_length_le (l := V) (by omega), List.drop_of_length_le (l := U) (by omega), List.append_nil, List.append_nil]
  rw [e]
  (conv => whnf)
  exact rx [] [.same 0]
end Go.Nest
end
/- part -/
section

namespace Go.Nest
open Go Go.AM Go.Proofs
open Go.Proofs.YtpechfcbnoggfaaGreatDoor (tab tabOk)
set_option maxRecDepth 4000
set_option maxHeartbeats 1000000 in
theorem rotate_spec (A U V B : List Fi) (hu : 0 < U.length) (hv : 0 < V.length) (hn : (A ++ U ++ V ++ B).length ≤ 1000) (a m b : Int) (ha : a = A.length) (hm : m = A.length + U.length) (hb' : b = A.length + U.length + V.length) : Does Tryz.prog 333 [.c (.rw 0), .c (.int .i64 a), .c (.int .i64 m), .c (.int .i64 b), .c (.fn 174 [])] [.row 4 Fi encFi (A ++ U ++ V ++ B)] (Rt (.tup []) [.row 4 Fi encFi (A ++ V ++ U ++ B)]) := by
 subst ha; subst hm; subst hb'
 have hn0 : A.length + U.length + V.length + B.length ≤ 1000 := by simpa [Nat.add_assoc] using hn
 refine X_spec (n := 58) (n0 := 1) tabOk Tryz.call333 Tryz.func333 ?_
 intro hb
 (conv => whnf)
 refine ⟨i64 (by omega) (by omega), ?_⟩
 (conv => whnf)
 refine ⟨i64 (by omega) (by omega), ?_⟩
 rw [show (A.length : Int) + U.length - A.length = U.length by omega, show (A.length : Int) + U.length + V.length - (A.length + U.length) = V.length by omega]
 (conv => whnf)
 refine lp (List Fi × List Fi × List Fi × List Fi) (fun x => ⟨[(0, .c (.rw 0)), (2, .c (.int .i64 ((A.length : Int) + U.length))), (4, .c (.fn 174 [])), (10, .c (.int .i64 x.2.1.length)), (11, .c (.int .i64 x.2.2.1.length))], [.row 4 Fi encFi (x.1 ++ x.2.1 ++ x.2.2.1 ++ x.2.2.2)]⟩)
  (fun x => (x.1.length + x.2.1.length = A.length + U.length ∧ 0 < x.2.1.length ∧ 0 < x.2.2.1.length ∧ x.1.length + x.2.1.length + x.2.2.1.length + x.2.2.2.length ≤ 1000) ∧ x.1 ++ x.2.2.1 ++ x.2.1 ++ x.2.2.2 = A ++ V ++ U ++ B) (fun x => x.2.1.length + x.2.2.1.length) (A, U, V, B) [] [.same 0] ?_ ?_ (fun x hx => ?_)
 ·exact ⟨⟨rfl, hu, hv, hn0⟩, rfl⟩
 ·repeat' first | exact trivial | exact rfl | refine And.intro ?_ ?_
 obtain ⟨P, u, v, Q⟩ := x
 obtain ⟨⟨h1, h2, h3, h4⟩, h5⟩ := hx
 dsimp only at h1 h2 h3 h4 h5
 (conv => whnf)
 refine decN (fun h => ?_) (fun h => ?_)
 ·have h : u.length ≠ v.length := fun e => h (by simp only []; omega)
  (conv => whnf)
  refine dec (fun h6 => ?_) (fun h6 => ?_)
  ·have h6 : v.length < u.length := by simp only [] at h6; omega
   have eu : u = u.take v.length ++ u.drop v.length := (List.take_append_drop _ _).symm
   have l1 : (u.take v.length).length = v.length := by rw [List.length_take]; omega
   have l2 : (u.drop v.length).length = u.length - v.length := List.length_drop ..
   generalize u.take v.length = u1 at *
   generalize u.drop v.length = u2 at *
   have hrow : (P, u, v, Q).1 ++ (P, u, v, Q).2.1 ++ (P, u, v, Q).2.2.1 ++ (P, u, v, Q).2.2.2 = P ++ u1 ++ u2 ++ v ++ Q := by simp [eu]
   rw [hrow]
   (conv => whnf)
   refine ⟨i64 (by simp only []; omega) (by simp only []; omega), ?_⟩
   (conv => whnf)
   refine cl [] [0] (swapRange_spec P u1 u2 v Q l1 (by omega) ((A.length : Int) + U.length - u.length) ((A.length : Int) + U.length) v.length (by omega) (by omega) (by omega)) ?_
   (conv => whnf)
   refine ⟨i64 (by simp only []; omega) (by simp only []; omega), ?_⟩
   rw [show (((P, u, v, Q).2.1.length : Nat) : Int) - (((P, u, v, Q).2.2.1.length : Nat) : Int) = u2.length by simp only []; omega]
   skip
   have c1 : (P ++ v).length + u2.length = A.length + U.length := by rw [List.length_append]; omega
   have c4 : (P ++ v).length + u2.length + u1.length + Q.length ≤ 1000 := by rw [List.length_append]; omega
   refine ag (P ++ v, u2, u1, Q) [] [.same 0] ⟨⟨c1, by simp only []; omega, by simp only []; omega, c4⟩, by rw [← h5, eu]; simp⟩ (by simp only []; omega) ?_
   rw [show (((P, u, v, Q).2.2.1.length : Nat) : Int) = u1.length by simp only []; omega]
   repeat' first | exact trivial | exact rfl | refine And.intro ?_ ?_
   all_goals trace_state
  ·have h6 : u.length < v.length := by simp only [] at h6; omega
   have ev : v = v.take (v.length - u.length) ++ v.drop (v.length - u.length) := (List.take_append_drop _ _).symm
   have l1 : (v.take (v.length - u.length)).length = v.length - u.length := by rw [List.length_take]; omega
   have l2 : (v.drop (v.length - u.length)).length = u.length := by rw [List.length_drop]; omega
   generalize v.take (v.length - u.length) = v1 at *
   generalize v.drop (v.length - u.length) = v2 at *
   have hrow : (P, u, v, Q).1 ++ (P, u, v, Q).2.1 ++ (P, u, v, Q).2.2.1 ++ (P, u, v, Q).2.2.2 = P ++ u ++ v1 ++ v2 ++ Q := by simp [ev]
   rw [hrow]
   (conv => whnf)
   refine ⟨i64 (by simp only []; omega) (by simp only []; omega), ?_⟩
   (conv => whnf)
   refine ⟨i64 (by simp only []; omega) (by simp only []; omega), ?_⟩
   (conv => whnf)
   refine ⟨i64 (by simp only []; omega) (by simp only []; omega), ?_⟩
   (conv => whnf)
   refine cl [] [0] (swapRange_spec P u v1 v2 Q l2.symm (by omega) ((A.length : Int) + U.length - u.length) ((A.length : Int) + U.length + v.length - u.length) u.length (by omega) (by omega) (by omega)) ?_
   (conv => whnf)
   refine ⟨i64 (by simp only []; omega) (by simp only []; omega), ?_⟩
   rw [show (((P, u, v, Q).2.2.1.length : Nat) : Int) - (((P, u, v, Q).2.1.length : Nat) : Int) = v1.length by simp only []; omega]
   skip
   have c4 : P.length + v2.length + v1.length + (u ++ Q).length ≤ 1000 := by rw [List.length_append]; omega
   refine ag (P, v2, v1, u ++ Q) [] [.same 0] ⟨⟨by simp only []; omega, by simp only []; omega, by simp only []; omega, c4⟩, by rw [← h5, ev]; simp⟩ (by simp only []; omega) ?_
   rw [show (((P, u, v, Q).2.1.length : Nat) : Int) = v2.length by simp only []; omega, show P ++ v2 ++ v1 ++ u ++ Q = P ++ v2 ++ v1 ++ (u ++ Q) by simp]
   repeat' first | exact trivial | exact rfl | refine And.intro ?_ ?_
   all_goals trace_state
 ·have h : u.length = v.length := by simp only [] at h; omega
  have hrow : (P, u, v, Q).1 ++ (P, u, v, Q).2.1 ++ (P, u, v, Q).2.2.1 ++ (P, u, v, Q).2.2.2 = P ++ u ++ [] ++ v ++ Q := by simp
  rw [hrow]
  (conv => whnf)
  refine ⟨i64 (by simp only []; omega) (by simp only []; omega), ?_⟩
  (conv => whnf)
  refine cl [] [0] (swapRange_spec P u [] v Q h (by simp; omega) ((A.length : Int) + U.length - u.length) ((A.length : Int) + U.length) u.length (by omega) (by simp; omega) (by omega)) ?_
  rw [show P ++ v ++ [] ++ u ++ Q = A ++ V ++ U ++ B by rw [← h5]; simp]
  (conv => whnf)
  exact rx [] [.same 0]
end Go.Nest
end
/- part -/
section

namespace Go.Nest
open Go Go.AM Go.Proofs
open Go.Proofs.YtpechfcbnoggfaaGreatDoor (tab tabOk)
set_option maxRecDepth 4000
theorem wk_last {T : List Fi} {k : Nat} (hw : Wk T) (hk : k < T.length) : ∀ g ∈ T.take k, lessP T[k].path g.path = false := by
 intro g hg
 obtain ⟨i, hi, e⟩ := List.mem_take_iff_getElem.1 hg
 rw [← e]
 exact (List.pairwise_iff_getElem.1 hw) i k (by omega) hk (by omega)
set_option maxHeartbeats 2000000 in
theorem insertSort_spec (A S B : List Fi) (hn : A.length + S.length + B.length ≤ 1000) (hp : ∀ f ∈ S, f.path.length ≤ 4000000) (a b : Int) (ha : a = A.length) (hb' : b = A.length + S.length) : Does Tryz.prog 299 [.c (.rw 0), .c (.int .i64 a), .c (.int .i64 b), .c (.fn 174 [])] [.row 4 Fi encFi (A ++ S ++ B)] (Rt (.tup []) [.row 4 Fi encFi (A ++ inOrdP S ++ B)]) := by
 subst ha; subst hb'
 refine X_spec (n := 53) (n0 := 1) tabOk Tryz.call299 Tryz.func299 ?_
 intro hb
 (conv => whnf)
 refine ⟨i64 (by omega) (by omega), ?_⟩
 (conv => whnf)
 refine lp Nat (fun c => ⟨[(0, .c (.rw 0)), (1, .c (.int .i64 A.length)), (2, .c (.int .i64 ((A.length : Int) + S.length))), (3, .c (.fn 174 [])), (8, .c (.int .i64 ((A.length : Int) + (c + 1 : Nat))))], [.row 4 Fi encFi (A ++ inOrdP (S.take (c + 1)) ++ S.drop (c + 1) ++ B)]⟩) (fun c => (c ≤ S.length) ∧ True) (fun c => S.length - c) 0 [] [.same 0] ?_ ?_ (fun c hc => ?_)
 ·simp
 ·have e : A ++ inOrdP (S.take (0 + 1)) ++ S.drop (0 + 1) ++ B = A ++ S ++ B := by
   cases S with
   | nil => simp [inOrdP]
   | cons x S => simp [inOrdP, insF]
  rw [e]
  repeat' first | exact trivial | exact rfl | refine And.intro ?_ ?_
 (conv => whnf)
 refine dec (fun h4 => ?_) (fun h4 => ?_)
 ·have hlt : c + 1 < S.length := by omega
  have hST := inOrd_snoc (S.take (c + 1)) S[c + 1]
  rw [← List.take_succ_eq_append_getElem hlt] at hST
  have hTl : (inOrdP (S.take (c + 1))).length = c + 1 := by rw [inOrd_len, List.length_take]; omega
  have hTw := inOrd_wk (S.take (c + 1))
  have hTp : ∀ f ∈ inOrdP (S.take (c + 1)), f.path.length ≤ 4000000 := fun f hf => hp f (List.mem_of_mem_take ((inOrd_perm _).mem_iff.1 hf))
  have hxp := hp _ (List.getElem_mem hlt)
  rw [List.drop_eq_getElem_cons hlt]
  generalize inOrdP (S.take (c + 1)) = T at *
  generalize S[c + 1] = x at *
  generalize hR : S.drop (c + 1 + 1) = R at *
  have hRl : R.length + (c + 2) = S.length := by rw [← hR, List.length_drop]; omega
  (conv => whnf)
  refine lp Nat (fun k => ⟨[(0, .c (.rw 0)), (1, .c (.int .i64 A.length)), (2, .c (.int .i64 ((A.length : Int) + S.length))), (3, .c (.fn 174 [])), (8, .c (.int .i64 ((A.length : Int) + (c + 1 : Nat)))), (9, .c (.int .i64 ((A.length : Int) + k)))], [.row 4 Fi encFi (A ++ (T.take k ++ x :: T.drop k) ++ R ++ B)]⟩) (fun k => (k ≤ T.length ∧ True) ∧ ∀ y ∈ T.drop k, lessP x.path y.path = true) (fun k => k) (c + 1) [] [.same 0] ?_ ?_ (fun k hk => ?_)
  ·refine ⟨⟨by omega, trivial⟩, fun y hy => ?_⟩
   rw [List.drop_of_length_le (by omega)] at hy; cases hy
  ·have e : A ++ T ++ x :: R ++ B = A ++ (T.take (c + 1) ++ x :: T.drop (c + 1)) ++ R ++ B := by
    rw [List.take_of_length_le (by omega), List.drop_of_length_le (by omega)]; simp
   rw [← e]
   repeat' first | exact trivial | exact rfl | refine And.intro ?_ ?_
  obtain ⟨⟨hk1, _⟩, hk2⟩ := hk
  have fin : (∀ h : 0 < k, lessP x.path (T[k - 1]'(by omega)).path = false) → inOrdP (S.take (c + 1 + 1)) = T.take k ++ x :: T.drop k := fun h => by
   rw [hST]
   refine ins_at hk1 (fun g hg => ?_) (fun hkl => hk2 _ (by rw [List.drop_eq_getElem_cons hkl]; exact List.mem_cons_self ..))
   cases k with
   | zero => cases hg
   | succ k =>
    have h1 := h (by omega)
    cases h2 : lessP x.path g.path with
    | false => rfl
    | true =>
     rw [List.take_succ_eq_append_getElem (by omega)] at hg
     rcases List.mem_append.1 hg with hg | hg
     ·have h3 := wk_last hTw (by omega : k < T.length) g hg
      have := lt_le h2 h3
      simp only [Nat.add_sub_cancel] at h1
      rw [this] at h1; cases h1
     ·rw [List.mem_singleton] at hg
      subst hg
      simp only [Nat.add_sub_cancel] at h1
      rw [h2] at h1; cases h1
  (conv => whnf)
  refine ⟨false, .grow, (.l [0, 1, 2, 3, 4, 5, 6, 7, 8, 9, 10, 11, 12, 13, 14, 15, 16]), by kernel_rfl, .inl ?_⟩
  (conv => whnf)
  refine dec (fun h5 => ?_) (fun h5 => ?_)
  ·obtain ⟨k, rfl⟩ : ∃ m, k = m + 1 := ⟨k - 1, by omega⟩
   have hkl : k < T.length := by omega
   have hD : A ++ (T.take (k + 1) ++ x :: T.drop (k + 1)) ++ R ++ B = (A ++ T.take k) ++ T[k] :: ([] ++ x :: (T.drop (k + 1) ++ R ++ B)) := by
    rw [List.take_succ_eq_append_getElem hkl]; simp only [List.append_assoc, List.cons_append, List.nil_append]
   have hE : A ++ (T.take k ++ x :: T.drop k) ++ R ++ B = (A ++ T.take k) ++ x :: ([] ++ T[k] :: (T.drop (k + 1) ++ R ++ B)) := by
    rw [List.drop_eq_getElem_cons hkl]; simp only [List.append_assoc, List.cons_append, List.nil_append]
   have l1 : A.length + k = (A ++ T.take k).length := by rw [List.length_append, List.length_take]; omega
   have l2 : A.length + (k + 1) = (A ++ T.take k).length + 1 + ([] : List Fi).length := by rw [← l1]; simp; omega
   have htk := hTp _ (List.getElem_mem hkl)
   have fin : lessP x.path T[k].path = false → inOrdP (S.take (c + 1 + 1)) = T.take (k + 1) ++ x :: T.drop (k + 1) := fun h => fin (fun _ => by simpa using h)
   rw [hD]
   (conv => whnf)
   refine ⟨A.length + (k + 1), ⟨by simp, t_lt2 l2⟩, ?_⟩
   (conv => whnf)
   refine ⟨x, t_get2 l2, ?_⟩
   (conv => whnf)
   refine ⟨i64 (by omega) (by omega), ?_⟩
   (conv => whnf)
   refine ⟨A.length + k, ⟨by omega, t_lt l1⟩, ?_⟩
   (conv => whnf)
   refine ⟨T[k], t_get l1, ?_⟩
   (conv => whnf)
   refine cl [] [] (sortedF_spec x T[k] hxp htk) ?_
   (conv => whnf)
   refine dec (fun h6 => ?_) (fun h6 => ?_)
   ·have h6 := cmpP_neg.1 h6
    (conv => whnf)
    refine ⟨false, .grow, (.l [0, 1, 2, 3, 4, 5, 6, 7, 8, 9, 10, 11, 12, 13, 14, 15, 16, 17]), by kernel_rfl, .inl ?_⟩
    (conv => whnf)
    refine ⟨i64 (by omega) (by omega), ?_⟩
    (conv => whnf)
    refine ⟨i64 (by omega) (by omega), ?_⟩
    (conv => whnf)
    refine ⟨A.length + k, ⟨by omega, t_lt l1⟩, ?_⟩
    (conv => whnf)
    refine ⟨T[k], t_get l1, ?_⟩
    (conv => whnf)
    refine ⟨A.length + (k + 1), ⟨by simp, t_lt2 l2⟩, ?_⟩
    (conv => whnf)
    refine ⟨x, t_get2 l2, ?_⟩
    (conv => whnf)
    refine ⟨A.length + (k + 1), ⟨by simp, t_lt2 l2⟩, ?_⟩
    (conv => whnf)
    refine ⟨x, T[k], t_get2 l2, ⟨by simp, rfl⟩, ?_⟩
    rw [t_set2 l2]
    (conv => whnf)
    refine ⟨A.length + k, ⟨by omega, t_lt l1⟩, ?_⟩
    (conv => whnf)
    refine ⟨T[k], x, t_get l1, ⟨by simp, rfl⟩, ?_⟩
    rw [t_set l1]
    (conv => whnf)
    refine ⟨i64 (by omega) (by omega), ?_⟩
    rw [show (A.length : Int) + ((k + 1 : Nat) : Int) - 1 = A.length + k by omega]
    (conv => whnf)
    refine ag k [] [.same 0] ⟨⟨by omega, trivial⟩, fun y hy => ?_⟩ (by simp) ?_
    ·rw [List.drop_eq_getElem_cons hkl] at hy
     rcases List.mem_cons.1 hy with rfl | hy
     ·exact h6
     ·exact hk2 y hy
    ·rw [hE]
     repeat' first | exact trivial | exact rfl | refine And.intro ?_ ?_
   ·have h6 : lessP x.path T[k].path = false := by
     cases h7 : lessP x.path T[k].path with
     | false => rfl
     | true => exact absurd (cmpP_neg.2 h7) h6
    have fin := fin h6
    rw [← hD]
    (conv => whnf)
    refine ⟨i64 (by omega) (by omega), ?_⟩
    rw [show (A.length : Int) + ((c + 1 : Nat) : Int) + 1 = A.length + ((c + 1 + 1 : Nat) : Int) by omega]
    (conv => whnf)
    refine ag (c + 1) [] [.same 0] ⟨by omega, trivial⟩ (by simp only []; omega) ?_
    rw [fin, hR]
    repeat' first | exact trivial | exact rfl | refine And.intro ?_ ?_
  ·have fin := fin (fun h => by omega)
   (conv => whnf)
   refine ⟨i64 (by omega) (by omega), ?_⟩
   rw [show (A.length : Int) + ((c + 1 : Nat) : Int) + 1 = A.length + ((c + 1 + 1 : Nat) : Int) by omega]
   (conv => whnf)
   refine ag (c + 1) [] [.same 0] ⟨by omega, trivial⟩ (by simp only []; omega) ?_
   rw [fin, hR]
   repeat' first | exact trivial | exact rfl | refine And.intro ?_ ?_
 ·have e : A ++ inOrdP (S.take (c + 1)) ++ S.drop (c + 1) ++ B = A ++ inOrdP S ++ B := by
   rw [List.take_of_length_le (by omega), List.drop_of_length_le (by omega)]; simp
  rw [e]
  (conv => whnf)
  exact rx [] [.same 0]
end Go.Nest
end
/- part -/
section

namespace Go.Nest
open Go Go.AM Go.Proofs
open Go.Proofs.YtpechfcbnoggfaaGreatDoor (tab tabOk)
set_option maxRecDepth 4000
theorem wk_le {Y : List Fi} (h : Wk Y) {i j : Nat} (hij : i < j) (hj : j < Y.length) : lessP Y[j].path (Y[i]'(by omega)).path = false := (List.pairwise_iff_getElem.1 h) i j (by omega) hj hij
theorem lt_take {Y : List Fi} {x : Fi} (h : Wk Y) {q : Nat} (hq : q < Y.length) (hl : lessP Y[q].path x.path = true) : ∀ y ∈ Y.take (q + 1), lessP y.path x.path = true := by
 intro y hy
 obtain ⟨i, hi, e⟩ := List.mem_take_iff_getElem.1 hy
 subst e
 by_cases e : i = q
 ·subst e; exact hl
 ·exact le_lt (wk_le h (by omega) hq) hl
theorem ge_drop {Y : List Fi} {x : Fi} (h : Wk Y) {q : Nat} (hq : q < Y.length) (hl : lessP Y[q].path x.path = false) : ∀ y ∈ Y.drop q, lessP y.path x.path = false := by
 intro y hy
 obtain ⟨i, hi, e⟩ := List.mem_drop_iff_getElem.1 hy
 subst e
 by_cases e : i = 0
 ·subst e; exact hl
 ·exact le_trans' hl (wk_le h (i := q) (j := q + i) (by omega) (by omega))
theorem ge_take {X : List Fi} {y : Fi} (h : Wk X) {q : Nat} (hq : q < X.length) (hl : lessP y.path X[q].path = false) : ∀ x ∈ X.take (q + 1), lessP y.path x.path = false := by
 intro x hx
 obtain ⟨i, hi, e⟩ := List.mem_take_iff_getElem.1 hx
 subst e
 by_cases e : i = q
 ·subst e; exact hl
 ·exact le_trans' (wk_le h (by omega) hq) hl
theorem lt_drop {X : List Fi} {y : Fi} (h : Wk X) {q : Nat} (hq : q < X.length) (hl : lessP y.path X[q].path = true) : ∀ x ∈ X.drop q, lessP y.path x.path = true := by
 intro x hx
 obtain ⟨i, hi, e⟩ := List.mem_drop_iff_getElem.1 hx
 subst e
 by_cases e : i = 0
 ·subst e; exact hl
 ·exact lt_le hl (wk_le h (i := q) (j := q + i) (by omega) (by omega))
theorem half {e : Int} {k : Nat} (h : e / 2 = k) (h0 : 0 ≤ e) (h1 : e ≤ 4000) : IntKind.i64.wrap ((IntKind.u64.wrap e).fdiv (2 ^ min (Int.toNat 1) IntKind.u64.bits)) = (k : Int) := by
 have e1 : (2 : Int) ^ min (Int.toNat 1) IntKind.u64.bits = 2 := by decide
 rw [IntKind.wrap_u64, IntKind.wrap_i64, e1, Int.fdiv_eq_ediv_of_nonneg _ (by omega)]
 omega
set_option maxHeartbeats 4000000 in
theorem symOne_spec (A Y B : List Fi) (x : Fi) (hy : 0 < Y.length) (wy : Wk Y) (hn : A.length + 1 + Y.length + B.length ≤ 1000) (hpx : x.path.length ≤ 4000000) (hp : ∀ f ∈ Y, f.path.length ≤ 4000000) (a m b : Int) (ha : a = A.length) (hm : m = A.length + 1) (hb' : b = A.length + 1 + Y.length) : Does Tryz.prog 300 [.c (.rw 0), .c (.int .i64 a), .c (.int .i64 m), .c (.int .i64 b), .c (.fn 174 [])] [.row 4 Fi encFi (A ++ [x] ++ Y ++ B)] (Rt (.tup []) [.row 4 Fi encFi (A ++ inOrdP ([x] ++ Y) ++ B)]) := by
 subst ha; subst hm; subst hb'
 refine X_spec (n := 220) (n0 := 1) tabOk Tryz.call300 Tryz.func300 ?_
 intro hb
 (conv => whnf)
 refine ⟨i64 (by omega) (by omega), ?_⟩
 (conv => whnf)
 refine dec (fun _ => ?_) (fun h => absurd (by omega) h)
 (conv => whnf)
 have hx0 : A ++ [x] ++ Y ++ B = A ++ x :: (Y ++ B) := by simp
 rw [hx0]
 refine lp (Nat × Nat) (fun z => ⟨[(0, .c (.rw 0)), (1, .c (.int .i64 A.length)), (4, .c (.fn 174 [])), (10, .c (.int .i64 ((A.length : Int) + 1 + z.1))), (11, .c (.int .i64 ((A.length : Int) + 1 + z.2)))], [.row 4 Fi encFi (A ++ x :: (Y ++ B))]⟩) (fun z => (z.1 ≤ z.2 ∧ z.2 ≤ Y.length) ∧ (∀ y ∈ Y.take z.1, lessP y.path x.path = true) ∧ ∀ y ∈ Y.drop z.2, lessP y.path x.path = false) (fun z => z.2 - z.1) (0, Y.length) [] [.same 0] ?_ ?_ (fun z hz => ?_)
 ·exact ⟨⟨Nat.zero_le _, Nat.le_refl _⟩, by simp, by simp⟩
 ·rw [show ((A.length : Int) + 1) = A.length + 1 + ((0 : Nat) : Int) by omega]
  repeat' first | exact trivial | exact rfl | refine And.intro ?_ ?_
 obtain ⟨lo, hi⟩ := z
 obtain ⟨⟨h1, h2⟩, h3, h4⟩ := hz
 dsimp only at h1 h2 h3 h4
 (conv => whnf)
 refine dec (fun h5 => ?_) (fun h5 => ?_)
 ·have h5 : lo < hi := by simp only [] at h5; omega
  (conv => whnf)
  refine ⟨i64 (by simp only []; omega) (by simp only []; omega), ?_⟩
  (conv => whnf)
  refine ⟨by decide, ?_⟩
  (conv => whnf)
  obtain ⟨q, hq⟩ : ∃ q, q = (lo + hi) / 2 := ⟨_, rfl⟩
  have hqY : q < Y.length := by omega
  have hqp := hp _ (List.getElem_mem hqY)
  have hrow : A ++ x :: (Y ++ B) = A ++ x :: (Y.take q ++ Y[q] :: (Y.drop (q + 1) ++ B)) := by
   conv => lhs; rw [← List.take_append_drop q Y, List.drop_eq_getElem_cons hqY]
   simp only [List.append_assoc, List.cons_append]
  have l1 : A.length = A.length := rfl
  have l2 : A.length + 1 + q = A.length + 1 + (Y.take q).length := by rw [List.length_take]; omega
  rw [half (e := (A.length : Int) + 1 + (((lo, hi).1 : Nat) : Int) + ((A.length : Int) + 1 + (((lo, hi).2 : Nat) : Int))) (k := A.length + 1 + q) (by simp only []; omega) (by simp only []; omega) (by simp only []; omega), hrow]
  refine ⟨false, .grow, (.l [0, 1, 2, 3, 4, 5, 6, 7, 8, 9, 10]), by kernel_rfl, .inl ?_⟩
  (conv => whnf)
  refine ⟨A.length + 1 + q, ⟨rfl, t_lt2 l2⟩, ?_⟩
  (conv => whnf)
  refine ⟨Y[q], t_get2 l2, ?_⟩
  (conv => whnf)
  refine ⟨A.length, ⟨rfl, t_lt l1⟩, ?_⟩
  (conv => whnf)
  refine ⟨x, t_get l1, ?_⟩
  (conv => whnf)
  refine cl [] [] (sortedF_spec Y[q] x hqp hpx) ?_
  rw [← hrow]
  (conv => whnf)
  refine dec (fun h6 => ?_) (fun h6 => ?_)
  ·have h6 := cmpP_neg.1 h6
   (conv => whnf)
   refine ⟨i64 (by omega) (by omega), ?_⟩
   rw [show ((A.length + 1 + q : Nat) : Int) + 1 = (A.length : Int) + 1 + ((q + 1 : Nat) : Int) by omega]
   (conv => whnf)
   refine ag (q + 1, hi) [] [.same 0] ⟨⟨by simp only []; omega, h2⟩, lt_take wy hqY h6, h4⟩ (by simp only []; omega) ?_
   repeat' first | exact trivial | exact rfl | refine And.intro ?_ ?_
  ·have h6 : lessP Y[q].path x.path = false := by
    cases h7 : lessP Y[q].path x.path with
    | false => rfl
    | true => exact absurd (cmpP_neg.2 h7) h6
   rw [show ((A.length + 1 + q : Nat) : Int) = (A.length : Int) + 1 + (q : Nat) by omega]
   (conv => whnf)
   refine ag (lo, q) [] [.same 0] ⟨⟨by simp only []; omega, by simp only []; omega⟩, h3, ge_drop wy hqY h6⟩ (by simp only []; omega) ?_
   repeat' first | exact trivial | exact rfl | refine And.intro ?_ ?_
 ·have h5 : lo = hi := by simp only [] at h5; omega
  subst h5
  have hfin := one_front wy h3 h4
  rw [show A ++ x :: (Y ++ B) = A ++ (Y.take 0 ++ x :: Y.drop 0) ++ B by simp]
  (conv => whnf)
  refine lp Nat (fun t => ⟨[(0, .c (.rw 0)), (10, .c (.int .i64 ((A.length : Int) + 1 + lo))), (13, .c (.int .i64 ((A.length : Int) + t)))], [.row 4 Fi encFi (A ++ (Y.take t ++ x :: Y.drop t) ++ B)]⟩) (fun t => t ≤ lo ∧ True) (fun t => lo - t) 0 [] [.same 0] ?_ ?_ (fun t ht => ?_)
  ·simp
  ·rw [show (A.length : Int) = A.length + ((0 : Nat) : Int) by omega]
   repeat' first | exact trivial | exact rfl | refine And.intro ?_ ?_
  (conv => whnf)
  refine ⟨i64 (by omega) (by omega), ?_⟩
  (conv => whnf)
  refine dec (fun h6 => ?_) (fun h6 => ?_)
  ·have htl : t < Y.length := by omega
   have hD : A ++ (Y.take t ++ x :: Y.drop t) ++ B = (A ++ Y.take t) ++ x :: ([] ++ Y[t] :: (Y.drop (t + 1) ++ B)) := by
    rw [List.drop_eq_getElem_cons htl]; simp only [List.append_assoc, List.cons_append, List.nil_append]
   have hE : A ++ (Y.take (t + 1) ++ x :: Y.drop (t + 1)) ++ B = (A ++ Y.take t) ++ Y[t] :: ([] ++ x :: (Y.drop (t + 1) ++ B)) := by
    rw [List.take_succ_eq_append_getElem htl]; simp only [List.append_assoc, List.cons_append, List.nil_append]
   have l1 : A.length + t = (A ++ Y.take t).length := by rw [List.length_append, List.length_take]; omega
   have l2 : A.length + (t + 1) = (A ++ Y.take t).length + 1 + ([] : List Fi).length := by rw [← l1]; simp; omega
   rw [hD]
   (conv => whnf)
   refine ⟨false, .grow, (.l [0, 1, 2, 3, 4, 5, 6, 7, 8, 9, 10, 11, 12, 13, 14, 15, 16, 17]), by kernel_rfl, .inl ?_⟩
   (conv => whnf)
   refine ⟨i64 (by omega) (by omega), ?_⟩
   (conv => whnf)
   refine ⟨i64 (by omega) (by omega), ?_⟩
   (conv => whnf)
   refine ⟨A.length + (t + 1), ⟨by omega, t_lt2 l2⟩, ?_⟩
   (conv => whnf)
   refine ⟨Y[t], t_get2 l2, ?_⟩
   (conv => whnf)
   refine ⟨A.length + t, ⟨by omega, t_lt l1⟩, ?_⟩
   (conv => whnf)
   refine ⟨x, t_get l1, ?_⟩
   (conv => whnf)
   refine ⟨A.length + t, ⟨by omega, t_lt l1⟩, ?_⟩
   (conv => whnf)
   refine ⟨x, Y[t], t_get l1, ⟨by simp, rfl⟩, ?_⟩
   rw [t_set l1]
   (conv => whnf)
   refine ⟨A.length + (t + 1), ⟨by omega, t_lt2 l2⟩, ?_⟩
   (conv => whnf)
   refine ⟨Y[t], x, t_get2 l2, ⟨by simp, rfl⟩, ?_⟩
   rw [t_set2 l2]
   (conv => whnf)
   refine ⟨i64 (by omega) (by omega), ?_⟩
   rw [show (A.length : Int) + (t : Nat) + 1 = A.length + ((t + 1 : Nat) : Int) by omega]
   (conv => whnf)
   refine ag (t + 1) [] [.same 0] ⟨by omega, trivial⟩ (by simp only []; omega) ?_
   rw [hE]
   repeat' first | exact trivial | exact rfl | refine And.intro ?_ ?_
  ·obtain rfl : t = lo := by omega
   rw [hfin]
   (conv => whnf)
   exact rx [] [.same 0]
set_option maxHeartbeats 4000000 in
theorem symLast_spec (A X B : List Fi) (y : Fi) (hx : 1 < X.length) (wx : Wk X) (hn : A.length + X.length + 1 + B.length ≤ 1000) (hpy : y.path.length ≤ 4000000) (hp : ∀ f ∈ X, f.path.length ≤ 4000000) (a m b : Int) (ha : a = A.length) (hm : m = A.length + X.length) (hb' : b = A.length + X.length + 1) : Does Tryz.prog 300 [.c (.rw 0), .c (.int .i64 a), .c (.int .i64 m), .c (.int .i64 b), .c (.fn 174 [])] [.row 4 Fi encFi (A ++ X ++ [y] ++ B)] (Rt (.tup []) [.row 4 Fi encFi (A ++ inOrdP (X ++ [y]) ++ B)]) := by
 subst ha; subst hm; subst hb'
 refine X_spec (n := 220) (n0 := 1) tabOk Tryz.call300 Tryz.func300 ?_
 intro hb
 (conv => whnf)
 refine ⟨i64 (by omega) (by omega), ?_⟩
 (conv => whnf)
 refine dec (fun h => absurd h (by omega)) (fun _ => ?_)
 (conv => whnf)
 refine ⟨i64 (by omega) (by omega), ?_⟩
 (conv => whnf)
 refine dec (fun _ => ?_) (fun h => absurd (by omega) h)
 (conv => whnf)
 have hx0 : A ++ X ++ [y] ++ B = A ++ X ++ y :: B := by simp
 rw [hx0]
 refine lp (Nat × Nat) (fun z => ⟨[(0, .c (.rw 0)), (2, .c (.int .i64 ((A.length : Int) + X.length))), (4, .c (.fn 174 [])), (14, .c (.int .i64 ((A.length : Int) + z.1))), (15, .c (.int .i64 ((A.length : Int) + z.2)))], [.row 4 Fi encFi (A ++ X ++ y :: B)]⟩) (fun z => (z.1 ≤ z.2 ∧ z.2 ≤ X.length) ∧ (∀ x ∈ X.take z.1, lessP y.path x.path = false) ∧ ∀ x ∈ X.drop z.2, lessP y.path x.path = true) (fun z => z.2 - z.1) (0, X.length) [] [.same 0] ?_ ?_ (fun z hz => ?_)
 ·exact ⟨⟨Nat.zero_le _, Nat.le_refl _⟩, by simp, by simp⟩
 ·repeat' first | exact trivial | exact rfl | refine And.intro ?_ ?_
 obtain ⟨lo, hi⟩ := z
 obtain ⟨⟨h1, h2⟩, h3, h4⟩ := hz
 dsimp only at h1 h2 h3 h4
 (conv => whnf)
 refine dec (fun h5 => ?_) (fun h5 => ?_)
 ·have h5 : lo < hi := by simp only [] at h5; omega
  (conv => whnf)
  refine ⟨i64 (by simp only []; omega) (by simp only []; omega), ?_⟩
  (conv => whnf)
  refine ⟨by decide, ?_⟩
  (conv => whnf)
  obtain ⟨q, hq⟩ : ∃ q, q = (lo + hi) / 2 := ⟨_, rfl⟩
  have hqX : q < X.length := by omega
  have hqp := hp _ (List.getElem_mem hqX)
  have hrow : A ++ X ++ y :: B = (A ++ X.take q) ++ X[q] :: (X.drop (q + 1) ++ y :: B) := by
   conv => lhs; rw [← List.take_append_drop q X, List.drop_eq_getElem_cons hqX]
   simp only [List.append_assoc, List.cons_append]
  have l1 : A.length + q = (A ++ X.take q).length := by rw [List.length_append, List.length_take]; omega
  have l2 : A.length + X.length = (A ++ X.take q).length + 1 + (X.drop (q + 1)).length := by rw [← l1, List.length_drop]; omega
  rw [half (e := (A.length : Int) + (((lo, hi).1 : Nat) : Int) + ((A.length : Int) + (((lo, hi).2 : Nat) : Int))) (k := A.length + q) (by simp only []; omega) (by simp only []; omega) (by simp only []; omega), hrow]
  refine ⟨false, .grow, (.l [0, 1, 2, 3, 4, 5, 6, 7, 8, 9, 10, 11]), by kernel_rfl, .inl ?_⟩
  (conv => whnf)
  refine ⟨A.length + X.length, ⟨by omega, t_lt2 l2⟩, ?_⟩
  (conv => whnf)
  refine ⟨y, t_get2 l2, ?_⟩
  (conv => whnf)
  refine ⟨A.length + q, ⟨rfl, t_lt l1⟩, ?_⟩
  (conv => whnf)
  refine ⟨X[q], t_get l1, ?_⟩
  (conv => whnf)
  refine cl [] [] (sortedF_spec y X[q] hpy hqp) ?_
  rw [← hrow]
  (conv => whnf)
  refine decN (fun h6 => ?_) (fun h6 => ?_)
  ·have h6 : lessP y.path X[q].path = false := by
    cases h7 : lessP y.path X[q].path with
    | false => rfl
    | true => exact absurd (cmpP_neg.2 h7) h6
   (conv => whnf)
   refine ⟨i64 (by omega) (by omega), ?_⟩
   rw [show ((A.length + q : Nat) : Int) + 1 = (A.length : Int) + ((q + 1 : Nat) : Int) by omega]
   (conv => whnf)
   refine ag (q + 1, hi) [] [.same 0] ⟨⟨by simp only []; omega, h2⟩, ge_take wx hqX h6, h4⟩ (by simp only []; omega) ?_
   repeat' first | exact trivial | exact rfl | refine And.intro ?_ ?_
  ·have h6 := cmpP_neg.1 h6
   rw [show ((A.length + q : Nat) : Int) = (A.length : Int) + (q : Nat) by omega]
   (conv => whnf)
   refine ag (lo, q) [] [.same 0] ⟨⟨by simp only []; omega, by simp only []; omega⟩, h3, lt_drop wx hqX h6⟩ (by simp only []; omega) ?_
   repeat' first | exact trivial | exact rfl | refine And.intro ?_ ?_
 ·have h5 : lo = hi := by simp only [] at h5; omega
  subst h5
  have hfin := one_back wx h3 h4
  rw [show A ++ X ++ y :: B = A ++ (X.take X.length ++ y :: X.drop X.length) ++ B by simp]
  (conv => whnf)
  refine lp Nat (fun t => ⟨[(0, .c (.rw 0)), (14, .c (.int .i64 ((A.length : Int) + lo))), (17, .c (.int .i64 ((A.length : Int) + t)))], [.row 4 Fi encFi (A ++ (X.take t ++ y :: X.drop t) ++ B)]⟩) (fun t => (lo ≤ t ∧ t ≤ X.length) ∧ True) (fun t => t - lo) X.length [] [.same 0] ?_ ?_ (fun t ht => ?_)
  ·exact ⟨⟨h2, Nat.le_refl _⟩, trivial⟩
  ·repeat' first | exact trivial | exact rfl | refine And.intro ?_ ?_
  (conv => whnf)
  refine dec (fun h6 => ?_) (fun h6 => ?_)
  ·obtain ⟨t, rfl⟩ : ∃ u, t = u + 1 := ⟨t - 1, by omega⟩
   have htl : t < X.length := by omega
   have hE : A ++ (X.take t ++ y :: X.drop t) ++ B = (A ++ X.take t) ++ y :: ([] ++ X[t] :: (X.drop (t + 1) ++ B)) := by
    rw [List.drop_eq_getElem_cons htl]; simp only [List.append_assoc, List.cons_append, List.nil_append]
   have hD : A ++ (X.take (t + 1) ++ y :: X.drop (t + 1)) ++ B = (A ++ X.take t) ++ X[t] :: ([] ++ y :: (X.drop (t + 1) ++ B)) := by
    rw [List.take_succ_eq_append_getElem htl]; simp only [List.append_assoc, List.cons_append, List.nil_append]
   have l1 : A.length + t = (A ++ X.take t).length := by rw [List.length_append, List.length_take]; omega
   have l2 : A.length + (t + 1) = (A ++ X.take t).length + 1 + ([] : List Fi).length := by rw [← l1]; simp; omega
   rw [hD]
   (conv => whnf)
   refine ⟨false, .grow, (.l [0, 1, 2, 3, 4, 5, 6, 7, 8, 9, 10, 11, 12, 13, 14, 15, 16, 17]), by kernel_rfl, .inl ?_⟩
   (conv => whnf)
   refine ⟨i64 (by omega) (by omega), ?_⟩
   (conv => whnf)
   refine ⟨i64 (by omega) (by omega), ?_⟩
   (conv => whnf)
   refine ⟨A.length + t, ⟨by omega, t_lt l1⟩, ?_⟩
   (conv => whnf)
   refine ⟨X[t], t_get l1, ?_⟩
   (conv => whnf)
   refine ⟨A.length + (t + 1), ⟨by simp, t_lt2 l2⟩, ?_⟩
   (conv => whnf)
   refine ⟨y, t_get2 l2, ?_⟩
   (conv => whnf)
   refine ⟨A.length + (t + 1), ⟨by simp, t_lt2 l2⟩, ?_⟩
   (conv => whnf)
   refine ⟨y, X[t], t_get2 l2, ⟨by simp, rfl⟩, ?_⟩
   rw [t_set2 l2]
   (conv => whnf)
   refine ⟨A.length + t, ⟨by omega, t_lt l1⟩, ?_⟩
   (conv => whnf)
   refine ⟨X[t], y, t_get l1, ⟨by simp, rfl⟩, ?_⟩
   rw [t_set l1]
   (conv => whnf)
   refine ⟨i64 (by omega) (by omega), ?_⟩
   rw [show (A.length : Int) + ((t + 1 : Nat) : Int) - 1 = A.length + (t : Nat) by omega]
   (conv => whnf)
   refine ag t [] [.same 0] ⟨⟨by omega, by omega⟩, trivial⟩ (by simp only []; omega) ?_
   rw [hE]
   repeat' first | exact trivial | exact rfl | refine And.intro ?_ ?_
  ·obtain rfl : t = lo := by omega
   rw [hfin]
   (conv => whnf)
   exact rx [] [.same 0]
end Go.Nest
end
