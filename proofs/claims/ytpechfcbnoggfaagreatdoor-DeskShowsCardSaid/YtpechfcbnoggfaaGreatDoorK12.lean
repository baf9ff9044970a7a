/- part -/
import Derived.Test.YtpechfcbnoggfaaGreatDoorW10
import Derived.Test.YtpechfcbnoggfaaGreatDoorI2
import Derived.Test.YtpechfcbnoggfaaGreatDoorV1
import Derived.Test.YtpechfcbnoggfaaGreatDoorG9
import Derived.Test.YtpechfcbnoggfaaGreatDoorQ4
import Derived.Test.YtpechfcbnoggfaaGreatDoorP9
import Derived.Test.YtpechfcbnoggfaaGreatDoorL0
set_option linter.unusedVariables false
set_option linter.unusedSimpArgs false
section

namespace Go.Nest
open Go Go.AM Go.Proofs
open Go.Proofs.YtpechfcbnoggfaaGreatDoor (tab tabOk)
set_option maxRecDepth 4000
theorem findW_spec (x : It) (p : List UInt8) : Does Tryz.prog 200 [.st (encIt x), .c (.bp [.str p])] [] (Rt (.c (.bool (atW p x))) []) := by
 refine X_spec (n := 8) (n0 := 0) tabOk Tryz.call200 Tryz.func200 ?_
 intro hb
 repeat' ((conv => whnf); first | refine rtB ?_ | fail)
 rfl
theorem indexIt_spec (l : List It) (p : List UInt8) : Does Tryz.prog 199 [.c (.bs 5 It encIt l), .c (.fn 200 [.bp [.str p]])] [] (Rt (.c (.int .i64 (idxF (atW p) l))) []) := by
 refine X_spec (n := 19) (n0 := 0) tabOk Tryz.call199 Tryz.func199 ?_
 intro hb; have hb : l.length ≤ 9223372036854775807 := hb.1.1
 (conv => whnf)
 refine lp Nat (fun i => ⟨[(0, .c (.bs 5 It encIt l)), (1, .c (.fn 200 [.bp [.str p]])), (7, .c (.int .i64 l.length)), (8, .c (.int .i64 i))], []⟩) (fun i => i ≤ l.length ∧ (l.take i).any (atW p) = false) (fun i => l.length - i) 0 [] [] ?_ ?_ (fun i hi => ?_)
 ·simp
 ·repeat' first | exact trivial | exact rfl | refine And.intro ?_ ?_
 (conv => whnf)
 refine dec (fun h4 => ?_) (fun h4 => ?_)
 ·have hlt : i < l.length := by omega
  repeat' ((conv => whnf); first | refine ⟨_, _, rfl, List.getElem?_eq_getElem (by omega), ?_⟩ | fail)
  (conv => whnf)
  refine cl [] [] (findW_spec l[i] p) ?_
  (conv => whnf)
  refine boo (fun h => ?_) (fun h => ?_)
  ·(conv => whnf)
   exact rtI (idxF_at hlt hi.2 h)
  ·repeat' ((conv => whnf); refine I6 ?_)
   refine ag (i + 1) [] [] ⟨hlt, any_take hlt hi.2 h⟩ (by simp only []; omega) ?_
   repeat' first | exact trivial | exact rfl | refine And.intro ?_ ?_
 ·repeat' ((conv => whnf); first | refine rtI ?_ | fail)
  have := hi.2
  rw [List.take_of_length_le (by omega)] at this
  exact idxF_none this
theorem find_wspec (L : List Ob) (l : List It) (h : Int) (p : List UInt8) : Does Tryz.prog 119 [.c (.bp [.bp [.bs 6 Ob encOb L], .bs 5 It encIt l, .int .i64 h]), .c (.str p)] [] (Rt (.c (.int .i64 (idxF (atW p) l))) []) := by
 refine X_spec (n := 11) (n0 := 0) tabOk Tryz.call119 Tryz.func119 ?_
 intro hb
 (conv => whnf)
 refine cl [] [] (indexIt_spec l p) ?_
 (conv => whnf)
 exact rx [] []
theorem pos_at {l : List It} {p : List UInt8} {k : Nat} (hk : k ≤ l.length) (h1 : ∀ g ∈ l.take k, lessP g.path p = true) (h2 : ∀ h : k < l.length, lessP l[k].path p = false) : posW l p = k := by
 unfold posW
 rw [(tw_at (p := fun y : It => lessP y.path p) hk h1 h2).1, List.length_take, Nat.min_eq_left hk]
set_option maxHeartbeats 4000000 in
theorem put_wspec (L : List Ob) (l : List It) (h : Int) (x : It) (hx : x.path.length ≤ 4000000) (hp : ∀ y ∈ l, y.path.length ≤ 4000000) (hl : l.length ≤ 60) : Does Tryz.prog 117 [.c (.ptr 0 0), .st (encIt x)] [.box [.ptr 1 0, .rw 3, .int .i64 h], .box [.rw 2], .row 6 Ob encOb L, .row 5 It encIt l] (Rt (.c (.int .i64 (putW l x).1)) [.box [.ptr 1 0, .rw 5, .int .i64 h], .box [.rw 4], .dead, .dead, .row 6 Ob encOb L, .row 5 It encIt (putW l x).2]) := by
 refine X_spec (n := 106) (n0 := 4) tabOk Tryz.call117 Tryz.func117 ?_
 intro hb
 (conv => whnf)
 refine cl [] [] (pathsSplit_spec x.path hx) ?_
 (conv => whnf)
 refine decN (fun h1 => ?_) (fun h1 => ?_)
 ·rw [show putW l x = _ from if_pos h1]
  (conv => whnf)
  exact rx [] [.same 0, .same 1, .same 2, .same 3, .same 2, .same 3]
 have c1 : putW l x = _ := if_neg (fun h => h h1)
 (conv => whnf)
 refine lp Nat (fun i => ⟨[(0, .c (.ptr 0 0)), (3, .c (.ptr 4 0)), (27, .c (.rw 3)), (28, .c (.int .i64 l.length)), (29, .c (.int .i64 i))], [.box [.ptr 1 0, .rw 3, .int .i64 h], .box [.rw 2], .row 6 Ob encOb L, .row 5 It encIt l] ++ [.box (encIt x)]⟩) (fun i => i ≤ l.length ∧ (l.take i).any (hitW x.path) = false) (fun i => l.length - i) 0 [] [.same 0, .same 1, .same 2, .same 3, .same 4] ?_ ?_ (fun i hi => ?_)
 ·simp
 ·repeat' first | exact trivial | exact rfl | refine And.intro ?_ ?_
 (conv => whnf)
 refine dec (fun h4 => ?_) (fun h4 => ?_)
 ·have hlt : i < l.length := by omega
  have hyp := hp _ (List.getElem_mem hlt)
  (conv => whnf)
  refine ⟨i, ⟨rfl, hlt⟩, ?_⟩
  (conv => whnf)
  refine ⟨l[i], List.getElem?_eq_getElem hlt, ?_⟩
  have he : hitW x.path l[i] = ((underP x.path l[i].path).2 || (underP l[i].path x.path).2) := rfl
  have hat := fun h => any_at (l := l) (p := hitW x.path) hlt h
  have htk := fun h => any_take (p := hitW x.path) hlt hi.2 h
  generalize l[i] = y at *
  (conv => whnf)
  refine cl [] [] (under_spec x.path y.path hyp) ?_
  (conv => whnf)
  refine cl [] [] (under_spec y.path x.path hx) ?_
  (conv => whnf)
  refine boo (fun h5 => ?_) (fun h5 => ?_)
  ·rw [h5, Bool.true_or] at he
   have e : putW l x = (10, l) := c1.trans (if_pos (hat he))
   rw [e]
   (conv => whnf)
   exact rx [] [.same 0, .same 1, .same 2, .same 3, .same 2, .same 3]
  ·rw [h5, Bool.false_or] at he
   (conv => whnf)
   refine boo (fun h6 => ?_) (fun h6 => ?_)
   ·have e : putW l x = (10, l) := c1.trans (if_pos (hat (he.trans h6)))
    rw [e]
    (conv => whnf)
    exact rx [] [.same 0, .same 1, .same 2, .same 3, .same 2, .same 3]
   ·repeat' ((conv => whnf); refine I6 ?_)
    refine ag (i + 1) [] [.same 0, .same 1, .same 2, .same 3, .same 4] ⟨hlt, htk (he.trans h6)⟩ (by simp only []; omega) ?_
    repeat' first | exact trivial | exact rfl | refine And.intro ?_ ?_
 ·have hno := hi.2
  rw [List.take_of_length_le (by omega)] at hno
  have c2 := c1.trans (if_neg (by rw [hno]; decide))
  (conv => whnf)
  refine cl [] [] (find_wspec L l h x.path) ?_
  (conv => whnf)
  refine dec (fun h5 => ?_) (fun h5 => ?_)
  ·have e : putW l x = _ := c2.trans (if_pos h5)
   rw [e]
   obtain ⟨y, hy, hyp⟩ := idxF_iff.1 h5
   have hlt : (idxF (atW x.path) l).toNat < l.length := by
    rcases idx_case (p := atW x.path) (l := l) with ⟨q, _⟩ | ⟨k, hk, q, _⟩
    ·omega
    ·omega
   (conv => whnf)
   refine ⟨false, .grow, (.l [0, 1, 2, 3, 4, 5, 6, 7]), by kernel_rfl, .inl ?_⟩
   (conv => whnf)
   refine ⟨(idxF (atW x.path) l).toNat, ⟨by omega, hlt⟩, ?_⟩
   (conv => whnf)
   refine ⟨_, x, List.getElem?_eq_getElem hlt, ⟨Nat.le_refl 5, rfl⟩, ?_⟩
   (conv => whnf)
   exact rx [] [.same 0, .same 1, .same 2, .same 3, .same 2, .same 3]
  ·have c3 := c2.trans (if_neg h5)
   (conv => whnf)
   refine dec (fun h6 => ?_) (fun h6 => ?_)
   ·have h6 : (l.length : Int) = 60 := h6
    have e : putW l x = _ := c3.trans (if_pos (by omega))
    rw [e]
    (conv => whnf)
    exact rx [] [.same 0, .same 1, .same 2, .same 3, .same 2, .same 3]
   ·have h6 : ¬ (l.length : Int) = 60 := h6
    have e : putW l x = _ := c3.trans (if_neg (by omega))
    rw [e]
    (conv => whnf)
    refine lp Nat (fun i => ⟨[(0, .c (.ptr 0 0)), (3, .c (.ptr 4 0)), (14, .c (.int .i64 i))], [.box [.ptr 1 0, .rw 3, .int .i64 h], .box [.rw 2], .row 6 Ob encOb L, .row 5 It encIt l] ++ [.box (encIt x)]⟩) (fun i => (i ≤ l.length ∧ True) ∧ ∀ g ∈ l.take i, lessP g.path x.path = true) (fun i => l.length - i) 0 [] [.same 0, .same 1, .same 2, .same 3, .same 4] ?_ ?_ (fun i hi => ?_)
    ·simp
    ·repeat' first | exact trivial | exact rfl | refine And.intro ?_ ?_
    obtain ⟨⟨hi1, _⟩, hi2⟩ := hi
    (conv => whnf)
    refine ⟨false, .grow, (.l [0, 1, 2, 3, 4, 5, 6, 7, 8, 9, 10, 11, 12, 13, 14, 15, 16, 17, 18, 19]), by kernel_rfl, .inl ?_⟩
    (conv => whnf)
    refine dec (fun h7 => ?_) (fun h7 => ?_)
    ·have hlt : i < l.length := by omega
     have hyp := hp _ (List.getElem_mem hlt)
     (conv => whnf)
     refine ⟨i, ⟨rfl, hlt⟩, ?_⟩
     (conv => whnf)
     refine ⟨l[i], List.getElem?_eq_getElem hlt, ?_⟩
     (conv => whnf)
     refine cl [] [] (less_spec l[i].path x.path hyp hx) ?_
     (conv => whnf)
     refine boo (fun h8 => ?_) (fun h8 => ?_)
     ·repeat' ((conv => whnf); refine I6 ?_)
      refine ag (i + 1) [] [.same 0, .same 1, .same 2, .same 3, .same 4] ⟨⟨hlt, trivial⟩, fun g hg => ?_⟩ (by simp only []; omega) ?_
      ·rw [List.take_succ_eq_append_getElem hlt, List.mem_append, List.mem_singleton] at hg
       rcases hg with hg | rfl
       ·exact hi2 g hg
       ·exact h8
      ·repeat' first | exact trivial | exact rfl | refine And.intro ?_ ?_
     ·have hno : ∀ h : i < l.length, lessP l[i].path x.path = false := fun _ => h8
      have hpos : posW l x.path = i := pos_at hi1 hi2 hno
      (conv => whnf)
      refine ⟨false, .grow, (.l [0, 1, 2, 3, 4, 5, 6, 7, 8, 9, 10, 11]), by kernel_rfl, .inl ?_⟩
      (conv => whnf)
      refine ⟨[x], rfl, ?_⟩
      (conv => whnf)
      refine cl [] [3, 5] (insertI_spec l x i hi1 (by omega)) ?_
      (conv => whnf)
      rw [hpos]
      exact rx [] [.same 0, .same 1, .same 2, .same 3, .same 2, .same 6]
    ·have hno : ∀ h : i < l.length, lessP l[i].path x.path = false := fun h => absurd h (by omega)
     have hpos : posW l x.path = i := pos_at hi1 hi2 hno
     (conv => whnf)
     refine ⟨false, .grow, (.l [0, 1, 2, 3, 4, 5, 6, 7, 8, 9, 10, 11]), by kernel_rfl, .inl ?_⟩
     (conv => whnf)
     refine ⟨[x], rfl, ?_⟩
     (conv => whnf)
     refine cl [] [3, 5] (insertI_spec l x i hi1 (by omega)) ?_
     (conv => whnf)
     rw [hpos]
     exact rx [] [.same 0, .same 1, .same 2, .same 3, .same 2, .same 6]
end Go.Nest
end
/- part -/
section

namespace Go.Nest
open Go Go.AM Go.Proofs
open Go.Proofs.YtpechfcbnoggfaaGreatDoor (tab tabOk)
set_option maxRecDepth 4000
def wrW (l : List It) (p : List UInt8) (b : List UInt8) : Int × List It := if 400 < b.length then (4, l) else putW l ⟨p, b, false, 0, 0⟩
theorem write_wspec (L : List Ob) (l : List It) (h : Int) (p b : List UInt8) (hx : p.length ≤ 4000000) (hp : ∀ y ∈ l, y.path.length ≤ 4000000) (hl : l.length ≤ 60) : Does Tryz.prog 55 [.c (.ptr 0 0), .c (.str p), .c (.bs 1 UInt8 bytesC b)] [.box [.ptr 1 0, .rw 3, .int .i64 h], .box [.rw 2], .row 6 Ob encOb L, .row 5 It encIt l] (Rt (.c (.int .i64 (wrW l p b).1)) [.box [.ptr 1 0, .rw 5, .int .i64 h], .box [.rw 4], .dead, .dead, .row 6 Ob encOb L, .row 5 It encIt (wrW l p b).2]) := by
 refine X_spec (n := 16) (n0 := 4) tabOk Tryz.call55 Tryz.func55 ?_
 intro hb
 (conv => whnf)
 refine dec (fun h1 => ?_) (fun h1 => ?_)
 ·rw [show wrW l p b = _ from if_pos (by have h1 : (400 : Int) < b.length := h1; omega)]
  (conv => whnf)
  exact rx [] [.same 0, .same 1, .same 2, .same 3, .same 2, .same 3]
 have h1 : ¬ (400 : Int) < b.length := h1
 rw [show wrW l p b = _ from if_neg (by omega)]
 (conv => whnf)
 refine cl [] [] (cloneBytes_spec b (by omega)) ?_
 (conv => whnf)
 refine cl [4] [0, 1, 2, 3] (put_wspec L l h ⟨p, b, false, 0, 0⟩ hx hp hl) ?_
 (conv => whnf)
 exact rx [] [.same 0, .same 1, .same 2, .same 3, .same 5, .same 6]
theorem filter_step {α : Type} {p : α → Bool} {l : List α} {i : Nat} (h : i < l.length) : (l.take (i + 1)).filter p = (l.take i).filter p ++ if p l[i] = true then [l[i]] else [] := by
 rw [List.take_succ_eq_append_getElem h, List.filter_append]
 congr 1
 by_cases h2 : p l[i] = true
 ·rw [if_pos h2, List.filter_cons_of_pos h2]; rfl
 ·rw [if_neg h2, List.filter_cons_of_neg h2]; rfl
theorem filter_le {α : Type} {p : α → Bool} {l : List α} {i : Nat} (h : i ≤ l.length) : ((l.take i).filter p).length ≤ i := Nat.le_trans (List.length_filter_le ..) (by rw [List.length_take]; omega)
theorem removeD_wspec (L : List Ob) (l : List It) (h : Int) (p : List UInt8) (hl : l.length ≤ 60) : Does Tryz.prog 78 [.c (.ptr 0 0), .c (.str p)] [.box [.ptr 1 0, .rw 3, .int .i64 h], .box [.rw 2], .row 6 Ob encOb L, .row 5 It encIt l] (Rt (.c (.int .i64 (remD l p).1)) [.box [.ptr 1 0, .rw 5, .int .i64 h], .box [.rw 4], .dead, .dead, .row 6 Ob encOb L, .row 5 It encIt (remD l p).2]) := by
 refine X_spec (n := 48) (n0 := 4) tabOk Tryz.call78 Tryz.func78 ?_
 intro hb
 (conv => whnf)
 refine lp Nat (fun i => ⟨[(0, .c (.ptr 0 0)), (1, .c (.str p)), (5, .c (.rw 4)), (6, .c (.int .i64 i))], [.box [.ptr 1 0, .rw 3, .int .i64 h], .box [.rw 2], .row 6 Ob encOb L, .row 5 It encIt l] ++ [.row 5 It encIt ((l.take i).filter fun y => decide (y.path ≠ p))]⟩) (fun i => i ≤ l.length ∧ True) (fun i => l.length - i) 0 [] [.same 0, .same 1, .same 2, .same 3, .new] ?_ ?_ (fun i hi => ?_)
 ·simp
 ·repeat' first | exact trivial | exact rfl | refine And.intro ?_ ?_
 (conv => whnf)
 refine dec (fun h4 => ?_) (fun h4 => ?_)
 ·have hlt : i < l.length := by omega
  have hf := filter_step (p := fun y : It => decide (y.path ≠ p)) hlt
  have hfl := filter_le (p := fun y : It => decide (y.path ≠ p)) hi.1
  have hiy : l[i]? = some l[i] := List.getElem?_eq_getElem hlt
  (conv => whnf)
  refine ⟨i, ⟨rfl, hlt⟩, ?_⟩
  (conv => whnf)
  refine ⟨l[i], hiy, ?_⟩
  generalize (l.take i).filter (fun y => decide (y.path ≠ p)) = out at *
  generalize l[i] = y at *
  (conv => whnf)
  refine decN (fun h7 => ?_) (fun h7 => ?_)
  ·rw [if_pos (by simpa using h7)] at hf
   (conv => whnf)
   refine ⟨i, ⟨rfl, hlt⟩, ?_⟩
   (conv => whnf)
   refine ⟨y, hiy, ?_⟩
   (conv => whnf)
   refine ⟨[y], rfl, ?_⟩
   (conv => whnf)
   refine ⟨_, _, rfl, rfl, (by simp only [List.length_append, List.length_cons, List.length_nil]; omega), ?_⟩
   repeat' ((conv => whnf); refine I6 ?_)
   refine ag (i + 1) [] [.same 0, .same 1, .same 2, .same 3, .same 6] ⟨hlt, trivial⟩ (by simp only []; omega) ?_
   rw [hf]
   repeat' first | exact trivial | exact rfl | refine And.intro ?_ ?_
  ·rw [if_neg (by simpa using h7), List.append_nil] at hf
   repeat' ((conv => whnf); refine I6 ?_)
   refine ag (i + 1) [] [.same 0, .same 1, .same 2, .same 3, .same 4] ⟨hlt, trivial⟩ (by simp only []; omega) ?_
   rw [hf]
   repeat' first | exact trivial | exact rfl | refine And.intro ?_ ?_
 ·obtain rfl : i = l.length := by omega
  rw [List.take_length]
  (conv => whnf)
  refine dec (fun h5 => ?_) (fun h5 => ?_)
  ·rw [show remD l p = _ from if_pos (Int.ofNat_inj.1 h5)]
   (conv => whnf)
   exact rx [] [.same 0, .same 1, .same 2, .same 3, .same 2, .same 3]
  ·rw [show remD l p = _ from if_neg (fun e => h5 (congrArg Int.ofNat e))]
   (conv => whnf)
   exact rx [] [.same 0, .same 1, .same 2, .same 3, .same 2, .same 4]
theorem docs_wspec (L : List Ob) (l : List It) (h : Int) (hl : l.length ≤ 60) (hbb : ∀ x ∈ l, x.bytes.length ≤ 400) : Does Tryz.prog 68 [.c (.bp [.bp [.bs 6 Ob encOb L], .bs 5 It encIt l, .int .i64 h])] [] (Rt (.c (.rw 0)) [.row 2 Dc encDc (l.map docW)]) := by
 refine X_spec (n := 26) (n0 := 0) tabOk Tryz.call68 Tryz.func68 ?_
 intro hb
 (conv => whnf)
 refine lp Nat (fun i => ⟨[(3, .c (.rw 0)), (9, .c (.bs 5 It encIt l)), (10, .c (.int .i64 l.length)), (11, .c (.int .i64 i))], [.row 2 Dc encDc ((l.take i).map docW)]⟩) (fun i => i ≤ l.length ∧ True) (fun i => l.length - i) 0 [] [.new] ?_ ?_ (fun i hi => ?_)
 ·simp
 ·repeat' first | exact trivial | exact rfl | refine And.intro ?_ ?_
 (conv => whnf)
 refine dec (fun h4 => ?_) (fun h4 => ?_)
 ·have hlt : i < l.length := by omega
  have hol : ((l.take i).map docW).length ≤ i := by rw [List.length_map, List.length_take]; omega
  have hs : (l.take (i + 1)).map docW = (l.take i).map docW ++ [docW l[i]] := by rw [List.take_succ_eq_append_getElem hlt, List.map_append]; rfl
  have hby := hbb _ (List.getElem_mem hlt)
  generalize (l.take i).map docW = out at *
  (conv => whnf)
  refine ⟨i, l[i], rfl, List.getElem?_eq_getElem hlt, ?_⟩
  generalize l[i] = x at *
  (conv => whnf)
  refine ⟨false, .grow, (.l [0, 1, 2, 3, 4, 5, 6, 7, 8, 9]), by kernel_rfl, .inl ?_⟩
  (conv => whnf)
  refine cl [] [] (cloneBytes_spec x.bytes (by omega)) ?_
  (conv => whnf)
  refine ⟨[⟨x.path, x.bytes⟩], rfl, ?_⟩
  (conv => whnf)
  refine ⟨_, _, rfl, rfl, (by simp only [List.length_append, List.length_cons, List.length_nil]; omega), ?_⟩
  repeat' ((conv => whnf); refine I6 ?_)
  refine ag (i + 1) [] [.same 4] ⟨hlt, trivial⟩ (by simp only []; omega) ?_
  rw [hs]
  repeat' first | exact trivial | exact rfl | refine And.intro ?_ ?_
 ·obtain rfl : i = l.length := by omega
  rw [List.take_length]
  (conv => whnf)
  exact rx [] [.same 0]
theorem head_wspec (L : List Ob) (l : List It) (h : Int) : Does Tryz.prog 70 [.c (.bp [.bp [.bs 6 Ob encOb L], .bs 5 It encIt l, .int .i64 h])] [] (Rt (.c (.int .i64 h)) []) := by
 refine X_spec (n := 7) (n0 := 0) tabOk Tryz.call70 Tryz.func70 ?_
 intro hb
 repeat' ((conv => whnf); first | refine rtI ?_ | fail)
 rfl
end Go.Nest
end
/- part -/
section

namespace Go.Nest
open Go Go.AM Go.Proofs
open Go.Proofs.YtpechfcbnoggfaaGreatDoor (tab tabOk)
set_option maxRecDepth 4000
theorem filesW_lk {L : List Ob} {x : It} {r : List It} {out : List Fi} (h : x.link = true) : filesW L (x :: r) out = filesW L r (out ++ [lnF x]) := by
 rw [filesW, if_pos h]
theorem filesW_no {L : List Ob} {x : It} {r : List It} {out : List Fi} (h : x.link = false) (h2 : (putP L (blobO x.bytes)).2.1 ≠ 0) : filesW L (x :: r) out = ([], (putP L (blobO x.bytes)).2.1, (putP L (blobO x.bytes)).2.2) := by
 rw [filesW, if_neg (by rw [h]; decide), if_pos h2]
theorem filesW_yes {L : List Ob} {x : It} {r : List It} {out : List Fi} (h : x.link = false) (h2 : ¬ (putP L (blobO x.bytes)).2.1 ≠ 0) : filesW L (x :: r) out = filesW (putP L (blobO x.bytes)).2.2 r (out ++ [⟨x.path, 1, (putP L (blobO x.bytes)).1, 0⟩]) := by
 rw [filesW, if_neg (by rw [h]; decide), if_neg h2]
set_option maxHeartbeats 4000000 in
theorem files_wspec (L : List Ob) (hL : PoolOk L) (l : List It) (h : Int) (hl : l.length ≤ 60) : Does Tryz.prog 164 [.c (.ptr 0 0)] [.box [.ptr 1 0, .rw 3, .int .i64 h], .box [.rw 2], .row 6 Ob encOb L, .row 5 It encIt l] (Rt (.tup [(false, [.rw 6]), (false, [.int .i64 (filesW L l []).2.1])]) ([.box [.ptr 1 0, .rw 5, .int .i64 h], .box [.rw 4], .dead, .dead, .row 6 Ob encOb (filesW L l []).2.2, .row 5 It encIt l] ++ [.row 4 Fi encFi (filesW L l []).1])) := by
 refine X_spec (n := 53) (n0 := 4) tabOk Tryz.call164 Tryz.func164 ?_
 intro hb
 (conv => whnf)
 refine lp (Nat × List Ob × List Fi) (fun | (i, M, out) => ⟨[(0, .c (.ptr 0 0)), (4, .c (.rw 5)), (13, .c (.rw 3)), (14, .c (.int .i64 l.length)), (15, .c (.int .i64 i))], [.box [.ptr 1 0, .rw 3, .int .i64 h], .box [.rw 4], .dead, .row 5 It encIt l, .row 6 Ob encOb M] ++ [.row 4 Fi encFi out]⟩) (fun x => (x.1 ≤ l.length ∧ x.2.2.length ≤ x.1) ∧ PoolOk x.2.1 ∧ filesW L l [] = filesW x.2.1 (l.drop x.1) x.2.2) (fun x => l.length - x.1) (0, L, []) [] [.same 0, .same 1, .same 2, .same 3, .same 2, .new] ?_ ?_ (fun x hx => ?_)
 ·exact ⟨⟨Nat.zero_le _, Nat.zero_le _⟩, hL, rfl⟩
 ·repeat' first | exact trivial | exact rfl | refine And.intro ?_ ?_
 obtain ⟨i, M, out⟩ := x
 obtain ⟨⟨h1, h2⟩, hM, hf⟩ := hx
 dsimp only at h1 h2 hM hf
 (conv => whnf)
 refine dec (fun h4 => ?_) (fun h4 => ?_)
 ·have hlt : i < l.length := by omega
  have hdr : l.drop i = l[i] :: l.drop (i + 1) := List.drop_eq_getElem_cons hlt
  rw [hdr] at hf
  (conv => whnf)
  refine ⟨i, ⟨rfl, hlt⟩, ?_⟩
  (conv => whnf)
  refine ⟨l[i], List.getElem?_eq_getElem hlt, ?_⟩
  generalize l[i] = x at *
  (conv => whnf)
  refine booN (fun h5 => ?_) (fun h5 => ?_)
  ·have p1 := put_spec M (blobO x.bytes) hM.len
   have hM2 := putP_ok hM (blobO x.bytes)
   (conv => whnf)
   refine ⟨false, .grow, (.l [0, 1, 2, 3, 4, 5, 6, 7, 8, 9, 10, 11, 12]), by kernel_rfl, .inl ?_⟩
   (conv => whnf)
   refine cl [] [1, 4] (p1) ?_
   (conv => whnf)
   refine decN (fun h6 => ?_) (fun h6 => ?_)
   ·rw [hf, filesW_no h5 h6]
    (conv => whnf)
    exact rx [] [.same 0, .same 1, .same 2, .same 3, .same 8, .same 3, .new]
   ·have h6' : ¬ (putP M (blobO x.bytes)).2.1 ≠ 0 := fun h => h h6
    rw [filesW_yes h5 h6'] at hf
    generalize (putP M (blobO x.bytes)).2.2 = M' at *
    generalize (putP M (blobO x.bytes)).1 = id at *
    (conv => whnf)
    refine ⟨[⟨x.path, 1, id, 0⟩], rfl, ?_⟩
    (conv => whnf)
    refine ⟨_, _, rfl, rfl, (by simp only [List.length_append, List.length_cons, List.length_nil]; omega), ?_⟩
    repeat' ((conv => whnf); refine I6 ?_)
    refine ag (i + 1, M', out ++ [⟨x.path, 1, id, 0⟩]) [] [.same 0, .same 1, .same 2, .same 3, .same 8, .same 10] ⟨⟨hlt, by simp only [List.length_append, List.length_cons, List.length_nil]; omega⟩, hM2, hf⟩ (by simp only []; omega) ?_
    repeat' first | exact trivial | exact rfl | refine And.intro ?_ ?_
  ·rw [filesW_lk h5] at hf
   (conv => whnf)
   refine ⟨[lnF x], rfl, ?_⟩
   (conv => whnf)
   refine ⟨_, _, rfl, rfl, (by simp only [List.length_append, List.length_cons, List.length_nil]; omega), ?_⟩
   repeat' ((conv => whnf); refine I6 ?_)
   refine ag (i + 1, M, out ++ [lnF x]) [] [.same 0, .same 1, .same 2, .same 3, .same 4, .same 9] ⟨⟨hlt, by simp only [List.length_append, List.length_cons, List.length_nil]; omega⟩, hM, hf⟩ (by simp only []; omega) ?_
   repeat' first | exact trivial | exact rfl | refine And.intro ?_ ?_
 ·obtain rfl : i = l.length := by omega
  rw [List.drop_length] at hf
  rw [hf]
  (conv => whnf)
  exact rx [] [.same 0, .same 1, .same 2, .same 3, .same 4, .same 3, .same 5]
theorem tree_wspec (L : List Ob) (hL : PoolOk L) (l : List It) (h : Int) (hp : ∀ y ∈ l, y.path.length ≤ 4000000) (hl : l.length ≤ 60) : Does Tryz.prog 201 [.c (.ptr 0 0)] [.box [.ptr 1 0, .rw 3, .int .i64 h], .box [.rw 2], .row 6 Ob encOb L, .row 5 It encIt l] (Rt (.tup [(false, [.int .i64 (treeW L l).1]), (false, [.int .i64 (treeW L l).2.1])]) [.box [.ptr 1 0, .rw 5, .int .i64 h], .box [.rw 4], .dead, .dead, .row 6 Ob encOb (treeW L l).2.2, .row 5 It encIt l]) := by
 refine X_spec (n := 22) (n0 := 4) tabOk Tryz.call201 Tryz.func201 ?_
 intro hb
 have hfp := filesW_path (n := 4000000) (L := L) (out := []) (fun f hf => (by cases hf)) hp
 have hfo := (filesW_ok (l := l) (out := []) hL).1
 unfold treeW
 (conv => whnf)
 refine cl [] [0, 1, 2, 3] (files_wspec L hL l h hl) ?_
 generalize filesW L l [] = F at *
 obtain ⟨fs, c, M⟩ := F
 dsimp only at hfp hfo
 (conv => whnf)
 refine decN (fun h1 => ?_) (fun h1 => ?_)
 ·rw [if_pos h1]
  (conv => whnf)
  exact rx [] [.same 0, .same 1, .same 2, .same 3, .same 4, .same 5]
 ·rw [if_neg (fun h => h h1)]
  (conv => whnf)
  refine cl [] [1, 4] (flatBuild_spec M fs hfo hfp) ?_
  (conv => whnf)
  exact rx [] [.same 0, .same 1, .same 2, .same 3, .same 7, .same 5]
theorem says_wspec (L : List Ob) (hL : PoolOk L) (l : List It) (h t : Int) : Does Tryz.prog 202 [.c (.bp [.bp [.bs 6 Ob encOb L], .bs 5 It encIt l, .int .i64 h]), .c (.int .i64 t)] [] (Rt (.c (.bool (saysW L l h t))) []) := by
 refine X_spec (n := 34) (n0 := 0) tabOk Tryz.call202 Tryz.func202 ?_
 intro hb
 unfold saysW
 (conv => whnf)
 refine dec (fun h1 => ?_) (fun h1 => ?_)
 ·rw [if_pos h1]
  (conv => whnf)
  exact rtB (by rw [decide_eq_decide]; omega)
 ·rw [if_neg h1]
  (conv => whnf)
  refine ⟨false, .grow, (.alt [0, 1, 2, 3, 4, 5, 6, 7] [8, 12] fun j => bif Nat.beq j 8 then (.l [9, 10, 11, 12, 13, 14]) else bif Nat.beq j 12 then (.l [8, 9, 10, 11, 13, 14]) else .l []), by kernel_rfl, .inl ?_⟩
  (conv => whnf)
  refine And.intro ?_ ?_
  all_goals
   (conv => whnf)
   refine cl [] [] (get_spec L hL h) ?_
   (conv => whnf)
   exact rtB rfl
end Go.Nest
end
/- part -/
section

namespace Go.Nest
open Go Go.AM Go.Proofs
open Go.Proofs.YtpechfcbnoggfaaGreatDoor (tab tabOk)
set_option maxRecDepth 4000
def HOk (L : List Ob) (h : Int) : Prop := h < 0 ∨ kindOf L h = 3
theorem HOk.ext {L M : List Ob} {h : Int} (hh : HOk L h) (hx : L <+: M) : HOk M h := hh.imp id fun hk => by rw [ext_kind hx (by omega)]; exact hk
theorem HOk.at {L : List Ob} {h : Int} (hh : HOk L h) (h0 : ¬ h < 0) : ∃ hlt : h.toNat < L.length, (h = (h.toNat : Nat) ∧ getP L h = L[h.toNat]) := by
 have hk := hh.resolve_left h0
 obtain ⟨h1, h2⟩ := kindOf_pos (l := L) (id := h) (by omega)
 exact ⟨h2, by omega, getP_at h1 h2⟩
theorem filesP_len {L : List Ob} {t : Int} : (filesP L t).1.length ≤ 60 := by
 unfold filesP
 have := goF_len L 9 t [] [] (by decide)
 split
 ·exact this
 ·simp
theorem files_fine {M : List Ob} (hM : PoolOk M) (t : Int) : Files (filesP M t).1 ∧ ∀ f ∈ (filesP M t).1, f.path.length ≤ 4000000 := by
 by_cases hz : (filesP M t).2 = 0
 ·obtain ⟨f1, f2, f3⟩ := files_told hM hz
  obtain ⟨q1, q2⟩ := tree_ok hM f1.1
  obtain ⟨a1, a2⟩ := f1.2.apt hM q1 q2
  refine ⟨⟨a1.imp fun h => h.1, fun f hf e => ?_⟩, fun f hf => ?_⟩
  ·have := (a2 f hf).2; omega
  ·have h1 := (a2 f hf).1
   have h2 := unsp_bound (spl f.path) fun s hs => name_len (namesF_all h1 s hs)
   rw [unsp_spl] at h2
   have := f3 f hf
   omega
 ·rw [files_nil hz]
  exact ⟨⟨.nil, fun f hf => by cases hf⟩, fun f hf => by cases hf⟩
set_option maxHeartbeats 1000000 in
theorem status_wspec (L : List Ob) (hL : PoolOk L) (l : List It) (h : Int) (hp : ∀ y ∈ l, y.path.length ≤ 4000000) (hl : l.length ≤ 60) : Does Tryz.prog 95 [.c (.ptr 0 0)] [.box [.ptr 1 0, .rw 3, .int .i64 h], .box [.rw 2], .row 6 Ob encOb L, .row 5 It encIt l] (Rt (.tup [(false, [.rw 6]), (false, [.int .i64 (statusW L l h).2])]) ([.box [.ptr 1 0, .rw 5, .int .i64 h], .box [.rw 4], .dead, .dead, .row 6 Ob encOb (filesW L l []).2.2, .row 5 It encIt l] ++ [.row 9 Ch encCh (statusW L l h).1])) := by
 refine X_spec (n := 52) (n0 := 4) tabOk Tryz.call95 Tryz.func95 ?_
 intro hb
 have hfo := (filesW_ok (l := l) (out := []) hL).1
 have hfl := filesW_len (l := l) (L := L) (out := [])
 have hfp := filesW_path (n := 4000000) (L := L) (out := []) (fun f hf => (by cases hf)) hp
 unfold statusW
 (conv => whnf)
 refine cl [] [0, 1, 2, 3] (files_wspec L hL l h hl) ?_
 generalize filesW L l [] = F at *
 obtain ⟨fs, c, M⟩ := F
 dsimp only at hfo hfl hfp
 have hfl : fs.length ≤ 60 := by simp at hfl; omega
 (conv => whnf)
 refine decN (fun h1 => ?_) (fun h1 => ?_)
 ·rw [if_pos h1]
  (conv => whnf)
  exact rx [] [.same 0, .same 1, .same 2, .same 3, .same 4, .same 5, .new]
 rw [if_neg (fun h => h h1)]
 (conv => whnf)
 refine dec (fun h2 => ?_) (fun h2 => ?_)
 ·rw [if_pos h2]
  (conv => whnf)
  refine cl [] [] (diff_spec [] fs (by decide) (by omega) (fun f hf => by cases hf) hfp) ?_
  (conv => whnf)
  exact rx [] [.same 0, .same 1, .same 2, .same 3, .same 4, .same 5, .same 7]
 ·rw [if_neg h2]
  (conv => whnf)
  refine ⟨false, .grow, (.alt [0, 1, 2, 3, 4, 5, 6, 7] [8, 12] fun j => bif Nat.beq j 8 then (.l [9, 10, 11, 12, 13, 14]) else bif Nat.beq j 12 then (.l [8, 9, 10, 11, 13, 14]) else .l []), by kernel_rfl, .inl ?_⟩
  have hfi := files_fine hfo (getP M h).tree
  have hfn := filesP_len (L := M) (t := (getP M h).tree)
  (conv => whnf)
  refine And.intro ?_ ?_
  all_goals
   (conv => whnf)
   refine cl [] [] (get_spec M hfo h) ?_
   (conv => whnf)
   refine ⟨false, .grow, (.l [0, 1, 2, 3, 4, 5, 6, 7, 8, 9, 10, 11]), by kernel_rfl, .inl ?_⟩
   (conv => whnf)
   refine cl [] [] (flatFiles_spec M hfo (getP M h).tree) ?_
   (conv => whnf)
   refine decN (fun h3 => ?_) (fun h3 => ?_)
   ·rw [if_pos h3]
    (conv => whnf)
    exact rx [] [.same 0, .same 1, .same 2, .same 3, .same 4, .same 5, .new]
   ·rw [if_neg (fun h => h h3)]
    (conv => whnf)
    refine cl [] [] (diff_spec (filesP M (getP M h).tree).1 fs (by omega) (by omega) hfi.2 hfp) ?_
    (conv => whnf)
    exact rx [] [.same 0, .same 1, .same 2, .same 3, .same 4, .same 5, .same 9]
end Go.Nest
end
/- part -/
section

namespace Go.Nest
open Go Go.AM Go.Proofs
open Go.Proofs.YtpechfcbnoggfaaGreatDoor (tab tabOk)
set_option maxRecDepth 4000
set_option maxHeartbeats 1000000 in
theorem commit_wspec (L : List Ob) (hL : PoolOk L) (l : List It) (h : Int) (hp : ∀ y ∈ l, y.path.length ≤ 4000000) (hl : l.length ≤ 60) (text : List UInt8) (others : List Int) (ho : others.length ≤ 1000) (hh : HOk L h) : Does Tryz.prog 124 [.c (.ptr 0 0), .c (.str text), .c (.bs 1 Int encI others)] [.box [.ptr 1 0, .rw 3, .int .i64 h], .box [.rw 2], .row 6 Ob encOb L, .row 5 It encIt l] (Rt (.tup [(false, [.int .i64 (commW L l h text others).1]), (false, [.int .i64 (commW L l h text others).2.1])]) [.box [.ptr 1 0, .rw 5, .int .i64 (headW L l h text others)], .box [.rw 4], .dead, .dead, .row 6 Ob encOb (commW L l h text others).2.2, .row 5 It encIt l]) := by
 have hto := (treeW_ok (l := l) hL).1
 have hh := hh.ext (treeW_ok (l := l) hL).2
 have hH : headW L l h text others = if (commW L l h text others).2.1 = 0 then (commW L l h text others).1 else h := rfl
 rw [hH]
 have hR : commW L l h text others = _ := rfl
 conv at hR => rhs; unfold commW
 have hT := tree_wspec L hL l h hp hl
 generalize commW L l h text others = R at *
 generalize treeW L l = T at *
 obtain ⟨t, c, M⟩ := T
 dsimp only at hto hh hR
 have p1 := put_spec M (comO t (upW h others) text) hto.len
 generalize hP : putP M (comO t (upW h others) text) = P at *
 obtain ⟨id, c', M'⟩ := P
 dsimp only at p1 hR
 refine X_spec (n := 69) (n0 := 4) tabOk Tryz.call124 Tryz.func124 ?_
 intro hb
 (conv => whnf)
 refine cl [] [0, 1, 2, 3] (hT) ?_
 (conv => whnf)
 refine decN (fun h1 => ?_) (fun h1 => ?_)
 ·rw [hR.trans (if_pos h1), if_neg h1]
  (conv => whnf)
  exact rx [] [.same 0, .same 1, .same 2, .same 3, .same 4, .same 5]
 have c1 := hR.trans (if_neg (fun h => h h1))
 (conv => whnf)
 refine dec (fun h2 => ?_) (fun h2 => ?_)
 ·have h2 : 0 ≤ h := h2
  have hup : upW h others = [h] ++ others := by unfold upW; rw [if_pos h2]
  rw [hup] at p1
  (conv => whnf)
  refine cl [] [] (says_wspec M hto l h t) ?_
  (conv => whnf)
  refine boo (fun h3 => ?_) (fun h3 => ?_)
  ·(conv => whnf)
   refine dec (fun h4 => ?_) (fun h4 => ?_)
   ·rw [c1.trans (if_pos ⟨h2, h3, Int.ofNat_inj.1 h4⟩), if_neg (show ¬ (17 : Int) = 0 by decide)]
    (conv => whnf)
    exact rx [] [.same 0, .same 1, .same 2, .same 3, .same 4, .same 5]
   ·have c2 := c1.trans (if_neg (fun h => h4 (congrArg Int.ofNat h.2.2)))
    (conv => whnf)
    refine dec (fun _ => ?_) (fun h => absurd h2 h)
    (conv => whnf)
    refine ⟨[h], rfl, ?_⟩
    (conv => whnf)
    refine ⟨[], _, rfl, rfl, (by simp only [List.length_nil, List.length_cons]; omega), ?_⟩
    (conv => whnf)
    refine ⟨true, .any, (.alt [0, 1, 2, 4, 5, 6, 8] [3, 7] fun j => bif Nat.beq j 3 then (.l [7, 9, 10, 11, 12, 13, 14, 15]) else bif Nat.beq j 7 then (.l [9, 3, 10, 11, 12, 13, 14, 15]) else .l []), by kernel_rfl, .inl ?_⟩
    (conv => whnf)
    refine And.intro ?_ ?_
    all_goals
     (conv => whnf)
     refine ⟨_, _, rfl, rfl, (by simp only [List.length_append, List.length_nil, List.length_cons]; omega), ?_⟩
     (conv => whnf)
     refine cl [] [1, 4] (p1) ?_
     (conv => whnf)
     refine decN (fun h6 => ?_) (fun h6 => ?_)
     ·rw [c2.trans (if_pos h6), if_neg h6]
      (conv => whnf)
      exact rx [] [.same 0, .same 1, .same 2, .same 3, .same 9, .same 5]
     ·rw [c2.trans (if_neg (fun h => h h6)), if_pos h6]
      have h6 : c' = 0 := h6
      subst h6
      (conv => whnf)
      exact rx [] [.same 0, .same 1, .same 2, .same 3, .same 9, .same 5]
  ·have c2 := c1.trans (if_neg (fun h => by have := h.2.1; rw [h3] at this; cases this))
   (conv => whnf)
   refine dec (fun _ => ?_) (fun h => absurd h2 h)
   (conv => whnf)
   refine ⟨[h], rfl, ?_⟩
   (conv => whnf)
   refine ⟨[], _, rfl, rfl, (by simp only [List.length_nil, List.length_cons]; omega), ?_⟩
   (conv => whnf)
   refine ⟨true, .any, (.alt [0, 1, 2, 4, 5, 6, 8] [3, 7] fun j => bif Nat.beq j 3 then (.l [7, 9, 10, 11, 12, 13, 14, 15]) else bif Nat.beq j 7 then (.l [9, 3, 10, 11, 12, 13, 14, 15]) else .l []), by kernel_rfl, .inl ?_⟩
   (conv => whnf)
   refine And.intro ?_ ?_
   all_goals
    (conv => whnf)
    refine ⟨_, _, rfl, rfl, (by simp only [List.length_append, List.length_nil, List.length_cons]; omega), ?_⟩
    (conv => whnf)
    refine cl [] [1, 4] (p1) ?_
    (conv => whnf)
    refine decN (fun h6 => ?_) (fun h6 => ?_)
    ·rw [c2.trans (if_pos h6), if_neg h6]
     (conv => whnf)
     exact rx [] [.same 0, .same 1, .same 2, .same 3, .same 9, .same 5]
    ·rw [c2.trans (if_neg (fun h => h h6)), if_pos h6]
     have h6 : c' = 0 := h6
     subst h6
     (conv => whnf)
     exact rx [] [.same 0, .same 1, .same 2, .same 3, .same 9, .same 5]
 ·have h2 : ¬ 0 ≤ h := h2
  have hup : upW h others = [] ++ others := by unfold upW; rw [if_neg h2]
  rw [hup] at p1
  have c2 := c1.trans (if_neg (fun h => h2 h.1))
  (conv => whnf)
  refine dec (fun h => absurd h h2) (fun _ => ?_)
  (conv => whnf)
  refine ⟨true, .any, (.alt [0, 1, 2, 4, 5, 6, 8] [3, 7] fun j => bif Nat.beq j 3 then (.l [7, 9, 10, 11, 12, 13, 14, 15]) else bif Nat.beq j 7 then (.l [9, 3, 10, 11, 12, 13, 14, 15]) else .l []), by kernel_rfl, .inl ?_⟩
  (conv => whnf)
  refine And.intro ?_ ?_
  all_goals
   (conv => whnf)
   refine ⟨[], _, rfl, rfl, (by simp only [List.length_nil]; omega), ?_⟩
   (conv => whnf)
   refine cl [] [1, 4] (p1) ?_
   (conv => whnf)
   refine decN (fun h6 => ?_) (fun h6 => ?_)
   ·rw [c2.trans (if_pos h6), if_neg h6]
    (conv => whnf)
    exact rx [] [.same 0, .same 1, .same 2, .same 3, .same 7, .same 5]
   ·rw [c2.trans (if_neg (fun h => h h6)), if_pos h6]
    have h6 : c' = 0 := h6
    subst h6
    (conv => whnf)
    exact rx [] [.same 0, .same 1, .same 2, .same 3, .same 7, .same 5]
end Go.Nest
end
/- part -/
section

namespace Go.Nest
open Go Go.AM
theorem OkO.byt {L : List Ob} (hL : PoolOk L) (id : Int) : (getP L id).bytes.length ≤ 400 := by
 by_cases h : kindOf L id = 0
 ·rw [hL.kind0 h]; exact Nat.zero_le _
 ·exact (hL.get h).bytes
theorem WOk.sub {l l' : List It} (h : WOk l) (hs : l'.Sublist l) : WOk l' :=
 ⟨h.ris.sublist hs, Nat.le_trans hs.length_le h.len, fun x hx => h.path x (hs.subset hx), fun x hx y hy => h.apart x (hs.subset hx) y (hs.subset hy)⟩
end Go.Nest
end
