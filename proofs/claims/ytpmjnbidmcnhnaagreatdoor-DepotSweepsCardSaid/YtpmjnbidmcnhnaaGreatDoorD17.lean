/- part -/
import Derived.Test.YtpmjnbidmcnhnaaGreatDoorD9
import Derived.Test.YtpmjnbidmcnhnaaGreatDoorG5
import Derived.Test.YtpmjnbidmcnhnaaGreatDoorD14
import Derived.Test.YtpmjnbidmcnhnaaGreatDoorW7
set_option linter.unusedVariables false
set_option linter.unusedSimpArgs false
section

namespace Go.Nest
open Go Go.AM Go.Proofs
open Go.Proofs.YtpmjnbidmcnhnaaGreatDoor (tab tabOk)
set_option maxRecDepth 4000
def hasR (o b : Nat → List Int) (r id : Int) : Bool := isR r && (List.range 4).any fun q : Nat => decide ((q : Int) ∈ lendP b r) && decide (id ∈ o q)
def hasAllR (o b : Nat → List Int) (r : Int) (ids : List Int) : Bool := ids.all fun id => hasR o b r id
set_option maxHeartbeats 4000000 in
theorem lends_spec (L : List Ob) (o b : Nat → List Int) (hb4 : BorOk b) (q0 r : Int) (hr : isR r = true) : Does Tryz.prog 30 [.c (.bp [.bp [.bs 6 Ob encOb L], .bs 1 Int encI (o 0), .bs 1 Int encI (o 1), .bs 1 Int encI (o 2), .bs 1 Int encI (o 3), .bs 1 Int encI (b 0), .bs 1 Int encI (b 1), .bs 1 Int encI (b 2), .bs 1 Int encI (b 3)]), .c (.int .i64 q0), .c (.int .i64 r)] [] (Rt (.c (.bool (decide (q0 ∈ lendP b r)))) []) := by
 refine X_spec (n := 51) (n0 := 0) tabOk Tryz.call30 Tryz.func30 ?_
 intro hb
 (conv => whnf)
 refine ⟨[r], rfl, ?_⟩
 (conv => whnf)
 refine lp (Nat × List Int) (fun p => ⟨[(0, .c (.bp [.bp [.bs 6 Ob encOb L], .bs 1 Int encI (o 0), .bs 1 Int encI (o 1), .bs 1 Int encI (o 2), .bs 1 Int encI (o 3), .bs 1 Int encI (b 0), .bs 1 Int encI (b 1), .bs 1 Int encI (b 2), .bs 1 Int encI (b 3)])), (1, .c (.int .i64 q0)), (7, .c (.rw 0)), (8, .c (.int .i64 p.1))], [.row 1 Int encI p.2]⟩) (fun p => LenI b r p.1 p.2 ∧ True) (fun p => 4 - p.1) (0, [r]) [] [.same 0] ?_ ?_ (fun ⟨i, out⟩ hx => ?_)
 ·exact ⟨LenI.start hr, trivial⟩
 ·repeat' first | exact trivial | exact rfl | refine And.intro ?_ ?_
 obtain ⟨hx, -⟩ := hx
 have hx : LenI b r i out := hx
 have hol := hx.len
 (conv => whnf)
 refine dec (fun h4 => ?_) (fun h4 => ?_)
 ·have hlt : i < out.length := by have h4 : (i : Int) < out.length := h4; omega
  obtain ⟨k, hk4, hqe⟩ : ∃ k : Nat, k < 4 ∧ out[i] = k := by
   have := hx.all _ (List.getElem_mem hlt)
   exact ⟨out[i].toNat, by omega, by omega⟩
  rcases four hk4 with rfl | rfl | rfl | rfl
  ·have hn := hx.next hb4 hlt
   rw [hqe] at hn
   have hl4 := (hb4 0 (by decide)).1
   (conv => whnf)
   refine ⟨false, .grow, (.l [0, 1, 2, 3, 4, 5, 6, 7, 8, 9]), by kernel_rfl, .inl ?_⟩
   (conv => whnf)
   refine ⟨i, ⟨rfl, hlt⟩, ?_⟩
   (conv => whnf)
   refine ⟨0, by rw [List.getElem?_eq_getElem hlt, hqe]; rfl, ?_⟩
   (conv => whnf)
   refine ⟨0, ⟨rfl, by decide⟩, ?_⟩
   (conv => whnf)
   refine lp Nat (fun j => ⟨[(0, .c (.bp [.bp [.bs 6 Ob encOb L], .bs 1 Int encI (o 0), .bs 1 Int encI (o 1), .bs 1 Int encI (o 2), .bs 1 Int encI (o 3), .bs 1 Int encI (b 0), .bs 1 Int encI (b 1), .bs 1 Int encI (b 2), .bs 1 Int encI (b 3)])), (1, .c (.int .i64 q0)), (7, .c (.rw 0)), (8, .c (.int .i64 i)), (9, .c (.bs 1 Int encI (b 0))), (10, .c (.int .i64 j))], [.row 1 Int encI (((b 0).take j).foldl addI out)]⟩) (fun j => j ≤ (b 0).length ∧ True) (fun j => (b 0).length - j) 0 [] [.same 0] ?_ ?_ (fun j hj => ?_)
   ·simp
   ·repeat' first | exact trivial | exact rfl | refine And.intro ?_ ?_
   (conv => whnf)
   refine dec (fun h5 => ?_) (fun h5 => ?_)
   ·have hjt : j < (b 0).length := by have h5 : (j : Int) < (b 0).length := h5; omega
    have hs2 := add_take (out := out) hjt
    obtain ⟨v1, v2⟩ := add_ok (l := (b 0).take j) hx.nd hx.all (fun x hx => (hb4 0 (by decide)).2 x (List.mem_of_mem_take hx))
    have v3 := nodup_len 4 v1 v2
    have hjy : (b 0)[j]? = some (b 0)[j] := List.getElem?_eq_getElem hjt
    generalize ((b 0).take j).foldl addI out = o2 at hs2 v1 v2 v3 ⊢
    generalize (b 0)[j] = y at hjy hs2
    (conv => whnf)
    refine ⟨j, y, rfl, hjy, ?_⟩
    (conv => whnf)
    refine cl [] [] (in_spec o2 y) ?_
    (conv => whnf)
    refine decN (fun h6 => ?_) (fun h6 => ?_)
    ·rw [show addI o2 y = o2 ++ [y] from if_neg h6] at hs2
     (conv => whnf)
     refine ⟨j, y, rfl, hjy, ?_⟩
     (conv => whnf)
     refine ⟨[y], rfl, ?_⟩
     (conv => whnf)
     refine ⟨_, _, rfl, rfl, (by simp only [List.length_append, List.length_cons, List.length_nil]; omega), ?_⟩
     repeat' ((conv => whnf); refine I6 ?_)
     refine ag (j + 1) [] [.same 2] ⟨hjt, trivial⟩ (by simp only []; omega) ?_
     rw [hs2]
     repeat' first | exact trivial | exact rfl | refine And.intro ?_ ?_
    ·rw [show addI o2 y = o2 from if_pos h6] at hs2
     repeat' ((conv => whnf); refine I6 ?_)
     refine ag (j + 1) [] [.same 0] ⟨hjt, trivial⟩ (by simp only []; omega) ?_
     rw [hs2]
     repeat' first | exact trivial | exact rfl | refine And.intro ?_ ?_
   ·obtain rfl : j = (b 0).length := by have h5 : ¬ (j : Int) < (b 0).length := h5; omega
    rw [List.take_length]
    repeat' ((conv => whnf); refine I6 ?_)
    refine ag (i + 1, (b 0).foldl addI out) [] [.same 0] ⟨hn, trivial⟩ (by have := hn.le; have := hn.len; simp only []; omega) ?_
    repeat' first | exact trivial | exact rfl | refine And.intro ?_ ?_
  ·have hn := hx.next hb4 hlt
   rw [hqe] at hn
   have hl4 := (hb4 1 (by decide)).1
   (conv => whnf)
   refine ⟨false, .grow, (.l [0, 1, 2, 3, 4, 5, 6, 7, 8, 9]), by kernel_rfl, .inl ?_⟩
   (conv => whnf)
   refine ⟨i, ⟨rfl, hlt⟩, ?_⟩
   (conv => whnf)
   refine ⟨1, by rw [List.getElem?_eq_getElem hlt, hqe]; rfl, ?_⟩
   (conv => whnf)
   refine ⟨1, ⟨rfl, by decide⟩, ?_⟩
   (conv => whnf)
   refine lp Nat (fun j => ⟨[(0, .c (.bp [.bp [.bs 6 Ob encOb L], .bs 1 Int encI (o 0), .bs 1 Int encI (o 1), .bs 1 Int encI (o 2), .bs 1 Int encI (o 3), .bs 1 Int encI (b 0), .bs 1 Int encI (b 1), .bs 1 Int encI (b 2), .bs 1 Int encI (b 3)])), (1, .c (.int .i64 q0)), (7, .c (.rw 0)), (8, .c (.int .i64 i)), (9, .c (.bs 1 Int encI (b 1))), (10, .c (.int .i64 j))], [.row 1 Int encI (((b 1).take j).foldl addI out)]⟩) (fun j => j ≤ (b 1).length ∧ True) (fun j => (b 1).length - j) 0 [] [.same 0] ?_ ?_ (fun j hj => ?_)
   ·simp
   ·repeat' first | exact trivial | exact rfl | refine And.intro ?_ ?_
   (conv => whnf)
   refine dec (fun h5 => ?_) (fun h5 => ?_)
   ·have hjt : j < (b 1).length := by have h5 : (j : Int) < (b 1).length := h5; omega
    have hs2 := add_take (out := out) hjt
    obtain ⟨v1, v2⟩ := add_ok (l := (b 1).take j) hx.nd hx.all (fun x hx => (hb4 1 (by decide)).2 x (List.mem_of_mem_take hx))
    have v3 := nodup_len 4 v1 v2
    have hjy : (b 1)[j]? = some (b 1)[j] := List.getElem?_eq_getElem hjt
    generalize ((b 1).take j).foldl addI out = o2 at hs2 v1 v2 v3 ⊢
    generalize (b 1)[j] = y at hjy hs2
    (conv => whnf)
    refine ⟨j, y, rfl, hjy, ?_⟩
    (conv => whnf)
    refine cl [] [] (in_spec o2 y) ?_
    (conv => whnf)
    refine decN (fun h6 => ?_) (fun h6 => ?_)
    ·rw [show addI o2 y = o2 ++ [y] from if_neg h6] at hs2
     (conv => whnf)
     refine ⟨j, y, rfl, hjy, ?_⟩
     (conv => whnf)
     refine ⟨[y], rfl, ?_⟩
     (conv => whnf)
     refine ⟨_, _, rfl, rfl, (by simp only [List.length_append, List.length_cons, List.length_nil]; omega), ?_⟩
     repeat' ((conv => whnf); refine I6 ?_)
     refine ag (j + 1) [] [.same 2] ⟨hjt, trivial⟩ (by simp only []; omega) ?_
     rw [hs2]
     repeat' first | exact trivial | exact rfl | refine And.intro ?_ ?_
    ·rw [show addI o2 y = o2 from if_pos h6] at hs2
     repeat' ((conv => whnf); refine I6 ?_)
     refine ag (j + 1) [] [.same 0] ⟨hjt, trivial⟩ (by simp only []; omega) ?_
     rw [hs2]
     repeat' first | exact trivial | exact rfl | refine And.intro ?_ ?_
   ·obtain rfl : j = (b 1).length := by have h5 : ¬ (j : Int) < (b 1).length := h5; omega
    rw [List.take_length]
    repeat' ((conv => whnf); refine I6 ?_)
    refine ag (i + 1, (b 1).foldl addI out) [] [.same 0] ⟨hn, trivial⟩ (by have := hn.le; have := hn.len; simp only []; omega) ?_
    repeat' first | exact trivial | exact rfl | refine And.intro ?_ ?_
  ·have hn := hx.next hb4 hlt
   rw [hqe] at hn
   have hl4 := (hb4 2 (by decide)).1
   (conv => whnf)
   refine ⟨false, .grow, (.l [0, 1, 2, 3, 4, 5, 6, 7, 8, 9]), by kernel_rfl, .inl ?_⟩
   (conv => whnf)
   refine ⟨i, ⟨rfl, hlt⟩, ?_⟩
   (conv => whnf)
   refine ⟨2, by rw [List.getElem?_eq_getElem hlt, hqe]; rfl, ?_⟩
   (conv => whnf)
   refine ⟨2, ⟨rfl, by decide⟩, ?_⟩
   (conv => whnf)
   refine lp Nat (fun j => ⟨[(0, .c (.bp [.bp [.bs 6 Ob encOb L], .bs 1 Int encI (o 0), .bs 1 Int encI (o 1), .bs 1 Int encI (o 2), .bs 1 Int encI (o 3), .bs 1 Int encI (b 0), .bs 1 Int encI (b 1), .bs 1 Int encI (b 2), .bs 1 Int encI (b 3)])), (1, .c (.int .i64 q0)), (7, .c (.rw 0)), (8, .c (.int .i64 i)), (9, .c (.bs 1 Int encI (b 2))), (10, .c (.int .i64 j))], [.row 1 Int encI (((b 2).take j).foldl addI out)]⟩) (fun j => j ≤ (b 2).length ∧ True) (fun j => (b 2).length - j) 0 [] [.same 0] ?_ ?_ (fun j hj => ?_)
   ·simp
   ·repeat' first | exact trivial | exact rfl | refine And.intro ?_ ?_
   (conv => whnf)
   refine dec (fun h5 => ?_) (fun h5 => ?_)
   ·have hjt : j < (b 2).length := by have h5 : (j : Int) < (b 2).length := h5; omega
    have hs2 := add_take (out := out) hjt
    obtain ⟨v1, v2⟩ := add_ok (l := (b 2).take j) hx.nd hx.all (fun x hx => (hb4 2 (by decide)).2 x (List.mem_of_mem_take hx))
    have v3 := nodup_len 4 v1 v2
    have hjy : (b 2)[j]? = some (b 2)[j] := List.getElem?_eq_getElem hjt
    generalize ((b 2).take j).foldl addI out = o2 at hs2 v1 v2 v3 ⊢
    generalize (b 2)[j] = y at hjy hs2
    (conv => whnf)
    refine ⟨j, y, rfl, hjy, ?_⟩
    (conv => whnf)
    refine cl [] [] (in_spec o2 y) ?_
    (conv => whnf)
    refine decN (fun h6 => ?_) (fun h6 => ?_)
    ·rw [show addI o2 y = o2 ++ [y] from if_neg h6] at hs2
     (conv => whnf)
     refine ⟨j, y, rfl, hjy, ?_⟩
     (conv => whnf)
     refine ⟨[y], rfl, ?_⟩
     (conv => whnf)
     refine ⟨_, _, rfl, rfl, (by simp only [List.length_append, List.length_cons, List.length_nil]; omega), ?_⟩
     repeat' ((conv => whnf); refine I6 ?_)
     refine ag (j + 1) [] [.same 2] ⟨hjt, trivial⟩ (by simp only []; omega) ?_
     rw [hs2]
     repeat' first | exact trivial | exact rfl | refine And.intro ?_ ?_
    ·rw [show addI o2 y = o2 from if_pos h6] at hs2
     repeat' ((conv => whnf); refine I6 ?_)
     refine ag (j + 1) [] [.same 0] ⟨hjt, trivial⟩ (by simp only []; omega) ?_
     rw [hs2]
     repeat' first | exact trivial | exact rfl | refine And.intro ?_ ?_
   ·obtain rfl : j = (b 2).length := by have h5 : ¬ (j : Int) < (b 2).length := h5; omega
    rw [List.take_length]
    repeat' ((conv => whnf); refine I6 ?_)
    refine ag (i + 1, (b 2).foldl addI out) [] [.same 0] ⟨hn, trivial⟩ (by have := hn.le; have := hn.len; simp only []; omega) ?_
    repeat' first | exact trivial | exact rfl | refine And.intro ?_ ?_
  ·have hn := hx.next hb4 hlt
   rw [hqe] at hn
   have hl4 := (hb4 3 (by decide)).1
   (conv => whnf)
   refine ⟨false, .grow, (.l [0, 1, 2, 3, 4, 5, 6, 7, 8, 9]), by kernel_rfl, .inl ?_⟩
   (conv => whnf)
   refine ⟨i, ⟨rfl, hlt⟩, ?_⟩
   (conv => whnf)
   refine ⟨3, by rw [List.getElem?_eq_getElem hlt, hqe]; rfl, ?_⟩
   (conv => whnf)
   refine ⟨3, ⟨rfl, by decide⟩, ?_⟩
   (conv => whnf)
   refine lp Nat (fun j => ⟨[(0, .c (.bp [.bp [.bs 6 Ob encOb L], .bs 1 Int encI (o 0), .bs 1 Int encI (o 1), .bs 1 Int encI (o 2), .bs 1 Int encI (o 3), .bs 1 Int encI (b 0), .bs 1 Int encI (b 1), .bs 1 Int encI (b 2), .bs 1 Int encI (b 3)])), (1, .c (.int .i64 q0)), (7, .c (.rw 0)), (8, .c (.int .i64 i)), (9, .c (.bs 1 Int encI (b 3))), (10, .c (.int .i64 j))], [.row 1 Int encI (((b 3).take j).foldl addI out)]⟩) (fun j => j ≤ (b 3).length ∧ True) (fun j => (b 3).length - j) 0 [] [.same 0] ?_ ?_ (fun j hj => ?_)
   ·simp
   ·repeat' first | exact trivial | exact rfl | refine And.intro ?_ ?_
   (conv => whnf)
   refine dec (fun h5 => ?_) (fun h5 => ?_)
   ·have hjt : j < (b 3).length := by have h5 : (j : Int) < (b 3).length := h5; omega
    have hs2 := add_take (out := out) hjt
    obtain ⟨v1, v2⟩ := add_ok (l := (b 3).take j) hx.nd hx.all (fun x hx => (hb4 3 (by decide)).2 x (List.mem_of_mem_take hx))
    have v3 := nodup_len 4 v1 v2
    have hjy : (b 3)[j]? = some (b 3)[j] := List.getElem?_eq_getElem hjt
    generalize ((b 3).take j).foldl addI out = o2 at hs2 v1 v2 v3 ⊢
    generalize (b 3)[j] = y at hjy hs2
    (conv => whnf)
    refine ⟨j, y, rfl, hjy, ?_⟩
    (conv => whnf)
    refine cl [] [] (in_spec o2 y) ?_
    (conv => whnf)
    refine decN (fun h6 => ?_) (fun h6 => ?_)
    ·rw [show addI o2 y = o2 ++ [y] from if_neg h6] at hs2
     (conv => whnf)
     refine ⟨j, y, rfl, hjy, ?_⟩
     (conv => whnf)
     refine ⟨[y], rfl, ?_⟩
     (conv => whnf)
     refine ⟨_, _, rfl, rfl, (by simp only [List.length_append, List.length_cons, List.length_nil]; omega), ?_⟩
     repeat' ((conv => whnf); refine I6 ?_)
     refine ag (j + 1) [] [.same 2] ⟨hjt, trivial⟩ (by simp only []; omega) ?_
     rw [hs2]
     repeat' first | exact trivial | exact rfl | refine And.intro ?_ ?_
    ·rw [show addI o2 y = o2 from if_pos h6] at hs2
     repeat' ((conv => whnf); refine I6 ?_)
     refine ag (j + 1) [] [.same 0] ⟨hjt, trivial⟩ (by simp only []; omega) ?_
     rw [hs2]
     repeat' first | exact trivial | exact rfl | refine And.intro ?_ ?_
   ·obtain rfl : j = (b 3).length := by have h5 : ¬ (j : Int) < (b 3).length := h5; omega
    rw [List.take_length]
    repeat' ((conv => whnf); refine I6 ?_)
    refine ag (i + 1, (b 3).foldl addI out) [] [.same 0] ⟨hn, trivial⟩ (by have := hn.le; have := hn.len; simp only []; omega) ?_
    repeat' first | exact trivial | exact rfl | refine And.intro ?_ ?_
 ·have e := hx.stop (by have h4 : ¬ (i : Int) < out.length := h4; omega)
  rw [e]
  (conv => whnf)
  refine cl [] [] (in_spec out q0) ?_
  (conv => whnf)
  exact rtB rfl
theorem any4 {p : Nat → Bool} {k : Nat} (h1 : k < 4) (h2 : p k = true) : (List.range 4).any p = true := by
 rw [List.any_eq_true]; exact ⟨k, by simpa using h1, h2⟩
theorem hasR_spec (L : List Ob) (o b : Nat → List Int) (hb4 : BorOk b) (r id : Int) : Does Tryz.prog 24 [.c (.bp [.bp [.bs 6 Ob encOb L], .bs 1 Int encI (o 0), .bs 1 Int encI (o 1), .bs 1 Int encI (o 2), .bs 1 Int encI (o 3), .bs 1 Int encI (b 0), .bs 1 Int encI (b 1), .bs 1 Int encI (b 2), .bs 1 Int encI (b 3)]), .c (.int .i64 r), .c (.int .i64 id)] [] (Rt (.c (.bool (hasR o b r id))) []) := by
 have p1 := isRepo_spec r
 refine X_spec (n := 29) (n0 := 0) tabOk Tryz.call24 Tryz.func24 ?_
 intro hb
 cases hr : isR r with
 | false =>
  rw [hr] at p1
  (conv => whnf)
  refine cl [] [] (p1) ?_
  (conv => whnf)
  exact rtB (by unfold hasR; rw [hr]; rfl)
 | true =>
  rw [hr] at p1
  (conv => whnf)
  refine cl [] [] (p1) ?_
  (conv => whnf)
  refine lp Nat (fun q => ⟨[(0, .c (.bp [.bp [.bs 6 Ob encOb L], .bs 1 Int encI (o 0), .bs 1 Int encI (o 1), .bs 1 Int encI (o 2), .bs 1 Int encI (o 3), .bs 1 Int encI (b 0), .bs 1 Int encI (b 1), .bs 1 Int encI (b 2), .bs 1 Int encI (b 3)])), (1, .c (.int .i64 r)), (2, .c (.int .i64 id)), (7, .c (.int .i64 q))], []⟩) (fun q => q ≤ 4 ∧ ∀ j, j < q → (decide ((j : Int) ∈ lendP b r) && decide (id ∈ o j)) = false) (fun q => 4 - q) 0 [] [] ?_ ?_ (fun q hq => ?_)
  ·exact ⟨Nat.zero_le _, fun j h => absurd h (Nat.not_lt_zero _)⟩
  ·repeat' first | exact trivial | exact rfl | refine And.intro ?_ ?_
  obtain ⟨hq4, hno⟩ := hq
  (conv => whnf)
  refine dec (fun h4 => ?_) (fun h4 => ?_)
  ·have hlt : q < 4 := by have h4 : (q : Int) < 4 := h4; omega
   (conv => whnf)
   refine cl [] [] (lends_spec L o b hb4 q r hr) ?_
   (conv => whnf)
   refine dec (fun h5 => ?_) (fun h5 => ?_)
   ·rcases four hlt with rfl | rfl | rfl | rfl
    ·(conv => whnf)
     refine ⟨0, ⟨rfl, by decide⟩, ?_⟩
     (conv => whnf)
     refine cl [] [] (in_spec (o 0) id) ?_
     (conv => whnf)
     refine dec (fun h6 => ?_) (fun h6 => ?_)
     ·(conv => whnf)
      exact rtB (by unfold hasR; rw [hr, any4 (k := 0) (by decide) (by rw [decide_eq_true h5, decide_eq_true h6]; rfl)]; rfl)
     ·repeat' ((conv => whnf); refine I6 ?_)
      refine ag (0 + 1) [] [] ⟨by decide, fun j hj => ?_⟩ (by simp only []; omega) ?_
      ·rcases Nat.lt_succ_iff_lt_or_eq.1 hj with hj | rfl
       ·exact hno j hj
       ·rw [decide_eq_false h6, Bool.and_false]
      ·repeat' first | exact trivial | exact rfl | refine And.intro ?_ ?_
    ·(conv => whnf)
     refine ⟨1, ⟨rfl, by decide⟩, ?_⟩
     (conv => whnf)
     refine cl [] [] (in_spec (o 1) id) ?_
     (conv => whnf)
     refine dec (fun h6 => ?_) (fun h6 => ?_)
     ·(conv => whnf)
      exact rtB (by unfold hasR; rw [hr, any4 (k := 1) (by decide) (by rw [decide_eq_true h5, decide_eq_true h6]; rfl)]; rfl)
     ·repeat' ((conv => whnf); refine I6 ?_)
      refine ag (1 + 1) [] [] ⟨by decide, fun j hj => ?_⟩ (by simp only []; omega) ?_
      ·rcases Nat.lt_succ_iff_lt_or_eq.1 hj with hj | rfl
       ·exact hno j hj
       ·rw [decide_eq_false h6, Bool.and_false]
      ·repeat' first | exact trivial | exact rfl | refine And.intro ?_ ?_
    ·(conv => whnf)
     refine ⟨2, ⟨rfl, by decide⟩, ?_⟩
     (conv => whnf)
     refine cl [] [] (in_spec (o 2) id) ?_
     (conv => whnf)
     refine dec (fun h6 => ?_) (fun h6 => ?_)
     ·(conv => whnf)
      exact rtB (by unfold hasR; rw [hr, any4 (k := 2) (by decide) (by rw [decide_eq_true h5, decide_eq_true h6]; rfl)]; rfl)
     ·repeat' ((conv => whnf); refine I6 ?_)
      refine ag (2 + 1) [] [] ⟨by decide, fun j hj => ?_⟩ (by simp only []; omega) ?_
      ·rcases Nat.lt_succ_iff_lt_or_eq.1 hj with hj | rfl
       ·exact hno j hj
       ·rw [decide_eq_false h6, Bool.and_false]
      ·repeat' first | exact trivial | exact rfl | refine And.intro ?_ ?_
    ·(conv => whnf)
     refine ⟨3, ⟨rfl, by decide⟩, ?_⟩
     (conv => whnf)
     refine cl [] [] (in_spec (o 3) id) ?_
     (conv => whnf)
     refine dec (fun h6 => ?_) (fun h6 => ?_)
     ·(conv => whnf)
      exact rtB (by unfold hasR; rw [hr, any4 (k := 3) (by decide) (by rw [decide_eq_true h5, decide_eq_true h6]; rfl)]; rfl)
     ·repeat' ((conv => whnf); refine I6 ?_)
      refine ag (3 + 1) [] [] ⟨by decide, fun j hj => ?_⟩ (by simp only []; omega) ?_
      ·rcases Nat.lt_succ_iff_lt_or_eq.1 hj with hj | rfl
       ·exact hno j hj
       ·rw [decide_eq_false h6, Bool.and_false]
      ·repeat' first | exact trivial | exact rfl | refine And.intro ?_ ?_
   ·repeat' ((conv => whnf); refine I6 ?_)
    refine ag (q + 1) [] [] ⟨hlt, fun j hj => ?_⟩ (by simp only []; omega) ?_
    ·rcases Nat.lt_succ_iff_lt_or_eq.1 hj with hj | rfl
     ·exact hno j hj
     ·rw [decide_eq_false h5, Bool.false_and]
    ·repeat' first | exact trivial | exact rfl | refine And.intro ?_ ?_
  ·have h4 : ¬ (q : Int) < 4 := h4
   obtain rfl : q = 4 := by omega
   have e : hasR o b r id = false := by
    unfold hasR
    rw [hr, Bool.true_and, List.any_eq_false]
    intro j hj
    rw [hno j (by simpa using hj)]; simp
   (conv => whnf)
   exact rtB e.symm
theorem hasAll_spec (L : List Ob) (o b : Nat → List Int) (hb4 : BorOk b) (r : Int) (ids : List Int) (hl : ids.length ≤ 1000000) : Does Tryz.prog 102 [.c (.bp [.bp [.bs 6 Ob encOb L], .bs 1 Int encI (o 0), .bs 1 Int encI (o 1), .bs 1 Int encI (o 2), .bs 1 Int encI (o 3), .bs 1 Int encI (b 0), .bs 1 Int encI (b 1), .bs 1 Int encI (b 2), .bs 1 Int encI (b 3)]), .c (.int .i64 r), .c (.bs 1 Int encI ids)] [] (Rt (.c (.bool (hasAllR o b r ids))) []) := by
 refine X_spec (n := 22) (n0 := 0) tabOk Tryz.call102 Tryz.func102 ?_
 intro hb
 (conv => whnf)
 refine lp Nat (fun i => ⟨[(0, .c (.bp [.bp [.bs 6 Ob encOb L], .bs 1 Int encI (o 0), .bs 1 Int encI (o 1), .bs 1 Int encI (o 2), .bs 1 Int encI (o 3), .bs 1 Int encI (b 0), .bs 1 Int encI (b 1), .bs 1 Int encI (b 2), .bs 1 Int encI (b 3)])), (1, .c (.int .i64 r)), (2, .c (.bs 1 Int encI ids)), (7, .c (.int .i64 i))], []⟩) (fun i => i ≤ ids.length ∧ (ids.take i).all (fun id => hasR o b r id) = true) (fun i => ids.length - i) 0 [] [] ?_ ?_ (fun i hi => ?_)
 ·simp
 ·repeat' first | exact trivial | exact rfl | refine And.intro ?_ ?_
 obtain ⟨hi, hall⟩ := hi
 (conv => whnf)
 refine dec (fun h4 => ?_) (fun h4 => ?_)
 ·have hlt : i < ids.length := by have h4 : (i : Int) < ids.length := h4; omega
  have hiy : ids[i]? = some ids[i] := List.getElem?_eq_getElem hlt
  have ht := fun h => all_take (p := fun id => hasR o b r id) hlt hall h
  have hn := fun h => all_not (p := fun id => hasR o b r id) hlt h
  generalize ids[i] = x at hiy ht hn
  (conv => whnf)
  refine ⟨i, x, rfl, hiy, ?_⟩
  (conv => whnf)
  refine cl [] [] (hasR_spec L o b hb4 r x) ?_
  (conv => whnf)
  refine boo (fun h5 => ?_) (fun h5 => ?_)
  ·have h5 : hasR o b r x = false := by simpa using h5
   (conv => whnf)
   exact rtB (by unfold hasAllR; rw [hn (by rw [h5]; decide)])
  ·have h5 : hasR o b r x = true := by simpa using h5
   repeat' ((conv => whnf); refine I6 ?_)
   refine ag (i + 1) [] [] ⟨hlt, ht h5⟩ (by simp only []; omega) ?_
   repeat' first | exact trivial | exact rfl | refine And.intro ?_ ?_
 ·have h4 : ¬ (i : Int) < ids.length := h4
  rw [List.take_of_length_le (by omega)] at hall
  (conv => whnf)
  exact rtB (by unfold hasAllR; rw [hall])
end Go.Nest
end
/- part -/
section

namespace Go.Nest
open Go Go.AM
structure NS where
 out : Nat → List Int
 todo : List (Int × Int)
def addN (L : List Ob) (s : NS) (r : Nat) (id : Int) : NS := if kindOf L id = 0 ∨ id ∈ s.out r then s else ⟨upd s.out r (s.out r ++ [id]), s.todo ++ [((r : Int), id)]⟩
def muS (L : List Ob) (s : NS) : Nat := s.todo.length + 2 * sum4 fun r => L.length - (s.out r).length
def CloN (L : List Ob) (out : Nat → List Int) (r : Nat) (k : Int) : Prop := (∀ m ∈ nextP L k, m ∈ out r) ∧ ∀ e ∈ (getP L k).entries, e.mode = 3 → e.id ∈ out e.repo.toNat
structure NI (L : List Ob) (r0 : Nat → List Int) (ex : Option (Nat × Int)) (s : NS) : Prop where
 nd : ∀ r, r < 4 → ∀ k ∈ s.out r, Nd L r0 r k
 nodup : ∀ r, r < 4 → (s.out r).Nodup
 todo : ∀ p ∈ s.todo, ∃ r : Nat, r < 4 ∧ p.1 = (r : Int) ∧ p.2 ∈ s.out r
 done : ∀ r, r < 4 → ∀ k ∈ s.out r, ((r : Int), k) ∈ s.todo ∨ CloN L s.out r k ∨ ex = some (r, k)
 le : muS L s ≤ 8 * L.length
theorem Nd.kind {L : List Ob} (hL : PoolOk L) {r0 : Nat → List Int} {r : Nat} {k : Int} (h : Nd L r0 r k) : ¬ kindOf L k = 0 := by
 cases h with
 | root hr h hl => exact hl.kind hL
 | link h he hm hl => exact hl.kind hL
theorem Nd.next {L : List Ob} {r0 : Nat → List Int} {r : Nat} {k m : Int} (h : Nd L r0 r k) (hm : m ∈ nextP L k) : Nd L r0 r m := by
 cases h with
 | root hr h hl => exact .root hr h (hl.step hm)
 | link h he h3 hl => exact .link h he h3 (hl.step hm)
theorem Nd.ent {L : List Ob} (hL : PoolOk L) {r0 : Nat → List Int} {r : Nat} {k : Int} {e : Ent} (h : Nd L r0 r k) (he : e ∈ (getP L k).entries) (h3 : e.mode = 3) : Nd L r0 e.repo.toNat e.id := by
 have := ent_repo hL he
 exact .link h he h3 (.base (by simp) (by omega))
theorem NI.olen {L : List Ob} (hL : PoolOk L) {r0 : Nat → List Int} {ex : Option (Nat × Int)} {s : NS} (h : NI L r0 ex s) {r : Nat} (hr : r < 4) : (s.out r).length ≤ L.length :=
 nodup_len L.length (h.nodup r hr) fun x hx => by have := (h.nd r hr x hx).pos hL; omega
theorem NI.tlen {L : List Ob} {r0 : Nat → List Int} {ex : Option (Nat × Int)} {s : NS} (h : NI L r0 ex s) : s.todo.length ≤ 8 * L.length := by
 have := h.le
 unfold muS at this; omega
def Sub4 (a c : Nat → List Int) : Prop := ∀ r x, x ∈ a r → x ∈ c r
theorem CloN.sub {L : List Ob} {a c : Nat → List Int} (hs : Sub4 a c) {r : Nat} {k : Int} (h : CloN L a r k) : CloN L c r k := ⟨fun m hm => hs _ _ (h.1 m hm), fun e he h3 => hs _ _ (h.2 e he h3)⟩
theorem addN_sub {L : List Ob} {s : NS} {r : Nat} {id : Int} : Sub4 s.out (addN L s r id).out := fun q x hx => by
 unfold addN
 split
 ·exact hx
 ·show x ∈ upd s.out r (s.out r ++ [id]) q
  by_cases e : q = r
  ·subst e; rw [upd_at]; exact List.mem_append.2 (.inl hx)
  ·rw [upd_ne e]; exact hx
theorem addN_in {L : List Ob} {s : NS} {r : Nat} {id : Int} (hk : ¬ kindOf L id = 0) : id ∈ (addN L s r id).out r := by
 unfold addN
 split
 ·rename_i h; exact h.resolve_left hk
 ·show id ∈ upd s.out r (s.out r ++ [id]) r
  rw [upd_at]; simp
theorem NI.add {L : List Ob} (hL : PoolOk L) {r0 : Nat → List Int} {ex : Option (Nat × Int)} {s : NS} (h : NI L r0 ex s) {r : Nat} (hr : r < 4) {id : Int} (hn : ¬ kindOf L id = 0 → Nd L r0 r id) : NI L r0 ex (addN L s r id) ∧ muS L (addN L s r id) ≤ muS L s := by
 have hsub := addN_sub (L := L) (s := s) (r := r) (id := id)
 unfold addN at hsub ⊢
 split
 ·exact ⟨h, Nat.le_refl _⟩
 ·rename_i hc
  rw [if_neg hc] at hsub
  have hk : ¬ kindOf L id = 0 := fun e => hc (.inl e)
  have hno : id ∉ s.out r := fun e => hc (.inr e)
  have hnd : ∀ q, q < 4 → ∀ k ∈ upd s.out r (s.out r ++ [id]) q, Nd L r0 q k := fun q hq k hk' => by
   by_cases e : q = r
   ·subst e
    rw [upd_at] at hk'
    rcases List.mem_append.1 hk' with h1 | h1
    ·exact h.nd q hq k h1
    ·rw [List.mem_singleton] at h1; subst h1; exact hn hk
   ·rw [upd_ne e] at hk'; exact h.nd q hq k hk'
  have hnod : ∀ q, q < 4 → (upd s.out r (s.out r ++ [id]) q).Nodup := fun q hq => by
   by_cases e : q = r
   ·subst e
    rw [upd_at, List.nodup_append]
    exact ⟨h.nodup q hq, by simp, fun a ha c hc => by rw [List.mem_singleton] at hc; subst hc; exact fun e => hno (e ▸ ha)⟩
   ·rw [upd_ne e]; exact h.nodup q hq
  have hl : (upd s.out r (s.out r ++ [id]) r).length ≤ L.length := nodup_len L.length (hnod r hr) fun x hx => by have := (hnd r hr x hx).pos hL; omega
  rw [upd_at, List.length_append, List.length_singleton] at hl
  have hmu : muS L ⟨upd s.out r (s.out r ++ [id]), s.todo ++ [((r : Int), id)]⟩ ≤ muS L s := by
   have e := sum4_upd (f := fun l : List Int => L.length - l.length) (o := s.out) hr (v := s.out r ++ [id])
   unfold muS
   simp only [List.length_append, List.length_singleton] at e ⊢
   omega
  refine ⟨⟨hnd, hnod, fun p hp => ?_, fun q hq k hk' => ?_, Nat.le_trans hmu h.le⟩, hmu⟩
  ·rcases List.mem_append.1 hp with hp | hp
   ·obtain ⟨q, h1, h2, h3⟩ := h.todo p hp
    exact ⟨q, h1, h2, hsub _ _ h3⟩
   ·rw [List.mem_singleton] at hp; subst hp
    refine ⟨r, hr, rfl, ?_⟩
    show id ∈ upd s.out r (s.out r ++ [id]) r
    rw [upd_at]; simp
  ·have old : k ∈ s.out q → ((q : Int), k) ∈ s.todo ++ [((r : Int), id)] ∨ CloN L (upd s.out r (s.out r ++ [id])) q k ∨ ex = some (q, k) := fun h1 => by
    rcases h.done q hq k h1 with h2 | h2 | h2
    ·exact .inl (List.mem_append.2 (.inl h2))
    ·exact .inr (.inl (h2.sub hsub))
    ·exact .inr (.inr h2)
   have hk' : k ∈ upd s.out r (s.out r ++ [id]) q := hk'
   by_cases e : q = r
   ·subst e
    rw [upd_at] at hk'
    rcases List.mem_append.1 hk' with h1 | h1
    ·exact old h1
    ·rw [List.mem_singleton] at h1; subst h1
     exact .inl (by simp)
   ·rw [upd_ne e] at hk'; exact old hk'
theorem NI.start {L : List Ob} {r0 : Nat → List Int} : NI L r0 none ⟨fun _ => [], []⟩ := by
 refine ⟨fun r hr k h => (by cases h), fun r hr => List.nodup_nil, fun p h => (by cases h), fun r hr k h => (by cases h), ?_⟩
 show 0 + 2 * (L.length - 0 + (L.length - 0 + (L.length - 0 + (L.length - 0)))) ≤ 8 * L.length
 omega
theorem NI.pop {L : List Ob} {r0 : Nat → List Int} {out : Nat → List Int} {r : Nat} {k : Int} {t : List (Int × Int)} (h : NI L r0 none ⟨out, ((r : Int), k) :: t⟩) : NI L r0 (some (r, k)) ⟨out, t⟩ ∧ muS L ⟨out, t⟩ < muS L ⟨out, ((r : Int), k) :: t⟩ := by
 have hmu : muS L ⟨out, t⟩ < muS L ⟨out, ((r : Int), k) :: t⟩ := by
  unfold muS
  simp only [List.length_cons]; omega
 refine ⟨⟨h.nd, h.nodup, fun p hp => h.todo p (List.mem_cons_of_mem _ hp), fun q hq x hx => ?_, Nat.le_trans (Nat.le_of_lt hmu) h.le⟩, hmu⟩
 rcases h.done q hq x hx with h1 | h1 | h1
 ·rcases List.mem_cons.1 h1 with h1 | h1
  ·have e1 := congrArg (·.1) h1
   have e2 := congrArg (·.2) h1
   have e1 : q = r := by have e1 : (q : Int) = r := e1; omega
   exact .inr (.inr (by rw [e1, show x = k from e2]))
  ·exact .inl h1
 ·exact .inr (.inl h1)
 ·cases h1
theorem NI.close {L : List Ob} {r0 : Nat → List Int} {r : Nat} {k : Int} {s : NS} (h : NI L r0 (some (r, k)) s) (hc : CloN L s.out r k) : NI L r0 none s := by
 refine ⟨h.nd, h.nodup, h.todo, fun q hq x hx => ?_, h.le⟩
 rcases h.done q hq x hx with h1 | h1 | h1
 ·exact .inl h1
 ·exact .inr (.inl h1)
 ·cases h1; exact .inr (.inl hc)
theorem NI.fin {L : List Ob} (hL : PoolOk L) {r0 : Nat → List Int} {s : NS} (h : NI L r0 none s) (ht : s.todo = []) (hr0 : ∀ r, r < 4 → ∀ x ∈ r0 r, ¬ kindOf L x = 0 → x ∈ s.out r) {r : Nat} (hr : r < 4) : sortI (s.out r) = needP L r0 r := by
 have clo : ∀ q, q < 4 → ∀ x ∈ s.out q, CloN L s.out q x := fun q hq x hx => by
  rcases h.done q hq x hx with h1 | h1 | h1
  ·rw [ht] at h1; cases h1
  ·exact h1
  ·cases h1
 have led : ∀ q, q < 4 → ∀ x k, (¬ kindOf L x = 0 → x ∈ s.out q) → Led L [x] k → k ∈ s.out q := fun q hq x k hx hl => by
  induction hl with
  | base h1 h2 => rw [List.mem_singleton] at h1; subst h1; exact hx h2
  | step h1 h2 ih => exact (clo q hq _ ih).1 _ h2
 have key : ∀ r k, Nd L r0 r k → k ∈ s.out r := fun r k hn => by
  induction hn with
  | root hr h1 hl => exact led _ hr _ _ (hr0 _ hr _ h1) hl
  | @link r k m e h1 he hm hl ih =>
   have hq := ent_repo hL he
   exact led _ (by omega) _ _ (fun _ => (clo r (h1.lt hL) _ ih).2 e he hm) hl
 refine rise_uniq sortI_rise need_rise fun k => ?_
 rw [sortI_mem, mem_need hL]
 exact ⟨h.nd r hr k, key r k⟩
end Go.Nest
end
/- part -/
section

namespace Go.Nest
open Go Go.AM Go.Proofs
open Go.Proofs.YtpmjnbidmcnhnaaGreatDoor (tab tabOk)
set_option maxRecDepth 4000
set_option maxHeartbeats 4000000 in
theorem need1_spec (L : List Ob) (hL : PoolOk L) (o b : Nat → List Int) (s : NS) (ho : ∀ k, k < 4 → (s.out k).length ≤ 1000000) (ht : s.todo.length ≤ 1000000) (r : Nat) (hr : r < 4) (id : Int) : Does Tryz.prog 103 [.c (.int .i64 r), .c (.int .i64 id), .c (.bp [.bp [.bp [.bs 6 Ob encOb L], .bs 1 Int encI (o 0), .bs 1 Int encI (o 1), .bs 1 Int encI (o 2), .bs 1 Int encI (o 3), .bs 1 Int encI (b 0), .bs 1 Int encI (b 1), .bs 1 Int encI (b 2), .bs 1 Int encI (b 3)]]), .c (.ptr 0 0), .c (.ptr 1 0)] [.box [.rw 2, .rw 3, .rw 4, .rw 5], .box [.rw 6], .row 1 Int encI (s.out 0), .row 1 Int encI (s.out 1), .row 1 Int encI (s.out 2), .row 1 Int encI (s.out 3), .row 2 (Int × Int) encPr s.todo] (Rt (.tup []) [.box [.rw 7, .rw 8, .rw 9, .rw 10], .box [.rw 11], .dead, .dead, .dead, .dead, .dead, .row 1 Int encI ((addN L s r id).out 0), .row 1 Int encI ((addN L s r id).out 1), .row 1 Int encI ((addN L s r id).out 2), .row 1 Int encI ((addN L s r id).out 3), .row 2 (Int × Int) encPr (addN L s r id).todo]) := by
 refine X_spec (n := 36) (n0 := 7) tabOk Tryz.call103 Tryz.func103 ?_
 intro hb
 (conv => whnf)
 refine cl [] [] (kindR_spec L id) ?_
 (conv => whnf)
 refine dec (fun h5 => ?_) (fun h5 => ?_)
 ·have h5 : (0 : Int) < kindOf L id := h5
  have hk : ¬ kindOf L id = 0 := by omega
  rcases four hr with rfl | rfl | rfl | rfl
  ·have ho := ho 0 (by decide)
   (conv => whnf)
   refine ⟨0, ⟨rfl, by decide⟩, ?_⟩
   (conv => whnf)
   refine cl [] [] (in_spec (s.out 0) id) ?_
   (conv => whnf)
   refine decN (fun h6 => ?_) (fun h6 => ?_)
   ·have h6 : ¬ id ∈ s.out 0 := h6
    rw [show addN L s 0 id = ⟨upd s.out 0 (s.out 0 ++ [id]), s.todo ++ [(((0 : Nat) : Int), id)]⟩ from if_neg (fun h => h.elim (fun h => absurd h hk) h6)]
    (conv => whnf)
    refine ⟨0, ⟨rfl, by decide⟩, ?_⟩
    (conv => whnf)
    refine ⟨[id], rfl, ?_⟩
    (conv => whnf)
    refine ⟨_, _, rfl, rfl, (by simp only [List.length_append, List.length_cons, List.length_nil]; omega), ?_⟩
    (conv => whnf)
    refine ⟨0, ⟨rfl, by decide⟩, ?_⟩
    (conv => whnf)
    refine ⟨[(((0 : Nat) : Int), id)], rfl, ?_⟩
    (conv => whnf)
    refine ⟨_, _, rfl, rfl, (by simp only [List.length_append, List.length_cons, List.length_nil]; omega), ?_⟩
    (conv => whnf)
    exact rx [] [.same 0, .same 1, .same 2, .same 3, .same 4, .same 5, .same 6, .same 8, .same 3, .same 4, .same 5, .same 10]
   ·have h6 : id ∈ s.out 0 := h6
    rw [show addN L s 0 id = s from if_pos (.inr h6)]
    (conv => whnf)
    exact rx [] [.same 0, .same 1, .same 2, .same 3, .same 4, .same 5, .same 6, .same 2, .same 3, .same 4, .same 5, .same 6]
  ·have ho := ho 1 (by decide)
   (conv => whnf)
   refine ⟨1, ⟨rfl, by decide⟩, ?_⟩
   (conv => whnf)
   refine cl [] [] (in_spec (s.out 1) id) ?_
   (conv => whnf)
   refine decN (fun h6 => ?_) (fun h6 => ?_)
   ·have h6 : ¬ id ∈ s.out 1 := h6
    rw [show addN L s 1 id = ⟨upd s.out 1 (s.out 1 ++ [id]), s.todo ++ [(((1 : Nat) : Int), id)]⟩ from if_neg (fun h => h.elim (fun h => absurd h hk) h6)]
    (conv => whnf)
    refine ⟨1, ⟨rfl, by decide⟩, ?_⟩
    (conv => whnf)
    refine ⟨[id], rfl, ?_⟩
    (conv => whnf)
    refine ⟨_, _, rfl, rfl, (by simp only [List.length_append, List.length_cons, List.length_nil]; omega), ?_⟩
    (conv => whnf)
    refine ⟨1, ⟨rfl, by decide⟩, ?_⟩
    (conv => whnf)
    refine ⟨[(((1 : Nat) : Int), id)], rfl, ?_⟩
    (conv => whnf)
    refine ⟨_, _, rfl, rfl, (by simp only [List.length_append, List.length_cons, List.length_nil]; omega), ?_⟩
    (conv => whnf)
    exact rx [] [.same 0, .same 1, .same 2, .same 3, .same 4, .same 5, .same 6, .same 2, .same 8, .same 4, .same 5, .same 10]
   ·have h6 : id ∈ s.out 1 := h6
    rw [show addN L s 1 id = s from if_pos (.inr h6)]
    (conv => whnf)
    exact rx [] [.same 0, .same 1, .same 2, .same 3, .same 4, .same 5, .same 6, .same 2, .same 3, .same 4, .same 5, .same 6]
  ·have ho := ho 2 (by decide)
   (conv => whnf)
   refine ⟨2, ⟨rfl, by decide⟩, ?_⟩
   (conv => whnf)
   refine cl [] [] (in_spec (s.out 2) id) ?_
   (conv => whnf)
   refine decN (fun h6 => ?_) (fun h6 => ?_)
   ·have h6 : ¬ id ∈ s.out 2 := h6
    rw [show addN L s 2 id = ⟨upd s.out 2 (s.out 2 ++ [id]), s.todo ++ [(((2 : Nat) : Int), id)]⟩ from if_neg (fun h => h.elim (fun h => absurd h hk) h6)]
    (conv => whnf)
    refine ⟨2, ⟨rfl, by decide⟩, ?_⟩
    (conv => whnf)
    refine ⟨[id], rfl, ?_⟩
    (conv => whnf)
    refine ⟨_, _, rfl, rfl, (by simp only [List.length_append, List.length_cons, List.length_nil]; omega), ?_⟩
    (conv => whnf)
    refine ⟨2, ⟨rfl, by decide⟩, ?_⟩
    (conv => whnf)
    refine ⟨[(((2 : Nat) : Int), id)], rfl, ?_⟩
    (conv => whnf)
    refine ⟨_, _, rfl, rfl, (by simp only [List.length_append, List.length_cons, List.length_nil]; omega), ?_⟩
    (conv => whnf)
    exact rx [] [.same 0, .same 1, .same 2, .same 3, .same 4, .same 5, .same 6, .same 2, .same 3, .same 8, .same 5, .same 10]
   ·have h6 : id ∈ s.out 2 := h6
    rw [show addN L s 2 id = s from if_pos (.inr h6)]
    (conv => whnf)
    exact rx [] [.same 0, .same 1, .same 2, .same 3, .same 4, .same 5, .same 6, .same 2, .same 3, .same 4, .same 5, .same 6]
  ·have ho := ho 3 (by decide)
   (conv => whnf)
   refine ⟨3, ⟨rfl, by decide⟩, ?_⟩
   (conv => whnf)
   refine cl [] [] (in_spec (s.out 3) id) ?_
   (conv => whnf)
   refine decN (fun h6 => ?_) (fun h6 => ?_)
   ·have h6 : ¬ id ∈ s.out 3 := h6
    rw [show addN L s 3 id = ⟨upd s.out 3 (s.out 3 ++ [id]), s.todo ++ [(((3 : Nat) : Int), id)]⟩ from if_neg (fun h => h.elim (fun h => absurd h hk) h6)]
    (conv => whnf)
    refine ⟨3, ⟨rfl, by decide⟩, ?_⟩
    (conv => whnf)
    refine ⟨[id], rfl, ?_⟩
    (conv => whnf)
    refine ⟨_, _, rfl, rfl, (by simp only [List.length_append, List.length_cons, List.length_nil]; omega), ?_⟩
    (conv => whnf)
    refine ⟨3, ⟨rfl, by decide⟩, ?_⟩
    (conv => whnf)
    refine ⟨[(((3 : Nat) : Int), id)], rfl, ?_⟩
    (conv => whnf)
    refine ⟨_, _, rfl, rfl, (by simp only [List.length_append, List.length_cons, List.length_nil]; omega), ?_⟩
    (conv => whnf)
    exact rx [] [.same 0, .same 1, .same 2, .same 3, .same 4, .same 5, .same 6, .same 2, .same 3, .same 4, .same 8, .same 10]
   ·have h6 : id ∈ s.out 3 := h6
    rw [show addN L s 3 id = s from if_pos (.inr h6)]
    (conv => whnf)
    exact rx [] [.same 0, .same 1, .same 2, .same 3, .same 4, .same 5, .same 6, .same 2, .same 3, .same 4, .same 5, .same 6]
 ·have h5 : ¬ (0 : Int) < kindOf L id := h5
  have hk : kindOf L id = 0 := by
   by_cases h0 : kindOf L id = 0
   ·exact h0
   ·have := (hL.get h0).k1; rw [getP_kind] at this; omega
  rw [show addN L s r id = s from if_pos (.inl hk)]
  (conv => whnf)
  exact rx [] [.same 0, .same 1, .same 2, .same 3, .same 4, .same 5, .same 6, .same 2, .same 3, .same 4, .same 5, .same 6]
end Go.Nest
end
/- part -/
section

namespace Go.Nest
open Go Go.AM Go.Proofs
open Go.Proofs.YtpmjnbidmcnhnaaGreatDoor (tab tabOk)
set_option maxRecDepth 4000
set_option maxHeartbeats 20000000 in
theorem need_rspec (L : List Ob) (hL : PoolOk L) (o b r0 : Nat → List Int) (hr0 : ∀ r, r < 4 → (r0 r).length ≤ 100000) : Does Tryz.prog 57 [.c (.bp [.bp [.bs 6 Ob encOb L], .bs 1 Int encI (o 0), .bs 1 Int encI (o 1), .bs 1 Int encI (o 2), .bs 1 Int encI (o 3), .bs 1 Int encI (b 0), .bs 1 Int encI (b 1), .bs 1 Int encI (b 2), .bs 1 Int encI (b 3)]), .st [.bs 1 Int encI (r0 0), .bs 1 Int encI (r0 1), .bs 1 Int encI (r0 2), .bs 1 Int encI (r0 3)]] [] (Rt (.st [.ls 1 Int encI (needP L r0 0), .ls 1 Int encI (needP L r0 1), .ls 1 Int encI (needP L r0 2), .ls 1 Int encI (needP L r0 3)]) []) := by
 have hlen := hL.len
 refine X_spec (n := 117) (n0 := 0) tabOk Tryz.call57 Tryz.func57 ?_
 intro hb
 (conv => whnf)
 refine lp (Nat × NS) (fun p => ⟨[(2, .c (.ptr 0 0)), (3, .c (.ptr 1 0)), (4, .c (.ptr 2 0)), (5, .c (.ptr 3 0)), (6, .c (.ptr 4 0)), (7, .c (.fn 103 [.ptr 0 0, .ptr 3 0, .ptr 4 0])), (8, .c (.int .i64 p.1))], [.box [.bp [.bp [.bs 6 Ob encOb L], .bs 1 Int encI (o 0), .bs 1 Int encI (o 1), .bs 1 Int encI (o 2), .bs 1 Int encI (o 3), .bs 1 Int encI (b 0), .bs 1 Int encI (b 1), .bs 1 Int encI (b 2), .bs 1 Int encI (b 3)]], .box [.bs 1 Int encI (r0 0), .bs 1 Int encI (r0 1), .bs 1 Int encI (r0 2), .bs 1 Int encI (r0 3)], .box [.nil, .nil, .nil, .nil], .box [.rw 5, .rw 6, .rw 7, .rw 8], .box [.rw 9], .row 1 Int encI (p.2.out 0), .row 1 Int encI (p.2.out 1), .row 1 Int encI (p.2.out 2), .row 1 Int encI (p.2.out 3), .row 2 (Int × Int) encPr p.2.todo]⟩) (fun p => ((p.1 ≤ 4 ∧ NI L r0 none p.2) ∧ ∀ r, r < p.1 → ∀ x ∈ r0 r, ¬ kindOf L x = 0 → x ∈ p.2.out r) ∧ True) (fun p => 4 - p.1) (0, ⟨fun _ => [], []⟩) [] [.same 0, .same 1, .same 2, .same 3, .same 4, .new, .new, .new, .new, .new] ⟨⟨⟨Nat.zero_le _, NI.start⟩, fun r hr => absurd hr (Nat.not_lt_zero _)⟩, trivial⟩ ?_ (fun ⟨r, s⟩ hs => ?_)
 ·repeat' first | exact trivial | exact rfl | refine And.intro ?_ ?_
 obtain ⟨⟨⟨hr4, hs⟩, hrt⟩, -⟩ := hs
 have hs : NI L r0 none s := hs
 have hrt : ∀ q, q < r → ∀ x ∈ r0 q, ¬ kindOf L x = 0 → x ∈ s.out q := hrt
 (conv => whnf)
 refine dec (fun h4 => ?_) (fun h4 => ?_)
 ·have hr : r < 4 := by have h4 : (r : Int) < 4 := h4; omega
  rcases four hr with rfl | rfl | rfl | rfl
  ·have hrl := hr0 0 (by decide)
   (conv => whnf)
   refine lp (Nat × NS) (fun p => ⟨[(2, .c (.ptr 0 0)), (3, .c (.ptr 1 0)), (4, .c (.ptr 2 0)), (5, .c (.ptr 3 0)), (6, .c (.ptr 4 0)), (7, .c (.fn 103 [.ptr 0 0, .ptr 3 0, .ptr 4 0])), (8, .c (.int .i64 (0 : Nat))), (9, .c (.int .i64 p.1))], [.box [.bp [.bp [.bs 6 Ob encOb L], .bs 1 Int encI (o 0), .bs 1 Int encI (o 1), .bs 1 Int encI (o 2), .bs 1 Int encI (o 3), .bs 1 Int encI (b 0), .bs 1 Int encI (b 1), .bs 1 Int encI (b 2), .bs 1 Int encI (b 3)]], .box [.bs 1 Int encI (r0 0), .bs 1 Int encI (r0 1), .bs 1 Int encI (r0 2), .bs 1 Int encI (r0 3)], .box [.nil, .nil, .nil, .nil], .box [.rw 5, .rw 6, .rw 7, .rw 8], .box [.rw 9], .row 1 Int encI (p.2.out 0), .row 1 Int encI (p.2.out 1), .row 1 Int encI (p.2.out 2), .row 1 Int encI (p.2.out 3), .row 2 (Int × Int) encPr p.2.todo]⟩) (fun p => ((p.1 ≤ (r0 0).length ∧ NI L r0 none p.2) ∧ ((∀ r, r < 0 → ∀ x ∈ r0 r, ¬ kindOf L x = 0 → x ∈ p.2.out r) ∧ ∀ x ∈ (r0 0).take p.1, ¬ kindOf L x = 0 → x ∈ p.2.out 0)) ∧ True) (fun p => (r0 0).length - p.1) (0, s) [] [.same 0, .same 1, .same 2, .same 3, .same 4, .same 5, .same 6, .same 7, .same 8, .same 9] ⟨⟨⟨Nat.zero_le _, hs⟩, hrt, fun x hx => by simp at hx⟩, trivial⟩ ?_ (fun ⟨i, s⟩ hs => ?_)
   ·repeat' first | exact trivial | exact rfl | refine And.intro ?_ ?_
   obtain ⟨⟨⟨hi, hs⟩, hrt, hrx⟩, -⟩ := hs
   have hs : NI L r0 none s := hs
   have hrt : ∀ r, r < 0 → ∀ x ∈ r0 r, ¬ kindOf L x = 0 → x ∈ s.out r := hrt
   have hrx : ∀ x ∈ (r0 0).take i, ¬ kindOf L x = 0 → x ∈ s.out 0 := hrx
   (conv => whnf)
   refine ⟨0, ⟨rfl, by decide⟩, ?_⟩
   (conv => whnf)
   refine dec (fun h5 => ?_) (fun h5 => ?_)
   ·have hlt : i < (r0 0).length := by have h5 : (i : Int) < (r0 0).length := h5; omega
    have hiy : (r0 0)[i]? = some (r0 0)[i] := List.getElem?_eq_getElem hlt
    have htk := List.take_succ_eq_append_getElem hlt
    have hmem := List.getElem_mem hlt
    generalize (r0 0)[i] = x at hiy htk hmem
    obtain ⟨ha, hmu⟩ := hs.add hL (r := 0) (by decide) (id := x) (fun hk => .root (by decide) hmem (.base (by simp) hk))
    have hsub := addN_sub (L := L) (s := s) (r := 0) (id := x)
    have hin := addN_in (L := L) (s := s) (r := 0) (id := x)
    have p1 := need1_spec L hL o b s (fun k hk => by have := hs.olen hL hk; omega) (by have := hs.tlen; omega) 0 (by decide) x
    (conv => whnf)
    refine ⟨0, ⟨rfl, by decide⟩, ?_⟩
    (conv => whnf)
    refine ⟨i, x, rfl, hiy, ?_⟩
    (conv => whnf)
    refine cl [] [3, 4, 5, 6, 7, 8, 9] (p1) ?_
    repeat' ((conv => whnf); refine I6 ?_)
    refine ag (i + 1, addN L s 0 x) [] [.same 0, .same 1, .same 2, .same 3, .same 4, .same 10, .same 11, .same 12, .same 13, .same 14] ⟨⟨⟨hlt, ha⟩, fun r hr z hz hk => hsub _ _ (hrt r hr z hz hk), fun z hz hk => ?_⟩, trivial⟩ (by simp only []; omega) ?_
    ·have hz : z ∈ (r0 0).take (i + 1) := hz
     rw [htk] at hz
     rcases List.mem_append.1 hz with hz | hz
     ·exact hsub _ _ (hrx z hz hk)
     ·rw [List.mem_singleton] at hz; subst hz; exact hin hk
    repeat' first | exact trivial | exact rfl | refine And.intro ?_ ?_
   ·have h5 : ¬ (i : Int) < (r0 0).length := h5
    repeat' ((conv => whnf); refine I6 ?_)
    refine ag (0 + 1, s) [] [.same 0, .same 1, .same 2, .same 3, .same 4, .same 5, .same 6, .same 7, .same 8, .same 9] ⟨⟨⟨(by show 0 + 1 ≤ 4; decide), hs⟩, fun r hr z hz hk => ?_⟩, trivial⟩ (by simp only []; omega) ?_
    ·have hr : r < 0 + 1 := hr
     rcases Nat.lt_succ_iff_lt_or_eq.1 hr with hr | rfl
     ·exact hrt r hr z hz hk
     ·exact hrx z (by rw [List.take_of_length_le (by omega)]; exact hz) hk
    repeat' first | exact trivial | exact rfl | refine And.intro ?_ ?_
  ·have hrl := hr0 1 (by decide)
   (conv => whnf)
   refine lp (Nat × NS) (fun p => ⟨[(2, .c (.ptr 0 0)), (3, .c (.ptr 1 0)), (4, .c (.ptr 2 0)), (5, .c (.ptr 3 0)), (6, .c (.ptr 4 0)), (7, .c (.fn 103 [.ptr 0 0, .ptr 3 0, .ptr 4 0])), (8, .c (.int .i64 (1 : Nat))), (9, .c (.int .i64 p.1))], [.box [.bp [.bp [.bs 6 Ob encOb L], .bs 1 Int encI (o 0), .bs 1 Int encI (o 1), .bs 1 Int encI (o 2), .bs 1 Int encI (o 3), .bs 1 Int encI (b 0), .bs 1 Int encI (b 1), .bs 1 Int encI (b 2), .bs 1 Int encI (b 3)]], .box [.bs 1 Int encI (r0 0), .bs 1 Int encI (r0 1), .bs 1 Int encI (r0 2), .bs 1 Int encI (r0 3)], .box [.nil, .nil, .nil, .nil], .box [.rw 5, .rw 6, .rw 7, .rw 8], .box [.rw 9], .row 1 Int encI (p.2.out 0), .row 1 Int encI (p.2.out 1), .row 1 Int encI (p.2.out 2), .row 1 Int encI (p.2.out 3), .row 2 (Int × Int) encPr p.2.todo]⟩) (fun p => ((p.1 ≤ (r0 1).length ∧ NI L r0 none p.2) ∧ ((∀ r, r < 1 → ∀ x ∈ r0 r, ¬ kindOf L x = 0 → x ∈ p.2.out r) ∧ ∀ x ∈ (r0 1).take p.1, ¬ kindOf L x = 0 → x ∈ p.2.out 1)) ∧ True) (fun p => (r0 1).length - p.1) (0, s) [] [.same 0, .same 1, .same 2, .same 3, .same 4, .same 5, .same 6, .same 7, .same 8, .same 9] ⟨⟨⟨Nat.zero_le _, hs⟩, hrt, fun x hx => by simp at hx⟩, trivial⟩ ?_ (fun ⟨i, s⟩ hs => ?_)
   ·repeat' first | exact trivial | exact rfl | refine And.intro ?_ ?_
   obtain ⟨⟨⟨hi, hs⟩, hrt, hrx⟩, -⟩ := hs
   have hs : NI L r0 none s := hs
   have hrt : ∀ r, r < 1 → ∀ x ∈ r0 r, ¬ kindOf L x = 0 → x ∈ s.out r := hrt
   have hrx : ∀ x ∈ (r0 1).take i, ¬ kindOf L x = 0 → x ∈ s.out 1 := hrx
   (conv => whnf)
   refine ⟨1, ⟨rfl, by decide⟩, ?_⟩
   (conv => whnf)
   refine dec (fun h5 => ?_) (fun h5 => ?_)
   ·have hlt : i < (r0 1).length := by have h5 : (i : Int) < (r0 1).length := h5; omega
    have hiy : (r0 1)[i]? = some (r0 1)[i] := List.getElem?_eq_getElem hlt
    have htk := List.take_succ_eq_append_getElem hlt
    have hmem := List.getElem_mem hlt
    generalize (r0 1)[i] = x at hiy htk hmem
    obtain ⟨ha, hmu⟩ := hs.add hL (r := 1) (by decide) (id := x) (fun hk => .root (by decide) hmem (.base (by simp) hk))
    have hsub := addN_sub (L := L) (s := s) (r := 1) (id := x)
    have hin := addN_in (L := L) (s := s) (r := 1) (id := x)
    have p1 := need1_spec L hL o b s (fun k hk => by have := hs.olen hL hk; omega) (by have := hs.tlen; omega) 1 (by decide) x
    (conv => whnf)
    refine ⟨1, ⟨rfl, by decide⟩, ?_⟩
    (conv => whnf)
    refine ⟨i, x, rfl, hiy, ?_⟩
    (conv => whnf)
    refine cl [] [3, 4, 5, 6, 7, 8, 9] (p1) ?_
    repeat' ((conv => whnf); refine I6 ?_)
    refine ag (i + 1, addN L s 1 x) [] [.same 0, .same 1, .same 2, .same 3, .same 4, .same 10, .same 11, .same 12, .same 13, .same 14] ⟨⟨⟨hlt, ha⟩, fun r hr z hz hk => hsub _ _ (hrt r hr z hz hk), fun z hz hk => ?_⟩, trivial⟩ (by simp only []; omega) ?_
    ·have hz : z ∈ (r0 1).take (i + 1) := hz
     rw [htk] at hz
     rcases List.mem_append.1 hz with hz | hz
     ·exact hsub _ _ (hrx z hz hk)
     ·rw [List.mem_singleton] at hz; subst hz; exact hin hk
    repeat' first | exact trivial | exact rfl | refine And.intro ?_ ?_
   ·have h5 : ¬ (i : Int) < (r0 1).length := h5
    repeat' ((conv => whnf); refine I6 ?_)
    refine ag (1 + 1, s) [] [.same 0, .same 1, .same 2, .same 3, .same 4, .same 5, .same 6, .same 7, .same 8, .same 9] ⟨⟨⟨(by show 1 + 1 ≤ 4; decide), hs⟩, fun r hr z hz hk => ?_⟩, trivial⟩ (by simp only []; omega) ?_
    ·have hr : r < 1 + 1 := hr
     rcases Nat.lt_succ_iff_lt_or_eq.1 hr with hr | rfl
     ·exact hrt r hr z hz hk
     ·exact hrx z (by rw [List.take_of_length_le (by omega)]; exact hz) hk
    repeat' first | exact trivial | exact rfl | refine And.intro ?_ ?_
  ·have hrl := hr0 2 (by decide)
   (conv => whnf)
   refine lp (Nat × NS) (fun p => ⟨[(2, .c (.ptr 0 0)), (3, .c (.ptr 1 0)), (4, .c (.ptr 2 0)), (5, .c (.ptr 3 0)), (6, .c (.ptr 4 0)), (7, .c (.fn 103 [.ptr 0 0, .ptr 3 0, .ptr 4 0])), (8, .c (.int .i64 (2 : Nat))), (9, .c (.int .i64 p.1))], [.box [.bp [.bp [.bs 6 Ob encOb L], .bs 1 Int encI (o 0), .bs 1 Int encI (o 1), .bs 1 Int encI (o 2), .bs 1 Int encI (o 3), .bs 1 Int encI (b 0), .bs 1 Int encI (b 1), .bs 1 Int encI (b 2), .bs 1 Int encI (b 3)]], .box [.bs 1 Int encI (r0 0), .bs 1 Int encI (r0 1), .bs 1 Int encI (r0 2), .bs 1 Int encI (r0 3)], .box [.nil, .nil, .nil, .nil], .box [.rw 5, .rw 6, .rw 7, .rw 8], .box [.rw 9], .row 1 Int encI (p.2.out 0), .row 1 Int encI (p.2.out 1), .row 1 Int encI (p.2.out 2), .row 1 Int encI (p.2.out 3), .row 2 (Int × Int) encPr p.2.todo]⟩) (fun p => ((p.1 ≤ (r0 2).length ∧ NI L r0 none p.2) ∧ ((∀ r, r < 2 → ∀ x ∈ r0 r, ¬ kindOf L x = 0 → x ∈ p.2.out r) ∧ ∀ x ∈ (r0 2).take p.1, ¬ kindOf L x = 0 → x ∈ p.2.out 2)) ∧ True) (fun p => (r0 2).length - p.1) (0, s) [] [.same 0, .same 1, .same 2, .same 3, .same 4, .same 5, .same 6, .same 7, .same 8, .same 9] ⟨⟨⟨Nat.zero_le _, hs⟩, hrt, fun x hx => by simp at hx⟩, trivial⟩ ?_ (fun ⟨i, s⟩ hs => ?_)
   ·repeat' first | exact trivial | exact rfl | refine And.intro ?_ ?_
   obtain ⟨⟨⟨hi, hs⟩, hrt, hrx⟩, -⟩ := hs
   have hs : NI L r0 none s := hs
   have hrt : ∀ r, r < 2 → ∀ x ∈ r0 r, ¬ kindOf L x = 0 → x ∈ s.out r := hrt
   have hrx : ∀ x ∈ (r0 2).take i, ¬ kindOf L x = 0 → x ∈ s.out 2 := hrx
   (conv => whnf)
   refine ⟨2, ⟨rfl, by decide⟩, ?_⟩
   (conv => whnf)
   refine dec (fun h5 => ?_) (fun h5 => ?_)
   ·have hlt : i < (r0 2).length := by have h5 : (i : Int) < (r0 2).length := h5; omega
    have hiy : (r0 2)[i]? = some (r0 2)[i] := List.getElem?_eq_getElem hlt
    have htk := List.take_succ_eq_append_getElem hlt
    have hmem := List.getElem_mem hlt
    generalize (r0 2)[i] = x at hiy htk hmem
    obtain ⟨ha, hmu⟩ := hs.add hL (r := 2) (by decide) (id := x) (fun hk => .root (by decide) hmem (.base (by simp) hk))
    have hsub := addN_sub (L := L) (s := s) (r := 2) (id := x)
    have hin := addN_in (L := L) (s := s) (r := 2) (id := x)
    have p1 := need1_spec L hL o b s (fun k hk => by have := hs.olen hL hk; omega) (by have := hs.tlen; omega) 2 (by decide) x
    (conv => whnf)
    refine ⟨2, ⟨rfl, by decide⟩, ?_⟩
    (conv => whnf)
    refine ⟨i, x, rfl, hiy, ?_⟩
    (conv => whnf)
    refine cl [] [3, 4, 5, 6, 7, 8, 9] (p1) ?_
    repeat' ((conv => whnf); refine I6 ?_)
    refine ag (i + 1, addN L s 2 x) [] [.same 0, .same 1, .same 2, .same 3, .same 4, .same 10, .same 11, .same 12, .same 13, .same 14] ⟨⟨⟨hlt, ha⟩, fun r hr z hz hk => hsub _ _ (hrt r hr z hz hk), fun z hz hk => ?_⟩, trivial⟩ (by simp only []; omega) ?_
    ·have hz : z ∈ (r0 2).take (i + 1) := hz
     rw [htk] at hz
     rcases List.mem_append.1 hz with hz | hz
     ·exact hsub _ _ (hrx z hz hk)
     ·rw [List.mem_singleton] at hz; subst hz; exact hin hk
    repeat' first | exact trivial | exact rfl | refine And.intro ?_ ?_
   ·have h5 : ¬ (i : Int) < (r0 2).length := h5
    repeat' ((conv => whnf); refine I6 ?_)
    refine ag (2 + 1, s) [] [.same 0, .same 1, .same 2, .same 3, .same 4, .same 5, .same 6, .same 7, .same 8, .same 9] ⟨⟨⟨(by show 2 + 1 ≤ 4; decide), hs⟩, fun r hr z hz hk => ?_⟩, trivial⟩ (by simp only []; omega) ?_
    ·have hr : r < 2 + 1 := hr
     rcases Nat.lt_succ_iff_lt_or_eq.1 hr with hr | rfl
     ·exact hrt r hr z hz hk
     ·exact hrx z (by rw [List.take_of_length_le (by omega)]; exact hz) hk
    repeat' first | exact trivial | exact rfl | refine And.intro ?_ ?_
  ·have hrl := hr0 3 (by decide)
   (conv => whnf)
   refine lp (Nat × NS) (fun p => ⟨[(2, .c (.ptr 0 0)), (3, .c (.ptr 1 0)), (4, .c (.ptr 2 0)), (5, .c (.ptr 3 0)), (6, .c (.ptr 4 0)), (7, .c (.fn 103 [.ptr 0 0, .ptr 3 0, .ptr 4 0])), (8, .c (.int .i64 (3 : Nat))), (9, .c (.int .i64 p.1))], [.box [.bp [.bp [.bs 6 Ob encOb L], .bs 1 Int encI (o 0), .bs 1 Int encI (o 1), .bs 1 Int encI (o 2), .bs 1 Int encI (o 3), .bs 1 Int encI (b 0), .bs 1 Int encI (b 1), .bs 1 Int encI (b 2), .bs 1 Int encI (b 3)]], .box [.bs 1 Int encI (r0 0), .bs 1 Int encI (r0 1), .bs 1 Int encI (r0 2), .bs 1 Int encI (r0 3)], .box [.nil, .nil, .nil, .nil], .box [.rw 5, .rw 6, .rw 7, .rw 8], .box [.rw 9], .row 1 Int encI (p.2.out 0), .row 1 Int encI (p.2.out 1), .row 1 Int encI (p.2.out 2), .row 1 Int encI (p.2.out 3), .row 2 (Int × Int) encPr p.2.todo]⟩) (fun p => ((p.1 ≤ (r0 3).length ∧ NI L r0 none p.2) ∧ ((∀ r, r < 3 → ∀ x ∈ r0 r, ¬ kindOf L x = 0 → x ∈ p.2.out r) ∧ ∀ x ∈ (r0 3).take p.1, ¬ kindOf L x = 0 → x ∈ p.2.out 3)) ∧ True) (fun p => (r0 3).length - p.1) (0, s) [] [.same 0, .same 1, .same 2, .same 3, .same 4, .same 5, .same 6, .same 7, .same 8, .same 9] ⟨⟨⟨Nat.zero_le _, hs⟩, hrt, fun x hx => by simp at hx⟩, trivial⟩ ?_ (fun ⟨i, s⟩ hs => ?_)
   ·repeat' first | exact trivial | exact rfl | refine And.intro ?_ ?_
   obtain ⟨⟨⟨hi, hs⟩, hrt, hrx⟩, -⟩ := hs
   have hs : NI L r0 none s := hs
   have hrt : ∀ r, r < 3 → ∀ x ∈ r0 r, ¬ kindOf L x = 0 → x ∈ s.out r := hrt
   have hrx : ∀ x ∈ (r0 3).take i, ¬ kindOf L x = 0 → x ∈ s.out 3 := hrx
   (conv => whnf)
   refine ⟨3, ⟨rfl, by decide⟩, ?_⟩
   (conv => whnf)
   refine dec (fun h5 => ?_) (fun h5 => ?_)
   ·have hlt : i < (r0 3).length := by have h5 : (i : Int) < (r0 3).length := h5; omega
    have hiy : (r0 3)[i]? = some (r0 3)[i] := List.getElem?_eq_getElem hlt
    have htk := List.take_succ_eq_append_getElem hlt
    have hmem := List.getElem_mem hlt
    generalize (r0 3)[i] = x at hiy htk hmem
    obtain ⟨ha, hmu⟩ := hs.add hL (r := 3) (by decide) (id := x) (fun hk => .root (by decide) hmem (.base (by simp) hk))
    have hsub := addN_sub (L := L) (s := s) (r := 3) (id := x)
    have hin := addN_in (L := L) (s := s) (r := 3) (id := x)
    have p1 := need1_spec L hL o b s (fun k hk => by have := hs.olen hL hk; omega) (by have := hs.tlen; omega) 3 (by decide) x
    (conv => whnf)
    refine ⟨3, ⟨rfl, by decide⟩, ?_⟩
    (conv => whnf)
    refine ⟨i, x, rfl, hiy, ?_⟩
    (conv => whnf)
    refine cl [] [3, 4, 5, 6, 7, 8, 9] (p1) ?_
    repeat' ((conv => whnf); refine I6 ?_)
    refine ag (i + 1, addN L s 3 x) [] [.same 0, .same 1, .same 2, .same 3, .same 4, .same 10, .same 11, .same 12, .same 13, .same 14] ⟨⟨⟨hlt, ha⟩, fun r hr z hz hk => hsub _ _ (hrt r hr z hz hk), fun z hz hk => ?_⟩, trivial⟩ (by simp only []; omega) ?_
    ·have hz : z ∈ (r0 3).take (i + 1) := hz
     rw [htk] at hz
     rcases List.mem_append.1 hz with hz | hz
     ·exact hsub _ _ (hrx z hz hk)
     ·rw [List.mem_singleton] at hz; subst hz; exact hin hk
    repeat' first | exact trivial | exact rfl | refine And.intro ?_ ?_
   ·have h5 : ¬ (i : Int) < (r0 3).length := h5
    repeat' ((conv => whnf); refine I6 ?_)
    refine ag (3 + 1, s) [] [.same 0, .same 1, .same 2, .same 3, .same 4, .same 5, .same 6, .same 7, .same 8, .same 9] ⟨⟨⟨(by show 3 + 1 ≤ 4; decide), hs⟩, fun r hr z hz hk => ?_⟩, trivial⟩ (by simp only []; omega) ?_
    ·have hr : r < 3 + 1 := hr
     rcases Nat.lt_succ_iff_lt_or_eq.1 hr with hr | rfl
     ·exact hrt r hr z hz hk
     ·exact hrx z (by rw [List.take_of_length_le (by omega)]; exact hz) hk
    repeat' first | exact trivial | exact rfl | refine And.intro ?_ ?_
 ·obtain rfl : r = 4 := by have h4 : ¬ (r : Int) < 4 := h4; omega
  (conv => whnf)
  refine lp NS (fun s => ⟨[(2, .c (.ptr 0 0)), (4, .c (.ptr 2 0)), (5, .c (.ptr 3 0)), (6, .c (.ptr 4 0)), (7, .c (.fn 103 [.ptr 0 0, .ptr 3 0, .ptr 4 0]))], [.box [.bp [.bp [.bs 6 Ob encOb L], .bs 1 Int encI (o 0), .bs 1 Int encI (o 1), .bs 1 Int encI (o 2), .bs 1 Int encI (o 3), .bs 1 Int encI (b 0), .bs 1 Int encI (b 1), .bs 1 Int encI (b 2), .bs 1 Int encI (b 3)]], .box [.bs 1 Int encI (r0 0), .bs 1 Int encI (r0 1), .bs 1 Int encI (r0 2), .bs 1 Int encI (r0 3)], .box [.nil, .nil, .nil, .nil], .box [.rw 5, .rw 6, .rw 7, .rw 8], .box [.rw 9], .row 1 Int encI (s.out 0), .row 1 Int encI (s.out 1), .row 1 Int encI (s.out 2), .row 1 Int encI (s.out 3), .row 2 (Int × Int) encPr s.todo]⟩) (fun s => (NI L r0 none s ∧ (∀ r, r < 4 → ∀ x ∈ r0 r, ¬ kindOf L x = 0 → x ∈ s.out r)) ∧ True) (fun s => muS L s) s [] [.same 0, .same 1, .same 2, .same 3, .same 4, .same 5, .same 6, .same 7, .same 8, .same 9] ⟨⟨hs, hrt⟩, trivial⟩ ?_ (fun s hs => ?_)
  ·repeat' first | exact trivial | exact rfl | refine And.intro ?_ ?_
  obtain ⟨⟨hs, hrt⟩, -⟩ := hs
  have htl := hs.tlen
  (conv => whnf)
  refine dec (fun h4 => ?_) (fun h4 => ?_)
  ·obtain ⟨out, todo⟩ := s
   cases todo with
   | nil => exact absurd (show (0 : Int) < 0 from h4) (by decide)
   | cons p t =>
   obtain ⟨a, k⟩ := p
   obtain ⟨r, hr, e1, hko⟩ := hs.todo (a, k) (by simp)
   obtain rfl : a = (r : Int) := e1
   have hko : k ∈ out r := hko
   have hnd : Nd L r0 r k := hs.nd r hr k hko
   have hkp := hnd.pos hL
   obtain ⟨hp, hmu⟩ := hs.pop
   have htl : (((r : Int), k) :: t).length ≤ 8 * L.length := htl
   rw [List.length_cons] at htl
   have hnl := nextP_len hL k
   have hob : L[k.toNat]? = some (getP L k) := by rw [getP_at (by omega) hkp.2]; exact List.getElem?_eq_getElem hkp.2
   have hel : (getP L k).entries.length ≤ 60 := (hL.get (hnd.kind hL)).entries
   have hnn : ∀ m ∈ nextP L k, Nd L r0 r m := fun m hm => hnd.next hm
   have hnk : ∀ m ∈ nextP L k, ¬ kindOf L m = 0 := fun m hm => (hnn m hm).kind hL
   have hen : ∀ e ∈ (getP L k).entries, e.mode = 3 → Nd L r0 e.repo.toNat e.id ∧ (¬ kindOf L e.id = 0) ∧ 0 ≤ e.repo ∧ e.repo < 4 := fun e he h3 => ⟨hnd.ent hL he h3, (hnd.ent hL he h3).kind hL, (ent_repo hL he).1, (ent_repo hL he).2.1⟩
   have p1 := nextR_spec L hL k
   have hclo : ∀ out' : Nat → List Int, (∀ m ∈ nextP L k, m ∈ out' r) → (∀ e ∈ (getP L k).entries, e.mode = 3 → e.id ∈ out' e.repo.toNat) → CloN L out' r k := fun out' h1 h2 => ⟨h1, h2⟩
   generalize nextP L k = nx at p1 hnl hnn hnk hclo
   generalize getP L k = ob at hob hel hen hclo
   (conv => whnf)
   refine ⟨false, .grow, (.l [0, 1, 2, 3, 4, 5, 6, 7, 8, 9]), by kernel_rfl, .inl ?_⟩
   (conv => whnf)
   refine ⟨0, ⟨rfl, by simp⟩, ?_⟩
   (conv => whnf)
   refine ⟨0, ⟨rfl, by decide⟩, ?_⟩
   (conv => whnf)
   refine ⟨((r : Int), k), rfl, ?_⟩
   (conv => whnf)
   refine ⟨0, ⟨rfl, by simp⟩, ?_⟩
   (conv => whnf)
   refine ⟨1, ⟨rfl, by decide⟩, ?_⟩
   (conv => whnf)
   refine ⟨((r : Int), k), rfl, ?_⟩
   (conv => whnf)
   refine ⟨1, (((r : Int), k) :: t).length, rfl, rfl, ⟨by simp, Nat.le_refl _⟩, ?_⟩
   (conv => whnf)
   refine cl [] [] (p1) ?_
   (conv => whnf)
   refine lp (Nat × NS) (fun p => ⟨[(2, .c (.ptr 0 0)), (4, .c (.ptr 2 0)), (5, .c (.ptr 3 0)), (6, .c (.ptr 4 0)), (7, .c (.fn 103 [.ptr 0 0, .ptr 3 0, .ptr 4 0])), (10, .c (.int .i64 r)), (11, .c (.int .i64 k)), (12, .c (.rw 10)), (13, .c (.int .i64 p.1))], [.box [.bp [.bp [.bs 6 Ob encOb L], .bs 1 Int encI (o 0), .bs 1 Int encI (o 1), .bs 1 Int encI (o 2), .bs 1 Int encI (o 3), .bs 1 Int encI (b 0), .bs 1 Int encI (b 1), .bs 1 Int encI (b 2), .bs 1 Int encI (b 3)]], .box [.bs 1 Int encI (r0 0), .bs 1 Int encI (r0 1), .bs 1 Int encI (r0 2), .bs 1 Int encI (r0 3)], .box [.nil, .nil, .nil, .nil], .box [.rw 5, .rw 6, .rw 7, .rw 8], .box [.rw 9], .row 1 Int encI (p.2.out 0), .row 1 Int encI (p.2.out 1), .row 1 Int encI (p.2.out 2), .row 1 Int encI (p.2.out 3), .row 2 (Int × Int) encPr p.2.todo, .row 1 Int encI nx]⟩) (fun p => ((p.1 ≤ nx.length ∧ NI L r0 (some (r, k)) p.2) ∧ ((∀ r, r < 4 → ∀ x ∈ r0 r, ¬ kindOf L x = 0 → x ∈ p.2.out r) ∧ muS L p.2 ≤ muS L ⟨out, t⟩ ∧ ∀ m ∈ nx.take p.1, m ∈ p.2.out r)) ∧ True) (fun p => nx.length - p.1) (0, ⟨out, t⟩) [] [.same 0, .same 1, .same 2, .same 3, .same 4, .same 5, .same 6, .same 7, .same 8, .cut 2 9 1 ((((r : Int), k) :: t).length - 1), .same 10] ⟨⟨⟨Nat.zero_le _, hp⟩, hrt, Nat.le_refl _, fun x hx => by simp at hx⟩, trivial⟩ ?_ (fun ⟨i, s⟩ hs => ?_)
   ·repeat' first | exact trivial | exact rfl | refine And.intro ?_ ?_
    ·simp only [List.length_cons]; omega
    ·simp
   obtain ⟨⟨⟨hi, hs⟩, hrt, hle, hin⟩, -⟩ := hs
   have hs : NI L r0 (some (r, k)) s := hs
   have hrt : ∀ q, q < 4 → ∀ x ∈ r0 q, ¬ kindOf L x = 0 → x ∈ s.out q := hrt
   have hle : muS L s ≤ muS L ⟨out, t⟩ := hle
   have hin : ∀ m ∈ nx.take i, m ∈ s.out r := hin
   (conv => whnf)
   refine dec (fun h5 => ?_) (fun h5 => ?_)
   ·have hlt : i < nx.length := by have h5 : (i : Int) < nx.length := h5; omega
    have hiy : nx[i]? = some nx[i] := List.getElem?_eq_getElem hlt
    have htk := List.take_succ_eq_append_getElem hlt
    have hmem := List.getElem_mem hlt
    generalize nx[i] = x at hiy htk hmem
    obtain ⟨ha, hm2⟩ := hs.add hL hr (id := x) (fun _ => hnn x hmem)
    have hsub := addN_sub (L := L) (s := s) (r := r) (id := x)
    have hix := addN_in (L := L) (s := s) (r := r) (hnk x hmem)
    have p2 := need1_spec L hL o b s (fun k hk => by have := hs.olen hL hk; omega) (by have := hs.tlen; omega) r hr x
    (conv => whnf)
    refine ⟨i, ⟨rfl, hlt⟩, ?_⟩
    (conv => whnf)
    refine ⟨x, hiy, ?_⟩
    (conv => whnf)
    refine cl [] [3, 4, 5, 6, 7, 8, 9] (p2) ?_
    repeat' ((conv => whnf); refine I6 ?_)
    refine ag (i + 1, addN L s r x) [] [.same 0, .same 1, .same 2, .same 3, .same 4, .same 11, .same 12, .same 13, .same 14, .same 15, .same 10] ⟨⟨⟨hlt, ha⟩, fun q hq z hz hk => hsub _ _ (hrt q hq z hz hk), Nat.le_trans hm2 hle, fun z hz => ?_⟩, trivial⟩ (by simp only []; omega) ?_
    ·have hz : z ∈ nx.take (i + 1) := hz
     rw [htk] at hz
     rcases List.mem_append.1 hz with hz | hz
     ·exact hsub _ _ (hin z hz)
     ·rw [List.mem_singleton] at hz; subst hz; exact hix
    repeat' first | exact trivial | exact rfl | refine And.intro ?_ ?_
   ·have h5 : ¬ (i : Int) < nx.length := h5
    have hin : ∀ m ∈ nx, m ∈ s.out r := fun m hm => hin m (by rw [List.take_of_length_le (by omega)]; exact hm)
    (conv => whnf)
    refine ⟨k.toNat, ob, by omega, hob, ?_⟩
    (conv => whnf)
    refine lp (Nat × NS) (fun p => ⟨[(2, .c (.ptr 0 0)), (4, .c (.ptr 2 0)), (5, .c (.ptr 3 0)), (6, .c (.ptr 4 0)), (7, .c (.fn 103 [.ptr 0 0, .ptr 3 0, .ptr 4 0])), (10, .c (.int .i64 r)), (14, .c (.bs 4 Ent encEn ob.entries)), (15, .c (.int .i64 p.1))], [.box [.bp [.bp [.bs 6 Ob encOb L], .bs 1 Int encI (o 0), .bs 1 Int encI (o 1), .bs 1 Int encI (o 2), .bs 1 Int encI (o 3), .bs 1 Int encI (b 0), .bs 1 Int encI (b 1), .bs 1 Int encI (b 2), .bs 1 Int encI (b 3)]], .box [.bs 1 Int encI (r0 0), .bs 1 Int encI (r0 1), .bs 1 Int encI (r0 2), .bs 1 Int encI (r0 3)], .box [.nil, .nil, .nil, .nil], .box [.rw 5, .rw 6, .rw 7, .rw 8], .box [.rw 9], .row 1 Int encI (p.2.out 0), .row 1 Int encI (p.2.out 1), .row 1 Int encI (p.2.out 2), .row 1 Int encI (p.2.out 3), .row 2 (Int × Int) encPr p.2.todo]⟩) (fun p => ((p.1 ≤ ob.entries.length ∧ NI L r0 (some (r, k)) p.2) ∧ ((∀ r, r < 4 → ∀ x ∈ r0 r, ¬ kindOf L x = 0 → x ∈ p.2.out r) ∧ muS L p.2 ≤ muS L ⟨out, t⟩ ∧ (∀ m ∈ nx, m ∈ p.2.out r) ∧ ∀ e ∈ ob.entries.take p.1, e.mode = 3 → e.id ∈ p.2.out e.repo.toNat)) ∧ True) (fun p => ob.entries.length - p.1) (0, s) [] [.same 0, .same 1, .same 2, .same 3, .same 4, .same 5, .same 6, .same 7, .same 8, .same 9] ⟨⟨⟨Nat.zero_le _, hs⟩, hrt, hle, hin, fun x hx => by simp at hx⟩, trivial⟩ ?_ (fun ⟨i, s⟩ hs => ?_)
    ·repeat' first | exact trivial | exact rfl | refine And.intro ?_ ?_
    obtain ⟨⟨⟨hi, hs⟩, hrt, hle, hin, hen2⟩, -⟩ := hs
    have hs : NI L r0 (some (r, k)) s := hs
    have hrt : ∀ q, q < 4 → ∀ x ∈ r0 q, ¬ kindOf L x = 0 → x ∈ s.out q := hrt
    have hle : muS L s ≤ muS L ⟨out, t⟩ := hle
    have hin : ∀ m ∈ nx, m ∈ s.out r := hin
    have hen2 : ∀ e ∈ ob.entries.take i, e.mode = 3 → e.id ∈ s.out e.repo.toNat := hen2
    (conv => whnf)
    refine dec (fun h5 => ?_) (fun h5 => ?_)
    ·have hlt : i < ob.entries.length := by have h5 : (i : Int) < ob.entries.length := h5; omega
     have hiy : ob.entries[i]? = some ob.entries[i] := List.getElem?_eq_getElem hlt
     have htk := List.take_succ_eq_append_getElem hlt
     have hmem := List.getElem_mem hlt
     generalize ob.entries[i] = e at hiy htk hmem
     (conv => whnf)
     refine ⟨i, e, rfl, hiy, ?_⟩
     (conv => whnf)
     refine dec (fun h6 => ?_) (fun h6 => ?_)
     ·have h6 : e.mode = 3 := h6
      obtain ⟨e1, e2, e3, e4⟩ := hen e hmem h6
      obtain ⟨q, hq, hqe⟩ : ∃ q : Nat, q < 4 ∧ e.repo = (q : Int) := ⟨e.repo.toNat, by omega, by omega⟩
      have hqn : e.repo.toNat = q := by omega
      rw [hqn] at e1
      obtain ⟨ha, hm2⟩ := hs.add hL hq (id := e.id) (fun _ => e1)
      have hsub := addN_sub (L := L) (s := s) (r := q) (id := e.id)
      have hix := addN_in (L := L) (s := s) (r := q) e2
      have p2 := need1_spec L hL o b s (fun k hk => by have := hs.olen hL hk; omega) (by have := hs.tlen; omega) q hq e.id
      rw [← hqe] at p2
      (conv => whnf)
      refine ⟨false, .grow, (.l [0, 1, 2, 3, 4, 5, 6, 7, 8, 9, 10, 11]), by kernel_rfl, .inl ?_⟩
      (conv => whnf)
      refine ⟨i, e, rfl, hiy, ?_⟩
      (conv => whnf)
      refine ⟨i, e, rfl, hiy, ?_⟩
      (conv => whnf)
      refine cl [] [3, 4, 5, 6, 7, 8, 9] (p2) ?_
      repeat' ((conv => whnf); refine I6 ?_)
      refine ag (i + 1, addN L s q e.id) [] [.same 0, .same 1, .same 2, .same 3, .same 4, .same 10, .same 11, .same 12, .same 13, .same 14] ⟨⟨⟨hlt, ha⟩, fun q hq z hz hk => hsub _ _ (hrt q hq z hz hk), Nat.le_trans hm2 hle, fun z hz => hsub _ _ (hin z hz), fun z hz h3 => ?_⟩, trivial⟩ (by simp only []; omega) ?_
      ·have hz : z ∈ ob.entries.take (i + 1) := hz
       rw [htk] at hz
       rcases List.mem_append.1 hz with hz | hz
       ·exact hsub _ _ (hen2 z hz h3)
       ·rw [List.mem_singleton] at hz; subst hz; rw [hqn]; exact hix
      repeat' first | exact trivial | exact rfl | refine And.intro ?_ ?_
     ·have h6 : ¬ e.mode = 3 := h6
      repeat' ((conv => whnf); refine I6 ?_)
      refine ag (i + 1, s) [] [.same 0, .same 1, .same 2, .same 3, .same 4, .same 5, .same 6, .same 7, .same 8, .same 9] ⟨⟨⟨hlt, hs⟩, hrt, hle, hin, fun z hz h3 => ?_⟩, trivial⟩ (by simp only []; omega) ?_
      ·have hz : z ∈ ob.entries.take (i + 1) := hz
       rw [htk] at hz
       rcases List.mem_append.1 hz with hz | hz
       ·exact hen2 z hz h3
       ·rw [List.mem_singleton] at hz; subst hz; exact absurd h3 h6
      repeat' first | exact trivial | exact rfl | refine And.intro ?_ ?_
    ·have h5 : ¬ (i : Int) < ob.entries.length := h5
     have hen2 : ∀ e ∈ ob.entries, e.mode = 3 → e.id ∈ s.out e.repo.toNat := fun e he => hen2 e (by rw [List.take_of_length_le (by omega)]; exact he)
     repeat' ((conv => whnf); refine I6 ?_)
     refine ag s [] [.same 0, .same 1, .same 2, .same 3, .same 4, .same 5, .same 6, .same 7, .same 8, .same 9] ⟨⟨hs.close (hclo s.out hin hen2), hrt⟩, trivial⟩ (Nat.lt_of_le_of_lt hle hmu) ?_
     repeat' first | exact trivial | exact rfl | refine And.intro ?_ ?_
  ·have ht : s.todo = [] := List.eq_nil_of_length_eq_zero (by have h4 : ¬ (0 : Int) < s.todo.length := h4; omega)
   rw [← hs.fin hL ht hrt (r := 0) (by decide), ← hs.fin hL ht hrt (r := 1) (by decide), ← hs.fin hL ht hrt (r := 2) (by decide), ← hs.fin hL ht hrt (r := 3) (by decide)]
   (conv => whnf)
   refine lp (Nat × (Nat → List Int)) (fun p => ⟨[(4, .c (.ptr 0 0)), (5, .c (.ptr 1 0)), (16, .c (.int .i64 p.1))], [.box [.nil, .nil, .nil, .nil], .box [.rw 2, .rw 3, .rw 4, .rw 5], .row 1 Int encI (p.2 0), .row 1 Int encI (p.2 1), .row 1 Int encI (p.2 2), .row 1 Int encI (p.2 3)]⟩) (fun p => (p.1 ≤ 4 ∧ ∀ q, q < 4 → p.2 q = if q < p.1 then sortI (s.out q) else s.out q) ∧ True) (fun p => 4 - p.1) (0, s.out) [] [.same 2, .same 3, .same 5, .same 6, .same 7, .same 8] ⟨⟨Nat.zero_le _, fun q hq => by rw [if_neg (Nat.not_lt_zero _)]⟩, trivial⟩ ?_ (fun ⟨r, x⟩ hx => ?_)
   ·repeat' first | exact trivial | exact rfl | refine And.intro ?_ ?_
   obtain ⟨⟨hr4, hx⟩, -⟩ := hx
   have hx : ∀ q, q < 4 → x q = if q < r then sortI (s.out q) else s.out q := hx
   (conv => whnf)
   refine dec (fun h4 => ?_) (fun h4 => ?_)
   ·have hr : r < 4 := by have h4 : (r : Int) < 4 := h4; omega
    rcases four hr with rfl | rfl | rfl | rfl
    ·have hx0 := hx 0 (by decide)
     rw [if_neg (Nat.lt_irrefl _)] at hx0
     have hol := hs.olen hL (r := 0) (by decide)
     have p2 := sortedI_spec (s.out 0) (by omega)
     rw [← hx0] at p2
     (conv => whnf)
     refine ⟨0, ⟨rfl, by decide⟩, ?_⟩
     (conv => whnf)
     refine cl [] [] (p2) ?_
     (conv => whnf)
     refine ⟨0, ⟨rfl, by decide⟩, ?_⟩
     repeat' ((conv => whnf); refine I6 ?_)
     refine ag (0 + 1, upd x 0 (sortI (x 0))) [] [.same 0, .same 1, .same 6, .same 3, .same 4, .same 5] ⟨⟨(by show 0 + 1 ≤ 4; decide), fun j hj => ?_⟩, trivial⟩ (by simp only []; omega) ?_
     ·show upd x 0 (sortI (x 0)) j = if j < 0 + 1 then _ else _
      by_cases e : j = 0
      ·subst e; rw [upd_at, if_pos (by omega), hx0]
      ·rw [upd_ne e, hx j hj]
       by_cases h1 : j < 0
       ·rw [if_pos h1, if_pos (by omega)]
       ·rw [if_neg h1, if_neg (by omega)]
     repeat' first | exact trivial | exact rfl | refine And.intro ?_ ?_
    ·have hx0 := hx 1 (by decide)
     rw [if_neg (Nat.lt_irrefl _)] at hx0
     have hol := hs.olen hL (r := 1) (by decide)
     have p2 := sortedI_spec (s.out 1) (by omega)
     rw [← hx0] at p2
     (conv => whnf)
     refine ⟨1, ⟨rfl, by decide⟩, ?_⟩
     (conv => whnf)
     refine cl [] [] (p2) ?_
     (conv => whnf)
     refine ⟨1, ⟨rfl, by decide⟩, ?_⟩
     repeat' ((conv => whnf); refine I6 ?_)
     refine ag (1 + 1, upd x 1 (sortI (x 1))) [] [.same 0, .same 1, .same 2, .same 6, .same 4, .same 5] ⟨⟨(by show 1 + 1 ≤ 4; decide), fun j hj => ?_⟩, trivial⟩ (by simp only []; omega) ?_
     ·show upd x 1 (sortI (x 1)) j = if j < 1 + 1 then _ else _
      by_cases e : j = 1
      ·subst e; rw [upd_at, if_pos (by omega), hx0]
      ·rw [upd_ne e, hx j hj]
       by_cases h1 : j < 1
       ·rw [if_pos h1, if_pos (by omega)]
       ·rw [if_neg h1, if_neg (by omega)]
     repeat' first | exact trivial | exact rfl | refine And.intro ?_ ?_
    ·have hx0 := hx 2 (by decide)
     rw [if_neg (Nat.lt_irrefl _)] at hx0
     have hol := hs.olen hL (r := 2) (by decide)
     have p2 := sortedI_spec (s.out 2) (by omega)
     rw [← hx0] at p2
     (conv => whnf)
     refine ⟨2, ⟨rfl, by decide⟩, ?_⟩
     (conv => whnf)
     refine cl [] [] (p2) ?_
     (conv => whnf)
     refine ⟨2, ⟨rfl, by decide⟩, ?_⟩
     repeat' ((conv => whnf); refine I6 ?_)
     refine ag (2 + 1, upd x 2 (sortI (x 2))) [] [.same 0, .same 1, .same 2, .same 3, .same 6, .same 5] ⟨⟨(by show 2 + 1 ≤ 4; decide), fun j hj => ?_⟩, trivial⟩ (by simp only []; omega) ?_
     ·show upd x 2 (sortI (x 2)) j = if j < 2 + 1 then _ else _
      by_cases e : j = 2
      ·subst e; rw [upd_at, if_pos (by omega), hx0]
      ·rw [upd_ne e, hx j hj]
       by_cases h1 : j < 2
       ·rw [if_pos h1, if_pos (by omega)]
       ·rw [if_neg h1, if_neg (by omega)]
     repeat' first | exact trivial | exact rfl | refine And.intro ?_ ?_
    ·have hx0 := hx 3 (by decide)
     rw [if_neg (Nat.lt_irrefl _)] at hx0
     have hol := hs.olen hL (r := 3) (by decide)
     have p2 := sortedI_spec (s.out 3) (by omega)
     rw [← hx0] at p2
     (conv => whnf)
     refine ⟨3, ⟨rfl, by decide⟩, ?_⟩
     (conv => whnf)
     refine cl [] [] (p2) ?_
     (conv => whnf)
     refine ⟨3, ⟨rfl, by decide⟩, ?_⟩
     repeat' ((conv => whnf); refine I6 ?_)
     refine ag (3 + 1, upd x 3 (sortI (x 3))) [] [.same 0, .same 1, .same 2, .same 3, .same 4, .same 6] ⟨⟨(by show 3 + 1 ≤ 4; decide), fun j hj => ?_⟩, trivial⟩ (by simp only []; omega) ?_
     ·show upd x 3 (sortI (x 3)) j = if j < 3 + 1 then _ else _
      by_cases e : j = 3
      ·subst e; rw [upd_at, if_pos (by omega), hx0]
      ·rw [upd_ne e, hx j hj]
       by_cases h1 : j < 3
       ·rw [if_pos h1, if_pos (by omega)]
       ·rw [if_neg h1, if_neg (by omega)]
     repeat' first | exact trivial | exact rfl | refine And.intro ?_ ?_
   ·obtain rfl : r = 4 := by have h4 : ¬ (r : Int) < 4 := h4; omega
    rw [← (hx 0 (by decide)).trans (if_pos (by decide)), ← (hx 1 (by decide)).trans (if_pos (by decide)), ← (hx 2 (by decide)).trans (if_pos (by decide)), ← (hx 3 (by decide)).trans (if_pos (by decide))]
    (conv => whnf)
    exact rx [2, 3, 4, 5] []
end Go.Nest
end
