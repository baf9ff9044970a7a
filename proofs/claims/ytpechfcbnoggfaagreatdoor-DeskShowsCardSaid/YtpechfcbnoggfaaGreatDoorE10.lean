/- part -/
import Derived.Test.YtpechfcbnoggfaaGreatDoorQ4
import Derived.Test.YtpechfcbnoggfaaGreatDoorW10
import Derived.Test.YtpechfcbnoggfaaGreatDoorV1
import Derived.Test.YtpechfcbnoggfaaGreatDoorG9
import Derived.Test.YtpechfcbnoggfaaGreatDoorP9
set_option linter.unusedVariables false
set_option linter.unusedSimpArgs false
section

namespace Go.Nest
open Go Go.AM Go.Proofs
open Go.Proofs.YtpechfcbnoggfaaGreatDoor (tab tabOk)
set_option maxRecDepth 4000
structure SymI (X Y : List Fi) (h lo0 hi0 : Nat) : Prop where
 a1 : lo0 ≤ hi0
 a2 : hi0 ≤ X.length
 a3 : hi0 ≤ h
 a4 : h ≤ lo0 + Y.length
 a5 : hi0 = h ∨ hi0 = X.length
 a6 : lo0 = 0 ∨ lo0 + Y.length = h
structure SymJ (X Y : List Fi) (h lo0 hi0 s t : Nat) : Prop where
 b1 : lo0 ≤ s
 b2 : s ≤ t
 b3 : t ≤ hi0
 p1 : ∀ i j (hi : i < Y.length) (hj : j < X.length), lo0 < s → i + s = h → j + 1 = s → lessP Y[i].path X[j].path = false
 p2 : ∀ i j (hi : i < Y.length) (hj : j < X.length), t < hi0 → i + t + 1 = h → j = t → lessP Y[i].path X[j].path = true
theorem sym_cut {X Y : List Fi} {h lo0 hi0 s : Nat} (wx : Wk X) (wy : Wk Y) (hI : SymI X Y h lo0 hi0) (hJ : SymJ X Y h lo0 hi0 s s) :
  (∀ x ∈ X.drop s, ∀ y ∈ Y.take (h - s), lessP y.path x.path = true) ∧ ∀ x ∈ X.take s, ∀ y ∈ Y.drop (h - s), lessP y.path x.path = false := by
 obtain ⟨a1, a2, a3, a4, a5, a6⟩ := hI
 obtain ⟨b1, b2, b3, p1, p2⟩ := hJ
 refine ⟨fun x hx y hy => ?_, fun x hx y hy => ?_⟩
 ·have hs : s < X.length := Classical.byContradiction fun h => by rw [List.drop_of_length_le (by omega)] at hx; cases hx
  have hk : 0 < h - s := Classical.byContradiction fun h' => by rw [show h - s = 0 by omega] at hy; simp at hy
  have hky : h - s - 1 < Y.length := by omega
  have h1 := p2 (h - s - 1) s hky hs (by omega) (by omega) rfl
  have h2 : lessP y.path X[s].path = true := lt_take wy hky h1 y (by rw [show h - s - 1 + 1 = h - s by omega]; exact hy)
  obtain ⟨i, hi, e⟩ := List.mem_drop_iff_getElem.1 hx
  subst e
  by_cases e : i = 0
  ·subst e; exact h2
  ·exact lt_le h2 (wk_le wx (i := s) (j := s + i) (by omega) (by omega))
 ·have hs : 0 < s := Classical.byContradiction fun h => by rw [show s = 0 by omega] at hx; simp at hx
  have hk : h - s < Y.length := Classical.byContradiction fun h' => by rw [List.drop_of_length_le (by omega)] at hy; cases hy
  have hsx : s - 1 < X.length := by omega
  have h1 := p1 (h - s) (s - 1) hk hsx (by omega) (by omega) (by omega)
  have h2 : lessP Y[h - s].path x.path = false := by
   have h3 := ge_take (y := Y[h - s]) wx hsx h1 x (by rw [show s - 1 + 1 = s by omega]; exact hx)
   exact h3
  obtain ⟨i, hi, e⟩ := List.mem_drop_iff_getElem.1 hy
  subst e
  by_cases e : i = 0
  ·subst e; exact h2
  ·exact le_trans' h2 (wk_le wy (i := h - s) (j := h - s + i) (by omega) (by omega))
set_option maxHeartbeats 8000000 in
theorem symMerge_spec : ∀ (n : Nat) (A X Y B : List Fi), X.length + Y.length ≤ n → 0 < X.length → 0 < Y.length → Wk X → Wk Y → A.length + X.length + Y.length + B.length ≤ 1000 → (∀ f ∈ X, f.path.length ≤ 4000000) → (∀ f ∈ Y, f.path.length ≤ 4000000) → ∀ (a m b : Int), a = A.length → m = A.length + X.length → b = A.length + X.length + Y.length → Does Tryz.prog 300 [.c (.rw 0), .c (.int .i64 a), .c (.int .i64 m), .c (.int .i64 b), .c (.fn 174 [])] [.row 4 Fi encFi (A ++ X ++ Y ++ B)] (Rt (.tup []) [.row 4 Fi encFi (A ++ inOrdP (X ++ Y) ++ B)]) := by
 intro n
 induction n with
 | zero => intro A X Y B h hx hy; omega
 | succ n ih =>
 intro A X Y B hXY hx hy wx wy hn hpx hpy a m b ha hm hb'
 by_cases h1 : X.length = 1
 ·obtain ⟨x, rfl⟩ : ∃ x, X = [x] := List.length_eq_one_iff.1 h1
  exact symOne_spec A Y B x hy wy (by simpa using hn) (hpx x (by simp)) hpy a m b ha (by simpa using hm) (by simpa using hb')
 by_cases h2 : Y.length = 1
 ·obtain ⟨y, rfl⟩ : ∃ y, Y = [y] := List.length_eq_one_iff.1 h2
  exact symLast_spec A X B y (by omega) wx (by simpa using hn) (hpy y (by simp)) hpx a m b ha hm (by simpa using hb')
 subst ha; subst hm; subst hb'
 obtain ⟨h, hh⟩ : ∃ h, h = (X.length + Y.length) / 2 := ⟨_, rfl⟩
 refine X_spM (n := 220) (n0 := 1) tabOk Tryz.call300 Tryz.func300 ?_
 intro hb
 refine XM.seq ?_
 (conv => whnf)
 refine ⟨i64 (by omega) (by omega), ?_⟩
 (conv => whnf)
 refine dec (fun h => absurd h (by omega)) (fun _ => ?_)
 (conv => whnf)
 refine XM.seq ?_
 (conv => whnf)
 refine ⟨i64 (by omega) (by omega), ?_⟩
 (conv => whnf)
 refine dec (fun h => absurd h (by omega)) (fun _ => ?_)
 (conv => whnf)
 refine XM.seq ?_
 (conv => whnf)
 refine ⟨i64 (by omega) (by omega), ?_⟩
 (conv => whnf)
 refine ⟨by decide, ?_⟩
 (conv => whnf)
 rw [half (e := (A.length : Int) + ((A.length : Int) + X.length + Y.length)) (k := A.length + h) (by omega) (by omega) (by omega)]
 refine XM.seq ?_
 (conv => whnf)
 refine ⟨i64 (by omega) (by omega), ?_⟩
 (conv => whnf)
 refine XM.seq ?_
 (conv => whnf)
 refine XM.join (ι := Nat × Nat) (fun z => ⟨[(0, .c (.rw 0)), (1, .c (.int .i64 A.length)), (2, .c (.int .i64 ((A.length : Int) + X.length))), (3, .c (.int .i64 ((A.length : Int) + X.length + Y.length))), (4, .c (.fn 174 [])), (18, .c (.int .i64 ((A.length + h : Nat) : Int))), (19, .c (.int .i64 (((A.length + h : Nat) : Int) + ((A.length : Int) + X.length)))), (20, .c (.int .i64 ((A.length : Int) + z.1))), (21, .c (.int .i64 ((A.length : Int) + z.2)))], [.row 4 Fi encFi (A ++ X ++ Y ++ B)]⟩) (fun z => SymI X Y h z.1 z.2) ?_ (fun z hI => ?_)
 ·(conv => whnf)
  refine dec (fun h3 => ?_) (fun h3 => ?_)
  ·(conv => whnf)
   refine ⟨i64 (by omega) (by omega), ?_⟩
   rw [show ((A.length + h : Nat) : Int) + ((A.length : Int) + X.length) - ((A.length : Int) + X.length + Y.length) = (A.length : Int) + ((h - Y.length : Nat) : Int) by omega, show ((A.length + h : Nat) : Int) = (A.length : Int) + h by omega]
   (conv => whnf)
   refine ⟨(h - Y.length, h), ⟨by simp only []; omega, by simp only []; omega, by simp only []; omega, by simp only []; omega, .inl rfl, by simp only []; omega⟩, [], [.same 0], ?_⟩
   repeat' first | exact trivial | exact rfl | refine And.intro ?_ ?_
   trace_state
  ·(conv => whnf)
   refine ⟨(0, X.length), ⟨by simp only []; omega, by simp only []; omega, by simp only []; omega, by simp only []; omega, .inr rfl, .inl rfl⟩, [], [.same 0], ?_⟩
   rw [show (A.length : Int) = (A.length : Int) + ((0 : Nat) : Int) by omega]
   repeat' first | exact trivial | exact rfl | refine And.intro ?_ ?_
   trace_state
 obtain ⟨lo0, hi0⟩ := z
 have hI := hI
 dsimp only at hI
 obtain ⟨a1, a2, a3, a4, a5, a6⟩ := id hI
 refine XM.seq ?_
 (conv => whnf)
 refine ⟨i64 (by omega) (by omega), ?_⟩
 (conv => whnf)
 refine XM.join (ι := Nat) (fun s => ⟨[(0, .c (.rw 0)), (1, .c (.int .i64 A.length)), (2, .c (.int .i64 ((A.length : Int) + X.length))), (3, .c (.int .i64 ((A.length : Int) + X.length + Y.length))), (4, .c (.fn 174 [])), (18, .c (.int .i64 ((A.length + h : Nat) : Int))), (19, .c (.int .i64 (((A.length + h : Nat) : Int) + ((A.length : Int) + X.length)))), (20, .c (.int .i64 ((A.length : Int) + s)))], [.row 4 Fi encFi (A ++ X ++ Y ++ B)]⟩) (fun s => SymJ X Y h lo0 hi0 s s) ?_ (fun s hJ => ?_)
 ·(conv => whnf)
  refine lp (Nat × Nat) (fun z => ⟨[(0, .c (.rw 0)), (1, .c (.int .i64 A.length)), (2, .c (.int .i64 ((A.length : Int) + X.length))), (3, .c (.int .i64 ((A.length : Int) + X.length + Y.length))), (4, .c (.fn 174 [])), (18, .c (.int .i64 ((A.length + h : Nat) : Int))), (19, .c (.int .i64 (((A.length + h : Nat) : Int) + ((A.length : Int) + X.length)))), (22, .c (.int .i64 (((A.length + h : Nat) : Int) + ((A.length : Int) + X.length) - 1))), (20, .c (.int .i64 ((A.length : Int) + z.1))), (21, .c (.int .i64 ((A.length : Int) + z.2)))], [.row 4 Fi encFi (A ++ X ++ Y ++ B)]⟩) (fun z => SymJ X Y h lo0 hi0 z.1 z.2) (fun z => z.2 - z.1) (lo0, hi0) [] [.same 0] ?_ ?_ (fun z hz => ?_)
  ·exact ⟨Nat.le_refl _, a1, Nat.le_refl _, fun i j hi hj h => absurd h (by omega), fun i j hi hj h => absurd h (by omega)⟩
  ·repeat' first | exact trivial | exact rfl | refine And.intro ?_ ?_
  obtain ⟨s, t⟩ := z
  obtain ⟨b1, b2, b3, p1, p2⟩ := hz
  dsimp only at b1 b2 b3 p1 p2
  (conv => whnf)
  refine dec (fun h5 => ?_) (fun h5 => ?_)
  ·have h5 : s < t := by simp only [] at h5; omega
   (conv => whnf)
   refine ⟨i64 (by simp only []; omega) (by simp only []; omega), ?_⟩
   (conv => whnf)
   refine ⟨by decide, ?_⟩
   (conv => whnf)
   obtain ⟨q, hq⟩ : ∃ q, q = (s + t) / 2 := ⟨_, rfl⟩
   obtain ⟨i, hi⟩ : ∃ i, i = h - 1 - q := ⟨_, rfl⟩
   have hqX : q < X.length := by omega
   have hiY : i < Y.length := by omega
   have hqp := hpx _ (List.getElem_mem hqX)
   have hip := hpy _ (List.getElem_mem hiY)
   have hrow : A ++ X ++ Y ++ B = (A ++ X.take q) ++ X[q] :: ((X.drop (q + 1) ++ Y.take i) ++ Y[i] :: (Y.drop (i + 1) ++ B)) := by
    conv => lhs; rw [← List.take_append_drop q X, List.drop_eq_getElem_cons hqX, ← List.take_append_drop i Y, List.drop_eq_getElem_cons hiY]
    simp only [List.append_assoc, List.cons_append]
   have l1 : A.length + q = (A ++ X.take q).length := by rw [List.length_append, List.length_take]; omega
   have l2 : A.length + X.length + i = (A ++ X.take q).length + 1 + (X.drop (q + 1) ++ Y.take i).length := by rw [← l1, List.length_append, List.length_drop, List.length_take]; omega
   rw [half (e := (A.length : Int) + (((s, t).1 : Nat) : Int) + ((A.length : Int) + (((s, t).2 : Nat) : Int))) (k := A.length + q) (by simp only []; omega) (by simp only []; omega) (by simp only []; omega), hrow]
   refine ⟨false, .grow, (.l [0, 1, 2, 3, 4, 5, 6, 7, 8, 9, 10, 11, 12, 13]), by kernel_rfl, .inl ?_⟩
   (conv => whnf)
   refine ⟨i64 (by omega) (by omega), ?_⟩
   (conv => whnf)
   refine ⟨A.length + X.length + i, ⟨by omega, t_lt2 l2⟩, ?_⟩
   (conv => whnf)
   refine ⟨Y[i], t_get2 l2, ?_⟩
   (conv => whnf)
   refine ⟨A.length + q, ⟨rfl, t_lt l1⟩, ?_⟩
   (conv => whnf)
   refine ⟨X[q], t_get l1, ?_⟩
   (conv => whnf)
   refine cl [] [] (sortedF_spec Y[i] X[q] hip hqp) ?_
   rw [← hrow]
   (conv => whnf)
   refine decN (fun h6 => ?_) (fun h6 => ?_)
   ·have h6 : lessP Y[i].path X[q].path = false := by
     cases h7 : lessP Y[i].path X[q].path with
     | false => rfl
     | true => exact absurd (cmpP_neg.2 h7) h6
    (conv => whnf)
    refine ⟨i64 (by omega) (by omega), ?_⟩
    rw [show ((A.length + q : Nat) : Int) + 1 = (A.length : Int) + ((q + 1 : Nat) : Int) by omega]
    (conv => whnf)
    refine ag (q + 1, t) [] [.same 0] ⟨by simp only []; omega, by simp only []; omega, by simp only []; omega, fun i' j' hi' hj' _ e1 e2 => ?_, p2⟩ (by simp only []; omega) ?_
    ·obtain rfl : j' = q := by simp only [] at e2; omega
     obtain rfl : i' = i := by simp only [] at e1; omega
     exact h6
    ·repeat' first | exact trivial | exact rfl | refine And.intro ?_ ?_
   ·have h6 := cmpP_neg.1 h6
    rw [show ((A.length + q : Nat) : Int) = (A.length : Int) + (q : Nat) by omega]
    (conv => whnf)
    refine ag (s, q) [] [.same 0] ⟨by simp only []; omega, by simp only []; omega, by simp only []; omega, p1, fun i' j' hi' hj' _ e1 e2 => ?_⟩ (by simp only []; omega) ?_
    ·obtain rfl : j' = q := by simp only [] at e2; omega
     obtain rfl : i' = i := by simp only [] at e1; omega
     exact h6
    ·repeat' first | exact trivial | exact rfl | refine And.intro ?_ ?_
  ·obtain rfl : s = t := by simp only [] at h5; omega
   (conv => whnf)
   refine ⟨s, ⟨b1, b2, b3, p1, p2⟩, [], [.same 0], ?_⟩
   repeat' first | exact trivial | exact rfl | refine And.intro ?_ ?_
 obtain ⟨c1, c2⟩ := sym_cut wx wy hI hJ
 obtain ⟨b1, _, b3, _, _⟩ := id hJ
 obtain ⟨k, hk⟩ : ∃ k, k = h - s := ⟨_, rfl⟩
 rw [← hk] at c1 c2
 have eX : X.take s ++ X.drop s = X := List.take_append_drop s X
 have eY : Y.take k ++ Y.drop k = Y := List.take_append_drop k Y
 have lX1 : (X.take s).length = s := by rw [List.length_take]; omega
 have lX2 : (X.drop s).length = X.length - s := List.length_drop ..
 have lY1 : (Y.take k).length = k := by rw [List.length_take]; omega
 have lY2 : (Y.drop k).length = Y.length - k := List.length_drop ..
 have hsym := sym_ok (X1 := X.take s) (X2 := X.drop s) (Y1 := Y.take k) (Y2 := Y.drop k) (by rw [eX]; exact wx) (by rw [eY]; exact wy) c1 c2
 rw [eX, eY] at hsym
 have q1 : ∀ f ∈ X.take s, f.path.length ≤ 4000000 := fun f hf => hpx f (List.mem_of_mem_take hf)
 have q2 : ∀ f ∈ X.drop s, f.path.length ≤ 4000000 := fun f hf => hpx f (List.mem_of_mem_drop hf)
 have q3 : ∀ f ∈ Y.take k, f.path.length ≤ 4000000 := fun f hf => hpy f (List.mem_of_mem_take hf)
 have q4 : ∀ f ∈ Y.drop k, f.path.length ≤ 4000000 := fun f hf => hpy f (List.mem_of_mem_drop hf)
 obtain ⟨wX1, wX2, _⟩ := wk_parts (by rw [eX]; exact wx : Wk (X.take s ++ X.drop s))
 obtain ⟨wY1, wY2, _⟩ := wk_parts (by rw [eY]; exact wy : Wk (Y.take k ++ Y.drop k))
 have hrow : A ++ X ++ Y ++ B = (A ++ X.take s) ++ X.drop s ++ Y.take k ++ (Y.drop k ++ B) := by
  conv => lhs; rw [← eX, ← eY]
  simp only [List.append_assoc]
 rw [hrow, ← hsym]
 clear hsym hrow c1 c2
 generalize X.take s = X1 at *
 generalize X.drop s = X2 at *
 generalize Y.take k = Y1 at *
 generalize Y.drop k = Y2 at *
 refine XM.seq ?_
 (conv => whnf)
 refine ⟨i64 (by omega) (by omega), ?_⟩
 rw [show ((A.length + h : Nat) : Int) + ((A.length : Int) + X.length) - ((A.length : Int) + s) = (A.length : Int) + X.length + k by omega]
 (conv => whnf)
 have nil2 : X2.length = 0 → X2 = [] := List.eq_nil_of_length_eq_zero
 have nil1 : X1.length = 0 → X1 = [] := List.eq_nil_of_length_eq_zero
 have nil3 : Y1.length = 0 → Y1 = [] := List.eq_nil_of_length_eq_zero
 have nil4 : Y2.length = 0 → Y2 = [] := List.eq_nil_of_length_eq_zero
 have li1 := inOrd_len (X1 ++ Y1)
 rw [List.length_append] at li1
 refine XM.join (ι := Unit) (fun _ => ⟨[(0, .c (.rw 0)), (1, .c (.int .i64 A.length)), (2, .c (.int .i64 ((A.length : Int) + X.length))), (3, .c (.int .i64 ((A.length : Int) + X.length + Y.length))), (4, .c (.fn 174 [])), (18, .c (.int .i64 ((A.length + h : Nat) : Int))), (20, .c (.int .i64 ((A.length : Int) + s))), (24, .c (.int .i64 ((A.length : Int) + X.length + k)))], [.row 4 Fi encFi (A ++ X1 ++ Y1 ++ (X2 ++ Y2 ++ B))]⟩) (fun _ => True) ?_ (fun _ _ => ?_)
 ·(conv => whnf)
  refine dec (fun h3 => ?_) (fun h3 => ?_)
  ·(conv => whnf)
   refine dec (fun h4 => ?_) (fun h4 => ?_)
   ·(conv => whnf)
    refine cl [] [0] (rotate_spec (A ++ X1) X2 Y1 (Y2 ++ B) (by omega) (by omega) (by simp only [List.length_append]; omega) ((A.length : Int) + s) ((A.length : Int) + X.length) ((A.length : Int) + X.length + k) (by rw [List.length_append]; omega) (by rw [List.length_append]; omega) (by rw [List.length_append]; omega)) ?_
    rw [show A ++ X1 ++ Y1 ++ X2 ++ (Y2 ++ B) = A ++ X1 ++ Y1 ++ (X2 ++ Y2 ++ B) by simp]
    (conv => whnf)
    refine ⟨(), trivial, [], [.same 0], ?_⟩
    repeat' first | exact trivial | exact rfl | refine And.intro ?_ ?_
   ·rw [show A ++ X1 ++ X2 ++ Y1 ++ (Y2 ++ B) = A ++ X1 ++ Y1 ++ (X2 ++ Y2 ++ B) by rw [nil3 (by omega)]; simp]
    (conv => whnf)
    refine ⟨(), trivial, [], [.same 0], ?_⟩
    repeat' first | exact trivial | exact rfl | refine And.intro ?_ ?_
  ·rw [show A ++ X1 ++ X2 ++ Y1 ++ (Y2 ++ B) = A ++ X1 ++ Y1 ++ (X2 ++ Y2 ++ B) by rw [nil2 (by omega)]; simp]
   (conv => whnf)
   refine ⟨(), trivial, [], [.same 0], ?_⟩
   repeat' first | exact trivial | exact rfl | refine And.intro ?_ ?_
 refine XM.join (ι := Unit) (fun _ => ⟨[(0, .c (.rw 0)), (1, .c (.int .i64 A.length)), (2, .c (.int .i64 ((A.length : Int) + X.length))), (3, .c (.int .i64 ((A.length : Int) + X.length + Y.length))), (4, .c (.fn 174 [])), (18, .c (.int .i64 ((A.length + h : Nat) : Int))), (20, .c (.int .i64 ((A.length : Int) + s))), (24, .c (.int .i64 ((A.length : Int) + X.length + k)))], [.row 4 Fi encFi (A ++ inOrdP (X1 ++ Y1) ++ (X2 ++ Y2 ++ B))]⟩) (fun _ => True) ?_ (fun _ _ => ?_)
 ·(conv => whnf)
  refine dec (fun h3 => ?_) (fun h3 => ?_)
  ·(conv => whnf)
   refine dec (fun h4 => ?_) (fun h4 => ?_)
   ·(conv => whnf)
    refine cl [] [0] (ih A X1 Y1 (X2 ++ Y2 ++ B) (by omega) (by omega) (by omega) wX1 wY1 (by simp only [List.length_append]; omega) q1 q3 (A.length : Int) ((A.length : Int) + s) ((A.length + h : Nat) : Int) rfl (by omega) (by omega)) ?_
    (conv => whnf)
    refine ⟨(), trivial, [], [.same 0], ?_⟩
    repeat' first | exact trivial | exact rfl | refine And.intro ?_ ?_
   ·rw [show A ++ X1 ++ Y1 ++ (X2 ++ Y2 ++ B) = A ++ inOrdP (X1 ++ Y1) ++ (X2 ++ Y2 ++ B) by rw [nil3 (by omega), List.append_nil, List.append_nil, inOrd_id wX1]]
    (conv => whnf)
    refine ⟨(), trivial, [], [.same 0], ?_⟩
    repeat' first | exact trivial | exact rfl | refine And.intro ?_ ?_
  ·rw [show A ++ X1 ++ Y1 ++ (X2 ++ Y2 ++ B) = A ++ inOrdP (X1 ++ Y1) ++ (X2 ++ Y2 ++ B) by rw [nil1 (by omega), List.append_nil, List.nil_append, inOrd_id wY1]]
   (conv => whnf)
   refine ⟨(), trivial, [], [.same 0], ?_⟩
   repeat' first | exact trivial | exact rfl | refine And.intro ?_ ?_
 generalize inOrdP (X1 ++ Y1) = Z at *
 refine XM.of ?_
 (conv => whnf)
 refine dec (fun h3 => ?_) (fun h3 => ?_)
 ·(conv => whnf)
  refine dec (fun h4 => ?_) (fun h4 => ?_)
  ·rw [show A ++ Z ++ (X2 ++ Y2 ++ B) = (A ++ Z) ++ X2 ++ Y2 ++ B by simp]
   (conv => whnf)
   refine cl [] [0] (ih (A ++ Z) X2 Y2 B (by omega) (by omega) (by omega) wX2 wY2 (by simp only [List.length_append]; omega) q2 q4 ((A.length + h : Nat) : Int) ((A.length : Int) + X.length + k) ((A.length : Int) + X.length + Y.length) (by rw [List.length_append]; omega) (by rw [List.length_append]; omega) (by rw [List.length_append]; omega)) ?_
   rw [show A ++ (Z ++ inOrdP (X2 ++ Y2)) ++ B = A ++ Z ++ inOrdP (X2 ++ Y2) ++ B by simp]
   (conv => whnf)
   exact rx [] [.same 0]
  ·rw [show A ++ (Z ++ inOrdP (X2 ++ Y2)) ++ B = A ++ Z ++ (X2 ++ Y2 ++ B) by rw [nil4 (by omega), List.append_nil, inOrd_id wX2]; simp]
   (conv => whnf)
   exact rx [] [.same 0]
 ·rw [show A ++ (Z ++ inOrdP (X2 ++ Y2)) ++ B = A ++ Z ++ (X2 ++ Y2 ++ B) by rw [nil2 (by omega), List.nil_append, inOrd_id wY2]; simp]
  (conv => whnf)
  exact rx [] [.same 0]
end Go.Nest
end
/- part -/
section

namespace Go.Nest
open Go Go.AM Go.Proofs
open Go.Proofs.YtpechfcbnoggfaaGreatDoor (tab tabOk)
set_option maxRecDepth 4000
theorem srt_two {bs : Nat} {r : List Fi} (hb : 0 < bs) (h : 2 * bs ≤ r.length) : srt bs r = inOrdP (r.take bs) ++ inOrdP ((r.drop bs).take bs) ++ srt bs (r.drop (2 * bs)) ∧ inOrdP (inOrdP (r.take bs) ++ inOrdP ((r.drop bs).take bs)) = inOrdP (r.take (2 * bs)) := by
 have e : (r.drop bs).drop bs = r.drop (2 * bs) := by rw [List.drop_drop]; congr 1; omega
 refine ⟨?_, ?_⟩
 ·rw [srt_more hb (by omega), srt_more hb (by rw [List.length_drop]; omega), e, List.append_assoc]
 ·rw [inOrd_two]
  congr 1
  conv => rhs; rw [show 2 * bs = bs + bs by omega, List.take_add]
theorem srt_rest {bs : Nat} {r : List Fi} (hb : 0 < bs) (h1 : bs < r.length) (h2 : r.length < 2 * bs) : srt bs r = inOrdP (r.take bs) ++ inOrdP (r.drop bs) ∧ inOrdP (inOrdP (r.take bs) ++ inOrdP (r.drop bs)) = srt (2 * bs) r := by
 refine ⟨?_, ?_⟩
 ·rw [srt_more hb (by omega), srt_few (d := r.drop bs) (by rw [List.length_drop]; omega)]
 ·rw [inOrd_two, List.take_append_drop, srt_few (by omega)]
set_option maxHeartbeats 4000000 in
theorem stable_spec (d : List Fi) (hn : d.length ≤ 150) (hp : ∀ f ∈ d, f.path.length ≤ 4000000) (n : Int) (hn' : n = d.length) : Does Tryz.prog 251 [.c (.rw 0), .c (.int .i64 n), .c (.fn 174 [])] [.row 4 Fi encFi (d)] (Rt (.tup []) [.row 4 Fi encFi (inOrdP d)]) := by
 subst hn'
 refine X_spM (n := 63) (n0 := 1) tabOk Tryz.call251 Tryz.func251 ?_
 intro hb
 refine XM.seq ?_
 (conv => whnf)
 refine XM.seq ?_
 (conv => whnf)
 refine XM.join (ι := Nat × List Fi) (fun z => ⟨[(0, .c (.rw 0)), (1, .c (.int .i64 d.length)), (2, .c (.fn 174 [])), (6, .c (.int .i64 20)), (7, .c (.int .i64 z.1))], [.row 4 Fi encFi (z.2 ++ d.drop z.1)]⟩) (fun z => (z.1 ≤ d.length ∧ d.length < z.1 + 20) ∧ z.2.length = z.1 ∧ z.2 ++ srt 20 (d.drop z.1) = srt 20 d) ?_ (fun z hz => ?_)
 ·(conv => whnf)
  refine lp (Nat × List Fi) (fun z => ⟨[(0, .c (.rw 0)), (1, .c (.int .i64 d.length)), (2, .c (.fn 174 [])), (6, .c (.int .i64 20)), (7, .c (.int .i64 z.1)), (8, .c (.int .i64 ((z.1 : Int) + 20)))], [.row 4 Fi encFi (z.2 ++ d.drop z.1)]⟩) (fun z => (z.1 ≤ d.length) ∧ z.2.length = z.1 ∧ z.2 ++ srt 20 (d.drop z.1) = srt 20 d) (fun z => d.length - z.1) (0, []) [] [.same 0] ?_ ?_ (fun z hz => ?_)
  ·simp
  ·repeat' first | exact trivial | exact rfl | refine And.intro ?_ ?_
  obtain ⟨p, P⟩ := z
  obtain ⟨h1, h2, h3⟩ := hz
  dsimp only at h1 h2 h3
  (conv => whnf)
  refine dec (fun h4 => ?_) (fun h4 => ?_)
  ·have h4 : p + 20 ≤ d.length := by simp only [] at h4; omega
   have e : (p, P).2 ++ d.drop (p, P).1 = P ++ (d.drop p).take 20 ++ (d.drop p).drop 20 := by rw [List.append_assoc, List.take_append_drop]
   have e2 : (d.drop p).drop 20 = d.drop (p + 20) := List.drop_drop ..
   have ld : (d.drop p).length = d.length - p := List.length_drop ..
   have l20 : ((d.drop p).take 20).length = 20 := by rw [List.length_take]; omega
   have h5 := srt_more (bs := 20) (d := d.drop p) (by omega) (by omega)
   rw [e2] at h5
   rw [e]
   (conv => whnf)
   refine cl [] [0] (insertSort_spec P ((d.drop p).take 20) ((d.drop p).drop 20) (by rw [e2, List.length_drop]; omega) (fun f hf => hp f (List.mem_of_mem_drop (List.mem_of_mem_take hf))) p ((p : Int) + 20) (by omega) (by omega)) ?_
   (conv => whnf)
   refine ⟨i64 (by simp only []; omega) (by simp only []; omega), ?_⟩
   rw [e2, show ((((p, P).1 : Nat) : Int) + 20) = ((p + 20 : Nat) : Int) by simp only []; omega]
   (conv => whnf)
   refine ag (p + 20, P ++ inOrdP ((d.drop p).take 20)) [] [.same 0] ⟨h4, by rw [List.length_append, inOrd_len]; omega, by rw [List.append_assoc, ← h5, h3]⟩ (by simp only []; omega) ?_
   repeat' first | exact trivial | exact rfl | refine And.intro ?_ ?_
  ·(conv => whnf)
   refine ⟨(p, P), ⟨⟨h1, by simp only [] at h4; omega⟩, h2, h3⟩, [], [.same 0], ?_⟩
   repeat' first | exact trivial | exact rfl | refine And.intro ?_ ?_
 obtain ⟨p, P⟩ := z
 obtain ⟨⟨h1, h4⟩, h2, h3⟩ := hz
 dsimp only at h1 h2 h3 h4
 refine XM.seq ?_
 rw [show (p, P).2 ++ d.drop (p, P).1 = P ++ d.drop p ++ [] by simp]
 have ld : (d.drop p).length = d.length - p := List.length_drop ..
 (conv => whnf)
 refine cl [] [0] (insertSort_spec P (d.drop p) [] (by simp; omega) (fun f hf => hp f (List.mem_of_mem_drop hf)) p (d.length : Int) (by omega) (by omega)) ?_
 rw [show P ++ inOrdP (d.drop p) ++ [] = srt 20 d by rw [← h3, srt_few (by omega)]; simp]
 refine XM.of ?_
 have len : ∀ bs, (srt bs d).length = d.length := fun bs => srt_len d.length bs d (Nat.le_refl _)
 (conv => whnf)
 refine lp Nat (fun bs => ⟨[(0, .c (.rw 0)), (1, .c (.int .i64 d.length)), (2, .c (.fn 174 [])), (6, .c (.int .i64 bs))], [.row 4 Fi encFi (srt bs d)]⟩) (fun bs => (20 ≤ bs ∧ bs ≤ 400) ∧ True) (fun bs => 400 - bs) 20 [] [.same 0] ?_ ?_ (fun bs hbs => ?_)
 ·simp
 ·repeat' first | exact trivial | exact rfl | refine And.intro ?_ ?_
 obtain ⟨⟨g1, g2⟩, _⟩ := hbs
 (conv => whnf)
 refine dec (fun h5 => ?_) (fun h5 => ?_)
 ·have h5 : bs < d.length := by omega
  (conv => whnf)
  refine ⟨i64 (by omega) (by omega), ?_⟩
  rw [show (2 : Int) * (bs : Nat) = ((0 : Nat) : Int) + 2 * bs by omega]
  rw [show srt bs d = [] ++ srt bs (d.drop 0) by simp]
  (conv => whnf)
  refine lp (Nat × List Fi) (fun z => ⟨[(0, .c (.rw 0)), (1, .c (.int .i64 d.length)), (2, .c (.fn 174 [])), (6, .c (.int .i64 bs)), (7, .c (.int .i64 z.1)), (8, .c (.int .i64 ((z.1 : Int) + 2 * bs)))], [.row 4 Fi encFi (z.2 ++ srt bs (d.drop z.1))]⟩) (fun z => (z.1 ≤ d.length) ∧ z.2.length = z.1 ∧ z.2 ++ srt (2 * bs) (d.drop z.1) = srt (2 * bs) d) (fun z => d.length - z.1) (0, []) [] [.same 0] ?_ ?_ (fun z hz => ?_)
  ·simp
  ·repeat' first | exact trivial | exact rfl | refine And.intro ?_ ?_
  obtain ⟨p, P⟩ := z
  obtain ⟨k1, k2, k3⟩ := hz
  dsimp only at k1 k2 k3
  have ld : (d.drop p).length = d.length - p := List.length_drop ..
  have mem : ∀ (l : List Fi), (∀ f ∈ l, f ∈ d.drop p) → ∀ f ∈ inOrdP l, f.path.length ≤ 4000000 := fun l hl f hf => hp f (List.mem_of_mem_drop (hl f ((inOrd_perm _).mem_iff.1 hf)))
  (conv => whnf)
  refine dec (fun h6 => ?_) (fun h6 => ?_)
  ·have h6 : p + 2 * bs ≤ d.length := by simp only [] at h6; omega
   obtain ⟨m1, m2⟩ := srt_two (r := d.drop p) (bs := bs) (by omega) (by omega)
   have m3 := srt_more (bs := 2 * bs) (d := d.drop p) (by omega) (by omega)
   have e2 : (d.drop p).drop (2 * bs) = d.drop (p + 2 * bs) := List.drop_drop ..
   rw [e2] at m1 m3
   have u1 : (inOrdP ((d.drop p).take bs)).length = bs := by rw [inOrd_len, List.length_take]; omega
   have u2 : (inOrdP (((d.drop p).drop bs).take bs)).length = bs := by rw [inOrd_len, List.length_take, List.length_drop]; omega
   have u3 := srt_len (d.drop (p + 2 * bs)).length bs (d.drop (p + 2 * bs)) (Nat.le_refl _)
   rw [List.length_drop] at u3
   rw [show (p, P).2 ++ srt bs (d.drop (p, P).1) = P ++ inOrdP ((d.drop p).take bs) ++ inOrdP (((d.drop p).drop bs).take bs) ++ srt bs (d.drop (p + 2 * bs)) by rw [show d.drop (p, P).1 = d.drop p from rfl, m1]; simp]
   (conv => whnf)
   refine ⟨i64 (by simp only []; omega) (by simp only []; omega), ?_⟩
   (conv => whnf)
   refine cl [] [0] (symMerge_spec 1000 P (inOrdP ((d.drop p).take bs)) (inOrdP (((d.drop p).drop bs).take bs)) (srt bs (d.drop (p + 2 * bs))) (by omega) (by omega) (by omega) (inOrd_wk _) (inOrd_wk _) (by omega) (mem _ fun f hf => List.mem_of_mem_take hf) (mem _ fun f hf => List.mem_of_mem_drop (List.mem_of_mem_take hf)) p ((p : Int) + bs) ((p : Int) + 2 * bs) (by omega) (by omega) (by omega)) ?_
   rw [m2]
   (conv => whnf)
   refine ⟨i64 (by omega) (by omega), ?_⟩
   (conv => whnf)
   refine ⟨i64 (by simp only []; omega) (by simp only []; omega), ?_⟩
   rw [show ((((p, P).1 : Nat) : Int) + 2 * (bs : Nat)) = ((p + 2 * bs : Nat) : Int) by simp only []; omega]
   (conv => whnf)
   refine ag (p + 2 * bs, P ++ inOrdP ((d.drop p).take (2 * bs))) [] [.same 0] ⟨h6, by rw [List.length_append, inOrd_len, List.length_take]; omega, by rw [List.append_assoc, ← m3, k3]⟩ (by simp only []; omega) ?_
   repeat' first | exact trivial | exact rfl | refine And.intro ?_ ?_
  ·have h6 : d.length < p + 2 * bs := by simp only [] at h6; omega
   (conv => whnf)
   refine ⟨i64 (by simp only []; omega) (by simp only []; omega), ?_⟩
   (conv => whnf)
   refine dec (fun h7 => ?_) (fun h7 => ?_)
   ·have h7 : p + bs < d.length := by simp only [] at h7; omega
    obtain ⟨m1, m2⟩ := srt_rest (r := d.drop p) (bs := bs) (by omega) (by omega) (by omega)
    have u1 : (inOrdP ((d.drop p).take bs)).length = bs := by rw [inOrd_len, List.length_take]; omega
    have u2 : (inOrdP ((d.drop p).drop bs)).length = d.length - p - bs := by rw [inOrd_len, List.length_drop]; omega
    rw [show (p, P).2 ++ srt bs (d.drop (p, P).1) = P ++ inOrdP ((d.drop p).take bs) ++ inOrdP ((d.drop p).drop bs) ++ [] by rw [show d.drop (p, P).1 = d.drop p from rfl, m1]; simp]
    (conv => whnf)
    refine cl [] [0] (symMerge_spec 1000 P (inOrdP ((d.drop p).take bs)) (inOrdP ((d.drop p).drop bs)) [] (by omega) (by omega) (by omega) (inOrd_wk _) (inOrd_wk _) (by rw [List.length_nil]; omega) (mem _ fun f hf => List.mem_of_mem_take hf) (mem _ fun f hf => List.mem_of_mem_drop hf) p ((p : Int) + bs) (d.length : Int) (by omega) (by omega) (by omega)) ?_
    rw [m2, show P ++ srt (2 * bs) (d.drop p) ++ [] = srt (2 * bs) d by rw [k3]; simp]
    (conv => whnf)
    refine ⟨i64 (by omega) (by omega), ?_⟩
    rw [show (bs : Int) * 2 = ((2 * bs : Nat) : Int) by omega]
    (conv => whnf)
    refine ag (2 * bs) [] [.same 0] ⟨⟨by omega, by omega⟩, trivial⟩ (by simp only []; omega) ?_
    repeat' first | exact trivial | exact rfl | refine And.intro ?_ ?_
   ·have h7 : d.length ≤ p + bs := by simp only [] at h7; omega
    rw [show (p, P).2 ++ srt bs (d.drop (p, P).1) = srt (2 * bs) d by rw [← k3, show d.drop (p, P).1 = d.drop p from rfl, srt_few (bs := bs) (by omega), srt_few (bs := 2 * bs) (by omega)]]
    (conv => whnf)
    refine ⟨i64 (by omega) (by omega), ?_⟩
    rw [show (bs : Int) * 2 = ((2 * bs : Nat) : Int) by omega]
    (conv => whnf)
    refine ag (2 * bs) [] [.same 0] ⟨⟨by omega, by omega⟩, trivial⟩ (by simp only []; omega) ?_
    repeat' first | exact trivial | exact rfl | refine And.intro ?_ ?_
 ·rw [srt_few (by omega)]
  (conv => whnf)
  exact rx [] [.same 0]
theorem sortStable_spec (d : List Fi) (hn : d.length ≤ 150) (hp : ∀ f ∈ d, f.path.length ≤ 4000000) : Does Tryz.prog 173 [.c (.rw 0), .c (.fn 174 [])] [.row 4 Fi encFi (d)] (Rt (.tup []) [.row 4 Fi encFi (inOrdP d)]) := by
 refine X_spec (n := 9) (n0 := 1) tabOk Tryz.call173 Tryz.func173 ?_
 intro hb
 (conv => whnf)
 refine cl [] [0] (stable_spec d hn hp d.length rfl) ?_
 (conv => whnf)
 exact rx [] [.same 0]
theorem cloneFis_spec (l : List Fi) (hl : l.length * 40 ≤ 140737488355328) : Does Tryz.prog 172 [.c (.bs 4 Fi encFi l)] [] (Rt (.c (.rw 0)) [.row 4 Fi encFi l]) := by
 refine X_spec (n := 8) (n0 := 0) tabOk Tryz.call172 Tryz.func172 ?_
 intro hb
 (conv => whnf)
 intro q hq
 (conv => whnf)
 refine boo (fun h => ?_) (fun h => ?_)
 ·obtain rfl := hq h
  (conv => whnf)
  exact rx [] [.new]
 ·(conv => whnf)
  refine ⟨[], rfl, ?_⟩
  (conv => whnf)
  refine ⟨_, _, rfl, rfl, (by simp only [List.length_append, List.length_cons, List.length_nil]; omega), ?_⟩
  (conv => whnf)
  exact rx [] [.same 1]
theorem sorted_spec (d : List Fi) (hn : d.length ≤ 150) (hp : ∀ f ∈ d, f.path.length ≤ 4000000) : Does Tryz.prog 100 [.c (.bs 4 Fi encFi d)] [] (Rt (.c (.rw 0)) [.row 4 Fi encFi (inOrdP d)]) := by
 refine X_spec (n := 9) (n0 := 0) tabOk Tryz.call100 Tryz.func100 ?_
 intro hb
 (conv => whnf)
 refine cl [] [] (cloneFis_spec d (by omega)) ?_
 (conv => whnf)
 refine cl [] [0] (sortStable_spec d hn hp) ?_
 (conv => whnf)
 exact rx [] [.same 0]
end Go.Nest
end
/- part -/
section

namespace Go.Nest
open Go Go.AM Go.Proofs
open Go.Proofs.YtpechfcbnoggfaaGreatDoor (tab tabOk)
set_option maxRecDepth 4000
theorem path_short' {p : List UInt8} (h : (splitP p).2 = 0) : p.length ≤ 168 := by
 obtain ⟨h1, h2, _⟩ := split_zero h
 have h3 := unsp_bound (spl p) fun s hs => name_len (namesF_all h1 s hs)
 rw [unsp_spl] at h3
 omega
theorem files_sum {L : List Ob} (hL : PoolOk L) (t : Int) : (filesP L t).1.length ≤ 60 ∧ ∀ f ∈ (filesP L t).1, f.path.length ≤ 4000 := by
 by_cases h : (filesP L t).2 = 0
 ·obtain ⟨h1, h2, h3⟩ := files_told hL h
  have hc := tree_check hL h1 h2 h3
  refine ⟨h2, fun f hf => ?_⟩
  have := path_short' ((filesF_all hc).2 f hf).1
  omega
 ·rw [files_nil h]
  exact ⟨Nat.zero_le _, fun f hf => by cases hf⟩
end Go.Nest
end
/- part -/
section

namespace Go.Nest
open Go Go.AM Go.Proofs
open Go.Proofs.YtpechfcbnoggfaaGreatDoor (tab tabOk)
set_option maxRecDepth 4000
theorem ib_lt {c : UInt8} : ∀ {l : List UInt8}, 0 ≤ Lib.indexByte l c → (Lib.indexByte l c).toNat < l.length
 | [], h => by exact absurd h (by simp [Lib.indexByte])
 | b :: r, h => by
  unfold Lib.indexByte at h ⊢
  split
  ·simp
  ·rename_i hb
   rw [if_neg hb] at h
   split
   ·rename_i h1
    rw [if_pos h1] at h
    exact absurd h (by decide)
   ·rename_i h1
    rw [if_neg h1] at h
    have h2 : Lib.indexByte r c ≠ -1 := by simpa using h1
    have h3 : 0 ≤ Lib.indexByte r c := by omega
    have := ib_lt h3
    simp only [List.length_cons]
    omega
def cutC (c : UInt8) (s : List UInt8) : List UInt8 × List UInt8 × Bool := if 0 ≤ Lib.indexByte s c then (s.take (Lib.indexByte s c).toNat, s.drop ((Lib.indexByte s c).toNat + 1), true) else (s, [], false)
theorem ibC_spec (c : UInt8) {dr : Bool} (l : List UInt8) : DoesD dr Tryz.prog 310 [.c (.str l), .c (.int .u8 c.toNat)] [] (Rt (.c (.int .i64 (Lib.indexByte l c))) []) := by
 refine ext_spec (e := Extern.BytealgIndexByte.indexByte) Tryz.func310 (by decide) rfl rfl rfl rfl (fun F H m vs w h => ?_)
 match vs, h with
 | [v1, v2], ⟨h1, h2, _⟩ =>
  cases h1 with
  | str _ _ =>
   cases h2 with
   | int _ =>
    have hr := Lib.run_indexByteString (P := Tryz.prog) ⟨l.toArray⟩ (c.toNat : Int) w
    rw [show ((c.toNat : Int).toNat).toUInt8 = c by simp] at hr
    exact ⟨_, hr, fun F H m => .int .nl⟩
theorem sibC_spec (c : UInt8) {dr : Bool} (l : List UInt8) : DoesD dr Tryz.prog 260 [.c (.str l), .c (.int .u8 c.toNat)] [] (Rt (.c (.int .i64 (Lib.indexByte l c))) []) := by
 refine X_spec (n := 8) (n0 := 0) tabOk Tryz.call260 Tryz.func260 ?_
 intro hb
 (conv => whnf)
 refine cl [] [] (ibC_spec c l) ?_
 (conv => whnf)
 exact rtI rfl
theorem siC_spec (c : UInt8) {dr : Bool} (l : List UInt8) : DoesD dr Tryz.prog 185 [.c (.str l), .c (.str [c])] [] (Rt (.c (.int .i64 (Lib.indexByte l c))) []) := by
 refine X_spec (n := 143) (n0 := 0) tabOk Tryz.call185 Tryz.func185 ?_
 intro hb
 repeat' ((conv => whnf); first | (refine dec (fun h => ?_) (fun h => ?_) <;> try contradiction) | refine rtI ?_ | fail)
 ·obtain rfl : l = [c] := h.symm
  simp [Lib.indexByte]
 ·(conv => whnf)
  refine ⟨0, c, rfl, rfl, ?_⟩
  (conv => whnf)
  refine cl [] [] (sibC_spec c l) ?_
  (conv => whnf)
  exact rtI rfl
theorem sxC_spec (c : UInt8) {dr : Bool} (l : List UInt8) : DoesD dr Tryz.prog 111 [.c (.str l), .c (.str [c])] [] (Rt (.c (.int .i64 (Lib.indexByte l c))) []) := by
 refine X_spec (n := 8) (n0 := 0) tabOk Tryz.call111 Tryz.func111 ?_
 intro hb
 (conv => whnf)
 refine cl [] [] (siC_spec c l) ?_
 (conv => whnf)
 exact rtI rfl
theorem containsC_spec (c : UInt8) (l : List UInt8) : Does Tryz.prog 45 [.c (.str l), .c (.str [c])] [] (Rt (.c (.bool (decide (0 ≤ Lib.indexByte l c)))) []) := by
 refine X_spec (n := 9) (n0 := 0) tabOk Tryz.call45 Tryz.func45 ?_
 intro hb
 (conv => whnf)
 refine cl [] [] (sxC_spec c l) ?_
 (conv => whnf)
 exact rtB rfl
theorem cutCL_spec (c : UInt8) (s : List UInt8) : Does Tryz.prog 186 [.c (.str s), .c (.str [c])] [] (Rt (.tup [(false, [.str (cutC c s).1]), (false, [.str (cutC c s).2.1]), (false, [.bool (cutC c s).2.2])]) []) := by
 refine X_spec (n := 23) (n0 := 0) tabOk Tryz.call186 Tryz.func186 ?_
 intro hb
 have hb : s.length ≤ 9223372036854775807 := hb.1.1
 (conv => whnf)
 refine cl [] [] (siC_spec c s) ?_
 repeat' ((conv => whnf); first | (refine dec (fun h => ?_) (fun h => ?_) <;> try contradiction) | fail)
 ·have hlt : (Lib.indexByte s c).toNat < s.length := ib_lt h
  have hc : cutC c s = (s.take (Lib.indexByte s c).toNat, s.drop ((Lib.indexByte s c).toNat + 1), true) := by unfold cutC; rw [if_pos h]
  rw [hc]
  (conv => whnf)
  refine ⟨false, .grow, (.l [0, 1, 2, 3, 4, 5, 6, 7, 8, 9, 10, 11]), by kernel_rfl, .inl ?_⟩
  (conv => whnf)
  refine ⟨0, (Lib.indexByte s c).toNat, rfl, (Int.toNat_of_nonneg h).symm, ⟨Nat.zero_le _, by omega⟩, ?_⟩
  refine ⟨i64 (by simp; omega) (by simp; omega), ?_⟩
  (conv => whnf)
  refine ⟨(Lib.indexByte s c).toNat + 1, s.length, ?_, rfl, ⟨by omega, Nat.le_refl _⟩, ?_⟩
  ·simp; omega
  (conv => whnf)
  have e1 : s.take s.length = s := List.take_of_length_le (Nat.le_refl _)
  rw [e1]
  exact rx [] []
 ·have hc : cutC c s = (s, [], false) := by unfold cutC; rw [if_neg h]
  rw [hc]
  (conv => whnf)
  exact rx [] []
theorem cutC_spec (c : UInt8) (s : List UInt8) : Does Tryz.prog 112 [.c (.str s), .c (.str [c])] [] (Rt (.tup [(false, [.str (cutC c s).1]), (false, [.str (cutC c s).2.1]), (false, [.bool (cutC c s).2.2])]) []) := by
 refine X_spec (n := 13) (n0 := 0) tabOk Tryz.call112 Tryz.func112 ?_
 intro hb
 (conv => whnf)
 refine cl [] [] (cutCL_spec c s) ?_
 (conv => whnf)
 exact rx [] []
theorem indexT_spec (l : List (List UInt8)) (n : List UInt8) : Does Tryz.prog 187 [.c (.bs 1 (List UInt8) encS l), .c (.str n)] [] (Rt (.c (.int .i64 (idxF (fun x => decide (x = n)) l))) []) := by
 refine X_spec (n := 19) (n0 := 0) tabOk Tryz.call187 Tryz.func187 ?_
 intro hb; have hb : l.length ≤ 9223372036854775807 := hb.1.1
 (conv => whnf)
 refine lp Nat (fun i => ⟨[(0, .c (.bs 1 (List UInt8) encS l)), (1, .c (.str n)), (7, .c (.int .i64 l.length)), (8, .c (.int .i64 i))], []⟩) (fun i => i ≤ l.length ∧ (l.take i).any (fun x => decide (x = n)) = false) (fun i => l.length - i) 0 [] [] ?_ ?_ (fun i hi => ?_)
 ·simp
 ·repeat' first | exact trivial | exact rfl | refine And.intro ?_ ?_
 (conv => whnf)
 refine dec (fun h4 => ?_) (fun h4 => ?_)
 ·have hlt : i < l.length := by omega
  repeat' ((conv => whnf); first | (refine dec (fun h => ?_) (fun h => ?_) <;> try contradiction) | refine ⟨i64 (by omega) (by omega), ?_⟩ | refine ⟨_, _, rfl, List.getElem?_eq_getElem (by omega), ?_⟩ | refine rtI ?_ | fail)
  ·exact idxF_at hlt hi.2 (by simpa using h.symm)
  ·refine ag (i + 1) [] [] ⟨hlt, any_take hlt hi.2 (by simpa using fun e => h (Eq.symm e))⟩ (by simp only []; omega) ?_
   repeat' first | exact trivial | exact rfl | refine And.intro ?_ ?_
 ·repeat' ((conv => whnf); first | refine rtI ?_ | fail)
  have := hi.2
  rw [List.take_of_length_le (by omega)] at this
  exact idxF_none this
end Go.Nest
end
/- part -/
section

namespace Go.Nest
open Go Go.AM Go.Proofs
open Go.Proofs.YtpechfcbnoggfaaGreatDoor (tab tabOk)
set_option maxRecDepth 4000
def namesT : List (List UInt8) := [[119, 114, 105, 116, 101], [114, 101, 109, 111, 118, 101], [108, 105, 110, 107], [99, 111, 109, 109, 105, 116], [99, 104, 101, 99, 107, 111, 117, 116], [109, 101, 114, 103, 101], [98, 114, 97, 110, 99, 104], [100, 101, 108, 101, 116, 101], [102, 101, 116, 99, 104], [98, 111, 114, 114, 111, 119], [115, 119, 101, 101, 112], [115, 112, 108, 105, 116], [100, 111, 99, 115], [115, 116, 97, 116, 117, 115], [114, 101, 102, 115], [119, 104, 111, 108, 101], [111, 119, 110]]
def shapesT : List (List UInt8) := [[110, 119, 116], [110, 119], [110, 119, 110, 119], [110, 119, 116], [110, 119], [110, 119], [110, 119], [110, 119], [110, 110, 119], [110, 110], [], [110, 119, 119], [110], [110], [110], [110], [110]]
def placeT (w : List UInt8) : Int := idxF (fun x => decide (x = w)) namesT
def shapeT (w : List UInt8) : List UInt8 × Bool := if placeT w < 0 then ([], false) else (shapesT.getD (placeT w).toNat [], true)
theorem place_lt (w : List UInt8) (h : ¬ placeT w < 0) : ∃ i x : _, placeT w = ((i : Nat) : Int) ∧ i < 17 ∧ shapesT[i]? = some x ∧ shapeT w = (x, true) := by
 have h0 := h
 unfold placeT idxF at h
 cases hf : namesT.findIdx? (fun x => decide (x = w)) with
 | none => rw [hf] at h; exact absurd (by decide) h
 | some i =>
  have hp : placeT w = (i : Int) := by unfold placeT idxF; rw [hf]
  have hi : i < 17 := by
   rw [List.findIdx?_eq_some_iff_getElem] at hf
   exact hf.1
  have hx : shapesT[i]? = some (shapesT[i]'hi) := List.getElem?_eq_getElem hi
  refine ⟨i, _, hp, hi, hx, ?_⟩
  unfold shapeT
  rw [if_neg h0, hp, Int.toNat_natCast, List.getD_eq_getElem?_getD, hx]
  rfl
theorem shape_spec (w : List UInt8) : Does Tryz.prog 113 [.c (.str w)] [] (Rt (.tup [(false, [.str (shapeT w).1]), (false, [.bool (shapeT w).2])]) []) := by
 refine X_spec (n := 16) (n0 := 0) tabOk Tryz.call113 Tryz.func113 ?_
 intro hb
 (conv => whnf)
 refine ⟨namesT, rfl, ?_⟩
 (conv => whnf)
 refine cl [] [] (indexT_spec namesT w) ?_
 (conv => whnf)
 refine dec (fun h => ?_) (fun h => ?_)
 ·have h : placeT w < 0 := h
  rw [show shapeT w = ([], false) by unfold shapeT; rw [if_pos h]]
  (conv => whnf)
  exact rx [] []
 ·have h : ¬ placeT w < 0 := h
  obtain ⟨i, x, h1, h2, h3, h4⟩ := place_lt w h
  rw [h4]
  (conv => whnf)
  refine ⟨shapesT, rfl, ?_⟩
  (conv => whnf)
  refine ⟨i, ⟨h1, h2⟩, x, h3, ?_⟩
  (conv => whnf)
  exact rx [] []
end Go.Nest
end
