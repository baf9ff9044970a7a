/- WALKS, Q4: two neighbours in order, put together. -/
import Derived.Test.YtkoiljgjipmhbaaGreatDoorQ3
section
namespace Go.Nest
open Go Go.AM Go.Proofs
open Go.Proofs.YtkoiljgjipmhbaaGreatDoor (tab tabOk)
set_option linter.unusedVariables false
set_option linter.unusedSimpArgs false
set_option maxRecDepth 4000
theorem wk_le {Y : List Fi} (h : Wk Y) {i j : Nat} (hij : i < j) (hj : j < Y.length) : lessP Y[j].path (Y[i]'(by omega)).path = false := (List.pairwise_iff_getElem.1 h) i j (by omega) hj hij
theorem lt_take {Y : List Fi} {x : Fi} (h : Wk Y) {q : Nat} (hq : q < Y.length) (hl : lessP Y[q].path x.path = true) : ∀ y ∈ Y.take (q + 1), lessP y.path x.path = true := by
  intro y hy
  obtain ⟨i, hi, e⟩ := List.mem_take_iff_getElem.1 hy
  subst e
  by_cases e : i = q
  · subst e; exact hl
  · exact le_lt (wk_le h (by omega) hq) hl
theorem ge_drop {Y : List Fi} {x : Fi} (h : Wk Y) {q : Nat} (hq : q < Y.length) (hl : lessP Y[q].path x.path = false) : ∀ y ∈ Y.drop q, lessP y.path x.path = false := by
  intro y hy
  obtain ⟨i, hi, e⟩ := List.mem_drop_iff_getElem.1 hy
  subst e
  by_cases e : i = 0
  · subst e; exact hl
  · exact le_trans' hl (wk_le h (i := q) (j := q + i) (by omega) (by omega))
theorem ge_take {X : List Fi} {y : Fi} (h : Wk X) {q : Nat} (hq : q < X.length) (hl : lessP y.path X[q].path = false) : ∀ x ∈ X.take (q + 1), lessP y.path x.path = false := by
  intro x hx
  obtain ⟨i, hi, e⟩ := List.mem_take_iff_getElem.1 hx
  subst e
  by_cases e : i = q
  · subst e; exact hl
  · exact le_trans' (wk_le h (by omega) hq) hl
theorem lt_drop {X : List Fi} {y : Fi} (h : Wk X) {q : Nat} (hq : q < X.length) (hl : lessP y.path X[q].path = true) : ∀ x ∈ X.drop q, lessP y.path x.path = true := by
  intro x hx
  obtain ⟨i, hi, e⟩ := List.mem_drop_iff_getElem.1 hx
  subst e
  by_cases e : i = 0
  · subst e; exact hl
  · exact lt_le hl (wk_le h (i := q) (j := q + i) (by omega) (by omega))

theorem half {e : Int} {k : Nat} (h : e / 2 = k) (h0 : 0 ≤ e) (h1 : e ≤ 4000) : IntKind.i64.wrap ((IntKind.u64.wrap e).fdiv (2 ^ min (Int.toNat 1) IntKind.u64.bits)) = (k : Int) := by
  have e1 : (2 : Int) ^ min (Int.toNat 1) IntKind.u64.bits = 2 := by decide
  rw [IntKind.wrap_u64, IntKind.wrap_i64, e1, Int.fdiv_eq_ediv_of_nonneg _ (by omega)]
  omega
set_option maxHeartbeats 4000000 in
theorem symOne_spec (A Y B : List Fi) (x : Fi) (hy : 0 < Y.length) (wy : Wk Y) (hn : A.length + 1 + Y.length + B.length ≤ 1000) (hpx : x.path.length ≤ 4000000) (hp : ∀ f ∈ Y, f.path.length ≤ 4000000) (a m b : Int) (ha : a = A.length) (hm : m = A.length + 1) (hb' : b = A.length + 1 + Y.length) : Does Tryz.prog 112 [.c (.rw 0), .c (.int .i64 a), .c (.int .i64 m), .c (.int .i64 b), .c (.fn 60 [])] [.row 4 Fi encFi (A ++ [x] ++ Y ++ B)] (Rt (.tup []) [.row 4 Fi encFi (A ++ inOrdP ([x] ++ Y) ++ B)]) := by
  subst ha; subst hm; subst hb'
  refine X_spec ⟨Tryz.prog, tab, 220, 1⟩ tabOk (by kernel_rfl) Tryz.call112 Tryz.func112 rfl rfl (by kernel_rfl) rfl ?_
  intro hb
  (conv => whnf)
  refine ⟨i64 (by omega) (by omega), ?_⟩
  (conv => whnf)
  refine dec (fun _ => ?_) (fun h => absurd (by omega) h)
  (conv => whnf)
  have hx0 : A ++ [x] ++ Y ++ B = A ++ x :: (Y ++ B) := by simp
  rw [hx0]
  refine lp (Nat × Nat) (fun z => ⟨[(0, .c (.rw 0)), (1, .c (.int .i64 A.length)), (4, .c (.fn 60 [])), (10, .c (.int .i64 ((A.length : Int) + 1 + z.1))), (11, .c (.int .i64 ((A.length : Int) + 1 + z.2)))], [.row 4 Fi encFi (A ++ x :: (Y ++ B))]⟩) (fun z => (z.1 ≤ z.2 ∧ z.2 ≤ Y.length) ∧ (∀ y ∈ Y.take z.1, lessP y.path x.path = true) ∧ ∀ y ∈ Y.drop z.2, lessP y.path x.path = false) (fun z => z.2 - z.1) (0, Y.length) [] [.same 0] ?_ ?_ (fun z hz => ?_)
  · exact ⟨⟨Nat.zero_le _, Nat.le_refl _⟩, by simp, by simp⟩
  · rw [show ((A.length : Int) + 1) = A.length + 1 + ((0 : Nat) : Int) by omega]
    repeat' first | exact trivial | exact rfl | refine And.intro ?_ ?_
  obtain ⟨lo, hi⟩ := z
  obtain ⟨⟨h1, h2⟩, h3, h4⟩ := hz
  dsimp only at h1 h2 h3 h4
  (conv => whnf)
  refine dec (fun h5 => ?_) (fun h5 => ?_)
  · have h5 : lo < hi := by simp only [] at h5; omega
    (conv => whnf)
    refine ⟨i64 (by simp only []; omega) (by simp only []; omega), ?_⟩
    (conv => whnf)
    refine ⟨by decide, ?_⟩
    (conv => whnf)
    obtain ⟨q, hq⟩ : ∃ q, q = (lo + hi) / 2 := ⟨_, rfl⟩
    have hqY : q < Y.length := by omega
    have hqp := hp _ (List.getElem_mem hqY)
    have hrow : A ++ x :: (Y ++ B) = A ++ x :: (Y.take q ++ Y[q] :: (Y.drop (q + 1) ++ B)) := by
      conv => lhs; rw [← List.take_append_drop q Y, List.drop_eq_getElem_cons hqY]
      simp only [List.append_assoc, List.cons_append]
    have l1 : A.length = A.length := rfl
    have l2 : A.length + 1 + q = A.length + 1 + (Y.take q).length := by rw [List.length_take]; omega
    rw [half (e := (A.length : Int) + 1 + (((lo, hi).1 : Nat) : Int) + ((A.length : Int) + 1 + (((lo, hi).2 : Nat) : Int))) (k := A.length + 1 + q) (by simp only []; omega) (by simp only []; omega) (by simp only []; omega), hrow]
    refine ⟨false, (.l [0, 1, 2, 3, 4, 5, 6, 7, 8, 9, 10]), by kernel_rfl, .inl ?_⟩
    (conv => whnf)
    refine ⟨A.length + 1 + q, ⟨rfl, t_lt2 l2⟩, ?_⟩
    (conv => whnf)
    refine ⟨Y[q], t_get2 l2, ?_⟩
    (conv => whnf)
    refine ⟨A.length, ⟨rfl, t_lt l1⟩, ?_⟩
    (conv => whnf)
    refine ⟨x, t_get l1, ?_⟩
    (conv => whnf)
    refine cl [] [] (sortedF_spec Y[q] x hqp hpx) (by (repeat' first | exact trivial | exact rfl | refine And.intro ?_ ?_); first | done | fail) (by first | exact trivial | exact rfl) ?_
    rw [← hrow]
    (conv => whnf)
    refine dec (fun h6 => ?_) (fun h6 => ?_)
    · have h6 := cmpP_neg.1 h6
      (conv => whnf)
      refine ⟨i64 (by omega) (by omega), ?_⟩
      rw [show ((A.length + 1 + q : Nat) : Int) + 1 = (A.length : Int) + 1 + ((q + 1 : Nat) : Int) by omega]
      (conv => whnf)
      refine ag (q + 1, hi) [] [.same 0] ⟨⟨by simp only []; omega, h2⟩, lt_take wy hqY h6, h4⟩ (by simp only []; omega) ?_
      repeat' first | exact trivial | exact rfl | refine And.intro ?_ ?_
    · have h6 : lessP Y[q].path x.path = false := by
        cases h7 : lessP Y[q].path x.path with
        | false => rfl
        | true => exact absurd (cmpP_neg.2 h7) h6
      rw [show ((A.length + 1 + q : Nat) : Int) = (A.length : Int) + 1 + (q : Nat) by omega]
      (conv => whnf)
      refine ag (lo, q) [] [.same 0] ⟨⟨by simp only []; omega, by simp only []; omega⟩, h3, ge_drop wy hqY h6⟩ (by simp only []; omega) ?_
      repeat' first | exact trivial | exact rfl | refine And.intro ?_ ?_
  · have h5 : lo = hi := by simp only [] at h5; omega
    subst h5
    have hfin := one_front wy h3 h4
    rw [show A ++ x :: (Y ++ B) = A ++ (Y.take 0 ++ x :: Y.drop 0) ++ B by simp]
    (conv => whnf)
    refine lp Nat (fun t => ⟨[(0, .c (.rw 0)), (10, .c (.int .i64 ((A.length : Int) + 1 + lo))), (13, .c (.int .i64 ((A.length : Int) + t)))], [.row 4 Fi encFi (A ++ (Y.take t ++ x :: Y.drop t) ++ B)]⟩) (fun t => t ≤ lo ∧ True) (fun t => lo - t) 0 [] [.same 0] ?_ ?_ (fun t ht => ?_)
    · simp
    · rw [show (A.length : Int) = A.length + ((0 : Nat) : Int) by omega]
      repeat' first | exact trivial | exact rfl | refine And.intro ?_ ?_
    (conv => whnf)
    refine ⟨i64 (by omega) (by omega), ?_⟩
    (conv => whnf)
    refine dec (fun h6 => ?_) (fun h6 => ?_)
    · have htl : t < Y.length := by omega
      have hD : A ++ (Y.take t ++ x :: Y.drop t) ++ B = (A ++ Y.take t) ++ x :: ([] ++ Y[t] :: (Y.drop (t + 1) ++ B)) := by
        rw [List.drop_eq_getElem_cons htl]; simp only [List.append_assoc, List.cons_append, List.nil_append]
      have hE : A ++ (Y.take (t + 1) ++ x :: Y.drop (t + 1)) ++ B = (A ++ Y.take t) ++ Y[t] :: ([] ++ x :: (Y.drop (t + 1) ++ B)) := by
        rw [List.take_succ_eq_append_getElem htl]; simp only [List.append_assoc, List.cons_append, List.nil_append]
      have l1 : A.length + t = (A ++ Y.take t).length := by rw [List.length_append, List.length_take]; omega
      have l2 : A.length + (t + 1) = (A ++ Y.take t).length + 1 + ([] : List Fi).length := by rw [← l1]; simp; omega
      rw [hD]
      (conv => whnf)
      refine ⟨false, (.l [0, 1, 2, 3, 4, 5, 6, 7, 8, 9, 10, 11, 12, 13, 14, 15, 16, 17]), by kernel_rfl, .inl ?_⟩
      (conv => whnf)
      refine ⟨i64 (by omega) (by omega), ?_⟩
      (conv => whnf)
      refine ⟨i64 (by omega) (by omega), ?_⟩
      (conv => whnf)
      refine ⟨A.length + (t + 1), ⟨by omega, t_lt2 l2⟩, ?_⟩
      (conv => whnf)
      refine ⟨Y[t], t_get2 l2, ?_⟩
      (conv => whnf)
      refine ⟨A.length + t, ⟨by omega, t_lt l1⟩, ?_⟩
      (conv => whnf)
      refine ⟨x, t_get l1, ?_⟩
      (conv => whnf)
      refine ⟨A.length + t, ⟨by omega, t_lt l1⟩, ?_⟩
      (conv => whnf)
      refine ⟨x, Y[t], t_get l1, ⟨by simp, rfl⟩, ?_⟩
      rw [t_set l1]
      (conv => whnf)
      refine ⟨A.length + (t + 1), ⟨by omega, t_lt2 l2⟩, ?_⟩
      (conv => whnf)
      refine ⟨Y[t], x, t_get2 l2, ⟨by simp, rfl⟩, ?_⟩
      rw [t_set2 l2]
      (conv => whnf)
      refine ⟨i64 (by omega) (by omega), ?_⟩
      rw [show (A.length : Int) + (t : Nat) + 1 = A.length + ((t + 1 : Nat) : Int) by omega]
      (conv => whnf)
      refine ag (t + 1) [] [.same 0] ⟨by omega, trivial⟩ (by simp only []; omega) ?_
      rw [hE]
      repeat' first | exact trivial | exact rfl | refine And.intro ?_ ?_
    · obtain rfl : t = lo := by omega
      rw [hfin]
      (conv => whnf)
      refine rt [] [.same 0] (by repeat' first | exact trivial | exact rfl | refine And.intro ?_ ?_) rfl ⟨rfl, rfl⟩

set_option maxHeartbeats 4000000 in
theorem symLast_spec (A X B : List Fi) (y : Fi) (hx : 1 < X.length) (wx : Wk X) (hn : A.length + X.length + 1 + B.length ≤ 1000) (hpy : y.path.length ≤ 4000000) (hp : ∀ f ∈ X, f.path.length ≤ 4000000) (a m b : Int) (ha : a = A.length) (hm : m = A.length + X.length) (hb' : b = A.length + X.length + 1) : Does Tryz.prog 112 [.c (.rw 0), .c (.int .i64 a), .c (.int .i64 m), .c (.int .i64 b), .c (.fn 60 [])] [.row 4 Fi encFi (A ++ X ++ [y] ++ B)] (Rt (.tup []) [.row 4 Fi encFi (A ++ inOrdP (X ++ [y]) ++ B)]) := by
  subst ha; subst hm; subst hb'
  refine X_spec ⟨Tryz.prog, tab, 220, 1⟩ tabOk (by kernel_rfl) Tryz.call112 Tryz.func112 rfl rfl (by kernel_rfl) rfl ?_
  intro hb
  (conv => whnf)
  refine ⟨i64 (by omega) (by omega), ?_⟩
  (conv => whnf)
  refine dec (fun h => absurd h (by omega)) (fun _ => ?_)
  (conv => whnf)
  refine ⟨i64 (by omega) (by omega), ?_⟩
  (conv => whnf)
  refine dec (fun _ => ?_) (fun h => absurd (by omega) h)
  (conv => whnf)
  have hx0 : A ++ X ++ [y] ++ B = A ++ X ++ y :: B := by simp
  rw [hx0]
  refine lp (Nat × Nat) (fun z => ⟨[(0, .c (.rw 0)), (2, .c (.int .i64 ((A.length : Int) + X.length))), (4, .c (.fn 60 [])), (14, .c (.int .i64 ((A.length : Int) + z.1))), (15, .c (.int .i64 ((A.length : Int) + z.2)))], [.row 4 Fi encFi (A ++ X ++ y :: B)]⟩) (fun z => (z.1 ≤ z.2 ∧ z.2 ≤ X.length) ∧ (∀ x ∈ X.take z.1, lessP y.path x.path = false) ∧ ∀ x ∈ X.drop z.2, lessP y.path x.path = true) (fun z => z.2 - z.1) (0, X.length) [] [.same 0] ?_ ?_ (fun z hz => ?_)
  · exact ⟨⟨Nat.zero_le _, Nat.le_refl _⟩, by simp, by simp⟩
  · repeat' first | exact trivial | exact rfl | refine And.intro ?_ ?_
  obtain ⟨lo, hi⟩ := z
  obtain ⟨⟨h1, h2⟩, h3, h4⟩ := hz
  dsimp only at h1 h2 h3 h4
  (conv => whnf)
  refine dec (fun h5 => ?_) (fun h5 => ?_)
  · have h5 : lo < hi := by simp only [] at h5; omega
    (conv => whnf)
    refine ⟨i64 (by simp only []; omega) (by simp only []; omega), ?_⟩
    (conv => whnf)
    refine ⟨by decide, ?_⟩
    (conv => whnf)
    obtain ⟨q, hq⟩ : ∃ q, q = (lo + hi) / 2 := ⟨_, rfl⟩
    have hqX : q < X.length := by omega
    have hqp := hp _ (List.getElem_mem hqX)
    have hrow : A ++ X ++ y :: B = (A ++ X.take q) ++ X[q] :: (X.drop (q + 1) ++ y :: B) := by
      conv => lhs; rw [← List.take_append_drop q X, List.drop_eq_getElem_cons hqX]
      simp only [List.append_assoc, List.cons_append]
    have l1 : A.length + q = (A ++ X.take q).length := by rw [List.length_append, List.length_take]; omega
    have l2 : A.length + X.length = (A ++ X.take q).length + 1 + (X.drop (q + 1)).length := by rw [← l1, List.length_drop]; omega
    rw [half (e := (A.length : Int) + (((lo, hi).1 : Nat) : Int) + ((A.length : Int) + (((lo, hi).2 : Nat) : Int))) (k := A.length + q) (by simp only []; omega) (by simp only []; omega) (by simp only []; omega), hrow]
    refine ⟨false, (.l [0, 1, 2, 3, 4, 5, 6, 7, 8, 9, 10, 11]), by kernel_rfl, .inl ?_⟩
    (conv => whnf)
    refine ⟨A.length + X.length, ⟨by omega, t_lt2 l2⟩, ?_⟩
    (conv => whnf)
    refine ⟨y, t_get2 l2, ?_⟩
    (conv => whnf)
    refine ⟨A.length + q, ⟨rfl, t_lt l1⟩, ?_⟩
    (conv => whnf)
    refine ⟨X[q], t_get l1, ?_⟩
    (conv => whnf)
    refine cl [] [] (sortedF_spec y X[q] hpy hqp) (by (repeat' first | exact trivial | exact rfl | refine And.intro ?_ ?_); first | done | fail) (by first | exact trivial | exact rfl) ?_
    rw [← hrow]
    (conv => whnf)
    refine decN (fun h6 => ?_) (fun h6 => ?_)
    · have h6 : lessP y.path X[q].path = false := by
        cases h7 : lessP y.path X[q].path with
        | false => rfl
        | true => exact absurd (cmpP_neg.2 h7) h6
      (conv => whnf)
      refine ⟨i64 (by omega) (by omega), ?_⟩
      rw [show ((A.length + q : Nat) : Int) + 1 = (A.length : Int) + ((q + 1 : Nat) : Int) by omega]
      (conv => whnf)
      refine ag (q + 1, hi) [] [.same 0] ⟨⟨by simp only []; omega, h2⟩, ge_take wx hqX h6, h4⟩ (by simp only []; omega) ?_
      repeat' first | exact trivial | exact rfl | refine And.intro ?_ ?_
    · have h6 := cmpP_neg.1 h6
      rw [show ((A.length + q : Nat) : Int) = (A.length : Int) + (q : Nat) by omega]
      (conv => whnf)
      refine ag (lo, q) [] [.same 0] ⟨⟨by simp only []; omega, by simp only []; omega⟩, h3, lt_drop wx hqX h6⟩ (by simp only []; omega) ?_
      repeat' first | exact trivial | exact rfl | refine And.intro ?_ ?_
  · have h5 : lo = hi := by simp only [] at h5; omega
    subst h5
    have hfin := one_back wx h3 h4
    rw [show A ++ X ++ y :: B = A ++ (X.take X.length ++ y :: X.drop X.length) ++ B by simp]
    (conv => whnf)
    refine lp Nat (fun t => ⟨[(0, .c (.rw 0)), (14, .c (.int .i64 ((A.length : Int) + lo))), (17, .c (.int .i64 ((A.length : Int) + t)))], [.row 4 Fi encFi (A ++ (X.take t ++ y :: X.drop t) ++ B)]⟩) (fun t => (lo ≤ t ∧ t ≤ X.length) ∧ True) (fun t => t - lo) X.length [] [.same 0] ?_ ?_ (fun t ht => ?_)
    · exact ⟨⟨h2, Nat.le_refl _⟩, trivial⟩
    · repeat' first | exact trivial | exact rfl | refine And.intro ?_ ?_
    (conv => whnf)
    refine dec (fun h6 => ?_) (fun h6 => ?_)
    · obtain ⟨t, rfl⟩ : ∃ u, t = u + 1 := ⟨t - 1, by omega⟩
      have htl : t < X.length := by omega
      have hE : A ++ (X.take t ++ y :: X.drop t) ++ B = (A ++ X.take t) ++ y :: ([] ++ X[t] :: (X.drop (t + 1) ++ B)) := by
        rw [List.drop_eq_getElem_cons htl]; simp only [List.append_assoc, List.cons_append, List.nil_append]
      have hD : A ++ (X.take (t + 1) ++ y :: X.drop (t + 1)) ++ B = (A ++ X.take t) ++ X[t] :: ([] ++ y :: (X.drop (t + 1) ++ B)) := by
        rw [List.take_succ_eq_append_getElem htl]; simp only [List.append_assoc, List.cons_append, List.nil_append]
      have l1 : A.length + t = (A ++ X.take t).length := by rw [List.length_append, List.length_take]; omega
      have l2 : A.length + (t + 1) = (A ++ X.take t).length + 1 + ([] : List Fi).length := by rw [← l1]; simp; omega
      rw [hD]
      (conv => whnf)
      refine ⟨false, (.l [0, 1, 2, 3, 4, 5, 6, 7, 8, 9, 10, 11, 12, 13, 14, 15, 16, 17]), by kernel_rfl, .inl ?_⟩
      (conv => whnf)
      refine ⟨i64 (by omega) (by omega), ?_⟩
      (conv => whnf)
      refine ⟨i64 (by omega) (by omega), ?_⟩
      (conv => whnf)
      refine ⟨A.length + t, ⟨by omega, t_lt l1⟩, ?_⟩
      (conv => whnf)
      refine ⟨X[t], t_get l1, ?_⟩
      (conv => whnf)
      refine ⟨A.length + (t + 1), ⟨by simp, t_lt2 l2⟩, ?_⟩
      (conv => whnf)
      refine ⟨y, t_get2 l2, ?_⟩
      (conv => whnf)
      refine ⟨A.length + (t + 1), ⟨by simp, t_lt2 l2⟩, ?_⟩
      (conv => whnf)
      refine ⟨y, X[t], t_get2 l2, ⟨by simp, rfl⟩, ?_⟩
      rw [t_set2 l2]
      (conv => whnf)
      refine ⟨A.length + t, ⟨by omega, t_lt l1⟩, ?_⟩
      (conv => whnf)
      refine ⟨X[t], y, t_get l1, ⟨by simp, rfl⟩, ?_⟩
      rw [t_set l1]
      (conv => whnf)
      refine ⟨i64 (by omega) (by omega), ?_⟩
      rw [show (A.length : Int) + ((t + 1 : Nat) : Int) - 1 = A.length + (t : Nat) by omega]
      (conv => whnf)
      refine ag t [] [.same 0] ⟨⟨by omega, by omega⟩, trivial⟩ (by simp only []; omega) ?_
      rw [hE]
      repeat' first | exact trivial | exact rfl | refine And.intro ?_ ?_
    · obtain rfl : t = lo := by omega
      rw [hfin]
      (conv => whnf)
      refine rt [] [.same 0] (by repeat' first | exact trivial | exact rfl | refine And.intro ?_ ?_) rfl ⟨rfl, rfl⟩
end Go.Nest
end
/- WALKS, Q5: two neighbours in order, put together. -/
section
namespace Go.Nest
open Go Go.AM Go.Proofs
open Go.Proofs.YtkoiljgjipmhbaaGreatDoor (tab tabOk)
set_option linter.unusedVariables false
set_option linter.unusedSimpArgs false
set_option maxRecDepth 4000
structure SymI (X Y : List Fi) (h lo0 hi0 : Nat) : Prop where
  a1 : lo0 ≤ hi0
  a2 : hi0 ≤ X.length
  a3 : hi0 ≤ h
  a4 : h ≤ lo0 + Y.length
  a5 : hi0 = h ∨ hi0 = X.length
  a6 : lo0 = 0 ∨ lo0 + Y.length = h
structure SymJ (X Y : List Fi) (h lo0 hi0 s t : Nat) : Prop where
  b1 : lo0 ≤ s
  b2 : s ≤ t
  b3 : t ≤ hi0
  p1 : ∀ i j (hi : i < Y.length) (hj : j < X.length), lo0 < s → i + s = h → j + 1 = s → lessP Y[i].path X[j].path = false
  p2 : ∀ i j (hi : i < Y.length) (hj : j < X.length), t < hi0 → i + t + 1 = h → j = t → lessP Y[i].path X[j].path = true
/-- what the search comes to -/
theorem sym_cut {X Y : List Fi} {h lo0 hi0 s : Nat} (wx : Wk X) (wy : Wk Y) (hI : SymI X Y h lo0 hi0) (hJ : SymJ X Y h lo0 hi0 s s) :
    (∀ x ∈ X.drop s, ∀ y ∈ Y.take (h - s), lessP y.path x.path = true) ∧ ∀ x ∈ X.take s, ∀ y ∈ Y.drop (h - s), lessP y.path x.path = false := by
  obtain ⟨a1, a2, a3, a4, a5, a6⟩ := hI
  obtain ⟨b1, b2, b3, p1, p2⟩ := hJ
  refine ⟨fun x hx y hy => ?_, fun x hx y hy => ?_⟩
  · have hs : s < X.length := Classical.byContradiction fun h => by rw [List.drop_of_length_le (by omega)] at hx; cases hx
    have hk : 0 < h - s := Classical.byContradiction fun h' => by rw [show h - s = 0 by omega] at hy; simp at hy
    have hky : h - s - 1 < Y.length := by omega
    have h1 := p2 (h - s - 1) s hky hs (by omega) (by omega) rfl
    have h2 : lessP y.path X[s].path = true := lt_take wy hky h1 y (by rw [show h - s - 1 + 1 = h - s by omega]; exact hy)
    obtain ⟨i, hi, e⟩ := List.mem_drop_iff_getElem.1 hx
    subst e
    by_cases e : i = 0
    · subst e; exact h2
    · exact lt_le h2 (wk_le wx (i := s) (j := s + i) (by omega) (by omega))
  · have hs : 0 < s := Classical.byContradiction fun h => by rw [show s = 0 by omega] at hx; simp at hx
    have hk : h - s < Y.length := Classical.byContradiction fun h' => by rw [List.drop_of_length_le (by omega)] at hy; cases hy
    have hsx : s - 1 < X.length := by omega
    have h1 := p1 (h - s) (s - 1) hk hsx (by omega) (by omega) (by omega)
    have h2 : lessP Y[h - s].path x.path = false := by
      have h3 := ge_take (y := Y[h - s]) wx hsx h1 x (by rw [show s - 1 + 1 = s by omega]; exact hx)
      exact h3
    obtain ⟨i, hi, e⟩ := List.mem_drop_iff_getElem.1 hy
    subst e
    by_cases e : i = 0
    · subst e; exact h2
    · exact le_trans' h2 (wk_le wy (i := h - s) (j := h - s + i) (by omega) (by omega))

set_option maxHeartbeats 8000000 in
theorem symMerge_spec : ∀ (n : Nat) (A X Y B : List Fi), X.length + Y.length ≤ n → 0 < X.length → 0 < Y.length → Wk X → Wk Y → A.length + X.length + Y.length + B.length ≤ 1000 → (∀ f ∈ X, f.path.length ≤ 4000000) → (∀ f ∈ Y, f.path.length ≤ 4000000) → ∀ (a m b : Int), a = A.length → m = A.length + X.length → b = A.length + X.length + Y.length → Does Tryz.prog 112 [.c (.rw 0), .c (.int .i64 a), .c (.int .i64 m), .c (.int .i64 b), .c (.fn 60 [])] [.row 4 Fi encFi (A ++ X ++ Y ++ B)] (Rt (.tup []) [.row 4 Fi encFi (A ++ inOrdP (X ++ Y) ++ B)]) := by
  intro n
  induction n with
  | zero => intro A X Y B h hx hy; omega
  | succ n ih =>
  intro A X Y B hXY hx hy wx wy hn hpx hpy a m b ha hm hb'
  by_cases h1 : X.length = 1
  · obtain ⟨x, rfl⟩ : ∃ x, X = [x] := List.length_eq_one_iff.1 h1
    exact symOne_spec A Y B x hy wy (by simpa using hn) (hpx x (by simp)) hpy a m b ha (by simpa using hm) (by simpa using hb')
  by_cases h2 : Y.length = 1
  · obtain ⟨y, rfl⟩ : ∃ y, Y = [y] := List.length_eq_one_iff.1 h2
    exact symLast_spec A X B y (by omega) wx (by simpa using hn) (hpy y (by simp)) hpx a m b ha hm (by simpa using hb')
  subst ha; subst hm; subst hb'
  obtain ⟨h, hh⟩ : ∃ h, h = (X.length + Y.length) / 2 := ⟨_, rfl⟩
  refine X_specM ⟨Tryz.prog, tab, 220, 1⟩ tabOk (by kernel_rfl) Tryz.call112 Tryz.func112 rfl rfl (by kernel_rfl) rfl ?_
  intro hb
  refine XM.seq ?_
  (conv => whnf)
  refine ⟨i64 (by omega) (by omega), ?_⟩
  (conv => whnf)
  refine dec (fun h => absurd h (by omega)) (fun _ => ?_)
  (conv => whnf)
  refine XM.seq ?_
  (conv => whnf)
  refine ⟨i64 (by omega) (by omega), ?_⟩
  (conv => whnf)
  refine dec (fun h => absurd h (by omega)) (fun _ => ?_)
  (conv => whnf)
  refine XM.seq ?_
  (conv => whnf)
  refine ⟨i64 (by omega) (by omega), ?_⟩
  (conv => whnf)
  refine ⟨by decide, ?_⟩
  (conv => whnf)
  rw [half (e := (A.length : Int) + ((A.length : Int) + X.length + Y.length)) (k := A.length + h) (by omega) (by omega) (by omega)]
  refine XM.seq ?_
  (conv => whnf)
  refine ⟨i64 (by omega) (by omega), ?_⟩
  (conv => whnf)
  refine XM.seq ?_
  (conv => whnf)
  refine XM.join (ι := Nat × Nat) (fun z => ⟨[(0, .c (.rw 0)), (1, .c (.int .i64 A.length)), (2, .c (.int .i64 ((A.length : Int) + X.length))), (3, .c (.int .i64 ((A.length : Int) + X.length + Y.length))), (4, .c (.fn 60 [])), (18, .c (.int .i64 ((A.length + h : Nat) : Int))), (19, .c (.int .i64 (((A.length + h : Nat) : Int) + ((A.length : Int) + X.length)))), (20, .c (.int .i64 ((A.length : Int) + z.1))), (21, .c (.int .i64 ((A.length : Int) + z.2)))], [.row 4 Fi encFi (A ++ X ++ Y ++ B)]⟩) (fun z => SymI X Y h z.1 z.2) ?_ (fun z hI => ?_)
  · (conv => whnf)
    refine dec (fun h3 => ?_) (fun h3 => ?_)
    · (conv => whnf)
      refine ⟨i64 (by omega) (by omega), ?_⟩
      rw [show ((A.length + h : Nat) : Int) + ((A.length : Int) + X.length) - ((A.length : Int) + X.length + Y.length) = (A.length : Int) + ((h - Y.length : Nat) : Int) by omega, show ((A.length + h : Nat) : Int) = (A.length : Int) + h by omega]
      (conv => whnf)
      refine ⟨(h - Y.length, h), ⟨by simp only []; omega, by simp only []; omega, by simp only []; omega, by simp only []; omega, .inl rfl, by simp only []; omega⟩, [], [.same 0], ?_⟩
      repeat' first | exact trivial | exact rfl | refine And.intro ?_ ?_
      trace_state
    · (conv => whnf)
      refine ⟨(0, X.length), ⟨by simp only []; omega, by simp only []; omega, by simp only []; omega, by simp only []; omega, .inr rfl, .inl rfl⟩, [], [.same 0], ?_⟩
      rw [show (A.length : Int) = (A.length : Int) + ((0 : Nat) : Int) by omega]
      repeat' first | exact trivial | exact rfl | refine And.intro ?_ ?_
      trace_state
  obtain ⟨lo0, hi0⟩ := z
  have hI := hI
  dsimp only at hI
  obtain ⟨a1, a2, a3, a4, a5, a6⟩ := id hI
  refine XM.seq ?_
  (conv => whnf)
  refine ⟨i64 (by omega) (by omega), ?_⟩
  (conv => whnf)
  refine XM.join (ι := Nat) (fun s => ⟨[(0, .c (.rw 0)), (1, .c (.int .i64 A.length)), (2, .c (.int .i64 ((A.length : Int) + X.length))), (3, .c (.int .i64 ((A.length : Int) + X.length + Y.length))), (4, .c (.fn 60 [])), (18, .c (.int .i64 ((A.length + h : Nat) : Int))), (19, .c (.int .i64 (((A.length + h : Nat) : Int) + ((A.length : Int) + X.length)))), (20, .c (.int .i64 ((A.length : Int) + s)))], [.row 4 Fi encFi (A ++ X ++ Y ++ B)]⟩) (fun s => SymJ X Y h lo0 hi0 s s) ?_ (fun s hJ => ?_)
  · (conv => whnf)
    refine lp (Nat × Nat) (fun z => ⟨[(0, .c (.rw 0)), (1, .c (.int .i64 A.length)), (2, .c (.int .i64 ((A.length : Int) + X.length))), (3, .c (.int .i64 ((A.length : Int) + X.length + Y.length))), (4, .c (.fn 60 [])), (18, .c (.int .i64 ((A.length + h : Nat) : Int))), (19, .c (.int .i64 (((A.length + h : Nat) : Int) + ((A.length : Int) + X.length)))), (22, .c (.int .i64 (((A.length + h : Nat) : Int) + ((A.length : Int) + X.length) - 1))), (20, .c (.int .i64 ((A.length : Int) + z.1))), (21, .c (.int .i64 ((A.length : Int) + z.2)))], [.row 4 Fi encFi (A ++ X ++ Y ++ B)]⟩) (fun z => SymJ X Y h lo0 hi0 z.1 z.2) (fun z => z.2 - z.1) (lo0, hi0) [] [.same 0] ?_ ?_ (fun z hz => ?_)
    · exact ⟨Nat.le_refl _, a1, Nat.le_refl _, fun i j hi hj h => absurd h (by omega), fun i j hi hj h => absurd h (by omega)⟩
    · repeat' first | exact trivial | exact rfl | refine And.intro ?_ ?_
    obtain ⟨s, t⟩ := z
    obtain ⟨b1, b2, b3, p1, p2⟩ := hz
    dsimp only at b1 b2 b3 p1 p2
    (conv => whnf)
    refine dec (fun h5 => ?_) (fun h5 => ?_)
    · have h5 : s < t := by simp only [] at h5; omega
      (conv => whnf)
      refine ⟨i64 (by simp only []; omega) (by simp only []; omega), ?_⟩
      (conv => whnf)
      refine ⟨by decide, ?_⟩
      (conv => whnf)
      obtain ⟨q, hq⟩ : ∃ q, q = (s + t) / 2 := ⟨_, rfl⟩
      obtain ⟨i, hi⟩ : ∃ i, i = h - 1 - q := ⟨_, rfl⟩
      have hqX : q < X.length := by omega
      have hiY : i < Y.length := by omega
      have hqp := hpx _ (List.getElem_mem hqX)
      have hip := hpy _ (List.getElem_mem hiY)
      have hrow : A ++ X ++ Y ++ B = (A ++ X.take q) ++ X[q] :: ((X.drop (q + 1) ++ Y.take i) ++ Y[i] :: (Y.drop (i + 1) ++ B)) := by
        conv => lhs; rw [← List.take_append_drop q X, List.drop_eq_getElem_cons hqX, ← List.take_append_drop i Y, List.drop_eq_getElem_cons hiY]
        simp only [List.append_assoc, List.cons_append]
      have l1 : A.length + q = (A ++ X.take q).length := by rw [List.length_append, List.length_take]; omega
      have l2 : A.length + X.length + i = (A ++ X.take q).length + 1 + (X.drop (q + 1) ++ Y.take i).length := by rw [← l1, List.length_append, List.length_drop, List.length_take]; omega
      rw [half (e := (A.length : Int) + (((s, t).1 : Nat) : Int) + ((A.length : Int) + (((s, t).2 : Nat) : Int))) (k := A.length + q) (by simp only []; omega) (by simp only []; omega) (by simp only []; omega), hrow]
      refine ⟨false, (.l [0, 1, 2, 3, 4, 5, 6, 7, 8, 9, 10, 11, 12, 13]), by kernel_rfl, .inl ?_⟩
      (conv => whnf)
      refine ⟨i64 (by omega) (by omega), ?_⟩
      (conv => whnf)
      refine ⟨A.length + X.length + i, ⟨by omega, t_lt2 l2⟩, ?_⟩
      (conv => whnf)
      refine ⟨Y[i], t_get2 l2, ?_⟩
      (conv => whnf)
      refine ⟨A.length + q, ⟨rfl, t_lt l1⟩, ?_⟩
      (conv => whnf)
      refine ⟨X[q], t_get l1, ?_⟩
      (conv => whnf)
      refine cl [] [] (sortedF_spec Y[i] X[q] hip hqp) (by (repeat' first | exact trivial | exact rfl | refine And.intro ?_ ?_); first | done | fail) (by first | exact trivial | exact rfl) ?_
      rw [← hrow]
      (conv => whnf)
      refine decN (fun h6 => ?_) (fun h6 => ?_)
      · have h6 : lessP Y[i].path X[q].path = false := by
          cases h7 : lessP Y[i].path X[q].path with
          | false => rfl
          | true => exact absurd (cmpP_neg.2 h7) h6
        (conv => whnf)
        refine ⟨i64 (by omega) (by omega), ?_⟩
        rw [show ((A.length + q : Nat) : Int) + 1 = (A.length : Int) + ((q + 1 : Nat) : Int) by omega]
        (conv => whnf)
        refine ag (q + 1, t) [] [.same 0] ⟨by simp only []; omega, by simp only []; omega, by simp only []; omega, fun i' j' hi' hj' _ e1 e2 => ?_, p2⟩ (by simp only []; omega) ?_
        · obtain rfl : j' = q := by simp only [] at e2; omega
          obtain rfl : i' = i := by simp only [] at e1; omega
          exact h6
        · repeat' first | exact trivial | exact rfl | refine And.intro ?_ ?_
      · have h6 := cmpP_neg.1 h6
        rw [show ((A.length + q : Nat) : Int) = (A.length : Int) + (q : Nat) by omega]
        (conv => whnf)
        refine ag (s, q) [] [.same 0] ⟨by simp only []; omega, by simp only []; omega, by simp only []; omega, p1, fun i' j' hi' hj' _ e1 e2 => ?_⟩ (by simp only []; omega) ?_
        · obtain rfl : j' = q := by simp only [] at e2; omega
          obtain rfl : i' = i := by simp only [] at e1; omega
          exact h6
        · repeat' first | exact trivial | exact rfl | refine And.intro ?_ ?_
    · obtain rfl : s = t := by simp only [] at h5; omega
      (conv => whnf)
      refine ⟨s, ⟨b1, b2, b3, p1, p2⟩, [], [.same 0], ?_⟩
      repeat' first | exact trivial | exact rfl | refine And.intro ?_ ?_
  obtain ⟨c1, c2⟩ := sym_cut wx wy hI hJ
  obtain ⟨b1, _, b3, _, _⟩ := id hJ
  obtain ⟨k, hk⟩ : ∃ k, k = h - s := ⟨_, rfl⟩
  rw [← hk] at c1 c2
  have eX : X.take s ++ X.drop s = X := List.take_append_drop s X
  have eY : Y.take k ++ Y.drop k = Y := List.take_append_drop k Y
  have lX1 : (X.take s).length = s := by rw [List.length_take]; omega
  have lX2 : (X.drop s).length = X.length - s := List.length_drop ..
  have lY1 : (Y.take k).length = k := by rw [List.length_take]; omega
  have lY2 : (Y.drop k).length = Y.length - k := List.length_drop ..
  have hsym := sym_ok (X1 := X.take s) (X2 := X.drop s) (Y1 := Y.take k) (Y2 := Y.drop k) (by rw [eX]; exact wx) (by rw [eY]; exact wy) c1 c2
  rw [eX, eY] at hsym
  have q1 : ∀ f ∈ X.take s, f.path.length ≤ 4000000 := fun f hf => hpx f (List.mem_of_mem_take hf)
  have q2 : ∀ f ∈ X.drop s, f.path.length ≤ 4000000 := fun f hf => hpx f (List.mem_of_mem_drop hf)
  have q3 : ∀ f ∈ Y.take k, f.path.length ≤ 4000000 := fun f hf => hpy f (List.mem_of_mem_take hf)
  have q4 : ∀ f ∈ Y.drop k, f.path.length ≤ 4000000 := fun f hf => hpy f (List.mem_of_mem_drop hf)
  obtain ⟨wX1, wX2, _⟩ := wk_parts (by rw [eX]; exact wx : Wk (X.take s ++ X.drop s))
  obtain ⟨wY1, wY2, _⟩ := wk_parts (by rw [eY]; exact wy : Wk (Y.take k ++ Y.drop k))
  have hrow : A ++ X ++ Y ++ B = (A ++ X.take s) ++ X.drop s ++ Y.take k ++ (Y.drop k ++ B) := by
    conv => lhs; rw [← eX, ← eY]
    simp only [List.append_assoc]
  rw [hrow, ← hsym]
  clear hsym hrow c1 c2
  generalize X.take s = X1 at *
  generalize X.drop s = X2 at *
  generalize Y.take k = Y1 at *
  generalize Y.drop k = Y2 at *
  refine XM.seq ?_
  (conv => whnf)
  refine ⟨i64 (by omega) (by omega), ?_⟩
  rw [show ((A.length + h : Nat) : Int) + ((A.length : Int) + X.length) - ((A.length : Int) + s) = (A.length : Int) + X.length + k by omega]
  (conv => whnf)
  have nil2 : X2.length = 0 → X2 = [] := List.eq_nil_of_length_eq_zero
  have nil1 : X1.length = 0 → X1 = [] := List.eq_nil_of_length_eq_zero
  have nil3 : Y1.length = 0 → Y1 = [] := List.eq_nil_of_length_eq_zero
  have nil4 : Y2.length = 0 → Y2 = [] := List.eq_nil_of_length_eq_zero
  have li1 := inOrd_len (X1 ++ Y1)
  rw [List.length_append] at li1
  refine XM.join (ι := Unit) (fun _ => ⟨[(0, .c (.rw 0)), (1, .c (.int .i64 A.length)), (2, .c (.int .i64 ((A.length : Int) + X.length))), (3, .c (.int .i64 ((A.length : Int) + X.length + Y.length))), (4, .c (.fn 60 [])), (18, .c (.int .i64 ((A.length + h : Nat) : Int))), (20, .c (.int .i64 ((A.length : Int) + s))), (24, .c (.int .i64 ((A.length : Int) + X.length + k)))], [.row 4 Fi encFi (A ++ X1 ++ Y1 ++ (X2 ++ Y2 ++ B))]⟩) (fun _ => True) ?_ (fun _ _ => ?_)
  · (conv => whnf)
    refine dec (fun h3 => ?_) (fun h3 => ?_)
    · (conv => whnf)
      refine dec (fun h4 => ?_) (fun h4 => ?_)
      · (conv => whnf)
        refine cl [] [0] (rotate_spec (A ++ X1) X2 Y1 (Y2 ++ B) (by omega) (by omega) (by simp only [List.length_append]; omega) ((A.length : Int) + s) ((A.length : Int) + X.length) ((A.length : Int) + X.length + k) (by rw [List.length_append]; omega) (by rw [List.length_append]; omega) (by rw [List.length_append]; omega)) (by (repeat' first | exact trivial | exact rfl | refine And.intro ?_ ?_); first | done | fail) (by first | exact trivial | exact rfl) ?_
        rw [show A ++ X1 ++ Y1 ++ X2 ++ (Y2 ++ B) = A ++ X1 ++ Y1 ++ (X2 ++ Y2 ++ B) by simp]
        (conv => whnf)
        refine ⟨(), trivial, [], [.same 0], ?_⟩
        repeat' first | exact trivial | exact rfl | refine And.intro ?_ ?_
      · rw [show A ++ X1 ++ X2 ++ Y1 ++ (Y2 ++ B) = A ++ X1 ++ Y1 ++ (X2 ++ Y2 ++ B) by rw [nil3 (by omega)]; simp]
        (conv => whnf)
        refine ⟨(), trivial, [], [.same 0], ?_⟩
        repeat' first | exact trivial | exact rfl | refine And.intro ?_ ?_
    · rw [show A ++ X1 ++ X2 ++ Y1 ++ (Y2 ++ B) = A ++ X1 ++ Y1 ++ (X2 ++ Y2 ++ B) by rw [nil2 (by omega)]; simp]
      (conv => whnf)
      refine ⟨(), trivial, [], [.same 0], ?_⟩
      repeat' first | exact trivial | exact rfl | refine And.intro ?_ ?_
  refine XM.join (ι := Unit) (fun _ => ⟨[(0, .c (.rw 0)), (1, .c (.int .i64 A.length)), (2, .c (.int .i64 ((A.length : Int) + X.length))), (3, .c (.int .i64 ((A.length : Int) + X.length + Y.length))), (4, .c (.fn 60 [])), (18, .c (.int .i64 ((A.length + h : Nat) : Int))), (20, .c (.int .i64 ((A.length : Int) + s))), (24, .c (.int .i64 ((A.length : Int) + X.length + k)))], [.row 4 Fi encFi (A ++ inOrdP (X1 ++ Y1) ++ (X2 ++ Y2 ++ B))]⟩) (fun _ => True) ?_ (fun _ _ => ?_)
  · (conv => whnf)
    refine dec (fun h3 => ?_) (fun h3 => ?_)
    · (conv => whnf)
      refine dec (fun h4 => ?_) (fun h4 => ?_)
      · (conv => whnf)
        refine cl [] [0] (ih A X1 Y1 (X2 ++ Y2 ++ B) (by omega) (by omega) (by omega) wX1 wY1 (by simp only [List.length_append]; omega) q1 q3 (A.length : Int) ((A.length : Int) + s) ((A.length + h : Nat) : Int) rfl (by omega) (by omega)) (by (repeat' first | exact trivial | exact rfl | refine And.intro ?_ ?_); first | done | fail) (by first | exact trivial | exact rfl) ?_
        (conv => whnf)
        refine ⟨(), trivial, [], [.same 0], ?_⟩
        repeat' first | exact trivial | exact rfl | refine And.intro ?_ ?_
      · rw [show A ++ X1 ++ Y1 ++ (X2 ++ Y2 ++ B) = A ++ inOrdP (X1 ++ Y1) ++ (X2 ++ Y2 ++ B) by rw [nil3 (by omega), List.append_nil, List.append_nil, inOrd_id wX1]]
        (conv => whnf)
        refine ⟨(), trivial, [], [.same 0], ?_⟩
        repeat' first | exact trivial | exact rfl | refine And.intro ?_ ?_
    · rw [show A ++ X1 ++ Y1 ++ (X2 ++ Y2 ++ B) = A ++ inOrdP (X1 ++ Y1) ++ (X2 ++ Y2 ++ B) by rw [nil1 (by omega), List.append_nil, List.nil_append, inOrd_id wY1]]
      (conv => whnf)
      refine ⟨(), trivial, [], [.same 0], ?_⟩
      repeat' first | exact trivial | exact rfl | refine And.intro ?_ ?_
  generalize inOrdP (X1 ++ Y1) = Z at *
  refine XM.of ?_
  (conv => whnf)
  refine dec (fun h3 => ?_) (fun h3 => ?_)
  · (conv => whnf)
    refine dec (fun h4 => ?_) (fun h4 => ?_)
    · rw [show A ++ Z ++ (X2 ++ Y2 ++ B) = (A ++ Z) ++ X2 ++ Y2 ++ B by simp]
      (conv => whnf)
      refine cl [] [0] (ih (A ++ Z) X2 Y2 B (by omega) (by omega) (by omega) wX2 wY2 (by simp only [List.length_append]; omega) q2 q4 ((A.length + h : Nat) : Int) ((A.length : Int) + X.length + k) ((A.length : Int) + X.length + Y.length) (by rw [List.length_append]; omega) (by rw [List.length_append]; omega) (by rw [List.length_append]; omega)) (by (repeat' first | exact trivial | exact rfl | refine And.intro ?_ ?_); first | done | fail) (by first | exact trivial | exact rfl) ?_
      rw [show A ++ (Z ++ inOrdP (X2 ++ Y2)) ++ B = A ++ Z ++ inOrdP (X2 ++ Y2) ++ B by simp]
      (conv => whnf)
      refine rt [] [.same 0] (by repeat' first | exact trivial | exact rfl | refine And.intro ?_ ?_) rfl ⟨rfl, rfl⟩
    · rw [show A ++ (Z ++ inOrdP (X2 ++ Y2)) ++ B = A ++ Z ++ (X2 ++ Y2 ++ B) by rw [nil4 (by omega), List.append_nil, inOrd_id wX2]; simp]
      (conv => whnf)
      refine rt [] [.same 0] (by repeat' first | exact trivial | exact rfl | refine And.intro ?_ ?_) rfl ⟨rfl, rfl⟩
  · rw [show A ++ (Z ++ inOrdP (X2 ++ Y2)) ++ B = A ++ Z ++ (X2 ++ Y2 ++ B) by rw [nil2 (by omega), List.nil_append, inOrd_id wY2]; simp]
    (conv => whnf)
    refine rt [] [.same 0] (by repeat' first | exact trivial | exact rfl | refine And.intro ?_ ?_) rfl ⟨rfl, rfl⟩
end Go.Nest
end
