/- WALKS, K2: a work: find, put, by the document, too. -/
import Derived.Test.YtogallppofinhaaGreatDoorK1
import Derived.Test.YtogallppofinhaaGreatDoorI2
import Derived.Test.YtogallppofinhaaGreatDoorF7
import Derived.Test.YtogallppofinhaaGreatDoorR1
section
namespace Go.Nest
open Go Go.AM Go.Proofs
open Go.Proofs.YtogallppofinhaaGreatDoor (tab tabOk)
set_option linter.unusedVariables false
set_option linter.unusedSimpArgs false
set_option maxRecDepth 4000
theorem findW_spec (x : It) (p : List UInt8) : Does Tryz.prog 204 [.st (encIt x), .c (.bp [.str p])] [] (Rt (.c (.bool (atW p x))) []) := by
  refine X_spec (n := 8) (n0 := 0) tabOk Tryz.call204 Tryz.func204 ?_
  intro hb
  repeat' ((conv => whnf); first | (refine dec (fun h => ?_) (fun h => ?_) <;> try contradiction) | (refine decN (fun h => ?_) (fun h => ?_) <;> try contradiction) | refine booN (fun h => ?_) (fun h => ?_) | refine boo (fun h => ?_) (fun h => ?_) | refine ⟨i64 (by omega) (by omega), ?_⟩ | refine ⟨_, _, rfl, List.getElem?_eq_getElem (by omega), ?_⟩ | refine ⟨_, ⟨rfl, by omega⟩, ?_⟩ | refine ⟨_, List.getElem?_eq_getElem (by omega), ?_⟩ | refine rtB ?_ | refine rtI ?_ | refine rtC ?_ rfl | fail)
  rfl
theorem indexIt_spec (l : List It) (p : List UInt8) : Does Tryz.prog 203 [.c (.bs 5 It encIt l), .c (.fn 204 [.bp [.str p]])] [] (Rt (.c (.int .i64 (idxF (atW p) l))) []) := by
  refine X_spec (n := 19) (n0 := 0) tabOk Tryz.call203 Tryz.func203 ?_
  intro hb; have hb : l.length ≤ 9223372036854775807 := hb.1.1
  (conv => whnf)
  refine lp Nat (fun i => ⟨[(0, .c (.bs 5 It encIt l)), (1, .c (.fn 204 [.bp [.str p]])), (7, .c (.int .i64 l.length)), (8, .c (.int .i64 i))], []⟩) (fun i => i ≤ l.length ∧ (l.take i).any (atW p) = false) (fun i => l.length - i) 0 [] [] ?_ ?_ (fun i hi => ?_)
  · simp
  · repeat' first | exact trivial | exact rfl | refine And.intro ?_ ?_
  (conv => whnf)
  refine dec (fun h4 => ?_) (fun h4 => ?_)
  · have hlt : i < l.length := by omega
    repeat' ((conv => whnf); first | (refine dec (fun h => ?_) (fun h => ?_) <;> try contradiction) | (refine decN (fun h => ?_) (fun h => ?_) <;> try contradiction) | refine booN (fun h => ?_) (fun h => ?_) | refine boo (fun h => ?_) (fun h => ?_) | refine ⟨i64 (by omega) (by omega), ?_⟩ | refine ⟨_, _, rfl, List.getElem?_eq_getElem (by omega), ?_⟩ | refine ⟨_, ⟨rfl, by omega⟩, ?_⟩ | refine ⟨_, List.getElem?_eq_getElem (by omega), ?_⟩ | refine rtB ?_ | refine rtI ?_ | refine rtC ?_ rfl | fail)
    (conv => whnf)
    refine cl [] [] (findW_spec l[i] p) ?_
    (conv => whnf)
    refine boo (fun h => ?_) (fun h => ?_)
    · (conv => whnf)
      exact rtI (idxF_at hlt hi.2 h)
    · repeat' ((conv => whnf); first | (refine dec (fun h => ?_) (fun h => ?_) <;> try contradiction) | (refine decN (fun h => ?_) (fun h => ?_) <;> try contradiction) | refine booN (fun h => ?_) (fun h => ?_) | refine boo (fun h => ?_) (fun h => ?_) | refine ⟨i64 (by omega) (by omega), ?_⟩ | refine ⟨_, _, rfl, List.getElem?_eq_getElem (by omega), ?_⟩ | refine ⟨_, ⟨rfl, by omega⟩, ?_⟩ | refine ⟨_, List.getElem?_eq_getElem (by omega), ?_⟩ | refine rtB ?_ | refine rtI ?_ | refine rtC ?_ rfl | fail)
      refine ag (i + 1) [] [] ⟨hlt, any_take hlt hi.2 h⟩ (by simp only []; omega) ?_
      repeat' first | exact trivial | exact rfl | refine And.intro ?_ ?_
  · repeat' ((conv => whnf); first | (refine dec (fun h => ?_) (fun h => ?_) <;> try contradiction) | (refine decN (fun h => ?_) (fun h => ?_) <;> try contradiction) | refine booN (fun h => ?_) (fun h => ?_) | refine boo (fun h => ?_) (fun h => ?_) | refine ⟨i64 (by omega) (by omega), ?_⟩ | refine ⟨_, _, rfl, List.getElem?_eq_getElem (by omega), ?_⟩ | refine ⟨_, ⟨rfl, by omega⟩, ?_⟩ | refine ⟨_, List.getElem?_eq_getElem (by omega), ?_⟩ | refine rtB ?_ | refine rtI ?_ | refine rtC ?_ rfl | fail)
    have := hi.2
    rw [List.take_of_length_le (by omega)] at this
    exact idxF_none this
theorem find_wspec (L : List Ob) (l : List It) (h : Int) (p : List UInt8) : Does Tryz.prog 154 [.c (.bp [.bp [.bs 6 Ob encOb L], .bs 5 It encIt l, .int .i64 h]), .c (.str p)] [] (Rt (.c (.int .i64 (idxF (atW p) l))) []) := by
  refine X_spec (n := 11) (n0 := 0) tabOk Tryz.call154 Tryz.func154 ?_
  intro hb
  (conv => whnf)
  refine cl [] [] (indexIt_spec l p) ?_
  (conv => whnf)
  exact rx [] []
theorem pos_at {l : List It} {p : List UInt8} {k : Nat} (hk : k ≤ l.length) (h1 : ∀ g ∈ l.take k, lessP g.path p = true) (h2 : ∀ h : k < l.length, lessP l[k].path p = false) : posW l p = k := by
  unfold posW
  rw [(tw_at (p := fun y : It => lessP y.path p) hk h1 h2).1, List.length_take, Nat.min_eq_left hk]
set_option maxHeartbeats 4000000 in
theorem put_wspec (L : List Ob) (l : List It) (h : Int) (x : It) (hx : x.path.length ≤ 4000000) (hp : ∀ y ∈ l, y.path.length ≤ 4000000) (hl : l.length ≤ 60) : Does Tryz.prog 153 [.c (.ptr 0 0), .st (encIt x)] [.box [.ptr 1 0, .rw 3, .int .i64 h], .box [.rw 2], .row 6 Ob encOb L, .row 5 It encIt l] (Rt (.c (.int .i64 (putW l x).1)) [.box [.ptr 1 0, .rw 5, .int .i64 h], .box [.rw 4], .dead, .dead, .row 6 Ob encOb L, .row 5 It encIt (putW l x).2]) := by
  refine X_spec (n := 106) (n0 := 4) tabOk Tryz.call153 Tryz.func153 ?_
  intro hb
  (conv => whnf)
  refine cl [] [] (pathsSplit_spec x.path hx) ?_
  (conv => whnf)
  refine decN (fun h1 => ?_) (fun h1 => ?_)
  · rw [show putW l x = _ from if_pos h1]
    (conv => whnf)
    exact rx [] [.same 0, .same 1, .same 2, .same 3, .same 2, .same 3]
  have c1 : putW l x = _ := if_neg (fun h => h h1)
  (conv => whnf)
  refine lp Nat (fun i => ⟨[(0, .c (.ptr 0 0)), (3, .c (.ptr 4 0)), (27, .c (.rw 3)), (28, .c (.int .i64 l.length)), (29, .c (.int .i64 i))], [.box [.ptr 1 0, .rw 3, .int .i64 h], .box [.rw 2], .row 6 Ob encOb L, .row 5 It encIt l] ++ [.box (encIt x)]⟩) (fun i => i ≤ l.length ∧ (l.take i).any (hitW x.path) = false) (fun i => l.length - i) 0 [] [.same 0, .same 1, .same 2, .same 3, .same 4] ?_ ?_ (fun i hi => ?_)
  · simp
  · repeat' first | exact trivial | exact rfl | refine And.intro ?_ ?_
  (conv => whnf)
  refine dec (fun h4 => ?_) (fun h4 => ?_)
  · have hlt : i < l.length := by omega
    have hyp := hp _ (List.getElem_mem hlt)
    (conv => whnf)
    refine ⟨i, ⟨rfl, hlt⟩, ?_⟩
    (conv => whnf)
    refine ⟨l[i], List.getElem?_eq_getElem hlt, ?_⟩
    have he : hitW x.path l[i] = ((underP x.path l[i].path).2 || (underP l[i].path x.path).2) := rfl
    have hat := fun h => any_at (l := l) (p := hitW x.path) hlt h
    have htk := fun h => any_take (p := hitW x.path) hlt hi.2 h
    generalize l[i] = y at *
    (conv => whnf)
    refine cl [] [] (under_spec x.path y.path hyp) ?_
    (conv => whnf)
    refine cl [] [] (under_spec y.path x.path hx) ?_
    (conv => whnf)
    refine boo (fun h5 => ?_) (fun h5 => ?_)
    · rw [h5, Bool.true_or] at he
      have e : putW l x = (10, l) := c1.trans (if_pos (hat he))
      rw [e]
      (conv => whnf)
      exact rx [] [.same 0, .same 1, .same 2, .same 3, .same 2, .same 3]
    · rw [h5, Bool.false_or] at he
      (conv => whnf)
      refine boo (fun h6 => ?_) (fun h6 => ?_)
      · have e : putW l x = (10, l) := c1.trans (if_pos (hat (he.trans h6)))
        rw [e]
        (conv => whnf)
        exact rx [] [.same 0, .same 1, .same 2, .same 3, .same 2, .same 3]
      · repeat' ((conv => whnf); first | (refine dec (fun h => ?_) (fun h => ?_) <;> try contradiction) | (refine decN (fun h => ?_) (fun h => ?_) <;> try contradiction) | refine booN (fun h => ?_) (fun h => ?_) | refine boo (fun h => ?_) (fun h => ?_) | refine ⟨i64 (by omega) (by omega), ?_⟩ | refine ⟨_, _, rfl, List.getElem?_eq_getElem (by omega), ?_⟩ | refine ⟨_, ⟨rfl, by omega⟩, ?_⟩ | refine ⟨_, List.getElem?_eq_getElem (by omega), ?_⟩ | refine rtB ?_ | refine rtI ?_ | refine rtC ?_ rfl | fail)
        refine ag (i + 1) [] [.same 0, .same 1, .same 2, .same 3, .same 4] ⟨hlt, htk (he.trans h6)⟩ (by simp only []; omega) ?_
        repeat' first | exact trivial | exact rfl | refine And.intro ?_ ?_
  · have hno := hi.2
    rw [List.take_of_length_le (by omega)] at hno
    have c2 := c1.trans (if_neg (by rw [hno]; decide))
    (conv => whnf)
    refine cl [] [] (find_wspec L l h x.path) ?_
    (conv => whnf)
    refine dec (fun h5 => ?_) (fun h5 => ?_)
    · have e : putW l x = _ := c2.trans (if_pos h5)
      rw [e]
      obtain ⟨y, hy, hyp⟩ := idxF_iff.1 h5
      have hlt : (idxF (atW x.path) l).toNat < l.length := by
        rcases idx_case (p := atW x.path) (l := l) with ⟨q, _⟩ | ⟨k, hk, q, _⟩
        · omega
        · omega
      (conv => whnf)
      refine ⟨false, .grow, (.l [0, 1, 2, 3, 4, 5, 6, 7]), by kernel_rfl, .inl ?_⟩
      (conv => whnf)
      refine ⟨(idxF (atW x.path) l).toNat, ⟨by omega, hlt⟩, ?_⟩
      (conv => whnf)
      refine ⟨_, x, List.getElem?_eq_getElem hlt, ⟨Nat.le_refl 5, rfl⟩, ?_⟩
      (conv => whnf)
      exact rx [] [.same 0, .same 1, .same 2, .same 3, .same 2, .same 3]
    · have c3 := c2.trans (if_neg h5)
      (conv => whnf)
      refine dec (fun h6 => ?_) (fun h6 => ?_)
      · have h6 : (l.length : Int) = 60 := h6
        have e : putW l x = _ := c3.trans (if_pos (by omega))
        rw [e]
        (conv => whnf)
        exact rx [] [.same 0, .same 1, .same 2, .same 3, .same 2, .same 3]
      · have h6 : ¬ (l.length : Int) = 60 := h6
        have e : putW l x = _ := c3.trans (if_neg (by omega))
        rw [e]
        (conv => whnf)
        refine lp Nat (fun i => ⟨[(0, .c (.ptr 0 0)), (3, .c (.ptr 4 0)), (14, .c (.int .i64 i))], [.box [.ptr 1 0, .rw 3, .int .i64 h], .box [.rw 2], .row 6 Ob encOb L, .row 5 It encIt l] ++ [.box (encIt x)]⟩) (fun i => (i ≤ l.length ∧ True) ∧ ∀ g ∈ l.take i, lessP g.path x.path = true) (fun i => l.length - i) 0 [] [.same 0, .same 1, .same 2, .same 3, .same 4] ?_ ?_ (fun i hi => ?_)
        · simp
        · repeat' first | exact trivial | exact rfl | refine And.intro ?_ ?_
        obtain ⟨⟨hi1, _⟩, hi2⟩ := hi
        (conv => whnf)
        refine ⟨false, .grow, (.l [0, 1, 2, 3, 4, 5, 6, 7, 8, 9, 10, 11, 12, 13, 14, 15, 16, 17, 18, 19]), by kernel_rfl, .inl ?_⟩
        (conv => whnf)
        refine dec (fun h7 => ?_) (fun h7 => ?_)
        · have hlt : i < l.length := by omega
          have hyp := hp _ (List.getElem_mem hlt)
          (conv => whnf)
          refine ⟨i, ⟨rfl, hlt⟩, ?_⟩
          (conv => whnf)
          refine ⟨l[i], List.getElem?_eq_getElem hlt, ?_⟩
          (conv => whnf)
          refine cl [] [] (less_spec l[i].path x.path hyp hx) ?_
          (conv => whnf)
          refine boo (fun h8 => ?_) (fun h8 => ?_)
          · repeat' ((conv => whnf); first | (refine dec (fun h => ?_) (fun h => ?_) <;> try contradiction) | (refine decN (fun h => ?_) (fun h => ?_) <;> try contradiction) | refine booN (fun h => ?_) (fun h => ?_) | refine boo (fun h => ?_) (fun h => ?_) | refine ⟨i64 (by omega) (by omega), ?_⟩ | refine ⟨_, _, rfl, List.getElem?_eq_getElem (by omega), ?_⟩ | refine ⟨_, ⟨rfl, by omega⟩, ?_⟩ | refine ⟨_, List.getElem?_eq_getElem (by omega), ?_⟩ | refine rtB ?_ | refine rtI ?_ | refine rtC ?_ rfl | fail)
            refine ag (i + 1) [] [.same 0, .same 1, .same 2, .same 3, .same 4] ⟨⟨hlt, trivial⟩, fun g hg => ?_⟩ (by simp only []; omega) ?_
            · rw [List.take_succ_eq_append_getElem hlt, List.mem_append, List.mem_singleton] at hg
              rcases hg with hg | rfl
              · exact hi2 g hg
              · exact h8
            · repeat' first | exact trivial | exact rfl | refine And.intro ?_ ?_
          · have hno : ∀ h : i < l.length, lessP l[i].path x.path = false := fun _ => h8
            have hpos : posW l x.path = i := pos_at hi1 hi2 hno
            (conv => whnf)
            refine ⟨false, .grow, (.l [0, 1, 2, 3, 4, 5, 6, 7, 8, 9, 10, 11]), by kernel_rfl, .inl ?_⟩
            (conv => whnf)
            refine ⟨[x], rfl, ?_⟩
            (conv => whnf)
            refine cl [] [3, 5] (insertI_spec l x i hi1 (by omega)) ?_
            (conv => whnf)
            rw [hpos]
            exact rx [] [.same 0, .same 1, .same 2, .same 3, .same 2, .same 6]
        · have hno : ∀ h : i < l.length, lessP l[i].path x.path = false := fun h => absurd h (by omega)
          have hpos : posW l x.path = i := pos_at hi1 hi2 hno
          (conv => whnf)
          refine ⟨false, .grow, (.l [0, 1, 2, 3, 4, 5, 6, 7, 8, 9, 10, 11]), by kernel_rfl, .inl ?_⟩
          (conv => whnf)
          refine ⟨[x], rfl, ?_⟩
          (conv => whnf)
          refine cl [] [3, 5] (insertI_spec l x i hi1 (by omega)) ?_
          (conv => whnf)
          rw [hpos]
          exact rx [] [.same 0, .same 1, .same 2, .same 3, .same 2, .same 6]
end Go.Nest
end
/- WALKS, K3: a work by the document: put, removed. -/
section
namespace Go.Nest
open Go Go.AM Go.Proofs
open Go.Proofs.YtogallppofinhaaGreatDoor (tab tabOk)
set_option linter.unusedVariables false
set_option linter.unusedSimpArgs false
set_option maxRecDepth 4000
/-- what was gone through -/
def newS (x : It) (s : List It × Bool) (y : It) : List It × Bool :=
  let a := if (!s.2 && !lessP y.path x.path) = true then (s.1 ++ [x], true) else s
  (if y.path ≠ x.path then a.1 ++ [y] else a.1, a.2)
def newU (l : List It) (x : It) (i : Nat) : List It × Bool := (l.take i).foldl (newS x) ([], false)
theorem newU_succ {l : List It} {x : It} {i : Nat} (h : i < l.length) : newU l x (i + 1) = newS x (newU l x i) l[i] := by
  unfold newU
  rw [List.take_succ_eq_append_getElem h, List.foldl_append]; rfl
theorem newU_len {l : List It} {x : It} : ∀ {i : Nat}, i ≤ l.length → (newU l x i).1.length ≤ i + (if (newU l x i).2 = true then 1 else 0)
  | 0, _ => by simp [newU]
  | i + 1, h => by
    have := newU_len (l := l) (x := x) (i := i) (by omega)
    rw [newU_succ (by omega)]
    generalize newU l x i = s at *
    obtain ⟨out, put⟩ := s
    unfold newS
    cases put <;> by_cases h1 : lessP l[i].path x.path = true <;> by_cases h2 : l[i].path ≠ x.path <;> simp [h1, h2] at this ⊢ <;> omega
theorem newS_done (x : It) : ∀ (r : List It) (out : List It), r.foldl (newS x) (out, true) = (out ++ r.filter fun y => decide (y.path ≠ x.path), true)
  | [], out => by simp
  | y :: r, out => by
    rw [List.foldl_cons]
    by_cases h : y.path ≠ x.path
    · rw [show newS x (out, true) y = (out ++ [y], true) by simp [newS, h], newS_done x r, List.filter_cons_of_pos (by simpa using h)]; simp
    · rw [show newS x (out, true) y = (out, true) by simp [newS, h], newS_done x r, List.filter_cons_of_neg (by simpa using h)]
theorem newS_all (x : It) : ∀ (r : List It) (out : List It), (let s := r.foldl (newS x) (out, false); if s.2 = true then s.1 else s.1 ++ [x]) = out ++ newW r x
  | [], out => by simp [newW]
  | y :: r, out => by
    rw [List.foldl_cons]
    by_cases h : lessP y.path x.path = true
    · have hne := less_ne h
      rw [show newS x (out, false) y = (out ++ [y], false) by simp [newS, h, hne]]
      have := newS_all x r (out ++ [y])
      rw [this]
      unfold newW
      rw [List.takeWhile_cons, if_pos h, List.dropWhile_cons, if_pos h]
      simp
    · have hs : newS x (out, false) y = ((if y.path ≠ x.path then (out ++ [x]) ++ [y] else out ++ [x]), true) := by simp [newS, h]
      rw [hs, newS_done]
      unfold newW
      rw [List.takeWhile_cons, if_neg h, List.dropWhile_cons, if_neg h]
      by_cases h2 : y.path ≠ x.path
      · rw [if_pos h2, List.filter_cons_of_pos (by simpa using h2)]; simp
      · rw [if_neg h2, List.filter_cons_of_neg (by simpa using h2)]; simp
theorem newU_all (l : List It) (x : It) : (if (newU l x l.length).2 = true then (newU l x l.length).1 else (newU l x l.length).1 ++ [x]) = newW l x := by
  have := newS_all x l []
  unfold newU
  rw [List.take_length]
  simpa using this
set_option maxHeartbeats 4000000 in
theorem putD_wspec (L : List Ob) (l : List It) (h : Int) (x : It) (hx : x.path.length ≤ 4000000) (hp : ∀ y ∈ l, y.path.length ≤ 4000000) (hl : l.length ≤ 60) : Does Tryz.prog 156 [.c (.ptr 0 0), .st (encIt x)] [.box [.ptr 1 0, .rw 3, .int .i64 h], .box [.rw 2], .row 6 Ob encOb L, .row 5 It encIt l] (Rt (.c (.int .i64 (putD l x).1)) [.box [.ptr 1 0, .rw 5, .int .i64 h], .box [.rw 4], .dead, .dead, .row 6 Ob encOb L, .row 5 It encIt (putD l x).2]) := by
  refine X_spec (n := 118) (n0 := 4) tabOk Tryz.call156 Tryz.func156 ?_
  intro hb
  (conv => whnf)
  refine cl [] [] (pathOf_spec x.path hx) ?_
  (conv => whnf)
  refine decN (fun h1 => ?_) (fun h1 => ?_)
  · rw [show putD l x = _ from if_pos h1]
    (conv => whnf)
    exact rx [] [.same 0, .same 1, .same 2, .same 3, .same 2, .same 3]
  have c1 : putD l x = _ := if_neg (fun h => h h1)
  (conv => whnf)
  refine lp Nat (fun i => ⟨[(0, .c (.ptr 0 0)), (3, .c (.ptr 4 0)), (7, .c (.rw 5)), (8, .c (.bool (newU l x i).2)), (9, .c (.int .i64 i))], [.box [.ptr 1 0, .rw 3, .int .i64 h], .box [.rw 2], .row 6 Ob encOb L, .row 5 It encIt l] ++ [.box (encIt x), .row 5 It encIt (newU l x i).1]⟩) (fun i => i ≤ l.length ∧ (l.take i).any (hitW x.path) = false) (fun i => l.length - i) 0 [] [.same 0, .same 1, .same 2, .same 3, .same 4, .new] ?_ ?_ (fun i hi => ?_)
  · simp
  · repeat' first | exact trivial | exact rfl | refine And.intro ?_ ?_
  (conv => whnf)
  refine dec (fun h4 => ?_) (fun h4 => ?_)
  · have hlt : i < l.length := by omega
    have hyp := hp _ (List.getElem_mem hlt)
    have hiy : l[i]? = some l[i] := List.getElem?_eq_getElem hlt
    have he : hitW x.path l[i] = ((underP x.path l[i].path).2 || (underP l[i].path x.path).2) := rfl
    have hat := fun h => any_at (l := l) (p := hitW x.path) hlt h
    have htk := fun h => any_take (p := hitW x.path) hlt hi.2 h
    have hsu := newU_succ (x := x) hlt
    have hul := newU_len (l := l) (x := x) (i := i) (by omega)
    have hul2 : (newU l x i).1.length ≤ 61 := by
      have : (if (newU l x i).2 = true then 1 else 0) ≤ 1 := by split <;> omega
      omega
    generalize newU l x i = s at *
    obtain ⟨out, put⟩ := s
    dsimp only at hul2
    generalize l[i] = y at *
    (conv => whnf)
    refine ⟨false, .grow, (.l [0, 1, 2, 3, 4, 5, 6, 7, 8, 9, 10, 11, 12, 13, 14, 15]), by kernel_rfl, .inl ?_⟩
    (conv => whnf)
    refine ⟨i, ⟨rfl, hlt⟩, ?_⟩
    (conv => whnf)
    refine ⟨y, hiy, ?_⟩
    (conv => whnf)
    refine cl [] [] (behind_spec y.path x.path hx) ?_
    (conv => whnf)
    refine ⟨false, .grow, (.l [0, 1, 2, 3, 4, 5, 6, 7, 8, 9, 10, 11, 12, 13, 14, 15]), by kernel_rfl, .inl ?_⟩
    (conv => whnf)
    refine ⟨i, ⟨rfl, hlt⟩, ?_⟩
    (conv => whnf)
    refine ⟨y, hiy, ?_⟩
    (conv => whnf)
    refine cl [] [] (behind_spec x.path y.path hyp) ?_
    (conv => whnf)
    refine boo (fun h5 => ?_) (fun h5 => ?_)
    · have e : putD l x = (10, l) := c1.trans (if_pos (hat (by rw [he, h5, Bool.or_true])))
      rw [e]
      (conv => whnf)
      exact rx [] [.same 0, .same 1, .same 2, .same 3, .same 2, .same 3]
    · rw [h5, Bool.or_false] at he
      (conv => whnf)
      refine boo (fun h6 => ?_) (fun h6 => ?_)
      · have e : putD l x = (10, l) := c1.trans (if_pos (hat (he.trans h6)))
        rw [e]
        (conv => whnf)
        exact rx [] [.same 0, .same 1, .same 2, .same 3, .same 2, .same 3]
      · have htk := htk (he.trans h6)
        (conv => whnf)
        refine ⟨false, .grow, (.l [0, 1, 2, 3, 4, 5, 6, 7, 8, 9, 10, 11, 12, 13, 14, 15]), by kernel_rfl, .inl ?_⟩
        cases put with
        | true =>
          (conv => whnf)
          refine ⟨false, .grow, (.l [0, 1, 2, 3, 4, 5, 6, 7, 8, 9, 10]), by kernel_rfl, .inl ?_⟩
          (conv => whnf)
          refine ⟨i, ⟨rfl, hlt⟩, ?_⟩
          (conv => whnf)
          refine ⟨y, hiy, ?_⟩
          (conv => whnf)
          refine decN (fun h7 => ?_) (fun h7 => ?_)
          · rw [show newS x (out, true) y = (out ++ [y], true) by simp [newS, h7]] at hsu
            (conv => whnf)
            refine ⟨i, ⟨rfl, hlt⟩, ?_⟩
            (conv => whnf)
            refine ⟨y, hiy, ?_⟩
            (conv => whnf)
            refine ⟨[y], rfl, ?_⟩
            (conv => whnf)
            refine ⟨_, _, rfl, rfl, (by simp only [List.length_append, List.length_cons, List.length_nil]; omega), ?_⟩
            repeat' ((conv => whnf); first | (refine dec (fun h => ?_) (fun h => ?_) <;> try contradiction) | (refine decN (fun h => ?_) (fun h => ?_) <;> try contradiction) | refine booN (fun h => ?_) (fun h => ?_) | refine boo (fun h => ?_) (fun h => ?_) | refine ⟨i64 (by omega) (by omega), ?_⟩ | refine ⟨_, _, rfl, List.getElem?_eq_getElem (by omega), ?_⟩ | refine ⟨_, ⟨rfl, by omega⟩, ?_⟩ | refine ⟨_, List.getElem?_eq_getElem (by omega), ?_⟩ | refine rtB ?_ | refine rtI ?_ | refine rtC ?_ rfl | fail)
            refine ag (i + 1) [] [.same 0, .same 1, .same 2, .same 3, .same 4, .same 7] ⟨hlt, htk⟩ (by simp only []; omega) ?_
            rw [hsu]
            repeat' first | exact trivial | exact rfl | refine And.intro ?_ ?_
          · rw [show newS x (out, true) y = (out, true) by simp [newS, h7]] at hsu
            repeat' ((conv => whnf); first | (refine dec (fun h => ?_) (fun h => ?_) <;> try contradiction) | (refine decN (fun h => ?_) (fun h => ?_) <;> try contradiction) | refine booN (fun h => ?_) (fun h => ?_) | refine boo (fun h => ?_) (fun h => ?_) | refine ⟨i64 (by omega) (by omega), ?_⟩ | refine ⟨_, _, rfl, List.getElem?_eq_getElem (by omega), ?_⟩ | refine ⟨_, ⟨rfl, by omega⟩, ?_⟩ | refine ⟨_, List.getElem?_eq_getElem (by omega), ?_⟩ | refine rtB ?_ | refine rtI ?_ | refine rtC ?_ rfl | fail)
            refine ag (i + 1) [] [.same 0, .same 1, .same 2, .same 3, .same 4, .same 5] ⟨hlt, htk⟩ (by simp only []; omega) ?_
            rw [hsu]
            repeat' first | exact trivial | exact rfl | refine And.intro ?_ ?_
        | false =>
          (conv => whnf)
          refine ⟨i, ⟨rfl, hlt⟩, ?_⟩
          (conv => whnf)
          refine ⟨y, hiy, ?_⟩
          (conv => whnf)
          refine cl [] [] (ahead_spec y.path x.path hyp hx) ?_
          (conv => whnf)
          refine booN (fun h8 => ?_) (fun h8 => ?_)
          · (conv => whnf)
            refine ⟨[x], rfl, ?_⟩
            (conv => whnf)
            refine ⟨_, _, rfl, rfl, (by simp only [List.length_append, List.length_cons, List.length_nil]; omega), ?_⟩
            (conv => whnf)
            refine ⟨false, .grow, (.l [0, 1, 2, 3, 4, 5, 6, 7, 8, 9, 10]), by kernel_rfl, .inl ?_⟩
            (conv => whnf)
            refine ⟨i, ⟨rfl, hlt⟩, ?_⟩
            (conv => whnf)
            refine ⟨y, hiy, ?_⟩
            (conv => whnf)
            refine decN (fun h7 => ?_) (fun h7 => ?_)
            · rw [show newS x (out, false) y = ((out ++ [x]) ++ [y], true) by simp [newS, h7, h8]] at hsu
              (conv => whnf)
              refine ⟨i, ⟨rfl, hlt⟩, ?_⟩
              (conv => whnf)
              refine ⟨y, hiy, ?_⟩
              (conv => whnf)
              refine ⟨[y], rfl, ?_⟩
              (conv => whnf)
              refine ⟨_, _, rfl, rfl, (by simp only [List.length_append, List.length_cons, List.length_nil]; omega), ?_⟩
              repeat' ((conv => whnf); first | (refine dec (fun h => ?_) (fun h => ?_) <;> try contradiction) | (refine decN (fun h => ?_) (fun h => ?_) <;> try contradiction) | refine booN (fun h => ?_) (fun h => ?_) | refine boo (fun h => ?_) (fun h => ?_) | refine ⟨i64 (by omega) (by omega), ?_⟩ | refine ⟨_, _, rfl, List.getElem?_eq_getElem (by omega), ?_⟩ | refine ⟨_, ⟨rfl, by omega⟩, ?_⟩ | refine ⟨_, List.getElem?_eq_getElem (by omega), ?_⟩ | refine rtB ?_ | refine rtI ?_ | refine rtC ?_ rfl | fail)
              refine ag (i + 1) [] [.same 0, .same 1, .same 2, .same 3, .same 4, .same 9] ⟨hlt, htk⟩ (by simp only []; omega) ?_
              rw [hsu]
              repeat' first | exact trivial | exact rfl | refine And.intro ?_ ?_
            · rw [show newS x (out, false) y = (out ++ [x], true) by simp [newS, h7, lessP_irrefl]] at hsu
              repeat' ((conv => whnf); first | (refine dec (fun h => ?_) (fun h => ?_) <;> try contradiction) | (refine decN (fun h => ?_) (fun h => ?_) <;> try contradiction) | refine booN (fun h => ?_) (fun h => ?_) | refine boo (fun h => ?_) (fun h => ?_) | refine ⟨i64 (by omega) (by omega), ?_⟩ | refine ⟨_, _, rfl, List.getElem?_eq_getElem (by omega), ?_⟩ | refine ⟨_, ⟨rfl, by omega⟩, ?_⟩ | refine ⟨_, List.getElem?_eq_getElem (by omega), ?_⟩ | refine rtB ?_ | refine rtI ?_ | refine rtC ?_ rfl | fail)
              refine ag (i + 1) [] [.same 0, .same 1, .same 2, .same 3, .same 4, .same 7] ⟨hlt, htk⟩ (by simp only []; omega) ?_
              rw [hsu]
              repeat' first | exact trivial | exact rfl | refine And.intro ?_ ?_
          · (conv => whnf)
            refine ⟨false, .grow, (.l [0, 1, 2, 3, 4, 5, 6, 7, 8, 9, 10]), by kernel_rfl, .inl ?_⟩
            (conv => whnf)
            refine ⟨i, ⟨rfl, hlt⟩, ?_⟩
            (conv => whnf)
            refine ⟨y, hiy, ?_⟩
            (conv => whnf)
            refine decN (fun h7 => ?_) (fun h7 => absurd h7 (less_ne h8))
            rw [show newS x (out, false) y = (out ++ [y], false) by simp [newS, h7, h8]] at hsu
            (conv => whnf)
            refine ⟨i, ⟨rfl, hlt⟩, ?_⟩
            (conv => whnf)
            refine ⟨y, hiy, ?_⟩
            (conv => whnf)
            refine ⟨[y], rfl, ?_⟩
            (conv => whnf)
            refine ⟨_, _, rfl, rfl, (by simp only [List.length_append, List.length_cons, List.length_nil]; omega), ?_⟩
            repeat' ((conv => whnf); first | (refine dec (fun h => ?_) (fun h => ?_) <;> try contradiction) | (refine decN (fun h => ?_) (fun h => ?_) <;> try contradiction) | refine booN (fun h => ?_) (fun h => ?_) | refine boo (fun h => ?_) (fun h => ?_) | refine ⟨i64 (by omega) (by omega), ?_⟩ | refine ⟨_, _, rfl, List.getElem?_eq_getElem (by omega), ?_⟩ | refine ⟨_, ⟨rfl, by omega⟩, ?_⟩ | refine ⟨_, List.getElem?_eq_getElem (by omega), ?_⟩ | refine rtB ?_ | refine rtI ?_ | refine rtC ?_ rfl | fail)
            refine ag (i + 1) [] [.same 0, .same 1, .same 2, .same 3, .same 4, .same 7] ⟨hlt, htk⟩ (by simp only []; omega) ?_
            rw [hsu]
            repeat' first | exact trivial | exact rfl | refine And.intro ?_ ?_
  · obtain rfl : i = l.length := by omega
    have hno := hi.2
    rw [List.take_length] at hno
    have c2 := c1.trans (if_neg (by rw [hno]; decide))
    have hall := newU_all l x
    have hul := newU_len (l := l) (x := x) (i := l.length) (Nat.le_refl _)
    generalize newU l x l.length = s at *
    obtain ⟨out, put⟩ := s
    cases put with
    | true =>
      have hall : out = newW l x := hall
      have hul : out.length ≤ l.length + 1 := hul
      rw [hall] at hul ⊢
      (conv => whnf)
      refine dec (fun h5 => ?_) (fun h5 => ?_)
      · have e : putD l x = _ := c2.trans (if_pos (by have h5 : (60 : Int) < (newW l x).length := h5; omega))
        rw [e]
        (conv => whnf)
        exact rx [] [.same 0, .same 1, .same 2, .same 3, .same 2, .same 3]
      · have e : putD l x = _ := c2.trans (if_neg (by have h5 : ¬ (60 : Int) < (newW l x).length := h5; omega))
        rw [e]
        (conv => whnf)
        exact rx [] [.same 0, .same 1, .same 2, .same 3, .same 2, .same 5]
    | false =>
      have hall : out ++ [x] = newW l x := hall
      have hul : out.length ≤ l.length + 0 := hul
      (conv => whnf)
      refine ⟨[x], rfl, ?_⟩
      (conv => whnf)
      refine ⟨_, _, rfl, rfl, (by simp only [List.length_append, List.length_cons, List.length_nil]; omega), ?_⟩
      rw [hall]
      (conv => whnf)
      refine dec (fun h5 => ?_) (fun h5 => ?_)
      · have e : putD l x = _ := c2.trans (if_pos (by have h5 : (60 : Int) < (newW l x).length := h5; omega))
        rw [e]
        (conv => whnf)
        exact rx [] [.same 0, .same 1, .same 2, .same 3, .same 2, .same 3]
      · have e : putD l x = _ := c2.trans (if_neg (by have h5 : ¬ (60 : Int) < (newW l x).length := h5; omega))
        rw [e]
        (conv => whnf)
        exact rx [] [.same 0, .same 1, .same 2, .same 3, .same 2, .same 7]
end Go.Nest
end
