/- WALKS, K7: a work: commit; by the document, too. -/
import Derived.Test.YtogallppofinhaaGreatDoorK6
import Derived.Test.YtogallppofinhaaGreatDoorW8
section
namespace Go.Nest
open Go Go.AM Go.Proofs
open Go.Proofs.YtogallppofinhaaGreatDoor (tab tabOk)
set_option linter.unusedVariables false
set_option linter.unusedSimpArgs false
set_option maxRecDepth 4000
set_option maxHeartbeats 1000000 in
theorem commit_wspec (L : List Ob) (hL : PoolOk L) (l : List It) (h : Int) (hp : ∀ y ∈ l, y.path.length ≤ 4000000) (hl : l.length ≤ 60) (text : List UInt8) (others : List Int) (ho : others.length ≤ 1000) (hh : HOk L h) : Does Tryz.prog 83 [.c (.ptr 0 0), .c (.str text), .c (.bs 1 Int encI others)] [.box [.ptr 1 0, .rw 3, .int .i64 h], .box [.rw 2], .row 6 Ob encOb L, .row 5 It encIt l] (Rt (.tup [(false, [.int .i64 (commW L l h text others).1]), (false, [.int .i64 (commW L l h text others).2.1])]) [.box [.ptr 1 0, .rw 5, .int .i64 (headW L l h text others)], .box [.rw 4], .dead, .dead, .row 6 Ob encOb (commW L l h text others).2.2, .row 5 It encIt l]) := by
  have hto := (treeW_ok (l := l) hL).1
  have hh := hh.ext (treeW_ok (l := l) hL).2
  have hH : headW L l h text others = if (commW L l h text others).2.1 = 0 then (commW L l h text others).1 else h := rfl
  rw [hH]
  have hR : commW L l h text others = _ := rfl
  conv at hR => rhs; unfold commW
  have hT := tree_wspec L hL l h hp hl
  generalize commW L l h text others = R at *
  generalize treeW L l = T at *
  obtain ⟨t, c, M⟩ := T
  dsimp only at hto hh hR
  have p1 := put_spec M (comO t (upW h others) text) hto.len
  generalize hP : putP M (comO t (upW h others) text) = P at *
  obtain ⟨id, c', M'⟩ := P
  dsimp only at p1 hR
  refine X_spec (n := 69) (n0 := 4) tabOk Tryz.call83 Tryz.func83 ?_
  intro hb
  (conv => whnf)
  refine cl [] [0, 1, 2, 3] (hT) ?_
  (conv => whnf)
  refine decN (fun h1 => ?_) (fun h1 => ?_)
  · rw [hR.trans (if_pos h1), if_neg h1]
    (conv => whnf)
    exact rx [] [.same 0, .same 1, .same 2, .same 3, .same 4, .same 5]
  have c1 := hR.trans (if_neg (fun h => h h1))
  (conv => whnf)
  refine dec (fun h2 => ?_) (fun h2 => ?_)
  · have h2 : 0 ≤ h := h2
    have hup : upW h others = [h] ++ others := by unfold upW; rw [if_pos h2]
    rw [hup] at p1
    (conv => whnf)
    refine cl [] [] (says_wspec M hto l h t) ?_
    (conv => whnf)
    refine boo (fun h3 => ?_) (fun h3 => ?_)
    · (conv => whnf)
      refine dec (fun h4 => ?_) (fun h4 => ?_)
      · rw [c1.trans (if_pos ⟨h2, h3, Int.ofNat_inj.1 h4⟩), if_neg (show ¬ (17 : Int) = 0 by decide)]
        (conv => whnf)
        exact rx [] [.same 0, .same 1, .same 2, .same 3, .same 4, .same 5]
      · have c2 := c1.trans (if_neg (fun h => h4 (congrArg Int.ofNat h.2.2)))
        (conv => whnf)
        refine dec (fun _ => ?_) (fun h => absurd h2 h)
        (conv => whnf)
        refine ⟨[h], rfl, ?_⟩
        (conv => whnf)
        refine ⟨[], _, rfl, rfl, (by simp only [List.length_nil, List.length_cons]; omega), ?_⟩
        (conv => whnf)
        refine ⟨true, .any, (.alt [0, 1, 2, 4, 5, 6, 8] [3, 7] fun j => bif Nat.beq j 3 then (.l [7, 9, 10, 11, 12, 13, 14, 15]) else bif Nat.beq j 7 then (.l [9, 3, 10, 11, 12, 13, 14, 15]) else .l []), by kernel_rfl, .inl ?_⟩
        (conv => whnf)
        refine And.intro ?_ ?_
        all_goals
          (conv => whnf)
          refine ⟨_, _, rfl, rfl, (by simp only [List.length_append, List.length_nil, List.length_cons]; omega), ?_⟩
          (conv => whnf)
          refine cl [] [1, 4] (p1) ?_
          (conv => whnf)
          refine decN (fun h6 => ?_) (fun h6 => ?_)
          · rw [c2.trans (if_pos h6), if_neg h6]
            (conv => whnf)
            exact rx [] [.same 0, .same 1, .same 2, .same 3, .same 9, .same 5]
          · rw [c2.trans (if_neg (fun h => h h6)), if_pos h6]
            have h6 : c' = 0 := h6
            subst h6
            (conv => whnf)
            exact rx [] [.same 0, .same 1, .same 2, .same 3, .same 9, .same 5]
    · have c2 := c1.trans (if_neg (fun h => by have := h.2.1; rw [h3] at this; cases this))
      (conv => whnf)
      refine dec (fun _ => ?_) (fun h => absurd h2 h)
      (conv => whnf)
      refine ⟨[h], rfl, ?_⟩
      (conv => whnf)
      refine ⟨[], _, rfl, rfl, (by simp only [List.length_nil, List.length_cons]; omega), ?_⟩
      (conv => whnf)
      refine ⟨true, .any, (.alt [0, 1, 2, 4, 5, 6, 8] [3, 7] fun j => bif Nat.beq j 3 then (.l [7, 9, 10, 11, 12, 13, 14, 15]) else bif Nat.beq j 7 then (.l [9, 3, 10, 11, 12, 13, 14, 15]) else .l []), by kernel_rfl, .inl ?_⟩
      (conv => whnf)
      refine And.intro ?_ ?_
      all_goals
        (conv => whnf)
        refine ⟨_, _, rfl, rfl, (by simp only [List.length_append, List.length_nil, List.length_cons]; omega), ?_⟩
        (conv => whnf)
        refine cl [] [1, 4] (p1) ?_
        (conv => whnf)
        refine decN (fun h6 => ?_) (fun h6 => ?_)
        · rw [c2.trans (if_pos h6), if_neg h6]
          (conv => whnf)
          exact rx [] [.same 0, .same 1, .same 2, .same 3, .same 9, .same 5]
        · rw [c2.trans (if_neg (fun h => h h6)), if_pos h6]
          have h6 : c' = 0 := h6
          subst h6
          (conv => whnf)
          exact rx [] [.same 0, .same 1, .same 2, .same 3, .same 9, .same 5]
  · have h2 : ¬ 0 ≤ h := h2
    have hup : upW h others = [] ++ others := by unfold upW; rw [if_neg h2]
    rw [hup] at p1
    have c2 := c1.trans (if_neg (fun h => h2 h.1))
    (conv => whnf)
    refine dec (fun h => absurd h h2) (fun _ => ?_)
    (conv => whnf)
    refine ⟨true, .any, (.alt [0, 1, 2, 4, 5, 6, 8] [3, 7] fun j => bif Nat.beq j 3 then (.l [7, 9, 10, 11, 12, 13, 14, 15]) else bif Nat.beq j 7 then (.l [9, 3, 10, 11, 12, 13, 14, 15]) else .l []), by kernel_rfl, .inl ?_⟩
    (conv => whnf)
    refine And.intro ?_ ?_
    all_goals
      (conv => whnf)
      refine ⟨[], _, rfl, rfl, (by simp only [List.length_nil]; omega), ?_⟩
      (conv => whnf)
      refine cl [] [1, 4] (p1) ?_
      (conv => whnf)
      refine decN (fun h6 => ?_) (fun h6 => ?_)
      · rw [c2.trans (if_pos h6), if_neg h6]
        (conv => whnf)
        exact rx [] [.same 0, .same 1, .same 2, .same 3, .same 7, .same 5]
      · rw [c2.trans (if_neg (fun h => h h6)), if_pos h6]
        have h6 : c' = 0 := h6
        subst h6
        (conv => whnf)
        exact rx [] [.same 0, .same 1, .same 2, .same 3, .same 7, .same 5]
set_option maxHeartbeats 1000000 in
theorem commitD_wspec (L : List Ob) (hL : PoolOk L) (l : List It) (h : Int) (hp : ∀ y ∈ l, y.path.length ≤ 4000000) (hl : l.length ≤ 60) (text : List UInt8) (others : List Int) (ho : others.length ≤ 1000) (hh : HOk L h) : Does Tryz.prog 90 [.c (.ptr 0 0), .c (.str text), .c (.bs 1 Int encI others)] [.box [.ptr 1 0, .rw 3, .int .i64 h], .box [.rw 2], .row 6 Ob encOb L, .row 5 It encIt l] (Rt (.tup [(false, [.int .i64 (commW L l h text others).1]), (false, [.int .i64 (commW L l h text others).2.1])]) [.box [.ptr 1 0, .rw 5, .int .i64 (headW L l h text others)], .box [.rw 4], .dead, .dead, .row 6 Ob encOb (commW L l h text others).2.2, .row 5 It encIt l]) := by
  have hto := (treeW_ok (l := l) hL).1
  have hh := hh.ext (treeW_ok (l := l) hL).2
  have hH : headW L l h text others = if (commW L l h text others).2.1 = 0 then (commW L l h text others).1 else h := rfl
  rw [hH]
  have hR : commW L l h text others = _ := rfl
  conv at hR => rhs; unfold commW
  have hT := treeD_wspec L hL l h hp hl
  generalize commW L l h text others = R at *
  generalize treeW L l = T at *
  obtain ⟨t, c, M⟩ := T
  dsimp only at hto hh hR
  have p1 := putR_spec M (comO t (upW h others) text) hto.len
  generalize hP : putP M (comO t (upW h others) text) = P at *
  obtain ⟨id, c', M'⟩ := P
  dsimp only at p1 hR
  refine X_spec (n := 80) (n0 := 4) tabOk Tryz.call90 Tryz.func90 ?_
  intro hb
  (conv => whnf)
  refine cl [] [0, 1, 2, 3] (hT) ?_
  (conv => whnf)
  refine decN (fun h1 => ?_) (fun h1 => ?_)
  · rw [hR.trans (if_pos h1), if_neg h1]
    (conv => whnf)
    exact rx [] [.same 0, .same 1, .same 2, .same 3, .same 4, .same 5]
  have c1 := hR.trans (if_neg (fun h => h h1))
  (conv => whnf)
  refine ⟨false, .grow, (.l [0, 1, 2, 3, 4, 5, 6, 7, 8, 9, 10, 11, 12, 13, 14, 15, 16, 17, 18, 19, 20, 21, 22, 23, 24, 25, 26, 27]), by kernel_rfl, .inl ?_⟩
  (conv => whnf)
  refine dec (fun h2 => ?_) (fun h2 => ?_)
  · have h2 : 0 ≤ h := h2
    have hup : upW h others = [h] ++ others := by unfold upW; rw [if_pos h2]
    rw [hup] at p1
    obtain ⟨hlt, q1, q2⟩ := hh.at (show ¬ h < 0 by omega)
    have hs : saysW M l h t = decide (M[h.toNat].tree = t) := by unfold saysW; rw [if_neg (by omega), q2]
    rw [hs] at c1
    (conv => whnf)
    refine ⟨h.toNat, ⟨q1, hlt⟩, ?_⟩
    (conv => whnf)
    refine ⟨M[h.toNat], List.getElem?_eq_getElem hlt, ?_⟩
    (conv => whnf)
    refine dec (fun h3 => ?_) (fun h3 => ?_)
    · (conv => whnf)
      refine dec (fun h4 => ?_) (fun h4 => ?_)
      · rw [c1.trans (if_pos ⟨h2, decide_eq_true h3.symm, Int.ofNat_inj.1 h4⟩), if_neg (show ¬ (17 : Int) = 0 by decide)]
        (conv => whnf)
        exact rx [] [.same 0, .same 1, .same 2, .same 3, .same 4, .same 5]
      · have c2 := c1.trans (if_neg (fun h => h4 (congrArg Int.ofNat h.2.2)))
        (conv => whnf)
        refine dec (fun _ => ?_) (fun h => absurd h2 h)
        (conv => whnf)
        refine ⟨[h], rfl, ?_⟩
        (conv => whnf)
        refine ⟨true, .any, (.alt [0, 1, 2, 4, 5, 6, 8] [3, 7] fun j => bif Nat.beq j 3 then (.l [7, 9, 10, 11, 12, 13, 14, 15]) else bif Nat.beq j 7 then (.l [9, 3, 10, 11, 12, 13, 14, 15]) else .l []), by kernel_rfl, .inl ?_⟩
        (conv => whnf)
        refine And.intro ?_ ?_
        all_goals
          (conv => whnf)
          refine ⟨_, _, rfl, rfl, (by simp only [List.length_nil, List.length_cons]; omega), ?_⟩
          (conv => whnf)
          refine cl [] [1, 4] (p1) ?_
          (conv => whnf)
          refine decN (fun h6 => ?_) (fun h6 => ?_)
          · rw [c2.trans (if_pos h6), if_neg h6]
            (conv => whnf)
            exact rx [] [.same 0, .same 1, .same 2, .same 3, .same 8, .same 5]
          · rw [c2.trans (if_neg (fun h => h h6)), if_pos h6]
            have h6 : c' = 0 := h6
            subst h6
            (conv => whnf)
            exact rx [] [.same 0, .same 1, .same 2, .same 3, .same 8, .same 5]
    · have c2 := c1.trans (if_neg (fun h => h3 (of_decide_eq_true h.2.1).symm))
      (conv => whnf)
      refine dec (fun _ => ?_) (fun h => absurd h2 h)
      (conv => whnf)
      refine ⟨[h], rfl, ?_⟩
      (conv => whnf)
      refine ⟨true, .any, (.alt [0, 1, 2, 4, 5, 6, 8] [3, 7] fun j => bif Nat.beq j 3 then (.l [7, 9, 10, 11, 12, 13, 14, 15]) else bif Nat.beq j 7 then (.l [9, 3, 10, 11, 12, 13, 14, 15]) else .l []), by kernel_rfl, .inl ?_⟩
      (conv => whnf)
      refine And.intro ?_ ?_
      all_goals
        (conv => whnf)
        refine ⟨_, _, rfl, rfl, (by simp only [List.length_nil, List.length_cons]; omega), ?_⟩
        (conv => whnf)
        refine cl [] [1, 4] (p1) ?_
        (conv => whnf)
        refine decN (fun h6 => ?_) (fun h6 => ?_)
        · rw [c2.trans (if_pos h6), if_neg h6]
          (conv => whnf)
          exact rx [] [.same 0, .same 1, .same 2, .same 3, .same 8, .same 5]
        · rw [c2.trans (if_neg (fun h => h h6)), if_pos h6]
          have h6 : c' = 0 := h6
          subst h6
          (conv => whnf)
          exact rx [] [.same 0, .same 1, .same 2, .same 3, .same 8, .same 5]
  · have h2 : ¬ 0 ≤ h := h2
    have hup : upW h others = [] ++ others := by unfold upW; rw [if_neg h2]
    rw [hup] at p1
    have c2 := c1.trans (if_neg (fun h => h2 h.1))
    (conv => whnf)
    refine dec (fun h => absurd h h2) (fun _ => ?_)
    (conv => whnf)
    refine ⟨true, .any, (.alt [0, 1, 2, 4, 5, 6, 8] [3, 7] fun j => bif Nat.beq j 3 then (.l [7, 9, 10, 11, 12, 13, 14, 15]) else bif Nat.beq j 7 then (.l [9, 3, 10, 11, 12, 13, 14, 15]) else .l []), by kernel_rfl, .inl ?_⟩
    (conv => whnf)
    refine And.intro ?_ ?_
    all_goals
      (conv => whnf)
      refine ⟨[], _, rfl, rfl, (by simp only [List.length_nil]; omega), ?_⟩
      (conv => whnf)
      refine cl [] [1, 4] (p1) ?_
      (conv => whnf)
      refine decN (fun h6 => ?_) (fun h6 => ?_)
      · rw [c2.trans (if_pos h6), if_neg h6]
        (conv => whnf)
        exact rx [] [.same 0, .same 1, .same 2, .same 3, .same 7, .same 5]
      · rw [c2.trans (if_neg (fun h => h h6)), if_pos h6]
        have h6 : c' = 0 := h6
        subst h6
        (conv => whnf)
        exact rx [] [.same 0, .same 1, .same 2, .same 3, .same 7, .same 5]
end Go.Nest
end
/- WALKS, K8: a work: laid, checked out; by the document, too. -/
section
namespace Go.Nest
open Go Go.AM Go.Proofs
open Go.Proofs.YtogallppofinhaaGreatDoor (tab tabOk)
set_option linter.unusedVariables false
set_option linter.unusedSimpArgs false
set_option maxRecDepth 4000
theorem layF_link {L : List Ob} {f : Fi} (h : f.mode = 3) : layF L f = ⟨f.path, [], decide (f.mode = 3), f.id, f.repo⟩ := (if_pos h).trans (by rw [decide_eq_true h])
theorem layF_file {L : List Ob} {f : Fi} (h : ¬ f.mode = 3) : layF L f = ⟨f.path, (getP L f.id).bytes, false, 0, 0⟩ := if_neg h
set_option maxHeartbeats 1000000 in
theorem lay_wspec (L : List Ob) (hL : PoolOk L) (l : List It) (h : Int) (fs : List Fi) (hf : fs.length ≤ 60) : Does Tryz.prog 96 [.c (.ptr 0 0), .c (.bs 4 Fi encFi fs)] [.box [.ptr 1 0, .rw 3, .int .i64 h], .box [.rw 2], .row 6 Ob encOb L, .row 5 It encIt l] (Rt (.tup []) [.box [.ptr 1 0, .rw 5, .int .i64 h], .box [.rw 4], .dead, .dead, .row 6 Ob encOb L, .row 5 It encIt (fs.map (layF L))]) := by
  refine X_spec (n := 57) (n0 := 4) tabOk Tryz.call96 Tryz.func96 ?_
  intro hb
  (conv => whnf)
  refine lp Nat (fun i => ⟨[(0, .c (.ptr 0 0)), (12, .c (.bs 4 Fi encFi fs)), (13, .c (.int .i64 fs.length)), (14, .c (.int .i64 i))], [.box [.ptr 1 0, .rw 4, .int .i64 h], .box [.rw 2], .row 6 Ob encOb L, .dead, .row 5 It encIt ((fs.take i).map (layF L))]⟩) (fun i => i ≤ fs.length ∧ True) (fun i => fs.length - i) 0 [] [.same 0, .same 1, .same 2, .same 3, .new] ?_ ?_ (fun i hi => ?_)
  · simp
  · repeat' first | exact trivial | exact rfl | refine And.intro ?_ ?_
  (conv => whnf)
  refine dec (fun h4 => ?_) (fun h4 => ?_)
  · have hlt : i < fs.length := by omega
    have hol : ((fs.take i).map (layF L)).length ≤ i := by rw [List.length_map, List.length_take]; omega
    have hs : (fs.take (i + 1)).map (layF L) = (fs.take i).map (layF L) ++ [layF L fs[i]] := by rw [List.take_succ_eq_append_getElem hlt, List.map_append]; rfl
    generalize (fs.take i).map (layF L) = out at *
    (conv => whnf)
    refine ⟨i, fs[i], rfl, List.getElem?_eq_getElem hlt, ?_⟩
    generalize fs[i] = f at *
    (conv => whnf)
    refine decN (fun h5 => ?_) (fun h5 => ?_)
    · rw [layF_file h5] at hs
      (conv => whnf)
      refine ⟨false, .grow, (.alt [0, 1, 2, 3, 4, 5] [6, 10] fun j => bif Nat.beq j 6 then (.l [7, 8, 9, 10, 11, 12]) else bif Nat.beq j 10 then (.l [6, 7, 8, 9, 11, 12]) else .l []), by kernel_rfl, .inl ?_⟩
      (conv => whnf)
      refine And.intro ?_ ?_
      all_goals
        (conv => whnf)
        refine cl [] [] (get_spec L hL f.id) ?_
        (conv => whnf)
        refine ⟨false, .grow, (.l [0, 1, 2, 3, 4, 5, 6, 7, 8, 9, 10]), by kernel_rfl, .inl ?_⟩
        (conv => whnf)
        refine ⟨[⟨f.path, (getP L f.id).bytes, false, 0, 0⟩], rfl, ?_⟩
        (conv => whnf)
        refine ⟨_, _, rfl, rfl, (by simp only [List.length_append, List.length_cons, List.length_nil]; omega), ?_⟩
        repeat' ((conv => whnf); first | (refine dec (fun h => ?_) (fun h => ?_) <;> try contradiction) | (refine decN (fun h => ?_) (fun h => ?_) <;> try contradiction) | refine booN (fun h => ?_) (fun h => ?_) | refine boo (fun h => ?_) (fun h => ?_) | refine ⟨i64 (by omega) (by omega), ?_⟩ | refine ⟨_, _, rfl, List.getElem?_eq_getElem (by omega), ?_⟩ | refine ⟨_, ⟨rfl, by omega⟩, ?_⟩ | refine ⟨_, List.getElem?_eq_getElem (by omega), ?_⟩ | refine rtB ?_ | refine rtI ?_ | refine rtC ?_ rfl | fail)
        refine ag (i + 1) [] [.same 0, .same 1, .same 2, .same 3, .same 9] ⟨hlt, trivial⟩ (by simp only []; omega) ?_
        rw [hs]
        repeat' first | exact trivial | exact rfl | refine And.intro ?_ ?_
    · rw [layF_link h5] at hs
      (conv => whnf)
      refine ⟨false, .grow, (.l [0, 1, 2, 3, 4, 5, 6, 7, 8, 9, 10]), by kernel_rfl, .inl ?_⟩
      (conv => whnf)
      refine ⟨[⟨f.path, [], decide (f.mode = 3), f.id, f.repo⟩], rfl, ?_⟩
      (conv => whnf)
      refine ⟨_, _, rfl, rfl, (by simp only [List.length_append, List.length_cons, List.length_nil]; omega), ?_⟩
      repeat' ((conv => whnf); first | (refine dec (fun h => ?_) (fun h => ?_) <;> try contradiction) | (refine decN (fun h => ?_) (fun h => ?_) <;> try contradiction) | refine booN (fun h => ?_) (fun h => ?_) | refine boo (fun h => ?_) (fun h => ?_) | refine ⟨i64 (by omega) (by omega), ?_⟩ | refine ⟨_, _, rfl, List.getElem?_eq_getElem (by omega), ?_⟩ | refine ⟨_, ⟨rfl, by omega⟩, ?_⟩ | refine ⟨_, List.getElem?_eq_getElem (by omega), ?_⟩ | refine rtB ?_ | refine rtI ?_ | refine rtC ?_ rfl | fail)
      refine ag (i + 1) [] [.same 0, .same 1, .same 2, .same 3, .same 8] ⟨hlt, trivial⟩ (by simp only []; omega) ?_
      rw [hs]
      repeat' first | exact trivial | exact rfl | refine And.intro ?_ ?_
  · obtain rfl : i = fs.length := by omega
    rw [List.take_length]
    (conv => whnf)
    exact rx [] [.same 0, .same 1, .same 2, .same 3, .same 2, .same 4]
set_option maxHeartbeats 1000000 in
theorem layD_wspec (L : List Ob) (hL : PoolOk L) (l : List It) (h : Int) (fs : List Fi) (hf : fs.length ≤ 60) (hv : ∀ f ∈ fs, ¬ f.mode = 3 → ¬ kindOf L f.id = 0) : Does Tryz.prog 158 [.c (.ptr 0 0), .c (.bs 4 Fi encFi fs)] [.box [.ptr 1 0, .rw 3, .int .i64 h], .box [.rw 2], .row 6 Ob encOb L, .row 5 It encIt l] (Rt (.tup []) [.box [.ptr 1 0, .rw 5, .int .i64 h], .box [.rw 4], .dead, .dead, .row 6 Ob encOb L, .row 5 It encIt (fs.map (layF L))]) := by
  refine X_spec (n := 66) (n0 := 4) tabOk Tryz.call158 Tryz.func158 ?_
  intro hb
  (conv => whnf)
  refine lp Nat (fun i => ⟨[(0, .c (.ptr 0 0)), (1, .c (.bs 4 Fi encFi fs)), (4, .c (.int .i64 i))], [.box [.ptr 1 0, .rw 4, .int .i64 h], .box [.rw 2], .row 6 Ob encOb L, .dead, .row 5 It encIt ((fs.take i).map (layF L))]⟩) (fun i => i ≤ fs.length ∧ True) (fun i => fs.length - i) 0 [] [.same 0, .same 1, .same 2, .same 3, .new] ?_ ?_ (fun i hi => ?_)
  · simp
  · repeat' first | exact trivial | exact rfl | refine And.intro ?_ ?_
  (conv => whnf)
  refine dec (fun h4 => ?_) (fun h4 => ?_)
  · have hlt : i < fs.length := by omega
    have hol : ((fs.take i).map (layF L)).length ≤ i := by rw [List.length_map, List.length_take]; omega
    have hs : (fs.take (i + 1)).map (layF L) = (fs.take i).map (layF L) ++ [layF L fs[i]] := by rw [List.take_succ_eq_append_getElem hlt, List.map_append]; rfl
    have hiy : fs[i]? = some fs[i] := List.getElem?_eq_getElem hlt
    have hvi := hv _ (List.getElem_mem hlt)
    generalize (fs.take i).map (layF L) = out at *
    generalize fs[i] = f at *
    (conv => whnf)
    refine ⟨i, f, rfl, hiy, ?_⟩
    (conv => whnf)
    refine ⟨i, f, rfl, hiy, ?_⟩
    (conv => whnf)
    refine dec (fun h5 => ?_) (fun h5 => ?_)
    · rw [layF_link h5, decide_eq_true h5] at hs
      (conv => whnf)
      refine ⟨false, .prot [], (.l [0, 1, 2, 3, 4, 5, 6, 7, 8, 9, 10, 11, 12, 13, 14, 15]), by kernel_rfl, .inl ?_⟩
      (conv => whnf)
      refine ⟨i, f, rfl, hiy, ?_⟩
      (conv => whnf)
      refine ⟨i, f, rfl, hiy, ?_⟩
      (conv => whnf)
      refine ⟨false, .grow, (.l [0, 1, 2, 3, 4, 5, 6, 7, 8, 9, 10]), by kernel_rfl, .inl ?_⟩
      (conv => whnf)
      refine ⟨[⟨f.path, [], true, f.id, f.repo⟩], rfl, ?_⟩
      (conv => whnf)
      refine ⟨_, _, rfl, rfl, (by simp only [List.length_append, List.length_cons, List.length_nil]; omega), ?_⟩
      repeat' ((conv => whnf); first | (refine dec (fun h => ?_) (fun h => ?_) <;> try contradiction) | (refine decN (fun h => ?_) (fun h => ?_) <;> try contradiction) | refine booN (fun h => ?_) (fun h => ?_) | refine boo (fun h => ?_) (fun h => ?_) | refine ⟨i64 (by omega) (by omega), ?_⟩ | refine ⟨_, _, rfl, List.getElem?_eq_getElem (by omega), ?_⟩ | refine ⟨_, ⟨rfl, by omega⟩, ?_⟩ | refine ⟨_, List.getElem?_eq_getElem (by omega), ?_⟩ | refine rtB ?_ | refine rtI ?_ | refine rtC ?_ rfl | fail)
      refine ag (i + 1) [] [.same 0, .same 1, .same 2, .same 3, .same 7] ⟨hlt, trivial⟩ (by simp only []; omega) ?_
      rw [hs]
      repeat' first | exact trivial | exact rfl | refine And.intro ?_ ?_
    · rw [layF_file h5] at hs
      have h5 : ¬ f.mode = 3 := h5
      obtain ⟨k1, k2⟩ := kindOf_pos (hvi h5)
      rw [getP_at k1 k2] at hs
      (conv => whnf)
      refine ⟨false, .grow, (.l [0, 1, 2, 3, 4, 5, 6, 7, 8, 9, 10, 11, 12, 13, 14, 15, 16]), by kernel_rfl, .inl ?_⟩
      (conv => whnf)
      refine ⟨i, f, rfl, hiy, ?_⟩
      (conv => whnf)
      refine ⟨f.id.toNat, ⟨by omega, k2⟩, ?_⟩
      (conv => whnf)
      refine ⟨L[f.id.toNat], List.getElem?_eq_getElem k2, ?_⟩
      (conv => whnf)
      refine ⟨false, .grow, (.l [0, 1, 2, 3, 4, 5, 6, 7, 8, 9, 10]), by kernel_rfl, .inl ?_⟩
      (conv => whnf)
      refine ⟨[⟨f.path, L[f.id.toNat].bytes, false, 0, 0⟩], rfl, ?_⟩
      (conv => whnf)
      refine ⟨_, _, rfl, rfl, (by simp only [List.length_append, List.length_cons, List.length_nil]; omega), ?_⟩
      repeat' ((conv => whnf); first | (refine dec (fun h => ?_) (fun h => ?_) <;> try contradiction) | (refine decN (fun h => ?_) (fun h => ?_) <;> try contradiction) | refine booN (fun h => ?_) (fun h => ?_) | refine boo (fun h => ?_) (fun h => ?_) | refine ⟨i64 (by omega) (by omega), ?_⟩ | refine ⟨_, _, rfl, List.getElem?_eq_getElem (by omega), ?_⟩ | refine ⟨_, ⟨rfl, by omega⟩, ?_⟩ | refine ⟨_, List.getElem?_eq_getElem (by omega), ?_⟩ | refine rtB ?_ | refine rtI ?_ | refine rtC ?_ rfl | fail)
      refine ag (i + 1) [] [.same 0, .same 1, .same 2, .same 3, .same 7] ⟨hlt, trivial⟩ (by simp only []; omega) ?_
      rw [hs]
      repeat' first | exact trivial | exact rfl | refine And.intro ?_ ?_
  · obtain rfl : i = fs.length := by omega
    rw [List.take_length]
    (conv => whnf)
    exact rx [] [.same 0, .same 1, .same 2, .same 3, .same 2, .same 4]
theorem Ents.ids {ne : Bool} {L : List Ob} (hL : PoolOk L) {es : List Ent} {l : List Fi} (h : Ents ne L es l) : (∀ e ∈ es, kindOf L e.id = e.mode) → ∀ f ∈ l, kindOf L f.id = f.mode := by
  induction h with
  | nil => intro _ f hf; cases hf
  | file hm h ih =>
    intro he f hf
    rcases List.mem_cons.1 hf with rfl | hf
    · exact he _ (by simp)
    · exact ih (fun e h => he e (by simp [h])) f hf
  | @dir e es m l hm hk hne h1 h ih1 ih2 =>
    intro he f hf
    rcases List.mem_append.1 hf with hf | hf
    · obtain ⟨g, hg, rfl⟩ := List.mem_map.1 hf
      exact ih1 (hL.tree hk).2.2.2 g hg
    · exact ih2 (fun e h => he e (by simp [h])) f hf
theorem TreeOf.ids {ne : Bool} {L : List Ob} (hL : PoolOk L) {t : Int} {l : List Fi} (h : TreeOf ne L t l) : ∀ f ∈ l, kindOf L f.id = f.mode := h.2.ids hL (hL.tree h.1).2.2.2
theorem filesF_mode {l : List Fi} (h : filesF l = 0) : ∀ f ∈ l, ¬ f.mode = 0 := fun f hf => by have := ((filesF_all h).2 f hf).2; omega
def layC (L : List Ob) (fs : List Fi) : Int := (buildP L fs).2.1
theorem lay_top (L : List Ob) (hL : PoolOk L) (l : List It) (h : Int) (fs : List Fi) (hp : ∀ f ∈ fs, f.path.length ≤ 4000000) : Does Tryz.prog 92 [.c (.ptr 0 0), .c (.bs 4 Fi encFi fs)] [.box [.ptr 1 0, .rw 3, .int .i64 h], .box [.rw 2], .row 6 Ob encOb L, .row 5 It encIt l] (Rt (.c (.int .i64 (layC L fs))) [.box [.ptr 1 0, .rw 5, .int .i64 h], .box [.rw 4], .dead, .dead, .row 6 Ob encOb (buildP L fs).2.2, .row 5 It encIt (layW L l fs)]) := by
  refine X_spec (n := 22) (n0 := 4) tabOk Tryz.call92 Tryz.func92 ?_
  intro hb
  have hbo := (buildP_ok hL fs).1
  have hbt := buildP_tree (L := L) (l := fs) hL
  unfold layW layC
  (conv => whnf)
  refine cl [] [1, 2] (flatBuild_spec L fs hL hp) ?_
  generalize buildP L fs = B at *
  obtain ⟨t, c, M⟩ := B
  dsimp only at hbo hbt
  (conv => whnf)
  refine decN (fun h1 => ?_) (fun h1 => ?_)
  · rw [if_pos h1]
    (conv => whnf)
    exact rx [] [.same 0, .same 1, .same 2, .same 3, .same 4, .same 3]
  · rw [if_neg (fun h => h h1)]
    obtain ⟨b1, b2⟩ := hbt h1
    have hfl := (filesF_all b1).1
    have hv : ∀ f ∈ fs, ¬ f.mode = 3 → ¬ kindOf M f.id = 0 := fun f hf _ => by rw [b2.ids hbo f hf]; exact filesF_mode b1 f hf
    have hl := lay_wspec M hbo l h fs hfl
    have h1 : c = 0 := h1
    subst h1
    (conv => whnf)
    refine cl [] [0, 1, 4, 3] (hl) ?_
    (conv => whnf)
    exact rx [] [.same 0, .same 1, .same 2, .same 3, .same 5, .same 6]
theorem layD_top (L : List Ob) (hL : PoolOk L) (l : List It) (h : Int) (fs : List Fi) (hp : ∀ f ∈ fs, f.path.length ≤ 4000000) : Does Tryz.prog 93 [.c (.ptr 0 0), .c (.bs 4 Fi encFi fs)] [.box [.ptr 1 0, .rw 3, .int .i64 h], .box [.rw 2], .row 6 Ob encOb L, .row 5 It encIt l] (Rt (.c (.int .i64 (layC L fs))) [.box [.ptr 1 0, .rw 5, .int .i64 h], .box [.rw 4], .dead, .dead, .row 6 Ob encOb (buildP L fs).2.2, .row 5 It encIt (layW L l fs)]) := by
  refine X_spec (n := 22) (n0 := 4) tabOk Tryz.call93 Tryz.func93 ?_
  intro hb
  have hbo := (buildP_ok hL fs).1
  have hbt := buildP_tree (L := L) (l := fs) hL
  unfold layW layC
  (conv => whnf)
  refine cl [] [1, 2] (treeOfTop_spec L fs hL hp) ?_
  generalize buildP L fs = B at *
  obtain ⟨t, c, M⟩ := B
  dsimp only at hbo hbt
  (conv => whnf)
  refine decN (fun h1 => ?_) (fun h1 => ?_)
  · rw [if_pos h1]
    (conv => whnf)
    exact rx [] [.same 0, .same 1, .same 2, .same 3, .same 4, .same 3]
  · rw [if_neg (fun h => h h1)]
    obtain ⟨b1, b2⟩ := hbt h1
    have hfl := (filesF_all b1).1
    have hv : ∀ f ∈ fs, ¬ f.mode = 3 → ¬ kindOf M f.id = 0 := fun f hf _ => by rw [b2.ids hbo f hf]; exact filesF_mode b1 f hf
    have hl := layD_wspec M hbo l h fs hfl hv
    have h1 : c = 0 := h1
    subst h1
    (conv => whnf)
    refine cl [] [0, 1, 4, 3] (hl) ?_
    (conv => whnf)
    exact rx [] [.same 0, .same 1, .same 2, .same 3, .same 5, .same 6]
end Go.Nest
end
/- WALKS, K9: a work: checked out; by the document, too. -/
section
namespace Go.Nest
open Go Go.AM Go.Proofs
open Go.Proofs.YtogallppofinhaaGreatDoor (tab tabOk)
set_option linter.unusedVariables false
set_option linter.unusedSimpArgs false
set_option maxRecDepth 4000
/-- the three cases -/
theorem co_none {L : List Ob} {l : List It} {h id : Int} (hk : ¬ kindOf L id = 3) : coC L l h id = 9 ∧ coL L l id = L ∧ coW L l h id = l ∧ coH L l h id = h := by
  have e : coC L l h id = 9 := if_pos hk
  exact ⟨e, if_pos hk, if_pos (by rw [e]; decide), if_pos (by rw [e]; decide)⟩
theorem co_bad {L : List Ob} {l : List It} {h id : Int} (hk : kindOf L id = 3) (hc : ¬ cleanW L l h = 0) : coC L l h id = cleanW L l h ∧ coL L l id = (treeW L l).2.2 ∧ coW L l h id = l ∧ coH L l h id = h := by
  have e : coC L l h id = cleanW L l h := (if_neg (fun h => h hk)).trans (if_pos hc)
  exact ⟨e, if_neg (fun h => h hk), if_pos (by rw [e]; exact hc), if_pos (by rw [e]; exact hc)⟩
theorem co_files {L : List Ob} {l : List It} {h id : Int} (hk : kindOf L id = 3) (hc : cleanW L l h = 0) : coC L l h id = (filesP (treeW L l).2.2 (getP L id).tree).2 ∧ coL L l id = (treeW L l).2.2 ∧
    coW L l h id = (if (filesP (treeW L l).2.2 (getP L id).tree).2 ≠ 0 then l else (filesP (treeW L l).2.2 (getP L id).tree).1.map (layF (treeW L l).2.2)) ∧ coH L l h id = if (filesP (treeW L l).2.2 (getP L id).tree).2 ≠ 0 then h else id := by
  have e : coC L l h id = (filesP (treeW L l).2.2 (getP L id).tree).2 := (if_neg (fun h => h hk)).trans (if_neg (fun h => h hc))
  refine ⟨e, if_neg (fun h => h hk), ?_, ?_⟩
  · unfold coW; rw [e]
  · unfold coH; rw [e]
set_option maxHeartbeats 1000000 in
theorem checkout_wspec (L : List Ob) (hL : PoolOk L) (l : List It) (h : Int) (hp : ∀ y ∈ l, y.path.length ≤ 4000000) (hl : l.length ≤ 60) (id : Int) : Does Tryz.prog 23 [.c (.ptr 0 0), .c (.int .i64 id)] [.box [.ptr 1 0, .rw 3, .int .i64 h], .box [.rw 2], .row 6 Ob encOb L, .row 5 It encIt l] (Rt (.c (.int .i64 (coC L l h id))) [.box [.ptr 1 0, .rw 5, .int .i64 (coH L l h id)], .box [.rw 4], .dead, .dead, .row 6 Ob encOb (coL L l id), .row 5 It encIt (coW L l h id)]) := by
  have hto := (treeW_ok (l := l) hL).1
  have hC := clean_wspec L hL l h hp hl
  have hk := getP_kind (l := L) (id := id)
  have q1 := co_none (L := L) (l := l) (h := h) (id := id)
  have q2 := co_bad (L := L) (l := l) (h := h) (id := id)
  have q3 := co_files (L := L) (l := l) (h := h) (id := id)
  refine X_spec (n := 47) (n0 := 4) tabOk Tryz.call23 Tryz.func23 ?_
  intro hb
  (conv => whnf)
  refine cl [] [] (get_spec L hL id) ?_
  (conv => whnf)
  refine decN (fun h1 => ?_) (fun h1 => ?_)
  · have h1 : ¬ kindOf L id = 3 := by rw [← hk]; exact h1
    obtain ⟨e1, e2, e3, e4⟩ := q1 h1
    rw [e1, e2, e3, e4]
    (conv => whnf)
    exact rx [] [.same 0, .same 1, .same 2, .same 3, .same 2, .same 3]
  have h1 : kindOf L id = 3 := by rw [← hk]; exact h1
  generalize treeW L l = T at *
  obtain ⟨t, c, M⟩ := T
  dsimp only at hto hC q2 q3
  (conv => whnf)
  refine cl [] [0, 1, 2, 3] (hC) ?_
  (conv => whnf)
  refine decN (fun h2 => ?_) (fun h2 => ?_)
  · obtain ⟨e1, e2, e3, e4⟩ := q2 h1 h2
    rw [e1, e2, e3, e4]
    (conv => whnf)
    exact rx [] [.same 0, .same 1, .same 2, .same 3, .same 5, .same 6]
  obtain ⟨e1, e2, e3, e4⟩ := q3 h1 h2
  rw [e1, e2, e3, e4]
  have hfn := filesP_len (L := M) (t := (getP L id).tree)
  have hF := flatFiles_spec M hto (getP L id).tree
  generalize filesP M (getP L id).tree = F at *
  obtain ⟨fs, c3⟩ := F
  dsimp only at hfn
  (conv => whnf)
  refine ⟨false, .grow, (.l [0, 1, 2, 3, 4, 5, 6, 7, 8, 9, 10, 11]), by kernel_rfl, .inl ?_⟩
  (conv => whnf)
  refine cl [] [] (hF) ?_
  (conv => whnf)
  refine decN (fun h3 => ?_) (fun h3 => ?_)
  · rw [if_pos h3, if_pos h3]
    (conv => whnf)
    exact rx [] [.same 0, .same 1, .same 2, .same 3, .same 5, .same 6]
  · rw [if_neg (fun h => h h3), if_neg (fun h => h h3)]
    have h3 : c3 = 0 := h3
    subst h3
    (conv => whnf)
    refine cl [] [0, 1, 5, 6] (lay_wspec M hto l h fs hfn) ?_
    (conv => whnf)
    exact rx [] [.same 0, .same 1, .same 2, .same 3, .same 8, .same 9]
set_option maxHeartbeats 1000000 in
theorem checkoutD_wspec (L : List Ob) (hL : PoolOk L) (l : List It) (h : Int) (hp : ∀ y ∈ l, y.path.length ≤ 4000000) (hl : l.length ≤ 60) (id : Int) (hh : HOk L h) : Does Tryz.prog 91 [.c (.ptr 0 0), .c (.int .i64 id)] [.box [.ptr 1 0, .rw 3, .int .i64 h], .box [.rw 2], .row 6 Ob encOb L, .row 5 It encIt l] (Rt (.c (.int .i64 (coC L l h id))) [.box [.ptr 1 0, .rw 5, .int .i64 (coH L l h id)], .box [.rw 4], .dead, .dead, .row 6 Ob encOb (coL L l id), .row 5 It encIt (coW L l h id)]) := by
  have hto := (treeW_ok (l := l) hL).1
  have hx := (treeW_ok (l := l) hL).2
  have hC := cleanD_wspec L hL l h hp hl hh
  have q1 := co_none (L := L) (l := l) (h := h) (id := id)
  have q2 := co_bad (L := L) (l := l) (h := h) (id := id)
  have q3 := co_files (L := L) (l := l) (h := h) (id := id)
  refine X_spec (n := 49) (n0 := 4) tabOk Tryz.call91 Tryz.func91 ?_
  intro hb
  (conv => whnf)
  refine cl [] [] (kindR_spec L id) ?_
  (conv => whnf)
  refine decN (fun h1 => ?_) (fun h1 => ?_)
  · have h1 : ¬ kindOf L id = 3 := h1
    obtain ⟨e1, e2, e3, e4⟩ := q1 h1
    rw [e1, e2, e3, e4]
    (conv => whnf)
    exact rx [] [.same 0, .same 1, .same 2, .same 3, .same 2, .same 3]
  have h1 : kindOf L id = 3 := h1
  generalize treeW L l = T at *
  obtain ⟨t, c, M⟩ := T
  dsimp only at hto hC q2 q3 hx
  (conv => whnf)
  refine cl [] [0, 1, 2, 3] (hC) ?_
  (conv => whnf)
  refine decN (fun h2 => ?_) (fun h2 => ?_)
  · obtain ⟨e1, e2, e3, e4⟩ := q2 h1 h2
    rw [e1, e2, e3, e4]
    (conv => whnf)
    exact rx [] [.same 0, .same 1, .same 2, .same 3, .same 4, .same 5]
  obtain ⟨e1, e2, e3, e4⟩ := q3 h1 h2
  rw [e1, e2, e3, e4]
  have hok : HOk M id := HOk.ext (.inr h1) hx
  obtain ⟨h4, h5⟩ := kindOf_pos (l := L) (id := id) (by omega)
  obtain ⟨hlt, g1, g2⟩ := hok.at h4
  have hg : getP L id = M[id.toNat] := by rw [← g2]; exact (ext_get hx (by omega)).symm
  rw [hg]
  have hfn := filesP_len (L := M) (t := M[id.toNat].tree)
  have hF := filesOf_spec M hto M[id.toNat].tree
  have hft : (filesP M M[id.toNat].tree).2 = 0 → TreeOf false M M[id.toNat].tree (filesP M M[id.toNat].tree).1 := fun hz => (files_told hto hz).1
  have hff := (files_fine hto M[id.toNat].tree).1.md
  generalize filesP M M[id.toNat].tree = F at *
  obtain ⟨fs, c3⟩ := F
  dsimp only at hfn hft hff
  (conv => whnf)
  refine ⟨false, .grow, (.l [0, 1, 2, 3, 4, 5, 6, 7, 8, 9, 10, 11, 12, 13, 14, 15, 16, 17, 18, 19, 20]), by kernel_rfl, .inl ?_⟩
  (conv => whnf)
  refine ⟨id.toNat, ⟨g1, hlt⟩, ?_⟩
  (conv => whnf)
  refine ⟨M[id.toNat], List.getElem?_eq_getElem hlt, ?_⟩
  (conv => whnf)
  refine cl [] [] (hF) ?_
  (conv => whnf)
  refine decN (fun h3 => ?_) (fun h3 => ?_)
  · rw [if_pos h3, if_pos h3]
    (conv => whnf)
    exact rx [] [.same 0, .same 1, .same 2, .same 3, .same 4, .same 5]
  · rw [if_neg (fun h => h h3), if_neg (fun h => h h3)]
    have h3 : c3 = 0 := h3
    subst h3
    have hv : ∀ f ∈ fs, ¬ f.mode = 3 → ¬ kindOf M f.id = 0 := fun f hf _ => by rw [(hft rfl).ids hto f hf]; exact hff f hf
    (conv => whnf)
    refine cl [] [0, 1, 4, 5] (layD_wspec M hto l h fs hfn hv) ?_
    (conv => whnf)
    exact rx [] [.same 0, .same 1, .same 2, .same 3, .same 7, .same 8]
end Go.Nest
end
/- PLAIN LAWS, K10: works, step by step. -/
section
namespace Go.Nest
open Go Go.AM
set_option linter.unusedVariables false
set_option linter.unusedSimpArgs false
/-- a step of a work -/
structure Ws where
  what : Int
  k : Int
  repo : Int
  path : List UInt8
  text : List UInt8
  bytes : List UInt8
  odd : Bool
def encWs (x : Ws) : List C := [.int .i64 x.what, .int .i64 x.k, .int .i64 x.repo, .str x.path, .str x.text, .ls 1 UInt8 bytesC x.bytes, .bool x.odd]
/-- where it stands: the pool, what lies there, the head, what was made -/
structure WS where
  L : List Ob
  l : List It
  h : Int
  made : List Int
structure WInv (s : WS) : Prop where
  pool : PoolOk s.L
  ok : WOk s.l
  bytes : ∀ x ∈ s.l, x.bytes.length ≤ 400
  head : HOk s.L s.h
theorem path_short {p : List UInt8} (h : (splitP p).2 = 0) : p.length ≤ 168 := by
  obtain ⟨h1, h2, _⟩ := split_zero h
  have h3 := unsp_bound (spl p) fun s hs => name_len (namesF_all h1 s hs)
  rw [unsp_spl] at h3
  omega
theorem WInv.paths {s : WS} (h : WInv s) : ∀ x ∈ s.l, x.path.length ≤ 4000000 := fun x hx => by
  have := path_short (h.ok.path x hx); omega
def kkW (s : WS) (x : Ws) : Int := if x.odd = true then x.k else oneP s.made x.k
def othW (s : WS) (x : Ws) : List Int := if x.odd = true then [oneP s.made x.k] else []
def stepW (s : WS) (x : Ws) : WS :=
  if x.what = 0 then ⟨s.L, (wrW s.l x.path x.bytes).2, s.h, s.made⟩ else
  if x.what = 1 then ⟨s.L, (remW s.l x.path).2, s.h, s.made⟩ else
  if x.what = 2 then ⟨s.L, (liW s.L s.l x.path x.repo (kkW s x)).2, s.h, s.made⟩ else
  if x.what = 3 then ⟨(commW s.L s.l s.h x.text (othW s x)).2.2, s.l, headW s.L s.l s.h x.text (othW s x), if (commW s.L s.l s.h x.text (othW s x)).2.1 = 0 then s.made ++ [(commW s.L s.l s.h x.text (othW s x)).1] else s.made⟩ else
  if x.what = 4 then ⟨coL s.L s.l (kkW s x), coW s.L s.l s.h (kkW s x), coH s.L s.l s.h (kkW s x), s.made⟩ else
  if x.what = 5 then ⟨(buildP s.L (filesP s.L (getP s.L (kkW s x)).tree).1).2.2, layW s.L s.l (filesP s.L (getP s.L (kkW s x)).tree).1, s.h, s.made⟩ else s
end Go.Nest
end
/- WALKS, K11: a step of two works. -/
section
namespace Go.Nest
open Go Go.AM Go.Proofs
open Go.Proofs.YtogallppofinhaaGreatDoor (tab tabOk)
set_option linter.unusedVariables false
set_option linter.unusedSimpArgs false
set_option maxRecDepth 4000
set_option maxHeartbeats 4000000 in
theorem step_spec (s : WS) (x : Ws) (hv : WInv s) (hm : s.made.length ≤ 1000) (hx : x.path.length ≤ 4000000) : Does Tryz.prog 20 [.c (.ptr 0 0), .st (encWs x)] [.box [.ptr 2 0, .ptr 1 0, .ptr 5 0, .rw 9], .box [.ptr 2 0, .rw 4, .int .i64 s.h], .box [.rw 3], .row 6 Ob encOb s.L, .row 5 It encIt s.l, .box [.ptr 6 0, .rw 8, .int .i64 s.h], .box [.rw 7], .row 6 Ob encOb s.L, .row 5 It encIt s.l, .row 1 Int encI s.made] (Rt (.c (.bool true)) [.box [.ptr 2 0, .ptr 1 0, .ptr 5 0, .rw 14], .box [.ptr 2 0, .rw 11, .int .i64 (stepW s x).h], .box [.rw 10], .dead, .dead, .box [.ptr 6 0, .rw 13, .int .i64 (stepW s x).h], .box [.rw 12], .dead, .dead, .dead, .row 6 Ob encOb (stepW s x).L, .row 5 It encIt (stepW s x).l, .row 6 Ob encOb (stepW s x).L, .row 5 It encIt (stepW s x).l, .row 1 Int encI (stepW s x).made]) := by
  obtain ⟨hL, hW, hbl, hh⟩ := hv
  have hp := WInv.paths ⟨hL, hW, hbl, hh⟩
  have hl := hW.len
  obtain ⟨L, l, h, made⟩ := s
  obtain ⟨xw, xk, xr, xp, xt, xb, xo⟩ := x
  dsimp only at hL hW hbl hh hp hl hm hx
  refine X_spec (n := 192) (n0 := 10) tabOk Tryz.call20 Tryz.func20 ?_
  intro hb
  unfold stepW
  have hkk : kkW ⟨L, l, h, made⟩ ⟨xw, xk, xr, xp, xt, xb, xo⟩ = if xo = true then xk else oneP made xk := rfl
  have hot : othW ⟨L, l, h, made⟩ ⟨xw, xk, xr, xp, xt, xb, xo⟩ = if xo = true then [oneP made xk] else [] := rfl
  generalize kkW ⟨L, l, h, made⟩ ⟨xw, xk, xr, xp, xt, xb, xo⟩ = kk at *
  generalize othW ⟨L, l, h, made⟩ ⟨xw, xk, xr, xp, xt, xb, xo⟩ = oth at *
  dsimp only
  (conv => whnf)
  refine ⟨false, .grow, (.l [0, 1, 2, 3, 4, 5, 6, 7]), by kernel_rfl, .inl ?_⟩
  (conv => whnf)
  refine cl [] [] (one_spec made xk) ?_
  (conv => whnf)
  refine boo (fun h0 => ?_) (fun h0 => ?_)
  · have h0 : xo = true := h0
    subst h0
    obtain rfl : kk = xk := hkk
    obtain rfl : oth = [oneP made kk] := hot
    (conv => whnf)
    refine dec (fun c0 => ?_) (fun c0 => ?_)
    · rw [if_pos c0]
      have p1 := write_wspec L l h xp xb hx hp hl
      have p2 := writeD_wspec L l h xp xb hx hp hl
      rw [show wrD l xp xb = wrW l xp xb by unfold wrD wrW; rw [put_same' hW]] at p2
      generalize wrW l xp xb = R at *
      obtain ⟨c, l'⟩ := R
      (conv => whnf)
      refine ⟨false, .prot [0, 10], (.l [0, 1, 2, 3, 4, 5, 6, 7, 9, 10, 11, 12, 13, 14, 15, 16, 8, 17, 18, 19]), by kernel_rfl, .inl ?_⟩
      (conv => whnf)
      refine cl [] [1, 2, 3, 4] (p1) ?_
      (conv => whnf)
      refine cl [] [5, 6, 7, 8] (p2) ?_
      (conv => whnf)
      refine rt [] [.same 0, .same 1, .same 2, .same 3, .same 4, .same 5, .same 6, .same 7, .same 8, .same 9, .same 11, .same 12, .same 13, .same 14, .same 9] ?_ rfl ⟨rfl, rfl⟩
      repeat' first | exact trivial | exact rfl | refine And.intro ?_ ?_
      exact congrArg C.bool (decide_eq_true rfl)
    rw [if_neg c0]
    (conv => whnf)
    refine dec (fun c1 => ?_) (fun c1 => ?_)
    · rw [if_pos c1]
      have p1 := remove_wspec L l h xp hl
      have p2 := removeD_wspec L l h xp hl
      rw [← rem_same hW] at p2
      generalize remW l xp = R at *
      obtain ⟨c, l'⟩ := R
      (conv => whnf)
      refine ⟨false, .prot [0, 10], (.l [0, 1, 2, 3, 4, 5, 7, 8, 9, 10, 11, 12, 6, 13, 14, 15]), by kernel_rfl, .inl ?_⟩
      (conv => whnf)
      refine cl [] [1, 2, 3, 4] (p1) ?_
      (conv => whnf)
      refine cl [] [5, 6, 7, 8] (p2) ?_
      (conv => whnf)
      refine rt [] [.same 0, .same 1, .same 2, .same 3, .same 4, .same 5, .same 6, .same 7, .same 8, .same 9, .same 11, .same 12, .same 13, .same 14, .same 9] ?_ rfl ⟨rfl, rfl⟩
      repeat' first | exact trivial | exact rfl | refine And.intro ?_ ?_
      exact congrArg C.bool (decide_eq_true rfl)
    rw [if_neg c1]
    (conv => whnf)
    refine dec (fun c2 => ?_) (fun c2 => ?_)
    · rw [if_pos c2]
      have p1 := link_wspec L hL l h xp xr kk hx hp hl
      have p2 := linkD_wspec L hL l h xp xr kk hx hp hl
      rw [show liD L l xp xr kk = liW L l xp xr kk by unfold liD liW; rw [put_same' hW]] at p2
      generalize liW L l xp xr kk = R at *
      obtain ⟨c, l'⟩ := R
      (conv => whnf)
      refine ⟨false, .prot [0, 10], (.l [0, 1, 2, 3, 4, 5, 6, 7, 8, 10, 11, 12, 13, 14, 15, 16, 17, 18, 9, 19, 20, 21]), by kernel_rfl, .inl ?_⟩
      (conv => whnf)
      refine cl [] [1, 2, 3, 4] (p1) ?_
      (conv => whnf)
      refine cl [] [5, 6, 7, 8] (p2) ?_
      (conv => whnf)
      refine rt [] [.same 0, .same 1, .same 2, .same 3, .same 4, .same 5, .same 6, .same 7, .same 8, .same 9, .same 11, .same 12, .same 13, .same 14, .same 9] ?_ rfl ⟨rfl, rfl⟩
      repeat' first | exact trivial | exact rfl | refine And.intro ?_ ?_
      exact congrArg C.bool (decide_eq_true rfl)
    rw [if_neg c2]
    (conv => whnf)
    refine dec (fun c3 => ?_) (fun c3 => ?_)
    · rw [if_pos c3]
      have p1 := commit_wspec L hL l h hp hl xt [oneP made kk] (by simp) hh
      have p2 := commitD_wspec L hL l h hp hl xt [oneP made kk] (by simp) hh
      generalize headW L l h xt [oneP made kk] = h' at *
      generalize commW L l h xt [oneP made kk] = R at *
      obtain ⟨id, c, L'⟩ := R
      dsimp only at p1 p2
      (conv => whnf)
      refine ⟨false, .grow, (.l [0, 1, 2, 3, 4, 5, 6, 7, 8]), by kernel_rfl, .inl ?_⟩
      (conv => whnf)
      refine cl [] [] (one_spec made kk) ?_
      (conv => whnf)
      refine ⟨[oneP made kk], rfl, ?_⟩
      (conv => whnf)
      refine ⟨false, .grow, (.l [0, 1, 2, 3, 4, 5, 6, 7, 8, 9, 10, 11, 12]), by kernel_rfl, .inl ?_⟩
      (conv => whnf)
      refine cl [] [1, 2, 3, 4] (p1) ?_
      (conv => whnf)
      refine ⟨false, .grow, (.l [0, 1, 2, 3, 4, 5, 6, 7, 8, 9, 10, 11, 12]), by kernel_rfl, .inl ?_⟩
      (conv => whnf)
      refine cl [] [5, 6, 7, 8] (p2) ?_
      (conv => whnf)
      refine dec (fun g0 => ?_) (fun g0 => ?_)
      · rw [if_pos g0]
        (conv => whnf)
        refine ⟨[id], rfl, ?_⟩
        (conv => whnf)
        refine ⟨_, _, rfl, rfl, (by simp only [List.length_append, List.length_cons, List.length_nil]; omega), ?_⟩
        (conv => whnf)
        refine dec (fun _ => ?_) (fun h => absurd rfl h)
        (conv => whnf)
        refine rt [] [.same 0, .same 1, .same 2, .same 3, .same 4, .same 5, .same 6, .same 7, .same 8, .same 9, .same 12, .same 13, .same 14, .same 15, .same 17] ?_ rfl ⟨rfl, rfl⟩
        repeat' first | exact trivial | exact rfl | refine And.intro ?_ ?_
        exact congrArg C.bool (decide_eq_true rfl)
      · rw [if_neg g0]
        (conv => whnf)
        refine dec (fun _ => ?_) (fun h => absurd rfl h)
        (conv => whnf)
        refine rt [] [.same 0, .same 1, .same 2, .same 3, .same 4, .same 5, .same 6, .same 7, .same 8, .same 9, .same 12, .same 13, .same 14, .same 15, .same 9] ?_ rfl ⟨rfl, rfl⟩
        repeat' first | exact trivial | exact rfl | refine And.intro ?_ ?_
        exact congrArg C.bool (decide_eq_true rfl)
    rw [if_neg c3]
    (conv => whnf)
    refine dec (fun c4 => ?_) (fun c4 => ?_)
    · rw [if_pos c4]
      have p1 := checkout_wspec L hL l h hp hl kk
      have p2 := checkoutD_wspec L hL l h hp hl kk hh
      generalize coC L l h kk = c at *
      generalize coL L l kk = L' at *
      generalize coW L l h kk = l' at *
      generalize coH L l h kk = h' at *
      (conv => whnf)
      refine ⟨false, .prot [0, 10], (.l [0, 1, 2, 3, 4, 6, 7, 8, 9, 10, 5, 11, 12, 13]), by kernel_rfl, .inl ?_⟩
      (conv => whnf)
      refine cl [] [1, 2, 3, 4] (p1) ?_
      (conv => whnf)
      refine cl [] [5, 6, 7, 8] (p2) ?_
      (conv => whnf)
      refine rt [] [.same 0, .same 1, .same 2, .same 3, .same 4, .same 5, .same 6, .same 7, .same 8, .same 9, .same 11, .same 12, .same 13, .same 14, .same 9] ?_ rfl ⟨rfl, rfl⟩
      repeat' first | exact trivial | exact rfl | refine And.intro ?_ ?_
      exact congrArg C.bool (decide_eq_true rfl)
    rw [if_neg c4]
    (conv => whnf)
    refine dec (fun c5 => ?_) (fun c5 => ?_)
    · rw [if_pos c5]
      have hfi := (files_fine hL (getP L kk).tree).2
      have p0 := flatFiles_spec L hL (getP L kk).tree
      have p1 := lay_top L hL l h (filesP L (getP L kk).tree).1 hfi
      have p2 := layD_top L hL l h (filesP L (getP L kk).tree).1 hfi
      (conv => whnf)
      refine cl [] [] (get_spec L hL kk) ?_
      generalize filesP L (getP L kk).tree = F at *
      obtain ⟨fs, c⟩ := F
      dsimp only at p1 p2 hfi
      generalize (buildP L fs).2.2 = L' at *
      generalize layW L l fs = l' at *
      generalize layC L fs = c' at *
      (conv => whnf)
      refine ⟨false, .grow, (.l [0, 1, 2, 3, 4, 5, 6, 7, 8, 9, 10, 11]), by kernel_rfl, .inl ?_⟩
      (conv => whnf)
      refine cl [] [] (p0) ?_
      (conv => whnf)
      refine ⟨false, .prot [0, 10], (.l [0, 1, 2, 3, 4, 6, 7, 8, 9, 10, 5, 11, 12, 13]), by kernel_rfl, .inl ?_⟩
      (conv => whnf)
      refine cl [] [1, 2, 3, 4] (p1) ?_
      (conv => whnf)
      refine cl [] [5, 6, 7, 8] (p2) ?_
      (conv => whnf)
      refine rt [] [.same 0, .same 1, .same 2, .same 3, .same 4, .same 5, .same 6, .same 7, .same 8, .same 9, .same 13, .same 14, .same 15, .same 16, .same 9] ?_ rfl ⟨rfl, rfl⟩
      repeat' first | exact trivial | exact rfl | refine And.intro ?_ ?_
      exact congrArg C.bool (decide_eq_true rfl)
    rw [if_neg c5]
    (conv => whnf)
    refine rt [] [.same 0, .same 1, .same 2, .same 3, .same 4, .same 5, .same 6, .same 7, .same 8, .same 9, .same 3, .same 4, .same 7, .same 8, .same 9] ?_ rfl ⟨rfl, rfl⟩
    repeat' first | exact trivial | exact rfl | refine And.intro ?_ ?_
  · have h0 : xo = false := h0
    subst h0
    obtain rfl : kk = oneP made xk := hkk
    obtain rfl : oth = [] := hot
    generalize oneP made xk = kk at *
    (conv => whnf)
    refine dec (fun c0 => ?_) (fun c0 => ?_)
    · rw [if_pos c0]
      have p1 := write_wspec L l h xp xb hx hp hl
      have p2 := writeD_wspec L l h xp xb hx hp hl
      rw [show wrD l xp xb = wrW l xp xb by unfold wrD wrW; rw [put_same' hW]] at p2
      generalize wrW l xp xb = R at *
      obtain ⟨c, l'⟩ := R
      (conv => whnf)
      refine ⟨false, .prot [0, 10], (.l [0, 1, 2, 3, 4, 5, 6, 7, 9, 10, 11, 12, 13, 14, 15, 16, 8, 17, 18, 19]), by kernel_rfl, .inl ?_⟩
      (conv => whnf)
      refine cl [] [1, 2, 3, 4] (p1) ?_
      (conv => whnf)
      refine cl [] [5, 6, 7, 8] (p2) ?_
      (conv => whnf)
      refine rt [] [.same 0, .same 1, .same 2, .same 3, .same 4, .same 5, .same 6, .same 7, .same 8, .same 9, .same 11, .same 12, .same 13, .same 14, .same 9] ?_ rfl ⟨rfl, rfl⟩
      repeat' first | exact trivial | exact rfl | refine And.intro ?_ ?_
      exact congrArg C.bool (decide_eq_true rfl)
    rw [if_neg c0]
    (conv => whnf)
    refine dec (fun c1 => ?_) (fun c1 => ?_)
    · rw [if_pos c1]
      have p1 := remove_wspec L l h xp hl
      have p2 := removeD_wspec L l h xp hl
      rw [← rem_same hW] at p2
      generalize remW l xp = R at *
      obtain ⟨c, l'⟩ := R
      (conv => whnf)
      refine ⟨false, .prot [0, 10], (.l [0, 1, 2, 3, 4, 5, 7, 8, 9, 10, 11, 12, 6, 13, 14, 15]), by kernel_rfl, .inl ?_⟩
      (conv => whnf)
      refine cl [] [1, 2, 3, 4] (p1) ?_
      (conv => whnf)
      refine cl [] [5, 6, 7, 8] (p2) ?_
      (conv => whnf)
      refine rt [] [.same 0, .same 1, .same 2, .same 3, .same 4, .same 5, .same 6, .same 7, .same 8, .same 9, .same 11, .same 12, .same 13, .same 14, .same 9] ?_ rfl ⟨rfl, rfl⟩
      repeat' first | exact trivial | exact rfl | refine And.intro ?_ ?_
      exact congrArg C.bool (decide_eq_true rfl)
    rw [if_neg c1]
    (conv => whnf)
    refine dec (fun c2 => ?_) (fun c2 => ?_)
    · rw [if_pos c2]
      have p1 := link_wspec L hL l h xp xr kk hx hp hl
      have p2 := linkD_wspec L hL l h xp xr kk hx hp hl
      rw [show liD L l xp xr kk = liW L l xp xr kk by unfold liD liW; rw [put_same' hW]] at p2
      generalize liW L l xp xr kk = R at *
      obtain ⟨c, l'⟩ := R
      (conv => whnf)
      refine ⟨false, .prot [0, 10], (.l [0, 1, 2, 3, 4, 5, 6, 7, 8, 10, 11, 12, 13, 14, 15, 16, 17, 18, 9, 19, 20, 21]), by kernel_rfl, .inl ?_⟩
      (conv => whnf)
      refine cl [] [1, 2, 3, 4] (p1) ?_
      (conv => whnf)
      refine cl [] [5, 6, 7, 8] (p2) ?_
      (conv => whnf)
      refine rt [] [.same 0, .same 1, .same 2, .same 3, .same 4, .same 5, .same 6, .same 7, .same 8, .same 9, .same 11, .same 12, .same 13, .same 14, .same 9] ?_ rfl ⟨rfl, rfl⟩
      repeat' first | exact trivial | exact rfl | refine And.intro ?_ ?_
      exact congrArg C.bool (decide_eq_true rfl)
    rw [if_neg c2]
    (conv => whnf)
    refine dec (fun c3 => ?_) (fun c3 => ?_)
    · rw [if_pos c3]
      have p1 := commit_wspec L hL l h hp hl xt [] (by simp) hh
      have p2 := commitD_wspec L hL l h hp hl xt [] (by simp) hh
      generalize headW L l h xt [] = h' at *
      generalize commW L l h xt [] = R at *
      obtain ⟨id, c, L'⟩ := R
      dsimp only at p1 p2
      (conv => whnf)
      refine ⟨false, .grow, (.l [0, 1, 2, 3, 4, 5, 6, 7, 8, 9, 10, 11, 12]), by kernel_rfl, .inl ?_⟩
      (conv => whnf)
      refine cl [] [1, 2, 3, 4] (p1) ?_
      (conv => whnf)
      refine ⟨false, .grow, (.l [0, 1, 2, 3, 4, 5, 6, 7, 8, 9, 10, 11, 12]), by kernel_rfl, .inl ?_⟩
      (conv => whnf)
      refine cl [] [5, 6, 7, 8] (p2) ?_
      (conv => whnf)
      refine dec (fun g0 => ?_) (fun g0 => ?_)
      · rw [if_pos g0]
        (conv => whnf)
        refine ⟨[id], rfl, ?_⟩
        (conv => whnf)
        refine ⟨_, _, rfl, rfl, (by simp only [List.length_append, List.length_cons, List.length_nil]; omega), ?_⟩
        (conv => whnf)
        refine dec (fun _ => ?_) (fun h => absurd rfl h)
        (conv => whnf)
        refine rt [] [.same 0, .same 1, .same 2, .same 3, .same 4, .same 5, .same 6, .same 7, .same 8, .same 9, .same 11, .same 12, .same 13, .same 14, .same 16] ?_ rfl ⟨rfl, rfl⟩
        repeat' first | exact trivial | exact rfl | refine And.intro ?_ ?_
        exact congrArg C.bool (decide_eq_true rfl)
      · rw [if_neg g0]
        (conv => whnf)
        refine dec (fun _ => ?_) (fun h => absurd rfl h)
        (conv => whnf)
        refine rt [] [.same 0, .same 1, .same 2, .same 3, .same 4, .same 5, .same 6, .same 7, .same 8, .same 9, .same 11, .same 12, .same 13, .same 14, .same 9] ?_ rfl ⟨rfl, rfl⟩
        repeat' first | exact trivial | exact rfl | refine And.intro ?_ ?_
        exact congrArg C.bool (decide_eq_true rfl)
    rw [if_neg c3]
    (conv => whnf)
    refine dec (fun c4 => ?_) (fun c4 => ?_)
    · rw [if_pos c4]
      have p1 := checkout_wspec L hL l h hp hl kk
      have p2 := checkoutD_wspec L hL l h hp hl kk hh
      generalize coC L l h kk = c at *
      generalize coL L l kk = L' at *
      generalize coW L l h kk = l' at *
      generalize coH L l h kk = h' at *
      (conv => whnf)
      refine ⟨false, .prot [0, 10], (.l [0, 1, 2, 3, 4, 6, 7, 8, 9, 10, 5, 11, 12, 13]), by kernel_rfl, .inl ?_⟩
      (conv => whnf)
      refine cl [] [1, 2, 3, 4] (p1) ?_
      (conv => whnf)
      refine cl [] [5, 6, 7, 8] (p2) ?_
      (conv => whnf)
      refine rt [] [.same 0, .same 1, .same 2, .same 3, .same 4, .same 5, .same 6, .same 7, .same 8, .same 9, .same 11, .same 12, .same 13, .same 14, .same 9] ?_ rfl ⟨rfl, rfl⟩
      repeat' first | exact trivial | exact rfl | refine And.intro ?_ ?_
      exact congrArg C.bool (decide_eq_true rfl)
    rw [if_neg c4]
    (conv => whnf)
    refine dec (fun c5 => ?_) (fun c5 => ?_)
    · rw [if_pos c5]
      have hfi := (files_fine hL (getP L kk).tree).2
      have p0 := flatFiles_spec L hL (getP L kk).tree
      have p1 := lay_top L hL l h (filesP L (getP L kk).tree).1 hfi
      have p2 := layD_top L hL l h (filesP L (getP L kk).tree).1 hfi
      (conv => whnf)
      refine cl [] [] (get_spec L hL kk) ?_
      generalize filesP L (getP L kk).tree = F at *
      obtain ⟨fs, c⟩ := F
      dsimp only at p1 p2 hfi
      generalize (buildP L fs).2.2 = L' at *
      generalize layW L l fs = l' at *
      generalize layC L fs = c' at *
      (conv => whnf)
      refine ⟨false, .grow, (.l [0, 1, 2, 3, 4, 5, 6, 7, 8, 9, 10, 11]), by kernel_rfl, .inl ?_⟩
      (conv => whnf)
      refine cl [] [] (p0) ?_
      (conv => whnf)
      refine ⟨false, .prot [0, 10], (.l [0, 1, 2, 3, 4, 6, 7, 8, 9, 10, 5, 11, 12, 13]), by kernel_rfl, .inl ?_⟩
      (conv => whnf)
      refine cl [] [1, 2, 3, 4] (p1) ?_
      (conv => whnf)
      refine cl [] [5, 6, 7, 8] (p2) ?_
      (conv => whnf)
      refine rt [] [.same 0, .same 1, .same 2, .same 3, .same 4, .same 5, .same 6, .same 7, .same 8, .same 9, .same 13, .same 14, .same 15, .same 16, .same 9] ?_ rfl ⟨rfl, rfl⟩
      repeat' first | exact trivial | exact rfl | refine And.intro ?_ ?_
      exact congrArg C.bool (decide_eq_true rfl)
    rw [if_neg c5]
    (conv => whnf)
    refine rt [] [.same 0, .same 1, .same 2, .same 3, .same 4, .same 5, .same 6, .same 7, .same 8, .same 9, .same 3, .same 4, .same 7, .same 8, .same 9] ?_ rfl ⟨rfl, rfl⟩
    repeat' first | exact trivial | exact rfl | refine And.intro ?_ ?_
end Go.Nest
end
