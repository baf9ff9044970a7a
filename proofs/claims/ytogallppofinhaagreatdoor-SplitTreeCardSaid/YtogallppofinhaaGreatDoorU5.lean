/- WALKS, W11: of the law: histories begun. -/
import Derived.Test.YtogallppofinhaaGreatDoorU0
import Derived.Test.YtogallppofinhaaGreatDoorW6
import Derived.Test.YtogallppofinhaaGreatDoorTab3
import Derived.Test.YtogallppofinhaaGreatDoorU3
section
namespace Go.AM
open Go Go.NB
theorem Does.conv {P : Program} {f : FuncId} {c c' : C} {args : List A} {ah : List B} {Q : Out → List B → Prop} (h : Does P f (.c c :: args) ah Q) (hc : ∀ {F : Nat → Prop} {H : Heap} {m : Md} {v : Value}, RL F H m [c'] [v] → RL F H m [c] [v]) : Does P f (.c c' :: args) ah Q :=
  fun F L γ H vs h1 h2 => h F L γ H vs (match vs, h1 with | _ :: _, ⟨h3, h4⟩ => ⟨hc h3, h4⟩) h2
end Go.AM
namespace Go.Nest
open Go Go.AM Go.Proofs
open Go.NB (Heap)
open Go.Proofs.YtogallppofinhaaGreatDoor.T3 (tab tabOk)
set_option linter.unusedVariables false
set_option linter.unusedSimpArgs false
set_option maxRecDepth 4000
theorem nl_ls {F : Nat → Prop} {H : Heap} {m : Md} {sz : Nat} {α : Type} {enc enc' : α → List C} {l : List α} {v : Value} (hz : ∀ x, (enc x).length = (enc' x).length) (hc : ∀ {css}, RL F H m0 (l.flatMap enc') css → RL F H m0 (l.flatMap enc) css) (h : RL F H m [nl sz α enc' l] [v]) : RL F H m [.ls sz α enc l] [v] := by
  cases l with
  | nil => cases h with | nil _ => exact .ls0 .nl
  | cons x l =>
    unfold nl at h
    cases h with
    | ls hb h1 h2 hr hs hq _ => exact .ls hb h1 h2 (hc hr) (fun y hy => by rw [hz]; exact hs y hy) hq .nl
theorem flat_conv {F : Nat → Prop} {H : Heap} {α : Type} {enc enc' : α → List C} (h1 : ∀ x {cs}, RL F H m0 (enc' x) cs → RL F H m0 (enc x) cs) : ∀ {l : List α} {css : List Value}, RL F H m0 (l.flatMap enc') css → RL F H m0 (l.flatMap enc) css
  | [], css, h => h
  | x :: l, css, h => by
    rw [List.flatMap_cons] at h ⊢
    obtain ⟨us, ws, rfl, h2, h3⟩ := h.split
    exact (h1 x h2).append (flat_conv h1 h3)
theorem dc_conv {F : Nat → Prop} {H : Heap} (x : Dc) {cs : List Value} (h : RL F H m0 (encDcN x) cs) : RL F H m0 (encDc x) cs := by
  unfold encDcN at h
  obtain ⟨v1, us, rfl, h1, h2⟩ := h.uncons
  obtain ⟨v2, us, rfl, h3, h4⟩ := h2.uncons
  exact h1.cons ((nl_ls (fun _ => rfl) (fun h => h) h3).cons h4)
theorem sn_conv {F : Nat → Prop} {H : Heap} (x : Sn) {cs : List Value} (h : RL F H m0 (encSnN x) cs) : RL F H m0 (encSn x) cs := by
  unfold encSnN at h
  obtain ⟨v1, us, rfl, h1, h2⟩ := h.uncons
  obtain ⟨v2, us, rfl, h3, h4⟩ := h2.uncons
  exact (nl_ls (enc := encDc) (enc' := encDcN) (fun _ => rfl) (flat_conv dc_conv) h1).cons ((nl_ls (fun _ => rfl) (fun h => h) h3).cons h4)
theorem bs_conv {F : Nat → Prop} {H : Heap} {m : Md} {l : List Sn} {v : Value} (h : RL F H m [.bs 3 Sn encSnN l] [v]) : RL F H m [.bs 3 Sn encSn l] [v] := by
  cases h with
  | bs0 _ => exact .bs0 .nl
  | bs hb h1 h2 hr hs hq _ => exact .bs hb h1 h2 (flat_conv sn_conv hr) (fun y hy => rfl) hq .nl
end Go.Nest
end
/- WALKS, U4: the history of a directory alone: it begins. -/
section
namespace Go.Nest
open Go Go.AM Go.Proofs
open Go.Proofs.YtogallppofinhaaGreatDoor.T3 (tab tabOk)
set_option linter.unusedVariables false
set_option linter.unusedSimpArgs false
set_option maxRecDepth 4000
def s2 : List Sn := [⟨[⟨[100, 47, 97], []⟩], [], []⟩, ⟨[⟨[100, 47, 97], []⟩, ⟨[98], []⟩], [0], [120]⟩]
theorem s2_ok : s2.length ≤ 25 ∧ ∀ s ∈ s2, SnapOk s := by
  refine ⟨by decide, fun s hs => ?_⟩
  have hs : s = ⟨[⟨[100, 47, 97], []⟩], [], []⟩ ∨ s = ⟨[⟨[100, 47, 97], []⟩, ⟨[98], []⟩], [0], [120]⟩ := by simpa [s2] using hs
  rcases hs with rfl | rfl
  · refine ⟨⟨by decide, fun d hd => ?_⟩, by decide, by decide⟩
    have : d = ⟨[100, 47, 97], []⟩ := by simpa using hd
    subst this; exact ⟨by decide, by decide⟩
  · refine ⟨⟨by decide, fun d hd => ?_⟩, by decide, by decide⟩
    have : d = ⟨[100, 47, 97], []⟩ ∨ d = ⟨[98], []⟩ := by simpa using hd
    rcases this with rfl | rfl
    · exact ⟨by decide, by decide⟩
    · exact ⟨by decide, by decide⟩
def s2L : List Ob := (growU s2).1
def s2M : List Ob := (splitF s2L 5 [100]).2.2
def s2N : List Ob := (splitF s2M 5 [101]).2.2
theorem sp1 : (growU s2).2 = [3, 5] := by decide +kernel
theorem sp2 : (splitF s2L 5 [100]).1 = 6 ∧ (splitF s2L 5 [100]).2.1 = 0 := by decide +kernel
theorem sp3 : (splitF s2M 5 [101]).1 = 0 ∧ (splitF s2M 5 [101]).2.1 = 9 := by decide +kernel
theorem sp4 : getP s2N 6 = ⟨3, [], [], 1, [], []⟩ := by decide +kernel
theorem s2L_ok : PoolOk s2L := grow_ok
theorem s2M_ok : PoolOk s2M := (split_law s2L_ok (id := 5) (dir := [100]) rfl).1
theorem s2N_ok : PoolOk s2N := (split_law s2M_ok (id := 5) (dir := [101]) rfl).1
theorem grownC_spec : Does Tryz.prog 39 [.c (.bs 3 Sn encSnN s2)] [] (Rt (.tup [(false, [.ptr 0 0]), (false, [.ptr 2 0]), (false, [.rw 4]), (false, [.bool true])]) [.box [.rw 1], .row 6 Ob encOb s2L, .box [.rw 3], .row 6 Ob encOb s2L, .row 1 Int encI [3, 5]]) := by
  have h := grown_spec s2 s2_ok
  rw [sp1] at h
  exact h.conv bs_conv
set_option maxHeartbeats 2000000 in
theorem splitBegun_spec : Does Tryz.prog 37 [] [] (Rt (.c (.bool true)) []) := by
  have p1 := split_spec s2L s2L_ok 5 [100] (by decide)
  have p2 := split_spec s2M s2M_ok 5 [101] (by decide)
  have p3 := get_spec s2N s2N_ok 6
  rw [sp2.1, sp2.2] at p1
  rw [sp3.1, sp3.2] at p2
  rw [sp4] at p3
  refine X_spec (n := 72) (n0 := 0) tabOk Tryz.call37 Tryz.func37 ?_
  intro hb
  (conv => whnf)
  refine ⟨[⟨[100, 47, 97], []⟩], rfl, ?_⟩
  (conv => whnf)
  refine ⟨[⟨[100, 47, 97], []⟩, ⟨[98], []⟩], rfl, ?_⟩
  (conv => whnf)
  refine ⟨[0], rfl, ?_⟩
  (conv => whnf)
  refine ⟨s2, rfl, ?_⟩
  (conv => whnf)
  refine cl [] [] (grownC_spec) ?_
  (conv => whnf)
  refine ⟨1, ⟨rfl, by decide⟩, ?_⟩
  (conv => whnf)
  refine ⟨5, rfl, ?_⟩
  (conv => whnf)
  refine cl [] [4, 5] (p1) ?_
  (conv => whnf)
  refine ⟨1, ⟨rfl, by decide⟩, ?_⟩
  (conv => whnf)
  refine ⟨5, rfl, ?_⟩
  (conv => whnf)
  refine cl [] [4, 9] (p2) ?_
  (conv => whnf)
  refine cl [] [] (p3) ?_
  (conv => whnf)
  exact rtB rfl
end Go.Nest
end
/- WALKS, W12: WalkDoes. -/
section
namespace Go.Nest
open Go Go.AM Go.Proofs
open Go.Proofs.YtogallppofinhaaGreatDoor (tab tabOk)
set_option linter.unusedVariables false
set_option linter.unusedSimpArgs false
set_option maxRecDepth 4000
end Go.Nest
end
/- WALKS, U5: the law SplitTree. -/
section
namespace Go.Nest
open Go Go.AM Go.Proofs
open Go.Proofs.YtogallppofinhaaGreatDoor (tab tabOk)
set_option linter.unusedVariables false
set_option linter.unusedSimpArgs false
set_option maxRecDepth 4000
def treeT (M : List Ob) (dir : List UInt8) (j : Int) : Option Int := if (atF M (getP M j).tree dir).2 = 0 then some (atF M (getP M j).tree dir).1 else none
theorem treeT_take {M : List Ob} {dir : List UInt8} {l : List Int} {i : Nat} (h : i < l.length) : (l.take (i + 1)).filterMap (treeT M dir) = (l.take i).filterMap (treeT M dir) ++ (if (atF M (getP M l[i]).tree dir).2 = 0 then [(atF M (getP M l[i]).tree dir).1] else []) := by
  rw [List.take_succ_eq_append_getElem h, List.filterMap_append, List.filterMap_cons]
  unfold treeT
  split
  · rename_i h2; split at h2
    · cases h2
    · rename_i h3; rw [if_neg h3]; rfl
  · rename_i h2; split at h2
    · rename_i h3; cases h2; rw [if_pos h3]; rfl
    · cases h2
set_option maxHeartbeats 2000000 in
theorem splitTree_spec (l : List Sn) (a : Int) (dir : List UInt8) (hl : ∀ s ∈ l, DocsFit s.docs) : Does Tryz.prog 6 [.c (.ls 3 Sn encSn l), .c (.int .i64 a), .c (.str dir)] [] (Rt (.c (.bool true)) []) := by
  refine X_spec (n := 179) (n0 := 0) tabOk Tryz.call6 Tryz.func6 ?_
  intro hb
  (conv => whnf)
  refine cl [] [] (splitBegun_spec) ?_
  (conv => whnf)
  refine cl [] [] (greatSnaps_spec l hl) ?_
  (conv => whnf)
  refine boo (fun g1 => ?_) (fun g1 => ?_)
  · (conv => whnf)
    exact rtC rfl rfl
  have hg := greatS_ok g1
  (conv => whnf)
  refine dec (fun g2 => ?_) (fun g2 => ?_)
  · (conv => whnf)
    exact rtC rfl rfl
  have hd : dir.length ≤ 4000000 := by have g2 : ¬ (500 : Int) < dir.length := g2; omega
  (conv => whnf)
  refine cl [] [] (grown_spec l hg) ?_
  have hL : PoolOk (growU l).1 := grow_ok
  have hml : (growU l).2.length ≤ 25 := Nat.le_trans grow_len (by simpa using hg.1)
  generalize growU l = G at *
  obtain ⟨L, made⟩ := G
  dsimp only at hL hml
  (conv => whnf)
  refine dec (fun h0 => ?_) (fun h0 => ?_)
  · (conv => whnf)
    exact rtC rfl rfl
  (conv => whnf)
  refine cl [] [] (one_spec made a) ?_
  clear h0
  generalize oneP made a = id at *
  have p1 := split_spec L hL id dir hd
  rcases hsp : splitF L id dir with ⟨x, c, M⟩
  obtain ⟨hM, hLM, s1, s2, s3⟩ := split_law hL hsp
  have p2 := split_spec M hM id dir hd
  rw [hsp] at p1
  rw [s2] at p2
  dsimp only at p1 p2
  have hMl := hM.len
  (conv => whnf)
  refine cl [] [0, 1] (p1) ?_
  (conv => whnf)
  refine cl [] [] (len_spec M) ?_
  (conv => whnf)
  refine cl [] [0, 5] (p2) ?_
  (conv => whnf)
  refine decN (fun h => absurd rfl h) (fun _ => ?_)
  (conv => whnf)
  refine decN (fun h => absurd rfl h) (fun _ => ?_)
  (conv => whnf)
  refine cl [] [] (len_spec M) ?_
  (conv => whnf)
  refine decN (fun h => absurd rfl h) (fun _ => ?_)
  (conv => whnf)
  refine decN (fun h1 => ?_) (fun h1 => ?_)
  · (conv => whnf)
    exact rtB (by rw [s1 h1]; rfl)
  obtain ⟨k1, k2, k3, k4⟩ := s3 h1
  have a1 := ancestors_spec M hM id
  have a2 := ancestors_spec M hM x
  have al : (ancP M id).1.length ≤ 600 := by
    have := anc_len (L := M) (id := id)
    rw [show ancP M id = (ancL M id, 0) from if_pos k1]
    exact Nat.le_trans this hMl
  have bl : (ancP M x).1.length ≤ 600 := by
    have := anc_len (L := M) (id := x)
    rw [show ancP M x = (ancL M x, 0) from if_pos k2]
    exact Nat.le_trans this hMl
  generalize ancP M id = A at *
  obtain ⟨line, ac⟩ := A
  generalize ancP M x = B at *
  obtain ⟨all, bc⟩ := B
  dsimp only at a1 a2 k4 al bl
  (conv => whnf)
  refine cl [] [] (a1) ?_
  (conv => whnf)
  refine lp Nat (fun i => ⟨[(2, .c (.str dir)), (7, .c (.ptr 0 0)), (11, .c (.int .i64 id)), (12, .c (.int .i64 x)), (17, .c (.rw 2)), (19, .c (.rw 3)), (20, .c (.int .i64 i))], [.box [.rw 1], .row 6 Ob encOb M, .row 1 Int encI line, .row 1 Int encI ((line.take i).filterMap (treeT M dir))]⟩) (fun i => i ≤ line.length ∧ True) (fun i => line.length - i) 0 [] [.same 0, .same 6, .same 7, .new] ?_ ?_ (fun i hi => ?_)
  · simp
  · repeat' first | exact trivial | exact rfl | refine And.intro ?_ ?_
  (conv => whnf)
  refine dec (fun h4 => ?_) (fun h4 => ?_)
  · have hlt : i < line.length := by omega
    have hiy : line[i]? = some line[i] := List.getElem?_eq_getElem hlt
    have hst := treeT_take (M := M) (dir := dir) hlt
    have hol : ((line.take i).filterMap (treeT M dir)).length ≤ 600 := by
      have := List.length_filterMap_le (treeT M dir) (line.take i)
      rw [List.length_take] at this
      omega
    generalize (line.take i).filterMap (treeT M dir) = out at *
    generalize line[i] = j at *
    have p3 := at_spec M hM (getP M j).tree dir hd
    generalize atF M (getP M j).tree dir = T at *
    obtain ⟨t, e⟩ := T
    dsimp only at p3 hst
    (conv => whnf)
    refine ⟨i, ⟨rfl, hlt⟩, ?_⟩
    (conv => whnf)
    refine ⟨j, hiy, ?_⟩
    (conv => whnf)
    refine cl [] [] (get_spec M hM j) ?_
    (conv => whnf)
    refine cl [] [] (p3) ?_
    (conv => whnf)
    refine dec (fun h5 => ?_) (fun h5 => ?_)
    · rw [if_pos h5] at hst
      (conv => whnf)
      refine ⟨[t], rfl, ?_⟩
      (conv => whnf)
      refine ⟨_, _, rfl, rfl, (by simp only [List.length_append, List.length_cons, List.length_nil]; omega), ?_⟩
      repeat' ((conv => whnf); first | (refine dec (fun h => ?_) (fun h => ?_) <;> try contradiction) | (refine decN (fun h => ?_) (fun h => ?_) <;> try contradiction) | refine booN (fun h => ?_) (fun h => ?_) | refine boo (fun h => ?_) (fun h => ?_) | refine ⟨i64 (by omega) (by omega), ?_⟩ | refine ⟨_, _, rfl, List.getElem?_eq_getElem (by omega), ?_⟩ | refine ⟨_, ⟨rfl, by omega⟩, ?_⟩ | refine ⟨_, List.getElem?_eq_getElem (by omega), ?_⟩ | refine rtB ?_ | refine rtI ?_ | refine rtC ?_ rfl | fail)
      refine ag (i + 1) [] [.same 0, .same 1, .same 2, .same 6] ⟨hlt, trivial⟩ (by simp only []; omega) ?_
      rw [hst]
      repeat' first | exact trivial | exact rfl | refine And.intro ?_ ?_
    · rw [if_neg h5, List.append_nil] at hst
      repeat' ((conv => whnf); first | (refine dec (fun h => ?_) (fun h => ?_) <;> try contradiction) | (refine decN (fun h => ?_) (fun h => ?_) <;> try contradiction) | refine booN (fun h => ?_) (fun h => ?_) | refine boo (fun h => ?_) (fun h => ?_) | refine ⟨i64 (by omega) (by omega), ?_⟩ | refine ⟨_, _, rfl, List.getElem?_eq_getElem (by omega), ?_⟩ | refine ⟨_, ⟨rfl, by omega⟩, ?_⟩ | refine ⟨_, List.getElem?_eq_getElem (by omega), ?_⟩ | refine rtB ?_ | refine rtI ?_ | refine rtC ?_ rfl | fail)
      refine ag (i + 1) [] [.same 0, .same 1, .same 2, .same 3] ⟨hlt, trivial⟩ (by simp only []; omega) ?_
      rw [hst]
      repeat' first | exact trivial | exact rfl | refine And.intro ?_ ?_
  · obtain rfl : i = line.length := by omega
    rw [List.take_length]
    have hin : ∀ y ∈ all, decide ((getP M y).tree ∈ line.filterMap (treeT M dir)) = true := fun y hy => by
      obtain ⟨j, j1, j2⟩ := k4 y hy
      rw [decide_eq_true_iff, List.mem_filterMap]
      exact ⟨j, j1, by unfold treeT; rw [j2, if_pos rfl]⟩
    generalize line.filterMap (treeT M dir) = trees at *
    have p5 := at_spec M hM (getP M id).tree dir hd
    have k3 := k3
    generalize atF M (getP M id).tree dir = T at *
    obtain ⟨t, e⟩ := T
    dsimp only at p5
    (conv => whnf)
    refine cl [] [] (get_spec M hM id) ?_
    (conv => whnf)
    refine cl [] [] (p5) ?_
    (conv => whnf)
    refine dec (fun h5 => ?_) (fun h5 => ?_)
    · have k3 := k3 t (by rw [show e = 0 from h5])
      (conv => whnf)
      refine cl [] [] (get_spec M hM x) ?_
      (conv => whnf)
      refine decN (fun h => absurd k3 h) (fun _ => ?_)
      (conv => whnf)
      refine cl [] [] (a2) ?_
      (conv => whnf)
      refine lp Nat (fun i => ⟨[(7, .c (.ptr 0 0)), (19, .c (.rw 2)), (31, .c (.rw 3)), (33, .c (.int .i64 i))], [.box [.rw 1], .row 6 Ob encOb M, .row 1 Int encI trees, .row 1 Int encI all]⟩) (fun i => i ≤ all.length ∧ True) (fun i => all.length - i) 0 [] [.same 0, .same 1, .same 3, .same 6] ?_ ?_ (fun i hi => ?_)
      · simp
      · repeat' first | exact trivial | exact rfl | refine And.intro ?_ ?_
      (conv => whnf)
      refine dec (fun h6 => ?_) (fun h6 => ?_)
      · have hlt : i < all.length := by omega
        have hiy : all[i]? = some all[i] := List.getElem?_eq_getElem hlt
        have hm := hin _ (List.getElem_mem hlt)
        generalize all[i] = y at *
        have p6 := in_spec trees (getP M y).tree
        rw [hm] at p6
        (conv => whnf)
        refine ⟨i, ⟨rfl, hlt⟩, ?_⟩
        (conv => whnf)
        refine ⟨y, hiy, ?_⟩
        (conv => whnf)
        refine cl [] [] (get_spec M hM y) ?_
        (conv => whnf)
        refine cl [] [] (p6) ?_
        repeat' ((conv => whnf); first | (refine dec (fun h => ?_) (fun h => ?_) <;> try contradiction) | (refine decN (fun h => ?_) (fun h => ?_) <;> try contradiction) | refine booN (fun h => ?_) (fun h => ?_) | refine boo (fun h => ?_) (fun h => ?_) | refine ⟨i64 (by omega) (by omega), ?_⟩ | refine ⟨_, _, rfl, List.getElem?_eq_getElem (by omega), ?_⟩ | refine ⟨_, ⟨rfl, by omega⟩, ?_⟩ | refine ⟨_, List.getElem?_eq_getElem (by omega), ?_⟩ | refine rtB ?_ | refine rtI ?_ | refine rtC ?_ rfl | fail)
        refine ag (i + 1) [] [.same 0, .same 1, .same 2, .same 3] ⟨hlt, trivial⟩ (by simp only []; omega) ?_
        repeat' first | exact trivial | exact rfl | refine And.intro ?_ ?_
      · (conv => whnf)
        exact rtB rfl
    · (conv => whnf)
      refine cl [] [] (a2) ?_
      (conv => whnf)
      refine lp Nat (fun i => ⟨[(7, .c (.ptr 0 0)), (19, .c (.rw 2)), (31, .c (.rw 3)), (33, .c (.int .i64 i))], [.box [.rw 1], .row 6 Ob encOb M, .row 1 Int encI trees, .row 1 Int encI all]⟩) (fun i => i ≤ all.length ∧ True) (fun i => all.length - i) 0 [] [.same 0, .same 1, .same 3, .same 5] ?_ ?_ (fun i hi => ?_)
      · simp
      · repeat' first | exact trivial | exact rfl | refine And.intro ?_ ?_
      (conv => whnf)
      refine dec (fun h6 => ?_) (fun h6 => ?_)
      · have hlt : i < all.length := by omega
        have hiy : all[i]? = some all[i] := List.getElem?_eq_getElem hlt
        have hm := hin _ (List.getElem_mem hlt)
        generalize all[i] = y at *
        have p6 := in_spec trees (getP M y).tree
        rw [hm] at p6
        (conv => whnf)
        refine ⟨i, ⟨rfl, hlt⟩, ?_⟩
        (conv => whnf)
        refine ⟨y, hiy, ?_⟩
        (conv => whnf)
        refine cl [] [] (get_spec M hM y) ?_
        (conv => whnf)
        refine cl [] [] (p6) ?_
        repeat' ((conv => whnf); first | (refine dec (fun h => ?_) (fun h => ?_) <;> try contradiction) | (refine decN (fun h => ?_) (fun h => ?_) <;> try contradiction) | refine booN (fun h => ?_) (fun h => ?_) | refine boo (fun h => ?_) (fun h => ?_) | refine ⟨i64 (by omega) (by omega), ?_⟩ | refine ⟨_, _, rfl, List.getElem?_eq_getElem (by omega), ?_⟩ | refine ⟨_, ⟨rfl, by omega⟩, ?_⟩ | refine ⟨_, List.getElem?_eq_getElem (by omega), ?_⟩ | refine rtB ?_ | refine rtI ?_ | refine rtC ?_ rfl | fail)
        refine ag (i + 1) [] [.same 0, .same 1, .same 2, .same 3] ⟨hlt, trivial⟩ (by simp only []; omega) ?_
        repeat' first | exact trivial | exact rfl | refine And.intro ?_ ?_
      · (conv => whnf)
        exact rtB rfl
end Go.Nest
end
