/- WALKS, K8: a work: laid, checked out; by the document, too. -/
import Derived.Test.YtogallppofinhaaGreatDoorK7
import Derived.Test.YtogallppofinhaaGreatDoorW8
section
namespace Go.Nest
open Go Go.AM Go.Proofs
open Go.Proofs.YtogallppofinhaaGreatDoor (tab tabOk)
set_option linter.unusedVariables false
set_option linter.unusedSimpArgs false
set_option maxRecDepth 4000
theorem layF_link {L : List Ob} {f : Fi} (h : f.mode = 3) : layF L f = ⟨f.path, [], decide (f.mode = 3), f.id, f.repo⟩ := (if_pos h).trans (by rw [decide_eq_true h])
theorem layF_file {L : List Ob} {f : Fi} (h : ¬ f.mode = 3) : layF L f = ⟨f.path, (getP L f.id).bytes, false, 0, 0⟩ := if_neg h
set_option maxHeartbeats 1000000 in
theorem lay_wspec (L : List Ob) (hL : PoolOk L) (l : List It) (h : Int) (fs : List Fi) (hf : fs.length ≤ 60) : Does Tryz.prog 96 [.c (.ptr 0 0), .c (.bs 4 Fi encFi fs)] [.box [.ptr 1 0, .rw 3, .int .i64 h], .box [.rw 2], .row 6 Ob encOb L, .row 5 It encIt l] (Rt (.tup []) [.box [.ptr 1 0, .rw 5, .int .i64 h], .box [.rw 4], .dead, .dead, .row 6 Ob encOb L, .row 5 It encIt (fs.map (layF L))]) := by
  refine X_spec (n := 57) (n0 := 4) tabOk Tryz.call96 Tryz.func96 ?_
  intro hb
  (conv => whnf)
  refine lp Nat (fun i => ⟨[(0, .c (.ptr 0 0)), (12, .c (.bs 4 Fi encFi fs)), (13, .c (.int .i64 fs.length)), (14, .c (.int .i64 i))], [.box [.ptr 1 0, .rw 4, .int .i64 h], .box [.rw 2], .row 6 Ob encOb L, .dead, .row 5 It encIt ((fs.take i).map (layF L))]⟩) (fun i => i ≤ fs.length ∧ True) (fun i => fs.length - i) 0 [] [.same 0, .same 1, .same 2, .same 3, .new] ?_ ?_ (fun i hi => ?_)
  · simp
  · repeat' first | exact trivial | exact rfl | refine And.intro ?_ ?_
  (conv => whnf)
  refine dec (fun h4 => ?_) (fun h4 => ?_)
  · have hlt : i < fs.length := by omega
    have hol : ((fs.take i).map (layF L)).length ≤ i := by rw [List.length_map, List.length_take]; omega
    have hs : (fs.take (i + 1)).map (layF L) = (fs.take i).map (layF L) ++ [layF L fs[i]] := by rw [List.take_succ_eq_append_getElem hlt, List.map_append]; rfl
    generalize (fs.take i).map (layF L) = out at *
    (conv => whnf)
    refine ⟨i, fs[i], rfl, List.getElem?_eq_getElem hlt, ?_⟩
    generalize fs[i] = f at *
    (conv => whnf)
    refine decN (fun h5 => ?_) (fun h5 => ?_)
    · rw [layF_file h5] at hs
      (conv => whnf)
      refine ⟨false, .grow, (.alt [0, 1, 2, 3, 4, 5] [6, 10] fun j => bif Nat.beq j 6 then (.l [7, 8, 9, 10, 11, 12]) else bif Nat.beq j 10 then (.l [6, 7, 8, 9, 11, 12]) else .l []), by kernel_rfl, .inl ?_⟩
      (conv => whnf)
      refine And.intro ?_ ?_
      all_goals
        (conv => whnf)
        refine cl [] [] (get_spec L hL f.id) ?_
        (conv => whnf)
        refine ⟨false, .grow, (.l [0, 1, 2, 3, 4, 5, 6, 7, 8, 9, 10]), by kernel_rfl, .inl ?_⟩
        (conv => whnf)
        refine ⟨[⟨f.path, (getP L f.id).bytes, false, 0, 0⟩], rfl, ?_⟩
        (conv => whnf)
        refine ⟨_, _, rfl, rfl, (by simp only [List.length_append, List.length_cons, List.length_nil]; omega), ?_⟩
        repeat' ((conv => whnf); first | (refine dec (fun h => ?_) (fun h => ?_) <;> try contradiction) | (refine decN (fun h => ?_) (fun h => ?_) <;> try contradiction) | refine booN (fun h => ?_) (fun h => ?_) | refine boo (fun h => ?_) (fun h => ?_) | refine ⟨i64 (by omega) (by omega), ?_⟩ | refine ⟨_, _, rfl, List.getElem?_eq_getElem (by omega), ?_⟩ | refine ⟨_, ⟨rfl, by omega⟩, ?_⟩ | refine ⟨_, List.getElem?_eq_getElem (by omega), ?_⟩ | refine rtB ?_ | refine rtI ?_ | refine rtC ?_ rfl | fail)
        refine ag (i + 1) [] [.same 0, .same 1, .same 2, .same 3, .same 9] ⟨hlt, trivial⟩ (by simp only []; omega) ?_
        rw [hs]
        repeat' first | exact trivial | exact rfl | refine And.intro ?_ ?_
    · rw [layF_link h5] at hs
      (conv => whnf)
      refine ⟨false, .grow, (.l [0, 1, 2, 3, 4, 5, 6, 7, 8, 9, 10]), by kernel_rfl, .inl ?_⟩
      (conv => whnf)
      refine ⟨[⟨f.path, [], decide (f.mode = 3), f.id, f.repo⟩], rfl, ?_⟩
      (conv => whnf)
      refine ⟨_, _, rfl, rfl, (by simp only [List.length_append, List.length_cons, List.length_nil]; omega), ?_⟩
      repeat' ((conv => whnf); first | (refine dec (fun h => ?_) (fun h => ?_) <;> try contradiction) | (refine decN (fun h => ?_) (fun h => ?_) <;> try contradiction) | refine booN (fun h => ?_) (fun h => ?_) | refine boo (fun h => ?_) (fun h => ?_) | refine ⟨i64 (by omega) (by omega), ?_⟩ | refine ⟨_, _, rfl, List.getElem?_eq_getElem (by omega), ?_⟩ | refine ⟨_, ⟨rfl, by omega⟩, ?_⟩ | refine ⟨_, List.getElem?_eq_getElem (by omega), ?_⟩ | refine rtB ?_ | refine rtI ?_ | refine rtC ?_ rfl | fail)
      refine ag (i + 1) [] [.same 0, .same 1, .same 2, .same 3, .same 8] ⟨hlt, trivial⟩ (by simp only []; omega) ?_
      rw [hs]
      repeat' first | exact trivial | exact rfl | refine And.intro ?_ ?_
  · obtain rfl : i = fs.length := by omega
    rw [List.take_length]
    (conv => whnf)
    exact rx [] [.same 0, .same 1, .same 2, .same 3, .same 2, .same 4]
set_option maxHeartbeats 1000000 in
theorem layD_wspec (L : List Ob) (hL : PoolOk L) (l : List It) (h : Int) (fs : List Fi) (hf : fs.length ≤ 60) (hv : ∀ f ∈ fs, ¬ f.mode = 3 → ¬ kindOf L f.id = 0) : Does Tryz.prog 158 [.c (.ptr 0 0), .c (.bs 4 Fi encFi fs)] [.box [.ptr 1 0, .rw 3, .int .i64 h], .box [.rw 2], .row 6 Ob encOb L, .row 5 It encIt l] (Rt (.tup []) [.box [.ptr 1 0, .rw 5, .int .i64 h], .box [.rw 4], .dead, .dead, .row 6 Ob encOb L, .row 5 It encIt (fs.map (layF L))]) := by
  refine X_spec (n := 66) (n0 := 4) tabOk Tryz.call158 Tryz.func158 ?_
  intro hb
  (conv => whnf)
  refine lp Nat (fun i => ⟨[(0, .c (.ptr 0 0)), (1, .c (.bs 4 Fi encFi fs)), (4, .c (.int .i64 i))], [.box [.ptr 1 0, .rw 4, .int .i64 h], .box [.rw 2], .row 6 Ob encOb L, .dead, .row 5 It encIt ((fs.take i).map (layF L))]⟩) (fun i => i ≤ fs.length ∧ True) (fun i => fs.length - i) 0 [] [.same 0, .same 1, .same 2, .same 3, .new] ?_ ?_ (fun i hi => ?_)
  · simp
  · repeat' first | exact trivial | exact rfl | refine And.intro ?_ ?_
  (conv => whnf)
  refine dec (fun h4 => ?_) (fun h4 => ?_)
  · have hlt : i < fs.length := by omega
    have hol : ((fs.take i).map (layF L)).length ≤ i := by rw [List.length_map, List.length_take]; omega
    have hs : (fs.take (i + 1)).map (layF L) = (fs.take i).map (layF L) ++ [layF L fs[i]] := by rw [List.take_succ_eq_append_getElem hlt, List.map_append]; rfl
    have hiy : fs[i]? = some fs[i] := List.getElem?_eq_getElem hlt
    have hvi := hv _ (List.getElem_mem hlt)
    generalize (fs.take i).map (layF L) = out at *
    generalize fs[i] = f at *
    (conv => whnf)
    refine ⟨i, f, rfl, hiy, ?_⟩
    (conv => whnf)
    refine ⟨i, f, rfl, hiy, ?_⟩
    (conv => whnf)
    refine dec (fun h5 => ?_) (fun h5 => ?_)
    · rw [layF_link h5, decide_eq_true h5] at hs
      (conv => whnf)
      refine ⟨false, .prot [], (.l [0, 1, 2, 3, 4, 5, 6, 7, 8, 9, 10, 11, 12, 13, 14, 15]), by kernel_rfl, .inl ?_⟩
      (conv => whnf)
      refine ⟨i, f, rfl, hiy, ?_⟩
      (conv => whnf)
      refine ⟨i, f, rfl, hiy, ?_⟩
      (conv => whnf)
      refine ⟨false, .grow, (.l [0, 1, 2, 3, 4, 5, 6, 7, 8, 9, 10]), by kernel_rfl, .inl ?_⟩
      (conv => whnf)
      refine ⟨[⟨f.path, [], true, f.id, f.repo⟩], rfl, ?_⟩
      (conv => whnf)
      refine ⟨_, _, rfl, rfl, (by simp only [List.length_append, List.length_cons, List.length_nil]; omega), ?_⟩
      repeat' ((conv => whnf); first | (refine dec (fun h => ?_) (fun h => ?_) <;> try contradiction) | (refine decN (fun h => ?_) (fun h => ?_) <;> try contradiction) | refine booN (fun h => ?_) (fun h => ?_) | refine boo (fun h => ?_) (fun h => ?_) | refine ⟨i64 (by omega) (by omega), ?_⟩ | refine ⟨_, _, rfl, List.getElem?_eq_getElem (by omega), ?_⟩ | refine ⟨_, ⟨rfl, by omega⟩, ?_⟩ | refine ⟨_, List.getElem?_eq_getElem (by omega), ?_⟩ | refine rtB ?_ | refine rtI ?_ | refine rtC ?_ rfl | fail)
      refine ag (i + 1) [] [.same 0, .same 1, .same 2, .same 3, .same 7] ⟨hlt, trivial⟩ (by simp only []; omega) ?_
      rw [hs]
      repeat' first | exact trivial | exact rfl | refine And.intro ?_ ?_
    · rw [layF_file h5] at hs
      have h5 : ¬ f.mode = 3 := h5
      obtain ⟨k1, k2⟩ := kindOf_pos (hvi h5)
      rw [getP_at k1 k2] at hs
      (conv => whnf)
      refine ⟨false, .grow, (.l [0, 1, 2, 3, 4, 5, 6, 7, 8, 9, 10, 11, 12, 13, 14, 15, 16]), by kernel_rfl, .inl ?_⟩
      (conv => whnf)
      refine ⟨i, f, rfl, hiy, ?_⟩
      (conv => whnf)
      refine ⟨f.id.toNat, ⟨by omega, k2⟩, ?_⟩
      (conv => whnf)
      refine ⟨L[f.id.toNat], List.getElem?_eq_getElem k2, ?_⟩
      (conv => whnf)
      refine ⟨false, .grow, (.l [0, 1, 2, 3, 4, 5, 6, 7, 8, 9, 10]), by kernel_rfl, .inl ?_⟩
      (conv => whnf)
      refine ⟨[⟨f.path, L[f.id.toNat].bytes, false, 0, 0⟩], rfl, ?_⟩
      (conv => whnf)
      refine ⟨_, _, rfl, rfl, (by simp only [List.length_append, List.length_cons, List.length_nil]; omega), ?_⟩
      repeat' ((conv => whnf); first | (refine dec (fun h => ?_) (fun h => ?_) <;> try contradiction) | (refine decN (fun h => ?_) (fun h => ?_) <;> try contradiction) | refine booN (fun h => ?_) (fun h => ?_) | refine boo (fun h => ?_) (fun h => ?_) | refine ⟨i64 (by omega) (by omega), ?_⟩ | refine ⟨_, _, rfl, List.getElem?_eq_getElem (by omega), ?_⟩ | refine ⟨_, ⟨rfl, by omega⟩, ?_⟩ | refine ⟨_, List.getElem?_eq_getElem (by omega), ?_⟩ | refine rtB ?_ | refine rtI ?_ | refine rtC ?_ rfl | fail)
      refine ag (i + 1) [] [.same 0, .same 1, .same 2, .same 3, .same 7] ⟨hlt, trivial⟩ (by simp only []; omega) ?_
      rw [hs]
      repeat' first | exact trivial | exact rfl | refine And.intro ?_ ?_
  · obtain rfl : i = fs.length := by omega
    rw [List.take_length]
    (conv => whnf)
    exact rx [] [.same 0, .same 1, .same 2, .same 3, .same 2, .same 4]
theorem Ents.ids {ne : Bool} {L : List Ob} (hL : PoolOk L) {es : List Ent} {l : List Fi} (h : Ents ne L es l) : (∀ e ∈ es, kindOf L e.id = e.mode) → ∀ f ∈ l, kindOf L f.id = f.mode := by
  induction h with
  | nil => intro _ f hf; cases hf
  | file hm h ih =>
    intro he f hf
    rcases List.mem_cons.1 hf with rfl | hf
    · exact he _ (by simp)
    · exact ih (fun e h => he e (by simp [h])) f hf
  | @dir e es m l hm hk hne h1 h ih1 ih2 =>
    intro he f hf
    rcases List.mem_append.1 hf with hf | hf
    · obtain ⟨g, hg, rfl⟩ := List.mem_map.1 hf
      exact ih1 (hL.tree hk).2.2.2 g hg
    · exact ih2 (fun e h => he e (by simp [h])) f hf
theorem TreeOf.ids {ne : Bool} {L : List Ob} (hL : PoolOk L) {t : Int} {l : List Fi} (h : TreeOf ne L t l) : ∀ f ∈ l, kindOf L f.id = f.mode := h.2.ids hL (hL.tree h.1).2.2.2
theorem filesF_mode {l : List Fi} (h : filesF l = 0) : ∀ f ∈ l, ¬ f.mode = 0 := fun f hf => by have := ((filesF_all h).2 f hf).2; omega
def layC (L : List Ob) (fs : List Fi) : Int := (buildP L fs).2.1
theorem lay_top (L : List Ob) (hL : PoolOk L) (l : List It) (h : Int) (fs : List Fi) (hp : ∀ f ∈ fs, f.path.length ≤ 4000000) : Does Tryz.prog 92 [.c (.ptr 0 0), .c (.bs 4 Fi encFi fs)] [.box [.ptr 1 0, .rw 3, .int .i64 h], .box [.rw 2], .row 6 Ob encOb L, .row 5 It encIt l] (Rt (.c (.int .i64 (layC L fs))) [.box [.ptr 1 0, .rw 5, .int .i64 h], .box [.rw 4], .dead, .dead, .row 6 Ob encOb (buildP L fs).2.2, .row 5 It encIt (layW L l fs)]) := by
  refine X_spec (n := 22) (n0 := 4) tabOk Tryz.call92 Tryz.func92 ?_
  intro hb
  have hbo := (buildP_ok hL fs).1
  have hbt := buildP_tree (L := L) (l := fs) hL
  unfold layW layC
  (conv => whnf)
  refine cl [] [1, 2] (flatBuild_spec L fs hL hp) ?_
  generalize buildP L fs = B at *
  obtain ⟨t, c, M⟩ := B
  dsimp only at hbo hbt
  (conv => whnf)
  refine decN (fun h1 => ?_) (fun h1 => ?_)
  · rw [if_pos h1]
    (conv => whnf)
    exact rx [] [.same 0, .same 1, .same 2, .same 3, .same 4, .same 3]
  · rw [if_neg (fun h => h h1)]
    obtain ⟨b1, b2⟩ := hbt h1
    have hfl := (filesF_all b1).1
    have hv : ∀ f ∈ fs, ¬ f.mode = 3 → ¬ kindOf M f.id = 0 := fun f hf _ => by rw [b2.ids hbo f hf]; exact filesF_mode b1 f hf
    have hl := lay_wspec M hbo l h fs hfl
    have h1 : c = 0 := h1
    subst h1
    (conv => whnf)
    refine cl [] [0, 1, 4, 3] (hl) ?_
    (conv => whnf)
    exact rx [] [.same 0, .same 1, .same 2, .same 3, .same 5, .same 6]
theorem layD_top (L : List Ob) (hL : PoolOk L) (l : List It) (h : Int) (fs : List Fi) (hp : ∀ f ∈ fs, f.path.length ≤ 4000000) : Does Tryz.prog 93 [.c (.ptr 0 0), .c (.bs 4 Fi encFi fs)] [.box [.ptr 1 0, .rw 3, .int .i64 h], .box [.rw 2], .row 6 Ob encOb L, .row 5 It encIt l] (Rt (.c (.int .i64 (layC L fs))) [.box [.ptr 1 0, .rw 5, .int .i64 h], .box [.rw 4], .dead, .dead, .row 6 Ob encOb (buildP L fs).2.2, .row 5 It encIt (layW L l fs)]) := by
  refine X_spec (n := 22) (n0 := 4) tabOk Tryz.call93 Tryz.func93 ?_
  intro hb
  have hbo := (buildP_ok hL fs).1
  have hbt := buildP_tree (L := L) (l := fs) hL
  unfold layW layC
  (conv => whnf)
  refine cl [] [1, 2] (treeOfTop_spec L fs hL hp) ?_
  generalize buildP L fs = B at *
  obtain ⟨t, c, M⟩ := B
  dsimp only at hbo hbt
  (conv => whnf)
  refine decN (fun h1 => ?_) (fun h1 => ?_)
  · rw [if_pos h1]
    (conv => whnf)
    exact rx [] [.same 0, .same 1, .same 2, .same 3, .same 4, .same 3]
  · rw [if_neg (fun h => h h1)]
    obtain ⟨b1, b2⟩ := hbt h1
    have hfl := (filesF_all b1).1
    have hv : ∀ f ∈ fs, ¬ f.mode = 3 → ¬ kindOf M f.id = 0 := fun f hf _ => by rw [b2.ids hbo f hf]; exact filesF_mode b1 f hf
    have hl := layD_wspec M hbo l h fs hfl hv
    have h1 : c = 0 := h1
    subst h1
    (conv => whnf)
    refine cl [] [0, 1, 4, 3] (hl) ?_
    (conv => whnf)
    exact rx [] [.same 0, .same 1, .same 2, .same 3, .same 5, .same 6]
end Go.Nest
end
/- WALKS, K9: a work: checked out; by the document, too. -/
section
namespace Go.Nest
open Go Go.AM Go.Proofs
open Go.Proofs.YtogallppofinhaaGreatDoor (tab tabOk)
set_option linter.unusedVariables false
set_option linter.unusedSimpArgs false
set_option maxRecDepth 4000
/-- the three cases -/
theorem co_none {L : List Ob} {l : List It} {h id : Int} (hk : ¬ kindOf L id = 3) : coC L l h id = 9 ∧ coL L l id = L ∧ coW L l h id = l ∧ coH L l h id = h := by
  have e : coC L l h id = 9 := if_pos hk
  exact ⟨e, if_pos hk, if_pos (by rw [e]; decide), if_pos (by rw [e]; decide)⟩
theorem co_bad {L : List Ob} {l : List It} {h id : Int} (hk : kindOf L id = 3) (hc : ¬ cleanW L l h = 0) : coC L l h id = cleanW L l h ∧ coL L l id = (treeW L l).2.2 ∧ coW L l h id = l ∧ coH L l h id = h := by
  have e : coC L l h id = cleanW L l h := (if_neg (fun h => h hk)).trans (if_pos hc)
  exact ⟨e, if_neg (fun h => h hk), if_pos (by rw [e]; exact hc), if_pos (by rw [e]; exact hc)⟩
theorem co_files {L : List Ob} {l : List It} {h id : Int} (hk : kindOf L id = 3) (hc : cleanW L l h = 0) : coC L l h id = (filesP (treeW L l).2.2 (getP L id).tree).2 ∧ coL L l id = (treeW L l).2.2 ∧
    coW L l h id = (if (filesP (treeW L l).2.2 (getP L id).tree).2 ≠ 0 then l else (filesP (treeW L l).2.2 (getP L id).tree).1.map (layF (treeW L l).2.2)) ∧ coH L l h id = if (filesP (treeW L l).2.2 (getP L id).tree).2 ≠ 0 then h else id := by
  have e : coC L l h id = (filesP (treeW L l).2.2 (getP L id).tree).2 := (if_neg (fun h => h hk)).trans (if_neg (fun h => h hc))
  refine ⟨e, if_neg (fun h => h hk), ?_, ?_⟩
  · unfold coW; rw [e]
  · unfold coH; rw [e]
set_option maxHeartbeats 1000000 in
theorem checkout_wspec (L : List Ob) (hL : PoolOk L) (l : List It) (h : Int) (hp : ∀ y ∈ l, y.path.length ≤ 4000000) (hl : l.length ≤ 60) (id : Int) : Does Tryz.prog 23 [.c (.ptr 0 0), .c (.int .i64 id)] [.box [.ptr 1 0, .rw 3, .int .i64 h], .box [.rw 2], .row 6 Ob encOb L, .row 5 It encIt l] (Rt (.c (.int .i64 (coC L l h id))) [.box [.ptr 1 0, .rw 5, .int .i64 (coH L l h id)], .box [.rw 4], .dead, .dead, .row 6 Ob encOb (coL L l id), .row 5 It encIt (coW L l h id)]) := by
  have hto := (treeW_ok (l := l) hL).1
  have hC := clean_wspec L hL l h hp hl
  have hk := getP_kind (l := L) (id := id)
  have q1 := co_none (L := L) (l := l) (h := h) (id := id)
  have q2 := co_bad (L := L) (l := l) (h := h) (id := id)
  have q3 := co_files (L := L) (l := l) (h := h) (id := id)
  refine X_spec (n := 47) (n0 := 4) tabOk Tryz.call23 Tryz.func23 ?_
  intro hb
  (conv => whnf)
  refine cl [] [] (get_spec L hL id) ?_
  (conv => whnf)
  refine decN (fun h1 => ?_) (fun h1 => ?_)
  · have h1 : ¬ kindOf L id = 3 := by rw [← hk]; exact h1
    obtain ⟨e1, e2, e3, e4⟩ := q1 h1
    rw [e1, e2, e3, e4]
    (conv => whnf)
    exact rx [] [.same 0, .same 1, .same 2, .same 3, .same 2, .same 3]
  have h1 : kindOf L id = 3 := by rw [← hk]; exact h1
  generalize treeW L l = T at *
  obtain ⟨t, c, M⟩ := T
  dsimp only at hto hC q2 q3
  (conv => whnf)
  refine cl [] [0, 1, 2, 3] (hC) ?_
  (conv => whnf)
  refine decN (fun h2 => ?_) (fun h2 => ?_)
  · obtain ⟨e1, e2, e3, e4⟩ := q2 h1 h2
    rw [e1, e2, e3, e4]
    (conv => whnf)
    exact rx [] [.same 0, .same 1, .same 2, .same 3, .same 5, .same 6]
  obtain ⟨e1, e2, e3, e4⟩ := q3 h1 h2
  rw [e1, e2, e3, e4]
  have hfn := filesP_len (L := M) (t := (getP L id).tree)
  have hF := flatFiles_spec M hto (getP L id).tree
  generalize filesP M (getP L id).tree = F at *
  obtain ⟨fs, c3⟩ := F
  dsimp only at hfn
  (conv => whnf)
  refine ⟨false, .grow, (.l [0, 1, 2, 3, 4, 5, 6, 7, 8, 9, 10, 11]), by kernel_rfl, .inl ?_⟩
  (conv => whnf)
  refine cl [] [] (hF) ?_
  (conv => whnf)
  refine decN (fun h3 => ?_) (fun h3 => ?_)
  · rw [if_pos h3, if_pos h3]
    (conv => whnf)
    exact rx [] [.same 0, .same 1, .same 2, .same 3, .same 5, .same 6]
  · rw [if_neg (fun h => h h3), if_neg (fun h => h h3)]
    have h3 : c3 = 0 := h3
    subst h3
    (conv => whnf)
    refine cl [] [0, 1, 5, 6] (lay_wspec M hto l h fs hfn) ?_
    (conv => whnf)
    exact rx [] [.same 0, .same 1, .same 2, .same 3, .same 8, .same 9]
set_option maxHeartbeats 1000000 in
theorem checkoutD_wspec (L : List Ob) (hL : PoolOk L) (l : List It) (h : Int) (hp : ∀ y ∈ l, y.path.length ≤ 4000000) (hl : l.length ≤ 60) (id : Int) (hh : HOk L h) : Does Tryz.prog 91 [.c (.ptr 0 0), .c (.int .i64 id)] [.box [.ptr 1 0, .rw 3, .int .i64 h], .box [.rw 2], .row 6 Ob encOb L, .row 5 It encIt l] (Rt (.c (.int .i64 (coC L l h id))) [.box [.ptr 1 0, .rw 5, .int .i64 (coH L l h id)], .box [.rw 4], .dead, .dead, .row 6 Ob encOb (coL L l id), .row 5 It encIt (coW L l h id)]) := by
  have hto := (treeW_ok (l := l) hL).1
  have hx := (treeW_ok (l := l) hL).2
  have hC := cleanD_wspec L hL l h hp hl hh
  have q1 := co_none (L := L) (l := l) (h := h) (id := id)
  have q2 := co_bad (L := L) (l := l) (h := h) (id := id)
  have q3 := co_files (L := L) (l := l) (h := h) (id := id)
  refine X_spec (n := 49) (n0 := 4) tabOk Tryz.call91 Tryz.func91 ?_
  intro hb
  (conv => whnf)
  refine cl [] [] (kindR_spec L id) ?_
  (conv => whnf)
  refine decN (fun h1 => ?_) (fun h1 => ?_)
  · have h1 : ¬ kindOf L id = 3 := h1
    obtain ⟨e1, e2, e3, e4⟩ := q1 h1
    rw [e1, e2, e3, e4]
    (conv => whnf)
    exact rx [] [.same 0, .same 1, .same 2, .same 3, .same 2, .same 3]
  have h1 : kindOf L id = 3 := h1
  generalize treeW L l = T at *
  obtain ⟨t, c, M⟩ := T
  dsimp only at hto hC q2 q3 hx
  (conv => whnf)
  refine cl [] [0, 1, 2, 3] (hC) ?_
  (conv => whnf)
  refine decN (fun h2 => ?_) (fun h2 => ?_)
  · obtain ⟨e1, e2, e3, e4⟩ := q2 h1 h2
    rw [e1, e2, e3, e4]
    (conv => whnf)
    exact rx [] [.same 0, .same 1, .same 2, .same 3, .same 4, .same 5]
  obtain ⟨e1, e2, e3, e4⟩ := q3 h1 h2
  rw [e1, e2, e3, e4]
  have hok : HOk M id := HOk.ext (.inr h1) hx
  obtain ⟨h4, h5⟩ := kindOf_pos (l := L) (id := id) (by omega)
  obtain ⟨hlt, g1, g2⟩ := hok.at h4
  have hg : getP L id = M[id.toNat] := by rw [← g2]; exact (ext_get hx (by omega)).symm
  rw [hg]
  have hfn := filesP_len (L := M) (t := M[id.toNat].tree)
  have hF := filesOf_spec M hto M[id.toNat].tree
  have hft : (filesP M M[id.toNat].tree).2 = 0 → TreeOf false M M[id.toNat].tree (filesP M M[id.toNat].tree).1 := fun hz => (files_told hto hz).1
  have hff := (files_fine hto M[id.toNat].tree).1.md
  generalize filesP M M[id.toNat].tree = F at *
  obtain ⟨fs, c3⟩ := F
  dsimp only at hfn hft hff
  (conv => whnf)
  refine ⟨false, .grow, (.l [0, 1, 2, 3, 4, 5, 6, 7, 8, 9, 10, 11, 12, 13, 14, 15, 16, 17, 18, 19, 20]), by kernel_rfl, .inl ?_⟩
  (conv => whnf)
  refine ⟨id.toNat, ⟨g1, hlt⟩, ?_⟩
  (conv => whnf)
  refine ⟨M[id.toNat], List.getElem?_eq_getElem hlt, ?_⟩
  (conv => whnf)
  refine cl [] [] (hF) ?_
  (conv => whnf)
  refine decN (fun h3 => ?_) (fun h3 => ?_)
  · rw [if_pos h3, if_pos h3]
    (conv => whnf)
    exact rx [] [.same 0, .same 1, .same 2, .same 3, .same 4, .same 5]
  · rw [if_neg (fun h => h h3), if_neg (fun h => h h3)]
    have h3 : c3 = 0 := h3
    subst h3
    have hv : ∀ f ∈ fs, ¬ f.mode = 3 → ¬ kindOf M f.id = 0 := fun f hf _ => by rw [(hft rfl).ids hto f hf]; exact hff f hf
    (conv => whnf)
    refine cl [] [0, 1, 4, 5] (layD_wspec M hto l h fs hfn hv) ?_
    (conv => whnf)
    exact rx [] [.same 0, .same 1, .same 2, .same 3, .same 7, .same 8]
end Go.Nest
end
/- PLAIN LAWS, K10: works, step by step. -/
section
namespace Go.Nest
open Go Go.AM
set_option linter.unusedVariables false
set_option linter.unusedSimpArgs false
/-- a step of a work -/
structure Ws where
  what : Int
  k : Int
  repo : Int
  path : List UInt8
  text : List UInt8
  bytes : List UInt8
  odd : Bool
def encWs (x : Ws) : List C := [.int .i64 x.what, .int .i64 x.k, .int .i64 x.repo, .str x.path, .str x.text, .ls 1 UInt8 bytesC x.bytes, .bool x.odd]
/-- where it stands: the pool, what lies there, the head, what was made -/
structure WS where
  L : List Ob
  l : List It
  h : Int
  made : List Int
structure WInv (s : WS) : Prop where
  pool : PoolOk s.L
  ok : WOk s.l
  bytes : ∀ x ∈ s.l, x.bytes.length ≤ 400
  head : HOk s.L s.h
theorem path_short {p : List UInt8} (h : (splitP p).2 = 0) : p.length ≤ 168 := by
  obtain ⟨h1, h2, _⟩ := split_zero h
  have h3 := unsp_bound (spl p) fun s hs => name_len (namesF_all h1 s hs)
  rw [unsp_spl] at h3
  omega
theorem WInv.paths {s : WS} (h : WInv s) : ∀ x ∈ s.l, x.path.length ≤ 4000000 := fun x hx => by
  have := path_short (h.ok.path x hx); omega
def kkW (s : WS) (x : Ws) : Int := if x.odd = true then x.k else oneP s.made x.k
def othW (s : WS) (x : Ws) : List Int := if x.odd = true then [oneP s.made x.k] else []
def stepW (s : WS) (x : Ws) : WS :=
  if x.what = 0 then ⟨s.L, (wrW s.l x.path x.bytes).2, s.h, s.made⟩ else
  if x.what = 1 then ⟨s.L, (remW s.l x.path).2, s.h, s.made⟩ else
  if x.what = 2 then ⟨s.L, (liW s.L s.l x.path x.repo (kkW s x)).2, s.h, s.made⟩ else
  if x.what = 3 then ⟨(commW s.L s.l s.h x.text (othW s x)).2.2, s.l, headW s.L s.l s.h x.text (othW s x), if (commW s.L s.l s.h x.text (othW s x)).2.1 = 0 then s.made ++ [(commW s.L s.l s.h x.text (othW s x)).1] else s.made⟩ else
  if x.what = 4 then ⟨coL s.L s.l (kkW s x), coW s.L s.l s.h (kkW s x), coH s.L s.l s.h (kkW s x), s.made⟩ else
  if x.what = 5 then ⟨(buildP s.L (filesP s.L (getP s.L (kkW s x)).tree).1).2.2, layW s.L s.l (filesP s.L (getP s.L (kkW s x)).tree).1, s.h, s.made⟩ else s
end Go.Nest
end
/- WALKS, K11: a step of two works. -/
section
namespace Go.Nest
open Go Go.AM Go.Proofs
open Go.Proofs.YtogallppofinhaaGreatDoor (tab tabOk)
set_option linter.unusedVariables false
set_option linter.unusedSimpArgs false
set_option maxRecDepth 4000
end Go.Nest
end
/- PLAIN LAWS, K12: what holds of works stays so. -/
section
namespace Go.Nest
open Go Go.AM
set_option linter.unusedVariables false
set_option linter.unusedSimpArgs false
theorem OkO.byt {L : List Ob} (hL : PoolOk L) (id : Int) : (getP L id).bytes.length ≤ 400 := by
  by_cases h : kindOf L id = 0
  · rw [hL.kind0 h]; exact Nat.zero_le _
  · exact (hL.get h).bytes
theorem put_ok {l : List It} (h : WOk l) (x : It) : WOk (putW l x).2 ∧ ∀ y ∈ (putW l x).2, y = x ∨ y ∈ l := by
  unfold putW
  split
  · exact ⟨h, fun y hy => .inr hy⟩
  rename_i h1
  split
  · exact ⟨h, fun y hy => .inr hy⟩
  rename_i h2
  have h1 : (splitP x.path).2 = 0 := Decidable.not_not.1 h1
  have hno : ∀ y ∈ l, (underP x.path y.path).2 = false ∧ (underP y.path x.path).2 = false := fun y hy => by
    have := List.any_eq_false.1 (Bool.not_eq_true _ ▸ h2) y hy
    unfold hitW at this
    simpa using this
  have hself : (underP x.path x.path).2 = false := by
    rw [underP_is]
    cases e : under x.path x.path with
    | none => rfl
    | some r => have := lessP_under e; rw [lessP_irrefl] at this; cases this
  have fin : ∀ {l' : List It}, Ris (·.path) l' → l'.length ≤ 60 → (∀ y ∈ l', y = x ∨ y ∈ l) → WOk l' ∧ ∀ y ∈ l', y = x ∨ y ∈ l := fun hr hl hm => by
    refine ⟨⟨hr, hl, fun y hy => ?_, fun a ha b hb => ?_⟩, hm⟩
    · rcases hm y hy with rfl | hy
      · exact h1
      · exact h.path y hy
    · rcases hm a ha with rfl | ha <;> rcases hm b hb with rfl | hb
      · exact hself
      · exact (hno b hb).1
      · exact (hno a ha).2
      · exact h.apart a ha b hb
  split
  · rename_i h3
    obtain ⟨y, hy, hyp⟩ := idxF_iff.1 h3
    obtain ⟨k, hk, e⟩ := List.mem_iff_getElem.1 hy
    subst e
    have hyp := atW_iff.1 hyp
    have hi := idx_ris h.ris hk
    rw [hyp] at hi
    rw [hi]
    refine fin ?_ (by rw [List.length_set]; exact h.len) fun y hy => (List.mem_or_eq_of_mem_set hy).symm.imp id id
    refine List.pairwise_iff_getElem.2 fun i j hi hj hij => ?_
    have key := List.pairwise_iff_getElem.1 h.ris i j (by simpa using hi) (by simpa using hj) hij
    simp only [Int.toNat_natCast]
    rw [List.getElem_set, List.getElem_set]
    split
    · rename_i e3; subst e3
      rw [if_neg (by omega)]
      simp only [hyp] at key; exact key
    · split
      · rename_i e3; subst e3
        simp only [hyp] at key; exact key
      · exact key
  · rename_i h3
    split
    · exact ⟨h, fun y hy => .inr hy⟩
    rename_i h4
    have hle := posW_le (l := l) (p := x.path)
    refine fin ?_ ?_ fun y hy => ?_
    · unfold Ris
      rw [take_pos, drop_pos, List.pairwise_append, List.pairwise_cons]
      have hd : ∀ y ∈ l.dropWhile (fun y => lessP y.path x.path), lessP x.path y.path = true := fun y hy => by
        have g1 := drop_ge h.ris y hy
        have hm : y ∈ l := (List.dropWhile_suffix _).subset hy
        rcases lessP_tri y.path x.path with g | g | g
        · rw [g1] at g; cases g
        · exact absurd (idxF_iff.2 ⟨y, hm, atW_iff.2 g⟩) h3
        · exact g
      refine ⟨h.ris.sublist (List.takeWhile_sublist _), ⟨hd, h.ris.sublist (List.dropWhile_sublist _)⟩, fun a ha b hb => ?_⟩
      have ha := (mem_takeWhile' ha).1
      rcases List.mem_cons.1 hb with rfl | hb
      · exact ha
      · exact lessP_trans ha (hd b hb)
    · have := h.len
      rw [List.length_append, List.length_cons, List.length_take, List.length_drop]; omega
    · rcases List.mem_append.1 hy with hy | hy
      · exact .inr (List.mem_of_mem_take hy)
      · rcases List.mem_cons.1 hy with rfl | hy
        · exact .inl rfl
        · exact .inr (List.mem_of_mem_drop hy)
theorem WOk.sub {l l' : List It} (h : WOk l) (hs : l'.Sublist l) : WOk l' :=
  ⟨h.ris.sublist hs, Nat.le_trans hs.length_le h.len, fun x hx => h.path x (hs.subset hx), fun x hx y hy => h.apart x (hs.subset hx) y (hs.subset hy)⟩
theorem rem_ok {l : List It} (h : WOk l) (p : List UInt8) : WOk (remW l p).2 ∧ ∀ y ∈ (remW l p).2, y ∈ l := by
  have hs : (remW l p).2.Sublist l := by
    unfold remW
    split
    · exact List.Sublist.refl _
    · conv => rhs; rw [← List.take_append_drop (idxF (atW p) l).toNat l]
      refine List.Sublist.append (List.Sublist.refl _) ?_
      exact List.drop_sublist_drop_left l (Nat.le_succ _)
  exact ⟨h.sub hs, fun y hy => hs.subset hy⟩
/-- files that may be, laid -/
theorem lay_ok {M N : List Ob} {fs : List Fi} (hN : PoolOk N) (h1 : fs.Pairwise Apt) (h2 : ∀ f ∈ fs, (splitP f.path).2 = 0) (h3 : fs.length ≤ 60) : WOk (fs.map (layF N)) ∧ ∀ x ∈ fs.map (layF N), x.bytes.length ≤ 400 := by
  have hp : ∀ f : Fi, (layF N f).path = f.path := fun f => by unfold layF; split <;> rfl
  refine ⟨⟨?_, by rw [List.length_map]; exact h3, fun x hx => ?_, fun x hx y hy => ?_⟩, fun x hx => ?_⟩
  · exact List.pairwise_map.2 (h1.imp fun h => by simp only [hp]; exact h.1)
  · obtain ⟨f, hf, rfl⟩ := List.mem_map.1 hx
    rw [hp]; exact h2 f hf
  · obtain ⟨f, hf, rfl⟩ := List.mem_map.1 hx
    obtain ⟨g, hg, rfl⟩ := List.mem_map.1 hy
    rw [hp, hp, underP_is]
    obtain ⟨i, hi, rfl⟩ := List.mem_iff_getElem.1 hf
    obtain ⟨j, hj, rfl⟩ := List.mem_iff_getElem.1 hg
    cases e : under fs[i].path fs[j].path with
    | none => rfl
    | some r =>
      exfalso
      rcases Nat.lt_trichotomy i j with hlt | rfl | hlt
      · have a1 := (List.pairwise_iff_getElem.1 h1 i j hi hj hlt).1
        rw [lessP_asymm (lessP_under e)] at a1; cases a1
      · have := lessP_under e; rw [lessP_irrefl] at this; cases this
      · rw [(List.pairwise_iff_getElem.1 h1 j i hj hi hlt).2] at e; cases e
  · obtain ⟨f, hf, rfl⟩ := List.mem_map.1 hx
    unfold layF
    split
    · exact Nat.zero_le _
    · exact OkO.byt hN _
theorem tree_lay {ne : Bool} {M N : List Ob} {fs : List Fi} {t : Int} (hM : PoolOk M) (hN : PoolOk N) (ht : TreeOf ne M t fs) (hs : ∀ f ∈ fs, (spl f.path).length ≤ 8) (hl : fs.length ≤ 60) : WOk (fs.map (layF N)) ∧ ∀ x ∈ fs.map (layF N), x.bytes.length ≤ 400 := by
  obtain ⟨q1, q2⟩ := tree_ok hM ht.1
  obtain ⟨a1, a2⟩ := ht.2.apt hM q1 q2
  exact lay_ok (M := M) hN a1 (fun f hf => split_of (a2 f hf).1 (hs f hf)) hl
theorem comm_head {L : List Ob} (hL : PoolOk L) {l : List It} {h : Int} (hh : HOk L h) (text : List UInt8) (others : List Int) : HOk (commW L l h text others).2.2 (headW L l h text others) := by
  have hx := (commW_ok (l := l) (h := h) (text := text) (others := others) hL).2
  unfold headW
  split
  · rename_i hc
    right
    unfold commW at hc ⊢
    split at hc
    · rename_i h1; exact absurd hc h1
    rename_i h1
    rw [if_neg h1]
    split at hc
    · cases hc
    rename_i h2
    rw [if_neg h2]
    split at hc
    · rename_i h3; exact absurd hc h3
    rename_i h3
    rw [if_neg h3]
    have := (put_get (Decidable.not_not.1 h3)).2
    rw [← getP_kind, this]; rfl
  · exact hh.ext hx
theorem step_inv {s : WS} (h : WInv s) (x : Ws) : WInv (stepW s x) ∧ (stepW s x).made.length ≤ s.made.length + 1 ∧ s.L <+: (stepW s x).L := by
  obtain ⟨L, l, hd, made⟩ := s
  obtain ⟨hL, hW, hbl, hh⟩ := h
  dsimp only at hL hW hbl hh
  unfold stepW
  dsimp only
  split
  · have hw : WOk (wrW l x.path x.bytes).2 ∧ ∀ y ∈ (wrW l x.path x.bytes).2, y.bytes.length ≤ 400 := by
      unfold wrW
      split
      · exact ⟨hW, hbl⟩
      · rename_i hb
        obtain ⟨a, b⟩ := put_ok hW ⟨x.path, x.bytes, false, 0, 0⟩
        refine ⟨a, fun y hy => ?_⟩
        rcases b y hy with rfl | hy
        · show x.bytes.length ≤ 400; omega
        · exact hbl y hy
    exact ⟨⟨hL, hw.1, hw.2, hh⟩, Nat.le_succ _, List.prefix_refl _⟩
  split
  · obtain ⟨a, b⟩ := rem_ok hW x.path
    exact ⟨⟨hL, a, fun y hy => hbl y (b y hy), hh⟩, Nat.le_succ _, List.prefix_refl _⟩
  split
  · generalize kkW ⟨L, l, hd, made⟩ x = kk
    have hw : WOk (liW L l x.path x.repo kk).2 ∧ ∀ y ∈ (liW L l x.path x.repo kk).2, y.bytes.length ≤ 400 := by
      unfold liW
      split
      · exact ⟨hW, hbl⟩
      split
      · exact ⟨hW, hbl⟩
      · obtain ⟨a, b⟩ := put_ok hW ⟨x.path, [], true, kk, x.repo⟩
        refine ⟨a, fun y hy => ?_⟩
        rcases b y hy with rfl | hy
        · exact Nat.zero_le _
        · exact hbl y hy
    exact ⟨⟨hL, hw.1, hw.2, hh⟩, Nat.le_succ _, List.prefix_refl _⟩
  split
  · generalize othW ⟨L, l, hd, made⟩ x = oth
    obtain ⟨a, b⟩ := commW_ok (l := l) (h := hd) (text := x.text) (others := oth) hL
    refine ⟨⟨a, hW, hbl, comm_head hL hh _ _⟩, ?_, b⟩
    dsimp only
    split
    · simp
    · omega
  split
  · generalize kkW ⟨L, l, hd, made⟩ x = kk
    obtain ⟨a, b⟩ := coL_ok (l := l) (id := kk) hL
    by_cases hc : coC L l hd kk = 0
    · have hk : kindOf L kk = 3 := by
        by_cases hk : kindOf L kk = 3
        · exact hk
        · rw [(co_none (h := hd) (l := l) hk).1] at hc; cases hc
      have hcl : cleanW L l hd = 0 := by
        by_cases hcl : cleanW L l hd = 0
        · exact hcl
        · rw [(co_bad (h := hd) (l := l) hk hcl).1] at hc; exact absurd hc hcl
      obtain ⟨e1, e2, e3, e4⟩ := co_files (h := hd) (l := l) hk hcl
      have hz : (filesP (treeW L l).2.2 (getP L kk).tree).2 = 0 := e1 ▸ hc
      rw [if_neg (fun h => h hz)] at e3 e4
      rw [e2] at a b
      obtain ⟨f1, f2, f3⟩ := files_told a hz
      obtain ⟨g1, g2⟩ := tree_lay a a f1 f3 f2
      rw [e2, e3, e4]
      exact ⟨⟨a, g1, g2, HOk.ext (.inr hk) b⟩, Nat.le_succ _, b⟩
    · rw [show coW L l hd kk = l from if_pos hc, show coH L l hd kk = hd from if_pos hc]
      exact ⟨⟨a, hW, hbl, hh.ext b⟩, Nat.le_succ _, b⟩
  split
  · generalize kkW ⟨L, l, hd, made⟩ x = kk
    generalize (filesP L (getP L kk).tree).1 = fs
    obtain ⟨a, b⟩ := buildP_ok hL fs
    by_cases hc : (buildP L fs).2.1 = 0
    · obtain ⟨b1, b2⟩ := buildP_tree hL hc
      obtain ⟨g1, g2⟩ := tree_lay a a b2 (fun f hf => (split_zero ((filesF_all b1).2 f hf).1).2.1) (filesF_all b1).1
      rw [show layW L l fs = fs.map (layF (buildP L fs).2.2) from if_neg (fun h => h hc)]
      exact ⟨⟨a, g1, g2, hh.ext b⟩, Nat.le_succ _, b⟩
    · rw [show layW L l fs = l from if_pos hc]
      exact ⟨⟨a, hW, hbl, hh.ext b⟩, Nat.le_succ _, b⟩
  · exact ⟨⟨hL, hW, hbl, hh⟩, Nat.le_succ _, List.prefix_refl _⟩
end Go.Nest
end
/- WALKS, K13: of the law of works: great steps, a pair, documents that are the same. -/
section
namespace Go.Nest
open Go Go.AM Go.Proofs
open Go.Proofs.YtogallppofinhaaGreatDoor (tab tabOk)
set_option linter.unusedVariables false
set_option linter.unusedSimpArgs false
set_option maxRecDepth 4000
def ws0 : WS := ⟨[], [], -1, []⟩
theorem ws0_inv : WInv ws0 := ⟨.nil, WOk.nil, fun x h => (by cases h), .inl (by decide)⟩
theorem newWork_spec (L : List Ob) : Does Tryz.prog 81 [.c (.ptr 0 0)] [.box [.rw 1], .row 6 Ob encOb L] (Rt (.c (.ptr 2 0)) [.box [.rw 1], .row 6 Ob encOb L, .box [.ptr 0 0, .rw 3, .int .i64 (-1)], .row 5 It encIt []]) := by
  refine X_spec (n := 6) (n0 := 2) tabOk Tryz.call81 Tryz.func81 ?_
  intro hb
  (conv => whnf)
  exact rx [] [.same 0, .same 1, .same 2, .new]
theorem newPair_spec : Does Tryz.prog 17 [] [] (Rt (.c (.ptr 0 0)) [.box [.ptr 2 0, .ptr 1 0, .ptr 5 0, .rw 9], .box [.ptr 2 0, .rw 4, .int .i64 ws0.h], .box [.rw 3], .row 6 Ob encOb ws0.L, .row 5 It encIt ws0.l, .box [.ptr 6 0, .rw 8, .int .i64 ws0.h], .box [.rw 7], .row 6 Ob encOb ws0.L, .row 5 It encIt ws0.l, .row 1 Int encI ws0.made]) := by
  refine X_spec (n := 12) (n0 := 0) tabOk Tryz.call17 Tryz.func17 ?_
  intro hb
  (conv => whnf)
  refine cl [] [] (new_spec) ?_
  (conv => whnf)
  refine cl [] [0, 1] (newWork_spec []) ?_
  (conv => whnf)
  exact rx [] [.same 6, .same 2, .same 0, .same 1, .same 3, .same 5, .same 4, .new, .new, .new]
def sumW (l : List Ws) : Nat := (l.map fun x => x.path.length + x.bytes.length + x.text.length).sum
theorem sumW_take {l : List Ws} {i : Nat} (h : i < l.length) : sumW (l.take (i + 1)) = sumW (l.take i) + (l[i].path.length + l[i].bytes.length + l[i].text.length) := by
  unfold sumW
  rw [List.take_succ_eq_append_getElem h, List.map_append, List.sum_append]; simp
theorem sumW_le {l : List Ws} {n : Nat} (h : ∀ x ∈ l, x.path.length + x.bytes.length + x.text.length ≤ n) : sumW l ≤ l.length * n := by
  induction l with
  | nil => simp [sumW]
  | cons x l ih =>
    have h1 := h x (by simp)
    have h2 := ih fun y hy => h y (by simp [hy])
    have : sumW (x :: l) = x.path.length + x.bytes.length + x.text.length + sumW l := by simp [sumW]
    rw [this, List.length_cons, Nat.add_mul]; omega
theorem sumW_mem {l : List Ws} {x : Ws} (h : x ∈ l) : x.path.length + x.bytes.length + x.text.length ≤ sumW l := by
  induction l with
  | nil => cases h
  | cons y l ih =>
    have : sumW (y :: l) = y.path.length + y.bytes.length + y.text.length + sumW l := by simp [sumW]
    rcases List.mem_cons.1 h with rfl | h
    · omega
    · have := ih h; omega
def greatW (l : List Ws) : Bool := decide (50 < l.length) || decide (8000 < sumW (l.take 100))
theorem greatW_ok {l : List Ws} (h : greatW l = false) : l.length ≤ 50 ∧ ∀ x ∈ l, x.path.length ≤ 8000 := by
  unfold greatW at h
  rw [Bool.or_eq_false_iff, decide_eq_false_iff_not, decide_eq_false_iff_not] at h
  refine ⟨by omega, fun x hx => ?_⟩
  rw [List.take_of_length_le (by omega)] at h
  have := sumW_mem hx; omega
def WsFit (l : List Ws) : Prop := ∀ x ∈ l, x.path.length ≤ 140737488351232 ∧ x.bytes.length ≤ 140737488351232 ∧ x.text.length ≤ 140737488351232
theorem sumW_fit {l : List Ws} {i n m k : Nat} (h : ∀ x ∈ l, x.path.length + x.bytes.length + x.text.length ≤ n) (hi : i ≤ m) (hk : m * n = k) : sumW (l.take i) ≤ k := by
  have h1 := sumW_le (l := l.take i) (n := n) fun x hx => h x (List.mem_of_mem_take hx)
  rw [List.length_take] at h1
  have h2 : min i l.length * n ≤ m * n := Nat.mul_le_mul_right _ (by omega)
  omega
theorem sumW_bnd {l : List Ws} {i : Nat} (hl : WsFit l) (hi : i ≤ 100) : sumW (l.take i) ≤ 42221246505369600 :=
  sumW_fit (n := 422212465053696) (m := 100) (fun x hx => by obtain ⟨a, b, c⟩ := hl x hx; omega) hi (by decide)
theorem greatWork_spec (l : List Ws) (hl : WsFit l) : Does Tryz.prog 16 [.c (.bs 7 Ws encWs l)] [] (Rt (.c (.bool (greatW l))) []) := by
  refine X_spec (n := 44) (n0 := 0) tabOk Tryz.call16 Tryz.func16 ?_
  intro hb; have hb : l.length ≤ 9223372036854775807 := hb.1.1
  (conv => whnf)
  refine lp Nat (fun i => ⟨[(0, .c (.bs 7 Ws encWs l)), (3, .c (.int .i64 (sumW (l.take i)))), (4, .c (.int .i64 i))], []⟩) (fun i => (i ≤ l.length ∧ i ≤ 100) ∧ True) (fun i => l.length - i) 0 [] [] ?_ ?_ (fun i hi => ?_)
  · simp
  · repeat' first | exact trivial | exact rfl | refine And.intro ?_ ?_
  have hsm : sumW (l.take i) ≤ 42221246505369600 := sumW_bnd hl (by omega)
  have fin : ¬ (i < l.length ∧ i < 100) → l.take 100 = l.take i := fun h => by
    by_cases h1 : i = 100
    · rw [h1]
    · rw [List.take_of_length_le (by omega), List.take_of_length_le (by omega)]
  (conv => whnf)
  refine dec (fun h4 => ?_) (fun h4 => ?_)
  · (conv => whnf)
    refine dec (fun h5 => ?_) (fun h5 => ?_)
    · have hlt : i < l.length := by omega
      have hst := sumW_take hlt
      have hiy : l[i]? = some l[i] := List.getElem?_eq_getElem hlt
      obtain ⟨b1, b2, b3⟩ := hl _ (List.getElem_mem hlt)
      generalize l[i] = x at *
      (conv => whnf)
      refine ⟨false, .grow, (.l [0, 1, 2, 3, 4, 5, 6, 7, 8, 9, 10, 11, 12, 13, 14, 15, 16, 17, 18, 19, 20, 21, 22]), by kernel_rfl, .inl ?_⟩
      (conv => whnf)
      refine ⟨i, x, rfl, hiy, ?_⟩
      (conv => whnf)
      refine ⟨i, x, rfl, hiy, ?_⟩
      (conv => whnf)
      refine ⟨i64 (by omega) (by omega), ?_⟩
      (conv => whnf)
      refine ⟨i, x, rfl, hiy, ?_⟩
      repeat' ((conv => whnf); first | (refine dec (fun h => ?_) (fun h => ?_) <;> try contradiction) | (refine decN (fun h => ?_) (fun h => ?_) <;> try contradiction) | refine booN (fun h => ?_) (fun h => ?_) | refine boo (fun h => ?_) (fun h => ?_) | refine ⟨i64 (by omega) (by omega), ?_⟩ | refine ⟨_, _, rfl, List.getElem?_eq_getElem (by omega), ?_⟩ | refine ⟨_, ⟨rfl, by omega⟩, ?_⟩ | refine ⟨_, List.getElem?_eq_getElem (by omega), ?_⟩ | refine rtB ?_ | refine rtI ?_ | refine rtC ?_ rfl | fail)
      refine ag (i + 1) [] [] ⟨⟨hlt, by omega⟩, trivial⟩ (by simp only []; omega) ?_
      rw [hst]
      repeat' first | exact trivial | exact rfl | refine And.intro ?_ ?_
    · unfold greatW
      rw [fin (by omega)]
      (conv => whnf)
      refine dec (fun h6 => ?_) (fun h6 => ?_)
      · (conv => whnf)
        exact rtB (by rw [show decide (50 < l.length) = true from decide_eq_true (by omega)]; rfl)
      · (conv => whnf)
        exact rtB (by rw [show decide (50 < l.length) = false from decide_eq_false (by omega), Bool.false_or, decide_eq_decide]; omega)
  · unfold greatW
    rw [fin (by omega)]
    (conv => whnf)
    refine dec (fun h6 => ?_) (fun h6 => ?_)
    · (conv => whnf)
      exact rtB (by rw [show decide (50 < l.length) = true from decide_eq_true (by omega)]; rfl)
    · (conv => whnf)
      exact rtB (by rw [show decide (50 < l.length) = false from decide_eq_false (by omega), Bool.false_or, decide_eq_decide]; omega)
theorem sameDocs_spec (a : List Dc) : Does Tryz.prog 22 [.c (.bs 2 Dc encDc a), .c (.bs 2 Dc encDc a)] [] (Rt (.c (.bool true)) []) := by
  refine X_spec (n := 42) (n0 := 0) tabOk Tryz.call22 Tryz.func22 ?_
  intro hb; have hb : a.length ≤ 9223372036854775807 := hb.1.1
  (conv => whnf)
  refine decN (fun h => absurd rfl h) (fun _ => ?_)
  (conv => whnf)
  refine lp Nat (fun i => ⟨[(0, .c (.bs 2 Dc encDc a)), (1, .c (.bs 2 Dc encDc a)), (5, .c (.int .i64 i))], []⟩) (fun i => i ≤ a.length ∧ True) (fun i => a.length - i) 0 [] [] ?_ ?_ (fun i hi => ?_)
  · simp
  · repeat' first | exact trivial | exact rfl | refine And.intro ?_ ?_
  (conv => whnf)
  refine dec (fun h4 => ?_) (fun h4 => ?_)
  · have hlt : i < a.length := by omega
    have hiy : a[i]? = some a[i] := List.getElem?_eq_getElem hlt
    have p1 := sameBytes_spec a[i].bytes a[i].bytes
    rw [show decide (a[i].bytes = a[i].bytes) = true from decide_eq_true rfl] at p1
    (conv => whnf)
    refine ⟨false, .grow, (.l [0, 1, 2, 3, 4, 5, 6, 7, 8, 9, 10, 11, 12, 13, 14, 15, 16, 17, 18, 19, 20, 21, 22, 23, 24]), by kernel_rfl, .inl ?_⟩
    (conv => whnf)
    refine ⟨i, a[i], rfl, hiy, ?_⟩
    (conv => whnf)
    refine ⟨i, a[i], rfl, hiy, ?_⟩
    (conv => whnf)
    refine decN (fun h => absurd rfl h) (fun _ => ?_)
    (conv => whnf)
    refine ⟨i, a[i], rfl, hiy, ?_⟩
    (conv => whnf)
    refine ⟨i, a[i], rfl, hiy, ?_⟩
    (conv => whnf)
    refine cl [] [] (p1) ?_
    repeat' ((conv => whnf); first | (refine dec (fun h => ?_) (fun h => ?_) <;> try contradiction) | (refine decN (fun h => ?_) (fun h => ?_) <;> try contradiction) | refine booN (fun h => ?_) (fun h => ?_) | refine boo (fun h => ?_) (fun h => ?_) | refine ⟨i64 (by omega) (by omega), ?_⟩ | refine ⟨_, _, rfl, List.getElem?_eq_getElem (by omega), ?_⟩ | refine ⟨_, ⟨rfl, by omega⟩, ?_⟩ | refine ⟨_, List.getElem?_eq_getElem (by omega), ?_⟩ | refine rtB ?_ | refine rtI ?_ | refine rtC ?_ rfl | fail)
    refine ag (i + 1) [] [] ⟨hlt, trivial⟩ (by simp only []; omega) ?_
    repeat' first | exact trivial | exact rfl | refine And.intro ?_ ?_
  · repeat' ((conv => whnf); first | (refine dec (fun h => ?_) (fun h => ?_) <;> try contradiction) | (refine decN (fun h => ?_) (fun h => ?_) <;> try contradiction) | refine booN (fun h => ?_) (fun h => ?_) | refine boo (fun h => ?_) (fun h => ?_) | refine ⟨i64 (by omega) (by omega), ?_⟩ | refine ⟨_, _, rfl, List.getElem?_eq_getElem (by omega), ?_⟩ | refine ⟨_, ⟨rfl, by omega⟩, ?_⟩ | refine ⟨_, List.getElem?_eq_getElem (by omega), ?_⟩ | refine rtB ?_ | refine rtI ?_ | refine rtC ?_ rfl | fail)
    rfl
end Go.Nest
end
/- WALKS, K14: of the law of works: they begin. -/
section
namespace Go.Nest
open Go Go.AM Go.Proofs
open Go.Proofs.YtogallppofinhaaGreatDoor (tab tabOk)
set_option linter.unusedVariables false
set_option linter.unusedSimpArgs false
set_option maxRecDepth 4000
def wl1 : List It := [⟨[97, 47, 98], [120], false, 0, 0⟩]
def wbA : List Ob := (commW [] wl1 (-1) [111, 110, 101] []).2.2
def wbI : Int := (commW [] wl1 (-1) [111, 110, 101] []).1
theorem wb1 : wrW [] [97, 47, 98] [120] = (0, wl1) := by rfl
theorem wb2 : (commW [] wl1 (-1) [111, 110, 101] []).2.1 = 0 ∧ headW [] wl1 (-1) [111, 110, 101] [] = wbI := by decide +kernel
theorem wb3 : wrW wl1 [97] [] = (10, wl1) := by rfl
theorem wb4 : remW wl1 [97, 47, 98] = (0, []) := by rfl
theorem wb5 : coC wbA [] wbI wbI = 13 ∧ coW wbA [] wbI wbI = [] ∧ coH wbA [] wbI wbI = wbI ∧ coL wbA [] wbI = (treeW wbA []).2.2 := by decide +kernel
theorem workBegun_spec : Does Tryz.prog 15 [] [] (Rt (.c (.bool true)) []) := by
  have o1 : WOk wl1 := (put_ok WOk.nil ⟨[97, 47, 98], [120], false, 0, 0⟩).1
  have b1 : ∀ y ∈ wl1, y.path.length ≤ 4000000 := fun y hy => by rw [wl1, List.mem_singleton] at hy; subst hy; decide
  have p1 := write_wspec [] [] (-1) [97, 47, 98] [120] (by decide) (fun y h => by cases h) (by decide)
  have p2 := commit_wspec [] .nil wl1 (-1) b1 (by decide) [111, 110, 101] [] (by decide) (.inl (by decide))
  have hA := (commW_ok (l := wl1) (h := -1) (text := [111, 110, 101]) (others := []) PoolOk.nil).1
  have hh := comm_head PoolOk.nil (l := wl1) (h := -1) (.inl (by decide)) [111, 110, 101] []
  rw [wb1] at p1
  rw [wb2.1, wb2.2] at p2
  rw [wb2.2] at hh
  rw [show (commW [] wl1 (-1) [111, 110, 101] []).1 = wbI from rfl] at p2
  rw [show (commW [] wl1 (-1) [111, 110, 101] []).2.2 = wbA from rfl] at p2 hA hh
  have p3 := write_wspec wbA wl1 wbI [97] [] (by decide) b1 (by decide)
  rw [wb3] at p3
  have p4 := remove_wspec wbA wl1 wbI [97, 47, 98] (by decide)
  rw [wb4] at p4
  have p5 := checkout_wspec wbA hA [] wbI (fun y h => by cases h) (by decide) wbI
  rw [wb5.1, wb5.2.1, wb5.2.2.1, wb5.2.2.2] at p5
  refine X_spec (n := 64) (n0 := 0) tabOk Tryz.call15 Tryz.func15 ?_
  intro hb
  (conv => whnf)
  refine cl [] [] (new_spec) ?_
  (conv => whnf)
  refine cl [] [0, 1] (newWork_spec []) ?_
  (conv => whnf)
  refine ⟨[120], rfl, ?_⟩
  (conv => whnf)
  refine cl [] [2, 0, 1, 3] (p1) ?_
  (conv => whnf)
  refine cl [] [2, 0, 5, 6] (p2) ?_
  (conv => whnf)
  refine cl [] [2, 0, 7, 8] (p3) ?_
  (conv => whnf)
  refine cl [] [2, 0, 9, 10] (p4) ?_
  (conv => whnf)
  refine cl [] [2, 0, 11, 12] (p5) ?_
  (conv => whnf)
  refine cl [] [] (head_wspec (treeW wbA []).2.2 [] wbI) ?_
  (conv => whnf)
  refine cl [] [] (docs_wspec (treeW wbA []).2.2 [] wbI (by decide) (fun x h => by cases h)) ?_
  (conv => whnf)
  exact rtB (by rw [decide_eq_true_iff]; rfl)
end Go.Nest
end
