/- WALKS, F8: what each law of the flat files begins with. -/
import Derived.Test.YtkoiljgjipmhbaaDoorF7
import Derived.Test.YtkoiljgjipmhbaaDoorG12
section
namespace Go.Nest
open Go Go.AM Go.Proofs
open Go.Proofs.YtkoiljgjipmhbaaDoor (tab tabOk)
set_option linter.unusedVariables false
set_option linter.unusedSimpArgs false
set_option maxRecDepth 4000

def fA : Ob := ⟨1, [], [], 0, [], []⟩
def fB : Ob := ⟨2, [], [⟨[98], 1, 0, 0⟩], 0, [], []⟩
def fC : Ob := ⟨2, [], [⟨[97], 2, 1, 0⟩, ⟨[99], 1, 0, 0⟩], 0, [], []⟩
def fl1 : Fi := ⟨[97, 47, 98], 1, 0, 0⟩
def fl2 : Fi := ⟨[99], 1, 0, 0⟩
def fl3 : Fi := ⟨[97], 1, 0, 0⟩
theorem fb1 : putP [] fA = (0, 0, [fA]) := by decide +kernel
theorem fb2 : buildP [fA] [fl1, fl2] = (2, 0, [fA, fB, fC]) := by decide +kernel
theorem fb3 : filesP [fA, fB, fC] 2 = ([fl1, fl2], 0) := by decide +kernel
theorem fb4 : atF [fA, fB, fC] 2 [97] = (1, 0) := by decide +kernel
theorem fb5 : filesF [fl3, fl1] = 10 := by decide +kernel
theorem fb6 : diffP [fl1, fl2] [fl2] = [⟨[97, 47, 98], fl1, fi0⟩] := by
  rw [diffP, if_pos (by decide +kernel), diff_self]; rfl
theorem fok1 : PoolOk [fA] := by have := putP_ok .nil fA; rw [fb1] at this; exact this
theorem fok3 : PoolOk [fA, fB, fC] := by have := (buildP_ok fok1 [fl1, fl2]).1; rw [fb2] at this; exact this

set_option maxHeartbeats 2000000 in
theorem flatBegun_spec : Does Tryd.prog 6 [] [] (Rt (.c (.bool true)) []) := by
  have p1 := put_spec [] fA (by decide)
  have p2 := flatBuild_spec [fA] [fl1, fl2] fok1 (by decide)
  have p3 := flatFiles_spec [fA, fB, fC] fok3 2
  have p4 := at_spec [fA, fB, fC] fok3 2 [97] (by decide)
  have p5 := flatCheck_spec [fl3, fl1] (by decide)
  have p6 := diff_spec [fl1, fl2] [fl2] (by decide) (by decide) (by decide) (by decide)
  rw [fb1] at p1
  rw [fb2] at p2
  rw [fb3] at p3
  rw [fb4] at p4
  rw [fb5] at p5
  rw [fb6] at p6
  dsimp only at p1 p2 p3 p4 p5 p6
  refine X_spec ⟨Tryd.prog, tab, 72, 0⟩ tabOk (by kernel_rfl) Tryd.call6 Tryd.func6 rfl rfl (by kernel_rfl) rfl ?_
  intro hb
  (conv => whnf)
  refine cl [] [] (new_spec) (by (repeat' first | exact trivial | exact rfl | refine And.intro ?_ ?_); first | done | fail) (by first | exact trivial | exact rfl) ?_
  (conv => whnf)
  refine cl [] [0, 1] (p1) (by (repeat' first | exact trivial | exact rfl | refine And.intro ?_ ?_); first | done | fail) (by first | exact trivial | exact rfl) ?_
  (conv => whnf)
  refine ⟨[fl1, fl2], rfl, ?_⟩
  (conv => whnf)
  refine cl [3] [0, 2] (p2) (by (repeat' first | exact trivial | exact rfl | refine And.intro ?_ ?_); first | done | fail) (by first | exact trivial | exact rfl) ?_
  (conv => whnf)
  refine cl [] [] (p3) (by (repeat' first | exact trivial | exact rfl | refine And.intro ?_ ?_); first | done | fail) (by first | exact trivial | exact rfl) ?_
  (conv => whnf)
  refine cl [] [] (p4) (by (repeat' first | exact trivial | exact rfl | refine And.intro ?_ ?_); first | done | fail) (by first | exact trivial | exact rfl) ?_
  (conv => whnf)
  refine cl [] [] (sameFiles_spec [fl1, fl2] [fl1, fl2]) (by (repeat' first | exact trivial | exact rfl | refine And.intro ?_ ?_); first | done | fail) (by first | exact trivial | exact rfl) ?_
  rw [show decide ([fl1, fl2] = [fl1, fl2]) = true from decide_eq_true rfl]
  (conv => whnf)
  refine ⟨1, 2, rfl, rfl, by decide, ?_⟩
  (conv => whnf)
  refine cl [] [] (p6) (by (repeat' first | exact trivial | exact rfl | refine And.intro ?_ ?_); first | done | fail) (by first | exact trivial | exact rfl) ?_
  (conv => whnf)
  refine ⟨[fl3, fl1], rfl, ?_⟩
  (conv => whnf)
  refine cl [] [] (p5) (by (repeat' first | exact trivial | exact rfl | refine And.intro ?_ ?_); first | done | fail) (by first | exact trivial | exact rfl) ?_
  (conv => whnf)
  exact rtB rfl
end Go.Nest
end
/- WALKS, F9: FlatDiffs. -/
section
namespace Go.Nest
open Go Go.AM Go.Proofs
open Go.Proofs.YtkoiljgjipmhbaaDoor (tab tabOk)
set_option linter.unusedVariables false
set_option linter.unusedSimpArgs false
set_option maxRecDepth 4000

theorem any_succ {α : Type} {p : α → Bool} {l : List α} {i : Nat} (h : i < l.length) : (l.take (i + 1)).any p = ((l.take i).any p || p l[i]) := by
  rw [List.take_succ_eq_append_getElem h, List.any_append]; simp
theorem filter_succ {α : Type} {p : α → Bool} {l : List α} {i : Nat} (h : i < l.length) : (l.take (i + 1)).filter p = (l.take i).filter p ++ if p l[i] = true then [l[i]] else [] := by
  rw [List.take_succ_eq_append_getElem h, List.filter_append, List.filter_cons]
  split <;> simp
theorem proper_files {l : List Fi} (h : Proper l) (hm : ∀ f ∈ l, f.mode ≠ 0) : Files l := ⟨proper_ris h, hm⟩
def hitB (D : List Ch) (f : Fi) : Bool := D.any fun c => decide (c.path = f.path)
theorem decide_any {p : Prop} (i : Decidable p) : @decide p (Classical.propDecidable p) = @decide p i := by
  by_cases h : p <;> simp [h]

set_option maxHeartbeats 4000000 in
theorem flatDiffs_spec (a b : List Fi) (ha : ∀ f ∈ a, f.path.length ≤ 140737488351232) (hb' : ∀ f ∈ b, f.path.length ≤ 140737488351232) : Does Tryd.prog 3 [.c (.ls 4 Fi encFi a), .c (.ls 4 Fi encFi b)] [] (Rt (.c (.bool true)) []) := by
  refine X_spec ⟨Tryd.prog, tab, 131, 0⟩ tabOk (by kernel_rfl) Tryd.call3 Tryd.func3 rfl rfl (by kernel_rfl) rfl ?_
  intro hb
  (conv => whnf)
  refine cl [] [] (flatBegun_spec) (by (repeat' first | exact trivial | exact rfl | refine And.intro ?_ ?_); first | done | fail) (by first | exact trivial | exact rfl) ?_
  (conv => whnf)
  refine cl [] [] (greatFiles_spec a ha) (by (repeat' first | exact trivial | exact rfl | refine And.intro ?_ ?_); first | done | fail) (by first | exact trivial | exact rfl) ?_
  (conv => whnf)
  refine boo (fun ga => ?_) (fun ga => ?_)
  · (conv => whnf)
    exact rtC rfl rfl
  (conv => whnf)
  refine cl [] [] (greatFiles_spec b hb') (by (repeat' first | exact trivial | exact rfl | refine And.intro ?_ ?_); first | done | fail) (by first | exact trivial | exact rfl) ?_
  (conv => whnf)
  refine boo (fun gb => ?_) (fun gb => ?_)
  · (conv => whnf)
    exact rtC rfl rfl
  obtain ⟨la, _, pa⟩ := greatF_ok ga
  obtain ⟨lb, _, pb⟩ := greatF_ok gb
  have pa4 : ∀ f ∈ a, f.path.length ≤ 4000000 := fun f h => by have := pa f h; omega
  have pb4 : ∀ f ∈ b, f.path.length ≤ 4000000 := fun f h => by have := pb f h; omega
  (conv => whnf)
  refine cl [] [] (proper_spec a pa4) (by (repeat' first | exact trivial | exact rfl | refine And.intro ?_ ?_); first | done | fail) (by first | exact trivial | exact rfl) ?_
  (conv => whnf)
  refine booN (fun qa => ?_) (fun qa => ?_)
  · (conv => whnf)
    exact rtC rfl rfl
  have qa : Proper a := by simpa using qa
  (conv => whnf)
  refine cl [] [] (proper_spec b pb4) (by (repeat' first | exact trivial | exact rfl | refine And.intro ?_ ?_); first | done | fail) (by first | exact trivial | exact rfl) ?_
  (conv => whnf)
  refine booN (fun qb => ?_) (fun qb => ?_)
  · (conv => whnf)
    exact rtC rfl rfl
  have qb : Proper b := by simpa using qb
  (conv => whnf)
  refine lp Nat (fun i => ⟨[(0, .c (.ls 4 Fi encFi a)), (1, .c (.ls 4 Fi encFi b)), (5, .c (.int .i64 i))], []⟩) (fun i => i ≤ a.length ∧ ∀ f ∈ a.take i, f.mode ≠ 0) (fun i => a.length - i) 0 [] [] ?_ ?_ (fun i hi => ?_)
  · simp
  · repeat' first | exact trivial | exact rfl | refine And.intro ?_ ?_
  (conv => whnf)
  refine dec (fun h4 => ?_) (fun h4 => ?_)
  · have hlt : i < a.length := by omega
    repeat' ((conv => whnf); first | (refine dec (fun h => ?_) (fun h => ?_) <;> try contradiction) | (refine decN (fun h => ?_) (fun h => ?_) <;> try contradiction) | refine booN (fun h => ?_) (fun h => ?_) | refine boo (fun h => ?_) (fun h => ?_) | refine ⟨i64 (by omega) (by omega), ?_⟩ | refine ⟨_, _, rfl, List.getElem?_eq_getElem (by omega), ?_⟩ | refine ⟨_, ⟨rfl, by omega⟩, ?_⟩ | refine ⟨_, List.getElem?_eq_getElem (by omega), ?_⟩ | refine rtB ?_ | refine rtI ?_ | refine rtC ?_ rfl | fail)
    · rfl
    · refine ag (i + 1) [] [] ⟨hlt, fun f hf => ?_⟩ (by simp only []; omega) ?_
      · rw [List.take_succ_eq_append_getElem hlt, List.mem_append, List.mem_singleton] at hf
        rcases hf with hf | rfl
        · exact hi.2 f hf
        · assumption
      · repeat' first | exact trivial | exact rfl | refine And.intro ?_ ?_
  have ma := hi.2
  rw [List.take_of_length_le (by omega)] at ma
  clear hi h4
  (conv => whnf)
  refine lp Nat (fun i => ⟨[(0, .c (.ls 4 Fi encFi a)), (1, .c (.ls 4 Fi encFi b)), (6, .c (.int .i64 i))], []⟩) (fun i => i ≤ b.length ∧ ∀ f ∈ b.take i, f.mode ≠ 0) (fun i => b.length - i) 0 [] [] ?_ ?_ (fun i hi => ?_)
  · simp
  · repeat' first | exact trivial | exact rfl | refine And.intro ?_ ?_
  (conv => whnf)
  refine dec (fun h4 => ?_) (fun h4 => ?_)
  · have hlt : i < b.length := by omega
    repeat' ((conv => whnf); first | (refine dec (fun h => ?_) (fun h => ?_) <;> try contradiction) | (refine decN (fun h => ?_) (fun h => ?_) <;> try contradiction) | refine booN (fun h => ?_) (fun h => ?_) | refine boo (fun h => ?_) (fun h => ?_) | refine ⟨i64 (by omega) (by omega), ?_⟩ | refine ⟨_, _, rfl, List.getElem?_eq_getElem (by omega), ?_⟩ | refine ⟨_, ⟨rfl, by omega⟩, ?_⟩ | refine ⟨_, List.getElem?_eq_getElem (by omega), ?_⟩ | refine rtB ?_ | refine rtI ?_ | refine rtC ?_ rfl | fail)
    · rfl
    · refine ag (i + 1) [] [] ⟨hlt, fun f hf => ?_⟩ (by simp only []; omega) ?_
      · rw [List.take_succ_eq_append_getElem hlt, List.mem_append, List.mem_singleton] at hf
        rcases hf with hf | rfl
        · exact hi.2 f hf
        · assumption
      · repeat' first | exact trivial | exact rfl | refine And.intro ?_ ?_
  have mb := hi.2
  rw [List.take_of_length_le (by omega)] at mb
  clear hi h4
  have fa := proper_files qa ma
  have fb := proper_files qb mb
  have hD := diffP_len a b
  have hdone := done_ok fa fb
  (conv => whnf)
  refine cl [] [] (diff_spec a b la lb pa4 pb4) (by (repeat' first | exact trivial | exact rfl | refine And.intro ?_ ?_); first | done | fail) (by first | exact trivial | exact rfl) ?_
  (conv => whnf)
  refine cl [] [] (changesOf_spec a b la lb pa4 pb4) (by (repeat' first | exact trivial | exact rfl | refine And.intro ?_ ?_); first | done | fail) (by first | exact trivial | exact rfl) ?_
  (conv => whnf)
  refine cl [] [] (sameChanges_spec (diffP a b) (changesP a b)) (by (repeat' first | exact trivial | exact rfl | refine And.intro ?_ ?_); first | done | fail) (by first | exact trivial | exact rfl) ?_
  rw [show decide (diffP a b = changesP a b) = true from decide_eq_true (diff_changes fa fb)]
  (conv => whnf)
  have hdp : doneP a b = a.filter (fun f => !hitB (diffP a b) f) ++ ((diffP a b).filter fun c => decide (c.new.mode ≠ 0)).map (·.new) := rfl
  generalize hDD : diffP a b = D at *
  refine lp Nat (fun i => ⟨[(0, .c (.ls 4 Fi encFi a)), (1, .c (.ls 4 Fi encFi b)), (7, .c (.rw 0)), (8, .c (.rw 1)), (9, .c (.int .i64 i))], [.row 9 Ch encCh D, .row 4 Fi encFi ((a.take i).filter fun f => !hitB D f)]⟩) (fun i => i ≤ a.length ∧ True) (fun i => a.length - i) 0 [] [.same 0, .new] ?_ ?_ (fun i hi => ?_)
  · simp
  · repeat' first | exact trivial | exact rfl | refine And.intro ?_ ?_
  (conv => whnf)
  refine dec (fun h4 => ?_) (fun h4 => ?_)
  · have hlt : i < a.length := by omega
    (conv => whnf)
    refine lp Nat (fun k => ⟨[(0, .c (.ls 4 Fi encFi a)), (1, .c (.ls 4 Fi encFi b)), (7, .c (.rw 0)), (8, .c (.rw 1)), (9, .c (.int .i64 i)), (10, .c (.bool (hitB (D.take k) a[i]))), (11, .c (.int .i64 k))], [.row 9 Ch encCh D, .row 4 Fi encFi ((a.take i).filter fun f => !hitB D f)]⟩) (fun k => k ≤ D.length ∧ True) (fun k => D.length - k) 0 [] [.same 0, .same 1] ?_ ?_ (fun k hk => ?_)
    · simp
    · repeat' first | exact trivial | exact rfl | refine And.intro ?_ ?_
    (conv => whnf)
    refine dec (fun h5 => ?_) (fun h5 => ?_)
    · have hkl : k < D.length := by omega
      (conv => whnf)
      refine ⟨false, (.l [0, 1, 2, 3, 4, 5, 6, 7, 8, 9, 10, 11, 12, 13, 14]), by kernel_rfl, .inl ?_⟩
      have hst : hitB (D.take (k + 1)) a[i] = (hitB (D.take k) a[i] || decide (D[k].path = a[i].path)) := any_succ hkl
      (conv => whnf)
      refine boo (fun h6 => ?_) (fun h6 => ?_)
      · rw [h6, Bool.true_or] at hst
        repeat' ((conv => whnf); first | (refine dec (fun h => ?_) (fun h => ?_) <;> try contradiction) | (refine decN (fun h => ?_) (fun h => ?_) <;> try contradiction) | refine booN (fun h => ?_) (fun h => ?_) | refine boo (fun h => ?_) (fun h => ?_) | refine ⟨i64 (by omega) (by omega), ?_⟩ | refine ⟨_, _, rfl, List.getElem?_eq_getElem (by omega), ?_⟩ | refine ⟨_, ⟨rfl, by omega⟩, ?_⟩ | refine ⟨_, List.getElem?_eq_getElem (by omega), ?_⟩ | refine rtB ?_ | refine rtI ?_ | refine rtC ?_ rfl | fail)
        refine ag (k + 1) [] [.same 0, .same 1] ⟨hkl, trivial⟩ (by simp only []; omega) ?_
        rw [hst]
        repeat' first | exact trivial | exact rfl | refine And.intro ?_ ?_
      · rw [h6, Bool.false_or] at hst
        (conv => whnf)
        refine ⟨k, ⟨rfl, hkl⟩, ?_⟩
        (conv => whnf)
        refine ⟨D[k], List.getElem?_eq_getElem hkl, ?_⟩
        (conv => whnf)
        refine ⟨i, a[i], rfl, List.getElem?_eq_getElem hlt, ?_⟩
        repeat' ((conv => whnf); first | (refine dec (fun h => ?_) (fun h => ?_) <;> try contradiction) | (refine decN (fun h => ?_) (fun h => ?_) <;> try contradiction) | refine booN (fun h => ?_) (fun h => ?_) | refine boo (fun h => ?_) (fun h => ?_) | refine ⟨i64 (by omega) (by omega), ?_⟩ | refine ⟨_, _, rfl, List.getElem?_eq_getElem (by omega), ?_⟩ | refine ⟨_, ⟨rfl, by omega⟩, ?_⟩ | refine ⟨_, List.getElem?_eq_getElem (by omega), ?_⟩ | refine rtB ?_ | refine rtI ?_ | refine rtC ?_ rfl | fail)
        refine ag (k + 1) [] [.same 0, .same 1] ⟨hkl, trivial⟩ (by simp only []; omega) ?_
        rw [hst]
        repeat' first | exact trivial | exact rfl | refine And.intro ?_ ?_
    · have hfs := filter_succ (p := fun f => !hitB D f) hlt
      rw [show D.take k = D from List.take_of_length_le (by omega)]
      have hfl : ((a.take i).filter fun f => !hitB D f).length ≤ 150 := Nat.le_trans (List.length_filter_le _ _) (by rw [List.length_take]; omega)
      (conv => whnf)
      refine booN (fun h6 => ?_) (fun h6 => ?_)
      · rw [if_pos (by simp [h6])] at hfs
        (conv => whnf)
        refine ⟨i, a[i], rfl, List.getElem?_eq_getElem hlt, ?_⟩
        (conv => whnf)
        refine ⟨[a[i]], rfl, ?_⟩
        (conv => whnf)
        refine ⟨_, _, rfl, rfl, (by simp only [List.length_append, List.length_cons, List.length_nil]; omega), ?_⟩
        repeat' ((conv => whnf); first | (refine dec (fun h => ?_) (fun h => ?_) <;> try contradiction) | (refine decN (fun h => ?_) (fun h => ?_) <;> try contradiction) | refine booN (fun h => ?_) (fun h => ?_) | refine boo (fun h => ?_) (fun h => ?_) | refine ⟨i64 (by omega) (by omega), ?_⟩ | refine ⟨_, _, rfl, List.getElem?_eq_getElem (by omega), ?_⟩ | refine ⟨_, ⟨rfl, by omega⟩, ?_⟩ | refine ⟨_, List.getElem?_eq_getElem (by omega), ?_⟩ | refine rtB ?_ | refine rtI ?_ | refine rtC ?_ rfl | fail)
        refine ag (i + 1) [] [.same 0, .same 3] ⟨hlt, trivial⟩ (by simp only []; omega) ?_
        rw [hfs]
        repeat' first | exact trivial | exact rfl | refine And.intro ?_ ?_
      · rw [if_neg (by simp [h6]), List.append_nil] at hfs
        repeat' ((conv => whnf); first | (refine dec (fun h => ?_) (fun h => ?_) <;> try contradiction) | (refine decN (fun h => ?_) (fun h => ?_) <;> try contradiction) | refine booN (fun h => ?_) (fun h => ?_) | refine boo (fun h => ?_) (fun h => ?_) | refine ⟨i64 (by omega) (by omega), ?_⟩ | refine ⟨_, _, rfl, List.getElem?_eq_getElem (by omega), ?_⟩ | refine ⟨_, ⟨rfl, by omega⟩, ?_⟩ | refine ⟨_, List.getElem?_eq_getElem (by omega), ?_⟩ | refine rtB ?_ | refine rtI ?_ | refine rtC ?_ rfl | fail)
        refine ag (i + 1) [] [.same 0, .same 1] ⟨hlt, trivial⟩ (by simp only []; omega) ?_
        rw [hfs]
        repeat' first | exact trivial | exact rfl | refine And.intro ?_ ?_
  · rw [show a.take i = a from List.take_of_length_le (by omega)]
    have hfl : (a.filter fun f => !hitB D f).length ≤ 150 := Nat.le_trans (List.length_filter_le _ _) la
    generalize (a.filter fun f => !hitB D f) = A at *
    (conv => whnf)
    refine lp Nat (fun k => ⟨[(0, .c (.ls 4 Fi encFi a)), (1, .c (.ls 4 Fi encFi b)), (7, .c (.rw 0)), (8, .c (.rw 1)), (12, .c (.int .i64 k))], [.row 9 Ch encCh D, .row 4 Fi encFi (A ++ ((D.take k).filter fun c => decide (c.new.mode ≠ 0)).map (·.new))]⟩) (fun k => k ≤ D.length ∧ True) (fun k => D.length - k) 0 [] [.same 0, .same 1] ?_ ?_ (fun k hk => ?_)
    · simp
    · have e : A ++ ((D.take 0).filter fun c => decide (c.new.mode ≠ 0)).map (·.new) = A := by simp
      rw [e]
      repeat' first | exact trivial | exact rfl | refine And.intro ?_ ?_
    have hml : (((D.take k).filter fun c => decide (c.new.mode ≠ 0)).map (·.new)).length ≤ 300 := by
      rw [List.length_map]
      exact Nat.le_trans (List.length_filter_le _ _) (by rw [List.length_take]; omega)
    (conv => whnf)
    refine dec (fun h5 => ?_) (fun h5 => ?_)
    · have hkl : k < D.length := by omega
      have hfs := filter_succ (p := fun c : Ch => decide (c.new.mode ≠ 0)) hkl
      (conv => whnf)
      refine ⟨k, ⟨rfl, hkl⟩, ?_⟩
      (conv => whnf)
      refine ⟨D[k], List.getElem?_eq_getElem hkl, ?_⟩
      (conv => whnf)
      refine decN (fun h6 => ?_) (fun h6 => ?_)
      · rw [if_pos (by simpa using h6)] at hfs
        (conv => whnf)
        refine ⟨k, ⟨rfl, hkl⟩, ?_⟩
        (conv => whnf)
        refine ⟨D[k], List.getElem?_eq_getElem hkl, ?_⟩
        (conv => whnf)
        refine ⟨[D[k].new], rfl, ?_⟩
        (conv => whnf)
        refine ⟨_, _, rfl, rfl, (by simp only [List.length_append, List.length_cons, List.length_nil] at hml ⊢; omega), ?_⟩
        repeat' ((conv => whnf); first | (refine dec (fun h => ?_) (fun h => ?_) <;> try contradiction) | (refine decN (fun h => ?_) (fun h => ?_) <;> try contradiction) | refine booN (fun h => ?_) (fun h => ?_) | refine boo (fun h => ?_) (fun h => ?_) | refine ⟨i64 (by omega) (by omega), ?_⟩ | refine ⟨_, _, rfl, List.getElem?_eq_getElem (by omega), ?_⟩ | refine ⟨_, ⟨rfl, by omega⟩, ?_⟩ | refine ⟨_, List.getElem?_eq_getElem (by omega), ?_⟩ | refine rtB ?_ | refine rtI ?_ | refine rtC ?_ rfl | fail)
        refine ag (k + 1) [] [.same 0, .same 3] ⟨hkl, trivial⟩ (by simp only []; omega) ?_
        rw [hfs, List.map_append, ← List.append_assoc]
        repeat' first | exact trivial | exact rfl | refine And.intro ?_ ?_
      · rw [if_neg (by simpa using h6), List.append_nil] at hfs
        repeat' ((conv => whnf); first | (refine dec (fun h => ?_) (fun h => ?_) <;> try contradiction) | (refine decN (fun h => ?_) (fun h => ?_) <;> try contradiction) | refine booN (fun h => ?_) (fun h => ?_) | refine boo (fun h => ?_) (fun h => ?_) | refine ⟨i64 (by omega) (by omega), ?_⟩ | refine ⟨_, _, rfl, List.getElem?_eq_getElem (by omega), ?_⟩ | refine ⟨_, ⟨rfl, by omega⟩, ?_⟩ | refine ⟨_, List.getElem?_eq_getElem (by omega), ?_⟩ | refine rtB ?_ | refine rtI ?_ | refine rtC ?_ rfl | fail)
        refine ag (k + 1) [] [.same 0, .same 1] ⟨hkl, trivial⟩ (by simp only []; omega) ?_
        rw [hfs]
        repeat' first | exact trivial | exact rfl | refine And.intro ?_ ?_
    · rw [show D.take k = D from List.take_of_length_le (by omega), ← hdp]
      have hml : (doneP a b).length ≤ 1000 := by rw [← (inOrd_perm (doneP a b)).length_eq, hdone]; omega
      have hmp : ∀ f ∈ doneP a b, f.path.length ≤ 4000000 := fun f hf => pb4 f (by rw [← hdone]; exact (inOrd_perm _).mem_iff.2 hf)
      (conv => whnf)
      refine cl [] [] (inOrder_spec (doneP a b) hml hmp) (by (repeat' first | exact trivial | exact rfl | refine And.intro ?_ ?_); first | done | fail) (by first | exact trivial | exact rfl) ?_
      rw [hdone]
      (conv => whnf)
      refine cl [] [] (sameFiles_spec b b) (by (repeat' first | exact trivial | exact rfl | refine And.intro ?_ ?_); first | done | fail) (by first | exact trivial | exact rfl) ?_
      rw [show decide (b = b) = true from decide_eq_true rfl]
      (conv => whnf)
      refine cl [] [] (diff_spec a a la la pa4 pa4) (by (repeat' first | exact trivial | exact rfl | refine And.intro ?_ ?_); first | done | fail) (by first | exact trivial | exact rfl) ?_
      rw [diff_self]
      (conv => whnf)
      exact rtB rfl
theorem flatDiffs_all (a b : List Fi) (k0 : ∀ f ∈ a, f.path.length ≤ 140737488351232 ∧ True ∧ True ∧ True) (k1 : ∀ f ∈ b, f.path.length ≤ 140737488351232 ∧ True ∧ True ∧ True) : Does Tryd.prog 3 [.c (.ls 4 Fi encFi a), .c (.ls 4 Fi encFi b)] [] (Rt (.c (.bool true)) []) :=
  flatDiffs_spec a b (fun f hf => (k0 f hf).1) (fun f hf => (k1 f hf).1)
end Go.Nest
end
