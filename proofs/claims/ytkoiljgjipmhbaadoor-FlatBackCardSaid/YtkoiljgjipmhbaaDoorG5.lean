/- WALKS, 5: is it an object, by the document? -/
import Derived.Test.YtkoiljgjipmhbaaDoorG4
namespace Go.Nest
open Go Go.AM Go.Proofs
open Go.Proofs.YtkoiljgjipmhbaaDoor (tab tabOk)
set_option linter.unusedVariables false
set_option linter.unusedSimpArgs false
set_option maxRecDepth 4000

set_option maxHeartbeats 2000000 in
theorem objectFault_spec (o : Ob) : Does Tryd.prog 50 [.st (bOb o)] [] (Rt (.c (.int .i64 (objF o))) []) := by
  refine X_specM ⟨Tryd.prog, tab, 176, 0⟩ tabOk (by kernel_rfl) Tryd.call50 Tryd.func50 rfl rfl (by kernel_rfl) rfl ?_
  intro hb
  have hb : o.bytes.length ≤ 9223372036854775807 ∧ o.entries.length ≤ 9223372036854775807 ∧ o.parents.length ≤ 9223372036854775807 ∧ o.text.length ≤ 9223372036854775807 := ⟨hb.1.1.2.1, hb.1.1.2.2.1, hb.1.1.2.2.2.2.1, hb.1.1.2.2.2.2.2.1⟩
  refine XM.join (ι := Unit) (fun _ => ⟨[(1, .c (.ptr 0 0))], [.box (bOb o)]⟩) (fun _ => True) ?_ (fun _ hj => ?_)
  · repeat' ((conv => whnf); first | (refine dec (fun h => ?_) (fun h => ?_) <;> try contradiction) | (refine decN (fun h => ?_) (fun h => ?_) <;> try contradiction) | refine booN (fun h => ?_) (fun h => ?_) | refine boo (fun h => ?_) (fun h => ?_) | refine ⟨i64 (by omega) (by omega), ?_⟩ | refine ⟨_, _, rfl, List.getElem?_eq_getElem (by omega), ?_⟩ | refine ⟨_, ⟨rfl, by omega⟩, ?_⟩ | refine ⟨_, List.getElem?_eq_getElem (by omega), ?_⟩ | refine rtB ?_ | refine rtI ?_ | refine rtC ?_ rfl | fail)
    all_goals first | (refine ⟨(), by first | trivial | omega, [], [.same 0], ?_⟩; repeat' first | exact trivial | exact rfl | refine And.intro ?_ ?_) | skip
  refine XM.join (ι := Unit) (fun _ => ⟨[(1, .c (.ptr 0 0))], [.box (bOb o)]⟩) (fun _ => 1 ≤ o.kind ∧ o.kind ≤ 3) ?_ (fun _ hj => ?_)
  · repeat' ((conv => whnf); first | (refine dec (fun h => ?_) (fun h => ?_) <;> try contradiction) | (refine decN (fun h => ?_) (fun h => ?_) <;> try contradiction) | refine booN (fun h => ?_) (fun h => ?_) | refine boo (fun h => ?_) (fun h => ?_) | refine ⟨i64 (by omega) (by omega), ?_⟩ | refine ⟨_, _, rfl, List.getElem?_eq_getElem (by omega), ?_⟩ | refine ⟨_, ⟨rfl, by omega⟩, ?_⟩ | refine ⟨_, List.getElem?_eq_getElem (by omega), ?_⟩ | refine rtB ?_ | refine rtI ?_ | refine rtC ?_ rfl | fail)
    all_goals first | (show (_ : Int) = objF _; simp only [objF]; (repeat' split) <;> first | rfl | (exfalso; omega) | (simp_all; done)) | skip
    all_goals first | (refine ⟨(), by first | trivial | omega, [], [.same 0], ?_⟩; repeat' first | exact trivial | exact rfl | refine And.intro ?_ ?_) | skip
  have hk := hj; clear hj
  refine XM.join (ι := Unit) (fun _ => ⟨[(1, .c (.ptr 0 0))], [.box (bOb o)]⟩) (fun _ => ¬ (o.kind ≠ 1 ∧ 0 < o.bytes.length) ∧ ¬ (o.kind ≠ 2 ∧ 0 < o.entries.length)) ?_ (fun _ hj => ?_)
  · repeat' ((conv => whnf); first | (refine dec (fun h => ?_) (fun h => ?_) <;> try contradiction) | (refine decN (fun h => ?_) (fun h => ?_) <;> try contradiction) | refine booN (fun h => ?_) (fun h => ?_) | refine boo (fun h => ?_) (fun h => ?_) | refine ⟨i64 (by omega) (by omega), ?_⟩ | refine ⟨_, _, rfl, List.getElem?_eq_getElem (by omega), ?_⟩ | refine ⟨_, ⟨rfl, by omega⟩, ?_⟩ | refine ⟨_, List.getElem?_eq_getElem (by omega), ?_⟩ | refine rtB ?_ | refine rtI ?_ | refine rtC ?_ rfl | fail)
    all_goals first | (show (_ : Int) = objF _; simp only [objF]; (repeat' split) <;> first | rfl | (exfalso; omega) | (simp_all; done)) | skip
    all_goals first | (refine ⟨(), by first | trivial | omega, [], [.same 0], ?_⟩; repeat' first | exact trivial | exact rfl | refine And.intro ?_ ?_) | skip
  have hk2 := hj; clear hj
  refine XM.join (ι := Unit) (fun _ => ⟨[(1, .c (.ptr 0 0))], [.box (bOb o)]⟩) (fun _ => ¬ (o.kind ≠ 3 ∧ (o.tree ≠ 0 ∨ 0 < o.parents.length ∨ 0 < o.text.length))) ?_ (fun _ hj => ?_)
  · repeat' ((conv => whnf); first | (refine dec (fun h => ?_) (fun h => ?_) <;> try contradiction) | (refine decN (fun h => ?_) (fun h => ?_) <;> try contradiction) | refine booN (fun h => ?_) (fun h => ?_) | refine boo (fun h => ?_) (fun h => ?_) | refine ⟨i64 (by omega) (by omega), ?_⟩ | refine ⟨_, _, rfl, List.getElem?_eq_getElem (by omega), ?_⟩ | refine ⟨_, ⟨rfl, by omega⟩, ?_⟩ | refine ⟨_, List.getElem?_eq_getElem (by omega), ?_⟩ | refine rtB ?_ | refine rtI ?_ | refine rtC ?_ rfl | fail)
    all_goals first | (show (_ : Int) = objF _; simp only [objF]; (repeat' split) <;> first | rfl | (exfalso; omega) | (simp_all; done)) | skip
    all_goals first | (refine ⟨(), by first | trivial | omega, [], [.same 0], ?_⟩; repeat' first | exact trivial | exact rfl | refine And.intro ?_ ?_) | skip
  have hk3 := hj; clear hj
  refine XM.join (ι := Unit) (fun _ => ⟨[(1, .c (.ptr 0 0))], [.box (bOb o)]⟩) (fun _ => ¬ (400 < o.bytes.length ∨ 60 < o.text.length)) ?_ (fun _ hj => ?_)
  · repeat' ((conv => whnf); first | (refine dec (fun h => ?_) (fun h => ?_) <;> try contradiction) | (refine decN (fun h => ?_) (fun h => ?_) <;> try contradiction) | refine booN (fun h => ?_) (fun h => ?_) | refine boo (fun h => ?_) (fun h => ?_) | refine ⟨i64 (by omega) (by omega), ?_⟩ | refine ⟨_, _, rfl, List.getElem?_eq_getElem (by omega), ?_⟩ | refine ⟨_, ⟨rfl, by omega⟩, ?_⟩ | refine ⟨_, List.getElem?_eq_getElem (by omega), ?_⟩ | refine rtB ?_ | refine rtI ?_ | refine rtC ?_ rfl | fail)
    all_goals first | (show (_ : Int) = objF _; simp only [objF]; (repeat' split) <;> first | rfl | (exfalso; omega) | (simp_all; done)) | skip
    all_goals first | (refine ⟨(), by first | trivial | omega, [], [.same 0], ?_⟩; repeat' first | exact trivial | exact rfl | refine And.intro ?_ ?_) | skip
  have hk4 := hj; clear hj
  refine XM.join (ι := Unit) (fun _ => ⟨[(1, .c (.ptr 0 0))], [.box (bOb o)]⟩) (fun _ => ¬ (3 < o.parents.length)) ?_ (fun _ hj => ?_)
  · repeat' ((conv => whnf); first | (refine dec (fun h => ?_) (fun h => ?_) <;> try contradiction) | (refine decN (fun h => ?_) (fun h => ?_) <;> try contradiction) | refine booN (fun h => ?_) (fun h => ?_) | refine boo (fun h => ?_) (fun h => ?_) | refine ⟨i64 (by omega) (by omega), ?_⟩ | refine ⟨_, _, rfl, List.getElem?_eq_getElem (by omega), ?_⟩ | refine ⟨_, ⟨rfl, by omega⟩, ?_⟩ | refine ⟨_, List.getElem?_eq_getElem (by omega), ?_⟩ | refine rtB ?_ | refine rtI ?_ | refine rtC ?_ rfl | fail)
    all_goals first | (show (_ : Int) = objF _; simp only [objF]; (repeat' split) <;> first | rfl | (exfalso; omega) | (simp_all; done)) | skip
    all_goals first | (refine ⟨(), by first | trivial | omega, [], [.same 0], ?_⟩; repeat' first | exact trivial | exact rfl | refine And.intro ?_ ?_) | skip
  have hk5 := hj; clear hj
  have he : objF o = if o.tree < 0 then 1 else if o.parents.any (fun k => decide (k < 0)) = true then 1 else if o.text.all shown = true then treeC o.entries else 2 := by
    simp only [objF]
    rw [if_neg (by omega), if_neg (by omega), if_neg (by omega), if_neg (by omega)]
  rw [he]
  refine XM.seq ?_
  repeat' ((conv => whnf); first | (refine dec (fun h => ?_) (fun h => ?_) <;> try contradiction) | (refine decN (fun h => ?_) (fun h => ?_) <;> try contradiction) | refine booN (fun h => ?_) (fun h => ?_) | refine boo (fun h => ?_) (fun h => ?_) | refine ⟨i64 (by omega) (by omega), ?_⟩ | refine ⟨_, _, rfl, List.getElem?_eq_getElem (by omega), ?_⟩ | refine ⟨_, ⟨rfl, by omega⟩, ?_⟩ | refine ⟨_, List.getElem?_eq_getElem (by omega), ?_⟩ | refine rtB ?_ | refine rtI ?_ | refine rtC ?_ rfl | fail)
  refine XM.join (ι := Bool) (fun b => ⟨[(1, .c (.ptr 0 0)), (3, .c (.bool b))], [.box (bOb o)]⟩) (fun b => b = (decide (o.tree < 0) || o.parents.any fun k => decide (k < 0))) ?_ (fun b hj => ?_)
  · (conv => whnf)
    refine lp (Nat × Bool) (fun x => ⟨[(1, .c (.ptr 0 0)), (3, .c (.bool x.2)), (4, .c (.int .i64 x.1))], [.box (bOb o)]⟩) (fun x => x.1 ≤ o.parents.length ∧ x.2 = (decide (o.tree < 0) || (o.parents.take x.1).any fun k => decide (k < 0))) (fun x => o.parents.length - x.1) (0, decide (o.tree < 0)) [] [.same 0] ?_ ?_ (fun x hi => ?_)
    · exact ⟨Nat.zero_le _, by simp⟩
    · repeat' first | exact trivial | exact rfl | refine And.intro ?_ ?_
    obtain ⟨i, b⟩ := x
    dsimp only at hi
    (conv => whnf)
    refine dec (fun h4 => ?_) (fun h4 => ?_)
    · have hlt : i < o.parents.length := by omega
      have hs : ((o.parents.take (i + 1)).any fun k => decide (k < 0)) = ((o.parents.take i).any (fun k => decide (k < 0)) || decide (o.parents[i] < 0)) := by
        rw [List.take_succ_eq_append_getElem hlt, List.any_append]; simp
      repeat' ((conv => whnf); first | (refine dec (fun h => ?_) (fun h => ?_) <;> try contradiction) | (refine decN (fun h => ?_) (fun h => ?_) <;> try contradiction) | refine booN (fun h => ?_) (fun h => ?_) | refine boo (fun h => ?_) (fun h => ?_) | refine ⟨i64 (by omega) (by omega), ?_⟩ | refine ⟨_, _, rfl, List.getElem?_eq_getElem (by omega), ?_⟩ | refine ⟨_, ⟨rfl, by omega⟩, ?_⟩ | refine ⟨_, List.getElem?_eq_getElem (by omega), ?_⟩ | refine rtB ?_ | refine rtI ?_ | refine rtC ?_ rfl | fail)
      · refine ag (i + 1, true) [] [.same 0] ⟨hlt, ?_⟩ (by simp only []; omega) ?_
        · rw [hs, ← Bool.or_assoc, ← hi.2, show b = _ from h]; rfl
        · repeat' first | exact trivial | exact rfl | refine And.intro ?_ ?_
      · refine ag (i + 1, decide (o.parents[i] < 0)) [] [.same 0] ⟨hlt, ?_⟩ (by simp only []; omega) ?_
        · rw [hs, ← Bool.or_assoc, ← hi.2, show b = _ from h]; rfl
        · repeat' first | exact trivial | exact rfl | refine And.intro ?_ ?_
    · have := hi.2
      rw [List.take_of_length_le (by omega)] at this
      (conv => whnf)
      refine ⟨b, this, [], [.same 0], ?_⟩
      repeat' first | exact trivial | exact rfl | refine And.intro ?_ ?_
  refine XM.join (ι := Unit) (fun _ => ⟨[(1, .c (.ptr 0 0))], [.box (bOb o)]⟩) (fun _ => b = false) ?_ (fun _ hb0 => ?_)
  · repeat' ((conv => whnf); first | (refine dec (fun h => ?_) (fun h => ?_) <;> try contradiction) | (refine decN (fun h => ?_) (fun h => ?_) <;> try contradiction) | refine booN (fun h => ?_) (fun h => ?_) | refine boo (fun h => ?_) (fun h => ?_) | refine ⟨i64 (by omega) (by omega), ?_⟩ | refine ⟨_, _, rfl, List.getElem?_eq_getElem (by omega), ?_⟩ | refine ⟨_, ⟨rfl, by omega⟩, ?_⟩ | refine ⟨_, List.getElem?_eq_getElem (by omega), ?_⟩ | refine rtB ?_ | refine rtI ?_ | refine rtC ?_ rfl | fail)
    · rw [h] at hj
      have hj := hj.symm
      rw [Bool.or_eq_true, decide_eq_true_iff] at hj
      split
      · rfl
      · rw [if_pos (hj.resolve_left ‹_›)]
    · refine ⟨(), h, [], [.same 0], ?_⟩; repeat' first | exact trivial | exact rfl | refine And.intro ?_ ?_
  have hj0 := hb0
  subst hj0
  have hj := hj.symm
  rw [Bool.or_eq_false_iff, decide_eq_false_iff_not] at hj
  rw [if_neg hj.1, if_neg (by rw [hj.2]; simp)]
  refine XM.join (ι := Unit) (fun _ => ⟨[(1, .c (.ptr 0 0))], [.box (bOb o)]⟩) (fun _ => o.text.all shown = true) ?_ (fun _ ht => ?_)
  · (conv => whnf)
    refine lp Nat (fun i => ⟨[(1, .c (.ptr 0 0)), (5, .c (.int .i64 i))], [.box (bOb o)]⟩) (fun i => i ≤ o.text.length ∧ (o.text.take i).all shown = true) (fun i => o.text.length - i) 0 [] [.same 0] ?_ ?_ (fun i hi => ?_)
    · simp
    · repeat' first | exact trivial | exact rfl | refine And.intro ?_ ?_
    have bad : ∀ (h : i < o.text.length), shown o.text[i] = false → (2 : Int) = if o.text.all shown = true then treeC o.entries else 2 := fun h h2 => by
      rw [if_neg]; rw [List.all_eq_true]; intro h3; rw [h3 _ (List.getElem_mem h)] at h2; cases h2
    (conv => whnf)
    refine dec (fun h4 => ?_) (fun h4 => ?_)
    · have hlt : i < o.text.length := by omega
      repeat' ((conv => whnf); first | (refine dec (fun h => ?_) (fun h => ?_) <;> try contradiction) | (refine decN (fun h => ?_) (fun h => ?_) <;> try contradiction) | refine booN (fun h => ?_) (fun h => ?_) | refine boo (fun h => ?_) (fun h => ?_) | refine ⟨i64 (by omega) (by omega), ?_⟩ | refine ⟨_, _, rfl, List.getElem?_eq_getElem (by omega), ?_⟩ | refine ⟨_, ⟨rfl, by omega⟩, ?_⟩ | refine ⟨_, List.getElem?_eq_getElem (by omega), ?_⟩ | refine rtB ?_ | refine rtI ?_ | refine rtC ?_ rfl | fail)
      · exact bad hlt (by simp [shown]; omega)
      · exact bad hlt (by simp [shown]; omega)
      · refine ag (i + 1) [] [.same 0] ⟨hlt, ?_⟩ (by simp only []; omega) ?_
        · rw [List.take_succ_eq_append_getElem hlt, List.all_append, hi.2]; simp [shown]; omega
        repeat' first | exact trivial | exact rfl | refine And.intro ?_ ?_
    · have := hi.2
      rw [List.take_of_length_le (by omega)] at this
      (conv => whnf)
      refine ⟨(), this, [], [.same 0], ?_⟩
      repeat' first | exact trivial | exact rfl | refine And.intro ?_ ?_
  rw [if_pos ht]
  refine XM.join (ι := Unit) (fun _ => ⟨[(1, .c (.ptr 0 0))], [.box (bOb o)]⟩) (fun _ => ¬ 60 < o.entries.length) ?_ (fun _ hj => ?_)
  · repeat' ((conv => whnf); first | (refine dec (fun h => ?_) (fun h => ?_) <;> try contradiction) | (refine decN (fun h => ?_) (fun h => ?_) <;> try contradiction) | refine booN (fun h => ?_) (fun h => ?_) | refine boo (fun h => ?_) (fun h => ?_) | refine ⟨i64 (by omega) (by omega), ?_⟩ | refine ⟨_, _, rfl, List.getElem?_eq_getElem (by omega), ?_⟩ | refine ⟨_, ⟨rfl, by omega⟩, ?_⟩ | refine ⟨_, List.getElem?_eq_getElem (by omega), ?_⟩ | refine rtB ?_ | refine rtI ?_ | refine rtC ?_ rfl | fail)
    · unfold treeC; rw [if_pos (by omega)]
    · all_goals first | (refine ⟨(), by first | trivial | omega, [], [.same 0], ?_⟩; repeat' first | exact trivial | exact rfl | refine And.intro ?_ ?_) | skip
  have ht : treeC o.entries = entsF none o.entries := by unfold treeC; rw [if_neg (by omega)]
  rw [ht]
  refine XM.seq ?_
  (conv => whnf)
  refine lp Nat (fun i => ⟨[(1, .c (.ptr 0 0)), (6, .c (.int .i64 i))], [.box (bOb o)]⟩) (fun i => i ≤ o.entries.length ∧ entsF none o.entries = entsF (prevN o.entries i) (o.entries.drop i)) (fun i => o.entries.length - i) 0 [] [.same 0] ?_ ?_ (fun i hi => ?_)
  · simp [prevN]
  · repeat' first | exact trivial | exact rfl | refine And.intro ?_ ?_
  (conv => whnf)
  refine dec (fun h4 => ?_) (fun h4 => ?_)
  · have hlt : i < o.entries.length := by omega
    have hat := entsF_at hlt hi.2
    have leaf : ∀ {c : Int}, entF (prevN o.entries i) o.entries[i] = c → c ≠ 0 → c = entsF none o.entries := fun h1 h2 => by rw [hat, h1, if_neg h2]
    repeat' ((conv => whnf); first | (refine dec (fun h => ?_) (fun h => ?_) <;> try contradiction) | (refine decN (fun h => ?_) (fun h => ?_) <;> try contradiction) | refine booN (fun h => ?_) (fun h => ?_) | refine boo (fun h => ?_) (fun h => ?_) | refine ⟨i64 (by omega) (by omega), ?_⟩ | refine ⟨_, _, rfl, List.getElem?_eq_getElem (by omega), ?_⟩ | refine ⟨_, ⟨rfl, by omega⟩, ?_⟩ | refine ⟨_, List.getElem?_eq_getElem (by omega), ?_⟩ | refine rtB ?_ | refine rtI ?_ | refine rtC ?_ rfl | fail)
    (conv => whnf)
    refine cl [] [] (nameF_spec o.entries[i].name) (by (repeat' first | exact trivial | exact rfl | refine And.intro ?_ ?_); first | done | fail) (by first | exact trivial | exact rfl) ?_
    repeat' ((conv => whnf); first | (refine dec (fun h => ?_) (fun h => ?_) <;> try contradiction) | (refine decN (fun h => ?_) (fun h => ?_) <;> try contradiction) | refine booN (fun h => ?_) (fun h => ?_) | refine boo (fun h => ?_) (fun h => ?_) | refine ⟨i64 (by omega) (by omega), ?_⟩ | refine ⟨_, _, rfl, List.getElem?_eq_getElem (by omega), ?_⟩ | refine ⟨_, ⟨rfl, by omega⟩, ?_⟩ | refine ⟨_, List.getElem?_eq_getElem (by omega), ?_⟩ | refine rtB ?_ | refine rtI ?_ | refine rtC ?_ rfl | fail)
    all_goals first | (refine leaf ?_ ?_ <;> simp [entF, *]; done) | skip
    all_goals
      (conv => whnf)
      refine ⟨false, (.l [0, 1, 2, 3, 4, 5, 6, 7, 8, 9, 10, 11, 12, 13, 14]), by kernel_rfl, .inl ?_⟩
      repeat' ((conv => whnf); first | (refine dec (fun h => ?_) (fun h => ?_) <;> try contradiction) | (refine decN (fun h => ?_) (fun h => ?_) <;> try contradiction) | refine booN (fun h => ?_) (fun h => ?_) | refine boo (fun h => ?_) (fun h => ?_) | refine ⟨i64 (by omega) (by omega), ?_⟩ | refine ⟨_, _, rfl, List.getElem?_eq_getElem (by omega), ?_⟩ | refine ⟨_, ⟨rfl, by omega⟩, ?_⟩ | refine ⟨_, List.getElem?_eq_getElem (by omega), ?_⟩ | refine rtB ?_ | refine rtI ?_ | refine rtC ?_ rfl | fail)
      · (conv => whnf)
        refine ⟨i - 1, o.entries[i - 1], by omega, List.getElem?_eq_getElem (by omega), ?_⟩
        have hp := prevN_pos (l := o.entries) (i := i) (by omega) hlt
        repeat' ((conv => whnf); first | (refine dec (fun h => ?_) (fun h => ?_) <;> try contradiction) | (refine decN (fun h => ?_) (fun h => ?_) <;> try contradiction) | refine booN (fun h => ?_) (fun h => ?_) | refine boo (fun h => ?_) (fun h => ?_) | refine ⟨i64 (by omega) (by omega), ?_⟩ | refine ⟨_, _, rfl, List.getElem?_eq_getElem (by omega), ?_⟩ | refine ⟨_, ⟨rfl, by omega⟩, ?_⟩ | refine ⟨_, List.getElem?_eq_getElem (by omega), ?_⟩ | refine rtB ?_ | refine rtI ?_ | refine rtC ?_ rfl | fail)
        · refine leaf ?_ (by decide); clear hj hb he hat leaf; unfold entF; rw [hp]; dsimp only; (repeat' split) <;> first | rfl | contradiction | (exfalso; omega) | (simp_all; done)
        · refine ag (i + 1) [] [.same 0] ⟨hlt, ?_⟩ (by simp only []; omega) ?_
          · rw [hat, if_pos]; clear hj hb he hat leaf; unfold entF; rw [hp]; dsimp only; (repeat' split) <;> first | rfl | contradiction | (exfalso; omega) | (simp_all; done)
          repeat' first | exact trivial | exact rfl | refine And.intro ?_ ?_
      · have hp : prevN o.entries i = none := by
          obtain rfl : i = 0 := by omega
          rfl
        repeat' ((conv => whnf); first | (refine dec (fun h => ?_) (fun h => ?_) <;> try contradiction) | (refine decN (fun h => ?_) (fun h => ?_) <;> try contradiction) | refine booN (fun h => ?_) (fun h => ?_) | refine boo (fun h => ?_) (fun h => ?_) | refine ⟨i64 (by omega) (by omega), ?_⟩ | refine ⟨_, _, rfl, List.getElem?_eq_getElem (by omega), ?_⟩ | refine ⟨_, ⟨rfl, by omega⟩, ?_⟩ | refine ⟨_, List.getElem?_eq_getElem (by omega), ?_⟩ | refine rtB ?_ | refine rtI ?_ | refine rtC ?_ rfl | fail)
        refine ag (i + 1) [] [.same 0] ⟨hlt, ?_⟩ (by simp only []; omega) ?_
        · rw [hat, if_pos]; clear hj hb he hat leaf; unfold entF; rw [hp]; dsimp only; (repeat' split) <;> first | rfl | contradiction | (exfalso; omega) | (simp_all; done)
        repeat' first | exact trivial | exact rfl | refine And.intro ?_ ?_
  · (conv => whnf)
    refine XM.of ?_
    repeat' ((conv => whnf); first | (refine dec (fun h => ?_) (fun h => ?_) <;> try contradiction) | (refine decN (fun h => ?_) (fun h => ?_) <;> try contradiction) | refine booN (fun h => ?_) (fun h => ?_) | refine boo (fun h => ?_) (fun h => ?_) | refine ⟨i64 (by omega) (by omega), ?_⟩ | refine ⟨_, _, rfl, List.getElem?_eq_getElem (by omega), ?_⟩ | refine ⟨_, ⟨rfl, by omega⟩, ?_⟩ | refine ⟨_, List.getElem?_eq_getElem (by omega), ?_⟩ | refine rtB ?_ | refine rtI ?_ | refine rtC ?_ rfl | fail)
    have := hi.2
    rw [List.drop_of_length_le (by omega)] at this
    rw [this]; rfl
end Go.Nest
