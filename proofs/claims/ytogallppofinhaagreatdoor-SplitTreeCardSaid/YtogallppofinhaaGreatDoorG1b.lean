/- WALKS, 1b: names, by the document; texts that may be said. -/
import Derived.Test.YtogallppofinhaaGreatDoorW8
namespace Go.Nest
open Go Go.AM Go.Proofs
open Go.Proofs.YtogallppofinhaaGreatDoor (tab tabOk)
set_option linter.unusedVariables false
set_option linter.unusedSimpArgs false
set_option maxRecDepth 4000

theorem nameF_spec (l : List UInt8) : Does Tryz.prog 187 [.c (.str l)] [] (Rt (.c (.int .i64 (nameC l))) []) := by
  refine X_spec (n := 39) (n0 := 0) tabOk Tryz.call187 Tryz.func187 ?_
  intro hb; have hb : l.length ≤ 9223372036854775807 := hb.1.1
  have bad : ∀ {i : Nat} (h : i < l.length), odd l[i] = true → (2 : Int) = nameC l := fun h h2 => by
    unfold nameC; rw [if_pos (.inr (.inr (.inr (any_at h h2))))]
  (conv => whnf)
  refine dec (fun (h0 : l = []) => ?_) (fun (h0 : ¬ l = []) => ?_)
  · (conv => whnf); refine rtC ?_ rfl; simp [nameC, h0]
  (conv => whnf)
  refine dec (fun (h2 : l = [46]) => ?_) (fun (h2 : ¬ l = [46]) => ?_)
  · (conv => whnf); refine rtC ?_ rfl; simp [nameC, h2]
  (conv => whnf)
  refine dec (fun (h3 : l = [46, 46]) => ?_) (fun (h3 : ¬ l = [46, 46]) => ?_)
  · (conv => whnf); refine rtC ?_ rfl; simp [nameC, h3]
  (conv => whnf)
  refine lp Nat (fun i => ⟨[(0, .c (.str l)), (3, .c (.int .i64 i))], []⟩) (fun i => i ≤ l.length ∧ (l.take i).any odd = false) (fun i => l.length - i) 0 [] [] ?_ ?_ (fun i hi => ?_)
  · simp
  · repeat' first | exact trivial | exact rfl | refine And.intro ?_ ?_
  (conv => whnf)
  refine dec (fun h4 => ?_) (fun h4 => ?_)
  · have hlt : i < l.length := by omega
    repeat' ((conv => whnf); first | (refine dec (fun h => ?_) (fun h => ?_) <;> try contradiction) | (refine decN (fun h => ?_) (fun h => ?_) <;> try contradiction) | refine booN (fun h => ?_) (fun h => ?_) | refine boo (fun h => ?_) (fun h => ?_) | refine ⟨i64 (by omega) (by omega), ?_⟩ | refine ⟨_, _, rfl, List.getElem?_eq_getElem (by omega), ?_⟩ | refine ⟨_, ⟨rfl, by omega⟩, ?_⟩ | refine ⟨_, List.getElem?_eq_getElem (by omega), ?_⟩ | refine rtB ?_ | refine rtI ?_ | refine rtC ?_ rfl | fail)
    · rw [← bad hlt (by simp [odd]; omega)]
    · rw [← bad hlt (by simp [odd]; omega)]
    · rw [← bad hlt (by simp [odd]; omega)]
    · refine ag (i + 1) [] [] ⟨hlt, any_take hlt hi.2 (by simp [odd]; omega)⟩ (by simp only []; omega) ?_
      repeat' first | exact trivial | exact rfl | refine And.intro ?_ ?_
  · obtain rfl : i = l.length := by omega
    have ha : l.any odd = false := by simpa using hi.2
    repeat' ((conv => whnf); first | (refine dec (fun h => ?_) (fun h => ?_) <;> try contradiction) | (refine decN (fun h => ?_) (fun h => ?_) <;> try contradiction) | refine booN (fun h => ?_) (fun h => ?_) | refine boo (fun h => ?_) (fun h => ?_) | refine ⟨i64 (by omega) (by omega), ?_⟩ | refine ⟨_, _, rfl, List.getElem?_eq_getElem (by omega), ?_⟩ | refine ⟨_, ⟨rfl, by omega⟩, ?_⟩ | refine ⟨_, List.getElem?_eq_getElem (by omega), ?_⟩ | refine rtB ?_ | refine rtI ?_ | refine rtC ?_ rfl | fail)
    · unfold nameC; rw [if_neg (by simp [h0, h2, h3, ha]), if_pos (by omega)]
    · unfold nameC; rw [if_neg (by simp [h0, h2, h3, ha]), if_neg (by omega)]

theorem visible_spec (l : List UInt8) : Does Tryz.prog 197 [.c (.str l)] [] (Rt (.c (.bool (l.all shown))) []) := by
  refine X_spec (n := 20) (n0 := 0) tabOk Tryz.call197 Tryz.func197 ?_
  intro hb; have hb : l.length ≤ 9223372036854775807 := hb.1.1
  (conv => whnf)
  refine lp Nat (fun i => ⟨[(0, .c (.str l)), (5, .c (.int .i64 l.length)), (6, .c (.int .i64 i))], []⟩) (fun i => i ≤ l.length ∧ (l.take i).all shown = true) (fun i => l.length - i) 0 [] [] ?_ ?_ (fun i hi => ?_)
  · simp
  · repeat' first | exact trivial | exact rfl | refine And.intro ?_ ?_
  have bad : ∀ (h : i < l.length), shown l[i] = false → false = l.all shown := fun h h2 => by
    symm; rw [Bool.eq_false_iff, Ne, List.all_eq_true]; intro h3; rw [h3 _ (List.getElem_mem h)] at h2; cases h2
  (conv => whnf)
  refine dec (fun h4 => ?_) (fun h4 => ?_)
  · have hlt : i < l.length := by omega
    repeat' ((conv => whnf); first | (refine dec (fun h => ?_) (fun h => ?_) <;> try contradiction) | (refine decN (fun h => ?_) (fun h => ?_) <;> try contradiction) | refine booN (fun h => ?_) (fun h => ?_) | refine boo (fun h => ?_) (fun h => ?_) | refine ⟨i64 (by omega) (by omega), ?_⟩ | refine ⟨_, _, rfl, List.getElem?_eq_getElem (by omega), ?_⟩ | refine ⟨_, ⟨rfl, by omega⟩, ?_⟩ | refine ⟨_, List.getElem?_eq_getElem (by omega), ?_⟩ | refine rtB ?_ | refine rtI ?_ | refine rtC ?_ rfl | fail)
    · rw [← bad hlt (by simp [shown]; omega)]
    · rw [← bad hlt (by simp [shown]; omega)]
    · refine ag (i + 1) [] [] ⟨hlt, ?_⟩ (by simp only []; omega) ?_
      · rw [List.take_succ_eq_append_getElem hlt, List.all_append, hi.2]; simp [shown]; omega
      repeat' first | exact trivial | exact rfl | refine And.intro ?_ ?_
  · obtain rfl : i = l.length := by omega
    have ha : l.all shown = true := by simpa using hi.2
    repeat' ((conv => whnf); first | (refine dec (fun h => ?_) (fun h => ?_) <;> try contradiction) | (refine decN (fun h => ?_) (fun h => ?_) <;> try contradiction) | refine booN (fun h => ?_) (fun h => ?_) | refine boo (fun h => ?_) (fun h => ?_) | refine ⟨i64 (by omega) (by omega), ?_⟩ | refine ⟨_, _, rfl, List.getElem?_eq_getElem (by omega), ?_⟩ | refine ⟨_, ⟨rfl, by omega⟩, ?_⟩ | refine ⟨_, List.getElem?_eq_getElem (by omega), ?_⟩ | refine rtB ?_ | refine rtI ?_ | refine rtC ?_ rfl | fail)
    rw [ha]
end Go.Nest
