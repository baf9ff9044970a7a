/- WALKS, S7: the law PathsDoes. -/
import Derived.Test.YtkkjjbejkcgmfaaDoorS6
namespace Go.Nest
open Go Go.AM Go.Proofs
open Go.Proofs.YtkkjjbejkcgmfaaDoor (tab tabOk)
set_option linter.unusedVariables false
set_option linter.unusedSimpArgs false
set_option maxRecDepth 4000
set_option maxHeartbeats 1000000 in
theorem pathsDoes_spec (s t : List UInt8) (l : List (List UInt8)) (hs : s.length ≤ 140737488351232) (ht : t.length ≤ 140737488351232) (hl : ∀ x ∈ l, x.length ≤ 140737488351232) : Does Tryd.prog 4 [.c (.str s), .c (.str t), .c (.ls 1 (List UInt8) encS l)] [] (Rt (.c (.bool true)) []) := by
  refine X_specM ⟨Tryd.prog, tab, 111, 0⟩ tabOk (by kernel_rfl) Tryd.call4 Tryd.func4 rfl rfl (by kernel_rfl) rfl ?_
  intro hb
  have hbl : l.length ≤ 9223372036854775807 := hb.1.2.2.1
  refine XM.seq ?_
  repeat' ((conv => whnf); first | (refine dec (fun h => ?_) (fun h => ?_) <;> try contradiction) | (refine decN (fun h => ?_) (fun h => ?_) <;> try contradiction) | refine booN (fun h => ?_) (fun h => ?_) | refine boo (fun h => ?_) (fun h => ?_) | refine ⟨i64 (by omega) (by omega), ?_⟩ | refine ⟨_, _, rfl, List.getElem?_eq_getElem (by omega), ?_⟩ | refine ⟨_, ⟨rfl, by omega⟩, ?_⟩ | refine ⟨_, List.getElem?_eq_getElem (by omega), ?_⟩ | refine rtB ?_ | refine rtI ?_ | refine rtC ?_ rfl | fail)
  refine XM.seq ?_
  (conv => whnf)
  refine cl [] [] (pathsBegun_spec) (by (repeat' first | exact trivial | exact rfl | refine And.intro ?_ ?_); done) (by first | exact trivial | exact rfl) ?_
  repeat' ((conv => whnf); first | (refine dec (fun h => ?_) (fun h => ?_) <;> try contradiction) | (refine decN (fun h => ?_) (fun h => ?_) <;> try contradiction) | refine booN (fun h => ?_) (fun h => ?_) | refine boo (fun h => ?_) (fun h => ?_) | refine ⟨i64 (by omega) (by omega), ?_⟩ | refine ⟨_, _, rfl, List.getElem?_eq_getElem (by omega), ?_⟩ | refine ⟨_, ⟨rfl, by omega⟩, ?_⟩ | refine ⟨_, List.getElem?_eq_getElem (by omega), ?_⟩ | refine rtB ?_ | refine rtI ?_ | refine rtC ?_ rfl | fail)
  refine XM.seq ?_
  repeat' ((conv => whnf); first | (refine dec (fun h => ?_) (fun h => ?_) <;> try contradiction) | (refine decN (fun h => ?_) (fun h => ?_) <;> try contradiction) | refine booN (fun h => ?_) (fun h => ?_) | refine boo (fun h => ?_) (fun h => ?_) | refine ⟨i64 (by omega) (by omega), ?_⟩ | refine ⟨_, _, rfl, List.getElem?_eq_getElem (by omega), ?_⟩ | refine ⟨_, ⟨rfl, by omega⟩, ?_⟩ | refine ⟨_, List.getElem?_eq_getElem (by omega), ?_⟩ | refine rtB ?_ | refine rtI ?_ | refine rtC ?_ rfl | fail)
  refine XM.join (ι := Nat) (fun i => ⟨[(0, .c (.str s)), (1, .c (.str t)), (2, .c (.ls 1 (List UInt8) encS l)), (7, .c (.int .i64 ((s.length : Int) + t.length + (lens (l.take i) : Nat))))], []⟩) (fun i => (i ≤ l.length ∧ i ≤ 50) ∧ ¬ (i < l.length ∧ i < 50)) ?_ (fun i hi => ?_)
  · (conv => whnf)
    refine lp Nat (fun i => ⟨[(0, .c (.str s)), (1, .c (.str t)), (2, .c (.ls 1 (List UInt8) encS l)), (7, .c (.int .i64 ((s.length : Int) + t.length + (lens (l.take i) : Nat)))), (8, .c (.int .i64 i))], []⟩) (fun i => (i ≤ l.length ∧ i ≤ 50) ∧ True) (fun i => l.length - i) 0 [] [] ?_ ?_ (fun i hi => ?_)
    · simp
    · repeat' first | exact trivial | exact rfl | refine And.intro ?_ ?_
      all_goals (show C.int .i64 _ = C.int .i64 _; simp [lens])
    (conv => whnf)
    refine dec (fun h4 => ?_) (fun h4 => ?_)
    · (conv => whnf)
      refine dec (fun h5 => ?_) (fun h5 => ?_)
      · have hlt : i < l.length := by omega
        have hle := hl _ (List.getElem_mem hlt)
        have hsum := lens_le (l := l.take i) (fun x hx => hl x (List.mem_of_mem_take hx))
        have hsuc := lens_take hlt
        have hl50 : (l.take i).length * 140737488351232 ≤ 50 * 140737488351232 := Nat.mul_le_mul_right _ (by rw [List.length_take]; omega)
        (conv => whnf)
        refine ⟨i, l[i], rfl, List.getElem?_eq_getElem hlt, ?_⟩
        (conv => whnf)
        refine ⟨i64 (by omega) (by omega), ?_⟩
        repeat' ((conv => whnf); first | (refine dec (fun h => ?_) (fun h => ?_) <;> try contradiction) | (refine decN (fun h => ?_) (fun h => ?_) <;> try contradiction) | refine booN (fun h => ?_) (fun h => ?_) | refine boo (fun h => ?_) (fun h => ?_) | refine ⟨i64 (by omega) (by omega), ?_⟩ | refine ⟨_, _, rfl, List.getElem?_eq_getElem (by omega), ?_⟩ | refine ⟨_, ⟨rfl, by omega⟩, ?_⟩ | refine ⟨_, List.getElem?_eq_getElem (by omega), ?_⟩ | refine rtB ?_ | refine rtI ?_ | refine rtC ?_ rfl | fail)
        refine ag (i + 1) [] [] ⟨⟨hlt, by omega⟩, trivial⟩ (by simp only []; omega) ?_
        repeat' first | exact trivial | exact rfl | refine And.intro ?_ ?_
        all_goals (show C.int .i64 _ = C.int .i64 _; congr 1; omega)
      · (conv => whnf)
        refine ⟨i, ⟨hi.1, by omega⟩, [], [], ?_⟩
        repeat' first | exact trivial | exact rfl | refine And.intro ?_ ?_
    · (conv => whnf)
      refine ⟨i, ⟨hi.1, by omega⟩, [], [], ?_⟩
      repeat' first | exact trivial | exact rfl | refine And.intro ?_ ?_
  refine XM.seq ?_
  repeat' ((conv => whnf); first | (refine dec (fun h => ?_) (fun h => ?_) <;> try contradiction) | (refine decN (fun h => ?_) (fun h => ?_) <;> try contradiction) | refine booN (fun h => ?_) (fun h => ?_) | refine boo (fun h => ?_) (fun h => ?_) | refine ⟨i64 (by omega) (by omega), ?_⟩ | refine ⟨_, _, rfl, List.getElem?_eq_getElem (by omega), ?_⟩ | refine ⟨_, ⟨rfl, by omega⟩, ?_⟩ | refine ⟨_, List.getElem?_eq_getElem (by omega), ?_⟩ | refine rtB ?_ | refine rtI ?_ | refine rtC ?_ rfl | fail)
  all_goals try rfl
  have hl50 : l.length ≤ 50 := by omega
  have hil : i = l.length := by omega
  subst hil
  rw [List.take_length] at *
  have hs3 : s.length ≤ 3000 := by omega
  have ht3 : t.length ≤ 3000 := by omega
  have hul : (unsp l).length ≤ 3050 := by have := unsp_len l; omega
  refine XM.seq ?_
  (conv => whnf)
  refine cl [] [] (pathsSplit_spec s (by omega)) (by (repeat' first | exact trivial | exact rfl | refine And.intro ?_ ?_); done) (by first | exact trivial | exact rfl) ?_
  repeat' ((conv => whnf); first | (refine dec (fun h => ?_) (fun h => ?_) <;> try contradiction) | (refine decN (fun h => ?_) (fun h => ?_) <;> try contradiction) | refine booN (fun h => ?_) (fun h => ?_) | refine boo (fun h => ?_) (fun h => ?_) | refine ⟨i64 (by omega) (by omega), ?_⟩ | refine ⟨_, _, rfl, List.getElem?_eq_getElem (by omega), ?_⟩ | refine ⟨_, ⟨rfl, by omega⟩, ?_⟩ | refine ⟨_, List.getElem?_eq_getElem (by omega), ?_⟩ | refine rtB ?_ | refine rtI ?_ | refine rtC ?_ rfl | fail)
  refine XM.seq ?_
  (conv => whnf)
  refine cl [] [] (pathOf_spec s (by omega)) (by (repeat' first | exact trivial | exact rfl | refine And.intro ?_ ?_); done) (by first | exact trivial | exact rfl) ?_
  repeat' ((conv => whnf); first | (refine dec (fun h => ?_) (fun h => ?_) <;> try contradiction) | (refine decN (fun h => ?_) (fun h => ?_) <;> try contradiction) | refine booN (fun h => ?_) (fun h => ?_) | refine boo (fun h => ?_) (fun h => ?_) | refine ⟨i64 (by omega) (by omega), ?_⟩ | refine ⟨_, _, rfl, List.getElem?_eq_getElem (by omega), ?_⟩ | refine ⟨_, ⟨rfl, by omega⟩, ?_⟩ | refine ⟨_, List.getElem?_eq_getElem (by omega), ?_⟩ | refine rtB ?_ | refine rtI ?_ | refine rtC ?_ rfl | fail)
  refine XM.seq ?_
  (conv => whnf)
  refine cl [] [] (under_spec s t (by omega)) (by (repeat' first | exact trivial | exact rfl | refine And.intro ?_ ?_); done) (by first | exact trivial | exact rfl) ?_
  repeat' ((conv => whnf); first | (refine dec (fun h => ?_) (fun h => ?_) <;> try contradiction) | (refine decN (fun h => ?_) (fun h => ?_) <;> try contradiction) | refine booN (fun h => ?_) (fun h => ?_) | refine boo (fun h => ?_) (fun h => ?_) | refine ⟨i64 (by omega) (by omega), ?_⟩ | refine ⟨_, _, rfl, List.getElem?_eq_getElem (by omega), ?_⟩ | refine ⟨_, ⟨rfl, by omega⟩, ?_⟩ | refine ⟨_, List.getElem?_eq_getElem (by omega), ?_⟩ | refine rtB ?_ | refine rtI ?_ | refine rtC ?_ rfl | fail)
  refine XM.seq ?_
  (conv => whnf)
  refine cl [] [] (behind_spec s t (by omega)) (by (repeat' first | exact trivial | exact rfl | refine And.intro ?_ ?_); done) (by first | exact trivial | exact rfl) ?_
  repeat' ((conv => whnf); first | (refine dec (fun h => ?_) (fun h => ?_) <;> try contradiction) | (refine decN (fun h => ?_) (fun h => ?_) <;> try contradiction) | refine booN (fun h => ?_) (fun h => ?_) | refine boo (fun h => ?_) (fun h => ?_) | refine ⟨i64 (by omega) (by omega), ?_⟩ | refine ⟨_, _, rfl, List.getElem?_eq_getElem (by omega), ?_⟩ | refine ⟨_, ⟨rfl, by omega⟩, ?_⟩ | refine ⟨_, List.getElem?_eq_getElem (by omega), ?_⟩ | refine rtB ?_ | refine rtI ?_ | refine rtC ?_ rfl | fail)
  refine XM.of ?_
  (conv => whnf)
  refine cl [] [] (name_spec s) (by (repeat' first | exact trivial | exact rfl | refine And.intro ?_ ?_); done) (by first | exact trivial | exact rfl) ?_
  (conv => whnf)
  refine cl [] [] (nameF_spec s) (by (repeat' first | exact trivial | exact rfl | refine And.intro ?_ ?_); done) (by first | exact trivial | exact rfl) ?_
  (conv => whnf)
  refine dec (fun _ => ?_) (fun h => absurd rfl h)
  (conv => whnf)
  refine cl [] [] (sameTexts_spec (splitP s).1 (splitP s).1) (by (repeat' first | exact trivial | exact rfl | refine And.intro ?_ ?_); done) (by first | exact trivial | exact rfl) ?_
  (conv => whnf)
  refine dec (fun _ => ?_) (fun h => absurd rfl h)
  (conv => whnf)
  refine dec (fun _ => ?_) (fun h => absurd rfl h)
  (conv => whnf)
  refine dec (fun _ => ?_) (fun h => absurd rfl h)
  (conv => whnf)
  refine boo (fun _ => ?_) (fun h => absurd (beq_self_eq_true _) (by rw [h]; simp))
  (conv => whnf)
  refine cl [] [] (less_spec s t (by omega) (by omega)) (by (repeat' first | exact trivial | exact rfl | refine And.intro ?_ ?_); done) (by first | exact trivial | exact rfl) ?_
  (conv => whnf)
  refine cl [] [] (ahead_spec s t (by omega) (by omega)) (by (repeat' first | exact trivial | exact rfl | refine And.intro ?_ ?_); done) (by first | exact trivial | exact rfl) ?_
  (conv => whnf)
  refine boo (fun _ => ?_) (fun h => absurd (beq_self_eq_true _) (by rw [h]; simp))
  (conv => whnf)
  refine cl [] [] (pathsJoin_spec l (by omega) (by omega)) (by (repeat' first | exact trivial | exact rfl | refine And.intro ?_ ?_); done) (by first | exact trivial | exact rfl) ?_
  (conv => whnf)
  refine cl [] [] (joined_spec l (by omega)) (by (repeat' first | exact trivial | exact rfl | refine And.intro ?_ ?_); done) (by first | exact trivial | exact rfl) ?_
  (conv => whnf)
  exact rtB (by simp)
end Go.Nest
