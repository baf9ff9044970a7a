/- PLAIN LEMMAS on lists that are compared. -/
import Derived.Test.YtgbppkcebaoebaaG1b
section
namespace Go.Nest
open Go Go.AM Go.Proofs
set_option linter.unusedVariables false
set_option linter.unusedSimpArgs false

theorem ne_at {α : Type} [DecidableEq α] {l m : List α} {i : Nat} (h : i < l.length) (h' : i < m.length) (hne : ¬ l[i] = m[i]) : false = decide (l = m) := by
  symm; rw [decide_eq_false_iff_not]; intro e; subst e; exact hne rfl
theorem take_step {α : Type} {l m : List α} {i : Nat} (h : i < l.length) (h' : i < m.length) (ht : l.take i = m.take i) (he : l[i] = m[i]) : l.take (i + 1) = m.take (i + 1) := by
  rw [List.take_succ_eq_append_getElem h, List.take_succ_eq_append_getElem h', ht, he]
theorem take_end {α : Type} [DecidableEq α] {l m : List α} {i : Nat} (h : l.length ≤ i) (hl : l.length = m.length) (ht : l.take i = m.take i) : true = decide (l = m) := by
  symm; rw [decide_eq_true_iff]; rwa [List.take_of_length_le h, List.take_of_length_le (hl ▸ h)] at ht
theorem ne_len {α : Type} [DecidableEq α] {l m : List α} (h : ¬ (l.length : Int) = m.length) : false = decide (l = m) := by
  symm; rw [decide_eq_false_iff_not]; intro e; subst e; exact h rfl
theorem byte_eq {a b : UInt8} : (a.toNat : Int) = b.toNat ↔ a = b := by rw [Int.natCast_inj]; exact UInt8.toNat_inj
theorem eqEn {a b : Ent} : EqCs (encEn a) (encEn b) ↔ a = b := by
  cases a; cases b; simp [encEn, EqCs, EqC]

end Go.Nest
end
/- WALKS, 2: lists that are the same; numbers in lists; lists cloned. -/
section
namespace Go.Nest
open Go Go.AM Go.Proofs
open Go.Proofs.Ytgbppkcebaoebaa (tab tabOk)
set_option linter.unusedVariables false
set_option linter.unusedSimpArgs false
set_option maxRecDepth 4000


theorem sameInts_spec (a b : List Int) : Does Try.prog 13 [.c (.bs 1 Int encI a), .c (.bs 1 Int encI b)] [] (Rt (.c (.bool (decide (a = b)))) []) := by
  refine X_spec (n := 26) (n0 := 0) tabOk Try.call13 Try.func13 ?_
  intro hb; have hb : a.length ≤ 9223372036854775807 := hb.1.1
  repeat' ((conv => whnf); first | (refine dec (fun h => ?_) (fun h => ?_) <;> try contradiction) | (refine decN (fun h => ?_) (fun h => ?_) <;> try contradiction) | refine booN (fun h => ?_) (fun h => ?_) | refine boo (fun h => ?_) (fun h => ?_) | refine ⟨i64 (by omega) (by omega), ?_⟩ | refine ⟨_, _, rfl, List.getElem?_eq_getElem (by omega), ?_⟩ | refine ⟨_, ⟨rfl, by omega⟩, ?_⟩ | refine ⟨_, List.getElem?_eq_getElem (by omega), ?_⟩ | refine rtB ?_ | refine rtI ?_ | refine rtC ?_ rfl | fail)
  · exact ne_len h
  (conv => whnf)
  have hl : a.length = b.length := by omega
  refine lp Nat (fun i => ⟨[(0, .c (.bs 1 Int encI a)), (1, .c (.bs 1 Int encI b)), (5, .c (.int .i64 i))], []⟩) (fun i => i ≤ a.length ∧ a.take i = b.take i) (fun i => a.length - i) 0 [] [] ?_ ?_ (fun i hi => ?_)
  · simp
  · repeat' first | exact trivial | exact rfl | refine And.intro ?_ ?_
  (conv => whnf)
  refine dec (fun h4 => ?_) (fun h4 => ?_)
  · have hlt : i < a.length := by omega
    have hlt' : i < b.length := by omega
    (conv => whnf)
    refine ⟨false, .grow, (.l [0, 1, 2, 3, 4, 5, 6, 7, 8]), by kernel_rfl, .inl ?_⟩
    repeat' ((conv => whnf); first | (refine dec (fun h => ?_) (fun h => ?_) <;> try contradiction) | (refine decN (fun h => ?_) (fun h => ?_) <;> try contradiction) | refine booN (fun h => ?_) (fun h => ?_) | refine boo (fun h => ?_) (fun h => ?_) | refine ⟨i64 (by omega) (by omega), ?_⟩ | refine ⟨_, _, rfl, List.getElem?_eq_getElem (by omega), ?_⟩ | refine ⟨_, ⟨rfl, by omega⟩, ?_⟩ | refine ⟨_, List.getElem?_eq_getElem (by omega), ?_⟩ | refine rtB ?_ | refine rtI ?_ | refine rtC ?_ rfl | fail)
    · exact ne_at hlt hlt' (fun e => h ((Iff.rfl).2 e))
    · refine ag (i + 1) [] [] ⟨hlt, take_step hlt hlt' hi.2 ((Iff.rfl).1 h)⟩ (by simp only []; omega) ?_
      repeat' first | exact trivial | exact rfl | refine And.intro ?_ ?_
  · repeat' ((conv => whnf); first | (refine dec (fun h => ?_) (fun h => ?_) <;> try contradiction) | (refine decN (fun h => ?_) (fun h => ?_) <;> try contradiction) | refine booN (fun h => ?_) (fun h => ?_) | refine boo (fun h => ?_) (fun h => ?_) | refine ⟨i64 (by omega) (by omega), ?_⟩ | refine ⟨_, _, rfl, List.getElem?_eq_getElem (by omega), ?_⟩ | refine ⟨_, ⟨rfl, by omega⟩, ?_⟩ | refine ⟨_, List.getElem?_eq_getElem (by omega), ?_⟩ | refine rtB ?_ | refine rtI ?_ | refine rtC ?_ rfl | fail)
    exact take_end (by omega) hl hi.2
theorem in_spec (l : List Int) (n : Int) : Does Try.prog 18 [.c (.bs 1 Int encI l), .c (.int .i64 n)] [] (Rt (.c (.bool (decide (n ∈ l)))) []) := by
  refine X_spec (n := 18) (n0 := 0) tabOk Try.call18 Try.func18 ?_
  intro hb; have hb : l.length ≤ 9223372036854775807 := hb.1.1
  (conv => whnf)
  refine lp Nat (fun i => ⟨[(0, .c (.bs 1 Int encI l)), (1, .c (.int .i64 n)), (5, .c (.int .i64 i))], []⟩) (fun i => i ≤ l.length ∧ n ∉ l.take i) (fun i => l.length - i) 0 [] [] ?_ ?_ (fun i hi => ?_)
  · simp
  · repeat' first | exact trivial | exact rfl | refine And.intro ?_ ?_
  (conv => whnf)
  refine dec (fun h4 => ?_) (fun h4 => ?_)
  · have hlt : i < l.length := by omega
    repeat' ((conv => whnf); first | (refine dec (fun h => ?_) (fun h => ?_) <;> try contradiction) | (refine decN (fun h => ?_) (fun h => ?_) <;> try contradiction) | refine booN (fun h => ?_) (fun h => ?_) | refine boo (fun h => ?_) (fun h => ?_) | refine ⟨i64 (by omega) (by omega), ?_⟩ | refine ⟨_, _, rfl, List.getElem?_eq_getElem (by omega), ?_⟩ | refine ⟨_, ⟨rfl, by omega⟩, ?_⟩ | refine ⟨_, List.getElem?_eq_getElem (by omega), ?_⟩ | refine rtB ?_ | refine rtI ?_ | refine rtC ?_ rfl | fail)
    · symm; rw [decide_eq_true_iff, ← h]; exact List.getElem_mem hlt
    · refine ag (i + 1) [] [] ⟨hlt, ?_⟩ (by simp only []; omega) ?_
      · rw [List.take_succ_eq_append_getElem hlt, List.mem_append, List.mem_singleton]
        exact fun e => e.elim hi.2 (fun e => h e.symm)
      repeat' first | exact trivial | exact rfl | refine And.intro ?_ ?_
  · repeat' ((conv => whnf); first | (refine dec (fun h => ?_) (fun h => ?_) <;> try contradiction) | (refine decN (fun h => ?_) (fun h => ?_) <;> try contradiction) | refine booN (fun h => ?_) (fun h => ?_) | refine boo (fun h => ?_) (fun h => ?_) | refine ⟨i64 (by omega) (by omega), ?_⟩ | refine ⟨_, _, rfl, List.getElem?_eq_getElem (by omega), ?_⟩ | refine ⟨_, ⟨rfl, by omega⟩, ?_⟩ | refine ⟨_, List.getElem?_eq_getElem (by omega), ?_⟩ | refine rtB ?_ | refine rtI ?_ | refine rtC ?_ rfl | fail)
    symm; rw [decide_eq_false_iff_not]
    have := hi.2
    rwa [List.take_of_length_le (by omega)] at this

end Go.Nest
end
