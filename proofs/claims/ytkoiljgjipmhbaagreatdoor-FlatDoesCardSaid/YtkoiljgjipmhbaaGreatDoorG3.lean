/- PLAIN LEMMAS on lists that are compared. -/
import Derived.Test.YtkoiljgjipmhbaaGreatDoorG1b
section
namespace Go.Nest
open Go Go.AM Go.Proofs
set_option linter.unusedVariables false
set_option linter.unusedSimpArgs false

theorem ne_at {α : Type} [DecidableEq α] {l m : List α} {i : Nat} (h : i < l.length) (h' : i < m.length) (hne : ¬ l[i] = m[i]) : false = decide (l = m) := by
  symm; rw [decide_eq_false_iff_not]; intro e; subst e; exact hne rfl
theorem take_step {α : Type} {l m : List α} {i : Nat} (h : i < l.length) (h' : i < m.length) (ht : l.take i = m.take i) (he : l[i] = m[i]) : l.take (i + 1) = m.take (i + 1) := by
  rw [List.take_succ_eq_append_getElem h, List.take_succ_eq_append_getElem h', ht, he]
theorem take_end {α : Type} [DecidableEq α] {l m : List α} {i : Nat} (h : l.length ≤ i) (hl : l.length = m.length) (ht : l.take i = m.take i) : true = decide (l = m) := by
  symm; rw [decide_eq_true_iff]; rwa [List.take_of_length_le h, List.take_of_length_le (hl ▸ h)] at ht
theorem ne_len {α : Type} [DecidableEq α] {l m : List α} (h : ¬ (l.length : Int) = m.length) : false = decide (l = m) := by
  symm; rw [decide_eq_false_iff_not]; intro e; subst e; exact h rfl
theorem byte_eq {a b : UInt8} : (a.toNat : Int) = b.toNat ↔ a = b := by rw [Int.natCast_inj]; exact UInt8.toNat_inj
theorem eqEn {a b : Ent} : EqCs (encEn a) (encEn b) ↔ a = b := by
  cases a; cases b; simp [encEn, EqCs, EqC]

end Go.Nest
end
/- WALKS, 2: lists that are the same; numbers in lists; lists cloned. -/
section
namespace Go.Nest
open Go Go.AM Go.Proofs
open Go.Proofs.YtkoiljgjipmhbaaGreatDoor (tab tabOk)
set_option linter.unusedVariables false
set_option linter.unusedSimpArgs false
set_option maxRecDepth 4000


theorem sameInts_spec (a b : List Int) : Does Tryz.prog 33 [.c (.bs 1 Int encI a), .c (.bs 1 Int encI b)] [] (Rt (.c (.bool (decide (a = b)))) []) := by
  refine X_spec ⟨Tryz.prog, tab, 26, 0⟩ tabOk (by kernel_rfl) Tryz.call33 Tryz.func33 rfl rfl (by kernel_rfl) rfl ?_
  intro hb; have hb : a.length ≤ 9223372036854775807 := hb.1.1
  repeat' ((conv => whnf); first | (refine dec (fun h => ?_) (fun h => ?_) <;> try contradiction) | (refine decN (fun h => ?_) (fun h => ?_) <;> try contradiction) | refine booN (fun h => ?_) (fun h => ?_) | refine boo (fun h => ?_) (fun h => ?_) | refine ⟨i64 (by omega) (by omega), ?_⟩ | refine ⟨_, _, rfl, List.getElem?_eq_getElem (by omega), ?_⟩ | refine ⟨_, ⟨rfl, by omega⟩, ?_⟩ | refine ⟨_, List.getElem?_eq_getElem (by omega), ?_⟩ | refine rtB ?_ | refine rtI ?_ | refine rtC ?_ rfl | fail)
  · exact ne_len h
  (conv => whnf)
  have hl : a.length = b.length := by omega
  refine lp Nat (fun i => ⟨[(0, .c (.bs 1 Int encI a)), (1, .c (.bs 1 Int encI b)), (5, .c (.int .i64 i))], []⟩) (fun i => i ≤ a.length ∧ a.take i = b.take i) (fun i => a.length - i) 0 [] [] ?_ ?_ (fun i hi => ?_)
  · simp
  · repeat' first | exact trivial | exact rfl | refine And.intro ?_ ?_
  (conv => whnf)
  refine dec (fun h4 => ?_) (fun h4 => ?_)
  · have hlt : i < a.length := by omega
    have hlt' : i < b.length := by omega
    (conv => whnf)
    refine ⟨false, (.l [0, 1, 2, 3, 4, 5, 6, 7, 8]), by kernel_rfl, .inl ?_⟩
    repeat' ((conv => whnf); first | (refine dec (fun h => ?_) (fun h => ?_) <;> try contradiction) | (refine decN (fun h => ?_) (fun h => ?_) <;> try contradiction) | refine booN (fun h => ?_) (fun h => ?_) | refine boo (fun h => ?_) (fun h => ?_) | refine ⟨i64 (by omega) (by omega), ?_⟩ | refine ⟨_, _, rfl, List.getElem?_eq_getElem (by omega), ?_⟩ | refine ⟨_, ⟨rfl, by omega⟩, ?_⟩ | refine ⟨_, List.getElem?_eq_getElem (by omega), ?_⟩ | refine rtB ?_ | refine rtI ?_ | refine rtC ?_ rfl | fail)
    · exact ne_at hlt hlt' (fun e => h ((Iff.rfl).2 e))
    · refine ag (i + 1) [] [] ⟨hlt, take_step hlt hlt' hi.2 ((Iff.rfl).1 h)⟩ (by simp only []; omega) ?_
      repeat' first | exact trivial | exact rfl | refine And.intro ?_ ?_
  · repeat' ((conv => whnf); first | (refine dec (fun h => ?_) (fun h => ?_) <;> try contradiction) | (refine decN (fun h => ?_) (fun h => ?_) <;> try contradiction) | refine booN (fun h => ?_) (fun h => ?_) | refine boo (fun h => ?_) (fun h => ?_) | refine ⟨i64 (by omega) (by omega), ?_⟩ | refine ⟨_, _, rfl, List.getElem?_eq_getElem (by omega), ?_⟩ | refine ⟨_, ⟨rfl, by omega⟩, ?_⟩ | refine ⟨_, List.getElem?_eq_getElem (by omega), ?_⟩ | refine rtB ?_ | refine rtI ?_ | refine rtC ?_ rfl | fail)
    exact take_end (by omega) hl hi.2
theorem equalInts_spec (a b : List Int) : Does Tryz.prog 105 [.c (.bs 1 Int encI a), .c (.bs 1 Int encI b)] [] (Rt (.c (.bool (decide (a = b)))) []) := by
  refine X_spec ⟨Tryz.prog, tab, 26, 0⟩ tabOk (by kernel_rfl) Tryz.call105 Tryz.func105 rfl rfl (by kernel_rfl) rfl ?_
  intro hb; have hb : a.length ≤ 9223372036854775807 := hb.1.1
  repeat' ((conv => whnf); first | (refine dec (fun h => ?_) (fun h => ?_) <;> try contradiction) | (refine decN (fun h => ?_) (fun h => ?_) <;> try contradiction) | refine booN (fun h => ?_) (fun h => ?_) | refine boo (fun h => ?_) (fun h => ?_) | refine ⟨i64 (by omega) (by omega), ?_⟩ | refine ⟨_, _, rfl, List.getElem?_eq_getElem (by omega), ?_⟩ | refine ⟨_, ⟨rfl, by omega⟩, ?_⟩ | refine ⟨_, List.getElem?_eq_getElem (by omega), ?_⟩ | refine rtB ?_ | refine rtI ?_ | refine rtC ?_ rfl | fail)
  · exact ne_len h
  (conv => whnf)
  have hl : a.length = b.length := by omega
  refine lp Nat (fun i => ⟨[(0, .c (.bs 1 Int encI a)), (1, .c (.bs 1 Int encI b)), (12, .c (.int .i64 a.length)), (13, .c (.int .i64 i))], []⟩) (fun i => i ≤ a.length ∧ a.take i = b.take i) (fun i => a.length - i) 0 [] [] ?_ ?_ (fun i hi => ?_)
  · simp
  · repeat' first | exact trivial | exact rfl | refine And.intro ?_ ?_
  (conv => whnf)
  refine dec (fun h4 => ?_) (fun h4 => ?_)
  · have hlt : i < a.length := by omega
    have hlt' : i < b.length := by omega
    (conv => whnf)
    refine ⟨false, (.l [0, 1, 2, 3, 4, 5, 6, 7, 8]), by kernel_rfl, .inl ?_⟩
    repeat' ((conv => whnf); first | (refine dec (fun h => ?_) (fun h => ?_) <;> try contradiction) | (refine decN (fun h => ?_) (fun h => ?_) <;> try contradiction) | refine booN (fun h => ?_) (fun h => ?_) | refine boo (fun h => ?_) (fun h => ?_) | refine ⟨i64 (by omega) (by omega), ?_⟩ | refine ⟨_, _, rfl, List.getElem?_eq_getElem (by omega), ?_⟩ | refine ⟨_, ⟨rfl, by omega⟩, ?_⟩ | refine ⟨_, List.getElem?_eq_getElem (by omega), ?_⟩ | refine rtB ?_ | refine rtI ?_ | refine rtC ?_ rfl | fail)
    · exact ne_at hlt hlt' (fun e => h ((Iff.rfl).2 e))
    · refine ag (i + 1) [] [] ⟨hlt, take_step hlt hlt' hi.2 ((Iff.rfl).1 h)⟩ (by simp only []; omega) ?_
      repeat' first | exact trivial | exact rfl | refine And.intro ?_ ?_
  · repeat' ((conv => whnf); first | (refine dec (fun h => ?_) (fun h => ?_) <;> try contradiction) | (refine decN (fun h => ?_) (fun h => ?_) <;> try contradiction) | refine booN (fun h => ?_) (fun h => ?_) | refine boo (fun h => ?_) (fun h => ?_) | refine ⟨i64 (by omega) (by omega), ?_⟩ | refine ⟨_, _, rfl, List.getElem?_eq_getElem (by omega), ?_⟩ | refine ⟨_, ⟨rfl, by omega⟩, ?_⟩ | refine ⟨_, List.getElem?_eq_getElem (by omega), ?_⟩ | refine rtB ?_ | refine rtI ?_ | refine rtC ?_ rfl | fail)
    exact take_end (by omega) hl hi.2
theorem equalBytes_spec (a b : List UInt8) : Does Tryz.prog 103 [.c (.bs 1 UInt8 bytesC a), .c (.bs 1 UInt8 bytesC b)] [] (Rt (.c (.bool (decide (a = b)))) []) := by
  refine X_spec ⟨Tryz.prog, tab, 26, 0⟩ tabOk (by kernel_rfl) Tryz.call103 Tryz.func103 rfl rfl (by kernel_rfl) rfl ?_
  intro hb; have hb : a.length ≤ 9223372036854775807 := hb.1.1
  repeat' ((conv => whnf); first | (refine dec (fun h => ?_) (fun h => ?_) <;> try contradiction) | (refine decN (fun h => ?_) (fun h => ?_) <;> try contradiction) | refine booN (fun h => ?_) (fun h => ?_) | refine boo (fun h => ?_) (fun h => ?_) | refine ⟨i64 (by omega) (by omega), ?_⟩ | refine ⟨_, _, rfl, List.getElem?_eq_getElem (by omega), ?_⟩ | refine ⟨_, ⟨rfl, by omega⟩, ?_⟩ | refine ⟨_, List.getElem?_eq_getElem (by omega), ?_⟩ | refine rtB ?_ | refine rtI ?_ | refine rtC ?_ rfl | fail)
  · exact ne_len h
  (conv => whnf)
  have hl : a.length = b.length := by omega
  refine lp Nat (fun i => ⟨[(0, .c (.bs 1 UInt8 bytesC a)), (1, .c (.bs 1 UInt8 bytesC b)), (12, .c (.int .i64 a.length)), (13, .c (.int .i64 i))], []⟩) (fun i => i ≤ a.length ∧ a.take i = b.take i) (fun i => a.length - i) 0 [] [] ?_ ?_ (fun i hi => ?_)
  · simp
  · repeat' first | exact trivial | exact rfl | refine And.intro ?_ ?_
  (conv => whnf)
  refine dec (fun h4 => ?_) (fun h4 => ?_)
  · have hlt : i < a.length := by omega
    have hlt' : i < b.length := by omega
    (conv => whnf)
    refine ⟨false, (.l [0, 1, 2, 3, 4, 5, 6, 7, 8]), by kernel_rfl, .inl ?_⟩
    repeat' ((conv => whnf); first | (refine dec (fun h => ?_) (fun h => ?_) <;> try contradiction) | (refine decN (fun h => ?_) (fun h => ?_) <;> try contradiction) | refine booN (fun h => ?_) (fun h => ?_) | refine boo (fun h => ?_) (fun h => ?_) | refine ⟨i64 (by omega) (by omega), ?_⟩ | refine ⟨_, _, rfl, List.getElem?_eq_getElem (by omega), ?_⟩ | refine ⟨_, ⟨rfl, by omega⟩, ?_⟩ | refine ⟨_, List.getElem?_eq_getElem (by omega), ?_⟩ | refine rtB ?_ | refine rtI ?_ | refine rtC ?_ rfl | fail)
    · exact ne_at hlt hlt' (fun e => h ((byte_eq).2 e))
    · refine ag (i + 1) [] [] ⟨hlt, take_step hlt hlt' hi.2 ((byte_eq).1 h)⟩ (by simp only []; omega) ?_
      repeat' first | exact trivial | exact rfl | refine And.intro ?_ ?_
  · repeat' ((conv => whnf); first | (refine dec (fun h => ?_) (fun h => ?_) <;> try contradiction) | (refine decN (fun h => ?_) (fun h => ?_) <;> try contradiction) | refine booN (fun h => ?_) (fun h => ?_) | refine boo (fun h => ?_) (fun h => ?_) | refine ⟨i64 (by omega) (by omega), ?_⟩ | refine ⟨_, _, rfl, List.getElem?_eq_getElem (by omega), ?_⟩ | refine ⟨_, ⟨rfl, by omega⟩, ?_⟩ | refine ⟨_, List.getElem?_eq_getElem (by omega), ?_⟩ | refine rtB ?_ | refine rtI ?_ | refine rtC ?_ rfl | fail)
    exact take_end (by omega) hl hi.2
theorem equalEns_spec (a b : List Ent) : Does Tryz.prog 104 [.c (.bs 4 Ent encEn a), .c (.bs 4 Ent encEn b)] [] (Rt (.c (.bool (decide (a = b)))) []) := by
  refine X_spec ⟨Tryz.prog, tab, 26, 0⟩ tabOk (by kernel_rfl) Tryz.call104 Tryz.func104 rfl rfl (by kernel_rfl) rfl ?_
  intro hb; have hb : a.length ≤ 9223372036854775807 := hb.1.1
  repeat' ((conv => whnf); first | (refine dec (fun h => ?_) (fun h => ?_) <;> try contradiction) | (refine decN (fun h => ?_) (fun h => ?_) <;> try contradiction) | refine booN (fun h => ?_) (fun h => ?_) | refine boo (fun h => ?_) (fun h => ?_) | refine ⟨i64 (by omega) (by omega), ?_⟩ | refine ⟨_, _, rfl, List.getElem?_eq_getElem (by omega), ?_⟩ | refine ⟨_, ⟨rfl, by omega⟩, ?_⟩ | refine ⟨_, List.getElem?_eq_getElem (by omega), ?_⟩ | refine rtB ?_ | refine rtI ?_ | refine rtC ?_ rfl | fail)
  · exact ne_len h
  (conv => whnf)
  have hl : a.length = b.length := by omega
  refine lp Nat (fun i => ⟨[(0, .c (.bs 4 Ent encEn a)), (1, .c (.bs 4 Ent encEn b)), (12, .c (.int .i64 a.length)), (13, .c (.int .i64 i))], []⟩) (fun i => i ≤ a.length ∧ a.take i = b.take i) (fun i => a.length - i) 0 [] [] ?_ ?_ (fun i hi => ?_)
  · simp
  · repeat' first | exact trivial | exact rfl | refine And.intro ?_ ?_
  (conv => whnf)
  refine dec (fun h4 => ?_) (fun h4 => ?_)
  · have hlt : i < a.length := by omega
    have hlt' : i < b.length := by omega
    (conv => whnf)
    refine ⟨false, (.l [0, 1, 2, 3, 4, 5, 6, 7, 8]), by kernel_rfl, .inl ?_⟩
    repeat' ((conv => whnf); first | (refine dec (fun h => ?_) (fun h => ?_) <;> try contradiction) | (refine decN (fun h => ?_) (fun h => ?_) <;> try contradiction) | refine booN (fun h => ?_) (fun h => ?_) | refine boo (fun h => ?_) (fun h => ?_) | refine ⟨i64 (by omega) (by omega), ?_⟩ | refine ⟨_, _, rfl, List.getElem?_eq_getElem (by omega), ?_⟩ | refine ⟨_, ⟨rfl, by omega⟩, ?_⟩ | refine ⟨_, List.getElem?_eq_getElem (by omega), ?_⟩ | refine rtB ?_ | refine rtI ?_ | refine rtC ?_ rfl | fail)
    · exact ne_at hlt hlt' (fun e => h ((eqEn).2 e))
    · refine ag (i + 1) [] [] ⟨hlt, take_step hlt hlt' hi.2 ((eqEn).1 h)⟩ (by simp only []; omega) ?_
      repeat' first | exact trivial | exact rfl | refine And.intro ?_ ?_
  · repeat' ((conv => whnf); first | (refine dec (fun h => ?_) (fun h => ?_) <;> try contradiction) | (refine decN (fun h => ?_) (fun h => ?_) <;> try contradiction) | refine booN (fun h => ?_) (fun h => ?_) | refine boo (fun h => ?_) (fun h => ?_) | refine ⟨i64 (by omega) (by omega), ?_⟩ | refine ⟨_, _, rfl, List.getElem?_eq_getElem (by omega), ?_⟩ | refine ⟨_, ⟨rfl, by omega⟩, ?_⟩ | refine ⟨_, List.getElem?_eq_getElem (by omega), ?_⟩ | refine rtB ?_ | refine rtI ?_ | refine rtC ?_ rfl | fail)
    exact take_end (by omega) hl hi.2

theorem sameBytes_spec (a b : List UInt8) : Does Tryz.prog 106 [.c (.bs 1 UInt8 bytesC a), .c (.bs 1 UInt8 bytesC b)] [] (Rt (.c (.bool (decide (a = b)))) []) := by
  refine X_spec ⟨Tryz.prog, tab, 10, 0⟩ tabOk (by kernel_rfl) Tryz.call106 Tryz.func106 rfl rfl (by kernel_rfl) rfl ?_
  intro hb
  (conv => whnf); refine ⟨a, rfl, ?_⟩
  (conv => whnf); refine ⟨b, rfl, ?_⟩
  (conv => whnf); exact rtC rfl rfl

theorem in_spec (l : List Int) (n : Int) : Does Tryz.prog 63 [.c (.bs 1 Int encI l), .c (.int .i64 n)] [] (Rt (.c (.bool (decide (n ∈ l)))) []) := by
  refine X_spec ⟨Tryz.prog, tab, 18, 0⟩ tabOk (by kernel_rfl) Tryz.call63 Tryz.func63 rfl rfl (by kernel_rfl) rfl ?_
  intro hb; have hb : l.length ≤ 9223372036854775807 := hb.1.1
  (conv => whnf)
  refine lp Nat (fun i => ⟨[(0, .c (.bs 1 Int encI l)), (1, .c (.int .i64 n)), (5, .c (.int .i64 i))], []⟩) (fun i => i ≤ l.length ∧ n ∉ l.take i) (fun i => l.length - i) 0 [] [] ?_ ?_ (fun i hi => ?_)
  · simp
  · repeat' first | exact trivial | exact rfl | refine And.intro ?_ ?_
  (conv => whnf)
  refine dec (fun h4 => ?_) (fun h4 => ?_)
  · have hlt : i < l.length := by omega
    repeat' ((conv => whnf); first | (refine dec (fun h => ?_) (fun h => ?_) <;> try contradiction) | (refine decN (fun h => ?_) (fun h => ?_) <;> try contradiction) | refine booN (fun h => ?_) (fun h => ?_) | refine boo (fun h => ?_) (fun h => ?_) | refine ⟨i64 (by omega) (by omega), ?_⟩ | refine ⟨_, _, rfl, List.getElem?_eq_getElem (by omega), ?_⟩ | refine ⟨_, ⟨rfl, by omega⟩, ?_⟩ | refine ⟨_, List.getElem?_eq_getElem (by omega), ?_⟩ | refine rtB ?_ | refine rtI ?_ | refine rtC ?_ rfl | fail)
    · symm; rw [decide_eq_true_iff, ← h]; exact List.getElem_mem hlt
    · refine ag (i + 1) [] [] ⟨hlt, ?_⟩ (by simp only []; omega) ?_
      · rw [List.take_succ_eq_append_getElem hlt, List.mem_append, List.mem_singleton]
        exact fun e => e.elim hi.2 (fun e => h e.symm)
      repeat' first | exact trivial | exact rfl | refine And.intro ?_ ?_
  · repeat' ((conv => whnf); first | (refine dec (fun h => ?_) (fun h => ?_) <;> try contradiction) | (refine decN (fun h => ?_) (fun h => ?_) <;> try contradiction) | refine booN (fun h => ?_) (fun h => ?_) | refine boo (fun h => ?_) (fun h => ?_) | refine ⟨i64 (by omega) (by omega), ?_⟩ | refine ⟨_, _, rfl, List.getElem?_eq_getElem (by omega), ?_⟩ | refine ⟨_, ⟨rfl, by omega⟩, ?_⟩ | refine ⟨_, List.getElem?_eq_getElem (by omega), ?_⟩ | refine rtB ?_ | refine rtI ?_ | refine rtC ?_ rfl | fail)
    symm; rw [decide_eq_false_iff_not]
    have := hi.2
    rwa [List.take_of_length_le (by omega)] at this

theorem cloneBytes_spec (l : List UInt8) (hl : l.length * 1 ≤ 140737488355328) : Does Tryz.prog 97 [.c (.bs 1 UInt8 bytesC l)] [] (Rt (.c (.rw 0)) [.row 1 UInt8 bytesC l]) := by
  refine X_spec ⟨Tryz.prog, tab, 8, 0⟩ tabOk (by kernel_rfl) Tryz.call97 Tryz.func97 rfl rfl (by kernel_rfl) rfl ?_
  intro hb
  (conv => whnf)
  intro q hq
  (conv => whnf)
  refine boo (fun h => ?_) (fun h => ?_)
  · obtain rfl := hq h
    (conv => whnf)
    refine rt [] [.new] (by repeat' first | exact trivial | exact rfl | refine And.intro ?_ ?_) rfl ⟨rfl, rfl⟩
  · (conv => whnf)
    refine ⟨[], rfl, ?_⟩
    (conv => whnf)
    refine ⟨_, _, rfl, rfl, (by simp only [List.length_append, List.length_cons, List.length_nil]; omega), ?_⟩
    (conv => whnf)
    refine rt [] [.same 1] (by repeat' first | exact trivial | exact rfl | refine And.intro ?_ ?_) rfl ⟨rfl, rfl⟩
theorem cloneEns_spec (l : List Ent) (hl : l.length * 40 ≤ 140737488355328) : Does Tryz.prog 98 [.c (.bs 4 Ent encEn l)] [] (Rt (.c (.rw 0)) [.row 4 Ent encEn l]) := by
  refine X_spec ⟨Tryz.prog, tab, 8, 0⟩ tabOk (by kernel_rfl) Tryz.call98 Tryz.func98 rfl rfl (by kernel_rfl) rfl ?_
  intro hb
  (conv => whnf)
  intro q hq
  (conv => whnf)
  refine boo (fun h => ?_) (fun h => ?_)
  · obtain rfl := hq h
    (conv => whnf)
    refine rt [] [.new] (by repeat' first | exact trivial | exact rfl | refine And.intro ?_ ?_) rfl ⟨rfl, rfl⟩
  · (conv => whnf)
    refine ⟨[], rfl, ?_⟩
    (conv => whnf)
    refine ⟨_, _, rfl, rfl, (by simp only [List.length_append, List.length_cons, List.length_nil]; omega), ?_⟩
    (conv => whnf)
    refine rt [] [.same 1] (by repeat' first | exact trivial | exact rfl | refine And.intro ?_ ?_) rfl ⟨rfl, rfl⟩
theorem cloneInts_spec (l : List Int) (hl : l.length * 8 ≤ 140737488355328) : Does Tryz.prog 99 [.c (.bs 1 Int encI l)] [] (Rt (.c (.rw 0)) [.row 1 Int encI l]) := by
  refine X_spec ⟨Tryz.prog, tab, 8, 0⟩ tabOk (by kernel_rfl) Tryz.call99 Tryz.func99 rfl rfl (by kernel_rfl) rfl ?_
  intro hb
  (conv => whnf)
  intro q hq
  (conv => whnf)
  refine boo (fun h => ?_) (fun h => ?_)
  · obtain rfl := hq h
    (conv => whnf)
    refine rt [] [.new] (by repeat' first | exact trivial | exact rfl | refine And.intro ?_ ?_) rfl ⟨rfl, rfl⟩
  · (conv => whnf)
    refine ⟨[], rfl, ?_⟩
    (conv => whnf)
    refine ⟨_, _, rfl, rfl, (by simp only [List.length_append, List.length_cons, List.length_nil]; omega), ?_⟩
    (conv => whnf)
    refine rt [] [.same 1] (by repeat' first | exact trivial | exact rfl | refine And.intro ?_ ?_) rfl ⟨rfl, rfl⟩
end Go.Nest
end
/- WALKS, 3: objects. -/
section
namespace Go.Nest
open Go Go.AM Go.Proofs
open Go.Proofs.YtkoiljgjipmhbaaGreatDoor (tab tabOk)
set_option linter.unusedVariables false
set_option linter.unusedSimpArgs false
set_option maxRecDepth 4000

/-- what is wrong with an entry behind another one -/
def entF (prev : Option (List UInt8)) (e : Ent) : Int :=
  if nameC e.name ≠ 0 then nameC e.name else if e.mode < 1 ∨ 3 < e.mode then 6 else if e.id < 0 ∨ e.repo < 0 ∨ 4 ≤ e.repo then 1 else if e.mode ≠ 3 ∧ e.repo ≠ 0 then 7
  else match prev with
    | some p => if Op.bytesLess p e.name = true then 0 else 8
    | none => 0
def entsF : Option (List UInt8) → List Ent → Int
  | _, [] => 0
  | prev, e :: r => if entF prev e = 0 then entsF (some e.name) r else entF prev e
def prevN (l : List Ent) : Nat → Option (List UInt8)
  | 0 => none
  | i + 1 => (l[i]?).map (·.name)
def treeC (l : List Ent) : Int := if 60 < l.length then 5 else entsF none l

theorem entsF_at {l : List Ent} {i : Nat} (h : i < l.length) (hi : entsF none l = entsF (prevN l i) (l.drop i)) : entsF none l = if entF (prevN l i) l[i] = 0 then entsF (prevN l (i + 1)) (l.drop (i + 1)) else entF (prevN l i) l[i] := by
  rw [hi, List.drop_eq_getElem_cons h]
  have : prevN l (i + 1) = some l[i].name := by simp [prevN, h]
  rw [this, entsF]

theorem prevN_pos {l : List Ent} {i : Nat} (h : 0 < i) (hi : i < l.length) : prevN l i = some (l[i - 1]'(by omega)).name := by
  cases i with
  | zero => omega
  | succ j => simp only [prevN]; rw [List.getElem?_eq_getElem (by omega)]; rfl

theorem tree_spec (l : List Ent) : Does Tryz.prog 102 [.c (.bs 4 Ent encEn l)] [] (Rt (.c (.int .i64 (treeC l))) []) := by
  refine X_spec ⟨Tryz.prog, tab, 69, 0⟩ tabOk (by kernel_rfl) Tryz.call102 Tryz.func102 rfl rfl (by kernel_rfl) rfl ?_
  intro hb; have hb : l.length ≤ 9223372036854775807 := hb.1.1
  repeat' ((conv => whnf); first | (refine dec (fun h => ?_) (fun h => ?_) <;> try contradiction) | (refine decN (fun h => ?_) (fun h => ?_) <;> try contradiction) | refine booN (fun h => ?_) (fun h => ?_) | refine boo (fun h => ?_) (fun h => ?_) | refine ⟨i64 (by omega) (by omega), ?_⟩ | refine ⟨_, _, rfl, List.getElem?_eq_getElem (by omega), ?_⟩ | refine ⟨_, ⟨rfl, by omega⟩, ?_⟩ | refine ⟨_, List.getElem?_eq_getElem (by omega), ?_⟩ | refine rtB ?_ | refine rtI ?_ | refine rtC ?_ rfl | fail)
  · unfold treeC; rw [if_pos (by omega)]
  (conv => whnf)
  have ht : treeC l = entsF none l := by unfold treeC; rw [if_neg (by omega)]
  rw [ht]
  refine lp Nat (fun i => ⟨[(0, .c (.bs 4 Ent encEn l)), (9, .c (.bs 4 Ent encEn l)), (10, .c (.int .i64 l.length)), (11, .c (.int .i64 i))], []⟩) (fun i => i ≤ l.length ∧ entsF none l = entsF (prevN l i) (l.drop i)) (fun i => l.length - i) 0 [] [] ?_ ?_ (fun i hi => ?_)
  · simp [prevN]
  · repeat' first | exact trivial | exact rfl | refine And.intro ?_ ?_
  (conv => whnf)
  refine dec (fun h4 => ?_) (fun h4 => ?_)
  · have hlt : i < l.length := by omega
    have hat := entsF_at hlt hi.2
    repeat' ((conv => whnf); first | (refine dec (fun h => ?_) (fun h => ?_) <;> try contradiction) | (refine decN (fun h => ?_) (fun h => ?_) <;> try contradiction) | refine booN (fun h => ?_) (fun h => ?_) | refine boo (fun h => ?_) (fun h => ?_) | refine ⟨i64 (by omega) (by omega), ?_⟩ | refine ⟨_, _, rfl, List.getElem?_eq_getElem (by omega), ?_⟩ | refine ⟨_, ⟨rfl, by omega⟩, ?_⟩ | refine ⟨_, List.getElem?_eq_getElem (by omega), ?_⟩ | refine rtB ?_ | refine rtI ?_ | refine rtC ?_ rfl | fail)
    (conv => whnf)
    refine cl [] [] (name_spec l[i].name) (by (repeat' first | exact trivial | exact rfl | refine And.intro ?_ ?_); first | done | fail) (by first | exact trivial | exact rfl) ?_
    have leaf : ∀ {c : Int}, entF (prevN l i) l[i] = c → c ≠ 0 → c = entsF none l := fun h1 h2 => by rw [hat, h1, if_neg h2]
    repeat' ((conv => whnf); first | (refine dec (fun h => ?_) (fun h => ?_) <;> try contradiction) | (refine decN (fun h => ?_) (fun h => ?_) <;> try contradiction) | refine booN (fun h => ?_) (fun h => ?_) | refine boo (fun h => ?_) (fun h => ?_) | refine ⟨i64 (by omega) (by omega), ?_⟩ | refine ⟨_, _, rfl, List.getElem?_eq_getElem (by omega), ?_⟩ | refine ⟨_, ⟨rfl, by omega⟩, ?_⟩ | refine ⟨_, List.getElem?_eq_getElem (by omega), ?_⟩ | refine rtB ?_ | refine rtI ?_ | refine rtC ?_ rfl | fail)
    all_goals first | (refine leaf ?_ ?_ <;> simp [entF, *]; done) | skip
    all_goals
      (conv => whnf)
      refine ⟨false, (.l [0, 1, 2, 3, 4, 5, 6, 7, 8, 9, 10, 11, 12, 13]), by kernel_rfl, .inl ?_⟩
      repeat' ((conv => whnf); first | (refine dec (fun h => ?_) (fun h => ?_) <;> try contradiction) | (refine decN (fun h => ?_) (fun h => ?_) <;> try contradiction) | refine booN (fun h => ?_) (fun h => ?_) | refine boo (fun h => ?_) (fun h => ?_) | refine ⟨i64 (by omega) (by omega), ?_⟩ | refine ⟨_, _, rfl, List.getElem?_eq_getElem (by omega), ?_⟩ | refine ⟨_, ⟨rfl, by omega⟩, ?_⟩ | refine ⟨_, List.getElem?_eq_getElem (by omega), ?_⟩ | refine rtB ?_ | refine rtI ?_ | refine rtC ?_ rfl | fail)
      · (conv => whnf)
        refine ⟨i - 1, l[i - 1], by omega, List.getElem?_eq_getElem (by omega), ?_⟩
        have hp := prevN_pos (l := l) (i := i) (by omega) hlt
        repeat' ((conv => whnf); first | (refine dec (fun h => ?_) (fun h => ?_) <;> try contradiction) | (refine decN (fun h => ?_) (fun h => ?_) <;> try contradiction) | refine booN (fun h => ?_) (fun h => ?_) | refine boo (fun h => ?_) (fun h => ?_) | refine ⟨i64 (by omega) (by omega), ?_⟩ | refine ⟨_, _, rfl, List.getElem?_eq_getElem (by omega), ?_⟩ | refine ⟨_, ⟨rfl, by omega⟩, ?_⟩ | refine ⟨_, List.getElem?_eq_getElem (by omega), ?_⟩ | refine rtB ?_ | refine rtI ?_ | refine rtC ?_ rfl | fail)
        · refine leaf ?_ (by decide); simp [entF, *]
        · refine ag (i + 1) [] [] ⟨hlt, ?_⟩ (by simp only []; omega) ?_
          · rw [hat, if_pos]; simp [entF, *]
          repeat' first | exact trivial | exact rfl | refine And.intro ?_ ?_
      · have hp : prevN l i = none := by
          obtain rfl : i = 0 := by omega
          rfl
        repeat' ((conv => whnf); first | (refine dec (fun h => ?_) (fun h => ?_) <;> try contradiction) | (refine decN (fun h => ?_) (fun h => ?_) <;> try contradiction) | refine booN (fun h => ?_) (fun h => ?_) | refine boo (fun h => ?_) (fun h => ?_) | refine ⟨i64 (by omega) (by omega), ?_⟩ | refine ⟨_, _, rfl, List.getElem?_eq_getElem (by omega), ?_⟩ | refine ⟨_, ⟨rfl, by omega⟩, ?_⟩ | refine ⟨_, List.getElem?_eq_getElem (by omega), ?_⟩ | refine rtB ?_ | refine rtI ?_ | refine rtC ?_ rfl | fail)
        refine ag (i + 1) [] [] ⟨hlt, ?_⟩ (by simp only []; omega) ?_
        · rw [hat, if_pos]; simp [entF, *]
        repeat' first | exact trivial | exact rfl | refine And.intro ?_ ?_
  · repeat' ((conv => whnf); first | (refine dec (fun h => ?_) (fun h => ?_) <;> try contradiction) | (refine decN (fun h => ?_) (fun h => ?_) <;> try contradiction) | refine booN (fun h => ?_) (fun h => ?_) | refine boo (fun h => ?_) (fun h => ?_) | refine ⟨i64 (by omega) (by omega), ?_⟩ | refine ⟨_, _, rfl, List.getElem?_eq_getElem (by omega), ?_⟩ | refine ⟨_, ⟨rfl, by omega⟩, ?_⟩ | refine ⟨_, List.getElem?_eq_getElem (by omega), ?_⟩ | refine rtB ?_ | refine rtI ?_ | refine rtC ?_ rfl | fail)
    have := hi.2
    rw [List.drop_of_length_le (by omega)] at this
    rw [this]; rfl
end Go.Nest
end
