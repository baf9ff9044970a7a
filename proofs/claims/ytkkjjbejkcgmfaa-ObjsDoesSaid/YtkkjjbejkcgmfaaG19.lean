/- WALKS, 19: what bytes are. -/
import Derived.Test.YtkkjjbejkcgmfaaG18
namespace Go.Nest
open Go Go.AM Go.Proofs
open Go.Proofs.Ytkkjjbejkcgmfaa (tab tabOk)
set_option linter.unusedVariables false
set_option linter.unusedSimpArgs false
set_option maxRecDepth 4000

set_option maxHeartbeats 4000000 in
theorem decode_spec (b : List UInt8) (hb : b.length ≤ 1000000) : Does Try.prog 25 [.c (.ls 1 UInt8 bytesC b)] [] (Rt (.tup [(true, encOb (decO b)), (false, [.int .i64 (decC b)])]) []) := by
  refine X_rec (g := 60) (d := 5) ⟨Try.prog, tab, 28, 0⟩ tabOk (by kernel_rfl) Try.call25 Try.func25 rfl rfl (by kernel_rfl) rfl rfl rfl rfl rfl rfl rfl (by kernel_rfl) Try.call60 ?_
  intro _
  (conv => whnf)
  refine ⟨_, ⟨rfl, rfl⟩, ?_⟩
  refine XM.of ?_
  (conv => whnf)
  refine clR [2] (object_spec b hb) (by repeat' first | exact trivial | exact rfl | refine And.intro ?_ ?_) (fun x r h => ?_) (fun h r => ?_)
  · have hc : decC b = if objF x = 0 then (if r = [] then 0 else 7) else objF x := by unfold decC; rw [h]
    have ho : decO b = if objF x = 0 ∧ r = [] then x else ob0 := by unfold decO; rw [h]
    (conv => whnf)
    refine cl [] [] (check_spec x) (by (repeat' first | exact trivial | exact rfl | refine And.intro ?_ ?_); done) (by first | exact trivial | exact rfl) ?_
    repeat' ((conv => whnf); first | (refine dec (fun h => ?_) (fun h => ?_) <;> try contradiction) | (refine decN (fun h => ?_) (fun h => ?_) <;> try contradiction) | refine booN (fun h => ?_) (fun h => ?_) | refine boo (fun h => ?_) (fun h => ?_) | refine ⟨i64 (by omega) (by omega), ?_⟩ | refine ⟨_, _, rfl, List.getElem?_eq_getElem (by omega), ?_⟩ | refine ⟨_, ⟨rfl, by omega⟩, ?_⟩ | refine ⟨_, List.getElem?_eq_getElem (by omega), ?_⟩ | refine rtB ?_ | refine rtI ?_ | refine rtC ?_ rfl | fail)
    · have h0 : objF x = 0 := by assumption
      have hr : r ≠ [] := fun e => by rw [e] at h; simp at h
      have e1 : decC b = 7 := by rw [hc, if_pos h0, if_neg hr]
      have e2 : decO b = ob0 := by rw [ho, if_neg (fun e => hr e.2)]
      rw [e1, e2]
      refine ⟨true, (.alt [] [0, 1] fun j => bif Nat.beq j 0 then (.alt [] [1, 2] fun j => bif Nat.beq j 1 then (.l [2, 3]) else bif Nat.beq j 2 then (.l [1, 3]) else .l []) else bif Nat.beq j 1 then (.l [0, 2, 3]) else .l []), by kernel_rfl, .inl ?_⟩
      repeat' ((conv => whnf); refine And.intro ?_ ?_)
      all_goals
        (conv => whnf)
        refine idle_spec rfl ?_
        (conv => whnf)
        refine rt [] [] (by repeat' first | exact trivial | exact rfl | refine And.intro ?_ ?_) rfl ⟨rfl, rfl⟩
    · have h0 : objF x = 0 := h
      have hr : r = [] := List.eq_nil_of_length_eq_zero (by omega)
      have e1 : decC b = objF x := by rw [hc, if_pos h0, if_pos hr, h0]
      have e2 : decO b = x := by rw [ho, if_pos ⟨h0, hr⟩]
      rw [e1, e2]
      refine ⟨true, (.alt [] [0, 1] fun j => bif Nat.beq j 0 then (.alt [] [1, 2] fun j => bif Nat.beq j 1 then (.l [2, 3]) else bif Nat.beq j 2 then (.l [1, 3]) else .l []) else bif Nat.beq j 1 then (.l [0, 2, 3]) else .l []), by kernel_rfl, .inl ?_⟩
      repeat' ((conv => whnf); refine And.intro ?_ ?_)
      all_goals
        (conv => whnf)
        refine idle_spec rfl ?_
        (conv => whnf)
        refine rt [] [] (by repeat' first | exact trivial | exact rfl | refine And.intro ?_ ?_) rfl ⟨rfl, rfl⟩
    · have h0 : ¬ objF x = 0 := h
      have e1 : decC b = objF x := by rw [hc, if_neg h0]
      have e2 : decO b = ob0 := by rw [ho, if_neg (fun e => h0 e.1)]
      rw [e1, e2]
      refine ⟨true, (.alt [] [0, 1] fun j => bif Nat.beq j 0 then (.alt [] [1, 2] fun j => bif Nat.beq j 1 then (.l [2, 3]) else bif Nat.beq j 2 then (.l [1, 3]) else .l []) else bif Nat.beq j 1 then (.l [0, 2, 3]) else .l []), by kernel_rfl, .inl ?_⟩
      repeat' ((conv => whnf); refine And.intro ?_ ?_)
      all_goals
        (conv => whnf)
        refine idle_spec rfl ?_
        (conv => whnf)
        refine rt [] [] (by repeat' first | exact trivial | exact rfl | refine And.intro ?_ ?_) rfl ⟨rfl, rfl⟩
  · have hc : decC b = 7 := by unfold decC; rw [h]
    have ho : decO b = ob0 := by unfold decO; rw [h]
    rw [hc, ho]
    (conv => whnf)
    refine catch_spec ?_
    (conv => whnf)
    refine rt [] [] (by repeat' first | exact trivial | exact rfl | refine And.intro ?_ ?_) rfl ⟨rfl, rfl⟩
end Go.Nest
