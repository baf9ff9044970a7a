/- part -/
import Derived.Test.YtpmjnbidmcnhnaaGreatDoorG9
import Derived.Test.YtpmjnbidmcnhnaaGreatDoorS5
import Derived.Test.YtpmjnbidmcnhnaaGreatDoorP9
set_option linter.unusedVariables false
set_option linter.unusedSimpArgs false
section

namespace Go.Nest
open Go Go.AM Go.Proofs
open Go.Proofs.YtpmjnbidmcnhnaaGreatDoor (tab tabOk)
set_option maxRecDepth 4000
theorem eqFi {a b : Fi} : EqCs (encFi a) (encFi b) ↔ a = b := by
 cases a; cases b; simp [encFi, EqCs, EqC]
theorem sameFiles_spec (a b : List Fi) : Does Tryz.prog 18 [.c (.bs 4 Fi encFi a), .c (.bs 4 Fi encFi b)] [] (Rt (.c (.bool (decide (a = b)))) []) := by
 refine X_spec (n := 26) (n0 := 0) tabOk Tryz.call18 Tryz.func18 ?_
 intro hb; have hb : a.length ≤ 9223372036854775807 := hb.1.1
 repeat' ((conv => whnf); first | (refine dec (fun h => ?_) (fun h => ?_) <;> try contradiction) | (refine decN (fun h => ?_) (fun h => ?_) <;> try contradiction) | refine booN (fun h => ?_) (fun h => ?_) | refine boo (fun h => ?_) (fun h => ?_) | refine ⟨i64 (by omega) (by omega), ?_⟩ | refine ⟨_, _, rfl, List.getElem?_eq_getElem (by omega), ?_⟩ | refine ⟨_, ⟨rfl, by omega⟩, ?_⟩ | refine ⟨_, List.getElem?_eq_getElem (by omega), ?_⟩ | refine rtB ?_ | refine rtI ?_ | refine rtC ?_ rfl | fail)
 ·exact ne_len h
 (conv => whnf)
 have hl : a.length = b.length := by omega
 refine lp Nat (fun i => ⟨[(0, .c (.bs 4 Fi encFi a)), (1, .c (.bs 4 Fi encFi b)), (5, .c (.int .i64 i))], []⟩) (fun i => i ≤ a.length ∧ a.take i = b.take i) (fun i => a.length - i) 0 [] [] ?_ ?_ (fun i hi => ?_)
 ·simp
 ·repeat' first | exact trivial | exact rfl | refine And.intro ?_ ?_
 (conv => whnf)
 refine dec (fun h4 => ?_) (fun h4 => ?_)
 ·have hlt : i < a.length := by omega
  have hlt' : i < b.length := by omega
  (conv => whnf)
  refine ⟨false, .grow, (.l [0, 1, 2, 3, 4, 5, 6, 7, 8]), by kernel_rfl, .inl ?_⟩
  repeat' ((conv => whnf); first | (refine dec (fun h => ?_) (fun h => ?_) <;> try contradiction) | (refine decN (fun h => ?_) (fun h => ?_) <;> try contradiction) | refine booN (fun h => ?_) (fun h => ?_) | refine boo (fun h => ?_) (fun h => ?_) | refine ⟨i64 (by omega) (by omega), ?_⟩ | refine ⟨_, _, rfl, List.getElem?_eq_getElem (by omega), ?_⟩ | refine ⟨_, ⟨rfl, by omega⟩, ?_⟩ | refine ⟨_, List.getElem?_eq_getElem (by omega), ?_⟩ | refine rtB ?_ | refine rtI ?_ | refine rtC ?_ rfl | fail)
  ·exact ne_at hlt hlt' (fun e => h ((eqFi).2 e))
  ·refine ag (i + 1) [] [] ⟨hlt, take_step hlt hlt' hi.2 ((eqFi).1 h)⟩ (by simp only []; omega) ?_
   repeat' first | exact trivial | exact rfl | refine And.intro ?_ ?_
 ·repeat' ((conv => whnf); first | (refine dec (fun h => ?_) (fun h => ?_) <;> try contradiction) | (refine decN (fun h => ?_) (fun h => ?_) <;> try contradiction) | refine booN (fun h => ?_) (fun h => ?_) | refine boo (fun h => ?_) (fun h => ?_) | refine ⟨i64 (by omega) (by omega), ?_⟩ | refine ⟨_, _, rfl, List.getElem?_eq_getElem (by omega), ?_⟩ | refine ⟨_, ⟨rfl, by omega⟩, ?_⟩ | refine ⟨_, List.getElem?_eq_getElem (by omega), ?_⟩ | refine rtB ?_ | refine rtI ?_ | refine rtC ?_ rfl | fail)
  exact take_end (by omega) hl hi.2
theorem cloneTexts_spec (l : List (List UInt8)) (hl : l.length * 16 ≤ 140737488355328) : Does Tryz.prog 111 [.c (.bs 1 (List UInt8) encS l)] [] (Rt (.c (.rw 0)) [.row 1 (List UInt8) encS l]) := by
 refine X_spec (n := 8) (n0 := 0) tabOk Tryz.call111 Tryz.func111 ?_
 intro hb
 (conv => whnf)
 intro q hq
 (conv => whnf)
 refine boo (fun h => ?_) (fun h => ?_)
 ·obtain rfl := hq h
  (conv => whnf)
  exact rx [] [.new]
 ·(conv => whnf)
  refine ⟨[], rfl, ?_⟩
  (conv => whnf)
  refine ⟨_, _, rfl, rfl, (by simp only [List.length_append, List.length_cons, List.length_nil]; omega), ?_⟩
  (conv => whnf)
  exact rx [] [.same 1]
theorem cutL_spec (s : List UInt8) : Does Tryz.prog 151 [.c (.str s), .c (.str [47])] [] (Rt (.tup [(false, [.str (cutP s).1]), (false, [.str (cutP s).2.1]), (false, [.bool (cutP s).2.2])]) []) := by
 refine X_spec (n := 23) (n0 := 0) tabOk Tryz.call151 Tryz.func151 ?_
 intro hb
 have hb : s.length ≤ 9223372036854775807 := hb.1.1
 (conv => whnf)
 refine cl [] [] (sliteIndex_spec s) ?_
 repeat' ((conv => whnf); first | (refine dec (fun h => ?_) (fun h => ?_) <;> try contradiction) | (refine decN (fun h => ?_) (fun h => ?_) <;> try contradiction) | refine booN (fun h => ?_) (fun h => ?_) | refine boo (fun h => ?_) (fun h => ?_) | refine ⟨i64 (by omega) (by omega), ?_⟩ | refine ⟨_, _, rfl, List.getElem?_eq_getElem (by omega), ?_⟩ | refine ⟨_, ⟨rfl, by omega⟩, ?_⟩ | refine ⟨_, List.getElem?_eq_getElem (by omega), ?_⟩ | refine rtB ?_ | refine rtI ?_ | refine rtC ?_ rfl | fail)
 ·have hlt : (Lib.indexByte s 47).toNat < s.length := by
   by_cases hc : s.count 47 = 0
   ·rw [idx_none hc] at h; omega
   ·obtain ⟨m, h1, h2, _⟩ := idx_stroke (l := s) (by omega)
    omega
  have hc : cutP s = (s.take (Lib.indexByte s 47).toNat, s.drop ((Lib.indexByte s 47).toNat + 1), true) := by unfold cutP; rw [if_pos h]
  rw [hc]
  (conv => whnf)
  refine ⟨false, .grow, (.l [0, 1, 2, 3, 4, 5, 6, 7, 8, 9, 10, 11]), by kernel_rfl, .inl ?_⟩
  (conv => whnf)
  refine ⟨0, (Lib.indexByte s 47).toNat, rfl, (Int.toNat_of_nonneg h).symm, ⟨Nat.zero_le _, by omega⟩, ?_⟩
  refine ⟨i64 (by simp; omega) (by simp; omega), ?_⟩
  (conv => whnf)
  refine ⟨(Lib.indexByte s 47).toNat + 1, s.length, ?_, rfl, ⟨by omega, Nat.le_refl _⟩, ?_⟩
  ·simp; omega
  (conv => whnf)
  have e1 : s.take s.length = s := List.take_of_length_le (Nat.le_refl _)
  rw [e1]
  exact rx [] []
 ·have hc : cutP s = (s, [], false) := by unfold cutP; rw [if_neg h]
  rw [hc]
  (conv => whnf)
  exact rx [] []
theorem cut_spec (s : List UInt8) : Does Tryz.prog 131 [.c (.str s), .c (.str [47])] [] (Rt (.tup [(false, [.str (cutP s).1]), (false, [.str (cutP s).2.1]), (false, [.bool (cutP s).2.2])]) []) := by
 refine X_spec (n := 13) (n0 := 0) tabOk Tryz.call131 Tryz.func131 ?_
 intro hb
 (conv => whnf)
 refine cl [] [] (cutL_spec s) ?_
 (conv => whnf)
 exact rx [] []
end Go.Nest
end
/- part -/
section

namespace Go.Nest
open Go Go.AM Go.Proofs
open Go.Proofs.YtpmjnbidmcnhnaaGreatDoor (tab tabOk)
set_option maxRecDepth 4000
end Go.Nest
end
