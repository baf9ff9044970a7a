/- part -/
import Derived.Test.YtpmjnbidmcnhnaaGreatDoorF7
import Derived.Test.YtpmjnbidmcnhnaaGreatDoorG12
set_option linter.unusedVariables false
set_option linter.unusedSimpArgs false
section

namespace Go.Nest
open Go Go.AM Go.Proofs
open Go.Proofs.YtpmjnbidmcnhnaaGreatDoor (tab tabOk)
set_option maxRecDepth 4000
end Go.Nest
end
/- part -/
section

namespace Go.Nest
open Go Go.AM Go.Proofs
open Go.Proofs.YtpmjnbidmcnhnaaGreatDoor (tab tabOk)
set_option maxRecDepth 4000
set_option maxHeartbeats 2000000 in
theorem fault_spec' (l : List Fi) (hl : l.length ≤ 60) (hp : ∀ f ∈ l, f.path.length ≤ 4000000) : Does Tryz.prog 66 [.c (.bs 4 Fi encFi l)] [] (Rt (.c (.int .i64 (checkF none l))) []) := by
 refine X_spec (n := 78) (n0 := 0) tabOk Tryz.call66 Tryz.func66 ?_
 intro hb
 (conv => whnf)
 refine dec (fun h => by omega) (fun h0 => ?_)
 (conv => whnf)
 refine lp Nat (fun i => ⟨[(0, .c (.bs 4 Fi encFi l)), (3, .c (.int .i64 i))], []⟩) (fun i => i ≤ l.length ∧ checkF none l = checkF (prevX l i) (l.drop i)) (fun i => l.length - i) 0 [] [] ?_ ?_ (fun i hi => ?_)
 ·exact ⟨Nat.zero_le _, rfl⟩
 ·repeat' first | exact trivial | exact rfl | refine And.intro ?_ ?_
 obtain ⟨h1, hat⟩ := hi
 (conv => whnf)
 refine dec (fun h4 => ?_) (fun h4 => ?_)
 ·have hlt : i < l.length := by omega
  rw [checkF_at hlt] at hat
  (conv => whnf)
  refine ⟨i, l[i], rfl, List.getElem?_eq_getElem hlt, ?_⟩
  (conv => whnf)
  refine cl [] [] (pathOf_spec l[i].path (hp _ (List.getElem_mem _))) ?_
  (conv => whnf)
  refine decN (fun h5 => ?_) (fun h5 => ?_)
  ·rw [if_pos h5] at hat
   repeat' ((conv => whnf); first | (refine dec (fun h => ?_) (fun h => ?_) <;> try contradiction) | (refine decN (fun h => ?_) (fun h => ?_) <;> try contradiction) | refine booN (fun h => ?_) (fun h => ?_) | refine boo (fun h => ?_) (fun h => ?_) | refine ⟨i64 (by omega) (by omega), ?_⟩ | refine ⟨_, _, rfl, List.getElem?_eq_getElem (by omega), ?_⟩ | refine ⟨_, ⟨rfl, by omega⟩, ?_⟩ | refine ⟨_, List.getElem?_eq_getElem (by omega), ?_⟩ | refine rtB ?_ | refine rtI ?_ | refine rtC ?_ rfl | fail)
   exact hat.symm
  ·rw [if_neg (by simpa using h5)] at hat
   (conv => whnf)
   refine ⟨i, l[i], rfl, List.getElem?_eq_getElem hlt, ?_⟩
   (conv => whnf)
   refine decN (fun h6 => ?_) (fun h6 => ?_)
   ·(conv => whnf)
    refine ⟨i, l[i], rfl, List.getElem?_eq_getElem hlt, ?_⟩
    (conv => whnf)
    refine decN (fun h7 => ?_) (fun h7 => ?_)
    ·rw [if_pos ⟨h6, h7⟩] at hat
     repeat' ((conv => whnf); first | (refine dec (fun h => ?_) (fun h => ?_) <;> try contradiction) | (refine decN (fun h => ?_) (fun h => ?_) <;> try contradiction) | refine booN (fun h => ?_) (fun h => ?_) | refine boo (fun h => ?_) (fun h => ?_) | refine ⟨i64 (by omega) (by omega), ?_⟩ | refine ⟨_, _, rfl, List.getElem?_eq_getElem (by omega), ?_⟩ | refine ⟨_, ⟨rfl, by omega⟩, ?_⟩ | refine ⟨_, List.getElem?_eq_getElem (by omega), ?_⟩ | refine rtB ?_ | refine rtI ?_ | refine rtC ?_ rfl | fail)
     exact hat.symm
    ·rw [if_neg (fun h => h.2 h7)] at hat
     (conv => whnf)
     refine ⟨false, .grow, (.l [0, 1, 2, 3, 4, 5, 6, 7, 8, 9, 10, 11, 12, 13, 14, 15, 16]), by kernel_rfl, .inl ?_⟩
     (conv => whnf)
     refine dec (fun h7 => ?_) (fun h7 => ?_)
     ·have hi0 : 0 < i := by omega
      have hpv : prevX l i = some l[i - 1] := by
       obtain ⟨j, rfl⟩ : ∃ j, i = j + 1 := ⟨i - 1, by omega⟩
       exact List.getElem?_eq_getElem (by omega)
      (conv => whnf)
      refine ⟨i64 (by omega) (by omega), ?_⟩
      (conv => whnf)
      refine ⟨i - 1, l[i - 1], by omega, List.getElem?_eq_getElem (by omega), ?_⟩
      (conv => whnf)
      refine ⟨i, l[i], rfl, List.getElem?_eq_getElem hlt, ?_⟩
      (conv => whnf)
      refine cl [] [] (ahead_spec l[i - 1].path l[i].path (hp _ (List.getElem_mem _)) (hp _ (List.getElem_mem _))) ?_
      (conv => whnf)
      refine booN (fun h8 => ?_) (fun h8 => ?_)
      ·have hc : clashF (prevX l i) l[i] = 8 := by rw [hpv]; unfold clashF; simp [h8]
       rw [hc, if_pos (by decide)] at hat
       repeat' ((conv => whnf); first | (refine dec (fun h => ?_) (fun h => ?_) <;> try contradiction) | (refine decN (fun h => ?_) (fun h => ?_) <;> try contradiction) | refine booN (fun h => ?_) (fun h => ?_) | refine boo (fun h => ?_) (fun h => ?_) | refine ⟨i64 (by omega) (by omega), ?_⟩ | refine ⟨_, _, rfl, List.getElem?_eq_getElem (by omega), ?_⟩ | refine ⟨_, ⟨rfl, by omega⟩, ?_⟩ | refine ⟨_, List.getElem?_eq_getElem (by omega), ?_⟩ | refine rtB ?_ | refine rtI ?_ | refine rtC ?_ rfl | fail)
       exact hat.symm
      ·(conv => whnf)
       refine dec (fun _ => ?_) (fun h => absurd h7 h)
       (conv => whnf)
       refine ⟨false, .grow, (.l [0, 1, 2, 3, 4, 5, 6, 7, 8, 9, 10, 11, 12, 13, 14, 15, 16]), by kernel_rfl, .inl ?_⟩
       (conv => whnf)
       refine ⟨i, l[i], rfl, List.getElem?_eq_getElem hlt, ?_⟩
       (conv => whnf)
       refine ⟨i64 (by omega) (by omega), ?_⟩
       (conv => whnf)
       refine ⟨i - 1, l[i - 1], by omega, List.getElem?_eq_getElem (by omega), ?_⟩
       (conv => whnf)
       refine cl [] [] (behind_spec l[i].path l[i - 1].path (hp _ (List.getElem_mem _))) ?_
       rw [underP_is]
       (conv => whnf)
       refine boo (fun h9 => ?_) (fun h9 => ?_)
       ·have hc : clashF (prevX l i) l[i] = 10 := by rw [hpv]; unfold clashF; simp [h8, h9]
        rw [hc, if_pos (by decide)] at hat
        repeat' ((conv => whnf); first | (refine dec (fun h => ?_) (fun h => ?_) <;> try contradiction) | (refine decN (fun h => ?_) (fun h => ?_) <;> try contradiction) | refine booN (fun h => ?_) (fun h => ?_) | refine boo (fun h => ?_) (fun h => ?_) | refine ⟨i64 (by omega) (by omega), ?_⟩ | refine ⟨_, _, rfl, List.getElem?_eq_getElem (by omega), ?_⟩ | refine ⟨_, ⟨rfl, by omega⟩, ?_⟩ | refine ⟨_, List.getElem?_eq_getElem (by omega), ?_⟩ | refine rtB ?_ | refine rtI ?_ | refine rtC ?_ rfl | fail)
        exact hat.symm
       ·have hc : clashF (prevX l i) l[i] = 0 := by rw [hpv]; unfold clashF; simp [h8, h9]
        rw [hc, if_neg (by decide)] at hat
        repeat' ((conv => whnf); refine I6 ?_)
        refine ag (i + 1) [] [] ⟨hlt, hat⟩ (by simp only []; omega) ?_
        repeat' first | exact trivial | exact rfl | refine And.intro ?_ ?_
     ·obtain rfl : i = 0 := by omega
      have hc : clashF (prevX l 0) l[0] = 0 := rfl
      rw [hc, if_neg (by decide)] at hat
      repeat' ((conv => whnf); refine I6 ?_)
      refine ag (0 + 1) [] [] ⟨hlt, hat⟩ (by simp only []; omega) ?_
      repeat' first | exact trivial | exact rfl | refine And.intro ?_ ?_
   ·rw [if_neg (fun h => h.1 h6)] at hat
    (conv => whnf)
    refine ⟨false, .grow, (.l [0, 1, 2, 3, 4, 5, 6, 7, 8, 9, 10, 11, 12, 13, 14, 15, 16]), by kernel_rfl, .inl ?_⟩
    (conv => whnf)
    refine dec (fun h7 => ?_) (fun h7 => ?_)
    ·have hi0 : 0 < i := by omega
     have hpv : prevX l i = some l[i - 1] := by
      obtain ⟨j, rfl⟩ : ∃ j, i = j + 1 := ⟨i - 1, by omega⟩
      exact List.getElem?_eq_getElem (by omega)
     (conv => whnf)
     refine ⟨i64 (by omega) (by omega), ?_⟩
     (conv => whnf)
     refine ⟨i - 1, l[i - 1], by omega, List.getElem?_eq_getElem (by omega), ?_⟩
     (conv => whnf)
     refine ⟨i, l[i], rfl, List.getElem?_eq_getElem hlt, ?_⟩
     (conv => whnf)
     refine cl [] [] (ahead_spec l[i - 1].path l[i].path (hp _ (List.getElem_mem _)) (hp _ (List.getElem_mem _))) ?_
     (conv => whnf)
     refine booN (fun h8 => ?_) (fun h8 => ?_)
     ·have hc : clashF (prevX l i) l[i] = 8 := by rw [hpv]; unfold clashF; simp [h8]
      rw [hc, if_pos (by decide)] at hat
      repeat' ((conv => whnf); first | (refine dec (fun h => ?_) (fun h => ?_) <;> try contradiction) | (refine decN (fun h => ?_) (fun h => ?_) <;> try contradiction) | refine booN (fun h => ?_) (fun h => ?_) | refine boo (fun h => ?_) (fun h => ?_) | refine ⟨i64 (by omega) (by omega), ?_⟩ | refine ⟨_, _, rfl, List.getElem?_eq_getElem (by omega), ?_⟩ | refine ⟨_, ⟨rfl, by omega⟩, ?_⟩ | refine ⟨_, List.getElem?_eq_getElem (by omega), ?_⟩ | refine rtB ?_ | refine rtI ?_ | refine rtC ?_ rfl | fail)
      exact hat.symm
     ·(conv => whnf)
      refine dec (fun _ => ?_) (fun h => absurd h7 h)
      (conv => whnf)
      refine ⟨false, .grow, (.l [0, 1, 2, 3, 4, 5, 6, 7, 8, 9, 10, 11, 12, 13, 14, 15, 16]), by kernel_rfl, .inl ?_⟩
      (conv => whnf)
      refine ⟨i, l[i], rfl, List.getElem?_eq_getElem hlt, ?_⟩
      (conv => whnf)
      refine ⟨i64 (by omega) (by omega), ?_⟩
      (conv => whnf)
      refine ⟨i - 1, l[i - 1], by omega, List.getElem?_eq_getElem (by omega), ?_⟩
      (conv => whnf)
      refine cl [] [] (behind_spec l[i].path l[i - 1].path (hp _ (List.getElem_mem _))) ?_
      rw [underP_is]
      (conv => whnf)
      refine boo (fun h9 => ?_) (fun h9 => ?_)
      ·have hc : clashF (prevX l i) l[i] = 10 := by rw [hpv]; unfold clashF; simp [h8, h9]
       rw [hc, if_pos (by decide)] at hat
       repeat' ((conv => whnf); first | (refine dec (fun h => ?_) (fun h => ?_) <;> try contradiction) | (refine decN (fun h => ?_) (fun h => ?_) <;> try contradiction) | refine booN (fun h => ?_) (fun h => ?_) | refine boo (fun h => ?_) (fun h => ?_) | refine ⟨i64 (by omega) (by omega), ?_⟩ | refine ⟨_, _, rfl, List.getElem?_eq_getElem (by omega), ?_⟩ | refine ⟨_, ⟨rfl, by omega⟩, ?_⟩ | refine ⟨_, List.getElem?_eq_getElem (by omega), ?_⟩ | refine rtB ?_ | refine rtI ?_ | refine rtC ?_ rfl | fail)
       exact hat.symm
      ·have hc : clashF (prevX l i) l[i] = 0 := by rw [hpv]; unfold clashF; simp [h8, h9]
       rw [hc, if_neg (by decide)] at hat
       repeat' ((conv => whnf); refine I6 ?_)
       refine ag (i + 1) [] [] ⟨hlt, hat⟩ (by simp only []; omega) ?_
       repeat' first | exact trivial | exact rfl | refine And.intro ?_ ?_
    ·obtain rfl : i = 0 := by omega
     have hc : clashF (prevX l 0) l[0] = 0 := rfl
     rw [hc, if_neg (by decide)] at hat
     repeat' ((conv => whnf); refine I6 ?_)
     refine ag (0 + 1) [] [] ⟨hlt, hat⟩ (by simp only []; omega) ?_
     repeat' first | exact trivial | exact rfl | refine And.intro ?_ ?_
 ·rw [List.drop_of_length_le (by omega)] at hat
  repeat' ((conv => whnf); first | (refine dec (fun h => ?_) (fun h => ?_) <;> try contradiction) | (refine decN (fun h => ?_) (fun h => ?_) <;> try contradiction) | refine booN (fun h => ?_) (fun h => ?_) | refine boo (fun h => ?_) (fun h => ?_) | refine ⟨i64 (by omega) (by omega), ?_⟩ | refine ⟨_, _, rfl, List.getElem?_eq_getElem (by omega), ?_⟩ | refine ⟨_, ⟨rfl, by omega⟩, ?_⟩ | refine ⟨_, List.getElem?_eq_getElem (by omega), ?_⟩ | refine rtB ?_ | refine rtI ?_ | refine rtC ?_ rfl | fail)
  rw [hat]; unfold checkF; rfl
theorem fault_spec (l : List Fi) (hp : ∀ f ∈ l, f.path.length ≤ 4000000) : Does Tryz.prog 66 [.c (.bs 4 Fi encFi l)] [] (Rt (.c (.int .i64 (filesF l))) []) := by
 by_cases h : 60 < l.length
 ·refine X_spec (n := 78) (n0 := 0) tabOk Tryz.call66 Tryz.func66 ?_
  intro hb
  repeat' ((conv => whnf); first | (refine dec (fun h => ?_) (fun h => ?_) <;> try contradiction) | (refine decN (fun h => ?_) (fun h => ?_) <;> try contradiction) | refine booN (fun h => ?_) (fun h => ?_) | refine boo (fun h => ?_) (fun h => ?_) | refine ⟨i64 (by omega) (by omega), ?_⟩ | refine ⟨_, _, rfl, List.getElem?_eq_getElem (by omega), ?_⟩ | refine ⟨_, ⟨rfl, by omega⟩, ?_⟩ | refine ⟨_, List.getElem?_eq_getElem (by omega), ?_⟩ | refine rtB ?_ | refine rtI ?_ | refine rtC ?_ rfl | fail)
  ·unfold filesF; rw [if_pos (by omega)]
  ·omega
 ·have := fault_spec' l (by omega) hp
  unfold filesF
  rw [if_neg h]; exact this
end Go.Nest
end
