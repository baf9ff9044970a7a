/- part -/
import Derived.Test.YtpmjnbidmcnhnaaGreatDoorS3
import Derived.Test.YtpmjnbidmcnhnaaGreatDoorJ1
set_option linter.unusedVariables false
set_option linter.unusedSimpArgs false

namespace Go.Nest
open Go Go.AM Go.Proofs Go.RowKit
open Go.Proofs.YtpmjnbidmcnhnaaGreatDoor (tab tabOk)
set_option maxRecDepth 4000
theorem join_unsp : ∀ l : List (List UInt8), Lib.join l [47] = unsp l
 | [] => rfl
 | [x] => by simp [Lib.join, unsp]
 | x :: y :: r => by
  have := join_unsp (y :: r)
  simp [Lib.join, unsp] at this ⊢
  rw [← this]
theorem extra156 : Builder.Extra Tryz.prog ren156 where
 sizeBuilder := by kernel_rfl
 liesBuilder := by kernel_rfl
 t5 := Tryz.underlying5
 a5 := Tryz.isAgg5
 z5 := Tryz.sizeOf5
 v5 := Tryz.zeroValue5
 infoByte := by kernel_rfl
 cellsByte := by kernel_rfl
 sizeByte := by kernel_rfl
 neB5 := by decide
theorem stringsJoin_spec (l : List (List UInt8)) (hl : l.length ≤ 1000000) (hlen : (unsp l).length ≤ 140737488355328) : Does Tryz.prog 140 [.c (.bs 1 (List UInt8) encS l), .c (.str [47])] [] (Rt (.c (.str (unsp l))) []) := by
 cases l with
 | nil =>
  refine X_spec (n := 75) (n0 := 0) tabOk Tryz.call140 Tryz.func140 ?_
  intro hb
  (conv => whnf)
  exact rtC rfl rfl
 | cons x0 l0 =>
  generalize hl0 : x0 :: l0 = l at *
  have hne : l ≠ [] := by rw [← hl0]; simp
  refine Does.of_below rfl Tryz.call140 (fun F L γ w vs h hlt => ?_)
  match vs, h with
  | [v1, v2], ⟨h1, h2, _⟩ =>
   cases h2 with
   | str _ _ =>
    cases h1 with
    | bs0 _ => exact absurd rfl hne
    | @bs _ _ _ _ _ b off cap css _ _ hb g1 g2 hr hz hc _ =>
     have e1 := strs_of hr
     have e2 : (List.map (fun x : ByteArray => x.data.toList) (List.map (fun s : List UInt8 => (⟨s.toArray⟩ : ByteArray)) l)) = l := by rw [List.map_map]; exact (List.map_congr_left (fun s _ => by simp)).trans (List.map_id' l)
     have hcon := Any.strings_Join_48 lay156 extra156 b off cap (l.map fun s => ⟨s.toArray⟩) ⟨[47].toArray⟩ w (fun j x hx => ?_) (hlt b hb) (by simp; omega) (by simpa using g1) (by rw [e2]; show (Lib.join l [47]).length ≤ _; rw [join_unsp]; omega)
     ·refine ⟨NB.str (unsp l), fun F H m => .str (by omega) .nl, ?_⟩
      rw [e2] at hcon
      have e3 : Lib.join l (⟨[47].toArray⟩ : ByteArray).data.toList = unsp l := join_unsp l
      rw [e3, List.length_map] at hcon
      exact hcon
     ·rw [List.getElem?_map] at hx
      obtain ⟨s, hs, rfl⟩ := Option.map_eq_some_iff.1 hx
      have := hc j (NB.str s) (by rw [e1, List.getElem?_map, hs]; rfl)
      rw [NB.cell?_of rfl]
      exact this
theorem pathsJoin_spec (l : List (List UInt8)) (hl : l.length ≤ 1000000) (hlen : (unsp l).length ≤ 140737488355328) : Does Tryz.prog 112 [.c (.bs 1 (List UInt8) encS l)] [] (Rt (.c (.str (unsp l))) []) := by
 refine X_spec (n := 5) (n0 := 0) tabOk Tryz.call112 Tryz.func112 ?_
 intro hb
 (conv => whnf)
 refine cl [] [] (stringsJoin_spec l hl hlen) ?_
 (conv => whnf)
 exact rtC rfl rfl
end Go.Nest
