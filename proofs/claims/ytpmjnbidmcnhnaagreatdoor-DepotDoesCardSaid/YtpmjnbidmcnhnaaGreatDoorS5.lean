/- part -/
import Derived.Test.YtpmjnbidmcnhnaaGreatDoorS3
import Derived.Test.YtpmjnbidmcnhnaaGreatDoorJ1

namespace Go.Nest
open Go Go.AM Go.Proofs Go.RowKit
open Go.Proofs.YtpmjnbidmcnhnaaGreatDoor (tab tabOk)
set_option maxRecDepth 4000
theorem join_unsp : ∀ l : List (List UInt8), Lib.join l [47] = unsp l
 | [] => rfl
 | [x] => by simp [Lib.join, unsp]
 | x :: y :: r => by
  have := join_unsp (y :: r)
  simp [Lib.join, unsp] at this ⊢
  rw [← this]
theorem extra156 : Builder.Extra Tryz.prog ren156 where
 sizeBuilder := by kernel_rfl
 liesBuilder := by kernel_rfl
 t5 := Tryz.underlying5
 a5 := Tryz.isAgg5
 z5 := Tryz.sizeOf5
 v5 := Tryz.zeroValue5
 infoByte := by kernel_rfl
 cellsByte := by kernel_rfl
 sizeByte := by kernel_rfl
 neB5 := by decide
theorem stringsJoin_spec (l : List (List UInt8)) (hl : l.length ≤ 1000000) (hlen : (unsp l).length ≤ 140737488355328) : Does Tryz.prog 140 [.c (.bs 1 (List UInt8) encS l), .c (.str [47])] [] (Rt (.c (.str (unsp l))) []) := by
 cases l with
 | nil =>
  refine X_spec (n := 75) (n0 := 0) tabOk Tryz.call140 Tryz.func140 ?_
  intro hb
  (conv => whnf)
  exact rtC rfl rfl
 | cons x0 l0 =>
  generalize hl0 : x0 :: l0 = l at *
  have hne : l ≠ [] := by rw [← hl0]; simp
  refine Does.of_below rfl Tryz.call140 (fun F L γ w vs h hlt => ?_)
  match vs, h with
  | [v1, v2], ⟨h1, h2, _⟩ =>
   cases h2 with
   | str _ _ =>
    cases h1 with
    | bs0 _ => exact absurd rfl hne
    | @bs _ _ _ _ _ b off cap css _ _ hb g1 g2 hr hz hc _ =>
     have e1 := strs_of hr
     have e2 : (List.map (fun x : ByteArray => x.data.toList) (List.map (fun s : List UInt8 => (⟨s.toArray⟩ : ByteArray)) l)) = l := by rw [List.map_map]; exact (List.map_congr_left (fun s _ => by simp)).trans (List.map_id' l)
     have hcon := Any.strings_Join_48 lay156 extra156 b off cap (l.map fun s => ⟨s.toArray⟩) ⟨[47].toArray⟩ w (fun j x hx => ?_) (hlt b hb) (by simp; omega) (by simpa using g1) (by rw [e2]; show (Lib.join l [47]).length ≤ _; rw [join_unsp]; omega)
     ·refine ⟨NB.str (unsp l), fun F H m => .str (by omega) .nl, ?_⟩
      rw [e2] at hcon
      have e3 : Lib.join l (⟨[47].toArray⟩ : ByteArray).data.toList = unsp l := join_unsp l
      rw [e3, List.length_map] at hcon
      exact hcon
     ·rw [List.getElem?_map] at hx
      obtain ⟨s, hs, rfl⟩ := Option.map_eq_some_iff.1 hx
      have := hc j (NB.str s) (by rw [e1, List.getElem?_map, hs]; rfl)
      rw [NB.cell?_of rfl]
      exact this
theorem pathsJoin_spec (l : List (List UInt8)) (hl : l.length ≤ 1000000) (hlen : (unsp l).length ≤ 140737488355328) : Does Tryz.prog 112 [.c (.bs 1 (List UInt8) encS l)] [] (Rt (.c (.str (unsp l))) []) := by
 refine X_spec (n := 5) (n0 := 0) tabOk Tryz.call112 Tryz.func112 ?_
 intro hb
 (conv => whnf)
 refine cl [] [] (stringsJoin_spec l hl hlen) ?_
 (conv => whnf)
 exact rtC rfl rfl
theorem unsp_snoc : ∀ {xs : List (List UInt8)} {x : List UInt8}, xs ≠ [] → unsp (xs ++ [x]) = unsp xs ++ 47 :: x
 | [], _, h => absurd rfl h
 | [y], x, _ => by simp [unsp]
 | y :: z :: r, x, _ => by
  have := unsp_snoc (xs := z :: r) (x := x) (by simp)
  simp [unsp] at this ⊢
  rw [this]
theorem unsp_take_len {l : List (List UInt8)} {i : Nat} : (unsp (l.take i)).length ≤ (unsp l).length := by
 have key : ∀ (xs ys : List (List UInt8)), (unsp xs).length ≤ (unsp (xs ++ ys)).length := by
  intro xs
  induction xs with
  | nil => intro ys; simp [unsp]
  | cons x xs ih =>
   intro ys
   cases xs with
   | nil => cases ys <;> simp [unsp]
   | cons z zs =>
    have := ih ys
    simp [unsp] at this ⊢
    omega
 have := key (l.take i) (l.drop i)
 rwa [List.take_append_drop] at this
theorem joined_spec (l : List (List UInt8)) (hlen : (unsp l).length ≤ 140737488355328) : Does Tryz.prog 157 [.c (.bs 1 (List UInt8) encS l)] [] (Rt (.c (.str (unsp l))) []) := by
 refine X_spec (n := 22) (n0 := 0) tabOk Tryz.call157 Tryz.func157 ?_
 intro hb; have hb : l.length ≤ 9223372036854775807 := hb.1.1
 (conv => whnf)
 refine lp Nat (fun i => ⟨[(0, .c (.bs 1 (List UInt8) encS l)), (3, .c (.str (unsp (l.take i)))), (4, .c (.int .i64 i))], []⟩) (fun i => i ≤ l.length ∧ True) (fun i => l.length - i) 0 [] [] ?_ ?_ (fun i hi => ?_)
 ·simp
 ·repeat' first | exact trivial | exact rfl | refine And.intro ?_ ?_
 (conv => whnf)
 refine dec (fun h4 => ?_) (fun h4 => ?_)
 ·have hlt : i < l.length := by omega
  have ht := List.take_succ_eq_append_getElem hlt
  have hle := unsp_take_len (l := l) (i := i + 1)
  (conv => whnf)
  refine dec (fun h5 => ?_) (fun h5 => ?_)
  ·have hu := unsp_snoc (xs := l.take i) (x := l[i]) (by intro e; have := congrArg List.length e; simp only [List.length_take, List.length_nil] at this; omega)
   rw [← ht] at hu
   rw [hu] at hle
   rw [List.length_append, List.length_cons] at hle
   (conv => whnf)
   refine ⟨by rw [List.length_singleton]; omega, ?_⟩
   (conv => whnf)
   refine ⟨i, l[i], rfl, List.getElem?_eq_getElem hlt, ?_⟩
   (conv => whnf)
   refine ⟨by simp only [List.length_append, List.length_singleton]; omega, ?_⟩
   repeat' ((conv => whnf); refine I6 ?_)
   refine ag (i + 1) [] [] ⟨hlt, trivial⟩ (by simp only []; omega) ?_
   repeat' first | exact trivial | exact rfl | refine And.intro ?_ ?_
   ·show C.str _ = C.str _
    rw [hu]; simp
  ·obtain rfl : i = 0 := by omega
   have hu : unsp (l.take (0 + 1)) = l[0] := by rw [ht]; simp [unsp]
   (conv => whnf)
   refine ⟨0, l[0], rfl, List.getElem?_eq_getElem hlt, ?_⟩
   rw [hu] at hle
   (conv => whnf)
   refine ⟨by simp [unsp]; omega, ?_⟩
   repeat' ((conv => whnf); refine I6 ?_)
   refine ag (0 + 1) [] [] ⟨hlt, trivial⟩ (by simp only []; omega) ?_
   repeat' first | exact trivial | exact rfl | refine And.intro ?_ ?_
   ·show C.str _ = C.str _
    rw [hu]; simp [unsp]
 ·(conv => whnf)
  rw [show l.take i = l from List.take_of_length_le (by omega)]
  exact rtC rfl rfl
end Go.Nest
