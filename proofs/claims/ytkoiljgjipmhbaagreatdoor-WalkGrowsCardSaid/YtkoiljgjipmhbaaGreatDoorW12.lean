/- WALKS, W12: WalkDoes. -/
import Derived.Test.YtkoiljgjipmhbaaGreatDoorW11
import Derived.Test.YtkoiljgjipmhbaaGreatDoorW6
namespace Go.Nest
open Go Go.AM Go.Proofs
open Go.Proofs.YtkoiljgjipmhbaaGreatDoor (tab tabOk)
set_option linter.unusedVariables false
set_option linter.unusedSimpArgs false
set_option maxRecDepth 4000
theorem sameI_self (l : List Int) : Does Tryz.prog 33 [.c (.bs 1 Int encI l), .c (.bs 1 Int encI l)] [] (Rt (.c (.bool true)) []) := by
  have h := sameInts_spec l l
  rwa [show decide (l = l) = true from decide_eq_true rfl] at h
set_option maxHeartbeats 4000000 in
theorem walkDoes_spec (l : List Sn) (a b c : Int) (hl : ∀ s ∈ l, DocsFit s.docs) : Does Tryz.prog 4 [.c (.ls 3 Sn encSn l), .c (.int .i64 a), .c (.int .i64 b), .c (.int .i64 c)] [] (Rt (.c (.bool true)) []) := by
  refine X_spec ⟨Tryz.prog, tab, 129, 0⟩ tabOk (by kernel_rfl) Tryz.call4 Tryz.func4 rfl rfl (by kernel_rfl) rfl ?_
  intro hb
  (conv => whnf)
  refine cl [] [] (walkBegun_spec) (by (repeat' first | exact trivial | exact rfl | refine And.intro ?_ ?_); first | done | fail) (by first | exact trivial | exact rfl) ?_
  (conv => whnf)
  refine cl [] [] (greatSnaps_spec l hl) (by (repeat' first | exact trivial | exact rfl | refine And.intro ?_ ?_); first | done | fail) (by first | exact trivial | exact rfl) ?_
  (conv => whnf)
  refine boo (fun g1 => ?_) (fun g1 => ?_)
  · (conv => whnf)
    exact rtC rfl rfl
  have hg := greatS_ok g1
  (conv => whnf)
  refine cl [] [] (grown_spec l hg) (by (repeat' first | exact trivial | exact rfl | refine And.intro ?_ ?_); first | done | fail) (by first | exact trivial | exact rfl) ?_
  have hL : PoolOk (growU l).1 := grow_ok
  generalize growU l = G at *
  obtain ⟨L, made⟩ := G
  dsimp only at hL
  (conv => whnf)
  refine cl [] [] (one_spec made a) (by (repeat' first | exact trivial | exact rfl | refine And.intro ?_ ?_); first | done | fail) (by first | exact trivial | exact rfl) ?_
  (conv => whnf)
  refine cl [] [] (one_spec made b) (by (repeat' first | exact trivial | exact rfl | refine And.intro ?_ ?_); first | done | fail) (by first | exact trivial | exact rfl) ?_
  (conv => whnf)
  refine cl [] [] (one_spec made b) (by (repeat' first | exact trivial | exact rfl | refine And.intro ?_ ?_); first | done | fail) (by first | exact trivial | exact rfl) ?_
  (conv => whnf)
  refine cl [] [] (one_spec made a) (by (repeat' first | exact trivial | exact rfl | refine And.intro ?_ ?_); first | done | fail) (by first | exact trivial | exact rfl) ?_
  generalize oneP made a = x
  generalize oneP made b = y
  (conv => whnf)
  refine ⟨[(x, y), (c, y), (x, c)], rfl, ?_⟩
  generalize hids : [(x, y), (c, y), (x, c)] = ids
  have hlen : ids.length = 3 := by rw [← hids]; rfl
  clear hids
  (conv => whnf)
  refine lp Nat (fun i => ⟨[(9, .c (.ptr 0 0)), (10, .c (.ptr 2 0)), (13, .c (.ls 2 (Int × Int) encPr ids)), (14, .c (.int .i64 i))], [.box [.rw 1], .row 6 Ob encOb L, .box [.rw 3], .row 6 Ob encOb L]⟩) (fun i => i ≤ ids.length ∧ True) (fun i => ids.length - i) 0 [5] [.same 0, .same 1, .same 2, .same 3] ?_ ?_ (fun i hi => ?_)
  · simp
  · repeat' first | exact trivial | exact rfl | refine And.intro ?_ ?_
  (conv => whnf)
  refine dec (fun h4 => ?_) (fun h4 => ?_)
  · have hlt : i < ids.length := by omega
    (conv => whnf)
    refine ⟨false, (.l [0, 1, 2, 3, 4, 5, 6, 7, 8, 9, 10, 11]), by kernel_rfl, .inl ?_⟩
    (conv => whnf)
    refine ⟨i, ids[i], rfl, List.getElem?_eq_getElem hlt, ?_⟩
    (conv => whnf)
    refine ⟨0, ⟨rfl, by decide⟩, ?_⟩
    (conv => whnf)
    refine ⟨i, ids[i], rfl, List.getElem?_eq_getElem hlt, ?_⟩
    (conv => whnf)
    refine ⟨1, ⟨rfl, by decide⟩, ?_⟩
    generalize ids[i] = q
    obtain ⟨p, q⟩ := q
    (conv => whnf)
    refine cl [] [] (ancestors_spec L hL p) (by (repeat' first | exact trivial | exact rfl | refine And.intro ?_ ?_); first | done | fail) (by first | exact trivial | exact rfl) ?_
    (conv => whnf)
    refine cl [] [] (line_spec L hL p) (by (repeat' first | exact trivial | exact rfl | refine And.intro ?_ ?_); first | done | fail) (by first | exact trivial | exact rfl) ?_
    (conv => whnf)
    refine cl [] [] (bases_spec L hL p q) (by (repeat' first | exact trivial | exact rfl | refine And.intro ?_ ?_); first | done | fail) (by first | exact trivial | exact rfl) ?_
    (conv => whnf)
    refine cl [] [] (basesOf_spec L hL p q) (by (repeat' first | exact trivial | exact rfl | refine And.intro ?_ ?_); first | done | fail) (by first | exact trivial | exact rfl) ?_
    (conv => whnf)
    refine cl [] [] (sameI_self (ancP L p).1) (by (repeat' first | exact trivial | exact rfl | refine And.intro ?_ ?_); first | done | fail) (by first | exact trivial | exact rfl) ?_
    (conv => whnf)
    refine decN (fun h => absurd rfl h) (fun _ => ?_)
    (conv => whnf)
    refine cl [] [] (sameI_self (basesP L p q).1) (by (repeat' first | exact trivial | exact rfl | refine And.intro ?_ ?_); first | done | fail) (by first | exact trivial | exact rfl) ?_
    (conv => whnf)
    refine decN (fun h => absurd rfl h) (fun _ => ?_)
    (conv => whnf)
    refine cl [] [] (is_spec L hL p q) (by (repeat' first | exact trivial | exact rfl | refine And.intro ?_ ?_); first | done | fail) (by first | exact trivial | exact rfl) ?_
    (conv => whnf)
    refine cl [] [] (isAhead_spec L hL p q) (by (repeat' first | exact trivial | exact rfl | refine And.intro ?_ ?_); first | done | fail) (by first | exact trivial | exact rfl) ?_
    generalize isP L p q = z
    cases z
    all_goals
      (conv => whnf)
      repeat' ((conv => whnf); first | (refine dec (fun h => ?_) (fun h => ?_) <;> try contradiction) | (refine decN (fun h => ?_) (fun h => ?_) <;> try contradiction) | refine booN (fun h => ?_) (fun h => ?_) | refine boo (fun h => ?_) (fun h => ?_) | refine ⟨i64 (by omega) (by omega), ?_⟩ | refine ⟨_, _, rfl, List.getElem?_eq_getElem (by omega), ?_⟩ | refine ⟨_, ⟨rfl, by omega⟩, ?_⟩ | refine ⟨_, List.getElem?_eq_getElem (by omega), ?_⟩ | refine rtB ?_ | refine rtI ?_ | refine rtC ?_ rfl | fail)
      refine ag (i + 1) [] [.same 0, .same 1, .same 2, .same 3] ⟨hlt, trivial⟩ (by simp only []; omega) ?_
      repeat' first | exact trivial | exact rfl | refine And.intro ?_ ?_
  · (conv => whnf)
    exact rtB rfl
end Go.Nest
