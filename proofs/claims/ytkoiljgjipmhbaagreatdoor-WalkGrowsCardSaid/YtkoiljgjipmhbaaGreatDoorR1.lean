/- WALKS, F8: what each law of the flat files begins with. -/
import Derived.Test.YtkoiljgjipmhbaaGreatDoorF7
import Derived.Test.YtkoiljgjipmhbaaGreatDoorG12
section
namespace Go.Nest
open Go Go.AM Go.Proofs
open Go.Proofs.YtkoiljgjipmhbaaGreatDoor (tab tabOk)
set_option linter.unusedVariables false
set_option linter.unusedSimpArgs false
set_option maxRecDepth 4000

theorem any_succ {α : Type} {p : α → Bool} {l : List α} {i : Nat} (h : i < l.length) : (l.take (i + 1)).any p = ((l.take i).any p || p l[i]) := by
  rw [List.take_succ_eq_append_getElem h, List.any_append]; simp
theorem filter_succ {α : Type} {p : α → Bool} {l : List α} {i : Nat} (h : i < l.length) : (l.take (i + 1)).filter p = (l.take i).filter p ++ if p l[i] = true then [l[i]] else [] := by
  rw [List.take_succ_eq_append_getElem h, List.filter_append, List.filter_cons]
  split <;> simp

def fA : Ob := ⟨1, [], [], 0, [], []⟩
def fB : Ob := ⟨2, [], [⟨[98], 1, 0, 0⟩], 0, [], []⟩
def fC : Ob := ⟨2, [], [⟨[97], 2, 1, 0⟩, ⟨[99], 1, 0, 0⟩], 0, [], []⟩
def fl1 : Fi := ⟨[97, 47, 98], 1, 0, 0⟩
def fl2 : Fi := ⟨[99], 1, 0, 0⟩
def fl3 : Fi := ⟨[97], 1, 0, 0⟩
theorem fb1 : putP [] fA = (0, 0, [fA]) := by decide +kernel
theorem fb2 : buildP [fA] [fl1, fl2] = (2, 0, [fA, fB, fC]) := by decide +kernel
theorem fb3 : filesP [fA, fB, fC] 2 = ([fl1, fl2], 0) := by decide +kernel
theorem fb4 : atF [fA, fB, fC] 2 [97] = (1, 0) := by decide +kernel
theorem fb5 : filesF [fl3, fl1] = 10 := by decide +kernel
theorem fb6 : diffP [fl1, fl2] [fl2] = [⟨[97, 47, 98], fl1, fi0⟩] := by
  rw [diffP, if_pos (by decide +kernel), diff_self]; rfl
theorem fok1 : PoolOk [fA] := by have := putP_ok .nil fA; rw [fb1] at this; exact this
theorem fok3 : PoolOk [fA, fB, fC] := by have := (buildP_ok fok1 [fl1, fl2]).1; rw [fb2] at this; exact this

set_option maxHeartbeats 2000000 in
theorem flatBegun_spec : Does Tryz.prog 7 [] [] (Rt (.c (.bool true)) []) := by
  have p1 := put_spec [] fA (by decide)
  have p2 := flatBuild_spec [fA] [fl1, fl2] fok1 (by decide)
  have p3 := flatFiles_spec [fA, fB, fC] fok3 2
  have p4 := at_spec [fA, fB, fC] fok3 2 [97] (by decide)
  have p5 := flatCheck_spec [fl3, fl1] (by decide)
  have p6 := diff_spec [fl1, fl2] [fl2] (by decide) (by decide) (by decide) (by decide)
  rw [fb1] at p1
  rw [fb2] at p2
  rw [fb3] at p3
  rw [fb4] at p4
  rw [fb5] at p5
  rw [fb6] at p6
  dsimp only at p1 p2 p3 p4 p5 p6
  refine X_spec ⟨Tryz.prog, tab, 72, 0⟩ tabOk (by kernel_rfl) Tryz.call7 Tryz.func7 rfl rfl (by kernel_rfl) rfl ?_
  intro hb
  (conv => whnf)
  refine cl [] [] (new_spec) (by (repeat' first | exact trivial | exact rfl | refine And.intro ?_ ?_); first | done | fail) (by first | exact trivial | exact rfl) ?_
  (conv => whnf)
  refine cl [] [0, 1] (p1) (by (repeat' first | exact trivial | exact rfl | refine And.intro ?_ ?_); first | done | fail) (by first | exact trivial | exact rfl) ?_
  (conv => whnf)
  refine ⟨[fl1, fl2], rfl, ?_⟩
  (conv => whnf)
  refine cl [3] [0, 2] (p2) (by (repeat' first | exact trivial | exact rfl | refine And.intro ?_ ?_); first | done | fail) (by first | exact trivial | exact rfl) ?_
  (conv => whnf)
  refine cl [] [] (p3) (by (repeat' first | exact trivial | exact rfl | refine And.intro ?_ ?_); first | done | fail) (by first | exact trivial | exact rfl) ?_
  (conv => whnf)
  refine cl [] [] (p4) (by (repeat' first | exact trivial | exact rfl | refine And.intro ?_ ?_); first | done | fail) (by first | exact trivial | exact rfl) ?_
  (conv => whnf)
  refine cl [] [] (sameFiles_spec [fl1, fl2] [fl1, fl2]) (by (repeat' first | exact trivial | exact rfl | refine And.intro ?_ ?_); first | done | fail) (by first | exact trivial | exact rfl) ?_
  rw [show decide ([fl1, fl2] = [fl1, fl2]) = true from decide_eq_true rfl]
  (conv => whnf)
  refine ⟨1, 2, rfl, rfl, by decide, ?_⟩
  (conv => whnf)
  refine cl [] [] (p6) (by (repeat' first | exact trivial | exact rfl | refine And.intro ?_ ?_); first | done | fail) (by first | exact trivial | exact rfl) ?_
  (conv => whnf)
  refine ⟨[fl3, fl1], rfl, ?_⟩
  (conv => whnf)
  refine cl [] [] (p5) (by (repeat' first | exact trivial | exact rfl | refine And.intro ?_ ?_); first | done | fail) (by first | exact trivial | exact rfl) ?_
  (conv => whnf)
  exact rtB rfl
end Go.Nest
end
/- WALKS, R1: may there be such files? by the document. -/
section
namespace Go.Nest
open Go Go.AM Go.Proofs
open Go.Proofs.YtkoiljgjipmhbaaGreatDoor (tab tabOk)
set_option linter.unusedVariables false
set_option linter.unusedSimpArgs false
set_option maxRecDepth 4000

set_option maxHeartbeats 2000000 in
theorem fault_spec' (l : List Fi) (hl : l.length ≤ 60) (hp : ∀ f ∈ l, f.path.length ≤ 4000000) : Does Tryz.prog 15 [.c (.bs 4 Fi encFi l)] [] (Rt (.c (.int .i64 (checkF none l))) []) := by
  refine X_spec ⟨Tryz.prog, tab, 78, 0⟩ tabOk (by kernel_rfl) Tryz.call15 Tryz.func15 rfl rfl (by kernel_rfl) rfl ?_
  intro hb
  (conv => whnf)
  refine dec (fun h => by omega) (fun h0 => ?_)
  (conv => whnf)
  refine lp Nat (fun i => ⟨[(0, .c (.bs 4 Fi encFi l)), (3, .c (.int .i64 i))], []⟩) (fun i => i ≤ l.length ∧ checkF none l = checkF (prevX l i) (l.drop i)) (fun i => l.length - i) 0 [] [] ?_ ?_ (fun i hi => ?_)
  · exact ⟨Nat.zero_le _, rfl⟩
  · repeat' first | exact trivial | exact rfl | refine And.intro ?_ ?_
  obtain ⟨h1, hat⟩ := hi
  (conv => whnf)
  refine dec (fun h4 => ?_) (fun h4 => ?_)
  · have hlt : i < l.length := by omega
    rw [checkF_at hlt] at hat
    (conv => whnf)
    refine ⟨i, l[i], rfl, List.getElem?_eq_getElem hlt, ?_⟩
    (conv => whnf)
    refine cl [] [] (pathOf_spec l[i].path (hp _ (List.getElem_mem _))) (by (repeat' first | exact trivial | exact rfl | refine And.intro ?_ ?_); first | done | fail) (by first | exact trivial | exact rfl) ?_
    (conv => whnf)
    refine decN (fun h5 => ?_) (fun h5 => ?_)
    · rw [if_pos h5] at hat
      repeat' ((conv => whnf); first | (refine dec (fun h => ?_) (fun h => ?_) <;> try contradiction) | (refine decN (fun h => ?_) (fun h => ?_) <;> try contradiction) | refine booN (fun h => ?_) (fun h => ?_) | refine boo (fun h => ?_) (fun h => ?_) | refine ⟨i64 (by omega) (by omega), ?_⟩ | refine ⟨_, _, rfl, List.getElem?_eq_getElem (by omega), ?_⟩ | refine ⟨_, ⟨rfl, by omega⟩, ?_⟩ | refine ⟨_, List.getElem?_eq_getElem (by omega), ?_⟩ | refine rtB ?_ | refine rtI ?_ | refine rtC ?_ rfl | fail)
      exact hat.symm
    · rw [if_neg (by simpa using h5)] at hat
      (conv => whnf)
      refine ⟨i, l[i], rfl, List.getElem?_eq_getElem hlt, ?_⟩
      (conv => whnf)
      refine decN (fun h6 => ?_) (fun h6 => ?_)
      · (conv => whnf)
        refine ⟨i, l[i], rfl, List.getElem?_eq_getElem hlt, ?_⟩
        (conv => whnf)
        refine decN (fun h7 => ?_) (fun h7 => ?_)
        · rw [if_pos ⟨h6, h7⟩] at hat
          repeat' ((conv => whnf); first | (refine dec (fun h => ?_) (fun h => ?_) <;> try contradiction) | (refine decN (fun h => ?_) (fun h => ?_) <;> try contradiction) | refine booN (fun h => ?_) (fun h => ?_) | refine boo (fun h => ?_) (fun h => ?_) | refine ⟨i64 (by omega) (by omega), ?_⟩ | refine ⟨_, _, rfl, List.getElem?_eq_getElem (by omega), ?_⟩ | refine ⟨_, ⟨rfl, by omega⟩, ?_⟩ | refine ⟨_, List.getElem?_eq_getElem (by omega), ?_⟩ | refine rtB ?_ | refine rtI ?_ | refine rtC ?_ rfl | fail)
          exact hat.symm
        · rw [if_neg (fun h => h.2 h7)] at hat
          (conv => whnf)
          refine ⟨false, (.l [0, 1, 2, 3, 4, 5, 6, 7, 8, 9, 10, 11, 12, 13, 14, 15, 16]), by kernel_rfl, .inl ?_⟩
          (conv => whnf)
          refine dec (fun h7 => ?_) (fun h7 => ?_)
          · have hi0 : 0 < i := by omega
            have hpv : prevX l i = some l[i - 1] := by
              obtain ⟨j, rfl⟩ : ∃ j, i = j + 1 := ⟨i - 1, by omega⟩
              exact List.getElem?_eq_getElem (by omega)
            (conv => whnf)
            refine ⟨i64 (by omega) (by omega), ?_⟩
            (conv => whnf)
            refine ⟨i - 1, l[i - 1], by omega, List.getElem?_eq_getElem (by omega), ?_⟩
            (conv => whnf)
            refine ⟨i, l[i], rfl, List.getElem?_eq_getElem hlt, ?_⟩
            (conv => whnf)
            refine cl [] [] (ahead_spec l[i - 1].path l[i].path (hp _ (List.getElem_mem _)) (hp _ (List.getElem_mem _))) (by (repeat' first | exact trivial | exact rfl | refine And.intro ?_ ?_); first | done | fail) (by first | exact trivial | exact rfl) ?_
            (conv => whnf)
            refine booN (fun h8 => ?_) (fun h8 => ?_)
            · have hc : clashF (prevX l i) l[i] = 8 := by rw [hpv]; unfold clashF; simp [h8]
              rw [hc, if_pos (by decide)] at hat
              repeat' ((conv => whnf); first | (refine dec (fun h => ?_) (fun h => ?_) <;> try contradiction) | (refine decN (fun h => ?_) (fun h => ?_) <;> try contradiction) | refine booN (fun h => ?_) (fun h => ?_) | refine boo (fun h => ?_) (fun h => ?_) | refine ⟨i64 (by omega) (by omega), ?_⟩ | refine ⟨_, _, rfl, List.getElem?_eq_getElem (by omega), ?_⟩ | refine ⟨_, ⟨rfl, by omega⟩, ?_⟩ | refine ⟨_, List.getElem?_eq_getElem (by omega), ?_⟩ | refine rtB ?_ | refine rtI ?_ | refine rtC ?_ rfl | fail)
              exact hat.symm
            · (conv => whnf)
              refine dec (fun _ => ?_) (fun h => absurd h7 h)
              (conv => whnf)
              refine ⟨false, (.l [0, 1, 2, 3, 4, 5, 6, 7, 8, 9, 10, 11, 12, 13, 14, 15, 16]), by kernel_rfl, .inl ?_⟩
              (conv => whnf)
              refine ⟨i, l[i], rfl, List.getElem?_eq_getElem hlt, ?_⟩
              (conv => whnf)
              refine ⟨i64 (by omega) (by omega), ?_⟩
              (conv => whnf)
              refine ⟨i - 1, l[i - 1], by omega, List.getElem?_eq_getElem (by omega), ?_⟩
              (conv => whnf)
              refine cl [] [] (behind_spec l[i].path l[i - 1].path (hp _ (List.getElem_mem _))) (by (repeat' first | exact trivial | exact rfl | refine And.intro ?_ ?_); first | done | fail) (by first | exact trivial | exact rfl) ?_
              rw [underP_is]
              (conv => whnf)
              refine boo (fun h9 => ?_) (fun h9 => ?_)
              · have hc : clashF (prevX l i) l[i] = 10 := by rw [hpv]; unfold clashF; simp [h8, h9]
                rw [hc, if_pos (by decide)] at hat
                repeat' ((conv => whnf); first | (refine dec (fun h => ?_) (fun h => ?_) <;> try contradiction) | (refine decN (fun h => ?_) (fun h => ?_) <;> try contradiction) | refine booN (fun h => ?_) (fun h => ?_) | refine boo (fun h => ?_) (fun h => ?_) | refine ⟨i64 (by omega) (by omega), ?_⟩ | refine ⟨_, _, rfl, List.getElem?_eq_getElem (by omega), ?_⟩ | refine ⟨_, ⟨rfl, by omega⟩, ?_⟩ | refine ⟨_, List.getElem?_eq_getElem (by omega), ?_⟩ | refine rtB ?_ | refine rtI ?_ | refine rtC ?_ rfl | fail)
                exact hat.symm
              · have hc : clashF (prevX l i) l[i] = 0 := by rw [hpv]; unfold clashF; simp [h8, h9]
                rw [hc, if_neg (by decide)] at hat
                repeat' ((conv => whnf); first | (refine dec (fun h => ?_) (fun h => ?_) <;> try contradiction) | (refine decN (fun h => ?_) (fun h => ?_) <;> try contradiction) | refine booN (fun h => ?_) (fun h => ?_) | refine boo (fun h => ?_) (fun h => ?_) | refine ⟨i64 (by omega) (by omega), ?_⟩ | refine ⟨_, _, rfl, List.getElem?_eq_getElem (by omega), ?_⟩ | refine ⟨_, ⟨rfl, by omega⟩, ?_⟩ | refine ⟨_, List.getElem?_eq_getElem (by omega), ?_⟩ | refine rtB ?_ | refine rtI ?_ | refine rtC ?_ rfl | fail)
                refine ag (i + 1) [] [] ⟨hlt, hat⟩ (by simp only []; omega) ?_
                repeat' first | exact trivial | exact rfl | refine And.intro ?_ ?_
          · obtain rfl : i = 0 := by omega
            have hc : clashF (prevX l 0) l[0] = 0 := rfl
            rw [hc, if_neg (by decide)] at hat
            repeat' ((conv => whnf); first | (refine dec (fun h => ?_) (fun h => ?_) <;> try contradiction) | (refine decN (fun h => ?_) (fun h => ?_) <;> try contradiction) | refine booN (fun h => ?_) (fun h => ?_) | refine boo (fun h => ?_) (fun h => ?_) | refine ⟨i64 (by omega) (by omega), ?_⟩ | refine ⟨_, _, rfl, List.getElem?_eq_getElem (by omega), ?_⟩ | refine ⟨_, ⟨rfl, by omega⟩, ?_⟩ | refine ⟨_, List.getElem?_eq_getElem (by omega), ?_⟩ | refine rtB ?_ | refine rtI ?_ | refine rtC ?_ rfl | fail)
            refine ag (0 + 1) [] [] ⟨hlt, hat⟩ (by simp only []; omega) ?_
            repeat' first | exact trivial | exact rfl | refine And.intro ?_ ?_
      · rw [if_neg (fun h => h.1 h6)] at hat
        (conv => whnf)
        refine ⟨false, (.l [0, 1, 2, 3, 4, 5, 6, 7, 8, 9, 10, 11, 12, 13, 14, 15, 16]), by kernel_rfl, .inl ?_⟩
        (conv => whnf)
        refine dec (fun h7 => ?_) (fun h7 => ?_)
        · have hi0 : 0 < i := by omega
          have hpv : prevX l i = some l[i - 1] := by
            obtain ⟨j, rfl⟩ : ∃ j, i = j + 1 := ⟨i - 1, by omega⟩
            exact List.getElem?_eq_getElem (by omega)
          (conv => whnf)
          refine ⟨i64 (by omega) (by omega), ?_⟩
          (conv => whnf)
          refine ⟨i - 1, l[i - 1], by omega, List.getElem?_eq_getElem (by omega), ?_⟩
          (conv => whnf)
          refine ⟨i, l[i], rfl, List.getElem?_eq_getElem hlt, ?_⟩
          (conv => whnf)
          refine cl [] [] (ahead_spec l[i - 1].path l[i].path (hp _ (List.getElem_mem _)) (hp _ (List.getElem_mem _))) (by (repeat' first | exact trivial | exact rfl | refine And.intro ?_ ?_); first | done | fail) (by first | exact trivial | exact rfl) ?_
          (conv => whnf)
          refine booN (fun h8 => ?_) (fun h8 => ?_)
          · have hc : clashF (prevX l i) l[i] = 8 := by rw [hpv]; unfold clashF; simp [h8]
            rw [hc, if_pos (by decide)] at hat
            repeat' ((conv => whnf); first | (refine dec (fun h => ?_) (fun h => ?_) <;> try contradiction) | (refine decN (fun h => ?_) (fun h => ?_) <;> try contradiction) | refine booN (fun h => ?_) (fun h => ?_) | refine boo (fun h => ?_) (fun h => ?_) | refine ⟨i64 (by omega) (by omega), ?_⟩ | refine ⟨_, _, rfl, List.getElem?_eq_getElem (by omega), ?_⟩ | refine ⟨_, ⟨rfl, by omega⟩, ?_⟩ | refine ⟨_, List.getElem?_eq_getElem (by omega), ?_⟩ | refine rtB ?_ | refine rtI ?_ | refine rtC ?_ rfl | fail)
            exact hat.symm
          · (conv => whnf)
            refine dec (fun _ => ?_) (fun h => absurd h7 h)
            (conv => whnf)
            refine ⟨false, (.l [0, 1, 2, 3, 4, 5, 6, 7, 8, 9, 10, 11, 12, 13, 14, 15, 16]), by kernel_rfl, .inl ?_⟩
            (conv => whnf)
            refine ⟨i, l[i], rfl, List.getElem?_eq_getElem hlt, ?_⟩
            (conv => whnf)
            refine ⟨i64 (by omega) (by omega), ?_⟩
            (conv => whnf)
            refine ⟨i - 1, l[i - 1], by omega, List.getElem?_eq_getElem (by omega), ?_⟩
            (conv => whnf)
            refine cl [] [] (behind_spec l[i].path l[i - 1].path (hp _ (List.getElem_mem _))) (by (repeat' first | exact trivial | exact rfl | refine And.intro ?_ ?_); first | done | fail) (by first | exact trivial | exact rfl) ?_
            rw [underP_is]
            (conv => whnf)
            refine boo (fun h9 => ?_) (fun h9 => ?_)
            · have hc : clashF (prevX l i) l[i] = 10 := by rw [hpv]; unfold clashF; simp [h8, h9]
              rw [hc, if_pos (by decide)] at hat
              repeat' ((conv => whnf); first | (refine dec (fun h => ?_) (fun h => ?_) <;> try contradiction) | (refine decN (fun h => ?_) (fun h => ?_) <;> try contradiction) | refine booN (fun h => ?_) (fun h => ?_) | refine boo (fun h => ?_) (fun h => ?_) | refine ⟨i64 (by omega) (by omega), ?_⟩ | refine ⟨_, _, rfl, List.getElem?_eq_getElem (by omega), ?_⟩ | refine ⟨_, ⟨rfl, by omega⟩, ?_⟩ | refine ⟨_, List.getElem?_eq_getElem (by omega), ?_⟩ | refine rtB ?_ | refine rtI ?_ | refine rtC ?_ rfl | fail)
              exact hat.symm
            · have hc : clashF (prevX l i) l[i] = 0 := by rw [hpv]; unfold clashF; simp [h8, h9]
              rw [hc, if_neg (by decide)] at hat
              repeat' ((conv => whnf); first | (refine dec (fun h => ?_) (fun h => ?_) <;> try contradiction) | (refine decN (fun h => ?_) (fun h => ?_) <;> try contradiction) | refine booN (fun h => ?_) (fun h => ?_) | refine boo (fun h => ?_) (fun h => ?_) | refine ⟨i64 (by omega) (by omega), ?_⟩ | refine ⟨_, _, rfl, List.getElem?_eq_getElem (by omega), ?_⟩ | refine ⟨_, ⟨rfl, by omega⟩, ?_⟩ | refine ⟨_, List.getElem?_eq_getElem (by omega), ?_⟩ | refine rtB ?_ | refine rtI ?_ | refine rtC ?_ rfl | fail)
              refine ag (i + 1) [] [] ⟨hlt, hat⟩ (by simp only []; omega) ?_
              repeat' first | exact trivial | exact rfl | refine And.intro ?_ ?_
        · obtain rfl : i = 0 := by omega
          have hc : clashF (prevX l 0) l[0] = 0 := rfl
          rw [hc, if_neg (by decide)] at hat
          repeat' ((conv => whnf); first | (refine dec (fun h => ?_) (fun h => ?_) <;> try contradiction) | (refine decN (fun h => ?_) (fun h => ?_) <;> try contradiction) | refine booN (fun h => ?_) (fun h => ?_) | refine boo (fun h => ?_) (fun h => ?_) | refine ⟨i64 (by omega) (by omega), ?_⟩ | refine ⟨_, _, rfl, List.getElem?_eq_getElem (by omega), ?_⟩ | refine ⟨_, ⟨rfl, by omega⟩, ?_⟩ | refine ⟨_, List.getElem?_eq_getElem (by omega), ?_⟩ | refine rtB ?_ | refine rtI ?_ | refine rtC ?_ rfl | fail)
          refine ag (0 + 1) [] [] ⟨hlt, hat⟩ (by simp only []; omega) ?_
          repeat' first | exact trivial | exact rfl | refine And.intro ?_ ?_
  · rw [List.drop_of_length_le (by omega)] at hat
    repeat' ((conv => whnf); first | (refine dec (fun h => ?_) (fun h => ?_) <;> try contradiction) | (refine decN (fun h => ?_) (fun h => ?_) <;> try contradiction) | refine booN (fun h => ?_) (fun h => ?_) | refine boo (fun h => ?_) (fun h => ?_) | refine ⟨i64 (by omega) (by omega), ?_⟩ | refine ⟨_, _, rfl, List.getElem?_eq_getElem (by omega), ?_⟩ | refine ⟨_, ⟨rfl, by omega⟩, ?_⟩ | refine ⟨_, List.getElem?_eq_getElem (by omega), ?_⟩ | refine rtB ?_ | refine rtI ?_ | refine rtC ?_ rfl | fail)
    rw [hat]; unfold checkF; rfl
theorem fault_spec (l : List Fi) (hp : ∀ f ∈ l, f.path.length ≤ 4000000) : Does Tryz.prog 15 [.c (.bs 4 Fi encFi l)] [] (Rt (.c (.int .i64 (filesF l))) []) := by
  by_cases h : 60 < l.length
  · refine X_spec ⟨Tryz.prog, tab, 78, 0⟩ tabOk (by kernel_rfl) Tryz.call15 Tryz.func15 rfl rfl (by kernel_rfl) rfl ?_
    intro hb
    repeat' ((conv => whnf); first | (refine dec (fun h => ?_) (fun h => ?_) <;> try contradiction) | (refine decN (fun h => ?_) (fun h => ?_) <;> try contradiction) | refine booN (fun h => ?_) (fun h => ?_) | refine boo (fun h => ?_) (fun h => ?_) | refine ⟨i64 (by omega) (by omega), ?_⟩ | refine ⟨_, _, rfl, List.getElem?_eq_getElem (by omega), ?_⟩ | refine ⟨_, ⟨rfl, by omega⟩, ?_⟩ | refine ⟨_, List.getElem?_eq_getElem (by omega), ?_⟩ | refine rtB ?_ | refine rtI ?_ | refine rtC ?_ rfl | fail)
    · unfold filesF; rw [if_pos (by omega)]
    · omega
  · have := fault_spec' l (by omega) hp
    unfold filesF
    rw [if_neg h]; exact this
end Go.Nest
end
