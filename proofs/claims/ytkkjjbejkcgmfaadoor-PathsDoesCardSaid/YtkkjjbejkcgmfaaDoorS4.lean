/- WALKS, S4: the law PathsOrder. -/
import Derived.Test.YtkkjjbejkcgmfaaDoorS2
namespace Go.Nest
open Go Go.AM Go.Proofs
open Go.Proofs.YtkkjjbejkcgmfaaDoor (tab tabOk)
set_option linter.unusedVariables false
set_option linter.unusedSimpArgs false
set_option maxRecDepth 4000
theorem sp1 : splitP [97, 47, 98, 46, 99] = ([[97], [98, 46, 99]], 0) := by decide +kernel
theorem sp2 : splitP [97, 47, 47, 98] = ([], 2) := by decide +kernel
theorem up1 : underP [97, 47, 98, 47, 99] [97, 47, 98] = ([99], true) := by decide +kernel
theorem le1 : lessP [97, 47, 122] [98] = true := by decide +kernel
theorem le2 : lessP [97] [97, 47, 98] = true := by decide +kernel
theorem nm1 : nameC [46, 46] = 2 := by decide +kernel
theorem pathsBegun_spec : Does Tryd.prog 6 [] [] (Rt (.c (.bool true)) []) := by
  have p1 := pathsSplit_spec [97, 47, 98, 46, 99] (by decide)
  have p2 := pathsSplit_spec [97, 47, 47, 98] (by decide)
  have p3 := under_spec [97, 47, 98, 47, 99] [97, 47, 98] (by decide)
  have p4 := less_spec [97, 47, 122] [98] (by decide) (by decide)
  have p5 := less_spec [97] [97, 47, 98] (by decide) (by decide)
  have p6 := name_spec [46, 46]
  rw [sp1] at p1
  rw [sp2] at p2
  rw [up1] at p3
  rw [le1] at p4
  rw [le2] at p5
  rw [nm1] at p6
  dsimp only at p1 p2 p3 p4 p5 p6
  refine X_spec ⟨Tryd.prog, tab, 53, 0⟩ tabOk (by kernel_rfl) Tryd.call6 Tryd.func6 rfl rfl (by kernel_rfl) rfl ?_
  intro hb
  (conv => whnf)
  refine cl [] [] (p1) (by (repeat' first | exact trivial | exact rfl | refine And.intro ?_ ?_); done) (by first | exact trivial | exact rfl) ?_
  (conv => whnf)
  refine cl [] [] (p2) (by (repeat' first | exact trivial | exact rfl | refine And.intro ?_ ?_); done) (by first | exact trivial | exact rfl) ?_
  (conv => whnf)
  refine cl [] [] (p3) (by (repeat' first | exact trivial | exact rfl | refine And.intro ?_ ?_); done) (by first | exact trivial | exact rfl) ?_
  (conv => whnf)
  refine ⟨1, ⟨rfl, by decide⟩, ?_⟩
  (conv => whnf)
  refine ⟨[98, 46, 99], rfl, ?_⟩
  (conv => whnf)
  refine cl [] [] (p4) (by (repeat' first | exact trivial | exact rfl | refine And.intro ?_ ?_); done) (by first | exact trivial | exact rfl) ?_
  (conv => whnf)
  refine cl [] [] (p5) (by (repeat' first | exact trivial | exact rfl | refine And.intro ?_ ?_); done) (by first | exact trivial | exact rfl) ?_
  (conv => whnf)
  refine cl [] [] (p6) (by (repeat' first | exact trivial | exact rfl | refine And.intro ?_ ?_); done) (by first | exact trivial | exact rfl) ?_
  (conv => whnf)
  exact rtB rfl
set_option maxHeartbeats 2000000 in
theorem pathsOrder_spec (a b c : List UInt8) (hl : a.length + b.length + c.length ≤ 1048576) : Does Tryd.prog 3 [.c (.str a), .c (.str b), .c (.str c)] [] (Rt (.c (.bool true)) []) := by
  have lab := less_spec a b (by omega) (by omega)
  have lba := less_spec b a (by omega) (by omega)
  have lbc := less_spec b c (by omega) (by omega)
  have lac := less_spec a c (by omega) (by omega)
  have unc := under_spec c b (by omega)
  have u2 : (underP c b).2 = true → lessP b c = true := fun h => by
    unfold underP at h
    cases hu : under c b with
    | none => rw [hu] at h; cases h
    | some r => exact lessP_under hu
  have key : ((lessP a b = true ∧ lessP b a = false ∧ ¬ a = b) ∨ (lessP a b = false ∧ lessP b a = true ∧ ¬ a = b) ∨ (lessP a b = false ∧ lessP b a = false ∧ a = b)) := by
    rcases lessP_tri a b with h | h | h
    · exact .inl ⟨h, lessP_asymm h, fun e => by subst e; rw [lessP_irrefl] at h; cases h⟩
    · subst h; exact .inr (.inr ⟨lessP_irrefl, lessP_irrefl, rfl⟩)
    · exact .inr (.inl ⟨lessP_asymm h, h, fun e => by subst e; rw [lessP_irrefl] at h; cases h⟩)
  have htr : lessP a b = true → lessP b c = true → lessP a c = true := lessP_trans
  generalize lessP a b = ab at *
  generalize lessP b a = ba at *
  generalize lessP b c = bc at *
  generalize lessP a c = ac at *
  generalize underP c b = uc at *
  obtain ⟨u, is⟩ := uc
  dsimp only at unc u2
  refine X_spec ⟨Tryd.prog, tab, 78, 0⟩ tabOk (by kernel_rfl) Tryd.call3 Tryd.func3 rfl rfl (by kernel_rfl) rfl ?_
  intro hb
  repeat' ((conv => whnf); first | (refine dec (fun h => ?_) (fun h => ?_) <;> try contradiction) | (refine decN (fun h => ?_) (fun h => ?_) <;> try contradiction) | refine booN (fun h => ?_) (fun h => ?_) | refine boo (fun h => ?_) (fun h => ?_) | refine ⟨i64 (by omega) (by omega), ?_⟩ | refine ⟨_, _, rfl, List.getElem?_eq_getElem (by omega), ?_⟩ | refine ⟨_, ⟨rfl, by omega⟩, ?_⟩ | refine ⟨_, List.getElem?_eq_getElem (by omega), ?_⟩ | refine rtB ?_ | refine rtI ?_ | refine rtC ?_ rfl | fail)
  (conv => whnf)
  refine cl [] [] (pathsBegun_spec) (by (repeat' first | exact trivial | exact rfl | refine And.intro ?_ ?_); done) (by first | exact trivial | exact rfl) ?_
  repeat' ((conv => whnf); first | (refine dec (fun h => ?_) (fun h => ?_) <;> try contradiction) | (refine decN (fun h => ?_) (fun h => ?_) <;> try contradiction) | refine booN (fun h => ?_) (fun h => ?_) | refine boo (fun h => ?_) (fun h => ?_) | refine ⟨i64 (by omega) (by omega), ?_⟩ | refine ⟨_, _, rfl, List.getElem?_eq_getElem (by omega), ?_⟩ | refine ⟨_, ⟨rfl, by omega⟩, ?_⟩ | refine ⟨_, List.getElem?_eq_getElem (by omega), ?_⟩ | refine rtB ?_ | refine rtI ?_ | refine rtC ?_ rfl | fail)
  · rfl
  rcases key with ⟨rfl, rfl, k⟩ | ⟨rfl, rfl, k⟩ | ⟨rfl, rfl, k⟩ <;> cases bc <;> cases ac <;> cases is <;> simp only [imp_self, forall_const, Bool.false_eq_true, false_implies, reduceCtorEq] at htr u2
  all_goals
    repeat' first | ((conv => whnf); first | (refine dec (fun h => ?_) (fun h => ?_) <;> try contradiction) | (refine decN (fun h => ?_) (fun h => ?_) <;> try contradiction) | refine booN (fun h => ?_) (fun h => ?_) | refine boo (fun h => ?_) (fun h => ?_) | refine ⟨i64 (by omega) (by omega), ?_⟩ | refine ⟨_, _, rfl, List.getElem?_eq_getElem (by omega), ?_⟩ | refine ⟨_, ⟨rfl, by omega⟩, ?_⟩ | refine ⟨_, List.getElem?_eq_getElem (by omega), ?_⟩ | refine rtB ?_ | refine rtI ?_ | refine rtC ?_ rfl | fail) | ((conv => whnf); first | (refine cl [] [] lab (And.intro (And.intro rfl (And.intro rfl trivial)) trivial) trivial ?_) | (refine cl [] [] lba (And.intro (And.intro rfl (And.intro rfl trivial)) trivial) trivial ?_) | (refine cl [] [] lbc (And.intro (And.intro rfl (And.intro rfl trivial)) trivial) trivial ?_) | (refine cl [] [] lac (And.intro (And.intro rfl (And.intro rfl trivial)) trivial) trivial ?_) | (refine cl [] [] unc (And.intro (And.intro rfl (And.intro rfl trivial)) trivial) trivial ?_) | fail)
  all_goals rfl
theorem pathsOrder_all (a b c : List UInt8) (h1 : a.length ≤ 140737488351232) (h2 : b.length ≤ 140737488351232) (h3 : c.length ≤ 140737488351232) : Does Tryd.prog 3 [.c (.str a), .c (.str b), .c (.str c)] [] (Rt (.c (.bool true)) []) := by
  by_cases hs : a.length + b.length + c.length ≤ 3000
  · exact pathsOrder_spec a b c (by omega)
  refine X_spec ⟨Tryd.prog, tab, 78, 0⟩ tabOk (by kernel_rfl) Tryd.call3 Tryd.func3 rfl rfl (by kernel_rfl) rfl ?_
  intro hb
  repeat' ((conv => whnf); first | (refine dec (fun h => ?_) (fun h => ?_) <;> try contradiction) | (refine decN (fun h => ?_) (fun h => ?_) <;> try contradiction) | refine booN (fun h => ?_) (fun h => ?_) | refine boo (fun h => ?_) (fun h => ?_) | refine ⟨i64 (by omega) (by omega), ?_⟩ | refine ⟨_, _, rfl, List.getElem?_eq_getElem (by omega), ?_⟩ | refine ⟨_, ⟨rfl, by omega⟩, ?_⟩ | refine ⟨_, List.getElem?_eq_getElem (by omega), ?_⟩ | refine rtB ?_ | refine rtI ?_ | refine rtC ?_ rfl | fail)
  (conv => whnf)
  refine cl [] [] (pathsBegun_spec) (by (repeat' first | exact trivial | exact rfl | refine And.intro ?_ ?_); done) (by first | exact trivial | exact rfl) ?_
  (conv => whnf)
  refine ⟨i64 (by omega) (by omega), ?_⟩
  (conv => whnf)
  refine ⟨i64 (by omega) (by omega), ?_⟩
  (conv => whnf)
  refine dec (fun h => ?_) (fun h => by exfalso; omega)
  repeat' ((conv => whnf); first | (refine dec (fun h => ?_) (fun h => ?_) <;> try contradiction) | (refine decN (fun h => ?_) (fun h => ?_) <;> try contradiction) | refine booN (fun h => ?_) (fun h => ?_) | refine boo (fun h => ?_) (fun h => ?_) | refine ⟨i64 (by omega) (by omega), ?_⟩ | refine ⟨_, _, rfl, List.getElem?_eq_getElem (by omega), ?_⟩ | refine ⟨_, ⟨rfl, by omega⟩, ?_⟩ | refine ⟨_, List.getElem?_eq_getElem (by omega), ?_⟩ | refine rtB ?_ | refine rtI ?_ | refine rtC ?_ rfl | fail)
  rfl
end Go.Nest
