/- Moves of each ref follow one another; done again, they make the same refs; there are never more than there may be, and their names rise: for every input. -/
import Derived.Test.YtgbppkcebaoebaaRows
import Derived.Test.YtgbppkcebaoebaaAmL
import Derived.Test.YtgbppkcebaoebaaN9
namespace Go.Proofs.Ytgbppkcebaoebaa.refsMovesDone
open Go.AM Go.Nest Go.ChangeShapes Go.WideShapes Go.ChangeAt Go.RowKit
set_option linter.unusedVariables false

theorem op27 : OpensA Try.prog 27 4 encRs := fun {Hd e W base held fuel cs x} h => by
  obtain ⟨xs, n, _, _, hl, hlen, hf⟩ := DataW.trod_struct Try.underlying27 h
  have hlen : xs.length = 4 := hlen
  obtain ⟨y0, r0, _⟩ := OpensA.fieldT (off := 0) (k := 1) (enc := Go.AM.encS) (OpensA.str Try.underlying9) (i := 0) (by omega) (hf 0 _ rfl) rfl rfl (by kernel_rfl)
  obtain ⟨y1, r1, _⟩ := OpensA.fieldT (off := 1) (k := 1) (enc := Go.AM.encI) (OpensA.int Try.underlying3) (i := 1) (by omega) (hf 1 _ rfl) rfl rfl (by kernel_rfl)
  obtain ⟨y2, r2, _⟩ := OpensA.fieldT (off := 2) (k := 1) (enc := Go.AM.encI) (OpensA.int Try.underlying3) (i := 2) (by omega) (hf 2 _ rfl) rfl rfl (by kernel_rfl)
  obtain ⟨y3, r3, _⟩ := OpensA.fieldT (off := 3) (k := 1) (enc := Go.AM.encBo) (OpensA.bool Try.underlying4) (i := 3) (by omega) (hf 3 _ rfl) rfl rfl (by kernel_rfl)
  have hl : cs.length = 4 := hl.trans (by kernel_rfl)
  exact ⟨⟨y0, y1, y2, y3⟩, (RL.piece (off := 0) (n := 1) r0 (RL.piece (off := 1) (n := 1) r1 (RL.piece (off := 2) (n := 1) r2 (RL.piece (off := 3) (n := 1) r3 (RL.fin hl))))), rfl⟩

theorem own : ownKnob Try.prog.godebug = none := by kernel_rfl
theorem laidOut : laidOutB Try.prog = true := by kernel_rfl

set_option maxRecDepth 100000 in
theorem lifted (os : Os) (started : os.Started) (H : Type) (enc : TypeId × Value → H) :
    ReturnsInHanded {} Try.checked os 5 .any (Rows.refsMovesSpec.pre6 enc Try.prog Try.f5 Rows.refsMovesRow.domain false) (Rows.refsMovesSpec.post enc Try.prog Try.f5 false true false false) := by
  refine returnsInHanded_of_change (C := Try.checked) own started (by kernel_rfl) Try.func5
    (ChangeSpec.witness6 (enc := enc) (C := Try.checked) false ⟨#[], #[.slice none 0 0], []⟩ 8 (by kernel_rfl) (by kernel_rfl) (by kernel_rfl) (by kernel_rfl)) ?_
  intro W base args ds gs before hval0 hW hcnd _
  have hval : ∀ (j : Nat) t v, Try.f5.params[j]? = some t → args[j]? = some v → Value.okWide Try.prog W .any base t v := hval0
  have hW' := hW
  obtain ⟨p, q, hA0, hV, rfl, hfz, hnd⟩ := hW
  have hA : DataW.TrodAll enc Try.prog W 0 (fun _ => true) true Try.f5.params.toList args.toList ds p := hA0
  rw [Try.params5] at hA hval
  obtain ⟨v0, vs0, d0, ds0, p0, q0, hargs, rfl, rfl, h0, r0⟩ := trodAll_cons hA
  obtain ⟨rfl, rfl, rfl⟩ := trodAll_nil r0
  obtain rfl : args = #[v0] := by cases args; simp_all
  obtain ⟨rfl, rfl⟩ := trodVars_none hV
  have lt0 : ∀ x ∈ p0, x.block < W.heap.size := by obtain ⟨m, hm⟩ := h0; exact DataW.trod_lt m _ _ _ hm
  obtain ⟨w0_0, w1_0, w2_0, rfl⟩ := okWide_slice Try.underlying22 (hval 0 22 v0 rfl rfl)
  obtain ⟨x0, s0⟩ := OpensA.arg (OpensA.sl Try.underlying22 (by kernel_rfl) (by decide) op27) rfl h0
  clear hA0 hval0
  refine ((Does.below (refsMoves_spec x0) (vs := [_]) ⟨RAs.up1 s0, trivial⟩ (Try.call5 _ _))).mono fun e W' ⟨he, bel⟩ => ?_
  subst he
  exact ⟨_, rfl, _, _, _, [], _, [], hW', trodAll_mk1 (shut_bool Try.underlying4 _), (trodAll_cons_mk (Below.trod laidOut (by kernel_rfl) (of_decide_eq_true (by kernel_rfl)) h0 bel lt0) trodAll_mk0), rfl, bel.frame _, fun h => by cases h⟩

theorem over : Rows.refsMovesRow.holds Try.pinned (OpenSpec.ofChange Rows.refsMovesSpec) :=
  OpenClaim.holds_of_wide 5 Try.f5 rfl rfl rfl rfl rfl rfl rfl ⟨rfl, rfl, rfl, rfl, rfl⟩ rfl rfl rfl rfl rfl (by kernel_rfl) Try.func5 (by kernel_rfl)
    (of_decide_eq_true (by kernel_rfl)) (by unfold Func.isWrapper; first | (rw [if_pos (by decide +kernel)]; kernel_rfl) | (rw [if_neg (by decide +kernel)]; exact ⟨rfl, rfl⟩))
    (fun os started H enc _ => lifted os started H enc)

/-- the given statement -/
theorem proved : Rows.RefsMovesSaid := over
#print axioms proved
end Go.Proofs.Ytgbppkcebaoebaa.refsMovesDone
