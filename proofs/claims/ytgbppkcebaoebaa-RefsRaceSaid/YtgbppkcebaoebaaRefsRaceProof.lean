/- Of two that set a ref, both by what it was, the first one does, and the second one is told that it is another one by now; nothing changes by that: for every input. -/
import Derived.Test.YtgbppkcebaoebaaRows
import Derived.Test.YtgbppkcebaoebaaAmL
import Derived.Test.YtgbppkcebaoebaaN8
namespace Go.Proofs.Ytgbppkcebaoebaa.refsRaceDone
open Go.AM Go.Nest Go.ChangeShapes Go.WideShapes Go.ChangeAt Go.RowKit
set_option linter.unusedVariables false

theorem op27 : OpensA Try.prog 27 4 encRs := fun {Hd e W base held fuel cs x} h => by
  obtain ⟨xs, n, _, _, hl, hlen, hf⟩ := DataW.trod_struct Try.underlying27 h
  have hlen : xs.length = 4 := hlen
  obtain ⟨y0, r0, _⟩ := OpensA.fieldT (off := 0) (k := 1) (enc := Go.AM.encS) (OpensA.str Try.underlying9) (i := 0) (by omega) (hf 0 _ rfl) rfl rfl (by kernel_rfl)
  obtain ⟨y1, r1, _⟩ := OpensA.fieldT (off := 1) (k := 1) (enc := Go.AM.encI) (OpensA.int Try.underlying3) (i := 1) (by omega) (hf 1 _ rfl) rfl rfl (by kernel_rfl)
  obtain ⟨y2, r2, _⟩ := OpensA.fieldT (off := 2) (k := 1) (enc := Go.AM.encI) (OpensA.int Try.underlying3) (i := 2) (by omega) (hf 2 _ rfl) rfl rfl (by kernel_rfl)
  obtain ⟨y3, r3, _⟩ := OpensA.fieldT (off := 3) (k := 1) (enc := Go.AM.encBo) (OpensA.bool Try.underlying4) (i := 3) (by omega) (hf 3 _ rfl) rfl rfl (by kernel_rfl)
  have hl : cs.length = 4 := hl.trans (by kernel_rfl)
  exact ⟨⟨y0, y1, y2, y3⟩, (RL.piece (off := 0) (n := 1) r0 (RL.piece (off := 1) (n := 1) r1 (RL.piece (off := 2) (n := 1) r2 (RL.piece (off := 3) (n := 1) r3 (RL.fin hl))))), rfl⟩

theorem own : ownKnob Try.prog.godebug = none := by kernel_rfl
theorem laidOut : laidOutB Try.prog = true := by kernel_rfl

set_option maxRecDepth 100000 in
theorem lifted (os : Os) (started : os.Started) (H : Type) (enc : TypeId × Value → H) :
    ReturnsInHanded {} Try.checked os 3 .any (Rows.refsRaceSpec.pre6 enc Try.prog Try.f3 Rows.refsRaceRow.domain false) (Rows.refsRaceSpec.post enc Try.prog Try.f3 false true false false) := by
  refine returnsInHanded_of_change (C := Try.checked) own started (by kernel_rfl) Try.func3
    (ChangeSpec.witness6 (enc := enc) (C := Try.checked) false ⟨#[], #[.slice none 0 0, .string .empty, .int .i64 0, .int .i64 0], []⟩ 8 (by kernel_rfl) (by kernel_rfl) (by kernel_rfl) (by kernel_rfl)) ?_
  intro W base args ds gs before hval0 hW hcnd _
  have hval : ∀ (j : Nat) t v, Try.f3.params[j]? = some t → args[j]? = some v → Value.okWide Try.prog W .any base t v := hval0
  have hW' := hW
  obtain ⟨p, q, hA0, hV, rfl, hfz, hnd⟩ := hW
  have hA : DataW.TrodAll enc Try.prog W 0 (fun _ => true) true Try.f3.params.toList args.toList ds p := hA0
  rw [Try.params3] at hA hval
  obtain ⟨v0, vs0, d0, ds0, p0, q0, hargs, rfl, rfl, h0, r0⟩ := trodAll_cons hA
  obtain ⟨v1, vs1, d1, ds1, p1, q1, rfl, rfl, rfl, h1, r1⟩ := trodAll_cons r0
  obtain ⟨v2, vs2, d2, ds2, p2, q2, rfl, rfl, rfl, h2, r2⟩ := trodAll_cons r1
  obtain ⟨v3, vs3, d3, ds3, p3, q3, rfl, rfl, rfl, h3, r3⟩ := trodAll_cons r2
  obtain ⟨rfl, rfl, rfl⟩ := trodAll_nil r3
  obtain rfl : args = #[v0, v1, v2, v3] := by cases args; simp_all
  obtain ⟨rfl, rfl⟩ := trodVars_none hV
  have lt0 : ∀ x ∈ p0, x.block < W.heap.size := by obtain ⟨m, hm⟩ := h0; exact DataW.trod_lt m _ _ _ hm
  obtain ⟨w0_0, w1_0, w2_0, rfl⟩ := okWide_slice Try.underlying22 (hval 0 22 v0 rfl rfl)
  obtain ⟨x0, s0⟩ := OpensA.arg (OpensA.sl Try.underlying22 (by kernel_rfl) (by decide) op27) rfl h0
  have lt1 : ∀ x ∈ p1, x.block < W.heap.size := by obtain ⟨m, hm⟩ := h1; exact DataW.trod_lt m _ _ _ hm
  obtain ⟨w0_1, rfl⟩ := okWide_string Try.underlying9 (hval 1 9 v1 rfl rfl)
  obtain ⟨x1, s1⟩ := OpensA.arg (OpensA.str Try.underlying9) rfl h1
  have lt2 : ∀ x ∈ p2, x.block < W.heap.size := by obtain ⟨m, hm⟩ := h2; exact DataW.trod_lt m _ _ _ hm
  obtain ⟨w0_2, rfl⟩ := okWide_int Try.underlying3 (hval 2 3 v2 rfl rfl)
  obtain ⟨x2, s2⟩ := OpensA.arg (OpensA.int Try.underlying3) rfl h2
  have lt3 : ∀ x ∈ p3, x.block < W.heap.size := by obtain ⟨m, hm⟩ := h3; exact DataW.trod_lt m _ _ _ hm
  obtain ⟨w0_3, rfl⟩ := okWide_int Try.underlying3 (hval 3 3 v3 rfl rfl)
  obtain ⟨x3, s3⟩ := OpensA.arg (OpensA.int Try.underlying3) rfl h3
  clear hA0 hval0
  refine ((Does.below (refsRace_spec x0 x1 x2 x3) (vs := [_, _, _, _]) ⟨RAs.up1 s0, RAs.up1 s1, RAs.up1 s2, RAs.up1 s3, trivial⟩ (Try.call3 _ _))).mono fun e W' ⟨he, bel⟩ => ?_
  subst he
  exact ⟨_, rfl, _, _, _, [], _, [], hW', trodAll_mk1 (shut_bool Try.underlying4 _), (trodAll_cons_mk (Below.trod laidOut (by kernel_rfl) (of_decide_eq_true (by kernel_rfl)) h0 bel lt0) (trodAll_cons_mk (Below.trod laidOut (by kernel_rfl) (of_decide_eq_true (by kernel_rfl)) h1 bel lt1) (trodAll_cons_mk (Below.trod laidOut (by kernel_rfl) (of_decide_eq_true (by kernel_rfl)) h2 bel lt2) (trodAll_cons_mk (Below.trod laidOut (by kernel_rfl) (of_decide_eq_true (by kernel_rfl)) h3 bel lt3) trodAll_mk0)))), rfl, bel.frame _, fun h => by cases h⟩

theorem over : Rows.refsRaceRow.holds Try.pinned (OpenSpec.ofChange Rows.refsRaceSpec) :=
  OpenClaim.holds_of_wide 3 Try.f3 rfl rfl rfl rfl rfl rfl rfl ⟨rfl, rfl, rfl, rfl, rfl⟩ rfl rfl rfl rfl rfl (by kernel_rfl) Try.func3 (by kernel_rfl)
    (of_decide_eq_true (by kernel_rfl)) (by unfold Func.isWrapper; first | (rw [if_pos (by decide +kernel)]; kernel_rfl) | (rw [if_neg (by decide +kernel)]; exact ⟨rfl, rfl⟩))
    (fun os started H enc _ => lifted os started H enc)

/-- the given statement -/
theorem proved : Rows.RefsRaceSaid := over
#print axioms proved
end Go.Proofs.Ytgbppkcebaoebaa.refsRaceDone
