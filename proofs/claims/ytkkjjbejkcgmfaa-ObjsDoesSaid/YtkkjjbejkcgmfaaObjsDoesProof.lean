/- Every Check, Own, Same, Encode and Decode of the package objs is as the document says, and what is handed in stays. For every pair of objects and all bytes, without a condition. -/
import Derived.Test.YtkkjjbejkcgmfaaRows
import Derived.Test.YtkkjjbejkcgmfaaAmL
import Derived.Test.YtkkjjbejkcgmfaaG23
namespace Go.Proofs.Ytkkjjbejkcgmfaa.objsDoesDone
open Go.AM Go.Nest Go.ChangeShapes Go.WideShapes Go.ChangeAt Go.RowKit
set_option linter.unusedVariables false

theorem op81 : OpensA Try.prog 81 4 encEn := fun {Hd e W base held fuel cs x} h => by
  obtain ⟨xs, n, _, _, hl, hlen, hf⟩ := DataW.trod_struct Try.underlying81 h
  have hlen : xs.length = 4 := hlen
  obtain ⟨y0, r0, _⟩ := OpensA.field (off := 0) (k := 1) (enc := encS) (OpensA.str Try.underlying9) (i := 0) (by omega) (hf 0 _ rfl) rfl (by kernel_rfl)
  obtain ⟨y1, r1, _⟩ := OpensA.field (off := 1) (k := 1) (enc := encI) (OpensA.int Try.underlying3) (i := 1) (by omega) (hf 1 _ rfl) rfl (by kernel_rfl)
  obtain ⟨y2, r2, _⟩ := OpensA.field (off := 2) (k := 1) (enc := encI) (OpensA.int Try.underlying3) (i := 2) (by omega) (hf 2 _ rfl) rfl (by kernel_rfl)
  obtain ⟨y3, r3, _⟩ := OpensA.field (off := 3) (k := 1) (enc := encI) (OpensA.int Try.underlying3) (i := 3) (by omega) (hf 3 _ rfl) rfl (by kernel_rfl)
  have hl : cs.length = 4 := hl.trans (by kernel_rfl)
  exact ⟨⟨y0, y1, y2, y3⟩, (RL.piece (off := 0) (n := 1) r0 (RL.piece (off := 1) (n := 1) r1 (RL.piece (off := 2) (n := 1) r2 (RL.piece (off := 3) (n := 1) r3 (RL.fin hl))))), rfl⟩

theorem op44 : OpensA Try.prog 44 6 encOb := fun {Hd e W base held fuel cs x} h => by
  obtain ⟨xs, n, _, _, hl, hlen, hf⟩ := DataW.trod_struct Try.underlying44 h
  have hlen : xs.length = 6 := hlen
  obtain ⟨y0, r0, _⟩ := OpensA.field (off := 0) (k := 1) (enc := encI) (OpensA.int Try.underlying3) (i := 0) (by omega) (hf 0 _ rfl) rfl (by kernel_rfl)
  obtain ⟨y1, r1, _⟩ := OpensA.field (off := 1) (k := 1) (enc := (encL 1 bytesC)) (OpensA.sl Try.underlying22 (by kernel_rfl) (by decide) (OpensA.byte Try.underlying5)) (i := 1) (by omega) (hf 1 _ rfl) rfl (by kernel_rfl)
  obtain ⟨y2, r2, _⟩ := OpensA.field (off := 2) (k := 1) (enc := (encL 4 encEn)) (OpensA.sl Try.underlying41 (by kernel_rfl) (by decide) op81) (i := 2) (by omega) (hf 2 _ rfl) rfl (by kernel_rfl)
  obtain ⟨y3, r3, _⟩ := OpensA.field (off := 3) (k := 1) (enc := encI) (OpensA.int Try.underlying3) (i := 3) (by omega) (hf 3 _ rfl) rfl (by kernel_rfl)
  obtain ⟨y4, r4, _⟩ := OpensA.field (off := 4) (k := 1) (enc := (encL 1 encI)) (OpensA.sl Try.underlying42 (by kernel_rfl) (by decide) (OpensA.int Try.underlying3)) (i := 4) (by omega) (hf 4 _ rfl) rfl (by kernel_rfl)
  obtain ⟨y5, r5, _⟩ := OpensA.field (off := 5) (k := 1) (enc := encS) (OpensA.str Try.underlying9) (i := 5) (by omega) (hf 5 _ rfl) rfl (by kernel_rfl)
  have hl : cs.length = 6 := hl.trans (by kernel_rfl)
  exact ⟨⟨y0, y1, y2, y3, y4, y5⟩, (RL.piece (off := 0) (n := 1) r0 (RL.piece (off := 1) (n := 1) r1 (RL.piece (off := 2) (n := 1) r2 (RL.piece (off := 3) (n := 1) r3 (RL.piece (off := 4) (n := 1) r4 (RL.piece (off := 5) (n := 1) r5 (RL.fin hl))))))), rfl⟩

theorem own : ownKnob Try.prog.godebug = none := by kernel_rfl
theorem laidOut : laidOutB Try.prog = true := by kernel_rfl

set_option maxRecDepth 100000 in
theorem lifted (os : Os) (started : os.Started) (H : Type) (enc : TypeId × Value → H) :
    ReturnsInHanded {} Try.checked os 11 .any (Rows.objsDoesSpec.pre6 enc Try.prog Try.f11 Rows.objsDoesRow.domain false) (Rows.objsDoesSpec.post enc Try.prog Try.f11 false true false false) := by
  refine returnsInHanded_of_change (C := Try.checked) own started (by kernel_rfl) Try.func11
    (ChangeSpec.witness6 (enc := enc) (C := Try.checked) false ⟨#[], #[.agg #[.int .i64 0, .slice none 0 0, .slice none 0 0, .int .i64 0, .slice none 0 0, .string .empty], .agg #[.int .i64 0, .slice none 0 0, .slice none 0 0, .int .i64 0, .slice none 0 0, .string .empty], .slice none 0 0], []⟩ 8 (by kernel_rfl) (by kernel_rfl) (by kernel_rfl) (by kernel_rfl)) ?_
  intro W base args ds gs before hval0 hW hcnd _
  have hval : ∀ (j : Nat) t v, Try.f11.params[j]? = some t → args[j]? = some v → Value.okWide Try.prog W .any base t v := hval0
  have hW' := hW
  obtain ⟨p, q, hA0, hV, rfl, hfz, hnd⟩ := hW
  have hA : DataW.TrodAll enc Try.prog W 0 (fun _ => true) true Try.f11.params.toList args.toList ds p := hA0
  rw [Try.params11] at hA hval
  obtain ⟨v0, vs0, d0, ds0, p0, q0, hargs, rfl, rfl, h0, r0⟩ := trodAll_cons hA
  obtain ⟨v1, vs1, d1, ds1, p1, q1, rfl, rfl, rfl, h1, r1⟩ := trodAll_cons r0
  obtain ⟨v2, vs2, d2, ds2, p2, q2, rfl, rfl, rfl, h2, r2⟩ := trodAll_cons r1
  obtain ⟨rfl, rfl, rfl⟩ := trodAll_nil r2
  obtain rfl : args = #[v0, v1, v2] := by cases args; simp_all
  obtain ⟨rfl, rfl⟩ := trodVars_none hV
  have lt0 : ∀ x ∈ p0, x.block < W.heap.size := by obtain ⟨m, hm⟩ := h0; exact DataW.trod_lt m _ _ _ hm
  obtain ⟨w0_0, rfl, _⟩ := okWide_struct Try.underlying44 (hval 0 44 v0 rfl rfl)
  obtain ⟨x0, s0⟩ := OpensA.argS op44 h0
  have lt1 : ∀ x ∈ p1, x.block < W.heap.size := by obtain ⟨m, hm⟩ := h1; exact DataW.trod_lt m _ _ _ hm
  obtain ⟨w0_1, rfl, _⟩ := okWide_struct Try.underlying44 (hval 1 44 v1 rfl rfl)
  obtain ⟨x1, s1⟩ := OpensA.argS op44 h1
  have lt2 : ∀ x ∈ p2, x.block < W.heap.size := by obtain ⟨m, hm⟩ := h2; exact DataW.trod_lt m _ _ _ hm
  obtain ⟨w0_2, w1_2, w2_2, rfl⟩ := okWide_slice Try.underlying22 (hval 2 22 v2 rfl rfl)
  obtain ⟨x2, s2⟩ := OpensA.arg (OpensA.sl Try.underlying22 (by kernel_rfl) (by decide) (OpensA.byte Try.underlying5)) rfl h2
  clear hA0 hval0
  refine ((Does.below (objsDoes_spec x0 x1 x2) (vs := [_, _, _]) ⟨RAs.upS s0, RAs.upS s1, RAs.up1 s2, trivial⟩ (Try.call11 _ _))).mono fun e W' ⟨he, bel⟩ => ?_
  subst he
  exact ⟨_, rfl, _, _, _, [], _, [], hW', trodAll_mk1 (shut_bool Try.underlying4 _), (trodAll_cons_mk (Below.trod laidOut (by kernel_rfl) (of_decide_eq_true (by kernel_rfl)) h0 bel lt0) (trodAll_cons_mk (Below.trod laidOut (by kernel_rfl) (of_decide_eq_true (by kernel_rfl)) h1 bel lt1) (trodAll_cons_mk (Below.trod laidOut (by kernel_rfl) (of_decide_eq_true (by kernel_rfl)) h2 bel lt2) trodAll_mk0))), rfl, bel.frame _, fun h => by cases h⟩

theorem over : Rows.objsDoesRow.holds Try.pinned (OpenSpec.ofChange Rows.objsDoesSpec) :=
  OpenClaim.holds_of_wide 11 Try.f11 rfl rfl rfl rfl rfl rfl rfl ⟨rfl, rfl, rfl, rfl, rfl⟩ rfl rfl rfl rfl rfl (by kernel_rfl) Try.func11 (by kernel_rfl)
    (of_decide_eq_true (by kernel_rfl)) (by unfold Func.isWrapper; first | (rw [if_pos (by decide +kernel)]; kernel_rfl) | (rw [if_neg (by decide +kernel)]; exact ⟨rfl, rfl⟩))
    (fun os started H enc _ => lifted os started H enc)

/-- the given statement -/
theorem proved : Rows.ObjsDoesSaid := over
#print axioms proved
end Go.Proofs.Ytkkjjbejkcgmfaa.objsDoesDone
