/- BlendSides: what one left alone is the other one's, and the other way round there is the same: at every three lists of documents; no condition. -/
import Derived.Test.YtpmjnbidmcnhnaaGreatDoorCards
import Derived.Test.YtpmjnbidmcnhnaaGreatDoorTie
import Derived.Test.YtpmjnbidmcnhnaaGreatDoorAmT3
import Derived.Test.YtpmjnbidmcnhnaaGreatDoorB17
import Derived.Deep.DeepHandedRow
import Derived.Lib.LaidTab
namespace Go.Proofs.YtpmjnbidmcnhnaaGreatDoor.blendSidesDone
open Go.AM Go.Nest Go.ChangeShapes Go.WideShapes Go.ChangeAt Go.RowKit
set_option linter.unusedVariables false

def ok102 (x : Dc) : Prop := okS x.path ∧ (okLn okT) x.bytes
theorem op102 : OpensW Tryz.prog 102 2 encDc ok102 := fun {Hd e W base held fuel cs x} h hw => by
  obtain ⟨xs, n, _, hx, hl, hlen, hf⟩ := DataW.trod_struct Tryz.underlying102 h
  have hlen : xs.length = 2 := hlen
  have hw : ∀ n ∈ DataW.weightsEach Tryz.prog [9, 41] (xs.map (·.1)), n ≤ 140737488351232 := fun n hn => hw n (by rw [hx]; simp only [DataW.weights, Tryz.underlying102]; exact hn)
  obtain ⟨y0, r0, _, k0⟩ := OpensW.field (off := 0) (k := 1) (enc := Go.AM.encS) (fs := [9, 41]) (OpensW.str Tryz.underlying9) (i := 0) (by omega) rfl hw (hf 0 _ rfl) rfl (by kernel_rfl)
  obtain ⟨y1, r1, _, k1⟩ := OpensW.field (off := 1) (k := 1) (enc := (Go.AM.encL 1 Go.AM.bytesC)) (fs := [9, 41]) (OpensW.sln Tryz.underlying41 (by kernel_rfl) (by decide) (of_decide_eq_true (by kernel_rfl)) (OpensW.byte Tryz.underlying5)) (i := 1) (by omega) rfl hw (hf 1 _ rfl) rfl (by kernel_rfl)
  have hl : cs.length = 2 := hl.trans (by kernel_rfl)
  exact ⟨⟨y0, y1⟩, (RL.piece (off := 0) (n := 1) r0 (RL.piece (off := 1) (n := 1) r1 (RL.fin hl))), rfl, k0, k1⟩

theorem own : ownKnob Tryz.prog.godebug = none := by kernel_rfl
theorem laidOut : laidOutB Tryz.prog = true := by kernel_rfl

set_option maxRecDepth 100000 in
theorem contract (H : Type) (enc : TypeId × Value → H) (W : World) (base : Nat) (args : Array Value) (ds gs : List (DataW H)) (before : List MemPlace)
    (hval0 : ∀ (j : Nat) t v, Tryz.f6.params[j]? = some t → args[j]? = some v → Value.okWide Tryz.prog W .any base t v)
    (hW : DataW.Whole enc Tryz.prog Tryz.f6.params.toList Rows.blendSidesSpec.vars false W args.toList ds gs before) {ts : List TypeId} (hk : (DataW.weightsEach Tryz.prog ([73] ++ ts) (ds ++ gs)).all (· ≤ reachBytes) = true) :
    Calls Tryz.prog 6 args W fun e W' => ∃ v, e = .returned v ∧ Rows.blendSidesSpec.post enc Tryz.prog Tryz.f6 false true false false W args v W' := by
  have hval := hval0
  have hW' := hW
  obtain ⟨p, q, hA0, hV, rfl, hfz, hnd⟩ := hW
  have hA : DataW.TrodAll enc Tryz.prog W 0 (fun _ => true) true Tryz.f6.params.toList args.toList ds p := hA0
  rw [Tryz.params6] at hA hval
  obtain ⟨v0, vs0, d0, ds0, p0, q0, hargs, rfl, rfl, h0, r0⟩ := trodAll_cons hA
  obtain ⟨rfl, rfl, rfl⟩ := trodAll_nil r0
  obtain rfl : args = #[v0] := by cases args; simp_all
  obtain ⟨rfl, rfl⟩ := trodVars_none hV
  have lt0 : ∀ x ∈ p0, x.block < W.heap.size := by obtain ⟨m, hm⟩ := h0; exact DataW.trod_lt m _ _ _ hm
  have wt0 : Lt Tryz.prog 73 d0 := Lt.of (i := 0) hk rfl rfl
  obtain ⟨w0_0, rfl, _⟩ := okWide_array Tryz.underlying73 (hval 0 73 v0 rfl rfl)
  obtain ⟨x0, s0, k0⟩ := OpensW.argS (OpensW.t3 Tryz.underlying73 (by kernel_rfl) (by kernel_rfl) (OpensW.sln Tryz.underlying72 (by kernel_rfl) (by decide) (of_decide_eq_true (by kernel_rfl)) op102)) h0 wt0
  clear hA0 hval0
  refine ((Does.below ((fun d (k : okT3 (okLn ok102) d) => blendSides_spec d.r0 d.r1 d.r2 (fun dd hd => ⟨(k.1.2 dd hd).1, (k.1.2 dd hd).2.1⟩) (fun dd hd => ⟨(k.2.1.2 dd hd).1, (k.2.1.2 dd hd).2.1⟩) (fun dd hd => ⟨(k.2.2.2 dd hd).1, (k.2.2.2 dd hd).2.1⟩)) x0 k0) (vs := [_]) ⟨RAs.upS s0, trivial⟩ (Tryz.call6 _ _))).mono fun e W' ⟨he, bel⟩ => ?_
  subst he
  exact ⟨_, rfl, _, _, _, [], _, [], hW', trodAll_mk1 (shut_bool Tryz.underlying4 _), (trodAll_cons_mk (Below.trod laidOut (by kernel_rfl) (of_decide_eq_true (by kernel_rfl)) h0 bel lt0) trodAll_mk0), rfl, bel.frame _, fun h => by cases h⟩

/-- A world for the witness: the settled one, the two tables holding what is listed. -/
noncomputable def laidWorld (os : Os) (args : Array Value) : World :=
  let w0 := World.holding Tryz.prog os ⟨#[], #[], []⟩
  { w0 with heap := (w0.heap.modify 1 (fun
      | .cells _ t frozen => .cells (Go.Pinned.utf8FirstZ.map fun (n : Nat) => Value.int .u8 (n : Int)).toArray t frozen
      | o => o)).modify 2 (fun
      | .cells _ t frozen => .cells #[.int .u8 128, .int .u8 191, .int .u8 160, .int .u8 191, .int .u8 128, .int .u8 159, .int .u8 144, .int .u8 191, .int .u8 128, .int .u8 143, .int .u8 0, .int .u8 0, .int .u8 0, .int .u8 0, .int .u8 0, .int .u8 0, .int .u8 0, .int .u8 0, .int .u8 0, .int .u8 0, .int .u8 0, .int .u8 0, .int .u8 0, .int .u8 0, .int .u8 0, .int .u8 0, .int .u8 0, .int .u8 0, .int .u8 0, .int .u8 0, .int .u8 0, .int .u8 0] t frozen
      | o => o) }
def zargs : Array Value := #[.agg #[.slice none 0 0, .slice none 0 0, .slice none 0 0]]
set_option maxRecDepth 100000 in
theorem laid_met (os : Os) : laidMet Tryz.prog Rows.blendSidesRow.laid ((laidWorld os zargs).forCall (fun _ _ => 0) ⟨#[], zargs, []⟩).memory :=
  laidMet_of_run' 8 (by kernel_rfl) (by kernel_rfl)
set_option maxRecDepth 100000 in
theorem reads (os : Os) {H : Type} (enc : TypeId × Value → H) : ∃ places, DataW.whole enc Tryz.prog ((laidWorld os zargs).forCall (fun _ _ => 0) ⟨#[], zargs, []⟩).memory Tryz.f6.params.toList Rows.blendSidesSpec.vars false zargs.toList 8 = some ([.agg [.nil, .nil, .nil]], [], places) :=
  ⟨[], by kernel_rfl⟩

set_option maxRecDepth 100000 in
theorem lifted (os : Os) (started : os.Started) (H : Type) (enc : TypeId × Value → H) (F : Stop.Interp) :
    ReturnsInHanded {} Tryz.checked os 6 .any ((OpenSpec.ofChange Rows.blendSidesSpec).preRow enc Tryz.prog Tryz.f6 Rows.blendSidesRow.domain false Rows.blendSidesRow.laid) (((OpenSpec.ofChange Rows.blendSidesSpec).at F).post enc Tryz.prog Tryz.f6 false true false false) := by
  obtain ⟨places, hx⟩ := reads os enc
  refine returnsInHanded_of_row (C := Tryz.checked) (s := OpenSpec.ofChange Rows.blendSidesSpec) own started (by kernel_rfl) Tryz.func6
    (witness_row_at (enc := enc) (C := Tryz.checked) false (laidWorld os zargs) zargs rfl (by kernel_rfl) (by kernel_rfl) (by kernel_rfl)
      (OpenSpec.preRow_of_cond 8 hx (by kernel_rfl) (fun k hk => by cases hk) (by kernel_rfl) (laid_met os))) ?_
  intro W base args ds gs before hval hW _ _ hwt hL _ _
  exact contract H enc W base args ds gs before hval hW hwt

theorem wrapped : Tryz.f6.isWrapper Tryz.pinned.checked.prog Rows.blendSidesRow.wrapper Rows.blendSidesRow.mainSum := by unfold Func.isWrapper; first | (rw [if_pos (by decide +kernel)]; kernel_rfl) | (rw [if_neg (by decide +kernel)]; exact ⟨rfl, rfl⟩)
theorem instanced : Tryz.f6.isInstance Tryz.pinned.checked.prog Rows.blendSidesRow.origin Rows.blendSidesRow.targs := of_decide_eq_true (by kernel_rfl)
theorem joined : joinedFacts Tryz.pinned.checked.prog 6 Tryz.f6 (OpenSpec.ofChange Rows.blendSidesSpec).bare Rows.blendSidesRow = true := by kernel_rfl
theorem said : Rows.BlendSidesSaid :=
  OpenClaim.holds_of_cond 6 Tryz.f6 rfl rfl rfl rfl rfl rfl rfl ⟨rfl, rfl, rfl, rfl, rfl⟩ rfl rfl rfl rfl rfl (by kernel_rfl) Tryz.func6 joined
    instanced wrapped
    (fun os started H enc _ F => by rw [OpenClaim.pre_eq_preRow]; exact lifted os started H enc F)

set_option maxRecDepth 100000 in
theorem plain (f : FuncId) (fn : Func) (hf : Tryz.pinned.checked.prog.funcNamed "nestbox/nestboxlaw.BlendSides" = some f) (hfn : Tryz.pinned.checked.prog.funcs[f]? = some fn) :
    false = Tryz.pinned.checked.prog.looks [] ∧ ∀ (j : Nat) t, fn.params[j]? = some t → Tryz.pinned.checked.prog.wantsStandIn t = false := by
  obtain rfl : f = 6 := Option.some.inj ((show Tryz.prog.funcNamed "nestbox/nestboxlaw.BlendSides" = some 6 by kernel_rfl).symm.trans hf) |>.symm
  obtain rfl : fn = Tryz.f6 := (Option.some.inj (Tryz.func6.symm.trans hfn)).symm
  refine ⟨by kernel_rfl, fun j t ht => ?_⟩
  rw [Tryz.params6] at ht
  have hm := Array.mem_of_getElem? ht
  simp only [List.mem_toArray, List.mem_cons, List.not_mem_nil, or_false] at hm
  have h_73 : Tryz.pinned.checked.prog.wantsStandIn 73 = false := by kernel_rfl
  subst hm; assumption

/-- the given card -/
theorem proved : Rows.BlendSidesCardSaid :=
  Claim7.holds_tied_plain_at .later [] _ _ _ _ said (fun _ h => by cases h) (by kernel_rfl) (fun _ h => by cases h) blendSides_row_tie rfl ⟨rfl, rfl⟩ (by kernel_rfl) rfl plain (by kernel_rfl)
#print axioms proved
end Go.Proofs.YtpmjnbidmcnhnaaGreatDoor.blendSidesDone
