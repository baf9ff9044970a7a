/- BlendPaths: what becomes of a path, and whether it can be merged, is what becomes of it where nothing else lies: at every three lists of documents and every number; no condition. -/
import Derived.Test.YtpmjnbidmcnhnaaGreatDoorCards
import Derived.Test.YtpmjnbidmcnhnaaGreatDoorTie
import Derived.Test.YtpmjnbidmcnhnaaGreatDoorAmT3
import Derived.Test.YtpmjnbidmcnhnaaGreatDoorB18
import Derived.Deep.DeepHandedRow
import Derived.Lib.LaidTab
namespace Go.Proofs.YtpmjnbidmcnhnaaGreatDoor.blendPathsDone
open Go.AM Go.Nest Go.ChangeShapes Go.WideShapes Go.ChangeAt Go.RowKit
set_option linter.unusedVariables false

def ok102 (x : Dc) : Prop := okS x.path ∧ (okLn okT) x.bytes
theorem op102 : OpensW Tryz.prog 102 2 encDc ok102 := fun {Hd e W base held fuel cs x} h hw => by
  obtain ⟨xs, n, _, hx, hl, hlen, hf⟩ := DataW.trod_struct Tryz.underlying102 h
  have hlen : xs.length = 2 := hlen
  have hw : ∀ n ∈ DataW.weightsEach Tryz.prog [9, 41] (xs.map (·.1)), n ≤ 140737488351232 := fun n hn => hw n (by rw [hx]; simp only [DataW.weights, Tryz.underlying102]; exact hn)
  obtain ⟨y0, r0, _, k0⟩ := OpensW.field (off := 0) (k := 1) (enc := Go.AM.encS) (fs := [9, 41]) (OpensW.str Tryz.underlying9) (i := 0) (by omega) rfl hw (hf 0 _ rfl) rfl (by kernel_rfl)
  obtain ⟨y1, r1, _, k1⟩ := OpensW.field (off := 1) (k := 1) (enc := (Go.AM.encL 1 Go.AM.bytesC)) (fs := [9, 41]) (OpensW.sln Tryz.underlying41 (by kernel_rfl) (by decide) (of_decide_eq_true (by kernel_rfl)) (OpensW.byte Tryz.underlying5)) (i := 1) (by omega) rfl hw (hf 1 _ rfl) rfl (by kernel_rfl)
  have hl : cs.length = 2 := hl.trans (by kernel_rfl)
  exact ⟨⟨y0, y1⟩, (RL.piece (off := 0) (n := 1) r0 (RL.piece (off := 1) (n := 1) r1 (RL.fin hl))), rfl, k0, k1⟩

theorem own : ownKnob Tryz.prog.godebug = none := by kernel_rfl
theorem laidOut : laidOutB Tryz.prog = true := by kernel_rfl

set_option maxRecDepth 100000 in
theorem contract (H : Type) (enc : TypeId × Value → H) (W : World) (base : Nat) (args : Array Value) (ds gs : List (DataW H)) (before : List MemPlace)
    (hval0 : ∀ (j : Nat) t v, Tryz.f7.params[j]? = some t → args[j]? = some v → Value.okWide Tryz.prog W .any base t v)
    (hW : DataW.Whole enc Tryz.prog Tryz.f7.params.toList Rows.blendPathsSpec.vars false W args.toList ds gs before) {ts : List TypeId} (hk : (DataW.weightsEach Tryz.prog ([73, 3] ++ ts) (ds ++ gs)).all (· ≤ reachBytes) = true) :
    Calls Tryz.prog 7 args W fun e W' => ∃ v, e = .returned v ∧ Rows.blendPathsSpec.post enc Tryz.prog Tryz.f7 false true false false W args v W' := by
  have hval := hval0
  have hW' := hW
  obtain ⟨p, q, hA0, hV, rfl, hfz, hnd⟩ := hW
  have hA : DataW.TrodAll enc Tryz.prog W 0 (fun _ => true) true Tryz.f7.params.toList args.toList ds p := hA0
  rw [Tryz.params7] at hA hval
  obtain ⟨v0, vs0, d0, ds0, p0, q0, hargs, rfl, rfl, h0, r0⟩ := trodAll_cons hA
  obtain ⟨v1, vs1, d1, ds1, p1, q1, rfl, rfl, rfl, h1, r1⟩ := trodAll_cons r0
  obtain ⟨rfl, rfl, rfl⟩ := trodAll_nil r1
  obtain rfl : args = #[v0, v1] := by cases args; simp_all
  obtain ⟨rfl, rfl⟩ := trodVars_none hV
  have lt0 : ∀ x ∈ p0, x.block < W.heap.size := by obtain ⟨m, hm⟩ := h0; exact DataW.trod_lt m _ _ _ hm
  have wt0 : Lt Tryz.prog 73 d0 := Lt.of (i := 0) hk rfl rfl
  obtain ⟨w0_0, rfl, _⟩ := okWide_array Tryz.underlying73 (hval 0 73 v0 rfl rfl)
  obtain ⟨x0, s0, k0⟩ := OpensW.argS (OpensW.t3 Tryz.underlying73 (by kernel_rfl) (by kernel_rfl) (OpensW.sln Tryz.underlying72 (by kernel_rfl) (by decide) (of_decide_eq_true (by kernel_rfl)) op102)) h0 wt0
  have lt1 : ∀ x ∈ p1, x.block < W.heap.size := by obtain ⟨m, hm⟩ := h1; exact DataW.trod_lt m _ _ _ hm
  have wt1 : Lt Tryz.prog 3 d1 := Lt.of (i := 1) hk rfl rfl
  obtain ⟨w0_1, rfl⟩ := okWide_int Tryz.underlying3 (hval 1 3 v1 rfl rfl)
  obtain ⟨x1, s1, k1⟩ := OpensW.arg (OpensW.int Tryz.underlying3) rfl h1 wt1
  clear hA0 hval0
  refine ((Does.below ((fun d i (k : okT3 (okLn ok102) d) => blendPaths_spec d.r0 d.r1 d.r2 i (fun dd hd => ⟨(k.1.2 dd hd).1, (k.1.2 dd hd).2.1⟩) (fun dd hd => ⟨(k.2.1.2 dd hd).1, (k.2.1.2 dd hd).2.1⟩) (fun dd hd => ⟨(k.2.2.2 dd hd).1, (k.2.2.2 dd hd).2.1⟩)) x0 x1 k0) (vs := [_, _]) ⟨RAs.upS s0, RAs.up1 s1, trivial⟩ (Tryz.call7 _ _))).mono fun e W' ⟨he, bel⟩ => ?_
  subst he
  exact ⟨_, rfl, _, _, _, [], _, [], hW', trodAll_mk1 (shut_bool Tryz.underlying4 _), (trodAll_cons_mk (Below.trod laidOut (by kernel_rfl) (of_decide_eq_true (by kernel_rfl)) h0 bel lt0) (trodAll_cons_mk (Below.trod laidOut (by kernel_rfl) (of_decide_eq_true (by kernel_rfl)) h1 bel lt1) trodAll_mk0)), rfl, bel.frame _, fun h => by cases h⟩

/-- A world for the witness: the settled one, the two tables holding what is listed. -/
noncomputable def laidWorld (os : Os) (args : Array Value) : World :=
  let w0 := World.holding Tryz.prog os ⟨#[], #[], []⟩
  { w0 with heap := (w0.heap.modify 1 (fun
      | .cells _ t frozen => .cells (Go.Pinned.utf8FirstZ.map fun (n : Nat) => Value.int .u8 (n : Int)).toArray t frozen
      | o => o)).modify 2 (fun
      | .cells _ t frozen => .cells #[.int .u8 128, .int .u8 191, .int .u8 160, .int .u8 191, .int .u8 128, .int .u8 159, .int .u8 144, .int .u8 191, .int .u8 128, .int .u8 143, .int .u8 0, .int .u8 0, .int .u8 0, .int .u8 0, .int .u8 0, .int .u8 0, .int .u8 0, .int .u8 0, .int .u8 0, .int .u8 0, .int .u8 0, .int .u8 0, .int .u8 0, .int .u8 0, .int .u8 0, .int .u8 0, .int .u8 0, .int .u8 0, .int .u8 0, .int .u8 0, .int .u8 0, .int .u8 0] t frozen
      | o => o) }
def zargs : Array Value := #[.agg #[.slice none 0 0, .slice none 0 0, .slice none 0 0], .int .i64 0]
set_option maxRecDepth 100000 in
theorem laid_met (os : Os) : laidMet Tryz.prog Rows.blendPathsRow.laid ((laidWorld os zargs).forCall (fun _ _ => 0) ⟨#[], zargs, []⟩).memory :=
  laidMet_of_run' 8 (by kernel_rfl) (by kernel_rfl)
set_option maxRecDepth 100000 in
theorem reads (os : Os) {H : Type} (enc : TypeId × Value → H) : ∃ places, DataW.whole enc Tryz.prog ((laidWorld os zargs).forCall (fun _ _ => 0) ⟨#[], zargs, []⟩).memory Tryz.f7.params.toList Rows.blendPathsSpec.vars false zargs.toList 8 = some ([.agg [.nil, .nil, .nil], .lit (.int .i64 0)], [], places) :=
  ⟨[], by kernel_rfl⟩

set_option maxRecDepth 100000 in
theorem lifted (os : Os) (started : os.Started) (H : Type) (enc : TypeId × Value → H) (F : Stop.Interp) :
    ReturnsInHanded {} Tryz.checked os 7 .any ((OpenSpec.ofChange Rows.blendPathsSpec).preRow enc Tryz.prog Tryz.f7 Rows.blendPathsRow.domain false Rows.blendPathsRow.laid) (((OpenSpec.ofChange Rows.blendPathsSpec).at F).post enc Tryz.prog Tryz.f7 false true false false) := by
  obtain ⟨places, hx⟩ := reads os enc
  refine returnsInHanded_of_row (C := Tryz.checked) (s := OpenSpec.ofChange Rows.blendPathsSpec) own started (by kernel_rfl) Tryz.func7
    (witness_row_at (enc := enc) (C := Tryz.checked) false (laidWorld os zargs) zargs rfl (by kernel_rfl) (by kernel_rfl) (by kernel_rfl)
      (OpenSpec.preRow_of_cond 8 hx (by kernel_rfl) (fun k hk => by cases hk) (by kernel_rfl) (laid_met os))) ?_
  intro W base args ds gs before hval hW _ _ hwt hL _ _
  exact contract H enc W base args ds gs before hval hW hwt

theorem wrapped : Tryz.f7.isWrapper Tryz.pinned.checked.prog Rows.blendPathsRow.wrapper Rows.blendPathsRow.mainSum := by unfold Func.isWrapper; first | (rw [if_pos (by decide +kernel)]; kernel_rfl) | (rw [if_neg (by decide +kernel)]; exact ⟨rfl, rfl⟩)
theorem instanced : Tryz.f7.isInstance Tryz.pinned.checked.prog Rows.blendPathsRow.origin Rows.blendPathsRow.targs := of_decide_eq_true (by kernel_rfl)
theorem joined : joinedFacts Tryz.pinned.checked.prog 7 Tryz.f7 (OpenSpec.ofChange Rows.blendPathsSpec).bare Rows.blendPathsRow = true := by kernel_rfl
theorem said : Rows.BlendPathsSaid :=
  OpenClaim.holds_of_cond 7 Tryz.f7 rfl rfl rfl rfl rfl rfl rfl ⟨rfl, rfl, rfl, rfl, rfl⟩ rfl rfl rfl rfl rfl (by kernel_rfl) Tryz.func7 joined
    instanced wrapped
    (fun os started H enc _ F => by rw [OpenClaim.pre_eq_preRow]; exact lifted os started H enc F)

set_option maxRecDepth 100000 in
theorem plain (f : FuncId) (fn : Func) (hf : Tryz.pinned.checked.prog.funcNamed "nestbox/nestboxlaw.BlendPaths" = some f) (hfn : Tryz.pinned.checked.prog.funcs[f]? = some fn) :
    false = Tryz.pinned.checked.prog.looks [] ∧ ∀ (j : Nat) t, fn.params[j]? = some t → Tryz.pinned.checked.prog.wantsStandIn t = false := by
  obtain rfl : f = 7 := Option.some.inj ((show Tryz.prog.funcNamed "nestbox/nestboxlaw.BlendPaths" = some 7 by kernel_rfl).symm.trans hf) |>.symm
  obtain rfl : fn = Tryz.f7 := (Option.some.inj (Tryz.func7.symm.trans hfn)).symm
  refine ⟨by kernel_rfl, fun j t ht => ?_⟩
  rw [Tryz.params7] at ht
  have hm := Array.mem_of_getElem? ht
  simp only [List.mem_toArray, List.mem_cons, List.not_mem_nil, or_false] at hm
  have h_3 : Tryz.pinned.checked.prog.wantsStandIn 3 = false := by kernel_rfl
  have h_73 : Tryz.pinned.checked.prog.wantsStandIn 73 = false := by kernel_rfl
  rcases hm with rfl | rfl <;> assumption

/-- the given card -/
theorem proved : Rows.BlendPathsCardSaid :=
  Claim7.holds_tied_plain_at .later [] _ _ _ _ said (fun _ h => by cases h) (by kernel_rfl) (fun _ h => by cases h) blendPaths_row_tie rfl ⟨rfl, rfl⟩ (by kernel_rfl) rfl plain (by kernel_rfl)
#print axioms proved
end Go.Proofs.YtpmjnbidmcnhnaaGreatDoor.blendPathsDone
