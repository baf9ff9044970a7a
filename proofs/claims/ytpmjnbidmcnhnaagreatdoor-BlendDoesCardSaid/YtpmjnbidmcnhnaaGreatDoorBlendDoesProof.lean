/- BlendDoes: every Merge is as the document says, and so is what becomes of the pool: at every list of objects, every three lists of files and of documents; no condition. -/
import Derived.Test.YtpmjnbidmcnhnaaGreatDoorCards
import Derived.Test.YtpmjnbidmcnhnaaGreatDoorTie
import Derived.Test.YtpmjnbidmcnhnaaGreatDoorAmT3
import Derived.Test.YtpmjnbidmcnhnaaGreatDoorB19
import Derived.Deep.DeepHandedRow
import Derived.Lib.LaidTab
namespace Go.Proofs.YtpmjnbidmcnhnaaGreatDoor.blendDoesDone
open Go.AM Go.Nest Go.ChangeShapes Go.WideShapes Go.ChangeAt Go.RowKit
set_option linter.unusedVariables false

def ok151 (x : Ent) : Prop := okS x.name ∧ okT x.mode ∧ okT x.id ∧ okT x.repo
theorem op151 : OpensW Tryz.prog 151 4 encEn ok151 := fun {Hd e W base held fuel cs x} h hw => by
  obtain ⟨xs, n, _, hx, hl, hlen, hf⟩ := DataW.trod_struct Tryz.underlying151 h
  have hlen : xs.length = 4 := hlen
  have hw : ∀ n ∈ DataW.weightsEach Tryz.prog [9, 3, 3, 3] (xs.map (·.1)), n ≤ 140737488351232 := fun n hn => hw n (by rw [hx]; simp only [DataW.weights, Tryz.underlying151]; exact hn)
  obtain ⟨y0, r0, _, k0⟩ := OpensW.field (off := 0) (k := 1) (enc := Go.AM.encS) (fs := [9, 3, 3, 3]) (OpensW.str Tryz.underlying9) (i := 0) (by omega) rfl hw (hf 0 _ rfl) rfl (by kernel_rfl)
  obtain ⟨y1, r1, _, k1⟩ := OpensW.field (off := 1) (k := 1) (enc := Go.AM.encI) (fs := [9, 3, 3, 3]) (OpensW.int Tryz.underlying3) (i := 1) (by omega) rfl hw (hf 1 _ rfl) rfl (by kernel_rfl)
  obtain ⟨y2, r2, _, k2⟩ := OpensW.field (off := 2) (k := 1) (enc := Go.AM.encI) (fs := [9, 3, 3, 3]) (OpensW.int Tryz.underlying3) (i := 2) (by omega) rfl hw (hf 2 _ rfl) rfl (by kernel_rfl)
  obtain ⟨y3, r3, _, k3⟩ := OpensW.field (off := 3) (k := 1) (enc := Go.AM.encI) (fs := [9, 3, 3, 3]) (OpensW.int Tryz.underlying3) (i := 3) (by omega) rfl hw (hf 3 _ rfl) rfl (by kernel_rfl)
  have hl : cs.length = 4 := hl.trans (by kernel_rfl)
  exact ⟨⟨y0, y1, y2, y3⟩, (RL.piece (off := 0) (n := 1) r0 (RL.piece (off := 1) (n := 1) r1 (RL.piece (off := 2) (n := 1) r2 (RL.piece (off := 3) (n := 1) r3 (RL.fin hl))))), rfl, k0, k1, k2, k3⟩

def ok44 (x : Ob) : Prop := okT x.kind ∧ (okLn okT) x.bytes ∧ (okLn ok151) x.entries ∧ okT x.tree ∧ (okLn okT) x.parents ∧ okS x.text
theorem op44 : OpensW Tryz.prog 44 6 encOb ok44 := fun {Hd e W base held fuel cs x} h hw => by
  obtain ⟨xs, n, _, hx, hl, hlen, hf⟩ := DataW.trod_struct Tryz.underlying44 h
  have hlen : xs.length = 6 := hlen
  have hw : ∀ n ∈ DataW.weightsEach Tryz.prog [3, 41, 42, 3, 30, 9] (xs.map (·.1)), n ≤ 140737488351232 := fun n hn => hw n (by rw [hx]; simp only [DataW.weights, Tryz.underlying44]; exact hn)
  obtain ⟨y0, r0, _, k0⟩ := OpensW.field (off := 0) (k := 1) (enc := Go.AM.encI) (fs := [3, 41, 42, 3, 30, 9]) (OpensW.int Tryz.underlying3) (i := 0) (by omega) rfl hw (hf 0 _ rfl) rfl (by kernel_rfl)
  obtain ⟨y1, r1, _, k1⟩ := OpensW.field (off := 1) (k := 1) (enc := (Go.AM.encL 1 Go.AM.bytesC)) (fs := [3, 41, 42, 3, 30, 9]) (OpensW.sln Tryz.underlying41 (by kernel_rfl) (by decide) (of_decide_eq_true (by kernel_rfl)) (OpensW.byte Tryz.underlying5)) (i := 1) (by omega) rfl hw (hf 1 _ rfl) rfl (by kernel_rfl)
  obtain ⟨y2, r2, _, k2⟩ := OpensW.field (off := 2) (k := 1) (enc := (Go.AM.encL 4 encEn)) (fs := [3, 41, 42, 3, 30, 9]) (OpensW.sln Tryz.underlying42 (by kernel_rfl) (by decide) (of_decide_eq_true (by kernel_rfl)) op151) (i := 2) (by omega) rfl hw (hf 2 _ rfl) rfl (by kernel_rfl)
  obtain ⟨y3, r3, _, k3⟩ := OpensW.field (off := 3) (k := 1) (enc := Go.AM.encI) (fs := [3, 41, 42, 3, 30, 9]) (OpensW.int Tryz.underlying3) (i := 3) (by omega) rfl hw (hf 3 _ rfl) rfl (by kernel_rfl)
  obtain ⟨y4, r4, _, k4⟩ := OpensW.field (off := 4) (k := 1) (enc := (Go.AM.encL 1 Go.AM.encI)) (fs := [3, 41, 42, 3, 30, 9]) (OpensW.sln Tryz.underlying30 (by kernel_rfl) (by decide) (of_decide_eq_true (by kernel_rfl)) (OpensW.int Tryz.underlying3)) (i := 4) (by omega) rfl hw (hf 4 _ rfl) rfl (by kernel_rfl)
  obtain ⟨y5, r5, _, k5⟩ := OpensW.field (off := 5) (k := 1) (enc := Go.AM.encS) (fs := [3, 41, 42, 3, 30, 9]) (OpensW.str Tryz.underlying9) (i := 5) (by omega) rfl hw (hf 5 _ rfl) rfl (by kernel_rfl)
  have hl : cs.length = 6 := hl.trans (by kernel_rfl)
  exact ⟨⟨y0, y1, y2, y3, y4, y5⟩, (RL.piece (off := 0) (n := 1) r0 (RL.piece (off := 1) (n := 1) r1 (RL.piece (off := 2) (n := 1) r2 (RL.piece (off := 3) (n := 1) r3 (RL.piece (off := 4) (n := 1) r4 (RL.piece (off := 5) (n := 1) r5 (RL.fin hl))))))), rfl, k0, k1, k2, k3, k4, k5⟩

def ok54 (x : Fi) : Prop := okS x.path ∧ okT x.mode ∧ okT x.id ∧ okT x.repo
theorem op54 : OpensW Tryz.prog 54 4 encFi ok54 := fun {Hd e W base held fuel cs x} h hw => by
  obtain ⟨xs, n, _, hx, hl, hlen, hf⟩ := DataW.trod_struct Tryz.underlying54 h
  have hlen : xs.length = 4 := hlen
  have hw : ∀ n ∈ DataW.weightsEach Tryz.prog [9, 3, 3, 3] (xs.map (·.1)), n ≤ 140737488351232 := fun n hn => hw n (by rw [hx]; simp only [DataW.weights, Tryz.underlying54]; exact hn)
  obtain ⟨y0, r0, _, k0⟩ := OpensW.field (off := 0) (k := 1) (enc := Go.AM.encS) (fs := [9, 3, 3, 3]) (OpensW.str Tryz.underlying9) (i := 0) (by omega) rfl hw (hf 0 _ rfl) rfl (by kernel_rfl)
  obtain ⟨y1, r1, _, k1⟩ := OpensW.field (off := 1) (k := 1) (enc := Go.AM.encI) (fs := [9, 3, 3, 3]) (OpensW.int Tryz.underlying3) (i := 1) (by omega) rfl hw (hf 1 _ rfl) rfl (by kernel_rfl)
  obtain ⟨y2, r2, _, k2⟩ := OpensW.field (off := 2) (k := 1) (enc := Go.AM.encI) (fs := [9, 3, 3, 3]) (OpensW.int Tryz.underlying3) (i := 2) (by omega) rfl hw (hf 2 _ rfl) rfl (by kernel_rfl)
  obtain ⟨y3, r3, _, k3⟩ := OpensW.field (off := 3) (k := 1) (enc := Go.AM.encI) (fs := [9, 3, 3, 3]) (OpensW.int Tryz.underlying3) (i := 3) (by omega) rfl hw (hf 3 _ rfl) rfl (by kernel_rfl)
  have hl : cs.length = 4 := hl.trans (by kernel_rfl)
  exact ⟨⟨y0, y1, y2, y3⟩, (RL.piece (off := 0) (n := 1) r0 (RL.piece (off := 1) (n := 1) r1 (RL.piece (off := 2) (n := 1) r2 (RL.piece (off := 3) (n := 1) r3 (RL.fin hl))))), rfl, k0, k1, k2, k3⟩

def ok102 (x : Dc) : Prop := okS x.path ∧ (okLn okT) x.bytes
theorem op102 : OpensW Tryz.prog 102 2 encDc ok102 := fun {Hd e W base held fuel cs x} h hw => by
  obtain ⟨xs, n, _, hx, hl, hlen, hf⟩ := DataW.trod_struct Tryz.underlying102 h
  have hlen : xs.length = 2 := hlen
  have hw : ∀ n ∈ DataW.weightsEach Tryz.prog [9, 41] (xs.map (·.1)), n ≤ 140737488351232 := fun n hn => hw n (by rw [hx]; simp only [DataW.weights, Tryz.underlying102]; exact hn)
  obtain ⟨y0, r0, _, k0⟩ := OpensW.field (off := 0) (k := 1) (enc := Go.AM.encS) (fs := [9, 41]) (OpensW.str Tryz.underlying9) (i := 0) (by omega) rfl hw (hf 0 _ rfl) rfl (by kernel_rfl)
  obtain ⟨y1, r1, _, k1⟩ := OpensW.field (off := 1) (k := 1) (enc := (Go.AM.encL 1 Go.AM.bytesC)) (fs := [9, 41]) (OpensW.sln Tryz.underlying41 (by kernel_rfl) (by decide) (of_decide_eq_true (by kernel_rfl)) (OpensW.byte Tryz.underlying5)) (i := 1) (by omega) rfl hw (hf 1 _ rfl) rfl (by kernel_rfl)
  have hl : cs.length = 2 := hl.trans (by kernel_rfl)
  exact ⟨⟨y0, y1⟩, (RL.piece (off := 0) (n := 1) r0 (RL.piece (off := 1) (n := 1) r1 (RL.fin hl))), rfl, k0, k1⟩

theorem own : ownKnob Tryz.prog.godebug = none := by kernel_rfl
theorem laidOut : laidOutB Tryz.prog = true := by kernel_rfl

set_option maxRecDepth 100000 in
theorem contract (H : Type) (enc : TypeId × Value → H) (W : World) (base : Nat) (args : Array Value) (ds gs : List (DataW H)) (before : List MemPlace)
    (hval0 : ∀ (j : Nat) t v, Tryz.f8.params[j]? = some t → args[j]? = some v → Value.okWide Tryz.prog W .any base t v)
    (hW : DataW.Whole enc Tryz.prog Tryz.f8.params.toList Rows.blendDoesSpec.vars false W args.toList ds gs before) {ts : List TypeId} (hk : (DataW.weightsEach Tryz.prog ([76, 38, 38, 38, 73] ++ ts) (ds ++ gs)).all (· ≤ reachBytes) = true) :
    Calls Tryz.prog 8 args W fun e W' => ∃ v, e = .returned v ∧ Rows.blendDoesSpec.post enc Tryz.prog Tryz.f8 false true false false W args v W' := by
  have hval := hval0
  have hW' := hW
  obtain ⟨p, q, hA0, hV, rfl, hfz, hnd⟩ := hW
  have hA : DataW.TrodAll enc Tryz.prog W 0 (fun _ => true) true Tryz.f8.params.toList args.toList ds p := hA0
  rw [Tryz.params8] at hA hval
  obtain ⟨v0, vs0, d0, ds0, p0, q0, hargs, rfl, rfl, h0, r0⟩ := trodAll_cons hA
  obtain ⟨v1, vs1, d1, ds1, p1, q1, rfl, rfl, rfl, h1, r1⟩ := trodAll_cons r0
  obtain ⟨v2, vs2, d2, ds2, p2, q2, rfl, rfl, rfl, h2, r2⟩ := trodAll_cons r1
  obtain ⟨v3, vs3, d3, ds3, p3, q3, rfl, rfl, rfl, h3, r3⟩ := trodAll_cons r2
  obtain ⟨v4, vs4, d4, ds4, p4, q4, rfl, rfl, rfl, h4, r4⟩ := trodAll_cons r3
  obtain ⟨rfl, rfl, rfl⟩ := trodAll_nil r4
  obtain rfl : args = #[v0, v1, v2, v3, v4] := by cases args; simp_all
  obtain ⟨rfl, rfl⟩ := trodVars_none hV
  have lt0 : ∀ x ∈ p0, x.block < W.heap.size := by obtain ⟨m, hm⟩ := h0; exact DataW.trod_lt m _ _ _ hm
  have wt0 : Lt Tryz.prog 76 d0 := Lt.of (i := 0) hk rfl rfl
  obtain ⟨w0_0, w1_0, w2_0, rfl⟩ := okWide_slice Tryz.underlying76 (hval 0 76 v0 rfl rfl)
  obtain ⟨x0, s0, k0⟩ := OpensW.arg (OpensW.sln Tryz.underlying76 (by kernel_rfl) (by decide) (of_decide_eq_true (by kernel_rfl)) op44) rfl h0 wt0
  have lt1 : ∀ x ∈ p1, x.block < W.heap.size := by obtain ⟨m, hm⟩ := h1; exact DataW.trod_lt m _ _ _ hm
  have wt1 : Lt Tryz.prog 38 d1 := Lt.of (i := 1) hk rfl rfl
  obtain ⟨w0_1, w1_1, w2_1, rfl⟩ := okWide_slice Tryz.underlying38 (hval 1 38 v1 rfl rfl)
  obtain ⟨x1, s1, k1⟩ := OpensW.arg (OpensW.sln Tryz.underlying38 (by kernel_rfl) (by decide) (of_decide_eq_true (by kernel_rfl)) op54) rfl h1 wt1
  have lt2 : ∀ x ∈ p2, x.block < W.heap.size := by obtain ⟨m, hm⟩ := h2; exact DataW.trod_lt m _ _ _ hm
  have wt2 : Lt Tryz.prog 38 d2 := Lt.of (i := 2) hk rfl rfl
  obtain ⟨w0_2, w1_2, w2_2, rfl⟩ := okWide_slice Tryz.underlying38 (hval 2 38 v2 rfl rfl)
  obtain ⟨x2, s2, k2⟩ := OpensW.arg (OpensW.sln Tryz.underlying38 (by kernel_rfl) (by decide) (of_decide_eq_true (by kernel_rfl)) op54) rfl h2 wt2
  have lt3 : ∀ x ∈ p3, x.block < W.heap.size := by obtain ⟨m, hm⟩ := h3; exact DataW.trod_lt m _ _ _ hm
  have wt3 : Lt Tryz.prog 38 d3 := Lt.of (i := 3) hk rfl rfl
  obtain ⟨w0_3, w1_3, w2_3, rfl⟩ := okWide_slice Tryz.underlying38 (hval 3 38 v3 rfl rfl)
  obtain ⟨x3, s3, k3⟩ := OpensW.arg (OpensW.sln Tryz.underlying38 (by kernel_rfl) (by decide) (of_decide_eq_true (by kernel_rfl)) op54) rfl h3 wt3
  have lt4 : ∀ x ∈ p4, x.block < W.heap.size := by obtain ⟨m, hm⟩ := h4; exact DataW.trod_lt m _ _ _ hm
  have wt4 : Lt Tryz.prog 73 d4 := Lt.of (i := 4) hk rfl rfl
  obtain ⟨w0_4, rfl, _⟩ := okWide_array Tryz.underlying73 (hval 4 73 v4 rfl rfl)
  obtain ⟨x4, s4, k4⟩ := OpensW.argS (OpensW.t3 Tryz.underlying73 (by kernel_rfl) (by kernel_rfl) (OpensW.sln Tryz.underlying72 (by kernel_rfl) (by decide) (of_decide_eq_true (by kernel_rfl)) op102)) h4 wt4
  clear hA0 hval0
  refine ((Does.below ((fun o b x y d (kb : okLn ok54 b) (kx : okLn ok54 x) (ky : okLn ok54 y) (k : okT3 (okLn ok102) d) => blendDoes_spec o b x y d.r0 d.r1 d.r2 (fun f hf => (kb.2 f hf).1) (fun f hf => (kx.2 f hf).1) (fun f hf => (ky.2 f hf).1) (fun dd hd => ⟨(k.1.2 dd hd).1, (k.1.2 dd hd).2.1⟩) (fun dd hd => ⟨(k.2.1.2 dd hd).1, (k.2.1.2 dd hd).2.1⟩) (fun dd hd => ⟨(k.2.2.2 dd hd).1, (k.2.2.2 dd hd).2.1⟩)) x0 x1 x2 x3 x4 k1 k2 k3 k4) (vs := [_, _, _, _, _]) ⟨RAs.up1 s0, RAs.up1 s1, RAs.up1 s2, RAs.up1 s3, RAs.upS s4, trivial⟩ (Tryz.call8 _ _))).mono fun e W' ⟨he, bel⟩ => ?_
  subst he
  exact ⟨_, rfl, _, _, _, [], _, [], hW', trodAll_mk1 (shut_bool Tryz.underlying4 _), (trodAll_cons_mk (Below.trod laidOut (by kernel_rfl) (of_decide_eq_true (by kernel_rfl)) h0 bel lt0) (trodAll_cons_mk (Below.trod laidOut (by kernel_rfl) (of_decide_eq_true (by kernel_rfl)) h1 bel lt1) (trodAll_cons_mk (Below.trod laidOut (by kernel_rfl) (of_decide_eq_true (by kernel_rfl)) h2 bel lt2) (trodAll_cons_mk (Below.trod laidOut (by kernel_rfl) (of_decide_eq_true (by kernel_rfl)) h3 bel lt3) (trodAll_cons_mk (Below.trod laidOut (by kernel_rfl) (of_decide_eq_true (by kernel_rfl)) h4 bel lt4) trodAll_mk0))))), rfl, bel.frame _, fun h => by cases h⟩

/-- A world for the witness: the settled one, the two tables holding what is listed. -/
noncomputable def laidWorld (os : Os) (args : Array Value) : World :=
  let w0 := World.holding Tryz.prog os ⟨#[], #[], []⟩
  { w0 with heap := (w0.heap.modify 1 (fun
      | .cells _ t frozen => .cells (Go.Pinned.utf8FirstZ.map fun (n : Nat) => Value.int .u8 (n : Int)).toArray t frozen
      | o => o)).modify 2 (fun
      | .cells _ t frozen => .cells #[.int .u8 128, .int .u8 191, .int .u8 160, .int .u8 191, .int .u8 128, .int .u8 159, .int .u8 144, .int .u8 191, .int .u8 128, .int .u8 143, .int .u8 0, .int .u8 0, .int .u8 0, .int .u8 0, .int .u8 0, .int .u8 0, .int .u8 0, .int .u8 0, .int .u8 0, .int .u8 0, .int .u8 0, .int .u8 0, .int .u8 0, .int .u8 0, .int .u8 0, .int .u8 0, .int .u8 0, .int .u8 0, .int .u8 0, .int .u8 0, .int .u8 0, .int .u8 0] t frozen
      | o => o) }
def zargs : Array Value := #[.slice none 0 0, .slice none 0 0, .slice none 0 0, .slice none 0 0, .agg #[.slice none 0 0, .slice none 0 0, .slice none 0 0]]
set_option maxRecDepth 100000 in
theorem laid_met (os : Os) : laidMet Tryz.prog Rows.blendDoesRow.laid ((laidWorld os zargs).forCall (fun _ _ => 0) ⟨#[], zargs, []⟩).memory :=
  laidMet_of_run' 8 (by kernel_rfl) (by kernel_rfl)
set_option maxRecDepth 100000 in
theorem reads (os : Os) {H : Type} (enc : TypeId × Value → H) : ∃ places, DataW.whole enc Tryz.prog ((laidWorld os zargs).forCall (fun _ _ => 0) ⟨#[], zargs, []⟩).memory Tryz.f8.params.toList Rows.blendDoesSpec.vars false zargs.toList 8 = some ([.nil, .nil, .nil, .nil, .agg [.nil, .nil, .nil]], [], places) :=
  ⟨[], by kernel_rfl⟩

set_option maxRecDepth 100000 in
theorem lifted (os : Os) (started : os.Started) (H : Type) (enc : TypeId × Value → H) (F : Stop.Interp) :
    ReturnsInHanded {} Tryz.checked os 8 .any ((OpenSpec.ofChange Rows.blendDoesSpec).preRow enc Tryz.prog Tryz.f8 Rows.blendDoesRow.domain false Rows.blendDoesRow.laid) (((OpenSpec.ofChange Rows.blendDoesSpec).at F).post enc Tryz.prog Tryz.f8 false true false false) := by
  obtain ⟨places, hx⟩ := reads os enc
  refine returnsInHanded_of_row (C := Tryz.checked) (s := OpenSpec.ofChange Rows.blendDoesSpec) own started (by kernel_rfl) Tryz.func8
    (witness_row_at (enc := enc) (C := Tryz.checked) false (laidWorld os zargs) zargs rfl (by kernel_rfl) (by kernel_rfl) (by kernel_rfl)
      (OpenSpec.preRow_of_cond 8 hx (by kernel_rfl) (fun k hk => by cases hk) (by kernel_rfl) (laid_met os))) ?_
  intro W base args ds gs before hval hW _ _ hwt hL _ _
  exact contract H enc W base args ds gs before hval hW hwt

theorem wrapped : Tryz.f8.isWrapper Tryz.pinned.checked.prog Rows.blendDoesRow.wrapper Rows.blendDoesRow.mainSum := by unfold Func.isWrapper; first | (rw [if_pos (by decide +kernel)]; kernel_rfl) | (rw [if_neg (by decide +kernel)]; exact ⟨rfl, rfl⟩)
theorem instanced : Tryz.f8.isInstance Tryz.pinned.checked.prog Rows.blendDoesRow.origin Rows.blendDoesRow.targs := of_decide_eq_true (by kernel_rfl)
theorem joined : joinedFacts Tryz.pinned.checked.prog 8 Tryz.f8 (OpenSpec.ofChange Rows.blendDoesSpec).bare Rows.blendDoesRow = true := by kernel_rfl
theorem said : Rows.BlendDoesSaid :=
  OpenClaim.holds_of_cond 8 Tryz.f8 rfl rfl rfl rfl rfl rfl rfl ⟨rfl, rfl, rfl, rfl, rfl⟩ rfl rfl rfl rfl rfl (by kernel_rfl) Tryz.func8 joined
    instanced wrapped
    (fun os started H enc _ F => by rw [OpenClaim.pre_eq_preRow]; exact lifted os started H enc F)

set_option maxRecDepth 100000 in
theorem plain (f : FuncId) (fn : Func) (hf : Tryz.pinned.checked.prog.funcNamed "nestbox/nestboxlaw.BlendDoes" = some f) (hfn : Tryz.pinned.checked.prog.funcs[f]? = some fn) :
    false = Tryz.pinned.checked.prog.looks [] ∧ ∀ (j : Nat) t, fn.params[j]? = some t → Tryz.pinned.checked.prog.wantsStandIn t = false := by
  obtain rfl : f = 8 := Option.some.inj ((show Tryz.prog.funcNamed "nestbox/nestboxlaw.BlendDoes" = some 8 by kernel_rfl).symm.trans hf) |>.symm
  obtain rfl : fn = Tryz.f8 := (Option.some.inj (Tryz.func8.symm.trans hfn)).symm
  refine ⟨by kernel_rfl, fun j t ht => ?_⟩
  rw [Tryz.params8] at ht
  have hm := Array.mem_of_getElem? ht
  simp only [List.mem_toArray, List.mem_cons, List.not_mem_nil, or_false] at hm
  have h_38 : Tryz.pinned.checked.prog.wantsStandIn 38 = false := by kernel_rfl
  have h_73 : Tryz.pinned.checked.prog.wantsStandIn 73 = false := by kernel_rfl
  have h_76 : Tryz.pinned.checked.prog.wantsStandIn 76 = false := by kernel_rfl
  rcases hm with rfl | rfl | rfl | rfl | rfl <;> assumption

/-- the given card -/
theorem proved : Rows.BlendDoesCardSaid :=
  Claim7.holds_tied_plain_at .later [] _ _ _ _ said (fun _ h => by cases h) (by kernel_rfl) (fun _ h => by cases h) blendDoes_row_tie rfl ⟨rfl, rfl⟩ (by kernel_rfl) rfl plain (by kernel_rfl)
#print axioms proved
end Go.Proofs.YtpmjnbidmcnhnaaGreatDoor.blendDoesDone
