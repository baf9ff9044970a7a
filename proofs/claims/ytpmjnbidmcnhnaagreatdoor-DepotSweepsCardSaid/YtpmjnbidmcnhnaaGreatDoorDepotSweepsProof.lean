/- DepotSweeps: nothing that is needed is lost, and nothing else is left: at every list of commits, of links, of steps and of roots; no condition. -/
import Derived.Test.YtpmjnbidmcnhnaaGreatDoorCards
import Derived.Test.YtpmjnbidmcnhnaaGreatDoorTie
import Derived.Test.YtpmjnbidmcnhnaaGreatDoorAmQ
import Derived.Test.YtpmjnbidmcnhnaaGreatDoorD32
import Derived.Deep.DeepHandedRow
import Derived.Lib.LaidTab
namespace Go.Proofs.YtpmjnbidmcnhnaaGreatDoor.depotSweepsDone
open Go.AM Go.Nest Go.ChangeShapes Go.WideShapes Go.ChangeAt Go.RowKit
set_option linter.unusedVariables false

def ok102 (x : Dc) : Prop := okS x.path ∧ (okLn okT) x.bytes
theorem op102 : OpensW Tryz.prog 102 2 encDc ok102 := fun {Hd e W base held fuel cs x} h hw => by
 obtain ⟨xs, n, _, hx, hl, hlen, hf⟩ := DataW.trod_struct Tryz.underlying102 h
 have hlen : xs.length = 2 := hlen
 have hw : ∀ n ∈ DataW.weightsEach Tryz.prog [9, 41] (xs.map (·.1)), n ≤ 140737488351232 := fun n hn => hw n (by rw [hx]; simp only [DataW.weights, Tryz.underlying102]; exact hn)
 obtain ⟨y0, r0, _, k0⟩ := OpensW.field (off := 0) (k := 1) (enc := Go.AM.encS) (fs := [9, 41]) (OpensW.str Tryz.underlying9) (i := 0) (by omega) rfl hw (hf 0 _ rfl) rfl (by kernel_rfl)
 obtain ⟨y1, r1, _, k1⟩ := OpensW.field (off := 1) (k := 1) (enc := (Go.AM.encL 1 Go.AM.bytesC)) (fs := [9, 41]) (OpensW.sln Tryz.underlying41 (by kernel_rfl) (by decide) (of_decide_eq_true (by kernel_rfl)) (OpensW.byte Tryz.underlying5)) (i := 1) (by omega) rfl hw (hf 1 _ rfl) rfl (by kernel_rfl)
 have hl : cs.length = 2 := hl.trans (by kernel_rfl)
 exact ⟨⟨y0, y1⟩, (RL.piece (off := 0) (n := 1) r0 (RL.piece (off := 1) (n := 1) r1 (RL.fin hl))), rfl, k0, k1⟩

def ok104 (x : Sn) : Prop := (okLn ok102) x.docs ∧ (okLn okT) x.parents ∧ okS x.text
theorem op104 : OpensW Tryz.prog 104 3 encSn ok104 := fun {Hd e W base held fuel cs x} h hw => by
 obtain ⟨xs, n, _, hx, hl, hlen, hf⟩ := DataW.trod_struct Tryz.underlying104 h
 have hlen : xs.length = 3 := hlen
 have hw : ∀ n ∈ DataW.weightsEach Tryz.prog [72, 30, 9] (xs.map (·.1)), n ≤ 140737488351232 := fun n hn => hw n (by rw [hx]; simp only [DataW.weights, Tryz.underlying104]; exact hn)
 obtain ⟨y0, r0, _, k0⟩ := OpensW.field (off := 0) (k := 1) (enc := (Go.AM.encL 2 encDc)) (fs := [72, 30, 9]) (OpensW.sln Tryz.underlying72 (by kernel_rfl) (by decide) (of_decide_eq_true (by kernel_rfl)) op102) (i := 0) (by omega) rfl hw (hf 0 _ rfl) rfl (by kernel_rfl)
 obtain ⟨y1, r1, _, k1⟩ := OpensW.field (off := 1) (k := 1) (enc := (Go.AM.encL 1 Go.AM.encI)) (fs := [72, 30, 9]) (OpensW.sln Tryz.underlying30 (by kernel_rfl) (by decide) (of_decide_eq_true (by kernel_rfl)) (OpensW.int Tryz.underlying3)) (i := 1) (by omega) rfl hw (hf 1 _ rfl) rfl (by kernel_rfl)
 obtain ⟨y2, r2, _, k2⟩ := OpensW.field (off := 2) (k := 1) (enc := Go.AM.encS) (fs := [72, 30, 9]) (OpensW.str Tryz.underlying9) (i := 2) (by omega) rfl hw (hf 2 _ rfl) rfl (by kernel_rfl)
 have hl : cs.length = 3 := hl.trans (by kernel_rfl)
 exact ⟨⟨y0, y1, y2⟩, (RL.piece (off := 0) (n := 1) r0 (RL.piece (off := 1) (n := 1) r1 (RL.piece (off := 2) (n := 1) r2 (RL.fin hl)))), rfl, k0, k1, k2⟩

def ok110 (x : Mt) : Prop := okT x.k ∧ okT x.to ∧ okT x.repo ∧ okS x.path
theorem op110 : OpensW Tryz.prog 110 4 encMt ok110 := fun {Hd e W base held fuel cs x} h hw => by
 obtain ⟨xs, n, _, hx, hl, hlen, hf⟩ := DataW.trod_struct Tryz.underlying110 h
 have hlen : xs.length = 4 := hlen
 have hw : ∀ n ∈ DataW.weightsEach Tryz.prog [3, 3, 3, 9] (xs.map (·.1)), n ≤ 140737488351232 := fun n hn => hw n (by rw [hx]; simp only [DataW.weights, Tryz.underlying110]; exact hn)
 obtain ⟨y0, r0, _, k0⟩ := OpensW.field (off := 0) (k := 1) (enc := Go.AM.encI) (fs := [3, 3, 3, 9]) (OpensW.int Tryz.underlying3) (i := 0) (by omega) rfl hw (hf 0 _ rfl) rfl (by kernel_rfl)
 obtain ⟨y1, r1, _, k1⟩ := OpensW.field (off := 1) (k := 1) (enc := Go.AM.encI) (fs := [3, 3, 3, 9]) (OpensW.int Tryz.underlying3) (i := 1) (by omega) rfl hw (hf 1 _ rfl) rfl (by kernel_rfl)
 obtain ⟨y2, r2, _, k2⟩ := OpensW.field (off := 2) (k := 1) (enc := Go.AM.encI) (fs := [3, 3, 3, 9]) (OpensW.int Tryz.underlying3) (i := 2) (by omega) rfl hw (hf 2 _ rfl) rfl (by kernel_rfl)
 obtain ⟨y3, r3, _, k3⟩ := OpensW.field (off := 3) (k := 1) (enc := Go.AM.encS) (fs := [3, 3, 3, 9]) (OpensW.str Tryz.underlying9) (i := 3) (by omega) rfl hw (hf 3 _ rfl) rfl (by kernel_rfl)
 have hl : cs.length = 4 := hl.trans (by kernel_rfl)
 exact ⟨⟨y0, y1, y2, y3⟩, (RL.piece (off := 0) (n := 1) r0 (RL.piece (off := 1) (n := 1) r1 (RL.piece (off := 2) (n := 1) r2 (RL.piece (off := 3) (n := 1) r3 (RL.fin hl))))), rfl, k0, k1, k2, k3⟩

def ok36 (x : Dt) : Prop := okT x.what ∧ okT x.a ∧ okT x.b ∧ okT x.k ∧ okT x.odd ∧ True
theorem op36 : OpensW Tryz.prog 36 9 encDt ok36 := fun {Hd e W base held fuel cs x} h hw => by
 obtain ⟨xs, n, _, hx, hl, hlen, hf⟩ := DataW.trod_struct Tryz.underlying36 h
 have hlen : xs.length = 6 := hlen
 have hw : ∀ n ∈ DataW.weightsEach Tryz.prog [3, 3, 3, 3, 4, 34] (xs.map (·.1)), n ≤ 140737488351232 := fun n hn => hw n (by rw [hx]; simp only [DataW.weights, Tryz.underlying36]; exact hn)
 obtain ⟨y0, r0, _, k0⟩ := OpensW.field (off := 0) (k := 1) (enc := Go.AM.encI) (fs := [3, 3, 3, 3, 4, 34]) (OpensW.int Tryz.underlying3) (i := 0) (by omega) rfl hw (hf 0 _ rfl) rfl (by kernel_rfl)
 obtain ⟨y1, r1, _, k1⟩ := OpensW.field (off := 1) (k := 1) (enc := Go.AM.encI) (fs := [3, 3, 3, 3, 4, 34]) (OpensW.int Tryz.underlying3) (i := 1) (by omega) rfl hw (hf 1 _ rfl) rfl (by kernel_rfl)
 obtain ⟨y2, r2, _, k2⟩ := OpensW.field (off := 2) (k := 1) (enc := Go.AM.encI) (fs := [3, 3, 3, 3, 4, 34]) (OpensW.int Tryz.underlying3) (i := 2) (by omega) rfl hw (hf 2 _ rfl) rfl (by kernel_rfl)
 obtain ⟨y3, r3, _, k3⟩ := OpensW.field (off := 3) (k := 1) (enc := Go.AM.encI) (fs := [3, 3, 3, 3, 4, 34]) (OpensW.int Tryz.underlying3) (i := 3) (by omega) rfl hw (hf 3 _ rfl) rfl (by kernel_rfl)
 obtain ⟨y4, r4, _, k4⟩ := OpensW.field (off := 4) (k := 1) (enc := Go.AM.encBo) (fs := [3, 3, 3, 3, 4, 34]) (OpensW.bool Tryz.underlying4) (i := 4) (by omega) rfl hw (hf 4 _ rfl) rfl (by kernel_rfl)
 obtain ⟨y5, r5, _, k5⟩ := OpensW.field (off := 5) (k := 4) (enc := Go.AM.encQ4) (fs := [3, 3, 3, 3, 4, 34]) (OpensW.q4 Tryz.underlying34 (by kernel_rfl) (by kernel_rfl) (OpensW.sln Tryz.underlying30 (by kernel_rfl) (by decide) (of_decide_eq_true (by kernel_rfl)) (OpensW.int Tryz.underlying3))) (i := 5) (by omega) rfl hw (hf 5 _ rfl) rfl (by kernel_rfl)
 have hl : cs.length = 9 := hl.trans (by kernel_rfl)
 exact ⟨⟨y0, y1, y2, y3, y4, y5.r0, y5.r1, y5.r2, y5.r3⟩, (RL.piece (off := 0) (n := 1) r0 (RL.piece (off := 1) (n := 1) r1 (RL.piece (off := 2) (n := 1) r2 (RL.piece (off := 3) (n := 1) r3 (RL.piece (off := 4) (n := 1) r4 (RL.piece (off := 5) (n := 4) r5 (RL.fin hl))))))), rfl, k0, k1, k2, k3, k4, k5⟩

theorem own : ownKnob Tryz.prog.godebug = none := by kernel_rfl
theorem laidOut : laidOutB Tryz.prog = true := by kernel_rfl

set_option maxRecDepth 100000 in
theorem contract (H : Type) (enc : TypeId × Value → H) (W : World) (base : Nat) (args : Array Value) (ds gs : List (DataW H)) (before : List MemPlace)
  (hval0 : ∀ (j : Nat) t v, Tryz.f5.params[j]? = some t → args[j]? = some v → Value.okWide Tryz.prog W .any base t v)
  (hW : DataW.Whole enc Tryz.prog Tryz.f5.params.toList Rows.depotSweepsSpec.vars false W args.toList ds gs before) {ts : List TypeId} (hk : (DataW.weightsEach Tryz.prog ([22, 23, 24, 34] ++ ts) (ds ++ gs)).all (· ≤ reachBytes) = true) :
  Calls Tryz.prog 5 args W fun e W' => ∃ v, e = .returned v ∧ Rows.depotSweepsSpec.post enc Tryz.prog Tryz.f5 false true false false W args v W' := by
 have hval := hval0
 have hW' := hW
 obtain ⟨p, q, hA0, hV, rfl, hfz, hnd⟩ := hW
 have hA : DataW.TrodAll enc Tryz.prog W 0 (fun _ => true) true Tryz.f5.params.toList args.toList ds p := hA0
 rw [Tryz.params5] at hA hval
 obtain ⟨v0, vs0, d0, ds0, p0, q0, hargs, rfl, rfl, h0, r0⟩ := trodAll_cons hA
 obtain ⟨v1, vs1, d1, ds1, p1, q1, rfl, rfl, rfl, h1, r1⟩ := trodAll_cons r0
 obtain ⟨v2, vs2, d2, ds2, p2, q2, rfl, rfl, rfl, h2, r2⟩ := trodAll_cons r1
 obtain ⟨v3, vs3, d3, ds3, p3, q3, rfl, rfl, rfl, h3, r3⟩ := trodAll_cons r2
 obtain ⟨rfl, rfl, rfl⟩ := trodAll_nil r3
 obtain rfl : args = #[v0, v1, v2, v3] := by cases args; simp_all
 obtain ⟨rfl, rfl⟩ := trodVars_none hV
 have lt0 : ∀ x ∈ p0, x.block < W.heap.size := by obtain ⟨m, hm⟩ := h0; exact DataW.trod_lt m _ _ _ hm
 have wt0 : Lt Tryz.prog 22 d0 := Lt.of (i := 0) hk rfl rfl
 obtain ⟨w0_0, w1_0, w2_0, rfl⟩ := okWide_slice Tryz.underlying22 (hval 0 22 v0 rfl rfl)
 obtain ⟨x0, s0, k0⟩ := OpensW.arg (OpensW.sln Tryz.underlying22 (by kernel_rfl) (by decide) (of_decide_eq_true (by kernel_rfl)) op104) rfl h0 wt0
 have lt1 : ∀ x ∈ p1, x.block < W.heap.size := by obtain ⟨m, hm⟩ := h1; exact DataW.trod_lt m _ _ _ hm
 have wt1 : Lt Tryz.prog 23 d1 := Lt.of (i := 1) hk rfl rfl
 obtain ⟨w0_1, w1_1, w2_1, rfl⟩ := okWide_slice Tryz.underlying23 (hval 1 23 v1 rfl rfl)
 obtain ⟨x1, s1, k1⟩ := OpensW.arg (OpensW.sln Tryz.underlying23 (by kernel_rfl) (by decide) (of_decide_eq_true (by kernel_rfl)) op110) rfl h1 wt1
 have lt2 : ∀ x ∈ p2, x.block < W.heap.size := by obtain ⟨m, hm⟩ := h2; exact DataW.trod_lt m _ _ _ hm
 have wt2 : Lt Tryz.prog 24 d2 := Lt.of (i := 2) hk rfl rfl
 obtain ⟨w0_2, w1_2, w2_2, rfl⟩ := okWide_slice Tryz.underlying24 (hval 2 24 v2 rfl rfl)
 obtain ⟨x2, s2, k2⟩ := OpensW.arg (OpensW.sln Tryz.underlying24 (by kernel_rfl) (by decide) (of_decide_eq_true (by kernel_rfl)) op36) rfl h2 wt2
 have lt3 : ∀ x ∈ p3, x.block < W.heap.size := by obtain ⟨m, hm⟩ := h3; exact DataW.trod_lt m _ _ _ hm
 have wt3 : Lt Tryz.prog 34 d3 := Lt.of (i := 3) hk rfl rfl
 obtain ⟨w0_3, rfl, _⟩ := okWide_array Tryz.underlying34 (hval 3 34 v3 rfl rfl)
 obtain ⟨x3, s3, k3⟩ := OpensW.argS (OpensW.q4 Tryz.underlying34 (by kernel_rfl) (by kernel_rfl) (OpensW.sln Tryz.underlying30 (by kernel_rfl) (by decide) (of_decide_eq_true (by kernel_rfl)) (OpensW.int Tryz.underlying3))) h3 wt3
 clear hA0 hval0
 refine ((Does.below ((fun l m st (q : Q4) (k : okLn ok104 l) => depotSweeps_spec l m st ⟨0, 0, 0, 0, false, q.r0, q.r1, q.r2, q.r3⟩ rfl (fun s hs dd hd => ⟨((k.2 s hs).1.2 dd hd).1, ((k.2 s hs).1.2 dd hd).2.1⟩)) x0 x1 x2 x3 k0) (vs := [_, _, _, _]) ⟨RAs.up1 s0, RAs.up1 s1, RAs.up1 s2, RAs.upS s3, trivial⟩ (Tryz.call5 _ _))).mono fun e W' ⟨he, bel⟩ => ?_
 subst he
 exact ⟨_, rfl, _, _, _, [], _, [], hW', trodAll_mk1 (shut_bool Tryz.underlying4 _), (trodAll_cons_mk (Below.trod laidOut (by kernel_rfl) (of_decide_eq_true (by kernel_rfl)) h0 bel lt0) (trodAll_cons_mk (Below.trod laidOut (by kernel_rfl) (of_decide_eq_true (by kernel_rfl)) h1 bel lt1) (trodAll_cons_mk (Below.trod laidOut (by kernel_rfl) (of_decide_eq_true (by kernel_rfl)) h2 bel lt2) (trodAll_cons_mk (Below.trod laidOut (by kernel_rfl) (of_decide_eq_true (by kernel_rfl)) h3 bel lt3) trodAll_mk0)))), rfl, bel.frame _, fun h => by cases h⟩

/-- A world for the witness: the settled one, the two tables holding what is listed. -/
noncomputable def laidWorld (os : Os) (args : Array Value) : World :=
 let w0 := World.holding Tryz.prog os ⟨#[], #[], []⟩
 { w0 with heap := (w0.heap.modify 1 (fun
   | .cells _ t frozen => .cells (Go.Pinned.utf8FirstZ.map fun (n : Nat) => Value.int .u8 (n : Int)).toArray t frozen
   | o => o)).modify 2 (fun
   | .cells _ t frozen => .cells #[.int .u8 128, .int .u8 191, .int .u8 160, .int .u8 191, .int .u8 128, .int .u8 159, .int .u8 144, .int .u8 191, .int .u8 128, .int .u8 143, .int .u8 0, .int .u8 0, .int .u8 0, .int .u8 0, .int .u8 0, .int .u8 0, .int .u8 0, .int .u8 0, .int .u8 0, .int .u8 0, .int .u8 0, .int .u8 0, .int .u8 0, .int .u8 0, .int .u8 0, .int .u8 0, .int .u8 0, .int .u8 0, .int .u8 0, .int .u8 0, .int .u8 0, .int .u8 0] t frozen
   | o => o) }
def zargs : Array Value := #[.slice none 0 0, .slice none 0 0, .slice none 0 0, .agg #[.slice none 0 0, .slice none 0 0, .slice none 0 0, .slice none 0 0]]
set_option maxRecDepth 100000 in
theorem laid_met (os : Os) : laidMet Tryz.prog Rows.depotSweepsRow.laid ((laidWorld os zargs).forCall (fun _ _ => 0) ⟨#[], zargs, []⟩).memory :=
 laidMet_of_run' 8 (by kernel_rfl) (by kernel_rfl)
set_option maxRecDepth 100000 in
theorem reads (os : Os) {H : Type} (enc : TypeId × Value → H) : ∃ places, DataW.whole enc Tryz.prog ((laidWorld os zargs).forCall (fun _ _ => 0) ⟨#[], zargs, []⟩).memory Tryz.f5.params.toList Rows.depotSweepsSpec.vars false zargs.toList 8 = some ([.nil, .nil, .nil, .agg [.nil, .nil, .nil, .nil]], [], places) :=
 ⟨[], by kernel_rfl⟩

set_option maxRecDepth 100000 in
theorem lifted (os : Os) (started : os.Started) (H : Type) (enc : TypeId × Value → H) (F : Stop.Interp) :
  ReturnsInHanded {} Tryz.checked os 5 .any ((OpenSpec.ofChange Rows.depotSweepsSpec).preRow enc Tryz.prog Tryz.f5 Rows.depotSweepsRow.domain false Rows.depotSweepsRow.laid) (((OpenSpec.ofChange Rows.depotSweepsSpec).at F).post enc Tryz.prog Tryz.f5 false true false false) := by
 obtain ⟨places, hx⟩ := reads os enc
 refine returnsInHanded_of_row (C := Tryz.checked) (s := OpenSpec.ofChange Rows.depotSweepsSpec) own started (by kernel_rfl) Tryz.func5
  (witness_row_at (enc := enc) (C := Tryz.checked) false (laidWorld os zargs) zargs rfl (by kernel_rfl) (by kernel_rfl) (by kernel_rfl)
   (OpenSpec.preRow_of_cond 8 hx (by kernel_rfl) (fun k hk => by cases hk) (by kernel_rfl) (laid_met os))) ?_
 intro W base args ds gs before hval hW _ _ hwt hL _ _
 exact contract H enc W base args ds gs before hval hW hwt

theorem wrapped : Tryz.f5.isWrapper Tryz.pinned.checked.prog Rows.depotSweepsRow.wrapper Rows.depotSweepsRow.mainSum := by unfold Func.isWrapper; first | (rw [if_pos (by decide +kernel)]; kernel_rfl) | (rw [if_neg (by decide +kernel)]; exact ⟨rfl, rfl⟩)
theorem instanced : Tryz.f5.isInstance Tryz.pinned.checked.prog Rows.depotSweepsRow.origin Rows.depotSweepsRow.targs := of_decide_eq_true (by kernel_rfl)
theorem joined : joinedFacts Tryz.pinned.checked.prog 5 Tryz.f5 (OpenSpec.ofChange Rows.depotSweepsSpec).bare Rows.depotSweepsRow = true := by kernel_rfl
theorem said : Rows.DepotSweepsSaid :=
 OpenClaim.holds_of_cond 5 Tryz.f5 rfl rfl rfl rfl rfl rfl rfl ⟨rfl, rfl, rfl, rfl, rfl⟩ rfl rfl rfl rfl rfl (by kernel_rfl) Tryz.func5 joined
  instanced wrapped
  (fun os started H enc _ F => by rw [OpenClaim.pre_eq_preRow]; exact lifted os started H enc F)

set_option maxRecDepth 100000 in
theorem plain (f : FuncId) (fn : Func) (hf : Tryz.pinned.checked.prog.funcNamed "nestbox/nestboxlaw.DepotSweeps" = some f) (hfn : Tryz.pinned.checked.prog.funcs[f]? = some fn) :
  false = Tryz.pinned.checked.prog.looks [] ∧ ∀ (j : Nat) t, fn.params[j]? = some t → Tryz.pinned.checked.prog.wantsStandIn t = false := by
 obtain rfl : f = 5 := Option.some.inj ((show Tryz.prog.funcNamed "nestbox/nestboxlaw.DepotSweeps" = some 5 by kernel_rfl).symm.trans hf) |>.symm
 obtain rfl : fn = Tryz.f5 := (Option.some.inj (Tryz.func5.symm.trans hfn)).symm
 refine ⟨by kernel_rfl, fun j t ht => ?_⟩
 rw [Tryz.params5] at ht
 have hm := Array.mem_of_getElem? ht
 simp only [List.mem_toArray, List.mem_cons, List.not_mem_nil, or_false] at hm
 have h_22 : Tryz.pinned.checked.prog.wantsStandIn 22 = false := by kernel_rfl
 have h_23 : Tryz.pinned.checked.prog.wantsStandIn 23 = false := by kernel_rfl
 have h_24 : Tryz.pinned.checked.prog.wantsStandIn 24 = false := by kernel_rfl
 have h_34 : Tryz.pinned.checked.prog.wantsStandIn 34 = false := by kernel_rfl
 rcases hm with rfl | rfl | rfl | rfl <;> assumption

/-- the given card -/
theorem proved : Rows.DepotSweepsCardSaid :=
 Claim7.holds_tied_plain_at .later [] _ _ _ _ said (fun _ h => by cases h) (by kernel_rfl) (fun _ h => by cases h) depotSweeps_row_tie rfl ⟨rfl, rfl⟩ (by kernel_rfl) rfl plain (by kernel_rfl)
#print axioms proved
end Go.Proofs.YtpmjnbidmcnhnaaGreatDoor.depotSweepsDone
