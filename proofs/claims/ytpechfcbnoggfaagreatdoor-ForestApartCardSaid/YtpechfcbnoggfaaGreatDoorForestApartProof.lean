/- ForestApart: repositories do not matter to each other, but where a step names two; for all arguments, with the card's conditions: every slice and text at most as long as memory can hold. -/
import Derived.Test.YtpechfcbnoggfaaGreatDoorCards
import Derived.Test.YtpechfcbnoggfaaGreatDoorTie
import Derived.Test.YtpechfcbnoggfaaGreatDoorV49
import Derived.Deep.DeepHandedRow
import Derived.Lib.LaidTab
import Derived.Test.YtpechfcbnoggfaaGreatDoorAmV
namespace Go.Proofs.YtpechfcbnoggfaaGreatDoor.forestApartDone
open Go.AM Go.Nest Go.ChangeShapes Go.WideShapes Go.ChangeAt Go.RowKit
set_option linter.unusedVariables false
def ok44(x:bL):Prop:=oE x.kind∧oE x.r∧oE x.q∧sq x.path∧sq x.name∧sq x.text∧(vP oE) x.bytes
theorem op44:cF Tryz.prog 44 7 aI ok44:=fun{Hd e W base held fuel cs x} h hw=>by
 obtain⟨xs,n,_,hx,hl,hlen,hf⟩:=DataW.trod_struct Tryz.underlying44 h;have hlen:xs.length=7:=hlen;have hw:∀n∈DataW.weightsEach Tryz.prog [3,3,3,9,9,9,33] (xs.map (·.1)),n≤140737488351232:=fun n hn=>hw n (by rw[hx];simp only[DataW.weights,Tryz.underlying44];exact hn);obtain⟨y0,r0,_,k0⟩:=cF.field (off:=0) (k:=1) (enc:=Go.AM.encI) (fs:=[3,3,3,9,9,9,33]) (cF.int Tryz.underlying3) (i:=0) (by omega) rfl hw (hf 0 _ rfl) rfl (by kernel_rfl);obtain⟨y1,r1,_,k1⟩:=cF.field (off:=1) (k:=1) (enc:=Go.AM.encI) (fs:=[3,3,3,9,9,9,33]) (cF.int Tryz.underlying3) (i:=1) (by omega) rfl hw (hf 1 _ rfl) rfl (by kernel_rfl);obtain⟨y2,r2,_,k2⟩:=cF.field (off:=2) (k:=1) (enc:=Go.AM.encI) (fs:=[3,3,3,9,9,9,33]) (cF.int Tryz.underlying3) (i:=2) (by omega) rfl hw (hf 2 _ rfl) rfl (by kernel_rfl);obtain⟨y3,r3,_,k3⟩:=cF.field (off:=3) (k:=1) (enc:=Go.AM.encS) (fs:=[3,3,3,9,9,9,33]) (cF.str Tryz.underlying9) (i:=3) (by omega) rfl hw (hf 3 _ rfl) rfl (by kernel_rfl);obtain⟨y4,r4,_,k4⟩:=cF.field (off:=4) (k:=1) (enc:=Go.AM.encS) (fs:=[3,3,3,9,9,9,33]) (cF.str Tryz.underlying9) (i:=4) (by omega) rfl hw (hf 4 _ rfl) rfl (by kernel_rfl);obtain⟨y5,r5,_,k5⟩:=cF.field (off:=5) (k:=1) (enc:=Go.AM.encS) (fs:=[3,3,3,9,9,9,33]) (cF.str Tryz.underlying9) (i:=5) (by omega) rfl hw (hf 5 _ rfl) rfl (by kernel_rfl);obtain⟨y6,r6,_,k6⟩:=cF.field (off:=6) (k:=1) (enc:=(Go.AM.bG 1 Go.AM.bD)) (fs:=[3,3,3,9,9,9,33]) (cF.BZ Tryz.underlying33 (by kernel_rfl) (by decide) (of_decide_eq_true (by kernel_rfl)) (cF.byte Tryz.underlying5)) (i:=6) (by omega) rfl hw (hf 6 _ rfl) rfl (by kernel_rfl);have hl:cs.length=7:=hl.trans (by kernel_rfl);exact⟨⟨y0,y1,y2,y3,y4,y5,y6⟩,(RL.piece (off:=0) (n:=1) r0 (RL.piece (off:=1) (n:=1) r1 (RL.piece (off:=2) (n:=1) r2 (RL.piece (off:=3) (n:=1) r3 (RL.piece (off:=4) (n:=1) r4 (RL.piece (off:=5) (n:=1) r5 (RL.piece (off:=6) (n:=1) r6 (RL.fin hl)))))))),rfl,k0,k1,k2,k3,k4,k5,k6⟩
theorem own:ownKnob Tryz.prog.godebug=none:=by kernel_rfl
theorem laidOut:laidOutB Tryz.prog=true:=by kernel_rfl
set_option maxRecDepth 100000 in
theorem contract(H:Type)(enc:TypeId×Value→H)(W:World)(base:Nat)(args:Array Value)(ds gs:List (DataW H))(before:List MemPlace)
  (hval0:∀(j:Nat) t v,Tryz.f5.params[j]? =some t→args[j]? =some v→Value.okWide Tryz.prog W .any base t v)
  (hW:DataW.Whole enc Tryz.prog Tryz.f5.params.toList Rows.forestApartSpec.vars false W args.toList ds gs before){ts:List TypeId}(hk:(DataW.weightsEach Tryz.prog ([39,3]++ts) (ds++gs)).all (· ≤reachBytes)=true):
  Calls Tryz.prog 5 args W fun e W'=>∃v,e= .returned v∧Rows.forestApartSpec.post enc Tryz.prog Tryz.f5 false true false false W args v W':=by
 have hval:=hval0;have hW':=hW;obtain⟨p,q,hA0,hV,rfl,hfz,hnd⟩:=hW;have hA:DataW.TrodAll enc Tryz.prog W 0 (fun _=>true) true Tryz.f5.params.toList args.toList ds p:=hA0;rw[Tryz.params5]at hA hval;obtain⟨v0,vs0,d0,ds0,p0,q0,hargs,rfl,rfl,h0,r0⟩:=trodAll_cons hA;obtain⟨v1,vs1,d1,ds1,p1,q1,rfl,rfl,rfl,h1,r1⟩:=trodAll_cons r0;obtain⟨rfl,rfl,rfl⟩:=trodAll_nil r1;obtain rfl:args= #[v0,v1]:=by cases args;simp_all
 obtain⟨rfl,rfl⟩:=trodVars_none hV;have lt0:∀x∈p0,x.block<W.heap.size:=by obtain⟨m,hm⟩:=h0;exact DataW.trod_lt m _ _ _ hm
 have wt0:Lt Tryz.prog 39 d0:=Lt.of (i:=0) hk rfl rfl;obtain⟨w0_0,w1_0,w2_0,rfl⟩:=okWide_slice Tryz.underlying39 (hval 0 39 v0 rfl rfl);obtain⟨x0,s0,k0⟩:=cF.arg (cF.BZ Tryz.underlying39 (by kernel_rfl) (by decide) (of_decide_eq_true (by kernel_rfl)) op44) rfl h0 wt0;have lt1:∀x∈p1,x.block<W.heap.size:=by obtain⟨m,hm⟩:=h1;exact DataW.trod_lt m _ _ _ hm
 have wt1:Lt Tryz.prog 3 d1:=Lt.of (i:=1) hk rfl rfl;obtain⟨w0_1,rfl⟩:=okWide_int Tryz.underlying3 (hval 1 3 v1 rfl rfl);obtain⟨x1,s1,k1⟩:=cF.arg (cF.int Tryz.underlying3) rfl h1 wt1;clear hA0 hval0;refine((ai.below ((fun l q (k:vP ok44 l)=>Fy l (fun s hs=>⟨(k.2 s hs).2.2.2.1,(k.2 s hs).2.2.2.2.2.2.1,(k.2 s hs).2.2.2.2.2.1,(k.2 s hs).2.2.2.2.1⟩) q) x0 x1 k0) (vs:=[_,_]) ⟨eA.Cn s0,eA.Cn s1,trivial⟩ (Tryz.call5 _ _))).mono fun e W' ⟨he,bel⟩=>?_;subst he;exact⟨_,rfl,_,_,_,[],_,[],hW',trodAll_mk1 (shut_bool Tryz.underlying4 _),(trodAll_cons_mk (Below.trod laidOut (by kernel_rfl) (of_decide_eq_true (by kernel_rfl)) h0 bel lt0) (trodAll_cons_mk (Below.trod laidOut (by kernel_rfl) (of_decide_eq_true (by kernel_rfl)) h1 bel lt1) trodAll_mk0)),rfl,bel.frame _,fun h=>by cases h⟩
noncomputable def laidWorld(os:Os)(args:Array Value):World:=
 let w0:=World.holding Tryz.prog os ⟨#[],#[],[]⟩
 { w0 with heap := (w0.heap.modify 4 (fun
   | .cells _ t frozen=>.cells (Go.Pinned.utf8FirstZ.map fun(n:Nat)=>Value.int .u8 (n:Int)).toArray t frozen
   | o => o)).modify 5 (fun
   | .cells _ t frozen=>.cells #[.int .u8 128,.int .u8 191,.int .u8 160,.int .u8 191,.int .u8 128,.int .u8 159,.int .u8 144,.int .u8 191,.int .u8 128,.int .u8 143,.int .u8 0,.int .u8 0,.int .u8 0,.int .u8 0,.int .u8 0,.int .u8 0,.int .u8 0,.int .u8 0,.int .u8 0,.int .u8 0,.int .u8 0,.int .u8 0,.int .u8 0,.int .u8 0,.int .u8 0,.int .u8 0,.int .u8 0,.int .u8 0,.int .u8 0,.int .u8 0,.int .u8 0,.int .u8 0] t frozen
   |o=>o)}
def zargs:Array Value:= #[.slice none 0 0,.int .i64 0]
set_option maxRecDepth 100000 in
theorem laid_met(os:Os):laidMet Tryz.prog Rows.forestApartRow.laid ((laidWorld os zargs).forCall (fun _ _=>0) ⟨#[],zargs,[]⟩).memory:=
 laidMet_of_run' 8 (by kernel_rfl) (by kernel_rfl)
set_option maxRecDepth 100000 in
theorem reads(os:Os){H:Type}(enc:TypeId×Value→H):∃places,DataW.whole enc Tryz.prog ((laidWorld os zargs).forCall (fun _ _=>0) ⟨#[],zargs,[]⟩).memory Tryz.f5.params.toList Rows.forestApartSpec.vars false zargs.toList 8=some ([.nil,.lit (.int .i64 0)],[],places):=
 ⟨[],by kernel_rfl⟩
set_option maxRecDepth 100000 in
theorem lifted(os:Os)(started:os.Started)(H:Type)(enc:TypeId×Value→H)(F:Stop.Interp):
  ReturnsInHanded {} Tryz.checked os 5 .any ((OpenSpec.ofChange Rows.forestApartSpec).preRow enc Tryz.prog Tryz.f5 Rows.forestApartRow.domain false Rows.forestApartRow.laid) (((OpenSpec.ofChange Rows.forestApartSpec).at F).post enc Tryz.prog Tryz.f5 false true false false):=by
 obtain⟨places,hx⟩:=reads os enc
 refine returnsInHanded_of_row (C:=Tryz.checked) (s:=OpenSpec.ofChange Rows.forestApartSpec) own started (by kernel_rfl) Tryz.func5
  (witness_row_at (enc:=enc) (C:=Tryz.checked) false (laidWorld os zargs) zargs rfl (by kernel_rfl) (by kernel_rfl) (by kernel_rfl)
   (OpenSpec.preRow_of_cond 8 hx (by kernel_rfl) (fun k hk=>by cases hk) (by kernel_rfl) (laid_met os))) ?_
 intro W base args ds gs before hval hW _ _ hwt hL _ _;exact contract H enc W base args ds gs before hval hW hwt
theorem wrapped:Tryz.f5.isWrapper Tryz.pinned.checked.prog Rows.forestApartRow.wrapper Rows.forestApartRow.mainSum:=by unfold Func.isWrapper;first|(rw[if_pos (by decide+kernel)];kernel_rfl)|(rw[if_neg (by decide+kernel)];exact⟨rfl,rfl⟩)
theorem instanced:Tryz.f5.isInstance Tryz.pinned.checked.prog Rows.forestApartRow.origin Rows.forestApartRow.targs:=of_decide_eq_true (by kernel_rfl)
theorem j10:(Rows.forestApartRow.inPlace==Tryz.pinned.checked.prog.inPlace 5)=true:=by kernel_rfl
theorem j11:(Rows.forestApartRow.unfollowed==Tryz.pinned.checked.prog.unfollowed 5)=true:=by kernel_rfl
theorem j12:(Rows.forestApartRow.recurses==Tryz.pinned.checked.prog.recurses 5)=true:=by kernel_rfl
theorem j13:(Rows.forestApartRow.named==Tryz.pinned.checked.prog.varsNamed 5)=true:=by kernel_rfl
theorem joined:joinedFacts Tryz.pinned.checked.prog 5 Tryz.f5 (OpenSpec.ofChange Rows.forestApartSpec).bare Rows.forestApartRow=true:=by
 unfold joinedFacts;rw[j10,j11,j12,j13];kernel_rfl
theorem said:Rows.ForestApartSaid:=
 OpenClaim.holds_of_cond 5 Tryz.f5 rfl rfl rfl rfl rfl rfl rfl ⟨rfl,rfl,rfl,rfl,rfl⟩ rfl rfl rfl rfl rfl (by kernel_rfl) Tryz.func5 joined
  instanced wrapped
  (fun os started H enc _ F=>by rw[OpenClaim.pre_eq_preRow];exact lifted os started H enc F)
set_option maxRecDepth 100000 in
theorem plain(f:FuncId)(fn:Func)(hf:Tryz.pinned.checked.prog.funcNamed "nestbox/nestboxlaw.ForestApart" =some f)(hfn:Tryz.pinned.checked.prog.funcs[f]? =some fn):
  true=Tryz.pinned.checked.prog.looks []∧∀(j:Nat) t,fn.params[j]? =some t→Tryz.pinned.checked.prog.wantsStandIn t=false:=by
 obtain rfl:f=5:=Option.some.inj ((show Tryz.prog.funcNamed "nestbox/nestboxlaw.ForestApart" =some 5 by kernel_rfl).symm.trans hf)|>.symm;obtain rfl:fn=Tryz.f5:=(Option.some.inj (Tryz.func5.symm.trans hfn)).symm;refine⟨by kernel_rfl,fun j t ht=>?_⟩;rw[Tryz.params5]at ht;have hm:=Array.mem_of_getElem? ht;simp only[List.mem_toArray,List.mem_cons,List.not_mem_nil,or_false]at hm;have h_3:Tryz.pinned.checked.prog.wantsStandIn 3=false:=by kernel_rfl
 have h_39:Tryz.pinned.checked.prog.wantsStandIn 39=false:=by kernel_rfl
 rcases hm with rfl|rfl<;>assumption
theorem goes:false=Rows.forestApartRow.goesBy Tryz.pinned.checked.prog:=by kernel_rfl
theorem proved:Rows.ForestApartCardSaid:=
 Claim7.holds_tied_plain_at .later [] _ _ _ _ said (fun _ h=>by cases h) (by kernel_rfl) (fun _ h=>by cases h) forestApart_row_tie rfl ⟨rfl,rfl⟩ (by kernel_rfl) rfl plain goes
#print axioms proved
end Go.Proofs.YtpechfcbnoggfaaGreatDoor.forestApartDone
