/- ForestKeeps: what one can look at one can look at ever after a sweep; for all arguments, with the card's conditions: every slice and text at most as long as memory can hold. -/
import Derived.Test.YtpechfcbnoggfaaGreatDoorCards
import Derived.Test.YtpechfcbnoggfaaGreatDoorTie
import Derived.Test.YtpechfcbnoggfaaGreatDoorV34
import Derived.Deep.DeepHandedRow
import Derived.Lib.LaidTab
import Derived.Test.YtpechfcbnoggfaaGreatDoorAmV
namespace Go.Proofs.YtpechfcbnoggfaaGreatDoor.forestKeepsDone
open Go.AM Go.Nest Go.ChangeShapes Go.WideShapes Go.ChangeAt Go.RowKit
set_option linter.unusedVariables false
def ok44(x:bm):Prop:=nU x.kind∧nU x.r∧nU x.q∧rE x.path∧rE x.name∧rE x.text∧(uZ nU) x.bytes
theorem op44:b7 Tryz.prog 44 7 aI ok44:=fun{Hd e W base held fuel cs x} h hw=>by
 obtain⟨xs,n,_,hx,hl,hlen,hf⟩:=DataW.trod_struct Tryz.underlying44 h;have hlen:xs.length=7:=hlen;have hw:∀n∈DataW.weightsEach Tryz.prog [3,3,3,9,9,9,33] (xs.map (·.1)),n≤140737488351232:=fun n hn=>hw n (by rw[hx];simp only[DataW.weights,Tryz.underlying44];exact hn);obtain⟨y0,r0,_,k0⟩:=b7.field (off:=0) (k:=1) (enc:=Go.AM.encI) (fs:=[3,3,3,9,9,9,33]) (b7.int Tryz.underlying3) (i:=0) (by omega) rfl hw (hf 0 _ rfl) rfl (by kernel_rfl);obtain⟨y1,r1,_,k1⟩:=b7.field (off:=1) (k:=1) (enc:=Go.AM.encI) (fs:=[3,3,3,9,9,9,33]) (b7.int Tryz.underlying3) (i:=1) (by omega) rfl hw (hf 1 _ rfl) rfl (by kernel_rfl);obtain⟨y2,r2,_,k2⟩:=b7.field (off:=2) (k:=1) (enc:=Go.AM.encI) (fs:=[3,3,3,9,9,9,33]) (b7.int Tryz.underlying3) (i:=2) (by omega) rfl hw (hf 2 _ rfl) rfl (by kernel_rfl);obtain⟨y3,r3,_,k3⟩:=b7.field (off:=3) (k:=1) (enc:=Go.AM.encS) (fs:=[3,3,3,9,9,9,33]) (b7.str Tryz.underlying9) (i:=3) (by omega) rfl hw (hf 3 _ rfl) rfl (by kernel_rfl);obtain⟨y4,r4,_,k4⟩:=b7.field (off:=4) (k:=1) (enc:=Go.AM.encS) (fs:=[3,3,3,9,9,9,33]) (b7.str Tryz.underlying9) (i:=4) (by omega) rfl hw (hf 4 _ rfl) rfl (by kernel_rfl);obtain⟨y5,r5,_,k5⟩:=b7.field (off:=5) (k:=1) (enc:=Go.AM.encS) (fs:=[3,3,3,9,9,9,33]) (b7.str Tryz.underlying9) (i:=5) (by omega) rfl hw (hf 5 _ rfl) rfl (by kernel_rfl);obtain⟨y6,r6,_,k6⟩:=b7.field (off:=6) (k:=1) (enc:=(Go.AM.bf 1 Go.AM.bt)) (fs:=[3,3,3,9,9,9,33]) (b7.Bf Tryz.underlying33 (by kernel_rfl) (by decide) (of_decide_eq_true (by kernel_rfl)) (b7.byte Tryz.underlying5)) (i:=6) (by omega) rfl hw (hf 6 _ rfl) rfl (by kernel_rfl);have hl:cs.length=7:=hl.trans (by kernel_rfl);exact⟨⟨y0,y1,y2,y3,y4,y5,y6⟩,(RL.piece (off:=0) (n:=1) r0 (RL.piece (off:=1) (n:=1) r1 (RL.piece (off:=2) (n:=1) r2 (RL.piece (off:=3) (n:=1) r3 (RL.piece (off:=4) (n:=1) r4 (RL.piece (off:=5) (n:=1) r5 (RL.piece (off:=6) (n:=1) r6 (RL.fin hl)))))))),rfl,k0,k1,k2,k3,k4,k5,k6⟩
theorem own:ownKnob Tryz.prog.godebug=none:=by kernel_rfl
theorem laidOut:laidOutB Tryz.prog=true:=by kernel_rfl
set_option maxRecDepth 100000 in
theorem contract(H:Type)(enc:TypeId×Value→H)(W:World)(base:Nat)(args:Array Value)(ds gs:List (DataW H))(before:List MemPlace)
  (hval0:∀(j:Nat) t v,Tryz.f8.params[j]? =some t→args[j]? =some v→Value.okWide Tryz.prog W .any base t v)
  (hW:DataW.Whole enc Tryz.prog Tryz.f8.params.toList Rows.forestKeepsSpec.vars false W args.toList ds gs before){ts:List TypeId}(hk:(DataW.weightsEach Tryz.prog ([39]++ts) (ds++gs)).all (· ≤reachBytes)=true):
  Calls Tryz.prog 8 args W fun e W'=>∃v,e= .returned v∧Rows.forestKeepsSpec.post enc Tryz.prog Tryz.f8 false true false false W args v W':=by
 have hval:=hval0;have hW':=hW;obtain⟨p,q,hA0,hV,rfl,hfz,hnd⟩:=hW;have hA:DataW.TrodAll enc Tryz.prog W 0 (fun _=>true) true Tryz.f8.params.toList args.toList ds p:=hA0;rw[Tryz.params8]at hA hval;obtain⟨v0,vs0,d0,ds0,p0,q0,hargs,rfl,rfl,h0,r0⟩:=trodAll_cons hA;obtain⟨rfl,rfl,rfl⟩:=trodAll_nil r0;obtain rfl:args= #[v0]:=by cases args;simp_all
 obtain⟨rfl,rfl⟩:=trodVars_none hV;have lt0:∀x∈p0,x.block<W.heap.size:=by obtain⟨m,hm⟩:=h0;exact DataW.trod_lt m _ _ _ hm
 have wt0:Lt Tryz.prog 39 d0:=Lt.of (i:=0) hk rfl rfl;obtain⟨w0_0,w1_0,w2_0,rfl⟩:=okWide_slice Tryz.underlying39 (hval 0 39 v0 rfl rfl);obtain⟨x0,s0,k0⟩:=b7.arg (b7.Bf Tryz.underlying39 (by kernel_rfl) (by decide) (of_decide_eq_true (by kernel_rfl)) op44) rfl h0 wt0;clear hA0 hval0;refine((ae.below ((fun l (k:uZ ok44 l)=>Ez l (fun s hs=>⟨(k.2 s hs).2.2.2.1,(k.2 s hs).2.2.2.2.2.2.1,(k.2 s hs).2.2.2.2.2.1,(k.2 s hs).2.2.2.2.1⟩)) x0 k0) (vs:=[_]) ⟨dU.Jx s0,trivial⟩ (Tryz.call8 _ _))).mono fun e W' ⟨he,bel⟩=>?_;subst he;exact⟨_,rfl,_,_,_,[],_,[],hW',trodAll_mk1 (shut_bool Tryz.underlying4 _),(trodAll_cons_mk (Below.trod laidOut (by kernel_rfl) (of_decide_eq_true (by kernel_rfl)) h0 bel lt0) trodAll_mk0),rfl,bel.frame _,fun h=>by cases h⟩
noncomputable def laidWorld(os:Os)(args:Array Value):World:=
 let w0:=World.holding Tryz.prog os ⟨#[],#[],[]⟩
 { w0 with heap := (w0.heap.modify 4 (fun
   | .cells _ t frozen=>.cells (Go.Pinned.utf8FirstZ.map fun(n:Nat)=>Value.int .u8 (n:Int)).toArray t frozen
   | o => o)).modify 5 (fun
   | .cells _ t frozen=>.cells #[.int .u8 128,.int .u8 191,.int .u8 160,.int .u8 191,.int .u8 128,.int .u8 159,.int .u8 144,.int .u8 191,.int .u8 128,.int .u8 143,.int .u8 0,.int .u8 0,.int .u8 0,.int .u8 0,.int .u8 0,.int .u8 0,.int .u8 0,.int .u8 0,.int .u8 0,.int .u8 0,.int .u8 0,.int .u8 0,.int .u8 0,.int .u8 0,.int .u8 0,.int .u8 0,.int .u8 0,.int .u8 0,.int .u8 0,.int .u8 0,.int .u8 0,.int .u8 0] t frozen
   |o=>o)}
def zargs:Array Value:= #[.slice none 0 0]
set_option maxRecDepth 100000 in
theorem laid_met(os:Os):laidMet Tryz.prog Rows.forestKeepsRow.laid ((laidWorld os zargs).forCall (fun _ _=>0) ⟨#[],zargs,[]⟩).memory:=
 laidMet_of_run' 8 (by kernel_rfl) (by kernel_rfl)
set_option maxRecDepth 100000 in
theorem reads(os:Os){H:Type}(enc:TypeId×Value→H):∃places,DataW.whole enc Tryz.prog ((laidWorld os zargs).forCall (fun _ _=>0) ⟨#[],zargs,[]⟩).memory Tryz.f8.params.toList Rows.forestKeepsSpec.vars false zargs.toList 8=some ([.nil],[],places):=
 ⟨[],by kernel_rfl⟩
set_option maxRecDepth 100000 in
theorem lifted(os:Os)(started:os.Started)(H:Type)(enc:TypeId×Value→H)(F:Stop.Interp):
  ReturnsInHanded {} Tryz.checked os 8 .any ((OpenSpec.ofChange Rows.forestKeepsSpec).preRow enc Tryz.prog Tryz.f8 Rows.forestKeepsRow.domain false Rows.forestKeepsRow.laid) (((OpenSpec.ofChange Rows.forestKeepsSpec).at F).post enc Tryz.prog Tryz.f8 false true false false):=by
 obtain⟨places,hx⟩:=reads os enc
 refine returnsInHanded_of_row (C:=Tryz.checked) (s:=OpenSpec.ofChange Rows.forestKeepsSpec) own started (by kernel_rfl) Tryz.func8
  (witness_row_at (enc:=enc) (C:=Tryz.checked) false (laidWorld os zargs) zargs rfl (by kernel_rfl) (by kernel_rfl) (by kernel_rfl)
   (OpenSpec.preRow_of_cond 8 hx (by kernel_rfl) (fun k hk=>by cases hk) (by kernel_rfl) (laid_met os))) ?_
 intro W base args ds gs before hval hW _ _ hwt hL _ _;exact contract H enc W base args ds gs before hval hW hwt
theorem wrapped:Tryz.f8.isWrapper Tryz.pinned.checked.prog Rows.forestKeepsRow.wrapper Rows.forestKeepsRow.mainSum:=by unfold Func.isWrapper;first|(rw[if_pos (by decide+kernel)];kernel_rfl)|(rw[if_neg (by decide+kernel)];exact⟨rfl,rfl⟩)
theorem instanced:Tryz.f8.isInstance Tryz.pinned.checked.prog Rows.forestKeepsRow.origin Rows.forestKeepsRow.targs:=of_decide_eq_true (by kernel_rfl)
theorem j10:(Rows.forestKeepsRow.inPlace==Tryz.pinned.checked.prog.inPlace 8)=true:=by kernel_rfl
theorem j11:(Rows.forestKeepsRow.unfollowed==Tryz.pinned.checked.prog.unfollowed 8)=true:=by kernel_rfl
theorem j12:(Rows.forestKeepsRow.recurses==Tryz.pinned.checked.prog.recurses 8)=true:=by kernel_rfl
theorem j13:(Rows.forestKeepsRow.named==Tryz.pinned.checked.prog.varsNamed 8)=true:=by kernel_rfl
theorem joined:joinedFacts Tryz.pinned.checked.prog 8 Tryz.f8 (OpenSpec.ofChange Rows.forestKeepsSpec).bare Rows.forestKeepsRow=true:=by
 unfold joinedFacts;rw[j10,j11,j12,j13];kernel_rfl
theorem said:Rows.ForestKeepsSaid:=
 OpenClaim.holds_of_cond 8 Tryz.f8 rfl rfl rfl rfl rfl rfl rfl ⟨rfl,rfl,rfl,rfl,rfl⟩ rfl rfl rfl rfl rfl (by kernel_rfl) Tryz.func8 joined
  instanced wrapped
  (fun os started H enc _ F=>by rw[OpenClaim.pre_eq_preRow];exact lifted os started H enc F)
set_option maxRecDepth 100000 in
theorem plain(f:FuncId)(fn:Func)(hf:Tryz.pinned.checked.prog.funcNamed "nestbox/nestboxlaw.ForestKeeps" =some f)(hfn:Tryz.pinned.checked.prog.funcs[f]? =some fn):
  true=Tryz.pinned.checked.prog.looks []∧∀(j:Nat) t,fn.params[j]? =some t→Tryz.pinned.checked.prog.wantsStandIn t=false:=by
 obtain rfl:f=8:=Option.some.inj ((show Tryz.prog.funcNamed "nestbox/nestboxlaw.ForestKeeps" =some 8 by kernel_rfl).symm.trans hf)|>.symm;obtain rfl:fn=Tryz.f8:=(Option.some.inj (Tryz.func8.symm.trans hfn)).symm;refine⟨by kernel_rfl,fun j t ht=>?_⟩;rw[Tryz.params8]at ht;have hm:=Array.mem_of_getElem? ht;simp only[List.mem_toArray,List.mem_cons,List.not_mem_nil,or_false]at hm;have h_39:Tryz.pinned.checked.prog.wantsStandIn 39=false:=by kernel_rfl
 subst hm;assumption
theorem goes:false=Rows.forestKeepsRow.goesBy Tryz.pinned.checked.prog:=by kernel_rfl
theorem proved:Rows.ForestKeepsCardSaid:=
 Claim7.holds_tied_plain_at .later [] _ _ _ _ said (fun _ h=>by cases h) (by kernel_rfl) (fun _ h=>by cases h) forestKeeps_row_tie rfl ⟨rfl,rfl⟩ (by kernel_rfl) rfl plain goes
#print axioms proved
end Go.Proofs.YtpechfcbnoggfaaGreatDoor.forestKeepsDone
