/- DeskJoins: what lines tell one behind the other they tell together; what was asked again is told again; two desks know nothing of each other; for all lists of lines, and every cut. -/
import Derived.Test.YtpechfcbnoggfaaGreatDoorCards
import Derived.Test.YtpechfcbnoggfaaGreatDoorTie
import Derived.Test.YtpechfcbnoggfaaGreatDoorV55
import Derived.Deep.DeepHandedRow
import Derived.Lib.LaidTab
import Derived.Test.YtpechfcbnoggfaaGreatDoorAmV
namespace Go.Proofs.YtpechfcbnoggfaaGreatDoor.deskJoinsDone
open Go.AM Go.Nest Go.ChangeShapes Go.WideShapes Go.ChangeAt Go.RowKit
set_option linter.unusedVariables false
theorem own:ownKnob Tryz.prog.godebug=none:=by kernel_rfl
theorem laidOut:laidOutB Tryz.prog=true:=by kernel_rfl
theorem var_heap{P:Program}{w:World}{n:String}{g:Nat}{cs:Array Value}(hg:P.globalNamed n=some g)(h:w.var? P n=some cs):∃t f,w.heap[g]? =some (.cells cs t f):=by
  unfold World.var? at h;rw[hg]at h;have h:(match w.heap[g]? with|some (.cells cs _ _)=>some cs|_=>none)=some cs:=h;split at h
  · rename_i c t f e
    obtain rfl:=Option.some.inj h;exact⟨t,f,e⟩
  · cases h
theorem iface_of{Hd:Type}{e:TypeId×Value->Hd}{P:Program}{w:World}{b:Nat}{sp:Nat->Bool}{fuel:Nat}{t:TypeId}{ms:Array (String×TypeId)}{cs:List Value}{nm:String}{d:DataW Hd}{p:List MemPlace}(hi:P.underlying t=some (.interface ms))
    (h:DataW.trod e P w b sp false fuel t cs=some (.iface nm d,p)):∃u v,cs=[.iface u v]:=by
  cases fuel with
  |zero=>simp[DataW.trod]at h
  |succ fuel=>
    simp only[DataW.trod,hi]at h;match cs,h with
    |[.iface u v],_=>exact⟨u,v,rfl⟩
    |[.nilIface],h=>simp at h
theorem glb_of{W:World}(h:laidMetH Tryz.prog Rows.deskJoinsRow.laid W):∀p∈iw,lK W.heap p:=by
  rw[MakeChecks.laidMetH_plain _ _ _ (by kernel_rfl)]at h;obtain⟨ps,h,_,_⟩:=h;obtain⟨_,_,_,_,_,_,_,_,_,_,h,_⟩:=h;obtain⟨_,_,_,_,_,_,_,_,_,_,h,_⟩:=h;obtain⟨g3,t3,c3,f3,_,_,hg3,ht3,hv3,hd3,h,_⟩:=h;obtain⟨_,_,_,_,_,_,_,_,_,_,h,_⟩:=h;obtain⟨g2,t2,c2,f2,_,_,hg2,ht2,hv2,l7,h,_⟩:=h;obtain⟨g1,t1,c1,f1,_,_,hg1,ht1,hv1,hd1,h,_⟩:=h;obtain rfl:=Option.some.inj ((show Tryz.prog.globalNamed "internal/strconv.uint64pow10" =some 3 by kernel_rfl).symm.trans hg3);obtain rfl:=Option.some.inj ((show Tryz.prog.globalNamed "strconv.ErrRange" =some 2 by kernel_rfl).symm.trans hg2);obtain rfl:=Option.some.inj ((show Tryz.prog.globalNamed "strconv.ErrSyntax" =some 1 by kernel_rfl).symm.trans hg1);obtain rfl:=Option.some.inj ((show(Tryz.prog.globals[3]?).map (·.type)=some 391 by kernel_rfl).symm.trans ht3);obtain rfl:=Option.some.inj ((show(Tryz.prog.globals[2]?).map (·.type)=some 241 by kernel_rfl).symm.trans ht2);obtain rfl:=Option.some.inj ((show(Tryz.prog.globals[1]?).map (·.type)=some 241 by kernel_rfl).symm.trans ht1);obtain⟨u3,w3,e3⟩:=var_heap hg3 hv3;obtain⟨u2,w2,e2⟩:=var_heap hg2 hv2;obtain⟨u1,w1,e1⟩:=var_heap hg1 hv1;have q3:c3.toList=_:=Lib.cells_of_tab (zs:=Lib.pow10Tab) Tryz.underlying391 Tryz.underlying281 (by kernel_rfl) (by kernel_rfl) hd3;obtain⟨a2,b2,q2⟩:=iface_of Tryz.underlying241 l7;obtain⟨a1,b1,q1⟩:=iface_of Tryz.underlying241 hd1;intro p hp;unfold iw at hp;simp only[List.mem_cons,List.not_mem_nil,or_false]at hp;rcases hp with rfl|rfl|rfl
  · exact⟨c1,u1,w1,e1,a1,b1,Array.toList_inj.1 q1⟩
  · exact⟨c2,u2,w2,e2,a2,b2,Array.toList_inj.1 q2⟩
  · exact⟨c3,u3,w3,e3,Array.toList_inj.1 q3⟩
set_option maxRecDepth 100000 in
theorem contract(H:Type)(enc:TypeId×Value->H)(W:World)(base:Nat)(args:Array Value)(ds gs:List (DataW H))(before:List MemPlace)
    (hval0:∀(j:Nat) t v,Tryz.f3.params[j]? =some t->args[j]? =some v->Value.okWide Tryz.prog W .any base t v)
    (hW:DataW.Whole enc Tryz.prog Tryz.f3.params.toList Rows.deskJoinsSpec.vars false W args.toList ds gs before){ts:List TypeId}(hk:(DataW.weightsEach Tryz.prog ([22,3]++ts) (ds++gs)).all (· <=reachBytes)=true)(hL:laidMetH Tryz.prog Rows.deskJoinsRow.laid W):
    Calls Tryz.prog 3 args W λe W'=>∃v,e= .returned v/\Rows.deskJoinsSpec.post enc Tryz.prog Tryz.f3 false true false false W args v W':=by
  have hval:=hval0;have hW':=hW;obtain⟨p,q,hA0,hV,rfl,hfz,hnd⟩:=hW;have hA:DataW.TrodAll enc Tryz.prog W 0 (λ_=>true) true Tryz.f3.params.toList args.toList ds p:=hA0;rw[Tryz.params3]at hA hval;obtain⟨v0,vs0,d0,ds0,p0,q0,hargs,rfl,rfl,h0,r0⟩:=trodAll_cons hA;obtain⟨v1,vs1,d1,ds1,p1,q1,rfl,rfl,rfl,h1,r1⟩:=trodAll_cons r0;obtain⟨rfl,rfl,rfl⟩:=trodAll_nil r1;obtain rfl:args= #[v0,v1]:=by cases args;simp_all
  obtain⟨rfl,rfl⟩:=trodVars_none hV;have lt0:∀x∈p0,x.block<W.heap.size:=by obtain⟨m,hm⟩:=h0;exact DataW.trod_lt m _ _ _ hm
  have wt0:Lt Tryz.prog 22 d0:=Lt.of (i:=0) hk rfl rfl;obtain⟨w0_0,w1_0,w2_0,rfl⟩:=okWide_slice Tryz.underlying22 (hval 0 22 v0 rfl rfl);obtain⟨x0,s0,k0⟩:=fL.arg (fL.Od Tryz.underlying22 (by kernel_rfl) (by decide) (of_decide_eq_true (by kernel_rfl)) (fL.str Tryz.underlying9)) rfl h0 wt0;have lt1:∀x∈p1,x.block<W.heap.size:=by obtain⟨m,hm⟩:=h1;exact DataW.trod_lt m _ _ _ hm
  have wt1:Lt Tryz.prog 3 d1:=Lt.of (i:=1) hk rfl rfl;obtain⟨w0_1,rfl⟩:=okWide_int Tryz.underlying3 (hval 1 3 v1 rfl rfl);obtain⟨x1,s1,k1⟩:=fL.arg (fL.int Tryz.underlying3) rfl h1 wt1;clear hA0 hval0;refine((aa.below ((λl q (k:Ds Du l)=>Iw l (λs hs=>k.2 s hs) q) x0 x1 k0) (vs:=[_,_]) ⟨ed.Fa s0,ed.Fa s1,trivial⟩ (Tryz.call3 _ _) (hg:=glb_of hL))).mono λe W' ⟨he,bel⟩=>?_;subst he;exact⟨_,rfl,_,_,_,[],_,[],hW',trodAll_mk1 (shut_bool Tryz.underlying4 _),(trodAll_cons_mk (Below.trod laidOut (by kernel_rfl) (of_decide_eq_true (by kernel_rfl)) h0 bel lt0) (trodAll_cons_mk (Below.trod laidOut (by kernel_rfl) (of_decide_eq_true (by kernel_rfl)) h1 bel lt1) trodAll_mk0)),rfl,bel.frame _,λh=>by cases h⟩
noncomputable def laidWorld(os:Os)(args:Array Value):World:=
  let w0:=World.holding Tryz.prog os ⟨#[],#[],[]⟩
  { w0 with heap := ((((((((w0.heap.modify 1 (λ
      | .cells _ t frozen=>.cells #[.iface 374 (.pointer (some ⟨13,0,none⟩))] t frozen
      | o => o)).modify 2 (λ
      | .cells _ t frozen=>.cells #[.iface 374 (.pointer (some ⟨14,0,none⟩))] t frozen
      | o => o)).modify 3 (λ
      | .cells _ t frozen=>.cells #[.int .u64 1,.int .u64 10,.int .u64 100,.int .u64 1000,.int .u64 10000,.int .u64 100000,.int .u64 1000000,.int .u64 10000000,.int .u64 100000000,.int .u64 1000000000,.int .u64 10000000000,.int .u64 100000000000,.int .u64 1000000000000,.int .u64 10000000000000,.int .u64 100000000000000,.int .u64 1000000000000000,.int .u64 10000000000000000,.int .u64 100000000000000000,.int .u64 1000000000000000000,.int .u64 10000000000000000000] t frozen
      | o => o)).modify 4 (λ
      | .cells _ t frozen=>.cells (Go.Pinned.utf8FirstZ.map λ(n:Nat)=>Value.int .u8 (n:Int)).toArray t frozen
      | o => o)).modify 5 (λ
      | .cells _ t frozen=>.cells #[.int .u8 128,.int .u8 191,.int .u8 160,.int .u8 191,.int .u8 128,.int .u8 159,.int .u8 144,.int .u8 191,.int .u8 128,.int .u8 143,.int .u8 0,.int .u8 0,.int .u8 0,.int .u8 0,.int .u8 0,.int .u8 0,.int .u8 0,.int .u8 0,.int .u8 0,.int .u8 0,.int .u8 0,.int .u8 0,.int .u8 0,.int .u8 0,.int .u8 0,.int .u8 0,.int .u8 0,.int .u8 0,.int .u8 0,.int .u8 0,.int .u8 0,.int .u8 0] t frozen
      | o => o)).modify 6 (λ
      | .cells _ t frozen=>.cells #[.int .u8 0,.int .u8 1,.int .u8 28,.int .u8 2,.int .u8 29,.int .u8 14,.int .u8 24,.int .u8 3,.int .u8 30,.int .u8 22,.int .u8 20,.int .u8 15,.int .u8 25,.int .u8 17,.int .u8 4,.int .u8 8,.int .u8 31,.int .u8 27,.int .u8 13,.int .u8 23,.int .u8 21,.int .u8 19,.int .u8 16,.int .u8 7,.int .u8 26,.int .u8 12,.int .u8 18,.int .u8 6,.int .u8 11,.int .u8 5,.int .u8 10,.int .u8 9] t frozen
      | o => o)).modify 7 (λ
      | .cells _ t frozen=>.cells #[.int .u8 0,.int .u8 1,.int .u8 56,.int .u8 2,.int .u8 57,.int .u8 49,.int .u8 28,.int .u8 3,.int .u8 61,.int .u8 58,.int .u8 42,.int .u8 50,.int .u8 38,.int .u8 29,.int .u8 17,.int .u8 4,.int .u8 62,.int .u8 47,.int .u8 59,.int .u8 36,.int .u8 45,.int .u8 43,.int .u8 51,.int .u8 22,.int .u8 53,.int .u8 39,.int .u8 33,.int .u8 30,.int .u8 24,.int .u8 18,.int .u8 12,.int .u8 5,.int .u8 63,.int .u8 55,.int .u8 48,.int .u8 27,.int .u8 60,.int .u8 41,.int .u8 37,.int .u8 16,.int .u8 46,.int .u8 35,.int .u8 44,.int .u8 21,.int .u8 52,.int .u8 32,.int .u8 23,.int .u8 11,.int .u8 54,.int .u8 26,.int .u8 40,.int .u8 15,.int .u8 34,.int .u8 20,.int .u8 31,.int .u8 10,.int .u8 25,.int .u8 14,.int .u8 19,.int .u8 9,.int .u8 13,.int .u8 8,.int .u8 7,.int .u8 6] t frozen
      |o=>o)).push (.cells #[.string ⟨#[105,110,118,97,108,105,100,32,115,121,110,116,97,120]⟩] 376 (0,0))).push (.cells #[.string ⟨#[118,97,108,117,101,32,111,117,116,32,111,102,32,114,97,110,103,101]⟩] 376 (0,0))}
def zargs:Array Value:= #[.slice none 0 0,.int .i64 0]
set_option maxRecDepth 100000 in
theorem laid_met(os:Os):laidMet Tryz.prog Rows.deskJoinsRow.laid ((laidWorld os zargs).forCall (λ_ _=>0) ⟨#[],zargs,[]⟩).memory:=
  laidMet_of_run' 8 (by kernel_rfl) (by kernel_rfl)
set_option maxRecDepth 100000 in
theorem reads(os:Os){H:Type}(enc:TypeId×Value->H):∃places,DataW.whole enc Tryz.prog ((laidWorld os zargs).forCall (λ_ _=>0) ⟨#[],zargs,[]⟩).memory Tryz.f3.params.toList Rows.deskJoinsSpec.vars false zargs.toList 8=some ([.nil,.lit (.int .i64 0)],[],places):=
  ⟨[],by kernel_rfl⟩
set_option maxRecDepth 100000 in
theorem lifted(os:Os)(started:os.Started)(H:Type)(enc:TypeId×Value->H)(F:Stop.Interp):
    ReturnsInHanded {} Tryz.checked os 3 .any ((OpenSpec.ofChange Rows.deskJoinsSpec).preRow enc Tryz.prog Tryz.f3 Rows.deskJoinsRow.domain false Rows.deskJoinsRow.laid) (((OpenSpec.ofChange Rows.deskJoinsSpec).at F).post enc Tryz.prog Tryz.f3 false true false false):=by
  obtain⟨places,hx⟩:=reads os enc
  refine returnsInHanded_of_row (C:=Tryz.checked) (s:=OpenSpec.ofChange Rows.deskJoinsSpec) own started (by kernel_rfl) Tryz.func3
    (witness_row_at (enc:=enc) (C:=Tryz.checked) false (laidWorld os zargs) zargs rfl (by kernel_rfl) (by kernel_rfl) (by kernel_rfl)
      (OpenSpec.preRow_of_cond 8 hx (by kernel_rfl) (λk hk=>by cases hk) (by kernel_rfl) (laid_met os))) ?_
  intro W base args ds gs before hval hW _ _ hwt hL _ _;exact contract H enc W base args ds gs before hval hW hwt hL
theorem wrapped:Tryz.f3.isWrapper Tryz.pinned.checked.prog Rows.deskJoinsRow.wrapper Rows.deskJoinsRow.mainSum:=by unfold Func.isWrapper;first|(rw[if_pos (by decide+kernel)];kernel_rfl)|(rw[if_neg (by decide+kernel)];exact⟨rfl,rfl⟩)
theorem instanced:Tryz.f3.isInstance Tryz.pinned.checked.prog Rows.deskJoinsRow.origin Rows.deskJoinsRow.targs:=of_decide_eq_true (by kernel_rfl)
theorem j10:(Rows.deskJoinsRow.inPlace==Tryz.pinned.checked.prog.inPlace 3)=true:=by kernel_rfl
theorem j11:(Rows.deskJoinsRow.unfollowed==Tryz.pinned.checked.prog.unfollowed 3)=true:=by kernel_rfl
theorem j12:(Rows.deskJoinsRow.recurses==Tryz.pinned.checked.prog.recurses 3)=true:=by kernel_rfl
theorem j13:(Rows.deskJoinsRow.named==Tryz.pinned.checked.prog.varsNamed 3)=true:=by kernel_rfl
theorem joined:joinedFacts Tryz.pinned.checked.prog 3 Tryz.f3 (OpenSpec.ofChange Rows.deskJoinsSpec).bare Rows.deskJoinsRow=true:=by
  unfold joinedFacts;rw[j10,j11,j12,j13];kernel_rfl
theorem said:Rows.DeskJoinsSaid:=
  OpenClaim.holds_of_cond 3 Tryz.f3 rfl rfl rfl rfl rfl rfl rfl ⟨rfl,rfl,rfl,rfl,rfl⟩ rfl rfl rfl rfl rfl (by kernel_rfl) Tryz.func3 joined
    instanced wrapped
    (λos started H enc _ F=>by rw[OpenClaim.pre_eq_preRow];exact lifted os started H enc F)
set_option maxRecDepth 100000 in
theorem plain(f:FuncId)(fn:Func)(hf:Tryz.pinned.checked.prog.funcNamed "nestbox/nestboxlaw.DeskJoins" =some f)(hfn:Tryz.pinned.checked.prog.funcs[f]? =some fn):
    true=Tryz.pinned.checked.prog.looks []/\∀(j:Nat) t,fn.params[j]? =some t->Tryz.pinned.checked.prog.wantsStandIn t=false:=by
  obtain rfl:f=3:=Option.some.inj ((show Tryz.prog.funcNamed "nestbox/nestboxlaw.DeskJoins" =some 3 by kernel_rfl).symm.trans hf)|>.symm;obtain rfl:fn=Tryz.f3:=(Option.some.inj (Tryz.func3.symm.trans hfn)).symm;refine⟨by kernel_rfl,λj t ht=>?_⟩;rw[Tryz.params3]at ht;have hm:=Array.mem_of_getElem? ht;simp only[List.mem_toArray,List.mem_cons,List.not_mem_nil,or_false]at hm;have h_3:Tryz.pinned.checked.prog.wantsStandIn 3=false:=by kernel_rfl
  have h_22:Tryz.pinned.checked.prog.wantsStandIn 22=false:=by kernel_rfl
  rcases hm with rfl|rfl<;>assumption
theorem goes:false=Rows.deskJoinsRow.goesBy Tryz.pinned.checked.prog:=by kernel_rfl
theorem proved:Rows.DeskJoinsCardSaid:=
  Claim7.holds_tied_plain_at .later [] _ _ _ _ said (λ_ h=>by cases h) (by kernel_rfl) (λ_ h=>by cases h) deskJoins_row_tie rfl ⟨rfl,rfl⟩ (by kernel_rfl) rfl plain goes
#print axioms proved
end Go.Proofs.YtpechfcbnoggfaaGreatDoor.deskJoinsDone
