/- part -/
import Derived.Test.YtpechfcbnoggfaaGreatDoorG9
import Derived.Test.YtpechfcbnoggfaaGreatDoorAmH
set_option linter.unusedVariables false
set_option linter.unusedSimpArgs false
section
namespace Go.Nest
open Go Go.AM Go.Proofs
open Go.Proofs.YtpechfcbnoggfaaGreatDoor (tab tabOk)
set_option maxRecDepth 4000
structure gh(l:List Ob)(ids:List Int)(vis:List Bool)(todo:List Int):Prop where
 len:vis.length=l.length
 sound:∀k,Mk vis k→ca l ids k
 td:∀k∈todo,¬kindOf l k=0→ca l ids k
 base:∀k∈ids,¬kindOf l k=0→k∈todo∨Mk vis k
 clos:∀j,Mk vis j→∀k∈dz l j,k∈todo∨Mk vis k
 size:todo.length≤ids.length+64*vis.count true
def iz(todo:List Int):List Int:=(todo.drop 0).take (todo.length-1-0)
theorem zX{todo:List Int}(h:0<todo.length):todo=iz todo++[todo[todo.length-1]'(by omega)]:=by
 unfold iz;rw[List.drop_zero,Nat.sub_zero];have:=List.take_succ_eq_append_getElem (l:=todo) (i:=todo.length-1) (by omega);rw[←this,Nat.sub_add_cancel (by omega),List.take_length]
theorem nG{todo:List Int}:(iz todo).length=todo.length-1:=by unfold iz;simp
theorem gh.skip{l:List Ob}(hl:aj l){ids:List Int}{vis:List Bool}{todo:List Int}(h:gh l ids vis todo)(ht:0<todo.length){id:Int}(hid:id=todo[todo.length-1]'(by omega))(hk:kindOf l id=0∨Mk vis id):
  gh l ids vis (iz todo):=by
 have e:=zX ht;rw[←hid]at e;refine⟨h.len,h.sound,fun k hk1=>h.td k (by rw[e];exact List.mem_append_left _ hk1),fun k h1 h2=>?_,fun j hj k h1=>?_,?_⟩
 ·rcases h.base k h1 h2 with h3|h3
  ·rw[e,List.mem_append,List.mem_singleton]at h3;rcases h3 with h3|h3
   ·exact .inl h3
   ·subst h3;exact .inr (hk.resolve_left h2)
  ·exact .inr h3
 ·rcases h.clos j hj k h1 with h3|h3
  ·rw[e,List.mem_append,List.mem_singleton]at h3;rcases h3 with h3|h3
   ·exact .inl h3
   ·subst h3;exact .inr (hk.resolve_left (tM hl h1).1)
  ·exact .inr h3
 ·have:=h.size;rw[nG];omega
theorem gh.visit{l:List Ob}(hl:aj l){ids:List Int}{vis:List Bool}{todo:List Int}(h:gh l ids vis todo)(ht:0<todo.length){id:Int}(hid:id=todo[todo.length-1]'(by omega))(hk:¬kindOf l id=0)(hm:vis[id.toNat]? =some false):
  gh l ids (vis.set id.toNat true) (iz todo++dz l id):=by
 obtain⟨h0,hlt⟩:=c9 hk;have e:=zX ht;rw[←hid]at e;have hled:ca l ids id:=h.td id (by rw[e];simp) hk
 have hset:∀k,Mk (vis.set id.toNat true) k↔Mk vis k∨k=id:=fun k=>by
  rw[Mk.set (by rw[h.len];exact hlt)];rw[show((id.toNat:Nat):Int)=id by omega]
 refine⟨by rw[List.length_set,h.len],fun k hk1=>?_,fun k hk1 h2=>?_,fun k h1 h2=>?_,fun j hj k h1=>?_,?_⟩
 ·rcases(hset k).1 hk1 with h3|rfl
  ·exact h.sound k h3
  ·exact hled
 ·rcases List.mem_append.1 hk1 with h3|h3
  ·exact h.td k (by rw[e];exact List.mem_append_left _ h3) h2
  ·exact .step hled h3
 ·rw[hset,List.mem_append];rcases h.base k h1 h2 with h3|h3
  ·rw[e,List.mem_append,List.mem_singleton]at h3;rcases h3 with h3|h3
   ·exact .inl (.inl h3)
   ·exact .inr (.inr h3)
  ·exact .inr (.inl h3)
 ·rw[hset,List.mem_append];rcases(hset j).1 hj with h3|rfl
  ·rcases h.clos j h3 k h1 with h3|h3
   ·rw[e,List.mem_append,List.mem_singleton]at h3;rcases h3 with h3|h3
    ·exact .inl (.inl h3)
    ·exact .inr (.inr h3)
   ·exact .inr (.inl h3)
  ·exact .inl (.inr h1)
 ·have:=h.size;have h2:=yw hl id;rw[List.length_append,nG,count_set hm];omega
theorem gh.start{l:List Ob}{ids:List Int}:gh l ids (List.replicate l.length false) ids:=
 ⟨by simp,fun k h=>(yy h).elim,fun k h1 h2=>.base h1 h2,fun k h1 _=>.inl h1,fun j h=>(yy h).elim,by omega⟩
theorem gh.stop{l:List Ob}{ids:List Int}{vis:List Bool}{todo:List Int}(h:gh l ids vis todo)(ht:todo.length=0):vis.length=l.length∧∀k,Mk vis k↔ca l ids k:=by
 have:todo=[]:=List.eq_nil_of_length_eq_zero ht;subst this;exact⟨h.len,fun k=>⟨h.sound k,ca.of_closed (fun k h1 h2=>(h.base k h1 h2).resolve_left (by simp)) (fun j hj k h1=>(h.clos j hj k h1).resolve_left (by simp))⟩⟩
theorem mR(l:List Ob)(hl:aj l)(ids:List Int)(hi:ids.length≤1000000):ae Tryz.prog 40 [.c (.bp [.bs 6 Ob an l]),.c (.bs 1 Int encI ids)] [] (Rt (.c (.rw 0)) [.row 1 Int encI (ba l ids)]):=by
 refine kg (n:=66) (n0:=0) tabOk Tryz.call40 Tryz.func40 ?_;intro hb;have hlen:=hl.len;refine XM.seq ?_;skip;refine XM.seq ?_;(conv=>whnf);refine⟨l.length,false,⟨rfl,rfl⟩,rfl,by simp only[];omega,?_⟩;skip;refine XM.seq ?_;(conv=>whnf);refine cl [] [] (pq ids (by omega)) ?_;skip;refine XM.join (ι:=List Bool) (fun vis=>⟨[(5,.c (.rw 0))],[.row 1 Bool af vis]⟩) (fun vis=>vis.length=l.length∧∀k,Mk vis k↔ca l ids k) ?_ (fun vis hv=>?_)
 ·(conv=>whnf);refine lp (List Bool×List Int) (fun|(vis,todo)=>⟨[(0,.c (.bp [.bs 6 Ob an l])),(5,.c (.rw 0)),(6,.c (.rw 1))],[.row 1 Bool af vis,.row 1 Int encI todo]⟩) (fun x=>gh l ids x.1 x.2∧True) (fun x=>65*(l.length-x.1.count true)+x.2.length) (List.replicate l.length false,ids) [] [.same 0,.same 1] ?_ ?_ (fun x hx=>?_)
  ·exact⟨gh.start,trivial⟩
  ·repeat' first|exact trivial|exact rfl|refine And.intro ?_ ?_
  obtain⟨vis,todo⟩:=x;obtain⟨hx,_⟩:=hx;dsimp only at hx;have hvl:=hx.len;have hsz:=hx.size;have hct:vis.count true≤vis.length:=List.count_le_length;(conv=>whnf);refine dec (fun h4=>?_) (fun h4=>?_)
  ·have ht:0<todo.length:=by omega
   have hcl:((todo.drop 0).take (todo.length-1-0)).length=todo.length-1:=nG;(conv=>whnf);refine⟨i64 (by omega) (by omega),?_⟩;(conv=>whnf);refine⟨todo.length-1,⟨by omega,by omega⟩,?_⟩;(conv=>whnf);refine⟨todo[todo.length-1],List.getElem?_eq_getElem (by omega),?_⟩;generalize hid:todo[todo.length-1]'(by omega)=id;(conv=>whnf);refine⟨i64 (by omega) (by omega),?_⟩;(conv=>whnf);refine⟨0,todo.length-1,rfl,by omega,by omega,?_⟩;(conv=>whnf);refine cl [] [] (mz l id) ?_;(conv=>whnf);have hnl:=yw hl id;have skip:kindOf l id=0∨Mk vis id→65*(l.length-vis.count true)+(iz todo).length<65*(l.length-vis.count true)+todo.length∧gh l ids vis (iz todo):=fun h=>⟨by rw[nG];omega,hx.skip hl ht hid.symm h⟩;refine dec (fun h5=>?_) (fun h5=>?_)
   ·obtain⟨k1,k2⟩:=c9 (l:=l) (id:=id) (by omega);(conv=>whnf);refine⟨id.toNat,⟨by omega,by omega⟩,?_⟩;(conv=>whnf);refine⟨vis[id.toNat],List.getElem?_eq_getElem (by omega),?_⟩;(conv=>whnf);refine df (fun h6=>?_) (fun h6=>?_)
    ·have hm:vis[id.toNat]? =some false:=by rw[List.getElem?_eq_getElem (by omega),h6]
     have hv:=hx.visit hl ht hid.symm (by omega) hm;have hc:=count_set hm;have hc2:(vis.set id.toNat true).count true≤(vis.set id.toNat true).length:=List.count_le_length;rw[List.length_set]at hc2;(conv=>whnf);refine⟨id.toNat,⟨by omega,by omega⟩,?_⟩;(conv=>whnf);refine⟨_,true,List.getElem?_eq_getElem (by omega),⟨by decide,rfl⟩,?_⟩;(conv=>whnf);refine cl [] [] (ES l hl id) ?_;(conv=>whnf);refine⟨_,_,rfl,rfl,(by simp only[List.length_append,List.length_cons,List.length_nil];omega),?_⟩;(conv=>whnf);refine ag (vis.set id.toNat true,iz todo++dz l id) [] [.same 0,.same 3] ⟨hv,trivial⟩ (by dsimp only;rw[List.length_append,nG];omega) ?_;repeat' first|exact trivial|exact rfl|refine And.intro ?_ ?_
    ·(conv=>whnf);obtain⟨s1,s2⟩:=skip (.inr ⟨id.toNat,by omega,by rw[List.getElem?_eq_getElem (by omega),h6]⟩);refine ag (vis,iz todo) [] [.same 0,.cut 1 1 0 (todo.length-1-0)] ⟨s2,trivial⟩ s1 ?_;repeat' first|exact trivial|exact rfl|refine And.intro ?_ ?_
     omega
   ·(conv=>whnf)
    have:kindOf l id=0:=by
     by_cases h0:kindOf l id=0
     ·exact h0
     ·have:=(hl.get h0).k1;rw[fp]at this;omega
    obtain⟨s1,s2⟩:=skip (.inl this);refine ag (vis,iz todo) [] [.same 0,.cut 1 1 0 (todo.length-1-0)] ⟨s2,trivial⟩ s1 ?_;repeat' first|exact trivial|exact rfl|refine And.intro ?_ ?_
    omega
  ·(conv=>whnf);refine⟨vis,hx.stop (by omega),[],[.same 0],?_⟩;repeat' first|exact trivial|exact rfl|refine And.intro ?_ ?_
 obtain⟨hvl,hv⟩:=hv;rw[←E6 hvl hv];refine XM.seq ?_;skip;refine XM.seq ?_;(conv=>whnf);refine lp Nat (fun i=>⟨[(8,.c (.rw 1)),(52,.c (.rw 0)),(53,.c (.int .i64 vis.length)),(54,.c (.int .i64 i))],[.row 1 Bool af vis,.row 1 Int encI (kN vis i)]⟩) (fun i=>i≤vis.length∧True) (fun i=>vis.length-i) 0 [] [.same 0,.new] ?_ ?_ (fun i hi=>?_)
 ·simp
 ·repeat' first|exact trivial|exact rfl|refine And.intro ?_ ?_
 (conv=>whnf);refine dec (fun h4=>?_) (fun h4=>?_)
 ·have hlt:i<vis.length:=by omega
  have ho:=E7 hlt;have hol:=E5 (vis:=vis) (i:=i);repeat'((conv=>whnf);first|refine aO (fun h=>?_) (fun h=>?_)|refine⟨i64 (by omega) (by omega),?_⟩|refine⟨_,⟨rfl,by omega⟩,?_⟩|refine⟨_,List.getElem?_eq_getElem (by omega),?_⟩|fail)
  ·rw[if_pos h]at ho;(conv=>whnf);refine⟨[(i:Int)],rfl,?_⟩;(conv=>whnf);refine⟨_,_,rfl,rfl,(by simp only[List.length_append,List.length_cons,List.length_nil];omega),?_⟩;repeat'((conv=>whnf);refine I6 ?_)
   refine ag (i+1) [] [.same 0,.same 3] ⟨hlt,trivial⟩ (by simp only[];omega) ?_;repeat' first|exact trivial|exact rfl|refine And.intro ?_ ?_
   rw[ho];exact rfl
  ·rw[if_neg (by simp[h]),List.append_nil]at ho;skip;refine ag (i+1) [] [.same 0,.same 1] ⟨hlt,trivial⟩ (by simp only[];omega) ?_;repeat' first|exact trivial|exact rfl|refine And.intro ?_ ?_
   rw[ho];exact rfl
 ·obtain rfl:i=vis.length:=by omega
  rw[←hvl];(conv=>whnf);refine XM.of ?_;(conv=>whnf);exact rx [] [.same 1]
end Go.Nest
end
section
namespace Go.Nest
open Go Go.AM
def cS(l:List Int)(k:Int):Bool:=l.any fun x=>decide (x=k)
theorem eI{l:List Int}{k:Int}:cS l k=true↔k∈l:=by
 unfold cS;rw[List.any_eq_true];constructor
 ·rintro⟨x,hx,e⟩;have e:x=k:=by simpa using e
  rw[←e];exact hx
 ·intro h;exact⟨k,h,by simp⟩
inductive cU(L:List Ob):Int→Int→Prop
 |refl (id:Int):cU L id id
 |step {id j k:Int} (h:j∈(ai L id).parents) (h2:cU L j k):cU L id k
def pT:Nat→List Ob→Int→Int→Bool
 |0,_,_,_=>false
 |n+1,L,id,k=>decide (k=id)||(ai L id).parents.any fun p=>pT n L p k
theorem cU.next{L:List Ob}{id j k:Int}(h:cU L id j)(hk:k∈(ai L j).parents):cU L id k:=by
 induction h with
 |refl id=>exact .step hk (.refl k)
 |step h _ ih=>exact .step h (ih hk)
theorem Fg{L:List Ob}{j k:Int}(h:k∈(ai L j).parents):k∈dz L j:=by
 unfold dz;rw[List.mem_append,List.mem_append];exact .inr (.inr h)
theorem qB{L:List Ob}(hp:aj L){j k:Int}(h:k∈(ai L j).parents):0≤k∧k<j∧k.toNat<L.length:=by
 obtain⟨h1,h2⟩:=tM hp (Fg h);obtain⟨h3,h4⟩:=c9 h1;exact⟨by omega,h2,h4⟩
theorem tX{L:List Ob}(hp:aj L){j k:Int}(hj:kindOf L j=3)(h:k∈(ai L j).parents):kindOf L k=3:=by
 obtain⟨h1,h2⟩:=c9 (l:=L) (id:=j) (by omega);have:=(hp.obj (ai L j) (by rw[jg h1 h2];exact List.getElem_mem _)).2;unfold dU at this;rw[Bool.and_eq_true,Bool.and_eq_true,List.all_eq_true,List.all_eq_true]at this;simpa using this.2.1 k h
theorem cU.kind{L:List Ob}(hp:aj L){id k:Int}(h:cU L id k)(hi:kindOf L id=3):kindOf L k=3:=by
 induction h with
 |refl=>exact hi
 |step h _ ih=>exact ih (tX hp hi h)
theorem cU.le{L:List Ob}(hp:aj L){id k:Int}(h:cU L id k):k≤id:=by
 induction h with
 |refl=>exact Int.le_refl _
 |step h _ ih=>have:=(qB hp h).2.1;omega
theorem pU{L:List Ob}(hp:aj L):∀(n:Nat) (id k:Int),id.toNat<n→(pT n L id k=true↔cU L id k)
 |0,_,_,h=>absurd h (by omega)
 |n+1,id,k,h=>by
  unfold pT;rw[Bool.or_eq_true,decide_eq_true_iff,List.any_eq_true];constructor
  ·rintro(rfl|⟨p,h1,h2⟩)
   ·exact .refl _
   ·obtain⟨a1,a2,_⟩:=qB hp h1;exact .step h1 ((pU hp n p k (by omega)).1 h2)
  ·intro hA;cases hA with
   |refl=>exact .inl rfl
   |step h1 h2=>
    obtain⟨a1,a2,_⟩:=qB hp h1;exact .inr ⟨_,h1,(pU hp n _ k (by omega)).2 h2⟩
def aX(L:List Ob)(id:Int):List Int:=((List.range L.length).filter fun k:Nat=>pT (id.toNat+1) L id (k:Int)).map fun k:Nat=>(k:Int)
theorem kG{L:List Ob}(hp:aj L){id k:Int}(hi:kindOf L id=3):k∈aX L id↔cU L id k:=by
 unfold aX;rw[List.mem_map];constructor
 ·rintro⟨n,h1,rfl⟩;rw[List.mem_filter]at h1;exact(pU hp _ id n (Nat.lt_succ_self _)).1 h1.2
 ·intro h;have hk:=h.kind hp hi;obtain⟨h1,h2⟩:=c9 (l:=L) (id:=k) (by omega);refine⟨k.toNat,List.mem_filter.2 ⟨by rw[List.mem_range];exact h2,?_⟩,by omega⟩;rw[show((k.toNat:Nat):Int)=k by omega];exact(pU hp _ id k (Nat.lt_succ_self _)).2 h
theorem o7{L:List Ob}{id:Int}:(aX L id).Pairwise (· < ·):=by
 unfold aX;rw[List.pairwise_map];exact((List.pairwise_lt_range (n:=L.length)).filter _).imp (fun h=>by omega)
theorem o6{L:List Ob}{id:Int}:(aX L id).length≤L.length:=by
 unfold aX;rw[List.length_map];exact Nat.le_trans (List.length_filter_le _ _) (by simp)
theorem Gv{L:List Ob}(hp:aj L){id:Int}(hi:kindOf L id=3){out:List Int}(hn:out.Nodup)(hm:∀k,k∈out↔cU L id k):(out.mergeSort fun x y=>decide (x≤y))=aX L id:=by
 have hperm:=List.mergeSort_perm out fun x y=>decide (x≤y);have hs:=List.pairwise_mergeSort (le:=fun x y:Int=>decide (x≤y)) (fun a b c h1 h2=>by simp at*;omega) (fun a b=>by simp;omega) out;refine qK ?_ o7 fun x=>by rw[hperm.mem_iff,hm,kG hp hi]
 have hnd:(out.mergeSort fun x y=>decide (x≤y)).Nodup:=hperm.nodup_iff.2 hn;refine(hs.and hnd).imp fun{x y} ⟨h1,h2⟩=>?_;have:x≤y:=by simpa using h1
 omega
def b7(L:List Ob)(id:Int):List Int×Int:=if kindOf L id=3 then(aX L id,0)else([],9)
def ef(L:List Ob)(a b:Int):Bool:=cS (b7 L b).1 a
def kZ(L:List Ob)(a b:Int):List Int:=(aX L a).filter fun k=>cS (aX L b) k
def zY(L:List Ob)(c:List Int):List Int:=c.filter fun k=> !c.any fun m=>decide (m≠k)&&ef L k m
def dW(L:List Ob)(a b:Int):List Int×Int:=if kindOf L a≠3 then([],9)else if kindOf L b≠3 then([],9)else(zY L (kZ L a b),0)
end Go.Nest
end
section
namespace Go.Nest
open Go Go.AM
theorem gG:∀(n:Nat) {l:List Int},l.Nodup→(∀k∈l,0≤k∧k<n)→l.length≤n
 |0,l,_,h=>by
  cases l with
  |nil=>simp
  |cons x r=>have:=h x (by simp);omega
 |n+1,l,hn,h=>by
  by_cases hm:(n:Int)∈l
  ·have := gG n (hn.erase (n : Int)) (fun k hk=>by
    obtain⟨h1,h2⟩:=(hn.mem_erase_iff).1 hk;have:=h k h2;omega)
   rw[List.length_erase_of_mem hm]at this;omega
  ·have := gG n hn (fun k hk=>by
    have h1:=h k hk;have:k≠n:=fun e=>hm (e▸hk);omega)
   omega
structure fC(L:List Ob)(id:Int)(out:List Int)(i:Nat):Prop where
 le:i≤out.length
 nd:out.Nodup
 mem:id∈out
 anc:∀k∈out,cU L id k
 clos:∀x∈out.take i,∀k∈(ai L x).parents,k∈out
theorem fC.start{L:List Ob}{id:Int}:fC L id [id] 0:=⟨Nat.zero_le _,by simp,by simp,fun k hk=>by rw[List.mem_singleton]at hk;subst hk;exact .refl _,fun x hx=>by cases hx⟩
theorem fC.len{L:List Ob}(hL:aj L){id:Int}(hi:kindOf L id=3){out:List Int}{i:Nat}(h:fC L id out i):out.length≤L.length:=
 gG _ h.nd fun k hk=>by
  have:=(h.anc k hk).kind hL hi;obtain⟨h1,h2⟩:=c9 (l:=L) (id:=k) (by omega);omega
theorem fC.add{L:List Ob}{id:Int}{out:List Int}{i:Nat}(h:fC L id out i){k:Int}(hk:k∉out)(ha:cU L id k):fC L id (out++[k]) i:=by
 refine⟨by rw[List.length_append];have:=h.le;omega,?_,List.mem_append_left _ h.mem,fun x hx=>?_,fun x hx j hj=>?_⟩
 ·rw[List.nodup_append];exact⟨h.nd,by simp,fun a ha2 b hb=>by rw[List.mem_singleton]at hb;intro e;exact hk (by rw[←hb,←e];exact ha2)⟩
 ·rcases List.mem_append.1 hx with hx|hx
  ·exact h.anc x hx
  ·rw[List.mem_singleton]at hx;subst hx;exact ha
 ·rw[List.take_append_of_le_length h.le]at hx;exact List.mem_append_left _ (h.clos x hx j hj)
theorem fC.next{L:List Ob}{id:Int}{out:List Int}{i:Nat}(h:fC L id out i){x:Int}(hx:out[i]? =some x)(hc:∀k∈(ai L x).parents,k∈out):fC L id out (i+1):=by
 obtain⟨hlt,e⟩:=List.getElem?_eq_some_iff.1 hx;refine⟨hlt,h.nd,h.mem,h.anc,fun y hy k hk=>?_⟩;rw[List.take_succ_eq_append_getElem hlt,List.mem_append,List.mem_singleton,e]at hy;rcases hy with hy|rfl
 ·exact h.clos y hy k hk
 ·exact hc k hk
theorem Bg{L:List Ob}{out:List Int}(hc:∀x∈out,∀k∈(ai L x).parents,k∈out){id k:Int}(ha:cU L id k):id∈out→k∈out:=by
 induction ha with
 |refl=>exact fun h=>h
 |step h1 _ ih=>exact fun h=>ih (hc _ h _ h1)
theorem fC.stop{L:List Ob}{id:Int}{out:List Int}{i:Nat}(h:fC L id out i)(hi:out.length≤i)(k:Int):k∈out↔cU L id k:=by
 have hc:=h.clos;rw[List.take_of_length_le hi]at hc;exact⟨h.anc k,fun ha=>Bg hc ha h.mem⟩
end Go.Nest
end
section
namespace Go.Nest
open Go Go.AM Go.Proofs
open Go.Proofs.YtpechfcbnoggfaaGreatDoor (tab tabOk)
set_option maxRecDepth 4000
def d21:List B:=[.dead,.dead,.dead,.dead,.dead,.dead,.dead,.dead,.dead,.dead,.dead,.dead,.dead,.dead,.dead,.dead,.dead,.dead,.dead,.dead,.dead]
def Cq(s:FS):List B:=[.row 6 Ob an s.L,.row 1 Bool af (s.o 0),.row 1 Bool af (s.o 1),.row 1 Bool af (s.o 2),.row 1 Bool af (s.o 3),.row 1 Int encI (s.b 0),.row 1 Int encI (s.b 1),.row 1 Int encI (s.b 2),.row 1 Int encI (s.b 3),.row 2 Rf bg (s.n 0),.row 2 Rf bg (s.n 1),.row 2 Rf bg (s.n 2),.row 2 Rf bg (s.n 3),.row 3 Mv cn (s.m 0),.row 3 Mv cn (s.m 1),.row 3 Mv cn (s.m 2),.row 3 Mv cn (s.m 3),.row 5 It aG (s.w 0),.row 5 It aG (s.w 1),.row 5 It aG (s.w 2),.row 5 It aG (s.w 3)]
def bD(k:Nat)(mid:List B)(s:FS):List B:= .box [.ptr 1 0,.ptr 2 0,.ptr 3 0,.ptr 4 0,.ptr 5 0,.ptr 6 0,.ptr 7 0,.ptr 8 0,.ptr 9 0]:: .box [.ptr 10 0,.rw (k+12),.rw (k+13),.rw (k+14),.rw (k+15),.rw (k+16),.rw (k+17),.rw (k+18),.rw (k+19)]:: .box [.rw (k+20),.rw (k+24)]:: .box [.ptr 10 0,.rw (k+28),.int .i64 (s.h 0)]:: .box [.rw (k+21),.rw (k+25)]:: .box [.ptr 10 0,.rw (k+29),.int .i64 (s.h 1)]:: .box [.rw (k+22),.rw (k+26)]:: .box [.ptr 10 0,.rw (k+30),.int .i64 (s.h 2)]:: .box [.rw (k+23),.rw (k+27)]:: .box [.ptr 10 0,.rw (k+31),.int .i64 (s.h 3)]:: .box [.rw (k+11)]::(mid++Cq s)
abbrev aH(s:FS):List B:=bD 0 [] s
abbrev aQ(s:FS):List B:=bD 21 d21 s
def mF(k:Nat):List Nat:=[0,1,2,3,4,5,6,7,8,9,10,k+11,k+12,k+13,k+14,k+15,k+16,k+17,k+18,k+19,k+20,k+21,k+22,k+23,k+24,k+25,k+26,k+27,k+28,k+29,k+30,k+31]
def rF(k:Nat):List Rn:=[.same 0,.same 1,.same 2,.same 3,.same 4,.same 5,.same 6,.same 7,.same 8,.same 9,.same 10,.same 11,.same 12,.same 13,.same 14,.same 15,.same 16,.same 17,.same 18,.same 19,.same 20,.same 21,.same 22,.same 23,.same 24,.same 25,.same 26,.same 27,.same 28,.same 29,.same 30,.same 31,.same (k+11),.same (k+12),.same (k+13),.same (k+14),.same (k+15),.same (k+16),.same (k+17),.same (k+18),.same (k+19),.same (k+20),.same (k+21),.same (k+22),.same (k+23),.same (k+24),.same (k+25),.same (k+26),.same (k+27),.same (k+28),.same (k+29),.same (k+30),.same (k+31)]
def rP(f:Nat→Nat):List Rn:=[.same 0,.same 1,.same 2,.same 3,.same 4,.same 5,.same 6,.same 7,.same 8,.same 9,.same 10,.same 11,.same 12,.same 13,.same 14,.same 15,.same 16,.same 17,.same 18,.same 19,.same 20,.same 21,.same 22,.same 23,.same 24,.same 25,.same 26,.same 27,.same 28,.same 29,.same 30,.same 31,.same (f 11),.same (f 12),.same (f 13),.same (f 14),.same (f 15),.same (f 16),.same (f 17),.same (f 18),.same (f 19),.same (f 20),.same (f 21),.same (f 22),.same (f 23),.same (f 24),.same (f 25),.same (f 26),.same (f 27),.same (f 28),.same (f 29),.same (f 30),.same (f 31)]
structure j9(l:List A):Prop where
 m:∀fr ah ρ,kF fr ah ρ l l
structure iT(x:A):Prop where
 m:∀ah ρ,mA (fun _=>false) ah ρ x x
 r:∀σ,dR σ x=x
 c:eE x=true
theorem jT{f:FuncId}{rest:List A}{X:A}{s:FS}{r:Nat}(hr:r<4){L:List Ob}{l:List It}{h:Int}(hs:ae Tryz.prog f (.c (.ptr 0 0)::rest) [.box [.ptr 1 0,.rw 3,.int .i64 (s.h r)],.box [.rw 2],.row 6 Ob an s.L,.row 5 It aG (s.w r)] (Rt X [.box [.ptr 1 0,.rw 5,.int .i64 h],.box [.rw 4],.dead,.dead,.row 6 Ob an L,.row 5 It aG l]))(hx:iT X)(hc:j9 rest:=by refine⟨fun _ _ _=>?_⟩;repeat' first|exact trivial|exact rfl|refine And.intro ?_ ?_):
  ae Tryz.prog f (.c (.ptr (3+2*r) 0)::rest) (aH s) (Rt X (aQ (s.dG r L l h))):=by
 refine bC.frame [3+2*r,10,11,28+r] (rP fun i=>bif Nat.beq i 11 then 32 else bif Nat.beq i (28+r)then 33 else i) hs ?_ rfl (hx.r _) ?_ ?_
 ·rcases four hr with rfl|rfl|rfl|rfl<;>exact jc (And.intro rfl (hc.m _ _ _))
 ·rcases four hr with rfl|rfl|rfl|rfl<;>exact jP (hx.m _ _)
 ·rw[hx.c];rfl
theorem tR{f:FuncId}{rest:List A}{X:A}{s:FS}{r:Nat}(hr:r<4){l:List Rf}{m:List Mv}(hs:ae Tryz.prog f (.c (.ptr 0 0)::rest) [.box [.rw 1,.rw 2],.row 2 Rf bg (s.n r),.row 3 Mv cn (s.m r)] (Rt X [.box [.rw 3,.rw 4],.dead,.dead,.row 2 Rf bg l,.row 3 Mv cn m]))(hx:iT X)(hc:j9 rest:=by refine⟨fun _ _ _=>?_⟩;repeat' first|exact trivial|exact rfl|refine And.intro ?_ ?_):
  ae Tryz.prog f (.c (.ptr (2+2*r) 0)::rest) (aH s) (Rt X (aQ (s.hU r l m))):=by
 refine bC.frame [2+2*r,20+r,24+r] (rP fun i=>bif Nat.beq i (20+r)then 32 else bif Nat.beq i (24+r)then 33 else i) hs ?_ rfl (hx.r _) ?_ ?_
 ·rcases four hr with rfl|rfl|rfl|rfl<;>exact jc (And.intro rfl (hc.m _ _ _))
 ·rcases four hr with rfl|rfl|rfl|rfl<;>exact jP (hx.m _ _)
 ·rw[hx.c];rfl
theorem tQ{f:FuncId}{rest:List A}{X:A}{s:FS}{o:Nat→List Bool}(hs:ae Tryz.prog f (.c (.ptr 0 0)::rest) [.box [.ptr 1 0,.rw 3,.rw 4,.rw 5,.rw 6,.rw 7,.rw 8,.rw 9,.rw 10],.box [.rw 2],.row 6 Ob an s.L,.row 1 Bool af (s.o 0),.row 1 Bool af (s.o 1),.row 1 Bool af (s.o 2),.row 1 Bool af (s.o 3),.row 1 Int encI (s.b 0),.row 1 Int encI (s.b 1),.row 1 Int encI (s.b 2),.row 1 Int encI (s.b 3)] (Rt X [.box [.ptr 1 0,.rw 11,.rw 12,.rw 13,.rw 14,.rw 7,.rw 8,.rw 9,.rw 10],.box [.rw 2],.row 6 Ob an s.L,.dead,.dead,.dead,.dead,.row 1 Int encI (s.b 0),.row 1 Int encI (s.b 1),.row 1 Int encI (s.b 2),.row 1 Int encI (s.b 3),.row 1 Bool af (o 0),.row 1 Bool af (o 1),.row 1 Bool af (o 2),.row 1 Bool af (o 3)]))(hx:iT X)(hc:j9 rest:=by refine⟨fun _ _ _=>?_⟩;repeat' first|exact trivial|exact rfl|refine And.intro ?_ ?_):
  ae Tryz.prog f (.c (.ptr 1 0)::rest) (aH s) (Rt X (aQ (s.cG o))):=by
 refine bC.frame [1,10,11,12,13,14,15,16,17,18,19] (rP fun i=>bif Nat.blt 11 i&&Nat.blt i 16 then 20+i else i) hs (jc (And.intro rfl (hc.m _ _ _))) rfl (hx.r _) (jP (hx.m _ _)) ?_;rw[hx.c];rfl
theorem E1{f:FuncId}{rest:List A}{X:A}{s:FS}{b:Nat→List Int}(hs:ae Tryz.prog f (.c (.ptr 0 0)::rest) [.box [.ptr 1 0,.rw 3,.rw 4,.rw 5,.rw 6,.rw 7,.rw 8,.rw 9,.rw 10],.box [.rw 2],.row 6 Ob an s.L,.row 1 Bool af (s.o 0),.row 1 Bool af (s.o 1),.row 1 Bool af (s.o 2),.row 1 Bool af (s.o 3),.row 1 Int encI (s.b 0),.row 1 Int encI (s.b 1),.row 1 Int encI (s.b 2),.row 1 Int encI (s.b 3)] (Rt X [.box [.ptr 1 0,.rw 3,.rw 4,.rw 5,.rw 6,.rw 11,.rw 12,.rw 13,.rw 14],.box [.rw 2],.row 6 Ob an s.L,.row 1 Bool af (s.o 0),.row 1 Bool af (s.o 1),.row 1 Bool af (s.o 2),.row 1 Bool af (s.o 3),.dead,.dead,.dead,.dead,.row 1 Int encI (b 0),.row 1 Int encI (b 1),.row 1 Int encI (b 2),.row 1 Int encI (b 3)]))(hx:iT X)(hc:j9 rest:=by refine⟨fun _ _ _=>?_⟩;repeat' first|exact trivial|exact rfl|refine And.intro ?_ ?_):
  ae Tryz.prog f (.c (.ptr 1 0)::rest) (aH s) (Rt X (aQ (s.zD b))):=by
 refine bC.frame [1,10,11,12,13,14,15,16,17,18,19] (rP fun i=>bif Nat.blt 15 i&&Nat.blt i 20 then 16+i else i) hs (jc (And.intro rfl (hc.m _ _ _))) rfl (hx.r _) (jP (hx.m _ _)) ?_;rw[hx.c];rfl
theorem E3{f:FuncId}{rest:List A}{X:A}{s:FS}{o:Nat→List Bool}(hs:ae Tryz.prog f (.c (.ptr 0 0)::rest) [.box [.ptr 1 0,.rw 3,.rw 4,.rw 5,.rw 6,.rw 7,.rw 8,.rw 9,.rw 10],.box [.rw 2],.row 6 Ob an s.L,.row 1 Bool af (s.o 0),.row 1 Bool af (s.o 1),.row 1 Bool af (s.o 2),.row 1 Bool af (s.o 3),.row 1 Int encI (s.b 0),.row 1 Int encI (s.b 1),.row 1 Int encI (s.b 2),.row 1 Int encI (s.b 3)] (Rt X [.box [.ptr 1 0,.rw 3,.rw 4,.rw 5,.rw 6,.rw 7,.rw 8,.rw 9,.rw 10],.box [.rw 2],.row 6 Ob an s.L,.row 1 Bool af (o 0),.row 1 Bool af (o 1),.row 1 Bool af (o 2),.row 1 Bool af (o 3),.row 1 Int encI (s.b 0),.row 1 Int encI (s.b 1),.row 1 Int encI (s.b 2),.row 1 Int encI (s.b 3)]))(hx:iT X)(hc:j9 rest:=by refine⟨fun _ _ _=>?_⟩;repeat' first|exact trivial|exact rfl|refine And.intro ?_ ?_):
  ae Tryz.prog f (.c (.ptr 1 0)::rest) (aH s) (Rt X (aQ (s.cG o))):=by
 refine bC.frame [1,10,11,12,13,14,15,16,17,18,19] (rP id) hs (jc (And.intro rfl (hc.m _ _ _))) rfl (hx.r _) (jP (hx.m _ _)) ?_;rw[hx.c];rfl
theorem E2{f:FuncId}{rest:List A}{X:A}{s:FS}{L:List Ob}(hs:ae Tryz.prog f (.c (.ptr 0 0)::rest) [.box [.rw 1],.row 6 Ob an s.L] (Rt X [.box [.rw 2],.dead,.row 6 Ob an L]))(hx:iT X)(hc:j9 rest:=by refine⟨fun _ _ _=>?_⟩;repeat' first|exact trivial|exact rfl|refine And.intro ?_ ?_):
  ae Tryz.prog f (.c (.ptr 10 0)::rest) (aH s) (Rt X (aQ (s.aL L))):=by
 refine bC.frame [10,11] (rP fun i=>bif Nat.beq i 11 then 32 else i) hs (jc (And.intro rfl (hc.m _ _ _))) rfl (hx.r _) (jP (hx.m _ _)) ?_;rw[hx.c];rfl
def ed (s : FS) : List C := [.bp [.bp [.bs 6 Ob an s.L],.bs 1 Bool af (s.o 0),.bs 1 Bool af (s.o 1),.bs 1 Bool af (s.o 2),.bs 1 Bool af (s.o 3),.bs 1 Int encI (s.b 0),.bs 1 Int encI (s.b 1),.bs 1 Int encI (s.b 2),.bs 1 Int encI (s.b 3)],
 .bp [.bs 2 Rf bg (s.n 0),.bs 3 Mv cn (s.m 0)],.bp [.bp [.bs 6 Ob an s.L],.bs 5 It aG (s.w 0),.int .i64 (s.h 0)],
 .bp [.bs 2 Rf bg (s.n 1),.bs 3 Mv cn (s.m 1)],.bp [.bp [.bs 6 Ob an s.L],.bs 5 It aG (s.w 1),.int .i64 (s.h 1)],
 .bp [.bs 2 Rf bg (s.n 2),.bs 3 Mv cn (s.m 2)],.bp [.bp [.bs 6 Ob an s.L],.bs 5 It aG (s.w 2),.int .i64 (s.h 2)],
 .bp [.bs 2 Rf bg (s.n 3),.bs 3 Mv cn (s.m 3)],.bp [.bp [.bs 6 Ob an s.L],.bs 5 It aG (s.w 3),.int .i64 (s.h 3)]]
end Go.Nest
end
