import Derived.Test.YtpechfcbnoggfaaGreatDoorD11
import Derived.Test.YtpechfcbnoggfaaGreatDoorV36
import Derived.Test.YtpechfcbnoggfaaGreatDoorE10
import Derived.Test.YtpechfcbnoggfaaGreatDoorQ4
import Derived.Test.YtpechfcbnoggfaaGreatDoorAmH
import Derived.Test.YtpechfcbnoggfaaGreatDoorP10
set_option maxHeartbeats 20000000
set_option linter.unusedVariables false
set_option linter.unusedSimpArgs false
open Bool renaming and_eq_true->bn,eq_iff_iff->cf,false_or->cq
open Decidable renaming byContradiction->cv,not_not->c3
open List renaming length_append->ah,getElem?_eq_getElem->a0,length_cons->a1,length_nil->a3,replicate->a4,append_assoc->a5,getElem_mem->a9,length_singleton->bb,mem_cons_of_mem->be,mem_append->bh,mem_cons->bi,mem_singleton->bl,length_set->br,length_map->b0,drop_eq_getElem_cons->b1,take_zero->b2,mem_range->b3,getElem?_mapIdx->b4,mem_map->cb,getElem?_set->cd,any_eq_true->ce,mem_filter->ci,map_append->co,nil_append->cp,any_cons->cs,map_cons->ct,map_map->cV,map_id->c0,range->c2
open Nat renaming zero_le->a2,beq->bj,le_refl->bk,not_lt_zero->ch,lt_irrefl->cr,le_trans->cx,mul_succ->cy
open Ne renaming symm->c1
open Option renaming map_eq_some_iff->ar,bind_eq_some_iff->a6
open Prod renaming ext->c4
section
namespace Go.Nest
open Go Go.AM Go.Proofs
open Go.Proofs.YtpechfcbnoggfaaGreatDoor (tab tabOk)
set_option maxRecDepth 4000
theorem pH{n0:Nat}{a:St}{R:∀(ι:Type) (I:ι->St) (inv:ι->Prop) (m:ι->Nat),ι->Prop}{P:Nat->Prop}{q:Nat}(c:P q)(ι:Type)(I:Nat->ι->St)(inv:Nat->ι->Prop)(m:ι->Nat)(y:ι)(js:List Nat)(ρ:List Rn)(h1:inv q y)(h2:le n0 js ρ a (I q y))(b:∀x,inv q x->R ι (I q) (inv q) m x):
  ∃(ι:Type) (I:ι->St) (inv:ι->Prop) (m:ι->Nat),(∃y,inv y/\LE n0 a (I y))/\∀x,inv x->R ι I inv m x:=
 ⟨ι,I q,inv q,m,⟨y,h1,js,ρ,h2⟩,b⟩
theorem sd{ι:Type}{n0:Nat}{I:ι->St}{inv:ι->Prop}{m:ι->Nat}{lt:Nat}{s:St}{P:Nat->Prop}{q:Nat}(b:P q)(y:ι)(js:List Nat)(ρ:Nat->List Rn)(h1:inv y)(h2:m y<lt)(a:le n0 js (ρ q) s (I y)):∃y,(inv y/\m y<lt)/\LE n0 s (I y):=⟨y,⟨h1,h2⟩,js,ρ q,a⟩
def Qn(_:Nat):Prop:=True
theorem LY(L:List Ob)(g:ak L)(o:Nat->List Bool)(b r0:Nat->List Int)(M:∀r,r<4->(r0 r).length<=100000):aa Tryz.prog 136 [.c (.bp [.bp [.bs 6 Ob an L],.bs 1 Bool ai (o 0),.bs 1 Bool ai (o 1),.bs 1 Bool ai (o 2),.bs 1 Bool ai (o 3),.bs 1 Int encI (b 0),.bs 1 Int encI (b 1),.bs 1 Int encI (b 2),.bs 1 Int encI (b 3)]),.st [.bs 1 Int encI (r0 0),.bs 1 Int encI (r0 1),.bs 1 Int encI (r0 2),.bs 1 Int encI (r0 3)]] [] (Rt (.st [.ls 1 Int encI (gr L r0 0),.ls 1 Int encI (gr L r0 1),.ls 1 Int encI (gr L r0 2),.ls 1 Int encI (gr L r0 3)]) []):=by
 have ac:=g.len;refine af (n:=67) (n0:=0) tabOk Tryz.call136 Tryz.func136 ?_;intro hb;refine lp RS (λs=>⟨[(0,.c (.bp [.bp [.bs 6 Ob an L],.bs 1 Bool ai (o 0),.bs 1 Bool ai (o 1),.bs 1 Bool ai (o 2),.bs 1 Bool ai (o 3),.bs 1 Int encI (b 0),.bs 1 Int encI (b 1),.bs 1 Int encI (b 2),.bs 1 Int encI (b 3)])),(3,.c (.ptr 0 0)),(4,.c (.ptr 1 0)),(5,.c (.ptr 2 0)),(6,.c (.bool s.more))],[.box [.bs 1 Int encI (s.ro 0),.bs 1 Int encI (s.ro 1),.bs 1 Int encI (s.ro 2),.bs 1 Int encI (s.ro 3)],.box [.nil,.nil,.nil,.nil],.box [.ls 1 Int encI (s.out 0),.ls 1 Int encI (s.out 1),.ls 1 Int encI (s.out 2),.ls 1 Int encI (s.out 3)]]⟩) (λs=>(gH L r0 s/\(s.more=false->r8 L s))/\True) (λs=>2*fB L (n0 r0) s+(if s.more=true then 1 else 0)) ⟨r0,λ_=>[],true⟩ [] [.s 0,.s 1,.s 2] ?_ ?_ (λs N=>?_)
 ·exact⟨⟨gH.start,λh=>by cases h⟩,trivial⟩
 ·repeat' first|exact trivial|exact rfl|refine And.intro ?_ ?_
 obtain⟨⟨N,P⟩,-⟩:=N;refine aS (λy=>?_) (λy=>?_)
 ·have y:s.more=true:=y;refine lp (Nat×RS) (λp=>⟨[(0,.c (.bp [.bp [.bs 6 Ob an L],.bs 1 Bool ai (o 0),.bs 1 Bool ai (o 1),.bs 1 Bool ai (o 2),.bs 1 Bool ai (o 3),.bs 1 Int encI (b 0),.bs 1 Int encI (b 1),.bs 1 Int encI (b 2),.bs 1 Int encI (b 3)])),(3,.c (.ptr 0 0)),(4,.c (.ptr 1 0)),(5,.c (.ptr 2 0)),(6,.c (.bool p.2.more)),(12,.c (.int .i64 p.1))],[.box [.bs 1 Int encI (p.2.ro 0),.bs 1 Int encI (p.2.ro 1),.bs 1 Int encI (p.2.ro 2),.bs 1 Int encI (p.2.ro 3)],.box [.nil,.nil,.nil,.nil],.box [.ls 1 Int encI (p.2.out 0),.ls 1 Int encI (p.2.out 1),.ls 1 Int encI (p.2.out 2),.ls 1 Int encI (p.2.out 3)]]⟩) (λp=>(p.1<=4/\jt L r0 (fB L (n0 r0) s) p.1 p.2)/\True) (λp=>4-p.1) (0,⟨s.ro,s.out,false⟩) [] [.s 0,.s 1,.s 2] ?_ ?_ (λ⟨r,t⟩ D=>?_)
  ·exact⟨⟨a2 _,jt.start N⟩,trivial⟩
  ·repeat' first|exact trivial|exact rfl|refine And.intro ?_ ?_
  obtain⟨⟨al,D⟩,-⟩:=D;have D:jt L r0 (fB L (n0 r0) s) r t:=D;refine dec (λO=>?_) (λO=>?_)
  ·have E:r<4:=by have O:(r:Int)<4:=O;omega
   have z:=D.found g E;have am:=D.inv.len E;have hn:=M r E;have p1:=oI L g (t.ro r) (by omega);have W:=pQ (l:=L) (ids:=t.ro r)
   have v:∀k∈bc L (t.ro r),Nd L r0 r k:=λk hk=>by
    obtain⟨x,h1,U⟩:=xf ((jf g).1 hk);exact D.inv.nd r E x h1 k U
   generalize bc L (t.ro r)=all at p1 z v W;have p2:=Li L g o b all (by omega);have ad:=xm g (ids:=all);have hQ:Qn r:=trivial;have Q:r+1<=4:=E;have hd:decide (((t.out r).length:Int)<all.length)=decide ((t.out r).length<all.length):=decide_eq_decide.2 (by omega);(conv=>whnf)
   rcases four E with rfl|rfl|rfl|rfl<;>(
    refine⟨false,.grow,(.l [0,1,2,3,4,5,6,7,8]),by kernel_rfl,.inl ?_⟩;refine⟨_,⟨rfl,E⟩,?_⟩;refine cl [] [] (p1) ?_;refine aS (λI=>?_) (λI=>?_)
    ·have I:t.more=true:=I;rw[I,Bool.true_or]at z;refine⟨_,⟨rfl,E⟩,?_⟩;refine cl [] [] (p2) ?_;refine pH hQ (Nat×RS) (λq p=>⟨[(0,.c (.bp [.bp [.bs 6 Ob an L],.bs 1 Bool ai (o 0),.bs 1 Bool ai (o 1),.bs 1 Bool ai (o 2),.bs 1 Bool ai (o 3),.bs 1 Int encI (b 0),.bs 1 Int encI (b 1),.bs 1 Int encI (b 2),.bs 1 Int encI (b 3)])),(3,.c (.ptr 0 0)),(4,.c (.ptr 1 0)),(5,.c (.ptr 2 0)),(6,.c (.bool p.2.more)),(12,.c (.int .i64 q)),(38,.c (.rw 3)),(39,.c (.int .i64 (b8 L all).length)),(40,.c (.int .i64 p.1))],[.box [.bs 1 Int encI (p.2.ro 0),.bs 1 Int encI (p.2.ro 1),.bs 1 Int encI (p.2.ro 2),.bs 1 Int encI (p.2.ro 3)],.box [.nil,.nil,.nil,.nil],.box [.ls 1 Int encI (p.2.out 0),.ls 1 Int encI (p.2.out 1),.ls 1 Int encI (p.2.out 2),.ls 1 Int encI (p.2.out 3)],.row 2 (Int×Int) kq (b8 L all)]⟩) (λq p=>(p.1<=(b8 L all).length/\iP L r0 (fB L (n0 r0) s) q all p.1 p.2)/\True) (λp=>(b8 L all).length-p.1) (0,_) [3] [.s 0,.s 1,.s 2,.s 4] ⟨⟨a2 _,z⟩,trivial⟩ ?_ (λ⟨i,u⟩ f=>?_)
     ·repeat' first|exact trivial|exact rfl|refine And.intro ?_ ?_
     obtain⟨⟨Y,f⟩,-⟩:=f;dsimp only at Y f;refine dec (λm=>?_) (λm=>?_)
     ·have a:i<(b8 L all).length:=by have m:(i:Int)<(b8 L all).length:=m;omega
      have w:(b8 L all)[i]? =some (b8 L all)[i]:=a0 a
      obtain⟨p,x,H,J⟩:∃(p:Nat) (x:Int),p<4/\(b8 L all)[i]=((p:Int),x):=by
       obtain⟨k,k1,e,k2,k3,k4⟩:=tK.1 (a9 a);have:=qK g k2;exact⟨e.ax.toNat,e.id,by omega,by rw[k4,show((e.ax.toNat:Nat):Int)=e.ax by omega]⟩
      rw[J]at w;have K:(!dv (u.ro p) x)=false->iP L r0 (fB L (n0 r0) s) _ all (i+1) u:=λh=>f.skip a (by rw[J];exact fR.1 (by simpa using h));have d:=λh:(!dv (u.ro p) x)=true=>f.add g v H (x:=x) (by rw[<-J];exact a9 a) (λy=>by rw[fR.2 y]at h;cases h);have R:=f.mid.inv.len H;have Z:=M p H;have S:=sG (u.ro p) (by omega);have p6:=gO (u.ro p) x;refine⟨i,⟨rfl,a⟩,?_⟩;refine⟨((p:Int),x),w,?_⟩
      rcases four H with rfl|rfl|rfl|rfl<;>(
       refine⟨false,.grow,(.l [0,1,2,3,4,5,6,7]),by kernel_rfl,.inl ?_⟩;refine⟨0,⟨rfl,by decide⟩,?_⟩;refine⟨_,⟨rfl,by decide⟩,?_⟩;refine⟨1,⟨rfl,by decide⟩,?_⟩;refine cl [] [] (p6) ?_;refine aS (λF=>?_) (λF=>?_)
       ·refine⟨false,.dj [0,4],(.alt [0,1,2,3,4,5,7,8] [6,9] λj=>bif bj j 6 then(.l [9,10,11,12])else bif bj j 9 then(.l [6,10,11,12])else .l []),by kernel_rfl,.inl ?_⟩;refine⟨0,⟨rfl,by decide⟩,?_⟩;refine⟨0,⟨rfl,by decide⟩,?_⟩;refine⟨_,⟨rfl,by decide⟩,?_⟩;refine⟨1,⟨rfl,by decide⟩,?_⟩;refine And.intro ?_ ?_
        ·refine cl [] [] (S) ?_;refine⟨[x],rfl,?_⟩;refine⟨_,_,rfl,rfl,(by simp only[ah,a1,a3];omega),?_⟩;refine⟨_,⟨rfl,by decide⟩,?_⟩;repeat'(refine I6 ?_)
         refine ag (i+1,_) [7] [.s 0,.s 1,.s 2,.s 3] ⟨⟨a,d F⟩,trivial⟩ (by simp only[];omega) ?_;repeat' first|exact trivial|exact rfl|refine And.intro ?_ ?_
        ·refine⟨[x],rfl,?_⟩;refine cl [] [] (S) ?_;refine⟨_,_,rfl,rfl,(by simp only[ah,a1,a3];omega),?_⟩;refine⟨_,⟨rfl,by decide⟩,?_⟩;repeat'(refine I6 ?_)
         refine ag (i+1,_) [7] [.s 0,.s 1,.s 2,.s 3] ⟨⟨a,d F⟩,trivial⟩ (by simp only[];omega) ?_;repeat' first|exact trivial|exact rfl|refine And.intro ?_ ?_
       ·repeat'(refine I6 ?_)
        refine ag (i+1,u) [] [.s 0,.s 1,.s 2,.s 3] ⟨⟨a,K F⟩,trivial⟩ (by simp only[];omega) ?_;repeat' first|exact trivial|exact rfl|refine And.intro ?_ ?_)
     ·have m:¬(i:Int)<(b8 L all).length:=m;repeat'(refine I6 ?_)
      refine ag (_+1,u) [] [.s 0,.s 1,.s 2] ⟨⟨Q,f.stop (by omega)⟩,trivial⟩ (by simp only[];omega) ?_;repeat' first|exact trivial|exact rfl|refine And.intro ?_ ?_
    ·have I:t.more=false:=I;rw[I,cq,<-hd]at z;refine⟨_,⟨rfl,E⟩,?_⟩;refine⟨_,⟨rfl,E⟩,?_⟩;refine cl [] [] (p2) ?_;refine pH hQ (Nat×RS) (λq p=>⟨[(0,.c (.bp [.bp [.bs 6 Ob an L],.bs 1 Bool ai (o 0),.bs 1 Bool ai (o 1),.bs 1 Bool ai (o 2),.bs 1 Bool ai (o 3),.bs 1 Int encI (b 0),.bs 1 Int encI (b 1),.bs 1 Int encI (b 2),.bs 1 Int encI (b 3)])),(3,.c (.ptr 0 0)),(4,.c (.ptr 1 0)),(5,.c (.ptr 2 0)),(6,.c (.bool p.2.more)),(12,.c (.int .i64 q)),(38,.c (.rw 3)),(39,.c (.int .i64 (b8 L all).length)),(40,.c (.int .i64 p.1))],[.box [.bs 1 Int encI (p.2.ro 0),.bs 1 Int encI (p.2.ro 1),.bs 1 Int encI (p.2.ro 2),.bs 1 Int encI (p.2.ro 3)],.box [.nil,.nil,.nil,.nil],.box [.ls 1 Int encI (p.2.out 0),.ls 1 Int encI (p.2.out 1),.ls 1 Int encI (p.2.out 2),.ls 1 Int encI (p.2.out 3)],.row 2 (Int×Int) kq (b8 L all)]⟩) (λq p=>(p.1<=(b8 L all).length/\iP L r0 (fB L (n0 r0) s) q all p.1 p.2)/\True) (λp=>(b8 L all).length-p.1) (0,_) [3] [.s 0,.s 1,.s 2,.s 4] ⟨⟨a2 _,z⟩,trivial⟩ ?_ (λ⟨i,u⟩ f=>?_)
     ·repeat' first|exact trivial|exact rfl|refine And.intro ?_ ?_
     obtain⟨⟨Y,f⟩,-⟩:=f;dsimp only at Y f;refine dec (λm=>?_) (λm=>?_)
     ·have a:i<(b8 L all).length:=by have m:(i:Int)<(b8 L all).length:=m;omega
      have w:(b8 L all)[i]? =some (b8 L all)[i]:=a0 a
      obtain⟨p,x,H,J⟩:∃(p:Nat) (x:Int),p<4/\(b8 L all)[i]=((p:Int),x):=by
       obtain⟨k,k1,e,k2,k3,k4⟩:=tK.1 (a9 a);have:=qK g k2;exact⟨e.ax.toNat,e.id,by omega,by rw[k4,show((e.ax.toNat:Nat):Int)=e.ax by omega]⟩
      rw[J]at w;have K:(!dv (u.ro p) x)=false->iP L r0 (fB L (n0 r0) s) _ all (i+1) u:=λh=>f.skip a (by rw[J];exact fR.1 (by simpa using h));have d:=λh:(!dv (u.ro p) x)=true=>f.add g v H (x:=x) (by rw[<-J];exact a9 a) (λy=>by rw[fR.2 y]at h;cases h);have R:=f.mid.inv.len H;have Z:=M p H;have S:=sG (u.ro p) (by omega);have p6:=gO (u.ro p) x;refine⟨i,⟨rfl,a⟩,?_⟩;refine⟨((p:Int),x),w,?_⟩
      rcases four H with rfl|rfl|rfl|rfl<;>(
       refine⟨false,.grow,(.l [0,1,2,3,4,5,6,7]),by kernel_rfl,.inl ?_⟩;refine⟨0,⟨rfl,by decide⟩,?_⟩;refine⟨_,⟨rfl,by decide⟩,?_⟩;refine⟨1,⟨rfl,by decide⟩,?_⟩;refine cl [] [] (p6) ?_;refine aS (λF=>?_) (λF=>?_)
       ·refine⟨false,.dj [0,4],(.alt [0,1,2,3,4,5,7,8] [6,9] λj=>bif bj j 6 then(.l [9,10,11,12])else bif bj j 9 then(.l [6,10,11,12])else .l []),by kernel_rfl,.inl ?_⟩;refine⟨0,⟨rfl,by decide⟩,?_⟩;refine⟨0,⟨rfl,by decide⟩,?_⟩;refine⟨_,⟨rfl,by decide⟩,?_⟩;refine⟨1,⟨rfl,by decide⟩,?_⟩;refine And.intro ?_ ?_
        ·refine cl [] [] (S) ?_;refine⟨[x],rfl,?_⟩;refine⟨_,_,rfl,rfl,(by simp only[ah,a1,a3];omega),?_⟩;refine⟨_,⟨rfl,by decide⟩,?_⟩;repeat'(refine I6 ?_)
         refine ag (i+1,_) [7] [.s 0,.s 1,.s 2,.s 3] ⟨⟨a,d F⟩,trivial⟩ (by simp only[];omega) ?_;repeat' first|exact trivial|exact rfl|refine And.intro ?_ ?_
        ·refine⟨[x],rfl,?_⟩;refine cl [] [] (S) ?_;refine⟨_,_,rfl,rfl,(by simp only[ah,a1,a3];omega),?_⟩;refine⟨_,⟨rfl,by decide⟩,?_⟩;repeat'(refine I6 ?_)
         refine ag (i+1,_) [7] [.s 0,.s 1,.s 2,.s 3] ⟨⟨a,d F⟩,trivial⟩ (by simp only[];omega) ?_;repeat' first|exact trivial|exact rfl|refine And.intro ?_ ?_
       ·repeat'(refine I6 ?_)
        refine ag (i+1,u) [] [.s 0,.s 1,.s 2,.s 3] ⟨⟨a,K F⟩,trivial⟩ (by simp only[];omega) ?_;repeat' first|exact trivial|exact rfl|refine And.intro ?_ ?_)
     ·have m:¬(i:Int)<(b8 L all).length:=m;repeat'(refine I6 ?_)
      refine ag (_+1,u) [] [.s 0,.s 1,.s 2] ⟨⟨Q,f.stop (by omega)⟩,trivial⟩ (by simp only[];omega) ?_;repeat' first|exact trivial|exact rfl|refine And.intro ?_ ?_)
  ·obtain rfl:r=4:=by have O:¬(r:Int)<4:=O;omega
   skip;refine ag t [] [.s 0,.s 1,.s 2] ⟨⟨D.inv,λh=>D.fin h⟩,trivial⟩ ?_ ?_
   ·have h1:=D.le;have U:=D.lt;simp only[y,if_true];split
    ·rename_i h3;have:=U h3;omega
    ·omega
   ·repeat' first|exact trivial|exact rfl|refine And.intro ?_ ?_
 ·have y:s.more=false:=y;have T:=P y;rw[<-T.bX g N (r:=0) (by decide),<-T.bX g N (r:=1) (by decide),<-T.bX g N (r:=2) (by decide),<-T.bX g N (r:=3) (by decide)];exact rx [] []
end Go.Nest
end
section
namespace Go.Nest
open Go Go.AM
noncomputable def lh(b:Nat->List Int)(bX:Nat->List Int)(q:Nat)(k:Int):Bool:=(c2 4).any λr:Nat=>decide ((q:Int)∈cJ b r)&&decide (k∈bX r)
def nU(p:Nat->Bool)(l:List Bool):List Bool:=l.mapIdx λj v=>v&&p j
noncomputable def jk(L:List Ob)(o:Nat->List Bool)(b r0:Nat->List Int):Nat->List Bool:=λq=>nU (λk=>lh b (gr L r0) q (k:Int)) (o q)
theorem O7{p:Nat->Bool}{l:List Bool}:(nU p l).length=l.length:=by unfold nU;rw[List.length_mapIdx]
theorem tC{b:Nat->List Int}(hb:gf b){r:Int}(h:bC r=true):(cJ b r).Nodup/\(∀x∈cJ b r,0<=x/\x<(4:Nat)):=by
 suffices∀n i out,5-i<=n->gE b r i out->(cJ b r).Nodup/\(∀x∈cJ b r,0<=x/\x<(4:Nat))from this 5 0 [r] (bk _) (gE.start h);intro n;induction n with
 |zero=>
  intro i out d a;have:=a.len;have:=a.le;omega
 |succ n ih=>
  intro i out d a;by_cases c:i<out.length
  ·exact ih (i+1) _ (by omega) (a.next hb c)
  ·rw[a.stop c];exact⟨a.nd,a.all⟩
theorem K0{b:Nat->List Int}(hb:gf b){r:Int}(h:bC r=true):(cJ b r).length<=4:=jh 4 (tC hb h).1 (tC hb h).2
structure KI(b bX:Nat->List Int)(r i:Nat)(k:Nat->List Int):Prop where
 len:∀q,q<4->(k q).length<=600*(4*r+i)
 mem:∀q,q<4->∀x,x∈k q↔(∃r',r'<r/\(q:Int)∈cJ b r'/\x∈bX r')\/((q:Int)∈(cJ b r).take i/\x∈bX r)
theorem KI.start{b bX:Nat->List Int}:KI b bX 0 0 λ_=>[]:=by
 refine⟨λq a=>a2 _,λq a x=>⟨λh=>(by cases h),λh=>?_⟩⟩;rcases h with⟨c,h,_⟩|⟨h,_⟩
 ·omega
 ·rw[b2]at h;cases h
theorem KI.step{b bX:Nat->List Int}{r i q:Nat}{k:Nat->List Int}(h:KI b bX r i k)(hi:i<(cJ b r).length)(hq:(cJ b r)[i]=(q:Int))(d:q<4)(hn:(bX r).length<=600):KI b bX r (i+1) (aA k q (k q++bX r)):=by
 refine⟨λj c=>?_,λj c x=>?_⟩
 ·by_cases e:j=q
  ·subst e;rw[iB,ah];have:=h.len j c;omega
  ·rw[kL e];have:=h.len j c;omega
 ·rw[List.take_succ_eq_append_getElem hi,hq,bh,bl];by_cases e:j=q
  ·subst e;rw[iB,bh,h.mem j c x];constructor
   ·rintro((h1|h1)|h1)
    ·exact .inl h1
    ·exact .inr ⟨.inl h1.1,h1.2⟩
    ·exact .inr ⟨.inr rfl,h1⟩
   ·rintro(h1|⟨h1|h1,a⟩)
    ·exact .inl (.inl h1)
    ·exact .inl (.inr ⟨h1,a⟩)
    ·exact .inr a
  ·rw[kL e,h.mem j c x];constructor
   ·rintro(h1|⟨h1,a⟩)
    ·exact .inl h1
    ·exact .inr ⟨.inl h1,a⟩
   ·rintro(h1|⟨h1|h1,a⟩)
    ·exact .inl h1
    ·exact .inr ⟨h1,a⟩
    ·exact absurd (by omega) e
theorem KI.next{b bX:Nat->List Int}{r i:Nat}{k:Nat->List Int}(h:KI b bX r i k)(hi:¬i<(cJ b r).length)(wL:i<=4):KI b bX (r+1) 0 k:=by
 refine⟨λq c=>?_,λq c x=>?_⟩
 ·have:=h.len q c;omega
 ·rw[h.mem q c x,b2,List.take_of_length_le (by omega)];constructor
  ·rintro(⟨d,h1,a⟩|h1)
   ·exact .inl ⟨d,by omega,a⟩
   ·exact .inl ⟨r,by omega,h1⟩
  ·rintro(⟨d,h1,a⟩|⟨h1,_⟩)
   ·rcases Nat.lt_succ_iff_lt_or_eq.1 h1 with h1|rfl
    ·exact .inl ⟨d,h1,a⟩
    ·exact .inr a
   ·cases h1
theorem KI.fin{b bX:Nat->List Int}{k:Nat->List Int}(h:KI b bX 4 0 k){q:Nat}(hq:q<4)(x:Int):dv (k q) x=lh b bX q x:=by
 rw[cf,fR,h.mem q hq x];unfold lh;rw[ce,b2];constructor
 ·rintro(⟨d,a,c,e⟩|⟨a,_⟩)
  ·exact⟨d,by simpa using a,by simpa using⟨c,e⟩⟩
  ·cases a
 ·rintro⟨d,a,c⟩;exact .inl ⟨d,by simpa using a,by simpa using c⟩
structure ju(p:Nat->Bool)(l x:List Bool)(k:Nat):Prop where
 len:x.length=l.length
 ati:∀j,x[j]? =if j<k then(l[j]?).map λv=>v&&p j else l[j]?
theorem ju.start{p:Nat->Bool}{l:List Bool}:ju p l l 0:=⟨rfl,λj=>by rw[if_neg (ch _)]⟩
theorem ju.get{p:Nat->Bool}{l x:List Bool}{k:Nat}(h:ju p l x k)(hk:k<l.length):x[k]? =some l[k]:=by
 rw[h.ati k,if_neg (cr _),a0 hk]
theorem ju.step{p:Nat->Bool}{l x:List Bool}{k:Nat}(h:ju p l x k)(hk:k<l.length):ju p l (x.set k (l[k]&&p k)) (k+1):=by
 refine⟨by rw[br];exact h.len,λj=>?_⟩;have b:=h.len;rw[cd];by_cases e:k=j
 ·subst e;rw[if_pos rfl,if_pos (by omega),if_pos (by omega),a0 hk];rfl
 ·rw[if_neg e,h.ati j];by_cases a:j<k
  ·rw[if_pos a,if_pos (by omega)]
  ·rw[if_neg a,if_neg (by omega)]
theorem ju.fin{p:Nat->Bool}{l x:List Bool}{k:Nat}(h:ju p l x k)(hk:¬k<l.length):x=nU p l:=by
 refine List.ext_getElem? λj=>?_;rw[h.ati j];unfold nU;rw[b4];split
 ·rfl
 ·rw[List.getElem?_eq_none (by omega)];rfl
def OI(L:List Ob)(o:Nat->List Bool)(b r0:Nat->List Int)(r:Nat)(x:Nat->List Bool):Prop:=∀q,q<4->x q=if q<r then jk L o b r0 q else o q
theorem OI.start{L:List Ob}{o:Nat->List Bool}{b r0:Nat->List Int}:OI L o b r0 0 o:=λq a=>by rw[if_neg (ch _)]
theorem OI.here{L:List Ob}{o:Nat->List Bool}{b r0:Nat->List Int}{r:Nat}{x:Nat->List Bool}(h:OI L o b r0 r x)(hr:r<4):x r=o r:=by rw[h r hr,if_neg (cr _)]
theorem OI.next{L:List Ob}{o:Nat->List Bool}{b r0:Nat->List Int}{r:Nat}{x:Nat->List Bool}(h:OI L o b r0 r x)(hr:r<4):OI L o b r0 (r+1) (aA x r (jk L o b r0 r)):=λq c=>by
 by_cases e:q=r
 ·subst e;rw[iB,if_pos (by omega)]
 ·rw[kL e,h q c];by_cases a:q<r
  ·rw[if_pos a,if_pos (by omega)]
  ·rw[if_neg a,if_neg (by omega)]
theorem OI.fin{L:List Ob}{o:Nat->List Bool}{b r0:Nat->List Int}{x:Nat->List Bool}(h:OI L o b r0 4 x){q:Nat}(hq:q<4):x q=jk L o b r0 q:=by rw[h q hq,if_pos hq]
theorem LZ{L:List Ob}{r0:Nat->List Int}{r:Nat}:(gr L r0 r).length<=L.length:=by
 unfold gr;rw[b0];exact cx (List.length_filter_le _ _) (by rw[List.length_range];exact bk _)
end Go.Nest
end
section
namespace Go.Nest
open Go Go.AM Go.Proofs
open Go.Proofs.YtpechfcbnoggfaaGreatDoor (tab tabOk)
set_option maxRecDepth 4000
def Nt(q a:Nat):List Rn:=(c2 18).map λi=>bif bj i (13+q)then .s a else .s i
theorem Db{i n:Nat}(h:(i:Int)<(n:Int)):i<n:=by omega
theorem O8(L:List Ob)(K:ak L)(o:Nat->List Bool)(b r0:Nat->List Int)(D:gf b)(ho:∀k,k<4->(o k).length<=1000000)(U:∀r,r<4->(r0 r).length<=100000):aa Tryz.prog 66 [.c (.ptr 0 0),.st [.bs 1 Int encI (r0 0),.bs 1 Int encI (r0 1),.bs 1 Int encI (r0 2),.bs 1 Int encI (r0 3)]] [.box [.ptr 1 0,.rw 3,.rw 4,.rw 5,.rw 6,.rw 7,.rw 8,.rw 9,.rw 10],.box [.rw 2],.row 6 Ob an L,.row 1 Bool ai (o 0),.row 1 Bool ai (o 1),.row 1 Bool ai (o 2),.row 1 Bool ai (o 3),.row 1 Int encI (b 0),.row 1 Int encI (b 1),.row 1 Int encI (b 2),.row 1 Int encI (b 3)] (Rt (.ao []) [.box [.ptr 1 0,.rw 3,.rw 4,.rw 5,.rw 6,.rw 7,.rw 8,.rw 9,.rw 10],.box [.rw 2],.row 6 Ob an L,.row 1 Bool ai ((jk L o b r0) 0),.row 1 Bool ai ((jk L o b r0) 1),.row 1 Bool ai ((jk L o b r0) 2),.row 1 Bool ai ((jk L o b r0) 3),.row 1 Int encI (b 0),.row 1 Int encI (b 1),.row 1 Int encI (b 2),.row 1 Int encI (b 3)]):=by
 have Z:=K.len;have p1:=LY L K o b r0 U;have H:∀r,(gr L r0 r).length<=600:=λr=>cx LZ K.len;have al:=λx (h:OI L o b r0 4 x) q hq=>OI.fin h (q:=q) hq;have ad:∀r x,OI L o b r0 r x=OI L o b r0 r x:=λ_ _=>rfl;have I:∀q,jk L o b r0 q=nU (λk=>lh b (gr L r0) q (k:Int)) (o q):=λq=>rfl;generalize S:gr L r0=bX at p1 H I;refine af (n:=75) (n0:=11) tabOk Tryz.call66 Tryz.func66 ?_;intro hb;refine cl [] [] (p1) ?_;refine lp (Nat×(Nat->List Int)) (λp=>⟨[(0,.c (.ptr 0 0)),(4,.c (.ptr 11 0)),(5,.c (.ptr 12 0)),(14,.c (.int .i64 p.1))],[.box [.ptr 1 0,.rw 3,.rw 4,.rw 5,.rw 6,.rw 7,.rw 8,.rw 9,.rw 10],.box [.rw 2],.row 6 Ob an L,.row 1 Bool ai (o 0),.row 1 Bool ai (o 1),.row 1 Bool ai (o 2),.row 1 Bool ai (o 3),.row 1 Int encI (b 0),.row 1 Int encI (b 1),.row 1 Int encI (b 2),.row 1 Int encI (b 3)]++[.box [.ls 1 Int encI (bX 0),.ls 1 Int encI (bX 1),.ls 1 Int encI (bX 2),.ls 1 Int encI (bX 3)],.box [.rw 13,.rw 14,.rw 15,.rw 16],.row 1 Int encI (p.2 0),.row 1 Int encI (p.2 1),.row 1 Int encI (p.2 2),.row 1 Int encI (p.2 3)]⟩) (λp=>(p.1<=4/\KI b bX p.1 0 p.2)/\True) (λp=>4-p.1) (0,λ_=>[]) [] [.s 0,.s 1,.s 2,.s 3,.s 4,.s 5,.s 6,.s 7,.s 8,.s 9,.s 10,.s 12,.s 13,.new,.new,.new,.new] ⟨⟨a2 _,KI.start⟩,trivial⟩ ?_ (λ⟨r,k⟩ f=>?_)
 ·repeat' first|exact trivial|exact rfl|refine And.intro ?_ ?_
 obtain⟨⟨W,f⟩,-⟩:=f;have f:KI b bX r 0 k:=f;refine dec (λm=>?_) (λm=>?_)
 ·have d:r<4:=by have m:(r:Int)<4:=m;omega
  have M:Qn r:=trivial;have E:r+1<=4:=d;have R:=tC D (r:=(r:Int)) (bW.2 ⟨r,d,rfl⟩);have ac:=K0 D (r:=(r:Int)) (bW.2 ⟨r,d,rfl⟩);have p2:=xg L o b D (r:Int) (bW.2 ⟨r,d,rfl⟩);have T:=H r
  have one:∀i k,KI b bX r i k->(i:Int)<(cJ b r).length->∃(_:i<(cJ b r).length) (p:Nat),p<4/\(cJ b r)[i]? =some (p:Int)/\KI b bX r (i+1) (aA k p (k p++bX r)):=λi k f s=>by
   have a:=Db s;have:=R.2 _ (a9 a);have e:(cJ b r)[i]=(((cJ b r)[i]).toNat:Int):=by omega
   exact⟨a,((cJ b r)[i]).toNat,by omega,by rw[a0 a,<-e],f.step a e (by omega) T⟩
  rcases four d with rfl|rfl|rfl|rfl<;>(
   refine cl [] [] (p2) ?_;refine pH M (Nat×(Nat->List Int)) (λr p=>⟨[(0,.c (.ptr 0 0)),(4,.c (.ptr 11 0)),(5,.c (.ptr 12 0)),(14,.c (.int .i64 r)),(6,.c (.int .i64 r)),(19,.c (.rw 17)),(20,.c (.int .i64 (cJ b r).length)),(21,.c (.int .i64 p.1))],[.box [.ptr 1 0,.rw 3,.rw 4,.rw 5,.rw 6,.rw 7,.rw 8,.rw 9,.rw 10],.box [.rw 2],.row 6 Ob an L,.row 1 Bool ai (o 0),.row 1 Bool ai (o 1),.row 1 Bool ai (o 2),.row 1 Bool ai (o 3),.row 1 Int encI (b 0),.row 1 Int encI (b 1),.row 1 Int encI (b 2),.row 1 Int encI (b 3)]++[.box [.ls 1 Int encI (bX 0),.ls 1 Int encI (bX 1),.ls 1 Int encI (bX 2),.ls 1 Int encI (bX 3)],.box [.rw 13,.rw 14,.rw 15,.rw 16],.row 1 Int encI (p.2 0),.row 1 Int encI (p.2 1),.row 1 Int encI (p.2 2),.row 1 Int encI (p.2 3)]++[.row 1 Int encI (cJ b r)]⟩) (λr p=>(p.1<=(cJ b r).length/\KI b bX r p.1 p.2)/\True) (λp=>4-p.1) (0,k) [] [.s 0,.s 1,.s 2,.s 3,.s 4,.s 5,.s 6,.s 7,.s 8,.s 9,.s 10,.s 11,.s 12,.s 13,.s 14,.s 15,.s 16,.s 17] ⟨⟨a2 _,f⟩,trivial⟩ ?_ (λ⟨i,k⟩ f=>?_)
   ·repeat' first|exact trivial|exact rfl|refine And.intro ?_ ?_
   obtain⟨⟨N,f⟩,-⟩:=f;dsimp only at N f;refine dec (λs=>?_) (λs=>?_)
   ·obtain⟨a,p,hp,O,g⟩:=one i k f s;have Q:=f.len p hp;refine⟨i,⟨rfl,a⟩,?_⟩;refine⟨(p:Int),O,?_⟩;have hP:Qn p:=trivial
    rcases four hp with rfl|rfl|rfl|rfl<;>(
     refine⟨false,.grow,(.l [0,1,2,3,4,5,6,7,8,9]),by kernel_rfl,.inl ?_⟩;refine⟨_,⟨rfl,by decide⟩,?_⟩;refine⟨_,⟨rfl,d⟩,?_⟩;refine⟨_,_,rfl,rfl,(by simp only[List.length_append,List.length_cons,List.length_nil];omega),?_⟩;refine⟨_,⟨rfl,by decide⟩,?_⟩;repeat'(refine I6 ?_)
     refine sd hP (i+1,_) [] (λp=>Nt p 18) ⟨⟨a,g⟩,trivial⟩ (by simp only[];omega) ?_;repeat' first|exact trivial|exact rfl|refine And.intro ?_ ?_)
   ·repeat'(refine I6 ?_)
    refine ag (_+1,k) [] [.s 0,.s 1,.s 2,.s 3,.s 4,.s 5,.s 6,.s 7,.s 8,.s 9,.s 10,.s 11,.s 12,.s 13,.s 14,.s 15,.s 16] ⟨⟨E,f.next (λh=>s (by omega)) (by omega)⟩,trivial⟩ (by simp only[];omega) ?_;repeat' first|exact trivial|exact rfl|refine And.intro ?_ ?_)
 ·obtain rfl:r=4:=by have m:¬(r:Int)<4:=m;omega
  refine lp (Nat×(Nat->List Bool)) (λp=>⟨[(0,.c (.ptr 0 0)),(5,.c (.ptr 11 0)),(36,.c (.int .i64 p.1))],[.box [.ptr 1 0,.rw 3,.rw 4,.rw 5,.rw 6,.rw 7,.rw 8,.rw 9,.rw 10],.box [.rw 2],.row 6 Ob an L,.row 1 Bool ai (p.2 0),.row 1 Bool ai (p.2 1),.row 1 Bool ai (p.2 2),.row 1 Bool ai (p.2 3),.row 1 Int encI (b 0),.row 1 Int encI (b 1),.row 1 Int encI (b 2),.row 1 Int encI (b 3)]++[.box [.ls 1 Int encI (k 0),.ls 1 Int encI (k 1),.ls 1 Int encI (k 2),.ls 1 Int encI (k 3)]]⟩) (λp=>(p.1<=4/\OI L o b r0 p.1 p.2)/\True) (λp=>4-p.1) (0,o) [13,14,15,16] [.s 0,.s 1,.s 2,.s 3,.s 4,.s 5,.s 6,.s 7,.s 8,.s 9,.s 10,.s 12] ⟨⟨a2 _,OI.start⟩,trivial⟩ ?_ (λ⟨r,x⟩ t=>?_)
  ·repeat' first|exact trivial|exact rfl|refine And.intro ?_ ?_
  obtain⟨⟨W,t⟩,-⟩:=t;have t:OI L o b r0 r x:=t;refine dec (λm=>?_) (λm=>?_)
  ·have d:r<4:=by have m:(r:Int)<4:=m;omega
   have M:Qn r:=trivial;have E:r+1<=4:=d;have hq:=ho r d;have Y:=t.here d;have Q:=f.len r d;have p3:=λi:Nat=>gO (k r) (i:Int);have P:=λz=>f.fin d z;simp only[P]at p3
   have F:∀i y,ju (λj=>lh b bX r (j:Int)) (o r) y i->¬(i:Int)<(o r).length->OI L o b r0 (r+1) (aA x r y):=λi y u s=>by
    rw[u.fin (λh=>s (by omega)),<-I r];exact t.next d
   rcases four d with rfl|rfl|rfl|rfl<;>(
    refine⟨_,⟨rfl,d⟩,?_⟩;refine pH M (Nat×List Bool) (λq p=>⟨[(0,.c (.ptr 0 0)),(5,.c (.ptr 11 0)),(36,.c (.int .i64 q)),(9,.c (.int .i64 q)),(45,.c (.int .i64 (o q).length)),(46,.c (.int .i64 p.1))],[.box [.ptr 1 0,.rw 3,.rw 4,.rw 5,.rw 6,.rw 7,.rw 8,.rw 9,.rw 10],.box [.rw 2],.row 6 Ob an L,.row 1 Bool ai ((aA x q p.2) 0),.row 1 Bool ai ((aA x q p.2) 1),.row 1 Bool ai ((aA x q p.2) 2),.row 1 Bool ai ((aA x q p.2) 3),.row 1 Int encI (b 0),.row 1 Int encI (b 1),.row 1 Int encI (b 2),.row 1 Int encI (b 3)]++[.box [.ls 1 Int encI (k 0),.ls 1 Int encI (k 1),.ls 1 Int encI (k 2),.ls 1 Int encI (k 3)]]⟩) (λq p=>(p.1<=(o q).length/\ju (λj=>lh b bX q (j:Int)) (o q) p.2 p.1)/\True) (λp=>1000000-p.1) (0,_) [] [.s 0,.s 1,.s 2,.s 3,.s 4,.s 5,.s 6,.s 7,.s 8,.s 9,.s 10,.s 11] ⟨⟨a2 _,ju.start⟩,trivial⟩ ?_ (λ⟨i,y⟩ u=>?_)
    ·rw[<-Y];repeat' first|exact trivial|exact rfl|refine And.intro ?_ ?_
    obtain⟨⟨N,u⟩,-⟩:=u;dsimp only at N u;refine dec (λs=>?_) (λs=>?_)
    ·have a:=Db s;have w:=u.get a;have g:=u.step a;have am:=u.len;obtain⟨v,hv⟩:∃v,v=(o _)[i]:=⟨_,rfl⟩;rw[<-hv]at w g;refine⟨false,.grow,(.l [0,1,2,3,4,5,6,7,8,9,10,11,12,13,14,15,16,17,18,19,20,21,22,23,24]),by kernel_rfl,.inl ?_⟩;refine⟨_,⟨rfl,d⟩,?_⟩;refine⟨_,⟨rfl,d⟩,?_⟩;refine⟨i,⟨rfl,(show i<y.length by omega)⟩,?_⟩;refine⟨v,w,?_⟩;refine aS (λJ=>?_) (λJ=>?_)
     ·rw[J,Bool.true_and]at g;refine⟨_,⟨rfl,d⟩,?_⟩;refine cl [] [] (p3 i) ?_;refine⟨i,⟨rfl,(show i<y.length by omega)⟩,?_⟩;refine⟨_,_,w,⟨Nat.le_refl 1,rfl⟩,?_⟩;repeat'(refine I6 ?_)
      refine ag (i+1,_) [] [.s 0,.s 1,.s 2,.s 3,.s 4,.s 5,.s 6,.s 7,.s 8,.s 9,.s 10,.s 11] ⟨⟨a,g⟩,trivial⟩ (by simp only[];omega) ?_;repeat' first|exact trivial|exact rfl|refine And.intro ?_ ?_
     ·rw[J,Bool.false_and]at g;refine⟨i,⟨rfl,(show i<y.length by omega)⟩,?_⟩;refine⟨_,_,w,⟨Nat.le_refl 1,rfl⟩,?_⟩;repeat'(refine I6 ?_)
      refine ag (i+1,_) [] [.s 0,.s 1,.s 2,.s 3,.s 4,.s 5,.s 6,.s 7,.s 8,.s 9,.s 10,.s 11] ⟨⟨a,g⟩,trivial⟩ (by simp only[];omega) ?_;repeat' first|exact trivial|exact rfl|refine And.intro ?_ ?_
    ·repeat'(refine I6 ?_)
     refine ag (_+1,_) [] [.s 0,.s 1,.s 2,.s 3,.s 4,.s 5,.s 6,.s 7,.s 8,.s 9,.s 10,.s 11] ⟨⟨E,F i y u s⟩,trivial⟩ (by simp only[];omega) ?_;repeat' first|exact trivial|exact rfl|refine And.intro ?_ ?_)
  ·obtain rfl:r=4:=by have m:¬(r:Int)<4:=m;omega
   rw[<-t.fin (q:=0) (by decide),<-t.fin (q:=1) (by decide),<-t.fin (q:=2) (by decide),<-t.fin (q:=3) (by decide)];exact rx [] [.s 0,.s 1,.s 2,.s 3,.s 4,.s 5,.s 6,.s 7,.s 8,.s 9,.s 10]
def dT(b:Nat->List Int)(r q:Int):Int:=if bC r=false\/bC q=false then 1 else if dv (cJ b q) r=true then 10 else if dv (b r.toNat) q=true then 11 else 0
def cL(b:Nat->List Int)(r q:Int):Nat->List Int:=if dT b r q≠0 then b else aA b r.toNat (b r.toNat++[q])
structure jX(b:Nat->List Int):Prop where
 ok:gf b
 nd:∀i,i<4->(b i).Nodup
theorem jX.nil:jX λ_=>[]:=⟨λi h=>⟨a2 _,λq a=>by cases a⟩,λi h=>List.nodup_nil⟩
theorem jX.ef{b:Nat->List Int}(h:jX b)(r q:Int):jX (cL b r q):=by
 unfold cL;split
 ·exact h
 ·rename_i a;have a:dT b r q=0:=c3.1 a;unfold dT at a;split at a
  ·cases a
  rename_i m;split at a
  ·cases a
  split at a
  ·cases a
  rename_i n;have v:bC r=true:=by cases e:bC r with|true=>rfl|false=>exact absurd (.inl e) m
  have u:bC q=true:=by cases e:bC q with|true=>rfl|false=>exact absurd (.inr e) m
  obtain⟨k,o,rfl⟩:=bW.1 v;obtain⟨j,w,rfl⟩:=bW.1 u;rw[Int.toNat_natCast]at n⊢;have l:(j:Int)∉b k:=λt=>n (fR.2 t)
  have d:(b k++[(j:Int)]).Nodup:=by
   rw[List.nodup_append];exact⟨h.nd k o,by simp,λx hx y s=>by rw[bl]at s;subst s;exactλe=>l (e▸hx)⟩
  have c:∀x∈b k++[(j:Int)],0<=x/\x<(4:Nat):=λx hx=>by
   rcases bh.1 hx with hx|hx
   ·exact(h.ok k o).2 x hx
   ·rw[bl]at hx;subst hx;omega
  have p:∀i,aA b k (b k++[(j:Int)]) i=if i=k then b k++[(j:Int)]else b i:=λi=>by
   unfold aA;by_cases e:i=k
   ·subst e;rw[Nat.beq_refl,if_pos rfl];rfl
   ·rw[if_neg e]
    have:bj i k=false:=by
     cases f:bj i k with
     |false=>rfl
     |true=>exact absurd (Nat.eq_of_beq_eq_true f) e
    rw[this];rfl
  refine⟨λi g=>?_,λi g=>?_⟩
  ·rw[p];split
   ·exact⟨jh 4 d c,c⟩
   ·exact h.ok i g
  ·rw[p];split
   ·exact d
   ·exact h.nd i g
theorem G6(L:List Ob)(o:Nat->List Bool)(b:Nat->List Int)(d:gf b)(r q:Int):aa Tryz.prog 64 [.c (.ptr 0 0),.c (.int .i64 r),.c (.int .i64 q)] [.box [.ptr 1 0,.rw 3,.rw 4,.rw 5,.rw 6,.rw 7,.rw 8,.rw 9,.rw 10],.box [.rw 2],.row 6 Ob an L,.row 1 Bool ai (o 0),.row 1 Bool ai (o 1),.row 1 Bool ai (o 2),.row 1 Bool ai (o 3),.row 1 Int encI (b 0),.row 1 Int encI (b 1),.row 1 Int encI (b 2),.row 1 Int encI (b 3)] (Rt (.c (.int .i64 (dT b r q))) [.box [.ptr 1 0,.rw 3,.rw 4,.rw 5,.rw 6,.rw 11,.rw 12,.rw 13,.rw 14],.box [.rw 2],.row 6 Ob an L,.row 1 Bool ai (o 0),.row 1 Bool ai (o 1),.row 1 Bool ai (o 2),.row 1 Bool ai (o 3),.dead,.dead,.dead,.dead,.row 1 Int encI ((cL b r q) 0),.row 1 Int encI ((cL b r q) 1),.row 1 Int encI ((cL b r q) 2),.row 1 Int encI ((cL b r q) 3)]):=by
 have m:=oJ r;have p:=oJ q;refine af (n:=45) (n0:=11) tabOk Tryz.call64 Tryz.func64 ?_;intro hb;cases h:bC r with
 |false=>
  rw[h]at m;have e:dT b r q=1:=by unfold dT;rw[h];rfl
  rw[show cL b r q=b by unfold cL;rw[e];rfl,e];refine cl [] [] (m) ?_;exact rx [] [.s 0,.s 1,.s 2,.s 3,.s 4,.s 5,.s 6,.s 7,.s 8,.s 9,.s 10,.s 7,.s 8,.s 9,.s 10]
 |true=>
  rw[h]at m;cases j:bC q with
  |false=>
   rw[j]at p;have e:dT b r q=1:=by unfold dT;rw[h,j];rfl
   rw[show cL b r q=b by unfold cL;rw[e];rfl,e];refine cl [] [] (m) ?_;refine cl [] [] (p) ?_;exact rx [] [.s 0,.s 1,.s 2,.s 3,.s 4,.s 5,.s 6,.s 7,.s 8,.s 9,.s 10,.s 7,.s 8,.s 9,.s 10]
  |true=>
   rw[j]at p;have s:dT b r q=if dv (cJ b q) r=true then 10 else if dv (b r.toNat) q=true then 11 else 0:=by unfold dT;rw[h,j];rfl
   refine cl [] [] (m) ?_;refine cl [] [] (p) ?_;refine cl [] [] (xg L o b d q j) ?_;refine cl [] [] (gO (cJ b q) r) ?_;refine aS (λi=>?_) (λi=>?_)
   ·have e:dT b r q=10:=by rw[s];exact if_pos i
    rw[show cL b r q=b by unfold cL;rw[e];rfl,e];exact rx [] [.s 0,.s 1,.s 2,.s 3,.s 4,.s 5,.s 6,.s 7,.s 8,.s 9,.s 10,.s 7,.s 8,.s 9,.s 10]
   ·have i:dv (cJ b q) r=false:=i;have f:dT b r q=if dv (b r.toNat) q=true then 11 else 0:=by rw[s];exact if_neg (by rw[i];decide)
    obtain⟨k,t,rfl⟩:=bW.1 h;rcases four t with rfl|rfl|rfl|rfl
    ·refine⟨0,⟨rfl,by decide⟩,?_⟩;refine cl [] [] (gO (b 0) q) ?_;refine aS (λa=>?_) (λa=>?_)
     ·have e:dT b (0:Nat) q=11:=by rw[f];exact if_pos a
      rw[show cL b (0:Nat) q=b by unfold cL;rw[e];rfl,e];exact rx [] [.s 0,.s 1,.s 2,.s 3,.s 4,.s 5,.s 6,.s 7,.s 8,.s 9,.s 10,.s 7,.s 8,.s 9,.s 10]
     ·have a:dv (b 0) q=false:=a;have g:=(d 0 (by decide)).1;have e:dT b (0:Nat) q=0:=by rw[f];exact if_neg (by show¬dv (b 0) q=true;rw[a];decide)
      rw[show cL b (0:Nat) q=aA b 0 (b 0++[q])by unfold cL;rw[e];rfl,e];refine⟨false,.grow,(.l [0,1,2,3,4,5,6,7,8,11,12,9,10,13,14]),by kernel_rfl,.inl ?_⟩;refine⟨0,⟨rfl,by decide⟩,?_⟩;refine⟨[q],rfl,?_⟩;refine⟨_,_,rfl,rfl,(by simp only[ah,a1,a3];omega),?_⟩;refine⟨0,⟨rfl,by decide⟩,?_⟩;exact rx [] [.s 0,.s 1,.s 2,.s 3,.s 4,.s 5,.s 6,.s 7,.s 8,.s 9,.s 10,.s 13,.s 8,.s 9,.s 10]
    ·refine⟨1,⟨rfl,by decide⟩,?_⟩;refine cl [] [] (gO (b 1) q) ?_;refine aS (λa=>?_) (λa=>?_)
     ·have e:dT b (1:Nat) q=11:=by rw[f];exact if_pos a
      rw[show cL b (1:Nat) q=b by unfold cL;rw[e];rfl,e];exact rx [] [.s 0,.s 1,.s 2,.s 3,.s 4,.s 5,.s 6,.s 7,.s 8,.s 9,.s 10,.s 7,.s 8,.s 9,.s 10]
     ·have a:dv (b 1) q=false:=a;have g:=(d 1 (by decide)).1;have e:dT b (1:Nat) q=0:=by rw[f];exact if_neg (by show¬dv (b 1) q=true;rw[a];decide)
      rw[show cL b (1:Nat) q=aA b 1 (b 1++[q])by unfold cL;rw[e];rfl,e];refine⟨false,.grow,(.l [0,1,2,3,4,5,6,7,8,11,12,9,10,13,14]),by kernel_rfl,.inl ?_⟩;refine⟨1,⟨rfl,by decide⟩,?_⟩;refine⟨[q],rfl,?_⟩;refine⟨_,_,rfl,rfl,(by simp only[ah,a1,a3];omega),?_⟩;refine⟨1,⟨rfl,by decide⟩,?_⟩;exact rx [] [.s 0,.s 1,.s 2,.s 3,.s 4,.s 5,.s 6,.s 7,.s 8,.s 9,.s 10,.s 7,.s 13,.s 9,.s 10]
    ·refine⟨2,⟨rfl,by decide⟩,?_⟩;refine cl [] [] (gO (b 2) q) ?_;refine aS (λa=>?_) (λa=>?_)
     ·have e:dT b (2:Nat) q=11:=by rw[f];exact if_pos a
      rw[show cL b (2:Nat) q=b by unfold cL;rw[e];rfl,e];exact rx [] [.s 0,.s 1,.s 2,.s 3,.s 4,.s 5,.s 6,.s 7,.s 8,.s 9,.s 10,.s 7,.s 8,.s 9,.s 10]
     ·have a:dv (b 2) q=false:=a;have g:=(d 2 (by decide)).1;have e:dT b (2:Nat) q=0:=by rw[f];exact if_neg (by show¬dv (b 2) q=true;rw[a];decide)
      rw[show cL b (2:Nat) q=aA b 2 (b 2++[q])by unfold cL;rw[e];rfl,e];refine⟨false,.grow,(.l [0,1,2,3,4,5,6,7,8,11,12,9,10,13,14]),by kernel_rfl,.inl ?_⟩;refine⟨2,⟨rfl,by decide⟩,?_⟩;refine⟨[q],rfl,?_⟩;refine⟨_,_,rfl,rfl,(by simp only[ah,a1,a3];omega),?_⟩;refine⟨2,⟨rfl,by decide⟩,?_⟩;exact rx [] [.s 0,.s 1,.s 2,.s 3,.s 4,.s 5,.s 6,.s 7,.s 8,.s 9,.s 10,.s 7,.s 8,.s 13,.s 10]
    ·refine⟨3,⟨rfl,by decide⟩,?_⟩;refine cl [] [] (gO (b 3) q) ?_;refine aS (λa=>?_) (λa=>?_)
     ·have e:dT b (3:Nat) q=11:=by rw[f];exact if_pos a
      rw[show cL b (3:Nat) q=b by unfold cL;rw[e];rfl,e];exact rx [] [.s 0,.s 1,.s 2,.s 3,.s 4,.s 5,.s 6,.s 7,.s 8,.s 9,.s 10,.s 7,.s 8,.s 9,.s 10]
     ·have a:dv (b 3) q=false:=a;have g:=(d 3 (by decide)).1;have e:dT b (3:Nat) q=0:=by rw[f];exact if_neg (by show¬dv (b 3) q=true;rw[a];decide)
      rw[show cL b (3:Nat) q=aA b 3 (b 3++[q])by unfold cL;rw[e];rfl,e];refine⟨false,.grow,(.l [0,1,2,3,4,5,6,7,8,11,12,9,10,13,14]),by kernel_rfl,.inl ?_⟩;refine⟨3,⟨rfl,by decide⟩,?_⟩;refine⟨[q],rfl,?_⟩;refine⟨_,_,rfl,rfl,(by simp only[ah,a1,a3];omega),?_⟩;refine⟨3,⟨rfl,by decide⟩,?_⟩;exact rx [] [.s 0,.s 1,.s 2,.s 3,.s 4,.s 5,.s 6,.s 7,.s 8,.s 9,.s 10,.s 7,.s 8,.s 9,.s 13]
noncomputable def pG(L:List Ob)(d:Dp)(q id:Int):Bool:=((bc L [id]).any λk=> !bt d q k)||decide ((bc L [id]).length=0)
noncomputable def fO(L:List Ob)(d:Dp)(r q id:Int):Int:=if bC r=false\/bC q=false then 1 else if pG L d q id=true then 14 else dd L r [id]
noncomputable def di(L:List Ob)(o:Nat->List Bool)(b:Nat->List Int)(r q id:Int):Nat->List Bool:=if bC r=false\/bC q=false then o else if pG L ⟨o,b⟩ q id=true then o else dS L o b r [id]
theorem I9(L:List Ob)(o:Nat->List Bool)(b:Nat->List Int)(a:gf b)(q x:Int):aa Tryz.prog 217 [.c (.int .i64 x),.c (.bp [.bp [.bp [.bs 6 Ob an L],.bs 1 Bool ai (o 0),.bs 1 Bool ai (o 1),.bs 1 Bool ai (o 2),.bs 1 Bool ai (o 3),.bs 1 Int encI (b 0),.bs 1 Int encI (b 1),.bs 1 Int encI (b 2),.bs 1 Int encI (b 3)]]),.c (.bp [.int .i64 q])] [] (Rt (.c (.bool (!bt ⟨o,b⟩ q x))) []):=by
 refine af (n:=10) (n0:=0) tabOk Tryz.call217 Tryz.func217 ?_;intro hb;refine cl [] [] (oh L o b a q x) ?_;exact aL rfl
theorem Jb(L:List Ob)(v:ak L)(o:Nat->List Bool)(b:Nat->List Int)(m:gf b)(ho:∀k,k<4->(o k).length<=1000000)(r q id:Int):aa Tryz.prog 133 [.c (.ptr 0 0),.c (.int .i64 r),.c (.int .i64 q),.c (.int .i64 id)] [.box [.ptr 1 0,.rw 3,.rw 4,.rw 5,.rw 6,.rw 7,.rw 8,.rw 9,.rw 10],.box [.rw 2],.row 6 Ob an L,.row 1 Bool ai (o 0),.row 1 Bool ai (o 1),.row 1 Bool ai (o 2),.row 1 Bool ai (o 3),.row 1 Int encI (b 0),.row 1 Int encI (b 1),.row 1 Int encI (b 2),.row 1 Int encI (b 3)] (Rt (.c (.int .i64 (fO L ⟨o,b⟩ r q id))) [.box [.ptr 1 0,.rw 11,.rw 12,.rw 13,.rw 14,.rw 7,.rw 8,.rw 9,.rw 10],.box [.rw 2],.row 6 Ob an L,.dead,.dead,.dead,.dead,.row 1 Int encI (b 0),.row 1 Int encI (b 1),.row 1 Int encI (b 2),.row 1 Int encI (b 3),.row 1 Bool ai ((di L o b r q id) 0),.row 1 Bool ai ((di L o b r q id) 1),.row 1 Bool ai ((di L o b r q id) 2),.row 1 Bool ai ((di L o b r q id) 3)]):=by
 have p:=oJ r;have s:=oJ q;refine af (n:=44) (n0:=11) tabOk Tryz.call133 Tryz.func133 ?_;intro hb;cases e:bC r with
 |false=>
  rw[e]at p;rw[show fO L ⟨o,b⟩ r q id=1 by unfold fO;rw[e];rfl,show di L o b r q id=o by unfold di;rw[e];rfl];refine cl [] [] (p) ?_;exact rx [] [.s 0,.s 1,.s 2,.s 3,.s 4,.s 5,.s 6,.s 7,.s 8,.s 9,.s 10,.s 3,.s 4,.s 5,.s 6]
 |true=>
  rw[e]at p;cases i:bC q with
  |false=>
   rw[i]at s;rw[show fO L ⟨o,b⟩ r q id=1 by unfold fO;rw[e,i];rfl,show di L o b r q id=o by unfold di;rw[e,i];rfl];refine cl [] [] (p) ?_;refine cl [] [] (s) ?_;exact rx [] [.s 0,.s 1,.s 2,.s 3,.s 4,.s 5,.s 6,.s 7,.s 8,.s 9,.s 10,.s 3,.s 4,.s 5,.s 6]
  |true=>
   rw[i]at s;have f:fO L ⟨o,b⟩ r q id=if pG L ⟨o,b⟩ q id=true then 14 else dd L r [id]:=by unfold fO;rw[e,i];rfl
   have g:di L o b r q id=if pG L ⟨o,b⟩ q id=true then o else dS L o b r [id]:=by unfold di;rw[e,i];rfl
   have u:=oI L v [id] (by simp);have w:=u4 L v o b m ho r [id] (by simp);have t:=λl=>vU 217 L o b q (λx=> !bt ⟨o,b⟩ q x) (I9 L o b m q) l;have d:pG L ⟨o,b⟩ q id=(((bc L [id]).any λk=> !bt ⟨o,b⟩ q k)||decide ((bc L [id]).length=0)):=rfl;generalize bc L [id]=rl at u d;have t:=t rl;generalize (rl.any λk=> !bt ⟨o,b⟩ q k)=a at t d;generalize pG L ⟨o,b⟩ q id=y at d f g;generalize fO L ⟨o,b⟩ r q id=C at*;generalize di L o b r q id=O at*;refine cl [] [] (p) ?_;refine cl [] [] (s) ?_;refine⟨[id],rfl,?_⟩;refine cl [] [] (u) ?_;refine cl [] [] (t) ?_;refine aS (λh=>?_) (λh=>?_)
   ·have h:a=true:=h;rw[h]at d;rw[d]at f g;obtain rfl:C=14:=f;obtain rfl:O=o:=g;exact rx [] [.s 0,.s 1,.s 2,.s 3,.s 4,.s 5,.s 6,.s 7,.s 8,.s 9,.s 10,.s 3,.s 4,.s 5,.s 6]
   ·have h:a=false:=h;rw[h,cq]at d;refine⟨[id],rfl,?_⟩;refine cl [] [] (u) ?_;refine dec (λj=>?_) (λj=>?_)
    ·have j:(rl.length:Int)=0:=j;rw[decide_eq_true (by omega)]at d;rw[d]at f g;obtain rfl:C=14:=f;obtain rfl:O=o:=g;exact rx [] [.s 0,.s 1,.s 2,.s 3,.s 4,.s 5,.s 6,.s 7,.s 8,.s 9,.s 10,.s 3,.s 4,.s 5,.s 6]
    ·have j:¬(rl.length:Int)=0:=j;rw[decide_eq_false (by omega)]at d;rw[d]at f g;obtain rfl:C=dd L r [id]:=f;obtain rfl:O=dS L o b r [id]:=g;refine⟨[id],rfl,?_⟩;refine cl [] [0,1,2,3,4,5,6,7,8,9,10] (w) ?_;exact rx [] [.s 0,.s 1,.s 2,.s 3,.s 4,.s 5,.s 6,.s 7,.s 8,.s 9,.s 10,.s 18,.s 19,.s 20,.s 21]
end Go.Nest
end
section
namespace Go.Nest
open Go Go.AM
set_option maxRecDepth 10000
def fH(f:Int->Int->List UInt8->List Fi->List Fi×Int)(pre:List UInt8):List Fi->List Fi->List Fi×Int
 |[],out=>(out,0)
 |x::l,out=>
  if x.mode=3 then
   if(f x.ax x.id ((pre++x.path)++[47]) out).2=0 then fH f pre l (f x.ax x.id ((pre++x.path)++[47]) out).1 else f x.ax x.id ((pre++x.path)++[47]) out
  else if out.length=60 then(out,5)else fH f pre l (out++[⟨pre++x.path,x.mode,x.id,x.ax⟩])
noncomputable def nr(L:List Ob)(has:Int->Int->Bool)(r id:Int):Bool:= !decide (kindOf L id=3)||(!has r id||(bc L [(aj L id).tree]).any λk=> !has r k)
noncomputable def cS(L:List Ob)(has:Int->Int->Bool):Nat->Int->Int->List UInt8->List Fi->List Fi×Int
 |0,_,_,_,out=>(out,3)
 |n+1,r,id,pre,out=>
  if nr L has r id=true then(out,14)
  else if(bq L (aj L id).tree).2=0 then fH (cS L has n) pre (bq L (aj L id).tree).1 out else(out,(bq L (aj L id).tree).2)
noncomputable def dZ(L:List Ob)(has:Int->Int->Bool)(r id:Int):List Fi×Int:=
 if(cS L has 6 r id [] []).2=0 then
  if ez none (aH (cS L has 6 r id [] []).1)=0 then(aH (cS L has 6 r id [] []).1,0)else([],ez none (aH (cS L has 6 r id [] []).1))
 else([],(cS L has 6 r id [] []).2)
structure gg(k:Nat)(l:List Fi):Prop where
 len:l.length<=60
 path:∀f∈l,f.path.length<=k
theorem gg.snoc{k:Nat}{l:List Fi}(h:gg k l)(hl:¬l.length=60){f:Fi}(a:f.path.length<=k):gg k (l++[f]):=by
 have:=h.len;refine⟨by rw[ah,bb];omega,λg hg=>?_⟩;rcases bh.1 hg with hg|hg
 ·exact h.path g hg
 ·rw[bl]at hg;subst hg;exact a
theorem yI{f:Int->Int->List UInt8->List Fi->List Fi×Int}{pre:List UInt8}{k:Nat}(b:∀r id p out,p.length<=pre.length+4001->gg k out->gg k (f r id p out).1)(hk:pre.length+4001<=k):∀{l out:List Fi},(∀x∈l,x.path.length<=4000)->gg k out->gg k (fH f pre l out).1
 |[],out,_,h=>h
 |x::l,out,d,h=>by
  have i:=d x (by simp);have a:∀x∈l,x.path.length<=4000:=λy g=>d y (be _ g);unfold fH;have c:=b x.ax x.id ((pre++x.path)++[47]) out (by simp only[ah,bb];omega) h;split
  ·split
   ·exact yI b hk a c
   ·exact c
  ·split
   ·exact h
   ·rename_i e;exact yI b hk a (h.snoc e (by simp only[ah];omega))
theorem Fh{L:List Ob}(c:ak L){has:Int->Int->Bool}{k:Nat}:∀{n:Nat} {r id:Int} {pre:List UInt8} {out:List Fi},pre.length+4001*n<=k->gg k out->gg k (cS L has n r id pre out).1:=by
 intro n;induction n with
 |zero=>intro r id pre out a h;exact h
 |succ n ih=>
  intro r id pre out a h;unfold cS;split
  ·exact h
  ·split
   ·refine yI (λr id p out d b=>ih ?_ b) ?_ (Bp c _).2 h
    ·rw[cy]at a;omega
    ·rw[cy]at a;omega
   ·exact h
theorem J3{k:Nat}{l:List Fi}(h:gg k l):gg k (aH l):=
 ⟨by rw[iY];exact h.len,λf a=>h.path f ((fS l).mem_iff.1 a)⟩
end Go.Nest
end
section
namespace Go.Nest
open Go Go.AM Go.Proofs
open Go.Proofs.YtpechfcbnoggfaaGreatDoor (tab tabOk)
set_option maxRecDepth 4000
theorem PB(L:List Ob)(o:Nat->List Bool)(b:Nat->List Int)(a:gf b)(q x:Int):aa Tryz.prog 171 [.c (.int .i64 x),.c (.bp [.bp [.bp [.bs 6 Ob an L],.bs 1 Bool ai (o 0),.bs 1 Bool ai (o 1),.bs 1 Bool ai (o 2),.bs 1 Bool ai (o 3),.bs 1 Int encI (b 0),.bs 1 Int encI (b 1),.bs 1 Int encI (b 2),.bs 1 Int encI (b 3)]]),.c (.bp [.int .i64 q])] [] (Rt (.c (.bool (!bt ⟨o,b⟩ q x))) []):=by
 refine af (n:=10) (n0:=0) tabOk Tryz.call171 Tryz.func171 ?_;intro hb;refine cl [] [] (oh L o b a q x) ?_;exact aL rfl
theorem PD(L:List Ob)(D:ak L)(o:Nat->List Bool)(b:Nat->List Int)(I:gf b):∀(n:Nat) (a r id:Int) (pre:List UInt8) (out:List Fi),a+n=6->pre.length+4001*n<=40000->gg 40000 out->aa Tryz.prog 99 [.c (.bp [.bp [.bs 6 Ob an L],.bs 1 Bool ai (o 0),.bs 1 Bool ai (o 1),.bs 1 Bool ai (o 2),.bs 1 Bool ai (o 3),.bs 1 Int encI (b 0),.bs 1 Int encI (b 1),.bs 1 Int encI (b 2),.bs 1 Int encI (b 3)]),.c (.int .i64 r),.c (.int .i64 id),.c (.str pre),.c (.int .i64 a),.c (.ptr 0 0)] [.box [.rw 1],.row 4 Fi aq out] (Rt (.c (.int .i64 (cS L (bt ⟨o,b⟩) n r id pre out).2)) [.box [.rw 2],.dead,.row 4 Fi aq (cS L (bt ⟨o,b⟩) n r id pre out).1]):=by
 intro n;induction n with
 |zero=>
  intro a r id pre out Y hp Z;obtain rfl:a=6:=by simpa using Y
  refine af (n:=112) (n0:=2) tabOk Tryz.call99 Tryz.func99 ?_;intro hb;unfold cS;refine cl [] [] (ft L D id) ?_;(conv=>whnf);exact rx [] [.s 0,.s 1,.s 1]
 |succ n ih=>
  intro a r id pre out Y hp Z;have e:cS L (bt ⟨o,b⟩) (n+1) r id pre out=if nr L (bt ⟨o,b⟩) r id=true then(out,14)else if(bq L (aj L id).tree).2=0 then fH (cS L (bt ⟨o,b⟩) n) pre (bq L (aj L id).tree).1 out else(out,(bq L (aj L id).tree).2):=rfl
  have g:nr L (bt ⟨o,b⟩) r id=(!decide (kindOf L id=3)||(!bt ⟨o,b⟩ r id||(bc L [(aj L id).tree]).any λk=> !bt ⟨o,b⟩ r k)):=rfl;rw[<-fQ]at g;generalize nr L (bt ⟨o,b⟩) r id=G at e g;have J:∀r id p out,p.length<=pre.length+4001->gg 40000 out->gg 40000 (cS L (bt ⟨o,b⟩) n r id p out).1:=λr id p out t s=>Fh D (by omega) s;generalize cS L (bt ⟨o,b⟩) (n+1) r id pre out=W at e⊢;generalize cS L (bt ⟨o,b⟩) n=F at e ih J;have p1:=ft L D id;have p2:=oh L o b I r id;generalize aj L id=ob at e g p1;have p3:=oI L D [ob.tree] (by simp);have N:=λl=>vU 171 L o b r (λx=> !bt ⟨o,b⟩ r x) (PB L o b I r) l;have S:=sY L D ob.tree;obtain⟨K,z⟩:=Bp D ob.tree;generalize bt ⟨o,b⟩ r id=hs at g p2;generalize bc L [ob.tree]=rl at p3 g;have N:=N rl;generalize (rl.any λk=> !bt ⟨o,b⟩ r k)=lo at N g;generalize bq L ob.tree=fs at e S K z;obtain⟨l,c⟩:=fs;dsimp only at e S K z;have ac:a<=5:=by omega
  refine af (n:=112) (n0:=2) tabOk Tryz.call99 Tryz.func99 ?_;intro hb;refine cl [] [] (p1) ?_;refine dec (λh=>absurd (show(5:Int)<a from h) (by omega)) (λ_=>?_);refine ay (λt=>?_) (λt=>?_)
  ·have t:¬ob.kind=3:=t;rw[decide_eq_false t]at g;rw[g]at e;obtain rfl:W=(out,14):=e;exact rx [] [.s 0,.s 1,.s 1]
  have t:ob.kind=3:=t;rw[decide_eq_true t]at g;refine cl [] [] (p2) ?_;refine dB (λs=>?_) (λs=>?_)
  ·have s:hs=false:=s;rw[s]at g;rw[g]at e;obtain rfl:W=(out,14):=e;exact rx [] [.s 0,.s 1,.s 1]
  have s:hs=true:=s;rw[s]at g;have g:G=lo:=g;subst g;refine⟨false,.grow,(.l [0,1,2,3,4,5,8,6,7,9,10]),by kernel_rfl,.inl ?_⟩;refine⟨[ob.tree],rfl,?_⟩;refine cl [] [] (p3) ?_;refine cl [] [] (N) ?_;refine aS (λv=>?_) (λv=>?_)
  ·have v:G=true:=v;rw[v]at e;obtain rfl:W=(out,14):=e;exact rx [] [.s 0,.s 1,.s 1]
  have v:G=false:=v;rw[v]at e;refine⟨false,.grow,(.l [0,1,2,3,4,5,6,7,8,9,10,11]),by kernel_rfl,.inl ?_⟩;refine cl [] [] (S) ?_;refine ay (λE=>?_) (λE=>?_)
  ·have E:¬c=0:=E;obtain rfl:W=(out,c):=e.trans (if_neg E);exact rx [] [.s 0,.s 1,.s 1]
  obtain rfl:c=0:=E;have e:W=fH F pre l out:=e;refine lp (Nat×List Fi) (λp=>⟨[(3,.c (.str pre)),(4,.c (.int .i64 a)),(5,.c (.ptr 0 0)),(6,.c (.ptr 3 0)),(16,.c (.int .i64 0)),(67,.c (.rw 4)),(68,.c (.int .i64 l.length)),(69,.c (.int .i64 p.1))],[.box [.rw 2],.dead,.row 4 Fi aq p.2,.box [.bp [.bp [.bs 6 Ob an L],.bs 1 Bool ai (o 0),.bs 1 Bool ai (o 1),.bs 1 Bool ai (o 2),.bs 1 Bool ai (o 3),.bs 1 Int encI (b 0),.bs 1 Int encI (b 1),.bs 1 Int encI (b 2),.bs 1 Int encI (b 3)]],.row 4 Fi aq l]⟩) (λp=>((p.1<=l.length/\gg 40000 p.2)/\fH F pre (l.drop p.1) p.2=W)/\True) (λp=>l.length-p.1) (0,out) [] [.s 0,.s 1,.s 1,.s 2,.s 7] ⟨⟨⟨a2 _,Z⟩,by rw[List.drop_zero];exact e.symm⟩,trivial⟩ ?_ (λ⟨i,q⟩ u=>?_)
  ·repeat' first|exact trivial|exact rfl|refine And.intro ?_ ?_
  obtain⟨⟨⟨hi,u⟩,d⟩,-⟩:=u;have u:gg 40000 q:=u;have d:fH F pre (l.drop i) q=W:=d;have ad:=u.len;refine dec (λH=>?_) (λH=>?_)
  ·have j:i<l.length:=by have H:(i:Int)<l.length:=H;omega
   have M:l[i]? =some l[i]:=a0 j;have Q:=z _ (a9 j);rw[b1 j]at d;generalize l[i]=x at M Q d;unfold fH at d;refine⟨i,⟨rfl,j⟩,?_⟩;refine⟨x,M,?_⟩;refine⟨(show pre.length+x.path.length<=9223372036854775807 by omega),?_⟩;refine dec (λw=>?_) (λw=>?_)
   ·have w:x.mode=3:=w;rw[if_pos w]at d;have O:((pre++x.path)++[47]).length<=pre.length+4001:=by simp only[ah,bb];omega
    have T:=ih (a+1) x.ax x.id ((pre++x.path)++[47]) q (by omega) (by omega) u;have y:=J x.ax x.id ((pre++x.path)++[47]) q O u;generalize F x.ax x.id ((pre++x.path)++[47]) q=R at T y d;obtain⟨o',U⟩:=R;dsimp only at T y d;refine⟨(show(pre++x.path).length+1<=9223372036854775807 by rw[ah];omega),?_⟩;refine⟨i64 (by omega) (by omega),?_⟩;refine cl [] [0,2] (T) ?_;refine ay (λm=>?_) (λm=>?_)
    ·have m:¬U=0:=m;rw[if_neg m]at d;subst d;exact rx [] [.s 0,.s 1,.s 6]
    ·obtain rfl:U=0:=m;repeat'(refine I6 ?_)
     refine ag (i+1,o') [] [.s 0,.s 1,.s 6,.s 3,.s 4] ⟨⟨⟨j,y⟩,d⟩,trivial⟩ (by simp only[];omega) ?_;repeat' first|exact trivial|exact rfl|refine And.intro ?_ ?_
   ·have w:¬x.mode=3:=w;rw[if_neg w]at d;refine dec (λm=>?_) (λm=>?_)
    ·have m:(q.length:Int)=60:=m;rw[if_pos (by omega)]at d;subst d;exact rx [] [.s 0,.s 1,.s 2]
    ·have m:¬(q.length:Int)=60:=m;rw[if_neg (by omega)]at d;have P:=u.snoc (by omega) (f:=⟨pre++x.path,x.mode,x.id,x.ax⟩) (by simp only[ah];omega);refine⟨false,.grow,(.l [0,1,2,3,4,5,6,7,8]),by kernel_rfl,.inl ?_⟩;refine⟨[⟨pre++x.path,x.mode,x.id,x.ax⟩],rfl,?_⟩;refine⟨_,_,rfl,rfl,(by simp only[ah,a1,a3];omega),?_⟩;repeat'(refine I6 ?_)
     refine ag (i+1,q++[⟨pre++x.path,x.mode,x.id,x.ax⟩]) [] [.s 0,.s 1,.s 7,.s 3,.s 4] ⟨⟨⟨j,P⟩,d⟩,trivial⟩ (by simp only[];omega) ?_;repeat' first|exact trivial|exact rfl|refine And.intro ?_ ?_
  ·have H:¬(i:Int)<l.length:=H;rw[List.drop_of_length_le (by omega)]at d;obtain rfl:(q,0)=W:=d;exact rx [] [.s 0,.s 1,.s 2]
end Go.Nest
end
section
namespace Go.Nest
open Go Go.AM
theorem tX{o:Nat->List Bool}{k:Nat}{z:Int}(hk:k<4):gw o k z=true↔0<=z/\(o k)[z.toNat]? =some true:=by
 rw[ru hk,bn,bn,decide_eq_true_iff,decide_eq_true_iff];constructor
 ·rintro⟨b,c,a⟩;refine⟨b,?_⟩;cases e:(o k)[z.toNat]? with
  |none=>rw[e]at a;cases a
  |some v=>rw[e]at a;rw[show v=true from a]
 ·rintro⟨b,c⟩;have:=(List.getElem?_eq_some_iff.1 c).1;exact⟨b,by omega,by rw[c];rfl⟩
structure Sm(L:List Ob)(o:Nat->List Bool)(w:Nat->List Int):Prop where
 len:∀k,k<4->(o k).length<=L.length
 eq:∀k,k<4->w k=jI o (k:Int) L.length
theorem LC{o:Nat->List Bool}{r x:Int}{n:Nat}:x∈jI o r n↔∃k:Nat,k<n/\gw o r k=true/\x=k:=by
 unfold jI;rw[cb];constructor
 ·rintro⟨k,a,b⟩;rw[ci,b3]at a;exact⟨k,a.1,a.2,b.symm⟩
 ·rintro⟨k,a,b,c⟩;exact⟨k,ci.2 ⟨b3.2 a,b⟩,c.symm⟩
theorem O9{L:List Ob}{o:Nat->List Bool}{b r0:Nat->List Int}{q:Nat}(hq:q<4){z:Int}:gw (jk L o b r0) q z=(gw o q z&&lh b (gr L r0) q z):=by
 rw[cf,bn,tX hq,tX hq,and_assoc];refine and_congr_right λa=>?_;have e:((z.toNat:Nat):Int)=z:=by omega
 unfold jk nU;rw[b4];show Option.map (λv=>v&&lh b (gr L r0) q ((z.toNat:Nat):Int)) (o q)[z.toNat]? =some true↔_;rw[e];cases (o q)[z.toNat]? with
 |none=>simp
 |some v=>simp
end Go.Nest
end
section
namespace Go.Nest
open Go Go.AM Go.Proofs
open Go.Proofs.YtpechfcbnoggfaaGreatDoor (tab tabOk)
set_option maxRecDepth 4000
theorem By{l:List Fi}(h:gg 40000 l):∀f∈l,f.path.length<=4000000:=λf a=>by have:=h.path f a;omega
theorem PC(L:List Ob)(g:ak L)(o:Nat->List Bool)(b:Nat->List Int)(e:gf b)(r id:Int):aa Tryz.prog 38 [.c (.bp [.bp [.bs 6 Ob an L],.bs 1 Bool ai (o 0),.bs 1 Bool ai (o 1),.bs 1 Bool ai (o 2),.bs 1 Bool ai (o 3),.bs 1 Int encI (b 0),.bs 1 Int encI (b 1),.bs 1 Int encI (b 2),.bs 1 Int encI (b 3)]),.c (.int .i64 r),.c (.int .i64 id)] [] (Rt (.ao [(false,[.rw 0]),(false,[.int .i64 (dZ L (bt ⟨o,b⟩) r id).2])]) [.row 4 Fi aq (dZ L (bt ⟨o,b⟩) r id).1]):=by
 refine kQ (n:=26) (n0:=0) tabOk Tryz.call38 Tryz.func38 ?_;intro hb;have j:=PD L g o b e 6 0 r id [] [] (by decide) (by decide) ⟨by simp,λf h=>by cases h⟩;have a:=Fh g (has:=bt ⟨o,b⟩) (k:=40000) (n:=6) (r:=r) (id:=id) (pre:=[]) (out:=[]) (by decide) ⟨by simp,λf h=>by cases h⟩;unfold dZ;generalize cS L (bt ⟨o,b⟩) 6 r id [] []=R at*;obtain⟨l,c⟩:=R;dsimp only at j a⊢;have i:=J3 a;have p:=Oo l (by have:=a.len;omega) (By a);have q:=Ak (aH l) i.len (By i);generalize ez none (aH l)=d at*;generalize aH l=m at*;refine XM.seq ?_;refine XM.seq ?_;refine XM.le (t:=⟨[(0,.c (.bp [.bp [.bs 6 Ob an L],.bs 1 Bool ai (o 0),.bs 1 Bool ai (o 1),.bs 1 Bool ai (o 2),.bs 1 Bool ai (o 3),.bs 1 Int encI (b 0),.bs 1 Int encI (b 1),.bs 1 Int encI (b 2),.bs 1 Int encI (b 3)])),(1,.c (.int .i64 r)),(2,.c (.int .i64 id)),(8,.c (.ptr 0 0))],[.box [.rw 1],.row 4 Fi aq []]⟩) [] [.s 0,.new] (by repeat' first|exact trivial|exact rfl|refine And.intro ?_ ?_) ?_;refine XM.of ?_;refine cl [] [0,1] (j) ?_;refine ay (λh=>?_) (λh=>?_)
 ·have h:¬c=0:=h;rw[if_neg h];exact rx [] [.new]
 ·obtain rfl:c=0:=h;rw[if_pos rfl];refine cl [] [] (p) ?_;refine cl [] [] (q) ?_;refine ay (λh=>?_) (λh=>?_)
  ·have h:¬d=0:=h;rw[if_neg h];exact rx [] [.new]
  ·obtain rfl:d=0:=h;rw[if_pos rfl];exact rx [] [.s 3]
def mP(im:List (List Int)):Prop:=∀k,(cU im k).length<=600
theorem mP.put{im:List (List Int)}(h:mP im){n:Nat}{v:List Int}(hv:v.length<=600):mP (im.set n v):=λk=>by
 have:=h k;unfold cU at this⊢;rw[cd];split
 ·split
  ·exact hv
  ·exact a2 _
 ·exact this
theorem mP.start{n:Nat}:mP (a4 n []):=λk=>by
 unfold cU;rw[List.getElem?_replicate];split<;>exact a2 _
theorem J2 {M : List Ob} (a : ak M) {im : List (List Int)} (hl : mP im) (h : dA (λx => kindOf M x = 3) im) : Fit im := ⟨hl,λk x b=>by
 have c:=h k x b;have d:=dC (l:=M) (id:=x) (by omega);have:=a.len;omega⟩
theorem JY{L:List Ob}{dir:List UInt8}{up:List Int}{o:Ob}(h:up.length<=600):(bS L dir up o).1.length<=600:=by
 unfold bS;split
 ·exact h
 split
 ·exact a2 _
 split
 ·exact h
 ·show 1<=600;decide
theorem Oq(dir:List UInt8)(id:Int)(r:List Int)(L:List Ob)(im:List (List Int)):bH dir (id::r) L im=if(eF L dir im id).2.1≠0 then((eF L dir im id).2.1,(eF L dir im id).2.2,im)else bH dir r (eF L dir im id).2.2 (im.set id.toNat (eF L dir im id).1):=rfl
theorem Ot(dir:List UInt8)(L:List Ob)(im:List (List Int)):bH dir [] L im=(0,L,im):=rfl
structure FG(L:List Ob)(dir:List UInt8)(line:List Int)(i:Nat)(M:List Ob)(im:List (List Int)):Prop where
 le:i<=line.length
 ok:ak M
 pre:L<+:M
 imp:dA (λx=>kindOf M x=3) im
 len:im.length=L.length
 fit:mP im
 eq:bH dir line L (a4 L.length [])=bH dir (line.drop i) M im
theorem Oy(L:List Ob)(D:ak L)(id:Int)(dir:List UInt8)(hd:dir.length<=4000000):aa Tryz.prog 135 [.c (.ptr 0 0),.c (.int .i64 id),.c (.str dir)] [.box [.rw 1],.row 6 Ob an L] (Rt (.ao [(false,[.int .i64 (bY L id dir).1]),(false,[.int .i64 (bY L id dir).2.1])]) [.box [.rw 2],.dead,.row 6 Ob an (bY L id dir).2.2]):=by
 refine af (n:=76) (n0:=2) tabOk Tryz.call135 Tryz.func135 ?_;intro hb;have ad:=D.len;have ha:=sg L D id;refine cl [] [] (ha) ?_;by_cases u:kindOf L id=3
 ·have F:b7 L id=(bf L id,0):=if_pos u;have Y:j4 L (bf L id):=λy w=>((mj D u).1 w).kind D u;have am:(bf L id).length<=L.length:=se
  have d:bY L id dir=if(bH dir (bf L id) L (a4 L.length [])).1≠0 then(0,(bH dir (bf L id) L (a4 L.length [])).1,(bH dir (bf L id) L (a4 L.length [])).2.1)else
    ((kC (cU (bH dir (bf L id) L (a4 L.length [])).2.2 id)).1,(kC (cU (bH dir (bf L id) L (a4 L.length [])).2.2 id)).2,(bH dir (bf L id) L (a4 L.length [])).2.1):=by
   unfold bY;rw[F,if_neg (by simp)]
  have hid:=(dC (l:=L) (id:=id) (by omega));rw[F];generalize bf L id=line at*;generalize bY L id dir=RR at*;refine cl [] [] (pD L) ?_;refine⟨L.length,[],⟨rfl,rfl⟩,rfl,(show L.length*24<=140737488355328 by omega),?_⟩;refine lp (Nat×List Ob×List (List Int)) (λp=>⟨[(0,.c (.ptr 0 0)),(1,.c (.int .i64 id)),(10,.c (.ptr 5 0)),(32,.c (.rw 3)),(33,.c (.int .i64 line.length)),(34,.c (.int .i64 p.1))],[.box [.rw 2],.dead,.row 6 Ob an p.2.1,.row 1 Int encI line,.row 1 (List Int) (bM 1 encI) p.2.2,.box [.ptr 0 0,.str dir,.rw 4]]⟩) (λp=>FG L dir line p.1 p.2.1 p.2.2/\True) (λp=>line.length-p.1) (0,L,a4 L.length []) [] [.s 0,.s 1,.s 1,.s 2,.s 3,.s 4] ?_ ?_ (λ⟨i,M,e⟩ T=>?_)
  ·exact⟨⟨a2 _,D,List.prefix_refl _,dA.start,List.length_replicate,mP.start,rfl⟩,trivial⟩
  ·repeat' first|exact trivial|exact rfl|refine And.intro ?_ ?_
  obtain⟨⟨T,t,E,g,r,q,a⟩,-⟩:=T;dsimp only at T t E g r q a;refine dec (λH=>?_) (λH=>?_)
  ·have f:i<line.length:=by have H:(i:Int)<line.length:=H;omega
   have W:line[i]? =some line[i]:=a0 f;have Z:=Y _ (a9 f);rw[b1 f]at a;have ap:=dC (l:=L) (id:=line[i]) (by omega);generalize line[i]=x at*;have al:kindOf M x=3:=by rw[dO E (by omega)];exact Z
   have K:∀k∈(aj M x).parents,0<=k/\k.toNat<e.length:=λk u=>by
    rw[ext_get E (by omega)]at u;have:=uc D u;rw[r];exact⟨this.1,this.2.2⟩
   have J:=J2 t q g;have ac:=(t.get (id:=x) (by omega)).parents;have N:=J1 M t dir hd e (aj M x) ac K J;have Q:=JY (L:=M) (dir:=dir) (o:=aj M x) (uH J (aj M x).parents).2.1;obtain⟨O,z,q3⟩:=nv t (dir:=dir) (up:=cQ e (aj M x).parents) (o:=aj M x);have P:=wS t (dir:=dir) (up:=cQ e (aj M x).parents) (o:=aj M x) g.up;have es:eF M dir e x=bS M dir (cQ e (aj M x).parents) (aj M x):=rfl;rw[Oq,es]at a;generalize bS M dir (cQ e (aj M x).parents) (aj M x)=R at*;obtain⟨v,c,S⟩:=R;dsimp only at N O z q3 P Q a;have m:e[x.toNat]? =some e[x.toNat]:=a0 (by omega);refine⟨i,⟨rfl,f⟩,?_⟩;refine⟨x,W,?_⟩;refine cl [] [] (ft M t x) ?_;refine⟨true,.any,(.alt [0,1,2,4,5] [3,6] λj=>bif bj j 3 then(.l [6,7,8,9,10,11,12,13])else bif bj j 6 then(.alt [] [3,7] λj=>bif bj j 3 then(.l [7,8,9,10,11,12,13])else bif bj j 7 then(.l [8,9,10,3,11,12,13])else .l [])else .l []),by kernel_rfl,.inl ?_⟩;refine And.intro ?_ ?_
   ·refine cl [] [5,0,2,4] (N) ?_;refine⟨x.toNat,⟨by omega,by omega⟩,?_⟩;refine⟨_,v,m,⟨bk 1,rfl⟩,?_⟩;refine ay (λb=>?_) (λb=>?_)
    ·rw[if_pos b]at a;rw[a,if_pos b]at d;subst d;exact rx [] [.s 0,.s 1,.s 7]
    ·rw[if_neg (λh=>h b)]at a;repeat'(refine I6 ?_)
     refine ag (i+1,S,e.set x.toNat v) [] [.s 0,.s 1,.s 7,.s 3,.s 4,.s 5] ⟨⟨f,O,E.trans z,dA.put (g.mono λy w=>by rw[dO z (by omega)];exact w) (P b),by rw[br];exact r,q.put Q,a⟩,trivial⟩ (by simp only[];omega) ?_;repeat' first|exact trivial|exact rfl|refine And.intro ?_ ?_
   refine And.intro ?_ ?_
   ·refine cl [] [5,0,2,4] (N) ?_;refine⟨x.toNat,⟨by omega,by omega⟩,?_⟩;refine⟨_,v,m,⟨bk 1,rfl⟩,?_⟩;refine ay (λb=>?_) (λb=>?_)
    ·rw[if_pos b]at a;rw[a,if_pos b]at d;subst d;exact rx [] [.s 0,.s 1,.s 7]
    ·rw[if_neg (λh=>h b)]at a;repeat'(refine I6 ?_)
     refine ag (i+1,S,e.set x.toNat v) [] [.s 0,.s 1,.s 7,.s 3,.s 4,.s 5] ⟨⟨f,O,E.trans z,dA.put (g.mono λy w=>by rw[dO z (by omega)];exact w) (P b),by rw[br];exact r,q.put Q,a⟩,trivial⟩ (by simp only[];omega) ?_;repeat' first|exact trivial|exact rfl|refine And.intro ?_ ?_
   ·refine cl [] [5,0,2,4] (N) ?_;refine⟨x.toNat,⟨by omega,by omega⟩,?_⟩;refine⟨_,v,m,⟨bk 1,rfl⟩,?_⟩;refine ay (λb=>?_) (λb=>?_)
    ·rw[if_pos b]at a;rw[a,if_pos b]at d;subst d;exact rx [] [.s 0,.s 1,.s 7]
    ·rw[if_neg (λh=>h b)]at a;repeat'(refine I6 ?_)
     refine ag (i+1,S,e.set x.toNat v) [] [.s 0,.s 1,.s 7,.s 3,.s 4,.s 5] ⟨⟨f,O,E.trans z,dA.put (g.mono λy w=>by rw[dO z (by omega)];exact w) (P b),by rw[br];exact r,q.put Q,a⟩,trivial⟩ (by simp only[];omega) ?_;repeat' first|exact trivial|exact rfl|refine And.intro ?_ ?_
  ·obtain rfl:i=line.length:=by have H:¬(i:Int)<line.length:=H;omega
   rw[List.drop_length]at a;rw[a,Ot]at d;rw[if_neg (by simp)]at d;dsimp only at d;have s:id.toNat<e.length:=by omega
   have m:e[id.toNat]? =some e[id.toNat]:=a0 s;have U:cU e id=e[id.toNat]:=by unfold cU;rw[m];rfl
   rw[U]at d;generalize e[id.toNat]=out at*;refine⟨id.toNat,⟨by omega,s⟩,?_⟩;refine⟨out,m,?_⟩;refine dec (λb=>?_) (λb=>?_)
   ·have b:(out.length:Int)=0:=b;rw[show kC out=(0,9)from if_pos (by omega)]at d;subst d;exact rx [] [.s 0,.s 1,.s 2]
   have b:¬(out.length:Int)=0:=b;refine dec (λI=>?_) (λI=>?_)
   ·have I:(out.length:Int)=1:=I;obtain⟨y,rfl⟩:=List.length_eq_one_iff.1 (show out.length=1 by omega);rw[show kC [y]=(y,0)from rfl]at d;subst d;refine⟨0,y,rfl,rfl,?_⟩;exact rx [] [.s 0,.s 1,.s 2]
   ·have I:¬(out.length:Int)=1:=I;rw[show kC out=(0,5)from(if_neg (by omega)).trans (if_neg (by omega))]at d;subst d;exact rx [] [.s 0,.s 1,.s 2]
 ·have F:b7 L id=([],9):=if_neg u;have d:bY L id dir=(0,9,L):=by unfold bY;rw[F];rfl
  rw[d,F];exact rx [] [.s 0,.s 1,.s 1]
end Go.Nest
end
section
namespace Go.Nest
open Go Go.AM
theorem zf{α:Type}{p q:α->Bool}:∀{l:List α},(∀x∈l,p x=q x)->l.any p=l.any q
 |[],_=>rfl
 |x::l,h=>by rw[cs,cs,h x (by simp),zf λy a=>h y (be _ a)]
theorem KB{b bX:Nat->List Int}{q:Nat}{r:Nat}{k:Int}(hr:r<4)(h1:(q:Int)∈cJ b r)(h2:k∈bX r):lh b bX q k=true:=by
 unfold lh;rw[ce];exact⟨r,b3.2 hr,by rw[bn,decide_eq_true_iff,decide_eq_true_iff];exact⟨h1,h2⟩⟩
theorem JK{L:List Ob}(a:ak L){o:Nat->List Bool}{b r0:Nat->List Int}(hb:gf b)(r:Nat)(k:Int)(h:Nd L r0 r k):bt ⟨jk L o b r0,b⟩ r k=bt ⟨o,b⟩ r k:=by
 have d:=h.lt a;unfold bt;congr 1
 refine zf λq c=>?_;have f:=(tC hb (bW.2 ⟨r,d,rfl⟩)).2 q c;have e:((q.toNat:Nat):Int)=q:=by omega
 dsimp only;have:=O9 (L:=L) (o:=o) (b:=b) (r0:=r0) (q:=q.toNat) (by omega) (z:=k);rw[e]at this;rw[this,KB d (by rw[e];exact c) ((C2 a).2 h),Bool.and_true]
def gh(p:List UInt8)(f:Fi):Fi:=⟨p++f.path,f.mode,f.id,f.ax⟩
theorem y7:gh []=id:=by funext f;rfl
theorem y9(p q:List UInt8):gh p∘gh q=gh (p++q):=by
 funext f;show gh p (gh q f)=_;unfold gh;rw[a5]
theorem y8(q:List UInt8):gh (q++[47])=pre q:=by
 funext f;unfold gh pre;rw[a5];rfl
def fX(f:Int->Int->Option (List Fi)):List Fi->Option (List Fi)
 |[]=>some []
 |x::l=>if x.mode=3 then(f x.ax x.id).bind λm=>(fX f l).map λk=>m.map (gh (x.path++[47]))++k else(fX f l).map λk=>x::k
noncomputable def rd(L:List Ob)(has:Int->Int->Bool):Nat->Int->Int->Option (List Fi)
 |0,_,_=>none
 |n+1,r,id=>if nr L has r id=true then none else if(bq L (aj L id).tree).2=0 then fX (rd L has n) (bq L (aj L id).tree).1 else none
theorem x3{f:Int->Int->List UInt8->List Fi->List Fi×Int}{g:Int->Int->Option (List Fi)}(c:∀r id p out a,out.length<=60->f r id p out=(a,0)->∃m,g r id=some m/\a=out++m.map (gh p)/\a.length<=60){pre:List UInt8}:∀{l out a:List Fi},out.length<=60->fH f pre l out=(a,0)->∃m,fX g l=some m/\a=out++m.map (gh pre)/\a.length<=60
 |[],out,a,d,h=>by
  unfold fH at h;cases h;exact⟨[],rfl,by simp,d⟩
 |x::l,out,a,d,h=>by
  unfold fH at h;split at h
  ·rename_i e;split at h
   ·rename_i b;obtain⟨s,o,q,k3⟩:=c x.ax x.id ((pre++x.path)++[47]) out _ d (c4 rfl b);obtain⟨n,i,j,k⟩:=x3 c k3 h;refine⟨s.map (gh (x.path++[47]))++n,?_,?_,k⟩
    ·rw[fX,if_pos e,o,i];rfl
    ·rw[j,q];simp only[co,cV,y9,a5]
   ·rename_i b;exact absurd (by rw[h]) b
  ·rename_i e;split at h
   ·cases h
   ·rename_i b;obtain⟨n,i,j,k⟩:=x3 c (by rw[ah,bb];omega) h;refine⟨x::n,?_,?_,k⟩
    ·rw[fX,if_neg e,i];rfl
    ·rw[j,ct,a5];rfl
theorem M7{L:List Ob}{has:Int->Int->Bool}:∀{n:Nat} {r id:Int} {p:List UInt8} {out a:List Fi},out.length<=60->cS L has n r id p out=(a,0)->∃m,rd L has n r id=some m/\a=out++m.map (gh p)/\a.length<=60:=by
 intro n;induction n with
 |zero=>intro r id p out a c h;cases h
 |succ n ih=>
  intro r id p out a c h;rw[cS]at h;split at h
  ·cases h
  rename_i d;split at h
  ·rename_i b;rw[rd,if_neg d,if_pos b];exact x3 (f:=cS L has n) (g:=rd L has n) (λr id p out a=>ih) c h
  ·rename_i b;exact absurd (congrArg (·.2) h) b
theorem x4{f:Int->Int->List UInt8->List Fi->List Fi×Int}{g:Int->Int->Option (List Fi)}(b:∀r id p out m,g r id=some m->out.length+m.length<=60->f r id p out=(out++m.map (gh p),0)){pre:List UInt8}:∀{l out m:List Fi},fX g l=some m->out.length+m.length<=60->fH f pre l out=(out++m.map (gh pre),0)
 |[],out,m,h,c=>by
  unfold fX at h;cases h;unfold fH;simp
 |x::l,out,m,h,c=>by
  rw[fX]at h;rw[fH];split at h
  ·rename_i d;obtain⟨j,e,i⟩:=a6.1 h;obtain⟨k,a,rfl⟩:=ar.1 i;rw[ah,b0]at c;rw[if_pos d,b x.ax x.id _ out j e (by omega),if_pos rfl,x4 b a (by rw[ah,b0];omega)];simp only[co,cV,y9,a5]
  ·rename_i d;obtain⟨k,a,rfl⟩:=ar.1 h;rw[a1]at c;rw[if_neg d,if_neg (by omega),x4 b a (by rw[ah,bb];omega),ct,a5];rfl
theorem M8{L:List Ob}{has:Int->Int->Bool}:∀{n:Nat} {r id:Int} {p:List UInt8} {out m:List Fi},rd L has n r id=some m->out.length+m.length<=60->cS L has n r id p out=(out++m.map (gh p),0):=by
 intro n;induction n with
 |zero=>intro r id p out m h;cases h
 |succ n ih=>
  intro r id p out m h c;rw[rd]at h;split at h
  ·cases h
  rename_i a;split at h
  ·rename_i b;rw[cS,if_neg a,if_pos b];exact x4 (f:=cS L has n) (g:=rd L has n) (λr id p out m=>ih) h c
  ·cases h
theorem xZ{f g:Int->Int->Option (List Fi)}(b:∀r id m,f r id=some m->g r id=some m):∀{l m:List Fi},fX f l=some m->fX g l=some m
 |[],m,h=>h
 |x::l,m,h=>by
  rw[fX]at h⊢;split at h
  ·rename_i c;obtain⟨i,d,e⟩:=a6.1 h;obtain⟨k,a,rfl⟩:=ar.1 e;rw[if_pos c,b _ _ _ d,xZ b a];rfl
  ·rename_i c;obtain⟨k,a,rfl⟩:=ar.1 h;rw[if_neg c,xZ b a];rfl
theorem M6{L:List Ob}{has:Int->Int->Bool}:∀{n:Nat} {r id:Int} {m:List Fi},rd L has n r id=some m->rd L has (n+1) r id=some m:=by
 intro n;induction n with
 |zero=>intro r id m h;cases h
 |succ n ih=>
  intro r id m h;rw[rd]at h⊢;split at h
  ·cases h
  rename_i a;split at h
  ·rename_i b;rw[if_neg a,if_pos b];exact xZ (f:=rd L has n) (g:=rd L has (n+1)) (λr id m=>ih) h
  ·cases h
theorem xY{g:Int->Int->Option (List Fi)}(hg:∀r id m,g r id=some m->∀f∈m,f.mode≠3):∀{l m:List Fi},fX g l=some m->∀f∈m,f.mode≠3
 |[],m,h,f,hf=>by cases h;cases hf
 |x::l,m,h,f,hf=>by
  rw[fX]at h;split at h
  ·obtain⟨i,b,c⟩:=a6.1 h;obtain⟨k,a,rfl⟩:=ar.1 c;rcases bh.1 hf with hf|hf
   ·obtain⟨y,e,rfl⟩:=cb.1 hf;exact hg _ _ _ b y e
   ·exact xY hg a f hf
  ·rename_i d;obtain⟨k,a,rfl⟩:=ar.1 h;rcases bi.1 hf with rfl|hf
   ·exact d
   ·exact xY hg a f hf
theorem M5{L:List Ob}{has:Int->Int->Bool}:∀{n:Nat} {r id:Int} {m:List Fi},rd L has n r id=some m->∀f∈m,f.mode≠3:=by
 intro n;induction n with
 |zero=>intro r id m h;cases h
 |succ n ih=>
  intro r id m h;rw[rd]at h;split at h
  ·cases h
  split at h
  ·exact xY (λr id m=>ih) h
  ·cases h
theorem ug{g:Int->Int->Option (List Fi)}:∀{l m:List Fi},fX g l=some m->∀x∈l,x.mode=3->∃k,g x.ax x.id=some k/\(k.map (Nest.pre x.path)).Sublist m
 |[],m,h,x,hx,_=>by cases hx
 |y::l,m,h,x,hx,b=>by
  rw[fX]at h;split at h
  ·obtain⟨n,f,i⟩:=a6.1 h;obtain⟨k,a,rfl⟩:=ar.1 i;rcases bi.1 hx with rfl|hx
   ·exact⟨n,f,by rw[y8];exact List.sublist_append_left _ _⟩
   ·obtain⟨c,d,e⟩:=ug a x hx b;exact⟨c,d,e.trans (List.sublist_append_right _ _)⟩
  ·rename_i j;obtain⟨k,a,rfl⟩:=ar.1 h;rcases bi.1 hx with rfl|hx
   ·exact absurd b j
   ·obtain⟨c,d,e⟩:=ug a x hx b;exact⟨c,d,e.trans (List.sublist_cons_self _ _)⟩
def rW(W:Int->Int->List Fi)(l:List Fi):List Fi:=l.flatMap λx=>if x.mode=3 then(W x.ax x.id).map (Nest.pre x.path)else[x]
theorem yE{g:Int->Int->Option (List Fi)}{W:Int->Int->List Fi}:∀{l m:List Fi},fX g l=some m->(∀x∈l,x.mode=3->∀k,g x.ax x.id=some k->(W x.ax x.id).Perm k)->(rW W l).Perm m
 |[],m,h,_=>by cases h;exact .nil
 |x::l,m,h,c=>by
  rw[fX]at h;unfold rW;rw[List.flatMap_cons];split at h
  ·rename_i a;obtain⟨i,e,f⟩:=a6.1 h;obtain⟨k,b,rfl⟩:=ar.1 f;rw[if_pos a,y8];exact((c x (by simp) a i e).map _).append (yE b λy d=>c y (be _ d))
  ·rename_i a;obtain⟨k,b,rfl⟩:=ar.1 h;rw[if_neg a];exact(yE b λy d=>c y (be _ d)).cons x
theorem zm:∀(k:Nat) {n:List UInt8} {f g:Fi},n.length<=k->gA (Nest.pre n f) (Nest.pre n g)->gA f g:=by
 intro k;induction k with
 |zero=>
  intro n f g d h;have:n=[]:=List.eq_nil_of_length_eq_zero (by omega);subst this;exact vd (by rfl) h
 |succ k ih=>
  intro n f g d h;by_cases c:n.count 47=0
  ·exact vd c h
  ·obtain⟨a,b,-,rfl,i⟩:=vX c;have e:∀f,Nest.pre (a++47::b) f=Nest.pre a (Nest.pre b f):=λf=>by unfold Nest.pre;rw[a5];rfl
   rw[e,e]at h;refine ih ?_ (vd i h);rw[ah,a1]at d;omega
theorem DG{α:Type}{R:α->α->Prop}:∀{l:List α},l.Pairwise R->∀x∈l,∀y∈l,x≠y->R x y\/R y x
 |[],_,x,d,_,_,_=>by cases d
 |a::l,h,x,d,y,f,b=>by
  rw[List.pairwise_cons]at h;rcases bi.1 d with e|hx1
  ·rcases bi.1 f with c|hy1
   ·exact absurd (e.trans c.symm) b
   ·exact .inl (e▸h.1 y hy1)
  ·rcases bi.1 f with c|hy1
   ·exact .inr (c▸h.1 x hx1)
   ·exact DG h.2 x hx1 y hy1 b
theorem Da:∀{l:List (List UInt8)},(∀x∈l,bP x=0)->eR l=0
 |[],_=>rfl
 |x::l,h=>by
  unfold eR;rw[if_pos (h x (by simp))];exact Da λy a=>h y (be _ a)
theorem A1{dir p:List UInt8}(h:(cc (dir++47::p)).2=0):(cc p).2=0:=by
 obtain⟨a,b,-⟩:=oM h;rw[pX]at a b;rw[ah]at b;exact ym (Da λx c=>oD a x (bh.2 (.inr c))) (by omega)
theorem MK{p:List UInt8}{k m:List Fi}(l:(k.map (Nest.pre p)).Sublist m)(hm:ez none (aH m)=0):ez none (aH k)=0:=by
 have i:=(vG hm).1;have o:=qy hm;have q:m.Pairwise λx y=>x.path≠y.path:=((fS m).pairwise_iff λh=>c1 h).1 (i.imp λh=>jH h.1)
 have t:k.Pairwise λx y=>x.path≠y.path:=by
  have:=q.sublist l;rw[List.pairwise_map]at this;exact this.imp λh e=>h (by unfold Nest.pre;rw[e])
 have u:=wU t;have a:∀x∈aH k,Nest.pre p x∈aH m:=λx d=>(fS m).mem_iff.2 (l.subset (cb.2 ⟨x,(fS k).mem_iff.1 d,rfl⟩));refine vH (λg s=>by cases s) (u.imp_of_mem λ{x y} d v j=>?_) λf r=>?_
 ·have c : Nest.pre p x ≠ Nest.pre p y := λe => jH j (by
   have:=congrArg (·.path) e;have this:p++47::x.path=p++47::y.path:=this;exact List.cons.inj (List.append_cancel_left this)|>.2)
  rcases DG i _ (a x d) _ (a y v) c with h|h
  ·exact zm p.length (bk _) h
  ·have b:=(zm p.length (bk _) h).1;exact absurd (jc j b) (by rw[mg];decide)
 ·obtain⟨n,b⟩:=o _ (a f r);exact⟨A1 n,b⟩
theorem PE{L:List Ob}{has:Int->Int->Bool}{r id:Int}{all:List Fi}(h:dZ L has r id=(all,0)):
  kindOf L id=3/\(bq L (aj L id).tree).2=0/\(∀x∈(bq L (aj L id).tree).1,x.mode=3->(dZ L has x.ax x.id).2=0)/\aH (rW (λr id=>(dZ L has r id).1) (bq L (aj L id).tree).1)=all/\(∀f∈all,f.mode=1)/\all.length<=60/\(rW (λr id=>(dZ L has r id).1) (bq L (aj L id).tree).1).Perm all:=by
 unfold dZ at h;split at h
 ·rename_i j;split at h
  ·rename_i c;obtain rfl:aH (cS L has 6 r id [] []).1=all:=congrArg (·.1) h;obtain⟨m,a,g,k3⟩:=M7 (by simp) (c4 (x:=cS L has 6 r id [] []) (y:=(_,0)) rfl j);rw[cp,y7,c0]at g;have g:(cS L has 6 r id [] []).fst=m:=g;have k3:(cS L has 6 r id [] []).fst.length<=60:=k3;rw[g]at c k3⊢;have n:=a;rw[rd]at a;split at a
   ·cases a
   rename_i w;split at a
   ·rename_i z;have b:kindOf L id=3:=cv λb=>w (by unfold nr;rw[decide_eq_false b];rfl)
    have q:∀x∈(bq L (aj L id).tree).1,x.mode=3->∀k,rd L has 5 x.ax x.id=some k->dZ L has x.ax x.id=(aH k,0):=λx e d k b=>by
     obtain⟨v,i,o⟩:=ug a x e d;rw[i]at b;cases b;have E:=o.length_le;rw[b0]at E;have u:=M8 (p:=[]) (out:=[]) (M6 i) (by rw[a3];omega);rw[cp,y7,c0]at u;unfold dZ;rw[u,if_pos rfl,if_pos (MK o c)]
    have l:(rW (λr id=>(dZ L has r id).1) (bq L (aj L id).tree).1).Perm m:=yE a λx e d k b=>by rw[q x e d k b];exact fS k
    have D:=(vG c).1;have s:m.Pairwise λx y=>x.path≠y.path:=((fS m).pairwise_iff λh=>c1 h).1 (D.imp λh=>jH h.1);refine⟨b,z,λx e d=>?_,?_,λf t=>?_,by rw[iY];exact k3,l.trans (fS m).symm⟩
    ·obtain⟨v,i,o⟩:=ug a x e d;rw[q x e d v i]
    ·refine yc (wU ((l.pairwise_iff λh=>c1 h).2 s)) (wU s) λx=>?_;rw[(fS _).mem_iff,(fS _).mem_iff,l.mem_iff]
    ·have:=M5 n f ((fS m).mem_iff.1 t);exact(qy c f t).2.resolve_right this
   ·cases a
  ·rename_i c;exact absurd (congrArg (·.2) h) c
 ·rename_i j;exact absurd (congrArg (·.2) h) j
end Go.Nest
end
