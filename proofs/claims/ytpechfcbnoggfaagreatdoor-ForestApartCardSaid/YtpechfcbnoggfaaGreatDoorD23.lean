/- part -/
import Derived.Test.YtpechfcbnoggfaaGreatDoorD10
import Derived.Test.YtpechfcbnoggfaaGreatDoorG10
import Derived.Test.YtpechfcbnoggfaaGreatDoorU0
import Derived.Test.YtpechfcbnoggfaaGreatDoorAmH
import Derived.Test.YtpechfcbnoggfaaGreatDoorN1
import Derived.Test.YtpechfcbnoggfaaGreatDoorS3
set_option linter.unusedVariables false
set_option linter.unusedSimpArgs false
section
namespace Go.Nest
open Go Go.AM
theorem iy{α:Type}{o:Nat→α}{k j:Nat}{v:α}(h:j≠k):ax o k v j=o j:=by
 unfold ax
 have:Nat.beq j k=false:=by
  cases a:Nat.beq j k with
  |false=>rfl
  |true=>exact absurd (Nat.eq_of_beq_eq_true a) h
 rw[this];rfl
def n0(r0:Nat→List Int):Nat→Nat:=fun r=>(r0 r).length
theorem AQ:∀{a b:List Int},a.Nodup→(∀x∈a,x∈b)→a.length≤b.length
 |[],b,_,_=>Nat.zero_le _
 |x::a,b,h,d=>by
  rw[List.nodup_cons]at h;have f:=d x (by simp)
  have i := AQ (b := b.erase x) h.2 (fun y g=>by
   have c:y≠x:=fun e=>by subst e;exact h.1 g
   exact(List.mem_erase_of_ne c).2 (d y (by simp[g])))
  rw[List.length_erase_of_mem f]at i;have j:=List.length_pos_of_mem f;rw[List.length_cons];omega
theorem gq.found{L:List Ob}(g:ae L){r0:Nat→List Int}{s:RS}(h:gq L r0 s){r:Nat}(hr:r<4)(m:Bool):
  gq L r0 ⟨s.ro,ax s.out r (aZ L (s.ro r)),m⟩∧fu L (n0 r0) ⟨s.ro,ax s.out r (aZ L (s.ro r)),m⟩≤fu L (n0 r0) s∧((s.out r).length<(aZ L (s.ro r)).length→fu L (n0 r0) ⟨s.ro,ax s.out r (aZ L (s.ro r)),m⟩<fu L (n0 r0) s):=by
 have c:(s.out r).length≤(aZ L (s.ro r)).length:=AQ (h.onod r hr) (h.out r hr);have d:=oL (l:=L) (ids:=s.ro r);have e:=J5 (f:=fun l:List Int=>L.length-l.length) (o:=s.out) hr (v:=aZ L (s.ro r));refine⟨⟨h.sub,h.nd,h.ext,fun j b k a=>?_,fun j b=>?_⟩,?_,fun i=>?_⟩
 ·by_cases e:j=r
  ·subst e;have a:k∈ax s.out j (aZ L (s.ro j)) j:=a;rwa[ee]at a
  ·have a:k∈ax s.out r (aZ L (s.ro r)) j:=a;rw[iy e]at a;exact h.out j b k a
 ·show(ax s.out r (aZ L (s.ro r)) j).Nodup;by_cases e:j=r
  ·subst e;rw[ee];exact sH.imp fun h=>by omega
  ·rw[iy e];exact h.onod j b
 ·unfold fu;dsimp only at e⊢;omega
 ·unfold fu;dsimp only at e⊢;omega
theorem gq.root{L:List Ob}(o:ae L){r0:Nat→List Int}{s:RS}(h:gq L r0 s){q:Nat}(hq:q<4){x:Int}(l:x∉s.ro q)(z:∀k,db L [x] k→Nd L r0 q k)(m:0≤x∧x<(600:Nat)):
  gq L r0 ⟨ax s.ro q (s.ro q++[x]),s.out,true⟩∧fu L (n0 r0) ⟨ax s.ro q (s.ro q++[x]),s.out,true⟩<fu L (n0 r0) s:=by
 have f:∀j y,y∈s.ro j→y∈ax s.ro q (s.ro q++[x]) j:=fun j y hy=>by
  by_cases e:j=q
  ·subst e;rw[ee];exact List.mem_append.2 (.inl hy)
  ·rw[iy e];exact hy
 have g:gq L r0 ⟨ax s.ro q (s.ro q++[x]),s.out,true⟩:=by
  refine⟨fun j d y hy=>f j y (h.sub j d y hy),fun j d y hy k i=>?_,fun j d=>?_,fun j d k w=>?_,h.onod⟩
  ·have hy:y∈ax s.ro q (s.ro q++[x]) j:=hy;by_cases e:j=q
   ·subst e;rw[ee]at hy;rcases List.mem_append.1 hy with hy|hy
    ·exact h.nd j d y hy k i
    ·rw[List.mem_singleton]at hy;subst hy;exact z k i
   ·rw[iy e]at hy;exact h.nd j d y hy k i
  ·show∃ex,ax s.ro q (s.ro q++[x]) j=r0 j++ex∧_;by_cases e:j=q
   ·subst e;rw[ee];obtain⟨ex,n,t,u⟩:=h.ext j d;refine⟨ex++[x],by rw[n,List.append_assoc],?_,fun y hy=>?_⟩
    ·rw[List.nodup_append];exact⟨t,by simp,fun a v c p=>by rw[List.mem_singleton]at p;subst p;exact fun e=>l (by rw[n];exact List.mem_append.2 (.inr (e▸v)))⟩
    ·rcases List.mem_append.1 hy with hy|hy
     ·exact u y hy
     ·rw[List.mem_singleton]at hy;subst hy;exact m
   ·rw[iy e];exact h.ext j d
  ·show k∈aZ L (ax s.ro q (s.ro q++[x]) j);rw[jk o];exact G3 (f j) ((jk o).1 (h.out j d k w))
 refine⟨g,?_⟩;have b:=g.len hq;have b:(ax s.ro q (s.ro q++[x]) q).length≤(r0 q).length+600:=b;rw[ee,List.length_append,List.length_singleton]at b
 have a:mH (fun r=>600+n0 r0 r-(ax s.ro q (s.ro q++[x]) r).length)<mH (fun r=>600+n0 r0 r-(s.ro r).length):=by
  unfold mH n0;rcases four hq with rfl|rfl|rfl|rfl<;>simp only[ax,Nat.beq,cond_true,cond_false,List.length_append,List.length_singleton]<;>omega
 unfold fu;dsimp only at a⊢;omega
structure iX(L:List Ob)(r0:Nat→List Int)(mu:Nat)(r:Nat)(s:RS):Prop where
 inv:gq L r0 s
 le:fu L (n0 r0) s≤mu
 lt:s.more=true→fu L (n0 r0) s<mu
 out:s.more=false→∀j,j<r→s.out j=aZ L (s.ro j)
 clo:s.more=false→∀j,j<r→∀l∈cA L (s.out j),l.2∈s.ro l.1.toNat
structure iE(L:List Ob)(r0:Nat→List Int)(mu:Nat)(r:Nat)(all:List Int)(i:Nat)(s:RS):Prop where
 mid:iX L r0 mu r s
 here:s.out r=all
 out:s.more=false→s.out r=aZ L (s.ro r)
 done:s.more=false→∀l∈(cA L all).take i,l.2∈s.ro l.1.toNat
theorem iX.found{L:List Ob}(i:ae L){r0:Nat→List Int}{mu r:Nat}{s:RS}(h:iX L r0 mu r s)(hr:r<4):
  iE L r0 mu r (aZ L (s.ro r)) 0 ⟨s.ro,ax s.out r (aZ L (s.ro r)),s.more||decide ((s.out r).length<(aZ L (s.ro r)).length)⟩:=by
 obtain⟨a,c,d⟩:=h.inv.found i hr (s.more||decide ((s.out r).length<(aZ L (s.ro r)).length))
 have g:(s.more||decide ((s.out r).length<(aZ L (s.ro r)).length))=false→s.more=false:=fun e=>by
  cases b:s.more with
  |false=>rfl
  |true=>rw[b]at e;cases e
 refine⟨⟨a,Nat.le_trans c h.le,fun e=>?_,fun e j f=>?_,fun e j f=>?_⟩,ee,fun e=>ee,fun e l k=>by simp at k⟩
 ·cases b:s.more with
  |true=>exact Nat.lt_of_le_of_lt c (h.lt b)
  |false=>
   have e:(s.more||decide ((s.out r).length<(aZ L (s.ro r)).length))=true:=e;rw[b,Bool.false_or]at e;exact Nat.lt_of_lt_of_le (d (of_decide_eq_true e)) h.le
 ·show ax s.out r (aZ L (s.ro r)) j=_;rw[iy (by omega)];exact h.out (g e) j f
 ·show∀l∈cA L (ax s.out r (aZ L (s.ro r)) j),_;rw[iy (by omega)];exact h.clo (g e) j f
theorem iE.skip{L:List Ob}{r0:Nat→List Int}{mu r i:Nat}{all:List Int}{s:RS}(h:iE L r0 mu r all i s)(hi:i<(cA L all).length)(hin:(cA L all)[i].2∈s.ro (cA L all)[i].1.toNat):iE L r0 mu r all (i+1) s:=
 ⟨h.mid,h.here,h.out,fun e l hl=>by
  rw[List.take_succ_eq_append_getElem hi]at hl;rcases List.mem_append.1 hl with hl|hl
  ·exact h.done e l hl
  ·rw[List.mem_singleton]at hl;subst hl;exact hin⟩
theorem iE.add{L:List Ob}(b:ae L){r0:Nat→List Int}{mu r i:Nat}{all:List Int}{s:RS}(h:iE L r0 mu r all i s)(p:∀k∈all,Nd L r0 r k){q:Nat}(hq:q<4){x:Int}(hl:((q:Int),x)∈cA L all)(d:x∉s.ro q):iE L r0 mu r all (i+1) ⟨ax s.ro q (s.ro q++[x]),s.out,true⟩:=by
 obtain⟨k,v,e,j,k3,n⟩:=r9.1 hl;have o:(q:Int)=e.ar:=congrArg (·.1) n;have f:x=e.id:=congrArg (·.2) n;have w:=po b j;have u:=bJ (l:=L) (id:=e.id) (by omega);have g:=b.len
 obtain ⟨a, c⟩ := h.mid.inv.root b hq d (fun m t=>by
  have:=Nd.link (p k v) j k3 (f▸t);rw[←o]at this;exact this) (by rw[f];omega)
 exact⟨⟨a,Nat.le_of_lt (Nat.lt_of_lt_of_le c h.mid.le),fun _=>Nat.lt_of_lt_of_le c h.mid.le,fun e=>(by cases e),fun e=>(by cases e)⟩,h.here,fun e=>(by cases e),fun e=>(by cases e)⟩
theorem iE.stop{L:List Ob}{r0:Nat→List Int}{mu r i:Nat}{all:List Int}{s:RS}(h:iE L r0 mu r all i s)(hi:¬i<(cA L all).length):iX L r0 mu (r+1) s:=by
 refine⟨h.mid.inv,h.mid.le,h.mid.lt,fun e j a=>?_,fun e j a l b=>?_⟩
 ·rcases Nat.lt_succ_iff_lt_or_eq.1 a with a|rfl
  ·exact h.mid.out e j a
  ·exact h.out e
 ·rcases Nat.lt_succ_iff_lt_or_eq.1 a with a|rfl
  ·exact h.mid.clo e j a l b
  ·rw[h.here]at b;exact h.done e l (by rw[List.take_of_length_le (by omega)];exact b)
theorem iX.start{L:List Ob}{r0:Nat→List Int}{s:RS}(h:gq L r0 s):iX L r0 (fu L (n0 r0) s) 0 ⟨s.ro,s.out,false⟩:=
 ⟨⟨h.sub,h.nd,h.ext,h.out,h.onod⟩,Nat.le_refl _,fun e=>(by cases e),fun _ j a=>absurd a (Nat.not_lt_zero _),fun _ j a=>absurd a (Nat.not_lt_zero _)⟩
theorem iX.fin{L:List Ob}{r0:Nat→List Int}{mu:Nat}{s:RS}(h:iX L r0 mu 4 s)(hm:s.more=false):qF L s:=⟨fun r a=>h.out hm r a,fun r a=>h.clo hm r a⟩
end Go.Nest
end
section
namespace Go.Nest
open Go Go.AM Go.Proofs
open Go.Proofs.YtpechfcbnoggfaaGreatDoor (tab tabOk)
set_option maxRecDepth 4000
theorem oC{n0:Nat}{a:St}{R:∀(ι:Type) (I:ι→St) (inv:ι→Prop) (m:ι→Nat),ι→Prop}{P:Nat→Prop}{q:Nat}(c:P q)(ι:Type)(I:Nat→ι→St)(inv:Nat→ι→Prop)(m:ι→Nat)(y:ι)(js:List Nat)(ρ:List Rn)(h1:inv q y)(h2:le n0 js ρ a (I q y))(b:∀x,inv q x→R ι (I q) (inv q) m x):
  ∃(ι:Type) (I:ι→St) (inv:ι→Prop) (m:ι→Nat),(∃y,inv y∧LE n0 a (I y))∧∀x,inv x→R ι I inv m x:=
 ⟨ι,I q,inv q,m,⟨y,h1,js,ρ,h2⟩,b⟩
theorem qK{ι:Type}{n0:Nat}{I:ι→St}{inv:ι→Prop}{m:ι→Nat}{lt:Nat}{s:St}{P:Nat→Prop}{q:Nat}(b:P q)(y:ι)(js:List Nat)(ρ:Nat→List Rn)(h1:inv y)(h2:m y<lt)(a:le n0 js (ρ q) s (I y)):∃y,(inv y∧m y<lt)∧LE n0 s (I y):=⟨y,⟨h1,h2⟩,js,ρ q,a⟩
def Qn(_:Nat):Prop:=True
set_option maxHeartbeats 20000000 in
theorem HP(L:List Ob)(g:ae L)(o:Nat→List Bool)(b r0:Nat→List Int)(M:∀r,r<4→(r0 r).length≤100000):ai Tryz.prog 136 [.c (.bp [.bp [.bs 6 Ob ak L],.bs 1 Bool aj (o 0),.bs 1 Bool aj (o 1),.bs 1 Bool aj (o 2),.bs 1 Bool aj (o 3),.bs 1 Int encI (b 0),.bs 1 Int encI (b 1),.bs 1 Int encI (b 2),.bs 1 Int encI (b 3)]),.st [.bs 1 Int encI (r0 0),.bs 1 Int encI (r0 1),.bs 1 Int encI (r0 2),.bs 1 Int encI (r0 3)]] [] (Rt (.st [.ls 1 Int encI (fX L r0 0),.ls 1 Int encI (fX L r0 1),.ls 1 Int encI (fX L r0 2),.ls 1 Int encI (fX L r0 3)]) []):=by
 have ac:=g.len;refine an (n:=67) (n0:=0) tabOk Tryz.call136 Tryz.func136 ?_;intro hb;(conv=>whnf);refine lp RS (fun s=>⟨[(0,.c (.bp [.bp [.bs 6 Ob ak L],.bs 1 Bool aj (o 0),.bs 1 Bool aj (o 1),.bs 1 Bool aj (o 2),.bs 1 Bool aj (o 3),.bs 1 Int encI (b 0),.bs 1 Int encI (b 1),.bs 1 Int encI (b 2),.bs 1 Int encI (b 3)])),(3,.c (.ptr 0 0)),(4,.c (.ptr 1 0)),(5,.c (.ptr 2 0)),(6,.c (.bool s.more))],[.box [.bs 1 Int encI (s.ro 0),.bs 1 Int encI (s.ro 1),.bs 1 Int encI (s.ro 2),.bs 1 Int encI (s.ro 3)],.box [.nil,.nil,.nil,.nil],.box [.ls 1 Int encI (s.out 0),.ls 1 Int encI (s.out 1),.ls 1 Int encI (s.out 2),.ls 1 Int encI (s.out 3)]]⟩) (fun s=>(gq L r0 s∧(s.more=false→qF L s))∧True) (fun s=>2*fu L (n0 r0) s+(if s.more=true then 1 else 0)) ⟨r0,fun _=>[],true⟩ [] [.same 0,.same 1,.same 2] ?_ ?_ (fun s N=>?_)
 ·exact⟨⟨gq.start,fun h=>by cases h⟩,trivial⟩
 ·repeat' first|exact trivial|exact rfl|refine And.intro ?_ ?_
 obtain⟨⟨N,P⟩,-⟩:=N;(conv=>whnf);refine aW (fun y=>?_) (fun y=>?_)
 ·have y:s.more=true:=y;(conv=>whnf);refine lp (Nat×RS) (fun p=>⟨[(0,.c (.bp [.bp [.bs 6 Ob ak L],.bs 1 Bool aj (o 0),.bs 1 Bool aj (o 1),.bs 1 Bool aj (o 2),.bs 1 Bool aj (o 3),.bs 1 Int encI (b 0),.bs 1 Int encI (b 1),.bs 1 Int encI (b 2),.bs 1 Int encI (b 3)])),(3,.c (.ptr 0 0)),(4,.c (.ptr 1 0)),(5,.c (.ptr 2 0)),(6,.c (.bool p.2.more)),(12,.c (.int .i64 p.1))],[.box [.bs 1 Int encI (p.2.ro 0),.bs 1 Int encI (p.2.ro 1),.bs 1 Int encI (p.2.ro 2),.bs 1 Int encI (p.2.ro 3)],.box [.nil,.nil,.nil,.nil],.box [.ls 1 Int encI (p.2.out 0),.ls 1 Int encI (p.2.out 1),.ls 1 Int encI (p.2.out 2),.ls 1 Int encI (p.2.out 3)]]⟩) (fun p=>(p.1≤4∧iX L r0 (fu L (n0 r0) s) p.1 p.2)∧True) (fun p=>4-p.1) (0,⟨s.ro,s.out,false⟩) [] [.same 0,.same 1,.same 2] ?_ ?_ (fun⟨r,t⟩ D=>?_)
  ·exact⟨⟨Nat.zero_le _,iX.start N⟩,trivial⟩
  ·repeat' first|exact trivial|exact rfl|refine And.intro ?_ ?_
  obtain⟨⟨al,D⟩,-⟩:=D;have D:iX L r0 (fu L (n0 r0) s) r t:=D;(conv=>whnf);refine dec (fun O=>?_) (fun O=>?_)
  ·have E:r<4:=by have O:(r:Int)<4:=O;omega
   have z:=D.found g E;have am:=D.inv.len E;have hn:=M r E;have p1:=oN L g (t.ro r) (by omega);have W:=oL (l:=L) (ids:=t.ro r)
   have v:∀k∈aZ L (t.ro r),Nd L r0 r k:=fun k hk=>by
    obtain⟨x,h1,U⟩:=vu ((jk g).1 hk);exact D.inv.nd r E x h1 k U
   generalize aZ L (t.ro r)=all at p1 z v W;have p2:=Hj L g o b all (by omega);have ad:=vC g (ids:=all);have hQ:Qn r:=trivial;have Q:r+1≤4:=E;have hd:decide (((t.out r).length:Int)<all.length)=decide ((t.out r).length<all.length):=decide_eq_decide.2 (by omega);(conv=>whnf)
   rcases four E with rfl|rfl|rfl|rfl<;>(
    refine⟨false,.grow,(.l [0,1,2,3,4,5,6,7,8]),by kernel_rfl,.inl ?_⟩;(conv=>whnf);refine⟨_,⟨rfl,E⟩,?_⟩;(conv=>whnf);refine cl [] [] (p1) ?_;(conv=>whnf);refine aW (fun I=>?_) (fun I=>?_)
    ·have I:t.more=true:=I;rw[I,Bool.true_or]at z;(conv=>whnf);refine⟨_,⟨rfl,E⟩,?_⟩;(conv=>whnf);refine cl [] [] (p2) ?_;(conv=>whnf);refine oC hQ (Nat×RS) (fun q p=>⟨[(0,.c (.bp [.bp [.bs 6 Ob ak L],.bs 1 Bool aj (o 0),.bs 1 Bool aj (o 1),.bs 1 Bool aj (o 2),.bs 1 Bool aj (o 3),.bs 1 Int encI (b 0),.bs 1 Int encI (b 1),.bs 1 Int encI (b 2),.bs 1 Int encI (b 3)])),(3,.c (.ptr 0 0)),(4,.c (.ptr 1 0)),(5,.c (.ptr 2 0)),(6,.c (.bool p.2.more)),(12,.c (.int .i64 q)),(38,.c (.rw 3)),(39,.c (.int .i64 (cA L all).length)),(40,.c (.int .i64 p.1))],[.box [.bs 1 Int encI (p.2.ro 0),.bs 1 Int encI (p.2.ro 1),.bs 1 Int encI (p.2.ro 2),.bs 1 Int encI (p.2.ro 3)],.box [.nil,.nil,.nil,.nil],.box [.ls 1 Int encI (p.2.out 0),.ls 1 Int encI (p.2.out 1),.ls 1 Int encI (p.2.out 2),.ls 1 Int encI (p.2.out 3)],.row 2 (Int×Int) jE (cA L all)]⟩) (fun q p=>(p.1≤(cA L all).length∧iE L r0 (fu L (n0 r0) s) q all p.1 p.2)∧True) (fun p=>(cA L all).length-p.1) (0,_) [3] [.same 0,.same 1,.same 2,.same 4] ⟨⟨Nat.zero_le _,z⟩,trivial⟩ ?_ (fun⟨i,u⟩ f=>?_)
     ·repeat' first|exact trivial|exact rfl|refine And.intro ?_ ?_
     obtain⟨⟨Y,f⟩,-⟩:=f;dsimp only at Y f;(conv=>whnf);refine dec (fun m=>?_) (fun m=>?_)
     ·have a:i<(cA L all).length:=by have m:(i:Int)<(cA L all).length:=m;omega
      have w:(cA L all)[i]? =some (cA L all)[i]:=List.getElem?_eq_getElem a
      obtain⟨p,x,H,J⟩:∃(p:Nat) (x:Int),p<4∧(cA L all)[i]=((p:Int),x):=by
       obtain⟨k,k1,e,k2,k3,k4⟩:=r9.1 (List.getElem_mem a);have:=po g k2;exact⟨e.ar.toNat,e.id,by omega,by rw[k4,show((e.ar.toNat:Nat):Int)=e.ar by omega]⟩
      rw[J]at w;have K:(!df (u.ro p) x)=false→iE L r0 (fu L (n0 r0) s) _ all (i+1) u:=fun h=>f.skip a (by rw[J];exact eP.1 (by simpa using h));have d:=fun h:(!df (u.ro p) x)=true=>f.add g v H (x:=x) (by rw[←J];exact List.getElem_mem a) (fun y=>by rw[eP.2 y]at h;cases h);have R:=f.mid.inv.len H;have Z:=M p H;have S:=qY (u.ro p) (by omega);have p6:=gC (u.ro p) x;(conv=>whnf);refine⟨i,⟨rfl,a⟩,?_⟩;(conv=>whnf);refine⟨((p:Int),x),w,?_⟩
      rcases four H with rfl|rfl|rfl|rfl<;>(
       (conv=>whnf);refine⟨false,.grow,(.l [0,1,2,3,4,5,6,7]),by kernel_rfl,.inl ?_⟩;(conv=>whnf);refine⟨0,⟨rfl,by decide⟩,?_⟩;(conv=>whnf);refine⟨_,⟨rfl,by decide⟩,?_⟩;(conv=>whnf);refine⟨1,⟨rfl,by decide⟩,?_⟩;(conv=>whnf);refine cl [] [] (p6) ?_;(conv=>whnf);refine aW (fun F=>?_) (fun F=>?_)
       ·(conv=>whnf);refine⟨false,.fe [0,4],(.alt [0,1,2,3,4,5,7,8] [6,9] fun j=>bif Nat.beq j 6 then(.l [9,10,11,12])else bif Nat.beq j 9 then(.l [6,10,11,12])else .l []),by kernel_rfl,.inl ?_⟩;(conv=>whnf);refine⟨0,⟨rfl,by decide⟩,?_⟩;(conv=>whnf);refine⟨0,⟨rfl,by decide⟩,?_⟩;(conv=>whnf);refine⟨_,⟨rfl,by decide⟩,?_⟩;(conv=>whnf);refine⟨1,⟨rfl,by decide⟩,?_⟩;(conv=>whnf);refine And.intro ?_ ?_
        ·(conv=>whnf);refine cl [] [] (S) ?_;(conv=>whnf);refine⟨[x],rfl,?_⟩;(conv=>whnf);refine⟨_,_,rfl,rfl,(by simp only[List.length_append,List.length_cons,List.length_nil];omega),?_⟩;(conv=>whnf);refine⟨_,⟨rfl,by decide⟩,?_⟩;repeat'((conv=>whnf);refine I6 ?_)
         refine ag (i+1,_) [7] [.same 0,.same 1,.same 2,.same 3] ⟨⟨a,d F⟩,trivial⟩ (by simp only[];omega) ?_;repeat' first|exact trivial|exact rfl|refine And.intro ?_ ?_
        ·(conv=>whnf);refine⟨[x],rfl,?_⟩;(conv=>whnf);refine cl [] [] (S) ?_;(conv=>whnf);refine⟨_,_,rfl,rfl,(by simp only[List.length_append,List.length_cons,List.length_nil];omega),?_⟩;(conv=>whnf);refine⟨_,⟨rfl,by decide⟩,?_⟩;repeat'((conv=>whnf);refine I6 ?_)
         refine ag (i+1,_) [7] [.same 0,.same 1,.same 2,.same 3] ⟨⟨a,d F⟩,trivial⟩ (by simp only[];omega) ?_;repeat' first|exact trivial|exact rfl|refine And.intro ?_ ?_
       ·repeat'((conv=>whnf);refine I6 ?_)
        refine ag (i+1,u) [] [.same 0,.same 1,.same 2,.same 3] ⟨⟨a,K F⟩,trivial⟩ (by simp only[];omega) ?_;repeat' first|exact trivial|exact rfl|refine And.intro ?_ ?_)
     ·have m:¬(i:Int)<(cA L all).length:=m;repeat'((conv=>whnf);refine I6 ?_)
      refine ag (_+1,u) [] [.same 0,.same 1,.same 2] ⟨⟨Q,f.stop (by omega)⟩,trivial⟩ (by simp only[];omega) ?_;repeat' first|exact trivial|exact rfl|refine And.intro ?_ ?_
    ·have I:t.more=false:=I;rw[I,Bool.false_or,←hd]at z;(conv=>whnf);refine⟨_,⟨rfl,E⟩,?_⟩;(conv=>whnf);refine⟨_,⟨rfl,E⟩,?_⟩;(conv=>whnf);refine cl [] [] (p2) ?_;(conv=>whnf);refine oC hQ (Nat×RS) (fun q p=>⟨[(0,.c (.bp [.bp [.bs 6 Ob ak L],.bs 1 Bool aj (o 0),.bs 1 Bool aj (o 1),.bs 1 Bool aj (o 2),.bs 1 Bool aj (o 3),.bs 1 Int encI (b 0),.bs 1 Int encI (b 1),.bs 1 Int encI (b 2),.bs 1 Int encI (b 3)])),(3,.c (.ptr 0 0)),(4,.c (.ptr 1 0)),(5,.c (.ptr 2 0)),(6,.c (.bool p.2.more)),(12,.c (.int .i64 q)),(38,.c (.rw 3)),(39,.c (.int .i64 (cA L all).length)),(40,.c (.int .i64 p.1))],[.box [.bs 1 Int encI (p.2.ro 0),.bs 1 Int encI (p.2.ro 1),.bs 1 Int encI (p.2.ro 2),.bs 1 Int encI (p.2.ro 3)],.box [.nil,.nil,.nil,.nil],.box [.ls 1 Int encI (p.2.out 0),.ls 1 Int encI (p.2.out 1),.ls 1 Int encI (p.2.out 2),.ls 1 Int encI (p.2.out 3)],.row 2 (Int×Int) jE (cA L all)]⟩) (fun q p=>(p.1≤(cA L all).length∧iE L r0 (fu L (n0 r0) s) q all p.1 p.2)∧True) (fun p=>(cA L all).length-p.1) (0,_) [3] [.same 0,.same 1,.same 2,.same 4] ⟨⟨Nat.zero_le _,z⟩,trivial⟩ ?_ (fun⟨i,u⟩ f=>?_)
     ·repeat' first|exact trivial|exact rfl|refine And.intro ?_ ?_
     obtain⟨⟨Y,f⟩,-⟩:=f;dsimp only at Y f;(conv=>whnf);refine dec (fun m=>?_) (fun m=>?_)
     ·have a:i<(cA L all).length:=by have m:(i:Int)<(cA L all).length:=m;omega
      have w:(cA L all)[i]? =some (cA L all)[i]:=List.getElem?_eq_getElem a
      obtain⟨p,x,H,J⟩:∃(p:Nat) (x:Int),p<4∧(cA L all)[i]=((p:Int),x):=by
       obtain⟨k,k1,e,k2,k3,k4⟩:=r9.1 (List.getElem_mem a);have:=po g k2;exact⟨e.ar.toNat,e.id,by omega,by rw[k4,show((e.ar.toNat:Nat):Int)=e.ar by omega]⟩
      rw[J]at w;have K:(!df (u.ro p) x)=false→iE L r0 (fu L (n0 r0) s) _ all (i+1) u:=fun h=>f.skip a (by rw[J];exact eP.1 (by simpa using h));have d:=fun h:(!df (u.ro p) x)=true=>f.add g v H (x:=x) (by rw[←J];exact List.getElem_mem a) (fun y=>by rw[eP.2 y]at h;cases h);have R:=f.mid.inv.len H;have Z:=M p H;have S:=qY (u.ro p) (by omega);have p6:=gC (u.ro p) x;(conv=>whnf);refine⟨i,⟨rfl,a⟩,?_⟩;(conv=>whnf);refine⟨((p:Int),x),w,?_⟩
      rcases four H with rfl|rfl|rfl|rfl<;>(
       (conv=>whnf);refine⟨false,.grow,(.l [0,1,2,3,4,5,6,7]),by kernel_rfl,.inl ?_⟩;(conv=>whnf);refine⟨0,⟨rfl,by decide⟩,?_⟩;(conv=>whnf);refine⟨_,⟨rfl,by decide⟩,?_⟩;(conv=>whnf);refine⟨1,⟨rfl,by decide⟩,?_⟩;(conv=>whnf);refine cl [] [] (p6) ?_;(conv=>whnf);refine aW (fun F=>?_) (fun F=>?_)
       ·(conv=>whnf);refine⟨false,.fe [0,4],(.alt [0,1,2,3,4,5,7,8] [6,9] fun j=>bif Nat.beq j 6 then(.l [9,10,11,12])else bif Nat.beq j 9 then(.l [6,10,11,12])else .l []),by kernel_rfl,.inl ?_⟩;(conv=>whnf);refine⟨0,⟨rfl,by decide⟩,?_⟩;(conv=>whnf);refine⟨0,⟨rfl,by decide⟩,?_⟩;(conv=>whnf);refine⟨_,⟨rfl,by decide⟩,?_⟩;(conv=>whnf);refine⟨1,⟨rfl,by decide⟩,?_⟩;(conv=>whnf);refine And.intro ?_ ?_
        ·(conv=>whnf);refine cl [] [] (S) ?_;(conv=>whnf);refine⟨[x],rfl,?_⟩;(conv=>whnf);refine⟨_,_,rfl,rfl,(by simp only[List.length_append,List.length_cons,List.length_nil];omega),?_⟩;(conv=>whnf);refine⟨_,⟨rfl,by decide⟩,?_⟩;repeat'((conv=>whnf);refine I6 ?_)
         refine ag (i+1,_) [7] [.same 0,.same 1,.same 2,.same 3] ⟨⟨a,d F⟩,trivial⟩ (by simp only[];omega) ?_;repeat' first|exact trivial|exact rfl|refine And.intro ?_ ?_
        ·(conv=>whnf);refine⟨[x],rfl,?_⟩;(conv=>whnf);refine cl [] [] (S) ?_;(conv=>whnf);refine⟨_,_,rfl,rfl,(by simp only[List.length_append,List.length_cons,List.length_nil];omega),?_⟩;(conv=>whnf);refine⟨_,⟨rfl,by decide⟩,?_⟩;repeat'((conv=>whnf);refine I6 ?_)
         refine ag (i+1,_) [7] [.same 0,.same 1,.same 2,.same 3] ⟨⟨a,d F⟩,trivial⟩ (by simp only[];omega) ?_;repeat' first|exact trivial|exact rfl|refine And.intro ?_ ?_
       ·repeat'((conv=>whnf);refine I6 ?_)
        refine ag (i+1,u) [] [.same 0,.same 1,.same 2,.same 3] ⟨⟨a,K F⟩,trivial⟩ (by simp only[];omega) ?_;repeat' first|exact trivial|exact rfl|refine And.intro ?_ ?_)
     ·have m:¬(i:Int)<(cA L all).length:=m;repeat'((conv=>whnf);refine I6 ?_)
      refine ag (_+1,u) [] [.same 0,.same 1,.same 2] ⟨⟨Q,f.stop (by omega)⟩,trivial⟩ (by simp only[];omega) ?_;repeat' first|exact trivial|exact rfl|refine And.intro ?_ ?_)
  ·obtain rfl:r=4:=by have O:¬(r:Int)<4:=O;omega
   skip;refine ag t [] [.same 0,.same 1,.same 2] ⟨⟨D.inv,fun h=>D.fin h⟩,trivial⟩ ?_ ?_
   ·have h1:=D.le;have U:=D.lt;simp only[y,if_true];split
    ·rename_i h3;have:=U h3;omega
    ·omega
   ·repeat' first|exact trivial|exact rfl|refine And.intro ?_ ?_
 ·have y:s.more=false:=y;have T:=P y;rw[←T.cd g N (r:=0) (by decide),←T.cd g N (r:=1) (by decide),←T.cd g N (r:=2) (by decide),←T.cd g N (r:=3) (by decide)];(conv=>whnf);exact rx [] []
end Go.Nest
end
section
namespace Go.Nest
open Go Go.AM
noncomputable def kB(b:Nat→List Int)(cd:Nat→List Int)(q:Nat)(k:Int):Bool:=(List.range 4).any fun r:Nat=>decide ((q:Int)∈cR b r)&&decide (k∈cd r)
def mI(p:Nat→Bool)(l:List Bool):List Bool:=l.mapIdx fun j v=>v&&p j
noncomputable def iT(L:List Ob)(o:Nat→List Bool)(b r0:Nat→List Int):Nat→List Bool:=fun q=>mI (fun k=>kB b (fX L r0) q (k:Int)) (o q)
theorem J9{p:Nat→Bool}{l:List Bool}:(mI p l).length=l.length:=by unfold mI;rw[List.length_mapIdx]
theorem rX{b:Nat→List Int}(hb:gh b){r:Int}(h:bw r=true):(cR b r).Nodup∧(∀x∈cR b r,0≤x∧x<(4:Nat)):=by
 suffices∀n i out,5-i≤n→gn b r i out→(cR b r).Nodup∧(∀x∈cR b r,0≤x∧x<(4:Nat))from this 5 0 [r] (Nat.le_refl _) (gn.start h);intro n;induction n with
 |zero=>
  intro i out d a;have:=a.len;have:=a.le;omega
 |succ n ih=>
  intro i out d a;by_cases c:i<out.length
  ·exact ih (i+1) _ (by omega) (a.next hb c)
  ·rw[a.stop c];exact⟨a.nd,a.all⟩
theorem G7{b:Nat→List Int}(hb:gh b){r:Int}(h:bw r=true):(cR b r).length≤4:=iR 4 (rX hb h).1 (rX hb h).2
structure KI(b cd:Nat→List Int)(r i:Nat)(k:Nat→List Int):Prop where
 len:∀q,q<4→(k q).length≤600*(4*r+i)
 mem:∀q,q<4→∀x,x∈k q↔(∃r',r'<r∧(q:Int)∈cR b r'∧x∈cd r')∨((q:Int)∈(cR b r).take i∧x∈cd r)
theorem KI.start{b cd:Nat→List Int}:KI b cd 0 0 fun _=>[]:=by
 refine⟨fun q a=>Nat.zero_le _,fun q a x=>⟨fun h=>(by cases h),fun h=>?_⟩⟩;rcases h with⟨c,h,_⟩|⟨h,_⟩
 ·omega
 ·rw[List.take_zero]at h;cases h
theorem KI.step{b cd:Nat→List Int}{r i q:Nat}{k:Nat→List Int}(h:KI b cd r i k)(hi:i<(cR b r).length)(hq:(cR b r)[i]=(q:Int))(d:q<4)(hn:(cd r).length≤600):KI b cd r (i+1) (ax k q (k q++cd r)):=by
 refine⟨fun j c=>?_,fun j c x=>?_⟩
 ·by_cases e:j=q
  ·subst e;rw[ee,List.length_append];have:=h.len j c;omega
  ·rw[iy e];have:=h.len j c;omega
 ·rw[List.take_succ_eq_append_getElem hi,hq,List.mem_append,List.mem_singleton];by_cases e:j=q
  ·subst e;rw[ee,List.mem_append,h.mem j c x];constructor
   ·rintro((h1|h1)|h1)
    ·exact .inl h1
    ·exact .inr ⟨.inl h1.1,h1.2⟩
    ·exact .inr ⟨.inr rfl,h1⟩
   ·rintro(h1|⟨h1|h1,a⟩)
    ·exact .inl (.inl h1)
    ·exact .inl (.inr ⟨h1,a⟩)
    ·exact .inr a
  ·rw[iy e,h.mem j c x];constructor
   ·rintro(h1|⟨h1,a⟩)
    ·exact .inl h1
    ·exact .inr ⟨.inl h1,a⟩
   ·rintro(h1|⟨h1|h1,a⟩)
    ·exact .inl h1
    ·exact .inr ⟨h1,a⟩
    ·exact absurd (by omega) e
theorem KI.next{b cd:Nat→List Int}{r i:Nat}{k:Nat→List Int}(h:KI b cd r i k)(hi:¬i<(cR b r).length)(e:i≤4):KI b cd (r+1) 0 k:=by
 refine⟨fun q c=>?_,fun q c x=>?_⟩
 ·have:=h.len q c;omega
 ·rw[h.mem q c x,List.take_zero,List.take_of_length_le (by omega)];constructor
  ·rintro(⟨d,h1,a⟩|h1)
   ·exact .inl ⟨d,by omega,a⟩
   ·exact .inl ⟨r,by omega,h1⟩
  ·rintro(⟨d,h1,a⟩|⟨h1,_⟩)
   ·rcases Nat.lt_succ_iff_lt_or_eq.1 h1 with h1|rfl
    ·exact .inl ⟨d,h1,a⟩
    ·exact .inr a
   ·cases h1
theorem KI.fin{b cd:Nat→List Int}{k:Nat→List Int}(h:KI b cd 4 0 k){q:Nat}(hq:q<4)(x:Int):df (k q) x=kB b cd q x:=by
 rw[Bool.eq_iff_iff,eP,h.mem q hq x];unfold kB;rw[List.any_eq_true,List.take_zero];constructor
 ·rintro(⟨d,a,c,e⟩|⟨a,_⟩)
  ·exact⟨d,by simpa using a,by simpa using⟨c,e⟩⟩
  ·cases a
 ·rintro⟨d,a,c⟩;exact .inl ⟨d,by simpa using a,by simpa using c⟩
structure iY(p:Nat→Bool)(l x:List Bool)(k:Nat):Prop where
 len:x.length=l.length
 ati:∀j,x[j]? =if j<k then(l[j]?).map fun v=>v&&p j else l[j]?
theorem iY.start{p:Nat→Bool}{l:List Bool}:iY p l l 0:=⟨rfl,fun j=>by rw[if_neg (Nat.not_lt_zero _)]⟩
theorem iY.get{p:Nat→Bool}{l x:List Bool}{k:Nat}(h:iY p l x k)(hk:k<l.length):x[k]? =some l[k]:=by
 rw[h.ati k,if_neg (Nat.lt_irrefl _),List.getElem?_eq_getElem hk]
theorem iY.step{p:Nat→Bool}{l x:List Bool}{k:Nat}(h:iY p l x k)(hk:k<l.length):iY p l (x.set k (l[k]&&p k)) (k+1):=by
 refine⟨by rw[List.length_set];exact h.len,fun j=>?_⟩;have b:=h.len;rw[List.getElem?_set];by_cases e:k=j
 ·subst e;rw[if_pos rfl,if_pos (by omega),if_pos (by omega),List.getElem?_eq_getElem hk];rfl
 ·rw[if_neg e,h.ati j];by_cases a:j<k
  ·rw[if_pos a,if_pos (by omega)]
  ·rw[if_neg a,if_neg (by omega)]
theorem iY.fin{p:Nat→Bool}{l x:List Bool}{k:Nat}(h:iY p l x k)(hk:¬k<l.length):x=mI p l:=by
 refine List.ext_getElem? fun j=>?_;rw[h.ati j];unfold mI;rw[List.getElem?_mapIdx];split
 ·rfl
 ·rw[List.getElem?_eq_none (by omega)];rfl
def OI(L:List Ob)(o:Nat→List Bool)(b r0:Nat→List Int)(r:Nat)(x:Nat→List Bool):Prop:=∀q,q<4→x q=if q<r then iT L o b r0 q else o q
theorem OI.start{L:List Ob}{o:Nat→List Bool}{b r0:Nat→List Int}:OI L o b r0 0 o:=fun q a=>by rw[if_neg (Nat.not_lt_zero _)]
theorem OI.here{L:List Ob}{o:Nat→List Bool}{b r0:Nat→List Int}{r:Nat}{x:Nat→List Bool}(h:OI L o b r0 r x)(hr:r<4):x r=o r:=by rw[h r hr,if_neg (Nat.lt_irrefl _)]
theorem OI.next{L:List Ob}{o:Nat→List Bool}{b r0:Nat→List Int}{r:Nat}{x:Nat→List Bool}(h:OI L o b r0 r x)(hr:r<4):OI L o b r0 (r+1) (ax x r (iT L o b r0 r)):=fun q c=>by
 by_cases e:q=r
 ·subst e;rw[ee,if_pos (by omega)]
 ·rw[iy e,h q c];by_cases a:q<r
  ·rw[if_pos a,if_pos (by omega)]
  ·rw[if_neg a,if_neg (by omega)]
theorem OI.fin{L:List Ob}{o:Nat→List Bool}{b r0:Nat→List Int}{x:Nat→List Bool}(h:OI L o b r0 4 x){q:Nat}(hq:q<4):x q=iT L o b r0 q:=by rw[h q hq,if_pos hq]
theorem HQ{L:List Ob}{r0:Nat→List Int}{r:Nat}:(fX L r0 r).length≤L.length:=by
 unfold fX;rw[List.length_map];exact Nat.le_trans (List.length_filter_le _ _) (by rw[List.length_range];exact Nat.le_refl _)
end Go.Nest
end
section
namespace Go.Nest
open Go Go.AM Go.Proofs
open Go.Proofs.YtpechfcbnoggfaaGreatDoor (tab tabOk)
set_option maxRecDepth 4000
def I2(q a:Nat):List Rn:=(List.range 18).map fun i=>bif Nat.beq i (13+q)then .same a else .same i
theorem AO{i n:Nat}(h:(i:Int)<(n:Int)):i<n:=by omega
set_option maxHeartbeats 20000000 in
theorem Ka(L:List Ob)(K:ae L)(o:Nat→List Bool)(b r0:Nat→List Int)(D:gh b)(ho:∀k,k<4→(o k).length≤1000000)(U:∀r,r<4→(r0 r).length≤100000):ai Tryz.prog 66 [.c (.ptr 0 0),.st [.bs 1 Int encI (r0 0),.bs 1 Int encI (r0 1),.bs 1 Int encI (r0 2),.bs 1 Int encI (r0 3)]] [.box [.ptr 1 0,.rw 3,.rw 4,.rw 5,.rw 6,.rw 7,.rw 8,.rw 9,.rw 10],.box [.rw 2],.row 6 Ob ak L,.row 1 Bool aj (o 0),.row 1 Bool aj (o 1),.row 1 Bool aj (o 2),.row 1 Bool aj (o 3),.row 1 Int encI (b 0),.row 1 Int encI (b 1),.row 1 Int encI (b 2),.row 1 Int encI (b 3)] (Rt (.aL []) [.box [.ptr 1 0,.rw 3,.rw 4,.rw 5,.rw 6,.rw 7,.rw 8,.rw 9,.rw 10],.box [.rw 2],.row 6 Ob ak L,.row 1 Bool aj ((iT L o b r0) 0),.row 1 Bool aj ((iT L o b r0) 1),.row 1 Bool aj ((iT L o b r0) 2),.row 1 Bool aj ((iT L o b r0) 3),.row 1 Int encI (b 0),.row 1 Int encI (b 1),.row 1 Int encI (b 2),.row 1 Int encI (b 3)]):=by
 have Z:=K.len;have p1:=HP L K o b r0 U;have H:∀r,(fX L r0 r).length≤600:=fun r=>Nat.le_trans HQ K.len;have al:=fun x (h:OI L o b r0 4 x) q hq=>OI.fin h (q:=q) hq;have ad:∀r x,OI L o b r0 r x=OI L o b r0 r x:=fun _ _=>rfl;have I:∀q,iT L o b r0 q=mI (fun k=>kB b (fX L r0) q (k:Int)) (o q):=fun q=>rfl;generalize S:fX L r0=cd at p1 H I;refine an (n:=75) (n0:=11) tabOk Tryz.call66 Tryz.func66 ?_;intro hb;(conv=>whnf);refine cl [] [] (p1) ?_;(conv=>whnf);refine lp (Nat×(Nat→List Int)) (fun p=>⟨[(0,.c (.ptr 0 0)),(4,.c (.ptr 11 0)),(5,.c (.ptr 12 0)),(14,.c (.int .i64 p.1))],[.box [.ptr 1 0,.rw 3,.rw 4,.rw 5,.rw 6,.rw 7,.rw 8,.rw 9,.rw 10],.box [.rw 2],.row 6 Ob ak L,.row 1 Bool aj (o 0),.row 1 Bool aj (o 1),.row 1 Bool aj (o 2),.row 1 Bool aj (o 3),.row 1 Int encI (b 0),.row 1 Int encI (b 1),.row 1 Int encI (b 2),.row 1 Int encI (b 3)]++[.box [.ls 1 Int encI (cd 0),.ls 1 Int encI (cd 1),.ls 1 Int encI (cd 2),.ls 1 Int encI (cd 3)],.box [.rw 13,.rw 14,.rw 15,.rw 16],.row 1 Int encI (p.2 0),.row 1 Int encI (p.2 1),.row 1 Int encI (p.2 2),.row 1 Int encI (p.2 3)]⟩) (fun p=>(p.1≤4∧KI b cd p.1 0 p.2)∧True) (fun p=>4-p.1) (0,fun _=>[]) [] [.same 0,.same 1,.same 2,.same 3,.same 4,.same 5,.same 6,.same 7,.same 8,.same 9,.same 10,.same 12,.same 13,.new,.new,.new,.new] ⟨⟨Nat.zero_le _,KI.start⟩,trivial⟩ ?_ (fun⟨r,k⟩ f=>?_)
 ·repeat' first|exact trivial|exact rfl|refine And.intro ?_ ?_
 obtain⟨⟨W,f⟩,-⟩:=f;have f:KI b cd r 0 k:=f;(conv=>whnf);refine dec (fun m=>?_) (fun m=>?_)
 ·have d:r<4:=by have m:(r:Int)<4:=m;omega
  have M:Qn r:=trivial;have E:r+1≤4:=d;have R:=rX D (r:=(r:Int)) (bZ.2 ⟨r,d,rfl⟩);have ac:=G7 D (r:=(r:Int)) (bZ.2 ⟨r,d,rfl⟩);have p2:=vw L o b D (r:Int) (bZ.2 ⟨r,d,rfl⟩);have T:=H r
  have one:∀i k,KI b cd r i k→(i:Int)<(cR b r).length→∃(_:i<(cR b r).length) (p:Nat),p<4∧(cR b r)[i]? =some (p:Int)∧KI b cd r (i+1) (ax k p (k p++cd r)):=fun i k f s=>by
   have a:=AO s;have:=R.2 _ (List.getElem_mem a);have e:(cR b r)[i]=(((cR b r)[i]).toNat:Int):=by omega
   exact⟨a,((cR b r)[i]).toNat,by omega,by rw[List.getElem?_eq_getElem a,←e],f.step a e (by omega) T⟩
  rcases four d with rfl|rfl|rfl|rfl<;>(
   (conv=>whnf);refine cl [] [] (p2) ?_;(conv=>whnf);refine oC M (Nat×(Nat→List Int)) (fun r p=>⟨[(0,.c (.ptr 0 0)),(4,.c (.ptr 11 0)),(5,.c (.ptr 12 0)),(14,.c (.int .i64 r)),(6,.c (.int .i64 r)),(19,.c (.rw 17)),(20,.c (.int .i64 (cR b r).length)),(21,.c (.int .i64 p.1))],[.box [.ptr 1 0,.rw 3,.rw 4,.rw 5,.rw 6,.rw 7,.rw 8,.rw 9,.rw 10],.box [.rw 2],.row 6 Ob ak L,.row 1 Bool aj (o 0),.row 1 Bool aj (o 1),.row 1 Bool aj (o 2),.row 1 Bool aj (o 3),.row 1 Int encI (b 0),.row 1 Int encI (b 1),.row 1 Int encI (b 2),.row 1 Int encI (b 3)]++[.box [.ls 1 Int encI (cd 0),.ls 1 Int encI (cd 1),.ls 1 Int encI (cd 2),.ls 1 Int encI (cd 3)],.box [.rw 13,.rw 14,.rw 15,.rw 16],.row 1 Int encI (p.2 0),.row 1 Int encI (p.2 1),.row 1 Int encI (p.2 2),.row 1 Int encI (p.2 3)]++[.row 1 Int encI (cR b r)]⟩) (fun r p=>(p.1≤(cR b r).length∧KI b cd r p.1 p.2)∧True) (fun p=>4-p.1) (0,k) [] [.same 0,.same 1,.same 2,.same 3,.same 4,.same 5,.same 6,.same 7,.same 8,.same 9,.same 10,.same 11,.same 12,.same 13,.same 14,.same 15,.same 16,.same 17] ⟨⟨Nat.zero_le _,f⟩,trivial⟩ ?_ (fun⟨i,k⟩ f=>?_)
   ·repeat' first|exact trivial|exact rfl|refine And.intro ?_ ?_
   obtain⟨⟨N,f⟩,-⟩:=f;dsimp only at N f;(conv=>whnf);refine dec (fun s=>?_) (fun s=>?_)
   ·obtain⟨a,p,hp,O,g⟩:=one i k f s;have Q:=f.len p hp;(conv=>whnf);refine⟨i,⟨rfl,a⟩,?_⟩;(conv=>whnf);refine⟨(p:Int),O,?_⟩;have hP:Qn p:=trivial
    rcases four hp with rfl|rfl|rfl|rfl<;>(
     (conv=>whnf);refine⟨false,.grow,(.l [0,1,2,3,4,5,6,7,8,9]),by kernel_rfl,.inl ?_⟩;(conv=>whnf);refine⟨_,⟨rfl,by decide⟩,?_⟩;(conv=>whnf);refine⟨_,⟨rfl,d⟩,?_⟩;(conv=>whnf);refine⟨_,_,rfl,rfl,(by simp only[List.length_append,List.length_cons,List.length_nil];omega),?_⟩;(conv=>whnf);refine⟨_,⟨rfl,by decide⟩,?_⟩;repeat'((conv=>whnf);refine I6 ?_)
     refine qK hP (i+1,_) [] (fun p=>I2 p 18) ⟨⟨a,g⟩,trivial⟩ (by simp only[];omega) ?_;repeat' first|exact trivial|exact rfl|refine And.intro ?_ ?_)
   ·repeat'((conv=>whnf);refine I6 ?_)
    refine ag (_+1,k) [] [.same 0,.same 1,.same 2,.same 3,.same 4,.same 5,.same 6,.same 7,.same 8,.same 9,.same 10,.same 11,.same 12,.same 13,.same 14,.same 15,.same 16] ⟨⟨E,f.next (fun h=>s (by omega)) (by omega)⟩,trivial⟩ (by simp only[];omega) ?_;repeat' first|exact trivial|exact rfl|refine And.intro ?_ ?_)
 ·obtain rfl:r=4:=by have m:¬(r:Int)<4:=m;omega
  (conv=>whnf);refine lp (Nat×(Nat→List Bool)) (fun p=>⟨[(0,.c (.ptr 0 0)),(5,.c (.ptr 11 0)),(36,.c (.int .i64 p.1))],[.box [.ptr 1 0,.rw 3,.rw 4,.rw 5,.rw 6,.rw 7,.rw 8,.rw 9,.rw 10],.box [.rw 2],.row 6 Ob ak L,.row 1 Bool aj (p.2 0),.row 1 Bool aj (p.2 1),.row 1 Bool aj (p.2 2),.row 1 Bool aj (p.2 3),.row 1 Int encI (b 0),.row 1 Int encI (b 1),.row 1 Int encI (b 2),.row 1 Int encI (b 3)]++[.box [.ls 1 Int encI (k 0),.ls 1 Int encI (k 1),.ls 1 Int encI (k 2),.ls 1 Int encI (k 3)]]⟩) (fun p=>(p.1≤4∧OI L o b r0 p.1 p.2)∧True) (fun p=>4-p.1) (0,o) [13,14,15,16] [.same 0,.same 1,.same 2,.same 3,.same 4,.same 5,.same 6,.same 7,.same 8,.same 9,.same 10,.same 12] ⟨⟨Nat.zero_le _,OI.start⟩,trivial⟩ ?_ (fun⟨r,x⟩ t=>?_)
  ·repeat' first|exact trivial|exact rfl|refine And.intro ?_ ?_
  obtain⟨⟨W,t⟩,-⟩:=t;have t:OI L o b r0 r x:=t;(conv=>whnf);refine dec (fun m=>?_) (fun m=>?_)
  ·have d:r<4:=by have m:(r:Int)<4:=m;omega
   have M:Qn r:=trivial;have E:r+1≤4:=d;have hq:=ho r d;have Y:=t.here d;have Q:=f.len r d;have p3:=fun i:Nat=>gC (k r) (i:Int);have P:=fun z=>f.fin d z;simp only[P]at p3
   have F:∀i y,iY (fun j=>kB b cd r (j:Int)) (o r) y i→¬(i:Int)<(o r).length→OI L o b r0 (r+1) (ax x r y):=fun i y u s=>by
    rw[u.fin (fun h=>s (by omega)),←I r];exact t.next d
   rcases four d with rfl|rfl|rfl|rfl<;>(
    (conv=>whnf);refine⟨_,⟨rfl,d⟩,?_⟩;(conv=>whnf);refine oC M (Nat×List Bool) (fun q p=>⟨[(0,.c (.ptr 0 0)),(5,.c (.ptr 11 0)),(36,.c (.int .i64 q)),(9,.c (.int .i64 q)),(45,.c (.int .i64 (o q).length)),(46,.c (.int .i64 p.1))],[.box [.ptr 1 0,.rw 3,.rw 4,.rw 5,.rw 6,.rw 7,.rw 8,.rw 9,.rw 10],.box [.rw 2],.row 6 Ob ak L,.row 1 Bool aj ((ax x q p.2) 0),.row 1 Bool aj ((ax x q p.2) 1),.row 1 Bool aj ((ax x q p.2) 2),.row 1 Bool aj ((ax x q p.2) 3),.row 1 Int encI (b 0),.row 1 Int encI (b 1),.row 1 Int encI (b 2),.row 1 Int encI (b 3)]++[.box [.ls 1 Int encI (k 0),.ls 1 Int encI (k 1),.ls 1 Int encI (k 2),.ls 1 Int encI (k 3)]]⟩) (fun q p=>(p.1≤(o q).length∧iY (fun j=>kB b cd q (j:Int)) (o q) p.2 p.1)∧True) (fun p=>1000000-p.1) (0,_) [] [.same 0,.same 1,.same 2,.same 3,.same 4,.same 5,.same 6,.same 7,.same 8,.same 9,.same 10,.same 11] ⟨⟨Nat.zero_le _,iY.start⟩,trivial⟩ ?_ (fun⟨i,y⟩ u=>?_)
    ·rw[←Y];repeat' first|exact trivial|exact rfl|refine And.intro ?_ ?_
    obtain⟨⟨N,u⟩,-⟩:=u;dsimp only at N u;(conv=>whnf);refine dec (fun s=>?_) (fun s=>?_)
    ·have a:=AO s;have w:=u.get a;have g:=u.step a;have am:=u.len;obtain⟨v,hv⟩:∃v,v=(o _)[i]:=⟨_,rfl⟩;rw[←hv]at w g;(conv=>whnf);refine⟨false,.grow,(.l [0,1,2,3,4,5,6,7,8,9,10,11,12,13,14,15,16,17,18,19,20,21,22,23,24]),by kernel_rfl,.inl ?_⟩;(conv=>whnf);refine⟨_,⟨rfl,d⟩,?_⟩;(conv=>whnf);refine⟨_,⟨rfl,d⟩,?_⟩;(conv=>whnf);refine⟨i,⟨rfl,(show i<y.length by omega)⟩,?_⟩;(conv=>whnf);refine⟨v,w,?_⟩;(conv=>whnf);refine aW (fun J=>?_) (fun J=>?_)
     ·rw[J,Bool.true_and]at g;(conv=>whnf);refine⟨_,⟨rfl,d⟩,?_⟩;(conv=>whnf);refine cl [] [] (p3 i) ?_;(conv=>whnf);refine⟨i,⟨rfl,(show i<y.length by omega)⟩,?_⟩;(conv=>whnf);refine⟨_,_,w,⟨Nat.le_refl 1,rfl⟩,?_⟩;repeat'((conv=>whnf);refine I6 ?_)
      refine ag (i+1,_) [] [.same 0,.same 1,.same 2,.same 3,.same 4,.same 5,.same 6,.same 7,.same 8,.same 9,.same 10,.same 11] ⟨⟨a,g⟩,trivial⟩ (by simp only[];omega) ?_;repeat' first|exact trivial|exact rfl|refine And.intro ?_ ?_
     ·rw[J,Bool.false_and]at g;(conv=>whnf);refine⟨i,⟨rfl,(show i<y.length by omega)⟩,?_⟩;(conv=>whnf);refine⟨_,_,w,⟨Nat.le_refl 1,rfl⟩,?_⟩;repeat'((conv=>whnf);refine I6 ?_)
      refine ag (i+1,_) [] [.same 0,.same 1,.same 2,.same 3,.same 4,.same 5,.same 6,.same 7,.same 8,.same 9,.same 10,.same 11] ⟨⟨a,g⟩,trivial⟩ (by simp only[];omega) ?_;repeat' first|exact trivial|exact rfl|refine And.intro ?_ ?_
    ·repeat'((conv=>whnf);refine I6 ?_)
     refine ag (_+1,_) [] [.same 0,.same 1,.same 2,.same 3,.same 4,.same 5,.same 6,.same 7,.same 8,.same 9,.same 10,.same 11] ⟨⟨E,F i y u s⟩,trivial⟩ (by simp only[];omega) ?_;repeat' first|exact trivial|exact rfl|refine And.intro ?_ ?_)
  ·obtain rfl:r=4:=by have m:¬(r:Int)<4:=m;omega
   rw[←t.fin (q:=0) (by decide),←t.fin (q:=1) (by decide),←t.fin (q:=2) (by decide),←t.fin (q:=3) (by decide)];(conv=>whnf);exact rx [] [.same 0,.same 1,.same 2,.same 3,.same 4,.same 5,.same 6,.same 7,.same 8,.same 9,.same 10]
end Go.Nest
end
section
namespace Go.Nest
open Go Go.AM Go.Proofs
open Go.Proofs.YtpechfcbnoggfaaGreatDoor (tab tabOk)
set_option maxRecDepth 4000
def dX(b:Nat→List Int)(r q:Int):Int:=if bw r=false∨bw q=false then 1 else if df (cR b q) r=true then 10 else if df (b r.toNat) q=true then 11 else 0
def cW(b:Nat→List Int)(r q:Int):Nat→List Int:=if dX b r q≠0 then b else ax b r.toNat (b r.toNat++[q])
structure mL(b:Nat→List Int):Prop where
 ok:gh b
 nd:∀i,i<4→(b i).Nodup
theorem mL.nil:mL fun _=>[]:=⟨fun i h=>⟨Nat.zero_le _,fun q a=>by cases a⟩,fun i h=>List.nodup_nil⟩
theorem mL.dW{b:Nat→List Int}(h:mL b)(r q:Int):mL (cW b r q):=by
 unfold cW;split
 ·exact h
 ·rename_i a;have a:dX b r q=0:=Decidable.not_not.1 a;unfold dX at a;split at a
  ·cases a
  rename_i m;split at a
  ·cases a
  split at a
  ·cases a
  rename_i n;have v:bw r=true:=by cases e:bw r with|true=>rfl|false=>exact absurd (.inl e) m
  have u:bw q=true:=by cases e:bw q with|true=>rfl|false=>exact absurd (.inr e) m
  obtain⟨k,o,rfl⟩:=bZ.1 v;obtain⟨j,w,rfl⟩:=bZ.1 u;rw[Int.toNat_natCast]at n⊢;have l:(j:Int)∉b k:=fun t=>n (eP.2 t)
  have d:(b k++[(j:Int)]).Nodup:=by
   rw[List.nodup_append];exact⟨h.nd k o,by simp,fun x hx y s=>by rw[List.mem_singleton]at s;subst s;exact fun e=>l (e▸hx)⟩
  have c:∀x∈b k++[(j:Int)],0≤x∧x<(4:Nat):=fun x hx=>by
   rcases List.mem_append.1 hx with hx|hx
   ·exact(h.ok k o).2 x hx
   ·rw[List.mem_singleton]at hx;subst hx;omega
  have p:∀i,ax b k (b k++[(j:Int)]) i=if i=k then b k++[(j:Int)]else b i:=fun i=>by
   unfold ax;by_cases e:i=k
   ·subst e;rw[Nat.beq_refl,if_pos rfl];rfl
   ·rw[if_neg e]
    have:Nat.beq i k=false:=by
     cases f:Nat.beq i k with
     |false=>rfl
     |true=>exact absurd (Nat.eq_of_beq_eq_true f) e
    rw[this];rfl
  refine⟨fun i g=>?_,fun i g=>?_⟩
  ·rw[p];split
   ·exact⟨iR 4 d c,c⟩
   ·exact h.ok i g
  ·rw[p];split
   ·exact d
   ·exact h.nd i g
set_option maxHeartbeats 4000000 in
theorem Ds(L:List Ob)(o:Nat→List Bool)(b:Nat→List Int)(d:gh b)(r q:Int):ai Tryz.prog 64 [.c (.ptr 0 0),.c (.int .i64 r),.c (.int .i64 q)] [.box [.ptr 1 0,.rw 3,.rw 4,.rw 5,.rw 6,.rw 7,.rw 8,.rw 9,.rw 10],.box [.rw 2],.row 6 Ob ak L,.row 1 Bool aj (o 0),.row 1 Bool aj (o 1),.row 1 Bool aj (o 2),.row 1 Bool aj (o 3),.row 1 Int encI (b 0),.row 1 Int encI (b 1),.row 1 Int encI (b 2),.row 1 Int encI (b 3)] (Rt (.c (.int .i64 (dX b r q))) [.box [.ptr 1 0,.rw 3,.rw 4,.rw 5,.rw 6,.rw 11,.rw 12,.rw 13,.rw 14],.box [.rw 2],.row 6 Ob ak L,.row 1 Bool aj (o 0),.row 1 Bool aj (o 1),.row 1 Bool aj (o 2),.row 1 Bool aj (o 3),.dead,.dead,.dead,.dead,.row 1 Int encI ((cW b r q) 0),.row 1 Int encI ((cW b r q) 1),.row 1 Int encI ((cW b r q) 2),.row 1 Int encI ((cW b r q) 3)]):=by
 have m:=nu r;have p:=nu q;refine an (n:=45) (n0:=11) tabOk Tryz.call64 Tryz.func64 ?_;intro hb;cases h:bw r with
 |false=>
  rw[h]at m;have e:dX b r q=1:=by unfold dX;rw[h];rfl
  rw[show cW b r q=b by unfold cW;rw[e];rfl,e];(conv=>whnf);refine cl [] [] (m) ?_;(conv=>whnf);exact rx [] [.same 0,.same 1,.same 2,.same 3,.same 4,.same 5,.same 6,.same 7,.same 8,.same 9,.same 10,.same 7,.same 8,.same 9,.same 10]
 |true=>
  rw[h]at m;cases j:bw q with
  |false=>
   rw[j]at p;have e:dX b r q=1:=by unfold dX;rw[h,j];rfl
   rw[show cW b r q=b by unfold cW;rw[e];rfl,e];(conv=>whnf);refine cl [] [] (m) ?_;(conv=>whnf);refine cl [] [] (p) ?_;(conv=>whnf);exact rx [] [.same 0,.same 1,.same 2,.same 3,.same 4,.same 5,.same 6,.same 7,.same 8,.same 9,.same 10,.same 7,.same 8,.same 9,.same 10]
  |true=>
   rw[j]at p;have s:dX b r q=if df (cR b q) r=true then 10 else if df (b r.toNat) q=true then 11 else 0:=by unfold dX;rw[h,j];rfl
   (conv=>whnf);refine cl [] [] (m) ?_;(conv=>whnf);refine cl [] [] (p) ?_;(conv=>whnf);refine cl [] [] (vw L o b d q j) ?_;(conv=>whnf);refine cl [] [] (gC (cR b q) r) ?_;(conv=>whnf);refine aW (fun i=>?_) (fun i=>?_)
   ·have e:dX b r q=10:=by rw[s];exact if_pos i
    rw[show cW b r q=b by unfold cW;rw[e];rfl,e];(conv=>whnf);exact rx [] [.same 0,.same 1,.same 2,.same 3,.same 4,.same 5,.same 6,.same 7,.same 8,.same 9,.same 10,.same 7,.same 8,.same 9,.same 10]
   ·have i:df (cR b q) r=false:=i;have f:dX b r q=if df (b r.toNat) q=true then 11 else 0:=by rw[s];exact if_neg (by rw[i];decide)
    obtain⟨k,t,rfl⟩:=bZ.1 h;rcases four t with rfl|rfl|rfl|rfl
    ·(conv=>whnf);refine⟨0,⟨rfl,by decide⟩,?_⟩;(conv=>whnf);refine cl [] [] (gC (b 0) q) ?_;(conv=>whnf);refine aW (fun a=>?_) (fun a=>?_)
     ·have e:dX b (0:Nat) q=11:=by rw[f];exact if_pos a
      rw[show cW b (0:Nat) q=b by unfold cW;rw[e];rfl,e];(conv=>whnf);exact rx [] [.same 0,.same 1,.same 2,.same 3,.same 4,.same 5,.same 6,.same 7,.same 8,.same 9,.same 10,.same 7,.same 8,.same 9,.same 10]
     ·have a:df (b 0) q=false:=a;have g:=(d 0 (by decide)).1;have e:dX b (0:Nat) q=0:=by rw[f];exact if_neg (by show¬df (b 0) q=true;rw[a];decide)
      rw[show cW b (0:Nat) q=ax b 0 (b 0++[q])by unfold cW;rw[e];rfl,e];(conv=>whnf);refine⟨false,.grow,(.l [0,1,2,3,4,5,6,7,8,11,12,9,10,13,14]),by kernel_rfl,.inl ?_⟩;(conv=>whnf);refine⟨0,⟨rfl,by decide⟩,?_⟩;(conv=>whnf);refine⟨[q],rfl,?_⟩;(conv=>whnf);refine⟨_,_,rfl,rfl,(by simp only[List.length_append,List.length_cons,List.length_nil];omega),?_⟩;(conv=>whnf);refine⟨0,⟨rfl,by decide⟩,?_⟩;(conv=>whnf);exact rx [] [.same 0,.same 1,.same 2,.same 3,.same 4,.same 5,.same 6,.same 7,.same 8,.same 9,.same 10,.same 13,.same 8,.same 9,.same 10]
    ·(conv=>whnf);refine⟨1,⟨rfl,by decide⟩,?_⟩;(conv=>whnf);refine cl [] [] (gC (b 1) q) ?_;(conv=>whnf);refine aW (fun a=>?_) (fun a=>?_)
     ·have e:dX b (1:Nat) q=11:=by rw[f];exact if_pos a
      rw[show cW b (1:Nat) q=b by unfold cW;rw[e];rfl,e];(conv=>whnf);exact rx [] [.same 0,.same 1,.same 2,.same 3,.same 4,.same 5,.same 6,.same 7,.same 8,.same 9,.same 10,.same 7,.same 8,.same 9,.same 10]
     ·have a:df (b 1) q=false:=a;have g:=(d 1 (by decide)).1;have e:dX b (1:Nat) q=0:=by rw[f];exact if_neg (by show¬df (b 1) q=true;rw[a];decide)
      rw[show cW b (1:Nat) q=ax b 1 (b 1++[q])by unfold cW;rw[e];rfl,e];(conv=>whnf);refine⟨false,.grow,(.l [0,1,2,3,4,5,6,7,8,11,12,9,10,13,14]),by kernel_rfl,.inl ?_⟩;(conv=>whnf);refine⟨1,⟨rfl,by decide⟩,?_⟩;(conv=>whnf);refine⟨[q],rfl,?_⟩;(conv=>whnf);refine⟨_,_,rfl,rfl,(by simp only[List.length_append,List.length_cons,List.length_nil];omega),?_⟩;(conv=>whnf);refine⟨1,⟨rfl,by decide⟩,?_⟩;(conv=>whnf);exact rx [] [.same 0,.same 1,.same 2,.same 3,.same 4,.same 5,.same 6,.same 7,.same 8,.same 9,.same 10,.same 7,.same 13,.same 9,.same 10]
    ·(conv=>whnf);refine⟨2,⟨rfl,by decide⟩,?_⟩;(conv=>whnf);refine cl [] [] (gC (b 2) q) ?_;(conv=>whnf);refine aW (fun a=>?_) (fun a=>?_)
     ·have e:dX b (2:Nat) q=11:=by rw[f];exact if_pos a
      rw[show cW b (2:Nat) q=b by unfold cW;rw[e];rfl,e];(conv=>whnf);exact rx [] [.same 0,.same 1,.same 2,.same 3,.same 4,.same 5,.same 6,.same 7,.same 8,.same 9,.same 10,.same 7,.same 8,.same 9,.same 10]
     ·have a:df (b 2) q=false:=a;have g:=(d 2 (by decide)).1;have e:dX b (2:Nat) q=0:=by rw[f];exact if_neg (by show¬df (b 2) q=true;rw[a];decide)
      rw[show cW b (2:Nat) q=ax b 2 (b 2++[q])by unfold cW;rw[e];rfl,e];(conv=>whnf);refine⟨false,.grow,(.l [0,1,2,3,4,5,6,7,8,11,12,9,10,13,14]),by kernel_rfl,.inl ?_⟩;(conv=>whnf);refine⟨2,⟨rfl,by decide⟩,?_⟩;(conv=>whnf);refine⟨[q],rfl,?_⟩;(conv=>whnf);refine⟨_,_,rfl,rfl,(by simp only[List.length_append,List.length_cons,List.length_nil];omega),?_⟩;(conv=>whnf);refine⟨2,⟨rfl,by decide⟩,?_⟩;(conv=>whnf);exact rx [] [.same 0,.same 1,.same 2,.same 3,.same 4,.same 5,.same 6,.same 7,.same 8,.same 9,.same 10,.same 7,.same 8,.same 13,.same 10]
    ·(conv=>whnf);refine⟨3,⟨rfl,by decide⟩,?_⟩;(conv=>whnf);refine cl [] [] (gC (b 3) q) ?_;(conv=>whnf);refine aW (fun a=>?_) (fun a=>?_)
     ·have e:dX b (3:Nat) q=11:=by rw[f];exact if_pos a
      rw[show cW b (3:Nat) q=b by unfold cW;rw[e];rfl,e];(conv=>whnf);exact rx [] [.same 0,.same 1,.same 2,.same 3,.same 4,.same 5,.same 6,.same 7,.same 8,.same 9,.same 10,.same 7,.same 8,.same 9,.same 10]
     ·have a:df (b 3) q=false:=a;have g:=(d 3 (by decide)).1;have e:dX b (3:Nat) q=0:=by rw[f];exact if_neg (by show¬df (b 3) q=true;rw[a];decide)
      rw[show cW b (3:Nat) q=ax b 3 (b 3++[q])by unfold cW;rw[e];rfl,e];(conv=>whnf);refine⟨false,.grow,(.l [0,1,2,3,4,5,6,7,8,11,12,9,10,13,14]),by kernel_rfl,.inl ?_⟩;(conv=>whnf);refine⟨3,⟨rfl,by decide⟩,?_⟩;(conv=>whnf);refine⟨[q],rfl,?_⟩;(conv=>whnf);refine⟨_,_,rfl,rfl,(by simp only[List.length_append,List.length_cons,List.length_nil];omega),?_⟩;(conv=>whnf);refine⟨3,⟨rfl,by decide⟩,?_⟩;(conv=>whnf);exact rx [] [.same 0,.same 1,.same 2,.same 3,.same 4,.same 5,.same 6,.same 7,.same 8,.same 9,.same 10,.same 7,.same 8,.same 9,.same 13]
end Go.Nest
end
section
namespace Go.Nest
open Go Go.AM Go.Proofs
open Go.Proofs.YtpechfcbnoggfaaGreatDoor (tab tabOk)
set_option maxRecDepth 4000
noncomputable def kF(L:List Ob)(d:Dp)(q id:Int):Bool:=((aZ L [id]).any fun k=> !cZ d q k)||decide ((aZ L [id]).length=0)
noncomputable def eH(L:List Ob)(d:Dp)(r q id:Int):Int:=if bw r=false∨bw q=false then 1 else if kF L d q id=true then 14 else cI L r [id]
noncomputable def cJ(L:List Ob)(o:Nat→List Bool)(b:Nat→List Int)(r q id:Int):Nat→List Bool:=if bw r=false∨bw q=false then o else if kF L ⟨o,b⟩ q id=true then o else dE L o b r [id]
theorem Fa(L:List Ob)(o:Nat→List Bool)(b:Nat→List Int)(a:gh b)(q x:Int):ai Tryz.prog 217 [.c (.int .i64 x),.c (.bp [.bp [.bp [.bs 6 Ob ak L],.bs 1 Bool aj (o 0),.bs 1 Bool aj (o 1),.bs 1 Bool aj (o 2),.bs 1 Bool aj (o 3),.bs 1 Int encI (b 0),.bs 1 Int encI (b 1),.bs 1 Int encI (b 2),.bs 1 Int encI (b 3)]]),.c (.bp [.int .i64 q])] [] (Rt (.c (.bool (!cZ ⟨o,b⟩ q x))) []):=by
 refine an (n:=10) (n0:=0) tabOk Tryz.call217 Tryz.func217 ?_;intro hb;(conv=>whnf);refine cl [] [] (pD L o b a q x) ?_;(conv=>whnf);exact aG rfl
set_option maxHeartbeats 4000000 in
theorem Fb(L:List Ob)(v:ae L)(o:Nat→List Bool)(b:Nat→List Int)(m:gh b)(ho:∀k,k<4→(o k).length≤1000000)(r q id:Int):ai Tryz.prog 133 [.c (.ptr 0 0),.c (.int .i64 r),.c (.int .i64 q),.c (.int .i64 id)] [.box [.ptr 1 0,.rw 3,.rw 4,.rw 5,.rw 6,.rw 7,.rw 8,.rw 9,.rw 10],.box [.rw 2],.row 6 Ob ak L,.row 1 Bool aj (o 0),.row 1 Bool aj (o 1),.row 1 Bool aj (o 2),.row 1 Bool aj (o 3),.row 1 Int encI (b 0),.row 1 Int encI (b 1),.row 1 Int encI (b 2),.row 1 Int encI (b 3)] (Rt (.c (.int .i64 (eH L ⟨o,b⟩ r q id))) [.box [.ptr 1 0,.rw 11,.rw 12,.rw 13,.rw 14,.rw 7,.rw 8,.rw 9,.rw 10],.box [.rw 2],.row 6 Ob ak L,.dead,.dead,.dead,.dead,.row 1 Int encI (b 0),.row 1 Int encI (b 1),.row 1 Int encI (b 2),.row 1 Int encI (b 3),.row 1 Bool aj ((cJ L o b r q id) 0),.row 1 Bool aj ((cJ L o b r q id) 1),.row 1 Bool aj ((cJ L o b r q id) 2),.row 1 Bool aj ((cJ L o b r q id) 3)]):=by
 have p:=nu r;have s:=nu q;refine an (n:=44) (n0:=11) tabOk Tryz.call133 Tryz.func133 ?_;intro hb;cases e:bw r with
 |false=>
  rw[e]at p;rw[show eH L ⟨o,b⟩ r q id=1 by unfold eH;rw[e];rfl,show cJ L o b r q id=o by unfold cJ;rw[e];rfl];(conv=>whnf);refine cl [] [] (p) ?_;(conv=>whnf);exact rx [] [.same 0,.same 1,.same 2,.same 3,.same 4,.same 5,.same 6,.same 7,.same 8,.same 9,.same 10,.same 3,.same 4,.same 5,.same 6]
 |true=>
  rw[e]at p;cases i:bw q with
  |false=>
   rw[i]at s;rw[show eH L ⟨o,b⟩ r q id=1 by unfold eH;rw[e,i];rfl,show cJ L o b r q id=o by unfold cJ;rw[e,i];rfl];(conv=>whnf);refine cl [] [] (p) ?_;(conv=>whnf);refine cl [] [] (s) ?_;(conv=>whnf);exact rx [] [.same 0,.same 1,.same 2,.same 3,.same 4,.same 5,.same 6,.same 7,.same 8,.same 9,.same 10,.same 3,.same 4,.same 5,.same 6]
  |true=>
   rw[i]at s;have f:eH L ⟨o,b⟩ r q id=if kF L ⟨o,b⟩ q id=true then 14 else cI L r [id]:=by unfold eH;rw[e,i];rfl
   have g:cJ L o b r q id=if kF L ⟨o,b⟩ q id=true then o else dE L o b r [id]:=by unfold cJ;rw[e,i];rfl
   have u:=oN L v [id] (by simp);have w:=tq L v o b m ho r [id] (by simp);have t:=fun l=>yr 217 L o b q (fun x=> !cZ ⟨o,b⟩ q x) (Fa L o b m q) l;have d:kF L ⟨o,b⟩ q id=(((aZ L [id]).any fun k=> !cZ ⟨o,b⟩ q k)||decide ((aZ L [id]).length=0)):=rfl;generalize aZ L [id]=rl at u d;have t:=t rl;generalize (rl.any fun k=> !cZ ⟨o,b⟩ q k)=a at t d;generalize kF L ⟨o,b⟩ q id=y at d f g;generalize eH L ⟨o,b⟩ r q id=C at*;generalize cJ L o b r q id=O at*;(conv=>whnf);refine cl [] [] (p) ?_;(conv=>whnf);refine cl [] [] (s) ?_;(conv=>whnf);refine⟨[id],rfl,?_⟩;(conv=>whnf);refine cl [] [] (u) ?_;(conv=>whnf);refine cl [] [] (t) ?_;(conv=>whnf);refine aW (fun h=>?_) (fun h=>?_)
   ·have h:a=true:=h;rw[h]at d;rw[d]at f g;obtain rfl:C=14:=f;obtain rfl:O=o:=g;(conv=>whnf);exact rx [] [.same 0,.same 1,.same 2,.same 3,.same 4,.same 5,.same 6,.same 7,.same 8,.same 9,.same 10,.same 3,.same 4,.same 5,.same 6]
   ·have h:a=false:=h;rw[h,Bool.false_or]at d;(conv=>whnf);refine⟨[id],rfl,?_⟩;(conv=>whnf);refine cl [] [] (u) ?_;(conv=>whnf);refine dec (fun j=>?_) (fun j=>?_)
    ·have j:(rl.length:Int)=0:=j;rw[decide_eq_true (by omega)]at d;rw[d]at f g;obtain rfl:C=14:=f;obtain rfl:O=o:=g;(conv=>whnf);exact rx [] [.same 0,.same 1,.same 2,.same 3,.same 4,.same 5,.same 6,.same 7,.same 8,.same 9,.same 10,.same 3,.same 4,.same 5,.same 6]
    ·have j:¬(rl.length:Int)=0:=j;rw[decide_eq_false (by omega)]at d;rw[d]at f g;obtain rfl:C=cI L r [id]:=f;obtain rfl:O=dE L o b r [id]:=g;(conv=>whnf);refine⟨[id],rfl,?_⟩;(conv=>whnf);refine cl [] [0,1,2,3,4,5,6,7,8,9,10] (w) ?_;(conv=>whnf);exact rx [] [.same 0,.same 1,.same 2,.same 3,.same 4,.same 5,.same 6,.same 7,.same 8,.same 9,.same 10,.same 18,.same 19,.same 20,.same 21]
end Go.Nest
end
section
namespace Go.Nest
open Go Go.AM
theorem ss{o:Nat→List Bool}{k:Nat}{z:Int}(hk:k<4):gV o k z=true↔0≤z∧(o k)[z.toNat]? =some true:=by
 rw[qb hk,Bool.and_eq_true,Bool.and_eq_true,decide_eq_true_iff,decide_eq_true_iff];constructor
 ·rintro⟨b,c,a⟩;refine⟨b,?_⟩;cases e:(o k)[z.toNat]? with
  |none=>rw[e]at a;cases a
  |some v=>rw[e]at a;rw[show v=true from a]
 ·rintro⟨b,c⟩;have:=(List.getElem?_eq_some_iff.1 c).1;exact⟨b,by omega,by rw[c];rfl⟩
theorem IN{L:List Ob}(b:ae L){id:Int}:(aZ L [id]).length=0↔kindOf L id=0:=by
 constructor
 ·intro h;refine Decidable.byContradiction fun e=>?_;have:id∈aZ L [id]:=(jk b).2 (.base (by simp) e);rw[List.eq_nil_of_length_eq_zero h]at this;cases this
 ·intro h
  have:aZ L [id]=[]:=List.eq_nil_iff_forall_not_mem.2 fun x c=>by
   have f:=(jk b).1 c;clear c;induction f with
   |base a d=>rw[List.mem_singleton]at a;subst a;exact d h
   |step _ _ ih=>exact ih
  rw[this];rfl
end Go.Nest
end
section
namespace Go.Nest
open Go Go.AM
structure Sm(L:List Ob)(o:Nat→List Bool)(w:Nat→List Int):Prop where
 len:∀k,k<4→(o k).length≤L.length
 eq:∀k,k<4→w k=Hm o (k:Int) L.length
theorem Kb{L:List Ob}{o:Nat→List Bool}{b r0:Nat→List Int}{q:Nat}(hq:q<4){z:Int}:gV (iT L o b r0) q z=(gV o q z&&kB b (fX L r0) q z):=by
 rw[Bool.eq_iff_iff,Bool.and_eq_true,ss hq,ss hq,and_assoc];refine and_congr_right fun a=>?_;have e:((z.toNat:Nat):Int)=z:=by omega
 unfold iT mI;rw[List.getElem?_mapIdx];show Option.map (fun v=>v&&kB b (fX L r0) q ((z.toNat:Nat):Int)) (o q)[z.toNat]? =some true↔_;rw[e];cases (o q)[z.toNat]? with
 |none=>simp
 |some v=>simp
end Go.Nest
end
section
namespace Go.Nest
open Go Go.AM Go.Proofs
open Go.Proofs.YtpechfcbnoggfaaGreatDoor (tab tabOk)
set_option maxRecDepth 4000
def lO(im:List (List Int)):Prop:=∀k,(bI im k).length≤600
theorem lO.put{im:List (List Int)}(h:lO im){n:Nat}{v:List Int}(hv:v.length≤600):lO (im.set n v):=fun k=>by
 have:=h k;unfold bI at this⊢;rw[List.getElem?_set];split
 ·split
  ·exact hv
  ·exact Nat.zero_le _
 ·exact this
theorem lO.start{n:Nat}:lO (List.replicate n []):=fun k=>by
 unfold bI;rw[List.getElem?_replicate];split<;>exact Nat.zero_le _
theorem Gb {M : List Ob} (a : ae M) {im : List (List Int)} (hl : lO im) (h : dD (fun x => kindOf M x = 3) im) : Fit im := ⟨hl,fun k x b=>by
 have c:=h k x b;have d:=bJ (l:=M) (id:=x) (by omega);have:=a.len;omega⟩
theorem F7{L:List Ob}{dir:List UInt8}{up:List Int}{o:Ob}(h:up.length≤600):(bT L dir up o).1.length≤600:=by
 unfold bT;split
 ·exact h
 split
 ·exact Nat.zero_le _
 split
 ·exact h
 ·show 1≤600;decide
theorem JJ(dir:List UInt8)(id:Int)(r:List Int)(L:List Ob)(im:List (List Int)):aS dir (id::r) L im=if(bP L dir im id).2.1≠0 then((bP L dir im id).2.1,(bP L dir im id).2.2,im)else aS dir r (bP L dir im id).2.2 (im.set id.toNat (bP L dir im id).1):=rfl
theorem JK(dir:List UInt8)(L:List Ob)(im:List (List Int)):aS dir [] L im=(0,L,im):=rfl
structure CK(L:List Ob)(dir:List UInt8)(line:List Int)(i:Nat)(M:List Ob)(im:List (List Int)):Prop where
 le:i≤line.length
 ok:ae M
 pre:L<+:M
 imp:dD (fun x=>kindOf M x=3) im
 len:im.length=L.length
 fit:lO im
 eq:aS dir line L (List.replicate L.length [])=aS dir (line.drop i) M im
set_option maxHeartbeats 1000000 in
theorem JR(L:List Ob)(E:ae L)(id:Int)(dir:List UInt8)(hd:dir.length≤4000000):ai Tryz.prog 135 [.c (.ptr 0 0),.c (.int .i64 id),.c (.str dir)] [.box [.rw 1],.row 6 Ob ak L] (Rt (.aL [(false,[.int .i64 (aP L id dir).1]),(false,[.int .i64 (aP L id dir).2.1])]) [.box [.rw 2],.dead,.row 6 Ob ak (aP L id dir).2.2]):=by
 refine an (n:=76) (n0:=2) tabOk Tryz.call135 Tryz.func135 ?_;intro hb;have ad:=E.len;have ha:=qN L E id;(conv=>whnf);refine cl [] [] (ha) ?_;by_cases w:kindOf L id=3
 ·have H:b7 L id=(aO L id,0):=if_pos w;have Y:jt L (aO L id):=fun y z=>((ft E w).1 z).kind E w;have am:(aO L id).length≤L.length:=qL
  have e:aP L id dir=if(aS dir (aO L id) L (List.replicate L.length [])).1≠0 then(0,(aS dir (aO L id) L (List.replicate L.length [])).1,(aS dir (aO L id) L (List.replicate L.length [])).2.1)else
    ((jS (bI (aS dir (aO L id) L (List.replicate L.length [])).2.2 id)).1,(jS (bI (aS dir (aO L id) L (List.replicate L.length [])).2.2 id)).2,(aS dir (aO L id) L (List.replicate L.length [])).2.1):=by
   unfold aP;rw[H,if_neg (by simp)]
  have hid:=(bJ (l:=L) (id:=id) (by omega));rw[H];generalize aO L id=a at*;generalize aP L id dir=RR at*;(conv=>whnf);refine cl [] [] (pI L) ?_;(conv=>whnf);refine⟨L.length,[],⟨rfl,rfl⟩,rfl,(show L.length*24≤140737488355328 by omega),?_⟩;(conv=>whnf);refine lp (Nat×List Ob×List (List Int)) (fun p=>⟨[(0,.c (.ptr 0 0)),(1,.c (.int .i64 id)),(10,.c (.ptr 5 0)),(32,.c (.rw 3)),(33,.c (.int .i64 a.length)),(34,.c (.int .i64 p.1))],[.box [.rw 2],.dead,.row 6 Ob ak p.2.1,.row 1 Int encI a,.row 1 (List Int) (bG 1 encI) p.2.2,.box [.ptr 0 0,.str dir,.rw 4]]⟩) (fun p=>CK L dir a p.1 p.2.1 p.2.2∧True) (fun p=>a.length-p.1) (0,L,List.replicate L.length []) [] [.same 0,.same 1,.same 1,.same 2,.same 3,.same 4] ?_ ?_ (fun⟨i,M,f⟩ T=>?_)
  ·exact⟨⟨Nat.zero_le _,E,List.prefix_refl _,dD.start,List.length_replicate,lO.start,rfl⟩,trivial⟩
  ·repeat' first|exact trivial|exact rfl|refine And.intro ?_ ?_
  obtain⟨⟨T,u,F,m,s,r,b⟩,-⟩:=T;dsimp only at T u F m s r b;(conv=>whnf);refine dec (fun I=>?_) (fun I=>?_)
  ·have g:i<a.length:=by have I:(i:Int)<a.length:=I;omega
   have W:a[i]? =some a[i]:=List.getElem?_eq_getElem g;have Z:=Y _ (List.getElem_mem g);rw[List.drop_eq_getElem_cons g]at b;have ap:=bJ (l:=L) (id:=a[i]) (by omega);generalize a[i]=x at*;have al:kindOf M x=3:=by rw[dy F (by omega)];exact Z
   have N:∀k∈(ab M x).parents,0≤k∧k.toNat<f.length:=fun k w=>by
    rw[ext_get F (by omega)]at w;have:=mw E w;rw[s];exact⟨this.1,this.2.2⟩
   have K:=Gb u r m;have ac:=(u.get (id:=x) (by omega)).parents;have O:=Ga M u dir hd f (ab M x) ac N K;have S:=F7 (L:=M) (dir:=dir) (o:=ab M x) (sZ K (ab M x).parents).2.1;obtain⟨P,D,q3⟩:=lq u (dir:=dir) (up:=cn f (ab M x).parents) (o:=ab M x);have Q:=u4 u (dir:=dir) (up:=cn f (ab M x).parents) (o:=ab M x) m.up;have es:bP M dir f x=bT M dir (cn f (ab M x).parents) (ab M x):=rfl;rw[JJ,es]at b;generalize bT M dir (cn f (ab M x).parents) (ab M x)=R at*;obtain⟨v,c,M'⟩:=R;dsimp only at O P D q3 Q S b;have q:f[x.toNat]? =some f[x.toNat]:=List.getElem?_eq_getElem (by omega);(conv=>whnf);refine⟨i,⟨rfl,g⟩,?_⟩;(conv=>whnf);refine⟨x,W,?_⟩;(conv=>whnf);refine cl [] [] (gT M u x) ?_;(conv=>whnf);refine⟨true,.any,(.alt [0,1,2,4,5] [3,6] fun j=>bif Nat.beq j 3 then(.l [6,7,8,9,10,11,12,13])else bif Nat.beq j 6 then(.alt [] [3,7] fun j=>bif Nat.beq j 3 then(.l [7,8,9,10,11,12,13])else bif Nat.beq j 7 then(.l [8,9,10,3,11,12,13])else .l [])else .l []),by kernel_rfl,.inl ?_⟩;(conv=>whnf);refine And.intro ?_ ?_
   ·(conv=>whnf);refine cl [] [5,0,2,4] (O) ?_;(conv=>whnf);refine⟨x.toNat,⟨by omega,by omega⟩,?_⟩;(conv=>whnf);refine⟨_,v,q,⟨Nat.le_refl 1,rfl⟩,?_⟩;(conv=>whnf);refine ay (fun d=>?_) (fun d=>?_)
    ·rw[if_pos d]at b;rw[b,if_pos d]at e;subst e;(conv=>whnf);exact rx [] [.same 0,.same 1,.same 7]
    ·rw[if_neg (fun h=>h d)]at b;repeat'((conv=>whnf);refine I6 ?_)
     refine ag (i+1,M',f.set x.toNat v) [] [.same 0,.same 1,.same 7,.same 3,.same 4,.same 5] ⟨⟨g,P,F.trans D,dD.put (m.mono fun y z=>by rw[dy D (by omega)];exact z) (Q d),by rw[List.length_set];exact s,r.put S,b⟩,trivial⟩ (by simp only[];omega) ?_;repeat' first|exact trivial|exact rfl|refine And.intro ?_ ?_
   (conv=>whnf);refine And.intro ?_ ?_
   ·(conv=>whnf);refine cl [] [5,0,2,4] (O) ?_;(conv=>whnf);refine⟨x.toNat,⟨by omega,by omega⟩,?_⟩;(conv=>whnf);refine⟨_,v,q,⟨Nat.le_refl 1,rfl⟩,?_⟩;(conv=>whnf);refine ay (fun d=>?_) (fun d=>?_)
    ·rw[if_pos d]at b;rw[b,if_pos d]at e;subst e;(conv=>whnf);exact rx [] [.same 0,.same 1,.same 7]
    ·rw[if_neg (fun h=>h d)]at b;repeat'((conv=>whnf);refine I6 ?_)
     refine ag (i+1,M',f.set x.toNat v) [] [.same 0,.same 1,.same 7,.same 3,.same 4,.same 5] ⟨⟨g,P,F.trans D,dD.put (m.mono fun y z=>by rw[dy D (by omega)];exact z) (Q d),by rw[List.length_set];exact s,r.put S,b⟩,trivial⟩ (by simp only[];omega) ?_;repeat' first|exact trivial|exact rfl|refine And.intro ?_ ?_
   ·(conv=>whnf);refine cl [] [5,0,2,4] (O) ?_;(conv=>whnf);refine⟨x.toNat,⟨by omega,by omega⟩,?_⟩;(conv=>whnf);refine⟨_,v,q,⟨Nat.le_refl 1,rfl⟩,?_⟩;(conv=>whnf);refine ay (fun d=>?_) (fun d=>?_)
    ·rw[if_pos d]at b;rw[b,if_pos d]at e;subst e;(conv=>whnf);exact rx [] [.same 0,.same 1,.same 7]
    ·rw[if_neg (fun h=>h d)]at b;repeat'((conv=>whnf);refine I6 ?_)
     refine ag (i+1,M',f.set x.toNat v) [] [.same 0,.same 1,.same 7,.same 3,.same 4,.same 5] ⟨⟨g,P,F.trans D,dD.put (m.mono fun y z=>by rw[dy D (by omega)];exact z) (Q d),by rw[List.length_set];exact s,r.put S,b⟩,trivial⟩ (by simp only[];omega) ?_;repeat' first|exact trivial|exact rfl|refine And.intro ?_ ?_
  ·obtain rfl:i=a.length:=by have I:¬(i:Int)<a.length:=I;omega
   rw[List.drop_length]at b;rw[b,JK]at e;rw[if_neg (by simp)]at e;dsimp only at e;have t:id.toNat<f.length:=by omega
   have q:f[id.toNat]? =some f[id.toNat]:=List.getElem?_eq_getElem t;have U:bI f id=f[id.toNat]:=by unfold bI;rw[q];rfl
   rw[U]at e;generalize f[id.toNat]=out at*;(conv=>whnf);refine⟨id.toNat,⟨by omega,t⟩,?_⟩;(conv=>whnf);refine⟨out,q,?_⟩;(conv=>whnf);refine dec (fun d=>?_) (fun d=>?_)
   ·have d:(out.length:Int)=0:=d;rw[show jS out=(0,9)from if_pos (by omega)]at e;subst e;(conv=>whnf);exact rx [] [.same 0,.same 1,.same 2]
   have d:¬(out.length:Int)=0:=d;(conv=>whnf);refine dec (fun J=>?_) (fun J=>?_)
   ·have J:(out.length:Int)=1:=J;obtain⟨y,rfl⟩:=List.length_eq_one_iff.1 (show out.length=1 by omega);rw[show jS [y]=(y,0)from rfl]at e;subst e;(conv=>whnf);refine⟨0,y,rfl,rfl,?_⟩;(conv=>whnf);exact rx [] [.same 0,.same 1,.same 2]
   ·have J:¬(out.length:Int)=1:=J;rw[show jS out=(0,5)from(if_neg (by omega)).trans (if_neg (by omega))]at e;subst e;(conv=>whnf);exact rx [] [.same 0,.same 1,.same 2]
 ·have H:b7 L id=([],9):=if_neg w;have e:aP L id dir=(0,9,L):=by unfold aP;rw[H];rfl
  rw[e,H];(conv=>whnf);exact rx [] [.same 0,.same 1,.same 1]
end Go.Nest
end
section
namespace Go.Nest
open Go Go.AM
theorem xo{α:Type}{p q:α→Bool}:∀{l:List α},(∀x∈l,p x=q x)→l.any p=l.any q
 |[],_=>rfl
 |x::l,h=>by rw[List.any_cons,List.any_cons,h x (by simp),xo fun y a=>h y (List.mem_cons_of_mem _ a)]
theorem GF{b cd:Nat→List Int}{q:Nat}{r:Nat}{k:Int}(hr:r<4)(h1:(q:Int)∈cR b r)(h2:k∈cd r):kB b cd q k=true:=by
 unfold kB;rw[List.any_eq_true];exact⟨r,List.mem_range.2 hr,by rw[Bool.and_eq_true,decide_eq_true_iff,decide_eq_true_iff];exact⟨h1,h2⟩⟩
theorem FT{L:List Ob}(a:ae L){o:Nat→List Bool}{b r0:Nat→List Int}(hb:gh b)(r:Nat)(k:Int)(h:Nd L r0 r k):cZ ⟨iT L o b r0,b⟩ r k=cZ ⟨o,b⟩ r k:=by
 have d:=h.lt a;unfold cZ;congr 1
 refine xo fun q c=>?_;have f:=(rX hb (bZ.2 ⟨r,d,rfl⟩)).2 q c;have e:((q.toNat:Nat):Int)=q:=by omega
 dsimp only;have:=Kb (L:=L) (o:=o) (b:=b) (r0:=r0) (q:=q.toNat) (by omega) (z:=k);rw[e]at this;rw[this,GF d (by rw[e];exact c) ((AE a).2 h),Bool.and_true]
end Go.Nest
end
section
namespace Go.Nest
open Go Go.AM
theorem AN:∀{l:List (List UInt8)},(∀x∈l,bO x=0)→fw l=0
 |[],_=>rfl
 |x::l,h=>by
  unfold fw;rw[if_pos (h x (by simp))];exact AN fun y a=>h y (List.mem_cons_of_mem _ a)
theorem Ex{dir p:List UInt8}(h:(cj (dir++47::p)).2=0):(cj p).2=0:=by
 obtain⟨a,b,-⟩:=ny h;rw[qo]at a b;rw[List.length_append]at b;exact wH (AN fun x c=>pU a x (List.mem_append.2 (.inr c))) (by omega)
end Go.Nest
end
