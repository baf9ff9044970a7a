import Derived.Test.YtpechfcbnoggfaaGreatDoorQ4
import Derived.Test.YtpechfcbnoggfaaGreatDoorV36
set_option maxHeartbeats 8000000
set_option linter.unusedVariables false
set_option linter.unusedSimpArgs false
open Classical renaming byContradiction->br
open List renaming length_append->ah,length_drop->bh,length_take->bi,mem_of_mem_drop->bj,take_append_drop->bk,mem_of_mem_take->bl,eq_nil_of_length_eq_zero->bn,append_assoc->bp,append_nil->b4,mem_drop_iff_getElem->cb,drop_eq_getElem_cons->cd,getElem?_eq_getElem->ce,drop_of_length_le->cf,length_eq_one_iff->ch,take_of_length_le->ci,drop_drop->co,getElem_mem->cp,length_cons->cq,nil_append->cr,length_nil->cs
open Nat renaming le_refl->b0,zero_le->ct
section
namespace Go.Nest
open Go Go.AM Go.Proofs
open Go.Proofs.YtpechfcbnoggfaaGreatDoor (tab tabOk)
set_option maxRecDepth 4000
structure yQ(X Y:List Fi)(h lo0 hi0:Nat):Prop where
 a1:lo0<=hi0
 a2:hi0<=X.length
 a3:hi0<=h
 a4:h<=lo0+Y.length
 a5:hi0=h\/hi0=X.length
 a6:lo0=0\/lo0+Y.length=h
structure uW(X Y:List Fi)(h lo0 hi0 s t:Nat):Prop where
 b1:lo0<=s
 b2:s<=t
 b3:t<=hi0
 p1:∀i j (hi:i<Y.length) (hj:j<X.length),lo0<s->i+s=h->j+1=s->aw Y[i].path X[j].path=false
 p2:∀i j (hi:i<Y.length) (hj:j<X.length),t<hi0->i+t+1=h->j=t->aw Y[i].path X[j].path=true
theorem Pd{X Y:List Fi}{h lo0 hi0 s:Nat}(m:Wk X)(n:Wk Y)(q:yQ X Y h lo0 hi0)(r:uW X Y h lo0 hi0 s s):
  (∀x∈X.drop s,∀y∈Y.take (h-s),aw y.path x.path=true)/\∀x∈X.take s,∀y∈Y.drop (h-s),aw y.path x.path=false:=by
 obtain⟨w,z,D,E,F,H⟩:=q;obtain⟨I,J,K,u,v⟩:=r;refine⟨λx a y b=>?_,λx a y b=>?_⟩
 ·have l:s<X.length:=br λh=>by rw[cf (by omega)]at a;cases a
  have k:0<h-s:=br λo=>by rw[show h-s=0 by omega]at b;simp at b
  have d:h-s-1<Y.length:=by omega
  have g:=v (h-s-1) s d l (by omega) (by omega) rfl;have c:aw y.path X[s].path=true:=CX n d g y (by rw[show h-s-1+1=h-s by omega];exact b);obtain⟨i,t,e⟩:=cb.1 a;subst e;by_cases e:i=0
  ·subst e;exact c
  ·exact xr c (qb m (i:=s) (j:=s+i) (by omega) (by omega))
 ·have l:0<s:=br λh=>by rw[show s=0 by omega]at a;simp at a
  have k:h-s<Y.length:=br λo=>by rw[cf (by omega)]at b;cases b
  have f:s-1<X.length:=by omega
  have g:=u (h-s) (s-1) k f (by omega) (by omega) (by omega)
  have c:aw Y[h-s].path x.path=false:=by
   have p:=BM (y:=Y[h-s]) m f g x (by rw[show s-1+1=s by omega];exact a);exact p
  obtain⟨i,t,e⟩:=cb.1 b;subst e;by_cases e:i=0
  ·subst e;exact c
  ·exact le_trans' c (qb n (i:=h-s) (j:=h-s+i) (by omega) (by omega))
theorem EW:∀(n:Nat) (A X Y B:List Fi),X.length+Y.length<=n->0<X.length->0<Y.length->Wk X->Wk Y->A.length+X.length+Y.length+B.length<=1000->(∀f∈X,f.path.length<=4000000)->(∀f∈Y,f.path.length<=4000000)->∀(a m b:Int),a=A.length->m=A.length+X.length->b=A.length+X.length+Y.length->aa Tryz.prog 300 [.c (.rw 0),.c (.int .i64 a),.c (.int .i64 m),.c (.int .i64 b),.c (.fn 174 [])] [.row 4 Fi aq (A++X++Y++B)] (Rt (.ao []) [.row 4 Fi aq (A++aH (X++Y)++B)]):=by
 intro n;induction n with
 |zero=>intro A X Y B h hx hy;omega
 |succ n ih=>
 intro A X Y B ar hx hy wx wy hn p r a m b ha hm F;by_cases h1:X.length=1
 ·obtain⟨x,rfl⟩:∃x,X=[x]:=ch.1 h1;exact Pc A Y B x hy wy (by simpa using hn) (p x (by simp)) r a m b ha (by simpa using hm) (by simpa using F)
 by_cases h2:Y.length=1
 ·obtain⟨y,rfl⟩:∃y,Y=[y]:=ch.1 h2;exact Pb A X B y (by omega) wx (by simpa using hn) (r y (by simp)) p a m b ha hm (by simpa using F)
 subst ha;subst hm;subst F;obtain⟨h,hh⟩:∃h,h=(X.length+Y.length)/2:=⟨_,rfl⟩;refine kQ (n:=220) (n0:=1) tabOk Tryz.call300 Tryz.func300 ?_;intro hb;refine XM.seq ?_;refine⟨i64 (by omega) (by omega),?_⟩;refine dec (λh=>absurd h (by omega)) (λ_=>?_);refine XM.seq ?_;refine⟨i64 (by omega) (by omega),?_⟩;refine dec (λh=>absurd h (by omega)) (λ_=>?_);refine XM.seq ?_;refine⟨i64 (by omega) (by omega),?_⟩;refine⟨by decide,?_⟩;(conv=>whnf);rw[half (e:=(A.length:Int)+((A.length:Int)+X.length+Y.length)) (k:=A.length+h) (by omega) (by omega) (by omega)];refine XM.seq ?_;refine⟨i64 (by omega) (by omega),?_⟩;refine XM.seq ?_;refine XM.join (ι:=Nat×Nat) (λz=>⟨[(0,.c (.rw 0)),(1,.c (.int .i64 A.length)),(2,.c (.int .i64 ((A.length:Int)+X.length))),(3,.c (.int .i64 ((A.length:Int)+X.length+Y.length))),(4,.c (.fn 174 [])),(18,.c (.int .i64 ((A.length+h:Nat):Int))),(19,.c (.int .i64 (((A.length+h:Nat):Int)+((A.length:Int)+X.length)))),(20,.c (.int .i64 ((A.length:Int)+z.1))),(21,.c (.int .i64 ((A.length:Int)+z.2)))],[.row 4 Fi aq (A++X++Y++B)]⟩) (λz=>yQ X Y h z.1 z.2) ?_ (λz M=>?_)
 ·refine dec (λD=>?_) (λD=>?_)
  ·refine⟨i64 (by omega) (by omega),?_⟩;rw[show((A.length+h:Nat):Int)+((A.length:Int)+X.length)-((A.length:Int)+X.length+Y.length)=(A.length:Int)+((h-Y.length:Nat):Int)by omega,show((A.length+h:Nat):Int)=(A.length:Int)+h by omega];refine⟨(h-Y.length,h),⟨by simp only[];omega,by simp only[];omega,by simp only[];omega,by simp only[];omega,.inl rfl,by simp only[];omega⟩,[],[.s 0],?_⟩;repeat' first|exact trivial|exact rfl|refine And.intro ?_ ?_
   trace_state
  ·refine⟨(0,X.length),⟨by simp only[];omega,by simp only[];omega,by simp only[];omega,by simp only[];omega,.inr rfl,.inl rfl⟩,[],[.s 0],?_⟩;rw[show(A.length:Int)=(A.length:Int)+((0:Nat):Int)by omega];repeat' first|exact trivial|exact rfl|refine And.intro ?_ ?_
   trace_state
 obtain⟨J,I⟩:=z;have M:=M;dsimp only at M;obtain⟨a1,a2,a3,a4,a5,a6⟩:=id M;refine XM.seq ?_;refine⟨i64 (by omega) (by omega),?_⟩;refine XM.join (ι:=Nat) (λs=>⟨[(0,.c (.rw 0)),(1,.c (.int .i64 A.length)),(2,.c (.int .i64 ((A.length:Int)+X.length))),(3,.c (.int .i64 ((A.length:Int)+X.length+Y.length))),(4,.c (.fn 174 [])),(18,.c (.int .i64 ((A.length+h:Nat):Int))),(19,.c (.int .i64 (((A.length+h:Nat):Int)+((A.length:Int)+X.length)))),(20,.c (.int .i64 ((A.length:Int)+s)))],[.row 4 Fi aq (A++X++Y++B)]⟩) (λs=>uW X Y h J I s s) ?_ (λs hJ=>?_)
 ·refine lp (Nat×Nat) (λz=>⟨[(0,.c (.rw 0)),(1,.c (.int .i64 A.length)),(2,.c (.int .i64 ((A.length:Int)+X.length))),(3,.c (.int .i64 ((A.length:Int)+X.length+Y.length))),(4,.c (.fn 174 [])),(18,.c (.int .i64 ((A.length+h:Nat):Int))),(19,.c (.int .i64 (((A.length+h:Nat):Int)+((A.length:Int)+X.length)))),(22,.c (.int .i64 (((A.length+h:Nat):Int)+((A.length:Int)+X.length)-1))),(20,.c (.int .i64 ((A.length:Int)+z.1))),(21,.c (.int .i64 ((A.length:Int)+z.2)))],[.row 4 Fi aq (A++X++Y++B)]⟩) (λz=>uW X Y h J I z.1 z.2) (λz=>z.2-z.1) (J,I) [] [.s 0] ?_ ?_ (λz hz=>?_)
  ·exact⟨b0 _,a1,b0 _,λi j hi hj h=>absurd h (by omega),λi j hi hj h=>absurd h (by omega)⟩
  ·repeat' first|exact trivial|exact rfl|refine And.intro ?_ ?_
  obtain⟨s,t⟩:=z;obtain⟨b1,b2,b3,p1,p2⟩:=hz;dsimp only at b1 b2 b3 p1 p2;refine dec (λh5=>?_) (λh5=>?_)
  ·have h5:s<t:=by simp only[]at h5;omega
   refine⟨i64 (by simp only[];omega) (by simp only[];omega),?_⟩;refine⟨by decide,?_⟩;(conv=>whnf);obtain⟨q,hq⟩:∃q,q=(s+t)/2:=⟨_,rfl⟩;obtain⟨i,hi⟩:∃i,i=h-1-q:=⟨_,rfl⟩;have O:q<X.length:=by omega
   have N:i<Y.length:=by omega
   have am:=p _ (cp O);have ad:=r _ (cp N)
   have o:A++X++Y++B=(A++X.take q)++X[q]::((X.drop (q+1)++Y.take i)++Y[i]::(Y.drop (i+1)++B)):=by
    conv=>lhs;rw[<-bk q X,cd O,<-bk i Y,cd N]
    simp only[bp,List.cons_append]
   have l1:A.length+q=(A++X.take q).length:=by rw[ah,bi];omega
   have l2:A.length+X.length+i=(A++X.take q).length+1+(X.drop (q+1)++Y.take i).length:=by rw[<-l1,ah,bh,bi];omega
   rw[half (e:=(A.length:Int)+(((s,t).1:Nat):Int)+((A.length:Int)+(((s,t).2:Nat):Int))) (k:=A.length+q) (by simp only[];omega) (by simp only[];omega) (by simp only[];omega),o];refine⟨false,.grow,(.l [0,1,2,3,4,5,6,7,8,9,10,11,12,13]),by kernel_rfl,.inl ?_⟩;refine⟨i64 (by omega) (by omega),?_⟩;refine⟨A.length+X.length+i,⟨by omega,jW l2⟩,?_⟩;refine⟨Y[i],jU l2,?_⟩;refine⟨A.length+q,⟨rfl,jV l1⟩,?_⟩;refine⟨X[q],jm l1,?_⟩;refine cl [] [] (ux Y[i] X[q] ad am) ?_;rw[<-o];refine ay (λE=>?_) (λE=>?_)
   ·have E:aw Y[i].path X[q].path=false:=by
     cases h7:aw Y[i].path X[q].path with
     |false=>rfl
     |true=>exact absurd (mY.2 h7) E
    refine⟨i64 (by omega) (by omega),?_⟩;rw[show((A.length+q:Nat):Int)+1=(A.length:Int)+((q+1:Nat):Int)by omega];refine ag (q+1,t) [] [.s 0] ⟨by simp only[];omega,by simp only[];omega,by simp only[];omega,λi' j' ac al _ e1 e2=>?_,p2⟩ (by simp only[];omega) ?_
    ·obtain rfl:j'=q:=by simp only[]at e2;omega
     obtain rfl:i'=i:=by simp only[]at e1;omega
     exact E
    ·repeat' first|exact trivial|exact rfl|refine And.intro ?_ ?_
   ·have E:=mY.1 E;rw[show((A.length+q:Nat):Int)=(A.length:Int)+(q:Nat)by omega];refine ag (s,q) [] [.s 0] ⟨by simp only[];omega,by simp only[];omega,by simp only[];omega,p1,λi' j' ac al _ e1 e2=>?_⟩ (by simp only[];omega) ?_
    ·obtain rfl:j'=q:=by simp only[]at e2;omega
     obtain rfl:i'=i:=by simp only[]at e1;omega
     exact E
    ·repeat' first|exact trivial|exact rfl|refine And.intro ?_ ?_
  ·obtain rfl:s=t:=by simp only[]at h5;omega
   refine⟨s,⟨b1,b2,b3,p1,p2⟩,[],[.s 0],?_⟩;repeat' first|exact trivial|exact rfl|refine And.intro ?_ ?_
 obtain⟨c1,c2⟩:=Pd wx wy M hJ;obtain⟨b1,_,b3,_,_⟩:=id hJ;obtain⟨k,hk⟩:∃k,k=h-s:=⟨_,rfl⟩;rw[<-hk]at c1 c2;have W:X.take s++X.drop s=X:=bk s X;have eY:Y.take k++Y.drop k=Y:=bk k Y;have a0:(X.take s).length=s:=by rw[bi];omega
 have a9:(X.drop s).length=X.length-s:=bh ..;have bb:(Y.take k).length=k:=by rw[bi];omega
 have be:(Y.drop k).length=Y.length-k:=bh ..;have u:=Pe (X1:=X.take s) (X2:=X.drop s) (Y1:=Y.take k) (Y2:=Y.drop k) (by rw[W];exact wx) (by rw[eY];exact wy) c1 c2;rw[W,eY]at u;have q1:∀f∈X.take s,f.path.length<=4000000:=λf H=>p f (bl H);have q2:∀f∈X.drop s,f.path.length<=4000000:=λf H=>p f (bj H);have q3:∀f∈Y.take k,f.path.length<=4000000:=λf H=>r f (bl H);have q4:∀f∈Y.drop k,f.path.length<=4000000:=λf H=>r f (bj H);obtain⟨R,S,_⟩:=qc (by rw[W];exact wx:Wk (X.take s++X.drop s));obtain⟨T,U,_⟩:=qc (by rw[eY];exact wy:Wk (Y.take k++Y.drop k))
 have o:A++X++Y++B=(A++X.take s)++X.drop s++Y.take k++(Y.drop k++B):=by
  conv=>lhs;rw[<-W,<-eY]
  simp only[bp]
 rw[o,<-u];clear u o c1 c2;generalize X.take s=g at*;generalize X.drop s=d at*;generalize Y.take k=Y1 at*;generalize Y.drop k=Y2 at*;refine XM.seq ?_;refine⟨i64 (by omega) (by omega),?_⟩;rw[show((A.length+h:Nat):Int)+((A.length:Int)+X.length)-((A.length:Int)+s)=(A.length:Int)+X.length+k by omega];(conv=>whnf);have v:d.length=0->d=[]:=bn;have P:g.length=0->g=[]:=bn;have w:Y1.length=0->Y1=[]:=bn;have Q:Y2.length=0->Y2=[]:=bn;have ap:=iY (g++Y1);rw[ah]at ap;refine XM.join (ι:=Unit) (λ_=>⟨[(0,.c (.rw 0)),(1,.c (.int .i64 A.length)),(2,.c (.int .i64 ((A.length:Int)+X.length))),(3,.c (.int .i64 ((A.length:Int)+X.length+Y.length))),(4,.c (.fn 174 [])),(18,.c (.int .i64 ((A.length+h:Nat):Int))),(20,.c (.int .i64 ((A.length:Int)+s))),(24,.c (.int .i64 ((A.length:Int)+X.length+k)))],[.row 4 Fi aq (A++g++Y1++(d++Y2++B))]⟩) (λ_=>True) ?_ (λ_ _=>?_)
 ·refine dec (λD=>?_) (λD=>?_)
  ·refine dec (λK=>?_) (λK=>?_)
   ·refine cl [] [0] (NA (A++g) d Y1 (Y2++B) (by omega) (by omega) (by simp only[ah];omega) ((A.length:Int)+s) ((A.length:Int)+X.length) ((A.length:Int)+X.length+k) (by rw[ah];omega) (by rw[ah];omega) (by rw[ah];omega)) ?_;rw[show A++g++Y1++d++(Y2++B)=A++g++Y1++(d++Y2++B)by simp];refine⟨(),trivial,[],[.s 0],?_⟩;repeat' first|exact trivial|exact rfl|refine And.intro ?_ ?_
   ·rw[show A++g++d++Y1++(Y2++B)=A++g++Y1++(d++Y2++B)by rw[w (by omega)];simp];refine⟨(),trivial,[],[.s 0],?_⟩;repeat' first|exact trivial|exact rfl|refine And.intro ?_ ?_
  ·rw[show A++g++d++Y1++(Y2++B)=A++g++Y1++(d++Y2++B)by rw[v (by omega)];simp];refine⟨(),trivial,[],[.s 0],?_⟩;repeat' first|exact trivial|exact rfl|refine And.intro ?_ ?_
 refine XM.join (ι:=Unit) (λ_=>⟨[(0,.c (.rw 0)),(1,.c (.int .i64 A.length)),(2,.c (.int .i64 ((A.length:Int)+X.length))),(3,.c (.int .i64 ((A.length:Int)+X.length+Y.length))),(4,.c (.fn 174 [])),(18,.c (.int .i64 ((A.length+h:Nat):Int))),(20,.c (.int .i64 ((A.length:Int)+s))),(24,.c (.int .i64 ((A.length:Int)+X.length+k)))],[.row 4 Fi aq (A++aH (g++Y1)++(d++Y2++B))]⟩) (λ_=>True) ?_ (λ_ _=>?_)
 ·refine dec (λD=>?_) (λD=>?_)
  ·refine dec (λK=>?_) (λK=>?_)
   ·refine cl [] [0] (ih A g Y1 (d++Y2++B) (by omega) (by omega) (by omega) R T (by simp only[ah];omega) q1 q3 (A.length:Int) ((A.length:Int)+s) ((A.length+h:Nat):Int) rfl (by omega) (by omega)) ?_;refine⟨(),trivial,[],[.s 0],?_⟩;repeat' first|exact trivial|exact rfl|refine And.intro ?_ ?_
   ·rw[show A++g++Y1++(d++Y2++B)=A++aH (g++Y1)++(d++Y2++B)by rw[w (by omega),b4,b4,tl R]];refine⟨(),trivial,[],[.s 0],?_⟩;repeat' first|exact trivial|exact rfl|refine And.intro ?_ ?_
  ·rw[show A++g++Y1++(d++Y2++B)=A++aH (g++Y1)++(d++Y2++B)by rw[P (by omega),b4,cr,tl T]];refine⟨(),trivial,[],[.s 0],?_⟩;repeat' first|exact trivial|exact rfl|refine And.intro ?_ ?_
 generalize aH (g++Y1)=Z at*;refine XM.of ?_;refine dec (λD=>?_) (λD=>?_)
 ·refine dec (λK=>?_) (λK=>?_)
  ·rw[show A++Z++(d++Y2++B)=(A++Z)++d++Y2++B by simp];refine cl [] [0] (ih (A++Z) d Y2 B (by omega) (by omega) (by omega) S U (by simp only[ah];omega) q2 q4 ((A.length+h:Nat):Int) ((A.length:Int)+X.length+k) ((A.length:Int)+X.length+Y.length) (by rw[ah];omega) (by rw[ah];omega) (by rw[ah];omega)) ?_;rw[show A++(Z++aH (d++Y2))++B=A++Z++aH (d++Y2)++B by simp];exact rx [] [.s 0]
  ·rw[show A++(Z++aH (d++Y2))++B=A++Z++(d++Y2++B)by rw[Q (by omega),b4,tl S];simp];exact rx [] [.s 0]
 ·rw[show A++(Z++aH (d++Y2))++B=A++Z++(d++Y2++B)by rw[v (by omega),cr,tl U];simp];exact rx [] [.s 0]
theorem OC{bs:Nat}{r:List Fi}(hb:0<bs)(h:2*bs<=r.length):cK bs r=aH (r.take bs)++aH ((r.drop bs).take bs)++cK bs (r.drop (2*bs))/\aH (aH (r.take bs)++aH ((r.drop bs).take bs))=aH (r.take (2*bs)):=by
 have e:(r.drop bs).drop bs=r.drop (2*bs):=by rw[co];congr 1;omega
 refine⟨?_,?_⟩
 ·rw[rN hb (by omega),rN hb (by rw[bh];omega),e,bp]
 ·rw[B8];congr 1
  conv=>rhs;rw[show 2*bs=bs+bs by omega,List.take_add]
theorem OB{bs:Nat}{r:List Fi}(hb:0<bs)(h1:bs<r.length)(h2:r.length<2*bs):cK bs r=aH (r.take bs)++aH (r.drop bs)/\aH (aH (r.take bs)++aH (r.drop bs))=cK (2*bs) r:=by
 refine⟨?_,?_⟩
 ·rw[rN hb (by omega),mI (d:=r.drop bs) (by rw[bh];omega)]
 ·rw[B8,bk,mI (by omega)]
theorem OE(d:List Fi)(hn:d.length<=150)(w:∀f∈d,f.path.length<=4000000)(n:Int)(v:n=d.length):aa Tryz.prog 251 [.c (.rw 0),.c (.int .i64 n),.c (.fn 174 [])] [.row 4 Fi aq (d)] (Rt (.ao []) [.row 4 Fi aq (aH d)]):=by
 subst v;refine kQ (n:=63) (n0:=1) tabOk Tryz.call251 Tryz.func251 ?_;intro hb;refine XM.seq ?_;refine XM.seq ?_;refine XM.join (ι:=Nat×List Fi) (λz=>⟨[(0,.c (.rw 0)),(1,.c (.int .i64 d.length)),(2,.c (.fn 174 [])),(6,.c (.int .i64 20)),(7,.c (.int .i64 z.1))],[.row 4 Fi aq (z.2++d.drop z.1)]⟩) (λz=>(z.1<=d.length/\d.length<z.1+20)/\z.2.length=z.1/\z.2++cK 20 (d.drop z.1)=cK 20 d) ?_ (λz o=>?_)
 ·refine lp (Nat×List Fi) (λz=>⟨[(0,.c (.rw 0)),(1,.c (.int .i64 d.length)),(2,.c (.fn 174 [])),(6,.c (.int .i64 20)),(7,.c (.int .i64 z.1)),(8,.c (.int .i64 ((z.1:Int)+20)))],[.row 4 Fi aq (z.2++d.drop z.1)]⟩) (λz=>(z.1<=d.length)/\z.2.length=z.1/\z.2++cK 20 (d.drop z.1)=cK 20 d) (λz=>d.length-z.1) (0,[]) [] [.s 0] ?_ ?_ (λz o=>?_)
  ·simp
  ·repeat' first|exact trivial|exact rfl|refine And.intro ?_ ?_
  obtain⟨p,P⟩:=z;obtain⟨q,s,h⟩:=o;dsimp only at q s h;refine dec (λg=>?_) (λg=>?_)
  ·have g:p+20<=d.length:=by simp only[]at g;omega
   have e:(p,P).2++d.drop (p,P).1=P++(d.drop p).take 20++(d.drop p).drop 20:=by rw[bp,bk]
   have j:(d.drop p).drop 20=d.drop (p+20):=co ..;have y:(d.drop p).length=d.length-p:=bh ..;have I:((d.drop p).take 20).length=20:=by rw[bi];omega
   have k:=rN (bs:=20) (d:=d.drop p) (by omega) (by omega);rw[j]at k;rw[e];refine cl [] [0] (Cf P ((d.drop p).take 20) ((d.drop p).drop 20) (by rw[j,bh];omega) (λf b=>w f (bj (bl b))) p ((p:Int)+20) (by omega) (by omega)) ?_;refine⟨i64 (by simp only[];omega) (by simp only[];omega),?_⟩;rw[j,show((((p,P).1:Nat):Int)+20)=((p+20:Nat):Int)by simp only[];omega];refine ag (p+20,P++aH ((d.drop p).take 20)) [] [.s 0] ⟨g,by rw[ah,iY];omega,by rw[bp,<-k,h]⟩ (by simp only[];omega) ?_;repeat' first|exact trivial|exact rfl|refine And.intro ?_ ?_
  ·refine⟨(p,P),⟨⟨q,by simp only[]at g;omega⟩,s,h⟩,[],[.s 0],?_⟩;repeat' first|exact trivial|exact rfl|refine And.intro ?_ ?_
 obtain⟨p,P⟩:=z;obtain⟨⟨q,g⟩,s,h⟩:=o;dsimp only at q s h g;refine XM.seq ?_;rw[show(p,P).2++d.drop (p,P).1=P++d.drop p++[]by simp];have y:(d.drop p).length=d.length-p:=bh ..;refine cl [] [0] (Cf P (d.drop p) [] (by simp;omega) (λf b=>w f (bj b)) p (d.length:Int) (by omega) (by omega)) ?_;rw[show P++aH (d.drop p)++[]=cK 20 d by rw[<-h,mI (by omega)];simp];refine XM.of ?_;have len:∀a,(cK a d).length=d.length:=λa=>EN d.length a d (b0 _);refine lp Nat (λa=>⟨[(0,.c (.rw 0)),(1,.c (.int .i64 d.length)),(2,.c (.fn 174 [])),(6,.c (.int .i64 a))],[.row 4 Fi aq (cK a d)]⟩) (λa=>(20<=a/\a<=400)/\True) (λa=>400-a) 20 [] [.s 0] ?_ ?_ (λa u=>?_)
 ·simp
 ·repeat' first|exact trivial|exact rfl|refine And.intro ?_ ?_
 obtain⟨⟨N,O⟩,_⟩:=u;refine dec (λk=>?_) (λk=>?_)
 ·have k:a<d.length:=by omega
  refine⟨i64 (by omega) (by omega),?_⟩;rw[show(2:Int)*(a:Nat)=((0:Nat):Int)+2*a by omega];rw[show cK a d=[]++cK a (d.drop 0)by simp];refine lp (Nat×List Fi) (λz=>⟨[(0,.c (.rw 0)),(1,.c (.int .i64 d.length)),(2,.c (.fn 174 [])),(6,.c (.int .i64 a)),(7,.c (.int .i64 z.1)),(8,.c (.int .i64 ((z.1:Int)+2*a)))],[.row 4 Fi aq (z.2++cK a (d.drop z.1))]⟩) (λz=>(z.1<=d.length)/\z.2.length=z.1/\z.2++cK (2*a) (d.drop z.1)=cK (2*a) d) (λz=>d.length-z.1) (0,[]) [] [.s 0] ?_ ?_ (λz o=>?_)
  ·simp
  ·repeat' first|exact trivial|exact rfl|refine And.intro ?_ ?_
  obtain⟨p,P⟩:=z;obtain⟨F,H,k3⟩:=o;dsimp only at F H k3;have y:(d.drop p).length=d.length-p:=bh ..;have mem:∀(l:List Fi),(∀f∈l,f∈d.drop p)->∀f∈aH l,f.path.length<=4000000:=λl E f b=>w f (bj (E f ((fS _).mem_iff.1 b)));refine dec (λi=>?_) (λi=>?_)
  ·have i:p+2*a<=d.length:=by simp only[]at i;omega
   obtain⟨t,x⟩:=OC (r:=d.drop p) (bs:=a) (by omega) (by omega);have D:=rN (bs:=2*a) (d:=d.drop p) (by omega) (by omega);have j:(d.drop p).drop (2*a)=d.drop (p+2*a):=co ..;rw[j]at t D;have J:(aH ((d.drop p).take a)).length=a:=by rw[iY,bi];omega
   have K:(aH (((d.drop p).drop a).take a)).length=a:=by rw[iY,bi,bh];omega
   have M:=EN (d.drop (p+2*a)).length a (d.drop (p+2*a)) (b0 _);rw[bh]at M;rw[show(p,P).2++cK a (d.drop (p,P).1)=P++aH ((d.drop p).take a)++aH (((d.drop p).drop a).take a)++cK a (d.drop (p+2*a))by rw[show d.drop (p,P).1=d.drop p from rfl,t];simp];refine⟨i64 (by simp only[];omega) (by simp only[];omega),?_⟩;refine cl [] [0] (EW 1000 P (aH ((d.drop p).take a)) (aH (((d.drop p).drop a).take a)) (cK a (d.drop (p+2*a))) (by omega) (by omega) (by omega) (kz _) (kz _) (by omega) (mem _ λf b=>bl b) (mem _ λf b=>bj (bl b)) p ((p:Int)+a) ((p:Int)+2*a) (by omega) (by omega) (by omega)) ?_;rw[x];refine⟨i64 (by omega) (by omega),?_⟩;refine⟨i64 (by simp only[];omega) (by simp only[];omega),?_⟩;rw[show((((p,P).1:Nat):Int)+2*(a:Nat))=((p+2*a:Nat):Int)by simp only[];omega];refine ag (p+2*a,P++aH ((d.drop p).take (2*a))) [] [.s 0] ⟨i,by rw[ah,iY,bi];omega,by rw[bp,<-D,k3]⟩ (by simp only[];omega) ?_;repeat' first|exact trivial|exact rfl|refine And.intro ?_ ?_
  ·have i:d.length<p+2*a:=by simp only[]at i;omega
   refine⟨i64 (by simp only[];omega) (by simp only[];omega),?_⟩;refine dec (λm=>?_) (λm=>?_)
   ·have m:p+a<d.length:=by simp only[]at m;omega
    obtain⟨t,x⟩:=OB (r:=d.drop p) (bs:=a) (by omega) (by omega) (by omega);have J:(aH ((d.drop p).take a)).length=a:=by rw[iY,bi];omega
    have K:(aH ((d.drop p).drop a)).length=d.length-p-a:=by rw[iY,bh];omega
    rw[show(p,P).2++cK a (d.drop (p,P).1)=P++aH ((d.drop p).take a)++aH ((d.drop p).drop a)++[]by rw[show d.drop (p,P).1=d.drop p from rfl,t];simp];refine cl [] [0] (EW 1000 P (aH ((d.drop p).take a)) (aH ((d.drop p).drop a)) [] (by omega) (by omega) (by omega) (kz _) (kz _) (by rw[cs];omega) (mem _ λf b=>bl b) (mem _ λf b=>bj b) p ((p:Int)+a) (d.length:Int) (by omega) (by omega) (by omega)) ?_;rw[x,show P++cK (2*a) (d.drop p)++[]=cK (2*a) d by rw[k3];simp];refine⟨i64 (by omega) (by omega),?_⟩;rw[show(a:Int)*2=((2*a:Nat):Int)by omega];refine ag (2*a) [] [.s 0] ⟨⟨by omega,by omega⟩,trivial⟩ (by simp only[];omega) ?_;repeat' first|exact trivial|exact rfl|refine And.intro ?_ ?_
   ·have m:d.length<=p+a:=by simp only[]at m;omega
    rw[show(p,P).2++cK a (d.drop (p,P).1)=cK (2*a) d by rw[<-k3,show d.drop (p,P).1=d.drop p from rfl,mI (bs:=a) (by omega),mI (bs:=2*a) (by omega)]];refine⟨i64 (by omega) (by omega),?_⟩;rw[show(a:Int)*2=((2*a:Nat):Int)by omega];refine ag (2*a) [] [.s 0] ⟨⟨by omega,by omega⟩,trivial⟩ (by simp only[];omega) ?_;repeat' first|exact trivial|exact rfl|refine And.intro ?_ ?_
 ·rw[mI (by omega)];exact rx [] [.s 0]
theorem Oj(d:List Fi)(hn:d.length<=150)(a:∀f∈d,f.path.length<=4000000):aa Tryz.prog 173 [.c (.rw 0),.c (.fn 174 [])] [.row 4 Fi aq (d)] (Rt (.ao []) [.row 4 Fi aq (aH d)]):=by
 refine af (n:=9) (n0:=1) tabOk Tryz.call173 Tryz.func173 ?_;intro hb;refine cl [] [0] (OE d hn a d.length rfl) ?_;exact rx [] [.s 0]
theorem HA(l:List Fi)(hl:l.length*40<=140737488355328):aa Tryz.prog 172 [.c (.bs 4 Fi aq l)] [] (Rt (.c (.rw 0)) [.row 4 Fi aq l]):=by
 refine af (n:=8) (n0:=0) tabOk Tryz.call172 Tryz.func172 ?_;intro hb;(conv=>whnf);intro q a;refine aS (λh=>?_) (λh=>?_)
 ·obtain rfl:=a h;exact rx [] [.new]
 ·refine⟨[],rfl,?_⟩;refine⟨_,_,rfl,rfl,(by simp only[ah,cq,cs];omega),?_⟩;exact rx [] [.s 1]
theorem Oo(d:List Fi)(hn:d.length<=150)(a:∀f∈d,f.path.length<=4000000):aa Tryz.prog 100 [.c (.bs 4 Fi aq d)] [] (Rt (.c (.rw 0)) [.row 4 Fi aq (aH d)]):=by
 refine af (n:=9) (n0:=0) tabOk Tryz.call100 Tryz.func100 ?_;intro hb;refine cl [] [] (HA d (by omega)) ?_;refine cl [] [0] (Oj d hn a) ?_;exact rx [] [.s 0]
theorem MN{p:List UInt8}(h:(cc p).2=0):p.length<=168:=by
 obtain⟨a,d,_⟩:=oM h;have b:=oR (aG p) λs c=>oC (oD a s c);rw[mK]at b;omega
theorem Bp{L:List Ob}(c:ak L)(t:Int):(bq L t).1.length<=60/\∀f∈(bq L t).1,f.path.length<=4000:=by
 by_cases h:(bq L t).2=0
 ·obtain⟨d,b,e⟩:=qN c h;have g:=E3 c d b e;refine⟨b,λf a=>?_⟩;have:=MN ((iW g).2 f a).1;omega
 ·rw[Bo h];exact⟨ct _,λf a=>by cases a⟩
theorem B4{c:UInt8}:∀{l:List UInt8},0<=Lib.indexByte l c->(Lib.indexByte l c).toNat<l.length
 |[],h=>by exact absurd h (by simp[Lib.indexByte])
 |b::r,h=>by
  unfold Lib.indexByte at h⊢;split
  ·simp
  ·rename_i hb;rw[if_neg hb]at h;split
   ·rename_i a;rw[if_pos a]at h;exact absurd h (by decide)
   ·rename_i a;rw[if_neg a]at h;have e:Lib.indexByte r c≠-1:=by simpa using a
    have d:0<=Lib.indexByte r c:=by omega
    have:=B4 d;simp only[cq];omega
def b5(c:UInt8)(s:List UInt8):List UInt8×List UInt8×Bool:=if 0<=Lib.indexByte s c then(s.take (Lib.indexByte s c).toNat,s.drop ((Lib.indexByte s c).toNat+1),true)else(s,[],false)
theorem JN(c:UInt8){dr:Bool}(l:List UInt8):bB dr Tryz.prog 310 [.c (.str l),.c (.int .u8 c.toNat)] [] (Rt (.c (.int .i64 (Lib.indexByte l c))) []):=by
 refine wk (e:=Extern.BytealgIndexByte.indexByte) Tryz.func310 (by decide) rfl rfl rfl rfl (λF H m f w h=>?_);match f,h with
 |[g,i],⟨b,d,_⟩=>
  cases b with
  |str _ _=>
   cases d with
   |int _=>
    have a:=Lib.run_indexByteString (P:=Tryz.prog) ⟨l.toArray⟩ (c.toNat:Int) w;rw[show((c.toNat:Int).toNat).toUInt8=c by simp]at a;exact⟨_,a,λF H m=>.int .nl⟩
theorem N8(c:UInt8){dr:Bool}(l:List UInt8):bB dr Tryz.prog 260 [.c (.str l),.c (.int .u8 c.toNat)] [] (Rt (.c (.int .i64 (Lib.indexByte l c))) []):=by
 refine af (n:=8) (n0:=0) tabOk Tryz.call260 Tryz.func260 ?_;intro hb;refine cl [] [] (JN c l) ?_;exact aJ rfl
theorem EB(c:UInt8){dr:Bool}(l:List UInt8):bB dr Tryz.prog 185 [.c (.str l),.c (.str [c])] [] (Rt (.c (.int .i64 (Lib.indexByte l c))) []):=by
 refine af (n:=143) (n0:=0) tabOk Tryz.call185 Tryz.func185 ?_;intro hb;repeat'((conv=>whnf);first|(refine dec (λh=>?_) (λh=>?_)<;>try contradiction)|refine aJ ?_|fail)
 ·obtain rfl:l=[c]:=h.symm;simp[Lib.indexByte]
 ·refine⟨0,c,rfl,rfl,?_⟩;refine cl [] [] (N8 c l) ?_;exact aJ rfl
theorem Pa(c:UInt8){dr:Bool}(l:List UInt8):bB dr Tryz.prog 111 [.c (.str l),.c (.str [c])] [] (Rt (.c (.int .i64 (Lib.indexByte l c))) []):=by
 refine af (n:=8) (n0:=0) tabOk Tryz.call111 Tryz.func111 ?_;intro hb;refine cl [] [] (EB c l) ?_;exact aJ rfl
theorem vT(c:UInt8)(l:List UInt8):aa Tryz.prog 45 [.c (.str l),.c (.str [c])] [] (Rt (.c (.bool (decide (0<=Lib.indexByte l c)))) []):=by
 refine af (n:=9) (n0:=0) tabOk Tryz.call45 Tryz.func45 ?_;intro hb;refine cl [] [] (Pa c l) ?_;exact aL rfl
theorem HU(c:UInt8)(s:List UInt8):aa Tryz.prog 186 [.c (.str s),.c (.str [c])] [] (Rt (.ao [(false,[.str (b5 c s).1]),(false,[.str (b5 c s).2.1]),(false,[.bool (b5 c s).2.2])]) []):=by
 refine af (n:=23) (n0:=0) tabOk Tryz.call186 Tryz.func186 ?_;intro hb;have hb:s.length<=9223372036854775807:=hb.1.1;refine cl [] [] (EB c s) ?_;repeat'((conv=>whnf);first|(refine dec (λh=>?_) (λh=>?_)<;>try contradiction)|fail)
 ·have d:(Lib.indexByte s c).toNat<s.length:=B4 h;have a:b5 c s=(s.take (Lib.indexByte s c).toNat,s.drop ((Lib.indexByte s c).toNat+1),true):=by unfold b5;rw[if_pos h]
  rw[a];refine⟨false,.grow,(.l [0,1,2,3,4,5,6,7,8,9,10,11]),by kernel_rfl,.inl ?_⟩;refine⟨0,(Lib.indexByte s c).toNat,rfl,(Int.toNat_of_nonneg h).symm,⟨ct _,by omega⟩,?_⟩;refine⟨i64 (by simp;omega) (by simp;omega),?_⟩;refine⟨(Lib.indexByte s c).toNat+1,s.length,?_,rfl,⟨by omega,b0 _⟩,?_⟩
  ·simp;omega
  (conv=>whnf);have b:s.take s.length=s:=ci (b0 _);rw[b];exact rx [] []
 ·have a:b5 c s=(s,[],false):=by unfold b5;rw[if_neg h]
  rw[a];exact rx [] []
theorem qF(c:UInt8)(s:List UInt8):aa Tryz.prog 112 [.c (.str s),.c (.str [c])] [] (Rt (.ao [(false,[.str (b5 c s).1]),(false,[.str (b5 c s).2.1]),(false,[.bool (b5 c s).2.2])]) []):=by
 refine af (n:=13) (n0:=0) tabOk Tryz.call112 Tryz.func112 ?_;intro hb;refine cl [] [] (HU c s) ?_;exact rx [] []
theorem Ki(l:List (List UInt8))(n:List UInt8):aa Tryz.prog 187 [.c (.bs 1 (List UInt8) encS l),.c (.str n)] [] (Rt (.c (.int .i64 (bD (λx=>decide (x=n)) l))) []):=by
 refine af (n:=19) (n0:=0) tabOk Tryz.call187 Tryz.func187 ?_;intro hb;have hb:l.length<=9223372036854775807:=hb.1.1;refine lp Nat (λi=>⟨[(0,.c (.bs 1 (List UInt8) encS l)),(1,.c (.str n)),(7,.c (.int .i64 l.length)),(8,.c (.int .i64 i))],[]⟩) (λi=>i<=l.length/\(l.take i).any (λx=>decide (x=n))=false) (λi=>l.length-i) 0 [] [] ?_ ?_ (λi b=>?_)
 ·simp
 ·repeat' first|exact trivial|exact rfl|refine And.intro ?_ ?_
 refine dec (λd=>?_) (λd=>?_)
 ·have a:i<l.length:=by omega
  repeat'((conv=>whnf);first|(refine dec (λh=>?_) (λh=>?_)<;>try contradiction)|refine⟨i64 (by omega) (by omega),?_⟩|refine⟨_,_,rfl,ce (by omega),?_⟩|refine aJ ?_|fail)
  ·exact jG a b.2 (by simpa using h.symm)
  ·refine ag (i+1) [] [] ⟨a,ij a b.2 (by simpa usingλe=>h (Eq.symm e))⟩ (by simp only[];omega) ?_;repeat' first|exact trivial|exact rfl|refine And.intro ?_ ?_
 ·repeat'((conv=>whnf);first|refine aJ ?_|fail)
  have:=b.2;rw[ci (by omega)]at this;exact ky this
def oE:List (List UInt8):=[[119,114,105,116,101],[114,101,109,111,118,101],[108,105,110,107],[99,111,109,109,105,116],[99,104,101,99,107,111,117,116],[109,101,114,103,101],[98,114,97,110,99,104],[100,101,108,101,116,101],[102,101,116,99,104],[98,111,114,114,111,119],[115,119,101,101,112],[115,112,108,105,116],[100,111,99,115],[115,116,97,116,117,115],[114,101,102,115],[119,104,111,108,101],[111,119,110]]
def nR:List (List UInt8):=[[110,119,116],[110,119],[110,119,110,119],[110,119,116],[110,119],[110,119],[110,119],[110,119],[110,110,119],[110,110],[],[110,119,119],[110],[110],[110],[110],[110]]
def kD(w:List UInt8):Int:=bD (λx=>decide (x=w)) oE
def eJ(w:List UInt8):List UInt8×Bool:=if kD w<0 then([],false)else(nR.getD (kD w).toNat [],true)
theorem MQ(w:List UInt8)(h:¬kD w<0):∃i x:_,kD w=((i:Nat):Int)/\i<17/\nR[i]? =some x/\eJ w=(x,true):=by
 have e:=h;unfold kD bD at h;cases a:oE.findIdx? (λx=>decide (x=w))with
 |none=>rw[a]at h;exact absurd (by decide) h
 |some i=>
  have c:kD w=(i:Int):=by unfold kD bD;rw[a]
  have b:i<17:=by
   rw[List.findIdx?_eq_some_iff_getElem]at a;exact a.1
  have d:nR[i]? =some (nR[i]'b):=ce b;refine⟨i,_,c,b,d,?_⟩;unfold eJ;rw[if_neg e,c,Int.toNat_natCast,List.getD_eq_getElem?_getD,d];rfl
theorem uo(w:List UInt8):aa Tryz.prog 113 [.c (.str w)] [] (Rt (.ao [(false,[.str (eJ w).1]),(false,[.bool (eJ w).2])]) []):=by
 refine af (n:=16) (n0:=0) tabOk Tryz.call113 Tryz.func113 ?_;intro hb;refine⟨oE,rfl,?_⟩;refine cl [] [] (Ki oE w) ?_;refine dec (λh=>?_) (λh=>?_)
 ·have h:kD w<0:=h;rw[show eJ w=([],false)by unfold eJ;rw[if_pos h]];exact rx [] []
 ·have h:¬kD w<0:=h;obtain⟨i,x,a,b,d,e⟩:=MQ w h;rw[e];refine⟨nR,rfl,?_⟩;refine⟨i,⟨a,b⟩,x,d,?_⟩;exact rx [] []
end Go.Nest
end
