import Derived.Test.YtpechfcbnoggfaaGreatDoorZ1
import Derived.Test.YtpechfcbnoggfaaGreatDoorV36
import Derived.Test.YtpechfcbnoggfaaGreatDoorLinesMerge
import Derived.Test.YtpechfcbnoggfaaGreatDoorCommon1
import Derived.Test.YtpechfcbnoggfaaGreatDoorQ4
set_option maxHeartbeats 4000000
set_option linter.unusedVariables false
set_option linter.unusedSimpArgs false
open List renaming length_append->ac,length_cons->ad,length_nil->al,getElem?_eq_getElem->ap,take_succ_eq_append_getElem->ar,take_length->a2
open Nat renaming le_refl->am,le_trans->a0,zero_le->a1
namespace Go.AM
open Go Go.NB
def kX(p:Nat×Nat):List C:=[.int .i64 p.1,.int .i64 p.2]
theorem Bk.pair:Bk p8 kX where
 len:=λx=>rfl
 back:=λ_ h=>by
  obtain⟨h,-⟩:=h;subst h;exact .int (.int .nl)
theorem aa.pairs{P:Program}{f:FuncId}{a b:dM}{r:List (Nat×Nat)}
  (h:∀{H:ae} {M:List Nat} {j k:Value},Sl (ia dy) H M j a->Sl (ia dy) H M k b->(∀i∈M,i<H.size)->cg P f #[j,k] H λu H'=>Sl p8 H' M u r/\au [] H H'):
  aa P f [.c (b9 a),.c (b9 b)] [] (Rt (.c (.ls 2 (Nat×Nat) kX r)) []):=by
 intro F L γ H vs d e;match vs,d with
 |[n,v2],⟨h1,h2,_⟩=>
  have bb:=Br.byte.sl;refine(Ai (h (M:=outer F H) (uu bb xJ e.fb h1) (uu bb xJ e.fb h2) Dw)).mono λok v H' ⟨g,m,l⟩=>?_;subst g;exact⟨.ret (.c (.ls 2 (Nat×Nat) kX r)),[],_,γ,⟨rfl,rfl⟩,rfl,rfl,rfl,yj Bk.pair Dx m,e.fresh l⟩
end Go.AM
namespace Go.Nest
open Go Go.AM Go.Proofs
open Go.NB.L (linesOf merge go mix cut heldFrom pairs Ls at_)
open Go.Proofs.YtpechfcbnoggfaaGreatDoor (tab tabOk)
set_option maxRecDepth 4000
theorem AG(a b:dM)(g:a.length<=1000)(hb:b.length<=1000):aa Tryz.prog 367 [.c (b9 a),.c (b9 b)] [] (Rt (.c (.ls 2 (Nat×Nat) kX (pairs a b 0 0))) []):=
 aa.pairs λd e f=>Go.Proofs.YtpechfcbnoggfaaGreatDoor.common d e f g hb
theorem Hq(a b:List UInt8):aa Tryz.prog 379 [.c (.bs 1 UInt8 aN a),.c (.bs 1 UInt8 aN b)] [] (Rt (.c (.bool (decide (a=b)))) []):=by
 refine af (n:=10) (n0:=0) tabOk Tryz.call379 Tryz.func379 ?_;intro hb;refine⟨a,rfl,?_⟩;refine⟨b,rfl,?_⟩;exact aL rfl
theorem Gc(p:Nat×Nat)(k:Nat):aa Tryz.prog 381 [.st (kX p),.c (.bp [.int .i64 k])] [] (Rt (.c (.bool (decide (p.1=k)))) []):=by
 refine af (n:=8) (n0:=0) tabOk Tryz.call381 Tryz.func381 ?_;intro hb;repeat'((conv=>whnf);first|refine aL ?_|fail)
 rw[decide_eq_decide];omega
theorem Kh(l:List (Nat×Nat))(k:Nat):aa Tryz.prog 380 [.c (.bs 2 (Nat×Nat) kX l),.c (.fn 381 [.bp [.int .i64 k]])] [] (Rt (.c (.int .i64 (bD (λp=>decide (p.1=k)) l))) []):=by
 refine af (n:=19) (n0:=0) tabOk Tryz.call380 Tryz.func380 ?_;intro hb;have hb:l.length<=9223372036854775807:=hb.1.1;refine lp Nat (λi=>⟨[(0,.c (.bs 2 (Nat×Nat) kX l)),(1,.c (.fn 381 [.bp [.int .i64 k]])),(7,.c (.int .i64 l.length)),(8,.c (.int .i64 i))],[]⟩) (λi=>i<=l.length/\(l.take i).any (λp=>decide (p.1=k))=false) (λi=>l.length-i) 0 [] [] ?_ ?_ (λi b=>?_)
 ·simp
 ·repeat' first|exact trivial|exact rfl|refine And.intro ?_ ?_
 refine dec (λd=>?_) (λd=>?_)
 ·have a:i<l.length:=by omega
  repeat'((conv=>whnf);first|refine⟨_,_,rfl,ap (by omega),?_⟩|fail)
  refine cl [] [] (Gc l[i] k) ?_;refine aS (λh=>?_) (λh=>?_)
  ·exact aJ (jG (p:=λp:Nat×Nat=>decide (p.1=k)) a b.2 h)
  ·repeat'(refine I6 ?_)
   refine ag (i+1) [] [] ⟨a,ij (p:=λp:Nat×Nat=>decide (p.1=k)) a b.2 h⟩ (by simp only[];omega) ?_;repeat' first|exact trivial|exact rfl|refine And.intro ?_ ?_
 ·repeat'((conv=>whnf);first|refine aJ ?_|fail)
  have:=b.2;rw[List.take_of_length_le (by omega)]at this;exact ky this
theorem Gg(l:List (Nat×Nat))(k:Nat):(bD (λp=>decide (p.1=k)) l<0/\at_ l k= -1)\/∃(i:Nat) (h:i<l.length),bD (λp=>decide (p.1=k)) l=i/\at_ l k=l[i].2:=by
 have c:(λp:Nat×Nat=>decide (p.1=k))=λp=>p.1==k:=by funext p;rfl
 rw[c];unfold at_;rcases wO (p:=λp:Nat×Nat=>p.1==k) (l:=l)with⟨b,a⟩|⟨i,h,b,a⟩
 ·exact .inl ⟨by omega,by rw[a]⟩
 ·exact .inr ⟨i,h,b,by rw[a]⟩
theorem zJ(l:List (Nat×Nat))(k:Nat):aa Tryz.prog 368 [.c (.ls 2 (Nat×Nat) kX l),.c (.int .i64 k)] [] (Rt (.c (.int .i64 (at_ l k))) []):=by
 have p:=Kh l k;have a:=Gg l k;generalize bD (λp:Nat×Nat=>decide (p.1=k)) l=n at p a;refine af (n:=16) (n0:=0) tabOk Tryz.call368 Tryz.func368 ?_;intro hb;refine cl [0] [] (p) ?_;refine dec (λh=>?_) (λh=>?_)
 ·(conv=>whnf);rcases a with⟨_,e⟩|⟨i,_,e,_⟩
  ·exact aJ e.symm
  ·omega
 ·rcases a with⟨_,_⟩|⟨i,b,rfl,e⟩
  ·omega
  rw[e];refine⟨i,l[i],rfl,ap b,?_⟩;exact aJ rfl
theorem IX(a b:dM):aa Tryz.prog 382 [.c (b9 a),.c (b9 b),.c (.fn 379 [])] [] (Rt (.c (.bool (decide (a=b)))) []):=by
 refine af (n:=32) (n0:=0) tabOk Tryz.call382 Tryz.func382 ?_;intro hb;have hb:a.length<=9223372036854775807:=hb.1.1;refine ay (λh=>?_) (λh=>?_)
 ·exact aL (decide_eq_false λe=>h (by rw[e])).symm
 have l:a.length=b.length:=by have h:(a.length:Int)=b.length:=h;omega
 refine lp Nat (λi=>⟨[(0,.c (b9 a)),(1,.c (b9 b)),(2,.c (.fn 379 [])),(15,.c (b9 a)),(16,.c (.int .i64 a.length)),(17,.c (.int .i64 i))],[]⟩) (λi=>i<=a.length/\a.take i=b.take i) (λi=>a.length-i) 0 [] [] ⟨a1 _,rfl⟩ ?_ (λi j=>?_)
 ·repeat' first|exact trivial|exact rfl|refine And.intro ?_ ?_
 obtain⟨j,g⟩:=j;refine dec (λk=>?_) (λk=>?_)
 ·have d:i<a.length:=by omega
  have f:i<b.length:=by omega
  refine⟨i,a[i],rfl,ap d,?_⟩;refine⟨i,b[i],rfl,ap f,?_⟩;refine cl [] [] (Hq a[i] b[i]) ?_;refine ay (λh=>?_) (λh=>?_)
  ·refine aL (decide_eq_false λe=>h ?_).symm;subst e;rfl
  ·repeat'(refine I6 ?_)
   refine ag (i+1) [] [] ⟨d,by rw[ar d,ar f,g,h]⟩ (by simp only[];omega) ?_;repeat' first|exact trivial|exact rfl|refine And.intro ?_ ?_
 ·have m:i=a.length:=by omega
  refine aL (decide_eq_true ?_).symm;rw[m,a2,l,a2]at g;exact g
theorem pT(a b:dM):aa Tryz.prog 369 [.c (b9 a),.c (b9 b)] [] (Rt (.c (.bool (decide (a=b)))) []):=by
 refine af (n:=8) (n0:=0) tabOk Tryz.call369 Tryz.func369 ?_;intro hb;refine cl [] [] (IX a b) ?_;exact aL rfl
theorem DH(a b:dM):NB.L.fl (pairs a b 0 0):=NB.L.ub a b 0 0
theorem ua{a b:dM}{u:Nat×Nat}(h:u∈pairs a b 0 0):u.1<a.length/\u.2<b.length:=by
 have:=NB.L.ry a b 0 0 u h;omega
theorem o9(l:dM)(i n:Nat):(l.drop i).take (n-i)=cut l i n:=by
 unfold cut;rw[List.drop_take]
theorem ng(l:dM)(i n:Nat):(cut l i n).length<=l.length:=by unfold cut;rw[List.length_drop,List.length_take];omega
structure fK(base a b:dM)(n i j k:Nat)(out:dM):Prop where
 hn:n<=base.length+1
 hin:n<=base.length->i<=n
 hja:n<=base.length->j<=a.length/\k<=b.length
 hxj:∀u∈pairs base a 0 0,n<=u.1->j<=u.2
 hyk:∀u∈pairs base b 0 0,n<=u.1->k<=u.2
 sum:out.length<=i+j+k
 bnd:i<=1001/\j<=1001/\k<=1001
 go:merge base a b=(NB.L.rest base a b n i j k).map λr=>out++r
theorem fK.start(base a b:dM):fK base a b 0 0 0 0 []:=⟨by omega,by omega,by omega,λ_ _ _=>a1 _,λ_ _ _=>a1 _,by simp,by omega,by rw[NB.L.Nq];simp⟩
theorem fK.skip{base a b:dM}{n i j k:Nat}{out:dM}(h:fK base a b n i j k out)(e:n<base.length)(hc:at_ (pairs base a 0 0) n<0\/at_ (pairs base b 0 0) n<0):fK base a b (n+1) i j k out:=
 ⟨by omega,λ_=>by have:=h.hin (by omega);omega,λ_=>h.hja (by omega),λu c d=>h.hxj u c (by omega),λu c d=>h.hyk u c (by omega),h.sum,h.bnd,by rw[h.go,NB.L.Np e hc]⟩
theorem fK.at{base a b:dM}{n i j k p q:Nat}{out:dM}(h:fK base a b n i j k out)(f:n<base.length)(e:at_ (pairs base a 0 0) n=p)(hq:at_ (pairs base b 0 0) n=q):j<=p/\p<a.length/\k<=q/\q<b.length:=by
 have c:=NB.L.at_mem e;have d:=NB.L.at_mem hq;exact⟨h.hxj _ c (am _),(ua c).2,h.hyk _ d (am _),(ua d).2⟩
theorem C4{old one b a:dM}(h:mix old one b=some a):a.length<=one.length\/a.length<=b.length:=by
 unfold mix at h;split at h
 ·cases h;exact .inr (am _)
 split at h
 ·cases h;exact .inl (am _)
 ·cases h
theorem fK.held{base a b:dM}{n i j k p q:Nat}{out c:dM}(h:fK base a b n i j k out)(f:n<base.length)(e:at_ (pairs base a 0 0) n=p)(hq:at_ (pairs base b 0 0) n=q)(hb:base.length<=1000/\a.length<=1000/\b.length<=1000)(hm:mix (cut base i n) (cut a j p) (cut b k q)=some c):fK base a b (n+1) (n+1) (p+1) (q+1) ((out++c)++[base[n]]):=by
 have l:=NB.L.at_mem e;have m:=NB.L.at_mem hq;obtain⟨o,r,s,t⟩:=h.at f e hq;have v:=h.hin (by omega);have w:=NB.L.sM a j p (by omega);have x:=NB.L.sM b k q (by omega);have y:=C4 hm;have z:=h.sum;refine⟨by omega,by omega,by omega,λu d g=>(DH base a).lt l d (by dsimp only;omega),λu d g=>(DH base b).lt m d (by dsimp only;omega),?_,by omega,NB.L.OO h.go f e hq hm⟩;rw[ac,ac,List.length_singleton];omega
theorem fK.fin{base a b:dM}{i j k:Nat}{out c:dM}(h:fK base a b base.length i j k out)(hb:base.length<=1000/\a.length<=1000/\b.length<=1000)(hm:mix (cut base i base.length) (cut a j a.length) (cut b k b.length)=some c):fK base a b (base.length+1) (base.length+1) (a.length+1) (b.length+1) (out++c):=by
 have l:=h.hin (am _);obtain⟨f,g⟩:=h.hja (am _);have m:=NB.L.sM a j a.length (am _);have n:=NB.L.sM b k b.length (am _);have o:=C4 hm;have p:=h.sum;refine⟨am _,by omega,by omega,λu d e=>by have:=ua d;omega,λu d e=>by have:=ua d;omega,?_,by omega,NB.L.step_end h.go hm⟩;rw[ac];omega
theorem LI(base a b:dM)(J:base.length<=1000)(F:a.length<=1000)(r:b.length<=1000):aa Tryz.prog 344 [.c (b9 base),.c (b9 a),.c (b9 b)] [] (λo ah=>ah=[]/\((∃l,merge base a b=some l/\o= .ret (.ao [(false,[b9 l]),(false,[.bool true])]))\/(merge base a b=none/\o= .ret (.ao [(false,[b9 []]),(false,[.bool false])])))):=by
 refine af (n:=101) (n0:=0) tabOk Tryz.call344 Tryz.func344 ?_;intro hb;have T:=AG base a J F;have U:=AG base b J r;have W:=λn=>zJ (pairs base a 0 0) n;have Y:=λn=>zJ (pairs base b 0 0) n;refine cl [] [] (T) ?_;refine cl [] [] (U) ?_;refine lp (Nat×Nat×Nat×Nat×dM) (λp=>⟨[(0,.c (b9 base)),(1,.c (b9 a)),(2,.c (b9 b)),(8,.c (.ls 2 (Nat×Nat) kX (pairs base a 0 0))),(9,.c (.ls 2 (Nat×Nat) kX (pairs base b 0 0))),(10,.c (.rw 0)),(11,.c (.int .i64 p.2.1)),(12,.c (.int .i64 p.2.2.1)),(13,.c (.int .i64 p.2.2.2.1)),(14,.c (.int .i64 p.1))],[.row 1 (List UInt8) (bM 1 aN) p.2.2.2.2]⟩) (λp=>fK base a b p.1 p.2.1 p.2.2.1 p.2.2.2.1 p.2.2.2.2/\True) (λp=>base.length+1-p.1) (0,0,0,0,[]) [] [.new] ⟨fK.start base a b,trivial⟩ ?_ (λ⟨n,i,j,k,out⟩ e=>?_)
 ·repeat' first|exact trivial|exact rfl|refine And.intro ?_ ?_
 obtain⟨e,-⟩:=e;have e:fK base a b n i j k out:=e;obtain⟨b1,b2,b3⟩:=e.bnd;refine dec (λx=>?_) (λx=>?_)
 ·have x:n<=base.length:=by have x:(n:Int)<=base.length:=x;omega
  refine dec (λm=>?_) (λm=>?_)
  ·have m:n<base.length:=by have m:(n:Int)<base.length:=m;omega
   refine cl [] [] (W n) ?_;refine cl [] [] (Y n) ?_;refine dec (λN=>?_) (λN=>?_)
   ·repeat'(refine I6 ?_)
    refine ag (n+1,i,j,k,out) [] [.s 0] ⟨e.skip m (.inl N),trivial⟩ (by simp only[];omega) ?_;repeat' first|exact trivial|exact rfl|refine And.intro ?_ ?_
   refine dec (λO=>?_) (λO=>?_)
   ·repeat'(refine I6 ?_)
    refine ag (n+1,i,j,k,out) [] [.s 0] ⟨e.skip m (.inr O),trivial⟩ (by simp only[];omega) ?_;repeat' first|exact trivial|exact rfl|refine And.intro ?_ ?_
   obtain⟨p,H⟩:∃p:Nat,at_ (pairs base a 0 0) n=p:=⟨(at_ (pairs base a 0 0) n).toNat,by omega⟩;obtain⟨q,I⟩:∃q:Nat,at_ (pairs base b 0 0) n=q:=⟨(at_ (pairs base b 0 0) n).toNat,by omega⟩;rw[H,I];obtain⟨Q,R,c3,c4⟩:=e.at m H I;have S:=e.hin x;refine⟨false,.grow,(.l [0,1,2,3,4,5,6,7,8,9,10,11,12,13,14]),by kernel_rfl,.inl ?_⟩;refine⟨i,n,rfl,rfl,by omega,?_⟩;refine⟨j,p,rfl,rfl,by omega,?_⟩;refine⟨k,q,rfl,rfl,by omega,?_⟩;(conv=>whnf);rw[o9,o9,o9];have d:∀g,mix (cut base i n) (cut a j p) (cut b k q)=some g->fK base a b (n+1) (n+1) (p+1) (q+1) ((out++g)++[base[n]]):=λg h=>e.held m H I ⟨J,F,r⟩ h;have f:mix (cut base i n) (cut a j p) (cut b k q)=none->merge base a b=none:=λh=>NB.L.I8 e.go m H I h;have w:base[n]? =some base[n]:=ap m;have K:(cut a j p).length<=1000:=a0 (ng a j p) F;have M:(cut b k q).length<=1000:=a0 (ng b k q) r;have Z:=e.sum;generalize base[n]=D at d w;generalize cut base i n=E at d f⊢;generalize cut a j p=y at d f K⊢;generalize cut b k q=t at d f M⊢;refine cl [] [] (pT E y) ?_;refine dec (λu=>?_) (λu=>?_)
   ·have s:=d t (NB.L.tN (.inl u));refine⟨_,_,rfl,rfl,(by simp only[ac,ad,al];omega),?_⟩;refine dec (λ_=>?_) (λh=>absurd (show(n:Int)<base.length by omega) h);refine⟨n,D,rfl,w,?_⟩;refine⟨[D],rfl,?_⟩;refine⟨_,_,rfl,rfl,(by simp only[ac,ad,al];omega),?_⟩;repeat'(refine I6 ?_)
    refine ag (n+1,n+1,p+1,q+1,_) [] [.s 3] ⟨s,trivial⟩ (by simp only[];omega) ?_;repeat' first|exact trivial|exact rfl|refine And.intro ?_ ?_
   refine cl [] [] (pT y t) ?_;refine dec (λv=>?_) (λv=>?_)
   ·have s:=d t (NB.L.tN (.inr v));refine⟨_,_,rfl,rfl,(by simp only[ac,ad,al];omega),?_⟩;refine dec (λ_=>?_) (λh=>absurd (show(n:Int)<base.length by omega) h);refine⟨n,D,rfl,w,?_⟩;refine⟨[D],rfl,?_⟩;refine⟨_,_,rfl,rfl,(by simp only[ac,ad,al];omega),?_⟩;repeat'(refine I6 ?_)
    refine ag (n+1,n+1,p+1,q+1,_) [] [.s 3] ⟨s,trivial⟩ (by simp only[];omega) ?_;repeat' first|exact trivial|exact rfl|refine And.intro ?_ ?_
   refine cl [] [] (pT E t) ?_;refine dec (λz=>?_) (λz=>?_)
   ·have s:=d y (NB.L.C6 (λh=>h.elim u v) z);refine⟨_,_,rfl,rfl,(by simp only[ac,ad,al];omega),?_⟩;refine dec (λ_=>?_) (λh=>absurd (show(n:Int)<base.length by omega) h);refine⟨n,D,rfl,w,?_⟩;refine⟨[D],rfl,?_⟩;refine⟨_,_,rfl,rfl,(by simp only[ac,ad,al];omega),?_⟩;repeat'(refine I6 ?_)
    refine ag (n+1,n+1,p+1,q+1,_) [] [.s 3] ⟨s,trivial⟩ (by simp only[];omega) ?_;repeat' first|exact trivial|exact rfl|refine And.intro ?_ ?_
   ·refine⟨[],[],.ao [(false,[b9 []]),(false,[.bool false])],[],?_,rfl,rfl,?_⟩
    ·repeat' first|exact trivial|exact rfl|refine And.intro ?_ ?_
    ·exact Or.inr ⟨f (NB.L.C5 (λh=>h.elim u v) z),rfl⟩
  ·obtain rfl:n=base.length:=by have m:¬(n:Int)<base.length:=m;omega
   obtain⟨Q,R⟩:=e.hja (am _);have S:=e.hin (am _);refine⟨false,.grow,(.l [0,1,2,3,4,5,6,7,8,9,10,11,12,13,14]),by kernel_rfl,.inl ?_⟩;refine⟨i,base.length,rfl,rfl,by omega,?_⟩;refine⟨j,a.length,rfl,rfl,by omega,?_⟩;refine⟨k,b.length,rfl,rfl,by omega,?_⟩;(conv=>whnf);rw[o9,o9,o9];have d:∀g,mix (cut base i base.length) (cut a j a.length) (cut b k b.length)=some g->fK base a b (base.length+1) (base.length+1) (a.length+1) (b.length+1) (out++g):=λg h=>e.fin ⟨J,F,r⟩ h;have f:mix (cut base i base.length) (cut a j a.length) (cut b k b.length)=none->merge base a b=none:=λh=>NB.L.I7 e.go h;have K:(cut a j a.length).length<=1000:=a0 (ng a j a.length) F;have M:(cut b k b.length).length<=1000:=a0 (ng b k b.length) r;have Z:=e.sum;generalize cut base i base.length=E at d f⊢;generalize cut a j a.length=y at d f K⊢;generalize cut b k b.length=t at d f M⊢;refine cl [] [] (pT E y) ?_;refine dec (λu=>?_) (λu=>?_)
   ·have s:=d t (NB.L.tN (.inl u));refine⟨_,_,rfl,rfl,(by simp only[ac,ad,al];omega),?_⟩;refine dec (λh=>absurd h (by show¬(base.length:Int)<base.length;omega)) (λ_=>?_);repeat'(refine I6 ?_)
    refine ag (base.length+1,base.length+1,a.length+1,b.length+1,_) [] [.s 1] ⟨s,trivial⟩ (by simp only[];omega) ?_;repeat' first|exact trivial|exact rfl|refine And.intro ?_ ?_
   refine cl [] [] (pT y t) ?_;refine dec (λv=>?_) (λv=>?_)
   ·have s:=d t (NB.L.tN (.inr v));refine⟨_,_,rfl,rfl,(by simp only[ac,ad,al];omega),?_⟩;refine dec (λh=>absurd h (by show¬(base.length:Int)<base.length;omega)) (λ_=>?_);repeat'(refine I6 ?_)
    refine ag (base.length+1,base.length+1,a.length+1,b.length+1,_) [] [.s 1] ⟨s,trivial⟩ (by simp only[];omega) ?_;repeat' first|exact trivial|exact rfl|refine And.intro ?_ ?_
   refine cl [] [] (pT E t) ?_;refine dec (λz=>?_) (λz=>?_)
   ·have s:=d y (NB.L.C6 (λh=>h.elim u v) z);refine⟨_,_,rfl,rfl,(by simp only[ac,ad,al];omega),?_⟩;refine dec (λh=>absurd h (by show¬(base.length:Int)<base.length;omega)) (λ_=>?_);repeat'(refine I6 ?_)
    refine ag (base.length+1,base.length+1,a.length+1,b.length+1,_) [] [.s 1] ⟨s,trivial⟩ (by simp only[];omega) ?_;repeat' first|exact trivial|exact rfl|refine And.intro ?_ ?_
   ·refine⟨[],[],.ao [(false,[b9 []]),(false,[.bool false])],[],?_,rfl,rfl,?_⟩
    ·repeat' first|exact trivial|exact rfl|refine And.intro ?_ ?_
    ·exact Or.inr ⟨f (NB.L.C5 (λh=>h.elim u v) z),rfl⟩
 ·have x:¬n<=base.length:=by have x:¬(n:Int)<=base.length:=x;omega
  obtain rfl:n=base.length+1:=by have:=e.hn;omega
  have P:=e.go;rw[NB.L.Ef]at P;refine⟨[0],[],.ao [(false,[b9 (out++[])]),(false,[.bool true])],[],?_,rfl,rfl,?_⟩
  ·rw[List.append_nil];repeat' first|exact trivial|exact rfl|refine And.intro ?_ ?_
  ·exact Or.inl ⟨_,P,rfl⟩
end Go.Nest
