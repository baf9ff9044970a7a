/- part -/
import Derived.Test.YtpechfcbnoggfaaGreatDoorZ1
import Derived.Test.YtpechfcbnoggfaaGreatDoorW1
import Derived.Test.YtpechfcbnoggfaaGreatDoorLinesMerge
import Derived.Test.YtpechfcbnoggfaaGreatDoorCommon1
import Derived.Test.YtpechfcbnoggfaaGreatDoorQ3
set_option linter.unusedVariables false
set_option linter.unusedSimpArgs false
namespace Go.AM
open Go Go.NB
def jQ(p:Nat×Nat):List C:=[.int .i64 p.1,.int .i64 p.2]
theorem Bk.pair:Bk oc jQ where
 len:=fun x=>rfl
 back:=fun _ h=>by
  obtain⟨h,-⟩:=h;subst h;exact .int (.int .nl)
theorem ae.pairs{P:Program}{f:FuncId}{a b:dt}{r:List (Nat×Nat)}
  (h:∀{H:ab} {M:List Nat} {j k:Value},Sl (fY cY) H M j a→Sl (fY cY) H M k b→(∀i∈M,i<H.size)→cS P f #[j,k] H fun u H'=>Sl oc H' M u r∧aq [] H H'):
  ae P f [.c (bS a),.c (bS b)] [] (Rt (.c (.ls 2 (Nat×Nat) jQ r)) []):=by
 intro F L γ H vs d e;match vs,d with
 |[n,v2],⟨h1,h2,_⟩=>
  have bb:=Br.byte.sl;refine(xf (h (M:=outer F H) (rZ bb u5 e.fb h1) (rZ bb u5 e.fb h2) Ai)).mono fun ok v H' ⟨g,m,l⟩=>?_;subst g;exact⟨.ret (.c (.ls 2 (Nat×Nat) jQ r)),[],_,γ,⟨rfl,rfl⟩,rfl,rfl,rfl,vG Bk.pair Aj m,e.fresh l⟩
end Go.AM
namespace Go.Nest
open Go Go.AM Go.Proofs
open Go.NB.L (linesOf merge go mix cut heldFrom pairs Ls at_)
open Go.Proofs.YtpechfcbnoggfaaGreatDoor (tab tabOk)
set_option maxRecDepth 4000
theorem xA(a b:dt)(g:a.length≤1000)(hb:b.length≤1000):ae Tryz.prog 367 [.c (bS a),.c (bS b)] [] (Rt (.c (.ls 2 (Nat×Nat) jQ (pairs a b 0 0))) []):=
 ae.pairs fun d e f=>Go.Proofs.YtpechfcbnoggfaaGreatDoor.common d e f g hb
theorem CN(a b:List UInt8):ae Tryz.prog 379 [.c (.bs 1 UInt8 bt a),.c (.bs 1 UInt8 bt b)] [] (Rt (.c (.bool (decide (a=b)))) []):=by
 refine ak (n:=10) (n0:=0) tabOk Tryz.call379 Tryz.func379 ?_;intro hb;(conv=>whnf);refine⟨a,rfl,?_⟩;(conv=>whnf);refine⟨b,rfl,?_⟩;(conv=>whnf);exact aE rfl
theorem Ck(p:Nat×Nat)(k:Nat):ae Tryz.prog 381 [.st (jQ p),.c (.bp [.int .i64 k])] [] (Rt (.c (.bool (decide (p.1=k)))) []):=by
 refine ak (n:=8) (n0:=0) tabOk Tryz.call381 Tryz.func381 ?_;intro hb;repeat'((conv=>whnf);first|refine aE ?_|fail)
 rw[decide_eq_decide];omega
theorem Fq(l:List (Nat×Nat))(k:Nat):ae Tryz.prog 380 [.c (.bs 2 (Nat×Nat) jQ l),.c (.fn 381 [.bp [.int .i64 k]])] [] (Rt (.c (.int .i64 (bF (fun p=>decide (p.1=k)) l))) []):=by
 refine ak (n:=19) (n0:=0) tabOk Tryz.call380 Tryz.func380 ?_;intro hb;have hb:l.length≤9223372036854775807:=hb.1.1;(conv=>whnf);refine lp Nat (fun i=>⟨[(0,.c (.bs 2 (Nat×Nat) jQ l)),(1,.c (.fn 381 [.bp [.int .i64 k]])),(7,.c (.int .i64 l.length)),(8,.c (.int .i64 i))],[]⟩) (fun i=>i≤l.length∧(l.take i).any (fun p=>decide (p.1=k))=false) (fun i=>l.length-i) 0 [] [] ?_ ?_ (fun i b=>?_)
 ·simp
 ·repeat' first|exact trivial|exact rfl|refine And.intro ?_ ?_
 (conv=>whnf);refine dec (fun d=>?_) (fun d=>?_)
 ·have a:i<l.length:=by omega
  repeat'((conv=>whnf);first|refine⟨_,_,rfl,List.getElem?_eq_getElem (by omega),?_⟩|fail)
  (conv=>whnf);refine cl [] [] (Ck l[i] k) ?_;(conv=>whnf);refine aL (fun h=>?_) (fun h=>?_)
  ·(conv=>whnf);exact aG (jk (p:=fun p:Nat×Nat=>decide (p.1=k)) a b.2 h)
  ·repeat'((conv=>whnf);refine I6 ?_)
   refine ag (i+1) [] [] ⟨a,gA (p:=fun p:Nat×Nat=>decide (p.1=k)) a b.2 h⟩ (by simp only[];omega) ?_;repeat' first|exact trivial|exact rfl|refine And.intro ?_ ?_
 ·repeat'((conv=>whnf);first|refine aG ?_|fail)
  have:=b.2;rw[List.take_of_length_le (by omega)]at this;exact jT this
theorem Cn(l:List (Nat×Nat))(k:Nat):(bF (fun p=>decide (p.1=k)) l<0∧at_ l k= -1)∨∃(i:Nat) (h:i<l.length),bF (fun p=>decide (p.1=k)) l=i∧at_ l k=l[i].2:=by
 have c:(fun p:Nat×Nat=>decide (p.1=k))=fun p=>p.1==k:=by funext p;rfl
 rw[c];unfold at_;rcases uf (p:=fun p:Nat×Nat=>p.1==k) (l:=l)with⟨b,a⟩|⟨i,h,b,a⟩
 ·exact .inl ⟨by omega,by rw[a]⟩
 ·exact .inr ⟨i,h,b,by rw[a]⟩
theorem wY(l:List (Nat×Nat))(k:Nat):ae Tryz.prog 368 [.c (.ls 2 (Nat×Nat) jQ l),.c (.int .i64 k)] [] (Rt (.c (.int .i64 (at_ l k))) []):=by
 have p:=Fq l k;have a:=Cn l k;generalize bF (fun p:Nat×Nat=>decide (p.1=k)) l=n at p a;refine ak (n:=16) (n0:=0) tabOk Tryz.call368 Tryz.func368 ?_;intro hb;(conv=>whnf);refine cl [0] [] (p) ?_;(conv=>whnf);refine dec (fun h=>?_) (fun h=>?_)
 ·(conv=>whnf);rcases a with⟨_,e⟩|⟨i,_,e,_⟩
  ·exact aG e.symm
  ·omega
 ·rcases a with⟨_,_⟩|⟨i,b,rfl,e⟩
  ·omega
  rw[e];(conv=>whnf);refine⟨i,l[i],rfl,List.getElem?_eq_getElem b,?_⟩;(conv=>whnf);exact aG rfl
theorem D3(a b:dt):ae Tryz.prog 382 [.c (bS a),.c (bS b),.c (.fn 379 [])] [] (Rt (.c (.bool (decide (a=b)))) []):=by
 refine ak (n:=32) (n0:=0) tabOk Tryz.call382 Tryz.func382 ?_;intro hb;have hb:a.length≤9223372036854775807:=hb.1.1;(conv=>whnf);refine aw (fun h=>?_) (fun h=>?_)
 ·(conv=>whnf);exact aE (decide_eq_false fun e=>h (by rw[e])).symm
 have l:a.length=b.length:=by have h:(a.length:Int)=b.length:=h;omega
 (conv=>whnf);refine lp Nat (fun i=>⟨[(0,.c (bS a)),(1,.c (bS b)),(2,.c (.fn 379 [])),(15,.c (bS a)),(16,.c (.int .i64 a.length)),(17,.c (.int .i64 i))],[]⟩) (fun i=>i≤a.length∧a.take i=b.take i) (fun i=>a.length-i) 0 [] [] ⟨Nat.zero_le _,rfl⟩ ?_ (fun i j=>?_)
 ·repeat' first|exact trivial|exact rfl|refine And.intro ?_ ?_
 obtain⟨j,g⟩:=j;(conv=>whnf);refine dec (fun k=>?_) (fun k=>?_)
 ·have d:i<a.length:=by omega
  have f:i<b.length:=by omega
  (conv=>whnf);refine⟨i,a[i],rfl,List.getElem?_eq_getElem d,?_⟩;(conv=>whnf);refine⟨i,b[i],rfl,List.getElem?_eq_getElem f,?_⟩;(conv=>whnf);refine cl [] [] (CN a[i] b[i]) ?_;(conv=>whnf);refine aw (fun h=>?_) (fun h=>?_)
  ·(conv=>whnf);refine aE (decide_eq_false fun e=>h ?_).symm;subst e;rfl
  ·repeat'((conv=>whnf);refine I6 ?_)
   refine ag (i+1) [] [] ⟨d,by rw[List.take_succ_eq_append_getElem d,List.take_succ_eq_append_getElem f,g,h]⟩ (by simp only[];omega) ?_;repeat' first|exact trivial|exact rfl|refine And.intro ?_ ?_
 ·have m:i=a.length:=by omega
  (conv=>whnf);refine aE (decide_eq_true ?_).symm;rw[m,List.take_length,l,List.take_length]at g;exact g
theorem n3(a b:dt):ae Tryz.prog 369 [.c (bS a),.c (bS b)] [] (Rt (.c (.bool (decide (a=b)))) []):=by
 refine ak (n:=8) (n0:=0) tabOk Tryz.call369 Tryz.func369 ?_;intro hb;(conv=>whnf);refine cl [] [] (D3 a b) ?_;(conv=>whnf);exact aE rfl
theorem An(a b:dt):NB.L.eH (pairs a b 0 0):=NB.L.rL a b 0 0
theorem rJ{a b:dt}{u:Nat×Nat}(h:u∈pairs a b 0 0):u.1<a.length∧u.2<b.length:=by
 have:=NB.L.pA a b 0 0 u h;omega
theorem nr(l:dt)(i n:Nat):(l.drop i).take (n-i)=cut l i n:=by
 unfold cut;rw[List.drop_take]
theorem lg(l:dt)(i n:Nat):(cut l i n).length≤l.length:=by unfold cut;rw[List.length_drop,List.length_take];omega
structure eW(base a b:dt)(n i j k:Nat)(out:dt):Prop where
 hn:n≤base.length+1
 hin:n≤base.length→i≤n
 hja:n≤base.length→j≤a.length∧k≤b.length
 hxj:∀u∈pairs base a 0 0,n≤u.1→j≤u.2
 hyk:∀u∈pairs base b 0 0,n≤u.1→k≤u.2
 sum:out.length≤i+j+k
 bnd:i≤1001∧j≤1001∧k≤1001
 go:merge base a b=(NB.L.rest base a b n i j k).map fun r=>out++r
theorem eW.start(base a b:dt):eW base a b 0 0 0 0 []:=⟨by omega,by omega,by omega,fun _ _ _=>Nat.zero_le _,fun _ _ _=>Nat.zero_le _,by simp,by omega,by rw[NB.L.HK];simp⟩
theorem eW.skip{base a b:dt}{n i j k:Nat}{out:dt}(h:eW base a b n i j k out)(e:n<base.length)(hc:at_ (pairs base a 0 0) n<0∨at_ (pairs base b 0 0) n<0):eW base a b (n+1) i j k out:=
 ⟨by omega,fun _=>by have:=h.hin (by omega);omega,fun _=>h.hja (by omega),fun u c d=>h.hxj u c (by omega),fun u c d=>h.hyk u c (by omega),h.sum,h.bnd,by rw[h.go,NB.L.HJ e hc]⟩
theorem eW.at{base a b:dt}{n i j k p q:Nat}{out:dt}(h:eW base a b n i j k out)(f:n<base.length)(e:at_ (pairs base a 0 0) n=p)(hq:at_ (pairs base b 0 0) n=q):j≤p∧p<a.length∧k≤q∧q<b.length:=by
 have c:=NB.L.at_mem e;have d:=NB.L.at_mem hq;exact⟨h.hxj _ c (Nat.le_refl _),(rJ c).2,h.hyk _ d (Nat.le_refl _),(rJ d).2⟩
theorem zV{old one b a:dt}(h:mix old one b=some a):a.length≤one.length∨a.length≤b.length:=by
 unfold mix at h;split at h
 ·cases h;exact .inr (Nat.le_refl _)
 split at h
 ·cases h;exact .inl (Nat.le_refl _)
 ·cases h
theorem eW.held{base a b:dt}{n i j k p q:Nat}{out c:dt}(h:eW base a b n i j k out)(f:n<base.length)(e:at_ (pairs base a 0 0) n=p)(hq:at_ (pairs base b 0 0) n=q)(hb:base.length≤1000∧a.length≤1000∧b.length≤1000)(hm:mix (cut base i n) (cut a j p) (cut b k q)=some c):eW base a b (n+1) (n+1) (p+1) (q+1) ((out++c)++[base[n]]):=by
 have l:=NB.L.at_mem e;have m:=NB.L.at_mem hq;obtain⟨o,r,s,t⟩:=h.at f e hq;have v:=h.hin (by omega);have w:=NB.L.qx a j p (by omega);have x:=NB.L.qx b k q (by omega);have y:=zV hm;have z:=h.sum;refine⟨by omega,by omega,by omega,fun u d g=>(An base a).lt l d (by dsimp only;omega),fun u d g=>(An base b).lt m d (by dsimp only;omega),?_,by omega,NB.L.I0 h.go f e hq hm⟩;rw[List.length_append,List.length_append,List.length_singleton];omega
theorem eW.fin{base a b:dt}{i j k:Nat}{out c:dt}(h:eW base a b base.length i j k out)(hb:base.length≤1000∧a.length≤1000∧b.length≤1000)(hm:mix (cut base i base.length) (cut a j a.length) (cut b k b.length)=some c):eW base a b (base.length+1) (base.length+1) (a.length+1) (b.length+1) (out++c):=by
 have l:=h.hin (Nat.le_refl _);obtain⟨f,g⟩:=h.hja (Nat.le_refl _);have m:=NB.L.qx a j a.length (Nat.le_refl _);have n:=NB.L.qx b k b.length (Nat.le_refl _);have o:=zV hm;have p:=h.sum;refine⟨Nat.le_refl _,by omega,by omega,fun u d e=>by have:=rJ d;omega,fun u d e=>by have:=rJ d;omega,?_,by omega,NB.L.step_end h.go hm⟩;rw[List.length_append];omega
set_option maxHeartbeats 4000000 in
theorem Gu(base a b:dt)(J:base.length≤1000)(F:a.length≤1000)(r:b.length≤1000):ae Tryz.prog 344 [.c (bS base),.c (bS a),.c (bS b)] [] (fun o ah=>ah=[]∧((∃l,merge base a b=some l∧o= .ret (.aC [(false,[bS l]),(false,[.bool true])]))∨(merge base a b=none∧o= .ret (.aC [(false,[bS []]),(false,[.bool false])])))):=by
 refine ak (n:=101) (n0:=0) tabOk Tryz.call344 Tryz.func344 ?_;intro hb;have T:=xA base a J F;have U:=xA base b J r;have W:=fun n=>wY (pairs base a 0 0) n;have Y:=fun n=>wY (pairs base b 0 0) n;(conv=>whnf);refine cl [] [] (T) ?_;(conv=>whnf);refine cl [] [] (U) ?_;(conv=>whnf);refine lp (Nat×Nat×Nat×Nat×dt) (fun p=>⟨[(0,.c (bS base)),(1,.c (bS a)),(2,.c (bS b)),(8,.c (.ls 2 (Nat×Nat) jQ (pairs base a 0 0))),(9,.c (.ls 2 (Nat×Nat) jQ (pairs base b 0 0))),(10,.c (.rw 0)),(11,.c (.int .i64 p.2.1)),(12,.c (.int .i64 p.2.2.1)),(13,.c (.int .i64 p.2.2.2.1)),(14,.c (.int .i64 p.1))],[.row 1 (List UInt8) (bf 1 bt) p.2.2.2.2]⟩) (fun p=>eW base a b p.1 p.2.1 p.2.2.1 p.2.2.2.1 p.2.2.2.2∧True) (fun p=>base.length+1-p.1) (0,0,0,0,[]) [] [.new] ⟨eW.start base a b,trivial⟩ ?_ (fun⟨n,i,j,k,out⟩ e=>?_)
 ·repeat' first|exact trivial|exact rfl|refine And.intro ?_ ?_
 obtain⟨e,-⟩:=e;have e:eW base a b n i j k out:=e;obtain⟨b1,b2,b3⟩:=e.bnd;(conv=>whnf);refine dec (fun x=>?_) (fun x=>?_)
 ·have x:n≤base.length:=by have x:(n:Int)≤base.length:=x;omega
  (conv=>whnf);refine dec (fun m=>?_) (fun m=>?_)
  ·have m:n<base.length:=by have m:(n:Int)<base.length:=m;omega
   (conv=>whnf);refine cl [] [] (W n) ?_;(conv=>whnf);refine cl [] [] (Y n) ?_;(conv=>whnf);refine dec (fun N=>?_) (fun N=>?_)
   ·repeat'((conv=>whnf);refine I6 ?_)
    refine ag (n+1,i,j,k,out) [] [.same 0] ⟨e.skip m (.inl N),trivial⟩ (by simp only[];omega) ?_;repeat' first|exact trivial|exact rfl|refine And.intro ?_ ?_
   (conv=>whnf);refine dec (fun O=>?_) (fun O=>?_)
   ·repeat'((conv=>whnf);refine I6 ?_)
    refine ag (n+1,i,j,k,out) [] [.same 0] ⟨e.skip m (.inr O),trivial⟩ (by simp only[];omega) ?_;repeat' first|exact trivial|exact rfl|refine And.intro ?_ ?_
   obtain⟨p,H⟩:∃p:Nat,at_ (pairs base a 0 0) n=p:=⟨(at_ (pairs base a 0 0) n).toNat,by omega⟩;obtain⟨q,I⟩:∃q:Nat,at_ (pairs base b 0 0) n=q:=⟨(at_ (pairs base b 0 0) n).toNat,by omega⟩;rw[H,I];obtain⟨Q,R,c3,c4⟩:=e.at m H I;have S:=e.hin x;(conv=>whnf);refine⟨false,.grow,(.l [0,1,2,3,4,5,6,7,8,9,10,11,12,13,14]),by kernel_rfl,.inl ?_⟩;(conv=>whnf);refine⟨i,n,rfl,rfl,by omega,?_⟩;(conv=>whnf);refine⟨j,p,rfl,rfl,by omega,?_⟩;(conv=>whnf);refine⟨k,q,rfl,rfl,by omega,?_⟩;(conv=>whnf);rw[nr,nr,nr];have d:∀g,mix (cut base i n) (cut a j p) (cut b k q)=some g→eW base a b (n+1) (n+1) (p+1) (q+1) ((out++g)++[base[n]]):=fun g h=>e.held m H I ⟨J,F,r⟩ h;have f:mix (cut base i n) (cut a j p) (cut b k q)=none→merge base a b=none:=fun h=>NB.L.Ee e.go m H I h;have w:base[n]? =some base[n]:=List.getElem?_eq_getElem m;have K:(cut a j p).length≤1000:=Nat.le_trans (lg a j p) F;have M:(cut b k q).length≤1000:=Nat.le_trans (lg b k q) r;have Z:=e.sum;generalize base[n]=D at d w;generalize cut base i n=E at d f⊢;generalize cut a j p=y at d f K⊢;generalize cut b k q=t at d f M⊢;refine cl [] [] (n3 E y) ?_;(conv=>whnf);refine dec (fun u=>?_) (fun u=>?_)
   ·have s:=d t (NB.L.ru (.inl u));(conv=>whnf);refine⟨_,_,rfl,rfl,(by simp only[List.length_append,List.length_cons,List.length_nil];omega),?_⟩;(conv=>whnf);refine dec (fun _=>?_) (fun h=>absurd (show(n:Int)<base.length by omega) h);(conv=>whnf);refine⟨n,D,rfl,w,?_⟩;(conv=>whnf);refine⟨[D],rfl,?_⟩;(conv=>whnf);refine⟨_,_,rfl,rfl,(by simp only[List.length_append,List.length_cons,List.length_nil];omega),?_⟩;repeat'((conv=>whnf);refine I6 ?_)
    refine ag (n+1,n+1,p+1,q+1,_) [] [.same 3] ⟨s,trivial⟩ (by simp only[];omega) ?_;repeat' first|exact trivial|exact rfl|refine And.intro ?_ ?_
   (conv=>whnf);refine cl [] [] (n3 y t) ?_;(conv=>whnf);refine dec (fun v=>?_) (fun v=>?_)
   ·have s:=d t (NB.L.ru (.inr v));(conv=>whnf);refine⟨_,_,rfl,rfl,(by simp only[List.length_append,List.length_cons,List.length_nil];omega),?_⟩;(conv=>whnf);refine dec (fun _=>?_) (fun h=>absurd (show(n:Int)<base.length by omega) h);(conv=>whnf);refine⟨n,D,rfl,w,?_⟩;(conv=>whnf);refine⟨[D],rfl,?_⟩;(conv=>whnf);refine⟨_,_,rfl,rfl,(by simp only[List.length_append,List.length_cons,List.length_nil];omega),?_⟩;repeat'((conv=>whnf);refine I6 ?_)
    refine ag (n+1,n+1,p+1,q+1,_) [] [.same 3] ⟨s,trivial⟩ (by simp only[];omega) ?_;repeat' first|exact trivial|exact rfl|refine And.intro ?_ ?_
   (conv=>whnf);refine cl [] [] (n3 E t) ?_;(conv=>whnf);refine dec (fun z=>?_) (fun z=>?_)
   ·have s:=d y (NB.L.zX (fun h=>h.elim u v) z);(conv=>whnf);refine⟨_,_,rfl,rfl,(by simp only[List.length_append,List.length_cons,List.length_nil];omega),?_⟩;(conv=>whnf);refine dec (fun _=>?_) (fun h=>absurd (show(n:Int)<base.length by omega) h);(conv=>whnf);refine⟨n,D,rfl,w,?_⟩;(conv=>whnf);refine⟨[D],rfl,?_⟩;(conv=>whnf);refine⟨_,_,rfl,rfl,(by simp only[List.length_append,List.length_cons,List.length_nil];omega),?_⟩;repeat'((conv=>whnf);refine I6 ?_)
    refine ag (n+1,n+1,p+1,q+1,_) [] [.same 3] ⟨s,trivial⟩ (by simp only[];omega) ?_;repeat' first|exact trivial|exact rfl|refine And.intro ?_ ?_
   ·(conv=>whnf);refine⟨[],[],.aC [(false,[bS []]),(false,[.bool false])],[],?_,rfl,rfl,?_⟩
    ·repeat' first|exact trivial|exact rfl|refine And.intro ?_ ?_
    ·exact Or.inr ⟨f (NB.L.zW (fun h=>h.elim u v) z),rfl⟩
  ·obtain rfl:n=base.length:=by have m:¬(n:Int)<base.length:=m;omega
   obtain⟨Q,R⟩:=e.hja (Nat.le_refl _);have S:=e.hin (Nat.le_refl _);(conv=>whnf);refine⟨false,.grow,(.l [0,1,2,3,4,5,6,7,8,9,10,11,12,13,14]),by kernel_rfl,.inl ?_⟩;(conv=>whnf);refine⟨i,base.length,rfl,rfl,by omega,?_⟩;(conv=>whnf);refine⟨j,a.length,rfl,rfl,by omega,?_⟩;(conv=>whnf);refine⟨k,b.length,rfl,rfl,by omega,?_⟩;(conv=>whnf);rw[nr,nr,nr];have d:∀g,mix (cut base i base.length) (cut a j a.length) (cut b k b.length)=some g→eW base a b (base.length+1) (base.length+1) (a.length+1) (b.length+1) (out++g):=fun g h=>e.fin ⟨J,F,r⟩ h;have f:mix (cut base i base.length) (cut a j a.length) (cut b k b.length)=none→merge base a b=none:=fun h=>NB.L.Ed e.go h;have K:(cut a j a.length).length≤1000:=Nat.le_trans (lg a j a.length) F;have M:(cut b k b.length).length≤1000:=Nat.le_trans (lg b k b.length) r;have Z:=e.sum;generalize cut base i base.length=E at d f⊢;generalize cut a j a.length=y at d f K⊢;generalize cut b k b.length=t at d f M⊢;refine cl [] [] (n3 E y) ?_;(conv=>whnf);refine dec (fun u=>?_) (fun u=>?_)
   ·have s:=d t (NB.L.ru (.inl u));(conv=>whnf);refine⟨_,_,rfl,rfl,(by simp only[List.length_append,List.length_cons,List.length_nil];omega),?_⟩;(conv=>whnf);refine dec (fun h=>absurd h (by show¬(base.length:Int)<base.length;omega)) (fun _=>?_);repeat'((conv=>whnf);refine I6 ?_)
    refine ag (base.length+1,base.length+1,a.length+1,b.length+1,_) [] [.same 1] ⟨s,trivial⟩ (by simp only[];omega) ?_;repeat' first|exact trivial|exact rfl|refine And.intro ?_ ?_
   (conv=>whnf);refine cl [] [] (n3 y t) ?_;(conv=>whnf);refine dec (fun v=>?_) (fun v=>?_)
   ·have s:=d t (NB.L.ru (.inr v));(conv=>whnf);refine⟨_,_,rfl,rfl,(by simp only[List.length_append,List.length_cons,List.length_nil];omega),?_⟩;(conv=>whnf);refine dec (fun h=>absurd h (by show¬(base.length:Int)<base.length;omega)) (fun _=>?_);repeat'((conv=>whnf);refine I6 ?_)
    refine ag (base.length+1,base.length+1,a.length+1,b.length+1,_) [] [.same 1] ⟨s,trivial⟩ (by simp only[];omega) ?_;repeat' first|exact trivial|exact rfl|refine And.intro ?_ ?_
   (conv=>whnf);refine cl [] [] (n3 E t) ?_;(conv=>whnf);refine dec (fun z=>?_) (fun z=>?_)
   ·have s:=d y (NB.L.zX (fun h=>h.elim u v) z);(conv=>whnf);refine⟨_,_,rfl,rfl,(by simp only[List.length_append,List.length_cons,List.length_nil];omega),?_⟩;(conv=>whnf);refine dec (fun h=>absurd h (by show¬(base.length:Int)<base.length;omega)) (fun _=>?_);repeat'((conv=>whnf);refine I6 ?_)
    refine ag (base.length+1,base.length+1,a.length+1,b.length+1,_) [] [.same 1] ⟨s,trivial⟩ (by simp only[];omega) ?_;repeat' first|exact trivial|exact rfl|refine And.intro ?_ ?_
   ·(conv=>whnf);refine⟨[],[],.aC [(false,[bS []]),(false,[.bool false])],[],?_,rfl,rfl,?_⟩
    ·repeat' first|exact trivial|exact rfl|refine And.intro ?_ ?_
    ·exact Or.inr ⟨f (NB.L.zW (fun h=>h.elim u v) z),rfl⟩
 ·have x:¬n≤base.length:=by have x:¬(n:Int)≤base.length:=x;omega
  obtain rfl:n=base.length+1:=by have:=e.hn;omega
  have P:=e.go;rw[NB.L.AT]at P;(conv=>whnf);refine⟨[0],[],.aC [(false,[bS (out++[])]),(false,[.bool true])],[],?_,rfl,rfl,?_⟩
  ·rw[List.append_nil];repeat' first|exact trivial|exact rfl|refine And.intro ?_ ?_
  ·exact Or.inl ⟨_,P,rfl⟩
end Go.Nest
