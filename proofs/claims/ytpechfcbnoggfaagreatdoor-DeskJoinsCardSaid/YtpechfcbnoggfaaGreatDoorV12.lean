import Derived.Test.YtpechfcbnoggfaaGreatDoorE1
import Derived.Test.YtpechfcbnoggfaaGreatDoorI1
import Derived.Test.YtpechfcbnoggfaaGreatDoorV36
set_option maxHeartbeats 8000000
set_option linter.unusedVariables false
set_option linter.unusedSimpArgs false
open Bool renaming false_or->S
open Int renaming toNat->T
open List renaming getElem?_eq_getElem->I,length_append->J,length_cons->M,length_nil->O,pairwise_iff_getElem->P,drop_eq_getElem_cons->Q,mem_cons_self->R
open Nat renaming blt->H,beq->N
section
namespace Go.Nest
open Go Go.AM Go.Proofs
open Go.Proofs.YtpechfcbnoggfaaGreatDoor (tab tabOk)
set_option maxRecDepth 4000
theorem JH{e:Int}{k:Nat}(h:e/2=k)(c:0<=e)(h1:e<=4000):IntKind.i64.wrap ((IntKind.u64.wrap e).fdiv (2^min (T 1) IntKind.u64.bits))=(k:Int):=by
 have a:(2:Int)^min (T 1) IntKind.u64.bits=2:=by decide
 have b:IntKind.u64.wrap e=e%18446744073709551616:=by simp[IntKind.wrap,IntKind.bits,IntKind.signed]
 rw[b,IntKind.wrap_i64,a,Int.fdiv_eq_ediv_of_nonneg _ (by omega)];omega
theorem zB(r:Rf)(n:List UInt8):aa Tryz.prog 280 [.st (bL r),.c (.str n)] [] (Rt (.c (.int .i64 (oc r.name n))) []):=by
 refine af (n:=15) (n0:=0) tabOk Tryz.call280 Tryz.func280 ?_;intro hb;unfold oc;refine aS (λh=>?_) (λh=>?_)
 ·rw[if_pos h];repeat'((conv=>whnf);first|refine aJ ?_|fail)
  rfl
 ·rw[if_neg (by simp[h])];refine dB (λa=>?_) (λa=>?_)
  ·rw[h,S,decide_eq_false_iff_not]at a;rw[if_neg a];repeat'((conv=>whnf);first|refine aJ ?_|fail)
   rfl
  ·rw[h,S,decide_eq_true_iff]at a;rw[if_pos a];repeat'((conv=>whnf);first|refine aJ ?_|fail)
   rfl
theorem N2(l:List Rf)(n:List UInt8)(y:fa l)(hl:l.length<=1000):aa Tryz.prog 279 [.c (.bs 2 Rf bL l),.c (.str n),.c (.fn 280 [])] [] (Rt (.ao [(false,[.int .i64 (bw l n)]),(false,[.bool (ey l n)])]) []):=by
 refine af (n:=49) (n0:=0) tabOk Tryz.call279 Tryz.func279 ?_;intro hb
 refine lp (Nat×Nat) (λz=>⟨[(0,.c (.bs 2 Rf bL l)),(1,.c (.str n)),(2,.c (.fn 280 [])),(8,.c (.int .i64 l.length)),(9,.c (.int .i64 (z.1:Nat))),(10,.c (.int .i64 (z.2:Nat)))],[]⟩)
  (λz=>(z.1<=z.2/\z.2<=l.length)/\(∀g∈l.take z.1,Op.bytesLess g.name n=true)/\∀g∈l.drop z.2,Op.bytesLess g.name n=false) (λz=>z.2-z.1) (0,l.length) [] [] ?_ ?_ (λz E=>?_)
 ·simp
 ·repeat' first|exact trivial|exact rfl|refine And.intro ?_ ?_
 obtain⟨b,m⟩:=z;obtain⟨⟨D,r⟩,s,o⟩:=E;dsimp only at D r s o;refine dec (λj=>?_) (λj=>?_)
 ·have j:b<m:=by simp only[]at j;omega
  refine⟨i64 (by simp only[];omega) (by simp only[];omega),?_⟩;refine⟨by decide,?_⟩;(conv=>whnf);obtain⟨q,F⟩:∃q,q=(b+m)/2:=⟨_,rfl⟩;have i:q<l.length:=by omega
  rw[JH (e:=(((b,m).1:Nat):Int)+(((b,m).2:Nat):Int)) (k:=q) (by simp only[];omega) (by simp only[];omega) (by simp only[];omega)];refine⟨q,l[q],rfl,I i,?_⟩;refine cl [] [] (zB l[q] n) ?_;refine dec (λa=>?_) (λa=>?_)
  ·have a:=Aw.1 a;refine⟨i64 (by omega) (by omega),?_⟩;refine ag (q+1,m) [] [] ⟨⟨by simp only[];omega,r⟩,λg u=>?_,o⟩ (by simp only[];omega) ?_
   ·obtain⟨k,x,e⟩:=List.mem_take_iff_getElem.1 u;subst e;by_cases d:k=q
    ·subst d;exact a
    ·exact lO (P.1 y k q (by omega) i (by omega)) a
   ·repeat' first|exact trivial|exact rfl|refine And.intro ?_ ?_
  ·have a:Op.bytesLess l[q].name n=false:=by
    cases t:Op.bytesLess l[q].name n with
    |false=>rfl
    |true=>exact absurd (Aw.2 t) a
   refine ag (b,q) [] [] ⟨⟨by simp only[];omega,by simp only[];omega⟩,s,λg u=>?_⟩ (by simp only[];omega) ?_
   ·obtain⟨k,x,e⟩:=List.mem_iff_getElem.1 u;rw[List.getElem_drop]at e;subst e;rw[List.length_drop]at x;by_cases d:k=0
    ·subst d;simpa using a
    ·cases t:Op.bytesLess l[q+k].name n with
     |false=>rfl
     |true=>rw[lO (P.1 y q (q+k) i (by omega) (by omega)) t]at a;cases a
   ·repeat' first|exact trivial|exact rfl|refine And.intro ?_ ?_
 ·have j:b=m:=by simp only[]at j;omega
  subst j;have w:bw l n=b:=xT r s (λh=>o _ (by rw[Q h];exact R ..));rw[w];refine dec (λa=>?_) (λa=>?_)
  ·have f:b<l.length:=by simp only[]at a;omega
   have v:=o _ (by rw[Q f];exact R ..)
   have p:ey l n=decide (oc l[b].name n=0):=by
    unfold ey;rw[w,I f];rw[Bool.eq_iff_iff,decide_eq_true_iff,decide_eq_true_iff,HD v];simp
   rw[p];refine⟨b,l[b],rfl,I f,?_⟩;refine cl [] [] (zB l[b] n) ?_;exact rx [] []
  ·have p:ey l n=false:=by
    unfold ey;rw[w,List.getElem?_eq_none (by simp only[]at a;omega)];simp
   rw[p];exact rx [] []
theorem zH(l:List Rf)(m:List Mv)(n:List UInt8)(a:fa l)(hl:l.length<=1000):aa Tryz.prog 213 [.c (.bp [.bs 2 Rf bL l,.bs 3 Mv cN m]),.c (.str n)] [] (Rt (.ao [(false,[.int .i64 (bw l n)]),(false,[.bool (ey l n)])]) []):=by
 refine af (n:=14) (n0:=0) tabOk Tryz.call213 Tryz.func213 ?_;intro hb;refine cl [] [] (N2 l n a hl) ?_;exact rx [] []
theorem qT(l:List Rf)(m:List Mv)(n:List UInt8)(d:fa l)(hl:l.length<=1000):aa Tryz.prog 132 [.c (.bp [.bs 2 Rf bL l,.bs 3 Mv cN m]),.c (.str n)] [] (Rt (.c (.int .i64 (cm l n))) []):=by
 refine af (n:=23) (n0:=0) tabOk Tryz.call132 Tryz.func132 ?_;intro hb;refine cl [] [] (zH l m n d hl) ?_;refine dB (λh=>?_) (λh=>?_)
 ·rw[np h];repeat'((conv=>whnf);first|refine aJ ?_|fail)
  rfl
 ·obtain⟨a,e,b⟩:=qS h;rw[b];refine⟨bw l n,_,rfl,I a,?_⟩;repeat'((conv=>whnf);first|refine aJ ?_|fail)
  rfl
theorem HB(l:List Rf)(hl:l.length*24<=140737488355328):aa Tryz.prog 139 [.c (.bs 2 Rf bL l)] [] (Rt (.c (.rw 0)) [.row 2 Rf bL l]):=by
 refine af (n:=8) (n0:=0) tabOk Tryz.call139 Tryz.func139 ?_;intro hb;(conv=>whnf);intro q a;refine aS (λh=>?_) (λh=>?_)
 ·obtain rfl:=a h;exact rx [] [.new]
 ·refine⟨[],rfl,?_⟩;refine⟨_,_,rfl,rfl,(by simp only[J,M,O];omega),?_⟩;exact rx [] [.s 1]
theorem CR(l:List Rf)(m:List Mv)(hl:l.length<=1000):aa Tryz.prog 69 [.c (.bp [.bs 2 Rf bL l,.bs 3 Mv cN m])] [] (Rt (.c (.rw 0)) [.row 2 Rf bL l]):=by
 refine af (n:=8) (n0:=0) tabOk Tryz.call69 Tryz.func69 ?_;intro hb;refine cl [] [] (HB l (by omega)) ?_;exact rx [] [.s 0]
theorem ri:aa Tryz.prog 51 [] [] (Rt (.c (.ptr 0 0)) [.box [.rw 1,.rw 2],.row 2 Rf bL [],.row 3 Mv cN []]):=by
 refine af (n:=3) (n0:=0) tabOk Tryz.call51 Tryz.func51 ?_;intro hb;exact rx [] [.s 0,.new,.new]
def aY(l:List Rf)(n:List UInt8)(old id:Int):List Rf:=if dN l n old id=0 then lI l n id else l
def fZ(l:List Rf)(m:List Mv)(n:List UInt8)(old id:Int):List Mv:=if dN l n old id=0 then m++[⟨n,old,id⟩]else m
theorem rJ(l:List Rf)(m:List Mv)(n:List UInt8)(old id:Int)(w:fa l)(hi:∀r∈l,0<=r.id)(hl:l.length<=8)(hm:m.length<=999):aa Tryz.prog 131 [.c (.ptr 0 0),.c (.str n),.c (.int .i64 old),.c (.int .i64 id)] [.box [.rw 1,.rw 2],.row 2 Rf bL l,.row 3 Mv cN m]
  (Rt (.c (.int .i64 (dN l n old id))) [.box [.rw 3,.rw 4],.dead,.dead,.row 2 Rf bL (aY l n old id),.row 3 Mv cN (fZ l m n old id)]):=by
 refine af (n:=102) (n0:=3) tabOk Tryz.call131 Tryz.func131 ?_;intro hb;refine cl [] [] (zH l m n w (by omega)) ?_;have k:dN l n old id≠0->aY l n old id=l/\fZ l m n old id=m:=λh=>⟨if_neg h,if_neg h⟩;have yes:dN l n old id=0->aY l n old id=lI l n id/\fZ l m n old id=m++[⟨n,old,id⟩]:=λh=>⟨if_pos h,if_pos h⟩;refine cl [] [] (tO n) ?_;refine ay (λq=>?_) (λq=>?_)
 ·have e:dN l n old id=bP n:=if_pos q;obtain⟨a,b⟩:=k (by rw[e];exact q);rw[e,a,b];refine cl [] [] (tO n) ?_;exact rx [] [.s 0,.s 1,.s 2,.s 1,.s 2]
 have t:dN l n old id=_:=if_neg (λh=>h q);refine dec (λo=>?_) (λo=>?_)
 ·have e:=t.trans (if_pos o);obtain⟨a,b⟩:=k (by rw[e];decide);rw[e,a,b];exact rx [] [.s 0,.s 1,.s 2,.s 1,.s 2]
 have u:=t.trans (if_neg o);refine cl [] [] (qT l m n w (by omega)) ?_;refine ay (λj=>?_) (λj=>?_)
 ·have e:=u.trans (if_pos j);obtain⟨a,b⟩:=k (by rw[e];decide);rw[e,a,b];exact rx [] [.s 0,.s 1,.s 2,.s 1,.s 2]
 have p:=u.trans (if_neg (λh=>h j));have j:old=cm l n:=j;have z:=xU (l:=l) (n:=n);refine dB (λg=>?_) (λg=>?_)
 ·have y:old= -1:=by rw[j,np g]
  refine dec (λd=>?_) (λd=>?_)
  ·have d:0<=id:=d;refine dec (λf=>?_) (λf=>?_)
   ·have f:(l.length:Int)=8:=f;have e:=p.trans (if_pos ⟨g,d,by omega⟩);obtain⟨a,b⟩:=k (by rw[e];decide);rw[e,a,b];exact rx [] [.s 0,.s 1,.s 2,.s 1,.s 2]
   ·have f:¬(l.length:Int)=8:=f;have e:=(p.trans (if_neg (λh=>f (by rw[h.2.2];rfl)))).trans (if_neg (by omega));obtain⟨a,b⟩:=yes e;rw[e,a,b,show lI l n id=ma l ⟨n,id⟩from if_pos g];refine dec (λs=>absurd s (by omega)) (λ_=>?_);rw[g];refine⟨[⟨n,id⟩],rfl,?_⟩;refine cl [] [1,3] (Kq l ⟨n,id⟩ (bw l n) xU (by omega)) ?_;refine⟨[⟨n,old,id⟩],rfl,?_⟩;refine⟨_,_,rfl,rfl,(by simp only[J,M,O];omega),?_⟩;exact rx [] [.s 0,.s 1,.s 2,.s 4,.s 6]
  ·have d:¬0<=id:=d;have o:¬id< -1:=o;have e:=(p.trans (if_neg (λh=>d h.2.1))).trans (if_pos (by omega));obtain⟨a,b⟩:=k (by rw[e];decide);rw[e,a,b];refine dec (λ_=>?_) (λs=>absurd (show id=old by omega) s);exact rx [] [.s 0,.s 1,.s 2,.s 1,.s 2]
 ·obtain⟨i,x,D⟩:=qS g;have v:=p.trans (if_neg (λh=>by rw[g]at h;cases h.1));refine dec (λd=>?_) (λd=>?_)
  ·have e:=v.trans (if_pos d);obtain⟨a,b⟩:=k (by rw[e];decide);rw[e,a,b];exact rx [] [.s 0,.s 1,.s 2,.s 1,.s 2]
  have e:=v.trans (if_neg d);obtain⟨a,b⟩:=yes e;rw[e,a,b,show lI l n id=_ from if_neg (by rw[g];decide),g];refine dec (λf=>?_) (λf=>?_)
  ·rw[if_pos f];refine⟨i64 (by omega) (by omega),?_⟩;refine cl [] [1] (Iq l (bw l n) i (by omega)) ?_;refine⟨[⟨n,old,id⟩],rfl,?_⟩;refine⟨_,_,rfl,rfl,(by simp only[J,M,O];omega),?_⟩;exact rx [] [.s 0,.s 1,.s 2,.s 3,.s 5]
  ·rw[if_neg f];refine⟨bw l n,⟨rfl,i⟩,?_⟩;refine⟨l[bw l n],⟨n,id⟩,I i,⟨Nat.le_refl 2,by simp[bL,x]⟩,?_⟩;refine⟨[⟨n,old,id⟩],rfl,?_⟩;refine⟨_,_,rfl,rfl,(by simp only[J,M,O];omega),?_⟩;exact rx [] [.s 0,.s 1,.s 2,.s 1,.s 4]
set_option maxRecDepth 100000
theorem tS:aa Tryz.prog 52 [.c (.ptr 0 0)] [.dead] (Rt (.c (.ptr 1 0)) [.dead,.box [.ptr 0 0,.rw 2,.int .i64 (-1)],.row 5 It aM []]):=by
 refine af (n:=6) (n0:=1) tabOk Tryz.call52 Tryz.func52 ?_;intro hb;exact rx [] [.s 0,.s 1,.new]
theorem L6:aa Tryz.prog 50 [.c (.ptr 0 0)] [.dead] (Rt (.c (.ptr 1 0)) [.dead,.box [.ptr 0 0,.rw 2,.rw 3,.rw 4,.rw 5,.rw 6,.rw 7,.rw 8,.rw 9],.row 1 Bool ai [],.row 1 Bool ai [],.row 1 Bool ai [],.row 1 Bool ai [],.row 1 Int encI [],.row 1 Int encI [],.row 1 Int encI [],.row 1 Int encI []]):=by
 refine af (n:=6) (n0:=1) tabOk Tryz.call50 Tryz.func50 ?_;intro hb;exact rx [] [.s 0,.s 1,.new,.new,.new,.new,.new,.new,.new,.new]
def rj(r:Nat):List B:=[.box [.ptr 1 0,(bif H 0 r then .ptr 2 0 else .raw (.pointer none)),(bif H 0 r then .ptr 3 0 else .raw (.pointer none)),(bif H 1 r then .ptr 4 0 else .raw (.pointer none)),(bif H 1 r then .ptr 5 0 else .raw (.pointer none)),(bif H 2 r then .ptr 6 0 else .raw (.pointer none)),(bif H 2 r then .ptr 7 0 else .raw (.pointer none)),(bif H 3 r then .ptr 8 0 else .raw (.pointer none)),(bif H 3 r then .ptr 9 0 else .raw (.pointer none))],.box [.ptr 10 0,.rw 12,.rw 13,.rw 14,.rw 15,.rw 16,.rw 17,.rw 18,.rw 19],(bif H 0 r then .box [.rw 20,.rw 24]else .dead),(bif H 0 r then .box [.ptr 10 0,.rw 28,.int .i64 (-1)]else .dead),(bif H 1 r then .box [.rw 21,.rw 25]else .dead),(bif H 1 r then .box [.ptr 10 0,.rw 29,.int .i64 (-1)]else .dead),(bif H 2 r then .box [.rw 22,.rw 26]else .dead),(bif H 2 r then .box [.ptr 10 0,.rw 30,.int .i64 (-1)]else .dead),(bif H 3 r then .box [.rw 23,.rw 27]else .dead),(bif H 3 r then .box [.ptr 10 0,.rw 31,.int .i64 (-1)]else .dead),.box [.rw 11],.row 6 Ob an [],.row 1 Bool ai [],.row 1 Bool ai [],.row 1 Bool ai [],.row 1 Bool ai [],.row 1 Int encI [],.row 1 Int encI [],.row 1 Int encI [],.row 1 Int encI [],(bif H 0 r then .row 2 Rf bL []else .dead),(bif H 1 r then .row 2 Rf bL []else .dead),(bif H 2 r then .row 2 Rf bL []else .dead),(bif H 3 r then .row 2 Rf bL []else .dead),(bif H 0 r then .row 3 Mv cN []else .dead),(bif H 1 r then .row 3 Mv cN []else .dead),(bif H 2 r then .row 3 Mv cN []else .dead),(bif H 3 r then .row 3 Mv cN []else .dead),(bif H 0 r then .row 5 It aM []else .dead),(bif H 1 r then .row 5 It aM []else .dead),(bif H 2 r then .row 5 It aM []else .dead),(bif H 3 r then .row 5 It aM []else .dead)]
def rQ(f:Nat->Nat):List Rn:=[.s (f 0),.s (f 1),.s (f 2),.s (f 3),.s (f 4),.s (f 5),.s (f 6),.s (f 7),.s (f 8),.s (f 9),.s (f 10),.s (f 11),.s (f 12),.s (f 13),.s (f 14),.s (f 15),.s (f 16),.s (f 17),.s (f 18),.s (f 19),.s (f 20),.s (f 21),.s (f 22),.s (f 23),.s (f 24),.s (f 25),.s (f 26),.s (f 27),.s (f 28),.s (f 29),.s (f 30),.s (f 31)]
def tW(r a b c d e:Nat):List Rn:=rQ λi=>bif N i (2+2*r)then a else bif N i (3+2*r)then b else bif N i (20+r)then c else bif N i (24+r)then d else bif N i (28+r)then e else i
theorem Js:aa Tryz.prog 21 [] [] (Rt (.c (.ptr 0 0)) (aO c8)):=by
 refine af (n:=23) (n0:=0) tabOk Tryz.call21 Tryz.func21 ?_;intro hb;refine cl [] [] (L7) ?_;refine cl [] [0] (L6) ?_;refine lp Nat (λr=>⟨[(1,.c (.ptr 10 0)),(2,.c (.ptr 0 0)),(9,.c (.int .i64 r))],rj r⟩) (λr=>r<=4/\True) (λr=>4-r) 0 [] (rQ λi=>bif N i 0 then 11 else bif N i 1 then 2 else bif N i 10 then 0 else bif N i 11 then 1 else i-9) ⟨by decide,trivial⟩ dw (λr a=>?_);obtain⟨b,-⟩:=a;have a:r<4\/r=4:=by omega
 rcases a with a|rfl
 ·rcases four a with rfl|rfl|rfl|rfl
  ·refine⟨false,.grow,(.l [0,1,3,6,7,2,4,5,8,9]),by kernel_rfl,.inl ?_⟩;refine cl [] [] (ri) ?_;refine aE [10] (rj 0++[.box [.rw 33,.rw 34],.row 2 Rf bL [],.row 3 Mv cN [],.box [.ptr 10 0,.rw 36,.int .i64 (-1)],.row 5 It aM []]) tS ?_;refine⟨_,⟨rfl,by decide⟩,?_⟩;repeat'(refine I6 ?_)
   refine ag (0+1) [] (tW 0 32 35 33 34 36) ⟨by decide,trivial⟩ (by decide) ?_;exact dw
  ·refine⟨false,.grow,(.l [0,1,3,6,7,2,4,5,8,9]),by kernel_rfl,.inl ?_⟩;refine cl [] [] (ri) ?_;refine aE [10] (rj 1++[.box [.rw 33,.rw 34],.row 2 Rf bL [],.row 3 Mv cN [],.box [.ptr 10 0,.rw 36,.int .i64 (-1)],.row 5 It aM []]) tS ?_;refine⟨_,⟨rfl,by decide⟩,?_⟩;repeat'(refine I6 ?_)
   refine ag (1+1) [] (tW 1 32 35 33 34 36) ⟨by decide,trivial⟩ (by decide) ?_;exact dw
  ·refine⟨false,.grow,(.l [0,1,3,6,7,2,4,5,8,9]),by kernel_rfl,.inl ?_⟩;refine cl [] [] (ri) ?_;refine aE [10] (rj 2++[.box [.rw 33,.rw 34],.row 2 Rf bL [],.row 3 Mv cN [],.box [.ptr 10 0,.rw 36,.int .i64 (-1)],.row 5 It aM []]) tS ?_;refine⟨_,⟨rfl,by decide⟩,?_⟩;repeat'(refine I6 ?_)
   refine ag (2+1) [] (tW 2 32 35 33 34 36) ⟨by decide,trivial⟩ (by decide) ?_;exact dw
  ·refine⟨false,.grow,(.l [0,1,3,6,7,2,4,5,8,9]),by kernel_rfl,.inl ?_⟩;refine cl [] [] (ri) ?_;refine aE [10] (rj 3++[.box [.rw 33,.rw 34],.row 2 Rf bL [],.row 3 Mv cN [],.box [.ptr 10 0,.rw 36,.int .i64 (-1)],.row 5 It aM []]) tS ?_;refine⟨_,⟨rfl,by decide⟩,?_⟩;repeat'(refine I6 ?_)
   refine ag (3+1) [] (tW 3 32 35 33 34 36) ⟨by decide,trivial⟩ (by decide) ?_;exact dw
 ·exact aF (rQ id)
def dh(u:Bool)(c:C):B:= .box [bif u then .ptr 11 0 else .raw (.pointer none),c,.ptr 0 0] (some 111)
theorem sR:aa Tryz.prog 12 [] [] (Rt (.c (.ptr 11 0)) (aQ 1 [dh false .nil] c8)):=by
 refine af (n:=4) (n0:=0) tabOk Tryz.call12 Tryz.func12 ?_;intro hb;refine aE [] (aO c8) Js ?_;exact aF ([.s 0,.s 1,.s 2,.s 3,.s 4,.s 5,.s 6,.s 7,.s 8,.s 9,.s 10,.s 32,.s 11,.s 12,.s 13,.s 14,.s 15,.s 16,.s 17,.s 18,.s 19,.s 20,.s 21,.s 22,.s 23,.s 24,.s 25,.s 26,.s 27,.s 28,.s 29,.s 30,.s 31])
end Go.Nest
end
