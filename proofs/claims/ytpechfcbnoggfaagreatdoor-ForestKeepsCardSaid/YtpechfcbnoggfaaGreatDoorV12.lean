/- part -/
import Derived.Test.YtpechfcbnoggfaaGreatDoorN1
import Derived.Test.YtpechfcbnoggfaaGreatDoorI1
import Derived.Test.YtpechfcbnoggfaaGreatDoorW1
import Derived.Test.YtpechfcbnoggfaaGreatDoorV1
set_option linter.unusedVariables false
set_option linter.unusedSimpArgs false
section
namespace Go.Nest
open Go Go.AM Go.Proofs
open Go.Proofs.YtpechfcbnoggfaaGreatDoor (tab tabOk)
set_option maxRecDepth 4000
theorem EP{e:Int}{k:Nat}(h:e/2=k)(c:0≤e)(h1:e≤4000):IntKind.i64.wrap ((IntKind.u64.wrap e).fdiv (2^min (Int.toNat 1) IntKind.u64.bits))=(k:Int):=by
 have a:(2:Int)^min (Int.toNat 1) IntKind.u64.bits=2:=by decide
 have b:IntKind.u64.wrap e=e%18446744073709551616:=by simp[IntKind.wrap,IntKind.bits,IntKind.signed]
 rw[b,IntKind.wrap_i64,a,Int.fdiv_eq_ediv_of_nonneg _ (by omega)];omega
theorem wR(r:Rf)(n:List UInt8):ae Tryz.prog 280 [.st (bd r),.c (.str n)] [] (Rt (.c (.int .i64 (me r.name n))) []):=by
 refine ak (n:=15) (n0:=0) tabOk Tryz.call280 Tryz.func280 ?_;intro hb;unfold me;(conv=>whnf);refine aL (fun h=>?_) (fun h=>?_)
 ·rw[if_pos h];repeat'((conv=>whnf);first|refine aG ?_|fail)
  rfl
 ·rw[if_neg (by simp[h])];(conv=>whnf);refine cO (fun a=>?_) (fun a=>?_)
  ·rw[h,Bool.false_or,decide_eq_false_iff_not]at a;rw[if_neg a];repeat'((conv=>whnf);first|refine aG ?_|fail)
   rfl
  ·rw[h,Bool.false_or,decide_eq_true_iff]at a;rw[if_pos a];repeat'((conv=>whnf);first|refine aG ?_|fail)
   rfl
set_option maxHeartbeats 2000000 in
theorem Ir(l:List Rf)(n:List UInt8)(y:eG l)(hl:l.length≤1000):ae Tryz.prog 279 [.c (.bs 2 Rf bd l),.c (.str n),.c (.fn 280 [])] [] (Rt (.aC [(false,[.int .i64 (a8 l n)]),(false,[.bool (dK l n)])]) []):=by
 refine ak (n:=49) (n0:=0) tabOk Tryz.call279 Tryz.func279 ?_;intro hb;(conv=>whnf)
 refine lp (Nat×Nat) (fun z=>⟨[(0,.c (.bs 2 Rf bd l)),(1,.c (.str n)),(2,.c (.fn 280 [])),(8,.c (.int .i64 l.length)),(9,.c (.int .i64 (z.1:Nat))),(10,.c (.int .i64 (z.2:Nat)))],[]⟩)
  (fun z=>(z.1≤z.2∧z.2≤l.length)∧(∀g∈l.take z.1,Op.bytesLess g.name n=true)∧∀g∈l.drop z.2,Op.bytesLess g.name n=false) (fun z=>z.2-z.1) (0,l.length) [] [] ?_ ?_ (fun z E=>?_)
 ·simp
 ·repeat' first|exact trivial|exact rfl|refine And.intro ?_ ?_
 obtain⟨b,m⟩:=z;obtain⟨⟨D,r⟩,s,o⟩:=E;dsimp only at D r s o;(conv=>whnf);refine dec (fun j=>?_) (fun j=>?_)
 ·have j:b<m:=by simp only[]at j;omega
  (conv=>whnf);refine⟨i64 (by simp only[];omega) (by simp only[];omega),?_⟩;(conv=>whnf);refine⟨by decide,?_⟩;(conv=>whnf);obtain⟨q,F⟩:∃q,q=(b+m)/2:=⟨_,rfl⟩;have i:q<l.length:=by omega
  rw[EP (e:=(((b,m).1:Nat):Int)+(((b,m).2:Nat):Int)) (k:=q) (by simp only[];omega) (by simp only[];omega) (by simp only[];omega)];refine⟨q,l[q],rfl,List.getElem?_eq_getElem i,?_⟩;(conv=>whnf);refine cl [] [] (wR l[q] n) ?_;(conv=>whnf);refine dec (fun a=>?_) (fun a=>?_)
  ·have a:=xt.1 a;(conv=>whnf);refine⟨i64 (by omega) (by omega),?_⟩;(conv=>whnf);refine ag (q+1,m) [] [] ⟨⟨by simp only[];omega,r⟩,fun g u=>?_,o⟩ (by simp only[];omega) ?_
   ·obtain⟨k,x,e⟩:=List.mem_take_iff_getElem.1 u;subst e;by_cases d:k=q
    ·subst d;exact a
    ·exact kY (List.pairwise_iff_getElem.1 y k q (by omega) i (by omega)) a
   ·repeat' first|exact trivial|exact rfl|refine And.intro ?_ ?_
  ·have a:Op.bytesLess l[q].name n=false:=by
    cases t:Op.bytesLess l[q].name n with
    |false=>rfl
    |true=>exact absurd (xt.2 t) a
   (conv=>whnf);refine ag (b,q) [] [] ⟨⟨by simp only[];omega,by simp only[];omega⟩,s,fun g u=>?_⟩ (by simp only[];omega) ?_
   ·obtain⟨k,x,e⟩:=List.mem_iff_getElem.1 u;rw[List.getElem_drop]at e;subst e;rw[List.length_drop]at x;by_cases d:k=0
    ·subst d;simpa using a
    ·cases t:Op.bytesLess l[q+k].name n with
     |false=>rfl
     |true=>rw[kY (List.pairwise_iff_getElem.1 y q (q+k) i (by omega) (by omega)) t]at a;cases a
   ·repeat' first|exact trivial|exact rfl|refine And.intro ?_ ?_
 ·have j:b=m:=by simp only[]at j;omega
  subst j;have w:a8 l n=b:=vk r s (fun h=>o _ (by rw[List.drop_eq_getElem_cons h];exact List.mem_cons_self ..));rw[w];(conv=>whnf);refine dec (fun a=>?_) (fun a=>?_)
  ·have f:b<l.length:=by simp only[]at a;omega
   have v:=o _ (by rw[List.drop_eq_getElem_cons f];exact List.mem_cons_self ..)
   have p:dK l n=decide (me l[b].name n=0):=by
    unfold dK;rw[w,List.getElem?_eq_getElem f];rw[Bool.eq_iff_iff,decide_eq_true_iff,decide_eq_true_iff,C0 v];simp
   rw[p];(conv=>whnf);refine⟨b,l[b],rfl,List.getElem?_eq_getElem f,?_⟩;(conv=>whnf);refine cl [] [] (wR l[b] n) ?_;(conv=>whnf);exact rx [] []
  ·have p:dK l n=false:=by
    unfold dK;rw[w,List.getElem?_eq_none (by simp only[]at a;omega)];simp
   rw[p];(conv=>whnf);exact rx [] []
theorem wW(l:List Rf)(m:List Mv)(n:List UInt8)(a:eG l)(hl:l.length≤1000):ae Tryz.prog 213 [.c (.bp [.bs 2 Rf bd l,.bs 3 Mv cC m]),.c (.str n)] [] (Rt (.aC [(false,[.int .i64 (a8 l n)]),(false,[.bool (dK l n)])]) []):=by
 refine ak (n:=14) (n0:=0) tabOk Tryz.call213 Tryz.func213 ?_;intro hb;(conv=>whnf);refine cl [] [] (Ir l n a hl) ?_;(conv=>whnf);exact rx [] []
theorem oW(l:List Rf)(m:List Mv)(n:List UInt8)(d:eG l)(hl:l.length≤1000):ae Tryz.prog 132 [.c (.bp [.bs 2 Rf bd l,.bs 3 Mv cC m]),.c (.str n)] [] (Rt (.c (.int .i64 (bD l n))) []):=by
 refine ak (n:=23) (n0:=0) tabOk Tryz.call132 Tryz.func132 ?_;intro hb;(conv=>whnf);refine cl [] [] (wW l m n d hl) ?_;(conv=>whnf);refine cO (fun h=>?_) (fun h=>?_)
 ·rw[ln h];repeat'((conv=>whnf);first|refine aG ?_|fail)
  rfl
 ·obtain⟨a,e,b⟩:=oV h;rw[b];(conv=>whnf);refine⟨a8 l n,_,rfl,List.getElem?_eq_getElem a,?_⟩;repeat'((conv=>whnf);first|refine aG ?_|fail)
  rfl
end Go.Nest
end
section
namespace Go.Nest
open Go Go.AM Go.Proofs
open Go.Proofs.YtpechfcbnoggfaaGreatDoor (tab tabOk)
set_option maxRecDepth 4000
theorem CY(l:List Rf)(hl:l.length*24≤140737488355328):ae Tryz.prog 139 [.c (.bs 2 Rf bd l)] [] (Rt (.c (.rw 0)) [.row 2 Rf bd l]):=by
 refine ak (n:=8) (n0:=0) tabOk Tryz.call139 Tryz.func139 ?_;intro hb;(conv=>whnf);intro q a;(conv=>whnf);refine aL (fun h=>?_) (fun h=>?_)
 ·obtain rfl:=a h;(conv=>whnf);exact rx [] [.new]
 ·(conv=>whnf);refine⟨[],rfl,?_⟩;(conv=>whnf);refine⟨_,_,rfl,rfl,(by simp only[List.length_append,List.length_cons,List.length_nil];omega),?_⟩;(conv=>whnf);exact rx [] [.same 1]
theorem zH(l:List Rf)(m:List Mv)(hl:l.length≤1000):ae Tryz.prog 69 [.c (.bp [.bs 2 Rf bd l,.bs 3 Mv cC m])] [] (Rt (.c (.rw 0)) [.row 2 Rf bd l]):=by
 refine ak (n:=8) (n0:=0) tabOk Tryz.call69 Tryz.func69 ?_;intro hb;(conv=>whnf);refine cl [] [] (CY l (by omega)) ?_;(conv=>whnf);exact rx [] [.same 0]
theorem pq:ae Tryz.prog 51 [] [] (Rt (.c (.ptr 0 0)) [.box [.rw 1,.rw 2],.row 2 Rf bd [],.row 3 Mv cC []]):=by
 refine ak (n:=3) (n0:=0) tabOk Tryz.call51 Tryz.func51 ?_;intro hb;(conv=>whnf);exact rx [] [.same 0,.new,.new]
end Go.Nest
end
section
namespace Go.Nest
open Go Go.AM Go.Proofs
open Go.Proofs.YtpechfcbnoggfaaGreatDoor (tab tabOk)
set_option maxRecDepth 4000
def aS(l:List Rf)(n:List UInt8)(old id:Int):List Rf:=if dB l n old id=0 then kg l n id else l
def eU(l:List Rf)(m:List Mv)(n:List UInt8)(old id:Int):List Mv:=if dB l n old id=0 then m++[⟨n,old,id⟩]else m
set_option maxHeartbeats 4000000 in
theorem pI(l:List Rf)(m:List Mv)(n:List UInt8)(old id:Int)(w:eG l)(hi:∀r∈l,0≤r.id)(hl:l.length≤8)(hm:m.length≤999):ae Tryz.prog 131 [.c (.ptr 0 0),.c (.str n),.c (.int .i64 old),.c (.int .i64 id)] [.box [.rw 1,.rw 2],.row 2 Rf bd l,.row 3 Mv cC m]
  (Rt (.c (.int .i64 (dB l n old id))) [.box [.rw 3,.rw 4],.dead,.dead,.row 2 Rf bd (aS l n old id),.row 3 Mv cC (eU l m n old id)]):=by
 refine ak (n:=102) (n0:=3) tabOk Tryz.call131 Tryz.func131 ?_;intro hb;(conv=>whnf);refine cl [] [] (wW l m n w (by omega)) ?_;have k:dB l n old id≠0→aS l n old id=l∧eU l m n old id=m:=fun h=>⟨if_neg h,if_neg h⟩;have yes:dB l n old id=0→aS l n old id=kg l n id∧eU l m n old id=m++[⟨n,old,id⟩]:=fun h=>⟨if_pos h,if_pos h⟩;(conv=>whnf);refine cl [] [] (ry n) ?_;(conv=>whnf);refine aw (fun q=>?_) (fun q=>?_)
 ·have e:dB l n old id=bJ n:=if_pos q;obtain⟨a,b⟩:=k (by rw[e];exact q);rw[e,a,b];(conv=>whnf);refine cl [] [] (ry n) ?_;(conv=>whnf);exact rx [] [.same 0,.same 1,.same 2,.same 1,.same 2]
 have t:dB l n old id=_:=if_neg (fun h=>h q);(conv=>whnf);refine dec (fun o=>?_) (fun o=>?_)
 ·have e:=t.trans (if_pos o);obtain⟨a,b⟩:=k (by rw[e];decide);rw[e,a,b];(conv=>whnf);exact rx [] [.same 0,.same 1,.same 2,.same 1,.same 2]
 have u:=t.trans (if_neg o);(conv=>whnf);refine cl [] [] (oW l m n w (by omega)) ?_;(conv=>whnf);refine aw (fun j=>?_) (fun j=>?_)
 ·have e:=u.trans (if_pos j);obtain⟨a,b⟩:=k (by rw[e];decide);rw[e,a,b];(conv=>whnf);exact rx [] [.same 0,.same 1,.same 2,.same 1,.same 2]
 have p:=u.trans (if_neg (fun h=>h j));have j:old=bD l n:=j;have z:=vm (l:=l) (n:=n);(conv=>whnf);refine cO (fun g=>?_) (fun g=>?_)
 ·have y:old= -1:=by rw[j,ln g]
  (conv=>whnf);refine dec (fun d=>?_) (fun d=>?_)
  ·have d:0≤id:=d;(conv=>whnf);refine dec (fun f=>?_) (fun f=>?_)
   ·have f:(l.length:Int)=8:=f;have e:=p.trans (if_pos ⟨g,d,by omega⟩);obtain⟨a,b⟩:=k (by rw[e];decide);rw[e,a,b];(conv=>whnf);exact rx [] [.same 0,.same 1,.same 2,.same 1,.same 2]
   ·have f:¬(l.length:Int)=8:=f;have e:=(p.trans (if_neg (fun h=>f (by rw[h.2.2];rfl)))).trans (if_neg (by omega));obtain⟨a,b⟩:=yes e;rw[e,a,b,show kg l n id=ky l ⟨n,id⟩from if_pos g];(conv=>whnf);refine dec (fun s=>absurd s (by omega)) (fun _=>?_);rw[g];(conv=>whnf);refine⟨[⟨n,id⟩],rfl,?_⟩;(conv=>whnf);refine cl [] [1,3] (Fz l ⟨n,id⟩ (a8 l n) vm (by omega)) ?_;(conv=>whnf);refine⟨[⟨n,old,id⟩],rfl,?_⟩;(conv=>whnf);refine⟨_,_,rfl,rfl,(by simp only[List.length_append,List.length_cons,List.length_nil];omega),?_⟩;(conv=>whnf);exact rx [] [.same 0,.same 1,.same 2,.same 4,.same 6]
  ·have d:¬0≤id:=d;have o:¬id< -1:=o;have e:=(p.trans (if_neg (fun h=>d h.2.1))).trans (if_pos (by omega));obtain⟨a,b⟩:=k (by rw[e];decide);rw[e,a,b];(conv=>whnf);refine dec (fun _=>?_) (fun s=>absurd (show id=old by omega) s);(conv=>whnf);exact rx [] [.same 0,.same 1,.same 2,.same 1,.same 2]
 ·obtain⟨i,x,D⟩:=oV g;have v:=p.trans (if_neg (fun h=>by rw[g]at h;cases h.1));(conv=>whnf);refine dec (fun d=>?_) (fun d=>?_)
  ·have e:=v.trans (if_pos d);obtain⟨a,b⟩:=k (by rw[e];decide);rw[e,a,b];(conv=>whnf);exact rx [] [.same 0,.same 1,.same 2,.same 1,.same 2]
  have e:=v.trans (if_neg d);obtain⟨a,b⟩:=yes e;rw[e,a,b,show kg l n id=_ from if_neg (by rw[g];decide),g];(conv=>whnf);refine dec (fun f=>?_) (fun f=>?_)
  ·rw[if_pos f];(conv=>whnf);refine⟨i64 (by omega) (by omega),?_⟩;(conv=>whnf);refine cl [] [1] (DF l (a8 l n) i (by omega)) ?_;(conv=>whnf);refine⟨[⟨n,old,id⟩],rfl,?_⟩;(conv=>whnf);refine⟨_,_,rfl,rfl,(by simp only[List.length_append,List.length_cons,List.length_nil];omega),?_⟩;(conv=>whnf);exact rx [] [.same 0,.same 1,.same 2,.same 3,.same 5]
  ·rw[if_neg f];(conv=>whnf);refine⟨a8 l n,⟨rfl,i⟩,?_⟩;(conv=>whnf);refine⟨l[a8 l n],⟨n,id⟩,List.getElem?_eq_getElem i,⟨Nat.le_refl 2,by simp[bd,x]⟩,?_⟩;(conv=>whnf);refine⟨[⟨n,old,id⟩],rfl,?_⟩;(conv=>whnf);refine⟨_,_,rfl,rfl,(by simp only[List.length_append,List.length_cons,List.length_nil];omega),?_⟩;(conv=>whnf);exact rx [] [.same 0,.same 1,.same 2,.same 1,.same 4]
end Go.Nest
end
section
namespace Go.Nest
open Go Go.AM Go.Proofs
open Go.Proofs.YtpechfcbnoggfaaGreatDoor (tab tabOk)
set_option maxRecDepth 100000
theorem rA:ae Tryz.prog 52 [.c (.ptr 0 0)] [.dead] (Rt (.c (.ptr 1 0)) [.dead,.box [.ptr 0 0,.rw 2,.int .i64 (-1)],.row 5 It aJ []]):=by
 refine ak (n:=6) (n0:=1) tabOk Tryz.call52 Tryz.func52 ?_;intro hb;(conv=>whnf);exact rx [] [.same 0,.same 1,.new]
theorem GL:ae Tryz.prog 50 [.c (.ptr 0 0)] [.dead] (Rt (.c (.ptr 1 0)) [.dead,.box [.ptr 0 0,.rw 2,.rw 3,.rw 4,.rw 5,.rw 6,.rw 7,.rw 8,.rw 9],.row 1 Bool af [],.row 1 Bool af [],.row 1 Bool af [],.row 1 Bool af [],.row 1 Int encI [],.row 1 Int encI [],.row 1 Int encI [],.row 1 Int encI []]):=by
 refine ak (n:=6) (n0:=1) tabOk Tryz.call50 Tryz.func50 ?_;intro hb;(conv=>whnf);exact rx [] [.same 0,.same 1,.new,.new,.new,.new,.new,.new,.new,.new]
def pr(r:Nat):List B:=[.box [.ptr 1 0,(bif Nat.blt 0 r then .ptr 2 0 else .raw (.pointer none)),(bif Nat.blt 0 r then .ptr 3 0 else .raw (.pointer none)),(bif Nat.blt 1 r then .ptr 4 0 else .raw (.pointer none)),(bif Nat.blt 1 r then .ptr 5 0 else .raw (.pointer none)),(bif Nat.blt 2 r then .ptr 6 0 else .raw (.pointer none)),(bif Nat.blt 2 r then .ptr 7 0 else .raw (.pointer none)),(bif Nat.blt 3 r then .ptr 8 0 else .raw (.pointer none)),(bif Nat.blt 3 r then .ptr 9 0 else .raw (.pointer none))],.box [.ptr 10 0,.rw 12,.rw 13,.rw 14,.rw 15,.rw 16,.rw 17,.rw 18,.rw 19],(bif Nat.blt 0 r then .box [.rw 20,.rw 24]else .dead),(bif Nat.blt 0 r then .box [.ptr 10 0,.rw 28,.int .i64 (-1)]else .dead),(bif Nat.blt 1 r then .box [.rw 21,.rw 25]else .dead),(bif Nat.blt 1 r then .box [.ptr 10 0,.rw 29,.int .i64 (-1)]else .dead),(bif Nat.blt 2 r then .box [.rw 22,.rw 26]else .dead),(bif Nat.blt 2 r then .box [.ptr 10 0,.rw 30,.int .i64 (-1)]else .dead),(bif Nat.blt 3 r then .box [.rw 23,.rw 27]else .dead),(bif Nat.blt 3 r then .box [.ptr 10 0,.rw 31,.int .i64 (-1)]else .dead),.box [.rw 11],.row 6 Ob an [],.row 1 Bool af [],.row 1 Bool af [],.row 1 Bool af [],.row 1 Bool af [],.row 1 Int encI [],.row 1 Int encI [],.row 1 Int encI [],.row 1 Int encI [],(bif Nat.blt 0 r then .row 2 Rf bd []else .dead),(bif Nat.blt 1 r then .row 2 Rf bd []else .dead),(bif Nat.blt 2 r then .row 2 Rf bd []else .dead),(bif Nat.blt 3 r then .row 2 Rf bd []else .dead),(bif Nat.blt 0 r then .row 3 Mv cC []else .dead),(bif Nat.blt 1 r then .row 3 Mv cC []else .dead),(bif Nat.blt 2 r then .row 3 Mv cC []else .dead),(bif Nat.blt 3 r then .row 3 Mv cC []else .dead),(bif Nat.blt 0 r then .row 5 It aJ []else .dead),(bif Nat.blt 1 r then .row 5 It aJ []else .dead),(bif Nat.blt 2 r then .row 5 It aJ []else .dead),(bif Nat.blt 3 r then .row 5 It aJ []else .dead)]
def rQ(f:Nat→Nat):List Rn:=[.same (f 0),.same (f 1),.same (f 2),.same (f 3),.same (f 4),.same (f 5),.same (f 6),.same (f 7),.same (f 8),.same (f 9),.same (f 10),.same (f 11),.same (f 12),.same (f 13),.same (f 14),.same (f 15),.same (f 16),.same (f 17),.same (f 18),.same (f 19),.same (f 20),.same (f 21),.same (f 22),.same (f 23),.same (f 24),.same (f 25),.same (f 26),.same (f 27),.same (f 28),.same (f 29),.same (f 30),.same (f 31)]
def rD(r a b c d e:Nat):List Rn:=rQ fun i=>bif Nat.beq i (2+2*r)then a else bif Nat.beq i (3+2*r)then b else bif Nat.beq i (20+r)then c else bif Nat.beq i (24+r)then d else bif Nat.beq i (28+r)then e else i
set_option maxHeartbeats 8000000 in
theorem yp:ae Tryz.prog 21 [] [] (Rt (.c (.ptr 0 0)) (aK iB)):=by
 refine ak (n:=23) (n0:=0) tabOk Tryz.call21 Tryz.func21 ?_;intro hb;(conv=>whnf);refine cl [] [] (GM) ?_;(conv=>whnf);refine cl [] [0] (GL) ?_;(conv=>whnf);refine lp Nat (fun r=>⟨[(1,.c (.ptr 10 0)),(2,.c (.ptr 0 0)),(9,.c (.int .i64 r))],pr r⟩) (fun r=>r≤4∧True) (fun r=>4-r) 0 [] (rQ fun i=>bif Nat.beq i 0 then 11 else bif Nat.beq i 1 then 2 else bif Nat.beq i 10 then 0 else bif Nat.beq i 11 then 1 else i-9) ⟨by decide,trivial⟩ ed (fun r a=>?_);obtain⟨b,-⟩:=a;have a:r<4∨r=4:=by omega
 rcases a with a|rfl
 ·rcases four a with rfl|rfl|rfl|rfl
  ·(conv=>whnf);refine⟨false,.grow,(.l [0,1,3,6,7,2,4,5,8,9]),by kernel_rfl,.inl ?_⟩;(conv=>whnf);refine cl [] [] (pq) ?_;(conv=>whnf);refine aP [10] (pr 0++[.box [.rw 33,.rw 34],.row 2 Rf bd [],.row 3 Mv cC [],.box [.ptr 10 0,.rw 36,.int .i64 (-1)],.row 5 It aJ []]) rA ?_;(conv=>whnf);refine⟨_,⟨rfl,by decide⟩,?_⟩;repeat'((conv=>whnf);refine I6 ?_)
   refine ag (0+1) [] (rD 0 32 35 33 34 36) ⟨by decide,trivial⟩ (by decide) ?_;exact ed
  ·(conv=>whnf);refine⟨false,.grow,(.l [0,1,3,6,7,2,4,5,8,9]),by kernel_rfl,.inl ?_⟩;(conv=>whnf);refine cl [] [] (pq) ?_;(conv=>whnf);refine aP [10] (pr 1++[.box [.rw 33,.rw 34],.row 2 Rf bd [],.row 3 Mv cC [],.box [.ptr 10 0,.rw 36,.int .i64 (-1)],.row 5 It aJ []]) rA ?_;(conv=>whnf);refine⟨_,⟨rfl,by decide⟩,?_⟩;repeat'((conv=>whnf);refine I6 ?_)
   refine ag (1+1) [] (rD 1 32 35 33 34 36) ⟨by decide,trivial⟩ (by decide) ?_;exact ed
  ·(conv=>whnf);refine⟨false,.grow,(.l [0,1,3,6,7,2,4,5,8,9]),by kernel_rfl,.inl ?_⟩;(conv=>whnf);refine cl [] [] (pq) ?_;(conv=>whnf);refine aP [10] (pr 2++[.box [.rw 33,.rw 34],.row 2 Rf bd [],.row 3 Mv cC [],.box [.ptr 10 0,.rw 36,.int .i64 (-1)],.row 5 It aJ []]) rA ?_;(conv=>whnf);refine⟨_,⟨rfl,by decide⟩,?_⟩;repeat'((conv=>whnf);refine I6 ?_)
   refine ag (2+1) [] (rD 2 32 35 33 34 36) ⟨by decide,trivial⟩ (by decide) ?_;exact ed
  ·(conv=>whnf);refine⟨false,.grow,(.l [0,1,3,6,7,2,4,5,8,9]),by kernel_rfl,.inl ?_⟩;(conv=>whnf);refine cl [] [] (pq) ?_;(conv=>whnf);refine aP [10] (pr 3++[.box [.rw 33,.rw 34],.row 2 Rf bd [],.row 3 Mv cC [],.box [.ptr 10 0,.rw 36,.int .i64 (-1)],.row 5 It aJ []]) rA ?_;(conv=>whnf);refine⟨_,⟨rfl,by decide⟩,?_⟩;repeat'((conv=>whnf);refine I6 ?_)
   refine ag (3+1) [] (rD 3 32 35 33 34 36) ⟨by decide,trivial⟩ (by decide) ?_;exact ed
 ·(conv=>whnf);exact aZ (rQ id)
end Go.Nest
end
