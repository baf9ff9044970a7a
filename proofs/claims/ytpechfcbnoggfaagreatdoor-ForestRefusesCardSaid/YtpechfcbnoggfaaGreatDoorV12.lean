/- part -/
import Derived.Test.YtpechfcbnoggfaaGreatDoorN1
import Derived.Test.YtpechfcbnoggfaaGreatDoorI1
import Derived.Test.YtpechfcbnoggfaaGreatDoorG9
import Derived.Test.YtpechfcbnoggfaaGreatDoorV1
set_option linter.unusedVariables false
set_option linter.unusedSimpArgs false
section
namespace Go.Nest
open Go Go.AM Go.Proofs
open Go.Proofs.YtpechfcbnoggfaaGreatDoor (tab tabOk)
set_option maxRecDepth 4000
theorem C2{e:Int}{k:Nat}(h:e/2=k)(h0:0≤e)(h1:e≤4000):IntKind.i64.wrap ((IntKind.u64.wrap e).fdiv (2^min (Int.toNat 1) IntKind.u64.bits))=(k:Int):=by
 have e1:(2:Int)^min (Int.toNat 1) IntKind.u64.bits=2:=by decide
 have wu:IntKind.u64.wrap e=e%18446744073709551616:=by simp[IntKind.wrap,IntKind.bits,IntKind.signed]
 rw[wu,IntKind.wrap_i64,e1,Int.fdiv_eq_ediv_of_nonneg _ (by omega)];omega
theorem vr(r:Rf)(n:List UInt8):ae Tryz.prog 280 [.st (bg r),.c (.str n)] [] (Rt (.c (.int .i64 (lg r.name n))) []):=by
 refine ao (n:=15) (n0:=0) tabOk Tryz.call280 Tryz.func280 ?_;intro hb;unfold lg;(conv=>whnf);refine aO (fun h=>?_) (fun h=>?_)
 ·rw[if_pos h];repeat'((conv=>whnf);first|refine aI ?_|fail)
  rfl
 ·rw[if_neg (by simp[h])];(conv=>whnf);refine df (fun h2=>?_) (fun h2=>?_)
  ·rw[h,Bool.false_or,decide_eq_false_iff_not]at h2;rw[if_neg h2];repeat'((conv=>whnf);first|refine aI ?_|fail)
   rfl
  ·rw[h,Bool.false_or,decide_eq_true_iff]at h2;rw[if_pos h2];repeat'((conv=>whnf);first|refine aI ?_|fail)
   rfl
set_option maxHeartbeats 2000000 in
theorem Gm(l:List Rf)(n:List UInt8)(hs:dC l)(hl:l.length≤1000):ae Tryz.prog 279 [.c (.bs 2 Rf bg l),.c (.str n),.c (.fn 280 [])] [] (Rt (.tup [(false,[.int .i64 (aY l n)]),(false,[.bool (cT l n)])]) []):=by
 refine ao (n:=49) (n0:=0) tabOk Tryz.call279 Tryz.func279 ?_;intro hb;(conv=>whnf)
 refine lp (Nat×Nat) (fun z=>⟨[(0,.c (.bs 2 Rf bg l)),(1,.c (.str n)),(2,.c (.fn 280 [])),(8,.c (.int .i64 l.length)),(9,.c (.int .i64 (z.1:Nat))),(10,.c (.int .i64 (z.2:Nat)))],[]⟩)
  (fun z=>(z.1≤z.2∧z.2≤l.length)∧(∀g∈l.take z.1,Op.bytesLess g.name n=true)∧∀g∈l.drop z.2,Op.bytesLess g.name n=false) (fun z=>z.2-z.1) (0,l.length) [] [] ?_ ?_ (fun z hz=>?_)
 ·simp
 ·repeat' first|exact trivial|exact rfl|refine And.intro ?_ ?_
 obtain⟨lo,hi⟩:=z;obtain⟨⟨h1,h2⟩,h3,h4⟩:=hz;dsimp only at h1 h2 h3 h4;(conv=>whnf);refine dec (fun h5=>?_) (fun h5=>?_)
 ·have h5:lo<hi:=by simp only[]at h5;omega
  (conv=>whnf);refine⟨i64 (by simp only[];omega) (by simp only[];omega),?_⟩;(conv=>whnf);refine⟨by decide,?_⟩;(conv=>whnf);obtain⟨q,hq⟩:∃q,q=(lo+hi)/2:=⟨_,rfl⟩;have hqY:q<l.length:=by omega
  rw[C2 (e:=(((lo,hi).1:Nat):Int)+(((lo,hi).2:Nat):Int)) (k:=q) (by simp only[];omega) (by simp only[];omega) (by simp only[];omega)];refine⟨q,l[q],rfl,List.getElem?_eq_getElem hqY,?_⟩;(conv=>whnf);refine cl [] [] (vr l[q] n) ?_;(conv=>whnf);refine dec (fun h6=>?_) (fun h6=>?_)
  ·have h6:=vW.1 h6;(conv=>whnf);refine⟨i64 (by omega) (by omega),?_⟩;(conv=>whnf);refine ag (q+1,hi) [] [] ⟨⟨by simp only[];omega,h2⟩,fun g hg=>?_,h4⟩ (by simp only[];omega) ?_
   ·obtain⟨k,hk,e⟩:=List.mem_take_iff_getElem.1 hg;subst e;by_cases hkq:k=q
    ·subst hkq;exact h6
    ·exact jC (List.pairwise_iff_getElem.1 hs k q (by omega) hqY (by omega)) h6
   ·repeat' first|exact trivial|exact rfl|refine And.intro ?_ ?_
  ·have h6:Op.bytesLess l[q].name n=false:=by
    cases h7:Op.bytesLess l[q].name n with
    |false=>rfl
    |true=>exact absurd (vW.2 h7) h6
   (conv=>whnf);refine ag (lo,q) [] [] ⟨⟨by simp only[];omega,by simp only[];omega⟩,h3,fun g hg=>?_⟩ (by simp only[];omega) ?_
   ·obtain⟨k,hk,e⟩:=List.mem_iff_getElem.1 hg;rw[List.getElem_drop]at e;subst e;rw[List.length_drop]at hk;by_cases hkq:k=0
    ·subst hkq;simpa using h6
    ·cases h7:Op.bytesLess l[q+k].name n with
     |false=>rfl
     |true=>rw[jC (List.pairwise_iff_getElem.1 hs q (q+k) hqY (by omega) (by omega)) h7]at h6;cases h6
   ·repeat' first|exact trivial|exact rfl|refine And.intro ?_ ?_
 ·have h5:lo=hi:=by simp only[]at h5;omega
  subst h5;have hp:aY l n=lo:=ua h2 h3 (fun h=>h4 _ (by rw[List.drop_eq_getElem_cons h];exact List.mem_cons_self ..));rw[hp];(conv=>whnf);refine dec (fun h6=>?_) (fun h6=>?_)
  ·have hlt:lo<l.length:=by simp only[]at h6;omega
   have hlo:=h4 _ (by rw[List.drop_eq_getElem_cons hlt];exact List.mem_cons_self ..)
   have eh:cT l n=decide (lg l[lo].name n=0):=by
    unfold cT;rw[hp,List.getElem?_eq_getElem hlt];rw[Bool.eq_iff_iff,decide_eq_true_iff,decide_eq_true_iff,Bh hlo];simp
   rw[eh];(conv=>whnf);refine⟨lo,l[lo],rfl,List.getElem?_eq_getElem hlt,?_⟩;(conv=>whnf);refine cl [] [] (vr l[lo] n) ?_;(conv=>whnf);exact rx [] []
  ·have eh:cT l n=false:=by
    unfold cT;rw[hp,List.getElem?_eq_none (by simp only[]at h6;omega)];simp
   rw[eh];(conv=>whnf);exact rx [] []
theorem vw(l:List Rf)(m:List Mv)(n:List UInt8)(hs:dC l)(hl:l.length≤1000):ae Tryz.prog 213 [.c (.bp [.bs 2 Rf bg l,.bs 3 Mv cn m]),.c (.str n)] [] (Rt (.tup [(false,[.int .i64 (aY l n)]),(false,[.bool (cT l n)])]) []):=by
 refine ao (n:=14) (n0:=0) tabOk Tryz.call213 Tryz.func213 ?_;intro hb;(conv=>whnf);refine cl [] [] (Gm l n hs hl) ?_;(conv=>whnf);exact rx [] []
theorem nQ(l:List Rf)(m:List Mv)(n:List UInt8)(hs:dC l)(hl:l.length≤1000):ae Tryz.prog 132 [.c (.bp [.bs 2 Rf bg l,.bs 3 Mv cn m]),.c (.str n)] [] (Rt (.c (.int .i64 (bt l n))) []):=by
 refine ao (n:=23) (n0:=0) tabOk Tryz.call132 Tryz.func132 ?_;intro hb;(conv=>whnf);refine cl [] [] (vw l m n hs hl) ?_;(conv=>whnf);refine df (fun h=>?_) (fun h=>?_)
 ·rw[ku h];repeat'((conv=>whnf);first|refine aI ?_|fail)
  rfl
 ·obtain⟨hlt,e1,e2⟩:=mg h;rw[e2];(conv=>whnf);refine⟨aY l n,_,rfl,List.getElem?_eq_getElem hlt,?_⟩;repeat'((conv=>whnf);first|refine aI ?_|fail)
  rfl
end Go.Nest
end
section
namespace Go.Nest
open Go Go.AM Go.Proofs
open Go.Proofs.YtpechfcbnoggfaaGreatDoor (tab tabOk)
set_option maxRecDepth 4000
theorem Bf(l:List Rf)(hl:l.length*24≤140737488355328):ae Tryz.prog 139 [.c (.bs 2 Rf bg l)] [] (Rt (.c (.rw 0)) [.row 2 Rf bg l]):=by
 refine ao (n:=8) (n0:=0) tabOk Tryz.call139 Tryz.func139 ?_;intro hb;(conv=>whnf);intro q hq;(conv=>whnf);refine aO (fun h=>?_) (fun h=>?_)
 ·obtain rfl:=hq h;(conv=>whnf);exact rx [] [.new]
 ·(conv=>whnf);refine⟨[],rfl,?_⟩;(conv=>whnf);refine⟨_,_,rfl,rfl,(by simp only[List.length_append,List.length_cons,List.length_nil];omega),?_⟩;(conv=>whnf);exact rx [] [.same 1]
theorem yd(l:List Rf)(m:List Mv)(hl:l.length≤1000):ae Tryz.prog 69 [.c (.bp [.bs 2 Rf bg l,.bs 3 Mv cn m])] [] (Rt (.c (.rw 0)) [.row 2 Rf bg l]):=by
 refine ao (n:=8) (n0:=0) tabOk Tryz.call69 Tryz.func69 ?_;intro hb;(conv=>whnf);refine cl [] [] (Bf l (by omega)) ?_;(conv=>whnf);exact rx [] [.same 0]
theorem oh:ae Tryz.prog 51 [] [] (Rt (.c (.ptr 0 0)) [.box [.rw 1,.rw 2],.row 2 Rf bg [],.row 3 Mv cn []]):=by
 refine ao (n:=3) (n0:=0) tabOk Tryz.call51 Tryz.func51 ?_;intro hb;(conv=>whnf);exact rx [] [.same 0,.new,.new]
end Go.Nest
end
section
namespace Go.Nest
open Go Go.AM Go.Proofs
open Go.Proofs.YtpechfcbnoggfaaGreatDoor (tab tabOk)
set_option maxRecDepth 4000
def aL(l:List Rf)(n:List UInt8)(old id:Int):List Rf:=if cW l n old id=0 then j7 l n id else l
def fc(l:List Rf)(m:List Mv)(n:List UInt8)(old id:Int):List Mv:=if cW l n old id=0 then m++[⟨n,old,id⟩]else m
set_option maxHeartbeats 4000000 in
theorem oH(l:List Rf)(m:List Mv)(n:List UInt8)(old id:Int)(hs:dC l)(hi:∀r∈l,0≤r.id)(hl:l.length≤8)(hm:m.length≤999):ae Tryz.prog 131 [.c (.ptr 0 0),.c (.str n),.c (.int .i64 old),.c (.int .i64 id)] [.box [.rw 1,.rw 2],.row 2 Rf bg l,.row 3 Mv cn m]
  (Rt (.c (.int .i64 (cW l n old id))) [.box [.rw 3,.rw 4],.dead,.dead,.row 2 Rf bg (aL l n old id),.row 3 Mv cn (fc l m n old id)]):=by
 refine ao (n:=102) (n0:=3) tabOk Tryz.call131 Tryz.func131 ?_;intro hb;(conv=>whnf);refine cl [] [] (vw l m n hs (by omega)) ?_;have no:cW l n old id≠0→aL l n old id=l∧fc l m n old id=m:=fun h=>⟨if_neg h,if_neg h⟩;have yes:cW l n old id=0→aL l n old id=j7 l n id∧fc l m n old id=m++[⟨n,old,id⟩]:=fun h=>⟨if_pos h,if_pos h⟩;(conv=>whnf);refine cl [] [] (qi n) ?_;(conv=>whnf);refine av (fun h1=>?_) (fun h1=>?_)
 ·have e:cW l n old id=bL n:=if_pos h1;obtain⟨e1,e2⟩:=no (by rw[e];exact h1);rw[e,e1,e2];(conv=>whnf);refine cl [] [] (qi n) ?_;(conv=>whnf);exact rx [] [.same 0,.same 1,.same 2,.same 1,.same 2]
 have c1:cW l n old id=_:=if_neg (fun h=>h h1);(conv=>whnf);refine dec (fun h2=>?_) (fun h2=>?_)
 ·have e:=c1.trans (if_pos h2);obtain⟨e1,e2⟩:=no (by rw[e];decide);rw[e,e1,e2];(conv=>whnf);exact rx [] [.same 0,.same 1,.same 2,.same 1,.same 2]
 have c2:=c1.trans (if_neg h2);(conv=>whnf);refine cl [] [] (nQ l m n hs (by omega)) ?_;(conv=>whnf);refine av (fun h3=>?_) (fun h3=>?_)
 ·have e:=c2.trans (if_pos h3);obtain⟨e1,e2⟩:=no (by rw[e];decide);rw[e,e1,e2];(conv=>whnf);exact rx [] [.same 0,.same 1,.same 2,.same 1,.same 2]
 have c3:=c2.trans (if_neg (fun h=>h h3));have h3:old=bt l n:=h3;have hp:=ub (l:=l) (n:=n);(conv=>whnf);refine df (fun h4=>?_) (fun h4=>?_)
 ·have ho:old= -1:=by rw[h3,ku h4]
  (conv=>whnf);refine dec (fun h5=>?_) (fun h5=>?_)
  ·have h5:0≤id:=h5;(conv=>whnf);refine dec (fun h6=>?_) (fun h6=>?_)
   ·have h6:(l.length:Int)=8:=h6;have e:=c3.trans (if_pos ⟨h4,h5,by omega⟩);obtain⟨e1,e2⟩:=no (by rw[e];decide);rw[e,e1,e2];(conv=>whnf);exact rx [] [.same 0,.same 1,.same 2,.same 1,.same 2]
   ·have h6:¬(l.length:Int)=8:=h6;have e:=(c3.trans (if_neg (fun h=>h6 (by rw[h.2.2];rfl)))).trans (if_neg (by omega));obtain⟨e1,e2⟩:=yes e;rw[e,e1,e2,show j7 l n id=jk l ⟨n,id⟩from if_pos h4];(conv=>whnf);refine dec (fun h7=>absurd h7 (by omega)) (fun _=>?_);rw[h4];(conv=>whnf);refine⟨[⟨n,id⟩],rfl,?_⟩;(conv=>whnf);refine cl [] [1,3] (DG l ⟨n,id⟩ (aY l n) ub (by omega)) ?_;(conv=>whnf);refine⟨[⟨n,old,id⟩],rfl,?_⟩;(conv=>whnf);refine⟨_,_,rfl,rfl,(by simp only[List.length_append,List.length_cons,List.length_nil];omega),?_⟩;(conv=>whnf);exact rx [] [.same 0,.same 1,.same 2,.same 4,.same 6]
  ·have h5:¬0≤id:=h5;have h2:¬id< -1:=h2;have e:=(c3.trans (if_neg (fun h=>h5 h.2.1))).trans (if_pos (by omega));obtain⟨e1,e2⟩:=no (by rw[e];decide);rw[e,e1,e2];(conv=>whnf);refine dec (fun _=>?_) (fun h7=>absurd (show id=old by omega) h7);(conv=>whnf);exact rx [] [.same 0,.same 1,.same 2,.same 1,.same 2]
 ·obtain⟨hlt,q1,q2⟩:=mg h4;have c4:=c3.trans (if_neg (fun h=>by rw[h4]at h;cases h.1));(conv=>whnf);refine dec (fun h5=>?_) (fun h5=>?_)
  ·have e:=c4.trans (if_pos h5);obtain⟨e1,e2⟩:=no (by rw[e];decide);rw[e,e1,e2];(conv=>whnf);exact rx [] [.same 0,.same 1,.same 2,.same 1,.same 2]
  have e:=c4.trans (if_neg h5);obtain⟨e1,e2⟩:=yes e;rw[e,e1,e2,show j7 l n id=_ from if_neg (by rw[h4];decide),h4];(conv=>whnf);refine dec (fun h6=>?_) (fun h6=>?_)
  ·rw[if_pos h6];(conv=>whnf);refine⟨i64 (by omega) (by omega),?_⟩;(conv=>whnf);refine cl [] [1] (BU l (aY l n) hlt (by omega)) ?_;(conv=>whnf);refine⟨[⟨n,old,id⟩],rfl,?_⟩;(conv=>whnf);refine⟨_,_,rfl,rfl,(by simp only[List.length_append,List.length_cons,List.length_nil];omega),?_⟩;(conv=>whnf);exact rx [] [.same 0,.same 1,.same 2,.same 3,.same 5]
  ·rw[if_neg h6];(conv=>whnf);refine⟨aY l n,⟨rfl,hlt⟩,?_⟩;(conv=>whnf);refine⟨l[aY l n],⟨n,id⟩,List.getElem?_eq_getElem hlt,⟨Nat.le_refl 2,by simp[bg,q1]⟩,?_⟩;(conv=>whnf);refine⟨[⟨n,old,id⟩],rfl,?_⟩;(conv=>whnf);refine⟨_,_,rfl,rfl,(by simp only[List.length_append,List.length_cons,List.length_nil];omega),?_⟩;(conv=>whnf);exact rx [] [.same 0,.same 1,.same 2,.same 1,.same 4]
end Go.Nest
end
section
namespace Go.Nest
open Go Go.AM Go.Proofs
open Go.Proofs.YtpechfcbnoggfaaGreatDoor (tab tabOk)
set_option maxRecDepth 100000
theorem qo:ae Tryz.prog 52 [.c (.ptr 0 0)] [.dead] (Rt (.c (.ptr 1 0)) [.dead,.box [.ptr 0 0,.rw 2,.int .i64 (-1)],.row 5 It aG []]):=by
 refine ao (n:=6) (n0:=1) tabOk Tryz.call52 Tryz.func52 ?_;intro hb;(conv=>whnf);exact rx [] [.same 0,.same 1,.new]
theorem EN:ae Tryz.prog 50 [.c (.ptr 0 0)] [.dead] (Rt (.c (.ptr 1 0)) [.dead,.box [.ptr 0 0,.rw 2,.rw 3,.rw 4,.rw 5,.rw 6,.rw 7,.rw 8,.rw 9],.row 1 Bool af [],.row 1 Bool af [],.row 1 Bool af [],.row 1 Bool af [],.row 1 Int encI [],.row 1 Int encI [],.row 1 Int encI [],.row 1 Int encI []]):=by
 refine ao (n:=6) (n0:=1) tabOk Tryz.call50 Tryz.func50 ?_;intro hb;(conv=>whnf);exact rx [] [.same 0,.same 1,.new,.new,.new,.new,.new,.new,.new,.new]
def om(r:Nat):List B:=[.box [.ptr 1 0,(bif Nat.blt 0 r then .ptr 2 0 else .raw (.pointer none)),(bif Nat.blt 0 r then .ptr 3 0 else .raw (.pointer none)),(bif Nat.blt 1 r then .ptr 4 0 else .raw (.pointer none)),(bif Nat.blt 1 r then .ptr 5 0 else .raw (.pointer none)),(bif Nat.blt 2 r then .ptr 6 0 else .raw (.pointer none)),(bif Nat.blt 2 r then .ptr 7 0 else .raw (.pointer none)),(bif Nat.blt 3 r then .ptr 8 0 else .raw (.pointer none)),(bif Nat.blt 3 r then .ptr 9 0 else .raw (.pointer none))],.box [.ptr 10 0,.rw 12,.rw 13,.rw 14,.rw 15,.rw 16,.rw 17,.rw 18,.rw 19],(bif Nat.blt 0 r then .box [.rw 20,.rw 24]else .dead),(bif Nat.blt 0 r then .box [.ptr 10 0,.rw 28,.int .i64 (-1)]else .dead),(bif Nat.blt 1 r then .box [.rw 21,.rw 25]else .dead),(bif Nat.blt 1 r then .box [.ptr 10 0,.rw 29,.int .i64 (-1)]else .dead),(bif Nat.blt 2 r then .box [.rw 22,.rw 26]else .dead),(bif Nat.blt 2 r then .box [.ptr 10 0,.rw 30,.int .i64 (-1)]else .dead),(bif Nat.blt 3 r then .box [.rw 23,.rw 27]else .dead),(bif Nat.blt 3 r then .box [.ptr 10 0,.rw 31,.int .i64 (-1)]else .dead),.box [.rw 11],.row 6 Ob an [],.row 1 Bool af [],.row 1 Bool af [],.row 1 Bool af [],.row 1 Bool af [],.row 1 Int encI [],.row 1 Int encI [],.row 1 Int encI [],.row 1 Int encI [],(bif Nat.blt 0 r then .row 2 Rf bg []else .dead),(bif Nat.blt 1 r then .row 2 Rf bg []else .dead),(bif Nat.blt 2 r then .row 2 Rf bg []else .dead),(bif Nat.blt 3 r then .row 2 Rf bg []else .dead),(bif Nat.blt 0 r then .row 3 Mv cn []else .dead),(bif Nat.blt 1 r then .row 3 Mv cn []else .dead),(bif Nat.blt 2 r then .row 3 Mv cn []else .dead),(bif Nat.blt 3 r then .row 3 Mv cn []else .dead),(bif Nat.blt 0 r then .row 5 It aG []else .dead),(bif Nat.blt 1 r then .row 5 It aG []else .dead),(bif Nat.blt 2 r then .row 5 It aG []else .dead),(bif Nat.blt 3 r then .row 5 It aG []else .dead)]
def rQ(f:Nat→Nat):List Rn:=[.same (f 0),.same (f 1),.same (f 2),.same (f 3),.same (f 4),.same (f 5),.same (f 6),.same (f 7),.same (f 8),.same (f 9),.same (f 10),.same (f 11),.same (f 12),.same (f 13),.same (f 14),.same (f 15),.same (f 16),.same (f 17),.same (f 18),.same (f 19),.same (f 20),.same (f 21),.same (f 22),.same (f 23),.same (f 24),.same (f 25),.same (f 26),.same (f 27),.same (f 28),.same (f 29),.same (f 30),.same (f 31)]
def qt(r a b c d e:Nat):List Rn:=rQ fun i=>bif Nat.beq i (2+2*r)then a else bif Nat.beq i (3+2*r)then b else bif Nat.beq i (20+r)then c else bif Nat.beq i (24+r)then d else bif Nat.beq i (28+r)then e else i
set_option maxHeartbeats 8000000 in
theorem w9:ae Tryz.prog 21 [] [] (Rt (.c (.ptr 0 0)) (aH iE)):=by
 refine ao (n:=23) (n0:=0) tabOk Tryz.call21 Tryz.func21 ?_;intro hb;(conv=>whnf);refine cl [] [] (EO) ?_;(conv=>whnf);refine cl [] [0] (EN) ?_;(conv=>whnf);refine lp Nat (fun r=>⟨[(1,.c (.ptr 10 0)),(2,.c (.ptr 0 0)),(9,.c (.int .i64 r))],om r⟩) (fun r=>r≤4∧True) (fun r=>4-r) 0 [] (rQ fun i=>bif Nat.beq i 0 then 11 else bif Nat.beq i 1 then 2 else bif Nat.beq i 10 then 0 else bif Nat.beq i 11 then 1 else i-9) ⟨by decide,trivial⟩ eV (fun r hr=>?_);obtain⟨hr4,-⟩:=hr;have hr:r<4∨r=4:=by omega
 rcases hr with hr|rfl
 ·rcases four hr with rfl|rfl|rfl|rfl
  ·(conv=>whnf);refine⟨false,.grow,(.l [0,1,3,6,7,2,4,5,8,9]),by kernel_rfl,.inl ?_⟩;(conv=>whnf);refine cl [] [] (oh) ?_;(conv=>whnf);refine aP [10] (om 0++[.box [.rw 33,.rw 34],.row 2 Rf bg [],.row 3 Mv cn [],.box [.ptr 10 0,.rw 36,.int .i64 (-1)],.row 5 It aG []]) qo ?_;(conv=>whnf);refine⟨_,⟨rfl,by decide⟩,?_⟩;repeat'((conv=>whnf);refine I6 ?_)
   refine ag (0+1) [] (qt 0 32 35 33 34 36) ⟨by decide,trivial⟩ (by decide) ?_;exact eV
  ·(conv=>whnf);refine⟨false,.grow,(.l [0,1,3,6,7,2,4,5,8,9]),by kernel_rfl,.inl ?_⟩;(conv=>whnf);refine cl [] [] (oh) ?_;(conv=>whnf);refine aP [10] (om 1++[.box [.rw 33,.rw 34],.row 2 Rf bg [],.row 3 Mv cn [],.box [.ptr 10 0,.rw 36,.int .i64 (-1)],.row 5 It aG []]) qo ?_;(conv=>whnf);refine⟨_,⟨rfl,by decide⟩,?_⟩;repeat'((conv=>whnf);refine I6 ?_)
   refine ag (1+1) [] (qt 1 32 35 33 34 36) ⟨by decide,trivial⟩ (by decide) ?_;exact eV
  ·(conv=>whnf);refine⟨false,.grow,(.l [0,1,3,6,7,2,4,5,8,9]),by kernel_rfl,.inl ?_⟩;(conv=>whnf);refine cl [] [] (oh) ?_;(conv=>whnf);refine aP [10] (om 2++[.box [.rw 33,.rw 34],.row 2 Rf bg [],.row 3 Mv cn [],.box [.ptr 10 0,.rw 36,.int .i64 (-1)],.row 5 It aG []]) qo ?_;(conv=>whnf);refine⟨_,⟨rfl,by decide⟩,?_⟩;repeat'((conv=>whnf);refine I6 ?_)
   refine ag (2+1) [] (qt 2 32 35 33 34 36) ⟨by decide,trivial⟩ (by decide) ?_;exact eV
  ·(conv=>whnf);refine⟨false,.grow,(.l [0,1,3,6,7,2,4,5,8,9]),by kernel_rfl,.inl ?_⟩;(conv=>whnf);refine cl [] [] (oh) ?_;(conv=>whnf);refine aP [10] (om 3++[.box [.rw 33,.rw 34],.row 2 Rf bg [],.row 3 Mv cn [],.box [.ptr 10 0,.rw 36,.int .i64 (-1)],.row 5 It aG []]) qo ?_;(conv=>whnf);refine⟨_,⟨rfl,by decide⟩,?_⟩;repeat'((conv=>whnf);refine I6 ?_)
   refine ag (3+1) [] (qt 3 32 35 33 34 36) ⟨by decide,trivial⟩ (by decide) ?_;exact eV
 ·(conv=>whnf);exact aW (rQ id)
end Go.Nest
end
