/- part -/
import Derived.Test.YtpechfcbnoggfaaGreatDoorU0
import Derived.Test.YtpechfcbnoggfaaGreatDoorI1
import Derived.Test.YtpechfcbnoggfaaGreatDoorV1
import Derived.Test.YtpechfcbnoggfaaGreatDoorG9
import Derived.Test.YtpechfcbnoggfaaGreatDoorAmH
set_option linter.unusedVariables false
set_option linter.unusedSimpArgs false
section
namespace Go.Nest
open Go Go.AM Go.Proofs
open Go.Proofs.YtpechfcbnoggfaaGreatDoor (tab tabOk)
set_option maxRecDepth 4000
theorem CJ(x:It)(p:List UInt8):ae Tryz.prog 200 [.st (aG x),.c (.bp [.str p])] [] (Rt (.c (.bool (dK p x))) []):=by
 refine ao (n:=8) (n0:=0) tabOk Tryz.call200 Tryz.func200 ?_;intro hb;repeat'((conv=>whnf);first|refine aC ?_|fail)
 rfl
theorem Dy(l:List It)(p:List UInt8):ae Tryz.prog 199 [.c (.bs 5 It aG l),.c (.fn 200 [.bp [.str p]])] [] (Rt (.c (.int .i64 (bH (dK p) l))) []):=by
 refine ao (n:=19) (n0:=0) tabOk Tryz.call199 Tryz.func199 ?_;intro hb;have hb:l.length≤9223372036854775807:=hb.1.1;(conv=>whnf);refine lp Nat (fun i=>⟨[(0,.c (.bs 5 It aG l)),(1,.c (.fn 200 [.bp [.str p]])),(7,.c (.int .i64 l.length)),(8,.c (.int .i64 i))],[]⟩) (fun i=>i≤l.length∧(l.take i).any (dK p)=false) (fun i=>l.length-i) 0 [] [] ?_ ?_ (fun i hi=>?_)
 ·simp
 ·repeat' first|exact trivial|exact rfl|refine And.intro ?_ ?_
 (conv=>whnf);refine dec (fun h4=>?_) (fun h4=>?_)
 ·have hlt:i<l.length:=by omega
  repeat'((conv=>whnf);first|refine⟨_,_,rfl,List.getElem?_eq_getElem (by omega),?_⟩|fail)
  (conv=>whnf);refine cl [] [] (CJ l[i] p) ?_;(conv=>whnf);refine aO (fun h=>?_) (fun h=>?_)
  ·(conv=>whnf);exact aI (jj hlt hi.2 h)
  ·repeat'((conv=>whnf);refine I6 ?_)
   refine ag (i+1) [] [] ⟨hlt,gq hlt hi.2 h⟩ (by simp only[];omega) ?_;repeat' first|exact trivial|exact rfl|refine And.intro ?_ ?_
 ·repeat'((conv=>whnf);first|refine aI ?_|fail)
  have:=hi.2;rw[List.take_of_length_le (by omega)]at this;exact jM this
theorem wU(L:List Ob)(l:List It)(h:Int)(p:List UInt8):ae Tryz.prog 119 [.c (.bp [.bp [.bs 6 Ob an L],.bs 5 It aG l,.int .i64 h]),.c (.str p)] [] (Rt (.c (.int .i64 (bH (dK p) l))) []):=by
 refine ao (n:=11) (n0:=0) tabOk Tryz.call119 Tryz.func119 ?_;intro hb;(conv=>whnf);refine cl [] [] (Dy l p) ?_;(conv=>whnf);exact rx [] []
theorem pos_at{l:List It}{p:List UInt8}{k:Nat}(hk:k≤l.length)(h1:∀g∈l.take k,aK g.path p=true)(h2:∀h:k<l.length,aK l[k].path p=false):iL l p=k:=by
 unfold iL;rw[(uF (p:=fun y:It=>aK y.path p) hk h1 h2).1,List.length_take,Nat.min_eq_left hk]
set_option maxHeartbeats 4000000 in
theorem yZ(L:List Ob)(l:List It)(h:Int)(x:It)(hx:x.path.length≤4000000)(hp:∀y∈l,y.path.length≤4000000)(hl:l.length≤60):ae Tryz.prog 117 [.c (.ptr 0 0),.st (aG x)] [.box [.ptr 1 0,.rw 3,.int .i64 h],.box [.rw 2],.row 6 Ob an L,.row 5 It aG l] (Rt (.c (.int .i64 (eO l x).1)) [.box [.ptr 1 0,.rw 5,.int .i64 h],.box [.rw 4],.dead,.dead,.row 6 Ob an L,.row 5 It aG (eO l x).2]):=by
 refine ao (n:=106) (n0:=4) tabOk Tryz.call117 Tryz.func117 ?_;intro hb;(conv=>whnf);refine cl [] [] (tY x.path hx) ?_;(conv=>whnf);refine av (fun h1=>?_) (fun h1=>?_)
 ·rw[show eO l x=_ from if_pos h1];(conv=>whnf);exact rx [] [.same 0,.same 1,.same 2,.same 3,.same 2,.same 3]
 have c1:eO l x=_:=if_neg (fun h=>h h1);(conv=>whnf);refine lp Nat (fun i=>⟨[(0,.c (.ptr 0 0)),(3,.c (.ptr 4 0)),(27,.c (.rw 3)),(28,.c (.int .i64 l.length)),(29,.c (.int .i64 i))],[.box [.ptr 1 0,.rw 3,.int .i64 h],.box [.rw 2],.row 6 Ob an L,.row 5 It aG l]++[.box (aG x)]⟩) (fun i=>i≤l.length∧(l.take i).any (mn x.path)=false) (fun i=>l.length-i) 0 [] [.same 0,.same 1,.same 2,.same 3,.same 4] ?_ ?_ (fun i hi=>?_)
 ·simp
 ·repeat' first|exact trivial|exact rfl|refine And.intro ?_ ?_
 (conv=>whnf);refine dec (fun h4=>?_) (fun h4=>?_)
 ·have hlt:i<l.length:=by omega
  have hyp:=hp _ (List.getElem_mem hlt);(conv=>whnf);refine⟨i,⟨rfl,hlt⟩,?_⟩;(conv=>whnf);refine⟨l[i],List.getElem?_eq_getElem hlt,?_⟩;have he:mn x.path l[i]=((eQ x.path l[i].path).2||(eQ l[i].path x.path).2):=rfl;have hat:=fun h=>nv (l:=l) (p:=mn x.path) hlt h;have htk:=fun h=>gq (p:=mn x.path) hlt hi.2 h;generalize l[i]=y at*;(conv=>whnf);refine cl [] [] (oR x.path y.path hyp) ?_;(conv=>whnf);refine cl [] [] (oR y.path x.path hx) ?_;(conv=>whnf);refine aO (fun h5=>?_) (fun h5=>?_)
  ·rw[h5,Bool.true_or]at he;have e:eO l x=(10,l):=c1.trans (if_pos (hat he));rw[e];(conv=>whnf);exact rx [] [.same 0,.same 1,.same 2,.same 3,.same 2,.same 3]
  ·rw[h5,Bool.false_or]at he;(conv=>whnf);refine aO (fun h6=>?_) (fun h6=>?_)
   ·have e:eO l x=(10,l):=c1.trans (if_pos (hat (he.trans h6)));rw[e];(conv=>whnf);exact rx [] [.same 0,.same 1,.same 2,.same 3,.same 2,.same 3]
   ·repeat'((conv=>whnf);refine I6 ?_)
    refine ag (i+1) [] [.same 0,.same 1,.same 2,.same 3,.same 4] ⟨hlt,htk (he.trans h6)⟩ (by simp only[];omega) ?_;repeat' first|exact trivial|exact rfl|refine And.intro ?_ ?_
 ·have hno:=hi.2;rw[List.take_of_length_le (by omega)]at hno;have c2:=c1.trans (if_neg (by rw[hno];decide));(conv=>whnf);refine cl [] [] (wU L l h x.path) ?_;(conv=>whnf);refine dec (fun h5=>?_) (fun h5=>?_)
  ·have e:eO l x=_:=c2.trans (if_pos h5);rw[e];obtain⟨y,hy,hyp⟩:=sT.1 h5
   have hlt:(bH (dK x.path) l).toNat<l.length:=by
    rcases sU (p:=dK x.path) (l:=l)with⟨q,_⟩|⟨k,hk,q,_⟩
    ·omega
    ·omega
   (conv=>whnf);refine⟨false,.grow,(.l [0,1,2,3,4,5,6,7]),by kernel_rfl,.inl ?_⟩;(conv=>whnf);refine⟨(bH (dK x.path) l).toNat,⟨by omega,hlt⟩,?_⟩;(conv=>whnf);refine⟨_,x,List.getElem?_eq_getElem hlt,⟨Nat.le_refl 5,rfl⟩,?_⟩;(conv=>whnf);exact rx [] [.same 0,.same 1,.same 2,.same 3,.same 2,.same 3]
  ·have c3:=c2.trans (if_neg h5);(conv=>whnf);refine dec (fun h6=>?_) (fun h6=>?_)
   ·have h6:(l.length:Int)=60:=h6;have e:eO l x=_:=c3.trans (if_pos (by omega));rw[e];(conv=>whnf);exact rx [] [.same 0,.same 1,.same 2,.same 3,.same 2,.same 3]
   ·have h6:¬(l.length:Int)=60:=h6;have e:eO l x=_:=c3.trans (if_neg (by omega));rw[e];(conv=>whnf);refine lp Nat (fun i=>⟨[(0,.c (.ptr 0 0)),(3,.c (.ptr 4 0)),(14,.c (.int .i64 i))],[.box [.ptr 1 0,.rw 3,.int .i64 h],.box [.rw 2],.row 6 Ob an L,.row 5 It aG l]++[.box (aG x)]⟩) (fun i=>(i≤l.length∧True)∧∀g∈l.take i,aK g.path x.path=true) (fun i=>l.length-i) 0 [] [.same 0,.same 1,.same 2,.same 3,.same 4] ?_ ?_ (fun i hi=>?_)
    ·simp
    ·repeat' first|exact trivial|exact rfl|refine And.intro ?_ ?_
    obtain⟨⟨hi1,_⟩,hi2⟩:=hi;(conv=>whnf);refine⟨false,.grow,(.l [0,1,2,3,4,5,6,7,8,9,10,11,12,13,14,15,16,17,18,19]),by kernel_rfl,.inl ?_⟩;(conv=>whnf);refine dec (fun h7=>?_) (fun h7=>?_)
    ·have hlt:i<l.length:=by omega
     have hyp:=hp _ (List.getElem_mem hlt);(conv=>whnf);refine⟨i,⟨rfl,hlt⟩,?_⟩;(conv=>whnf);refine⟨l[i],List.getElem?_eq_getElem hlt,?_⟩;(conv=>whnf);refine cl [] [] (nY l[i].path x.path hyp hx) ?_;(conv=>whnf);refine aO (fun h8=>?_) (fun h8=>?_)
     ·repeat'((conv=>whnf);refine I6 ?_)
      refine ag (i+1) [] [.same 0,.same 1,.same 2,.same 3,.same 4] ⟨⟨hlt,trivial⟩,fun g hg=>?_⟩ (by simp only[];omega) ?_
      ·rw[List.take_succ_eq_append_getElem hlt,List.mem_append,List.mem_singleton]at hg;rcases hg with hg|rfl
       ·exact hi2 g hg
       ·exact h8
      ·repeat' first|exact trivial|exact rfl|refine And.intro ?_ ?_
     ·have hno:∀h:i<l.length,aK l[i].path x.path=false:=fun _=>h8;have hpos:iL l x.path=i:=pos_at hi1 hi2 hno;(conv=>whnf);refine⟨false,.grow,(.l [0,1,2,3,4,5,6,7,8,9,10,11]),by kernel_rfl,.inl ?_⟩;(conv=>whnf);refine⟨[x],rfl,?_⟩;(conv=>whnf);refine cl [] [3,5] (xF l x i hi1 (by omega)) ?_;(conv=>whnf);rw[hpos];exact rx [] [.same 0,.same 1,.same 2,.same 3,.same 2,.same 6]
    ·have hno:∀h:i<l.length,aK l[i].path x.path=false:=fun h=>absurd h (by omega);have hpos:iL l x.path=i:=pos_at hi1 hi2 hno;(conv=>whnf);refine⟨false,.grow,(.l [0,1,2,3,4,5,6,7,8,9,10,11]),by kernel_rfl,.inl ?_⟩;(conv=>whnf);refine⟨[x],rfl,?_⟩;(conv=>whnf);refine cl [] [3,5] (xF l x i hi1 (by omega)) ?_;(conv=>whnf);rw[hpos];exact rx [] [.same 0,.same 1,.same 2,.same 3,.same 2,.same 6]
end Go.Nest
end
section
namespace Go.Nest
open Go Go.AM Go.Proofs
open Go.Proofs.YtpechfcbnoggfaaGreatDoor (tab tabOk)
set_option maxRecDepth 4000
def gK(l:List It)(p:List UInt8)(b:List UInt8):Int×List It:=if 400<b.length then(4,l)else eO l ⟨p,b,false,0,0⟩
def fY(L:List Ob)(l:List It)(p:List UInt8)(au id:Int):Int×List It:=if au<0∨4≤au then(1,l)else if kindOf L id≠3 then(9,l)else eO l ⟨p,[],true,id,au⟩
theorem Hp(L:List Ob)(l:List It)(h:Int)(p b:List UInt8)(hx:p.length≤4000000)(hp:∀y∈l,y.path.length≤4000000)(hl:l.length≤60):ae Tryz.prog 55 [.c (.ptr 0 0),.c (.str p),.c (.bs 1 UInt8 bA b)] [.box [.ptr 1 0,.rw 3,.int .i64 h],.box [.rw 2],.row 6 Ob an L,.row 5 It aG l] (Rt (.c (.int .i64 (gK l p b).1)) [.box [.ptr 1 0,.rw 5,.int .i64 h],.box [.rw 4],.dead,.dead,.row 6 Ob an L,.row 5 It aG (gK l p b).2]):=by
 refine ao (n:=16) (n0:=4) tabOk Tryz.call55 Tryz.func55 ?_;intro hb;(conv=>whnf);refine dec (fun h1=>?_) (fun h1=>?_)
 ·rw[show gK l p b=_ from if_pos (by have h1:(400:Int)<b.length:=h1;omega)];(conv=>whnf);exact rx [] [.same 0,.same 1,.same 2,.same 3,.same 2,.same 3]
 have h1:¬(400:Int)<b.length:=h1;rw[show gK l p b=_ from if_neg (by omega)];(conv=>whnf);refine cl [] [] (rZ b (by omega)) ?_;(conv=>whnf);refine cl [4] [0,1,2,3] (yZ L l h ⟨p,b,false,0,0⟩ hx hp hl) ?_;(conv=>whnf);exact rx [] [.same 0,.same 1,.same 2,.same 3,.same 5,.same 6]
theorem Ee(L:List Ob)(hL:aj L)(l:List It)(h:Int)(p:List UInt8)(au id:Int)(hx:p.length≤4000000)(hp:∀y∈l,y.path.length≤4000000)(hl:l.length≤60):ae Tryz.prog 122 [.c (.ptr 0 0),.c (.str p),.c (.int .i64 au),.c (.int .i64 id)] [.box [.ptr 1 0,.rw 3,.int .i64 h],.box [.rw 2],.row 6 Ob an L,.row 5 It aG l] (Rt (.c (.int .i64 (fY L l p au id).1)) [.box [.ptr 1 0,.rw 5,.int .i64 h],.box [.rw 4],.dead,.dead,.row 6 Ob an L,.row 5 It aG (fY L l p au id).2]):=by
 refine ao (n:=37) (n0:=4) tabOk Tryz.call122 Tryz.func122 ?_;intro hb;(conv=>whnf);refine cl [] [] (fJ L hL id) ?_;have hk:=fp (l:=L) (id:=id);(conv=>whnf);refine dec (fun h1=>?_) (fun h1=>?_)
 ·rw[show fY L l p au id=_ from if_pos (.inl h1)];(conv=>whnf);exact rx [] [.same 0,.same 1,.same 2,.same 3,.same 2,.same 3]
 (conv=>whnf);refine dec (fun h2=>?_) (fun h2=>?_)
 ·rw[show fY L l p au id=_ from if_pos (.inr h2)];(conv=>whnf);exact rx [] [.same 0,.same 1,.same 2,.same 3,.same 2,.same 3]
 have c1:fY L l p au id=_:=if_neg (fun h=>h.elim h1 h2);(conv=>whnf);refine av (fun h3=>?_) (fun h3=>?_)
 ·rw[show fY L l p au id=_ from c1.trans (if_pos (by rw[←hk];exact h3))];(conv=>whnf);exact rx [] [.same 0,.same 1,.same 2,.same 3,.same 2,.same 3]
 rw[show fY L l p au id=_ from c1.trans (if_neg (by rw[←hk];exact fun h=>h h3))];(conv=>whnf);refine cl [] [0,1,2,3] (yZ L l h ⟨p,[],true,id,au⟩ hx hp hl) ?_;(conv=>whnf);exact rx [] [.same 0,.same 1,.same 2,.same 3,.same 5,.same 6]
theorem FF(L:List Ob)(l:List It)(h:Int)(p:List UInt8)(hl:l.length≤60):ae Tryz.prog 56 [.c (.ptr 0 0),.c (.str p)] [.box [.ptr 1 0,.rw 3,.int .i64 h],.box [.rw 2],.row 6 Ob an L,.row 5 It aG l] (Rt (.c (.int .i64 (gI l p).1)) [.box [.ptr 1 0,.rw 5,.int .i64 h],.box [.rw 4],.dead,.dead,.row 6 Ob an L,.row 5 It aG (gI l p).2]):=by
 refine ao (n:=22) (n0:=4) tabOk Tryz.call56 Tryz.func56 ?_;intro hb;(conv=>whnf);refine cl [] [] (wU L l h p) ?_;(conv=>whnf);refine dec (fun h1=>?_) (fun h1=>?_)
 ·rw[show gI l p=_ from if_pos h1];(conv=>whnf);exact rx [] [.same 0,.same 1,.same 2,.same 3,.same 2,.same 3]
 have hlt:(bH (dK p) l).toNat<l.length:=by
  rcases sU (p:=dK p) (l:=l)with⟨q,_⟩|⟨k,hk,q,_⟩
  ·omega
  ·omega
 rw[show gI l p=_ from if_neg h1];obtain⟨k,hk⟩:∃k:Nat,bH (dK p) l=k:=⟨(bH (dK p) l).toNat,by omega⟩;rw[hk]at hlt⊢;have hlt:k<l.length:=hlt;(conv=>whnf);refine⟨i64 (by omega) (by omega),?_⟩;(conv=>whnf);refine cl [] [3] (BQ l k hlt (by omega)) ?_;(conv=>whnf);exact rx [] [.same 0,.same 1,.same 2,.same 3,.same 2,.same 4]
theorem wR{α:Type}{p:α→Bool}{l:List α}{i:Nat}(h:i<l.length):(l.take (i+1)).filter p=(l.take i).filter p++if p l[i]=true then[l[i]]else[]:=by
 rw[List.take_succ_eq_append_getElem h,List.filter_append];congr 1
 by_cases h2:p l[i]=true
 ·rw[if_pos h2,List.filter_cons_of_pos h2];rfl
 ·rw[if_neg h2,List.filter_cons_of_neg h2];rfl
theorem filter_le{α:Type}{p:α→Bool}{l:List α}{i:Nat}(h:i≤l.length):((l.take i).filter p).length≤i:=Nat.le_trans (List.length_filter_le ..) (by rw[List.length_take];omega)
theorem HW(L:List Ob)(l:List It)(h:Int)(p:List UInt8)(hl:l.length≤60):ae Tryz.prog 78 [.c (.ptr 0 0),.c (.str p)] [.box [.ptr 1 0,.rw 3,.int .i64 h],.box [.rw 2],.row 6 Ob an L,.row 5 It aG l] (Rt (.c (.int .i64 (qF l p).1)) [.box [.ptr 1 0,.rw 5,.int .i64 h],.box [.rw 4],.dead,.dead,.row 6 Ob an L,.row 5 It aG (qF l p).2]):=by
 refine ao (n:=48) (n0:=4) tabOk Tryz.call78 Tryz.func78 ?_;intro hb;(conv=>whnf);refine lp Nat (fun i=>⟨[(0,.c (.ptr 0 0)),(1,.c (.str p)),(5,.c (.rw 4)),(6,.c (.int .i64 i))],[.box [.ptr 1 0,.rw 3,.int .i64 h],.box [.rw 2],.row 6 Ob an L,.row 5 It aG l]++[.row 5 It aG ((l.take i).filter fun y=>decide (y.path≠p))]⟩) (fun i=>i≤l.length∧True) (fun i=>l.length-i) 0 [] [.same 0,.same 1,.same 2,.same 3,.new] ?_ ?_ (fun i hi=>?_)
 ·simp
 ·repeat' first|exact trivial|exact rfl|refine And.intro ?_ ?_
 (conv=>whnf);refine dec (fun h4=>?_) (fun h4=>?_)
 ·have hlt:i<l.length:=by omega
  have hf:=wR (p:=fun y:It=>decide (y.path≠p)) hlt;have hfl:=filter_le (p:=fun y:It=>decide (y.path≠p)) hi.1;have hiy:l[i]? =some l[i]:=List.getElem?_eq_getElem hlt;(conv=>whnf);refine⟨i,⟨rfl,hlt⟩,?_⟩;(conv=>whnf);refine⟨l[i],hiy,?_⟩;generalize (l.take i).filter (fun y=>decide (y.path≠p))=out at*;generalize l[i]=y at*;(conv=>whnf);refine av (fun h7=>?_) (fun h7=>?_)
  ·rw[if_pos (by simpa using h7)]at hf;(conv=>whnf);refine⟨i,⟨rfl,hlt⟩,?_⟩;(conv=>whnf);refine⟨y,hiy,?_⟩;(conv=>whnf);refine⟨[y],rfl,?_⟩;(conv=>whnf);refine⟨_,_,rfl,rfl,(by simp only[List.length_append,List.length_cons,List.length_nil];omega),?_⟩;repeat'((conv=>whnf);refine I6 ?_)
   refine ag (i+1) [] [.same 0,.same 1,.same 2,.same 3,.same 6] ⟨hlt,trivial⟩ (by simp only[];omega) ?_;rw[hf];repeat' first|exact trivial|exact rfl|refine And.intro ?_ ?_
  ·rw[if_neg (by simpa using h7),List.append_nil]at hf;repeat'((conv=>whnf);refine I6 ?_)
   refine ag (i+1) [] [.same 0,.same 1,.same 2,.same 3,.same 4] ⟨hlt,trivial⟩ (by simp only[];omega) ?_;rw[hf];repeat' first|exact trivial|exact rfl|refine And.intro ?_ ?_
 ·obtain rfl:i=l.length:=by omega
  rw[List.take_length];(conv=>whnf);refine dec (fun h5=>?_) (fun h5=>?_)
  ·rw[show qF l p=_ from if_pos (Int.ofNat_inj.1 h5)];(conv=>whnf);exact rx [] [.same 0,.same 1,.same 2,.same 3,.same 2,.same 3]
  ·rw[show qF l p=_ from if_neg (fun e=>h5 (congrArg Int.ofNat e))];(conv=>whnf);exact rx [] [.same 0,.same 1,.same 2,.same 3,.same 2,.same 4]
theorem Ca(L:List Ob)(l:List It)(h:Int)(hl:l.length≤60)(hbb:∀x∈l,x.bytes.length≤400):ae Tryz.prog 68 [.c (.bp [.bp [.bs 6 Ob an L],.bs 5 It aG l,.int .i64 h])] [] (Rt (.c (.rw 0)) [.row 2 Dc cQ (l.map cP)]):=by
 refine ao (n:=26) (n0:=0) tabOk Tryz.call68 Tryz.func68 ?_;intro hb;(conv=>whnf);refine lp Nat (fun i=>⟨[(3,.c (.rw 0)),(9,.c (.bs 5 It aG l)),(10,.c (.int .i64 l.length)),(11,.c (.int .i64 i))],[.row 2 Dc cQ ((l.take i).map cP)]⟩) (fun i=>i≤l.length∧True) (fun i=>l.length-i) 0 [] [.new] ?_ ?_ (fun i hi=>?_)
 ·simp
 ·repeat' first|exact trivial|exact rfl|refine And.intro ?_ ?_
 (conv=>whnf);refine dec (fun h4=>?_) (fun h4=>?_)
 ·have hlt:i<l.length:=by omega
  have hol:((l.take i).map cP).length≤i:=by rw[List.length_map,List.length_take];omega
  have hs:(l.take (i+1)).map cP=(l.take i).map cP++[cP l[i]]:=by rw[List.take_succ_eq_append_getElem hlt,List.map_append];rfl
  have hby:=hbb _ (List.getElem_mem hlt);generalize (l.take i).map cP=out at*;(conv=>whnf);refine⟨i,l[i],rfl,List.getElem?_eq_getElem hlt,?_⟩;generalize l[i]=x at*;(conv=>whnf);refine⟨false,.grow,(.l [0,1,2,3,4,5,6,7,8,9]),by kernel_rfl,.inl ?_⟩;(conv=>whnf);refine cl [] [] (rZ x.bytes (by omega)) ?_;(conv=>whnf);refine⟨[⟨x.path,x.bytes⟩],rfl,?_⟩;(conv=>whnf);refine⟨_,_,rfl,rfl,(by simp only[List.length_append,List.length_cons,List.length_nil];omega),?_⟩;repeat'((conv=>whnf);refine I6 ?_)
  refine ag (i+1) [] [.same 4] ⟨hlt,trivial⟩ (by simp only[];omega) ?_;rw[hs];repeat' first|exact trivial|exact rfl|refine And.intro ?_ ?_
 ·obtain rfl:i=l.length:=by omega
  rw[List.take_length];(conv=>whnf);exact rx [] [.same 0]
theorem Eh(L:List Ob)(l:List It)(h:Int)(hl:l.length≤60):ae Tryz.prog 138 [.c (.bp [.bp [.bs 6 Ob an L],.bs 5 It aG l,.int .i64 h])] [] (Rt (.c (.rw 0)) [.row 4 Fi aw (cA l)]):=by
 refine ao (n:=29) (n0:=0) tabOk Tryz.call138 Tryz.func138 ?_;intro hb;(conv=>whnf);refine lp Nat (fun i=>⟨[(3,.c (.rw 0)),(9,.c (.bs 5 It aG l)),(10,.c (.int .i64 l.length)),(11,.c (.int .i64 i))],[.row 4 Fi aw (cA (l.take i))]⟩) (fun i=>i≤l.length∧True) (fun i=>l.length-i) 0 [] [.new] ?_ ?_ (fun i hi=>?_)
 ·simp
 ·repeat' first|exact trivial|exact rfl|refine And.intro ?_ ?_
 (conv=>whnf);refine dec (fun h4=>?_) (fun h4=>?_)
 ·have hlt:i<l.length:=by omega
  have hol:(cA (l.take i)).length≤i:=by unfold cA;rw[List.length_map];exact filter_le (by omega)
  have hs:cA (l.take (i+1))=cA (l.take i)++if l[i].link=true then[gW l[i]]else[]:=by
   unfold cA;rw[wR hlt,List.map_append];congr 1
   split<;>rfl
  generalize cA (l.take i)=out at*;(conv=>whnf);refine⟨i,l[i],rfl,List.getElem?_eq_getElem hlt,?_⟩;generalize l[i]=x at*;(conv=>whnf);refine aO (fun h5=>?_) (fun h5=>?_)
  ·rw[if_pos h5]at hs;(conv=>whnf);refine⟨[gW x],rfl,?_⟩;(conv=>whnf);refine⟨_,_,rfl,rfl,(by simp only[List.length_append,List.length_cons,List.length_nil];omega),?_⟩;repeat'((conv=>whnf);refine I6 ?_)
   refine ag (i+1) [] [.same 3] ⟨hlt,trivial⟩ (by simp only[];omega) ?_;rw[hs];repeat' first|exact trivial|exact rfl|refine And.intro ?_ ?_
  ·rw[if_neg (by rw[h5];decide),List.append_nil]at hs;repeat'((conv=>whnf);refine I6 ?_)
   refine ag (i+1) [] [.same 0] ⟨hlt,trivial⟩ (by simp only[];omega) ?_;rw[hs];repeat' first|exact trivial|exact rfl|refine And.intro ?_ ?_
 ·obtain rfl:i=l.length:=by omega
  rw[List.take_length];(conv=>whnf);exact rx [] [.same 0]
theorem mm(L:List Ob)(l:List It)(h:Int):ae Tryz.prog 70 [.c (.bp [.bp [.bs 6 Ob an L],.bs 5 It aG l,.int .i64 h])] [] (Rt (.c (.int .i64 h)) []):=by
 refine ao (n:=7) (n0:=0) tabOk Tryz.call70 Tryz.func70 ?_;intro hb;repeat'((conv=>whnf);first|refine aI ?_|fail)
 rfl
end Go.Nest
end
section
namespace Go.Nest
open Go Go.AM Go.Proofs
open Go.Proofs.YtpechfcbnoggfaaGreatDoor (tab tabOk)
set_option maxRecDepth 4000
theorem CA{L:List Ob}{x:It}{r:List It}{out:List Fi}(h:x.link=true):bK L (x::r) out=bK L r (out++[gW x]):=by
 rw[bK,if_pos h]
theorem CB{L:List Ob}{x:It}{r:List It}{out:List Fi}(h:x.link=false)(h2:(aA L (dv x.bytes)).2.1≠0):bK L (x::r) out=([],(aA L (dv x.bytes)).2.1,(aA L (dv x.bytes)).2.2):=by
 rw[bK,if_neg (by rw[h];decide),if_pos h2]
theorem CC{L:List Ob}{x:It}{r:List It}{out:List Fi}(h:x.link=false)(h2:¬(aA L (dv x.bytes)).2.1≠0):bK L (x::r) out=bK (aA L (dv x.bytes)).2.2 r (out++[⟨x.path,1,(aA L (dv x.bytes)).1,0⟩]):=by
 rw[bK,if_neg (by rw[h];decide),if_neg h2]
set_option maxHeartbeats 4000000 in
theorem CG(L:List Ob)(hL:aj L)(l:List It)(h:Int)(hl:l.length≤60):ae Tryz.prog 164 [.c (.ptr 0 0)] [.box [.ptr 1 0,.rw 3,.int .i64 h],.box [.rw 2],.row 6 Ob an L,.row 5 It aG l] (Rt (.tup [(false,[.rw 6]),(false,[.int .i64 (bK L l []).2.1])]) ([.box [.ptr 1 0,.rw 5,.int .i64 h],.box [.rw 4],.dead,.dead,.row 6 Ob an (bK L l []).2.2,.row 5 It aG l]++[.row 4 Fi aw (bK L l []).1])):=by
 refine ao (n:=53) (n0:=4) tabOk Tryz.call164 Tryz.func164 ?_;intro hb;(conv=>whnf);refine lp (Nat×List Ob×List Fi) (fun|(i,M,out)=>⟨[(0,.c (.ptr 0 0)),(4,.c (.rw 5)),(13,.c (.rw 3)),(14,.c (.int .i64 l.length)),(15,.c (.int .i64 i))],[.box [.ptr 1 0,.rw 3,.int .i64 h],.box [.rw 4],.dead,.row 5 It aG l,.row 6 Ob an M]++[.row 4 Fi aw out]⟩) (fun x=>(x.1≤l.length∧x.2.2.length≤x.1)∧aj x.2.1∧bK L l []=bK x.2.1 (l.drop x.1) x.2.2) (fun x=>l.length-x.1) (0,L,[]) [] [.same 0,.same 1,.same 2,.same 3,.same 2,.new] ?_ ?_ (fun x hx=>?_)
 ·exact⟨⟨Nat.zero_le _,Nat.zero_le _⟩,hL,rfl⟩
 ·repeat' first|exact trivial|exact rfl|refine And.intro ?_ ?_
 obtain⟨i,M,out⟩:=x;obtain⟨⟨h1,h2⟩,hM,hf⟩:=hx;dsimp only at h1 h2 hM hf;(conv=>whnf);refine dec (fun h4=>?_) (fun h4=>?_)
 ·have hlt:i<l.length:=by omega
  have hdr:l.drop i=l[i]::l.drop (i+1):=List.drop_eq_getElem_cons hlt;rw[hdr]at hf;(conv=>whnf);refine⟨i,⟨rfl,hlt⟩,?_⟩;(conv=>whnf);refine⟨l[i],List.getElem?_eq_getElem hlt,?_⟩;generalize l[i]=x at*;(conv=>whnf);refine df (fun h5=>?_) (fun h5=>?_)
  ·have p1:=oB M (dv x.bytes) hM.len;have hM2:=iM hM (dv x.bytes);(conv=>whnf);refine⟨false,.grow,(.l [0,1,2,3,4,5,6,7,8,9,10,11,12]),by kernel_rfl,.inl ?_⟩;(conv=>whnf);refine cl [] [1,4] (p1) ?_;(conv=>whnf);refine av (fun h6=>?_) (fun h6=>?_)
   ·rw[hf,CB h5 h6];(conv=>whnf);exact rx [] [.same 0,.same 1,.same 2,.same 3,.same 8,.same 3,.new]
   ·have h6':¬(aA M (dv x.bytes)).2.1≠0:=fun h=>h h6;rw[CC h5 h6']at hf;generalize (aA M (dv x.bytes)).2.2=M' at*;generalize (aA M (dv x.bytes)).1=id at*;(conv=>whnf);refine⟨[⟨x.path,1,id,0⟩],rfl,?_⟩;(conv=>whnf);refine⟨_,_,rfl,rfl,(by simp only[List.length_append,List.length_cons,List.length_nil];omega),?_⟩;repeat'((conv=>whnf);refine I6 ?_)
    refine ag (i+1,M',out++[⟨x.path,1,id,0⟩]) [] [.same 0,.same 1,.same 2,.same 3,.same 8,.same 10] ⟨⟨hlt,by simp only[List.length_append,List.length_cons,List.length_nil];omega⟩,hM2,hf⟩ (by simp only[];omega) ?_;repeat' first|exact trivial|exact rfl|refine And.intro ?_ ?_
  ·rw[CA h5]at hf;(conv=>whnf);refine⟨[gW x],rfl,?_⟩;(conv=>whnf);refine⟨_,_,rfl,rfl,(by simp only[List.length_append,List.length_cons,List.length_nil];omega),?_⟩;repeat'((conv=>whnf);refine I6 ?_)
   refine ag (i+1,M,out++[gW x]) [] [.same 0,.same 1,.same 2,.same 3,.same 4,.same 9] ⟨⟨hlt,by simp only[List.length_append,List.length_cons,List.length_nil];omega⟩,hM,hf⟩ (by simp only[];omega) ?_;repeat' first|exact trivial|exact rfl|refine And.intro ?_ ?_
 ·obtain rfl:i=l.length:=by omega
  rw[List.drop_length]at hf;rw[hf];(conv=>whnf);exact rx [] [.same 0,.same 1,.same 2,.same 3,.same 4,.same 3,.same 5]
theorem zZ(L:List Ob)(hL:aj L)(l:List It)(h:Int)(hp:∀y∈l,y.path.length≤4000000)(hl:l.length≤60):ae Tryz.prog 201 [.c (.ptr 0 0)] [.box [.ptr 1 0,.rw 3,.int .i64 h],.box [.rw 2],.row 6 Ob an L,.row 5 It aG l] (Rt (.tup [(false,[.int .i64 (aT L l).1]),(false,[.int .i64 (aT L l).2.1])]) [.box [.ptr 1 0,.rw 5,.int .i64 h],.box [.rw 4],.dead,.dead,.row 6 Ob an (aT L l).2.2,.row 5 It aG l]):=by
 refine ao (n:=22) (n0:=4) tabOk Tryz.call201 Tryz.func201 ?_;intro hb;have hfp:=sB (n:=4000000) (L:=L) (out:=[]) (fun f hf=>(by cases hf)) hp;have hfo:=(ll (l:=l) (out:=[]) hL).1;unfold aT;(conv=>whnf);refine cl [] [0,1,2,3] (CG L hL l h hl) ?_;generalize bK L l []=F at*;obtain⟨fs,c,M⟩:=F;dsimp only at hfp hfo;(conv=>whnf);refine av (fun h1=>?_) (fun h1=>?_)
 ·rw[if_pos h1];(conv=>whnf);exact rx [] [.same 0,.same 1,.same 2,.same 3,.same 4,.same 5]
 ·rw[if_neg (fun h=>h h1)];(conv=>whnf);refine cl [] [1,4] (wX M fs hfo hfp) ?_;(conv=>whnf);exact rx [] [.same 0,.same 1,.same 2,.same 3,.same 7,.same 5]
theorem zA(L:List Ob)(hL:aj L)(l:List It)(h t:Int):ae Tryz.prog 202 [.c (.bp [.bp [.bs 6 Ob an L],.bs 5 It aG l,.int .i64 h]),.c (.int .i64 t)] [] (Rt (.c (.bool (mV L l h t))) []):=by
 refine ao (n:=34) (n0:=0) tabOk Tryz.call202 Tryz.func202 ?_;intro hb;unfold mV;(conv=>whnf);refine dec (fun h1=>?_) (fun h1=>?_)
 ·rw[if_pos h1];(conv=>whnf);exact aC (by rw[decide_eq_decide];omega)
 ·rw[if_neg h1];(conv=>whnf);refine⟨false,.grow,(.alt [0,1,2,3,4,5,6,7] [8,12] fun j=>bif Nat.beq j 8 then(.l [9,10,11,12,13,14])else bif Nat.beq j 12 then(.l [8,9,10,11,13,14])else .l []),by kernel_rfl,.inl ?_⟩;(conv=>whnf);refine And.intro ?_ ?_
  all_goals
   (conv=>whnf);refine cl [] [] (fJ L hL h) ?_;(conv=>whnf);exact aC rfl
theorem vR(L:List Ob)(hL:aj L)(l:List It)(h:Int)(hp:∀y∈l,y.path.length≤4000000)(hl:l.length≤60):ae Tryz.prog 127 [.c (.ptr 0 0)] [.box [.ptr 1 0,.rw 3,.int .i64 h],.box [.rw 2],.row 6 Ob an L,.row 5 It aG l] (Rt (.c (.int .i64 (fU L l h))) [.box [.ptr 1 0,.rw 5,.int .i64 h],.box [.rw 4],.dead,.dead,.row 6 Ob an (aT L l).2.2,.row 5 It aG l]):=by
 refine ao (n:=19) (n0:=4) tabOk Tryz.call127 Tryz.func127 ?_;intro hb;have hto:=(kV (l:=l) hL).1;unfold fU;(conv=>whnf);refine cl [] [0,1,2,3] (zZ L hL l h hp hl) ?_;generalize aT L l=T at*;obtain⟨t,c,M⟩:=T;dsimp only at hto;(conv=>whnf);refine dec (fun h1=>?_) (fun h1=>?_)
 ·rw[if_neg (fun h=>h h1)];(conv=>whnf);refine cl [] [] (zA M hto l h t) ?_;(conv=>whnf);refine df (fun h2=>?_) (fun h2=>?_)
  ·rw[if_neg (by rw[h2];decide)];(conv=>whnf);exact rx [] [.same 0,.same 1,.same 2,.same 3,.same 4,.same 5]
  ·rw[if_pos h2];(conv=>whnf);rw[h1];exact rx [] [.same 0,.same 1,.same 2,.same 3,.same 4,.same 5]
 ·rw[if_pos h1];(conv=>whnf);exact rx [] [.same 0,.same 1,.same 2,.same 3,.same 4,.same 5]
end Go.Nest
end
section
namespace Go.Nest
open Go Go.AM Go.Proofs
open Go.Proofs.YtpechfcbnoggfaaGreatDoor (tab tabOk)
set_option maxRecDepth 4000
def fM(L:List Ob)(h:Int):Prop:=h<0∨kindOf L h=3
theorem fM.ext{L M:List Ob}{h:Int}(hh:fM L h)(hx:L<+:M):fM M h:=hh.imp id fun hk=>by rw[dE hx (by omega)];exact hk
theorem fM.at{L:List Ob}{h:Int}(hh:fM L h)(h0:¬h<0):∃hlt:h.toNat<L.length,(h=(h.toNat:Nat)∧ai L h=L[h.toNat]):=by
 have hk:=hh.resolve_left h0;obtain⟨h1,h2⟩:=c9 (l:=L) (id:=h) (by omega);exact⟨h2,by omega,jg h1 h2⟩
theorem Cz{L:List Ob}{t:Int}:(cL L t).1.length≤60:=by
 unfold cL;have:=mh L 9 t [] [] (by decide);split
 ·exact this
 ·simp
theorem CD{M:List Ob}(hM:aj M)(t:Int):ij (cL M t).1∧∀f∈(cL M t).1,f.path.length≤4000000:=by
 by_cases hz:(cL M t).2=0
 ·obtain⟨f1,f2,f3⟩:=wP hM hz;obtain⟨q1,q2⟩:=iS hM f1.1;obtain⟨a1,a2⟩:=f1.2.vf hM q1 q2;refine⟨⟨a1.imp fun h=>h.1,fun f hf e=>?_⟩,fun f hf=>?_⟩
  ·have:=(a2 f hf).2;omega
  ·have h1:=(a2 f hf).1;have h2:=oS (az f.path) fun s hs=>qh (tL h1 s hs);rw[oT]at h2;have:=f3 f hf;omega
 ·rw[CE hz];exact⟨⟨.nil,fun f hf=>by cases hf⟩,fun f hf=>by cases hf⟩
end Go.Nest
end
section
namespace Go.Nest
open Go Go.AM Go.Proofs
open Go.Proofs.YtpechfcbnoggfaaGreatDoor (tab tabOk)
set_option maxRecDepth 4000
set_option maxHeartbeats 1000000 in
theorem wc(L:List Ob)(hL:aj L)(l:List It)(h:Int)(hp:∀y∈l,y.path.length≤4000000)(hl:l.length≤60)(text:List UInt8)(others:List Int)(ho:others.length≤1000)(hh:fM L h):ae Tryz.prog 124 [.c (.ptr 0 0),.c (.str text),.c (.bs 1 Int encI others)] [.box [.ptr 1 0,.rw 3,.int .i64 h],.box [.rw 2],.row 6 Ob an L,.row 5 It aG l] (Rt (.tup [(false,[.int .i64 (bn L l h text others).1]),(false,[.int .i64 (bn L l h text others).2.1])]) [.box [.ptr 1 0,.rw 5,.int .i64 (ky L l h text others)],.box [.rw 4],.dead,.dead,.row 6 Ob an (bn L l h text others).2.2,.row 5 It aG l]):=by
 have hto:=(kV (l:=l) hL).1;have hh:=hh.ext (kV (l:=l) hL).2;have hH:ky L l h text others=if(bn L l h text others).2.1=0 then(bn L l h text others).1 else h:=rfl
 rw[hH];have hR:bn L l h text others=_:=rfl;conv at hR=>rhs;unfold bn
 have hT:=zZ L hL l h hp hl;generalize bn L l h text others=R at*;generalize aT L l=T at*;obtain⟨t,c,M⟩:=T;dsimp only at hto hh hR;have p1:=oB M (eG t (jx h others) text) hto.len;generalize hP:aA M (eG t (jx h others) text)=P at*;obtain⟨id,c',M'⟩:=P;dsimp only at p1 hR;refine ao (n:=69) (n0:=4) tabOk Tryz.call124 Tryz.func124 ?_;intro hb;(conv=>whnf);refine cl [] [0,1,2,3] (hT) ?_;(conv=>whnf);refine av (fun h1=>?_) (fun h1=>?_)
 ·rw[hR.trans (if_pos h1),if_neg h1];(conv=>whnf);exact rx [] [.same 0,.same 1,.same 2,.same 3,.same 4,.same 5]
 have c1:=hR.trans (if_neg (fun h=>h h1));(conv=>whnf);refine dec (fun h2=>?_) (fun h2=>?_)
 ·have h2:0≤h:=h2;have hup:jx h others=[h]++others:=by unfold jx;rw[if_pos h2]
  rw[hup]at p1;(conv=>whnf);refine cl [] [] (zA M hto l h t) ?_;(conv=>whnf);refine aO (fun h3=>?_) (fun h3=>?_)
  ·(conv=>whnf);refine dec (fun h4=>?_) (fun h4=>?_)
   ·rw[c1.trans (if_pos ⟨h2,h3,Int.ofNat_inj.1 h4⟩),if_neg (show¬(17:Int)=0 by decide)];(conv=>whnf);exact rx [] [.same 0,.same 1,.same 2,.same 3,.same 4,.same 5]
   ·have c2:=c1.trans (if_neg (fun h=>h4 (congrArg Int.ofNat h.2.2)));(conv=>whnf);refine dec (fun _=>?_) (fun h=>absurd h2 h);(conv=>whnf);refine⟨[h],rfl,?_⟩;(conv=>whnf);refine⟨[],_,rfl,rfl,(by simp only[List.length_nil,List.length_cons];omega),?_⟩;(conv=>whnf);refine⟨true,.any,(.alt [0,1,2,4,5,6,8] [3,7] fun j=>bif Nat.beq j 3 then(.l [7,9,10,11,12,13,14,15])else bif Nat.beq j 7 then(.l [9,3,10,11,12,13,14,15])else .l []),by kernel_rfl,.inl ?_⟩;(conv=>whnf);refine And.intro ?_ ?_
    all_goals
     (conv=>whnf);refine⟨_,_,rfl,rfl,(by simp only[List.length_append,List.length_nil,List.length_cons];omega),?_⟩;(conv=>whnf);refine cl [] [1,4] (p1) ?_;(conv=>whnf);refine av (fun h6=>?_) (fun h6=>?_)
     ·rw[c2.trans (if_pos h6),if_neg h6];(conv=>whnf);exact rx [] [.same 0,.same 1,.same 2,.same 3,.same 9,.same 5]
     ·rw[c2.trans (if_neg (fun h=>h h6)),if_pos h6];have h6:c'=0:=h6;subst h6;(conv=>whnf);exact rx [] [.same 0,.same 1,.same 2,.same 3,.same 9,.same 5]
  ·have c2:=c1.trans (if_neg (fun h=>by have:=h.2.1;rw[h3]at this;cases this));(conv=>whnf);refine dec (fun _=>?_) (fun h=>absurd h2 h);(conv=>whnf);refine⟨[h],rfl,?_⟩;(conv=>whnf);refine⟨[],_,rfl,rfl,(by simp only[List.length_nil,List.length_cons];omega),?_⟩;(conv=>whnf);refine⟨true,.any,(.alt [0,1,2,4,5,6,8] [3,7] fun j=>bif Nat.beq j 3 then(.l [7,9,10,11,12,13,14,15])else bif Nat.beq j 7 then(.l [9,3,10,11,12,13,14,15])else .l []),by kernel_rfl,.inl ?_⟩;(conv=>whnf);refine And.intro ?_ ?_
   all_goals
    (conv=>whnf);refine⟨_,_,rfl,rfl,(by simp only[List.length_append,List.length_nil,List.length_cons];omega),?_⟩;(conv=>whnf);refine cl [] [1,4] (p1) ?_;(conv=>whnf);refine av (fun h6=>?_) (fun h6=>?_)
    ·rw[c2.trans (if_pos h6),if_neg h6];(conv=>whnf);exact rx [] [.same 0,.same 1,.same 2,.same 3,.same 9,.same 5]
    ·rw[c2.trans (if_neg (fun h=>h h6)),if_pos h6];have h6:c'=0:=h6;subst h6;(conv=>whnf);exact rx [] [.same 0,.same 1,.same 2,.same 3,.same 9,.same 5]
 ·have h2:¬0≤h:=h2;have hup:jx h others=[]++others:=by unfold jx;rw[if_neg h2]
  rw[hup]at p1;have c2:=c1.trans (if_neg (fun h=>h2 h.1));(conv=>whnf);refine dec (fun h=>absurd h h2) (fun _=>?_);(conv=>whnf);refine⟨true,.any,(.alt [0,1,2,4,5,6,8] [3,7] fun j=>bif Nat.beq j 3 then(.l [7,9,10,11,12,13,14,15])else bif Nat.beq j 7 then(.l [9,3,10,11,12,13,14,15])else .l []),by kernel_rfl,.inl ?_⟩;(conv=>whnf);refine And.intro ?_ ?_
  all_goals
   (conv=>whnf);refine⟨[],_,rfl,rfl,(by simp only[List.length_nil];omega),?_⟩;(conv=>whnf);refine cl [] [1,4] (p1) ?_;(conv=>whnf);refine av (fun h6=>?_) (fun h6=>?_)
   ·rw[c2.trans (if_pos h6),if_neg h6];(conv=>whnf);exact rx [] [.same 0,.same 1,.same 2,.same 3,.same 7,.same 5]
   ·rw[c2.trans (if_neg (fun h=>h h6)),if_pos h6];have h6:c'=0:=h6;subst h6;(conv=>whnf);exact rx [] [.same 0,.same 1,.same 2,.same 3,.same 7,.same 5]
end Go.Nest
end
section
namespace Go.Nest
open Go Go.AM Go.Proofs
open Go.Proofs.YtpechfcbnoggfaaGreatDoor (tab tabOk)
set_option maxRecDepth 4000
theorem DV{L:List Ob}{f:Fi}(h:f.mode=3):bW L f=⟨f.path,[],decide (f.mode=3),f.id,f.au⟩:=(if_pos h).trans (by rw[decide_eq_true h])
theorem DU{L:List Ob}{f:Fi}(h:¬f.mode=3):bW L f=⟨f.path,(ai L f.id).bytes,false,0,0⟩:=if_neg h
set_option maxHeartbeats 1000000 in
theorem xU(L:List Ob)(hL:aj L)(l:List It)(h:Int)(fs:List Fi)(hf:fs.length≤60):ae Tryz.prog 205 [.c (.ptr 0 0),.c (.bs 4 Fi aw fs)] [.box [.ptr 1 0,.rw 3,.int .i64 h],.box [.rw 2],.row 6 Ob an L,.row 5 It aG l] (Rt (.tup []) [.box [.ptr 1 0,.rw 5,.int .i64 h],.box [.rw 4],.dead,.dead,.row 6 Ob an L,.row 5 It aG (fs.map (bW L))]):=by
 refine ao (n:=57) (n0:=4) tabOk Tryz.call205 Tryz.func205 ?_;intro hb;(conv=>whnf);refine lp Nat (fun i=>⟨[(0,.c (.ptr 0 0)),(12,.c (.bs 4 Fi aw fs)),(13,.c (.int .i64 fs.length)),(14,.c (.int .i64 i))],[.box [.ptr 1 0,.rw 4,.int .i64 h],.box [.rw 2],.row 6 Ob an L,.dead,.row 5 It aG ((fs.take i).map (bW L))]⟩) (fun i=>i≤fs.length∧True) (fun i=>fs.length-i) 0 [] [.same 0,.same 1,.same 2,.same 3,.new] ?_ ?_ (fun i hi=>?_)
 ·simp
 ·repeat' first|exact trivial|exact rfl|refine And.intro ?_ ?_
 (conv=>whnf);refine dec (fun h4=>?_) (fun h4=>?_)
 ·have hlt:i<fs.length:=by omega
  have hol:((fs.take i).map (bW L)).length≤i:=by rw[List.length_map,List.length_take];omega
  have hs:(fs.take (i+1)).map (bW L)=(fs.take i).map (bW L)++[bW L fs[i]]:=by rw[List.take_succ_eq_append_getElem hlt,List.map_append];rfl
  generalize (fs.take i).map (bW L)=out at*;(conv=>whnf);refine⟨i,fs[i],rfl,List.getElem?_eq_getElem hlt,?_⟩;generalize fs[i]=f at*;(conv=>whnf);refine av (fun h5=>?_) (fun h5=>?_)
  ·rw[DU h5]at hs;(conv=>whnf);refine⟨false,.grow,(.alt [0,1,2,3,4,5] [6,10] fun j=>bif Nat.beq j 6 then(.l [7,8,9,10,11,12])else bif Nat.beq j 10 then(.l [6,7,8,9,11,12])else .l []),by kernel_rfl,.inl ?_⟩;(conv=>whnf);refine And.intro ?_ ?_
   all_goals
    (conv=>whnf);refine cl [] [] (fJ L hL f.id) ?_;(conv=>whnf);refine⟨false,.grow,(.l [0,1,2,3,4,5,6,7,8,9,10]),by kernel_rfl,.inl ?_⟩;(conv=>whnf);refine⟨[⟨f.path,(ai L f.id).bytes,false,0,0⟩],rfl,?_⟩;(conv=>whnf);refine⟨_,_,rfl,rfl,(by simp only[List.length_append,List.length_cons,List.length_nil];omega),?_⟩;repeat'((conv=>whnf);refine I6 ?_)
    refine ag (i+1) [] [.same 0,.same 1,.same 2,.same 3,.same 9] ⟨hlt,trivial⟩ (by simp only[];omega) ?_;rw[hs];repeat' first|exact trivial|exact rfl|refine And.intro ?_ ?_
  ·rw[DV h5]at hs;(conv=>whnf);refine⟨false,.grow,(.l [0,1,2,3,4,5,6,7,8,9,10]),by kernel_rfl,.inl ?_⟩;(conv=>whnf);refine⟨[⟨f.path,[],decide (f.mode=3),f.id,f.au⟩],rfl,?_⟩;(conv=>whnf);refine⟨_,_,rfl,rfl,(by simp only[List.length_append,List.length_cons,List.length_nil];omega),?_⟩;repeat'((conv=>whnf);refine I6 ?_)
   refine ag (i+1) [] [.same 0,.same 1,.same 2,.same 3,.same 8] ⟨hlt,trivial⟩ (by simp only[];omega) ?_;rw[hs];repeat' first|exact trivial|exact rfl|refine And.intro ?_ ?_
 ·obtain rfl:i=fs.length:=by omega
  rw[List.take_length];(conv=>whnf);exact rx [] [.same 0,.same 1,.same 2,.same 3,.same 2,.same 4]
theorem b9.ids{ne:Bool}{L:List Ob}(hL:aj L){es:List aB}{l:List Fi}(h:b9 ne L es l):(∀e∈es,kindOf L e.id=e.mode)→∀f∈l,kindOf L f.id=f.mode:=by
 induction h with
 |nil=>intro _ f hf;cases hf
 |file hm h ih=>
  intro he f hf;rcases List.mem_cons.1 hf with rfl|hf
  ·exact he _ (by simp)
  ·exact ih (fun e h=>he e (by simp[h])) f hf
 | @dir e es m l hm hk hne h1 h ih1 ih2=>
  intro he f hf;rcases List.mem_append.1 hf with hf|hf
  ·obtain⟨g,hg,rfl⟩:=List.mem_map.1 hf;exact ih1 (hL.tree hk).2.2.2 g hg
  ·exact ih2 (fun e h=>he e (by simp[h])) f hf
theorem fP.ids{ne:Bool}{L:List Ob}(hL:aj L){t:Int}{l:List Fi}(h:fP ne L t l):∀f∈l,kindOf L f.id=f.mode:=h.2.ids hL (hL.tree h.1).2.2.2
theorem Cw{l:List Fi}(h:cR l=0):∀f∈l,¬f.mode=0:=fun f hf=>by have:=((kq h).2 f hf).2;omega
def iF(L:List Ob)(fs:List Fi):Int:=(cZ L fs).2.1
theorem xS(L:List Ob)(hL:aj L)(l:List It)(h:Int)(fs:List Fi)(hp:∀f∈fs,f.path.length≤4000000):ae Tryz.prog 212 [.c (.ptr 0 0),.c (.bs 4 Fi aw fs)] [.box [.ptr 1 0,.rw 3,.int .i64 h],.box [.rw 2],.row 6 Ob an L,.row 5 It aG l] (Rt (.c (.int .i64 (iF L fs))) [.box [.ptr 1 0,.rw 5,.int .i64 h],.box [.rw 4],.dead,.dead,.row 6 Ob an (cZ L fs).2.2,.row 5 It aG (jn L l fs)]):=by
 refine ao (n:=22) (n0:=4) tabOk Tryz.call212 Tryz.func212 ?_;intro hb;have hbo:=(k9 hL fs).1;have hbt:=pj (L:=L) (l:=fs) hL;unfold jn iF;(conv=>whnf);refine cl [] [1,2] (wX L fs hL hp) ?_;generalize cZ L fs=B at*;obtain⟨t,c,M⟩:=B;dsimp only at hbo hbt;(conv=>whnf);refine av (fun h1=>?_) (fun h1=>?_)
 ·rw[if_pos h1];(conv=>whnf);exact rx [] [.same 0,.same 1,.same 2,.same 3,.same 4,.same 3]
 ·rw[if_neg (fun h=>h h1)];obtain⟨b1,b2⟩:=hbt h1;have hfl:=(kq b1).1;have hv:∀f∈fs,¬f.mode=3→¬kindOf M f.id=0:=fun f hf _=>by rw[b2.ids hbo f hf];exact Cw b1 f hf
  have hl:=xU M hbo l h fs hfl;have h1:c=0:=h1;subst h1;(conv=>whnf);refine cl [] [0,1,4,3] (hl) ?_;(conv=>whnf);exact rx [] [.same 0,.same 1,.same 2,.same 3,.same 5,.same 6]
end Go.Nest
end
section
namespace Go.Nest
open Go Go.AM Go.Proofs
open Go.Proofs.YtpechfcbnoggfaaGreatDoor (tab tabOk)
set_option maxRecDepth 4000
theorem v8{L:List Ob}{l:List It}{h id:Int}(hk:¬kindOf L id=3):eF L l h id=9∧jG L l id=L∧jH L l h id=l∧jF L l h id=h:=by
 have e:eF L l h id=9:=if_pos hk;exact⟨e,if_pos hk,if_pos (by rw[e];decide),if_pos (by rw[e];decide)⟩
theorem vY{L:List Ob}{l:List It}{h id:Int}(hk:kindOf L id=3)(hc:¬fU L l h=0):eF L l h id=fU L l h∧jG L l id=(aT L l).2.2∧jH L l h id=l∧jF L l h id=h:=by
 have e:eF L l h id=fU L l h:=(if_neg (fun h=>h hk)).trans (if_pos hc);exact⟨e,if_neg (fun h=>h hk),if_pos (by rw[e];exact hc),if_pos (by rw[e];exact hc)⟩
theorem vZ{L:List Ob}{l:List It}{h id:Int}(hk:kindOf L id=3)(hc:fU L l h=0):eF L l h id=(cL (aT L l).2.2 (ai L id).tree).2∧jG L l id=(aT L l).2.2∧
  jH L l h id=(if(cL (aT L l).2.2 (ai L id).tree).2≠0 then l else(cL (aT L l).2.2 (ai L id).tree).1.map (bW (aT L l).2.2))∧jF L l h id=if(cL (aT L l).2.2 (ai L id).tree).2≠0 then h else id:=by
 have e:eF L l h id=(cL (aT L l).2.2 (ai L id).tree).2:=(if_neg (fun h=>h hk)).trans (if_neg (fun h=>h hc));refine⟨e,if_neg (fun h=>h hk),?_,?_⟩
 ·unfold jH;rw[e]
 ·unfold jF;rw[e]
set_option maxHeartbeats 1000000 in
theorem vP(L:List Ob)(hL:aj L)(l:List It)(h:Int)(hp:∀y∈l,y.path.length≤4000000)(hl:l.length≤60)(id:Int):ae Tryz.prog 126 [.c (.ptr 0 0),.c (.int .i64 id)] [.box [.ptr 1 0,.rw 3,.int .i64 h],.box [.rw 2],.row 6 Ob an L,.row 5 It aG l] (Rt (.c (.int .i64 (eF L l h id))) [.box [.ptr 1 0,.rw 5,.int .i64 (jF L l h id)],.box [.rw 4],.dead,.dead,.row 6 Ob an (jG L l id),.row 5 It aG (jH L l h id)]):=by
 have hto:=(kV (l:=l) hL).1;have hC:=vR L hL l h hp hl;have hk:=fp (l:=L) (id:=id);have q1:=v8 (L:=L) (l:=l) (h:=h) (id:=id);have q2:=vY (L:=L) (l:=l) (h:=h) (id:=id);have q3:=vZ (L:=L) (l:=l) (h:=h) (id:=id);refine ao (n:=47) (n0:=4) tabOk Tryz.call126 Tryz.func126 ?_;intro hb;(conv=>whnf);refine cl [] [] (fJ L hL id) ?_;(conv=>whnf);refine av (fun h1=>?_) (fun h1=>?_)
 ·have h1:¬kindOf L id=3:=by rw[←hk];exact h1
  obtain⟨e1,e2,e3,e4⟩:=q1 h1;rw[e1,e2,e3,e4];(conv=>whnf);exact rx [] [.same 0,.same 1,.same 2,.same 3,.same 2,.same 3]
 have h1:kindOf L id=3:=by rw[←hk];exact h1
 generalize aT L l=T at*;obtain⟨t,c,M⟩:=T;dsimp only at hto hC q2 q3;(conv=>whnf);refine cl [] [0,1,2,3] (hC) ?_;(conv=>whnf);refine av (fun h2=>?_) (fun h2=>?_)
 ·obtain⟨e1,e2,e3,e4⟩:=q2 h1 h2;rw[e1,e2,e3,e4];(conv=>whnf);exact rx [] [.same 0,.same 1,.same 2,.same 3,.same 5,.same 6]
 obtain⟨e1,e2,e3,e4⟩:=q3 h1 h2;rw[e1,e2,e3,e4];have hfn:=Cz (L:=M) (t:=(ai L id).tree);have hF:=wY M hto (ai L id).tree;generalize cL M (ai L id).tree=F at*;obtain⟨fs,c3⟩:=F;dsimp only at hfn;(conv=>whnf);refine⟨false,.grow,(.l [0,1,2,3,4,5,6,7,8,9,10,11]),by kernel_rfl,.inl ?_⟩;(conv=>whnf);refine cl [] [] (hF) ?_;(conv=>whnf);refine av (fun h3=>?_) (fun h3=>?_)
 ·rw[if_pos h3,if_pos h3];(conv=>whnf);exact rx [] [.same 0,.same 1,.same 2,.same 3,.same 5,.same 6]
 ·rw[if_neg (fun h=>h h3),if_neg (fun h=>h h3)];have h3:c3=0:=h3;subst h3;(conv=>whnf);refine cl [] [0,1,5,6] (xU M hto l h fs hfn) ?_;(conv=>whnf);exact rx [] [.same 0,.same 1,.same 2,.same 3,.same 8,.same 9]
end Go.Nest
end
section
namespace Go.Nest
open Go Go.AM
structure Ws where
 what:Int
 k:Int
 au:Int
 path:List UInt8
 text:List UInt8
 bytes:List UInt8
 eX:Bool
structure WS where
 L:List Ob
 l:List It
 h:Int
 made:List Int
structure uP(s:WS):Prop where
 pool:aj s.L
 ok:fQ s.l
 bytes:∀x∈s.l,x.bytes.length≤400
 head:fM s.L s.h
theorem yO{p:List UInt8}(h:(ct p).2=0):p.length≤168:=by
 obtain⟨h1,h2,_⟩:=qR h;have h3:=oS (az p) fun s hs=>qh (tL h1 s hs);rw[oT]at h3;omega
theorem uP.paths{s:WS}(h:uP s):∀x∈s.l,x.path.length≤4000000:=fun x hx=>by
 have:=yO (h.ok.path x hx);omega
end Go.Nest
end
section
namespace Go.Nest
open Go Go.AM
theorem ik.la{L:List Ob}(hL:aj L)(id:Int):(ai L id).bytes.length≤400:=by
 by_cases h:kindOf L id=0
 ·rw[hL.kz h];exact Nat.zero_le _
 ·exact(hL.get h).bytes
theorem Fx{l:List It}(h:fQ l)(x:It):fQ (eO l x).2∧∀y∈(eO l x).2,y=x∨y∈l:=by
 unfold eO;split
 ·exact⟨h,fun y hy=>.inr hy⟩
 rename_i h1;split
 ·exact⟨h,fun y hy=>.inr hy⟩
 rename_i h2;have h1:(ct x.path).2=0:=Decidable.not_not.1 h1
 have hno:∀y∈l,(eQ x.path y.path).2=false∧(eQ y.path x.path).2=false:=fun y hy=>by
  have:=List.any_eq_false.1 (Bool.not_eq_true _▸h2) y hy;unfold mn at this;simpa using this
 have hself:(eQ x.path x.path).2=false:=by
  rw[qW];cases e:under x.path x.path with
  |none=>rfl
  |some r=>have:=tt e;rw[mI]at this;cases this
 have fin:∀{l':List It},iV (·.path) l'→l'.length≤60→(∀y∈l',y=x∨y∈l)→fQ l'∧∀y∈l',y=x∨y∈l:=fun hr hl hm=>by
  refine⟨⟨hr,hl,fun y hy=>?_,fun a ha b hb=>?_⟩,hm⟩
  ·rcases hm y hy with rfl|hy
   ·exact h1
   ·exact h.path y hy
  ·rcases hm a ha with rfl|ha<;>rcases hm b hb with rfl|hb
   ·exact hself
   ·exact(hno b hb).1
   ·exact(hno a ha).2
   ·exact h.apart a ha b hb
 split
 ·rename_i h3;obtain⟨y,hy,hyp⟩:=sT.1 h3;obtain⟨k,hk,e⟩:=List.mem_iff_getElem.1 hy;subst e;have hyp:=pc.1 hyp;have hi:=Db h.ris hk;rw[hyp]at hi;rw[hi];refine fin ?_ (by rw[List.length_set];exact h.len) fun y hy=>(List.mem_or_eq_of_mem_set hy).symm.imp id id;refine List.pairwise_iff_getElem.2 fun i j hi hj hij=>?_;have key:=List.pairwise_iff_getElem.1 h.ris i j (by simpa using hi) (by simpa using hj) hij;simp only[Int.toNat_natCast];rw[List.getElem_set,List.getElem_set];split
  ·rename_i e3;subst e3;rw[if_neg (by omega)];simp only[hyp]at key;exact key
  ·split
   ·rename_i e3;subst e3;simp only[hyp]at key;exact key
   ·exact key
 ·rename_i h3;split
  ·exact⟨h,fun y hy=>.inr hy⟩
  rename_i h4;have hle:=Fq (l:=l) (p:=x.path);refine fin ?_ ?_ fun y hy=>?_
  ·unfold iV;rw[G2,Cc,List.pairwise_append,List.pairwise_cons]
   have hd:∀y∈l.dropWhile (fun y=>aK y.path x.path),aK x.path y.path=true:=fun y hy=>by
    have g1:=wD h.ris y hy;have hm:y∈l:=(List.dropWhile_suffix _).subset hy;rcases jr y.path x.path with g|g|g
    ·rw[g1]at g;cases g
    ·exact absurd (sT.2 ⟨y,hm,pc.2 g⟩) h3
    ·exact g
   refine⟨h.ris.sublist (List.takeWhile_sublist _),⟨hd,h.ris.sublist (List.dropWhile_sublist _)⟩,fun a ha b hb=>?_⟩;have ha:=(yq ha).1;rcases List.mem_cons.1 hb with rfl|hb
   ·exact ha
   ·exact kE ha (hd b hb)
  ·have:=h.len;rw[List.length_append,List.length_cons,List.length_take,List.length_drop];omega
  ·rcases List.mem_append.1 hy with hy|hy
   ·exact .inr (List.mem_of_mem_take hy)
   ·rcases List.mem_cons.1 hy with rfl|hy
    ·exact .inl rfl
    ·exact .inr (List.mem_of_mem_drop hy)
theorem fQ.sub{l l':List It}(h:fQ l)(hs:l'.Sublist l):fQ l':=
 ⟨h.ris.sublist hs,Nat.le_trans hs.length_le h.len,fun x hx=>h.path x (hs.subset hx),fun x hx y hy=>h.apart x (hs.subset hx) y (hs.subset hy)⟩
theorem FE{l:List It}(h:fQ l)(p:List UInt8):fQ (gI l p).2∧∀y∈(gI l p).2,y∈l:=by
 have hs:(gI l p).2.Sublist l:=by
  unfold gI;split
  ·exact List.Sublist.refl _
  ·conv=>rhs;rw[←List.take_append_drop (bH (dK p) l).toNat l]
   refine List.Sublist.append (List.Sublist.refl _) ?_;exact List.drop_sublist_drop_left l (Nat.le_succ _)
 exact⟨h.sub hs,fun y hy=>hs.subset hy⟩
theorem DZ{M N:List Ob}{fs:List Fi}(hN:aj N)(h1:fs.Pairwise ni)(h2:∀f∈fs,(ct f.path).2=0)(h3:fs.length≤60):fQ (fs.map (bW N))∧∀x∈fs.map (bW N),x.bytes.length≤400:=by
 have hp:∀f:Fi,(bW N f).path=f.path:=fun f=>by unfold bW;split<;>rfl
 refine⟨⟨?_,by rw[List.length_map];exact h3,fun x hx=>?_,fun x hx y hy=>?_⟩,fun x hx=>?_⟩
 ·exact List.pairwise_map.2 (h1.imp fun h=>by simp only[hp];exact h.1)
 ·obtain⟨f,hf,rfl⟩:=List.mem_map.1 hx;rw[hp];exact h2 f hf
 ·obtain⟨f,hf,rfl⟩:=List.mem_map.1 hx;obtain⟨g,hg,rfl⟩:=List.mem_map.1 hy;rw[hp,hp,qW];obtain⟨i,hi,rfl⟩:=List.mem_iff_getElem.1 hf;obtain⟨j,hj,rfl⟩:=List.mem_iff_getElem.1 hg;cases e:under fs[i].path fs[j].path with
  |none=>rfl
  |some r=>
   exfalso;rcases Nat.lt_trichotomy i j with hlt|rfl|hlt
   ·have a1:=(List.pairwise_iff_getElem.1 h1 i j hi hj hlt).1;rw[lB (tt e)]at a1;cases a1
   ·have:=tt e;rw[mI]at this;cases this
   ·rw[(List.pairwise_iff_getElem.1 h1 j i hj hi hlt).2]at e;cases e
 ·obtain⟨f,hf,rfl⟩:=List.mem_map.1 hx;unfold bW;split
  ·exact Nat.zero_le _
  ·exact ik.la hN _
theorem G8{ne:Bool}{M N:List Ob}{fs:List Fi}{t:Int}(hM:aj M)(hN:aj N)(ht:fP ne M t fs)(hs:∀f∈fs,(az f.path).length≤8)(hl:fs.length≤60):fQ (fs.map (bW N))∧∀x∈fs.map (bW N),x.bytes.length≤400:=by
 obtain⟨q1,q2⟩:=iS hM ht.1;obtain⟨a1,a2⟩:=ht.2.vf hM q1 q2;exact DZ (M:=M) hN a1 (fun f hf=>GD (a2 f hf).1 (hs f hf)) hl
theorem Bm{L:List Ob}(hL:aj L){l:List It}{h:Int}(hh:fM L h)(text:List UInt8)(others:List Int):fM (bn L l h text others).2.2 (ky L l h text others):=by
 have hx:=(pt (l:=l) (h:=h) (text:=text) (others:=others) hL).2;unfold ky;split
 ·rename_i hc;right;unfold bn at hc⊢;split at hc
  ·rename_i h1;exact absurd hc h1
  rename_i h1;rw[if_neg h1];split at hc
  ·cases hc
  rename_i h2;rw[if_neg h2];split at hc
  ·rename_i h3;exact absurd hc h3
  rename_i h3;rw[if_neg h3];have:=(kQ (Decidable.not_not.1 h3)).2;rw[←fp,this];rfl
 ·exact hh.ext hx
end Go.Nest
end
section
namespace Go.Nest
open Go Go.AM
def kW(L M:List Ob):Prop:=∀id,kindOf M id=3→kindOf L id=3
theorem kW.refl(L:List Ob):kW L L:=fun _ h=>h
theorem kW.trans{L M N:List Ob}(h1:kW L M)(h2:kW M N):kW L N:=fun id h=>h1 id (h2 id h)
def NB(l:List It):Prop:=∀x∈l,x.link=true→x.bytes=[]
theorem sA:∀{l:List It} {L:List Ob} {out:List Fi},aj L→(bK L l out).2.1=0→∃gs,(bK L l out).1=out++gs∧
  (∀M,aj M→(bK L l out).2.2<+:M→(∀o2,bK M l o2=(o2++gs,0,M))∧(NB l→(gs.map (bW M)).map cP=l.map cP))
 |[],L,out,hp,h=>⟨[],by simp[bK],fun M hM hx=>⟨fun o2=>by simp[bK],fun _=>rfl⟩⟩
 |x::r,L,out,hp,h=>by
  unfold bK at h⊢;split
  ·rename_i hl;rw[if_pos hl]at h;obtain⟨gs,g1,g2⟩:=sA hp h;refine⟨gW x::gs,by rw[g1];simp,fun M hM hx=>?_⟩;obtain⟨g3,g4⟩:=g2 M hM hx;refine⟨fun o2=>?_,fun hn=>?_⟩
   ·rw[g3];simp
   ·rw[List.map_cons,List.map_cons,List.map_cons,g4 fun y hy=>hn y (by simp[hy])];have:=hn x (by simp) hl;show cP (bW M (gW x))::_=_;unfold bW gW cP;rw[if_pos rfl,this]
  ·rename_i hl;rw[if_neg hl]at h;split
   ·rename_i h2;rw[if_pos h2]at h;exact absurd h h2
   ·rename_i h2;rw[if_neg h2]at h;have h2:=Decidable.not_not.1 h2;obtain⟨gs,g1,g2⟩:=sA (iM hp (dv x.bytes)) h;refine⟨⟨x.path,1,(aA L (dv x.bytes)).1,0⟩::gs,by rw[g1];simp,fun M hM hx=>?_⟩;obtain⟨g3,g4⟩:=g2 M hM hx;have hxx:=(ll (l:=r) (out:=out++[⟨x.path,1,(aA L (dv x.bytes)).1,0⟩]) (iM hp (dv x.bytes))).2.trans hx;obtain⟨p1,p2⟩:=yV (fun h=>by cases h) h2 hM hxx;refine⟨fun o2=>?_,fun hn=>?_⟩
    ·rw[p1,if_neg (by simp),g3];simp
    ·rw[List.map_cons,List.map_cons,List.map_cons,g4 fun y hy=>hn y (by simp[hy])]
     have e:cP (bW M ⟨x.path,1,(aA L (dv x.bytes)).1,0⟩)=cP x:=by
      unfold bW;dsimp only;rw[if_neg (by decide),p2];rfl
     rw[e]
theorem b9.rI{ne:Bool}{L:List Ob}(hp:aj L){es:List aB}{l:List Fi}(h:b9 ne L es l):(∀e∈es,gN L e)→∀f∈l,f.mode≠3→f.mode=1∧kindOf L f.id=1∧f.au=0:=by
 induction h with
 |nil=>intro _ f hf;cases hf
 | @file e es l hm h ih=>
  intro he f hf hne;rcases List.mem_cons.1 hf with rfl|hf
  ·have q:=he e (by simp);have q1:=q.m1;have q3:=q.m3;have qk:=q.kind;have ql:=q.link;dsimp only at hne⊢;exact⟨by omega,by omega,by omega⟩
  ·exact ih (fun x hx=>he x (by simp[hx])) f hf hne
 | @dir e es m l hm hk hne h1 h ih1 ih=>
  intro he f hf hn;rcases List.mem_append.1 hf with hf|hf
  ·obtain⟨g,hg,rfl⟩:=List.mem_map.1 hf;exact ih1 (iS hp hk).2 g hg hn
  ·exact ih (fun x hx=>he x (by simp[hx])) f hf hn
theorem Kept.rI{L:List Ob}{t:Int}{fs:List Fi}(h:Kept L t fs)(hp:aj L):∀f∈fs,f.mode≠3→f.mode=1∧kindOf L f.id=1∧f.au=0:=
 h.tree.2.rI hp (iS hp h.tree.1).2
theorem DY(L:List Ob)(fs:List Fi):NB (fs.map (bW L)):=fun x hx hl=>by
 obtain⟨f,hf,rfl⟩:=List.mem_map.1 hx;unfold bW at hl⊢;split
 ·rfl
 ·rename_i h;rw[if_neg h]at hl;cases hl
def lT(L:List Ob):Prop:=∀id,kindOf L id=3→∃fs,Kept L (ai L id).tree fs
theorem lT.mono{L M:List Ob}(h:lT L)(hx:L<+:M)(hn:kW L M):lT M:=fun id hk=>by
 have h1:=hn id hk;obtain⟨fs,hf⟩:=h id h1;refine⟨fs,?_⟩;rw[ext_get hx (by omega)];exact hf.mono hx
theorem G5{L:List Ob}(hp:aj L){l:List It}(h:(aT L l).2.1=0):∃fs,Kept (aT L l).2.2 (aT L l).1 fs∧(bK L l []).1=fs∧(bK L l []).2.1=0∧
  (∀M,aj M→(bK L l []).2.2<+:M→bK M l []=(fs,0,M)∧(NB l→(fs.map (bW M)).map cP=l.map cP))∧(∀M,aj M→(aT L l).2.2<+:M→aT M l=((aT L l).1,0,M)):=by
 unfold aT at h⊢;split at h
 ·exact absurd h ‹_›
 rename_i h1;rw[if_neg h1];have h1:=Decidable.not_not.1 h1;obtain⟨gs,g1,g2⟩:=sA hp h1;obtain⟨f1,f2⟩:=ll (l:=l) (out:=[]) hp;rw[List.nil_append]at g1;rw[g1]at h⊢;have hk:=Kept.of f1 h;have hx2:=(k9 f1 gs).2;refine⟨gs,hk,rfl,h1,fun M hM hx=>?_,fun M hM hx=>?_⟩
 ·obtain⟨g3,g4⟩:=g2 M hM hx;exact⟨by rw[g3];rfl,g4⟩
 ·obtain⟨g3,g4⟩:=g2 M hM (hx2.trans hx);rw[g3,if_neg (by simp)];exact(hk.mono hx).build hM
end Go.Nest
end
section
namespace Go.Nest
open Go Go.AM
structure HQ(L:List Ob)(l:List It):Prop where
 nb:NB l
 com:lT L
theorem lT.nil:lT []:=fun id h=>by
 have:=c9 (l:=[]) (id:=id) (by omega);exact absurd this.2 (Nat.not_lt_zero _)
def np(L:List Ob)(id:Int)(ds:List Dc):Prop:=kindOf L id=3∧∃fs,Kept L (ai L id).tree fs∧(fs.map (bW L)).map cP=ds
theorem Kept.DX{L M:List Ob}{t:Int}{fs:List Fi}(h:Kept L t fs)(hp:aj L)(hx:L<+:M):fs.map (bW M)=fs.map (bW L):=by
 refine List.map_congr_left fun f hf=>?_;unfold bW;split
 ·rfl
 ·rename_i hm;rw[ext_get hx (by have:=(h.rI hp f hf hm).2.1;omega)]
theorem np.mono{L M:List Ob}{id:Int}{ds:List Dc}(h:np L id ds)(hp:aj L)(hx:L<+:M):np M id ds:=by
 obtain⟨h1,fs,h2,h3⟩:=h;refine⟨by rw[dE hx (by omega)];exact h1,fs,?_,?_⟩
 ·rw[ext_get hx (by omega)];exact h2.mono hx
 ·rw[h2.DX hp hx];exact h3
def kf(L:List Ob)(made:List Int)(docs:List (List Dc)):Prop:=docs.length=made.length∧∀(i:Nat) (h:i<made.length) (h2:i<docs.length),np L made[i] docs[i]
theorem kf.nil(L:List Ob):kf L [] []:=⟨rfl,fun i h=>by cases h⟩
theorem kf.mono{L M:List Ob}{made:List Int}{docs:List (List Dc)}(h:kf L made docs)(hp:aj L)(hx:L<+:M):kf M made docs:=⟨h.1,fun i a b=>(h.2 i a b).mono hp hx⟩
theorem kf.snoc{L:List Ob}{made:List Int}{docs:List (List Dc)}{id:Int}{ds:List Dc}(h:kf L made docs)(h2:np L id ds):kf L (made++[id]) (docs++[ds]):=by
 obtain⟨h1,h3⟩:=h;refine⟨by simp[h1],fun i a b=>?_⟩;by_cases hi:i<made.length
 ·rw[List.getElem_append_left hi,List.getElem_append_left (by omega)];exact h3 i hi (by omega)
 ·rw[List.length_append,List.length_singleton]at a;obtain rfl:i=made.length:=by omega
  simp only[List.getElem_concat_length,h1.symm];simpa using h2
theorem Bc{L:List Ob}{l:List It}{h:Int}(hc:fU L l h=0):(aT L l).2.1=0∧mV (aT L l).2.2 l h (aT L l).1=true:=by
 unfold fU at hc;split at hc
 ·exact absurd hc ‹_›
 rename_i h1;split at hc
 ·exact⟨Decidable.not_not.1 h1,‹_›⟩
 ·cases hc
end Go.Nest
end
section
namespace Go.Nest
open Go Go.AM Go.Proofs
open Go.Proofs.YtpechfcbnoggfaaGreatDoor (tab tabOk)
set_option maxRecDepth 4000
theorem Gj(a:List Dc):ae Tryz.prog 24 [.c (.bs 2 Dc cQ a),.c (.bs 2 Dc cQ a)] [] (Rt (.c (.bool true)) []):=by
 refine ao (n:=42) (n0:=0) tabOk Tryz.call24 Tryz.func24 ?_;intro hb;have hb:a.length≤9223372036854775807:=hb.1.1;(conv=>whnf);refine av (fun h=>absurd rfl h) (fun _=>?_);(conv=>whnf);refine lp Nat (fun i=>⟨[(0,.c (.bs 2 Dc cQ a)),(1,.c (.bs 2 Dc cQ a)),(5,.c (.int .i64 i))],[]⟩) (fun i=>i≤a.length∧True) (fun i=>a.length-i) 0 [] [] ?_ ?_ (fun i hi=>?_)
 ·simp
 ·repeat' first|exact trivial|exact rfl|refine And.intro ?_ ?_
 (conv=>whnf);refine dec (fun h4=>?_) (fun h4=>?_)
 ·have hlt:i<a.length:=by omega
  have hiy:a[i]? =some a[i]:=List.getElem?_eq_getElem hlt;have p1:=Gi a[i].bytes a[i].bytes;rw[show decide (a[i].bytes=a[i].bytes)=true from decide_eq_true rfl]at p1;(conv=>whnf);refine⟨false,.grow,(.l [0,1,2,3,4,5,6,7,8,9,10,11,12,13,14,15,16,17,18,19,20,21,22,23,24]),by kernel_rfl,.inl ?_⟩;(conv=>whnf);refine⟨i,a[i],rfl,hiy,?_⟩;(conv=>whnf);refine⟨i,a[i],rfl,hiy,?_⟩;(conv=>whnf);refine av (fun h=>absurd rfl h) (fun _=>?_);(conv=>whnf);refine⟨i,a[i],rfl,hiy,?_⟩;(conv=>whnf);refine⟨i,a[i],rfl,hiy,?_⟩;(conv=>whnf);refine cl [] [] (p1) ?_;repeat'((conv=>whnf);refine I6 ?_)
  refine ag (i+1) [] [] ⟨hlt,trivial⟩ (by simp only[];omega) ?_;repeat' first|exact trivial|exact rfl|refine And.intro ?_ ?_
 ·repeat'((conv=>whnf);first|refine aC ?_|fail)
  rfl
end Go.Nest
end
