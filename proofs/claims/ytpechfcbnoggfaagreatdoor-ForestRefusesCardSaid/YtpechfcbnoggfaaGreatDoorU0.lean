/- part -/
import Derived.Test.YtpechfcbnoggfaaGreatDoorJ1
import Derived.Test.YtpechfcbnoggfaaGreatDoorP9
import Derived.Test.YtpechfcbnoggfaaGreatDoorG9
import Derived.Test.YtpechfcbnoggfaaGreatDoorAmH
import Derived.Test.YtpechfcbnoggfaaGreatDoorV1
set_option linter.unusedVariables false
set_option linter.unusedSimpArgs false
section
namespace Go.Nest
open Go Go.AM Go.Proofs Go.RowKit
open Go.Proofs.YtpechfcbnoggfaaGreatDoor (tab tabOk)
set_option maxRecDepth 4000
theorem te:∀l:List (List UInt8),Lib.join l [47]=cH l
 |[]=>rfl
 |[x]=>by simp[Lib.join,cH]
 |x::y::r=>by
  have:=te (y::r);simp[Lib.join,cH]at this⊢;rw[←this]
theorem Cp:Builder.Extra Tryz.prog zb where
 sizeBuilder:=by kernel_rfl
 liesBuilder:=by kernel_rfl
 t5:=Tryz.underlying5
 a5:=Tryz.isAgg5
 z5:=Tryz.sizeOf5
 v5:=Tryz.zeroValue5
 infoByte:=by kernel_rfl
 cellsByte:=by kernel_rfl
 sizeByte:=by kernel_rfl
 neB5:=by decide
theorem GP(l:List (List UInt8))(hl:l.length≤1000000)(hlen:(cH l).length≤140737488355328):ae Tryz.prog 190 [.c (.bs 1 (List UInt8) encS l),.c (.str [47])] [] (Rt (.c (.str (cH l))) []):=by
 cases l with
 |nil=>
  refine ao (n:=75) (n0:=0) tabOk Tryz.call190 Tryz.func190 ?_;intro hb;(conv=>whnf);exact dB rfl rfl
 |cons x0 l0=>
  generalize hl0:x0::l0=l at*;have hne:l≠[]:=by rw[←hl0];simp
  refine ae.EV rfl Tryz.call190 (fun F L γ w vs h hlt=>?_);match vs,h with
  |[v1,v2],⟨h1,h2,_⟩=>
   cases h2 with
   |str _ _=>
    cases h1 with
    |bs0 _=>exact absurd rfl hne
    | @bs _ _ _ _ _ b off cap css _ _ hb g1 g2 hr hz hc _=>
     have e1:=uD hr;have e2:(List.map (fun x:ByteArray=>x.data.toList) (List.map (fun s:List UInt8=>(⟨s.toArray⟩:ByteArray)) l))=l:=by rw[List.map_map];exact(List.map_congr_left (fun s _=>by simp)).trans (List.map_id' l)
     have hcon:=Any.strings_Join_48 DR Cp b off cap (l.map fun s=>⟨s.toArray⟩) ⟨[47].toArray⟩ w (fun j x hx=>?_) (hlt b hb) (by simp;omega) (by simpa using g1) (by rw[e2];show(Lib.join l [47]).length≤_;rw[te];omega)
     ·refine⟨NB.str (cH l),fun F H m=>.str (by omega) .nl,?_⟩;rw[e2]at hcon;have e3:Lib.join l (⟨[47].toArray⟩:ByteArray).data.toList=cH l:=te l;rw[e3,List.length_map]at hcon;exact hcon
     ·rw[List.getElem?_map]at hx;obtain⟨s,hs,rfl⟩:=Option.map_eq_some_iff.1 hx;have:=hc j (NB.str s) (by rw[e1,List.getElem?_map,hs];rfl);rw[NB.dg rfl];exact this
theorem yP(l:List (List UInt8))(hl:l.length≤1000000)(hlen:(cH l).length≤140737488355328):ae Tryz.prog 298 [.c (.bs 1 (List UInt8) encS l)] [] (Rt (.c (.str (cH l))) []):=by
 refine ao (n:=5) (n0:=0) tabOk Tryz.call298 Tryz.func298 ?_;intro hb;(conv=>whnf);refine cl [] [] (GP l hl hlen) ?_;(conv=>whnf);exact dB rfl rfl
end Go.Nest
end
section
namespace Go.Nest
open Go Go.AM Go.Proofs
open Go.Proofs.YtpechfcbnoggfaaGreatDoor (tab tabOk)
set_option maxRecDepth 4000
theorem l8{a b:Fi}:dI (aw a) (aw b)↔a=b:=by
 cases a;cases b;simp[aw,dI,kc]
theorem pr(l:List (List UInt8))(hl:l.length*16≤140737488355328):ae Tryz.prog 297 [.c (.bs 1 (List UInt8) encS l)] [] (Rt (.c (.rw 0)) [.row 1 (List UInt8) encS l]):=by
 refine ao (n:=8) (n0:=0) tabOk Tryz.call297 Tryz.func297 ?_;intro hb;(conv=>whnf);intro q hq;(conv=>whnf);refine aO (fun h=>?_) (fun h=>?_)
 ·obtain rfl:=hq h;(conv=>whnf);exact rx [] [.new]
 ·(conv=>whnf);refine⟨[],rfl,?_⟩;(conv=>whnf);refine⟨_,_,rfl,rfl,(by simp only[List.length_append,List.length_cons,List.length_nil];omega),?_⟩;(conv=>whnf);exact rx [] [.same 1]
theorem By(s:List UInt8):ae Tryz.prog 186 [.c (.str s),.c (.str [47])] [] (Rt (.tup [(false,[.str (cO s).1]),(false,[.str (cO s).2.1]),(false,[.bool (cO s).2.2])]) []):=by
 refine ao (n:=23) (n0:=0) tabOk Tryz.call186 Tryz.func186 ?_;intro hb;have hb:s.length≤9223372036854775807:=hb.1.1;(conv=>whnf);refine cl [] [] (zI s) ?_;repeat'((conv=>whnf);first|(refine dec (fun h=>?_) (fun h=>?_)<;>try contradiction)|fail)
 ·have hlt:(Lib.indexByte s 47).toNat<s.length:=by
   by_cases hc:s.count 47=0
   ·rw[sV hc]at h;omega
   ·obtain⟨m,h1,h2,_⟩:=sW (l:=s) (by omega);omega
  have hc:cO s=(s.take (Lib.indexByte s 47).toNat,s.drop ((Lib.indexByte s 47).toNat+1),true):=by unfold cO;rw[if_pos h]
  rw[hc];(conv=>whnf);refine⟨false,.grow,(.l [0,1,2,3,4,5,6,7,8,9,10,11]),by kernel_rfl,.inl ?_⟩;(conv=>whnf);refine⟨0,(Lib.indexByte s 47).toNat,rfl,(Int.toNat_of_nonneg h).symm,⟨Nat.zero_le _,by omega⟩,?_⟩;refine⟨i64 (by simp;omega) (by simp;omega),?_⟩;(conv=>whnf);refine⟨(Lib.indexByte s 47).toNat+1,s.length,?_,rfl,⟨by omega,Nat.le_refl _⟩,?_⟩
  ·simp;omega
  (conv=>whnf);have e1:s.take s.length=s:=List.take_of_length_le (Nat.le_refl _);rw[e1];exact rx [] []
 ·have hc:cO s=(s,[],false):=by unfold cO;rw[if_neg h]
  rw[hc];(conv=>whnf);exact rx [] []
theorem BB(s:List UInt8):ae Tryz.prog 112 [.c (.str s),.c (.str [47])] [] (Rt (.tup [(false,[.str (cO s).1]),(false,[.str (cO s).2.1]),(false,[.bool (cO s).2.2])]) []):=by
 refine ao (n:=13) (n0:=0) tabOk Tryz.call112 Tryz.func112 ?_;intro hb;(conv=>whnf);refine cl [] [] (By s) ?_;(conv=>whnf);exact rx [] []
end Go.Nest
end
section
namespace Go.Nest
open Go Go.AM Go.Proofs
open Go.Proofs.YtpechfcbnoggfaaGreatDoor (tab tabOk)
set_option maxRecDepth 4000
def dv(b:List UInt8):Ob:=⟨1,b,[],0,[],[]⟩
end Go.Nest
end
section
namespace Go.Nest
open Go Go.AM
def mn(p:List UInt8)(y:It):Bool:=(eQ p y.path).2||(eQ y.path p).2
def dK(p:List UInt8)(y:It):Bool:=decide (y.path=p)
def iL(l:List It)(p:List UInt8):Nat:=(l.takeWhile fun y=>aK y.path p).length
def eO(l:List It)(x:It):Int×List It:=
 if(ct x.path).2≠0 then((ct x.path).2,l)else if l.any (mn x.path)=true then(10,l)else
 if 0≤bH (dK x.path) l then(0,l.set (bH (dK x.path) l).toNat x)else if l.length=60 then(5,l)else(0,l.take (iL l x.path)++x::l.drop (iL l x.path))
def gI(l:List It)(p:List UInt8):Int×List It:=
 if bH (dK p) l<0 then(9,l)else(0,l.take (bH (dK p) l).toNat++l.drop ((bH (dK p) l).toNat+1))
def qF(l:List It)(p:List UInt8):Int×List It:=
 if(l.filter fun y=>decide (y.path≠p)).length=l.length then(9,l)else(0,l.filter fun y=>decide (y.path≠p))
structure fQ(l:List It):Prop where
 ris:iV (·.path) l
 len:l.length≤60
 path:∀x∈l,(ct x.path).2=0
 apart:∀x∈l,∀y∈l,(eQ x.path y.path).2=false
theorem fQ.nil:fQ []:=⟨.nil,by decide,fun x h=>(by cases h),fun x h=>(by cases h)⟩
theorem Fq{l:List It}{p:List UInt8}:iL l p≤l.length:=(List.takeWhile_sublist _).length_le
theorem G2(l:List It)(p:List UInt8):l.take (iL l p)=l.takeWhile fun y=>aK y.path p:=by
 unfold iL;have h:l.takeWhile (fun y=>aK y.path p)++l.dropWhile (fun y=>aK y.path p)=l:=List.takeWhile_append_dropWhile
 calc l.take (l.takeWhile fun y=>aK y.path p).length=(l.takeWhile (fun y=>aK y.path p)++l.dropWhile (fun y=>aK y.path p)).take (l.takeWhile fun y=>aK y.path p).length:=by rw[h]
  _=_:=List.take_left' rfl
theorem Cc(l:List It)(p:List UInt8):l.drop (iL l p)=l.dropWhile fun y=>aK y.path p:=by
 unfold iL;have h:l.takeWhile (fun y=>aK y.path p)++l.dropWhile (fun y=>aK y.path p)=l:=List.takeWhile_append_dropWhile
 calc l.drop (l.takeWhile fun y=>aK y.path p).length=(l.takeWhile (fun y=>aK y.path p)++l.dropWhile (fun y=>aK y.path p)).drop (l.takeWhile fun y=>aK y.path p).length:=by rw[h]
  _=_:=List.drop_left' rfl
theorem yq{α:Type}{p:α→Bool}:∀{l:List α} {x:α},x∈l.takeWhile p→p x=true∧x∈l
 |[],x,h=>by cases h
 |y::l,x,h=>by
  rw[List.takeWhile_cons]at h;split at h
  ·rename_i hy;rcases List.mem_cons.1 h with rfl|h
   ·exact⟨hy,by simp⟩
   ·have:=yq h;exact⟨this.1,by simp[this.2]⟩
  ·cases h
theorem wD{p:List UInt8}:∀{l:List It},iV (·.path) l→∀y∈l.dropWhile (fun y=>aK y.path p),aK y.path p=false
 |[],_,y,h=>by cases h
 |x::l,hr,y,h=>by
  obtain⟨h1,h2⟩:=List.pairwise_cons.1 hr;rw[List.dropWhile_cons]at h;split at h
  ·exact wD h2 y h
  ·rename_i hx;have hx:aK x.path p=false:=by simpa using hx
   rcases List.mem_cons.1 h with rfl|h
   ·exact hx
   ·cases hy:aK y.path p with
    |false=>rfl
    |true=>rw[kE (h1 y h) hy]at hx;cases hx
theorem pc{p:List UInt8}{y:It}:dK p y=true↔y.path=p:=by unfold dK;simp
theorem sT{α:Type}{p:α→Bool}{l:List α}:0≤bH p l↔∃x∈l,p x=true:=by
 have:=mo (p:=p) (l:=l);constructor
 ·intro h;have h2:l.any p=true:=by rw[←this];simpa using h
  simpa using h2
 ·rintro⟨x,hx,h⟩;have h2:l.any p=true:=List.any_eq_true.2 ⟨x,hx,h⟩;rw[←this]at h2;simpa using h2
theorem sU{α:Type}{p:α→Bool}{l:List α}:(bH p l= -1∧l.any p=false)∨∃(i:Nat) (h:i<l.length),bH p l=i∧(l.take i).any p=false∧p l[i]=true:=by
 unfold bH;cases h:l.findIdx? p with
 |none=>
  rw[List.findIdx?_eq_none_iff]at h;exact .inl ⟨rfl,by rw[List.any_eq_false];intro x hx;simp[h x hx]⟩
 |some i=>
  rw[List.findIdx?_eq_some_iff_getElem]at h;obtain⟨h1,h2,h3⟩:=h;refine .inr ⟨i,h1,rfl,?_,h2⟩;rw[List.any_eq_false];intro x hx;obtain⟨j,hj,e⟩:=List.mem_take_iff_getElem.1 hx;rw[←e];exact h3 j (by omega)
theorem Db{l:List It}(h:iV (·.path) l){k:Nat}(hk:k<l.length):bH (dK l[k].path) l=k:=by
 rcases sU (p:=dK l[k].path) (l:=l)with⟨_,e⟩|⟨i,hi,e1,e2,e3⟩
 ·rw[List.any_eq_false]at e;exact absurd (pc.2 rfl) (e _ (List.getElem_mem hk))
 ·rw[e1];have e3:=pc.1 e3;rcases Nat.lt_trichotomy i k with hlt|rfl|hlt
  ·have:=List.pairwise_iff_getElem.1 h i k hi hk hlt;exact absurd e3 (jt this)
  ·rfl
  ·have:=List.pairwise_iff_getElem.1 h k i hk hi hlt;exact absurd e3.symm (jt this)
end Go.Nest
end
section
namespace Go.Nest
open Go Go.AM Go.Proofs
open Go.Proofs.YtpechfcbnoggfaaGreatDoor (tab tabOk)
set_option maxRecDepth 4000
def fu(l:List Fi):Nat→Option Fi
 |0=>none
 |i+1=>l[i]?
theorem A7{l:List Fi}{i:Nat}(h:i<l.length):jd (fu l i) (l.drop i)=if(ct l[i].path).2≠0 then(ct l[i].path).2 else if l[i].mode≠1∧l[i].mode≠3 then 6 else if eD (fu l i) l[i]≠0 then eD (fu l i) l[i]else jd (fu l (i+1)) (l.drop (i+1)):=by
 rw[List.drop_eq_getElem_cons h];rw[show fu l (i+1)=some l[i]from List.getElem?_eq_getElem h];rfl
theorem qW{p d:List UInt8}:(eQ p d).2=(under p d).isSome:=by
 unfold eQ;cases under p d<;>rfl
set_option maxHeartbeats 2000000 in
theorem A9(l:List Fi)(hl:l.length≤60)(hp:∀f∈l,f.path.length≤4000000):ae Tryz.prog 101 [.c (.bs 4 Fi aw l)] [] (Rt (.c (.int .i64 (jd none l))) []):=by
 refine ao (n:=68) (n0:=0) tabOk Tryz.call101 Tryz.func101 ?_;intro hb;(conv=>whnf);refine dec (fun h=>by omega) (fun h0=>?_);(conv=>whnf);refine lp Nat (fun i=>⟨[(0,.c (.bs 4 Fi aw l)),(12,.c (.bs 4 Fi aw l)),(13,.c (.int .i64 l.length)),(14,.c (.int .i64 i))],[]⟩) (fun i=>i≤l.length∧jd none l=jd (fu l i) (l.drop i)) (fun i=>l.length-i) 0 [] [] ?_ ?_ (fun i hi=>?_)
 ·exact⟨Nat.zero_le _,rfl⟩
 ·repeat' first|exact trivial|exact rfl|refine And.intro ?_ ?_
 obtain⟨h1,hat⟩:=hi;(conv=>whnf);refine dec (fun h4=>?_) (fun h4=>?_)
 ·have hlt:i<l.length:=by omega
  rw[A7 hlt]at hat;(conv=>whnf);refine⟨i,l[i],rfl,List.getElem?_eq_getElem hlt,?_⟩;(conv=>whnf);refine cl [] [] (tY l[i].path (hp _ (List.getElem_mem _))) ?_;(conv=>whnf);refine av (fun h5=>?_) (fun h5=>?_)
  ·rw[if_pos h5]at hat;repeat'((conv=>whnf);first|refine aI ?_|fail)
   exact hat.symm
  ·rw[if_neg (by simpa using h5)]at hat;(conv=>whnf);refine av (fun h6=>?_) (fun h6=>?_)
   ·(conv=>whnf);refine av (fun h7=>?_) (fun h7=>?_)
    ·rw[if_pos ⟨h6,h7⟩]at hat;repeat'((conv=>whnf);first|refine aI ?_|fail)
     exact hat.symm
    ·rw[if_neg (fun h=>h.2 h7)]at hat;(conv=>whnf);refine⟨false,.grow,(.l [0,1,2,3,4,5,6,7,8,9,10,11,12,13,14]),by kernel_rfl,.inl ?_⟩;(conv=>whnf);refine dec (fun h7=>?_) (fun h7=>?_)
     ·have hi0:0<i:=by omega
      have hpv:fu l i=some l[i-1]:=by
       obtain⟨j,rfl⟩:∃j,i=j+1:=⟨i-1,by omega⟩;exact List.getElem?_eq_getElem (by omega)
      (conv=>whnf);refine⟨i64 (by omega) (by omega),?_⟩;(conv=>whnf);refine⟨i-1,l[i-1],by omega,List.getElem?_eq_getElem (by omega),?_⟩;(conv=>whnf);refine cl [] [] (nY l[i-1].path l[i].path (hp _ (List.getElem_mem _)) (hp _ (List.getElem_mem _))) ?_;(conv=>whnf);refine df (fun h8=>?_) (fun h8=>?_)
      ·have hc:eD (fu l i) l[i]=8:=by rw[hpv];unfold eD;simp[h8]
       rw[hc,if_pos (by decide)]at hat;repeat'((conv=>whnf);first|refine aI ?_|fail)
       exact hat.symm
      ·(conv=>whnf);refine dec (fun _=>?_) (fun h=>absurd h7 h);(conv=>whnf);refine⟨false,.grow,(.l [0,1,2,3,4,5,6,7,8,9,10,11,12,13]),by kernel_rfl,.inl ?_⟩;(conv=>whnf);refine⟨i64 (by omega) (by omega),?_⟩;(conv=>whnf);refine⟨i-1,l[i-1],by omega,List.getElem?_eq_getElem (by omega),?_⟩;(conv=>whnf);refine cl [] [] (oR l[i].path l[i-1].path (hp _ (List.getElem_mem _))) ?_;rw[qW];(conv=>whnf);refine aO (fun h9=>?_) (fun h9=>?_)
       ·have hc:eD (fu l i) l[i]=10:=by rw[hpv];unfold eD;simp[h8,h9]
        rw[hc,if_pos (by decide)]at hat;repeat'((conv=>whnf);first|refine aI ?_|fail)
        exact hat.symm
       ·have hc:eD (fu l i) l[i]=0:=by rw[hpv];unfold eD;simp[h8,h9]
        rw[hc,if_neg (by decide)]at hat;repeat'((conv=>whnf);refine I6 ?_)
        refine ag (i+1) [] [] ⟨hlt,hat⟩ (by simp only[];omega) ?_;repeat' first|exact trivial|exact rfl|refine And.intro ?_ ?_
     ·obtain rfl:i=0:=by omega
      have hc:eD (fu l 0) l[0]=0:=rfl;rw[hc,if_neg (by decide)]at hat;repeat'((conv=>whnf);refine I6 ?_)
      refine ag (0+1) [] [] ⟨hlt,hat⟩ (by simp only[];omega) ?_;repeat' first|exact trivial|exact rfl|refine And.intro ?_ ?_
   ·rw[if_neg (fun h=>h.1 h6)]at hat;(conv=>whnf);refine⟨false,.grow,(.l [0,1,2,3,4,5,6,7,8,9,10,11,12,13,14]),by kernel_rfl,.inl ?_⟩;(conv=>whnf);refine dec (fun h7=>?_) (fun h7=>?_)
    ·have hi0:0<i:=by omega
     have hpv:fu l i=some l[i-1]:=by
      obtain⟨j,rfl⟩:∃j,i=j+1:=⟨i-1,by omega⟩;exact List.getElem?_eq_getElem (by omega)
     (conv=>whnf);refine⟨i64 (by omega) (by omega),?_⟩;(conv=>whnf);refine⟨i-1,l[i-1],by omega,List.getElem?_eq_getElem (by omega),?_⟩;(conv=>whnf);refine cl [] [] (nY l[i-1].path l[i].path (hp _ (List.getElem_mem _)) (hp _ (List.getElem_mem _))) ?_;(conv=>whnf);refine df (fun h8=>?_) (fun h8=>?_)
     ·have hc:eD (fu l i) l[i]=8:=by rw[hpv];unfold eD;simp[h8]
      rw[hc,if_pos (by decide)]at hat;repeat'((conv=>whnf);first|refine aI ?_|fail)
      exact hat.symm
     ·(conv=>whnf);refine dec (fun _=>?_) (fun h=>absurd h7 h);(conv=>whnf);refine⟨false,.grow,(.l [0,1,2,3,4,5,6,7,8,9,10,11,12,13]),by kernel_rfl,.inl ?_⟩;(conv=>whnf);refine⟨i64 (by omega) (by omega),?_⟩;(conv=>whnf);refine⟨i-1,l[i-1],by omega,List.getElem?_eq_getElem (by omega),?_⟩;(conv=>whnf);refine cl [] [] (oR l[i].path l[i-1].path (hp _ (List.getElem_mem _))) ?_;rw[qW];(conv=>whnf);refine aO (fun h9=>?_) (fun h9=>?_)
      ·have hc:eD (fu l i) l[i]=10:=by rw[hpv];unfold eD;simp[h8,h9]
       rw[hc,if_pos (by decide)]at hat;repeat'((conv=>whnf);first|refine aI ?_|fail)
       exact hat.symm
      ·have hc:eD (fu l i) l[i]=0:=by rw[hpv];unfold eD;simp[h8,h9]
       rw[hc,if_neg (by decide)]at hat;repeat'((conv=>whnf);refine I6 ?_)
       refine ag (i+1) [] [] ⟨hlt,hat⟩ (by simp only[];omega) ?_;repeat' first|exact trivial|exact rfl|refine And.intro ?_ ?_
    ·obtain rfl:i=0:=by omega
     have hc:eD (fu l 0) l[0]=0:=rfl;rw[hc,if_neg (by decide)]at hat;repeat'((conv=>whnf);refine I6 ?_)
     refine ag (0+1) [] [] ⟨hlt,hat⟩ (by simp only[];omega) ?_;repeat' first|exact trivial|exact rfl|refine And.intro ?_ ?_
 ·rw[List.drop_of_length_le (by omega)]at hat;repeat'((conv=>whnf);first|refine aI ?_|fail)
  rw[hat];unfold jd;rfl
theorem ma(l:List Fi)(hp:∀f∈l,f.path.length≤4000000):ae Tryz.prog 101 [.c (.bs 4 Fi aw l)] [] (Rt (.c (.int .i64 (cR l))) []):=by
 by_cases h:60<l.length
 ·refine ao (n:=68) (n0:=0) tabOk Tryz.call101 Tryz.func101 ?_;intro hb;repeat'((conv=>whnf);first|(refine dec (fun h=>?_) (fun h=>?_)<;>try contradiction)|refine aI ?_|fail)
  ·unfold cR;rw[if_pos (by omega)]
  ·omega
 ·have:=A9 l (by omega) hp;unfold cR;rw[if_neg h];exact this
end Go.Nest
end
section
namespace Go.Nest
open Go Go.AM Go.Proofs
open Go.Proofs.YtpechfcbnoggfaaGreatDoor (tab tabOk)
set_option maxRecDepth 4000
theorem xG(name:List UInt8)(l:List Fi):(bB name l).1.length+(bB name l).2.length=l.length:=by
 conv=>rhs;rw[nW name l]
 rw[List.length_append,List.length_map]
theorem xI(name:List UInt8){l:List Fi}(h:∀f∈l,f.path.length≤4000000):(∀f∈(bB name l).1,f.path.length≤4000000)∧∀f∈(bB name l).2,f.path.length≤4000000:=by
 have e:=nW name l;refine⟨fun f hf=>?_,fun f hf=>?_⟩
 ·have:=h (pre name f) (by rw[e];exact List.mem_append.2 (.inl (List.mem_map.2 ⟨f,hf,rfl⟩)));rw[show(pre name f).path=name++47::f.path from rfl,List.length_append,List.length_cons]at this;omega
 ·exact h f (by rw[e];exact List.mem_append.2 (.inr hf))
theorem DH{name:List UInt8}{f:Fi}{r:List Fi}{p:List UInt8}(h:under f.path name=some p):bB name (f::r)=(⟨p,f.mode,f.id,f.au⟩::(bB name r).1,(bB name r).2):=by
 rw[bB,h]
theorem DI{name:List UInt8}{f:Fi}{r:List Fi}(h:under f.path name=none):bB name (f::r)=([],f::r):=by
 rw[bB,h]
set_option maxHeartbeats 4000000 in
theorem A5:∀(n:Nat) (L:List Ob) (l:List Fi),mu l<n→aj L→l.length≤60→(∀f∈l,f.path.length≤4000000)→ae Tryz.prog 315 [.c (.ptr 0 0),.c (.bs 4 Fi aw l)] [.box [.rw 1],.row 6 Ob an L] (Rt (.tup [(false,[.int .i64 (aR n L [] l).1]),(false,[.int .i64 (aR n L [] l).2.1])]) [.box [.rw 2],.dead,.row 6 Ob an (aR n L [] l).2.2]):=by
 intro n;induction n using Nat.strongRecOn with
 |_ n ih=>
 intro L l hn hL hl hp;refine ao (n:=95) (n0:=2) tabOk Tryz.call315 Tryz.func315 ?_;intro hb;(conv=>whnf)
 refine lp (Nat×List Ob×List aB×List Fi) (fun x=>⟨[(0,.c (.ptr 0 0)),(1,.c (.bs 4 Fi aw x.2.2.2)),(6,.c (.rw 3))],[.box [.rw 2],.dead,.row 6 Ob an x.2.1,.row 4 aB cm x.2.2.1]⟩)
  (fun x=>(x.1≤n∧mu x.2.2.2<x.1∧x.2.2.1.length+x.2.2.2.length≤60)∧aj x.2.1∧(∀f∈x.2.2.2,f.path.length≤4000000)∧aR n L [] l=aR x.1 x.2.1 x.2.2.1 x.2.2.2) (fun x=>x.2.2.2.length) (n,L,[],l) [] [.same 0,.same 1,.same 1,.new] ?_ ?_ (fun x hx=>?_)
 ·exact⟨⟨Nat.le_refl _,hn,by simpa using hl⟩,hL,hp,rfl⟩
 ·repeat' first|exact trivial|exact rfl|refine And.intro ?_ ?_
 obtain⟨k,M,es,q⟩:=x;obtain⟨⟨h1,h2,h3⟩,h4,h5,h6⟩:=hx;dsimp only at h1 h2 h3 h4 h5 h6;have hML:=h4.len;obtain⟨k,rfl⟩:∃m,k=m+1:=⟨k-1,by omega⟩;cases q with
 |nil=>
  rw[show aR (k+1) M es []=aA M (dQ es)from rfl]at h6;rw[h6];(conv=>whnf);refine cl [3] [0,2] (oB M (dQ es) hML) ?_;(conv=>whnf);exact rx [] [.same 0,.same 1,.same 4]
 |cons f r=>
  rw[kI]at h2;rw[List.length_cons]at h3;have hf:=h5 f (by simp);have hr:∀f∈r,f.path.length≤4000000:=fun x hx=>h5 x (by simp[hx]);(conv=>whnf);refine dec (fun _=>?_) (fun h=>absurd (by simp) h);(conv=>whnf);refine⟨0,f,rfl,rfl,?_⟩;(conv=>whnf);refine cl [] [] (BB f.path) ?_;by_cases hc:f.path.count 47=0
  ·have e:aR (k+1) M es (f::r)=aR k M (es++[⟨f.path,f.mode,f.id,f.au⟩]) r:=by rw[aR,if_pos hc]
   rw[e]at h6;rw[BA hc];(conv=>whnf);refine⟨false,.grow,(.l [0,1,2,3,4,5,6,7,8,9,10,11,12,13,14,15,16,17]),by kernel_rfl,.inl ?_⟩;(conv=>whnf);refine⟨0,f,rfl,rfl,?_⟩;(conv=>whnf);refine⟨0,f,rfl,rfl,?_⟩;(conv=>whnf);refine⟨0,f,rfl,rfl,?_⟩;(conv=>whnf);refine⟨[⟨f.path,f.mode,f.id,f.au⟩],rfl,?_⟩;(conv=>whnf);refine⟨_,_,rfl,rfl,(by simp only[List.length_append,List.length_cons,List.length_nil];omega),?_⟩;(conv=>whnf);refine⟨1,(f::r).length,rfl,rfl,⟨by simp,Nat.le_refl _⟩,?_⟩;(conv=>whnf);have tr:List.take ((f::r).length-1) (List.drop 1 (k+1,M,es,f::r).2.2.2)=r:=by simp
   rw[tr];refine ag (k,M,es++[⟨f.path,f.mode,f.id,f.au⟩],r) [] [.same 0,.same 1,.same 2,.same 5] ⟨⟨by simp only[];omega,by simp only[];omega,by simp;omega⟩,h4,hr,h6⟩ (by simp) ?_;repeat' first|exact trivial|exact rfl|refine And.intro ?_ ?_
  ·obtain⟨a,b,hcut,hab,ha⟩:=wq hc;have hcut1:(cO f.path).1=a:=by rw[hcut]
   have hal:a.length≤4000000:=by rw[hab]at hf;simp at hf;omega
   rw[hcut];(conv=>whnf)
   refine lp (List Fi×List Fi) (fun y=>⟨[(0,.c (.ptr 0 0)),(1,.c (.bs 4 Fi aw y.2)),(6,.c (.rw 3)),(7,.c (.str a)),(10,.c (.rw 4))],[.box [.rw 2],.dead,.row 6 Ob an M,.row 4 aB cm es,.row 4 Fi aw y.1]⟩)
    (fun y=>(y.1.length+y.2.length≤60∧True)∧(∀f∈y.2,f.path.length≤4000000)∧bB a (f::r)=(y.1++(bB a y.2).1,(bB a y.2).2)) (fun y=>y.2.length) ([],f::r) [] [.same 0,.same 1,.same 2,.same 3,.new] ?_ ?_ (fun y hy=>?_)
   ·exact⟨⟨by simp;omega,trivial⟩,h5,rfl⟩
   ·repeat' first|exact trivial|exact rfl|refine And.intro ?_ ?_
   obtain⟨inn,q⟩:=y;obtain⟨⟨g1,_⟩,g2,g3⟩:=hy;dsimp only at g1 g2 g3;cases q with
   |nil=>
    have g4:bB a (f::r)=(inn,[]):=by rw[g3];simp[bB]
    (conv=>whnf);have hmu:=s7 (r:=r) hab;rw[g4,kI]at hmu;dsimp only at hmu;have e:aR (k+1) M es (f::r)=if(aR k M [] inn).2.1≠0 then(0,(aR k M [] inn).2.1,(aR k M [] inn).2.2)else aR k (aR k M [] inn).2.2 (es++[⟨a,2,(aR k M [] inn).1,0⟩]) []:=by rw[aR,if_neg hc,hcut];dsimp only;rw[g4]
    have hin:inn.length+ @List.length Fi []=r.length+1:=by have:=xG a (f::r);rw[g4]at this;simpa using this
    have hps:=pS (r:=r) hab;rw[g4]at hps;have hps:0<inn.length:=List.length_pos_iff.2 hps;have hpi:=xI a h5;rw[g4]at hpi;have hok:=(kx k M [] inn h4).1;refine cl [4] [0,2] (ih k (by omega) M inn (by omega) h4 (by omega) hpi.1) ?_;generalize aR k M [] inn=R at*;(conv=>whnf);refine av (fun h8=>?_) (fun h8=>?_)
    ·rw[if_pos h8]at e;rw[h6,e];(conv=>whnf);exact rx [] [.same 0,.same 1,.same 5]
    ·rw[if_neg (by simpa using h8)]at e;(conv=>whnf);refine⟨[⟨a,2,R.1,0⟩],rfl,?_⟩;(conv=>whnf);refine⟨_,_,rfl,rfl,(by simp only[List.length_append,List.length_cons,List.length_nil];omega),?_⟩;skip;refine ag (k,R.2.2,es++[⟨a,2,R.1,0⟩],[]) [] [.same 0,.same 1,.same 5,.same 7] ⟨⟨by simp only[];omega,by simp only[];omega,by simp only[List.length_append,List.length_cons,List.length_nil]at hin⊢;omega⟩,hok,hpi.2,by rw[h6,e]⟩ (by simp only[List.length_cons,List.length_nil]at hin⊢;omega) ?_;repeat' first|exact trivial|exact rfl|refine And.intro ?_ ?_
   |cons f2 q=>
    have hf2:=g2 f2 (by simp);(conv=>whnf);refine dec (fun _=>?_) (fun h=>absurd (by simp) h);(conv=>whnf);refine⟨0,f2,rfl,rfl,?_⟩;(conv=>whnf);refine cl [] [] (oR f2.path a hal) ?_;cases hu:under f2.path a with
    |none=>
     have g4:bB a (f::r)=(inn,f2::q):=by rw[g3,DI hu];simp
     rw[show eQ f2.path a=(f2.path,false)by unfold eQ;rw[hu]];(conv=>whnf);have hmu:=s7 (r:=r) hab;rw[g4,kI]at hmu;dsimp only at hmu;have e:aR (k+1) M es (f::r)=if(aR k M [] inn).2.1≠0 then(0,(aR k M [] inn).2.1,(aR k M [] inn).2.2)else aR k (aR k M [] inn).2.2 (es++[⟨a,2,(aR k M [] inn).1,0⟩]) (f2::q):=by rw[aR,if_neg hc,hcut];dsimp only;rw[g4]
     have hin:inn.length+ @List.length Fi (f2::q)=r.length+1:=by have:=xG a (f::r);rw[g4]at this;simpa using this
     have hps:=pS (r:=r) hab;rw[g4]at hps;have hps:0<inn.length:=List.length_pos_iff.2 hps;have hpi:=xI a h5;rw[g4]at hpi;have hok:=(kx k M [] inn h4).1;refine cl [4] [0,2] (ih k (by omega) M inn (by omega) h4 (by omega) hpi.1) ?_;generalize aR k M [] inn=R at*;(conv=>whnf);refine av (fun h8=>?_) (fun h8=>?_)
     ·rw[if_pos h8]at e;rw[h6,e];(conv=>whnf);exact rx [] [.same 0,.same 1,.same 5]
     ·rw[if_neg (by simpa using h8)]at e;(conv=>whnf);refine⟨[⟨a,2,R.1,0⟩],rfl,?_⟩;(conv=>whnf);refine⟨_,_,rfl,rfl,(by simp only[List.length_append,List.length_cons,List.length_nil];omega),?_⟩;skip;refine ag (k,R.2.2,es++[⟨a,2,R.1,0⟩],(f2::q)) [] [.same 0,.same 1,.same 5,.same 7] ⟨⟨by simp only[];omega,by simp only[];omega,by simp only[List.length_append,List.length_cons,List.length_nil]at hin⊢;omega⟩,hok,hpi.2,by rw[h6,e]⟩ (by simp only[List.length_cons,List.length_nil]at hin⊢;omega) ?_;repeat' first|exact trivial|exact rfl|refine And.intro ?_ ?_
    |some p=>
     have g4:=g3;rw[DH hu]at g4;rw[show eQ f2.path a=(p,true)by unfold eQ;rw[hu]];(conv=>whnf);refine⟨0,f2,rfl,rfl,?_⟩;(conv=>whnf);refine⟨[⟨p,f2.mode,f2.id,f2.au⟩],rfl,?_⟩;(conv=>whnf);rw[List.length_cons]at g1;refine⟨_,_,rfl,rfl,(by simp only[List.length_append,List.length_cons,List.length_nil];omega),?_⟩;(conv=>whnf);refine⟨1,(f2::q).length,rfl,rfl,⟨by simp,Nat.le_refl _⟩,?_⟩;(conv=>whnf);have tr:List.take ((f2::q).length-1) (List.drop 1 (inn,f2::q).2)=q:=by simp
     rw[tr];refine ag (inn++[⟨p,f2.mode,f2.id,f2.au⟩],q) [] [.same 0,.same 1,.same 2,.same 3,.same 7] ⟨⟨by simp;omega,trivial⟩,fun x hx=>g2 x (by simp[hx]),by rw[g4];simp⟩ (by simp) ?_;repeat' first|exact trivial|exact rfl|refine And.intro ?_ ?_
end Go.Nest
end
section
namespace Go.Nest
open Go Go.AM Go.Proofs
open Go.Proofs.YtpechfcbnoggfaaGreatDoor (tab tabOk)
set_option maxRecDepth 4000
theorem wX(L:List Ob)(l:List Fi)(hL:aj L)(hp:∀f∈l,f.path.length≤4000000):ae Tryz.prog 269 [.c (.ptr 0 0),.c (.bs 4 Fi aw l)] [.box [.rw 1],.row 6 Ob an L] (Rt (.tup [(false,[.int .i64 (cZ L l).1]),(false,[.int .i64 (cZ L l).2.1])]) [.box [.rw 2],.dead,.row 6 Ob an (cZ L l).2.2]):=by
 refine ao (n:=17) (n0:=2) tabOk Tryz.call269 Tryz.func269 ?_;intro hb;(conv=>whnf);refine cl [] [] (ma l hp) ?_;unfold cZ;(conv=>whnf);refine av (fun h=>?_) (fun h=>?_)
 ·rw[if_pos h];(conv=>whnf);exact rx [] [.same 0,.same 1,.same 1]
 ·have h0:cR l=0:=by simpa using h
  have h1:=(kq h0).1;rw[if_neg (by simpa using h0)];(conv=>whnf);refine cl [] [0,1] (A5 (mu l+1) L l (Nat.lt_succ_self _) hL h1 hp) ?_;(conv=>whnf);exact rx [] [.same 0,.same 1,.same 2]
theorem oS:∀(l:List (List UInt8)),(∀s∈l,s.length≤20)→(cH l).length≤21*l.length
 |[],_=>by simp[cH]
 |[x],h=>by have:=h x (by simp);simp[cH];omega
 |x::y::r,h=>by
  have h1:=h x (by simp);have h2:=oS (y::r) (fun s hs=>h s (by simp at hs⊢;exact .inr hs));simp[cH]at h2⊢;omega
theorem qh{s:List UInt8}(h:bL s=0):s.length≤20:=by
 unfold bL at h;split at h
 ·cases h
 split at h
 ·cases h
 ·omega
theorem mh(L:List Ob):∀(n:Nat) (t:Int) (ins:List (List UInt8)) (out:List Fi),out.length≤60→(cd L n t ins out).2.length≤60
 |0,_,_,out,h=>h
 |n+1,t,ins,out,h=>by
  have key:∀(es:List aB) (out:List Fi),out.length≤60→(dH (cd L n) ins es out).2.length≤60:=by
   intro es;induction es with
   |nil=>intro out h;exact h
   |cons e r ih=>
    intro out h;unfold dH;split
    ·split
     ·exact mh L n _ _ out h
     ·exact ih _ (mh L n _ _ out h)
    ·split
     ·exact h
     ·exact ih _ (by rw[List.length_append,List.length_singleton];omega)
  unfold cd;split
  ·exact h
  split
  ·exact h
  ·exact key _ out h
set_option maxHeartbeats 4000000 in
theorem CF(L:List Ob)(hL:aj L):∀(n:Nat) (t:Int) (ins:List (List UInt8)) (out:List Fi),ins.length+n=8→(∀s∈ins,s.length≤20)→out.length≤60→ae Tryz.prog 248 [.c (.bp [.bs 6 Ob an L]),.c (.int .i64 t),.c (.bs 1 (List UInt8) encS ins),.c (.ptr 0 0)] [.box [.rw 1],.row 4 Fi aw out]
  (Rt (.c (.int .i64 (cd L (n+1) t ins out).1)) [.box [.rw 2],.dead,.row 4 Fi aw (cd L (n+1) t ins out).2]):=by
 intro n;induction n using Nat.strongRecOn with
 |_ n ih=>
 intro t ins out hn hs hout;refine ao (n:=86) (n0:=2) tabOk Tryz.call248 Tryz.func248 ?_;intro hb;(conv=>whnf);refine cl [] [] (fJ L hL t) ?_;have hkk:=fp (l:=L) (id:=t);by_cases hk:kindOf L t≠2
 ·have e0:cd L (n+1) t ins out=(9,out):=by rw[cd,if_pos hk]
  rw[e0];by_cases hk0:kindOf L t=0
  ·rw[show decide (kindOf L t≠0)=false by simp[hk0]];(conv=>whnf);exact rx [] [.same 0,.same 1,.same 1]
  ·rw[show decide (kindOf L t≠0)=true by simp[hk0]];(conv=>whnf);refine av (fun _=>?_) (fun h=>absurd (hkk.symm.trans h) hk);(conv=>whnf);exact rx [] [.same 0,.same 1,.same 1]
 have hk:kindOf L t=2:=Classical.not_not.1 hk;rw[show decide (kindOf L t≠0)=true by simp[hk]];have e0:cd L (n+1) t ins out=if 8≤ins.length∧0<(ai L t).entries.length then(3,out)else dH (cd L n) ins (ai L t).entries out:=by rw[cd,if_neg (by simpa using hk)]
 obtain⟨hr1,hr2⟩:=iS hL hk;have hel:=(hL.tree hk).2.2.1;generalize he:ai L t=o at*;(conv=>whnf);refine av (fun h=>absurd (hkk.trans hk) h) (fun _=>?_);(conv=>whnf);have hfin:¬(8≤ins.length∧0<o.entries.length)→True:=fun _=>trivial;refine dec (fun h8=>?_) (fun h8=>?_)
 ·(conv=>whnf);refine dec (fun h9=>?_) (fun h9=>?_)
  ·have e1:cd L (n+1) t ins out=(3,out):=by rw[e0,if_pos (by omega)]
   rw[e1];(conv=>whnf);exact rx [] [.same 0,.same 1,.same 1]
  ·rw[if_neg (by omega)]at e0;have hes:o.entries=[]:=List.eq_nil_of_length_eq_zero (by omega);have h8':o.entries≠[]→ins.length<8:=fun h=>absurd hes h;rw[e0];(conv=>whnf)
   refine lp (Nat×List Fi) (fun x=>⟨[(0,.c (.bp [.bs 6 Ob an L])),(2,.c (.bs 1 (List UInt8) encS ins)),(3,.c (.ptr 0 0)),(40,.c (.ls 4 aB cm o.entries)),(41,.c (.int .i64 o.entries.length)),(42,.c (.int .i64 x.1))],[.box [.rw 2],.dead,.row 4 Fi aw x.2]⟩)
    (fun x=>(x.1≤o.entries.length∧x.2.length≤60)∧dH (cd L n) ins o.entries out=dH (cd L n) ins (o.entries.drop x.1) x.2) (fun x=>o.entries.length-x.1) (0,out) [] [.same 0,.same 1,.same 1] ?_ ?_ (fun x hx=>?_)
   ·exact⟨⟨Nat.zero_le _,hout⟩,rfl⟩
   ·repeat' first|exact trivial|exact rfl|refine And.intro ?_ ?_
   obtain⟨i,q⟩:=x;obtain⟨⟨g1,g2⟩,g3⟩:=hx;dsimp only at g1 g2 g3;(conv=>whnf);refine dec (fun h4=>?_) (fun h4=>?_)
   ·have hlt:i<o.entries.length:=by simpa using h4
    have hE:=hr2 _ (List.getElem_mem hlt);have h8:=h8' (by intro h;rw[h]at hlt;simp at hlt);rw[List.drop_eq_getElem_cons hlt]at g3;(conv=>whnf);refine⟨i,o.entries[i],rfl,List.getElem?_eq_getElem hlt,?_⟩;(conv=>whnf);have hsz:(ins++[o.entries[i].name]).length≤8:=by rw[List.length_append,List.length_singleton];omega
    refine⟨false,.grow,(.alt [0,2,3] [1,4] fun j=>bif Nat.beq j 1 then(.l [4,5,6])else bif Nat.beq j 4 then(.l [1,5,6])else .l []),by kernel_rfl,.inr ⟨Unit,fun _=>⟨[(0,.c (.bp [.bs 6 Ob an L])),(2,.c (.bs 1 (List UInt8) encS ins)),(3,.c (.ptr 0 0)),(40,.c (.ls 4 aB cm o.entries)),(41,.c (.int .i64 o.entries.length)),(42,.c (.int .i64 i)),(12,.c (.ptr 3 0)),(13,.c (.rw 4))],[.box [.rw 2],.dead,.row 4 Fi aw q,.box (cm o.entries[i]),.row 1 (List UInt8) encS (ins++[o.entries[i].name])]⟩,fun _=>True,?_,?_⟩⟩
    ·(conv=>whnf);refine And.intro ?_ ?_
     ·(conv=>whnf);refine cl [] [] (pr ins (by omega)) ?_;(conv=>whnf);refine⟨[o.entries[i].name],rfl,?_⟩;(conv=>whnf);refine⟨_,_,rfl,rfl,(by simp only[List.length_append,List.length_cons,List.length_nil];omega),?_⟩;(conv=>whnf);refine⟨(),trivial,[],[.same 0,.same 1,.same 2,.same 3,.same 6],?_⟩;repeat' first|exact trivial|exact rfl|refine And.intro ?_ ?_
     ·(conv=>whnf);refine⟨[o.entries[i].name],rfl,?_⟩;(conv=>whnf);refine cl [] [] (pr ins (by omega)) ?_;(conv=>whnf);refine⟨_,_,rfl,rfl,(by simp only[List.length_append,List.length_cons,List.length_nil];omega),?_⟩;(conv=>whnf);refine⟨(),trivial,[],[.same 0,.same 1,.same 2,.same 3,.same 6],?_⟩;repeat' first|exact trivial|exact rfl|refine And.intro ?_ ?_
    intro _ _
    have hnm:∀s∈ins++[o.entries[i].name],s.length≤20:=fun s h=>by
     rcases List.mem_append.1 h with h|h
     ·exact hs s h
     ·rw[List.mem_singleton]at h;rw[h];exact qh hE.name
    (conv=>whnf);refine dec (fun hm=>?_) (fun hm=>?_)
    ·obtain⟨n',rfl⟩:∃m,n=m+1:=⟨n-1,by omega⟩;rw[dH,if_pos hm]at g3;(conv=>whnf);refine cl [] [0,2] (ih n' (by omega) o.entries[i].id (ins++[o.entries[i].name]) q (by rw[List.length_append,List.length_singleton];omega) hnm g2) ?_;have hlR:=mh L (n'+1) o.entries[i].id (ins++[o.entries[i].name]) q g2;generalize cd L (n'+1) o.entries[i].id (ins++[o.entries[i].name]) q=R at*;(conv=>whnf);refine av (fun h5=>?_) (fun h5=>?_)
     ·rw[if_pos h5]at g3;rw[g3];(conv=>whnf);exact rx [] [.same 0,.same 1,.same 5]
     ·rw[if_neg (by simpa using h5)]at g3;repeat'((conv=>whnf);refine I6 ?_)
      refine ag (i+1,R.2) [] [.same 0,.same 1,.same 5] ⟨⟨hlt,hlR⟩,g3⟩ (by simp only[];omega) ?_;repeat' first|exact trivial|exact rfl|refine And.intro ?_ ?_
    ·rw[dH,if_neg hm]at g3;(conv=>whnf);refine dec (fun h5=>?_) (fun h5=>?_)
     ·rw[if_pos (by omega)]at g3;rw[g3];(conv=>whnf);exact rx [] [.same 0,.same 1,.same 2]
     ·rw[if_neg (by omega)]at g3;have hul:=oS _ hnm;(conv=>whnf);refine⟨false,.grow,(.l [0,1,2,3,4,6,7,8,9,10,11,5,12,13,14,15,16]),by kernel_rfl,.inr ⟨Unit,fun _=>⟨[(0,.c (.bp [.bs 6 Ob an L])),(2,.c (.bs 1 (List UInt8) encS ins)),(3,.c (.ptr 0 0)),(40,.c (.ls 4 aB cm o.entries)),(41,.c (.int .i64 o.entries.length)),(42,.c (.int .i64 i))],[.box [.rw 2],.dead,.row 4 Fi aw (q++[⟨cH (ins++[o.entries[i].name]),o.entries[i].mode,o.entries[i].id,o.entries[i].au⟩])]⟩,fun _=>True,?_,?_⟩⟩
      ·(conv=>whnf);refine cl [] [] (yP (ins++[o.entries[i].name]) (by omega) (by omega)) ?_;(conv=>whnf);refine⟨[⟨cH (ins++[o.entries[i].name]),o.entries[i].mode,o.entries[i].id,o.entries[i].au⟩],rfl,?_⟩;(conv=>whnf);refine⟨_,_,rfl,rfl,(by simp only[List.length_append,List.length_cons,List.length_nil];omega),?_⟩;(conv=>whnf);refine⟨(),trivial,[],[.same 0,.same 1,.same 6],?_⟩;repeat' first|exact trivial|exact rfl|refine And.intro ?_ ?_
      intro _ _;repeat'((conv=>whnf);refine I6 ?_)
      refine ag (i+1,(q++[⟨cH (ins++[o.entries[i].name]),o.entries[i].mode,o.entries[i].id,o.entries[i].au⟩])) [] [.same 0,.same 1,.same 2] ⟨⟨hlt,by simp only[List.length_append,List.length_cons,List.length_nil];omega⟩,g3⟩ (by simp only[];omega) ?_;repeat' first|exact trivial|exact rfl|refine And.intro ?_ ?_
   ·rw[List.drop_of_length_le (by simp at h4;omega)]at g3;rw[g3];(conv=>whnf);exact rx [] [.same 0,.same 1,.same 2]
 ·rw[if_neg (by omega)]at e0;have h8':o.entries≠[]→ins.length<8:=fun _=>by omega
  rw[e0];(conv=>whnf)
  refine lp (Nat×List Fi) (fun x=>⟨[(0,.c (.bp [.bs 6 Ob an L])),(2,.c (.bs 1 (List UInt8) encS ins)),(3,.c (.ptr 0 0)),(40,.c (.ls 4 aB cm o.entries)),(41,.c (.int .i64 o.entries.length)),(42,.c (.int .i64 x.1))],[.box [.rw 2],.dead,.row 4 Fi aw x.2]⟩)
   (fun x=>(x.1≤o.entries.length∧x.2.length≤60)∧dH (cd L n) ins o.entries out=dH (cd L n) ins (o.entries.drop x.1) x.2) (fun x=>o.entries.length-x.1) (0,out) [] [.same 0,.same 1,.same 1] ?_ ?_ (fun x hx=>?_)
  ·exact⟨⟨Nat.zero_le _,hout⟩,rfl⟩
  ·repeat' first|exact trivial|exact rfl|refine And.intro ?_ ?_
  obtain⟨i,q⟩:=x;obtain⟨⟨g1,g2⟩,g3⟩:=hx;dsimp only at g1 g2 g3;(conv=>whnf);refine dec (fun h4=>?_) (fun h4=>?_)
  ·have hlt:i<o.entries.length:=by simpa using h4
   have hE:=hr2 _ (List.getElem_mem hlt);have h8:=h8' (by intro h;rw[h]at hlt;simp at hlt);rw[List.drop_eq_getElem_cons hlt]at g3;(conv=>whnf);refine⟨i,o.entries[i],rfl,List.getElem?_eq_getElem hlt,?_⟩;(conv=>whnf);have hsz:(ins++[o.entries[i].name]).length≤8:=by rw[List.length_append,List.length_singleton];omega
   refine⟨false,.grow,(.alt [0,2,3] [1,4] fun j=>bif Nat.beq j 1 then(.l [4,5,6])else bif Nat.beq j 4 then(.l [1,5,6])else .l []),by kernel_rfl,.inr ⟨Unit,fun _=>⟨[(0,.c (.bp [.bs 6 Ob an L])),(2,.c (.bs 1 (List UInt8) encS ins)),(3,.c (.ptr 0 0)),(40,.c (.ls 4 aB cm o.entries)),(41,.c (.int .i64 o.entries.length)),(42,.c (.int .i64 i)),(12,.c (.ptr 3 0)),(13,.c (.rw 4))],[.box [.rw 2],.dead,.row 4 Fi aw q,.box (cm o.entries[i]),.row 1 (List UInt8) encS (ins++[o.entries[i].name])]⟩,fun _=>True,?_,?_⟩⟩
   ·(conv=>whnf);refine And.intro ?_ ?_
    ·(conv=>whnf);refine cl [] [] (pr ins (by omega)) ?_;(conv=>whnf);refine⟨[o.entries[i].name],rfl,?_⟩;(conv=>whnf);refine⟨_,_,rfl,rfl,(by simp only[List.length_append,List.length_cons,List.length_nil];omega),?_⟩;(conv=>whnf);refine⟨(),trivial,[],[.same 0,.same 1,.same 2,.same 3,.same 6],?_⟩;repeat' first|exact trivial|exact rfl|refine And.intro ?_ ?_
    ·(conv=>whnf);refine⟨[o.entries[i].name],rfl,?_⟩;(conv=>whnf);refine cl [] [] (pr ins (by omega)) ?_;(conv=>whnf);refine⟨_,_,rfl,rfl,(by simp only[List.length_append,List.length_cons,List.length_nil];omega),?_⟩;(conv=>whnf);refine⟨(),trivial,[],[.same 0,.same 1,.same 2,.same 3,.same 6],?_⟩;repeat' first|exact trivial|exact rfl|refine And.intro ?_ ?_
   intro _ _
   have hnm:∀s∈ins++[o.entries[i].name],s.length≤20:=fun s h=>by
    rcases List.mem_append.1 h with h|h
    ·exact hs s h
    ·rw[List.mem_singleton]at h;rw[h];exact qh hE.name
   (conv=>whnf);refine dec (fun hm=>?_) (fun hm=>?_)
   ·obtain⟨n',rfl⟩:∃m,n=m+1:=⟨n-1,by omega⟩;rw[dH,if_pos hm]at g3;(conv=>whnf);refine cl [] [0,2] (ih n' (by omega) o.entries[i].id (ins++[o.entries[i].name]) q (by rw[List.length_append,List.length_singleton];omega) hnm g2) ?_;have hlR:=mh L (n'+1) o.entries[i].id (ins++[o.entries[i].name]) q g2;generalize cd L (n'+1) o.entries[i].id (ins++[o.entries[i].name]) q=R at*;(conv=>whnf);refine av (fun h5=>?_) (fun h5=>?_)
    ·rw[if_pos h5]at g3;rw[g3];(conv=>whnf);exact rx [] [.same 0,.same 1,.same 5]
    ·rw[if_neg (by simpa using h5)]at g3;repeat'((conv=>whnf);refine I6 ?_)
     refine ag (i+1,R.2) [] [.same 0,.same 1,.same 5] ⟨⟨hlt,hlR⟩,g3⟩ (by simp only[];omega) ?_;repeat' first|exact trivial|exact rfl|refine And.intro ?_ ?_
   ·rw[dH,if_neg hm]at g3;(conv=>whnf);refine dec (fun h5=>?_) (fun h5=>?_)
    ·rw[if_pos (by omega)]at g3;rw[g3];(conv=>whnf);exact rx [] [.same 0,.same 1,.same 2]
    ·rw[if_neg (by omega)]at g3;have hul:=oS _ hnm;(conv=>whnf);refine⟨false,.grow,(.l [0,1,2,3,4,6,7,8,9,10,11,5,12,13,14,15,16]),by kernel_rfl,.inr ⟨Unit,fun _=>⟨[(0,.c (.bp [.bs 6 Ob an L])),(2,.c (.bs 1 (List UInt8) encS ins)),(3,.c (.ptr 0 0)),(40,.c (.ls 4 aB cm o.entries)),(41,.c (.int .i64 o.entries.length)),(42,.c (.int .i64 i))],[.box [.rw 2],.dead,.row 4 Fi aw (q++[⟨cH (ins++[o.entries[i].name]),o.entries[i].mode,o.entries[i].id,o.entries[i].au⟩])]⟩,fun _=>True,?_,?_⟩⟩
     ·(conv=>whnf);refine cl [] [] (yP (ins++[o.entries[i].name]) (by omega) (by omega)) ?_;(conv=>whnf);refine⟨[⟨cH (ins++[o.entries[i].name]),o.entries[i].mode,o.entries[i].id,o.entries[i].au⟩],rfl,?_⟩;(conv=>whnf);refine⟨_,_,rfl,rfl,(by simp only[List.length_append,List.length_cons,List.length_nil];omega),?_⟩;(conv=>whnf);refine⟨(),trivial,[],[.same 0,.same 1,.same 6],?_⟩;repeat' first|exact trivial|exact rfl|refine And.intro ?_ ?_
     intro _ _;repeat'((conv=>whnf);refine I6 ?_)
     refine ag (i+1,(q++[⟨cH (ins++[o.entries[i].name]),o.entries[i].mode,o.entries[i].id,o.entries[i].au⟩])) [] [.same 0,.same 1,.same 2] ⟨⟨hlt,by simp only[List.length_append,List.length_cons,List.length_nil];omega⟩,g3⟩ (by simp only[];omega) ?_;repeat' first|exact trivial|exact rfl|refine And.intro ?_ ?_
  ·rw[List.drop_of_length_le (by simp at h4;omega)]at g3;rw[g3];(conv=>whnf);exact rx [] [.same 0,.same 1,.same 2]
theorem wY(L:List Ob)(hL:aj L)(t:Int):ae Tryz.prog 167 [.c (.bp [.bs 6 Ob an L]),.c (.int .i64 t)] [] (Rt (.tup [(false,[.rw 0]),(false,[.int .i64 (cL L t).2])]) [.row 4 Fi aw (cL L t).1]):=by
 refine kg (n:=15) (n0:=0) tabOk Tryz.call167 Tryz.func167 ?_;intro hb;have hs:=CF L hL 8 t [] [] rfl (by simp) (by simp);have hl:=mh L 9 t [] [] (by simp);unfold cL;generalize cd L 9 t [] []=R at*;refine XM.seq ?_;(conv=>whnf);refine XM.seq ?_;(conv=>whnf);refine XM.le (t:=⟨[(0,.c (.bp [.bs 6 Ob an L])),(1,.c (.int .i64 t)),(6,.c (.ptr 0 0))],[.box [.rw 1],.row 4 Fi aw []]⟩) [] [.same 0,.new] (by repeat' first|exact trivial|exact rfl|refine And.intro ?_ ?_) ?_;refine XM.of ?_;(conv=>whnf);refine cl [] [0,1] (hs) ?_;(conv=>whnf);refine av (fun h=>?_) (fun h=>?_)
 ·rw[if_neg h];(conv=>whnf);exact rx [] [.new]
 ·rw[if_pos h];(conv=>whnf);exact rx [] [.same 2]
theorem BV(x:aB)(d:List UInt8):ae Tryz.prog 330 [.st (cm x),.c (.bp [.str d])] [] (Rt (.c (.bool (isDir d x))) []):=by
 refine ao (n:=13) (n0:=0) tabOk Tryz.call330 Tryz.func330 ?_;intro hb;repeat'((conv=>whnf);first|(refine dec (fun h=>?_) (fun h=>?_)<;>try contradiction)|refine aC ?_|fail)
 all_goals simp_all [isDir]
theorem Ds(l:List aB)(d:List UInt8):ae Tryz.prog 329 [.c (.bs 4 aB cm l),.c (.fn 330 [.bp [.str d]])] [] (Rt (.c (.int .i64 (bH (isDir d) l))) []):=by
 refine ao (n:=19) (n0:=0) tabOk Tryz.call329 Tryz.func329 ?_;intro hb;have hb:l.length≤9223372036854775807:=hb.1.1;(conv=>whnf);refine lp Nat (fun i=>⟨[(0,.c (.bs 4 aB cm l)),(1,.c (.fn 330 [.bp [.str d]])),(7,.c (.int .i64 l.length)),(8,.c (.int .i64 i))],[]⟩) (fun i=>i≤l.length∧(l.take i).any (isDir d)=false) (fun i=>l.length-i) 0 [] [] ?_ ?_ (fun i hi=>?_)
 ·simp
 ·repeat' first|exact trivial|exact rfl|refine And.intro ?_ ?_
 (conv=>whnf);refine dec (fun h4=>?_) (fun h4=>?_)
 ·have hlt:i<l.length:=by omega
  repeat'((conv=>whnf);first|refine⟨_,_,rfl,List.getElem?_eq_getElem (by omega),?_⟩|fail)
  (conv=>whnf);refine cl [] [] (BV l[i] d) ?_;repeat'((conv=>whnf);first|refine aO (fun h=>?_) (fun h=>?_)|refine⟨i64 (by omega) (by omega),?_⟩|refine aI ?_|fail)
  ·exact jj hlt hi.2 h
  ·refine ag (i+1) [] [] ⟨hlt,gq hlt hi.2 h⟩ (by simp only[];omega) ?_;repeat' first|exact trivial|exact rfl|refine And.intro ?_ ?_
 ·repeat'((conv=>whnf);first|refine aI ?_|fail)
  have:=hi.2;rw[List.take_of_length_le (by omega)]at this;exact jM this
theorem xy{α:Type}{p:α→Bool}{l:List α}:(¬0≤bH p l∧l.find? p=none)∨∃(i:Nat) (h:i<l.length),bH p l=i∧l.find? p=some l[i]:=by
 unfold bH;cases h:l.findIdx? p with
 |none=>
  rw[List.findIdx?_eq_none_iff]at h;exact .inl ⟨by simp,by rw[List.find?_eq_none];intro x hx;simp[h x hx]⟩
 |some i=>
  rw[List.findIdx?_eq_some_iff_getElem]at h;obtain⟨h1,h2,h3⟩:=h;refine .inr ⟨i,h1,rfl,?_⟩;rw[List.find?_eq_some_iff_getElem];exact⟨h2,i,h1,rfl,fun j hj=>by simpa using h3 j hj⟩
set_option maxHeartbeats 2000000 in
theorem AJ(L:List Ob)(hL:aj L)(t:Int)(dir:List UInt8)(hd:dir.length≤4000000):ae Tryz.prog 284 [.c (.bp [.bs 6 Ob an L]),.c (.int .i64 t),.c (.str dir)] [] (Rt (.tup [(false,[.int .i64 (dd L t dir).1]),(false,[.int .i64 (dd L t dir).2])]) []):=by
 refine ao (n:=56) (n0:=0) tabOk Tryz.call284 Tryz.func284 ?_;intro hb;(conv=>whnf);refine cl [] [] (tY dir hd) ?_;unfold dd;have hsl:(ct dir).2=0→(ct dir).1.length≤8:=fun h=>by obtain⟨_,h2,h3⟩:=qR h;rw[h3];exact h2
 generalize ct dir=S at*;(conv=>whnf);refine av (fun h=>?_) (fun h=>?_)
 ·rw[if_pos h];(conv=>whnf);exact rx [] []
 rw[if_neg (by simpa using h)];have hsl:=hsl h;(conv=>whnf);refine lp (Nat×Int) (fun x=>⟨[(0,.c (.bp [.bs 6 Ob an L])),(1,.c (.int .i64 x.2)),(23,.c (.rw 0)),(24,.c (.int .i64 S.1.length)),(25,.c (.int .i64 x.1))],[.row 1 (List UInt8) encS S.1]⟩) (fun x=>x.1≤S.1.length∧jB L t S.1=jB L x.2 (S.1.drop x.1)) (fun x=>S.1.length-x.1) (0,t) [] [.same 0] ?_ ?_ (fun x hx=>?_)
 ·exact⟨Nat.zero_le _,rfl⟩
 ·repeat' first|exact trivial|exact rfl|refine And.intro ?_ ?_
 obtain⟨i,u⟩:=x;obtain⟨g1,g2⟩:=hx;dsimp only at g1 g2;rw[g2];(conv=>whnf);refine dec (fun h4=>?_) (fun h4=>?_)
 ·have hlt:i<S.1.length:=by simpa using h4
  rw[List.drop_eq_getElem_cons hlt,jB];(conv=>whnf);refine⟨i,⟨rfl,hlt⟩,?_⟩;(conv=>whnf);refine⟨S.1[i],List.getElem?_eq_getElem hlt,?_⟩;(conv=>whnf);refine cl [] [] (fJ L hL u) ?_;have hkk:=fp (l:=L) (id:=u);by_cases hk:kindOf L u≠2
  ·rw[if_pos hk];by_cases hk0:kindOf L u=0
   ·rw[show decide (kindOf L (i,u).snd≠0)=false by simp[hk0]];(conv=>whnf);exact rx [] []
   ·rw[show decide (kindOf L (i,u).snd≠0)=true by simp[hk0]];(conv=>whnf);refine av (fun _=>?_) (fun h=>absurd (hkk.symm.trans h) hk);(conv=>whnf);exact rx [] []
  rw[if_neg hk];have hk:kindOf L u=2:=Classical.not_not.1 hk;rw[show decide (kindOf L (i,u).snd≠0)=true by simp[hk]];(conv=>whnf);refine av (fun h=>absurd (hkk.trans hk) h) (fun _=>?_);(conv=>whnf);refine cl [] [] (Ds (ai L u).entries S.1[i]) ?_;rcases xy (p:=isDir S.1[i]) (l:=(ai L u).entries)with⟨k1,k2⟩|⟨k,k1,k2,k3⟩
  ·rw[k2];(conv=>whnf);refine dec (fun _=>?_) (fun h=>absurd (by omega) h);(conv=>whnf);exact rx [] []
  ·rw[k3,k2];(conv=>whnf);refine⟨k,(ai L u).entries[k],rfl,List.getElem?_eq_getElem k1,?_⟩;repeat'((conv=>whnf);refine I6 ?_)
   refine ag (i+1,(ai L u).entries[k].id) [] [.same 0] ⟨hlt,?_⟩ (by simp only[];omega) ?_
   ·rfl
   ·repeat' first|exact trivial|exact rfl|refine And.intro ?_ ?_
 ·rw[List.drop_of_length_le (by simp at h4;omega),jB];(conv=>whnf);exact rx [] []
end Go.Nest
end
section
namespace Go.Nest
open Go Go.AM Go.Proofs
open Go.Proofs.YtpechfcbnoggfaaGreatDoor (tab tabOk)
set_option maxRecDepth 4000
theorem CI(x:Fi)(p:List UInt8):ae Tryz.prog 326 [.st (aw x),.c (.bp [.str p])] [] (Rt (.c (.bool (decide (x.path=p)))) []):=by
 refine ao (n:=8) (n0:=0) tabOk Tryz.call326 Tryz.func326 ?_;intro hb;repeat'((conv=>whnf);first|refine aC ?_|fail)
 rfl
theorem Du(l:List Fi)(p:List UInt8):ae Tryz.prog 325 [.c (.bs 4 Fi aw l),.c (.fn 326 [.bp [.str p]])] [] (Rt (.c (.int .i64 (bH (fun f:Fi=>decide (f.path=p)) l))) []):=by
 refine ao (n:=19) (n0:=0) tabOk Tryz.call325 Tryz.func325 ?_;intro hb;have hb:l.length≤9223372036854775807:=hb.1.1;(conv=>whnf);refine lp Nat (fun i=>⟨[(0,.c (.bs 4 Fi aw l)),(1,.c (.fn 326 [.bp [.str p]])),(7,.c (.int .i64 l.length)),(8,.c (.int .i64 i))],[]⟩) (fun i=>i≤l.length∧(l.take i).any (fun f:Fi=>decide (f.path=p))=false) (fun i=>l.length-i) 0 [] [] ?_ ?_ (fun i hi=>?_)
 ·simp
 ·repeat' first|exact trivial|exact rfl|refine And.intro ?_ ?_
 (conv=>whnf);refine dec (fun h4=>?_) (fun h4=>?_)
 ·have hlt:i<l.length:=by omega
  repeat'((conv=>whnf);first|refine⟨_,_,rfl,List.getElem?_eq_getElem (by omega),?_⟩|fail)
  (conv=>whnf);refine cl [] [] (CI l[i] p) ?_;repeat'((conv=>whnf);first|(refine dec (fun h=>?_) (fun h=>?_)<;>try contradiction)|refine⟨i64 (by omega) (by omega),?_⟩|refine aI ?_|fail)
  ·exact jj hlt hi.2 (by simpa using h)
  ·refine ag (i+1) [] [] ⟨hlt,gq hlt hi.2 (by simpa using h)⟩ (by simp only[];omega) ?_;repeat' first|exact trivial|exact rfl|refine And.intro ?_ ?_
 ·repeat'((conv=>whnf);first|refine aI ?_|fail)
  have:=hi.2;rw[List.take_of_length_le (by omega)]at this;exact jM this
theorem find_spec(l:List Fi)(p:List UInt8):ae Tryz.prog 277 [.c (.bs 4 Fi aw l),.c (.str p)] [] (Rt (.tup [(true,aw (eb l p).1),(false,[.bool (eb l p).2])]) []):=by
 refine ao (n:=17) (n0:=0) tabOk Tryz.call277 Tryz.func277 ?_;intro hb;(conv=>whnf);refine cl [] [] (Du l p) ?_;rcases xy (p:=fun f:Fi=>decide (f.path=p)) (l:=l)with⟨k1,k2⟩|⟨k,k1,k2,k3⟩
 ·have e:eb l p=(jf,false):=by unfold eb;rw[k2]
  rw[e];(conv=>whnf);refine dec (fun _=>?_) (fun h=>absurd (by omega) h);(conv=>whnf);exact rx [] []
 ·have e:eb l p=(l[k],true):=by unfold eb;rw[k3]
  rw[e,k2];(conv=>whnf);refine⟨k,l[k],rfl,List.getElem?_eq_getElem k1,?_⟩;(conv=>whnf);exact rx [] []
end Go.Nest
end
section
namespace Go.Nest
open Go Go.AM Go.Proofs
open Go.Proofs.YtpechfcbnoggfaaGreatDoor (tab tabOk)
set_option maxRecDepth 4000
def eG(t:Int)(up:List Int)(x:List UInt8):Ob:=⟨3,[],[],t,up,x⟩
end Go.Nest
end
section
namespace Go.Nest
open Go Go.AM
def gW(x:It):Fi:=⟨x.path,3,x.id,x.au⟩
def bK:List Ob→List It→List Fi→List Fi×Int×List Ob
 |L,[],out=>(out,0,L)
 |L,x::r,out=>if x.link=true then bK L r (out++[gW x])else
  if(aA L (dv x.bytes)).2.1≠0 then([],(aA L (dv x.bytes)).2.1,(aA L (dv x.bytes)).2.2)else bK (aA L (dv x.bytes)).2.2 r (out++[⟨x.path,1,(aA L (dv x.bytes)).1,0⟩])
def aT(L:List Ob)(l:List It):Int×Int×List Ob:=
 if(bK L l []).2.1≠0 then(0,(bK L l []).2.1,(bK L l []).2.2)else cZ (bK L l []).2.2 (bK L l []).1
def mV(L:List Ob)(l:List It)(h t:Int):Bool:=if h<0 then decide (l.length=0)else decide ((ai L h).tree=t)
def fU(L:List Ob)(l:List It)(h:Int):Int:=if(aT L l).2.1≠0 then(aT L l).2.1 else if mV (aT L l).2.2 l h (aT L l).1=true then 0 else 13
def jx(h:Int)(others:List Int):List Int:=(if 0≤h then[h]else[])++others
def bn(L:List Ob)(l:List It)(h:Int)(text:List UInt8)(others:List Int):Int×Int×List Ob:=
 if(aT L l).2.1≠0 then(0,(aT L l).2.1,(aT L l).2.2)else if 0≤h∧mV (aT L l).2.2 l h (aT L l).1=true∧others.length=0 then(0,17,(aT L l).2.2)else
 if(aA (aT L l).2.2 (eG (aT L l).1 (jx h others) text)).2.1≠0 then(0,(aA (aT L l).2.2 (eG (aT L l).1 (jx h others) text)).2.1,(aA (aT L l).2.2 (eG (aT L l).1 (jx h others) text)).2.2)
 else aA (aT L l).2.2 (eG (aT L l).1 (jx h others) text)
def ky(L:List Ob)(l:List It)(h:Int)(text:List UInt8)(others:List Int):Int:=if(bn L l h text others).2.1=0 then(bn L l h text others).1 else h
def bW(L:List Ob)(f:Fi):It:=if f.mode=3 then⟨f.path,[],true,f.id,f.au⟩else⟨f.path,(ai L f.id).bytes,false,0,0⟩
def jn(L:List Ob)(l:List It)(fs:List Fi):List It:=if(cZ L fs).2.1≠0 then l else fs.map (bW (cZ L fs).2.2)
def eF(L:List Ob)(l:List It)(h id:Int):Int:=if kindOf L id≠3 then 9 else if fU L l h≠0 then fU L l h else(cL (aT L l).2.2 (ai L id).tree).2
def jG(L:List Ob)(l:List It)(id:Int):List Ob:=if kindOf L id≠3 then L else(aT L l).2.2
def jH(L:List Ob)(l:List It)(h id:Int):List It:=if eF L l h id≠0 then l else(cL (aT L l).2.2 (ai L id).tree).1.map (bW (aT L l).2.2)
def jF(L:List Ob)(l:List It)(h id:Int):Int:=if eF L l h id≠0 then h else id
def cP(x:It):Dc:=⟨x.path,x.bytes⟩
def cA(l:List It):List Fi:=(l.filter fun x=>x.link).map gW
theorem ll:∀{l:List It} {L:List Ob} {out:List Fi},aj L→aj (bK L l out).2.2∧L<+:(bK L l out).2.2
 |[],L,out,h=>⟨h,List.prefix_refl _⟩
 |x::r,L,out,h=>by
  unfold bK;split
  ·exact ll h
  split
  ·exact⟨iM h _,jV _⟩
  ·obtain⟨h1,h2⟩:=ll (l:=r) (out:=out++[⟨x.path,1,(aA L (dv x.bytes)).1,0⟩]) (iM h (dv x.bytes));exact⟨h1,(jV _).trans h2⟩
theorem kV{L:List Ob}{l:List It}(h:aj L):aj (aT L l).2.2∧L<+:(aT L l).2.2:=by
 obtain⟨h1,h2⟩:=ll (l:=l) (out:=[]) h;unfold aT;split
 ·exact⟨h1,h2⟩
 ·obtain⟨h3,h4⟩:=k9 h1 (bK L l []).1;exact⟨h3,h2.trans h4⟩
theorem pt{L:List Ob}{l:List It}{h:Int}{text:List UInt8}{others:List Int}(hL:aj L):aj (bn L l h text others).2.2∧L<+:(bn L l h text others).2.2:=by
 obtain⟨h1,h2⟩:=kV (l:=l) hL;unfold bn;split
 ·exact⟨h1,h2⟩
 split
 ·exact⟨h1,h2⟩
 split
 ·exact⟨iM h1 _,h2.trans (jV _)⟩
 ·exact⟨iM h1 _,h2.trans (jV _)⟩
theorem vX{L:List Ob}{l:List It}{id:Int}(hL:aj L):aj (jG L l id)∧L<+:jG L l id:=by
 unfold jG;split
 ·exact⟨hL,List.prefix_refl _⟩
 ·exact kV hL
theorem sB{n:Nat}:∀{l:List It} {L:List Ob} {out:List Fi},(∀f∈out,f.path.length≤n)→(∀x∈l,x.path.length≤n)→∀f∈(bK L l out).1,f.path.length≤n
 |[],L,out,h,_=>h
 |x::r,L,out,h,hl=>by
  have hx:=hl x (by simp);have hr:∀y∈r,y.path.length≤n:=fun y hy=>hl y (by simp[hy]);unfold bK;split
  ·refine sB (fun f hf=>?_) hr;rcases List.mem_append.1 hf with hf|hf
   ·exact h f hf
   ·rw[List.mem_singleton]at hf;subst hf;exact hx
  split
  ·intro f hf;cases hf
  ·refine sB (fun f hf=>?_) hr;rcases List.mem_append.1 hf with hf|hf
   ·exact h f hf
   ·rw[List.mem_singleton]at hf;subst hf;exact hx
end Go.Nest
end
section
namespace Go.Nest
open Go Go.AM
theorem Fv{L:List Ob}(hp:aj L){id:Int}(hk:¬kindOf L id=0):aA L (ai L id)=(id,0,L):=by
 obtain⟨h1,h2⟩:=c9 hk;rw[jg h1 h2,yT hp h2];simp;omega
theorem yV{L M:List Ob}{o:Ob}(ho:o.kind≠0)(h:(aA L o).2.1=0)(hM:aj M)(hx:(aA L o).2.2<+:M):aA M o=((aA L o).1,0,M)∧ai M (aA L o).1=o:=by
 obtain⟨h1,h2⟩:=kQ h;have hk:¬kindOf (aA L o).2.2 (aA L o).1=0:=by rw[←fp,h2];exact ho
 have e:=ext_get hx hk;rw[h2]at e;have hk2:¬kindOf M (aA L o).1=0:=by rw[dE hx hk];exact hk
 have:=Fv hM hk2;rw[e]at this;exact⟨this,e⟩
theorem yW{L:List Ob}{o:Ob}(h:(aA L o).2.1≠0):(aA L o).2.2=L:=by
 unfold aA at h⊢;split
 ·rfl
 split
 ·rfl
 split
 ·rfl
 split
 ·rfl
 ·rename_i h1 h2 h3 h4;rw[if_neg h1,if_neg h2,if_neg h3,if_neg h4]at h;exact absurd rfl h
structure Kept(L:List Ob)(t:Int)(fs:List Fi):Prop where
 tree:fP true L t fs
 ok:cR fs=0
theorem Kept.mono{L M:List Ob}{t:Int}{fs:List Fi}(h:Kept L t fs)(hx:L<+:M):Kept M t fs:=⟨h.tree.mono hx,h.ok⟩
theorem Kept.files{L:List Ob}{t:Int}{fs:List Fi}(h:Kept L t fs)(hp:aj L):cL L t=(fs,0):=
 G7 hp h.tree (kq h.ok).1 fun f hf=>(qR ((kq h.ok).2 f hf).1).2.1
theorem Kept.build{L:List Ob}{t:Int}{fs:List Fi}(h:Kept L t fs)(hp:aj L):cZ L fs=(t,0,L):=by
 unfold cZ;rw[if_neg (by simpa using h.ok)];exact(G6 hp h.tree (Nat.lt_succ_self _)).2 rfl
theorem Kept.of{L:List Ob}{fs:List Fi}(hp:aj L)(h:(cZ L fs).2.1=0):Kept (cZ L fs).2.2 (cZ L fs).1 fs:=⟨(pj hp h).2,(pj hp h).1⟩
end Go.Nest
end
