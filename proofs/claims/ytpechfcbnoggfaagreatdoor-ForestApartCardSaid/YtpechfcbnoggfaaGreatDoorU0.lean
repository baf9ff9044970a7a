/- part -/
import Derived.Test.YtpechfcbnoggfaaGreatDoorS3
import Derived.Test.YtpechfcbnoggfaaGreatDoorJ1
import Derived.Test.YtpechfcbnoggfaaGreatDoorG10
import Derived.Test.YtpechfcbnoggfaaGreatDoorAmH
import Derived.Test.YtpechfcbnoggfaaGreatDoorV1
set_option linter.unusedVariables false
set_option linter.unusedSimpArgs false
section
namespace Go.Nest
open Go Go.AM Go.Proofs Go.RowKit
open Go.Proofs.YtpechfcbnoggfaaGreatDoor (tab tabOk)
set_option maxRecDepth 4000
theorem vg:∀l:List (List UInt8),Lib.join l [47]=ck l
 |[]=>rfl
 |[x]=>by simp[Lib.join,ck]
 |x::y::r=>by
  have:=vg (y::r);simp[Lib.join,ck]at this⊢;rw[←this]
theorem E7:Builder.Extra Tryz.prog Bw where
 sizeBuilder:=by kernel_rfl
 liesBuilder:=by kernel_rfl
 t5:=Tryz.underlying5
 a5:=Tryz.isAgg5
 z5:=Tryz.sizeOf5
 v5:=Tryz.zeroValue5
 infoByte:=by kernel_rfl
 cellsByte:=by kernel_rfl
 sizeByte:=by kernel_rfl
 neB5:=by decide
theorem J4(l:List (List UInt8))(hl:l.length≤1000000)(hlen:(ck l).length≤140737488355328):ai Tryz.prog 190 [.c (.bs 1 (List UInt8) encS l),.c (.str [47])] [] (Rt (.c (.str (ck l))) []):=by
 cases l with
 |nil=>
  refine an (n:=75) (n0:=0) tabOk Tryz.call190 Tryz.func190 ?_;intro hb;(conv=>whnf);exact eJ rfl rfl
 |cons I D=>
  generalize d:I::D=l at*;have f:l≠[]:=by rw[←d];simp
  refine ai.HZ rfl Tryz.call190 (fun F L γ w E h e=>?_);match E,h with
  |[M,N],⟨t,u,_⟩=>
   cases u with
   |str _ _=>
    cases t with
    |eC _=>exact absurd rfl f
    | @bs _ _ _ _ _ b g cap o _ _ hb r J y K v _=>
     have p:=wL y;have i:(List.map (fun x:ByteArray=>x.data.toList) (List.map (fun s:List UInt8=>(⟨s.toArray⟩:ByteArray)) l))=l:=by rw[List.map_map];exact(List.map_congr_left (fun s _=>by simp)).trans (List.map_id' l)
     have a:=Any.strings_Join_48 GL E7 b g cap (l.map fun s=>⟨s.toArray⟩) ⟨[47].toArray⟩ w (fun j x k=>?_) (e b hb) (by simp;omega) (by simpa using r) (by rw[i];show(Lib.join l [47]).length≤_;rw[vg];omega)
     ·refine⟨NB.str (ck l),fun F H m=>.str (by omega) .nl,?_⟩;rw[i]at a;have q:Lib.join l (⟨[47].toArray⟩:ByteArray).data.toList=ck l:=vg l;rw[q,List.length_map]at a;exact a
     ·rw[List.getElem?_map]at k;obtain⟨s,z,rfl⟩:=Option.map_eq_some_iff.1 k;have:=v j (NB.str s) (by rw[p,List.getElem?_map,z];rfl);rw[NB.dY rfl];exact this
theorem Ba(l:List (List UInt8))(hl:l.length≤1000000)(hlen:(ck l).length≤140737488355328):ai Tryz.prog 298 [.c (.bs 1 (List UInt8) encS l)] [] (Rt (.c (.str (ck l))) []):=by
 refine an (n:=5) (n0:=0) tabOk Tryz.call298 Tryz.func298 ?_;intro hb;(conv=>whnf);refine cl [] [] (J4 l hl hlen) ?_;(conv=>whnf);exact eJ rfl rfl
end Go.Nest
end
section
namespace Go.Nest
open Go Go.AM Go.Proofs
open Go.Proofs.YtpechfcbnoggfaaGreatDoor (tab tabOk)
set_option maxRecDepth 4000
theorem nV{a b:Fi}:eX (aA a) (aA b)↔a=b:=by
 cases a;cases b;simp[aA,eX,mM]
theorem qZ(l:List (List UInt8))(hl:l.length*16≤140737488355328):ai Tryz.prog 297 [.c (.bs 1 (List UInt8) encS l)] [] (Rt (.c (.rw 0)) [.row 1 (List UInt8) encS l]):=by
 refine an (n:=8) (n0:=0) tabOk Tryz.call297 Tryz.func297 ?_;intro hb;(conv=>whnf);intro q a;(conv=>whnf);refine aW (fun h=>?_) (fun h=>?_)
 ·obtain rfl:=a h;(conv=>whnf);exact rx [] [.new]
 ·(conv=>whnf);refine⟨[],rfl,?_⟩;(conv=>whnf);refine⟨_,_,rfl,rfl,(by simp only[List.length_append,List.length_cons,List.length_nil];omega),?_⟩;(conv=>whnf);exact rx [] [.same 1]
theorem D7(s:List UInt8):ai Tryz.prog 186 [.c (.str s),.c (.str [47])] [] (Rt (.aL [(false,[.str (du s).1]),(false,[.str (du s).2.1]),(false,[.bool (du s).2.2])]) []):=by
 refine an (n:=23) (n0:=0) tabOk Tryz.call186 Tryz.func186 ?_;intro hb;have hb:s.length≤9223372036854775807:=hb.1.1;(conv=>whnf);refine cl [] [] (BY s) ?_;repeat'((conv=>whnf);first|(refine dec (fun h=>?_) (fun h=>?_)<;>try contradiction)|fail)
 ·have d:(Lib.indexByte s 47).toNat<s.length:=by
   by_cases a:s.count 47=0
   ·rw[uZ a]at h;omega
   ·obtain⟨m,e,f,_⟩:=u0 (l:=s) (by omega);omega
  have a:du s=(s.take (Lib.indexByte s 47).toNat,s.drop ((Lib.indexByte s 47).toNat+1),true):=by unfold du;rw[if_pos h]
  rw[a];(conv=>whnf);refine⟨false,.grow,(.l [0,1,2,3,4,5,6,7,8,9,10,11]),by kernel_rfl,.inl ?_⟩;(conv=>whnf);refine⟨0,(Lib.indexByte s 47).toNat,rfl,(Int.toNat_of_nonneg h).symm,⟨Nat.zero_le _,by omega⟩,?_⟩;refine⟨i64 (by simp;omega) (by simp;omega),?_⟩;(conv=>whnf);refine⟨(Lib.indexByte s 47).toNat+1,s.length,?_,rfl,⟨by omega,Nat.le_refl _⟩,?_⟩
  ·simp;omega
  (conv=>whnf);have b:s.take s.length=s:=List.take_of_length_le (Nat.le_refl _);rw[b];exact rx [] []
 ·have a:du s=(s,[],false):=by unfold du;rw[if_neg h]
  rw[a];(conv=>whnf);exact rx [] []
theorem Ea(s:List UInt8):ai Tryz.prog 112 [.c (.str s),.c (.str [47])] [] (Rt (.aL [(false,[.str (du s).1]),(false,[.str (du s).2.1]),(false,[.bool (du s).2.2])]) []):=by
 refine an (n:=13) (n0:=0) tabOk Tryz.call112 Tryz.func112 ?_;intro hb;(conv=>whnf);refine cl [] [] (D7 s) ?_;(conv=>whnf);exact rx [] []
end Go.Nest
end
section
namespace Go.Nest
open Go Go.AM Go.Proofs
open Go.Proofs.YtpechfcbnoggfaaGreatDoor (tab tabOk)
set_option maxRecDepth 4000
def dq(b:List UInt8):Ob:=⟨1,b,[],0,[],[]⟩
end Go.Nest
end
section
namespace Go.Nest
open Go Go.AM
def ll(p:List UInt8)(y:It):Bool:=(fM p y.path).2||(fM y.path p).2
def dF(p:List UInt8)(y:It):Bool:=decide (y.path=p)
def ir(l:List It)(p:List UInt8):Nat:=(l.takeWhile fun y=>aR y.path p).length
def eT(l:List It)(x:It):Int×List It:=
 if(cj x.path).2≠0 then((cj x.path).2,l)else if l.any (ll x.path)=true then(10,l)else
 if 0≤bh (dF x.path) l then(0,l.set (bh (dF x.path) l).toNat x)else if l.length=60 then(5,l)else(0,l.take (ir l x.path)++x::l.drop (ir l x.path))
def fZ(l:List It)(p:List UInt8):Int×List It:=
 if bh (dF p) l<0 then(9,l)else(0,l.take (bh (dF p) l).toNat++l.drop ((bh (dF p) l).toNat+1))
def sJ(l:List It)(p:List UInt8):Int×List It:=
 if(l.filter fun y=>decide (y.path≠p)).length=l.length then(9,l)else(0,l.filter fun y=>decide (y.path≠p))
structure gQ(l:List It):Prop where
 ris:jv (·.path) l
 len:l.length≤60
 path:∀x∈l,(cj x.path).2=0
 apart:∀x∈l,∀y∈l,(fM x.path y.path).2=false
theorem gQ.nil:gQ []:=⟨.nil,by decide,fun x h=>(by cases h),fun x h=>(by cases h)⟩
theorem IE{l:List It}{p:List UInt8}:ir l p≤l.length:=(List.takeWhile_sublist _).length_le
theorem Kh(l:List It)(p:List UInt8):l.take (ir l p)=l.takeWhile fun y=>aR y.path p:=by
 unfold ir;have h:l.takeWhile (fun y=>aR y.path p)++l.dropWhile (fun y=>aR y.path p)=l:=List.takeWhile_append_dropWhile
 calc l.take (l.takeWhile fun y=>aR y.path p).length=(l.takeWhile (fun y=>aR y.path p)++l.dropWhile (fun y=>aR y.path p)).take (l.takeWhile fun y=>aR y.path p).length:=by rw[h]
  _=_:=List.take_left' rfl
theorem ES(l:List It)(p:List UInt8):l.drop (ir l p)=l.dropWhile fun y=>aR y.path p:=by
 unfold ir;have h:l.takeWhile (fun y=>aR y.path p)++l.dropWhile (fun y=>aR y.path p)=l:=List.takeWhile_append_dropWhile
 calc l.drop (l.takeWhile fun y=>aR y.path p).length=(l.takeWhile (fun y=>aR y.path p)++l.dropWhile (fun y=>aR y.path p)).drop (l.takeWhile fun y=>aR y.path p).length:=by rw[h]
  _=_:=List.drop_left' rfl
theorem AF{α:Type}{p:α→Bool}:∀{l:List α} {x:α},x∈l.takeWhile p→p x=true∧x∈l
 |[],x,h=>by cases h
 |y::l,x,h=>by
  rw[List.takeWhile_cons]at h;split at h
  ·rename_i a;rcases List.mem_cons.1 h with rfl|h
   ·exact⟨a,by simp⟩
   ·have:=AF h;exact⟨this.1,by simp[this.2]⟩
  ·cases h
theorem yG{p:List UInt8}:∀{l:List It},jv (·.path) l→∀y∈l.dropWhile (fun y=>aR y.path p),aR y.path p=false
 |[],_,y,h=>by cases h
 |x::l,d,y,h=>by
  obtain⟨b,c⟩:=List.pairwise_cons.1 d;rw[List.dropWhile_cons]at h;split at h
  ·exact yG c y h
  ·rename_i a;have a:aR x.path p=false:=by simpa using a
   rcases List.mem_cons.1 h with rfl|h
   ·exact a
   ·cases e:aR y.path p with
    |false=>rfl
    |true=>rw[mg (b y h) e]at a;cases a
theorem qR{p:List UInt8}{y:It}:dF p y=true↔y.path=p:=by unfold dF;simp
theorem uX{α:Type}{p:α→Bool}{l:List α}:0≤bh p l↔∃x∈l,p x=true:=by
 have:=oh (p:=p) (l:=l);constructor
 ·intro h;have a:l.any p=true:=by rw[←this];simpa using h
  simpa using a
 ·rintro⟨x,b,h⟩;have a:l.any p=true:=List.any_eq_true.2 ⟨x,b,h⟩;rw[←this]at a;simpa using a
theorem uY{α:Type}{p:α→Bool}{l:List α}:(bh p l= -1∧l.any p=false)∨∃(i:Nat) (h:i<l.length),bh p l=i∧(l.take i).any p=false∧p l[i]=true:=by
 unfold bh;cases h:l.findIdx? p with
 |none=>
  rw[List.findIdx?_eq_none_iff]at h;exact .inl ⟨rfl,by rw[List.any_eq_false];intro x a;simp[h x a]⟩
 |some i=>
  rw[List.findIdx?_eq_some_iff_getElem]at h;obtain⟨b,c,d⟩:=h;refine .inr ⟨i,b,rfl,?_,c⟩;rw[List.any_eq_false];intro x a;obtain⟨j,f,e⟩:=List.mem_take_iff_getElem.1 a;rw[←e];exact d j (by omega)
theorem F3{l:List It}(h:jv (·.path) l){k:Nat}(hk:k<l.length):bh (dF l[k].path) l=k:=by
 rcases uY (p:=dF l[k].path) (l:=l)with⟨_,e⟩|⟨i,b,c,d,a⟩
 ·rw[List.any_eq_false]at e;exact absurd (qR.2 rfl) (e _ (List.getElem_mem hk))
 ·rw[c];have a:=qR.1 a;rcases Nat.lt_trichotomy i k with hlt|rfl|hlt
  ·have:=List.pairwise_iff_getElem.1 h i k b hk hlt;exact absurd a (pJ this)
  ·rfl
  ·have:=List.pairwise_iff_getElem.1 h k i hk b hlt;exact absurd a.symm (pJ this)
end Go.Nest
end
section
namespace Go.Nest
open Go Go.AM Go.Proofs
open Go.Proofs.YtpechfcbnoggfaaGreatDoor (tab tabOk)
set_option maxRecDepth 4000
def gE(l:List Fi):Nat→Option Fi
 |0=>none
 |i+1=>l[i]?
theorem DF{l:List Fi}{i:Nat}(h:i<l.length):fQ (gE l i) (l.drop i)=if(cj l[i].path).2≠0 then(cj l[i].path).2 else if l[i].mode≠1∧l[i].mode≠3 then 6 else if eg (gE l i) l[i]≠0 then eg (gE l i) l[i]else fQ (gE l (i+1)) (l.drop (i+1)):=by
 rw[List.drop_eq_getElem_cons h];rw[show gE l (i+1)=some l[i]from List.getElem?_eq_getElem h];rfl
theorem sY{p d:List UInt8}:(fM p d).2=(under p d).isSome:=by
 unfold fM;cases under p d<;>rfl
set_option maxHeartbeats 2000000 in
theorem DI(l:List Fi)(hl:l.length≤60)(o:∀f∈l,f.path.length≤4000000):ai Tryz.prog 101 [.c (.bs 4 Fi aA l)] [] (Rt (.c (.int .i64 (fQ none l))) []):=by
 refine an (n:=68) (n0:=0) tabOk Tryz.call101 Tryz.func101 ?_;intro hb;(conv=>whnf);refine dec (fun h=>by omega) (fun u=>?_);(conv=>whnf);refine lp Nat (fun i=>⟨[(0,.c (.bs 4 Fi aA l)),(12,.c (.bs 4 Fi aA l)),(13,.c (.int .i64 l.length)),(14,.c (.int .i64 i))],[]⟩) (fun i=>i≤l.length∧fQ none l=fQ (gE l i) (l.drop i)) (fun i=>l.length-i) 0 [] [] ?_ ?_ (fun i t=>?_)
 ·exact⟨Nat.zero_le _,rfl⟩
 ·repeat' first|exact trivial|exact rfl|refine And.intro ?_ ?_
 obtain⟨v,a⟩:=t;(conv=>whnf);refine dec (fun s=>?_) (fun s=>?_)
 ·have e:i<l.length:=by omega
  rw[DF e]at a;(conv=>whnf);refine⟨i,l[i],rfl,List.getElem?_eq_getElem e,?_⟩;(conv=>whnf);refine cl [] [] (vX l[i].path (o _ (List.getElem_mem _))) ?_;(conv=>whnf);refine ay (fun p=>?_) (fun p=>?_)
  ·rw[if_pos p]at a;repeat'((conv=>whnf);first|refine aK ?_|fail)
   exact a.symm
  ·rw[if_neg (by simpa using p)]at a;(conv=>whnf);refine ay (fun q=>?_) (fun q=>?_)
   ·(conv=>whnf);refine ay (fun g=>?_) (fun g=>?_)
    ·rw[if_pos ⟨q,g⟩]at a;repeat'((conv=>whnf);first|refine aK ?_|fail)
     exact a.symm
    ·rw[if_neg (fun h=>h.2 g)]at a;(conv=>whnf);refine⟨false,.grow,(.l [0,1,2,3,4,5,6,7,8,9,10,11,12,13,14]),by kernel_rfl,.inl ?_⟩;(conv=>whnf);refine dec (fun g=>?_) (fun g=>?_)
     ·have r:0<i:=by omega
      have d:gE l i=some l[i-1]:=by
       obtain⟨j,rfl⟩:∃j,i=j+1:=⟨i-1,by omega⟩;exact List.getElem?_eq_getElem (by omega)
      (conv=>whnf);refine⟨i64 (by omega) (by omega),?_⟩;(conv=>whnf);refine⟨i-1,l[i-1],by omega,List.getElem?_eq_getElem (by omega),?_⟩;(conv=>whnf);refine cl [] [] (pK l[i-1].path l[i].path (o _ (List.getElem_mem _)) (o _ (List.getElem_mem _))) ?_;(conv=>whnf);refine dV (fun k=>?_) (fun k=>?_)
      ·have b:eg (gE l i) l[i]=8:=by rw[d];unfold eg;simp[k]
       rw[b,if_pos (by decide)]at a;repeat'((conv=>whnf);first|refine aK ?_|fail)
       exact a.symm
      ·(conv=>whnf);refine dec (fun _=>?_) (fun h=>absurd g h);(conv=>whnf);refine⟨false,.grow,(.l [0,1,2,3,4,5,6,7,8,9,10,11,12,13]),by kernel_rfl,.inl ?_⟩;(conv=>whnf);refine⟨i64 (by omega) (by omega),?_⟩;(conv=>whnf);refine⟨i-1,l[i-1],by omega,List.getElem?_eq_getElem (by omega),?_⟩;(conv=>whnf);refine cl [] [] (qv l[i].path l[i-1].path (o _ (List.getElem_mem _))) ?_;rw[sY];(conv=>whnf);refine aW (fun m=>?_) (fun m=>?_)
       ·have b:eg (gE l i) l[i]=10:=by rw[d];unfold eg;simp[k,m]
        rw[b,if_pos (by decide)]at a;repeat'((conv=>whnf);first|refine aK ?_|fail)
        exact a.symm
       ·have b:eg (gE l i) l[i]=0:=by rw[d];unfold eg;simp[k,m]
        rw[b,if_neg (by decide)]at a;repeat'((conv=>whnf);refine I6 ?_)
        refine ag (i+1) [] [] ⟨e,a⟩ (by simp only[];omega) ?_;repeat' first|exact trivial|exact rfl|refine And.intro ?_ ?_
     ·obtain rfl:i=0:=by omega
      have b:eg (gE l 0) l[0]=0:=rfl;rw[b,if_neg (by decide)]at a;repeat'((conv=>whnf);refine I6 ?_)
      refine ag (0+1) [] [] ⟨e,a⟩ (by simp only[];omega) ?_;repeat' first|exact trivial|exact rfl|refine And.intro ?_ ?_
   ·rw[if_neg (fun h=>h.1 q)]at a;(conv=>whnf);refine⟨false,.grow,(.l [0,1,2,3,4,5,6,7,8,9,10,11,12,13,14]),by kernel_rfl,.inl ?_⟩;(conv=>whnf);refine dec (fun g=>?_) (fun g=>?_)
    ·have r:0<i:=by omega
     have d:gE l i=some l[i-1]:=by
      obtain⟨j,rfl⟩:∃j,i=j+1:=⟨i-1,by omega⟩;exact List.getElem?_eq_getElem (by omega)
     (conv=>whnf);refine⟨i64 (by omega) (by omega),?_⟩;(conv=>whnf);refine⟨i-1,l[i-1],by omega,List.getElem?_eq_getElem (by omega),?_⟩;(conv=>whnf);refine cl [] [] (pK l[i-1].path l[i].path (o _ (List.getElem_mem _)) (o _ (List.getElem_mem _))) ?_;(conv=>whnf);refine dV (fun k=>?_) (fun k=>?_)
     ·have b:eg (gE l i) l[i]=8:=by rw[d];unfold eg;simp[k]
      rw[b,if_pos (by decide)]at a;repeat'((conv=>whnf);first|refine aK ?_|fail)
      exact a.symm
     ·(conv=>whnf);refine dec (fun _=>?_) (fun h=>absurd g h);(conv=>whnf);refine⟨false,.grow,(.l [0,1,2,3,4,5,6,7,8,9,10,11,12,13]),by kernel_rfl,.inl ?_⟩;(conv=>whnf);refine⟨i64 (by omega) (by omega),?_⟩;(conv=>whnf);refine⟨i-1,l[i-1],by omega,List.getElem?_eq_getElem (by omega),?_⟩;(conv=>whnf);refine cl [] [] (qv l[i].path l[i-1].path (o _ (List.getElem_mem _))) ?_;rw[sY];(conv=>whnf);refine aW (fun m=>?_) (fun m=>?_)
      ·have b:eg (gE l i) l[i]=10:=by rw[d];unfold eg;simp[k,m]
       rw[b,if_pos (by decide)]at a;repeat'((conv=>whnf);first|refine aK ?_|fail)
       exact a.symm
      ·have b:eg (gE l i) l[i]=0:=by rw[d];unfold eg;simp[k,m]
       rw[b,if_neg (by decide)]at a;repeat'((conv=>whnf);refine I6 ?_)
       refine ag (i+1) [] [] ⟨e,a⟩ (by simp only[];omega) ?_;repeat' first|exact trivial|exact rfl|refine And.intro ?_ ?_
    ·obtain rfl:i=0:=by omega
     have b:eg (gE l 0) l[0]=0:=rfl;rw[b,if_neg (by decide)]at a;repeat'((conv=>whnf);refine I6 ?_)
     refine ag (0+1) [] [] ⟨e,a⟩ (by simp only[];omega) ?_;repeat' first|exact trivial|exact rfl|refine And.intro ?_ ?_
 ·rw[List.drop_of_length_le (by omega)]at a;repeat'((conv=>whnf);first|refine aK ?_|fail)
  rw[a];unfold fQ;rfl
theorem nY(l:List Fi)(a:∀f∈l,f.path.length≤4000000):ai Tryz.prog 101 [.c (.bs 4 Fi aA l)] [] (Rt (.c (.int .i64 (cq l))) []):=by
 by_cases h:60<l.length
 ·refine an (n:=68) (n0:=0) tabOk Tryz.call101 Tryz.func101 ?_;intro hb;repeat'((conv=>whnf);first|(refine dec (fun h=>?_) (fun h=>?_)<;>try contradiction)|refine aK ?_|fail)
  ·unfold cq;rw[if_pos (by omega)]
  ·omega
 ·have:=DI l (by omega) a;unfold cq;rw[if_neg h];exact this
end Go.Nest
end
section
namespace Go.Nest
open Go Go.AM Go.Proofs
open Go.Proofs.YtpechfcbnoggfaaGreatDoor (tab tabOk)
set_option maxRecDepth 4000
theorem zS(name:List UInt8)(l:List Fi):(bm name l).1.length+(bm name l).2.length=l.length:=by
 conv=>rhs;rw[pG name l]
 rw[List.length_append,List.length_map]
theorem zU(name:List UInt8){l:List Fi}(h:∀f∈l,f.path.length≤4000000):(∀f∈(bm name l).1,f.path.length≤4000000)∧∀f∈(bm name l).2,f.path.length≤4000000:=by
 have e:=pG name l;refine⟨fun f a=>?_,fun f a=>?_⟩
 ·have:=h (pre name f) (by rw[e];exact List.mem_append.2 (.inl (List.mem_map.2 ⟨f,a,rfl⟩)));rw[show(pre name f).path=name++47::f.path from rfl,List.length_append,List.length_cons]at this;omega
 ·exact h f (by rw[e];exact List.mem_append.2 (.inr a))
theorem Gy{name:List UInt8}{f:Fi}{r:List Fi}{p:List UInt8}(h:under f.path name=some p):bm name (f::r)=(⟨p,f.mode,f.id,f.ar⟩::(bm name r).1,(bm name r).2):=by
 rw[bm,h]
theorem Gz{name:List UInt8}{f:Fi}{r:List Fi}(h:under f.path name=none):bm name (f::r)=([],f::r):=by
 rw[bm,h]
set_option maxHeartbeats 4000000 in
theorem DB:∀(n:Nat) (L:List Ob) (l:List Fi),mu l<n→ae L→l.length≤60→(∀f∈l,f.path.length≤4000000)→ai Tryz.prog 315 [.c (.ptr 0 0),.c (.bs 4 Fi aA l)] [.box [.rw 1],.row 6 Ob ak L] (Rt (.aL [(false,[.int .i64 (aN n L [] l).1]),(false,[.int .i64 (aN n L [] l).2.1])]) [.box [.rw 2],.dead,.row 6 Ob ak (aN n L [] l).2.2]):=by
 intro n;induction n using Nat.strongRecOn with
 |_ n ih=>
 intro L l hn hL hl hp;refine an (n:=95) (n0:=2) tabOk Tryz.call315 Tryz.func315 ?_;intro hb;(conv=>whnf)
 refine lp (Nat×List Ob×List aF×List Fi) (fun x=>⟨[(0,.c (.ptr 0 0)),(1,.c (.bs 4 Fi aA x.2.2.2)),(6,.c (.rw 3))],[.box [.rw 2],.dead,.row 6 Ob ak x.2.1,.row 4 aF cX x.2.2.1]⟩)
  (fun x=>(x.1≤n∧mu x.2.2.2<x.1∧x.2.2.1.length+x.2.2.2.length≤60)∧ae x.2.1∧(∀f∈x.2.2.2,f.path.length≤4000000)∧aN n L [] l=aN x.1 x.2.1 x.2.2.1 x.2.2.2) (fun x=>x.2.2.2.length) (n,L,[],l) [] [.same 0,.same 1,.same 1,.new] ?_ ?_ (fun x J=>?_)
 ·exact⟨⟨Nat.le_refl _,hn,by simpa using hl⟩,hL,hp,rfl⟩
 ·repeat' first|exact trivial|exact rfl|refine And.intro ?_ ?_
 obtain⟨k,M,o,q⟩:=x;obtain⟨⟨Z,U,W⟩,D,H,z⟩:=J;dsimp only at Z U W D H z;have P:=D.len;obtain⟨k,rfl⟩:∃m,k=m+1:=⟨k-1,by omega⟩;cases q with
 |nil=>
  rw[show aN (k+1) M o []=ao M (ew o)from rfl]at z;rw[z];(conv=>whnf);refine cl [3] [0,2] (qd M (ew o) P) ?_;(conv=>whnf);exact rx [] [.same 0,.same 1,.same 4]
 |cons f r=>
  rw[kJ]at U;rw[List.length_cons]at W;have Y:=H f (by simp);have hr:∀f∈r,f.path.length≤4000000:=fun x J=>H x (by simp[J]);(conv=>whnf);refine dec (fun _=>?_) (fun h=>absurd (by simp) h);(conv=>whnf);refine⟨0,f,rfl,rfl,?_⟩;(conv=>whnf);refine cl [] [] (Ea f.path) ?_;by_cases I:f.path.count 47=0
  ·have e:aN (k+1) M o (f::r)=aN k M (o++[⟨f.path,f.mode,f.id,f.ar⟩]) r:=by rw[aN,if_pos I]
   rw[e]at z;rw[D9 I];(conv=>whnf);refine⟨false,.grow,(.l [0,1,2,3,4,5,6,7,8,9,10,11,12,13,14,15,16,17]),by kernel_rfl,.inl ?_⟩;(conv=>whnf);refine⟨0,f,rfl,rfl,?_⟩;(conv=>whnf);refine⟨0,f,rfl,rfl,?_⟩;(conv=>whnf);refine⟨0,f,rfl,rfl,?_⟩;(conv=>whnf);refine⟨[⟨f.path,f.mode,f.id,f.ar⟩],rfl,?_⟩;(conv=>whnf);refine⟨_,_,rfl,rfl,(by simp only[List.length_append,List.length_cons,List.length_nil];omega),?_⟩;(conv=>whnf);refine⟨1,(f::r).length,rfl,rfl,⟨by simp,Nat.le_refl _⟩,?_⟩;(conv=>whnf);have tr:List.take ((f::r).length-1) (List.drop 1 (k+1,M,o,f::r).2.2.2)=r:=by simp
   rw[tr];refine ag (k,M,o++[⟨f.path,f.mode,f.id,f.ar⟩],r) [] [.same 0,.same 1,.same 2,.same 5] ⟨⟨by simp only[];omega,by simp only[];omega,by simp;omega⟩,D,hr,z⟩ (by simp) ?_;repeat' first|exact trivial|exact rfl|refine And.intro ?_ ?_
  ·obtain⟨a,b,t,u,ha⟩:=uj I;have S:(du f.path).1=a:=by rw[t]
   have Q:a.length≤4000000:=by rw[u]at Y;simp at Y;omega
   rw[t];(conv=>whnf)
   refine lp (List Fi×List Fi) (fun y=>⟨[(0,.c (.ptr 0 0)),(1,.c (.bs 4 Fi aA y.2)),(6,.c (.rw 3)),(7,.c (.str a)),(10,.c (.rw 4))],[.box [.rw 2],.dead,.row 6 Ob ak M,.row 4 aF cX o,.row 4 Fi aA y.1]⟩)
    (fun y=>(y.1.length+y.2.length≤60∧True)∧(∀f∈y.2,f.path.length≤4000000)∧bm a (f::r)=(y.1++(bm a y.2).1,(bm a y.2).2)) (fun y=>y.2.length) ([],f::r) [] [.same 0,.same 1,.same 2,.same 3,.new] ?_ ?_ (fun y hy=>?_)
   ·exact⟨⟨by simp;omega,trivial⟩,H,rfl⟩
   ·repeat' first|exact trivial|exact rfl|refine And.intro ?_ ?_
   obtain⟨d,q⟩:=y;obtain⟨⟨T,_⟩,O,K⟩:=hy;dsimp only at T O K;cases q with
   |nil=>
    have s:bm a (f::r)=(d,[]):=by rw[K];simp[bm]
    (conv=>whnf);have w:=rL (r:=r) u;rw[s,kJ]at w;dsimp only at w;have e:aN (k+1) M o (f::r)=if(aN k M [] d).2.1≠0 then(0,(aN k M [] d).2.1,(aN k M [] d).2.2)else aN k (aN k M [] d).2.2 (o++[⟨a,2,(aN k M [] d).1,0⟩]) []:=by rw[aN,if_neg I,t];dsimp only;rw[s]
    have v:d.length+ @List.length Fi []=r.length+1:=by have:=zS a (f::r);rw[s]at this;simpa using this
    have j:=rM (r:=r) u;rw[s]at j;have j:0<d.length:=List.length_pos_iff.2 j;have i:=zU a H;rw[s]at i;have F:=(ku k M [] d D).1;refine cl [4] [0,2] (ih k (by omega) M d (by omega) D (by omega) i.1) ?_;generalize aN k M [] d=R at*;(conv=>whnf);refine ay (fun E=>?_) (fun E=>?_)
    ·rw[if_pos E]at e;rw[z,e];(conv=>whnf);exact rx [] [.same 0,.same 1,.same 5]
    ·rw[if_neg (by simpa using E)]at e;(conv=>whnf);refine⟨[⟨a,2,R.1,0⟩],rfl,?_⟩;(conv=>whnf);refine⟨_,_,rfl,rfl,(by simp only[List.length_append,List.length_cons,List.length_nil];omega),?_⟩;skip;refine ag (k,R.2.2,o++[⟨a,2,R.1,0⟩],[]) [] [.same 0,.same 1,.same 5,.same 7] ⟨⟨by simp only[];omega,by simp only[];omega,by simp only[List.length_append,List.length_cons,List.length_nil]at v⊢;omega⟩,F,i.2,by rw[z,e]⟩ (by simp only[List.length_cons,List.length_nil]at v⊢;omega) ?_;repeat' first|exact trivial|exact rfl|refine And.intro ?_ ?_
   |cons g q=>
    have ac:=O g (by simp);(conv=>whnf);refine dec (fun _=>?_) (fun h=>absurd (by simp) h);(conv=>whnf);refine⟨0,g,rfl,rfl,?_⟩;(conv=>whnf);refine cl [] [] (qv g.path a Q) ?_;cases N:under g.path a with
    |none=>
     have s:bm a (f::r)=(d,g::q):=by rw[K,Gz N];simp
     rw[show fM g.path a=(g.path,false)by unfold fM;rw[N]];(conv=>whnf);have w:=rL (r:=r) u;rw[s,kJ]at w;dsimp only at w;have e:aN (k+1) M o (f::r)=if(aN k M [] d).2.1≠0 then(0,(aN k M [] d).2.1,(aN k M [] d).2.2)else aN k (aN k M [] d).2.2 (o++[⟨a,2,(aN k M [] d).1,0⟩]) (g::q):=by rw[aN,if_neg I,t];dsimp only;rw[s]
     have v:d.length+ @List.length Fi (g::q)=r.length+1:=by have:=zS a (f::r);rw[s]at this;simpa using this
     have j:=rM (r:=r) u;rw[s]at j;have j:0<d.length:=List.length_pos_iff.2 j;have i:=zU a H;rw[s]at i;have F:=(ku k M [] d D).1;refine cl [4] [0,2] (ih k (by omega) M d (by omega) D (by omega) i.1) ?_;generalize aN k M [] d=R at*;(conv=>whnf);refine ay (fun E=>?_) (fun E=>?_)
     ·rw[if_pos E]at e;rw[z,e];(conv=>whnf);exact rx [] [.same 0,.same 1,.same 5]
     ·rw[if_neg (by simpa using E)]at e;(conv=>whnf);refine⟨[⟨a,2,R.1,0⟩],rfl,?_⟩;(conv=>whnf);refine⟨_,_,rfl,rfl,(by simp only[List.length_append,List.length_cons,List.length_nil];omega),?_⟩;skip;refine ag (k,R.2.2,o++[⟨a,2,R.1,0⟩],(g::q)) [] [.same 0,.same 1,.same 5,.same 7] ⟨⟨by simp only[];omega,by simp only[];omega,by simp only[List.length_append,List.length_cons,List.length_nil]at v⊢;omega⟩,F,i.2,by rw[z,e]⟩ (by simp only[List.length_cons,List.length_nil]at v⊢;omega) ?_;repeat' first|exact trivial|exact rfl|refine And.intro ?_ ?_
    |some p=>
     have s:=K;rw[Gy N]at s;rw[show fM g.path a=(p,true)by unfold fM;rw[N]];(conv=>whnf);refine⟨0,g,rfl,rfl,?_⟩;(conv=>whnf);refine⟨[⟨p,g.mode,g.id,g.ar⟩],rfl,?_⟩;(conv=>whnf);rw[List.length_cons]at T;refine⟨_,_,rfl,rfl,(by simp only[List.length_append,List.length_cons,List.length_nil];omega),?_⟩;(conv=>whnf);refine⟨1,(g::q).length,rfl,rfl,⟨by simp,Nat.le_refl _⟩,?_⟩;(conv=>whnf);have tr:List.take ((g::q).length-1) (List.drop 1 (d,g::q).2)=q:=by simp
     rw[tr];refine ag (d++[⟨p,g.mode,g.id,g.ar⟩],q) [] [.same 0,.same 1,.same 2,.same 3,.same 7] ⟨⟨by simp;omega,trivial⟩,fun x J=>O x (by simp[J]),by rw[s];simp⟩ (by simp) ?_;repeat' first|exact trivial|exact rfl|refine And.intro ?_ ?_
end Go.Nest
end
section
namespace Go.Nest
open Go Go.AM Go.Proofs
open Go.Proofs.YtpechfcbnoggfaaGreatDoor (tab tabOk)
set_option maxRecDepth 4000
theorem yY(L:List Ob)(l:List Fi)(e:ae L)(b:∀f∈l,f.path.length≤4000000):ai Tryz.prog 269 [.c (.ptr 0 0),.c (.bs 4 Fi aA l)] [.box [.rw 1],.row 6 Ob ak L] (Rt (.aL [(false,[.int .i64 (bC L l).1]),(false,[.int .i64 (bC L l).2.1])]) [.box [.rw 2],.dead,.row 6 Ob ak (bC L l).2.2]):=by
 refine an (n:=17) (n0:=2) tabOk Tryz.call269 Tryz.func269 ?_;intro hb;(conv=>whnf);refine cl [] [] (nY l b) ?_;unfold bC;(conv=>whnf);refine ay (fun h=>?_) (fun h=>?_)
 ·rw[if_pos h];(conv=>whnf);exact rx [] [.same 0,.same 1,.same 1]
 ·have a:cq l=0:=by simpa using h
  have d:=(jG a).1;rw[if_neg (by simpa using a)];(conv=>whnf);refine cl [] [0,1] (DB (mu l+1) L l (Nat.lt_succ_self _) e d b) ?_;(conv=>whnf);exact rx [] [.same 0,.same 1,.same 2]
theorem qw:∀(l:List (List UInt8)),(∀s∈l,s.length≤20)→(ck l).length≤21*l.length
 |[],_=>by simp[ck]
 |[x],h=>by have:=h x (by simp);simp[ck];omega
 |x::y::r,h=>by
  have c:=h x (by simp);have b:=qw (y::r) (fun s a=>h s (by simp at a⊢;exact .inr a));simp[ck]at b⊢;omega
theorem sd{s:List UInt8}(h:bO s=0):s.length≤20:=by
 unfold bO at h;split at h
 ·cases h
 split at h
 ·cases h
 ·omega
theorem n9(L:List Ob):∀(n:Nat) (t:Int) (ins:List (List UInt8)) (out:List Fi),out.length≤60→(cz L n t ins out).2.length≤60
 |0,_,_,out,h=>h
 |n+1,t,ins,out,h=>by
  have b:∀(a:List aF) (out:List Fi),out.length≤60→(dJ (cz L n) ins a out).2.length≤60:=by
   intro a;induction a with
   |nil=>intro out h;exact h
   |cons e r ih=>
    intro out h;unfold dJ;split
    ·split
     ·exact n9 L n _ _ out h
     ·exact ih _ (n9 L n _ _ out h)
    ·split
     ·exact h
     ·exact ih _ (by rw[List.length_append,List.length_singleton];omega)
  unfold cz;split
  ·exact h
  split
  ·exact h
  ·exact b _ out h
set_option maxHeartbeats 4000000 in
theorem Fo(L:List Ob)(J:ae L):∀(n:Nat) (t:Int) (ins:List (List UInt8)) (out:List Fi),ins.length+n=8→(∀s∈ins,s.length≤20)→out.length≤60→ai Tryz.prog 248 [.c (.bp [.bs 6 Ob ak L]),.c (.int .i64 t),.c (.bs 1 (List UInt8) encS ins),.c (.ptr 0 0)] [.box [.rw 1],.row 4 Fi aA out]
  (Rt (.c (.int .i64 (cz L (n+1) t ins out).1)) [.box [.rw 2],.dead,.row 4 Fi aA (cz L (n+1) t ins out).2]):=by
 intro n;induction n using Nat.strongRecOn with
 |_ n ih=>
 intro t ins out Z Q g;refine an (n:=86) (n0:=2) tabOk Tryz.call248 Tryz.func248 ?_;intro hb;(conv=>whnf);refine cl [] [] (gT L J t) ?_;have D:=cH (l:=L) (id:=t);by_cases f:kindOf L t≠2
 ·have k:cz L (n+1) t ins out=(9,out):=by rw[cz,if_pos f]
  rw[k];by_cases z:kindOf L t=0
  ·rw[show decide (kindOf L t≠0)=false by simp[z]];(conv=>whnf);exact rx [] [.same 0,.same 1,.same 1]
  ·rw[show decide (kindOf L t≠0)=true by simp[z]];(conv=>whnf);refine ay (fun _=>?_) (fun h=>absurd (D.symm.trans h) f);(conv=>whnf);exact rx [] [.same 0,.same 1,.same 1]
 have f:kindOf L t=2:=Classical.not_not.1 f;rw[show decide (kindOf L t≠0)=true by simp[f]];have k:cz L (n+1) t ins out=if 8≤ins.length∧0<(ab L t).entries.length then(3,out)else dJ (cz L n) ins (ab L t).entries out:=by rw[cz,if_neg (by simpa using f)]
 obtain⟨W,E⟩:=gg J f;have U:=(J.tree f).2.2.1;generalize Y:ab L t=o at*;(conv=>whnf);refine ay (fun h=>absurd (D.trans f) h) (fun _=>?_);(conv=>whnf);have P:¬(8≤ins.length∧0<o.entries.length)→True:=fun _=>trivial;refine dec (fun H=>?_) (fun H=>?_)
 ·(conv=>whnf);refine dec (fun T=>?_) (fun T=>?_)
  ·have S:cz L (n+1) t ins out=(3,out):=by rw[k,if_pos (by omega)]
   rw[S];(conv=>whnf);exact rx [] [.same 0,.same 1,.same 1]
  ·rw[if_neg (by omega)]at k;have K:o.entries=[]:=List.eq_nil_of_length_eq_zero (by omega);have u:o.entries≠[]→ins.length<8:=fun h=>absurd K h;rw[k];(conv=>whnf)
   refine lp (Nat×List Fi) (fun x=>⟨[(0,.c (.bp [.bs 6 Ob ak L])),(2,.c (.bs 1 (List UInt8) encS ins)),(3,.c (.ptr 0 0)),(40,.c (.ls 4 aF cX o.entries)),(41,.c (.int .i64 o.entries.length)),(42,.c (.int .i64 x.1))],[.box [.rw 2],.dead,.row 4 Fi aA x.2]⟩)
    (fun x=>(x.1≤o.entries.length∧x.2.length≤60)∧dJ (cz L n) ins o.entries out=dJ (cz L n) ins (o.entries.drop x.1) x.2) (fun x=>o.entries.length-x.1) (0,out) [] [.same 0,.same 1,.same 1] ?_ ?_ (fun x O=>?_)
   ·exact⟨⟨Nat.zero_le _,g⟩,rfl⟩
   ·repeat' first|exact trivial|exact rfl|refine And.intro ?_ ?_
   obtain⟨i,q⟩:=x;obtain⟨⟨F,p⟩,b⟩:=O;dsimp only at F p b;(conv=>whnf);refine dec (fun r=>?_) (fun r=>?_)
   ·have a:i<o.entries.length:=by simpa using r
    have I:=E _ (List.getElem_mem a);have H:=u (by intro h;rw[h]at a;simp at a);rw[List.drop_eq_getElem_cons a]at b;(conv=>whnf);refine⟨i,o.entries[i],rfl,List.getElem?_eq_getElem a,?_⟩;(conv=>whnf);have M:(ins++[o.entries[i].name]).length≤8:=by rw[List.length_append,List.length_singleton];omega
    refine⟨false,.grow,(.alt [0,2,3] [1,4] fun j=>bif Nat.beq j 1 then(.l [4,5,6])else bif Nat.beq j 4 then(.l [1,5,6])else .l []),by kernel_rfl,.inr ⟨Unit,fun _=>⟨[(0,.c (.bp [.bs 6 Ob ak L])),(2,.c (.bs 1 (List UInt8) encS ins)),(3,.c (.ptr 0 0)),(40,.c (.ls 4 aF cX o.entries)),(41,.c (.int .i64 o.entries.length)),(42,.c (.int .i64 i)),(12,.c (.ptr 3 0)),(13,.c (.rw 4))],[.box [.rw 2],.dead,.row 4 Fi aA q,.box (cX o.entries[i]),.row 1 (List UInt8) encS (ins++[o.entries[i].name])]⟩,fun _=>True,?_,?_⟩⟩
    ·(conv=>whnf);refine And.intro ?_ ?_
     ·(conv=>whnf);refine cl [] [] (qZ ins (by omega)) ?_;(conv=>whnf);refine⟨[o.entries[i].name],rfl,?_⟩;(conv=>whnf);refine⟨_,_,rfl,rfl,(by simp only[List.length_append,List.length_cons,List.length_nil];omega),?_⟩;(conv=>whnf);refine⟨(),trivial,[],[.same 0,.same 1,.same 2,.same 3,.same 6],?_⟩;repeat' first|exact trivial|exact rfl|refine And.intro ?_ ?_
     ·(conv=>whnf);refine⟨[o.entries[i].name],rfl,?_⟩;(conv=>whnf);refine cl [] [] (qZ ins (by omega)) ?_;(conv=>whnf);refine⟨_,_,rfl,rfl,(by simp only[List.length_append,List.length_cons,List.length_nil];omega),?_⟩;(conv=>whnf);refine⟨(),trivial,[],[.same 0,.same 1,.same 2,.same 3,.same 6],?_⟩;repeat' first|exact trivial|exact rfl|refine And.intro ?_ ?_
    intro _ _
    have e:∀s∈ins++[o.entries[i].name],s.length≤20:=fun s h=>by
     rcases List.mem_append.1 h with h|h
     ·exact Q s h
     ·rw[List.mem_singleton]at h;rw[h];exact sd I.name
    (conv=>whnf);refine dec (fun w=>?_) (fun w=>?_)
    ·obtain⟨y,rfl⟩:∃m,n=m+1:=⟨n-1,by omega⟩;rw[dJ,if_pos w]at b;(conv=>whnf);refine cl [] [0,2] (ih y (by omega) o.entries[i].id (ins++[o.entries[i].name]) q (by rw[List.length_append,List.length_singleton];omega) e p) ?_;have v:=n9 L (y+1) o.entries[i].id (ins++[o.entries[i].name]) q p;generalize cz L (y+1) o.entries[i].id (ins++[o.entries[i].name]) q=R at*;(conv=>whnf);refine ay (fun d=>?_) (fun d=>?_)
     ·rw[if_pos d]at b;rw[b];(conv=>whnf);exact rx [] [.same 0,.same 1,.same 5]
     ·rw[if_neg (by simpa using d)]at b;repeat'((conv=>whnf);refine I6 ?_)
      refine ag (i+1,R.2) [] [.same 0,.same 1,.same 5] ⟨⟨a,v⟩,b⟩ (by simp only[];omega) ?_;repeat' first|exact trivial|exact rfl|refine And.intro ?_ ?_
    ·rw[dJ,if_neg w]at b;(conv=>whnf);refine dec (fun d=>?_) (fun d=>?_)
     ·rw[if_pos (by omega)]at b;rw[b];(conv=>whnf);exact rx [] [.same 0,.same 1,.same 2]
     ·rw[if_neg (by omega)]at b;have N:=qw _ e;(conv=>whnf);refine⟨false,.grow,(.l [0,1,2,3,4,6,7,8,9,10,11,5,12,13,14,15,16]),by kernel_rfl,.inr ⟨Unit,fun _=>⟨[(0,.c (.bp [.bs 6 Ob ak L])),(2,.c (.bs 1 (List UInt8) encS ins)),(3,.c (.ptr 0 0)),(40,.c (.ls 4 aF cX o.entries)),(41,.c (.int .i64 o.entries.length)),(42,.c (.int .i64 i))],[.box [.rw 2],.dead,.row 4 Fi aA (q++[⟨ck (ins++[o.entries[i].name]),o.entries[i].mode,o.entries[i].id,o.entries[i].ar⟩])]⟩,fun _=>True,?_,?_⟩⟩
      ·(conv=>whnf);refine cl [] [] (Ba (ins++[o.entries[i].name]) (by omega) (by omega)) ?_;(conv=>whnf);refine⟨[⟨ck (ins++[o.entries[i].name]),o.entries[i].mode,o.entries[i].id,o.entries[i].ar⟩],rfl,?_⟩;(conv=>whnf);refine⟨_,_,rfl,rfl,(by simp only[List.length_append,List.length_cons,List.length_nil];omega),?_⟩;(conv=>whnf);refine⟨(),trivial,[],[.same 0,.same 1,.same 6],?_⟩;repeat' first|exact trivial|exact rfl|refine And.intro ?_ ?_
      intro _ _;repeat'((conv=>whnf);refine I6 ?_)
      refine ag (i+1,(q++[⟨ck (ins++[o.entries[i].name]),o.entries[i].mode,o.entries[i].id,o.entries[i].ar⟩])) [] [.same 0,.same 1,.same 2] ⟨⟨a,by simp only[List.length_append,List.length_cons,List.length_nil];omega⟩,b⟩ (by simp only[];omega) ?_;repeat' first|exact trivial|exact rfl|refine And.intro ?_ ?_
   ·rw[List.drop_of_length_le (by simp at r;omega)]at b;rw[b];(conv=>whnf);exact rx [] [.same 0,.same 1,.same 2]
 ·rw[if_neg (by omega)]at k;have u:o.entries≠[]→ins.length<8:=fun _=>by omega
  rw[k];(conv=>whnf)
  refine lp (Nat×List Fi) (fun x=>⟨[(0,.c (.bp [.bs 6 Ob ak L])),(2,.c (.bs 1 (List UInt8) encS ins)),(3,.c (.ptr 0 0)),(40,.c (.ls 4 aF cX o.entries)),(41,.c (.int .i64 o.entries.length)),(42,.c (.int .i64 x.1))],[.box [.rw 2],.dead,.row 4 Fi aA x.2]⟩)
   (fun x=>(x.1≤o.entries.length∧x.2.length≤60)∧dJ (cz L n) ins o.entries out=dJ (cz L n) ins (o.entries.drop x.1) x.2) (fun x=>o.entries.length-x.1) (0,out) [] [.same 0,.same 1,.same 1] ?_ ?_ (fun x O=>?_)
  ·exact⟨⟨Nat.zero_le _,g⟩,rfl⟩
  ·repeat' first|exact trivial|exact rfl|refine And.intro ?_ ?_
  obtain⟨i,q⟩:=x;obtain⟨⟨F,p⟩,b⟩:=O;dsimp only at F p b;(conv=>whnf);refine dec (fun r=>?_) (fun r=>?_)
  ·have a:i<o.entries.length:=by simpa using r
   have I:=E _ (List.getElem_mem a);have H:=u (by intro h;rw[h]at a;simp at a);rw[List.drop_eq_getElem_cons a]at b;(conv=>whnf);refine⟨i,o.entries[i],rfl,List.getElem?_eq_getElem a,?_⟩;(conv=>whnf);have M:(ins++[o.entries[i].name]).length≤8:=by rw[List.length_append,List.length_singleton];omega
   refine⟨false,.grow,(.alt [0,2,3] [1,4] fun j=>bif Nat.beq j 1 then(.l [4,5,6])else bif Nat.beq j 4 then(.l [1,5,6])else .l []),by kernel_rfl,.inr ⟨Unit,fun _=>⟨[(0,.c (.bp [.bs 6 Ob ak L])),(2,.c (.bs 1 (List UInt8) encS ins)),(3,.c (.ptr 0 0)),(40,.c (.ls 4 aF cX o.entries)),(41,.c (.int .i64 o.entries.length)),(42,.c (.int .i64 i)),(12,.c (.ptr 3 0)),(13,.c (.rw 4))],[.box [.rw 2],.dead,.row 4 Fi aA q,.box (cX o.entries[i]),.row 1 (List UInt8) encS (ins++[o.entries[i].name])]⟩,fun _=>True,?_,?_⟩⟩
   ·(conv=>whnf);refine And.intro ?_ ?_
    ·(conv=>whnf);refine cl [] [] (qZ ins (by omega)) ?_;(conv=>whnf);refine⟨[o.entries[i].name],rfl,?_⟩;(conv=>whnf);refine⟨_,_,rfl,rfl,(by simp only[List.length_append,List.length_cons,List.length_nil];omega),?_⟩;(conv=>whnf);refine⟨(),trivial,[],[.same 0,.same 1,.same 2,.same 3,.same 6],?_⟩;repeat' first|exact trivial|exact rfl|refine And.intro ?_ ?_
    ·(conv=>whnf);refine⟨[o.entries[i].name],rfl,?_⟩;(conv=>whnf);refine cl [] [] (qZ ins (by omega)) ?_;(conv=>whnf);refine⟨_,_,rfl,rfl,(by simp only[List.length_append,List.length_cons,List.length_nil];omega),?_⟩;(conv=>whnf);refine⟨(),trivial,[],[.same 0,.same 1,.same 2,.same 3,.same 6],?_⟩;repeat' first|exact trivial|exact rfl|refine And.intro ?_ ?_
   intro _ _
   have e:∀s∈ins++[o.entries[i].name],s.length≤20:=fun s h=>by
    rcases List.mem_append.1 h with h|h
    ·exact Q s h
    ·rw[List.mem_singleton]at h;rw[h];exact sd I.name
   (conv=>whnf);refine dec (fun w=>?_) (fun w=>?_)
   ·obtain⟨y,rfl⟩:∃m,n=m+1:=⟨n-1,by omega⟩;rw[dJ,if_pos w]at b;(conv=>whnf);refine cl [] [0,2] (ih y (by omega) o.entries[i].id (ins++[o.entries[i].name]) q (by rw[List.length_append,List.length_singleton];omega) e p) ?_;have v:=n9 L (y+1) o.entries[i].id (ins++[o.entries[i].name]) q p;generalize cz L (y+1) o.entries[i].id (ins++[o.entries[i].name]) q=R at*;(conv=>whnf);refine ay (fun d=>?_) (fun d=>?_)
    ·rw[if_pos d]at b;rw[b];(conv=>whnf);exact rx [] [.same 0,.same 1,.same 5]
    ·rw[if_neg (by simpa using d)]at b;repeat'((conv=>whnf);refine I6 ?_)
     refine ag (i+1,R.2) [] [.same 0,.same 1,.same 5] ⟨⟨a,v⟩,b⟩ (by simp only[];omega) ?_;repeat' first|exact trivial|exact rfl|refine And.intro ?_ ?_
   ·rw[dJ,if_neg w]at b;(conv=>whnf);refine dec (fun d=>?_) (fun d=>?_)
    ·rw[if_pos (by omega)]at b;rw[b];(conv=>whnf);exact rx [] [.same 0,.same 1,.same 2]
    ·rw[if_neg (by omega)]at b;have N:=qw _ e;(conv=>whnf);refine⟨false,.grow,(.l [0,1,2,3,4,6,7,8,9,10,11,5,12,13,14,15,16]),by kernel_rfl,.inr ⟨Unit,fun _=>⟨[(0,.c (.bp [.bs 6 Ob ak L])),(2,.c (.bs 1 (List UInt8) encS ins)),(3,.c (.ptr 0 0)),(40,.c (.ls 4 aF cX o.entries)),(41,.c (.int .i64 o.entries.length)),(42,.c (.int .i64 i))],[.box [.rw 2],.dead,.row 4 Fi aA (q++[⟨ck (ins++[o.entries[i].name]),o.entries[i].mode,o.entries[i].id,o.entries[i].ar⟩])]⟩,fun _=>True,?_,?_⟩⟩
     ·(conv=>whnf);refine cl [] [] (Ba (ins++[o.entries[i].name]) (by omega) (by omega)) ?_;(conv=>whnf);refine⟨[⟨ck (ins++[o.entries[i].name]),o.entries[i].mode,o.entries[i].id,o.entries[i].ar⟩],rfl,?_⟩;(conv=>whnf);refine⟨_,_,rfl,rfl,(by simp only[List.length_append,List.length_cons,List.length_nil];omega),?_⟩;(conv=>whnf);refine⟨(),trivial,[],[.same 0,.same 1,.same 6],?_⟩;repeat' first|exact trivial|exact rfl|refine And.intro ?_ ?_
     intro _ _;repeat'((conv=>whnf);refine I6 ?_)
     refine ag (i+1,(q++[⟨ck (ins++[o.entries[i].name]),o.entries[i].mode,o.entries[i].id,o.entries[i].ar⟩])) [] [.same 0,.same 1,.same 2] ⟨⟨a,by simp only[List.length_append,List.length_cons,List.length_nil];omega⟩,b⟩ (by simp only[];omega) ?_;repeat' first|exact trivial|exact rfl|refine And.intro ?_ ?_
  ·rw[List.drop_of_length_le (by simp at r;omega)]at b;rw[b];(conv=>whnf);exact rx [] [.same 0,.same 1,.same 2]
theorem yZ(L:List Ob)(a:ae L)(t:Int):ai Tryz.prog 167 [.c (.bp [.bs 6 Ob ak L]),.c (.int .i64 t)] [] (Rt (.aL [(false,[.rw 0]),(false,[.int .i64 (cK L t).2])]) [.row 4 Fi aA (cK L t).1]):=by
 refine lQ (n:=15) (n0:=0) tabOk Tryz.call167 Tryz.func167 ?_;intro hb;have b:=Fo L a 8 t [] [] rfl (by simp) (by simp);have d:=n9 L 9 t [] [] (by simp);unfold cK;generalize cz L 9 t [] []=R at*;refine XM.seq ?_;(conv=>whnf);refine XM.seq ?_;(conv=>whnf);refine XM.le (t:=⟨[(0,.c (.bp [.bs 6 Ob ak L])),(1,.c (.int .i64 t)),(6,.c (.ptr 0 0))],[.box [.rw 1],.row 4 Fi aA []]⟩) [] [.same 0,.new] (by repeat' first|exact trivial|exact rfl|refine And.intro ?_ ?_) ?_;refine XM.of ?_;(conv=>whnf);refine cl [] [0,1] (b) ?_;(conv=>whnf);refine ay (fun h=>?_) (fun h=>?_)
 ·rw[if_neg h];(conv=>whnf);exact rx [] [.new]
 ·rw[if_pos h];(conv=>whnf);exact rx [] [.same 2]
theorem Ew(x:aF)(d:List UInt8):ai Tryz.prog 330 [.st (cX x),.c (.bp [.str d])] [] (Rt (.c (.bool (isDir d x))) []):=by
 refine an (n:=13) (n0:=0) tabOk Tryz.call330 Tryz.func330 ?_;intro hb;repeat'((conv=>whnf);first|(refine dec (fun h=>?_) (fun h=>?_)<;>try contradiction)|refine aG ?_|fail)
 all_goals simp_all [isDir]
theorem Gh(l:List aF)(d:List UInt8):ai Tryz.prog 329 [.c (.bs 4 aF cX l),.c (.fn 330 [.bp [.str d]])] [] (Rt (.c (.int .i64 (bh (isDir d) l))) []):=by
 refine an (n:=19) (n0:=0) tabOk Tryz.call329 Tryz.func329 ?_;intro hb;have hb:l.length≤9223372036854775807:=hb.1.1;(conv=>whnf);refine lp Nat (fun i=>⟨[(0,.c (.bs 4 aF cX l)),(1,.c (.fn 330 [.bp [.str d]])),(7,.c (.int .i64 l.length)),(8,.c (.int .i64 i))],[]⟩) (fun i=>i≤l.length∧(l.take i).any (isDir d)=false) (fun i=>l.length-i) 0 [] [] ?_ ?_ (fun i b=>?_)
 ·simp
 ·repeat' first|exact trivial|exact rfl|refine And.intro ?_ ?_
 (conv=>whnf);refine dec (fun e=>?_) (fun e=>?_)
 ·have a:i<l.length:=by omega
  repeat'((conv=>whnf);first|refine⟨_,_,rfl,List.getElem?_eq_getElem (by omega),?_⟩|fail)
  (conv=>whnf);refine cl [] [] (Ew l[i] d) ?_;repeat'((conv=>whnf);first|refine aW (fun h=>?_) (fun h=>?_)|refine⟨i64 (by omega) (by omega),?_⟩|refine aK ?_|fail)
  ·exact jM a b.2 h
  ·refine ag (i+1) [] [] ⟨a,hU a b.2 h⟩ (by simp only[];omega) ?_;repeat' first|exact trivial|exact rfl|refine And.intro ?_ ?_
 ·repeat'((conv=>whnf);first|refine aK ?_|fail)
  have:=b.2;rw[List.take_of_length_le (by omega)]at this;exact kx this
theorem uW{α:Type}{p:α→Bool}{l:List α}:(¬0≤bh p l∧l.find? p=none)∨∃(i:Nat) (h:i<l.length),bh p l=i∧l.find? p=some l[i]:=by
 unfold bh;cases h:l.findIdx? p with
 |none=>
  rw[List.findIdx?_eq_none_iff]at h;exact .inl ⟨by simp,by rw[List.find?_eq_none];intro x e;simp[h x e]⟩
 |some i=>
  rw[List.findIdx?_eq_some_iff_getElem]at h;obtain⟨a,b,c⟩:=h;refine .inr ⟨i,a,rfl,?_⟩;rw[List.find?_eq_some_iff_getElem];exact⟨b,i,a,rfl,fun j d=>by simpa using c j d⟩
set_option maxHeartbeats 2000000 in
theorem C5(L:List Ob)(v:ae L)(t:Int)(dir:List UInt8)(hd:dir.length≤4000000):ai Tryz.prog 284 [.c (.bp [.bs 6 Ob ak L]),.c (.int .i64 t),.c (.str dir)] [] (Rt (.aL [(false,[.int .i64 (bt L t dir).1]),(false,[.int .i64 (bt L t dir).2])]) []):=by
 refine an (n:=56) (n0:=0) tabOk Tryz.call284 Tryz.func284 ?_;intro hb;(conv=>whnf);refine cl [] [] (vX dir hd) ?_;unfold bt;have f:(cj dir).2=0→(cj dir).1.length≤8:=fun h=>by obtain⟨_,r,s⟩:=ny h;rw[s];exact r
 generalize cj dir=S at*;(conv=>whnf);refine ay (fun h=>?_) (fun h=>?_)
 ·rw[if_pos h];(conv=>whnf);exact rx [] []
 rw[if_neg (by simpa using h)];have f:=f h;(conv=>whnf);refine lp (Nat×Int) (fun x=>⟨[(0,.c (.bp [.bs 6 Ob ak L])),(1,.c (.int .i64 x.2)),(23,.c (.rw 0)),(24,.c (.int .i64 S.1.length)),(25,.c (.int .i64 x.1))],[.row 1 (List UInt8) encS S.1]⟩) (fun x=>x.1≤S.1.length∧bR L t S.1=bR L x.2 (S.1.drop x.1)) (fun x=>S.1.length-x.1) (0,t) [] [.same 0] ?_ ?_ (fun x w=>?_)
 ·exact⟨Nat.zero_le _,rfl⟩
 ·repeat' first|exact trivial|exact rfl|refine And.intro ?_ ?_
 obtain⟨i,u⟩:=x;obtain⟨q,m⟩:=w;dsimp only at q m;rw[m];(conv=>whnf);refine dec (fun g=>?_) (fun g=>?_)
 ·have a:i<S.1.length:=by simpa using g
  rw[List.drop_eq_getElem_cons a,bR];(conv=>whnf);refine⟨i,⟨rfl,a⟩,?_⟩;(conv=>whnf);refine⟨S.1[i],List.getElem?_eq_getElem a,?_⟩;(conv=>whnf);refine cl [] [] (gT L v u) ?_;have e:=cH (l:=L) (id:=u);by_cases b:kindOf L u≠2
  ·rw[if_pos b];by_cases d:kindOf L u=0
   ·rw[show decide (kindOf L (i,u).snd≠0)=false by simp[d]];(conv=>whnf);exact rx [] []
   ·rw[show decide (kindOf L (i,u).snd≠0)=true by simp[d]];(conv=>whnf);refine ay (fun _=>?_) (fun h=>absurd (e.symm.trans h) b);(conv=>whnf);exact rx [] []
  rw[if_neg b];have b:kindOf L u=2:=Classical.not_not.1 b;rw[show decide (kindOf L (i,u).snd≠0)=true by simp[b]];(conv=>whnf);refine ay (fun h=>absurd (e.trans b) h) (fun _=>?_);(conv=>whnf);refine cl [] [] (Gh (ab L u).entries S.1[i]) ?_;rcases uW (p:=isDir S.1[i]) (l:=(ab L u).entries)with⟨o,j⟩|⟨k,o,j,k3⟩
  ·rw[j];(conv=>whnf);refine dec (fun _=>?_) (fun h=>absurd (by omega) h);(conv=>whnf);exact rx [] []
  ·rw[k3,j];(conv=>whnf);refine⟨k,(ab L u).entries[k],rfl,List.getElem?_eq_getElem o,?_⟩;repeat'((conv=>whnf);refine I6 ?_)
   refine ag (i+1,(ab L u).entries[k].id) [] [.same 0] ⟨a,?_⟩ (by simp only[];omega) ?_
   ·rfl
   ·repeat' first|exact trivial|exact rfl|refine And.intro ?_ ?_
 ·rw[List.drop_of_length_le (by simp at g;omega),bR];(conv=>whnf);exact rx [] []
end Go.Nest
end
section
namespace Go.Nest
open Go Go.AM Go.Proofs
open Go.Proofs.YtpechfcbnoggfaaGreatDoor (tab tabOk)
set_option maxRecDepth 4000
theorem Fs(x:Fi)(p:List UInt8):ai Tryz.prog 326 [.st (aA x),.c (.bp [.str p])] [] (Rt (.c (.bool (decide (x.path=p)))) []):=by
 refine an (n:=8) (n0:=0) tabOk Tryz.call326 Tryz.func326 ?_;intro hb;repeat'((conv=>whnf);first|refine aG ?_|fail)
 rfl
theorem Gi(l:List Fi)(p:List UInt8):ai Tryz.prog 325 [.c (.bs 4 Fi aA l),.c (.fn 326 [.bp [.str p]])] [] (Rt (.c (.int .i64 (bh (fun f:Fi=>decide (f.path=p)) l))) []):=by
 refine an (n:=19) (n0:=0) tabOk Tryz.call325 Tryz.func325 ?_;intro hb;have hb:l.length≤9223372036854775807:=hb.1.1;(conv=>whnf);refine lp Nat (fun i=>⟨[(0,.c (.bs 4 Fi aA l)),(1,.c (.fn 326 [.bp [.str p]])),(7,.c (.int .i64 l.length)),(8,.c (.int .i64 i))],[]⟩) (fun i=>i≤l.length∧(l.take i).any (fun f:Fi=>decide (f.path=p))=false) (fun i=>l.length-i) 0 [] [] ?_ ?_ (fun i b=>?_)
 ·simp
 ·repeat' first|exact trivial|exact rfl|refine And.intro ?_ ?_
 (conv=>whnf);refine dec (fun d=>?_) (fun d=>?_)
 ·have a:i<l.length:=by omega
  repeat'((conv=>whnf);first|refine⟨_,_,rfl,List.getElem?_eq_getElem (by omega),?_⟩|fail)
  (conv=>whnf);refine cl [] [] (Fs l[i] p) ?_;repeat'((conv=>whnf);first|(refine dec (fun h=>?_) (fun h=>?_)<;>try contradiction)|refine⟨i64 (by omega) (by omega),?_⟩|refine aK ?_|fail)
  ·exact jM a b.2 (by simpa using h)
  ·refine ag (i+1) [] [] ⟨a,hU a b.2 (by simpa using h)⟩ (by simp only[];omega) ?_;repeat' first|exact trivial|exact rfl|refine And.intro ?_ ?_
 ·repeat'((conv=>whnf);first|refine aK ?_|fail)
  have:=b.2;rw[List.take_of_length_le (by omega)]at this;exact kx this
theorem find_spec(l:List Fi)(p:List UInt8):ai Tryz.prog 277 [.c (.bs 4 Fi aA l),.c (.str p)] [] (Rt (.aL [(true,aA (bW l p).1),(false,[.bool (bW l p).2])]) []):=by
 refine an (n:=17) (n0:=0) tabOk Tryz.call277 Tryz.func277 ?_;intro hb;(conv=>whnf);refine cl [] [] (Gi l p) ?_;rcases uW (p:=fun f:Fi=>decide (f.path=p)) (l:=l)with⟨b,a⟩|⟨k,b,a,k3⟩
 ·have e:bW l p=(la,false):=by unfold bW;rw[a]
  rw[e];(conv=>whnf);refine dec (fun _=>?_) (fun h=>absurd (by omega) h);(conv=>whnf);exact rx [] []
 ·have e:bW l p=(l[k],true):=by unfold bW;rw[k3]
  rw[e,a];(conv=>whnf);refine⟨k,l[k],rfl,List.getElem?_eq_getElem b,?_⟩;(conv=>whnf);exact rx [] []
end Go.Nest
end
section
namespace Go.Nest
open Go Go.AM Go.Proofs
open Go.Proofs.YtpechfcbnoggfaaGreatDoor (tab tabOk)
set_option maxRecDepth 4000
def bE(t:Int)(up:List Int)(x:List UInt8):Ob:=⟨3,[],[],t,up,x⟩
end Go.Nest
end
section
namespace Go.Nest
open Go Go.AM
def jj(x:It):Fi:=⟨x.path,3,x.id,x.ar⟩
def bf:List Ob→List It→List Fi→List Fi×Int×List Ob
 |L,[],out=>(out,0,L)
 |L,x::r,out=>if x.link=true then bf L r (out++[jj x])else
  if(ao L (dq x.bytes)).2.1≠0 then([],(ao L (dq x.bytes)).2.1,(ao L (dq x.bytes)).2.2)else bf (ao L (dq x.bytes)).2.2 r (out++[⟨x.path,1,(ao L (dq x.bytes)).1,0⟩])
def aE(L:List Ob)(l:List It):Int×Int×List Ob:=
 if(bf L l []).2.1≠0 then(0,(bf L l []).2.1,(bf L l []).2.2)else bC (bf L l []).2.2 (bf L l []).1
def jW(L:List Ob)(l:List It)(h t:Int):Bool:=if h<0 then decide (l.length=0)else decide ((ab L h).tree=t)
def eD(L:List Ob)(l:List It)(h:Int):Int:=if(aE L l).2.1≠0 then(aE L l).2.1 else if jW (aE L l).2.2 l h (aE L l).1=true then 0 else 13
def cD(h:Int)(others:List Int):List Int:=(if 0≤h then[h]else[])++others
def aH(L:List Ob)(l:List It)(h:Int)(text:List UInt8)(others:List Int):Int×Int×List Ob:=
 if(aE L l).2.1≠0 then(0,(aE L l).2.1,(aE L l).2.2)else if 0≤h∧jW (aE L l).2.2 l h (aE L l).1=true∧others.length=0 then(0,17,(aE L l).2.2)else
 if(ao (aE L l).2.2 (bE (aE L l).1 (cD h others) text)).2.1≠0 then(0,(ao (aE L l).2.2 (bE (aE L l).1 (cD h others) text)).2.1,(ao (aE L l).2.2 (bE (aE L l).1 (cD h others) text)).2.2)
 else ao (aE L l).2.2 (bE (aE L l).1 (cD h others) text)
def jh(L:List Ob)(l:List It)(h:Int)(text:List UInt8)(others:List Int):Int:=if(aH L l h text others).2.1=0 then(aH L l h text others).1 else h
def ca(L:List Ob)(f:Fi):It:=if f.mode=3 then⟨f.path,[],true,f.id,f.ar⟩else⟨f.path,(ab L f.id).bytes,false,0,0⟩
def ji(L:List Ob)(l:List It)(fs:List Fi):List It:=if(bC L fs).2.1≠0 then l else fs.map (ca (bC L fs).2.2)
def dG(L:List Ob)(l:List It)(h id:Int):Int:=if kindOf L id≠3 then 9 else if eD L l h≠0 then eD L l h else(cK (aE L l).2.2 (ab L id).tree).2
def eN(L:List Ob)(l:List It)(id:Int):List Ob:=if kindOf L id≠3 then L else(aE L l).2.2
def iH(L:List Ob)(l:List It)(h id:Int):List It:=if dG L l h id≠0 then l else(cK (aE L l).2.2 (ab L id).tree).1.map (ca (aE L l).2.2)
def ig(L:List Ob)(l:List It)(h id:Int):Int:=if dG L l h id≠0 then h else id
def dZ(x:It):Dc:=⟨x.path,x.bytes⟩
def fq(l:List It):List Fi:=(l.filter fun x=>x.link).map jj
theorem lZ:∀{l:List It} {L:List Ob} {out:List Fi},ae L→ae (bf L l out).2.2∧L<+:(bf L l out).2.2
 |[],L,out,h=>⟨h,List.prefix_refl _⟩
 |x::r,L,out,h=>by
  unfold bf;split
  ·exact lZ h
  split
  ·exact⟨fK h _,dS _⟩
  ·obtain⟨a,b⟩:=lZ (l:=r) (out:=out++[⟨x.path,1,(ao L (dq x.bytes)).1,0⟩]) (fK h (dq x.bytes));exact⟨a,(dS _).trans b⟩
theorem eV{L:List Ob}{l:List It}(h:ae L):ae (aE L l).2.2∧L<+:(aE L l).2.2:=by
 obtain⟨a,b⟩:=lZ (l:=l) (out:=[]) h;unfold aE;split
 ·exact⟨a,b⟩
 ·obtain⟨c,d⟩:=ib a (bf L l []).1;exact⟨c,b.trans d⟩
theorem kY{L:List Ob}{l:List It}{h:Int}{text:List UInt8}{others:List Int}(c:ae L):ae (aH L l h text others).2.2∧L<+:(aH L l h text others).2.2:=by
 obtain⟨a,b⟩:=eV (l:=l) c;unfold aH;split
 ·exact⟨a,b⟩
 split
 ·exact⟨a,b⟩
 split
 ·exact⟨fK a _,b.trans (dS _)⟩
 ·exact⟨fK a _,b.trans (dS _)⟩
theorem nR{L:List Ob}{l:List It}{id:Int}(a:ae L):ae (eN L l id)∧L<+:eN L l id:=by
 unfold eN;split
 ·exact⟨a,List.prefix_refl _⟩
 ·exact eV a
theorem uD{n:Nat}:∀{l:List It} {L:List Ob} {out:List Fi},(∀f∈out,f.path.length≤n)→(∀x∈l,x.path.length≤n)→∀f∈(bf L l out).1,f.path.length≤n
 |[],L,out,h,_=>h
 |x::r,L,out,h,a=>by
  have c:=a x (by simp);have b:∀y∈r,y.path.length≤n:=fun y d=>a y (by simp[d]);unfold bf;split
  ·refine uD (fun f hf=>?_) b;rcases List.mem_append.1 hf with hf|hf
   ·exact h f hf
   ·rw[List.mem_singleton]at hf;subst hf;exact c
  split
  ·intro f hf;cases hf
  ·refine uD (fun f hf=>?_) b;rcases List.mem_append.1 hf with hf|hf
   ·exact h f hf
   ·rw[List.mem_singleton]at hf;subst hf;exact c
end Go.Nest
end
section
namespace Go.Nest
open Go Go.AM
theorem Bg{L:List Ob}(c:ae L){id:Int}(hk:¬kindOf L id=0):ao L (ab L id)=(id,0,L):=by
 obtain⟨b,a⟩:=bJ hk;rw[jg b a,Be c a];simp;omega
theorem Dq{L:List Ob}(k:ae L){id:Int}(hk:kindOf L id=1):ab L id=dq (ab L id).bytes:=by
 have h:=k.get (id:=id) (by omega);have g:=cH (l:=L) (id:=id);rw[hk]at g;have j:=h.ne (by omega);have i:=h.nc (by omega);generalize ab L id=o at*;obtain⟨a,b,c,d,e,f⟩:=o;simp only at g j i;rw[g,j,i.1,i.2.1,i.2.2];rfl
theorem Bl{L M:List Ob}{o:Ob}(ho:o.kind≠0)(h:(ao L o).2.1=0)(f:ae M)(d:(ao L o).2.2<+:M):ao M o=((ao L o).1,0,M)∧ab M (ao L o).1=o:=by
 obtain⟨g,c⟩:=gG h;have a:¬kindOf (ao L o).2.2 (ao L o).1=0:=by rw[←cH,c];exact ho
 have e:=ext_get d a;rw[c]at e;have b:¬kindOf M (ao L o).1=0:=by rw[dy d a];exact a
 have:=Bg f b;rw[e]at this;exact⟨this,e⟩
theorem oK{L:List Ob}{o:Ob}(h:(ao L o).2.1≠0):(ao L o).2.2=L:=by
 unfold ao at h⊢;split
 ·rfl
 split
 ·rfl
 split
 ·rfl
 split
 ·rfl
 ·rename_i a b c d;rw[if_neg a,if_neg b,if_neg c,if_neg d]at h;exact absurd rfl h
theorem we{L:List Ob}{o:Ob}{id:Int}(h:¬kindOf (ao L o).2.2 id=0):¬kindOf L id=0∨ab (ao L o).2.2 id=o:=by
 unfold ao at h⊢;split
 ·rename_i c;rw[if_pos c]at h;exact .inl h
 rename_i c;rw[if_neg c]at h;split
 ·rename_i d;rw[if_pos d]at h;exact .inl h
 rename_i d;rw[if_neg d]at h;split
 ·rename_i f;rw[if_pos f]at h;exact .inl h
 rename_i f;rw[if_neg f]at h;split
 ·rename_i g;rw[if_pos g]at h;exact .inl h
 rename_i g;rw[if_neg g]at h;dsimp only at h⊢;obtain⟨a,b⟩:=bJ h;rw[List.length_append,List.length_singleton]at b;by_cases i:id.toNat<L.length
 ·left;intro j;apply h
  have e:kindOf (L++[o]) id=kindOf L id:=by
   unfold kindOf;rw[if_neg a,if_neg a,List.getElem?_append_left i]
  rw[e];exact j
 ·right;have:id=(L.length:Nat):=by omega
  rw[this];exact ru
structure Kept(L:List Ob)(t:Int)(fs:List Fi):Prop where
 tree:fk true L t fs
 ok:cq fs=0
theorem Kept.mono{L M:List Ob}{t:Int}{fs:List Fi}(h:Kept L t fs)(a:L<+:M):Kept M t fs:=⟨h.tree.mono a,h.ok⟩
theorem Kept.files{L:List Ob}{t:Int}{fs:List Fi}(h:Kept L t fs)(b:ae L):cK L t=(fs,0):=
 Kl b h.tree (jG h.ok).1 fun f a=>(ny ((jG h.ok).2 f a).1).2.1
theorem Kept.build{L:List Ob}{t:Int}{fs:List Fi}(h:Kept L t fs)(a:ae L):bC L fs=(t,0,L):=by
 unfold bC;rw[if_neg (by simpa using h.ok)];exact(Kj a h.tree (Nat.lt_succ_self _)).2 rfl
theorem Kept.of{L:List Ob}{fs:List Fi}(a:ae L)(h:(bC L fs).2.1=0):Kept (bC L fs).2.2 (bC L fs).1 fs:=⟨(pd a h).2,(pd a h).1⟩
end Go.Nest
end
