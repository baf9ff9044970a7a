/- part -/
import Derived.Test.YtpechfcbnoggfaaGreatDoorJ1
import Derived.Test.YtpechfcbnoggfaaGreatDoorP9
import Derived.Test.YtpechfcbnoggfaaGreatDoorW1
import Derived.Test.YtpechfcbnoggfaaGreatDoorAmH
import Derived.Test.YtpechfcbnoggfaaGreatDoorN1
set_option linter.unusedVariables false
set_option linter.unusedSimpArgs false
section
namespace Go.Nest
open Go Go.AM Go.Proofs Go.RowKit
open Go.Proofs.YtpechfcbnoggfaaGreatDoor (tab tabOk)
set_option maxRecDepth 4000
theorem ux:∀l:List (List UInt8),Lib.join l [47]=b5 l
 |[]=>rfl
 |[x]=>by simp[Lib.join,b5]
 |x::y::r=>by
  have:=ux (y::r);simp[Lib.join,b5]at this⊢;rw[←this]
theorem Eb:Builder.Extra Tryz.prog AO where
 sizeBuilder:=by kernel_rfl
 liesBuilder:=by kernel_rfl
 t5:=Tryz.underlying5
 a5:=Tryz.isAgg5
 z5:=Tryz.sizeOf5
 v5:=Tryz.zeroValue5
 infoByte:=by kernel_rfl
 cellsByte:=by kernel_rfl
 sizeByte:=by kernel_rfl
 neB5:=by decide
theorem I5(l:List (List UInt8))(hl:l.length≤1000000)(hlen:(b5 l).length≤140737488355328):ae Tryz.prog 190 [.c (.bs 1 (List UInt8) encS l),.c (.str [47])] [] (Rt (.c (.str (b5 l))) []):=by
 cases l with
 |nil=>
  refine ak (n:=75) (n0:=0) tabOk Tryz.call190 Tryz.func190 ?_;intro hb;(conv=>whnf);exact dj rfl rfl
 |cons I D=>
  generalize d:I::D=l at*;have f:l≠[]:=by rw[←d];simp
  refine ae.GR rfl Tryz.call190 (fun F L γ w E h e=>?_);match E,h with
  |[M,N],⟨t,u,_⟩=>
   cases u with
   |str _ _=>
    cases t with
    |dN _=>exact absurd rfl f
    | @bs _ _ _ _ _ b g cap o _ _ hb r J y K v _=>
     have p:=vN y;have i:(List.map (fun x:ByteArray=>x.data.toList) (List.map (fun s:List UInt8=>(⟨s.toArray⟩:ByteArray)) l))=l:=by rw[List.map_map];exact(List.map_congr_left (fun s _=>by simp)).trans (List.map_id' l)
     have a:=Any.strings_Join_48 FM Eb b g cap (l.map fun s=>⟨s.toArray⟩) ⟨[47].toArray⟩ w (fun j x k=>?_) (e b hb) (by simp;omega) (by simpa using r) (by rw[i];show(Lib.join l [47]).length≤_;rw[ux];omega)
     ·refine⟨NB.str (b5 l),fun F H m=>.str (by omega) .nl,?_⟩;rw[i]at a;have q:Lib.join l (⟨[47].toArray⟩:ByteArray).data.toList=b5 l:=ux l;rw[q,List.length_map]at a;exact a
     ·rw[List.getElem?_map]at k;obtain⟨s,z,rfl⟩:=Option.map_eq_some_iff.1 k;have:=v j (NB.str s) (by rw[p,List.getElem?_map,z];rfl);rw[NB.dA rfl];exact this
theorem Ar(l:List (List UInt8))(hl:l.length≤1000000)(hlen:(b5 l).length≤140737488355328):ae Tryz.prog 298 [.c (.bs 1 (List UInt8) encS l)] [] (Rt (.c (.str (b5 l))) []):=by
 refine ak (n:=5) (n0:=0) tabOk Tryz.call298 Tryz.func298 ?_;intro hb;(conv=>whnf);refine cl [] [] (I5 l hl hlen) ?_;(conv=>whnf);exact dj rfl rfl
end Go.Nest
end
section
namespace Go.Nest
open Go Go.AM Go.Proofs
open Go.Proofs.YtpechfcbnoggfaaGreatDoor (tab tabOk)
set_option maxRecDepth 4000
theorem jR{a b:Fi}:ew (ao a) (ao b)↔a=b:=by
 cases a;cases b;simp[ao,ew,lZ]
theorem Im(a b:List Fi):ae Tryz.prog 39 [.c (.bs 4 Fi ao a),.c (.bs 4 Fi ao b)] [] (Rt (.c (.bool (decide (a=b)))) []):=by
 refine ak (n:=26) (n0:=0) tabOk Tryz.call39 Tryz.func39 ?_;intro hb;have hb:a.length≤9223372036854775807:=hb.1.1;repeat'((conv=>whnf);first|(refine aw (fun h=>?_) (fun h=>?_)<;>try contradiction)|refine aE ?_|fail)
 ·exact pn h
 (conv=>whnf);have k:a.length=b.length:=by omega
 refine lp Nat (fun i=>⟨[(0,.c (.bs 4 Fi ao a)),(1,.c (.bs 4 Fi ao b)),(5,.c (.int .i64 i))],[]⟩) (fun i=>i≤a.length∧a.take i=b.take i) (fun i=>a.length-i) 0 [] [] ?_ ?_ (fun i g=>?_)
 ·simp
 ·repeat' first|exact trivial|exact rfl|refine And.intro ?_ ?_
 (conv=>whnf);refine dec (fun j=>?_) (fun j=>?_)
 ·have f:i<a.length:=by omega
  have d:i<b.length:=by omega
  (conv=>whnf);refine⟨false,.grow,(.l [0,1,2,3,4,5,6,7,8]),by kernel_rfl,.inl ?_⟩;repeat'((conv=>whnf);first|(refine aw (fun h=>?_) (fun h=>?_)<;>try contradiction)|refine⟨i64 (by omega) (by omega),?_⟩|refine⟨_,_,rfl,List.getElem?_eq_getElem (by omega),?_⟩|refine aE ?_|fail)
  ·exact pj f d (fun e=>h ((jR).2 e))
  ·refine ag (i+1) [] [] ⟨f,od f d g.2 ((jR).1 h)⟩ (by simp only[];omega) ?_;repeat' first|exact trivial|exact rfl|refine And.intro ?_ ?_
 ·repeat'((conv=>whnf);first|refine aE ?_|fail)
  exact pR (by omega) k g.2
theorem qv(l:List (List UInt8))(hl:l.length*16≤140737488355328):ae Tryz.prog 297 [.c (.bs 1 (List UInt8) encS l)] [] (Rt (.c (.rw 0)) [.row 1 (List UInt8) encS l]):=by
 refine ak (n:=8) (n0:=0) tabOk Tryz.call297 Tryz.func297 ?_;intro hb;(conv=>whnf);intro q a;(conv=>whnf);refine aL (fun h=>?_) (fun h=>?_)
 ·obtain rfl:=a h;(conv=>whnf);exact rx [] [.new]
 ·(conv=>whnf);refine⟨[],rfl,?_⟩;(conv=>whnf);refine⟨_,_,rfl,rfl,(by simp only[List.length_append,List.length_cons,List.length_nil];omega),?_⟩;(conv=>whnf);exact rx [] [.same 1]
theorem Dg(s:List UInt8):ae Tryz.prog 186 [.c (.str s),.c (.str [47])] [] (Rt (.aC [(false,[.str (cU s).1]),(false,[.str (cU s).2.1]),(false,[.bool (cU s).2.2])]) []):=by
 refine ak (n:=23) (n0:=0) tabOk Tryz.call186 Tryz.func186 ?_;intro hb;have hb:s.length≤9223372036854775807:=hb.1.1;(conv=>whnf);refine cl [] [] (Be s) ?_;repeat'((conv=>whnf);first|(refine dec (fun h=>?_) (fun h=>?_)<;>try contradiction)|fail)
 ·have d:(Lib.indexByte s 47).toNat<s.length:=by
   by_cases a:s.count 47=0
   ·rw[ui a]at h;omega
   ·obtain⟨m,e,f,_⟩:=uj (l:=s) (by omega);omega
  have a:cU s=(s.take (Lib.indexByte s 47).toNat,s.drop ((Lib.indexByte s 47).toNat+1),true):=by unfold cU;rw[if_pos h]
  rw[a];(conv=>whnf);refine⟨false,.grow,(.l [0,1,2,3,4,5,6,7,8,9,10,11]),by kernel_rfl,.inl ?_⟩;(conv=>whnf);refine⟨0,(Lib.indexByte s 47).toNat,rfl,(Int.toNat_of_nonneg h).symm,⟨Nat.zero_le _,by omega⟩,?_⟩;refine⟨i64 (by simp;omega) (by simp;omega),?_⟩;(conv=>whnf);refine⟨(Lib.indexByte s 47).toNat+1,s.length,?_,rfl,⟨by omega,Nat.le_refl _⟩,?_⟩
  ·simp;omega
  (conv=>whnf);have b:s.take s.length=s:=List.take_of_length_le (Nat.le_refl _);rw[b];exact rx [] []
 ·have a:cU s=(s,[],false):=by unfold cU;rw[if_neg h]
  rw[a];(conv=>whnf);exact rx [] []
theorem Dj(s:List UInt8):ae Tryz.prog 112 [.c (.str s),.c (.str [47])] [] (Rt (.aC [(false,[.str (cU s).1]),(false,[.str (cU s).2.1]),(false,[.bool (cU s).2.2])]) []):=by
 refine ak (n:=13) (n0:=0) tabOk Tryz.call112 Tryz.func112 ?_;intro hb;(conv=>whnf);refine cl [] [] (Dg s) ?_;(conv=>whnf);exact rx [] []
end Go.Nest
end
section
namespace Go.Nest
open Go Go.AM Go.Proofs
open Go.Proofs.YtpechfcbnoggfaaGreatDoor (tab tabOk)
set_option maxRecDepth 4000
set_option maxHeartbeats 2000000 in
theorem xN(a b:List Fi)(K:a.length≤150)(M:b.length≤150)(O:∀f∈a,f.path.length≤4000000)(F:∀f∈b,f.path.length≤4000000):ae Tryz.prog 165 [.c (.bs 4 Fi ao a),.c (.bs 4 Fi ao b)] [] (Rt (.c (.rw 0)) [.row 9 Ch jP (b8 a b)]):=by
 refine ak (n:=101) (n0:=0) tabOk Tryz.call165 Tryz.func165 ?_;intro hb;(conv=>whnf);refine lp (List Fi×List Fi×List Ch) (fun x=>⟨[(0,.c (.bs 4 Fi ao x.1)),(1,.c (.bs 4 Fi ao x.2.1)),(5,.c (.rw 0))],[.row 9 Ch jP x.2.2]⟩) (fun x=>(x.1.length≤150∧x.2.1.length≤150∧x.2.2.length+x.1.length+x.2.1.length≤300)∧((∀f∈x.1,f.path.length≤4000000)∧∀f∈x.2.1,f.path.length≤4000000)∧x.2.2++b8 x.1 x.2.1=b8 a b) (fun x=>x.1.length+x.2.1.length) (a,b,[]) [] [.new] ?_ ?_ (fun x P=>?_)
 ·exact⟨⟨K,M,by simp;omega⟩,⟨O,F⟩,rfl⟩
 ·repeat' first|exact trivial|exact rfl|refine And.intro ?_ ?_
 obtain⟨p,q,out⟩:=x;obtain⟨⟨D,E,N⟩,⟨m,o⟩,j⟩:=P;dsimp only at D E N m o j;have r:∀(h:0<p.length),p=p[0]::p.drop 1:=fun h=>by cases p with|nil=>cases h|cons _ _=>rfl
 have s:∀(h:0<q.length),q=q[0]::q.drop 1:=fun h=>by cases q with|nil=>cases h|cons _ _=>rfl
 have i:∀{l:List Fi},¬0<l.length→l=[]:=fun h=>List.eq_nil_of_length_eq_zero (by omega);have y:((p,q,out).1.drop 1).take (p.length-1)=p.drop 1:=List.take_of_length_le (by simp);have z:((p,q,out).2.1.drop 1).take (q.length-1)=q.drop 1:=List.take_of_length_le (by simp);have t:∀f∈p.drop 1,f.path.length≤4000000:=fun f I=>m f (List.mem_of_mem_drop I);have u:∀f∈q.drop 1,f.path.length≤4000000:=fun f I=>o f (List.mem_of_mem_drop I);(conv=>whnf);refine dec (fun g=>?_) (fun g=>?_)
 ·have g:0<p.length:=by simpa using g
  (conv=>whnf);refine⟨false,.grow,(.l [0,1,2,3,4,5,6,7,8,9,10,11,12,13,14,15,16,17,18,19]),by kernel_rfl,.inl ?_⟩;(conv=>whnf);refine dec (fun d=>?_) (fun d=>?_)
  ·have d:¬0<q.length:=by simp at d;simp[d]
   have e:out++b8 p q=(out++[⟨p[0].path,p[0],dJ⟩])++b8 (p.drop 1) q:=by
    rw[i d];conv=>lhs;rw[r g]
    rw[b8];simp
   (conv=>whnf);refine⟨false,.grow,(.l [0,1,2,3,4,5,6,7,8,9,10,11]),by kernel_rfl,.inl ?_⟩;(conv=>whnf);refine⟨0,p[0],rfl,List.getElem?_eq_getElem g,?_⟩;(conv=>whnf);refine⟨0,p[0],rfl,List.getElem?_eq_getElem g,?_⟩;(conv=>whnf);refine⟨[⟨p[0].path,p[0],dJ⟩],rfl,?_⟩;(conv=>whnf);refine⟨_,_,rfl,rfl,(by simp only[List.length_append,List.length_cons,List.length_nil];omega),?_⟩;(conv=>whnf);refine⟨1,p.length,rfl,rfl,⟨g,Nat.le_refl _⟩,?_⟩;(conv=>whnf);rw[y];refine ag (p.drop 1,q,out++[⟨p[0].path,p[0],dJ⟩]) [] [.same 2] ⟨⟨by rw[List.length_drop];omega,E,by rw[List.length_append,List.length_drop];simp;omega⟩,⟨t,o⟩,by rw[←e];exact j⟩ (by simp;omega) ?_;repeat' first|exact trivial|exact rfl|refine And.intro ?_ ?_
  ·have d:0<q.length:=by simp at d;exact List.length_pos_iff.2 d
   (conv=>whnf);refine dec (fun _=>?_) (fun k=>absurd (by simpa using g) k);(conv=>whnf);refine⟨0,p[0],rfl,List.getElem?_eq_getElem g,?_⟩;(conv=>whnf);refine⟨0,q[0],rfl,List.getElem?_eq_getElem d,?_⟩;(conv=>whnf);refine cl [] [] (kD p[0].path q[0].path (m _ (List.getElem_mem _)) (o _ (List.getElem_mem _))) ?_;(conv=>whnf);refine aL (fun w=>?_) (fun w=>?_)
   ·have e:out++b8 p q=(out++[⟨p[0].path,p[0],dJ⟩])++b8 (p.drop 1) q:=by
     conv=>lhs;rw[r g,s d]
     rw[b8,if_pos w,←s d];simp
    (conv=>whnf);refine⟨false,.grow,(.l [0,1,2,3,4,5,6,7,8,9,10,11]),by kernel_rfl,.inl ?_⟩;(conv=>whnf);refine⟨0,p[0],rfl,List.getElem?_eq_getElem g,?_⟩;(conv=>whnf);refine⟨0,p[0],rfl,List.getElem?_eq_getElem g,?_⟩;(conv=>whnf);refine⟨[⟨p[0].path,p[0],dJ⟩],rfl,?_⟩;(conv=>whnf);refine⟨_,_,rfl,rfl,(by simp only[List.length_append,List.length_cons,List.length_nil];omega),?_⟩;(conv=>whnf);refine⟨1,p.length,rfl,rfl,⟨g,Nat.le_refl _⟩,?_⟩;(conv=>whnf);rw[y];refine ag (p.drop 1,q,out++[⟨p[0].path,p[0],dJ⟩]) [] [.same 2] ⟨⟨by rw[List.length_drop];omega,E,by rw[List.length_append,List.length_drop];simp;omega⟩,⟨t,o⟩,by rw[←e];exact j⟩ (by simp;omega) ?_;repeat' first|exact trivial|exact rfl|refine And.intro ?_ ?_
   ·(conv=>whnf);refine⟨false,.grow,(.l [0,1,2,3,4,5,6,7,8,9,10,11,12,13,14]),by kernel_rfl,.inl ?_⟩;(conv=>whnf);refine dec (fun k=>absurd k (by simp;exact List.length_pos_iff.1 g)) (fun _=>?_);(conv=>whnf);refine⟨0,q[0],rfl,List.getElem?_eq_getElem d,?_⟩;(conv=>whnf);refine⟨0,p[0],rfl,List.getElem?_eq_getElem g,?_⟩;(conv=>whnf);refine cl [] [] (kD q[0].path p[0].path (o _ (List.getElem_mem _)) (m _ (List.getElem_mem _))) ?_;(conv=>whnf);refine aL (fun J=>?_) (fun J=>?_)
    ·have e:out++b8 p q=(out++[⟨q[0].path,dJ,q[0]⟩])++b8 p (q.drop 1):=by
      conv=>lhs;rw[r g,s d]
      rw[b8,if_neg (by simp[w]),if_pos J,←r g];simp
     (conv=>whnf);refine⟨false,.grow,(.l [0,1,2,3,4,5,6,7,8,9,10,11]),by kernel_rfl,.inl ?_⟩;(conv=>whnf);refine⟨0,q[0],rfl,List.getElem?_eq_getElem d,?_⟩;(conv=>whnf);refine⟨0,q[0],rfl,List.getElem?_eq_getElem d,?_⟩;(conv=>whnf);refine⟨[⟨q[0].path,dJ,q[0]⟩],rfl,?_⟩;(conv=>whnf);refine⟨_,_,rfl,rfl,(by simp only[List.length_append,List.length_cons,List.length_nil];omega),?_⟩;(conv=>whnf);refine⟨1,q.length,rfl,rfl,⟨d,Nat.le_refl _⟩,?_⟩;(conv=>whnf);rw[z];refine ag (p,q.drop 1,out++[⟨q[0].path,dJ,q[0]⟩]) [] [.same 2] ⟨⟨D,by rw[List.length_drop];omega,by rw[List.length_append,List.length_drop];simp;omega⟩,⟨m,u⟩,by rw[←e];exact j⟩ (by simp;omega) ?_;repeat' first|exact trivial|exact rfl|refine And.intro ?_ ?_
    ·(conv=>whnf);refine⟨false,.grow,(.l [0,1,2,3,4,5,6]),by kernel_rfl,.inl ?_⟩;(conv=>whnf);refine⟨0,p[0],rfl,List.getElem?_eq_getElem g,?_⟩;(conv=>whnf);refine⟨0,q[0],rfl,List.getElem?_eq_getElem d,?_⟩;(conv=>whnf)
     have v:out++b8 p q=out++(if p[0]≠q[0]then⟨p[0].path,p[0],q[0]⟩::b8 (p.drop 1) (q.drop 1)else b8 (p.drop 1) (q.drop 1)):=by
      conv=>lhs;rw[r g,s d]
      rw[b8,if_neg (by simp[w]),if_neg (by simp[J])]
     refine aw (fun H=>?_) (fun H=>?_)
     ·rw[if_pos (fun h=>H (jR.2 h))]at v;have e:out++b8 p q=(out++[⟨p[0].path,p[0],q[0]⟩])++b8 (p.drop 1) (q.drop 1):=by rw[v];simp
      (conv=>whnf);refine⟨false,.grow,(.l [0,1,2,3,4,5,6,7,8,9,10,11,12,13,14]),by kernel_rfl,.inl ?_⟩;(conv=>whnf);refine⟨0,p[0],rfl,List.getElem?_eq_getElem g,?_⟩;(conv=>whnf);refine⟨0,p[0],rfl,List.getElem?_eq_getElem g,?_⟩;(conv=>whnf);refine⟨0,q[0],rfl,List.getElem?_eq_getElem d,?_⟩;(conv=>whnf);refine⟨[⟨p[0].path,p[0],q[0]⟩],rfl,?_⟩;(conv=>whnf);refine⟨_,_,rfl,rfl,(by simp only[List.length_append,List.length_cons,List.length_nil];omega),?_⟩;(conv=>whnf);refine⟨false,.grow,(.l [0,1,2,3,4,5]),by kernel_rfl,.inl ?_⟩;(conv=>whnf);refine⟨1,p.length,rfl,rfl,⟨g,Nat.le_refl _⟩,?_⟩;(conv=>whnf);refine⟨1,q.length,rfl,rfl,⟨d,Nat.le_refl _⟩,?_⟩;(conv=>whnf);rw[y,z];refine ag (p.drop 1,q.drop 1,out++[⟨p[0].path,p[0],q[0]⟩]) [] [.same 2] ⟨⟨by rw[List.length_drop];omega,by rw[List.length_drop];omega,by rw[List.length_append,List.length_drop,List.length_drop];simp;omega⟩,⟨t,u⟩,by rw[←e];exact j⟩ (by simp;omega) ?_;repeat' first|exact trivial|exact rfl|refine And.intro ?_ ?_
     ·rw[if_neg (fun h=>h (jR.1 H))]at v;(conv=>whnf);refine⟨false,.grow,(.l [0,1,2,3,4,5]),by kernel_rfl,.inl ?_⟩;(conv=>whnf);refine⟨1,p.length,rfl,rfl,⟨g,Nat.le_refl _⟩,?_⟩;(conv=>whnf);refine⟨1,q.length,rfl,rfl,⟨d,Nat.le_refl _⟩,?_⟩;(conv=>whnf);rw[y,z];refine ag (p.drop 1,q.drop 1,out) [] [.same 0] ⟨⟨by rw[List.length_drop];omega,by rw[List.length_drop];omega,by simp only[List.length_drop];omega⟩,⟨t,u⟩,by rw[←v];exact j⟩ (by simp;omega) ?_;repeat' first|exact trivial|exact rfl|refine And.intro ?_ ?_
 ·have g:¬0<p.length:=by simp at g;simp[g]
  (conv=>whnf);refine dec (fun d=>?_) (fun d=>?_)
  ·have d:0<q.length:=by simpa using d
   have e:out++b8 p q=(out++[⟨q[0].path,dJ,q[0]⟩])++b8 p (q.drop 1):=by
    rw[i g];conv=>lhs;rw[s d]
    rw[b8];simp
   (conv=>whnf);refine⟨false,.grow,(.l [0,1,2,3,4,5,6,7,8,9,10,11,12,13,14,15,16,17,18,19]),by kernel_rfl,.inl ?_⟩;(conv=>whnf);refine dec (fun k=>absurd k (by simp;exact List.length_pos_iff.1 d)) (fun _=>?_);(conv=>whnf);refine dec (fun k=>absurd (by simpa using k) g) (fun _=>?_);(conv=>whnf);refine⟨false,.grow,(.l [0,1,2,3,4,5,6,7,8,9,10,11,12,13,14]),by kernel_rfl,.inl ?_⟩;(conv=>whnf);refine dec (fun _=>?_) (fun k=>absurd (by simp;exact i g) k);(conv=>whnf);refine⟨false,.grow,(.l [0,1,2,3,4,5,6,7,8,9,10,11]),by kernel_rfl,.inl ?_⟩;(conv=>whnf);refine⟨0,q[0],rfl,List.getElem?_eq_getElem d,?_⟩;(conv=>whnf);refine⟨0,q[0],rfl,List.getElem?_eq_getElem d,?_⟩;(conv=>whnf);refine⟨[⟨q[0].path,dJ,q[0]⟩],rfl,?_⟩;(conv=>whnf);refine⟨_,_,rfl,rfl,(by simp only[List.length_append,List.length_cons,List.length_nil];omega),?_⟩;(conv=>whnf);refine⟨1,q.length,rfl,rfl,⟨d,Nat.le_refl _⟩,?_⟩;(conv=>whnf);rw[z];refine ag (p,q.drop 1,out++[⟨q[0].path,dJ,q[0]⟩]) [] [.same 2] ⟨⟨D,by rw[List.length_drop];omega,by rw[List.length_append,List.length_drop];simp;omega⟩,⟨m,u⟩,by rw[←e];exact j⟩ (by simp;omega) ?_;repeat' first|exact trivial|exact rfl|refine And.intro ?_ ?_
  ·have d:¬0<q.length:=by simp at d;simp[d]
   rw[i g,i d]at j;rw[show b8 [] []=[]by unfold b8;rfl,List.append_nil]at j;(conv=>whnf);rw[←j];exact rx [] [.same 0]
end Go.Nest
end
section
namespace Go.Nest
open Go Go.AM Go.Proofs
open Go.Proofs.YtpechfcbnoggfaaGreatDoor (tab tabOk)
set_option maxRecDepth 4000
theorem Fw{f:Fi}{out:List Fi}{k:Nat}(hk:k≤out.length)(h1:∀g∈out.take k,au f.path g.path=false)(h2:∀h:k<out.length,au f.path out[k].path=true):eb f out=out.take k++f::out.drop k:=by
 obtain⟨a,b⟩:=sf (p:=fun g:Fi=> !au f.path g.path) hk (fun g c=>by simp[h1 g c]) (fun h=>by simp[h2 h]);unfold eb;rw[a,b]
end Go.Nest
end
section
namespace Go.Nest
open Go Go.AM Go.Proofs
open Go.Proofs.YtpechfcbnoggfaaGreatDoor (tab tabOk)
set_option maxRecDepth 4000
def du(b:List UInt8):Ob:=⟨1,b,[],0,[],[]⟩
end Go.Nest
end
section
namespace Go.Nest
open Go Go.AM
def nG(p:List UInt8)(y:It):Bool:=(fh p y.path).2||(fh y.path p).2
def dV(p:List UInt8)(y:It):Bool:=decide (y.path=p)
def ju(l:List It)(p:List UInt8):Nat:=(l.takeWhile fun y=>au y.path p).length
def fU(l:List It)(x:It):Int×List It:=
 if(bZ x.path).2≠0 then((bZ x.path).2,l)else if l.any (nG x.path)=true then(10,l)else
 if 0≤bF (dV x.path) l then(0,l.set (bF (dV x.path) l).toNat x)else if l.length=60 then(5,l)else(0,l.take (ju l x.path)++x::l.drop (ju l x.path))
def iM(l:List It)(p:List UInt8):Int×List It:=
 if bF (dV p) l<0 then(9,l)else(0,l.take (bF (dV p) l).toNat++l.drop ((bF (dV p) l).toNat+1))
def rU(l:List It)(p:List UInt8):Int×List It:=
 if(l.filter fun y=>decide (y.path≠p)).length=l.length then(9,l)else(0,l.filter fun y=>decide (y.path≠p))
structure gh(l:List It):Prop where
 ris:jG (·.path) l
 len:l.length≤60
 path:∀x∈l,(bZ x.path).2=0
 apart:∀x∈l,∀y∈l,(fh x.path y.path).2=false
theorem gh.nil:gh []:=⟨.nil,by decide,fun x h=>(by cases h),fun x h=>(by cases h)⟩
theorem Hr{l:List It}{p:List UInt8}:ju l p≤l.length:=(List.takeWhile_sublist _).length_le
theorem Jn(l:List It)(p:List UInt8):l.take (ju l p)=l.takeWhile fun y=>au y.path p:=by
 unfold ju;have h:l.takeWhile (fun y=>au y.path p)++l.dropWhile (fun y=>au y.path p)=l:=List.takeWhile_append_dropWhile
 calc l.take (l.takeWhile fun y=>au y.path p).length=(l.takeWhile (fun y=>au y.path p)++l.dropWhile (fun y=>au y.path p)).take (l.takeWhile fun y=>au y.path p).length:=by rw[h]
  _=_:=List.take_left' rfl
theorem DZ(l:List It)(p:List UInt8):l.drop (ju l p)=l.dropWhile fun y=>au y.path p:=by
 unfold ju;have h:l.takeWhile (fun y=>au y.path p)++l.dropWhile (fun y=>au y.path p)=l:=List.takeWhile_append_dropWhile
 calc l.drop (l.takeWhile fun y=>au y.path p).length=(l.takeWhile (fun y=>au y.path p)++l.dropWhile (fun y=>au y.path p)).drop (l.takeWhile fun y=>au y.path p).length:=by rw[h]
  _=_:=List.drop_left' rfl
theorem zU{α:Type}{p:α→Bool}:∀{l:List α} {x:α},x∈l.takeWhile p→p x=true∧x∈l
 |[],x,h=>by cases h
 |y::l,x,h=>by
  rw[List.takeWhile_cons]at h;split at h
  ·rename_i a;rcases List.mem_cons.1 h with rfl|h
   ·exact⟨a,by simp⟩
   ·have:=zU h;exact⟨this.1,by simp[this.2]⟩
  ·cases h
theorem xT{p:List UInt8}:∀{l:List It},jG (·.path) l→∀y∈l.dropWhile (fun y=>au y.path p),au y.path p=false
 |[],_,y,h=>by cases h
 |x::l,d,y,h=>by
  obtain⟨b,c⟩:=List.pairwise_cons.1 d;rw[List.dropWhile_cons]at h;split at h
  ·exact xT c y h
  ·rename_i a;have a:au x.path p=false:=by simpa using a
   rcases List.mem_cons.1 h with rfl|h
   ·exact a
   ·cases e:au y.path p with
    |false=>rfl
    |true=>rw[jn (b y h) e]at a;cases a
theorem qh{p:List UInt8}{y:It}:dV p y=true↔y.path=p:=by unfold dV;simp
theorem ug{α:Type}{p:α→Bool}{l:List α}:0≤bF p l↔∃x∈l,p x=true:=by
 have:=nH (p:=p) (l:=l);constructor
 ·intro h;have a:l.any p=true:=by rw[←this];simpa using h
  simpa using a
 ·rintro⟨x,b,h⟩;have a:l.any p=true:=List.any_eq_true.2 ⟨x,b,h⟩;rw[←this]at a;simpa using a
theorem uh{α:Type}{p:α→Bool}{l:List α}:(bF p l= -1∧l.any p=false)∨∃(i:Nat) (h:i<l.length),bF p l=i∧(l.take i).any p=false∧p l[i]=true:=by
 unfold bF;cases h:l.findIdx? p with
 |none=>
  rw[List.findIdx?_eq_none_iff]at h;exact .inl ⟨rfl,by rw[List.any_eq_false];intro x a;simp[h x a]⟩
 |some i=>
  rw[List.findIdx?_eq_some_iff_getElem]at h;obtain⟨b,c,d⟩:=h;refine .inr ⟨i,b,rfl,?_,c⟩;rw[List.any_eq_false];intro x a;obtain⟨j,f,e⟩:=List.mem_take_iff_getElem.1 a;rw[←e];exact d j (by omega)
theorem E1{l:List It}(h:jG (·.path) l){k:Nat}(hk:k<l.length):bF (dV l[k].path) l=k:=by
 rcases uh (p:=dV l[k].path) (l:=l)with⟨_,e⟩|⟨i,b,c,d,a⟩
 ·rw[List.any_eq_false]at e;exact absurd (qh.2 rfl) (e _ (List.getElem_mem hk))
 ·rw[c];have a:=qh.1 a;rcases Nat.lt_trichotomy i k with hlt|rfl|hlt
  ·have:=List.pairwise_iff_getElem.1 h i k b hk hlt;exact absurd a (kC this)
  ·rfl
  ·have:=List.pairwise_iff_getElem.1 h k i hk b hlt;exact absurd a.symm (kC this)
end Go.Nest
end
section
namespace Go.Nest
open Go Go.AM Go.Proofs
open Go.Proofs.YtpechfcbnoggfaaGreatDoor (tab tabOk)
set_option maxRecDepth 4000
def fR(l:List Fi):Nat→Option Fi
 |0=>none
 |i+1=>l[i]?
theorem CQ{l:List Fi}{i:Nat}(h:i<l.length):gp (fR l i) (l.drop i)=if(bZ l[i].path).2≠0 then(bZ l[i].path).2 else if l[i].mode≠1∧l[i].mode≠3 then 6 else if ey (fR l i) l[i]≠0 then ey (fR l i) l[i]else gp (fR l (i+1)) (l.drop (i+1)):=by
 rw[List.drop_eq_getElem_cons h];rw[show fR l (i+1)=some l[i]from List.getElem?_eq_getElem h];rfl
theorem sg{p d:List UInt8}:(fh p d).2=(under p d).isSome:=by
 unfold fh;cases under p d<;>rfl
set_option maxHeartbeats 2000000 in
theorem xj(l:List Fi)(hl:l.length≤60)(o:∀f∈l,f.path.length≤4000000):ae Tryz.prog 101 [.c (.bs 4 Fi ao l)] [] (Rt (.c (.int .i64 (gp none l))) []):=by
 refine ak (n:=68) (n0:=0) tabOk Tryz.call101 Tryz.func101 ?_;intro hb;(conv=>whnf);refine dec (fun h=>by omega) (fun u=>?_);(conv=>whnf);refine lp Nat (fun i=>⟨[(0,.c (.bs 4 Fi ao l)),(12,.c (.bs 4 Fi ao l)),(13,.c (.int .i64 l.length)),(14,.c (.int .i64 i))],[]⟩) (fun i=>i≤l.length∧gp none l=gp (fR l i) (l.drop i)) (fun i=>l.length-i) 0 [] [] ?_ ?_ (fun i t=>?_)
 ·exact⟨Nat.zero_le _,rfl⟩
 ·repeat' first|exact trivial|exact rfl|refine And.intro ?_ ?_
 obtain⟨v,a⟩:=t;(conv=>whnf);refine dec (fun s=>?_) (fun s=>?_)
 ·have e:i<l.length:=by omega
  rw[CQ e]at a;(conv=>whnf);refine⟨i,l[i],rfl,List.getElem?_eq_getElem e,?_⟩;(conv=>whnf);refine cl [] [] (vf l[i].path (o _ (List.getElem_mem _))) ?_;(conv=>whnf);refine aw (fun p=>?_) (fun p=>?_)
  ·rw[if_pos p]at a;repeat'((conv=>whnf);first|refine aG ?_|fail)
   exact a.symm
  ·rw[if_neg (by simpa using p)]at a;(conv=>whnf);refine aw (fun q=>?_) (fun q=>?_)
   ·(conv=>whnf);refine aw (fun g=>?_) (fun g=>?_)
    ·rw[if_pos ⟨q,g⟩]at a;repeat'((conv=>whnf);first|refine aG ?_|fail)
     exact a.symm
    ·rw[if_neg (fun h=>h.2 g)]at a;(conv=>whnf);refine⟨false,.grow,(.l [0,1,2,3,4,5,6,7,8,9,10,11,12,13,14]),by kernel_rfl,.inl ?_⟩;(conv=>whnf);refine dec (fun g=>?_) (fun g=>?_)
     ·have r:0<i:=by omega
      have d:fR l i=some l[i-1]:=by
       obtain⟨j,rfl⟩:∃j,i=j+1:=⟨i-1,by omega⟩;exact List.getElem?_eq_getElem (by omega)
      (conv=>whnf);refine⟨i64 (by omega) (by omega),?_⟩;(conv=>whnf);refine⟨i-1,l[i-1],by omega,List.getElem?_eq_getElem (by omega),?_⟩;(conv=>whnf);refine cl [] [] (kD l[i-1].path l[i].path (o _ (List.getElem_mem _)) (o _ (List.getElem_mem _))) ?_;(conv=>whnf);refine cO (fun k=>?_) (fun k=>?_)
      ·have b:ey (fR l i) l[i]=8:=by rw[d];unfold ey;simp[k]
       rw[b,if_pos (by decide)]at a;repeat'((conv=>whnf);first|refine aG ?_|fail)
       exact a.symm
      ·(conv=>whnf);refine dec (fun _=>?_) (fun h=>absurd g h);(conv=>whnf);refine⟨false,.grow,(.l [0,1,2,3,4,5,6,7,8,9,10,11,12,13]),by kernel_rfl,.inl ?_⟩;(conv=>whnf);refine⟨i64 (by omega) (by omega),?_⟩;(conv=>whnf);refine⟨i-1,l[i-1],by omega,List.getElem?_eq_getElem (by omega),?_⟩;(conv=>whnf);refine cl [] [] (pS l[i].path l[i-1].path (o _ (List.getElem_mem _))) ?_;rw[sg];(conv=>whnf);refine aL (fun m=>?_) (fun m=>?_)
       ·have b:ey (fR l i) l[i]=10:=by rw[d];unfold ey;simp[k,m]
        rw[b,if_pos (by decide)]at a;repeat'((conv=>whnf);first|refine aG ?_|fail)
        exact a.symm
       ·have b:ey (fR l i) l[i]=0:=by rw[d];unfold ey;simp[k,m]
        rw[b,if_neg (by decide)]at a;repeat'((conv=>whnf);refine I6 ?_)
        refine ag (i+1) [] [] ⟨e,a⟩ (by simp only[];omega) ?_;repeat' first|exact trivial|exact rfl|refine And.intro ?_ ?_
     ·obtain rfl:i=0:=by omega
      have b:ey (fR l 0) l[0]=0:=rfl;rw[b,if_neg (by decide)]at a;repeat'((conv=>whnf);refine I6 ?_)
      refine ag (0+1) [] [] ⟨e,a⟩ (by simp only[];omega) ?_;repeat' first|exact trivial|exact rfl|refine And.intro ?_ ?_
   ·rw[if_neg (fun h=>h.1 q)]at a;(conv=>whnf);refine⟨false,.grow,(.l [0,1,2,3,4,5,6,7,8,9,10,11,12,13,14]),by kernel_rfl,.inl ?_⟩;(conv=>whnf);refine dec (fun g=>?_) (fun g=>?_)
    ·have r:0<i:=by omega
     have d:fR l i=some l[i-1]:=by
      obtain⟨j,rfl⟩:∃j,i=j+1:=⟨i-1,by omega⟩;exact List.getElem?_eq_getElem (by omega)
     (conv=>whnf);refine⟨i64 (by omega) (by omega),?_⟩;(conv=>whnf);refine⟨i-1,l[i-1],by omega,List.getElem?_eq_getElem (by omega),?_⟩;(conv=>whnf);refine cl [] [] (kD l[i-1].path l[i].path (o _ (List.getElem_mem _)) (o _ (List.getElem_mem _))) ?_;(conv=>whnf);refine cO (fun k=>?_) (fun k=>?_)
     ·have b:ey (fR l i) l[i]=8:=by rw[d];unfold ey;simp[k]
      rw[b,if_pos (by decide)]at a;repeat'((conv=>whnf);first|refine aG ?_|fail)
      exact a.symm
     ·(conv=>whnf);refine dec (fun _=>?_) (fun h=>absurd g h);(conv=>whnf);refine⟨false,.grow,(.l [0,1,2,3,4,5,6,7,8,9,10,11,12,13]),by kernel_rfl,.inl ?_⟩;(conv=>whnf);refine⟨i64 (by omega) (by omega),?_⟩;(conv=>whnf);refine⟨i-1,l[i-1],by omega,List.getElem?_eq_getElem (by omega),?_⟩;(conv=>whnf);refine cl [] [] (pS l[i].path l[i-1].path (o _ (List.getElem_mem _))) ?_;rw[sg];(conv=>whnf);refine aL (fun m=>?_) (fun m=>?_)
      ·have b:ey (fR l i) l[i]=10:=by rw[d];unfold ey;simp[k,m]
       rw[b,if_pos (by decide)]at a;repeat'((conv=>whnf);first|refine aG ?_|fail)
       exact a.symm
      ·have b:ey (fR l i) l[i]=0:=by rw[d];unfold ey;simp[k,m]
       rw[b,if_neg (by decide)]at a;repeat'((conv=>whnf);refine I6 ?_)
       refine ag (i+1) [] [] ⟨e,a⟩ (by simp only[];omega) ?_;repeat' first|exact trivial|exact rfl|refine And.intro ?_ ?_
    ·obtain rfl:i=0:=by omega
     have b:ey (fR l 0) l[0]=0:=rfl;rw[b,if_neg (by decide)]at a;repeat'((conv=>whnf);refine I6 ?_)
     refine ag (0+1) [] [] ⟨e,a⟩ (by simp only[];omega) ?_;repeat' first|exact trivial|exact rfl|refine And.intro ?_ ?_
 ·rw[List.drop_of_length_le (by omega)]at a;repeat'((conv=>whnf);first|refine aG ?_|fail)
  rw[a];unfold gp;rfl
theorem nv(l:List Fi)(a:∀f∈l,f.path.length≤4000000):ae Tryz.prog 101 [.c (.bs 4 Fi ao l)] [] (Rt (.c (.int .i64 (cI l))) []):=by
 by_cases h:60<l.length
 ·refine ak (n:=68) (n0:=0) tabOk Tryz.call101 Tryz.func101 ?_;intro hb;repeat'((conv=>whnf);first|(refine dec (fun h=>?_) (fun h=>?_)<;>try contradiction)|refine aG ?_|fail)
  ·unfold cI;rw[if_pos (by omega)]
  ·omega
 ·have:=xj l (by omega) a;unfold cI;rw[if_neg h];exact this
end Go.Nest
end
section
namespace Go.Nest
open Go Go.AM Go.Proofs
open Go.Proofs.YtpechfcbnoggfaaGreatDoor (tab tabOk)
set_option maxRecDepth 4000
theorem y7(name:List UInt8)(l:List Fi):(bG name l).1.length+(bG name l).2.length=l.length:=by
 conv=>rhs;rw[o6 name l]
 rw[List.length_append,List.length_map]
theorem y9(name:List UInt8){l:List Fi}(h:∀f∈l,f.path.length≤4000000):(∀f∈(bG name l).1,f.path.length≤4000000)∧∀f∈(bG name l).2,f.path.length≤4000000:=by
 have e:=o6 name l;refine⟨fun f a=>?_,fun f a=>?_⟩
 ·have:=h (pre name f) (by rw[e];exact List.mem_append.2 (.inl (List.mem_map.2 ⟨f,a,rfl⟩)));rw[show(pre name f).path=name++47::f.path from rfl,List.length_append,List.length_cons]at this;omega
 ·exact h f (by rw[e];exact List.mem_append.2 (.inr a))
theorem FA{name:List UInt8}{f:Fi}{r:List Fi}{p:List UInt8}(h:under f.path name=some p):bG name (f::r)=(⟨p,f.mode,f.id,f.av⟩::(bG name r).1,(bG name r).2):=by
 rw[bG,h]
theorem FB{name:List UInt8}{f:Fi}{r:List Fi}(h:under f.path name=none):bG name (f::r)=([],f::r):=by
 rw[bG,h]
set_option maxHeartbeats 4000000 in
theorem CM:∀(n:Nat) (L:List Ob) (l:List Fi),mu l<n→ai L→l.length≤60→(∀f∈l,f.path.length≤4000000)→ae Tryz.prog 315 [.c (.ptr 0 0),.c (.bs 4 Fi ao l)] [.box [.rw 1],.row 6 Ob an L] (Rt (.aC [(false,[.int .i64 (aR n L [] l).1]),(false,[.int .i64 (aR n L [] l).2.1])]) [.box [.rw 2],.dead,.row 6 Ob an (aR n L [] l).2.2]):=by
 intro n;induction n using Nat.strongRecOn with
 |_ n ih=>
 intro L l hn hL hl hp;refine ak (n:=95) (n0:=2) tabOk Tryz.call315 Tryz.func315 ?_;intro hb;(conv=>whnf)
 refine lp (Nat×List Ob×List aD×List Fi) (fun x=>⟨[(0,.c (.ptr 0 0)),(1,.c (.bs 4 Fi ao x.2.2.2)),(6,.c (.rw 3))],[.box [.rw 2],.dead,.row 6 Ob an x.2.1,.row 4 aD cB x.2.2.1]⟩)
  (fun x=>(x.1≤n∧mu x.2.2.2<x.1∧x.2.2.1.length+x.2.2.2.length≤60)∧ai x.2.1∧(∀f∈x.2.2.2,f.path.length≤4000000)∧aR n L [] l=aR x.1 x.2.1 x.2.2.1 x.2.2.2) (fun x=>x.2.2.2.length) (n,L,[],l) [] [.same 0,.same 1,.same 1,.new] ?_ ?_ (fun x J=>?_)
 ·exact⟨⟨Nat.le_refl _,hn,by simpa using hl⟩,hL,hp,rfl⟩
 ·repeat' first|exact trivial|exact rfl|refine And.intro ?_ ?_
 obtain⟨k,M,o,q⟩:=x;obtain⟨⟨Z,U,W⟩,D,H,z⟩:=J;dsimp only at Z U W D H z;have P:=D.len;obtain⟨k,rfl⟩:∃m,k=m+1:=⟨k-1,by omega⟩;cases q with
 |nil=>
  rw[show aR (k+1) M o []=ax M (di o)from rfl]at z;rw[z];(conv=>whnf);refine cl [3] [0,2] (pC M (di o) P) ?_;(conv=>whnf);exact rx [] [.same 0,.same 1,.same 4]
 |cons f r=>
  rw[lK]at U;rw[List.length_cons]at W;have Y:=H f (by simp);have hr:∀f∈r,f.path.length≤4000000:=fun x J=>H x (by simp[J]);(conv=>whnf);refine dec (fun _=>?_) (fun h=>absurd (by simp) h);(conv=>whnf);refine⟨0,f,rfl,rfl,?_⟩;(conv=>whnf);refine cl [] [] (Dj f.path) ?_;by_cases I:f.path.count 47=0
  ·have e:aR (k+1) M o (f::r)=aR k M (o++[⟨f.path,f.mode,f.id,f.av⟩]) r:=by rw[aR,if_pos I]
   rw[e]at z;rw[Di I];(conv=>whnf);refine⟨false,.grow,(.l [0,1,2,3,4,5,6,7,8,9,10,11,12,13,14,15,16,17]),by kernel_rfl,.inl ?_⟩;(conv=>whnf);refine⟨0,f,rfl,rfl,?_⟩;(conv=>whnf);refine⟨0,f,rfl,rfl,?_⟩;(conv=>whnf);refine⟨0,f,rfl,rfl,?_⟩;(conv=>whnf);refine⟨[⟨f.path,f.mode,f.id,f.av⟩],rfl,?_⟩;(conv=>whnf);refine⟨_,_,rfl,rfl,(by simp only[List.length_append,List.length_cons,List.length_nil];omega),?_⟩;(conv=>whnf);refine⟨1,(f::r).length,rfl,rfl,⟨by simp,Nat.le_refl _⟩,?_⟩;(conv=>whnf);have tr:List.take ((f::r).length-1) (List.drop 1 (k+1,M,o,f::r).2.2.2)=r:=by simp
   rw[tr];refine ag (k,M,o++[⟨f.path,f.mode,f.id,f.av⟩],r) [] [.same 0,.same 1,.same 2,.same 5] ⟨⟨by simp only[];omega,by simp only[];omega,by simp;omega⟩,D,hr,z⟩ (by simp) ?_;repeat' first|exact trivial|exact rfl|refine And.intro ?_ ?_
  ·obtain⟨a,b,t,u,ha⟩:=xI I;have S:(cU f.path).1=a:=by rw[t]
   have Q:a.length≤4000000:=by rw[u]at Y;simp at Y;omega
   rw[t];(conv=>whnf)
   refine lp (List Fi×List Fi) (fun y=>⟨[(0,.c (.ptr 0 0)),(1,.c (.bs 4 Fi ao y.2)),(6,.c (.rw 3)),(7,.c (.str a)),(10,.c (.rw 4))],[.box [.rw 2],.dead,.row 6 Ob an M,.row 4 aD cB o,.row 4 Fi ao y.1]⟩)
    (fun y=>(y.1.length+y.2.length≤60∧True)∧(∀f∈y.2,f.path.length≤4000000)∧bG a (f::r)=(y.1++(bG a y.2).1,(bG a y.2).2)) (fun y=>y.2.length) ([],f::r) [] [.same 0,.same 1,.same 2,.same 3,.new] ?_ ?_ (fun y hy=>?_)
   ·exact⟨⟨by simp;omega,trivial⟩,H,rfl⟩
   ·repeat' first|exact trivial|exact rfl|refine And.intro ?_ ?_
   obtain⟨d,q⟩:=y;obtain⟨⟨T,_⟩,O,K⟩:=hy;dsimp only at T O K;cases q with
   |nil=>
    have s:bG a (f::r)=(d,[]):=by rw[K];simp[bG]
    (conv=>whnf);have w:=uq (r:=r) u;rw[s,lK]at w;dsimp only at w;have e:aR (k+1) M o (f::r)=if(aR k M [] d).2.1≠0 then(0,(aR k M [] d).2.1,(aR k M [] d).2.2)else aR k (aR k M [] d).2.2 (o++[⟨a,2,(aR k M [] d).1,0⟩]) []:=by rw[aR,if_neg I,t];dsimp only;rw[s]
    have v:d.length+ @List.length Fi []=r.length+1:=by have:=y7 a (f::r);rw[s]at this;simpa using this
    have j:=qW (r:=r) u;rw[s]at j;have j:0<d.length:=List.length_pos_iff.2 j;have i:=y9 a H;rw[s]at i;have F:=(lq k M [] d D).1;refine cl [4] [0,2] (ih k (by omega) M d (by omega) D (by omega) i.1) ?_;generalize aR k M [] d=R at*;(conv=>whnf);refine aw (fun E=>?_) (fun E=>?_)
    ·rw[if_pos E]at e;rw[z,e];(conv=>whnf);exact rx [] [.same 0,.same 1,.same 5]
    ·rw[if_neg (by simpa using E)]at e;(conv=>whnf);refine⟨[⟨a,2,R.1,0⟩],rfl,?_⟩;(conv=>whnf);refine⟨_,_,rfl,rfl,(by simp only[List.length_append,List.length_cons,List.length_nil];omega),?_⟩;skip;refine ag (k,R.2.2,o++[⟨a,2,R.1,0⟩],[]) [] [.same 0,.same 1,.same 5,.same 7] ⟨⟨by simp only[];omega,by simp only[];omega,by simp only[List.length_append,List.length_cons,List.length_nil]at v⊢;omega⟩,F,i.2,by rw[z,e]⟩ (by simp only[List.length_cons,List.length_nil]at v⊢;omega) ?_;repeat' first|exact trivial|exact rfl|refine And.intro ?_ ?_
   |cons g q=>
    have ac:=O g (by simp);(conv=>whnf);refine dec (fun _=>?_) (fun h=>absurd (by simp) h);(conv=>whnf);refine⟨0,g,rfl,rfl,?_⟩;(conv=>whnf);refine cl [] [] (pS g.path a Q) ?_;cases N:under g.path a with
    |none=>
     have s:bG a (f::r)=(d,g::q):=by rw[K,FB N];simp
     rw[show fh g.path a=(g.path,false)by unfold fh;rw[N]];(conv=>whnf);have w:=uq (r:=r) u;rw[s,lK]at w;dsimp only at w;have e:aR (k+1) M o (f::r)=if(aR k M [] d).2.1≠0 then(0,(aR k M [] d).2.1,(aR k M [] d).2.2)else aR k (aR k M [] d).2.2 (o++[⟨a,2,(aR k M [] d).1,0⟩]) (g::q):=by rw[aR,if_neg I,t];dsimp only;rw[s]
     have v:d.length+ @List.length Fi (g::q)=r.length+1:=by have:=y7 a (f::r);rw[s]at this;simpa using this
     have j:=qW (r:=r) u;rw[s]at j;have j:0<d.length:=List.length_pos_iff.2 j;have i:=y9 a H;rw[s]at i;have F:=(lq k M [] d D).1;refine cl [4] [0,2] (ih k (by omega) M d (by omega) D (by omega) i.1) ?_;generalize aR k M [] d=R at*;(conv=>whnf);refine aw (fun E=>?_) (fun E=>?_)
     ·rw[if_pos E]at e;rw[z,e];(conv=>whnf);exact rx [] [.same 0,.same 1,.same 5]
     ·rw[if_neg (by simpa using E)]at e;(conv=>whnf);refine⟨[⟨a,2,R.1,0⟩],rfl,?_⟩;(conv=>whnf);refine⟨_,_,rfl,rfl,(by simp only[List.length_append,List.length_cons,List.length_nil];omega),?_⟩;skip;refine ag (k,R.2.2,o++[⟨a,2,R.1,0⟩],(g::q)) [] [.same 0,.same 1,.same 5,.same 7] ⟨⟨by simp only[];omega,by simp only[];omega,by simp only[List.length_append,List.length_cons,List.length_nil]at v⊢;omega⟩,F,i.2,by rw[z,e]⟩ (by simp only[List.length_cons,List.length_nil]at v⊢;omega) ?_;repeat' first|exact trivial|exact rfl|refine And.intro ?_ ?_
    |some p=>
     have s:=K;rw[FA N]at s;rw[show fh g.path a=(p,true)by unfold fh;rw[N]];(conv=>whnf);refine⟨0,g,rfl,rfl,?_⟩;(conv=>whnf);refine⟨[⟨p,g.mode,g.id,g.av⟩],rfl,?_⟩;(conv=>whnf);rw[List.length_cons]at T;refine⟨_,_,rfl,rfl,(by simp only[List.length_append,List.length_cons,List.length_nil];omega),?_⟩;(conv=>whnf);refine⟨1,(g::q).length,rfl,rfl,⟨by simp,Nat.le_refl _⟩,?_⟩;(conv=>whnf);have tr:List.take ((g::q).length-1) (List.drop 1 (d,g::q).2)=q:=by simp
     rw[tr];refine ag (d++[⟨p,g.mode,g.id,g.av⟩],q) [] [.same 0,.same 1,.same 2,.same 3,.same 7] ⟨⟨by simp;omega,trivial⟩,fun x J=>O x (by simp[J]),by rw[s];simp⟩ (by simp) ?_;repeat' first|exact trivial|exact rfl|refine And.intro ?_ ?_
end Go.Nest
end
section
namespace Go.Nest
open Go Go.AM Go.Proofs
open Go.Proofs.YtpechfcbnoggfaaGreatDoor (tab tabOk)
set_option maxRecDepth 4000
theorem yh(L:List Ob)(l:List Fi)(e:ai L)(b:∀f∈l,f.path.length≤4000000):ae Tryz.prog 269 [.c (.ptr 0 0),.c (.bs 4 Fi ao l)] [.box [.rw 1],.row 6 Ob an L] (Rt (.aC [(false,[.int .i64 (cg L l).1]),(false,[.int .i64 (cg L l).2.1])]) [.box [.rw 2],.dead,.row 6 Ob an (cg L l).2.2]):=by
 refine ak (n:=17) (n0:=2) tabOk Tryz.call269 Tryz.func269 ?_;intro hb;(conv=>whnf);refine cl [] [] (nv l b) ?_;unfold cg;(conv=>whnf);refine aw (fun h=>?_) (fun h=>?_)
 ·rw[if_pos h];(conv=>whnf);exact rx [] [.same 0,.same 1,.same 1]
 ·have a:cI l=0:=by simpa using h
  have d:=(jh a).1;rw[if_neg (by simpa using a)];(conv=>whnf);refine cl [] [0,1] (CM (mu l+1) L l (Nat.lt_succ_self _) e d b) ?_;(conv=>whnf);exact rx [] [.same 0,.same 1,.same 2]
theorem oe:∀(l:List (List UInt8)),(∀s∈l,s.length≤20)→(b5 l).length≤21*l.length
 |[],_=>by simp[b5]
 |[x],h=>by have:=h x (by simp);simp[b5];omega
 |x::y::r,h=>by
  have c:=h x (by simp);have b:=oe (y::r) (fun s a=>h s (by simp at a⊢;exact .inr a));simp[b5]at b⊢;omega
theorem ph{s:List UInt8}(h:bJ s=0):s.length≤20:=by
 unfold bJ at h;split at h
 ·cases h
 split at h
 ·cases h
 ·omega
theorem nA(L:List Ob):∀(n:Nat) (t:Int) (ins:List (List UInt8)) (out:List Fi),out.length≤60→(bV L n t ins out).2.length≤60
 |0,_,_,out,h=>h
 |n+1,t,ins,out,h=>by
  have b:∀(a:List aD) (out:List Fi),out.length≤60→(cX (bV L n) ins a out).2.length≤60:=by
   intro a;induction a with
   |nil=>intro out h;exact h
   |cons e r ih=>
    intro out h;unfold cX;split
    ·split
     ·exact nA L n _ _ out h
     ·exact ih _ (nA L n _ _ out h)
    ·split
     ·exact h
     ·exact ih _ (by rw[List.length_append,List.length_singleton];omega)
  unfold bV;split
  ·exact h
  split
  ·exact h
  ·exact b _ out h
set_option maxHeartbeats 4000000 in
theorem Ep(L:List Ob)(J:ai L):∀(n:Nat) (t:Int) (ins:List (List UInt8)) (out:List Fi),ins.length+n=8→(∀s∈ins,s.length≤20)→out.length≤60→ae Tryz.prog 248 [.c (.bp [.bs 6 Ob an L]),.c (.int .i64 t),.c (.bs 1 (List UInt8) encS ins),.c (.ptr 0 0)] [.box [.rw 1],.row 4 Fi ao out]
  (Rt (.c (.int .i64 (bV L (n+1) t ins out).1)) [.box [.rw 2],.dead,.row 4 Fi ao (bV L (n+1) t ins out).2]):=by
 intro n;induction n using Nat.strongRecOn with
 |_ n ih=>
 intro t ins out Z Q g;refine ak (n:=86) (n0:=2) tabOk Tryz.call248 Tryz.func248 ?_;intro hb;(conv=>whnf);refine cl [] [] (fc L J t) ?_;have D:=eP (l:=L) (id:=t);by_cases f:kindOf L t≠2
 ·have k:bV L (n+1) t ins out=(9,out):=by rw[bV,if_pos f]
  rw[k];by_cases z:kindOf L t=0
  ·rw[show decide (kindOf L t≠0)=false by simp[z]];(conv=>whnf);exact rx [] [.same 0,.same 1,.same 1]
  ·rw[show decide (kindOf L t≠0)=true by simp[z]];(conv=>whnf);refine aw (fun _=>?_) (fun h=>absurd (D.symm.trans h) f);(conv=>whnf);exact rx [] [.same 0,.same 1,.same 1]
 have f:kindOf L t=2:=Classical.not_not.1 f;rw[show decide (kindOf L t≠0)=true by simp[f]];have k:bV L (n+1) t ins out=if 8≤ins.length∧0<(aj L t).entries.length then(3,out)else cX (bV L n) ins (aj L t).entries out:=by rw[bV,if_neg (by simpa using f)]
 obtain⟨W,E⟩:=gM J f;have U:=(J.tree f).2.2.1;generalize Y:aj L t=o at*;(conv=>whnf);refine aw (fun h=>absurd (D.trans f) h) (fun _=>?_);(conv=>whnf);have P:¬(8≤ins.length∧0<o.entries.length)→True:=fun _=>trivial;refine dec (fun H=>?_) (fun H=>?_)
 ·(conv=>whnf);refine dec (fun T=>?_) (fun T=>?_)
  ·have S:bV L (n+1) t ins out=(3,out):=by rw[k,if_pos (by omega)]
   rw[S];(conv=>whnf);exact rx [] [.same 0,.same 1,.same 1]
  ·rw[if_neg (by omega)]at k;have K:o.entries=[]:=List.eq_nil_of_length_eq_zero (by omega);have u:o.entries≠[]→ins.length<8:=fun h=>absurd K h;rw[k];(conv=>whnf)
   refine lp (Nat×List Fi) (fun x=>⟨[(0,.c (.bp [.bs 6 Ob an L])),(2,.c (.bs 1 (List UInt8) encS ins)),(3,.c (.ptr 0 0)),(40,.c (.ls 4 aD cB o.entries)),(41,.c (.int .i64 o.entries.length)),(42,.c (.int .i64 x.1))],[.box [.rw 2],.dead,.row 4 Fi ao x.2]⟩)
    (fun x=>(x.1≤o.entries.length∧x.2.length≤60)∧cX (bV L n) ins o.entries out=cX (bV L n) ins (o.entries.drop x.1) x.2) (fun x=>o.entries.length-x.1) (0,out) [] [.same 0,.same 1,.same 1] ?_ ?_ (fun x O=>?_)
   ·exact⟨⟨Nat.zero_le _,g⟩,rfl⟩
   ·repeat' first|exact trivial|exact rfl|refine And.intro ?_ ?_
   obtain⟨i,q⟩:=x;obtain⟨⟨F,p⟩,b⟩:=O;dsimp only at F p b;(conv=>whnf);refine dec (fun r=>?_) (fun r=>?_)
   ·have a:i<o.entries.length:=by simpa using r
    have I:=E _ (List.getElem_mem a);have H:=u (by intro h;rw[h]at a;simp at a);rw[List.drop_eq_getElem_cons a]at b;(conv=>whnf);refine⟨i,o.entries[i],rfl,List.getElem?_eq_getElem a,?_⟩;(conv=>whnf);have M:(ins++[o.entries[i].name]).length≤8:=by rw[List.length_append,List.length_singleton];omega
    refine⟨false,.grow,(.alt [0,2,3] [1,4] fun j=>bif Nat.beq j 1 then(.l [4,5,6])else bif Nat.beq j 4 then(.l [1,5,6])else .l []),by kernel_rfl,.inr ⟨Unit,fun _=>⟨[(0,.c (.bp [.bs 6 Ob an L])),(2,.c (.bs 1 (List UInt8) encS ins)),(3,.c (.ptr 0 0)),(40,.c (.ls 4 aD cB o.entries)),(41,.c (.int .i64 o.entries.length)),(42,.c (.int .i64 i)),(12,.c (.ptr 3 0)),(13,.c (.rw 4))],[.box [.rw 2],.dead,.row 4 Fi ao q,.box (cB o.entries[i]),.row 1 (List UInt8) encS (ins++[o.entries[i].name])]⟩,fun _=>True,?_,?_⟩⟩
    ·(conv=>whnf);refine And.intro ?_ ?_
     ·(conv=>whnf);refine cl [] [] (qv ins (by omega)) ?_;(conv=>whnf);refine⟨[o.entries[i].name],rfl,?_⟩;(conv=>whnf);refine⟨_,_,rfl,rfl,(by simp only[List.length_append,List.length_cons,List.length_nil];omega),?_⟩;(conv=>whnf);refine⟨(),trivial,[],[.same 0,.same 1,.same 2,.same 3,.same 6],?_⟩;repeat' first|exact trivial|exact rfl|refine And.intro ?_ ?_
     ·(conv=>whnf);refine⟨[o.entries[i].name],rfl,?_⟩;(conv=>whnf);refine cl [] [] (qv ins (by omega)) ?_;(conv=>whnf);refine⟨_,_,rfl,rfl,(by simp only[List.length_append,List.length_cons,List.length_nil];omega),?_⟩;(conv=>whnf);refine⟨(),trivial,[],[.same 0,.same 1,.same 2,.same 3,.same 6],?_⟩;repeat' first|exact trivial|exact rfl|refine And.intro ?_ ?_
    intro _ _
    have e:∀s∈ins++[o.entries[i].name],s.length≤20:=fun s h=>by
     rcases List.mem_append.1 h with h|h
     ·exact Q s h
     ·rw[List.mem_singleton]at h;rw[h];exact ph I.name
    (conv=>whnf);refine dec (fun w=>?_) (fun w=>?_)
    ·obtain⟨y,rfl⟩:∃m,n=m+1:=⟨n-1,by omega⟩;rw[cX,if_pos w]at b;(conv=>whnf);refine cl [] [0,2] (ih y (by omega) o.entries[i].id (ins++[o.entries[i].name]) q (by rw[List.length_append,List.length_singleton];omega) e p) ?_;have v:=nA L (y+1) o.entries[i].id (ins++[o.entries[i].name]) q p;generalize bV L (y+1) o.entries[i].id (ins++[o.entries[i].name]) q=R at*;(conv=>whnf);refine aw (fun d=>?_) (fun d=>?_)
     ·rw[if_pos d]at b;rw[b];(conv=>whnf);exact rx [] [.same 0,.same 1,.same 5]
     ·rw[if_neg (by simpa using d)]at b;repeat'((conv=>whnf);refine I6 ?_)
      refine ag (i+1,R.2) [] [.same 0,.same 1,.same 5] ⟨⟨a,v⟩,b⟩ (by simp only[];omega) ?_;repeat' first|exact trivial|exact rfl|refine And.intro ?_ ?_
    ·rw[cX,if_neg w]at b;(conv=>whnf);refine dec (fun d=>?_) (fun d=>?_)
     ·rw[if_pos (by omega)]at b;rw[b];(conv=>whnf);exact rx [] [.same 0,.same 1,.same 2]
     ·rw[if_neg (by omega)]at b;have N:=oe _ e;(conv=>whnf);refine⟨false,.grow,(.l [0,1,2,3,4,6,7,8,9,10,11,5,12,13,14,15,16]),by kernel_rfl,.inr ⟨Unit,fun _=>⟨[(0,.c (.bp [.bs 6 Ob an L])),(2,.c (.bs 1 (List UInt8) encS ins)),(3,.c (.ptr 0 0)),(40,.c (.ls 4 aD cB o.entries)),(41,.c (.int .i64 o.entries.length)),(42,.c (.int .i64 i))],[.box [.rw 2],.dead,.row 4 Fi ao (q++[⟨b5 (ins++[o.entries[i].name]),o.entries[i].mode,o.entries[i].id,o.entries[i].av⟩])]⟩,fun _=>True,?_,?_⟩⟩
      ·(conv=>whnf);refine cl [] [] (Ar (ins++[o.entries[i].name]) (by omega) (by omega)) ?_;(conv=>whnf);refine⟨[⟨b5 (ins++[o.entries[i].name]),o.entries[i].mode,o.entries[i].id,o.entries[i].av⟩],rfl,?_⟩;(conv=>whnf);refine⟨_,_,rfl,rfl,(by simp only[List.length_append,List.length_cons,List.length_nil];omega),?_⟩;(conv=>whnf);refine⟨(),trivial,[],[.same 0,.same 1,.same 6],?_⟩;repeat' first|exact trivial|exact rfl|refine And.intro ?_ ?_
      intro _ _;repeat'((conv=>whnf);refine I6 ?_)
      refine ag (i+1,(q++[⟨b5 (ins++[o.entries[i].name]),o.entries[i].mode,o.entries[i].id,o.entries[i].av⟩])) [] [.same 0,.same 1,.same 2] ⟨⟨a,by simp only[List.length_append,List.length_cons,List.length_nil];omega⟩,b⟩ (by simp only[];omega) ?_;repeat' first|exact trivial|exact rfl|refine And.intro ?_ ?_
   ·rw[List.drop_of_length_le (by simp at r;omega)]at b;rw[b];(conv=>whnf);exact rx [] [.same 0,.same 1,.same 2]
 ·rw[if_neg (by omega)]at k;have u:o.entries≠[]→ins.length<8:=fun _=>by omega
  rw[k];(conv=>whnf)
  refine lp (Nat×List Fi) (fun x=>⟨[(0,.c (.bp [.bs 6 Ob an L])),(2,.c (.bs 1 (List UInt8) encS ins)),(3,.c (.ptr 0 0)),(40,.c (.ls 4 aD cB o.entries)),(41,.c (.int .i64 o.entries.length)),(42,.c (.int .i64 x.1))],[.box [.rw 2],.dead,.row 4 Fi ao x.2]⟩)
   (fun x=>(x.1≤o.entries.length∧x.2.length≤60)∧cX (bV L n) ins o.entries out=cX (bV L n) ins (o.entries.drop x.1) x.2) (fun x=>o.entries.length-x.1) (0,out) [] [.same 0,.same 1,.same 1] ?_ ?_ (fun x O=>?_)
  ·exact⟨⟨Nat.zero_le _,g⟩,rfl⟩
  ·repeat' first|exact trivial|exact rfl|refine And.intro ?_ ?_
  obtain⟨i,q⟩:=x;obtain⟨⟨F,p⟩,b⟩:=O;dsimp only at F p b;(conv=>whnf);refine dec (fun r=>?_) (fun r=>?_)
  ·have a:i<o.entries.length:=by simpa using r
   have I:=E _ (List.getElem_mem a);have H:=u (by intro h;rw[h]at a;simp at a);rw[List.drop_eq_getElem_cons a]at b;(conv=>whnf);refine⟨i,o.entries[i],rfl,List.getElem?_eq_getElem a,?_⟩;(conv=>whnf);have M:(ins++[o.entries[i].name]).length≤8:=by rw[List.length_append,List.length_singleton];omega
   refine⟨false,.grow,(.alt [0,2,3] [1,4] fun j=>bif Nat.beq j 1 then(.l [4,5,6])else bif Nat.beq j 4 then(.l [1,5,6])else .l []),by kernel_rfl,.inr ⟨Unit,fun _=>⟨[(0,.c (.bp [.bs 6 Ob an L])),(2,.c (.bs 1 (List UInt8) encS ins)),(3,.c (.ptr 0 0)),(40,.c (.ls 4 aD cB o.entries)),(41,.c (.int .i64 o.entries.length)),(42,.c (.int .i64 i)),(12,.c (.ptr 3 0)),(13,.c (.rw 4))],[.box [.rw 2],.dead,.row 4 Fi ao q,.box (cB o.entries[i]),.row 1 (List UInt8) encS (ins++[o.entries[i].name])]⟩,fun _=>True,?_,?_⟩⟩
   ·(conv=>whnf);refine And.intro ?_ ?_
    ·(conv=>whnf);refine cl [] [] (qv ins (by omega)) ?_;(conv=>whnf);refine⟨[o.entries[i].name],rfl,?_⟩;(conv=>whnf);refine⟨_,_,rfl,rfl,(by simp only[List.length_append,List.length_cons,List.length_nil];omega),?_⟩;(conv=>whnf);refine⟨(),trivial,[],[.same 0,.same 1,.same 2,.same 3,.same 6],?_⟩;repeat' first|exact trivial|exact rfl|refine And.intro ?_ ?_
    ·(conv=>whnf);refine⟨[o.entries[i].name],rfl,?_⟩;(conv=>whnf);refine cl [] [] (qv ins (by omega)) ?_;(conv=>whnf);refine⟨_,_,rfl,rfl,(by simp only[List.length_append,List.length_cons,List.length_nil];omega),?_⟩;(conv=>whnf);refine⟨(),trivial,[],[.same 0,.same 1,.same 2,.same 3,.same 6],?_⟩;repeat' first|exact trivial|exact rfl|refine And.intro ?_ ?_
   intro _ _
   have e:∀s∈ins++[o.entries[i].name],s.length≤20:=fun s h=>by
    rcases List.mem_append.1 h with h|h
    ·exact Q s h
    ·rw[List.mem_singleton]at h;rw[h];exact ph I.name
   (conv=>whnf);refine dec (fun w=>?_) (fun w=>?_)
   ·obtain⟨y,rfl⟩:∃m,n=m+1:=⟨n-1,by omega⟩;rw[cX,if_pos w]at b;(conv=>whnf);refine cl [] [0,2] (ih y (by omega) o.entries[i].id (ins++[o.entries[i].name]) q (by rw[List.length_append,List.length_singleton];omega) e p) ?_;have v:=nA L (y+1) o.entries[i].id (ins++[o.entries[i].name]) q p;generalize bV L (y+1) o.entries[i].id (ins++[o.entries[i].name]) q=R at*;(conv=>whnf);refine aw (fun d=>?_) (fun d=>?_)
    ·rw[if_pos d]at b;rw[b];(conv=>whnf);exact rx [] [.same 0,.same 1,.same 5]
    ·rw[if_neg (by simpa using d)]at b;repeat'((conv=>whnf);refine I6 ?_)
     refine ag (i+1,R.2) [] [.same 0,.same 1,.same 5] ⟨⟨a,v⟩,b⟩ (by simp only[];omega) ?_;repeat' first|exact trivial|exact rfl|refine And.intro ?_ ?_
   ·rw[cX,if_neg w]at b;(conv=>whnf);refine dec (fun d=>?_) (fun d=>?_)
    ·rw[if_pos (by omega)]at b;rw[b];(conv=>whnf);exact rx [] [.same 0,.same 1,.same 2]
    ·rw[if_neg (by omega)]at b;have N:=oe _ e;(conv=>whnf);refine⟨false,.grow,(.l [0,1,2,3,4,6,7,8,9,10,11,5,12,13,14,15,16]),by kernel_rfl,.inr ⟨Unit,fun _=>⟨[(0,.c (.bp [.bs 6 Ob an L])),(2,.c (.bs 1 (List UInt8) encS ins)),(3,.c (.ptr 0 0)),(40,.c (.ls 4 aD cB o.entries)),(41,.c (.int .i64 o.entries.length)),(42,.c (.int .i64 i))],[.box [.rw 2],.dead,.row 4 Fi ao (q++[⟨b5 (ins++[o.entries[i].name]),o.entries[i].mode,o.entries[i].id,o.entries[i].av⟩])]⟩,fun _=>True,?_,?_⟩⟩
     ·(conv=>whnf);refine cl [] [] (Ar (ins++[o.entries[i].name]) (by omega) (by omega)) ?_;(conv=>whnf);refine⟨[⟨b5 (ins++[o.entries[i].name]),o.entries[i].mode,o.entries[i].id,o.entries[i].av⟩],rfl,?_⟩;(conv=>whnf);refine⟨_,_,rfl,rfl,(by simp only[List.length_append,List.length_cons,List.length_nil];omega),?_⟩;(conv=>whnf);refine⟨(),trivial,[],[.same 0,.same 1,.same 6],?_⟩;repeat' first|exact trivial|exact rfl|refine And.intro ?_ ?_
     intro _ _;repeat'((conv=>whnf);refine I6 ?_)
     refine ag (i+1,(q++[⟨b5 (ins++[o.entries[i].name]),o.entries[i].mode,o.entries[i].id,o.entries[i].av⟩])) [] [.same 0,.same 1,.same 2] ⟨⟨a,by simp only[List.length_append,List.length_cons,List.length_nil];omega⟩,b⟩ (by simp only[];omega) ?_;repeat' first|exact trivial|exact rfl|refine And.intro ?_ ?_
  ·rw[List.drop_of_length_le (by simp at r;omega)]at b;rw[b];(conv=>whnf);exact rx [] [.same 0,.same 1,.same 2]
theorem qI(L:List Ob)(a:ai L)(t:Int):ae Tryz.prog 167 [.c (.bp [.bs 6 Ob an L]),.c (.int .i64 t)] [] (Rt (.aC [(false,[.rw 0]),(false,[.int .i64 (bw L t).2])]) [.row 4 Fi ao (bw L t).1]):=by
 refine iX (n:=15) (n0:=0) tabOk Tryz.call167 Tryz.func167 ?_;intro hb;have b:=Ep L a 8 t [] [] rfl (by simp) (by simp);have d:=nA L 9 t [] [] (by simp);unfold bw;generalize bV L 9 t [] []=R at*;refine XM.seq ?_;(conv=>whnf);refine XM.seq ?_;(conv=>whnf);refine XM.le (t:=⟨[(0,.c (.bp [.bs 6 Ob an L])),(1,.c (.int .i64 t)),(6,.c (.ptr 0 0))],[.box [.rw 1],.row 4 Fi ao []]⟩) [] [.same 0,.new] (by repeat' first|exact trivial|exact rfl|refine And.intro ?_ ?_) ?_;refine XM.of ?_;(conv=>whnf);refine cl [] [0,1] (b) ?_;(conv=>whnf);refine aw (fun h=>?_) (fun h=>?_)
 ·rw[if_neg h];(conv=>whnf);exact rx [] [.new]
 ·rw[if_pos h];(conv=>whnf);exact rx [] [.same 2]
theorem DG(x:aD)(d:List UInt8):ae Tryz.prog 330 [.st (cB x),.c (.bp [.str d])] [] (Rt (.c (.bool (isDir d x))) []):=by
 refine ak (n:=13) (n0:=0) tabOk Tryz.call330 Tryz.func330 ?_;intro hb;repeat'((conv=>whnf);first|(refine dec (fun h=>?_) (fun h=>?_)<;>try contradiction)|refine aE ?_|fail)
 all_goals simp_all [isDir]
theorem Fh(l:List aD)(d:List UInt8):ae Tryz.prog 329 [.c (.bs 4 aD cB l),.c (.fn 330 [.bp [.str d]])] [] (Rt (.c (.int .i64 (bF (isDir d) l))) []):=by
 refine ak (n:=19) (n0:=0) tabOk Tryz.call329 Tryz.func329 ?_;intro hb;have hb:l.length≤9223372036854775807:=hb.1.1;(conv=>whnf);refine lp Nat (fun i=>⟨[(0,.c (.bs 4 aD cB l)),(1,.c (.fn 330 [.bp [.str d]])),(7,.c (.int .i64 l.length)),(8,.c (.int .i64 i))],[]⟩) (fun i=>i≤l.length∧(l.take i).any (isDir d)=false) (fun i=>l.length-i) 0 [] [] ?_ ?_ (fun i b=>?_)
 ·simp
 ·repeat' first|exact trivial|exact rfl|refine And.intro ?_ ?_
 (conv=>whnf);refine dec (fun e=>?_) (fun e=>?_)
 ·have a:i<l.length:=by omega
  repeat'((conv=>whnf);first|refine⟨_,_,rfl,List.getElem?_eq_getElem (by omega),?_⟩|fail)
  (conv=>whnf);refine cl [] [] (DG l[i] d) ?_;repeat'((conv=>whnf);first|refine aL (fun h=>?_) (fun h=>?_)|refine⟨i64 (by omega) (by omega),?_⟩|refine aG ?_|fail)
  ·exact jk a b.2 h
  ·refine ag (i+1) [] [] ⟨a,gA a b.2 h⟩ (by simp only[];omega) ?_;repeat' first|exact trivial|exact rfl|refine And.intro ?_ ?_
 ·repeat'((conv=>whnf);first|refine aG ?_|fail)
  have:=b.2;rw[List.take_of_length_le (by omega)]at this;exact jT this
theorem uf{α:Type}{p:α→Bool}{l:List α}:(¬0≤bF p l∧l.find? p=none)∨∃(i:Nat) (h:i<l.length),bF p l=i∧l.find? p=some l[i]:=by
 unfold bF;cases h:l.findIdx? p with
 |none=>
  rw[List.findIdx?_eq_none_iff]at h;exact .inl ⟨by simp,by rw[List.find?_eq_none];intro x e;simp[h x e]⟩
 |some i=>
  rw[List.findIdx?_eq_some_iff_getElem]at h;obtain⟨a,b,c⟩:=h;refine .inr ⟨i,a,rfl,?_⟩;rw[List.find?_eq_some_iff_getElem];exact⟨b,i,a,rfl,fun j d=>by simpa using c j d⟩
set_option maxHeartbeats 2000000 in
theorem Co(L:List Ob)(v:ai L)(t:Int)(dir:List UInt8)(hd:dir.length≤4000000):ae Tryz.prog 284 [.c (.bp [.bs 6 Ob an L]),.c (.int .i64 t),.c (.str dir)] [] (Rt (.aC [(false,[.int .i64 (cV L t dir).1]),(false,[.int .i64 (cV L t dir).2])]) []):=by
 refine ak (n:=56) (n0:=0) tabOk Tryz.call284 Tryz.func284 ?_;intro hb;(conv=>whnf);refine cl [] [] (vf dir hd) ?_;unfold cV;have f:(bZ dir).2=0→(bZ dir).1.length≤8:=fun h=>by obtain⟨_,r,s⟩:=lT h;rw[s];exact r
 generalize bZ dir=S at*;(conv=>whnf);refine aw (fun h=>?_) (fun h=>?_)
 ·rw[if_pos h];(conv=>whnf);exact rx [] []
 rw[if_neg (by simpa using h)];have f:=f h;(conv=>whnf);refine lp (Nat×Int) (fun x=>⟨[(0,.c (.bp [.bs 6 Ob an L])),(1,.c (.int .i64 x.2)),(23,.c (.rw 0)),(24,.c (.int .i64 S.1.length)),(25,.c (.int .i64 x.1))],[.row 1 (List UInt8) encS S.1]⟩) (fun x=>x.1≤S.1.length∧gT L t S.1=gT L x.2 (S.1.drop x.1)) (fun x=>S.1.length-x.1) (0,t) [] [.same 0] ?_ ?_ (fun x w=>?_)
 ·exact⟨Nat.zero_le _,rfl⟩
 ·repeat' first|exact trivial|exact rfl|refine And.intro ?_ ?_
 obtain⟨i,u⟩:=x;obtain⟨q,m⟩:=w;dsimp only at q m;rw[m];(conv=>whnf);refine dec (fun g=>?_) (fun g=>?_)
 ·have a:i<S.1.length:=by simpa using g
  rw[List.drop_eq_getElem_cons a,gT];(conv=>whnf);refine⟨i,⟨rfl,a⟩,?_⟩;(conv=>whnf);refine⟨S.1[i],List.getElem?_eq_getElem a,?_⟩;(conv=>whnf);refine cl [] [] (fc L v u) ?_;have e:=eP (l:=L) (id:=u);by_cases b:kindOf L u≠2
  ·rw[if_pos b];by_cases d:kindOf L u=0
   ·rw[show decide (kindOf L (i,u).snd≠0)=false by simp[d]];(conv=>whnf);exact rx [] []
   ·rw[show decide (kindOf L (i,u).snd≠0)=true by simp[d]];(conv=>whnf);refine aw (fun _=>?_) (fun h=>absurd (e.symm.trans h) b);(conv=>whnf);exact rx [] []
  rw[if_neg b];have b:kindOf L u=2:=Classical.not_not.1 b;rw[show decide (kindOf L (i,u).snd≠0)=true by simp[b]];(conv=>whnf);refine aw (fun h=>absurd (e.trans b) h) (fun _=>?_);(conv=>whnf);refine cl [] [] (Fh (aj L u).entries S.1[i]) ?_;rcases uf (p:=isDir S.1[i]) (l:=(aj L u).entries)with⟨o,j⟩|⟨k,o,j,k3⟩
  ·rw[j];(conv=>whnf);refine dec (fun _=>?_) (fun h=>absurd (by omega) h);(conv=>whnf);exact rx [] []
  ·rw[k3,j];(conv=>whnf);refine⟨k,(aj L u).entries[k],rfl,List.getElem?_eq_getElem o,?_⟩;repeat'((conv=>whnf);refine I6 ?_)
   refine ag (i+1,(aj L u).entries[k].id) [] [.same 0] ⟨a,?_⟩ (by simp only[];omega) ?_
   ·rfl
   ·repeat' first|exact trivial|exact rfl|refine And.intro ?_ ?_
 ·rw[List.drop_of_length_le (by simp at g;omega),gT];(conv=>whnf);exact rx [] []
end Go.Nest
end
section
namespace Go.Nest
open Go Go.AM Go.Proofs
open Go.Proofs.YtpechfcbnoggfaaGreatDoor (tab tabOk)
set_option maxRecDepth 4000
theorem Es(x:Fi)(p:List UInt8):ae Tryz.prog 326 [.st (ao x),.c (.bp [.str p])] [] (Rt (.c (.bool (decide (x.path=p)))) []):=by
 refine ak (n:=8) (n0:=0) tabOk Tryz.call326 Tryz.func326 ?_;intro hb;repeat'((conv=>whnf);first|refine aE ?_|fail)
 rfl
theorem Fj(l:List Fi)(p:List UInt8):ae Tryz.prog 325 [.c (.bs 4 Fi ao l),.c (.fn 326 [.bp [.str p]])] [] (Rt (.c (.int .i64 (bF (fun f:Fi=>decide (f.path=p)) l))) []):=by
 refine ak (n:=19) (n0:=0) tabOk Tryz.call325 Tryz.func325 ?_;intro hb;have hb:l.length≤9223372036854775807:=hb.1.1;(conv=>whnf);refine lp Nat (fun i=>⟨[(0,.c (.bs 4 Fi ao l)),(1,.c (.fn 326 [.bp [.str p]])),(7,.c (.int .i64 l.length)),(8,.c (.int .i64 i))],[]⟩) (fun i=>i≤l.length∧(l.take i).any (fun f:Fi=>decide (f.path=p))=false) (fun i=>l.length-i) 0 [] [] ?_ ?_ (fun i b=>?_)
 ·simp
 ·repeat' first|exact trivial|exact rfl|refine And.intro ?_ ?_
 (conv=>whnf);refine dec (fun d=>?_) (fun d=>?_)
 ·have a:i<l.length:=by omega
  repeat'((conv=>whnf);first|refine⟨_,_,rfl,List.getElem?_eq_getElem (by omega),?_⟩|fail)
  (conv=>whnf);refine cl [] [] (Es l[i] p) ?_;repeat'((conv=>whnf);first|(refine dec (fun h=>?_) (fun h=>?_)<;>try contradiction)|refine⟨i64 (by omega) (by omega),?_⟩|refine aG ?_|fail)
  ·exact jk a b.2 (by simpa using h)
  ·refine ag (i+1) [] [] ⟨a,gA a b.2 (by simpa using h)⟩ (by simp only[];omega) ?_;repeat' first|exact trivial|exact rfl|refine And.intro ?_ ?_
 ·repeat'((conv=>whnf);first|refine aG ?_|fail)
  have:=b.2;rw[List.take_of_length_le (by omega)]at this;exact jT this
theorem find_spec(l:List Fi)(p:List UInt8):ae Tryz.prog 277 [.c (.bs 4 Fi ao l),.c (.str p)] [] (Rt (.aC [(true,ao (eN l p).1),(false,[.bool (eN l p).2])]) []):=by
 refine ak (n:=17) (n0:=0) tabOk Tryz.call277 Tryz.func277 ?_;intro hb;(conv=>whnf);refine cl [] [] (Fj l p) ?_;rcases uf (p:=fun f:Fi=>decide (f.path=p)) (l:=l)with⟨b,a⟩|⟨k,b,a,k3⟩
 ·have e:eN l p=(dJ,false):=by unfold eN;rw[a]
  rw[e];(conv=>whnf);refine dec (fun _=>?_) (fun h=>absurd (by omega) h);(conv=>whnf);exact rx [] []
 ·have e:eN l p=(l[k],true):=by unfold eN;rw[k3]
  rw[e,a];(conv=>whnf);refine⟨k,l[k],rfl,List.getElem?_eq_getElem b,?_⟩;(conv=>whnf);exact rx [] []
end Go.Nest
end
section
namespace Go.Nest
open Go Go.AM Go.Proofs
open Go.Proofs.YtpechfcbnoggfaaGreatDoor (tab tabOk)
set_option maxRecDepth 4000
def dX(t:Int)(up:List Int)(x:List UInt8):Ob:=⟨3,[],[],t,up,x⟩
end Go.Nest
end
section
namespace Go.Nest
open Go Go.AM
def iH(x:It):Fi:=⟨x.path,3,x.id,x.av⟩
def aM:List Ob→List It→List Fi→List Fi×Int×List Ob
 |L,[],out=>(out,0,L)
 |L,x::r,out=>if x.link=true then aM L r (out++[iH x])else
  if(ax L (du x.bytes)).2.1≠0 then([],(ax L (du x.bytes)).2.1,(ax L (du x.bytes)).2.2)else aM (ax L (du x.bytes)).2.2 r (out++[⟨x.path,1,(ax L (du x.bytes)).1,0⟩])
def ba(L:List Ob)(l:List It):Int×Int×List Ob:=
 if(aM L l []).2.1≠0 then(0,(aM L l []).2.1,(aM L l []).2.2)else cg (aM L l []).2.2 (aM L l []).1
def n4(L:List Ob)(l:List It)(h t:Int):Bool:=if h<0 then decide (l.length=0)else decide ((aj L h).tree=t)
def fm(L:List Ob)(l:List It)(h:Int):Int:=if(ba L l).2.1≠0 then(ba L l).2.1 else if n4 (ba L l).2.2 l h (ba L l).1=true then 0 else 13
def lU(L:List Ob)(l:List It)(h:Int):List Ch×Int:=
 if(aM L l []).2.1≠0 then([],(aM L l []).2.1)else if h<0 then(b8 [] (aM L l []).1,0)else
 if(bw (aM L l []).2.2 (aj (aM L l []).2.2 h).tree).2≠0 then([],(bw (aM L l []).2.2 (aj (aM L l []).2.2 h).tree).2)else(b8 (bw (aM L l []).2.2 (aj (aM L l []).2.2 h).tree).1 (aM L l []).1,0)
def kf(h:Int)(others:List Int):List Int:=(if 0≤h then[h]else[])++others
def bc(L:List Ob)(l:List It)(h:Int)(text:List UInt8)(others:List Int):Int×Int×List Ob:=
 if(ba L l).2.1≠0 then(0,(ba L l).2.1,(ba L l).2.2)else if 0≤h∧n4 (ba L l).2.2 l h (ba L l).1=true∧others.length=0 then(0,17,(ba L l).2.2)else
 if(ax (ba L l).2.2 (dX (ba L l).1 (kf h others) text)).2.1≠0 then(0,(ax (ba L l).2.2 (dX (ba L l).1 (kf h others) text)).2.1,(ax (ba L l).2.2 (dX (ba L l).1 (kf h others) text)).2.2)
 else ax (ba L l).2.2 (dX (ba L l).1 (kf h others) text)
def lA(L:List Ob)(l:List It)(h:Int)(text:List UInt8)(others:List Int):Int:=if(bc L l h text others).2.1=0 then(bc L l h text others).1 else h
def ck(L:List Ob)(f:Fi):It:=if f.mode=3 then⟨f.path,[],true,f.id,f.av⟩else⟨f.path,(aj L f.id).bytes,false,0,0⟩
def kA(L:List Ob)(l:List It)(fs:List Fi):List It:=if(cg L fs).2.1≠0 then l else fs.map (ck (cg L fs).2.2)
def dG(L:List Ob)(l:List It)(h id:Int):Int:=if kindOf L id≠3 then 9 else if fm L l h≠0 then fm L l h else(bw (ba L l).2.2 (aj L id).tree).2
def je(L:List Ob)(l:List It)(id:Int):List Ob:=if kindOf L id≠3 then L else(ba L l).2.2
def jN(L:List Ob)(l:List It)(h id:Int):List It:=if dG L l h id≠0 then l else(bw (ba L l).2.2 (aj L id).tree).1.map (ck (ba L l).2.2)
def jM(L:List Ob)(l:List It)(h id:Int):Int:=if dG L l h id≠0 then h else id
def dI(x:It):Dc:=⟨x.path,x.bytes⟩
def eD(l:List It):List Fi:=(l.filter fun x=>x.link).map iH
theorem kq:∀{l:List It} {L:List Ob} {out:List Fi},ai L→ai (aM L l out).2.2∧L<+:(aM L l out).2.2
 |[],L,out,h=>⟨h,List.prefix_refl _⟩
 |x::r,L,out,h=>by
  unfold aM;split
  ·exact kq h
  split
  ·exact⟨jv h _,jw _⟩
  ·obtain⟨a,b⟩:=kq (l:=r) (out:=out++[⟨x.path,1,(ax L (du x.bytes)).1,0⟩]) (jv h (du x.bytes));exact⟨a,(jw _).trans b⟩
theorem iT{L:List Ob}{l:List It}(h:ai L):ai (ba L l).2.2∧L<+:(ba L l).2.2:=by
 obtain⟨a,b⟩:=kq (l:=l) (out:=[]) h;unfold ba;split
 ·exact⟨a,b⟩
 ·obtain⟨c,d⟩:=ma a (aM L l []).1;exact⟨c,b.trans d⟩
theorem oI{L:List Ob}{l:List It}{h:Int}{text:List UInt8}{others:List Int}(c:ai L):ai (bc L l h text others).2.2∧L<+:(bc L l h text others).2.2:=by
 obtain⟨a,b⟩:=iT (l:=l) c;unfold bc;split
 ·exact⟨a,b⟩
 split
 ·exact⟨a,b⟩
 split
 ·exact⟨jv a _,b.trans (jw _)⟩
 ·exact⟨jv a _,b.trans (jw _)⟩
theorem tj{L:List Ob}{l:List It}{id:Int}(a:ai L):ai (je L l id)∧L<+:je L l id:=by
 unfold je;split
 ·exact⟨a,List.prefix_refl _⟩
 ·exact iT a
theorem tM:∀{l:List It} {L:List Ob} {out:List Fi},(aM L l out).1.length≤out.length+l.length
 |[],L,out=>by simp[aM]
 |x::r,L,out=>by
  unfold aM;split
  ·have:=tM (l:=r) (L:=L) (out:=out++[iH x]);simp only[List.length_append,List.length_cons,List.length_nil]at this⊢;omega
  split
  ·simp
  ·have:=tM (l:=r) (L:=(ax L (du x.bytes)).2.2) (out:=out++[⟨x.path,1,(ax L (du x.bytes)).1,0⟩]);simp only[List.length_append,List.length_cons,List.length_nil]at this⊢;omega
theorem qG{n:Nat}:∀{l:List It} {L:List Ob} {out:List Fi},(∀f∈out,f.path.length≤n)→(∀x∈l,x.path.length≤n)→∀f∈(aM L l out).1,f.path.length≤n
 |[],L,out,h,_=>h
 |x::r,L,out,h,a=>by
  have c:=a x (by simp);have b:∀y∈r,y.path.length≤n:=fun y d=>a y (by simp[d]);unfold aM;split
  ·refine qG (fun f hf=>?_) b;rcases List.mem_append.1 hf with hf|hf
   ·exact h f hf
   ·rw[List.mem_singleton]at hf;subst hf;exact c
  split
  ·intro f hf;cases hf
  ·refine qG (fun f hf=>?_) b;rcases List.mem_append.1 hf with hf|hf
   ·exact h f hf
   ·rw[List.mem_singleton]at hf;subst hf;exact c
end Go.Nest
end
section
namespace Go.Nest
open Go Go.AM
theorem Hv{L:List Ob}(c:ai L){id:Int}(hk:¬kindOf L id=0):ax L (aj L id)=(id,0,L):=by
 obtain⟨b,a⟩:=dh hk;rw[ku b a,Aw c a];simp;omega
theorem Az{L M:List Ob}{o:Ob}(ho:o.kind≠0)(h:(ax L o).2.1=0)(f:ai M)(d:(ax L o).2.2<+:M):ax M o=((ax L o).1,0,M)∧aj M (ax L o).1=o:=by
 obtain⟨g,c⟩:=lQ h;have a:¬kindOf (ax L o).2.2 (ax L o).1=0:=by rw[←eP,c];exact ho
 have e:=ext_get d a;rw[c]at e;have b:¬kindOf M (ax L o).1=0:=by rw[c9 d a];exact a
 have:=Hv f b;rw[e]at this;exact⟨this,e⟩
theorem AB{L:List Ob}{o:Ob}(h:(ax L o).2.1≠0):(ax L o).2.2=L:=by
 unfold ax at h⊢;split
 ·rfl
 split
 ·rfl
 split
 ·rfl
 split
 ·rfl
 ·rename_i a b c d;rw[if_neg a,if_neg b,if_neg c,if_neg d]at h;exact absurd rfl h
theorem AA{L:List Ob}{o:Ob}{id:Int}(h:¬kindOf (ax L o).2.2 id=0):¬kindOf L id=0∨aj (ax L o).2.2 id=o:=by
 unfold ax at h⊢;split
 ·rename_i c;rw[if_pos c]at h;exact .inl h
 rename_i c;rw[if_neg c]at h;split
 ·rename_i d;rw[if_pos d]at h;exact .inl h
 rename_i d;rw[if_neg d]at h;split
 ·rename_i f;rw[if_pos f]at h;exact .inl h
 rename_i f;rw[if_neg f]at h;split
 ·rename_i g;rw[if_pos g]at h;exact .inl h
 rename_i g;rw[if_neg g]at h;dsimp only at h⊢;obtain⟨a,b⟩:=dh h;rw[List.length_append,List.length_singleton]at b;by_cases i:id.toNat<L.length
 ·left;intro j;apply h
  have e:kindOf (L++[o]) id=kindOf L id:=by
   unfold kindOf;rw[if_neg a,if_neg a,List.getElem?_append_left i]
  rw[e];exact j
 ·right;have:id=(L.length:Nat):=by omega
  rw[this];exact ua
structure Kept(L:List Ob)(t:Int)(fs:List Fi):Prop where
 tree:eI true L t fs
 ok:cI fs=0
theorem Kept.mono{L M:List Ob}{t:Int}{fs:List Fi}(h:Kept L t fs)(a:L<+:M):Kept M t fs:=⟨h.tree.mono a,h.ok⟩
theorem Kept.files{L:List Ob}{t:Int}{fs:List Fi}(h:Kept L t fs)(b:ai L):bw L t=(fs,0):=
 Jr b h.tree (jh h.ok).1 fun f a=>(lT ((jh h.ok).2 f a).1).2.1
theorem Kept.build{L:List Ob}{t:Int}{fs:List Fi}(h:Kept L t fs)(a:ai L):cg L fs=(t,0,L):=by
 unfold cg;rw[if_neg (by simpa using h.ok)];exact(Jq a h.tree (Nat.lt_succ_self _)).2 rfl
theorem Kept.of{L:List Ob}{fs:List Fi}(a:ai L)(h:(cg L fs).2.1=0):Kept (cg L fs).2.2 (cg L fs).1 fs:=⟨(oF a h).2,(oF a h).1⟩
end Go.Nest
end
section
namespace Go.Nest
open Go Go.AM Go.Proofs
open Go.Proofs.YtpechfcbnoggfaaGreatDoor (tab tabOk)
set_option maxRecDepth 4000
theorem ie{α:Type}{P R:List α}{u:α}{n:Nat}(h:n=P.length):(P++u::R)[n]? =some u:=by subst h;simp
theorem pQ{α:Type}{P R:List α}{u v:α}{n:Nat}(h:n=P.length):(P++u::R).set n v=P++v::R:=by subst h;simp
theorem iR{α:Type}{P R:List α}{u:α}{n:Nat}(h:n=P.length):n<(P++u::R).length:=by subst h;simp
theorem iQ{α:Type}{P Q R:List α}{u v:α}{n:Nat}(h:n=P.length+1+Q.length):(P++u::(Q++v::R))[n]? =some v:=by
 have:=ie (P:=P++u::Q) (R:=R) (u:=v) (n:=n) (by simp;omega);simpa using this
theorem sd{α:Type}{P Q R:List α}{u v w:α}{n:Nat}(h:n=P.length+1+Q.length):(P++u::(Q++v::R)).set n w=P++u::(Q++w::R):=by
 have:=pQ (P:=P++u::Q) (R:=R) (u:=v) (v:=w) (n:=n) (by simp;omega);simpa using this
theorem iS{α:Type}{P Q R:List α}{u v:α}{n:Nat}(h:n=P.length+1+Q.length):n<(P++u::(Q++v::R)).length:=by simp;omega
def qw(x y:Fi):Int:=if au x.path y.path=true then-1 else if au y.path x.path=true then 1 else 0
theorem la{x y:Fi}:qw x y<0↔au x.path y.path=true:=by
 unfold qw;split
 ·simp[*]
 ·split<;>simp[*]
theorem r9(x y:Fi)(a:x.path.length≤4000000)(hy:y.path.length≤4000000):ae Tryz.prog 174 [.st (ao x),.st (ao y)] [] (Rt (.c (.int .i64 (qw x y))) []):=by
 refine ak (n:=17) (n0:=0) tabOk Tryz.call174 Tryz.func174 ?_;intro hb;(conv=>whnf);refine cl [] [] (kD x.path y.path a hy) ?_;unfold qw;(conv=>whnf);refine aL (fun h=>?_) (fun h=>?_)
 ·rw[if_pos h];(conv=>whnf);exact aG rfl
 ·rw[if_neg (by simp[h])];(conv=>whnf);refine cl [] [] (kD y.path x.path hy a) ?_;(conv=>whnf);refine aL (fun h=>?_) (fun h=>?_)
  ·rw[if_pos h];(conv=>whnf);exact aG rfl
  ·rw[if_neg (by simp[h])];(conv=>whnf);exact aG rfl
set_option maxHeartbeats 1000000 in
theorem vP(A U M V B:List Fi)(h:U.length=V.length)(hn:A.length+U.length+M.length+V.length+B.length≤1000)(a b n:Int)(r:a=A.length)(k:b=A.length+U.length+M.length)(m:n=U.length):ae Tryz.prog 349 [.c (.rw 0),.c (.int .i64 a),.c (.int .i64 b),.c (.int .i64 n),.c (.fn 174 [])] [.row 4 Fi ao (A++U++M++V++B)] (Rt (.aC []) [.row 4 Fi ao (A++V++M++U++B)]):=by
 subst r;subst k;subst m;refine ak (n:=38) (n0:=1) tabOk Tryz.call349 Tryz.func349 ?_;intro hb;(conv=>whnf);refine lp Nat (fun i=>⟨[(0,.c (.rw 0)),(1,.c (.int .i64 A.length)),(2,.c (.int .i64 ((A.length:Int)+U.length+M.length))),(3,.c (.int .i64 U.length)),(10,.c (.int .i64 i))],[.row 4 Fi ao (A++(V.take i++U.drop i)++M++(U.take i++V.drop i)++B)]⟩) (fun i=>i≤U.length∧True) (fun i=>U.length-i) 0 [] [.same 0] ?_ ?_ (fun i s=>?_)
 ·simp
 ·repeat' first|exact trivial|exact rfl|refine And.intro ?_ ?_
 (conv=>whnf);refine dec (fun o=>?_) (fun o=>?_)
 ·have d:i<U.length:=by omega
  have f:i<V.length:=by omega
  have p:A++(V.take i++U.drop i)++M++(U.take i++V.drop i)++B=(A++V.take i)++U[i]::((U.drop (i+1)++M++U.take i)++V[i]::(V.drop (i+1)++B)):=by
   rw[List.drop_eq_getElem_cons d,List.drop_eq_getElem_cons f];simp only[List.append_assoc,List.cons_append,List.nil_append]
  have q:A++(V.take (i+1)++U.drop (i+1))++M++(U.take (i+1)++V.drop (i+1))++B=(A++V.take i)++V[i]::((U.drop (i+1)++M++U.take i)++U[i]::(V.drop (i+1)++B)):=by
   rw[List.take_succ_eq_append_getElem d,List.take_succ_eq_append_getElem f];simp only[List.append_assoc,List.cons_append,List.nil_append]
  have g:A.length+i=(A++V.take i).length:=by rw[List.length_append,List.length_take];omega
  have j:A.length+U.length+M.length+i=(A++V.take i).length+1+(U.drop (i+1)++M++U.take i).length:=by
   simp only[List.length_append,List.length_take,List.length_drop];omega
  rw[p];generalize A++V.take i=P at*;generalize U.drop (i+1)++M++U.take i=Q at*;generalize V.drop (i+1)++B=R at*;(conv=>whnf);refine⟨false,.grow,(.l [0,1,2,3,4,5,6,7,8,9,10,11,12,13,14,15,16,17,18,19,20,21,22,23]),by kernel_rfl,.inl ?_⟩;(conv=>whnf);refine⟨i64 (by omega) (by omega),?_⟩;(conv=>whnf);refine⟨i64 (by omega) (by omega),?_⟩;(conv=>whnf);refine⟨i64 (by omega) (by omega),?_⟩;(conv=>whnf);refine⟨A.length+U.length+M.length+i,⟨by omega,iS j⟩,?_⟩;(conv=>whnf);refine⟨V[i],iQ j,?_⟩;(conv=>whnf);refine⟨i64 (by omega) (by omega),?_⟩;(conv=>whnf);refine⟨A.length+i,⟨by omega,iR g⟩,?_⟩;(conv=>whnf);refine⟨U[i],ie g,?_⟩;(conv=>whnf);refine⟨A.length+i,⟨by omega,iR g⟩,?_⟩;(conv=>whnf);refine⟨U[i],V[i],ie g,⟨by simp,rfl⟩,?_⟩;rw[pQ g];(conv=>whnf);refine⟨A.length+U.length+M.length+i,⟨by omega,iS j⟩,?_⟩;(conv=>whnf);refine⟨V[i],U[i],iQ j,⟨by simp,rfl⟩,?_⟩;rw[sd j];repeat'((conv=>whnf);refine I6 ?_)
  refine ag (i+1) [] [.same 0] ⟨d,trivial⟩ (by simp only[];omega) ?_;rw[q];repeat' first|exact trivial|exact rfl|refine And.intro ?_ ?_
 ·have e:A++(V.take i++U.drop i)++M++(U.take i++V.drop i)++B=A++V++M++U++B:=by
   rw[List.take_of_length_le (l:=V) (by omega),List.take_of_length_le (l:=U) (by omega),List.drop_of_length_le (l:=V) (by omega),List.drop_of_length_le (l:=U) (by omega),List.append_nil,List.append_nil]
  rw[e];(conv=>whnf);exact rx [] [.same 0]
end Go.Nest
end
section
namespace Go.Nest
open Go Go.AM Go.Proofs
open Go.Proofs.YtpechfcbnoggfaaGreatDoor (tab tabOk)
set_option maxRecDepth 4000
set_option maxHeartbeats 1000000 in
theorem HR(A U V B:List Fi)(H:0<U.length)(hv:0<V.length)(hn:(A++U++V++B).length≤1000)(a m b:Int)(F:a=A.length)(hm:m=A.length+U.length)(p:b=A.length+U.length+V.length):ae Tryz.prog 333 [.c (.rw 0),.c (.int .i64 a),.c (.int .i64 m),.c (.int .i64 b),.c (.fn 174 [])] [.row 4 Fi ao (A++U++V++B)] (Rt (.aC []) [.row 4 Fi ao (A++V++U++B)]):=by
 subst F;subst hm;subst p;have q:A.length+U.length+V.length+B.length≤1000:=by simpa[Nat.add_assoc]using hn
 refine ak (n:=58) (n0:=1) tabOk Tryz.call333 Tryz.func333 ?_;intro hb;(conv=>whnf);refine⟨i64 (by omega) (by omega),?_⟩;(conv=>whnf);refine⟨i64 (by omega) (by omega),?_⟩;rw[show(A.length:Int)+U.length-A.length=U.length by omega,show(A.length:Int)+U.length+V.length-(A.length+U.length)=V.length by omega];(conv=>whnf)
 refine lp (List Fi×List Fi×List Fi×List Fi) (fun x=>⟨[(0,.c (.rw 0)),(2,.c (.int .i64 ((A.length:Int)+U.length))),(4,.c (.fn 174 [])),(10,.c (.int .i64 x.2.1.length)),(11,.c (.int .i64 x.2.2.1.length))],[.row 4 Fi ao (x.1++x.2.1++x.2.2.1++x.2.2.2)]⟩)
  (fun x=>(x.1.length+x.2.1.length=A.length+U.length∧0<x.2.1.length∧0<x.2.2.1.length∧x.1.length+x.2.1.length+x.2.2.1.length+x.2.2.2.length≤1000)∧x.1++x.2.2.1++x.2.1++x.2.2.2=A++V++U++B) (fun x=>x.2.1.length+x.2.2.1.length) (A,U,V,B) [] [.same 0] ?_ ?_ (fun x I=>?_)
 ·exact⟨⟨rfl,H,hv,q⟩,rfl⟩
 ·repeat' first|exact trivial|exact rfl|refine And.intro ?_ ?_
 obtain⟨P,u,v,Q⟩:=x;obtain⟨⟨y,z,D,E⟩,l⟩:=I;dsimp only at y z D E l;(conv=>whnf);refine aw (fun h=>?_) (fun h=>?_)
 ·have h:u.length≠v.length:=fun e=>h (by simp only[];omega);(conv=>whnf);refine dec (fun j=>?_) (fun j=>?_)
  ·have j:v.length<u.length:=by simp only[]at j;omega
   have r:u=u.take v.length++u.drop v.length:=(List.take_append_drop _ _).symm;have s:(u.take v.length).length=v.length:=by rw[List.length_take];omega
   have t:(u.drop v.length).length=u.length-v.length:=List.length_drop ..;generalize u.take v.length=k at*;generalize u.drop v.length=i at*;have d:(P,u,v,Q).1++(P,u,v,Q).2.1++(P,u,v,Q).2.2.1++(P,u,v,Q).2.2.2=P++k++i++v++Q:=by simp[r]
   rw[d];(conv=>whnf);refine⟨i64 (by simp only[];omega) (by simp only[];omega),?_⟩;(conv=>whnf);refine cl [] [0] (vP P k i v Q s (by omega) ((A.length:Int)+U.length-u.length) ((A.length:Int)+U.length) v.length (by omega) (by omega) (by omega)) ?_;(conv=>whnf);refine⟨i64 (by simp only[];omega) (by simp only[];omega),?_⟩;rw[show(((P,u,v,Q).2.1.length:Nat):Int)-(((P,u,v,Q).2.2.1.length:Nat):Int)=i.length by simp only[];omega];skip;have w:(P++v).length+i.length=A.length+U.length:=by rw[List.length_append];omega
   have o:(P++v).length+i.length+k.length+Q.length≤1000:=by rw[List.length_append];omega
   refine ag (P++v,i,k,Q) [] [.same 0] ⟨⟨w,by simp only[];omega,by simp only[];omega,o⟩,by rw[←l,r];simp⟩ (by simp only[];omega) ?_;rw[show(((P,u,v,Q).2.2.1.length:Nat):Int)=k.length by simp only[];omega];repeat' first|exact trivial|exact rfl|refine And.intro ?_ ?_
   all_goals trace_state
  ·have j:u.length<v.length:=by simp only[]at j;omega
   have ev:v=v.take (v.length-u.length)++v.drop (v.length-u.length):=(List.take_append_drop _ _).symm;have s:(v.take (v.length-u.length)).length=v.length-u.length:=by rw[List.length_take];omega
   have t:(v.drop (v.length-u.length)).length=u.length:=by rw[List.length_drop];omega
   generalize v.take (v.length-u.length)=f at*;generalize v.drop (v.length-u.length)=g at*;have d:(P,u,v,Q).1++(P,u,v,Q).2.1++(P,u,v,Q).2.2.1++(P,u,v,Q).2.2.2=P++u++f++g++Q:=by simp[ev]
   rw[d];(conv=>whnf);refine⟨i64 (by simp only[];omega) (by simp only[];omega),?_⟩;(conv=>whnf);refine⟨i64 (by simp only[];omega) (by simp only[];omega),?_⟩;(conv=>whnf);refine⟨i64 (by simp only[];omega) (by simp only[];omega),?_⟩;(conv=>whnf);refine cl [] [0] (vP P u f g Q t.symm (by omega) ((A.length:Int)+U.length-u.length) ((A.length:Int)+U.length+v.length-u.length) u.length (by omega) (by omega) (by omega)) ?_;(conv=>whnf);refine⟨i64 (by simp only[];omega) (by simp only[];omega),?_⟩;rw[show(((P,u,v,Q).2.2.1.length:Nat):Int)-(((P,u,v,Q).2.1.length:Nat):Int)=f.length by simp only[];omega];skip;have o:P.length+g.length+f.length+(u++Q).length≤1000:=by rw[List.length_append];omega
   refine ag (P,g,f,u++Q) [] [.same 0] ⟨⟨by simp only[];omega,by simp only[];omega,by simp only[];omega,o⟩,by rw[←l,ev];simp⟩ (by simp only[];omega) ?_;rw[show(((P,u,v,Q).2.1.length:Nat):Int)=g.length by simp only[];omega,show P++g++f++u++Q=P++g++f++(u++Q)by simp];repeat' first|exact trivial|exact rfl|refine And.intro ?_ ?_
   all_goals trace_state
 ·have h:u.length=v.length:=by simp only[]at h;omega
  have d:(P,u,v,Q).1++(P,u,v,Q).2.1++(P,u,v,Q).2.2.1++(P,u,v,Q).2.2.2=P++u++[]++v++Q:=by simp
  rw[d];(conv=>whnf);refine⟨i64 (by simp only[];omega) (by simp only[];omega),?_⟩;(conv=>whnf);refine cl [] [0] (vP P u [] v Q h (by simp;omega) ((A.length:Int)+U.length-u.length) ((A.length:Int)+U.length) u.length (by omega) (by simp;omega) (by omega)) ?_;rw[show P++v++[]++u++Q=A++V++U++B by rw[←l];simp];(conv=>whnf);exact rx [] [.same 0]
end Go.Nest
end
section
namespace Go.Nest
open Go Go.AM Go.Proofs
open Go.Proofs.YtpechfcbnoggfaaGreatDoor (tab tabOk)
set_option maxRecDepth 4000
theorem JK{T:List Fi}{k:Nat}(b:Wk T)(hk:k<T.length):∀g∈T.take k,au T[k].path g.path=false:=by
 intro g a;obtain⟨i,c,e⟩:=List.mem_take_iff_getElem.1 a;rw[←e];exact(List.pairwise_iff_getElem.1 b) i k (by omega) hk (by omega)
set_option maxHeartbeats 2000000 in
theorem yZ(A S B:List Fi)(hn:A.length+S.length+B.length≤1000)(I:∀f∈S,f.path.length≤4000000)(a b:Int)(U:a=A.length)(w:b=A.length+S.length):ae Tryz.prog 299 [.c (.rw 0),.c (.int .i64 a),.c (.int .i64 b),.c (.fn 174 [])] [.row 4 Fi ao (A++S++B)] (Rt (.aC []) [.row 4 Fi ao (A++aH S++B)]):=by
 subst U;subst w;refine ak (n:=53) (n0:=1) tabOk Tryz.call299 Tryz.func299 ?_;intro hb;(conv=>whnf);refine⟨i64 (by omega) (by omega),?_⟩;(conv=>whnf);refine lp Nat (fun c=>⟨[(0,.c (.rw 0)),(1,.c (.int .i64 A.length)),(2,.c (.int .i64 ((A.length:Int)+S.length))),(3,.c (.fn 174 [])),(8,.c (.int .i64 ((A.length:Int)+(c+1:Nat))))],[.row 4 Fi ao (A++aH (S.take (c+1))++S.drop (c+1)++B)]⟩) (fun c=>(c≤S.length)∧True) (fun c=>S.length-c) 0 [] [.same 0] ?_ ?_ (fun c Z=>?_)
 ·simp
 ·have e:A++aH (S.take (0+1))++S.drop (0+1)++B=A++S++B:=by
   cases S with
   |nil=>simp[aH]
   |cons x S=>simp[aH,eb]
  rw[e];repeat' first|exact trivial|exact rfl|refine And.intro ?_ ?_
 (conv=>whnf);refine dec (fun K=>?_) (fun K=>?_)
 ·have o:c+1<S.length:=by omega
  have r:=Fb (S.take (c+1)) S[c+1];rw[←List.take_succ_eq_append_getElem o]at r;have Q:(aH (S.take (c+1))).length=c+1:=by rw[iG,List.length_take];omega
  have v:=jV (S.take (c+1));have u:∀f∈aH (S.take (c+1)),f.path.length≤4000000:=fun f W=>I f (List.mem_of_mem_take ((lC _).mem_iff.1 W));have E:=I _ (List.getElem_mem o);rw[List.drop_eq_getElem_cons o];generalize aH (S.take (c+1))=T at*;generalize S[c+1]=x at*;generalize t:S.drop (c+1+1)=R at*;have P:R.length+(c+2)=S.length:=by rw[←t,List.length_drop];omega
  (conv=>whnf);refine lp Nat (fun k=>⟨[(0,.c (.rw 0)),(1,.c (.int .i64 A.length)),(2,.c (.int .i64 ((A.length:Int)+S.length))),(3,.c (.fn 174 [])),(8,.c (.int .i64 ((A.length:Int)+(c+1:Nat)))),(9,.c (.int .i64 ((A.length:Int)+k)))],[.row 4 Fi ao (A++(T.take k++x::T.drop k)++R++B)]⟩) (fun k=>(k≤T.length∧True)∧∀y∈T.drop k,au x.path y.path=true) (fun k=>k) (c+1) [] [.same 0] ?_ ?_ (fun k Y=>?_)
  ·refine⟨⟨by omega,trivial⟩,fun y hy=>?_⟩;rw[List.drop_of_length_le (by omega)]at hy;cases hy
  ·have e:A++T++x::R++B=A++(T.take (c+1)++x::T.drop (c+1))++R++B:=by
    rw[List.take_of_length_le (by omega),List.drop_of_length_le (by omega)];simp
   rw[←e];repeat' first|exact trivial|exact rfl|refine And.intro ?_ ?_
  obtain⟨⟨z,_⟩,s⟩:=Y
  have fin:(∀h:0<k,au x.path (T[k-1]'(by omega)).path=false)→aH (S.take (c+1+1))=T.take k++x::T.drop k:=fun h=>by
   rw[r];refine Fw z (fun g hg=>?_) (fun d=>s _ (by rw[List.drop_eq_getElem_cons d];exact List.mem_cons_self ..));cases k with
   |zero=>cases hg
   |succ k=>
    have q:=h (by omega);cases F:au x.path g.path with
    |false=>rfl
    |true=>
     rw[List.take_succ_eq_append_getElem (by omega)]at hg;rcases List.mem_append.1 hg with hg|hg
     ·have J:=JK v (by omega:k<T.length) g hg;have:=uL F J;simp only[Nat.add_sub_cancel]at q;rw[this]at q;cases q
     ·rw[List.mem_singleton]at hg;subst hg;simp only[Nat.add_sub_cancel]at q;rw[F]at q;cases q
  (conv=>whnf);refine⟨false,.grow,(.l [0,1,2,3,4,5,6,7,8,9,10,11,12,13,14,15,16]),by kernel_rfl,.inl ?_⟩;(conv=>whnf);refine dec (fun M=>?_) (fun M=>?_)
  ·obtain⟨k,rfl⟩:∃m,k=m+1:=⟨k-1,by omega⟩;have d:k<T.length:=by omega
   have H:A++(T.take (k+1)++x::T.drop (k+1))++R++B=(A++T.take k)++T[k]::([]++x::(T.drop (k+1)++R++B)):=by
    rw[List.take_succ_eq_append_getElem d];simp only[List.append_assoc,List.cons_append,List.nil_append]
   have O:A++(T.take k++x::T.drop k)++R++B=(A++T.take k)++x::([]++T[k]::(T.drop (k+1)++R++B)):=by
    rw[List.drop_eq_getElem_cons d];simp only[List.append_assoc,List.cons_append,List.nil_append]
   have i:A.length+k=(A++T.take k).length:=by rw[List.length_append,List.length_take];omega
   have p:A.length+(k+1)=(A++T.take k).length+1+([]:List Fi).length:=by rw[←i];simp;omega
   have D:=u _ (List.getElem_mem d);have fin:au x.path T[k].path=false→aH (S.take (c+1+1))=T.take (k+1)++x::T.drop (k+1):=fun h=>fin (fun _=>by simpa using h);rw[H];(conv=>whnf);refine⟨A.length+(k+1),⟨by simp,iS p⟩,?_⟩;(conv=>whnf);refine⟨x,iQ p,?_⟩;(conv=>whnf);refine⟨i64 (by omega) (by omega),?_⟩;(conv=>whnf);refine⟨A.length+k,⟨by omega,iR i⟩,?_⟩;(conv=>whnf);refine⟨T[k],ie i,?_⟩;(conv=>whnf);refine cl [] [] (r9 x T[k] E D) ?_;(conv=>whnf);refine dec (fun j=>?_) (fun j=>?_)
   ·have j:=la.1 j;(conv=>whnf);refine⟨false,.grow,(.l [0,1,2,3,4,5,6,7,8,9,10,11,12,13,14,15,16,17]),by kernel_rfl,.inl ?_⟩;(conv=>whnf);refine⟨i64 (by omega) (by omega),?_⟩;(conv=>whnf);refine⟨i64 (by omega) (by omega),?_⟩;(conv=>whnf);refine⟨A.length+k,⟨by omega,iR i⟩,?_⟩;(conv=>whnf);refine⟨T[k],ie i,?_⟩;(conv=>whnf);refine⟨A.length+(k+1),⟨by simp,iS p⟩,?_⟩;(conv=>whnf);refine⟨x,iQ p,?_⟩;(conv=>whnf);refine⟨A.length+(k+1),⟨by simp,iS p⟩,?_⟩;(conv=>whnf);refine⟨x,T[k],iQ p,⟨by simp,rfl⟩,?_⟩;rw[sd p];(conv=>whnf);refine⟨A.length+k,⟨by omega,iR i⟩,?_⟩;(conv=>whnf);refine⟨T[k],x,ie i,⟨by simp,rfl⟩,?_⟩;rw[pQ i];(conv=>whnf);refine⟨i64 (by omega) (by omega),?_⟩;rw[show(A.length:Int)+((k+1:Nat):Int)-1=A.length+k by omega];(conv=>whnf);refine ag k [] [.same 0] ⟨⟨by omega,trivial⟩,fun y hy=>?_⟩ (by simp) ?_
    ·rw[List.drop_eq_getElem_cons d]at hy;rcases List.mem_cons.1 hy with rfl|hy
     ·exact j
     ·exact s y hy
    ·rw[O];repeat' first|exact trivial|exact rfl|refine And.intro ?_ ?_
   ·have j:au x.path T[k].path=false:=by
     cases N:au x.path T[k].path with
     |false=>rfl
     |true=>exact absurd (la.2 N) j
    have fin:=fin j;rw[←H];(conv=>whnf);refine⟨i64 (by omega) (by omega),?_⟩;rw[show(A.length:Int)+((c+1:Nat):Int)+1=A.length+((c+1+1:Nat):Int)by omega];(conv=>whnf);refine ag (c+1) [] [.same 0] ⟨by omega,trivial⟩ (by simp only[];omega) ?_;rw[fin,t];repeat' first|exact trivial|exact rfl|refine And.intro ?_ ?_
  ·have fin:=fin (fun h=>by omega);(conv=>whnf);refine⟨i64 (by omega) (by omega),?_⟩;rw[show(A.length:Int)+((c+1:Nat):Int)+1=A.length+((c+1+1:Nat):Int)by omega];(conv=>whnf);refine ag (c+1) [] [.same 0] ⟨by omega,trivial⟩ (by simp only[];omega) ?_;rw[fin,t];repeat' first|exact trivial|exact rfl|refine And.intro ?_ ?_
 ·have e:A++aH (S.take (c+1))++S.drop (c+1)++B=A++aH S++B:=by
   rw[List.take_of_length_le (by omega),List.drop_of_length_le (by omega)];simp
  rw[e];(conv=>whnf);exact rx [] [.same 0]
end Go.Nest
end
