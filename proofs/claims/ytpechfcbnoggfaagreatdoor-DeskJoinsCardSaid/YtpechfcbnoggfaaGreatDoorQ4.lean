import Derived.Test.YtpechfcbnoggfaaGreatDoorJ1
import Derived.Test.YtpechfcbnoggfaaGreatDoorP10
import Derived.Test.YtpechfcbnoggfaaGreatDoorV36
import Derived.Test.YtpechfcbnoggfaaGreatDoorAmH
import Derived.Test.YtpechfcbnoggfaaGreatDoorE1
set_option maxHeartbeats 4000000
set_option linter.unusedVariables false
set_option linter.unusedSimpArgs false
open Classical renaming not_not->cp
open Int renaming toNat->c0
open List renaming length_append->ad,getElem?_eq_getElem->ah,length_cons->al,length_nil->am,drop_eq_getElem_cons->ap,length_drop->ar,getElem_mem->a0,take_succ_eq_append_getElem->a1,take_of_length_le->a2,drop_of_length_le->a3,append_assoc->a6,cons_append->a9,length_take->bb,length_singleton->be,nil_append->bh,mem_append->bi,mem_take_iff_getElem->bj,pairwise_iff_getElem->bk,length_pos_iff->bl,mem_singleton->bn,take_append_drop->br,findIdx?_eq_some_iff_getElem->b1,takeWhile_append_dropWhile->b2,eq_nil_of_length_eq_zero->b3,any_eq_false->b4,findIdx?_eq_none_iff->cb,mem_drop_iff_getElem->cd,append_nil->ce,mem_of_mem_drop->cf,mem_cons->ch,getElem?_map->co,prefix_refl->cr,length_map->cs,length->cx,take->cy,drop->cV,map->c1
open Nat renaming le_refl->a4,zero_le->b0,add_sub_cancel->ci,lt_succ_self->cq,strongRecOn->ct,beq->cv
section
namespace Go.Nest
open Go Go.AM Go.Proofs Go.RowKit
open Go.Proofs.YtpechfcbnoggfaaGreatDoor (tab tabOk)
set_option maxRecDepth 4000
theorem w5:∀l:List (List UInt8),Lib.join l [47]=bZ l
 |[]=>rfl
 |[x]=>by simp[Lib.join,bZ]
 |x::y::r=>by
  have:=w5 (y::r);simp[Lib.join,bZ]at this⊢;rw[<-this]
theorem Bj:Builder.Extra Tryz.prog D8 where
 sizeBuilder:=by kernel_rfl
 liesBuilder:=by kernel_rfl
 t5:=Tryz.underlying5
 a5:=Tryz.isAgg5
 z5:=Tryz.sizeOf5
 v5:=Tryz.zeroValue5
 infoByte:=by kernel_rfl
 cellsByte:=by kernel_rfl
 sizeByte:=by kernel_rfl
 neB5:=by decide
theorem O2(l:List (List UInt8))(hl:l.length<=1000000)(hlen:(bZ l).length<=140737488355328):aa Tryz.prog 190 [.c (.bs 1 (List UInt8) encS l),.c (.str [47])] [] (Rt (.c (.str (bZ l))) []):=by
 cases l with
 |nil=>
  refine af (n:=75) (n0:=0) tabOk Tryz.call190 Tryz.func190 ?_;intro hb;exact dY rfl rfl
 |cons I D=>
  generalize d:I::D=l at*;have f:l≠[]:=by rw[<-d];simp
  refine aa.Dj rfl Tryz.call190 (λF L γ w E h e=>?_);match E,h with
  |[M,N],⟨t,u,_⟩=>
   cases u with
   |str _ _=>
    cases t with
    |eg _=>exact absurd rfl f
    | @bs _ _ _ _ _ b g cap o _ _ hb r J y K v _=>
     have p:=uB y;have i:(c1 (λx:ByteArray=>x.data.toList) (c1 (λs:List UInt8=>(⟨s.toArray⟩:ByteArray)) l))=l:=by rw[List.map_map];exact(List.map_congr_left (λs _=>by simp)).trans (List.map_id' l)
     have a:=Any.strings_Join_48 Ct Bj b g cap (l.map λs=>⟨s.toArray⟩) ⟨[47].toArray⟩ w (λj x k=>?_) (e b hb) (by simp;omega) (by simpa using r) (by rw[i];show(Lib.join l [47]).length<=_;rw[w5];omega)
     ·refine⟨NB.str (bZ l),λF H m=>.str (by omega) .nl,?_⟩;rw[i]at a;have q:Lib.join l (⟨[47].toArray⟩:ByteArray).data.toList=bZ l:=w5 l;rw[q,cs]at a;exact a
     ·rw[co]at k;obtain⟨s,z,rfl⟩:=Option.map_eq_some_iff.1 k;have:=v j (NB.str s) (by rw[p,co,z];rfl);rw[NB.dG rfl];exact this
theorem DM(l:List (List UInt8))(hl:l.length<=1000000)(hlen:(bZ l).length<=140737488355328):aa Tryz.prog 298 [.c (.bs 1 (List UInt8) encS l)] [] (Rt (.c (.str (bZ l))) []):=by
 refine af (n:=5) (n0:=0) tabOk Tryz.call298 Tryz.func298 ?_;intro hb;refine cl [] [] (O2 l hl hlen) ?_;exact dY rfl rfl
end Go.Nest
end
section
namespace Go.Nest
open Go Go.AM Go.Proofs
open Go.Proofs.YtpechfcbnoggfaaGreatDoor (tab tabOk)
set_option maxRecDepth 4000
theorem ni{a b:Fi}:e8 (aq a) (aq b)↔a=b:=by
 cases a;cases b;simp[aq,e8,nW]
theorem sH(l:List (List UInt8))(hl:l.length*16<=140737488355328):aa Tryz.prog 297 [.c (.bs 1 (List UInt8) encS l)] [] (Rt (.c (.rw 0)) [.row 1 (List UInt8) encS l]):=by
 refine af (n:=8) (n0:=0) tabOk Tryz.call297 Tryz.func297 ?_;intro hb;(conv=>whnf);intro q a;refine aS (λh=>?_) (λh=>?_)
 ·obtain rfl:=a h;exact rx [] [.new]
 ·refine⟨[],rfl,?_⟩;refine⟨_,_,rfl,rfl,(by simp only[ad,al,am];omega),?_⟩;exact rx [] [.s 1]
theorem HV(s:List UInt8):aa Tryz.prog 186 [.c (.str s),.c (.str [47])] [] (Rt (.ao [(false,[.str (df s).1]),(false,[.str (df s).2.1]),(false,[.bool (df s).2.2])]) []):=by
 refine af (n:=23) (n0:=0) tabOk Tryz.call186 Tryz.func186 ?_;intro hb;have hb:s.length<=9223372036854775807:=hb.1.1;refine cl [] [] (EF s) ?_;repeat'((conv=>whnf);first|(refine dec (λh=>?_) (λh=>?_)<;>try contradiction)|fail)
 ·have d:(Lib.indexByte s 47).toNat<s.length:=by
   by_cases a:s.count 47=0
   ·rw[wQ a]at h;omega
   ·obtain⟨m,e,f,_⟩:=wR (l:=s) (by omega);omega
  have a:df s=(s.take (Lib.indexByte s 47).toNat,s.drop ((Lib.indexByte s 47).toNat+1),true):=by unfold df;rw[if_pos h]
  rw[a];refine⟨false,.grow,(.l [0,1,2,3,4,5,6,7,8,9,10,11]),by kernel_rfl,.inl ?_⟩;refine⟨0,(Lib.indexByte s 47).toNat,rfl,(Int.toNat_of_nonneg h).symm,⟨b0 _,by omega⟩,?_⟩;refine⟨i64 (by simp;omega) (by simp;omega),?_⟩;refine⟨(Lib.indexByte s 47).toNat+1,s.length,?_,rfl,⟨by omega,a4 _⟩,?_⟩
  ·simp;omega
  (conv=>whnf);have b:s.take s.length=s:=a2 (a4 _);rw[b];exact rx [] []
 ·have a:df s=(s,[],false):=by unfold df;rw[if_neg h]
  rw[a];exact rx [] []
theorem HY(s:List UInt8):aa Tryz.prog 112 [.c (.str s),.c (.str [47])] [] (Rt (.ao [(false,[.str (df s).1]),(false,[.str (df s).2.1]),(false,[.bool (df s).2.2])]) []):=by
 refine af (n:=13) (n0:=0) tabOk Tryz.call112 Tryz.func112 ?_;intro hb;refine cl [] [] (HV s) ?_;exact rx [] []
theorem pb:∀(a b:List Fi),(bT a b).length<=a.length+b.length
 |[],[]=>by unfold bT;simp
 |a::c,[]=>by unfold bT;have:=pb c [];simp at this⊢;omega
 |[],b::d=>by unfold bT;have:=pb [] d;simp at this⊢;omega
 |a::c,b::d=>by
  unfold bT;have e:=pb c (b::d);have f:=pb (a::c) d;have g:=pb c d;split
  ·simp at e⊢;omega
  split
  ·simp at f⊢;omega
  split<;>simp at g⊢<;>omega
termination_by a b=>a.length+b.length
theorem AZ(a b:List Fi)(K:a.length<=150)(M:b.length<=150)(O:∀f∈a,f.path.length<=4000000)(F:∀f∈b,f.path.length<=4000000):aa Tryz.prog 165 [.c (.bs 4 Fi aq a),.c (.bs 4 Fi aq b)] [] (Rt (.c (.rw 0)) [.row 9 Ch iT (bT a b)]):=by
 refine af (n:=101) (n0:=0) tabOk Tryz.call165 Tryz.func165 ?_;intro hb;refine lp (List Fi×List Fi×List Ch) (λx=>⟨[(0,.c (.bs 4 Fi aq x.1)),(1,.c (.bs 4 Fi aq x.2.1)),(5,.c (.rw 0))],[.row 9 Ch iT x.2.2]⟩) (λx=>(x.1.length<=150/\x.2.1.length<=150/\x.2.2.length+x.1.length+x.2.1.length<=300)/\((∀f∈x.1,f.path.length<=4000000)/\∀f∈x.2.1,f.path.length<=4000000)/\x.2.2++bT x.1 x.2.1=bT a b) (λx=>x.1.length+x.2.1.length) (a,b,[]) [] [.new] ?_ ?_ (λx P=>?_)
 ·exact⟨⟨K,M,by simp;omega⟩,⟨O,F⟩,rfl⟩
 ·repeat' first|exact trivial|exact rfl|refine And.intro ?_ ?_
 obtain⟨p,q,out⟩:=x;obtain⟨⟨D,E,N⟩,⟨m,o⟩,j⟩:=P;dsimp only at D E N m o j;have r:∀(h:0<p.length),p=p[0]::p.drop 1:=λh=>by cases p with|nil=>cases h|cons _ _=>rfl
 have s:∀(h:0<q.length),q=q[0]::q.drop 1:=λh=>by cases q with|nil=>cases h|cons _ _=>rfl
 have i:∀{l:List Fi},¬0<l.length->l=[]:=λh=>b3 (by omega);have y:((p,q,out).1.drop 1).take (p.length-1)=p.drop 1:=a2 (by simp);have z:((p,q,out).2.1.drop 1).take (q.length-1)=q.drop 1:=a2 (by simp);have t:∀f∈p.drop 1,f.path.length<=4000000:=λf I=>m f (cf I);have u:∀f∈q.drop 1,f.path.length<=4000000:=λf I=>o f (cf I);refine dec (λg=>?_) (λg=>?_)
 ·have g:0<p.length:=by simpa using g
  refine⟨false,.grow,(.l [0,1,2,3,4,5,6,7,8,9,10,11,12,13,14,15,16,17,18,19]),by kernel_rfl,.inl ?_⟩;refine dec (λd=>?_) (λd=>?_)
  ·have d:¬0<q.length:=by simp at d;simp[d]
   have e:out++bT p q=(out++[⟨p[0].path,p[0],du⟩])++bT (p.drop 1) q:=by
    rw[i d];conv=>lhs;rw[r g]
    rw[bT];simp
   refine⟨false,.grow,(.l [0,1,2,3,4,5,6,7,8,9,10,11]),by kernel_rfl,.inl ?_⟩;refine⟨0,p[0],rfl,ah g,?_⟩;refine⟨0,p[0],rfl,ah g,?_⟩;refine⟨[⟨p[0].path,p[0],du⟩],rfl,?_⟩;refine⟨_,_,rfl,rfl,(by simp only[ad,al,am];omega),?_⟩;refine⟨1,p.length,rfl,rfl,⟨g,a4 _⟩,?_⟩;(conv=>whnf);rw[y];refine ag (p.drop 1,q,out++[⟨p[0].path,p[0],du⟩]) [] [.s 2] ⟨⟨by rw[ar];omega,E,by rw[ad,ar];simp;omega⟩,⟨t,o⟩,by rw[<-e];exact j⟩ (by simp;omega) ?_;repeat' first|exact trivial|exact rfl|refine And.intro ?_ ?_
  ·have d:0<q.length:=by simp at d;exact bl.2 d
   refine dec (λ_=>?_) (λk=>absurd (by simpa using g) k);refine⟨0,p[0],rfl,ah g,?_⟩;refine⟨0,q[0],rfl,ah d,?_⟩;refine cl [] [] (mh p[0].path q[0].path (m _ (a0 _)) (o _ (a0 _))) ?_;refine aS (λw=>?_) (λw=>?_)
   ·have e:out++bT p q=(out++[⟨p[0].path,p[0],du⟩])++bT (p.drop 1) q:=by
     conv=>lhs;rw[r g,s d]
     rw[bT,if_pos w,<-s d];simp
    refine⟨false,.grow,(.l [0,1,2,3,4,5,6,7,8,9,10,11]),by kernel_rfl,.inl ?_⟩;refine⟨0,p[0],rfl,ah g,?_⟩;refine⟨0,p[0],rfl,ah g,?_⟩;refine⟨[⟨p[0].path,p[0],du⟩],rfl,?_⟩;refine⟨_,_,rfl,rfl,(by simp only[ad,al,am];omega),?_⟩;refine⟨1,p.length,rfl,rfl,⟨g,a4 _⟩,?_⟩;(conv=>whnf);rw[y];refine ag (p.drop 1,q,out++[⟨p[0].path,p[0],du⟩]) [] [.s 2] ⟨⟨by rw[ar];omega,E,by rw[ad,ar];simp;omega⟩,⟨t,o⟩,by rw[<-e];exact j⟩ (by simp;omega) ?_;repeat' first|exact trivial|exact rfl|refine And.intro ?_ ?_
   ·refine⟨false,.grow,(.l [0,1,2,3,4,5,6,7,8,9,10,11,12,13,14]),by kernel_rfl,.inl ?_⟩;refine dec (λk=>absurd k (by simp;exact bl.1 g)) (λ_=>?_);refine⟨0,q[0],rfl,ah d,?_⟩;refine⟨0,p[0],rfl,ah g,?_⟩;refine cl [] [] (mh q[0].path p[0].path (o _ (a0 _)) (m _ (a0 _))) ?_;refine aS (λJ=>?_) (λJ=>?_)
    ·have e:out++bT p q=(out++[⟨q[0].path,du,q[0]⟩])++bT p (q.drop 1):=by
      conv=>lhs;rw[r g,s d]
      rw[bT,if_neg (by simp[w]),if_pos J,<-r g];simp
     refine⟨false,.grow,(.l [0,1,2,3,4,5,6,7,8,9,10,11]),by kernel_rfl,.inl ?_⟩;refine⟨0,q[0],rfl,ah d,?_⟩;refine⟨0,q[0],rfl,ah d,?_⟩;refine⟨[⟨q[0].path,du,q[0]⟩],rfl,?_⟩;refine⟨_,_,rfl,rfl,(by simp only[ad,al,am];omega),?_⟩;refine⟨1,q.length,rfl,rfl,⟨d,a4 _⟩,?_⟩;(conv=>whnf);rw[z];refine ag (p,q.drop 1,out++[⟨q[0].path,du,q[0]⟩]) [] [.s 2] ⟨⟨D,by rw[ar];omega,by rw[ad,ar];simp;omega⟩,⟨m,u⟩,by rw[<-e];exact j⟩ (by simp;omega) ?_;repeat' first|exact trivial|exact rfl|refine And.intro ?_ ?_
    ·refine⟨false,.grow,(.l [0,1,2,3,4,5,6]),by kernel_rfl,.inl ?_⟩;refine⟨0,p[0],rfl,ah g,?_⟩;refine⟨0,q[0],rfl,ah d,?_⟩;(conv=>whnf)
     have v:out++bT p q=out++(if p[0]≠q[0]then⟨p[0].path,p[0],q[0]⟩::bT (p.drop 1) (q.drop 1)else bT (p.drop 1) (q.drop 1)):=by
      conv=>lhs;rw[r g,s d]
      rw[bT,if_neg (by simp[w]),if_neg (by simp[J])]
     refine ay (λH=>?_) (λH=>?_)
     ·rw[if_pos (λh=>H (ni.2 h))]at v;have e:out++bT p q=(out++[⟨p[0].path,p[0],q[0]⟩])++bT (p.drop 1) (q.drop 1):=by rw[v];simp
      refine⟨false,.grow,(.l [0,1,2,3,4,5,6,7,8,9,10,11,12,13,14]),by kernel_rfl,.inl ?_⟩;refine⟨0,p[0],rfl,ah g,?_⟩;refine⟨0,p[0],rfl,ah g,?_⟩;refine⟨0,q[0],rfl,ah d,?_⟩;refine⟨[⟨p[0].path,p[0],q[0]⟩],rfl,?_⟩;refine⟨_,_,rfl,rfl,(by simp only[ad,al,am];omega),?_⟩;refine⟨false,.grow,(.l [0,1,2,3,4,5]),by kernel_rfl,.inl ?_⟩;refine⟨1,p.length,rfl,rfl,⟨g,a4 _⟩,?_⟩;refine⟨1,q.length,rfl,rfl,⟨d,a4 _⟩,?_⟩;(conv=>whnf);rw[y,z];refine ag (p.drop 1,q.drop 1,out++[⟨p[0].path,p[0],q[0]⟩]) [] [.s 2] ⟨⟨by rw[ar];omega,by rw[ar];omega,by rw[ad,ar,ar];simp;omega⟩,⟨t,u⟩,by rw[<-e];exact j⟩ (by simp;omega) ?_;repeat' first|exact trivial|exact rfl|refine And.intro ?_ ?_
     ·rw[if_neg (λh=>h (ni.1 H))]at v;refine⟨false,.grow,(.l [0,1,2,3,4,5]),by kernel_rfl,.inl ?_⟩;refine⟨1,p.length,rfl,rfl,⟨g,a4 _⟩,?_⟩;refine⟨1,q.length,rfl,rfl,⟨d,a4 _⟩,?_⟩;(conv=>whnf);rw[y,z];refine ag (p.drop 1,q.drop 1,out) [] [.s 0] ⟨⟨by rw[ar];omega,by rw[ar];omega,by simp only[ar];omega⟩,⟨t,u⟩,by rw[<-v];exact j⟩ (by simp;omega) ?_;repeat' first|exact trivial|exact rfl|refine And.intro ?_ ?_
 ·have g:¬0<p.length:=by simp at g;simp[g]
  refine dec (λd=>?_) (λd=>?_)
  ·have d:0<q.length:=by simpa using d
   have e:out++bT p q=(out++[⟨q[0].path,du,q[0]⟩])++bT p (q.drop 1):=by
    rw[i g];conv=>lhs;rw[s d]
    rw[bT];simp
   refine⟨false,.grow,(.l [0,1,2,3,4,5,6,7,8,9,10,11,12,13,14,15,16,17,18,19]),by kernel_rfl,.inl ?_⟩;refine dec (λk=>absurd k (by simp;exact bl.1 d)) (λ_=>?_);refine dec (λk=>absurd (by simpa using k) g) (λ_=>?_);refine⟨false,.grow,(.l [0,1,2,3,4,5,6,7,8,9,10,11,12,13,14]),by kernel_rfl,.inl ?_⟩;refine dec (λ_=>?_) (λk=>absurd (by simp;exact i g) k);refine⟨false,.grow,(.l [0,1,2,3,4,5,6,7,8,9,10,11]),by kernel_rfl,.inl ?_⟩;refine⟨0,q[0],rfl,ah d,?_⟩;refine⟨0,q[0],rfl,ah d,?_⟩;refine⟨[⟨q[0].path,du,q[0]⟩],rfl,?_⟩;refine⟨_,_,rfl,rfl,(by simp only[ad,al,am];omega),?_⟩;refine⟨1,q.length,rfl,rfl,⟨d,a4 _⟩,?_⟩;(conv=>whnf);rw[z];refine ag (p,q.drop 1,out++[⟨q[0].path,du,q[0]⟩]) [] [.s 2] ⟨⟨D,by rw[ar];omega,by rw[ad,ar];simp;omega⟩,⟨m,u⟩,by rw[<-e];exact j⟩ (by simp;omega) ?_;repeat' first|exact trivial|exact rfl|refine And.intro ?_ ?_
  ·have d:¬0<q.length:=by simp at d;simp[d]
   rw[i g,i d]at j;rw[show bT [] []=[]by unfold bT;rfl,ce]at j;(conv=>whnf);rw[<-j];exact rx [] [.s 0]
theorem Kn{f:Fi}{out:List Fi}{k:Nat}(hk:k<=out.length)(h1:∀g∈out.take k,aw f.path g.path=false)(h2:∀h:k<out.length,aw f.path out[k].path=true):eQ f out=out.take k++f::out.drop k:=by
 obtain⟨a,b⟩:=uF (p:=λg:Fi=> !aw f.path g.path) hk (λg c=>by simp[h1 g c]) (λh=>by simp[h2 h]);unfold eQ;rw[a,b]
def dt(b:List UInt8):Ob:=⟨1,b,[],0,[],[]⟩
end Go.Nest
end
section
namespace Go.Nest
open Go Go.AM
def pr(p:List UInt8)(y:It):Bool:=(ga p y.path).2||(ga y.path p).2
def eK(p:List UInt8)(y:It):Bool:=decide (y.path=p)
def kE(l:List It)(p:List UInt8):Nat:=(l.takeWhile λy=>aw y.path p).length
def fW(l:List It)(x:It):Int×List It:=
 if(cc x.path).2≠0 then((cc x.path).2,l)else if l.any (pr x.path)=true then(10,l)else
 if 0<=bD (eK x.path) l then(0,l.set (bD (eK x.path) l).toNat x)else if l.length=60 then(5,l)else(0,l.take (kE l x.path)++x::l.drop (kE l x.path))
def iI(l:List It)(p:List UInt8):Int×List It:=
 if bD (eK p) l<0 then(9,l)else(0,l.take (bD (eK p) l).toNat++l.drop ((bD (eK p) l).toNat+1))
def uh(l:List It)(p:List UInt8):Int×List It:=
 if(l.filter λy=>decide (y.path≠p)).length=l.length then(9,l)else(0,l.filter λy=>decide (y.path≠p))
structure ig(l:List It):Prop where
 ris:j7 (·.path) l
 len:l.length<=60
 path:∀x∈l,(cc x.path).2=0
 apart:∀x∈l,∀y∈l,(ga x.path y.path).2=false
theorem ig.nil:ig []:=⟨.nil,by decide,λx h=>(by cases h),λx h=>(by cases h)⟩
theorem MS{l:List It}{p:List UInt8}:kE l p<=l.length:=(List.takeWhile_sublist _).length_le
theorem Pl(l:List It)(p:List UInt8):l.take (kE l p)=l.takeWhile λy=>aw y.path p:=by
 unfold kE;have h:l.takeWhile (λy=>aw y.path p)++l.dropWhile (λy=>aw y.path p)=l:=b2
 calc l.take (l.takeWhile λy=>aw y.path p).length=(l.takeWhile (λy=>aw y.path p)++l.dropWhile (λy=>aw y.path p)).take (l.takeWhile λy=>aw y.path p).length:=by rw[h]
  _=_:=List.take_left' rfl
theorem IT(l:List It)(p:List UInt8):l.drop (kE l p)=l.dropWhile λy=>aw y.path p:=by
 unfold kE;have h:l.takeWhile (λy=>aw y.path p)++l.dropWhile (λy=>aw y.path p)=l:=b2
 calc l.drop (l.takeWhile λy=>aw y.path p).length=(l.takeWhile (λy=>aw y.path p)++l.dropWhile (λy=>aw y.path p)).drop (l.takeWhile λy=>aw y.path p).length:=by rw[h]
  _=_:=List.drop_left' rfl
theorem C3{α:Type}{p:α->Bool}:∀{l:List α} {x:α},x∈l.takeWhile p->p x=true/\x∈l
 |[],x,h=>by cases h
 |y::l,x,h=>by
  rw[List.takeWhile_cons]at h;split at h
  ·rename_i a;rcases ch.1 h with rfl|h
   ·exact⟨a,by simp⟩
   ·have:=C3 h;exact⟨this.1,by simp[this.2]⟩
  ·cases h
theorem A8{p:List UInt8}:∀{l:List It},j7 (·.path) l->∀y∈l.dropWhile (λy=>aw y.path p),aw y.path p=false
 |[],_,y,h=>by cases h
 |x::l,d,y,h=>by
  obtain⟨b,c⟩:=List.pairwise_cons.1 d;rw[List.dropWhile_cons]at h;split at h
  ·exact A8 c y h
  ·rename_i a;have a:aw x.path p=false:=by simpa using a
   rcases ch.1 h with rfl|h
   ·exact a
   ·cases e:aw y.path p with
    |false=>rfl
    |true=>rw[jc (b y h) e]at a;cases a
theorem sr{p:List UInt8}{y:It}:eK p y=true↔y.path=p:=by unfold eK;simp
theorem wP{α:Type}{p:α->Bool}{l:List α}:0<=bD p l↔∃x∈l,p x=true:=by
 have:=pv (p:=p) (l:=l);constructor
 ·intro h;have a:l.any p=true:=by rw[<-this];simpa using h
  simpa using a
 ·rintro⟨x,b,h⟩;have a:l.any p=true:=List.any_eq_true.2 ⟨x,b,h⟩;rw[<-this]at a;simpa using a
theorem qU{α:Type}{p:α->Bool}{l:List α}:(bD p l= -1/\l.any p=false)\/∃(i:Nat) (h:i<l.length),bD p l=i/\(l.take i).any p=false/\p l[i]=true:=by
 unfold bD;cases h:l.findIdx? p with
 |none=>
  rw[cb]at h;exact .inl ⟨rfl,by rw[b4];intro x a;simp[h x a]⟩
 |some i=>
  rw[b1]at h;obtain⟨b,c,d⟩:=h;refine .inr ⟨i,b,rfl,?_,c⟩;rw[b4];intro x a;obtain⟨j,f,e⟩:=bj.1 a;rw[<-e];exact d j (by omega)
theorem JT{l:List It}(h:j7 (·.path) l){k:Nat}(hk:k<l.length):bD (eK l[k].path) l=k:=by
 rcases qU (p:=eK l[k].path) (l:=l)with⟨_,e⟩|⟨i,b,c,d,a⟩
 ·rw[b4]at e;exact absurd (sr.2 rfl) (e _ (a0 hk))
 ·rw[c];have a:=sr.1 a;rcases Nat.lt_trichotomy i k with hlt|rfl|hlt
  ·have:=bk.1 h i k b hk hlt;exact absurd a (jH this)
  ·rfl
  ·have:=bk.1 h k i hk b hlt;exact absurd a.symm (jH this)
end Go.Nest
end
section
namespace Go.Nest
open Go Go.AM Go.Proofs
open Go.Proofs.YtpechfcbnoggfaaGreatDoor (tab tabOk)
set_option maxRecDepth 4000
def gU(l:List Fi):Nat->Option Fi
 |0=>none
 |i+1=>l[i]?
theorem Ht{l:List Fi}{i:Nat}(h:i<l.length):ez (gU l i) (l.drop i)=if(cc l[i].path).2≠0 then(cc l[i].path).2 else if l[i].mode≠1/\l[i].mode≠3 then 6 else if dU (gU l i) l[i]≠0 then dU (gU l i) l[i]else ez (gU l (i+1)) (l.drop (i+1)):=by
 rw[ap h];rw[show gU l (i+1)=some l[i]from ah h];rfl
theorem uG{p d:List UInt8}:(ga p d).2=(under p d).isSome:=by
 unfold ga;cases under p d<;>rfl
theorem Ak(l:List Fi)(hl:l.length<=60)(o:∀f∈l,f.path.length<=4000000):aa Tryz.prog 101 [.c (.bs 4 Fi aq l)] [] (Rt (.c (.int .i64 (ez none l))) []):=by
 refine af (n:=68) (n0:=0) tabOk Tryz.call101 Tryz.func101 ?_;intro hb;refine dec (λh=>by omega) (λu=>?_);refine lp Nat (λi=>⟨[(0,.c (.bs 4 Fi aq l)),(12,.c (.bs 4 Fi aq l)),(13,.c (.int .i64 l.length)),(14,.c (.int .i64 i))],[]⟩) (λi=>i<=l.length/\ez none l=ez (gU l i) (l.drop i)) (λi=>l.length-i) 0 [] [] ?_ ?_ (λi t=>?_)
 ·exact⟨b0 _,rfl⟩
 ·repeat' first|exact trivial|exact rfl|refine And.intro ?_ ?_
 obtain⟨v,a⟩:=t;refine dec (λs=>?_) (λs=>?_)
 ·have e:i<l.length:=by omega
  rw[Ht e]at a;refine⟨i,l[i],rfl,ah e,?_⟩;refine cl [] [] (xR l[i].path (o _ (a0 _))) ?_;refine ay (λp=>?_) (λp=>?_)
  ·rw[if_pos p]at a;repeat'((conv=>whnf);first|refine aJ ?_|fail)
   exact a.symm
  ·rw[if_neg (by simpa using p)]at a;refine ay (λq=>?_) (λq=>?_)
   ·refine ay (λg=>?_) (λg=>?_)
    ·rw[if_pos ⟨q,g⟩]at a;repeat'((conv=>whnf);first|refine aJ ?_|fail)
     exact a.symm
    ·rw[if_neg (λh=>h.2 g)]at a;refine⟨false,.grow,(.l [0,1,2,3,4,5,6,7,8,9,10,11,12,13,14]),by kernel_rfl,.inl ?_⟩;refine dec (λg=>?_) (λg=>?_)
     ·have r:0<i:=by omega
      have d:gU l i=some l[i-1]:=by
       obtain⟨j,rfl⟩:∃j,i=j+1:=⟨i-1,by omega⟩;exact ah (by omega)
      refine⟨i64 (by omega) (by omega),?_⟩;refine⟨i-1,l[i-1],by omega,ah (by omega),?_⟩;refine cl [] [] (mh l[i-1].path l[i].path (o _ (a0 _)) (o _ (a0 _))) ?_;refine dB (λk=>?_) (λk=>?_)
      ·have b:dU (gU l i) l[i]=8:=by rw[d];unfold dU;simp[k]
       rw[b,if_pos (by decide)]at a;repeat'((conv=>whnf);first|refine aJ ?_|fail)
       exact a.symm
      ·refine dec (λ_=>?_) (λh=>absurd g h);refine⟨false,.grow,(.l [0,1,2,3,4,5,6,7,8,9,10,11,12,13]),by kernel_rfl,.inl ?_⟩;refine⟨i64 (by omega) (by omega),?_⟩;refine⟨i-1,l[i-1],by omega,ah (by omega),?_⟩;refine cl [] [] (rV l[i].path l[i-1].path (o _ (a0 _))) ?_;rw[uG];refine aS (λm=>?_) (λm=>?_)
       ·have b:dU (gU l i) l[i]=10:=by rw[d];unfold dU;simp[k,m]
        rw[b,if_pos (by decide)]at a;repeat'((conv=>whnf);first|refine aJ ?_|fail)
        exact a.symm
       ·have b:dU (gU l i) l[i]=0:=by rw[d];unfold dU;simp[k,m]
        rw[b,if_neg (by decide)]at a;repeat'(refine I6 ?_)
        refine ag (i+1) [] [] ⟨e,a⟩ (by simp only[];omega) ?_;repeat' first|exact trivial|exact rfl|refine And.intro ?_ ?_
     ·obtain rfl:i=0:=by omega
      have b:dU (gU l 0) l[0]=0:=rfl;rw[b,if_neg (by decide)]at a;repeat'(refine I6 ?_)
      refine ag (0+1) [] [] ⟨e,a⟩ (by simp only[];omega) ?_;repeat' first|exact trivial|exact rfl|refine And.intro ?_ ?_
   ·rw[if_neg (λh=>h.1 q)]at a;refine⟨false,.grow,(.l [0,1,2,3,4,5,6,7,8,9,10,11,12,13,14]),by kernel_rfl,.inl ?_⟩;refine dec (λg=>?_) (λg=>?_)
    ·have r:0<i:=by omega
     have d:gU l i=some l[i-1]:=by
      obtain⟨j,rfl⟩:∃j,i=j+1:=⟨i-1,by omega⟩;exact ah (by omega)
     refine⟨i64 (by omega) (by omega),?_⟩;refine⟨i-1,l[i-1],by omega,ah (by omega),?_⟩;refine cl [] [] (mh l[i-1].path l[i].path (o _ (a0 _)) (o _ (a0 _))) ?_;refine dB (λk=>?_) (λk=>?_)
     ·have b:dU (gU l i) l[i]=8:=by rw[d];unfold dU;simp[k]
      rw[b,if_pos (by decide)]at a;repeat'((conv=>whnf);first|refine aJ ?_|fail)
      exact a.symm
     ·refine dec (λ_=>?_) (λh=>absurd g h);refine⟨false,.grow,(.l [0,1,2,3,4,5,6,7,8,9,10,11,12,13]),by kernel_rfl,.inl ?_⟩;refine⟨i64 (by omega) (by omega),?_⟩;refine⟨i-1,l[i-1],by omega,ah (by omega),?_⟩;refine cl [] [] (rV l[i].path l[i-1].path (o _ (a0 _))) ?_;rw[uG];refine aS (λm=>?_) (λm=>?_)
      ·have b:dU (gU l i) l[i]=10:=by rw[d];unfold dU;simp[k,m]
       rw[b,if_pos (by decide)]at a;repeat'((conv=>whnf);first|refine aJ ?_|fail)
       exact a.symm
      ·have b:dU (gU l i) l[i]=0:=by rw[d];unfold dU;simp[k,m]
       rw[b,if_neg (by decide)]at a;repeat'(refine I6 ?_)
       refine ag (i+1) [] [] ⟨e,a⟩ (by simp only[];omega) ?_;repeat' first|exact trivial|exact rfl|refine And.intro ?_ ?_
    ·obtain rfl:i=0:=by omega
     have b:dU (gU l 0) l[0]=0:=rfl;rw[b,if_neg (by decide)]at a;repeat'(refine I6 ?_)
     refine ag (0+1) [] [] ⟨e,a⟩ (by simp only[];omega) ?_;repeat' first|exact trivial|exact rfl|refine And.intro ?_ ?_
 ·rw[a3 (by omega)]at a;repeat'((conv=>whnf);first|refine aJ ?_|fail)
  rw[a];unfold ez;rfl
theorem pf(l:List Fi)(a:∀f∈l,f.path.length<=4000000):aa Tryz.prog 101 [.c (.bs 4 Fi aq l)] [] (Rt (.c (.int .i64 (cu l))) []):=by
 by_cases h:60<l.length
 ·refine af (n:=68) (n0:=0) tabOk Tryz.call101 Tryz.func101 ?_;intro hb;repeat'((conv=>whnf);first|(refine dec (λh=>?_) (λh=>?_)<;>try contradiction)|refine aJ ?_|fail)
  ·unfold cu;rw[if_pos (by omega)]
  ·omega
 ·have:=Ak l (by omega) a;unfold cu;rw[if_neg h];exact this
theorem Cg(name:List UInt8)(l:List Fi):(bN name l).1.length+(bN name l).2.length=l.length:=by
 conv=>rhs;rw[qX name l]
 rw[ad,cs]
theorem Cj(name:List UInt8){l:List Fi}(h:∀f∈l,f.path.length<=4000000):(∀f∈(bN name l).1,f.path.length<=4000000)/\∀f∈(bN name l).2,f.path.length<=4000000:=by
 have e:=qX name l;refine⟨λf a=>?_,λf a=>?_⟩
 ·have:=h (pre name f) (by rw[e];exact bi.2 (.inl (List.mem_map.2 ⟨f,a,rfl⟩)));rw[show(pre name f).path=name++47::f.path from rfl,ad,al]at this;omega
 ·exact h f (by rw[e];exact bi.2 (.inr a))
theorem Kr{name:List UInt8}{f:Fi}{r:List Fi}{p:List UInt8}(h:under f.path name=some p):bN name (f::r)=(⟨p,f.mode,f.id,f.ax⟩::(bN name r).1,(bN name r).2):=by
 rw[bN,h]
theorem Ks{name:List UInt8}{f:Fi}{r:List Fi}(h:under f.path name=none):bN name (f::r)=([],f::r):=by
 rw[bN,h]
theorem Hp:∀(n:Nat) (L:List Ob) (l:List Fi),mu l<n->ak L->l.length<=60->(∀f∈l,f.path.length<=4000000)->aa Tryz.prog 315 [.c (.ptr 0 0),.c (.bs 4 Fi aq l)] [.box [.rw 1],.row 6 Ob an L] (Rt (.ao [(false,[.int .i64 (aV n L [] l).1]),(false,[.int .i64 (aV n L [] l).2.1])]) [.box [.rw 2],.dead,.row 6 Ob an (aV n L [] l).2.2]):=by
 intro n;induction n using ct with
 |_ n ih=>
 intro L l hn hL hl hp;refine af (n:=95) (n0:=2) tabOk Tryz.call315 Tryz.func315 ?_;intro hb
 refine lp (Nat×List Ob×List aI×List Fi) (λx=>⟨[(0,.c (.ptr 0 0)),(1,.c (.bs 4 Fi aq x.2.2.2)),(6,.c (.rw 3))],[.box [.rw 2],.dead,.row 6 Ob an x.2.1,.row 4 aI cM x.2.2.1]⟩)
  (λx=>(x.1<=n/\mu x.2.2.2<x.1/\x.2.2.1.length+x.2.2.2.length<=60)/\ak x.2.1/\(∀f∈x.2.2.2,f.path.length<=4000000)/\aV n L [] l=aV x.1 x.2.1 x.2.2.1 x.2.2.2) (λx=>x.2.2.2.length) (n,L,[],l) [] [.s 0,.s 1,.s 1,.new] ?_ ?_ (λx J=>?_)
 ·exact⟨⟨a4 _,hn,by simpa using hl⟩,hL,hp,rfl⟩
 ·repeat' first|exact trivial|exact rfl|refine And.intro ?_ ?_
 obtain⟨k,M,o,q⟩:=x;obtain⟨⟨Z,U,W⟩,D,H,z⟩:=J;dsimp only at Z U W D H z;have P:=D.len;obtain⟨k,rfl⟩:∃m,k=m+1:=⟨k-1,by omega⟩;cases q with
 |nil=>
  rw[show aV (k+1) M o []=aB M (eT o)from rfl]at z;rw[z];refine cl [3] [0,2] (rC M (eT o) P) ?_;exact rx [] [.s 0,.s 1,.s 4]
 |cons f r=>
  rw[nH]at U;rw[al]at W;have Y:=H f (by simp);have hr:∀f∈r,f.path.length<=4000000:=λx J=>H x (by simp[J]);refine dec (λ_=>?_) (λh=>absurd (by simp) h);refine⟨0,f,rfl,rfl,?_⟩;refine cl [] [] (HY f.path) ?_;by_cases I:f.path.count 47=0
  ·have e:aV (k+1) M o (f::r)=aV k M (o++[⟨f.path,f.mode,f.id,f.ax⟩]) r:=by rw[aV,if_pos I]
   rw[e]at z;rw[HX I];refine⟨false,.grow,(.l [0,1,2,3,4,5,6,7,8,9,10,11,12,13,14,15,16,17]),by kernel_rfl,.inl ?_⟩;refine⟨0,f,rfl,rfl,?_⟩;refine⟨0,f,rfl,rfl,?_⟩;refine⟨0,f,rfl,rfl,?_⟩;refine⟨[⟨f.path,f.mode,f.id,f.ax⟩],rfl,?_⟩;refine⟨_,_,rfl,rfl,(by simp only[ad,al,am];omega),?_⟩;refine⟨1,(f::r).length,rfl,rfl,⟨by simp,a4 _⟩,?_⟩;(conv=>whnf);have tr:cy ((f::r).length-1) (cV 1 (k+1,M,o,f::r).2.2.2)=r:=by simp
   rw[tr];refine ag (k,M,o++[⟨f.path,f.mode,f.id,f.ax⟩],r) [] [.s 0,.s 1,.s 2,.s 5] ⟨⟨by simp only[];omega,by simp only[];omega,by simp;omega⟩,D,hr,z⟩ (by simp) ?_;repeat' first|exact trivial|exact rfl|refine And.intro ?_ ?_
  ·obtain⟨a,b,t,u,ha⟩:=vX I;have S:(df f.path).1=a:=by rw[t]
   have Q:a.length<=4000000:=by rw[u]at Y;simp at Y;omega
   rw[t]
   refine lp (List Fi×List Fi) (λy=>⟨[(0,.c (.ptr 0 0)),(1,.c (.bs 4 Fi aq y.2)),(6,.c (.rw 3)),(7,.c (.str a)),(10,.c (.rw 4))],[.box [.rw 2],.dead,.row 6 Ob an M,.row 4 aI cM o,.row 4 Fi aq y.1]⟩)
    (λy=>(y.1.length+y.2.length<=60/\True)/\(∀f∈y.2,f.path.length<=4000000)/\bN a (f::r)=(y.1++(bN a y.2).1,(bN a y.2).2)) (λy=>y.2.length) ([],f::r) [] [.s 0,.s 1,.s 2,.s 3,.new] ?_ ?_ (λy hy=>?_)
   ·exact⟨⟨by simp;omega,trivial⟩,H,rfl⟩
   ·repeat' first|exact trivial|exact rfl|refine And.intro ?_ ?_
   obtain⟨d,q⟩:=y;obtain⟨⟨T,_⟩,O,K⟩:=hy;dsimp only at T O K;cases q with
   |nil=>
    have s:bN a (f::r)=(d,[]):=by rw[K];simp[bN]
    (conv=>whnf);have w:=wW (r:=r) u;rw[s,nH]at w;dsimp only at w;have e:aV (k+1) M o (f::r)=if(aV k M [] d).2.1≠0 then(0,(aV k M [] d).2.1,(aV k M [] d).2.2)else aV k (aV k M [] d).2.2 (o++[⟨a,2,(aV k M [] d).1,0⟩]) []:=by rw[aV,if_neg I,t];dsimp only;rw[s]
    have v:d.length+ @cx Fi []=r.length+1:=by have:=Cg a (f::r);rw[s]at this;simpa using this
    have j:=tm (r:=r) u;rw[s]at j;have j:0<d.length:=bl.2 j;have i:=Cj a H;rw[s]at i;have F:=(nq k M [] d D).1;refine cl [4] [0,2] (ih k (by omega) M d (by omega) D (by omega) i.1) ?_;generalize aV k M [] d=R at*;refine ay (λE=>?_) (λE=>?_)
    ·rw[if_pos E]at e;rw[z,e];exact rx [] [.s 0,.s 1,.s 5]
    ·rw[if_neg (by simpa using E)]at e;refine⟨[⟨a,2,R.1,0⟩],rfl,?_⟩;refine⟨_,_,rfl,rfl,(by simp only[ad,al,am];omega),?_⟩;skip;refine ag (k,R.2.2,o++[⟨a,2,R.1,0⟩],[]) [] [.s 0,.s 1,.s 5,.s 7] ⟨⟨by simp only[];omega,by simp only[];omega,by simp only[ad,al,am]at v⊢;omega⟩,F,i.2,by rw[z,e]⟩ (by simp only[al,am]at v⊢;omega) ?_;repeat' first|exact trivial|exact rfl|refine And.intro ?_ ?_
   |cons g q=>
    have ac:=O g (by simp);refine dec (λ_=>?_) (λh=>absurd (by simp) h);refine⟨0,g,rfl,rfl,?_⟩;refine cl [] [] (rV g.path a Q) ?_;cases N:under g.path a with
    |none=>
     have s:bN a (f::r)=(d,g::q):=by rw[K,Ks N];simp
     rw[show ga g.path a=(g.path,false)by unfold ga;rw[N]];(conv=>whnf);have w:=wW (r:=r) u;rw[s,nH]at w;dsimp only at w;have e:aV (k+1) M o (f::r)=if(aV k M [] d).2.1≠0 then(0,(aV k M [] d).2.1,(aV k M [] d).2.2)else aV k (aV k M [] d).2.2 (o++[⟨a,2,(aV k M [] d).1,0⟩]) (g::q):=by rw[aV,if_neg I,t];dsimp only;rw[s]
     have v:d.length+ @cx Fi (g::q)=r.length+1:=by have:=Cg a (f::r);rw[s]at this;simpa using this
     have j:=tm (r:=r) u;rw[s]at j;have j:0<d.length:=bl.2 j;have i:=Cj a H;rw[s]at i;have F:=(nq k M [] d D).1;refine cl [4] [0,2] (ih k (by omega) M d (by omega) D (by omega) i.1) ?_;generalize aV k M [] d=R at*;refine ay (λE=>?_) (λE=>?_)
     ·rw[if_pos E]at e;rw[z,e];exact rx [] [.s 0,.s 1,.s 5]
     ·rw[if_neg (by simpa using E)]at e;refine⟨[⟨a,2,R.1,0⟩],rfl,?_⟩;refine⟨_,_,rfl,rfl,(by simp only[ad,al,am];omega),?_⟩;skip;refine ag (k,R.2.2,o++[⟨a,2,R.1,0⟩],(g::q)) [] [.s 0,.s 1,.s 5,.s 7] ⟨⟨by simp only[];omega,by simp only[];omega,by simp only[ad,al,am]at v⊢;omega⟩,F,i.2,by rw[z,e]⟩ (by simp only[al,am]at v⊢;omega) ?_;repeat' first|exact trivial|exact rfl|refine And.intro ?_ ?_
    |some p=>
     have s:=K;rw[Kr N]at s;rw[show ga g.path a=(p,true)by unfold ga;rw[N]];refine⟨0,g,rfl,rfl,?_⟩;refine⟨[⟨p,g.mode,g.id,g.ax⟩],rfl,?_⟩;(conv=>whnf);rw[al]at T;refine⟨_,_,rfl,rfl,(by simp only[ad,al,am];omega),?_⟩;refine⟨1,(g::q).length,rfl,rfl,⟨by simp,a4 _⟩,?_⟩;(conv=>whnf);have tr:cy ((g::q).length-1) (cV 1 (d,g::q).2)=q:=by simp
     rw[tr];refine ag (d++[⟨p,g.mode,g.id,g.ax⟩],q) [] [.s 0,.s 1,.s 2,.s 3,.s 7] ⟨⟨by simp;omega,trivial⟩,λx J=>O x (by simp[J]),by rw[s];simp⟩ (by simp) ?_;repeat' first|exact trivial|exact rfl|refine And.intro ?_ ?_
theorem Bz(L:List Ob)(l:List Fi)(e:ak L)(b:∀f∈l,f.path.length<=4000000):aa Tryz.prog 269 [.c (.ptr 0 0),.c (.bs 4 Fi aq l)] [.box [.rw 1],.row 6 Ob an L] (Rt (.ao [(false,[.int .i64 (cG L l).1]),(false,[.int .i64 (cG L l).2.1])]) [.box [.rw 2],.dead,.row 6 Ob an (cG L l).2.2]):=by
 refine af (n:=17) (n0:=2) tabOk Tryz.call269 Tryz.func269 ?_;intro hb;refine cl [] [] (pf l b) ?_;unfold cG;refine ay (λh=>?_) (λh=>?_)
 ·rw[if_pos h];exact rx [] [.s 0,.s 1,.s 1]
 ·have a:cu l=0:=by simpa using h
  have d:=(iW a).1;rw[if_neg (by simpa using a)];refine cl [] [0,1] (Hp (mu l+1) L l (cq _) e d b) ?_;exact rx [] [.s 0,.s 1,.s 2]
theorem oR:∀(l:List (List UInt8)),(∀s∈l,s.length<=20)->(bZ l).length<=21*l.length
 |[],_=>by simp[bZ]
 |[x],h=>by have:=h x (by simp);simp[bZ];omega
 |x::y::r,h=>by
  have c:=h x (by simp);have b:=oR (y::r) (λs a=>h s (by simp at a⊢;exact .inr a));simp[bZ]at b⊢;omega
theorem oC{s:List UInt8}(h:bP s=0):s.length<=20:=by
 unfold bP at h;split at h
 ·cases h
 split at h
 ·cases h
 ·omega
theorem po(L:List Ob):∀(n:Nat) (t:Int) (ins:List (List UInt8)) (out:List Fi),out.length<=60->(cO L n t ins out).2.length<=60
 |0,_,_,out,h=>h
 |n+1,t,ins,out,h=>by
  have b:∀(a:List aI) (out:List Fi),out.length<=60->(eW (cO L n) ins a out).2.length<=60:=by
   intro a;induction a with
   |nil=>intro out h;exact h
   |cons e r ih=>
    intro out h;unfold eW;split
    ·split
     ·exact po L n _ _ out h
     ·exact ih _ (po L n _ _ out h)
    ·split
     ·exact h
     ·exact ih _ (by rw[ad,be];omega)
  unfold cO;split
  ·exact h
  split
  ·exact h
  ·exact b _ out h
theorem Jj(L:List Ob)(J:ak L):∀(n:Nat) (t:Int) (ins:List (List UInt8)) (out:List Fi),ins.length+n=8->(∀s∈ins,s.length<=20)->out.length<=60->aa Tryz.prog 248 [.c (.bp [.bs 6 Ob an L]),.c (.int .i64 t),.c (.bs 1 (List UInt8) encS ins),.c (.ptr 0 0)] [.box [.rw 1],.row 4 Fi aq out]
  (Rt (.c (.int .i64 (cO L (n+1) t ins out).1)) [.box [.rw 2],.dead,.row 4 Fi aq (cO L (n+1) t ins out).2]):=by
 intro n;induction n using ct with
 |_ n ih=>
 intro t ins out Z Q g;refine af (n:=86) (n0:=2) tabOk Tryz.call248 Tryz.func248 ?_;intro hb;refine cl [] [] (ft L J t) ?_;have D:=fQ (l:=L) (id:=t);by_cases f:kindOf L t≠2
 ·have k:cO L (n+1) t ins out=(9,out):=by rw[cO,if_pos f]
  rw[k];by_cases z:kindOf L t=0
  ·rw[show decide (kindOf L t≠0)=false by simp[z]];exact rx [] [.s 0,.s 1,.s 1]
  ·rw[show decide (kindOf L t≠0)=true by simp[z]];refine ay (λ_=>?_) (λh=>absurd (D.symm.trans h) f);exact rx [] [.s 0,.s 1,.s 1]
 have f:kindOf L t=2:=cp.1 f;rw[show decide (kindOf L t≠0)=true by simp[f]];have k:cO L (n+1) t ins out=if 8<=ins.length/\0<(aj L t).entries.length then(3,out)else eW (cO L n) ins (aj L t).entries out:=by rw[cO,if_neg (by simpa using f)]
 obtain⟨W,E⟩:=iM J f;have U:=(J.tree f).2.2.1;generalize Y:aj L t=o at*;refine ay (λh=>absurd (D.trans f) h) (λ_=>?_);(conv=>whnf);have P:¬(8<=ins.length/\0<o.entries.length)->True:=λ_=>trivial;refine dec (λH=>?_) (λH=>?_)
 ·refine dec (λT=>?_) (λT=>?_)
  ·have S:cO L (n+1) t ins out=(3,out):=by rw[k,if_pos (by omega)]
   rw[S];exact rx [] [.s 0,.s 1,.s 1]
  ·rw[if_neg (by omega)]at k;have K:o.entries=[]:=b3 (by omega);have u:o.entries≠[]->ins.length<8:=λh=>absurd K h;rw[k]
   refine lp (Nat×List Fi) (λx=>⟨[(0,.c (.bp [.bs 6 Ob an L])),(2,.c (.bs 1 (List UInt8) encS ins)),(3,.c (.ptr 0 0)),(40,.c (.ls 4 aI cM o.entries)),(41,.c (.int .i64 o.entries.length)),(42,.c (.int .i64 x.1))],[.box [.rw 2],.dead,.row 4 Fi aq x.2]⟩)
    (λx=>(x.1<=o.entries.length/\x.2.length<=60)/\eW (cO L n) ins o.entries out=eW (cO L n) ins (o.entries.drop x.1) x.2) (λx=>o.entries.length-x.1) (0,out) [] [.s 0,.s 1,.s 1] ?_ ?_ (λx O=>?_)
   ·exact⟨⟨b0 _,g⟩,rfl⟩
   ·repeat' first|exact trivial|exact rfl|refine And.intro ?_ ?_
   obtain⟨i,q⟩:=x;obtain⟨⟨F,p⟩,b⟩:=O;dsimp only at F p b;refine dec (λr=>?_) (λr=>?_)
   ·have a:i<o.entries.length:=by simpa using r
    have I:=E _ (a0 a);have H:=u (by intro h;rw[h]at a;simp at a);rw[ap a]at b;refine⟨i,o.entries[i],rfl,ah a,?_⟩;(conv=>whnf);have M:(ins++[o.entries[i].name]).length<=8:=by rw[ad,be];omega
    refine⟨false,.grow,(.alt [0,2,3] [1,4] λj=>bif cv j 1 then(.l [4,5,6])else bif cv j 4 then(.l [1,5,6])else .l []),by kernel_rfl,.inr ⟨Unit,λ_=>⟨[(0,.c (.bp [.bs 6 Ob an L])),(2,.c (.bs 1 (List UInt8) encS ins)),(3,.c (.ptr 0 0)),(40,.c (.ls 4 aI cM o.entries)),(41,.c (.int .i64 o.entries.length)),(42,.c (.int .i64 i)),(12,.c (.ptr 3 0)),(13,.c (.rw 4))],[.box [.rw 2],.dead,.row 4 Fi aq q,.box (cM o.entries[i]),.row 1 (List UInt8) encS (ins++[o.entries[i].name])]⟩,λ_=>True,?_,?_⟩⟩
    ·refine And.intro ?_ ?_
     ·refine cl [] [] (sH ins (by omega)) ?_;refine⟨[o.entries[i].name],rfl,?_⟩;refine⟨_,_,rfl,rfl,(by simp only[ad,al,am];omega),?_⟩;refine⟨(),trivial,[],[.s 0,.s 1,.s 2,.s 3,.s 6],?_⟩;repeat' first|exact trivial|exact rfl|refine And.intro ?_ ?_
     ·refine⟨[o.entries[i].name],rfl,?_⟩;refine cl [] [] (sH ins (by omega)) ?_;refine⟨_,_,rfl,rfl,(by simp only[ad,al,am];omega),?_⟩;refine⟨(),trivial,[],[.s 0,.s 1,.s 2,.s 3,.s 6],?_⟩;repeat' first|exact trivial|exact rfl|refine And.intro ?_ ?_
    intro _ _
    have e:∀s∈ins++[o.entries[i].name],s.length<=20:=λs h=>by
     rcases bi.1 h with h|h
     ·exact Q s h
     ·rw[bn]at h;rw[h];exact oC I.name
    refine dec (λw=>?_) (λw=>?_)
    ·obtain⟨y,rfl⟩:∃m,n=m+1:=⟨n-1,by omega⟩;rw[eW,if_pos w]at b;refine cl [] [0,2] (ih y (by omega) o.entries[i].id (ins++[o.entries[i].name]) q (by rw[ad,be];omega) e p) ?_;have v:=po L (y+1) o.entries[i].id (ins++[o.entries[i].name]) q p;generalize cO L (y+1) o.entries[i].id (ins++[o.entries[i].name]) q=R at*;refine ay (λd=>?_) (λd=>?_)
     ·rw[if_pos d]at b;rw[b];exact rx [] [.s 0,.s 1,.s 5]
     ·rw[if_neg (by simpa using d)]at b;repeat'(refine I6 ?_)
      refine ag (i+1,R.2) [] [.s 0,.s 1,.s 5] ⟨⟨a,v⟩,b⟩ (by simp only[];omega) ?_;repeat' first|exact trivial|exact rfl|refine And.intro ?_ ?_
    ·rw[eW,if_neg w]at b;refine dec (λd=>?_) (λd=>?_)
     ·rw[if_pos (by omega)]at b;rw[b];exact rx [] [.s 0,.s 1,.s 2]
     ·rw[if_neg (by omega)]at b;have N:=oR _ e;refine⟨false,.grow,(.l [0,1,2,3,4,6,7,8,9,10,11,5,12,13,14,15,16]),by kernel_rfl,.inr ⟨Unit,λ_=>⟨[(0,.c (.bp [.bs 6 Ob an L])),(2,.c (.bs 1 (List UInt8) encS ins)),(3,.c (.ptr 0 0)),(40,.c (.ls 4 aI cM o.entries)),(41,.c (.int .i64 o.entries.length)),(42,.c (.int .i64 i))],[.box [.rw 2],.dead,.row 4 Fi aq (q++[⟨bZ (ins++[o.entries[i].name]),o.entries[i].mode,o.entries[i].id,o.entries[i].ax⟩])]⟩,λ_=>True,?_,?_⟩⟩
      ·refine cl [] [] (DM (ins++[o.entries[i].name]) (by omega) (by omega)) ?_;refine⟨[⟨bZ (ins++[o.entries[i].name]),o.entries[i].mode,o.entries[i].id,o.entries[i].ax⟩],rfl,?_⟩;refine⟨_,_,rfl,rfl,(by simp only[ad,al,am];omega),?_⟩;refine⟨(),trivial,[],[.s 0,.s 1,.s 6],?_⟩;repeat' first|exact trivial|exact rfl|refine And.intro ?_ ?_
      intro _ _;repeat'(refine I6 ?_)
      refine ag (i+1,(q++[⟨bZ (ins++[o.entries[i].name]),o.entries[i].mode,o.entries[i].id,o.entries[i].ax⟩])) [] [.s 0,.s 1,.s 2] ⟨⟨a,by simp only[ad,al,am];omega⟩,b⟩ (by simp only[];omega) ?_;repeat' first|exact trivial|exact rfl|refine And.intro ?_ ?_
   ·rw[a3 (by simp at r;omega)]at b;rw[b];exact rx [] [.s 0,.s 1,.s 2]
 ·rw[if_neg (by omega)]at k;have u:o.entries≠[]->ins.length<8:=λ_=>by omega
  rw[k]
  refine lp (Nat×List Fi) (λx=>⟨[(0,.c (.bp [.bs 6 Ob an L])),(2,.c (.bs 1 (List UInt8) encS ins)),(3,.c (.ptr 0 0)),(40,.c (.ls 4 aI cM o.entries)),(41,.c (.int .i64 o.entries.length)),(42,.c (.int .i64 x.1))],[.box [.rw 2],.dead,.row 4 Fi aq x.2]⟩)
   (λx=>(x.1<=o.entries.length/\x.2.length<=60)/\eW (cO L n) ins o.entries out=eW (cO L n) ins (o.entries.drop x.1) x.2) (λx=>o.entries.length-x.1) (0,out) [] [.s 0,.s 1,.s 1] ?_ ?_ (λx O=>?_)
  ·exact⟨⟨b0 _,g⟩,rfl⟩
  ·repeat' first|exact trivial|exact rfl|refine And.intro ?_ ?_
  obtain⟨i,q⟩:=x;obtain⟨⟨F,p⟩,b⟩:=O;dsimp only at F p b;refine dec (λr=>?_) (λr=>?_)
  ·have a:i<o.entries.length:=by simpa using r
   have I:=E _ (a0 a);have H:=u (by intro h;rw[h]at a;simp at a);rw[ap a]at b;refine⟨i,o.entries[i],rfl,ah a,?_⟩;(conv=>whnf);have M:(ins++[o.entries[i].name]).length<=8:=by rw[ad,be];omega
   refine⟨false,.grow,(.alt [0,2,3] [1,4] λj=>bif cv j 1 then(.l [4,5,6])else bif cv j 4 then(.l [1,5,6])else .l []),by kernel_rfl,.inr ⟨Unit,λ_=>⟨[(0,.c (.bp [.bs 6 Ob an L])),(2,.c (.bs 1 (List UInt8) encS ins)),(3,.c (.ptr 0 0)),(40,.c (.ls 4 aI cM o.entries)),(41,.c (.int .i64 o.entries.length)),(42,.c (.int .i64 i)),(12,.c (.ptr 3 0)),(13,.c (.rw 4))],[.box [.rw 2],.dead,.row 4 Fi aq q,.box (cM o.entries[i]),.row 1 (List UInt8) encS (ins++[o.entries[i].name])]⟩,λ_=>True,?_,?_⟩⟩
   ·refine And.intro ?_ ?_
    ·refine cl [] [] (sH ins (by omega)) ?_;refine⟨[o.entries[i].name],rfl,?_⟩;refine⟨_,_,rfl,rfl,(by simp only[ad,al,am];omega),?_⟩;refine⟨(),trivial,[],[.s 0,.s 1,.s 2,.s 3,.s 6],?_⟩;repeat' first|exact trivial|exact rfl|refine And.intro ?_ ?_
    ·refine⟨[o.entries[i].name],rfl,?_⟩;refine cl [] [] (sH ins (by omega)) ?_;refine⟨_,_,rfl,rfl,(by simp only[ad,al,am];omega),?_⟩;refine⟨(),trivial,[],[.s 0,.s 1,.s 2,.s 3,.s 6],?_⟩;repeat' first|exact trivial|exact rfl|refine And.intro ?_ ?_
   intro _ _
   have e:∀s∈ins++[o.entries[i].name],s.length<=20:=λs h=>by
    rcases bi.1 h with h|h
    ·exact Q s h
    ·rw[bn]at h;rw[h];exact oC I.name
   refine dec (λw=>?_) (λw=>?_)
   ·obtain⟨y,rfl⟩:∃m,n=m+1:=⟨n-1,by omega⟩;rw[eW,if_pos w]at b;refine cl [] [0,2] (ih y (by omega) o.entries[i].id (ins++[o.entries[i].name]) q (by rw[ad,be];omega) e p) ?_;have v:=po L (y+1) o.entries[i].id (ins++[o.entries[i].name]) q p;generalize cO L (y+1) o.entries[i].id (ins++[o.entries[i].name]) q=R at*;refine ay (λd=>?_) (λd=>?_)
    ·rw[if_pos d]at b;rw[b];exact rx [] [.s 0,.s 1,.s 5]
    ·rw[if_neg (by simpa using d)]at b;repeat'(refine I6 ?_)
     refine ag (i+1,R.2) [] [.s 0,.s 1,.s 5] ⟨⟨a,v⟩,b⟩ (by simp only[];omega) ?_;repeat' first|exact trivial|exact rfl|refine And.intro ?_ ?_
   ·rw[eW,if_neg w]at b;refine dec (λd=>?_) (λd=>?_)
    ·rw[if_pos (by omega)]at b;rw[b];exact rx [] [.s 0,.s 1,.s 2]
    ·rw[if_neg (by omega)]at b;have N:=oR _ e;refine⟨false,.grow,(.l [0,1,2,3,4,6,7,8,9,10,11,5,12,13,14,15,16]),by kernel_rfl,.inr ⟨Unit,λ_=>⟨[(0,.c (.bp [.bs 6 Ob an L])),(2,.c (.bs 1 (List UInt8) encS ins)),(3,.c (.ptr 0 0)),(40,.c (.ls 4 aI cM o.entries)),(41,.c (.int .i64 o.entries.length)),(42,.c (.int .i64 i))],[.box [.rw 2],.dead,.row 4 Fi aq (q++[⟨bZ (ins++[o.entries[i].name]),o.entries[i].mode,o.entries[i].id,o.entries[i].ax⟩])]⟩,λ_=>True,?_,?_⟩⟩
     ·refine cl [] [] (DM (ins++[o.entries[i].name]) (by omega) (by omega)) ?_;refine⟨[⟨bZ (ins++[o.entries[i].name]),o.entries[i].mode,o.entries[i].id,o.entries[i].ax⟩],rfl,?_⟩;refine⟨_,_,rfl,rfl,(by simp only[ad,al,am];omega),?_⟩;refine⟨(),trivial,[],[.s 0,.s 1,.s 6],?_⟩;repeat' first|exact trivial|exact rfl|refine And.intro ?_ ?_
     intro _ _;repeat'(refine I6 ?_)
     refine ag (i+1,(q++[⟨bZ (ins++[o.entries[i].name]),o.entries[i].mode,o.entries[i].id,o.entries[i].ax⟩])) [] [.s 0,.s 1,.s 2] ⟨⟨a,by simp only[ad,al,am];omega⟩,b⟩ (by simp only[];omega) ?_;repeat' first|exact trivial|exact rfl|refine And.intro ?_ ?_
  ·rw[a3 (by simp at r;omega)]at b;rw[b];exact rx [] [.s 0,.s 1,.s 2]
theorem sY(L:List Ob)(a:ak L)(t:Int):aa Tryz.prog 167 [.c (.bp [.bs 6 Ob an L]),.c (.int .i64 t)] [] (Rt (.ao [(false,[.rw 0]),(false,[.int .i64 (bq L t).2])]) [.row 4 Fi aq (bq L t).1]):=by
 refine kQ (n:=15) (n0:=0) tabOk Tryz.call167 Tryz.func167 ?_;intro hb;have b:=Jj L a 8 t [] [] rfl (by simp) (by simp);have d:=po L 9 t [] [] (by simp);unfold bq;generalize cO L 9 t [] []=R at*;refine XM.seq ?_;refine XM.seq ?_;refine XM.le (t:=⟨[(0,.c (.bp [.bs 6 Ob an L])),(1,.c (.int .i64 t)),(6,.c (.ptr 0 0))],[.box [.rw 1],.row 4 Fi aq []]⟩) [] [.s 0,.new] (by repeat' first|exact trivial|exact rfl|refine And.intro ?_ ?_) ?_;refine XM.of ?_;refine cl [] [0,1] (b) ?_;refine ay (λh=>?_) (λh=>?_)
 ·rw[if_neg h];exact rx [] [.new]
 ·rw[if_pos h];exact rx [] [.s 2]
theorem Iy(x:aI)(d:List UInt8):aa Tryz.prog 330 [.st (cM x),.c (.bp [.str d])] [] (Rt (.c (.bool (isDir d x))) []):=by
 refine af (n:=13) (n0:=0) tabOk Tryz.call330 Tryz.func330 ?_;intro hb;repeat'((conv=>whnf);first|(refine dec (λh=>?_) (λh=>?_)<;>try contradiction)|refine aL ?_|fail)
 all_goals simp_all [isDir]
theorem J9(l:List aI)(d:List UInt8):aa Tryz.prog 329 [.c (.bs 4 aI cM l),.c (.fn 330 [.bp [.str d]])] [] (Rt (.c (.int .i64 (bD (isDir d) l))) []):=by
 refine af (n:=19) (n0:=0) tabOk Tryz.call329 Tryz.func329 ?_;intro hb;have hb:l.length<=9223372036854775807:=hb.1.1;refine lp Nat (λi=>⟨[(0,.c (.bs 4 aI cM l)),(1,.c (.fn 330 [.bp [.str d]])),(7,.c (.int .i64 l.length)),(8,.c (.int .i64 i))],[]⟩) (λi=>i<=l.length/\(l.take i).any (isDir d)=false) (λi=>l.length-i) 0 [] [] ?_ ?_ (λi b=>?_)
 ·simp
 ·repeat' first|exact trivial|exact rfl|refine And.intro ?_ ?_
 refine dec (λe=>?_) (λe=>?_)
 ·have a:i<l.length:=by omega
  repeat'((conv=>whnf);first|refine⟨_,_,rfl,ah (by omega),?_⟩|fail)
  refine cl [] [] (Iy l[i] d) ?_;repeat'((conv=>whnf);first|refine aS (λh=>?_) (λh=>?_)|refine⟨i64 (by omega) (by omega),?_⟩|refine aJ ?_|fail)
  ·exact jG a b.2 h
  ·refine ag (i+1) [] [] ⟨a,ij a b.2 h⟩ (by simp only[];omega) ?_;repeat' first|exact trivial|exact rfl|refine And.intro ?_ ?_
 ·repeat'((conv=>whnf);first|refine aJ ?_|fail)
  have:=b.2;rw[a2 (by omega)]at this;exact ky this
theorem wO{α:Type}{p:α->Bool}{l:List α}:(¬0<=bD p l/\l.find? p=none)\/∃(i:Nat) (h:i<l.length),bD p l=i/\l.find? p=some l[i]:=by
 unfold bD;cases h:l.findIdx? p with
 |none=>
  rw[cb]at h;exact .inl ⟨by simp,by rw[List.find?_eq_none];intro x e;simp[h x e]⟩
 |some i=>
  rw[b1]at h;obtain⟨a,b,c⟩:=h;refine .inr ⟨i,a,rfl,?_⟩;rw[List.find?_eq_some_iff_getElem];exact⟨b,i,a,rfl,λj d=>by simpa using c j d⟩
theorem Gh(L:List Ob)(v:ak L)(t:Int)(dir:List UInt8)(hd:dir.length<=4000000):aa Tryz.prog 284 [.c (.bp [.bs 6 Ob an L]),.c (.int .i64 t),.c (.str dir)] [] (Rt (.ao [(false,[.int .i64 (cY L t dir).1]),(false,[.int .i64 (cY L t dir).2])]) []):=by
 refine af (n:=56) (n0:=0) tabOk Tryz.call284 Tryz.func284 ?_;intro hb;refine cl [] [] (xR dir hd) ?_;unfold cY;have f:(cc dir).2=0->(cc dir).1.length<=8:=λh=>by obtain⟨_,r,s⟩:=oM h;rw[s];exact r
 generalize cc dir=S at*;refine ay (λh=>?_) (λh=>?_)
 ·rw[if_pos h];exact rx [] []
 rw[if_neg (by simpa using h)];have f:=f h;refine lp (Nat×Int) (λx=>⟨[(0,.c (.bp [.bs 6 Ob an L])),(1,.c (.int .i64 x.2)),(23,.c (.rw 0)),(24,.c (.int .i64 S.1.length)),(25,.c (.int .i64 x.1))],[.row 1 (List UInt8) encS S.1]⟩) (λx=>x.1<=S.1.length/\gL L t S.1=gL L x.2 (S.1.drop x.1)) (λx=>S.1.length-x.1) (0,t) [] [.s 0] ?_ ?_ (λx w=>?_)
 ·exact⟨b0 _,rfl⟩
 ·repeat' first|exact trivial|exact rfl|refine And.intro ?_ ?_
 obtain⟨i,u⟩:=x;obtain⟨q,m⟩:=w;dsimp only at q m;rw[m];refine dec (λg=>?_) (λg=>?_)
 ·have a:i<S.1.length:=by simpa using g
  rw[ap a,gL];refine⟨i,⟨rfl,a⟩,?_⟩;refine⟨S.1[i],ah a,?_⟩;refine cl [] [] (ft L v u) ?_;have e:=fQ (l:=L) (id:=u);by_cases b:kindOf L u≠2
  ·rw[if_pos b];by_cases d:kindOf L u=0
   ·rw[show decide (kindOf L (i,u).snd≠0)=false by simp[d]];exact rx [] []
   ·rw[show decide (kindOf L (i,u).snd≠0)=true by simp[d]];refine ay (λ_=>?_) (λh=>absurd (e.symm.trans h) b);exact rx [] []
  rw[if_neg b];have b:kindOf L u=2:=cp.1 b;rw[show decide (kindOf L (i,u).snd≠0)=true by simp[b]];refine ay (λh=>absurd (e.trans b) h) (λ_=>?_);refine cl [] [] (J9 (aj L u).entries S.1[i]) ?_;rcases wO (p:=isDir S.1[i]) (l:=(aj L u).entries)with⟨o,j⟩|⟨k,o,j,k3⟩
  ·rw[j];refine dec (λ_=>?_) (λh=>absurd (by omega) h);exact rx [] []
  ·rw[k3,j];refine⟨k,(aj L u).entries[k],rfl,ah o,?_⟩;repeat'(refine I6 ?_)
   refine ag (i+1,(aj L u).entries[k].id) [] [.s 0] ⟨a,?_⟩ (by simp only[];omega) ?_
   ·rfl
   ·repeat' first|exact trivial|exact rfl|refine And.intro ?_ ?_
 ·rw[a3 (by simp at g;omega),gL];exact rx [] []
theorem Jl(x:Fi)(p:List UInt8):aa Tryz.prog 326 [.st (aq x),.c (.bp [.str p])] [] (Rt (.c (.bool (decide (x.path=p)))) []):=by
 refine af (n:=8) (n0:=0) tabOk Tryz.call326 Tryz.func326 ?_;intro hb;repeat'((conv=>whnf);first|refine aL ?_|fail)
 rfl
theorem Ka(l:List Fi)(p:List UInt8):aa Tryz.prog 325 [.c (.bs 4 Fi aq l),.c (.fn 326 [.bp [.str p]])] [] (Rt (.c (.int .i64 (bD (λf:Fi=>decide (f.path=p)) l))) []):=by
 refine af (n:=19) (n0:=0) tabOk Tryz.call325 Tryz.func325 ?_;intro hb;have hb:l.length<=9223372036854775807:=hb.1.1;refine lp Nat (λi=>⟨[(0,.c (.bs 4 Fi aq l)),(1,.c (.fn 326 [.bp [.str p]])),(7,.c (.int .i64 l.length)),(8,.c (.int .i64 i))],[]⟩) (λi=>i<=l.length/\(l.take i).any (λf:Fi=>decide (f.path=p))=false) (λi=>l.length-i) 0 [] [] ?_ ?_ (λi b=>?_)
 ·simp
 ·repeat' first|exact trivial|exact rfl|refine And.intro ?_ ?_
 refine dec (λd=>?_) (λd=>?_)
 ·have a:i<l.length:=by omega
  repeat'((conv=>whnf);first|refine⟨_,_,rfl,ah (by omega),?_⟩|fail)
  refine cl [] [] (Jl l[i] p) ?_;repeat'((conv=>whnf);first|(refine dec (λh=>?_) (λh=>?_)<;>try contradiction)|refine⟨i64 (by omega) (by omega),?_⟩|refine aJ ?_|fail)
  ·exact jG a b.2 (by simpa using h)
  ·refine ag (i+1) [] [] ⟨a,ij a b.2 (by simpa using h)⟩ (by simp only[];omega) ?_;repeat' first|exact trivial|exact rfl|refine And.intro ?_ ?_
 ·repeat'((conv=>whnf);first|refine aJ ?_|fail)
  have:=b.2;rw[a2 (by omega)]at this;exact ky this
theorem find_spec(l:List Fi)(p:List UInt8):aa Tryz.prog 277 [.c (.bs 4 Fi aq l),.c (.str p)] [] (Rt (.ao [(true,aq (eC l p).1),(false,[.bool (eC l p).2])]) []):=by
 refine af (n:=17) (n0:=0) tabOk Tryz.call277 Tryz.func277 ?_;intro hb;refine cl [] [] (Ka l p) ?_;rcases wO (p:=λf:Fi=>decide (f.path=p)) (l:=l)with⟨b,a⟩|⟨k,b,a,k3⟩
 ·have e:eC l p=(du,false):=by unfold eC;rw[a]
  rw[e];refine dec (λ_=>?_) (λh=>absurd (by omega) h);exact rx [] []
 ·have e:eC l p=(l[k],true):=by unfold eC;rw[k3]
  rw[e,a];refine⟨k,l[k],rfl,ah b,?_⟩;exact rx [] []
def eN(t:Int)(up:List Int)(x:List UInt8):Ob:=⟨3,[],[],t,up,x⟩
end Go.Nest
end
section
namespace Go.Nest
open Go Go.AM
def jJ(x:It):Fi:=⟨x.path,3,x.id,x.ax⟩
def aR:List Ob->List It->List Fi->List Fi×Int×List Ob
 |L,[],out=>(out,0,L)
 |L,x::r,out=>if x.link=true then aR L r (out++[jJ x])else
  if(aB L (dt x.bytes)).2.1≠0 then([],(aB L (dt x.bytes)).2.1,(aB L (dt x.bytes)).2.2)else aR (aB L (dt x.bytes)).2.2 r (out++[⟨x.path,1,(aB L (dt x.bytes)).1,0⟩])
def bz(L:List Ob)(l:List It):Int×Int×List Ob:=
 if(aR L l []).2.1≠0 then(0,(aR L l []).2.1,(aR L l []).2.2)else cG (aR L l []).2.2 (aR L l []).1
def um(L:List Ob)(l:List It)(h t:Int):Bool:=if h<0 then decide (l.length=0)else decide ((aj L h).tree=t)
def il(L:List Ob)(l:List It)(h:Int):Int:=if(bz L l).2.1≠0 then(bz L l).2.1 else if um (bz L l).2.2 l h (bz L l).1=true then 0 else 13
def oO(L:List Ob)(l:List It)(h:Int):List Ch×Int:=
 if(aR L l []).2.1≠0 then([],(aR L l []).2.1)else if h<0 then(bT [] (aR L l []).1,0)else
 if(bq (aR L l []).2.2 (aj (aR L l []).2.2 h).tree).2≠0 then([],(bq (aR L l []).2.2 (aj (aR L l []).2.2 h).tree).2)else(bT (bq (aR L l []).2.2 (aj (aR L l []).2.2 h).tree).1 (aR L l []).1,0)
def lH(h:Int)(others:List Int):List Int:=(if 0<=h then[h]else[])++others
def bg(L:List Ob)(l:List It)(h:Int)(text:List UInt8)(others:List Int):Int×Int×List Ob:=
 if(bz L l).2.1≠0 then(0,(bz L l).2.1,(bz L l).2.2)else if 0<=h/\um (bz L l).2.2 l h (bz L l).1=true/\others.length=0 then(0,17,(bz L l).2.2)else
 if(aB (bz L l).2.2 (eN (bz L l).1 (lH h others) text)).2.1≠0 then(0,(aB (bz L l).2.2 (eN (bz L l).1 (lH h others) text)).2.1,(aB (bz L l).2.2 (eN (bz L l).1 (lH h others) text)).2.2)
 else aB (bz L l).2.2 (eN (bz L l).1 (lH h others) text)
def l8(L:List Ob)(l:List It)(h:Int)(text:List UInt8)(others:List Int):Int:=if(bg L l h text others).2.1=0 then(bg L l h text others).1 else h
def cI(L:List Ob)(f:Fi):It:=if f.mode=3 then⟨f.path,[],true,f.id,f.ax⟩else⟨f.path,(aj L f.id).bytes,false,0,0⟩
def me(L:List Ob)(l:List It)(fs:List Fi):List It:=if(cG L fs).2.1≠0 then l else fs.map (cI (cG L fs).2.2)
def fe(L:List Ob)(l:List It)(h id:Int):Int:=if kindOf L id≠3 then 9 else if il L l h≠0 then il L l h else(bq (bz L l).2.2 (aj L id).tree).2
def kl(L:List Ob)(l:List It)(id:Int):List Ob:=if kindOf L id≠3 then L else(bz L l).2.2
def lQ(L:List Ob)(l:List It)(h id:Int):List It:=if fe L l h id≠0 then l else(bq (bz L l).2.2 (aj L id).tree).1.map (cI (bz L l).2.2)
def kV(L:List Ob)(l:List It)(h id:Int):Int:=if fe L l h id≠0 then h else id
def fN(x:It):Dc:=⟨x.path,x.bytes⟩
def fy(l:List It):List Fi:=(l.filter λx=>x.link).map jJ
theorem lV:∀{l:List It} {L:List Ob} {out:List Fi},ak L->ak (aR L l out).2.2/\L<+:(aR L l out).2.2
 |[],L,out,h=>⟨h,cr _⟩
 |x::r,L,out,h=>by
  unfold aR;split
  ·exact lV h
  split
  ·exact⟨jP h _,jQ _⟩
  ·obtain⟨a,b⟩:=lV (l:=r) (out:=out++[⟨x.path,1,(aB L (dt x.bytes)).1,0⟩]) (jP h (dt x.bytes));exact⟨a,(jQ _).trans b⟩
theorem kJ{L:List Ob}{l:List It}(h:ak L):ak (bz L l).2.2/\L<+:(bz L l).2.2:=by
 obtain⟨a,b⟩:=lV (l:=l) (out:=[]) h;unfold bz;split
 ·exact⟨a,b⟩
 ·obtain⟨c,d⟩:=n9 a (aR L l []).1;exact⟨c,b.trans d⟩
theorem qD{L:List Ob}{l:List It}{h:Int}{text:List UInt8}{others:List Int}(c:ak L):ak (bg L l h text others).2.2/\L<+:(bg L l h text others).2.2:=by
 obtain⟨a,b⟩:=kJ (l:=l) c;unfold bg;split
 ·exact⟨a,b⟩
 split
 ·exact⟨a,b⟩
 split
 ·exact⟨jP a _,b.trans (jQ _)⟩
 ·exact⟨jP a _,b.trans (jQ _)⟩
theorem vN{L:List Ob}{l:List It}{id:Int}(a:ak L):ak (kl L l id)/\L<+:kl L l id:=by
 unfold kl;split
 ·exact⟨a,cr _⟩
 ·exact kJ a
theorem wA:∀{l:List It} {L:List Ob} {out:List Fi},(aR L l out).1.length<=out.length+l.length
 |[],L,out=>by simp[aR]
 |x::r,L,out=>by
  unfold aR;split
  ·have:=wA (l:=r) (L:=L) (out:=out++[jJ x]);simp only[ad,al,am]at this⊢;omega
  split
  ·simp
  ·have:=wA (l:=r) (L:=(aB L (dt x.bytes)).2.2) (out:=out++[⟨x.path,1,(aB L (dt x.bytes)).1,0⟩]);simp only[ad,al,am]at this⊢;omega
theorem sX{n:Nat}:∀{l:List It} {L:List Ob} {out:List Fi},(∀f∈out,f.path.length<=n)->(∀x∈l,x.path.length<=n)->∀f∈(aR L l out).1,f.path.length<=n
 |[],L,out,h,_=>h
 |x::r,L,out,h,a=>by
  have c:=a x (by simp);have b:∀y∈r,y.path.length<=n:=λy d=>a y (by simp[d]);unfold aR;split
  ·refine sX (λf hf=>?_) b;rcases bi.1 hf with hf|hf
   ·exact h f hf
   ·rw[bn]at hf;subst hf;exact c
  split
  ·intro f hf;cases hf
  ·refine sX (λf hf=>?_) b;rcases bi.1 hf with hf|hf
   ·exact h f hf
   ·rw[bn]at hf;subst hf;exact c
theorem MY{L:List Ob}(c:ak L){id:Int}(hk:¬kindOf L id=0):aB L (aj L id)=(id,0,L):=by
 obtain⟨b,a⟩:=dC hk;rw[lZ b a,DQ c a];simp;omega
theorem DV{L M:List Ob}{o:Ob}(ho:o.kind≠0)(h:(aB L o).2.1=0)(f:ak M)(d:(aB L o).2.2<+:M):aB M o=((aB L o).1,0,M)/\aj M (aB L o).1=o:=by
 obtain⟨g,c⟩:=nO h;have a:¬kindOf (aB L o).2.2 (aB L o).1=0:=by rw[<-fQ,c];exact ho
 have e:=ext_get d a;rw[c]at e;have b:¬kindOf M (aB L o).1=0:=by rw[dO d a];exact a
 have:=MY f b;rw[e]at this;exact⟨this,e⟩
theorem DX{L:List Ob}{o:Ob}(h:(aB L o).2.1≠0):(aB L o).2.2=L:=by
 unfold aB at h⊢;split
 ·rfl
 split
 ·rfl
 split
 ·rfl
 split
 ·rfl
 ·rename_i a b c d;rw[if_neg a,if_neg b,if_neg c,if_neg d]at h;exact absurd rfl h
theorem DW{L:List Ob}{o:Ob}{id:Int}(h:¬kindOf (aB L o).2.2 id=0):¬kindOf L id=0\/aj (aB L o).2.2 id=o:=by
 unfold aB at h⊢;split
 ·rename_i c;rw[if_pos c]at h;exact .inl h
 rename_i c;rw[if_neg c]at h;split
 ·rename_i d;rw[if_pos d]at h;exact .inl h
 rename_i d;rw[if_neg d]at h;split
 ·rename_i f;rw[if_pos f]at h;exact .inl h
 rename_i f;rw[if_neg f]at h;split
 ·rename_i g;rw[if_pos g]at h;exact .inl h
 rename_i g;rw[if_neg g]at h;dsimp only at h⊢;obtain⟨a,b⟩:=dC h;rw[ad,be]at b;by_cases i:id.toNat<L.length
 ·left;intro j;apply h
  have e:kindOf (L++[o]) id=kindOf L id:=by
   unfold kindOf;rw[if_neg a,if_neg a,List.getElem?_append_left i]
  rw[e];exact j
 ·right;have:id=(L.length:Nat):=by omega
  rw[this];exact wI
structure Kept(L:List Ob)(t:Int)(fs:List Fi):Prop where
 tree:fM true L t fs
 ok:cu fs=0
theorem Kept.mono{L M:List Ob}{t:Int}{fs:List Fi}(h:Kept L t fs)(a:L<+:M):Kept M t fs:=⟨h.tree.mono a,h.ok⟩
theorem Kept.build{L:List Ob}{t:Int}{fs:List Fi}(h:Kept L t fs)(a:ak L):cG L fs=(t,0,L):=by
 unfold cG;rw[if_neg (by simpa using h.ok)];exact(Po a h.tree (cq _)).2 rfl
theorem Kept.of{L:List Ob}{fs:List Fi}(a:ak L)(h:(cG L fs).2.1=0):Kept (cG L fs).2.2 (cG L fs).1 fs:=⟨(qw a h).2,(qw a h).1⟩
end Go.Nest
end
section
namespace Go.Nest
open Go Go.AM Go.Proofs
open Go.Proofs.YtpechfcbnoggfaaGreatDoor (tab tabOk)
set_option maxRecDepth 4000
theorem jm{α:Type}{P R:List α}{u:α}{n:Nat}(h:n=P.length):(P++u::R)[n]? =some u:=by subst h;simp
theorem rT{α:Type}{P R:List α}{u v:α}{n:Nat}(h:n=P.length):(P++u::R).set n v=P++v::R:=by subst h;simp
theorem jV{α:Type}{P R:List α}{u:α}{n:Nat}(h:n=P.length):n<(P++u::R).length:=by subst h;simp
theorem jU{α:Type}{P Q R:List α}{u v:α}{n:Nat}(h:n=P.length+1+Q.length):(P++u::(Q++v::R))[n]? =some v:=by
 have:=jm (P:=P++u::Q) (R:=R) (u:=v) (n:=n) (by simp;omega);simpa using this
theorem uC{α:Type}{P Q R:List α}{u v w:α}{n:Nat}(h:n=P.length+1+Q.length):(P++u::(Q++v::R)).set n w=P++u::(Q++w::R):=by
 have:=rT (P:=P++u::Q) (R:=R) (u:=v) (v:=w) (n:=n) (by simp;omega);simpa using this
theorem jW{α:Type}{P Q R:List α}{u v:α}{n:Nat}(h:n=P.length+1+Q.length):n<(P++u::(Q++v::R)).length:=by simp;omega
def sJ(x y:Fi):Int:=if aw x.path y.path=true then-1 else if aw y.path x.path=true then 1 else 0
theorem mY{x y:Fi}:sJ x y<0↔aw x.path y.path=true:=by
 unfold sJ;split
 ·simp[*]
 ·split<;>simp[*]
theorem ux(x y:Fi)(a:x.path.length<=4000000)(hy:y.path.length<=4000000):aa Tryz.prog 174 [.st (aq x),.st (aq y)] [] (Rt (.c (.int .i64 (sJ x y))) []):=by
 refine af (n:=17) (n0:=0) tabOk Tryz.call174 Tryz.func174 ?_;intro hb;refine cl [] [] (mh x.path y.path a hy) ?_;unfold sJ;refine aS (λh=>?_) (λh=>?_)
 ·rw[if_pos h];exact aJ rfl
 ·rw[if_neg (by simp[h])];refine cl [] [] (mh y.path x.path hy a) ?_;refine aS (λh=>?_) (λh=>?_)
  ·rw[if_pos h];exact aJ rfl
  ·rw[if_neg (by simp[h])];exact aJ rfl
theorem yt(A U M V B:List Fi)(h:U.length=V.length)(hn:A.length+U.length+M.length+V.length+B.length<=1000)(a b n:Int)(r:a=A.length)(k:b=A.length+U.length+M.length)(m:n=U.length):aa Tryz.prog 349 [.c (.rw 0),.c (.int .i64 a),.c (.int .i64 b),.c (.int .i64 n),.c (.fn 174 [])] [.row 4 Fi aq (A++U++M++V++B)] (Rt (.ao []) [.row 4 Fi aq (A++V++M++U++B)]):=by
 subst r;subst k;subst m;refine af (n:=38) (n0:=1) tabOk Tryz.call349 Tryz.func349 ?_;intro hb;refine lp Nat (λi=>⟨[(0,.c (.rw 0)),(1,.c (.int .i64 A.length)),(2,.c (.int .i64 ((A.length:Int)+U.length+M.length))),(3,.c (.int .i64 U.length)),(10,.c (.int .i64 i))],[.row 4 Fi aq (A++(V.take i++U.drop i)++M++(U.take i++V.drop i)++B)]⟩) (λi=>i<=U.length/\True) (λi=>U.length-i) 0 [] [.s 0] ?_ ?_ (λi s=>?_)
 ·simp
 ·repeat' first|exact trivial|exact rfl|refine And.intro ?_ ?_
 refine dec (λo=>?_) (λo=>?_)
 ·have d:i<U.length:=by omega
  have f:i<V.length:=by omega
  have p:A++(V.take i++U.drop i)++M++(U.take i++V.drop i)++B=(A++V.take i)++U[i]::((U.drop (i+1)++M++U.take i)++V[i]::(V.drop (i+1)++B)):=by
   rw[ap d,ap f];simp only[a6,a9,bh]
  have q:A++(V.take (i+1)++U.drop (i+1))++M++(U.take (i+1)++V.drop (i+1))++B=(A++V.take i)++V[i]::((U.drop (i+1)++M++U.take i)++U[i]::(V.drop (i+1)++B)):=by
   rw[a1 d,a1 f];simp only[a6,a9,bh]
  have g:A.length+i=(A++V.take i).length:=by rw[ad,bb];omega
  have j:A.length+U.length+M.length+i=(A++V.take i).length+1+(U.drop (i+1)++M++U.take i).length:=by
   simp only[ad,bb,ar];omega
  rw[p];generalize A++V.take i=P at*;generalize U.drop (i+1)++M++U.take i=Q at*;generalize V.drop (i+1)++B=R at*;refine⟨false,.grow,(.l [0,1,2,3,4,5,6,7,8,9,10,11,12,13,14,15,16,17,18,19,20,21,22,23]),by kernel_rfl,.inl ?_⟩;refine⟨i64 (by omega) (by omega),?_⟩;refine⟨i64 (by omega) (by omega),?_⟩;refine⟨i64 (by omega) (by omega),?_⟩;refine⟨A.length+U.length+M.length+i,⟨by omega,jW j⟩,?_⟩;refine⟨V[i],jU j,?_⟩;refine⟨i64 (by omega) (by omega),?_⟩;refine⟨A.length+i,⟨by omega,jV g⟩,?_⟩;refine⟨U[i],jm g,?_⟩;refine⟨A.length+i,⟨by omega,jV g⟩,?_⟩;refine⟨U[i],V[i],jm g,⟨by simp,rfl⟩,?_⟩;rw[rT g];refine⟨A.length+U.length+M.length+i,⟨by omega,jW j⟩,?_⟩;refine⟨V[i],U[i],jU j,⟨by simp,rfl⟩,?_⟩;rw[uC j];repeat'(refine I6 ?_)
  refine ag (i+1) [] [.s 0] ⟨d,trivial⟩ (by simp only[];omega) ?_;rw[q];repeat' first|exact trivial|exact rfl|refine And.intro ?_ ?_
 ·have e:A++(V.take i++U.drop i)++M++(U.take i++V.drop i)++B=A++V++M++U++B:=by
   rw[a2 (l:=V) (by omega),a2 (l:=U) (by omega),a3 (l:=V) (by omega),a3 (l:=U) (by omega),ce,ce]
  rw[e];exact rx [] [.s 0]
theorem NA(A U V B:List Fi)(H:0<U.length)(hv:0<V.length)(hn:(A++U++V++B).length<=1000)(a m b:Int)(F:a=A.length)(hm:m=A.length+U.length)(p:b=A.length+U.length+V.length):aa Tryz.prog 333 [.c (.rw 0),.c (.int .i64 a),.c (.int .i64 m),.c (.int .i64 b),.c (.fn 174 [])] [.row 4 Fi aq (A++U++V++B)] (Rt (.ao []) [.row 4 Fi aq (A++V++U++B)]):=by
 subst F;subst hm;subst p;have q:A.length+U.length+V.length+B.length<=1000:=by simpa[Nat.add_assoc]using hn
 refine af (n:=58) (n0:=1) tabOk Tryz.call333 Tryz.func333 ?_;intro hb;refine⟨i64 (by omega) (by omega),?_⟩;refine⟨i64 (by omega) (by omega),?_⟩;rw[show(A.length:Int)+U.length-A.length=U.length by omega,show(A.length:Int)+U.length+V.length-(A.length+U.length)=V.length by omega]
 refine lp (List Fi×List Fi×List Fi×List Fi) (λx=>⟨[(0,.c (.rw 0)),(2,.c (.int .i64 ((A.length:Int)+U.length))),(4,.c (.fn 174 [])),(10,.c (.int .i64 x.2.1.length)),(11,.c (.int .i64 x.2.2.1.length))],[.row 4 Fi aq (x.1++x.2.1++x.2.2.1++x.2.2.2)]⟩)
  (λx=>(x.1.length+x.2.1.length=A.length+U.length/\0<x.2.1.length/\0<x.2.2.1.length/\x.1.length+x.2.1.length+x.2.2.1.length+x.2.2.2.length<=1000)/\x.1++x.2.2.1++x.2.1++x.2.2.2=A++V++U++B) (λx=>x.2.1.length+x.2.2.1.length) (A,U,V,B) [] [.s 0] ?_ ?_ (λx I=>?_)
 ·exact⟨⟨rfl,H,hv,q⟩,rfl⟩
 ·repeat' first|exact trivial|exact rfl|refine And.intro ?_ ?_
 obtain⟨P,u,v,Q⟩:=x;obtain⟨⟨y,z,D,E⟩,l⟩:=I;dsimp only at y z D E l;refine ay (λh=>?_) (λh=>?_)
 ·have h:u.length≠v.length:=λe=>h (by simp only[];omega);refine dec (λj=>?_) (λj=>?_)
  ·have j:v.length<u.length:=by simp only[]at j;omega
   have r:u=u.take v.length++u.drop v.length:=(br _ _).symm;have s:(u.take v.length).length=v.length:=by rw[bb];omega
   have t:(u.drop v.length).length=u.length-v.length:=ar ..;generalize u.take v.length=k at*;generalize u.drop v.length=i at*;have d:(P,u,v,Q).1++(P,u,v,Q).2.1++(P,u,v,Q).2.2.1++(P,u,v,Q).2.2.2=P++k++i++v++Q:=by simp[r]
   rw[d];refine⟨i64 (by simp only[];omega) (by simp only[];omega),?_⟩;refine cl [] [0] (yt P k i v Q s (by omega) ((A.length:Int)+U.length-u.length) ((A.length:Int)+U.length) v.length (by omega) (by omega) (by omega)) ?_;refine⟨i64 (by simp only[];omega) (by simp only[];omega),?_⟩;rw[show(((P,u,v,Q).2.1.length:Nat):Int)-(((P,u,v,Q).2.2.1.length:Nat):Int)=i.length by simp only[];omega];skip;have w:(P++v).length+i.length=A.length+U.length:=by rw[ad];omega
   have o:(P++v).length+i.length+k.length+Q.length<=1000:=by rw[ad];omega
   refine ag (P++v,i,k,Q) [] [.s 0] ⟨⟨w,by simp only[];omega,by simp only[];omega,o⟩,by rw[<-l,r];simp⟩ (by simp only[];omega) ?_;rw[show(((P,u,v,Q).2.2.1.length:Nat):Int)=k.length by simp only[];omega];repeat' first|exact trivial|exact rfl|refine And.intro ?_ ?_
   all_goals trace_state
  ·have j:u.length<v.length:=by simp only[]at j;omega
   have ev:v=v.take (v.length-u.length)++v.drop (v.length-u.length):=(br _ _).symm;have s:(v.take (v.length-u.length)).length=v.length-u.length:=by rw[bb];omega
   have t:(v.drop (v.length-u.length)).length=u.length:=by rw[ar];omega
   generalize v.take (v.length-u.length)=f at*;generalize v.drop (v.length-u.length)=g at*;have d:(P,u,v,Q).1++(P,u,v,Q).2.1++(P,u,v,Q).2.2.1++(P,u,v,Q).2.2.2=P++u++f++g++Q:=by simp[ev]
   rw[d];refine⟨i64 (by simp only[];omega) (by simp only[];omega),?_⟩;refine⟨i64 (by simp only[];omega) (by simp only[];omega),?_⟩;refine⟨i64 (by simp only[];omega) (by simp only[];omega),?_⟩;refine cl [] [0] (yt P u f g Q t.symm (by omega) ((A.length:Int)+U.length-u.length) ((A.length:Int)+U.length+v.length-u.length) u.length (by omega) (by omega) (by omega)) ?_;refine⟨i64 (by simp only[];omega) (by simp only[];omega),?_⟩;rw[show(((P,u,v,Q).2.2.1.length:Nat):Int)-(((P,u,v,Q).2.1.length:Nat):Int)=f.length by simp only[];omega];skip;have o:P.length+g.length+f.length+(u++Q).length<=1000:=by rw[ad];omega
   refine ag (P,g,f,u++Q) [] [.s 0] ⟨⟨by simp only[];omega,by simp only[];omega,by simp only[];omega,o⟩,by rw[<-l,ev];simp⟩ (by simp only[];omega) ?_;rw[show(((P,u,v,Q).2.1.length:Nat):Int)=g.length by simp only[];omega,show P++g++f++u++Q=P++g++f++(u++Q)by simp];repeat' first|exact trivial|exact rfl|refine And.intro ?_ ?_
   all_goals trace_state
 ·have h:u.length=v.length:=by simp only[]at h;omega
  have d:(P,u,v,Q).1++(P,u,v,Q).2.1++(P,u,v,Q).2.2.1++(P,u,v,Q).2.2.2=P++u++[]++v++Q:=by simp
  rw[d];refine⟨i64 (by simp only[];omega) (by simp only[];omega),?_⟩;refine cl [] [0] (yt P u [] v Q h (by simp;omega) ((A.length:Int)+U.length-u.length) ((A.length:Int)+U.length) u.length (by omega) (by simp;omega) (by omega)) ?_;rw[show P++v++[]++u++Q=A++V++U++B by rw[<-l];simp];exact rx [] [.s 0]
theorem PF{T:List Fi}{k:Nat}(b:Wk T)(hk:k<T.length):∀g∈T.take k,aw T[k].path g.path=false:=by
 intro g a;obtain⟨i,c,e⟩:=bj.1 a;rw[<-e];exact(bk.1 b) i k (by omega) hk (by omega)
theorem Cf(A S B:List Fi)(hn:A.length+S.length+B.length<=1000)(I:∀f∈S,f.path.length<=4000000)(a b:Int)(U:a=A.length)(w:b=A.length+S.length):aa Tryz.prog 299 [.c (.rw 0),.c (.int .i64 a),.c (.int .i64 b),.c (.fn 174 [])] [.row 4 Fi aq (A++S++B)] (Rt (.ao []) [.row 4 Fi aq (A++aH S++B)]):=by
 subst U;subst w;refine af (n:=53) (n0:=1) tabOk Tryz.call299 Tryz.func299 ?_;intro hb;refine⟨i64 (by omega) (by omega),?_⟩;refine lp Nat (λc=>⟨[(0,.c (.rw 0)),(1,.c (.int .i64 A.length)),(2,.c (.int .i64 ((A.length:Int)+S.length))),(3,.c (.fn 174 [])),(8,.c (.int .i64 ((A.length:Int)+(c+1:Nat))))],[.row 4 Fi aq (A++aH (S.take (c+1))++S.drop (c+1)++B)]⟩) (λc=>(c<=S.length)/\True) (λc=>S.length-c) 0 [] [.s 0] ?_ ?_ (λc Z=>?_)
 ·simp
 ·have e:A++aH (S.take (0+1))++S.drop (0+1)++B=A++S++B:=by
   cases S with
   |nil=>simp[aH]
   |cons x S=>simp[aH,eQ]
  rw[e];repeat' first|exact trivial|exact rfl|refine And.intro ?_ ?_
 refine dec (λK=>?_) (λK=>?_)
 ·have o:c+1<S.length:=by omega
  have r:=J4 (S.take (c+1)) S[c+1];rw[<-a1 o]at r;have Q:(aH (S.take (c+1))).length=c+1:=by rw[iY,bb];omega
  have v:=kz (S.take (c+1));have u:∀f∈aH (S.take (c+1)),f.path.length<=4000000:=λf W=>I f (List.mem_of_mem_take ((fS _).mem_iff.1 W));have E:=I _ (a0 o);rw[ap o];generalize aH (S.take (c+1))=T at*;generalize S[c+1]=x at*;generalize t:S.drop (c+1+1)=R at*;have P:R.length+(c+2)=S.length:=by rw[<-t,ar];omega
  refine lp Nat (λk=>⟨[(0,.c (.rw 0)),(1,.c (.int .i64 A.length)),(2,.c (.int .i64 ((A.length:Int)+S.length))),(3,.c (.fn 174 [])),(8,.c (.int .i64 ((A.length:Int)+(c+1:Nat)))),(9,.c (.int .i64 ((A.length:Int)+k)))],[.row 4 Fi aq (A++(T.take k++x::T.drop k)++R++B)]⟩) (λk=>(k<=T.length/\True)/\∀y∈T.drop k,aw x.path y.path=true) (λk=>k) (c+1) [] [.s 0] ?_ ?_ (λk Y=>?_)
  ·refine⟨⟨by omega,trivial⟩,λy hy=>?_⟩;rw[a3 (by omega)]at hy;cases hy
  ·have e:A++T++x::R++B=A++(T.take (c+1)++x::T.drop (c+1))++R++B:=by
    rw[a2 (by omega),a3 (by omega)];simp
   rw[<-e];repeat' first|exact trivial|exact rfl|refine And.intro ?_ ?_
  obtain⟨⟨z,_⟩,s⟩:=Y
  have fin:(∀h:0<k,aw x.path (T[k-1]'(by omega)).path=false)->aH (S.take (c+1+1))=T.take k++x::T.drop k:=λh=>by
   rw[r];refine Kn z (λg hg=>?_) (λd=>s _ (by rw[ap d];exact List.mem_cons_self ..));cases k with
   |zero=>cases hg
   |succ k=>
    have q:=h (by omega);cases F:aw x.path g.path with
    |false=>rfl
    |true=>
     rw[a1 (by omega)]at hg;rcases bi.1 hg with hg|hg
     ·have J:=PF v (by omega:k<T.length) g hg;have:=xr F J;simp only[ci]at q;rw[this]at q;cases q
     ·rw[bn]at hg;subst hg;simp only[ci]at q;rw[F]at q;cases q
  refine⟨false,.grow,(.l [0,1,2,3,4,5,6,7,8,9,10,11,12,13,14,15,16]),by kernel_rfl,.inl ?_⟩;refine dec (λM=>?_) (λM=>?_)
  ·obtain⟨k,rfl⟩:∃m,k=m+1:=⟨k-1,by omega⟩;have d:k<T.length:=by omega
   have H:A++(T.take (k+1)++x::T.drop (k+1))++R++B=(A++T.take k)++T[k]::([]++x::(T.drop (k+1)++R++B)):=by
    rw[a1 d];simp only[a6,a9,bh]
   have O:A++(T.take k++x::T.drop k)++R++B=(A++T.take k)++x::([]++T[k]::(T.drop (k+1)++R++B)):=by
    rw[ap d];simp only[a6,a9,bh]
   have i:A.length+k=(A++T.take k).length:=by rw[ad,bb];omega
   have p:A.length+(k+1)=(A++T.take k).length+1+([]:List Fi).length:=by rw[<-i];simp;omega
   have D:=u _ (a0 d);have fin:aw x.path T[k].path=false->aH (S.take (c+1+1))=T.take (k+1)++x::T.drop (k+1):=λh=>fin (λ_=>by simpa using h);rw[H];refine⟨A.length+(k+1),⟨by simp,jW p⟩,?_⟩;refine⟨x,jU p,?_⟩;refine⟨i64 (by omega) (by omega),?_⟩;refine⟨A.length+k,⟨by omega,jV i⟩,?_⟩;refine⟨T[k],jm i,?_⟩;refine cl [] [] (ux x T[k] E D) ?_;refine dec (λj=>?_) (λj=>?_)
   ·have j:=mY.1 j;refine⟨false,.grow,(.l [0,1,2,3,4,5,6,7,8,9,10,11,12,13,14,15,16,17]),by kernel_rfl,.inl ?_⟩;refine⟨i64 (by omega) (by omega),?_⟩;refine⟨i64 (by omega) (by omega),?_⟩;refine⟨A.length+k,⟨by omega,jV i⟩,?_⟩;refine⟨T[k],jm i,?_⟩;refine⟨A.length+(k+1),⟨by simp,jW p⟩,?_⟩;refine⟨x,jU p,?_⟩;refine⟨A.length+(k+1),⟨by simp,jW p⟩,?_⟩;refine⟨x,T[k],jU p,⟨by simp,rfl⟩,?_⟩;rw[uC p];refine⟨A.length+k,⟨by omega,jV i⟩,?_⟩;refine⟨T[k],x,jm i,⟨by simp,rfl⟩,?_⟩;rw[rT i];refine⟨i64 (by omega) (by omega),?_⟩;rw[show(A.length:Int)+((k+1:Nat):Int)-1=A.length+k by omega];refine ag k [] [.s 0] ⟨⟨by omega,trivial⟩,λy hy=>?_⟩ (by simp) ?_
    ·rw[ap d]at hy;rcases ch.1 hy with rfl|hy
     ·exact j
     ·exact s y hy
    ·rw[O];repeat' first|exact trivial|exact rfl|refine And.intro ?_ ?_
   ·have j:aw x.path T[k].path=false:=by
     cases N:aw x.path T[k].path with
     |false=>rfl
     |true=>exact absurd (mY.2 N) j
    have fin:=fin j;rw[<-H];refine⟨i64 (by omega) (by omega),?_⟩;rw[show(A.length:Int)+((c+1:Nat):Int)+1=A.length+((c+1+1:Nat):Int)by omega];refine ag (c+1) [] [.s 0] ⟨by omega,trivial⟩ (by simp only[];omega) ?_;rw[fin,t];repeat' first|exact trivial|exact rfl|refine And.intro ?_ ?_
  ·have fin:=fin (λh=>by omega);refine⟨i64 (by omega) (by omega),?_⟩;rw[show(A.length:Int)+((c+1:Nat):Int)+1=A.length+((c+1+1:Nat):Int)by omega];refine ag (c+1) [] [.s 0] ⟨by omega,trivial⟩ (by simp only[];omega) ?_;rw[fin,t];repeat' first|exact trivial|exact rfl|refine And.intro ?_ ?_
 ·have e:A++aH (S.take (c+1))++S.drop (c+1)++B=A++aH S++B:=by
   rw[a2 (by omega),a3 (by omega)];simp
  rw[e];exact rx [] [.s 0]
theorem qb{Y:List Fi}(h:Wk Y){i j:Nat}(a:i<j)(hj:j<Y.length):aw Y[j].path (Y[i]'(by omega)).path=false:=(bk.1 h) i j (by omega) hj a
theorem CX{Y:List Fi}{x:Fi}(h:Wk Y){q:Nat}(hq:q<Y.length)(hl:aw Y[q].path x.path=true):∀y∈Y.take (q+1),aw y.path x.path=true:=by
 intro y a;obtain⟨i,b,e⟩:=bj.1 a;subst e;by_cases e:i=q
 ·subst e;exact hl
 ·exact KR (qb h (by omega) hq) hl
theorem JB{Y:List Fi}{x:Fi}(h:Wk Y){q:Nat}(hq:q<Y.length)(hl:aw Y[q].path x.path=false):∀y∈Y.drop q,aw y.path x.path=false:=by
 intro y a;obtain⟨i,b,e⟩:=cd.1 a;subst e;by_cases e:i=0
 ·subst e;exact hl
 ·exact le_trans' hl (qb h (i:=q) (j:=q+i) (by omega) (by omega))
theorem BM{X:List Fi}{y:Fi}(h:Wk X){q:Nat}(hq:q<X.length)(hl:aw y.path X[q].path=false):∀x∈X.take (q+1),aw y.path x.path=false:=by
 intro x a;obtain⟨i,b,e⟩:=bj.1 a;subst e;by_cases e:i=q
 ·subst e;exact hl
 ·exact le_trans' (qb h (by omega) hq) hl
theorem Lq{X:List Fi}{y:Fi}(h:Wk X){q:Nat}(hq:q<X.length)(hl:aw y.path X[q].path=true):∀x∈X.drop q,aw y.path x.path=true:=by
 intro x a;obtain⟨i,b,e⟩:=cd.1 a;subst e;by_cases e:i=0
 ·subst e;exact hl
 ·exact xr hl (qb h (i:=q) (j:=q+i) (by omega) (by omega))
theorem half{e:Int}{k:Nat}(h:e/2=k)(b:0<=e)(h1:e<=4000):IntKind.i64.wrap ((IntKind.u64.wrap e).fdiv (2^min (c0 1) IntKind.u64.bits))=(k:Int):=by
 have a:(2:Int)^min (c0 1) IntKind.u64.bits=2:=by decide
 rw[IntKind.wrap_u64,IntKind.wrap_i64,a,Int.fdiv_eq_ediv_of_nonneg _ (by omega)];omega
theorem Pc(A Y B:List Fi)(x:Fi)(hy:0<Y.length)(J:Wk Y)(hn:A.length+1+Y.length+B.length<=1000)(F:x.path.length<=4000000)(R:∀f∈Y,f.path.length<=4000000)(a m b:Int)(Q:a=A.length)(hm:m=A.length+1)(E:b=A.length+1+Y.length):aa Tryz.prog 300 [.c (.rw 0),.c (.int .i64 a),.c (.int .i64 m),.c (.int .i64 b),.c (.fn 174 [])] [.row 4 Fi aq (A++[x]++Y++B)] (Rt (.ao []) [.row 4 Fi aq (A++aH ([x]++Y)++B)]):=by
 subst Q;subst hm;subst E;refine af (n:=220) (n0:=1) tabOk Tryz.call300 Tryz.func300 ?_;intro hb;refine⟨i64 (by omega) (by omega),?_⟩;refine dec (λ_=>?_) (λh=>absurd (by omega) h);(conv=>whnf);have I:A++[x]++Y++B=A++x::(Y++B):=by simp
 rw[I];refine lp (Nat×Nat) (λz=>⟨[(0,.c (.rw 0)),(1,.c (.int .i64 A.length)),(4,.c (.fn 174 [])),(10,.c (.int .i64 ((A.length:Int)+1+z.1))),(11,.c (.int .i64 ((A.length:Int)+1+z.2)))],[.row 4 Fi aq (A++x::(Y++B))]⟩) (λz=>(z.1<=z.2/\z.2<=Y.length)/\(∀y∈Y.take z.1,aw y.path x.path=true)/\∀y∈Y.drop z.2,aw y.path x.path=false) (λz=>z.2-z.1) (0,Y.length) [] [.s 0] ?_ ?_ (λz S=>?_)
 ·exact⟨⟨b0 _,a4 _⟩,by simp,by simp⟩
 ·rw[show((A.length:Int)+1)=A.length+1+((0:Nat):Int)by omega];repeat' first|exact trivial|exact rfl|refine And.intro ?_ ?_
 obtain⟨d,s⟩:=z;obtain⟨⟨M,K⟩,w,D⟩:=S;dsimp only at M K w D;refine dec (λr=>?_) (λr=>?_)
 ·have r:d<s:=by simp only[]at r;omega
  refine⟨i64 (by simp only[];omega) (by simp only[];omega),?_⟩;refine⟨by decide,?_⟩;(conv=>whnf);obtain⟨q,T⟩:∃q,q=(d+s)/2:=⟨_,rfl⟩;have i:q<Y.length:=by omega
  have H:=R _ (a0 i)
  have o:A++x::(Y++B)=A++x::(Y.take q++Y[q]::(Y.drop (q+1)++B)):=by
   conv=>lhs;rw[<-br q Y,ap i]
   simp only[a6,a9]
  have j:A.length=A.length:=rfl;have p:A.length+1+q=A.length+1+(Y.take q).length:=by rw[bb];omega
  rw[half (e:=(A.length:Int)+1+(((d,s).1:Nat):Int)+((A.length:Int)+1+(((d,s).2:Nat):Int))) (k:=A.length+1+q) (by simp only[];omega) (by simp only[];omega) (by simp only[];omega),o];refine⟨false,.grow,(.l [0,1,2,3,4,5,6,7,8,9,10]),by kernel_rfl,.inl ?_⟩;refine⟨A.length+1+q,⟨rfl,jW p⟩,?_⟩;refine⟨Y[q],jU p,?_⟩;refine⟨A.length,⟨rfl,jV j⟩,?_⟩;refine⟨x,jm j,?_⟩;refine cl [] [] (ux Y[q] x H F) ?_;rw[<-o];refine dec (λg=>?_) (λg=>?_)
  ·have g:=mY.1 g;refine⟨i64 (by omega) (by omega),?_⟩;rw[show((A.length+1+q:Nat):Int)+1=(A.length:Int)+1+((q+1:Nat):Int)by omega];refine ag (q+1,s) [] [.s 0] ⟨⟨by simp only[];omega,K⟩,CX J i g,D⟩ (by simp only[];omega) ?_;repeat' first|exact trivial|exact rfl|refine And.intro ?_ ?_
  ·have g:aw Y[q].path x.path=false:=by
    cases N:aw Y[q].path x.path with
    |false=>rfl
    |true=>exact absurd (mY.2 N) g
   rw[show((A.length+1+q:Nat):Int)=(A.length:Int)+1+(q:Nat)by omega];refine ag (d,q) [] [.s 0] ⟨⟨by simp only[];omega,by simp only[];omega⟩,w,JB J i g⟩ (by simp only[];omega) ?_;repeat' first|exact trivial|exact rfl|refine And.intro ?_ ?_
 ·have r:d=s:=by simp only[]at r;omega
  subst r;have u:=MA J w D;rw[show A++x::(Y++B)=A++(Y.take 0++x::Y.drop 0)++B by simp];refine lp Nat (λt=>⟨[(0,.c (.rw 0)),(10,.c (.int .i64 ((A.length:Int)+1+d))),(13,.c (.int .i64 ((A.length:Int)+t)))],[.row 4 Fi aq (A++(Y.take t++x::Y.drop t)++B)]⟩) (λt=>t<=d/\True) (λt=>d-t) 0 [] [.s 0] ?_ ?_ (λt U=>?_)
  ·simp
  ·rw[show(A.length:Int)=A.length+((0:Nat):Int)by omega];repeat' first|exact trivial|exact rfl|refine And.intro ?_ ?_
  refine⟨i64 (by omega) (by omega),?_⟩;refine dec (λg=>?_) (λg=>?_)
  ·have v:t<Y.length:=by omega
   have O:A++(Y.take t++x::Y.drop t)++B=(A++Y.take t)++x::([]++Y[t]::(Y.drop (t+1)++B)):=by
    rw[ap v];simp only[a6,a9,bh]
   have P:A++(Y.take (t+1)++x::Y.drop (t+1))++B=(A++Y.take t)++Y[t]::([]++x::(Y.drop (t+1)++B)):=by
    rw[a1 v];simp only[a6,a9,bh]
   have j:A.length+t=(A++Y.take t).length:=by rw[ad,bb];omega
   have p:A.length+(t+1)=(A++Y.take t).length+1+([]:List Fi).length:=by rw[<-j];simp;omega
   rw[O];refine⟨false,.grow,(.l [0,1,2,3,4,5,6,7,8,9,10,11,12,13,14,15,16,17]),by kernel_rfl,.inl ?_⟩;refine⟨i64 (by omega) (by omega),?_⟩;refine⟨i64 (by omega) (by omega),?_⟩;refine⟨A.length+(t+1),⟨by omega,jW p⟩,?_⟩;refine⟨Y[t],jU p,?_⟩;refine⟨A.length+t,⟨by omega,jV j⟩,?_⟩;refine⟨x,jm j,?_⟩;refine⟨A.length+t,⟨by omega,jV j⟩,?_⟩;refine⟨x,Y[t],jm j,⟨by simp,rfl⟩,?_⟩;rw[rT j];refine⟨A.length+(t+1),⟨by omega,jW p⟩,?_⟩;refine⟨Y[t],x,jU p,⟨by simp,rfl⟩,?_⟩;rw[uC p];refine⟨i64 (by omega) (by omega),?_⟩;rw[show(A.length:Int)+(t:Nat)+1=A.length+((t+1:Nat):Int)by omega];refine ag (t+1) [] [.s 0] ⟨by omega,trivial⟩ (by simp only[];omega) ?_;rw[P];repeat' first|exact trivial|exact rfl|refine And.intro ?_ ?_
  ·obtain rfl:t=d:=by omega
   rw[u];exact rx [] [.s 0]
theorem Pb(A X B:List Fi)(y:Fi)(Y:1<X.length)(M:Wk X)(hn:A.length+X.length+1+B.length<=1000)(I:y.path.length<=4000000)(S:∀f∈X,f.path.length<=4000000)(a m b:Int)(R:a=A.length)(hm:m=A.length+X.length)(H:b=A.length+X.length+1):aa Tryz.prog 300 [.c (.rw 0),.c (.int .i64 a),.c (.int .i64 m),.c (.int .i64 b),.c (.fn 174 [])] [.row 4 Fi aq (A++X++[y]++B)] (Rt (.ao []) [.row 4 Fi aq (A++aH (X++[y])++B)]):=by
 subst R;subst hm;subst H;refine af (n:=220) (n0:=1) tabOk Tryz.call300 Tryz.func300 ?_;intro hb;refine⟨i64 (by omega) (by omega),?_⟩;refine dec (λh=>absurd h (by omega)) (λ_=>?_);refine⟨i64 (by omega) (by omega),?_⟩;refine dec (λ_=>?_) (λh=>absurd (by omega) h);(conv=>whnf);have K:A++X++[y]++B=A++X++y::B:=by simp
 rw[K];refine lp (Nat×Nat) (λz=>⟨[(0,.c (.rw 0)),(2,.c (.int .i64 ((A.length:Int)+X.length))),(4,.c (.fn 174 [])),(14,.c (.int .i64 ((A.length:Int)+z.1))),(15,.c (.int .i64 ((A.length:Int)+z.2)))],[.row 4 Fi aq (A++X++y::B)]⟩) (λz=>(z.1<=z.2/\z.2<=X.length)/\(∀x∈X.take z.1,aw y.path x.path=false)/\∀x∈X.drop z.2,aw y.path x.path=true) (λz=>z.2-z.1) (0,X.length) [] [.s 0] ?_ ?_ (λz T=>?_)
 ·exact⟨⟨b0 _,a4 _⟩,by simp,by simp⟩
 ·repeat' first|exact trivial|exact rfl|refine And.intro ?_ ?_
 obtain⟨g,s⟩:=z;obtain⟨⟨N,D⟩,E,F⟩:=T;dsimp only at N D E F;refine dec (λr=>?_) (λr=>?_)
 ·have r:g<s:=by simp only[]at r;omega
  refine⟨i64 (by simp only[];omega) (by simp only[];omega),?_⟩;refine⟨by decide,?_⟩;(conv=>whnf);obtain⟨q,U⟩:∃q,q=(g+s)/2:=⟨_,rfl⟩;have j:q<X.length:=by omega
  have J:=S _ (a0 j)
  have o:A++X++y::B=(A++X.take q)++X[q]::(X.drop (q+1)++y::B):=by
   conv=>lhs;rw[<-br q X,ap j]
   simp only[a6,a9]
  have d:A.length+q=(A++X.take q).length:=by rw[ad,bb];omega
  have p:A.length+X.length=(A++X.take q).length+1+(X.drop (q+1)).length:=by rw[<-d,ar];omega
  rw[half (e:=(A.length:Int)+(((g,s).1:Nat):Int)+((A.length:Int)+(((g,s).2:Nat):Int))) (k:=A.length+q) (by simp only[];omega) (by simp only[];omega) (by simp only[];omega),o];refine⟨false,.grow,(.l [0,1,2,3,4,5,6,7,8,9,10,11]),by kernel_rfl,.inl ?_⟩;refine⟨A.length+X.length,⟨by omega,jW p⟩,?_⟩;refine⟨y,jU p,?_⟩;refine⟨A.length+q,⟨rfl,jV d⟩,?_⟩;refine⟨X[q],jm d,?_⟩;refine cl [] [] (ux y X[q] I J) ?_;rw[<-o];refine ay (λi=>?_) (λi=>?_)
  ·have i:aw y.path X[q].path=false:=by
    cases O:aw y.path X[q].path with
    |false=>rfl
    |true=>exact absurd (mY.2 O) i
   refine⟨i64 (by omega) (by omega),?_⟩;rw[show((A.length+q:Nat):Int)+1=(A.length:Int)+((q+1:Nat):Int)by omega];refine ag (q+1,s) [] [.s 0] ⟨⟨by simp only[];omega,D⟩,BM M j i,F⟩ (by simp only[];omega) ?_;repeat' first|exact trivial|exact rfl|refine And.intro ?_ ?_
  ·have i:=mY.1 i;rw[show((A.length+q:Nat):Int)=(A.length:Int)+(q:Nat)by omega];refine ag (g,q) [] [.s 0] ⟨⟨by simp only[];omega,by simp only[];omega⟩,E,Lq M j i⟩ (by simp only[];omega) ?_;repeat' first|exact trivial|exact rfl|refine And.intro ?_ ?_
 ·have r:g=s:=by simp only[]at r;omega
  subst r;have v:=Mz M E F;rw[show A++X++y::B=A++(X.take X.length++y::X.drop X.length)++B by simp];refine lp Nat (λt=>⟨[(0,.c (.rw 0)),(14,.c (.int .i64 ((A.length:Int)+g))),(17,.c (.int .i64 ((A.length:Int)+t)))],[.row 4 Fi aq (A++(X.take t++y::X.drop t)++B)]⟩) (λt=>(g<=t/\t<=X.length)/\True) (λt=>t-g) X.length [] [.s 0] ?_ ?_ (λt W=>?_)
  ·exact⟨⟨D,a4 _⟩,trivial⟩
  ·repeat' first|exact trivial|exact rfl|refine And.intro ?_ ?_
  refine dec (λi=>?_) (λi=>?_)
  ·obtain⟨t,rfl⟩:∃u,t=u+1:=⟨t-1,by omega⟩;have w:t<X.length:=by omega
   have Q:A++(X.take t++y::X.drop t)++B=(A++X.take t)++y::([]++X[t]::(X.drop (t+1)++B)):=by
    rw[ap w];simp only[a6,a9,bh]
   have P:A++(X.take (t+1)++y::X.drop (t+1))++B=(A++X.take t)++X[t]::([]++y::(X.drop (t+1)++B)):=by
    rw[a1 w];simp only[a6,a9,bh]
   have d:A.length+t=(A++X.take t).length:=by rw[ad,bb];omega
   have p:A.length+(t+1)=(A++X.take t).length+1+([]:List Fi).length:=by rw[<-d];simp;omega
   rw[P];refine⟨false,.grow,(.l [0,1,2,3,4,5,6,7,8,9,10,11,12,13,14,15,16,17]),by kernel_rfl,.inl ?_⟩;refine⟨i64 (by omega) (by omega),?_⟩;refine⟨i64 (by omega) (by omega),?_⟩;refine⟨A.length+t,⟨by omega,jV d⟩,?_⟩;refine⟨X[t],jm d,?_⟩;refine⟨A.length+(t+1),⟨by simp,jW p⟩,?_⟩;refine⟨y,jU p,?_⟩;refine⟨A.length+(t+1),⟨by simp,jW p⟩,?_⟩;refine⟨y,X[t],jU p,⟨by simp,rfl⟩,?_⟩;rw[uC p];refine⟨A.length+t,⟨by omega,jV d⟩,?_⟩;refine⟨X[t],y,jm d,⟨by simp,rfl⟩,?_⟩;rw[rT d];refine⟨i64 (by omega) (by omega),?_⟩;rw[show(A.length:Int)+((t+1:Nat):Int)-1=A.length+(t:Nat)by omega];refine ag t [] [.s 0] ⟨⟨by omega,by omega⟩,trivial⟩ (by simp only[];omega) ?_;rw[Q];repeat' first|exact trivial|exact rfl|refine And.intro ?_ ?_
  ·obtain rfl:t=g:=by omega
   rw[v];exact rx [] [.s 0]
end Go.Nest
end
