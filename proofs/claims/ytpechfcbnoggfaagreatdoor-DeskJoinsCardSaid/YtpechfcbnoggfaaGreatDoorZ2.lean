import Derived.Shelf.Bytes.SlJoin
import Derived.Test.YtpechfcbnoggfaaGreatDoorProg
import Derived.KernelRfl
import Derived.Test.YtpechfcbnoggfaaGreatDoorZ1
import Derived.Test.YtpechfcbnoggfaaGreatDoorV36
set_option linter.unusedVariables false
set_option linter.unusedSimpArgs false
open List renaming getElem?_map->ac
open Nat renaming beq->Z
open Option.some renaming inj->ad
section
namespace Go.Nest
open Go Go.Proofs Go.Shelf
set_option maxRecDepth 100000
def Ni:Ren:={f:=λn=>bif Z n 14 then 347 else bif Z n 15 then 341 else n,t:=λn=>bif Z n 26 then 286 else bif Z n 22 then 33 else bif Z n 3 then 3 else bif Z n 4 then 4 else bif Z n 0 then 0 else bif Z n 9 then 9 else bif Z n 20 then 20 else bif Z n 5 then 5 else n,g:=λn=>n}
theorem qZ:SlLaysJ.n14 Tryz.prog Ni:={mixed:=by kernel_rfl,f14:=Tryz.func347.trans (congrArg some (by kernel_rfl)),f15:=Tryz.func341.trans (congrArg some (by kernel_rfl)),t0:=Tryz.underlying0,a0:=Tryz.isAgg0,z0:=Tryz.sizeOf0,v0:=Tryz.zeroValue0,t3:=Tryz.underlying3,a3:=Tryz.isAgg3,z3:=Tryz.sizeOf3,v3:=Tryz.zeroValue3,t4:=Tryz.underlying4,a4:=Tryz.isAgg4,z4:=Tryz.sizeOf4,v4:=Tryz.zeroValue4,t9:=Tryz.underlying9,a9:=Tryz.isAgg9,z9:=Tryz.sizeOf9,v9:=Tryz.zeroValue9,t20:=Tryz.underlying20,a20:=Tryz.isAgg20,z20:=Tryz.sizeOf20,v20:=Tryz.zeroValue20,t22:=Tryz.underlying33,a22:=Tryz.isAgg33,z22:=Tryz.sizeOf33,v22:=Tryz.zeroValue33,t26:=Tryz.underlying286,a26:=Tryz.isAgg286,z26:=Tryz.sizeOf286,v26:=Tryz.zeroValue286,t5:=Tryz.underlying5,z5:=Tryz.sizeOf5,i5:=by kernel_rfl}
end Go.Nest
end
section
namespace Go.Nest
open Go Go.AM Go.NB Go.Proofs Go.RowKit
open Go.Proofs.YtpechfcbnoggfaaGreatDoor (tab tabOk)
set_option maxRecDepth 4000
theorem addr_add(b o i:Nat):(⟨b,o,none⟩:Addr).add i=⟨b,o+i,none⟩:=by unfold Addr.add;split<;>simp_all
def uO(B:Nat)(w':World)(v:Value)(l:List UInt8):Prop:=(l=[]/\∃p,v= .slice p 0 0)\/Lib.FreshBytes B w' v l
theorem uO.rl{B:Nat}{w':World}{v:Value}{l:List UInt8}(h:uO B w' v l)(J:B<=w'.heap.size){F:Nat->Prop}(r:∀q,B<=q->q<w'.heap.size->F q){m:Md}:RL F w'.heap m [.ls 1 UInt8 aN l] [v]:=by
 rcases h with⟨rfl,p,rfl⟩|⟨g,cap,i,rfl,k,n,o,H,z,D,b,-⟩
 ·exact .ct .nl
 ·have s:∀j u,(l.map bv)[j]? =some u->cell w'.heap g (0+j)=some u:=λj u t=>by
   rw[ac]at t;obtain⟨x,y,rfl⟩:=Option.map_eq_some_iff.1 t;have d:j<l.length:=(List.getElem?_eq_some_iff.1 y).1;have e:=b j (by omega);rw[NB.dG rfl]at e;rw[Nat.zero_add,e];have f:j<i.length:=by omega
   have I:=z i[j] (List.getElem_mem f);have a:(Lib.bytesOf (i.take l.length))[j]? =some x:=by rw[D];exact y
   unfold Lib.bytesOf at a;rw[ac,List.getElem?_take_of_lt d,List.getElem?_eq_getElem f]at a;simp at a;subst a;simp[bv,List.getD,f];omega
  by_cases w:l=[]
  ·subst w;cases cap with
   |zero=>exact .ct .nl
   |succ c=>
    have e:=b 0 (by omega);rw[NB.dG rfl]at e;exact .ls (r g k (NB.sE e)) n o (pg []) (λ_ _=>rfl) s .nl
  ·have E:0<l.length:=by cases l with|nil=>exact absurd rfl w|cons _ _=>simp
   have e:=b 0 (by omega);rw[NB.dG rfl]at e;exact .ls (r g k (NB.sE e)) n o (pg l) (λ_ _=>rfl) s .nl
theorem aa.Mh{P:Program}{f:FuncId}{args:List A}{l:List UInt8}(b:∀args w,(callFunc f args).run P w= .ok (.enter f args) w)
  (h:∀(F L:Nat->Prop) (γ:List Value) (w:World) (vs:List Value),ed F w.heap ⟨L,γ⟩ args vs->(∀k,F k\/L k->k<w.heap.size)->Calls P f vs.toArray w λe w'=>∃v,e= .returned v/\uO w.heap.size w' v l/\Below w.heap.size w w'):
  aa P f args [] (Rt (.c (.ls 1 UInt8 aN l)) []):=by
 intro F L γ H vs a i w o;subst o;have g:=h F L γ w vs a (λk d=>d.elim (i.fb k) (λd=>(i.bb k d).1));rw[b];refine⟨rfl,g.mono λe w' ⟨v,m,n,hb⟩=>.inl ⟨v,m,⟨.ret (.c (.ls 1 UInt8 aN l)),[],_,γ,⟨rfl,rfl⟩,rfl,rfl,rfl,?_,i.fresh ⟨hb.size,λk d _=>hb.block k d⟩⟩,⟨hb.os,hb.tape,hb.output,λh=>by cases h⟩⟩⟩;exact n.rl hb.size (λq j g=>.inr ⟨j,g⟩)
theorem zO(w:World)(b:Obj):Below w.heap.size w (w.alloc b):=by
 refine⟨rfl,rfl,rfl,?_,λk a=>?_⟩
 ·show w.heap.size<=(w.heap.push b).size;rw[Array.size_push];omega
 ·show(w.heap.push b)[k]? =_;rw[Array.getElem?_push_lt a,Array.getElem?_eq_getElem a]
theorem holds_of{F:Nat->Prop}{w:World}{m:Md}{l:List UInt8}{v:Value}(h:RL F w.heap m [.ls 1 UInt8 aN l] [v]):Lib.HoldsBytes w v l:=by
 cases h with
 |ct _=>exact⟨_,_,rfl,λ_=>rfl,λa _ i x c=>by simp at c⟩
 | @ls _ _ _ _ _ b d cap e _ _ hb k n j o g _=>
  refine⟨_,_,rfl,λh=>(by cases h),λa f i x c=>?_⟩;obtain rfl:(⟨b,d,none⟩:Addr)=a:=ad f;rw[addr_add,NB.dG rfl];refine g i _ ?_;rw[vB _ j,ac,c];rfl
theorem DL{F:Nat->Prop}{w:World}:∀(ls:List (List UInt8)) {css:List Value},RL F w.heap m0 (ls.flatMap (bM 1 aN)) css->css.length=ls.length/\∀(i:Nat) v l,css[i]? =some v->ls[i]? =some l->Lib.HoldsBytes w v l
 |[],css,h=>by
  cases h;exact⟨rfl,λi v l h=>by simp at h⟩
 |x::ls,css,h=>by
  rw[List.flatMap_cons]at h;obtain⟨j,k,rfl,c,d⟩:=h.split;obtain⟨v,rfl,f⟩:=(show RL F w.heap m0 [.ls 1 UInt8 aN x] j from c).single;obtain⟨e,g⟩:=DL ls d;refine⟨by simp[e],λi u l b a=>?_⟩;cases i with
  |zero=>
   simp at b a;subst b a;exact holds_of f
  |succ i=>
   simp at b a;exact g i u l b a
theorem Kx:∀ls:List (List UInt8),Lib.join ls []=ls.flatten
 |[]=>rfl
 |x::r=>by
  rw[Lib.join_cons];unfold Lib.joinTail;simp
theorem Af(ls:List (List UInt8))(hn:ls.length<=100000000)(hlen:ls.flatten.length<=140737488355328):aa Tryz.prog 347 [.c (b9 ls),.c .nil] [] (Rt (.c (.ls 1 UInt8 aN ls.flatten)) []):=by
 refine aa.Mh Tryz.call347 (λF L γ w S h O=>?_);match S,h with
 |[W,Y],⟨g,f,_⟩=>
  cases f with
  |nil _=>
   cases g with
   | @ct _ _ _ _ p _ _ _=>
    have:=Any.bytes_Join_none qZ p 0 (.slice none 0 0) w;exact this.mono λe u ⟨g,f⟩=>⟨_,g,.inl ⟨rfl,_,rfl⟩,by subst f;exact zO w _⟩
   | @ls _ _ _ _ _ b j cap o _ _ hb H T Q U K _=>
    obtain⟨E,P⟩:=DL ls Q;have q:Lib.PartsAt w ⟨b,j,none⟩ o ls:=⟨E,λi v M=>by rw[addr_add,NB.dG rfl];exact K i v M,P⟩;have I:Lib.HoldsBytes w (.slice none 0 0) []:=⟨none,0,rfl,λ_=>rfl,λa J=>by cases J⟩;match ls,hn,hlen,q,E with
    |[],_,_,_,_=>
     have:=Any.bytes_Join_none qZ (some ⟨b,j,none⟩) cap (.slice none 0 0) w;exact this.mono λe u ⟨g,f⟩=>⟨_,g,.inl ⟨rfl,_,rfl⟩,by subst f;exact zO w _⟩
    |[t],_,hlen,q,_=>
     obtain⟨p,D,l,N,d,s,k⟩:=q.get 0 (by simp);obtain rfl:t=l:=by simpa using N
     rw[addr_add,Nat.add_zero]at d;by_cases m:t=[]
     ·subst m;have:=Any.bytes_Join_one_empty qZ b j cap p D (.slice none 0 0) w d;exact this.mono λe u ⟨g,f⟩=>⟨_,g,.inl ⟨rfl,_,rfl⟩,by subst f;exact Below.refl _ _⟩
     ·cases p with
      |none=>exact absurd (s rfl) m
      |some n=>
       have:=Any.bytes_Join_one qZ b j cap n D t (.slice none 0 0) w d (λi x R=>k n rfl i x R) (by cases t with|nil=>exact absurd rfl m|cons _ _=>simp) (by simpa using hlen);exact this.mono λe u ⟨v,g,f,z⟩=>⟨v,g,.inr (by simpa using f),z⟩
    |x::y::r,hn,hlen,q,_=>
     have := Any.bytes_Join_many qZ b j (x :: y :: r).length cap o (x :: y :: r) (.slice none 0 0) [] w rfl (by simp) q H I (by omega) (by
      have e:Lib.lens (x::y::r)=(x::y::r).flatten.length:=by unfold Lib.lens;rw[List.length_flatten]
      rw[e];simpa using hlen)
     refine this.mono λe u ⟨v,g,f,z⟩=>⟨v,g,.inr ?_,z⟩;rw[Kx]at f;exact f
end Go.Nest
end
