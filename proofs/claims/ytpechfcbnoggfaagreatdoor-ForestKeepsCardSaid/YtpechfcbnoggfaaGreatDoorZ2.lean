/- part -/
import Derived.Test.YtpechfcbnoggfaaGreatDoorZ1
import Derived.Test.YtpechfcbnoggfaaGreatDoorJ4
import Derived.Test.YtpechfcbnoggfaaGreatDoorW1
set_option linter.unusedVariables false
set_option linter.unusedSimpArgs false
namespace Go.Nest
open Go Go.AM Go.NB Go.Proofs Go.RowKit
open Go.Proofs.YtpechfcbnoggfaaGreatDoor (tab tabOk)
set_option maxRecDepth 4000
theorem sK(b o i:Nat):(⟨b,o,none⟩:Addr).add i=⟨b,o+i,none⟩:=by unfold Addr.add;split<;>simp_all
def ss(B:Nat)(w':World)(v:Value)(l:List UInt8):Prop:=(l=[]∧∃p,v= .slice p 0 0)∨Lib.FreshBytes B w' v l
theorem ss.rl{B:Nat}{w':World}{v:Value}{l:List UInt8}(h:ss B w' v l)(J:B≤w'.heap.size){F:Nat→Prop}(r:∀q,B≤q→q<w'.heap.size→F q){m:Md}:RL F w'.heap m [.ls 1 UInt8 bt l] [v]:=by
 rcases h with⟨rfl,p,rfl⟩|⟨g,cap,i,rfl,k,n,o,H,z,D,b,-⟩
 ·exact .bY .nl
 ·have s:∀j u,(l.map bv)[j]? =some u→cell w'.heap g (0+j)=some u:=fun j u t=>by
   rw[List.getElem?_map]at t;obtain⟨x,y,rfl⟩:=Option.map_eq_some_iff.1 t;have d:j<l.length:=(List.getElem?_eq_some_iff.1 y).1;have e:=b j (by omega);rw[NB.dA rfl]at e;rw[Nat.zero_add,e];have f:j<i.length:=by omega
   have I:=z i[j] (List.getElem_mem f);have a:(Lib.bytesOf (i.take l.length))[j]? =some x:=by rw[D];exact y
   unfold Lib.bytesOf at a;rw[List.getElem?_map,List.getElem?_take_of_lt d,List.getElem?_eq_getElem f]at a;simp at a;subst a;simp[bv,List.getD,f];omega
  by_cases w:l=[]
  ·subst w;cases cap with
   |zero=>exact .bY .nl
   |succ c=>
    have e:=b 0 (by omega);rw[NB.dA rfl]at e;exact .ls (r g k (NB.qq e)) n o (oS []) (fun _ _=>rfl) s .nl
  ·have E:0<l.length:=by cases l with|nil=>exact absurd rfl w|cons _ _=>simp
   have e:=b 0 (by omega);rw[NB.dA rfl]at e;exact .ls (r g k (NB.qq e)) n o (oS l) (fun _ _=>rfl) s .nl
theorem ae.GU{P:Program}{f:FuncId}{args:List A}{l:List UInt8}(b:∀args w,(callFunc f args).run P w= .ok (.enter f args) w)
  (h:∀(F L:Nat→Prop) (γ:List Value) (w:World) (vs:List Value),dU F w.heap ⟨L,γ⟩ args vs→(∀k,F k∨L k→k<w.heap.size)→Calls P f vs.toArray w fun e w'=>∃v,e= .returned v∧ss w.heap.size w' v l∧Below w.heap.size w w'):
  ae P f args [] (Rt (.c (.ls 1 UInt8 bt l)) []):=by
 intro F L γ H vs a i w o;subst o;have g:=h F L γ w vs a (fun k d=>d.elim (i.fb k) (fun d=>(i.bb k d).1));rw[b];refine⟨rfl,g.mono fun e w' ⟨v,m,n,hb⟩=>.inl ⟨v,m,⟨.ret (.c (.ls 1 UInt8 bt l)),[],_,γ,⟨rfl,rfl⟩,rfl,rfl,rfl,?_,i.fresh ⟨hb.size,fun k d _=>hb.block k d⟩⟩,⟨hb.os,hb.tape,hb.output,fun h=>by cases h⟩⟩⟩;exact n.rl hb.size (fun q j g=>.inr ⟨j,g⟩)
theorem w5(w:World)(b:Obj):Below w.heap.size w (w.alloc b):=by
 refine⟨rfl,rfl,rfl,?_,fun k a=>?_⟩
 ·show w.heap.size≤(w.heap.push b).size;rw[Array.size_push];omega
 ·show(w.heap.push b)[k]? =_;rw[Array.getElem?_push_lt a,Array.getElem?_eq_getElem a]
theorem holds_of{F:Nat→Prop}{w:World}{m:Md}{l:List UInt8}{v:Value}(h:RL F w.heap m [.ls 1 UInt8 bt l] [v]):Lib.HoldsBytes w v l:=by
 cases h with
 |bY _=>exact⟨_,_,rfl,fun _=>rfl,fun a _ i x c=>by simp at c⟩
 | @ls _ _ _ _ _ b d cap e _ _ hb k n j o g _=>
  refine⟨_,_,rfl,fun h=>(by cases h),fun a f i x c=>?_⟩;obtain rfl:(⟨b,d,none⟩:Addr)=a:=Option.some.inj f;rw[sK,NB.dA rfl];refine g i _ ?_;rw[s9 _ j,List.getElem?_map,c];rfl
theorem Aq{F:Nat→Prop}{w:World}:∀(ls:List (List UInt8)) {css:List Value},RL F w.heap m0 (ls.flatMap (bf 1 bt)) css→css.length=ls.length∧∀(i:Nat) v l,css[i]? =some v→ls[i]? =some l→Lib.HoldsBytes w v l
 |[],css,h=>by
  cases h;exact⟨rfl,fun i v l h=>by simp at h⟩
 |x::ls,css,h=>by
  rw[List.flatMap_cons]at h;obtain⟨j,k,rfl,c,d⟩:=h.split;obtain⟨v,rfl,f⟩:=(show RL F w.heap m0 [.ls 1 UInt8 bt x] j from c).single;obtain⟨e,g⟩:=Aq ls d;refine⟨by simp[e],fun i u l b a=>?_⟩;cases i with
  |zero=>
   simp at b a;subst b a;exact holds_of f
  |succ i=>
   simp at b a;exact g i u l b a
theorem FE:∀ls:List (List UInt8),Lib.join ls []=ls.flatten
 |[]=>rfl
 |x::r=>by
  rw[Lib.join_cons];unfold Lib.joinTail;simp
theorem xd(ls:List (List UInt8))(hn:ls.length≤100000000)(hlen:ls.flatten.length≤140737488355328):ae Tryz.prog 347 [.c (bS ls),.c .nil] [] (Rt (.c (.ls 1 UInt8 bt ls.flatten)) []):=by
 refine ae.GU Tryz.call347 (fun F L γ w S h O=>?_);match S,h with
 |[W,Y],⟨g,f,_⟩=>
  cases f with
  |nil _=>
   cases g with
   | @bY _ _ _ _ p _ _ _=>
    have:=Any.bytes_Join_none o7 p 0 (.slice none 0 0) w;exact this.mono fun e u ⟨g,f⟩=>⟨_,g,.inl ⟨rfl,_,rfl⟩,by subst f;exact w5 w _⟩
   | @ls _ _ _ _ _ b j cap o _ _ hb H T Q U K _=>
    obtain⟨E,P⟩:=Aq ls Q;have q:Lib.PartsAt w ⟨b,j,none⟩ o ls:=⟨E,fun i v M=>by rw[sK,NB.dA rfl];exact K i v M,P⟩;have I:Lib.HoldsBytes w (.slice none 0 0) []:=⟨none,0,rfl,fun _=>rfl,fun a J=>by cases J⟩;match ls,hn,hlen,q,E with
    |[],_,_,_,_=>
     have:=Any.bytes_Join_none o7 (some ⟨b,j,none⟩) cap (.slice none 0 0) w;exact this.mono fun e u ⟨g,f⟩=>⟨_,g,.inl ⟨rfl,_,rfl⟩,by subst f;exact w5 w _⟩
    |[t],_,hlen,q,_=>
     obtain⟨p,D,l,N,d,s,k⟩:=q.get 0 (by simp);obtain rfl:t=l:=by simpa using N
     rw[sK,Nat.add_zero]at d;by_cases m:t=[]
     ·subst m;have:=Any.bytes_Join_one_empty o7 b j cap p D (.slice none 0 0) w d;exact this.mono fun e u ⟨g,f⟩=>⟨_,g,.inl ⟨rfl,_,rfl⟩,by subst f;exact Below.refl _ _⟩
     ·cases p with
      |none=>exact absurd (s rfl) m
      |some n=>
       have:=Any.bytes_Join_one o7 b j cap n D t (.slice none 0 0) w d (fun i x R=>k n rfl i x R) (by cases t with|nil=>exact absurd rfl m|cons _ _=>simp) (by simpa using hlen);exact this.mono fun e u ⟨v,g,f,z⟩=>⟨v,g,.inr (by simpa using f),z⟩
    |x::y::r,hn,hlen,q,_=>
     have := Any.bytes_Join_many o7 b j (x :: y :: r).length cap o (x :: y :: r) (.slice none 0 0) [] w rfl (by simp) q H I (by omega) (by
      have e:Lib.lens (x::y::r)=(x::y::r).flatten.length:=by unfold Lib.lens;rw[List.length_flatten]
      rw[e];simpa using hlen)
     refine this.mono fun e u ⟨v,g,f,z⟩=>⟨v,g,.inr ?_,z⟩;rw[FE]at f;exact f
end Go.Nest
