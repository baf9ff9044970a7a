/- part -/
import Derived.Test.YtpechfcbnoggfaaGreatDoorZ1
import Derived.Test.YtpechfcbnoggfaaGreatDoorJ4
import Derived.Test.YtpechfcbnoggfaaGreatDoorG9
set_option linter.unusedVariables false
set_option linter.unusedSimpArgs false
namespace Go.Nest
open Go Go.AM Go.NB Go.Proofs Go.RowKit
open Go.Proofs.YtpechfcbnoggfaaGreatDoor (tab tabOk)
set_option maxRecDepth 4000
theorem rz(b o i:Nat):(⟨b,o,none⟩:Addr).add i=⟨b,o+i,none⟩:=by unfold Addr.add;split<;>simp_all
def rb(B:Nat)(w':World)(v:Value)(l:List UInt8):Prop:=(l=[]∧∃p,v= .slice p 0 0)∨Lib.FreshBytes B w' v l
theorem rb.rl{B:Nat}{w':World}{v:Value}{l:List UInt8}(h:rb B w' v l)(hs:B≤w'.heap.size){F:Nat→Prop}(hF:∀q,B≤q→q<w'.heap.size→F q){m:Md}:RL F w'.heap m [.ls 1 UInt8 bA l] [v]:=by
 rcases h with⟨rfl,p,rfl⟩|⟨g,cap,zs,rfl,h1,h2,h3,h4,h5,h6,h7,-⟩
 ·exact .ls0 .nl
 ·have hc:∀j u,(l.map bv)[j]? =some u→cell w'.heap g (0+j)=some u:=fun j u hj=>by
   rw[List.getElem?_map]at hj;obtain⟨x,hx,rfl⟩:=Option.map_eq_some_iff.1 hj;have hjl:j<l.length:=(List.getElem?_eq_some_iff.1 hx).1;have e:=h7 j (by omega);rw[NB.dg rfl]at e;rw[Nat.zero_add,e];have hz:j<zs.length:=by omega
   have hr:=h5 zs[j] (List.getElem_mem hz);have hx2:(Lib.bytesOf (zs.take l.length))[j]? =some x:=by rw[h6];exact hx
   unfold Lib.bytesOf at hx2;rw[List.getElem?_map,List.getElem?_take_of_lt hjl,List.getElem?_eq_getElem hz]at hx2;simp at hx2;subst hx2;simp[bv,List.getD,hz];omega
  by_cases hl:l=[]
  ·subst hl;cases cap with
   |zero=>exact .ls0 .nl
   |succ c=>
    have e:=h7 0 (by omega);rw[NB.dg rfl]at e;exact .ls (hF g h1 (NB.nB e)) h2 h3 (nN []) (fun _ _=>rfl) hc .nl
  ·have hl0:0<l.length:=by cases l with|nil=>exact absurd rfl hl|cons _ _=>simp
   have e:=h7 0 (by omega);rw[NB.dg rfl]at e;exact .ls (hF g h1 (NB.nB e)) h2 h3 (nN l) (fun _ _=>rfl) hc .nl
theorem ae.EW{P:Program}{f:FuncId}{args:List A}{l:List UInt8}(hcall:∀args w,(callFunc f args).run P w= .ok (.enter f args) w)
  (h:∀(F L:Nat→Prop) (γ:List Value) (w:World) (vs:List Value),dJ F w.heap ⟨L,γ⟩ args vs→(∀k,F k∨L k→k<w.heap.size)→Calls P f vs.toArray w fun e w'=>∃v,e= .returned v∧rb w.heap.size w' v l∧Below w.heap.size w w'):
  ae P f args [] (Rt (.c (.ls 1 UInt8 bA l)) []):=by
 intro F L γ H vs hargs hW w hw;subst hw;have h2:=h F L γ w vs hargs (fun k hk=>hk.elim (hW.fb k) (fun hk=>(hW.bb k hk).1));rw[hcall];refine⟨rfl,h2.mono fun e w' ⟨v,he,hv,hb⟩=>.inl ⟨v,he,⟨.ret (.c (.ls 1 UInt8 bA l)),[],_,γ,⟨rfl,rfl⟩,rfl,rfl,rfl,?_,hW.fresh ⟨hb.size,fun k hk _=>hb.block k hk⟩⟩,⟨hb.os,hb.tape,hb.output,fun h=>by cases h⟩⟩⟩;exact hv.rl hb.size (fun q h1 h2=>.inr ⟨h1,h2⟩)
theorem vC(w:World)(b:Obj):Below w.heap.size w (w.alloc b):=by
 refine⟨rfl,rfl,rfl,?_,fun k hk=>?_⟩
 ·show w.heap.size≤(w.heap.push b).size;rw[Array.size_push];omega
 ·show(w.heap.push b)[k]? =_;rw[Array.getElem?_push_lt hk,Array.getElem?_eq_getElem hk]
theorem holds_of{F:Nat→Prop}{w:World}{m:Md}{l:List UInt8}{v:Value}(h:RL F w.heap m [.ls 1 UInt8 bA l] [v]):Lib.HoldsBytes w v l:=by
 cases h with
 |ls0 _=>exact⟨_,_,rfl,fun _=>rfl,fun a _ i x hx=>by simp at hx⟩
 | @ls _ _ _ _ _ b off cap css _ _ hb h1 h2 hr hz hc _=>
  refine⟨_,_,rfl,fun h=>(by cases h),fun a ha i x hx=>?_⟩;obtain rfl:(⟨b,off,none⟩:Addr)=a:=Option.some.inj ha;rw[rz,NB.dg rfl];refine hc i _ ?_;rw[rT _ hr,List.getElem?_map,hx];rfl
theorem yN{F:Nat→Prop}{w:World}:∀(ls:List (List UInt8)) {css:List Value},RL F w.heap m0 (ls.flatMap (bq 1 bA)) css→css.length=ls.length∧∀(i:Nat) v l,css[i]? =some v→ls[i]? =some l→Lib.HoldsBytes w v l
 |[],css,h=>by
  cases h;exact⟨rfl,fun i v l h=>by simp at h⟩
 |x::ls,css,h=>by
  rw[List.flatMap_cons]at h;obtain⟨us,ws,rfl,h1,h2⟩:=h.split;obtain⟨v,rfl,h3⟩:=(show RL F w.heap m0 [.ls 1 UInt8 bA x] us from h1).single;obtain⟨e,h4⟩:=yN ls h2;refine⟨by simp[e],fun i u l hu hl=>?_⟩;cases i with
  |zero=>
   simp at hu hl;subst hu hl;exact holds_of h3
  |succ i=>
   simp at hu hl;exact h4 i u l hu hl
theorem DL:∀ls:List (List UInt8),Lib.join ls []=ls.flatten
 |[]=>rfl
 |x::r=>by
  rw[Lib.join_cons];unfold Lib.joinTail;simp
theorem vK(ls:List (List UInt8))(hn:ls.length≤100000000)(hlen:ls.flatten.length≤140737488355328):ae Tryz.prog 347 [.c (dq ls),.c .nil] [] (Rt (.c (.ls 1 UInt8 bA ls.flatten)) []):=by
 refine ae.EW Tryz.call347 (fun F L γ w vs h hlt=>?_);match vs,h with
 |[v1,v2],⟨h1,h2,_⟩=>
  cases h2 with
  |nil _=>
   cases h1 with
   | @ls0 _ _ _ _ p _ _ _=>
    have:=Any.bytes_Join_none nX p 0 (.slice none 0 0) w;exact this.mono fun e w' ⟨h1,h2⟩=>⟨_,h1,.inl ⟨rfl,_,rfl⟩,by subst h2;exact vC w _⟩
   | @ls _ _ _ _ _ b off cap css _ _ hb g1 g2 hr hz hc _=>
    obtain⟨e1,hp⟩:=yN ls hr;have hP:Lib.PartsAt w ⟨b,off,none⟩ css ls:=⟨e1,fun i v hi=>by rw[rz,NB.dg rfl];exact hc i v hi,hp⟩;have hS:Lib.HoldsBytes w (.slice none 0 0) []:=⟨none,0,rfl,fun _=>rfl,fun a ha=>by cases ha⟩;match ls,hn,hlen,hP,e1 with
    |[],_,_,_,_=>
     have:=Any.bytes_Join_none nX (some ⟨b,off,none⟩) cap (.slice none 0 0) w;exact this.mono fun e w' ⟨h1,h2⟩=>⟨_,h1,.inl ⟨rfl,_,rfl⟩,by subst h2;exact vC w _⟩
    |[l0],_,hlen,hP,_=>
     obtain⟨p,c0,l,hl,hcell,hnil,hcells⟩:=hP.get 0 (by simp);obtain rfl:l0=l:=by simpa using hl
     rw[rz,Nat.add_zero]at hcell;by_cases hl0:l0=[]
     ·subst hl0;have:=Any.bytes_Join_one_empty nX b off cap p c0 (.slice none 0 0) w hcell;exact this.mono fun e w' ⟨h1,h2⟩=>⟨_,h1,.inl ⟨rfl,_,rfl⟩,by subst h2;exact Below.refl _ _⟩
     ·cases p with
      |none=>exact absurd (hnil rfl) hl0
      |some ad0=>
       have:=Any.bytes_Join_one nX b off cap ad0 c0 l0 (.slice none 0 0) w hcell (fun i x hx=>hcells ad0 rfl i x hx) (by cases l0 with|nil=>exact absurd rfl hl0|cons _ _=>simp) (by simpa using hlen);exact this.mono fun e w' ⟨v,h1,h2,h3⟩=>⟨v,h1,.inr (by simpa using h2),h3⟩
    |x::y::r,hn,hlen,hP,_=>
     have := Any.bytes_Join_many nX b off (x :: y :: r).length cap css (x :: y :: r) (.slice none 0 0) [] w rfl (by simp) hP g1 hS (by omega) (by
      have e:Lib.lens (x::y::r)=(x::y::r).flatten.length:=by unfold Lib.lens;rw[List.length_flatten]
      rw[e];simpa using hlen)
     refine this.mono fun e w' ⟨v,h1,h2,h3⟩=>⟨v,h1,.inr ?_,h3⟩;rw[DL]at h2;exact h2
end Go.Nest
