import Derived.Test.YtpechfcbnoggfaaGreatDoorAmL
import GoSem.ClaimJoined
set_option linter.unusedVariables false
set_option linter.unusedSimpArgs false
open List renaming getElem?_eq_getElem->ah,mem_append_right->a1,mem_append_left->a2,mem_cons_of_mem->a3,getElem_mem->a4,mem_append->a5,mem_map->a6
open Nat renaming zero_le->a9
section
namespace Go.AM
open Go Go.NB Go.ChangeShapes Go.WideShapes Go.ChangeAt Go.RowKit
def Lt{Hd:Type}(P:Program)(t:TypeId)(d:DataW Hd):Prop:=∀n∈d.weights P t,n<=140737488351232
def Du(l:List UInt8):Prop:=l.length<=140737488351232
def Mm{α:Type}(_:α):Prop:=True
def Ml{α:Type}(ok:α->Prop)(l:List α):Prop:=∀x∈l,ok x
def fL(P:Program)(t:TypeId)(sz:Nat){α:Type}(enc:α->List C)(ok:α->Prop):Prop:=
 ∀{Hd:Type} {e:TypeId×Value->Hd} {W:World} {a:Nat} {held:Bool} {b:Nat} {c:List Value} {x:DataW Hd×List MemPlace},
  DataW.trod e P W a (λ_=>true) held b t c=some x->Lt P t x.1->∃y:α,RL (kY W.heap) W.heap m0 (enc y) c/\(enc y).length=sz/\ok y
section
variable {P:Program} {t e:TypeId}
theorem fL.int(c:P.underlying t=some (.int .i64)):fL P t 1 encI Mm:=λh _=>by
 obtain⟨y,a,b⟩:=uS.int c h;exact⟨y,a,b,trivial⟩
theorem fL.str(b:P.underlying t=some .string):fL P t 1 encS Du:=λh c=>by
 obtain⟨s,rfl,d,f⟩:=DataW.trod_string b h;subst d;have e:Value.string s=NB.str s.data.toList:=by simp[NB.str]
 have a:=c s.data.toList.length (by simp[DataW.weights]);refine⟨s.data.toList,?_,rfl,a⟩;rw[e];exact .str (by omega) .nl
theorem yG{Hd:Type}{n:Nat}:∀{l:List (DataW Hd)} {d:DataW Hd},d∈l->n∈d.weights P e->n∈DataW.weightsAll P e l
 |[],d,h,_=>by cases h
 |x::l,d,h,a=>by
  unfold DataW.weightsAll;rw[a5];rcases List.mem_cons.1 h with rfl|h
  ·exact .inl a
  ·exact .inr (yG h a)
theorem Ff{Hd:Type}{n:Nat}:∀{ts:List TypeId} {l:List (DataW Hd)} {i:Nat} {u:TypeId} {d:DataW Hd},ts[i]? =some u->l[i]? =some d->n∈d.weights P u->n∈DataW.weightsEach P ts l
 |t::ts,x::l,0,u,d,a,b,c=>by
  simp at a b;subst a b;unfold DataW.weightsEach;exact a2 _ c
 |t::ts,x::l,i+1,u,d,a,b,c=>by
  simp at a b;unfold DataW.weightsEach;exact a1 _ (Ff a b c)
 |[],_,_,_,_,a,_,_=>by simp at a
 |_::_,[],_,_,_,_,b,_=>by simp at b
theorem fL.sl{α:Type}{sz:Nat}{enc:α->List C}{ok:α->Prop}(ht:P.underlying t=some (.slice e))(hc:P.cellsOf e=sz)(hp:0<sz)(he:fL P e sz enc ok):fL P t 1 (bM sz enc) (Ml ok):=by
 intro Hd J W l held ao cs x h hw;rcases DataW.trod_slice ht h with⟨rfl,_⟩|⟨a,len,cap,o,rest,n,_,rfl,I,hb,hl,hm,ap,K,ac,_⟩
 ·exact⟨[],.ct .nl,rfl,λx I=>by cases I⟩
 ·have ad : ∀ d ∈ o.map (·.1), Lt P e d := λd S n Z => hw n (by
   rw[I];simp only[DataW.weights,ht];exact a3 _ (a2 _ (yG S Z)))
  have al : ∀ d ∈ rest.map (·.1), Lt P e d := λd S n Z => hw n (by
   rw[I];simp only[DataW.weights,ht];exact a3 _ (a1 _ (yG S Z)))
  obtain⟨a0,hr⟩:=ac rfl;rw[hc]at K hr
  have all:∀i,i<cap->∃c y,W.cells? l (a.add (i*sz)) sz=some c/\RL (kY W.heap) W.heap m0 (enc y) c/\(enc y).length=sz/\ok y:=λi hi=>by
   have:∃z,(W.cells? l (a.add (i*sz)) sz).bind (DataW.trod J P W l (λ_=>true) held n e)=some z/\Lt P e z.1:=by
    by_cases p:i<len
    ·exact⟨o[i]'(by omega),by rw[K i p,ah],ad _ (a6.2 ⟨_,a4 _,rfl⟩)⟩
    ·have k:=hr (i-len) (by omega);rw[show len+(i-len)=i by omega]at k;exact⟨rest[i-len]'(by omega),by rw[k,ah],al _ (a6.2 ⟨_,a4 _,rfl⟩)⟩
   obtain⟨z,hz,am⟩:=this;rw[Option.bind_eq_some_iff]at hz;obtain⟨c,w,s⟩:=hz;obtain⟨y,r,D,Q⟩:=he s am;exact⟨c,y,w,r,D,Q⟩
  by_cases h0:cap=0
  ·subst h0;obtain rfl:len=0:=by omega
   exact⟨[],.ct .nl,rfl,λx I=>by cases I⟩
  ·have v:=all 0 (by omega);obtain⟨b,N,O⟩:=a
   have F:O=none:=by
    obtain⟨c,y,p,k,D,_⟩:=v;obtain⟨_,w,s⟩:=World.cells?_some p;have r:=s 0 hp;obtain⟨u,g⟩:∃u,c[0]? =some u:=⟨c[0]'(by have:=k.length;omega),by rw[ah]⟩;rw[g]at r;simpa[Addr.add]using World.cell?_spot r
   subst F
   have q:∀i,i<cap->∃y c,(RL (kY W.heap) W.heap m0 (enc y) c/\(enc y).length=sz/\ok y)/\∀j u,c[j]? =some u->cell W.heap b (N+i*sz+j)=some u:=λi hi=>by
    obtain⟨c,y,p,k,D⟩:=all i hi;obtain⟨_,w,s⟩:=World.cells?_some p;refine⟨y,c,⟨k,D⟩,λj u g=>?_⟩;have T:j<c.length:=(List.getElem?_eq_some_iff.1 g).1;have r:=s j (by omega);rw[Addr.add_lit,Addr.add_lit,g]at r;rw[<-r,dG rfl]
   have Y:b<W.heap.size:=by
    obtain⟨y,c,⟨p,D,_⟩,k⟩:=q 0 (by omega);obtain⟨u,g⟩:∃u,c[0]? =some u:=⟨c[0]'(by have:=p.length;omega),by rw[ah]⟩;exact sE (k 0 u g)
   have R:∀m,m<=cap->∃(H:List α) (f:List Value),(H.length=m/\f.length=m*sz)/\RL (kY W.heap) W.heap m0 (H.flatMap enc) f/\(∀y∈H,(enc y).length=sz/\ok y)/\∀j u,f[j]? =some u->cell W.heap b (N+j)=some u:=by
    intro m;induction m with
    |zero=>intro _;exact⟨[],[],⟨rfl,by simp⟩,.nl,(λy M=>by cases M),λj u g=>by simp at g⟩
    |succ m ih=>
     intro ar;obtain⟨H,f,⟨p,E⟩,k,w,s⟩:=ih (by omega);obtain⟨y,c,⟨r,D⟩,Q⟩:=q m (by omega);have U:=r.length;refine⟨H++[y],f++c,⟨by simp[p],by rw[List.length_append,E,<-U,D.1,Nat.succ_mul]⟩,by rw[List.flatMap_append,List.flatMap_singleton];exact k.append r,λz hz=>?_,λj u g=>?_⟩
     ·rcases a5.1 hz with hz|hz
      ·exact w z hz
      ·rw[List.mem_singleton]at hz;subst hz;exact D
     ·by_cases T:j<f.length
      ·rw[List.getElem?_append_left T]at g;exact s j u g
      ·rw[List.getElem?_append_right (by omega)]at g;have:=Q _ u g;rw[E]at this;rw[E]at T;rw[<-this];congr 1
       omega
   obtain⟨H,f,⟨p,_⟩,k,w,s⟩:=R len hl;subst p;exact⟨H,.ls (b:=b) Y hl hm k (λy M=>(w y M).1) s .nl,rfl,λy M=>(w y M).2⟩
theorem fL.arg{α:Type}{enc:α->List C}{ok:α->Prop}{Hd:Type}{e':TypeId×Value->Hd}{W:World}{v:Value}{d:DataW Hd}{c:List MemPlace}(ho:fL P t 1 enc ok)(h1:v.cells= #[v])(h:DataW.Trod e' P W 0 (λ_=>true) true t v d c)(b:Lt P t d):
  ∃y:α,RL (kY W.heap) W.heap m0 (enc y) [v]/\ok y:=by
 obtain⟨fuel,a⟩:=h;obtain⟨y,u,_,hk⟩:=ho a b;rw[h1]at u;exact⟨y,u,hk⟩
theorem Lt.of{Hd:Type}{ts:List TypeId}{ds:List (DataW Hd)}{i:Nat}{u:TypeId}{d:DataW Hd}(h:(DataW.weightsEach P ts ds).all (· <=reachBytes)=true)(h1:ts[i]? =some u)(h2:ds[i]? =some d):Lt P u d:=λn a=>
 of_decide_eq_true (List.all_eq_true.1 h n (Ff h1 h2 a))
end
def Ds{α:Type}(ok:α->Prop)(l:List α):Prop:=l.length<=140737488351232/\∀x∈l,ok x
theorem fL.Od{P:Program}{t e:TypeId}{α:Type}{sz:Nat}{enc:α->List C}{ok:α->Prop}(d:P.underlying t=some (.slice e))(hc:P.cellsOf e=sz)(p:0<sz)(hy:0<P.bytesOf e)(he:fL P e sz enc ok):fL P t 1 (bM sz enc) (Ds ok):=by
 intro Hd g W f held i s x h k;obtain⟨y,c,l,m⟩:=fL.sl d hc p he h k;refine⟨y,c,l,?_,m⟩;rcases DataW.trod_slice d h with⟨rfl,_⟩|⟨a,len,cap,b,rest,n,_,rfl,r,hb,w,z,j,o,q,_⟩
 ·unfold bM at c;cases c with
  |ct _=>exact a9 _
 ·have v:=k ((b.length+rest.length)*P.bytesOf e) (by rw[r];simp only[DataW.weights,d,List.length_map];exact List.mem_cons_self ..);have u:b.length<=(b.length+rest.length)*P.bytesOf e:=Nat.le_trans (Nat.le_add_right _ _) (Nat.le_mul_of_pos_right _ hy);unfold bM at c;cases c with
  |ct _=>exact a9 _
  |ls _ _ _ _ _ _ _=>omega
end Go.AM
end
