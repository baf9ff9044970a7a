/- part -/
import Derived.Test.YtpechfcbnoggfaaGreatDoorAmL
import GoSem.ClaimJoined
set_option linter.unusedVariables false
set_option linter.unusedSimpArgs false
section
namespace Go.AM
open Go Go.NB Go.ChangeShapes Go.WideShapes Go.ChangeAt Go.RowKit
def Lt{a:Type}(P:Program)(t:TypeId)(d:DataW a):Prop:=∀n∈d.weights P t,n≤140737488351232
def sq(l:List UInt8):Prop:=l.length≤140737488351232
def oE{α:Type}(_:α):Prop:=True
def H8{α:Type}(ok:α→Prop)(l:List α):Prop:=∀x∈l,ok x
def cF(P:Program)(t:TypeId)(sz:Nat){α:Type}(enc:α→List C)(ok:α→Prop):Prop:=
 ∀{c:Type} {e:TypeId×Value→c} {W:World} {a:Nat} {held:Bool} {b:Nat} {d:List Value} {x:DataW c×List MemPlace},
  DataW.trod e P W a (fun _=>true) held b t d=some x→Lt P t x.1→∃y:α,RL (jJ W.heap) W.heap m0 (enc y) d∧(enc y).length=sz∧ok y
section
variable {P:Program} {t e:TypeId}
theorem cF.byte(c:P.underlying t=some (.int .u8)):cF P t 1 bD oE:=fun h _=>by
 obtain⟨y,a,b⟩:=nF.byte c h;exact⟨y,a,b,trivial⟩
theorem cF.int(c:P.underlying t=some (.int .i64)):cF P t 1 encI oE:=fun h _=>by
 obtain⟨y,a,b⟩:=nF.int c h;exact⟨y,a,b,trivial⟩
theorem cF.str(b:P.underlying t=some .string):cF P t 1 encS sq:=fun h c=>by
 obtain⟨s,rfl,d,f⟩:=DataW.trod_string b h;subst d;have e:Value.string s=NB.str s.data.toList:=by simp[NB.str]
 have a:=c s.data.toList.length (by simp[DataW.weights]);refine⟨s.data.toList,?_,rfl,a⟩;rw[e];exact .str (by omega) .nl
theorem wW{a:Type}{n:Nat}:∀{l:List (DataW a)} {d:DataW a},d∈l→n∈d.weights P e→n∈DataW.weightsAll P e l
 |[],d,h,_=>by cases h
 |x::l,d,h,b=>by
  unfold DataW.weightsAll;rw[List.mem_append];rcases List.mem_cons.1 h with rfl|h
  ·exact .inl b
  ·exact .inr (wW h b)
theorem wX{e:Type}{n:Nat}:∀{ts:List TypeId} {l:List (DataW e)} {i:Nat} {u:TypeId} {d:DataW e},ts[i]? =some u→l[i]? =some d→n∈d.weights P u→n∈DataW.weightsEach P ts l
 |t::ts,x::l,0,u,d,a,b,c=>by
  simp at a b;subst a b;unfold DataW.weightsEach;exact List.mem_append_left _ c
 |t::ts,x::l,i+1,u,d,a,b,c=>by
  simp at a b;unfold DataW.weightsEach;exact List.mem_append_right _ (wX a b c)
 |[],_,_,_,_,a,_,_=>by simp at a
 |_::_,[],_,_,_,_,b,_=>by simp at b
theorem cF.sl{α:Type}{sz:Nat}{enc:α→List C}{ok:α→Prop}(ht:P.underlying t=some (.slice e))(hc:P.cellsOf e=sz)(hp:0<sz)(he:cF P e sz enc ok):cF P t 1 (bG sz enc) (H8 ok):=by
 intro Hd J W l held ap cs x h hw;rcases DataW.trod_slice ht h with⟨rfl,_⟩|⟨a,len,cap,o,rest,n,_,rfl,I,hb,hl,hm,aL,K,ac,_⟩
 ·exact⟨[],.cG .nl,rfl,fun x I=>by cases I⟩
 ·have ad : ∀ d ∈ o.map (·.1), Lt P e d := fun d S n Z => hw n (by
   rw[I];simp only[DataW.weights,ht];exact List.mem_cons_of_mem _ (List.mem_append_left _ (wW S Z)))
  have al : ∀ d ∈ rest.map (·.1), Lt P e d := fun d S n Z => hw n (by
   rw[I];simp only[DataW.weights,ht];exact List.mem_cons_of_mem _ (List.mem_append_right _ (wW S Z)))
  obtain⟨a0,hr⟩:=ac rfl;rw[hc]at K hr
  have all:∀i,i<cap→∃c y,W.cells? l (a.add (i*sz)) sz=some c∧RL (jJ W.heap) W.heap m0 (enc y) c∧(enc y).length=sz∧ok y:=fun i hi=>by
   have:∃z,(W.cells? l (a.add (i*sz)) sz).bind (DataW.trod J P W l (fun _=>true) held n e)=some z∧Lt P e z.1:=by
    by_cases p:i<len
    ·exact⟨o[i]'(by omega),by rw[K i p,List.getElem?_eq_getElem],ad _ (List.mem_map.2 ⟨_,List.getElem_mem _,rfl⟩)⟩
    ·have k:=hr (i-len) (by omega);rw[show len+(i-len)=i by omega]at k;exact⟨rest[i-len]'(by omega),by rw[k,List.getElem?_eq_getElem],al _ (List.mem_map.2 ⟨_,List.getElem_mem _,rfl⟩)⟩
   obtain⟨z,hz,am⟩:=this;rw[Option.bind_eq_some_iff]at hz;obtain⟨c,w,s⟩:=hz;obtain⟨y,r,D,Q⟩:=he s am;exact⟨c,y,w,r,D,Q⟩
  by_cases h0:cap=0
  ·subst h0;obtain rfl:len=0:=by omega
   exact⟨[],.cG .nl,rfl,fun x I=>by cases I⟩
  ·have v:=all 0 (by omega);obtain⟨b,N,O⟩:=a
   have F:O=none:=by
    obtain⟨c,y,p,k,D,_⟩:=v;obtain⟨_,w,s⟩:=World.cells?_some p;have r:=s 0 hp;obtain⟨u,g⟩:∃u,c[0]? =some u:=⟨c[0]'(by have:=k.length;omega),by rw[List.getElem?_eq_getElem]⟩;rw[g]at r;simpa[Addr.add]using World.cell?_spot r
   subst F
   have q:∀i,i<cap→∃y c,(RL (jJ W.heap) W.heap m0 (enc y) c∧(enc y).length=sz∧ok y)∧∀j u,c[j]? =some u→cell W.heap b (N+i*sz+j)=some u:=fun i hi=>by
    obtain⟨c,y,p,k,D⟩:=all i hi;obtain⟨_,w,s⟩:=World.cells?_some p;refine⟨y,c,⟨k,D⟩,fun j u g=>?_⟩;have T:j<c.length:=(List.getElem?_eq_some_iff.1 g).1;have r:=s j (by omega);rw[Addr.add_lit,Addr.add_lit,g]at r;rw[←r,dY rfl]
   have Y:b<W.heap.size:=by
    obtain⟨y,c,⟨p,D,_⟩,k⟩:=q 0 (by omega);obtain⟨u,g⟩:∃u,c[0]? =some u:=⟨c[0]'(by have:=p.length;omega),by rw[List.getElem?_eq_getElem]⟩;exact qW (k 0 u g)
   have R:∀m,m≤cap→∃(H:List α) (f:List Value),(H.length=m∧f.length=m*sz)∧RL (jJ W.heap) W.heap m0 (H.flatMap enc) f∧(∀y∈H,(enc y).length=sz∧ok y)∧∀j u,f[j]? =some u→cell W.heap b (N+j)=some u:=by
    intro m;induction m with
    |zero=>intro _;exact⟨[],[],⟨rfl,by simp⟩,.nl,(fun y M=>by cases M),fun j u g=>by simp at g⟩
    |succ m ih=>
     intro aV;obtain⟨H,f,⟨p,E⟩,k,w,s⟩:=ih (by omega);obtain⟨y,c,⟨r,D⟩,Q⟩:=q m (by omega);have U:=r.length;refine⟨H++[y],f++c,⟨by simp[p],by rw[List.length_append,E,←U,D.1,Nat.succ_mul]⟩,by rw[List.flatMap_append,List.flatMap_singleton];exact k.append r,fun z hz=>?_,fun j u g=>?_⟩
     ·rcases List.mem_append.1 hz with hz|hz
      ·exact w z hz
      ·rw[List.mem_singleton]at hz;subst hz;exact D
     ·by_cases T:j<f.length
      ·rw[List.getElem?_append_left T]at g;exact s j u g
      ·rw[List.getElem?_append_right (by omega)]at g;have:=Q _ u g;rw[E]at this;rw[E]at T;rw[←this];congr 1
       omega
   obtain⟨H,f,⟨p,_⟩,k,w,s⟩:=R len hl;subst p;exact⟨H,.ls (b:=b) Y hl hm k (fun y M=>(w y M).1) s .nl,rfl,fun y M=>(w y M).2⟩
theorem cF.field{α:Type}{sz off k:Nat}{f:Field}{enc:α→List C}{ok:α→Prop}{a:Type}{e':TypeId×Value→a}{W:World}{base:Nat}{held:Bool}{n:Nat}{cs:List Value}{xs:List (DataW a×List MemPlace)}{i:Nat}{fs:List TypeId}
  (he:cF P f.type sz enc ok)(hi:i<xs.length)(b:fs[i]? =some f.type)(c:∀n∈DataW.weightsEach P fs (xs.map (·.1)),n≤140737488351232)
  (h:DataW.trod e' P W base (fun _=>true) held n f.type ((cs.drop f.offset).take (P.cellsOf f.type))=xs[i]?)(ho:f.offset=off)(hn:P.cellsOf f.type=k):∃y:α,RL (jJ W.heap) W.heap m0 (enc y) ((cs.drop off).take k)∧(enc y).length=sz∧ok y:=by
 subst ho hn;rw[List.getElem?_eq_getElem hi]at h;exact he h (fun n hn=>c n (wX b (by rw[List.getElem?_map,List.getElem?_eq_getElem hi];rfl) hn))
theorem cF.arg{α:Type}{enc:α→List C}{ok:α→Prop}{a:Type}{e':TypeId×Value→a}{W:World}{v:Value}{d:DataW a}{ps:List MemPlace}(ho:cF P t 1 enc ok)(h1:v.cells= #[v])(h:DataW.Trod e' P W 0 (fun _=>true) true t v d ps)(c:Lt P t d):
  ∃y:α,RL (jJ W.heap) W.heap m0 (enc y) [v]∧ok y:=by
 obtain⟨fuel,b⟩:=h;obtain⟨y,u,_,hk⟩:=ho b c;rw[h1]at u;exact⟨y,u,hk⟩
theorem Lt.of{a:Type}{ts:List TypeId}{ds:List (DataW a)}{i:Nat}{u:TypeId}{d:DataW a}(h:(DataW.weightsEach P ts ds).all (· ≤reachBytes)=true)(h1:ts[i]? =some u)(h2:ds[i]? =some d):Lt P u d:=fun n b=>
 of_decide_eq_true (List.all_eq_true.1 h n (wX h1 h2 b))
end
end Go.AM
end
section
namespace Go.AM
open Go Go.NB Go.ChangeShapes Go.WideShapes Go.ChangeAt Go.RowKit
def vP{α:Type}(ok:α→Prop)(l:List α):Prop:=l.length≤140737488351232∧∀x∈l,ok x
theorem cF.BZ{P:Program}{t e:TypeId}{α:Type}{sz:Nat}{enc:α→List C}{ok:α→Prop}(d:P.underlying t=some (.slice e))(hc:P.cellsOf e=sz)(p:0<sz)(hy:0<P.bytesOf e)(he:cF P e sz enc ok):cF P t 1 (bG sz enc) (vP ok):=by
 intro s g W f held i u x h k;obtain⟨y,c,l,m⟩:=cF.sl d hc p he h k;refine⟨y,c,l,?_,m⟩;rcases DataW.trod_slice d h with⟨rfl,_⟩|⟨a,len,cap,b,rest,n,_,rfl,r,hb,z,D,j,o,q,_⟩
 ·unfold bG at c;cases c with
  |cG _=>exact Nat.zero_le _
 ·have w:=k ((b.length+rest.length)*P.bytesOf e) (by rw[r];simp only[DataW.weights,d,List.length_map];exact List.mem_cons_self ..);have v:b.length≤(b.length+rest.length)*P.bytesOf e:=Nat.le_trans (Nat.le_add_right _ _) (Nat.le_mul_of_pos_right _ hy);unfold bG at c;cases c with
  |cG _=>exact Nat.zero_le _
  |ls _ _ _ _ _ _ _=>omega
end Go.AM
end
