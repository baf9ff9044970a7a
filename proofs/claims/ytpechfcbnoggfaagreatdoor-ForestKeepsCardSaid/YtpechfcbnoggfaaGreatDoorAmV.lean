/- part -/
import Derived.Test.YtpechfcbnoggfaaGreatDoorAmL
import GoSem.ClaimJoined
set_option linter.unusedVariables false
set_option linter.unusedSimpArgs false
section
namespace Go.AM
open Go Go.NB Go.ChangeShapes Go.WideShapes Go.ChangeAt Go.RowKit
def Lt{a:Type}(P:Program)(t:TypeId)(d:DataW a):Prop:=∀n∈d.weights P t,n≤140737488351232
def rE(l:List UInt8):Prop:=l.length≤140737488351232
def nU{α:Type}(_:α):Prop:=True
def GX{α:Type}(ok:α→Prop)(l:List α):Prop:=∀x∈l,ok x
def b7(P:Program)(t:TypeId)(sz:Nat){α:Type}(enc:α→List C)(ok:α→Prop):Prop:=
 ∀{b:Type} {e:TypeId×Value→b} {W:World} {base:Nat} {held:Bool} {a:Nat} {c:List Value} {x:DataW b×List MemPlace},
  DataW.trod e P W base (fun _=>true) held a t c=some x→Lt P t x.1→∃y:α,RL (jj W.heap) W.heap m0 (enc y) c∧(enc y).length=sz∧ok y
section
variable {P:Program} {t e:TypeId}
theorem b7.byte(c:P.underlying t=some (.int .u8)):b7 P t 1 bt nU:=fun h _=>by
 obtain⟨y,a,b⟩:=mY.byte c h;exact⟨y,a,b,trivial⟩
theorem b7.int(c:P.underlying t=some (.int .i64)):b7 P t 1 encI nU:=fun h _=>by
 obtain⟨y,a,b⟩:=mY.int c h;exact⟨y,a,b,trivial⟩
theorem b7.str(b:P.underlying t=some .string):b7 P t 1 encS rE:=fun h c=>by
 obtain⟨s,rfl,d,f⟩:=DataW.trod_string b h;subst d;have e:Value.string s=NB.str s.data.toList:=by simp[NB.str]
 have a:=c s.data.toList.length (by simp[DataW.weights]);refine⟨s.data.toList,?_,rfl,a⟩;rw[e];exact .str (by omega) .nl
theorem vZ{a:Type}{n:Nat}:∀{l:List (DataW a)} {d:DataW a},d∈l→n∈d.weights P e→n∈DataW.weightsAll P e l
 |[],d,h,_=>by cases h
 |x::l,d,h,b=>by
  unfold DataW.weightsAll;rw[List.mem_append];rcases List.mem_cons.1 h with rfl|h
  ·exact .inl b
  ·exact .inr (vZ h b)
theorem v8{e:Type}{n:Nat}:∀{ts:List TypeId} {l:List (DataW e)} {i:Nat} {u:TypeId} {d:DataW e},ts[i]? =some u→l[i]? =some d→n∈d.weights P u→n∈DataW.weightsEach P ts l
 |t::ts,x::l,0,u,d,a,b,c=>by
  simp at a b;subst a b;unfold DataW.weightsEach;exact List.mem_append_left _ c
 |t::ts,x::l,i+1,u,d,a,b,c=>by
  simp at a b;unfold DataW.weightsEach;exact List.mem_append_right _ (v8 a b c)
 |[],_,_,_,_,a,_,_=>by simp at a
 |_::_,[],_,_,_,_,b,_=>by simp at b
theorem b7.sl{α:Type}{sz:Nat}{enc:α→List C}{ok:α→Prop}(ht:P.underlying t=some (.slice e))(hc:P.cellsOf e=sz)(hp:0<sz)(he:b7 P e sz enc ok):b7 P t 1 (bf sz enc) (GX ok):=by
 intro Hd J W base held ap cs x h hw;rcases DataW.trod_slice ht h with⟨rfl,_⟩|⟨a,len,cap,l,rest,n,_,rfl,H,hb,hl,hm,ar,K,ac,_⟩
 ·exact⟨[],.bY .nl,rfl,fun x H=>by cases H⟩
 ·have ad : ∀ d ∈ l.map (·.1), Lt P e d := fun d S n Z => hw n (by
   rw[H];simp only[DataW.weights,ht];exact List.mem_cons_of_mem _ (List.mem_append_left _ (vZ S Z)))
  have al : ∀ d ∈ rest.map (·.1), Lt P e d := fun d S n Z => hw n (by
   rw[H];simp only[DataW.weights,ht];exact List.mem_cons_of_mem _ (List.mem_append_right _ (vZ S Z)))
  obtain⟨aT,hr⟩:=ac rfl;rw[hc]at K hr
  have I:∀i,i<cap→∃c y,W.cells? base (a.add (i*sz)) sz=some c∧RL (jj W.heap) W.heap m0 (enc y) c∧(enc y).length=sz∧ok y:=fun i hi=>by
   have:∃z,(W.cells? base (a.add (i*sz)) sz).bind (DataW.trod J P W base (fun _=>true) held n e)=some z∧Lt P e z.1:=by
    by_cases o:i<len
    ·exact⟨l[i]'(by omega),by rw[K i o,List.getElem?_eq_getElem],ad _ (List.mem_map.2 ⟨_,List.getElem_mem _,rfl⟩)⟩
    ·have k:=hr (i-len) (by omega);rw[show len+(i-len)=i by omega]at k;exact⟨rest[i-len]'(by omega),by rw[k,List.getElem?_eq_getElem],al _ (List.mem_map.2 ⟨_,List.getElem_mem _,rfl⟩)⟩
   obtain⟨z,hz,am⟩:=this;rw[Option.bind_eq_some_iff]at hz;obtain⟨c,v,r⟩:=hz;obtain⟨y,q,w,Q⟩:=he r am;exact⟨c,y,v,q,w,Q⟩
  by_cases h0:cap=0
  ·subst h0;obtain rfl:len=0:=by omega
   exact⟨[],.bY .nl,rfl,fun x H=>by cases H⟩
  ·have s:=I 0 (by omega);obtain⟨b,N,O⟩:=a
   have E:O=none:=by
    obtain⟨c,y,o,k,w,_⟩:=s;obtain⟨_,v,r⟩:=World.cells?_some o;have q:=r 0 hp;obtain⟨u,g⟩:∃u,c[0]? =some u:=⟨c[0]'(by have:=k.length;omega),by rw[List.getElem?_eq_getElem]⟩;rw[g]at q;simpa[Addr.add]using World.cell?_spot q
   subst E
   have p:∀i,i<cap→∃y c,(RL (jj W.heap) W.heap m0 (enc y) c∧(enc y).length=sz∧ok y)∧∀j u,c[j]? =some u→cell W.heap b (N+i*sz+j)=some u:=fun i hi=>by
    obtain⟨c,y,o,k,w⟩:=I i hi;obtain⟨_,v,r⟩:=World.cells?_some o;refine⟨y,c,⟨k,w⟩,fun j u g=>?_⟩;have T:j<c.length:=(List.getElem?_eq_some_iff.1 g).1;have q:=r j (by omega);rw[Addr.add_lit,Addr.add_lit,g]at q;rw[←q,dA rfl]
   have Y:b<W.heap.size:=by
    obtain⟨y,c,⟨o,w,_⟩,k⟩:=p 0 (by omega);obtain⟨u,g⟩:∃u,c[0]? =some u:=⟨c[0]'(by have:=o.length;omega),by rw[List.getElem?_eq_getElem]⟩;exact qq (k 0 u g)
   have R:∀m,m≤cap→∃(F:List α) (f:List Value),(F.length=m∧f.length=m*sz)∧RL (jj W.heap) W.heap m0 (F.flatMap enc) f∧(∀y∈F,(enc y).length=sz∧ok y)∧∀j u,f[j]? =some u→cell W.heap b (N+j)=some u:=by
    intro m;induction m with
    |zero=>intro _;exact⟨[],[],⟨rfl,by simp⟩,.nl,(fun y M=>by cases M),fun j u g=>by simp at g⟩
    |succ m ih=>
     intro aC;obtain⟨F,f,⟨o,D⟩,k,v,r⟩:=ih (by omega);obtain⟨y,c,⟨q,w⟩,Q⟩:=p m (by omega);have U:=q.length;refine⟨F++[y],f++c,⟨by simp[o],by rw[List.length_append,D,←U,w.1,Nat.succ_mul]⟩,by rw[List.flatMap_append,List.flatMap_singleton];exact k.append q,fun z hz=>?_,fun j u g=>?_⟩
     ·rcases List.mem_append.1 hz with hz|hz
      ·exact v z hz
      ·rw[List.mem_singleton]at hz;subst hz;exact w
     ·by_cases T:j<f.length
      ·rw[List.getElem?_append_left T]at g;exact r j u g
      ·rw[List.getElem?_append_right (by omega)]at g;have:=Q _ u g;rw[D]at this;rw[D]at T;rw[←this];congr 1
       omega
   obtain⟨F,f,⟨o,_⟩,k,v,r⟩:=R len hl;subst o;exact⟨F,.ls (b:=b) Y hl hm k (fun y M=>(v y M).1) r .nl,rfl,fun y M=>(v y M).2⟩
theorem b7.field{α:Type}{sz off k:Nat}{f:Field}{enc:α→List C}{ok:α→Prop}{a:Type}{e':TypeId×Value→a}{W:World}{base:Nat}{held:Bool}{n:Nat}{cs:List Value}{xs:List (DataW a×List MemPlace)}{i:Nat}{fs:List TypeId}
  (he:b7 P f.type sz enc ok)(hi:i<xs.length)(b:fs[i]? =some f.type)(c:∀n∈DataW.weightsEach P fs (xs.map (·.1)),n≤140737488351232)
  (h:DataW.trod e' P W base (fun _=>true) held n f.type ((cs.drop f.offset).take (P.cellsOf f.type))=xs[i]?)(ho:f.offset=off)(hn:P.cellsOf f.type=k):∃y:α,RL (jj W.heap) W.heap m0 (enc y) ((cs.drop off).take k)∧(enc y).length=sz∧ok y:=by
 subst ho hn;rw[List.getElem?_eq_getElem hi]at h;exact he h (fun n hn=>c n (v8 b (by rw[List.getElem?_map,List.getElem?_eq_getElem hi];rfl) hn))
theorem b7.arg{α:Type}{enc:α→List C}{ok:α→Prop}{a:Type}{e':TypeId×Value→a}{W:World}{v:Value}{d:DataW a}{e:List MemPlace}(ho:b7 P t 1 enc ok)(h1:v.cells= #[v])(h:DataW.Trod e' P W 0 (fun _=>true) true t v d e)(c:Lt P t d):
  ∃y:α,RL (jj W.heap) W.heap m0 (enc y) [v]∧ok y:=by
 obtain⟨fuel,b⟩:=h;obtain⟨y,u,_,hk⟩:=ho b c;rw[h1]at u;exact⟨y,u,hk⟩
theorem Lt.of{a:Type}{ts:List TypeId}{ds:List (DataW a)}{i:Nat}{u:TypeId}{d:DataW a}(h:(DataW.weightsEach P ts ds).all (· ≤reachBytes)=true)(h1:ts[i]? =some u)(h2:ds[i]? =some d):Lt P u d:=fun n b=>
 of_decide_eq_true (List.all_eq_true.1 h n (v8 h1 h2 b))
end
end Go.AM
end
section
namespace Go.AM
open Go Go.NB Go.ChangeShapes Go.WideShapes Go.ChangeAt Go.RowKit
def uZ{α:Type}(ok:α→Prop)(l:List α):Prop:=l.length≤140737488351232∧∀x∈l,ok x
theorem b7.Bf{P:Program}{t e:TypeId}{α:Type}{sz:Nat}{enc:α→List C}{ok:α→Prop}(d:P.underlying t=some (.slice e))(hc:P.cellsOf e=sz)(o:0<sz)(hy:0<P.bytesOf e)(he:b7 P e sz enc ok):b7 P t 1 (bf sz enc) (uZ ok):=by
 intro r f W base held g s x h j;obtain⟨y,c,k,l⟩:=b7.sl d hc o he h j;refine⟨y,c,k,?_,l⟩;rcases DataW.trod_slice d h with⟨rfl,_⟩|⟨a,len,cap,b,rest,n,_,rfl,q,hb,w,z,i,m,p,_⟩
 ·unfold bf at c;cases c with
  |bY _=>exact Nat.zero_le _
 ·have v:=j ((b.length+rest.length)*P.bytesOf e) (by rw[q];simp only[DataW.weights,d,List.length_map];exact List.mem_cons_self ..);have u:b.length≤(b.length+rest.length)*P.bytesOf e:=Nat.le_trans (Nat.le_add_right _ _) (Nat.le_mul_of_pos_right _ hy);unfold bf at c;cases c with
  |bY _=>exact Nat.zero_le _
  |ls _ _ _ _ _ _ _=>omega
end Go.AM
end
