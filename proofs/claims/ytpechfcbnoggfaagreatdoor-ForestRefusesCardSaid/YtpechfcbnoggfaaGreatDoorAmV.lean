/- part -/
import Derived.Test.YtpechfcbnoggfaaGreatDoorAmL
import GoSem.ClaimJoined
set_option linter.unusedVariables false
set_option linter.unusedSimpArgs false
section
namespace Go.AM
open Go Go.NB Go.ChangeShapes Go.WideShapes Go.ChangeAt Go.RowKit
def Lt{Hd:Type}(P:Program)(t:TypeId)(d:DataW Hd):Prop:=∀n∈d.weights P t,n≤140737488351232
def qu(l:List UInt8):Prop:=l.length≤140737488351232
def lI{α:Type}(_:α):Prop:=True
def EZ{α:Type}(ok:α→Prop)(l:List α):Prop:=∀x∈l,ok x
def bY(P:Program)(t:TypeId)(sz:Nat){α:Type}(enc:α→List C)(ok:α→Prop):Prop:=
 ∀{Hd:Type} {e:TypeId×Value→Hd} {W:World} {base:Nat} {held:Bool} {fuel:Nat} {cs:List Value} {x:DataW Hd×List MemPlace},
  DataW.trod e P W base (fun _=>true) held fuel t cs=some x→Lt P t x.1→∃y:α,RL (fW W.heap) W.heap m0 (enc y) cs∧(enc y).length=sz∧ok y
section
variable {P:Program} {t e:TypeId}
theorem bY.byte(ht:P.underlying t=some (.int .u8)):bY P t 1 bA lI:=fun h _=>by
 obtain⟨y,h1,h2⟩:=fO.byte ht h;exact⟨y,h1,h2,trivial⟩
theorem bY.int(ht:P.underlying t=some (.int .i64)):bY P t 1 encI lI:=fun h _=>by
 obtain⟨y,h1,h2⟩:=fO.int ht h;exact⟨y,h1,h2,trivial⟩
theorem bY.bool(ht:P.underlying t=some .bool):bY P t 1 af lI:=fun h _=>by
 obtain⟨y,h1,h2⟩:=fO.bool ht h;exact⟨y,h1,h2,trivial⟩
theorem bY.str(ht:P.underlying t=some .string):bY P t 1 encS qu:=fun h hw=>by
 obtain⟨s,rfl,hx,hs⟩:=DataW.trod_string ht h;subst hx;have e:Value.string s=NB.str s.data.toList:=by simp[NB.str]
 have hl:=hw s.data.toList.length (by simp[DataW.weights]);refine⟨s.data.toList,?_,rfl,hl⟩;rw[e];exact .str (by omega) .nl
theorem uK{Hd:Type}{n:Nat}:∀{l:List (DataW Hd)} {d:DataW Hd},d∈l→n∈d.weights P e→n∈DataW.weightsAll P e l
 |[],d,h,_=>by cases h
 |x::l,d,h,hn=>by
  unfold DataW.weightsAll;rw[List.mem_append];rcases List.mem_cons.1 h with rfl|h
  ·exact .inl hn
  ·exact .inr (uK h hn)
theorem uL{Hd:Type}{n:Nat}:∀{ts:List TypeId} {l:List (DataW Hd)} {i:Nat} {u:TypeId} {d:DataW Hd},ts[i]? =some u→l[i]? =some d→n∈d.weights P u→n∈DataW.weightsEach P ts l
 |t::ts,x::l,0,u,d,h1,h2,hn=>by
  simp at h1 h2;subst h1 h2;unfold DataW.weightsEach;exact List.mem_append_left _ hn
 |t::ts,x::l,i+1,u,d,h1,h2,hn=>by
  simp at h1 h2;unfold DataW.weightsEach;exact List.mem_append_right _ (uL h1 h2 hn)
 |[],_,_,_,_,h1,_,_=>by simp at h1
 |_::_,[],_,_,_,_,h2,_=>by simp at h2
theorem bY.sl{α:Type}{sz:Nat}{enc:α→List C}{ok:α→Prop}(ht:P.underlying t=some (.slice e))(hc:P.cellsOf e=sz)(hp:0<sz)(he:bY P e sz enc ok):bY P t 1 (bq sz enc) (EZ ok):=by
 intro Hd enc' W base held fuel cs x h hw;rcases DataW.trod_slice ht h with⟨rfl,_⟩|⟨a,len,cap,elems,rest,n,_,rfl,hx,hb,hl,hm,hlen,hel,hsp,_⟩
 ·exact⟨[],.ls0 .nl,rfl,fun x hx=>by cases hx⟩
 ·have hw1 : ∀ d ∈ elems.map (·.1), Lt P e d := fun d hd n hn => hw n (by
   rw[hx];simp only[DataW.weights,ht];exact List.mem_cons_of_mem _ (List.mem_append_left _ (uK hd hn)))
  have hw2 : ∀ d ∈ rest.map (·.1), Lt P e d := fun d hd n hn => hw n (by
   rw[hx];simp only[DataW.weights,ht];exact List.mem_cons_of_mem _ (List.mem_append_right _ (uK hd hn)))
  obtain⟨hrl,hr⟩:=hsp rfl;rw[hc]at hel hr
  have all:∀i,i<cap→∃cs' y,W.cells? base (a.add (i*sz)) sz=some cs'∧RL (fW W.heap) W.heap m0 (enc y) cs'∧(enc y).length=sz∧ok y:=fun i hi=>by
   have:∃z,(W.cells? base (a.add (i*sz)) sz).bind (DataW.trod enc' P W base (fun _=>true) held n e)=some z∧Lt P e z.1:=by
    by_cases h1:i<len
    ·exact⟨elems[i]'(by omega),by rw[hel i h1,List.getElem?_eq_getElem],hw1 _ (List.mem_map.2 ⟨_,List.getElem_mem _,rfl⟩)⟩
    ·have h2:=hr (i-len) (by omega);rw[show len+(i-len)=i by omega]at h2;exact⟨rest[i-len]'(by omega),by rw[h2,List.getElem?_eq_getElem],hw2 _ (List.mem_map.2 ⟨_,List.getElem_mem _,rfl⟩)⟩
   obtain⟨z,hz,hzw⟩:=this;rw[Option.bind_eq_some_iff]at hz;obtain⟨cs',h3,h4⟩:=hz;obtain⟨y,h5,h6,h7⟩:=he h4 hzw;exact⟨cs',y,h3,h5,h6,h7⟩
  by_cases h0:cap=0
  ·subst h0;obtain rfl:len=0:=by omega
   exact⟨[],.ls0 .nl,rfl,fun x hx=>by cases hx⟩
  ·have hfirst:=all 0 (by omega);obtain⟨b,off,spot⟩:=a
   have hspot:spot=none:=by
    obtain⟨cs',y,h1,h2,h6,_⟩:=hfirst;obtain⟨_,h3,h4⟩:=World.cells?_some h1;have h5:=h4 0 hp;obtain⟨u,hu⟩:∃u,cs'[0]? =some u:=⟨cs'[0]'(by have:=h2.length;omega),by rw[List.getElem?_eq_getElem]⟩;rw[hu]at h5;simpa[Addr.add]using World.cell?_spot h5
   subst hspot
   have hcell:∀i,i<cap→∃y cs',(RL (fW W.heap) W.heap m0 (enc y) cs'∧(enc y).length=sz∧ok y)∧∀j u,cs'[j]? =some u→cell W.heap b (off+i*sz+j)=some u:=fun i hi=>by
    obtain⟨cs',y,h1,h2,h6⟩:=all i hi;obtain⟨_,h3,h4⟩:=World.cells?_some h1;refine⟨y,cs',⟨h2,h6⟩,fun j u hu=>?_⟩;have hj:j<cs'.length:=(List.getElem?_eq_some_iff.1 hu).1;have h5:=h4 j (by omega);rw[Addr.add_lit,Addr.add_lit,hu]at h5;rw[←h5,dg rfl]
   have hlt:b<W.heap.size:=by
    obtain⟨y,cs',⟨h1,h6,_⟩,h2⟩:=hcell 0 (by omega);obtain⟨u,hu⟩:∃u,cs'[0]? =some u:=⟨cs'[0]'(by have:=h1.length;omega),by rw[List.getElem?_eq_getElem]⟩;exact nB (h2 0 u hu)
   have hch:∀m,m≤cap→∃(ys:List α) (css:List Value),(ys.length=m∧css.length=m*sz)∧RL (fW W.heap) W.heap m0 (ys.flatMap enc) css∧(∀y∈ys,(enc y).length=sz∧ok y)∧∀j u,css[j]? =some u→cell W.heap b (off+j)=some u:=by
    intro m;induction m with
    |zero=>intro _;exact⟨[],[],⟨rfl,by simp⟩,.nl,(fun y hy=>by cases hy),fun j u hu=>by simp at hu⟩
    |succ m ih=>
     intro hm';obtain⟨ys,css,⟨h1,h1'⟩,h2,h3,h4⟩:=ih (by omega);obtain⟨y,cs',⟨h5,h6⟩,h7⟩:=hcell m (by omega);have hl5:=h5.length;refine⟨ys++[y],css++cs',⟨by simp[h1],by rw[List.length_append,h1',←hl5,h6.1,Nat.succ_mul]⟩,by rw[List.flatMap_append,List.flatMap_singleton];exact h2.append h5,fun z hz=>?_,fun j u hu=>?_⟩
     ·rcases List.mem_append.1 hz with hz|hz
      ·exact h3 z hz
      ·rw[List.mem_singleton]at hz;subst hz;exact h6
     ·by_cases hj:j<css.length
      ·rw[List.getElem?_append_left hj]at hu;exact h4 j u hu
      ·rw[List.getElem?_append_right (by omega)]at hu;have:=h7 _ u hu;rw[h1']at this;rw[h1']at hj;rw[←this];congr 1
       omega
   obtain⟨ys,css,⟨h1,_⟩,h2,h3,h4⟩:=hch len hl;subst h1;exact⟨ys,.ls (b:=b) hlt hl hm h2 (fun y hy=>(h3 y hy).1) h4 .nl,rfl,fun y hy=>(h3 y hy).2⟩
theorem bY.field{α:Type}{sz off k:Nat}{f:Field}{enc:α→List C}{ok:α→Prop}{Hd:Type}{e':TypeId×Value→Hd}{W:World}{base:Nat}{held:Bool}{n:Nat}{cs:List Value}{xs:List (DataW Hd×List MemPlace)}{i:Nat}{fs:List TypeId}
  (he:bY P f.type sz enc ok)(hi:i<xs.length)(hf:fs[i]? =some f.type)(hw:∀n∈DataW.weightsEach P fs (xs.map (·.1)),n≤140737488351232)
  (h:DataW.trod e' P W base (fun _=>true) held n f.type ((cs.drop f.offset).take (P.cellsOf f.type))=xs[i]?)(ho:f.offset=off)(hn:P.cellsOf f.type=k):∃y:α,RL (fW W.heap) W.heap m0 (enc y) ((cs.drop off).take k)∧(enc y).length=sz∧ok y:=by
 subst ho hn;rw[List.getElem?_eq_getElem hi]at h;exact he h (fun n hn=>hw n (uL hf (by rw[List.getElem?_map,List.getElem?_eq_getElem hi];rfl) hn))
theorem bY.arg{α:Type}{enc:α→List C}{ok:α→Prop}{Hd:Type}{e':TypeId×Value→Hd}{W:World}{v:Value}{d:DataW Hd}{ps:List MemPlace}(ho:bY P t 1 enc ok)(h1:v.cells= #[v])(h:DataW.Trod e' P W 0 (fun _=>true) true t v d ps)(hw:Lt P t d):
  ∃y:α,RL (fW W.heap) W.heap m0 (enc y) [v]∧ok y:=by
 obtain⟨fuel,hf⟩:=h;obtain⟨y,u,_,hk⟩:=ho hf hw;rw[h1]at u;exact⟨y,u,hk⟩
theorem Lt.of{Hd:Type}{ts:List TypeId}{ds:List (DataW Hd)}{i:Nat}{u:TypeId}{d:DataW Hd}(h:(DataW.weightsEach P ts ds).all (· ≤reachBytes)=true)(h1:ts[i]? =some u)(h2:ds[i]? =some d):Lt P u d:=fun n hn=>
 of_decide_eq_true (List.all_eq_true.1 h n (uL h1 h2 hn))
end
end Go.AM
end
section
namespace Go.AM
open Go Go.NB Go.ChangeShapes Go.WideShapes Go.ChangeAt Go.RowKit
def tP{α:Type}(ok:α→Prop)(l:List α):Prop:=l.length≤140737488351232∧∀x∈l,ok x
theorem bY.zJ{P:Program}{t e:TypeId}{α:Type}{sz:Nat}{enc:α→List C}{ok:α→Prop}(ht:P.underlying t=some (.slice e))(hc:P.cellsOf e=sz)(hp:0<sz)(hy:0<P.bytesOf e)(he:bY P e sz enc ok):bY P t 1 (bq sz enc) (tP ok):=by
 intro Hd enc' W base held fuel cs x h hw;obtain⟨y,h1,h2,h3⟩:=bY.sl ht hc hp he h hw;refine⟨y,h1,h2,?_,h3⟩;rcases DataW.trod_slice ht h with⟨rfl,_⟩|⟨a,len,cap,elems,rest,n,_,rfl,hx,hb,hl,hm,hlen,hel,hsp,_⟩
 ·unfold bq at h1;cases h1 with
  |ls0 _=>exact Nat.zero_le _
 ·have hh:=hw ((elems.length+rest.length)*P.bytesOf e) (by rw[hx];simp only[DataW.weights,ht,List.length_map];exact List.mem_cons_self ..);have h4:elems.length≤(elems.length+rest.length)*P.bytesOf e:=Nat.le_trans (Nat.le_add_right _ _) (Nat.le_mul_of_pos_right _ hy);unfold bq at h1;cases h1 with
  |ls0 _=>exact Nat.zero_le _
  |ls _ _ _ _ _ _ _=>omega
end Go.AM
end
