/- part -/
import Derived.Test.YtpechfcbnoggfaaGreatDoorAmH
import Derived.WalkKit
import Derived.ProofKit
import Derived.OpenShut
import Derived.ShutString
import Derived.ChangeOld
import Derived.Below
set_option linter.unusedVariables false
set_option linter.unusedSimpArgs false
namespace Go.AM
open Go Go.NB Go.ChangeShapes Go.WideShapes Go.ChangeAt Go.RowKit
def fW(H:ab):Nat→Prop:=fun k=>k<H.size
def fO(P:Program)(t:TypeId)(sz:Nat){α:Type}(enc:α→List C):Prop:=
 ∀{Hd:Type} {e:TypeId×Value→Hd} {W:World} {base:Nat} {held:Bool} {fuel:Nat} {cs:List Value} {x:DataW Hd×List MemPlace},
  DataW.trod e P W base (fun _=>true) held fuel t cs=some x→∃y:α,RL (fW W.heap) W.heap m0 (enc y) cs∧(enc y).length=sz
section
variable {P:Program} {t e:TypeId}
theorem fO.byte(ht:P.underlying t=some (.int .u8)):fO P t 1 bA:=fun h=>by
 obtain⟨n,rfl,_,hw⟩:=DataW.trod_int ht h;simp[Lit.wf,IntKind.min,IntKind.max,IntKind.bits,IntKind.signed]at hw
 have e:((UInt8.ofNat n.toNat).toNat:Int)=n:=by
  rw[UInt8.toNat_ofNat_of_lt' (by show n.toNat<256;omega)];omega
 exact⟨UInt8.ofNat n.toNat,by unfold bA;rw[e];exact .int .nl,rfl⟩
theorem fO.int(ht:P.underlying t=some (.int .i64)):fO P t 1 encI:=fun h=>by
 obtain⟨n,rfl,_,hw⟩:=DataW.trod_int ht h;exact⟨n,.int .nl,rfl⟩
theorem fO.bool(ht:P.underlying t=some .bool):fO P t 1 af:=fun h=>by
 obtain⟨b,rfl,_⟩:=DataW.trod_bool ht h;exact⟨b,.bool .nl,rfl⟩
theorem fO.str(ht:P.underlying t=some .string):fO P t 1 encS:=fun h=>by
 obtain⟨s,rfl,_,hs⟩:=DataW.trod_string ht h;refine⟨s.data.toList,?_,rfl⟩;have e:Value.string s=NB.str s.data.toList:=by simp[NB.str]
 rw[e];refine .str ?_ .nl;have:s.data.toList.length=s.size:=rfl;unfold maxLen at hs;omega
theorem fO.sl{α:Type}{sz:Nat}{enc:α→List C}(ht:P.underlying t=some (.slice e))(hc:P.cellsOf e=sz)(hp:0<sz)(he:fO P e sz enc):fO P t 1 (bq sz enc):=by
 intro Hd enc' W base held fuel cs x h;rcases DataW.trod_slice ht h with⟨rfl,_⟩|⟨a,len,cap,elems,rest,n,_,rfl,_,hb,hl,hm,hlen,hel,hsp,_⟩
 ·exact⟨[],.ls0 .nl,rfl⟩
 ·obtain⟨hrl,hr⟩:=hsp rfl;rw[hc]at hel hr
  have all:∀i,i<cap→∃cs' y,W.cells? base (a.add (i*sz)) sz=some cs'∧RL (fW W.heap) W.heap m0 (enc y) cs'∧(enc y).length=sz:=fun i hi=>by
   have:∃z,(W.cells? base (a.add (i*sz)) sz).bind (DataW.trod enc' P W base (fun _=>true) held n e)=some z:=by
    by_cases h1:i<len
    ·exact⟨elems[i]'(by omega),by rw[hel i h1,List.getElem?_eq_getElem]⟩
    ·have h2:=hr (i-len) (by omega);rw[show len+(i-len)=i by omega]at h2;exact⟨rest[i-len]'(by omega),by rw[h2,List.getElem?_eq_getElem]⟩
   obtain⟨z,hz⟩:=this;rw[Option.bind_eq_some_iff]at hz;obtain⟨cs',h3,h4⟩:=hz;obtain⟨y,h5,h6⟩:=he h4;exact⟨cs',y,h3,h5,h6⟩
  by_cases h0:cap=0
  ·subst h0;obtain rfl:len=0:=by omega
   exact⟨[],.ls0 .nl,rfl⟩
  ·have hfirst:=all 0 (by omega);obtain⟨b,off,spot⟩:=a
   have hspot:spot=none:=by
    obtain⟨cs',y,h1,h2,h6⟩:=hfirst;obtain⟨_,h3,h4⟩:=World.cells?_some h1;have h5:=h4 0 hp;obtain⟨u,hu⟩:∃u,cs'[0]? =some u:=⟨cs'[0]'(by have:=h2.length;omega),by rw[List.getElem?_eq_getElem]⟩;rw[hu]at h5;simpa[Addr.add]using World.cell?_spot h5
   subst hspot
   have hcell:∀i,i<cap→∃y cs',(RL (fW W.heap) W.heap m0 (enc y) cs'∧(enc y).length=sz)∧∀j u,cs'[j]? =some u→cell W.heap b (off+i*sz+j)=some u:=fun i hi=>by
    obtain⟨cs',y,h1,h2,h6⟩:=all i hi;obtain⟨_,h3,h4⟩:=World.cells?_some h1;refine⟨y,cs',⟨h2,h6⟩,fun j u hu=>?_⟩;have hj:j<cs'.length:=(List.getElem?_eq_some_iff.1 hu).1;have h5:=h4 j (by omega);rw[Addr.add_lit,Addr.add_lit,hu]at h5;rw[←h5,dg rfl]
   have hlt:b<W.heap.size:=by
    obtain⟨y,cs',⟨h1,h6⟩,h2⟩:=hcell 0 (by omega);obtain⟨u,hu⟩:∃u,cs'[0]? =some u:=⟨cs'[0]'(by have:=h1.length;omega),by rw[List.getElem?_eq_getElem]⟩;exact nB (h2 0 u hu)
   have hch:∀m,m≤cap→∃(ys:List α) (css:List Value),(ys.length=m∧css.length=m*sz)∧RL (fW W.heap) W.heap m0 (ys.flatMap enc) css∧(∀y∈ys,(enc y).length=sz)∧∀j u,css[j]? =some u→cell W.heap b (off+j)=some u:=by
    intro m;induction m with
    |zero=>intro _;exact⟨[],[],⟨rfl,by simp⟩,.nl,(fun y hy=>by cases hy),fun j u hu=>by simp at hu⟩
    |succ m ih=>
     intro hm';obtain⟨ys,css,⟨h1,h1'⟩,h2,h3,h4⟩:=ih (by omega);obtain⟨y,cs',⟨h5,h6⟩,h7⟩:=hcell m (by omega);have hl5:=h5.length;refine⟨ys++[y],css++cs',⟨by simp[h1],by rw[List.length_append,h1',←hl5,h6,Nat.succ_mul]⟩,by rw[List.flatMap_append,List.flatMap_singleton];exact h2.append h5,fun z hz=>?_,fun j u hu=>?_⟩
     ·rcases List.mem_append.1 hz with hz|hz
      ·exact h3 z hz
      ·rw[List.mem_singleton]at hz;subst hz;exact h6
     ·by_cases hj:j<css.length
      ·rw[List.getElem?_append_left hj]at hu;exact h4 j u hu
      ·rw[List.getElem?_append_right (by omega)]at hu;have:=h7 _ u hu;rw[h1']at this;rw[h1']at hj;rw[←this];congr 1
       omega
   obtain⟨ys,css,⟨h1,_⟩,h2,h3,h4⟩:=hch len hl;subst h1;exact⟨ys,.ls (b:=b) hlt hl hm h2 h3 h4 .nl,rfl⟩
theorem RL.piece{F:Nat→Prop}{H:ab}{m:Md}{cs:List Value}{c1 c2:List C}{off n:Nat}(h1:RL F H m c1 ((cs.drop off).take n))(h2:RL F H m c2 (cs.drop (off+n))):RL F H m (c1++c2) (cs.drop off):=by
 rw[←List.take_append_drop n (cs.drop off),List.drop_drop];exact h1.append h2
theorem RL.fin{F:Nat→Prop}{H:ab}{m:Md}{cs:List Value}{n:Nat}(h:cs.length=n):RL F H m [] (cs.drop n):=by
 rw[List.drop_of_length_le (by omega)];exact .nl
end
theorem WR.begin(H:ab):WR (en (fW H) (fun _=>False) [] [] H) (fW H) [] [] H:=
 ⟨rfl,fun j b g h=>by simp at h,fun i j b b' g g' _ h=>by simp at h,fun j b g k h=>by simp at h,fun k h=>h,fun k h=>h.elim,Nat.le_refl _,fun k _ _=>rfl,fun k h=>h,fun k h=>.inl h,fun j b g k h=>by simp at h,fun j v h=>by simp[en]at h⟩
theorem dJ.Hi{F:Nat→Prop}{H:ab}{m:Md}{x:C}{v:Value}(h:RL F H m0 [x] [v]):RA F H m (.c x) v:=RL.up h
theorem ae.below{P:Program}{f:FuncId}{args:List A}{vs:List Value}{W:World}{b:Bool}(h:ae P f args [] (Rt (.c (.bool b)) []))(ha:dJ (fW W.heap) W.heap ⟨fun _=>False,[]⟩ args vs)(hc:(callFunc f vs.toArray).run P W= .ok (.enter f vs.toArray) W):
  Calls P f vs.toArray W fun e W'=>e= .returned (.bool b)∧Below W.heap.size W W':=by
 have:=h _ _ _ _ vs ha (WR.begin W.heap) W rfl;rw[hc]at this;refine this.2.mono fun e W' h=>?_;rcases h with⟨v,h1,⟨out,ah',F',γ',⟨hq1,hq2⟩,_,_,hok,hr,hw⟩,h3⟩|⟨v,h1,⟨out,ah',F',γ',⟨hq1,hq2⟩,_,_,hok,hr,hw⟩,h3⟩
 ·subst hq1;cases hr with
  |bool _=>
   refine⟨h1,h3.os,h3.tape,h3.output,hw.size,fun k hk=>hw.bQ k hk ?_⟩;rintro⟨j,b',g,hj,_⟩;simp at hj
 ·subst hq1;cases hok
end Go.AM
