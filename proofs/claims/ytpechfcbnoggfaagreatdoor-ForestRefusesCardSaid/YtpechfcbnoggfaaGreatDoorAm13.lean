/- part -/
import Derived.Test.YtpechfcbnoggfaaGreatDoorAm9
set_option linter.unusedVariables false
set_option linter.unusedSimpArgs false
section
namespace Go.AM
open Go Go.NB
section
variable {P:Program} {tab:Nat→Option TD} {E:En} {F:Nat→Prop} {γ:List Value} {s:St} {a:Act} {w:World} {o:Oper} {k:List B→A→Prop}
theorem nN{F:Nat→Prop}{H:ab}{m:Md}:∀l:List UInt8,RL F H m (l.flatMap bA) (l.map bv)
 |[]=>.nl
 |_::l=>.int (nN l)
theorem WR.CP{E:En}{F:Nat→Prop}{γ:List Value}{ah:List B}{H H':ab}(h:WR E F γ ah H)(hK:ak [] H H')(hs:H.size<H'.size):WR E (fun q=>F q∨q=H.size) γ ah H':=by
 have h':=h.same hK;have e:Ext F H' ⟨E.B,γ⟩ (fun q=>F q∨q=H.size) H' ⟨E.B,γ⟩:=kt fun _ h=>.inl h;refine⟨h'.len,fun j b g hj hg=>BR.ext e (fun _ _=>rfl) (h'.br j b g hj hg),h'.cK,fun j b g q hj hg hq=>⟨fun hf=>hf.elim (h'.nf j b g q hj hg hq).1 (fun he=>?_),(h'.nf j b g q hj hg hq).2⟩,fun q hq=>hq.elim (h'.fb q) (fun he=>by omega),h'.bb,h'.size,h'.bQ,fun q hq=>.inl (h'.fmono q hq),fun q hq=>hq.elim (h'.fnew q) (fun he=>.inr (.inr (by have:=h.size;omega))),h'.onew,h'.pre⟩;have:=eM (h.br j b g hj hg) q hq;omega
theorem AP{H:ab}{ah:List B}{c:C}{v:Value}{b:Option LS}{de:TD}{xs:List de.α}(hW:WR E F γ ah H)(hc:RL F H ⟨E.B,γ⟩ [c] [v])(hb:pd ah c=some b)(hx:pb de b xs):
  ∃cs,bU H de.size v xs.length cs∧RL F H m0 (xs.flatMap de.enc) cs∧(∀x∈xs,(de.enc x).length=de.size)∧
   ((kill ah c=ah∧aS v=[])∨∃j b g,kill ah c=ah.set j .dead∧ah[j]? =some b∧γ[j]? =some g∧(∀cs ty,ah[j]?≠some (.box cs ty))∧∀q∈aS v,q∈ax b g)∧
   ∀j t sz α enc l,c= .rw j→ah[j]? =some (.buf t sz α enc l)→kX H t v:=by
 cases c with
 |nil=>
  cases hb;have hx:xs=[]:=hx;subst hx;cases hc;exact⟨[],⟨by simp,.inl ⟨none,rfl,rfl⟩⟩,.nl,(fun x hx=>by cases hx),.inl ⟨rfl,rfl⟩,fun j t sz α enc l h=>by cases h⟩
 |rw j=>
  simp only[pd]at hb;split at hb
  ·rename_i sz α enc l hj;cases hb;cases hx;cases hc with
   | @rw _ _ p q n cap _ _ hg hqq _=>
    have hg':γ[j]? =some _:=hg;obtain⟨cs,h1,h2,h3⟩:=oE (hW.br _ _ _ hj hg');by_cases e:cap=0
    ·subst e
     have hn:xs.length=0∧n=0:=by
      rcases h1.2 with⟨_,e1,e2⟩|⟨_,_,_,_,_,e1,_⟩
      ·cases e1;exact⟨e2,rfl⟩
      ·simp at e1
     have hl:=hn.1;rw[hn.2];refine⟨cs,⟨h1.1,.inl ⟨q,rfl,hl⟩⟩,h2,h3,.inr ⟨j,_,_,rfl,hj,hg',(fun cs ty h=>by rw[hj]at h;cases h),fun b hb=>by cases q<;>simp[aS]at hb⟩,fun j t sz α enc l h hb=>by cases h;rw[hj]at hb;cases hb⟩
    ·rw[hqq e];exact⟨cs,h1,h2,h3,.inr ⟨j,_,_,rfl,hj,hg',(fun cs ty h=>by rw[hj]at h;cases h),fun q hq=>by rw[kL];exact hq⟩,fun j t sz α enc l h hb=>by cases h;rw[hj]at hb;cases hb⟩
  ·rename_i t sz α enc l hj;cases hb;cases hx;cases hc with
   | @rw _ _ p q n cap _ _ hg hqq _=>
    have hg':γ[j]? =some _:=hg;obtain⟨cs,h1,h2,h3,h4⟩:=A2 (hW.br _ _ _ hj hg');by_cases e:cap=0
    ·subst e
     have hn:xs.length=0∧n=0:=by
      rcases h1.2 with⟨_,e1,e2⟩|⟨_,_,_,_,_,e1,_⟩
      ·cases e1;exact⟨e2,rfl⟩
      ·simp at e1
     have hl:=hn.1;rw[hn.2];refine⟨cs,⟨h1.1,.inl ⟨q,rfl,hl⟩⟩,h2,h3,.inr ⟨j,_,_,rfl,hj,hg',(fun cs ty h=>by rw[hj]at h;cases h),fun b hb=>by cases q<;>simp[aS]at hb⟩,fun _ _ _ _ _ _ _ _=>.inl ⟨q,rfl⟩⟩
    ·rw[hqq e];exact⟨cs,h1,h2,h3,.inr ⟨j,_,_,rfl,hj,hg',(fun cs ty h=>by rw[hj]at h;cases h),fun q hq=>by rw[yz];exact hq⟩,fun j2 t2 sz2 α2 enc2 l2 h hb=>by cases h;rw[hj]at hb;cases hb;exact h4⟩
  ·cases hb
 |sw sz j lo n=>
  simp only[pd]at hb;split at hb
  ·rename_i sz' α enc l hj;by_cases hz:Nat.beq sz sz'=true
   ·obtain rfl:=Nat.eq_of_beq_eq_true hz;rw[hz]at hb;cases hb;cases hx;cases hc with
    | @sw _ _ _ _ _ p q n0 cap _ _ hg hle hq _=>
     have hg':γ[j]? =some _:=hg;obtain⟨cs,h1,h2,h3⟩:=oE (hW.br _ _ _ hj hg')
     have hn0:n0=l.length:=by
      rcases h1.2 with⟨p',e,hn⟩|⟨_,_,_,_,_,e,_⟩
      ·cases e;omega
      ·simp at e;exact e.2.1
     subst hn0;obtain⟨h4,h5⟩:=h1.part hle hq;have hlen:((l.drop lo).take n).length=n:=by rw[List.length_take,List.length_drop];omega
     have h6:∀x∈l.drop lo,(de.enc x).length=de.size:=fun x hx=>h3 x (List.mem_of_mem_drop hx);refine⟨_,by rw[hlen];exact h4,?_,fun x hx=>h6 x (List.mem_of_mem_take hx),.inr ⟨j,_,_,rfl,hj,hg',(fun cs ty h=>by rw[hj]at h;cases h),fun b hb=>by rw[kL];exact h5 b hb⟩,fun j t sz α enc l h=>by cases h⟩;rw[←mc n h6,←ln lo h3];exact(h2.drop _).take _
   ·rw[Bool.not_eq_true]at hz;rw[hz]at hb;cases hb
  ·cases hb
 |_=>cases hb
theorem GG{H:ab}{ah:List B}{c:C}{v:Value}{b:Option LS}{de:TD}{ys:List de.α}(hW:WR E F γ ah H)(hc:RL F H ⟨E.B,γ⟩ [c] [v])(hb:lN ah c=some b)(hy:pb de b ys):
  ∃news,Src P H de.size v ys.length news∧RL F H m0 (ys.flatMap de.enc) news∧(∀x∈ys,(de.enc x).length=de.size):=by
 cases c with
 |nil=>
  cases hb;have hy:ys=[]:=hy;subst hy;cases hc;exact⟨[],fun w _=>⟨by simp[Builtin.lenOf],by simp[Builtin.firstCells]⟩,.nl,fun x hx=>by cases hx⟩
 |str l=>
  cases hb;have hy:(⟨1,UInt8,bA,l⟩:LS)=⟨de.size,de.α,de.enc,ys⟩:=hy
  have key:∀L:LS,L=⟨1,UInt8,bA,l⟩→∃news,Src P H L.sz v L.l.length news∧RL F H m0 (L.l.flatMap L.enc) news∧(∀x∈L.l,(L.enc x).length=L.sz):=fun L hL=>by
   subst hL;cases hc with
   |str _ _=>
    exact⟨_,Src.str l,nN l,fun x hx=>rfl⟩
  exact key _ hy.symm
 |ls sz α enc l=>
  simp only[lN,Option.map_eq_some_iff]at hb;obtain⟨L,hL,rfl⟩:=hb;obtain⟨news,h1,h2,h3⟩:=(hW.sl hc hL).src (P:=P);cases hy;exact⟨news,h1,h2,h3⟩
 |bs sz α enc l=>
  simp only[lN,Option.map_eq_some_iff]at hb;obtain⟨L,hL,rfl⟩:=hb;obtain⟨news,h1,h2,h3⟩:=(hW.sl hc hL).src (P:=P);cases hy;exact⟨news,h1,h2,h3⟩
 |rw j=>
  simp only[lN,Option.map_eq_some_iff]at hb;obtain⟨L,hL,rfl⟩:=hb;obtain⟨news,h1,h2,h3⟩:=(hW.sl hc hL).src (P:=P);cases hy;exact⟨news,h1,h2,h3⟩
 |sw sz j lo n=>
  simp only[lN,Option.map_eq_some_iff]at hb;obtain⟨L,hL,rfl⟩:=hb;obtain⟨news,h1,h2,h3⟩:=(hW.sl hc hL).src (P:=P);cases hy;exact⟨news,h1,h2,h3⟩
 |_=>simp[lN,jw]at hb
theorem FY{α:Type}{enc:α→List C}{l l2:List α}{lo n sz:Nat}{css us:List Value}{cur:List Value}{off:Nat}{F:Nat→Prop}{H:ab}{m:Md}
  (hr:RL F H m (l.flatMap enc) css)(hz:∀x∈l,(enc x).length=sz)(hfit:lo+n≤l.length)(hl2:l2.length=n)(hz2:∀x∈l2,(enc x).length=sz)(hu:RL F H m (l2.flatMap enc) us)
  (hc:(cur.drop off).take css.length=css)(hoff:off≤cur.length):
  ∃css',RL F H m ((l.take lo++(l2++l.drop (lo+n))).flatMap enc) css'∧css'.length=css.length∧(∀x∈l.take lo++(l2++l.drop (lo+n)),(enc x).length=sz)∧off+lo*sz+us.length≤cur.length∧
   ((cur.take (off+lo*sz)++us++cur.drop (off+lo*sz+us.length)).drop off).take css'.length=css':=by
 have hl:l=l.take lo++((l.drop lo).take n++l.drop (lo+n)):=by
  rw[show l.drop (lo+n)=(l.drop lo).drop n by rw[List.drop_drop],List.take_append_drop,List.take_append_drop]
 have p1:((l.take lo).flatMap enc).length=lo*sz:=by
  rw[gT (fun y hy=>hz y (List.mem_of_mem_take hy)),List.length_take,Nat.min_eq_left (by omega)]
 have p2:(((l.drop lo).take n).flatMap enc).length=n*sz:=by
  rw[gT (fun y hy=>hz y (List.mem_of_mem_drop (List.mem_of_mem_take hy))),List.length_take,List.length_drop,Nat.min_eq_left (by omega)]
 have p3:(l2.flatMap enc).length=n*sz:=by rw[gT hz2,hl2]
 have h1:l.flatMap enc=(l.take lo).flatMap enc++(((l.drop lo).take n).flatMap enc++(l.drop (lo+n)).flatMap enc):=by
  conv=>lhs;rw[hl]
  rw[List.flatMap_append,List.flatMap_append]
 rw[h1]at hr;obtain⟨c1,cr,rfl,r1,r2⟩:=hr.split;obtain⟨c2,c3,rfl,r3,r4⟩:=r2.split;have l1:=r1.length;have l2':=r3.length;have l3:=hu.length;rw[p1]at l1;rw[p2]at l2';rw[p3]at l3
 have hcl:(c1++(c2++c3)).length≤cur.length-off:=by
  have:=congrArg List.length hc;rw[List.length_take,List.length_drop]at this;omega
 obtain ⟨Z, hZ⟩ : ∃ Z, cur.drop off = (c1 ++ (c2 ++ c3)) ++ Z := ⟨(cur.drop off).drop (c1++(c2++c3)).length,by
  conv=>rhs;arg 1;rw[←hc]
  rw[List.take_append_drop]⟩
 have hA:cur=cur.take off++((c1++(c2++c3))++Z):=by rw[←hZ,List.take_append_drop]
 generalize hAA:cur.take off=A0 at hA;have hAl:A0.length=off:=by rw[←hAA,List.length_take];omega
 refine⟨c1++(us++c3),by rw[List.flatMap_append,List.flatMap_append];exact r1.append (hu.append r4),by simp;omega,fun y hy=>?_,?_,?_⟩
 ·rcases List.mem_append.1 hy with hy|hy
  ·exact hz y (List.mem_of_mem_take hy)
  ·rcases List.mem_append.1 hy with hy|hy
   ·exact hz2 y hy
   ·exact hz y (List.mem_of_mem_drop hy)
 ·rw[hA];simp;omega
 ·have e1:cur=(A0++c1)++(c2++(c3++Z)):=by rw[hA];simp[List.append_assoc]
  have t1:cur.take (off+lo*sz)=A0++c1:=by rw[e1];exact List.take_left' (by simp;omega)
  have t2:cur.drop (off+lo*sz+us.length)=c3++Z:=by
   rw[e1,←List.append_assoc,List.drop_left' (by simp;omega)]
  rw[t1,t2];have e3:A0++c1++us++(c3++Z)=A0++((c1++(us++c3))++Z):=by simp[List.append_assoc]
  rw[e3,List.drop_left' hAl,List.take_left]
theorem zu{x:Operand}{t e et:TypeId}{zs:List Value}{size g off n cap:Nat}{cur:Array Value}{z:Value}(ho:o.op= .call {callee:= .builtin .clear,args:= #[x],argTypes:= #[t]})(hx:a.eval x= .slice (some ⟨g,off,none⟩) n cap)(hn:0<n)
  (ht:P.underlying t=some (.slice e))(hz:∀w,(zeroValue e).run P w= .ok z w)(hzs:z.cells=zs.toArray)(hzl:zs.length=size)(hpos:0<size)(hone:∀u∈zs,u.oneCell'=true)(hg:w.heap[g]? =some (.cells cur et (0,0)))(hfit:off+n*size≤cur.size):
  (execOp a.eval o).run P w= .ok (.value (.tuple #[])) (w.setRow g (cur.toList.take off++(List.replicate n zs).flatten++cur.toList.drop (off+n*size)).toArray):=by
 have hl:(List.replicate n zs).flatten.length=n*size:=by simp[hzl]
 have hs := run_storeCells_at P g off et (List.replicate n zs).flatten 0 cur w hg (by rw [hl]; simpa using hfit) (fun u hu=>by
  obtain⟨l,h1,h2⟩:=List.mem_flatten.1 hu;rw[List.mem_replicate]at h1;exact hone u (h1.2▸h2))
 simp only[Nat.add_zero,hl]at hs;have hzf:=Aj hzl hpos n;obtain⟨n,rfl⟩:∃m,n=m+1:=⟨n-1,by omega⟩;unfold execOp;rw[ho]
 have key:(Builtin.zeroCells zs.toArray (n+1)).toList=(List.replicate (n+1) zs).flatten:=by
  rw[←hzf];unfold Builtin.zeroCells;simp[hzl]
 simp only[resolve,invoke,builtin,hx,Builtin.clear_,Sem.run_bind,Sem.run_pure,Result.andThen_ok,List.map_toArray,List.map_cons,List.map_nil,run_underlying ht,hz,hzs];simp[hx,run_underlying ht,hz,hzs,key,hs]
theorem BG(hT:bm P tab)(hE:ER F w.heap ⟨E.B,γ⟩ s.env a)(hW:WR E F γ s.ah w.heap){x:Operand}{t e:TypeId}{de:TD}{sz j lo n:Nat}{α:Type}{enc:α→List C}{l:List α}{z:α}(ho:o.op= .call {callee:= .builtin .clear,args:= #[x],argTypes:= #[t]})
  (ht:P.underlying t=some (.slice e))(hde:tab e=some de)(hx:aM s x= .c (.sw sz j lo n))(hj:s.ah[j]? =some (.row sz α enc l))(hsz:sz=de.size)(hpos:1≤de.size)(hcl:dw de.zero=true)(hz:enc z=de.zero)(hfit:lo+n≤l.length)
  (h:k (s.ah.set j (.row sz α enc (l.take lo++(List.replicate n z++l.drop (lo+n))))) .undef):Dn P s E F γ a w o k:=by
 have hcx:=aU hE hx;generalize hv:a.eval x=v at hcx;cases hcx with
 | @sw _ _ _ _ _ p q n0 cap _ _ hg hle hq _=>
 have hg':γ[j]? =some _:=hg;have hbr:=hW.br j _ _ hj hg';have hgrow:jJ s o.op=true→False:=fun hgr=>by rw[ho]at hgr;simp[jJ,hx]at hgr
 by_cases hn:n=0
 ·subst hn;have el:l.take lo++(List.replicate 0 z++l.drop (lo+0))=l:=by simp
  rw[el]at h
  have hset:s.ah.set j (.row sz α enc l)=s.ah:=by
   refine List.ext_getElem? fun i=>?_;rw[List.getElem?_set];split
   ·rename_i e;subst e;rw[hj,if_pos (List.getElem?_eq_some_iff.1 hj).1]
   ·rfl
  rw[hset]at h
  have hrun:(execOp a.eval o).run P w= .ok (.value (.tuple #[])) w:=by
   unfold execOp;rw[ho];cases q<;>simp[resolve,invoke,builtin,hv,Builtin.clear_,run_underlying ht]
  have ex:=hW.ext (γ':=[]) (W:=[]) (fun q hq=>by cases hq) (ak.refl [] w.heap);rw[List.append_nil]at ex;exact⟨_,_,w,_,_,F,γ,⟨.inl rfl,hrun⟩,bd.of rfl rfl rfl,h,⟨hW,ex⟩,trivial,fun hgr=>(hgrow hgr).elim,fun ha=>by rw[ho]at ha;cases ha⟩
 ·rcases hbr with⟨p',he,hl0⟩|⟨bk,ob,cap',cur,et,css,he,h1,h2,h3,h4,h5,h6,h7⟩
  ·subst hl0;simp at hfit;omega
  ·obtain⟨rfl,rfl,rfl⟩:p=some ⟨bk,ob,none⟩∧n0=l.length∧cap=cap'+1:=by simpa using he
   have hq:=hq (by omega);simp only[Option.map_some]at hq;subst hq;obtain⟨i,zv,zs,hi,hsz',hbyt,hzz,hzs,hzr⟩:=hT.info e de hde;have hzl:zs.length=de.size:=by have:=(hzr F w.heap m0).length;rw[←this,hT.zl e de hde]
   have hzero:∀w,(zeroValue e).run P w= .ok zv w:=fun w=>by simp[zeroValue,hi,hzz]
   have hzn:RL F w.heap m0 (enc z) zs:=by rw[hz];exact hzr F w.heap m0
   have hel:(enc z).length=sz:=by rw[hz,hT.zl e de hde,hsz]
   have hun:=uj hzn n;have hul:(List.replicate n zs).flatten.length=n*sz:=by simp[hzl,hsz]
   obtain⟨css',q1,q2,q3,q4,q5⟩:=FY (l2:=List.replicate n z) h5 h6 hfit (by simp) (fun x hx=>by rw[(List.mem_replicate.1 hx).2];exact hel) hun h7 (by simp;omega);rw[hul]at q4 q5;have hrun:=zu (P:=P) (w:=w) (off:=ob+lo*sz) (size:=sz) ho (by rw[hv,Addr.add_lit]) (by omega) ht hzero hzs (by rw[hzl,hsz]) (by omega) hzn.one h1 (by simpa using q4);have hob:ax (.row sz α enc l) (.slice (some ⟨bk,ob,none⟩) l.length (cap'+1))=[bk]:=rfl;have hK:ak [bk] w.heap (w.setRow bk (cur.toList.take (ob+lo*sz)++(List.replicate n zs).flatten++cur.toList.drop (ob+lo*sz+n*sz)).toArray).heap:=jZ _ _ _;have ex:=hW.ext (γ':=[]) (W:=[bk]) (fun q hq=>hW.nf j _ _ q hj hg' (by rw[hob];exact hq)) hK;rw[List.append_nil]at ex;have hll:(l.take lo++(List.replicate n z++l.drop (lo+n))).length=l.length:=by simp;omega
   refine⟨_,_,_,_,_,F,γ,⟨.inl rfl,hrun⟩,bd.of rfl rfl rfl,h,⟨hW.aq hj hg' (by rw[hob];exact hK) (fun q hq=>by rw[hob];simpa[ax]using hq) (.inr ⟨bk,ob,cap',_,et,css',by rw[hll],setRow_heap w bk _ _ _ _ h1,by rw[hll];exact h2,h3,?_,q1.ext ex.m0,q3,q5⟩),ex⟩,trivial,fun hgr=>(hgrow hgr).elim,fun ha=>by rw[ho]at ha;cases ha⟩;rw[List.size_toArray,List.length_append,List.length_append,hul,List.length_take,List.length_drop];simp only[Array.length_toList]at q4⊢;omega
theorem BD(hT:bm P tab)(hE:ER F w.heap ⟨E.B,γ⟩ s.env a)(hW:WR E F γ s.ah w.heap){c:Call}(ho:o.op= .call c)(h:Y2 tab s (.call c) k):Dn P s E F γ a w o k:=by
 obtain⟨cl,args,tys⟩:=c;simp only[Y2]at h;have args_eq:∀{l:List Operand},args.toList=l→args=l.toArray:=fun h=>by rw[←h]
 have tys_eq:∀{l:List TypeId},tys.toList=l→tys=l.toArray:=fun h=>by rw[←h]
 split at h
 ·rename_i x y t t2 hargs htys;have hargs:=args_eq hargs;have htys:=tys_eq htys;subst hargs htys;split at h
  ·rename_i d d2 ht ht2;have hk:=hT.kind t d ht;have hk2:=hT.kind t2 d2 ht2;split at h
   ·rename_i e hd;rw[hd]at hk;split at h
    ·rename_i _ _ _ de cx cy hde hx hy;split at h
     ·rename_i _ _ bx by_ hbx hby;obtain⟨hc,xs,ys,hxs,hys,hfit,h⟩:=bM h;simp only[Bool.and_eq_true]at hc;have hc2:=Nat.le_of_ble_eq_true hc.2
      have hdx:∃dx,P.underlying t2=some dx∧∀k,dx≠.int k:=by
       have hc1:=hc.1;revert hk2 hc1;cases d2.kind with
       |sl e=>intro h1 _;exact⟨_,h1,fun _ h=>by cases h⟩
       |str=>intro h1 _;exact⟨_,h1,fun _ h=>by cases h⟩
       |_=>intro _ h2;cases h2
      obtain⟨dx,hu2,hnx⟩:=hdx;obtain⟨i,zv,zs,hi,hsz,hbyt,hz,hzs,hzr⟩:=hT.info e de hde;have hone:=hT.size hde;obtain⟨cs,hr,hrl,hrz,hkill,hty⟩:=AP hW (aU hE hx) hbx hxs;obtain⟨news,hsrc,hnl,hnz⟩:=GG (P:=P) hW (aU hE hy) hby hys;have hnlen:=hnl.length;rw[gT hnz]at hnlen;have hle:xs.length+ys.length≤(xs.length+ys.length)*de.bytes:=Nat.le_mul_of_pos_right _ hc2
      have hzc:zv.cells.size=de.size:=by
       have:=(hzr F w.heap m0).length;rw[hzs,List.size_toArray,←this,hT.zl e de hde]
      obtain⟨v',w',hrun,hA,hr',hK,hbl,hty'⟩:=zt (P:=P) ho hk hu2 hnx hi hsz hz hzc rfl rfl hr hsrc hnl.one hnlen.symm (by rw[hbyt];exact hfit) (by omega);have hcat:RL F w.heap m0 ((xs++ys).flatMap de.enc) (cs++news):=by rw[List.flatMap_append];exact hrl.append hnl
      have hcz:∀x∈xs++ys,(de.enc x).length=de.size:=fun x hx=>(List.mem_append.1 hx).elim (hrz x) (hnz x)
      have hnew:∀{m:Md},RL F w'.heap m0 ((xs++ys).flatMap de.enc) (cs++news)→BR F w'.heap m (qn s.ah cx e de.size de.α de.enc (xs++ys)) v'∧ax (qn s.ah cx e de.size de.α de.enc (xs++ys)) v'=aS v':=fun{m} hrl'=>by
       have row:BR F w'.heap m (.row de.size de.α de.enc (xs++ys)) v'∧ax (.row de.size de.α de.enc (xs++ys)) v'=aS v':=⟨pI hr' (by simp) hrl' hcz,kL _⟩;unfold qn;split
       ·split
        ·rename_i j _ t _ _ _ _ hj;cases hte:Nat.beq t e with
         |true=>
          obtain rfl:=Nat.eq_of_beq_eq_true hte;exact⟨CR hr' (hty' (hty _ _ _ _ _ _ rfl hj)) (by simp) hrl' hcz,yz _⟩
         |false=>exact row
        ·exact row
       ·exact row
      refine⟨_,v',w',_,_,F,γ++[v'],⟨.inl rfl,hrun⟩,hA,h,?_,?_,fun hg=>?_,fun ha=>⟨hK.1,fun j0 cs0 ty0 v0 hj0 hg0 q hq=>hK.2 q (eM (hW.br j0 _ _ hj0 hg0) q hq) fun hin=>?_⟩⟩
      ·rcases hkill with⟨hk1,hk2⟩|⟨j,b,g,hk1,hj,hg,hnb,hk2⟩
       ·rw[hk2]at hK;have ex:=hW.ext (W:=[]) (fun k hk=>by cases hk) hK [v'];rw[hk1];refine⟨hW.push hK (fun q hq=>?_) (hnew (hcat.ext ex.m0)).1,ex⟩;rw[(hnew (m:=m0) (hcat.ext ex.m0)).2]at hq;rcases hbl q hq with h1|h1
        ·rw[hk2]at h1;cases h1
        ·exact h1
       ·have hK':ak (ax b g) w.heap w'.heap:=hK.mono hk2;have ex:=hW.ext (fun q hq=>hW.nf j b g q hj hg hq) hK' [v'];rw[hk1];refine⟨hW.move hj hg hK' (fun q hq=>?_) (hnew (hcat.ext ex.m0)).1,ex⟩;rw[(hnew (m:=m0) (hcat.ext ex.m0)).2]at hq;exact(hbl q hq).imp (hk2 q) id
      ·obtain⟨p,cap,hv'⟩:∃p cap,v'= .slice p (xs.length+ys.length) cap:=by
        rcases hr'.2 with⟨p,h1,h2⟩|⟨g,off,cap,cur,et,h1,_⟩
        ·exact⟨p,0,by rw[h1,h2]⟩
        ·exact⟨_,_,h1⟩
       rw[hv'];exact .rw (getLast_append hW.len.symm) (fun _=>rfl) .nl
      ·rw[ho]at hg;simp only[jJ,hx]at hg
       have hnil:cx= .nil:=by
        revert hg;cases cx<;>first|(intro;rfl)|(intro h;cases h)
       subst hnil;have hcx:=aU hE hx;generalize a.eval x=vx at hcx hK;cases hcx;exact hK
      ·rcases hkill with⟨hk1,hk2⟩|⟨j,b,g,hk1,hj,hg,hnb,hk2⟩
       ·rw[hk2]at hin;cases hin
       ·by_cases e:j0=j
        ·subst e;exact hnb _ _ hj0
        ·exact hW.cK j0 j _ _ _ _ e hj0 hg0 hj hg q hq (hk2 q hin)
     ·exact h.elim
    ·exact h.elim
   ·exact h.elim
  ·exact h.elim
 ·rename_i x t hargs htys;have hargs:=args_eq hargs;have htys:=tys_eq htys;subst hargs htys;split at h
  ·rename_i d ht;have hk:=hT.kind t d ht;split at h
   ·rename_i e hd;rw[hd]at hk;split at h
    ·rename_i _ _ de sz j lo n hde hx;split at h
     ·rename_i sz' α enc l hj;obtain⟨hc,z,hz,hfit,h⟩:=bM h;simp only[Bool.and_eq_true]at hc;obtain rfl:=Nat.eq_of_beq_eq_true hc.1;exact BG hT hE hW ho hk hde hx hj (Nat.eq_of_beq_eq_true hc.2.1.1) (Nat.le_of_ble_eq_true hc.2.1.2) hc.2.2 hz hfit h
     ·exact h.elim
    ·exact h.elim
   ·exact h.elim
  ·exact h.elim
 ·exact h.elim
theorem WR.FC{H H':ab}{ah:List B}(h:WR E F γ ah H){b:Nat}(hb:E.own b∨E.H0.size≤b)(hF:F b)(hs:H'.size=H.size)(hc:∀o,cell H' b o=cell H b o)(hk:∀k,k≠b→H'[k]? =H[k]?):WR E F γ ah H'∧Ext F H ⟨E.B,γ⟩ F H' ⟨E.B,γ⟩:=by
 have e : Ext F H ⟨E.B, γ⟩ F H' ⟨E.B, γ⟩ := ⟨fun _ h=>h,fun b' o u _ hu=>by
  by_cases hbb:b'=b
  ·subst hbb;rw[hc];exact hu
  ·exact rV (hk b' hbb) hu,fun _ h=>h,fun _ _ h=>h⟩
 refine⟨⟨h.len,fun j b' g hj hg=>BR.ext e (fun k hk'=>hk k (fun he=>(h.nf j b' g k hj hg hk').1 (he▸hF))) (h.br j b' g hj hg),h.cK,h.nf,fun k hk'=>by rw[hs];exact h.fb k hk',h.bb,by rw[hs];exact h.size,fun k h1 h2=>?_,h.fmono,h.fnew,h.onew,h.pre⟩,e⟩;have:k≠b:=fun he=>by subst he;exact hb.elim h2 (fun h3=>by omega)
 rw[hk k this];exact h.bQ k h1 h2
theorem BI(hT:bm P tab)(hE:ER F w.heap ⟨E.B,γ⟩ s.env a)(hW:WR E F γ s.ah w.heap){t e:Nat}{x:Operand}{j:Nat}{α:Type}{enc:α→List C}{y:α}{l:List α}(ho:o.op= .convert t t x)(hx:aM s x= .c (.rw j))(ht:P.underlying t=some (.slice e))(he:P.underlying e=some (.int .u8))
  (hj:s.ah[j]? =some (.row 1 α enc (y::l)))(h:k (s.ah.set j (.fro 1 α enc (y::l))) (.c (.ls 1 α enc (y::l)))):Dn P s E F γ a w o k:=by
 have hc:=aU hE hx;generalize hv:a.eval x=v at hc;cases hc with
 | @rw _ _ p q n cap _ _ hg hqq _=>
  have hg:γ[j]? =some (.slice p n cap):=hg;obtain⟨F',hF',hW',hls⟩:=hW.freeze hj;have hls:=hls _ hg;rcases hW.br j _ _ hj hg with⟨p',_,h0⟩|⟨kb,off,cap',cur,el,css,hgv,hcell,h2,h3,h4,h5,h6,h7⟩
  ·cases h0
  cases hgv;have hq:q=some ⟨kb,off,none⟩:=hqq (by omega);subst hq;have hkb:kb∈ax (.row 1 α enc (y::l)) (.slice (some ⟨kb,off,none⟩) (y::l).length (cap'+1)):=by simp[ax]
  have hFk:F' kb:=by
   cases hls with
   |ls hb _ _ _ _ _ _=>exact hb
  have hlt:kb<w.heap.size:=(Array.getElem?_eq_some_iff.1 hcell).1;let H':ab:=w.heap.set kb (.cells cur el (cur.size,cur.size+1))
  have hH':w.heap.modify kb (fun| .cells c elem (lo,hi)=>.cells c elem (if lo==hi then(cur.size,cur.size+1)else(min lo cur.size,max hi (cur.size+1)))|o=>o)=H':=by
   apply Array.ext_getElem?;intro i;rw[Array.getElem?_modify,Array.getElem?_set hlt];split
   ·rename_i h;subst h;rw[hcell];simp
   ·rfl
  obtain ⟨hW2, hext⟩ := hW'.FC (H' := H') (hW.onew j _ _ kb hj hg hkb) hFk (by simp [H']) (fun o=>by
   unfold cell;rw[Array.getElem?_set hlt,if_pos rfl,hcell]) (fun i hi=>by rw[Array.getElem?_set hlt,if_neg (fun h=>hi h.symm)])
  refine⟨_,.slice (some ⟨kb,off,none⟩) (y::l).length (cap'+1),w.freeze ⟨kb,cur.size,none⟩ 1,_,_,F',γ,⟨.inl rfl,?_⟩,bd.of rfl rfl rfl,h,?_,?_,fun hg=>by rw[ho]at hg;simp[jJ,hx]at hg,fun ha=>by rw[ho]at ha;cases ha⟩
  ·unfold execOp;rw[ho];have hs:w.shape? kb=some (el,cur.size):=by unfold World.shape?;rw[hcell]
   simp[hv,convert,run_underlying ht,run_underlying he,markStringish,hs]
  ·have hw:(w.freeze ⟨kb,cur.size,none⟩ 1).heap=H':=by
    unfold World.freeze;rw[if_neg (by decide)];exact hH'
   rw[hw];exact⟨hW2,⟨fun k hk=>hF' k hk,fun b o u hb hu=>hext.h b o u (hb.imp (hF' b) id) hu,fun _ h=>h,fun _ _ h=>h⟩⟩
  ·have hw:(w.freeze ⟨kb,cur.size,none⟩ 1).heap=H':=by
    unfold World.freeze;rw[if_neg (by decide)];exact hH'
   rw[hw];exact RL.up (hls.ext ⟨fun _ h=>h,fun b o u hb hu=>hext.h b o u (.inl (hb.elim id False.elim)) hu,fun _ h=>h,fun _ _ h=>h⟩)
theorem BH(hT:bm P tab)(hE:ER F w.heap ⟨E.B,γ⟩ s.env a)(hW:WR E F γ s.ah w.heap){t u:Nat}{x:Operand}(ho:o.op= .convert t u x)(h:Y2 tab s (.convert t u x) k):Dn P s E F γ a w o k:=by
 simp only[Y2]at h;split at h
 ·rename_i _ _ _ d d' l ht hu hx;have hk:=hT.kind t d ht;have hk':=hT.kind u d' hu;have hc:=aU hE hx;split at h
  ·rename_i e h1 h2;rw[h1]at hk;rw[h2]at hk';split at h
   ·rename_i de hde;have hke:=hT.kind e de hde;split at h
    ·rename_i h3;rw[h3]at hke;generalize hv:a.eval x=v at hc;cases hc with
     |str hl _=>
      have hrun:=run_bytes_of_string (P:=P) w t u e ⟨l.toArray⟩ hk hk' hke;have hsz:(⟨l.toArray⟩:ByteArray).size=l.length:=rfl;rw[hsz]at hrun;have hge:=grownCap_ge w l.length 0 e;have hcm:=grownCap_le_maxLen w l.length 0 e (show l.length≤maxLen from hl);generalize grownCap w l.length 0 e=cap at hrun hge hcm;generalize hB:Obj.cells (bytesRow ⟨l.toArray⟩ cap) e ((bytesRow ⟨l.toArray⟩ cap).size,(bytesRow ⟨l.toArray⟩ cap).size+1)=ob at hrun;have hKp:ak [] w.heap (w.heap.push ob):=ak.push [] _ _;have ex:=hW.ext (W:=[]) (γ':=[]) (fun k hk=>by cases hk) hKp;rw[List.append_nil]at ex;refine⟨_,.slice (some ⟨w.heap.size,0,none⟩) l.length cap,w.drew.alloc ob,_,_,fun q=>F q∨q=w.heap.size,γ,⟨.inl rfl,?_⟩,bd.of rfl rfl rfl,h,⟨hW.CP hKp (by simp),⟨fun _ h=>.inl h,ex.h,ex.b,ex.g⟩⟩,?_,fun _=>hKp,fun ha=>by rw[ho]at ha;cases ha⟩
      ·unfold execOp;rw[ho];simp[hv,NB.str,hrun]
      ·refine .ls (.inr rfl) hge hcm (nN l) (fun x hx=>rfl) (fun j q hj=>?_) .nl;show cell (w.heap.push ob) _ _=_;unfold cell
       have hjl:j<l.length:=by
        have:=(List.getElem?_eq_some_iff.1 hj).1;simpa using this
       rw[←hB];simp only[Array.getElem?_push_size,Nat.zero_add];unfold bytesRow;rw[Array.getElem?_append_left (by simpa using hjl)];rw[List.getElem?_map]at hj;simp only[Array.getElem?_map,List.getElem?_toArray];exact hj
    ·exact h.elim
   ·exact h.elim
  ·exact h.elim
 ·rename_i _ _ _ d d' j ht hu hx;have hk:=hT.kind t d ht;split at h
  ·rename_i e e' h1 h2;rw[h1]at hk;have hcc:=bM h;clear h;obtain⟨hcc,h⟩:=hcc;rw[Bool.and_eq_true]at hcc;obtain rfl:=Nat.eq_of_beq_eq_true hcc.2;split at h
   ·rename_i de hde;have hke:=hT.kind e de hde;split at h
    ·rename_i h3;rw[h3]at hke;split at h
     ·rename_i hj;exact BI hT hE hW ho hx hk hke hj h
     ·exact h.elim
    ·exact h.elim
   ·exact h.elim
  ·exact h.elim
 ·exact h.elim
theorem Aw(hT:bm P tab)(hE:ER F w.heap ⟨E.B,γ⟩ s.env a)(hW:WR E F γ s.ah w.heap)(h:Y2 tab s o.op k):Dn P s E F γ a w o k:=by
 generalize ho:o.op=op at h;cases op with
 |alloc t=>exact BC hT hW ho h
 |box t x=>exact BE hE hW ho h
 |buildSlice t n parts=>exact BF hT hE hW ho h
 |makeSlice t x y=>exact BJ hT hE hW ho h
 |store t x y=>exact BK hT hE hW ho h
 |convert t u x=>exact BH hT hE hW ho h
 |call c=>exact BD hT hE hW ho h
 |_=>simp only[Y2]at h
end
end Go.AM
end
section
namespace Go.AM
open Go Go.NB
inductive Rn where
 |new
 |same (j:Nat)
 |cut (sz j lo n:Nat)
def iY(f:C→C→Prop):List C→List C→Prop
 |[],[]=>True
 |x::r,y::q=>f x y∧iY f r q
 |_,_=>False
def mP(f:C→C→Prop):List C→List C→Prop
 |_,[]=>True
 |x::r,y::q=>f x y∧mP f r q
 |[],_::_=>False
def nO(fr:Nat→Bool)(ah:List B)(j:Nat):Bool:=match ah[j]? with
 |some (.fro ..)=>true
 |some (.row ..)=>fr j
 |some (.box _ _)=>fr j
 |_=>false
def mC(fr:Nat→Bool)(ah:List B):Nat→List Rn→C→C→Prop
 |0,_,_,_=>False
 |n+1,ρ,c0,c=>match c with
  | .rw i=>match ρ[i]? with
   |some (.same j)=>c0= .rw j
   |some .new=>c0= .nil
   |some (.cut sz j lo m)=>c0= .sw sz j lo m
   |none=>False
  | .sw sz i lo m=>match ρ[i]? with
   |some (.same j)=>c0= .sw sz j lo m
   |_=>False
  | .ptr i o=>match ρ[i]? with
   |some (.same j)=>c0= .ptr j o
   |_=>False
  | .ep sz i x o=>match ρ[i]? with
   |some (.same j)=>c0= .ep sz j x o
   |_=>False
  | .ls sz α enc l=>match c0 with
   | .nil=>l=[]
   | .ls sz' α' enc' l'=>(⟨sz',α',enc',l'⟩:LS)=⟨sz,α,enc,l⟩
   | .rw j=>match ah[j]? with
    |some (.fro sz' α' enc' l')=>(⟨sz',α',enc',l'⟩:LS)=⟨sz,α,enc,l⟩
    |_=>False
   | .sw sz0 j lo m=>match ah[j]? with
    |some (.fro sz' α' enc' l')=>bif Nat.beq sz0 sz' then(⟨sz',α',enc',(l'.drop lo).take m⟩:LS)=⟨sz,α,enc,l⟩else False
    |_=>False
   |_=>False
  | .bs sz α enc l=>match c0 with
   | .nil=>l=[]
   | .ls sz' α' enc' l'=>(⟨sz',α',enc',l'⟩:LS)=⟨sz,α,enc,l⟩
   | .bs sz' α' enc' l'=>(⟨sz',α',enc',l'⟩:LS)=⟨sz,α,enc,l⟩
   | .rw j=>bif nO fr ah j then(ah[j]?).bind rowOf=some ⟨sz,α,enc,l⟩else False
   | .sw sz0 j lo m=>bif nO fr ah j then jw ah (.sw sz0 j lo m)=some ⟨sz,α,enc,l⟩else False
   |_=>False
  | .bp cs=>match c0 with
   | .bp cs0=>mP (mC fr ah n []) cs0 cs
   | .ptr j o=>match ah[j]? with
    |some (.box cs0 _)=>bif fr j then mP (mC fr ah n []) (cs0.drop o) cs else False
    |_=>False
   | .ep sz j i o=>bif nO fr ah j then match(ah[j]?).bind rowOf with
    |some L=>bif Nat.beq sz L.sz then∃x,L.l[i]? =some x∧mP (mC fr ah n []) ((L.enc x).drop o) cs else False
    |none=>False
    else False
   |_=>False
  | .fn f caps=>match c0 with
   | .fn f0 caps0=>f0=f∧iY (mC fr ah n ρ) caps0 caps
   |_=>False
  | .iface t g cs=>match c0 with
   | .iface t0 g0 cs0=>(t0=t∧g0=g)∧iY (mC fr ah n ρ) cs0 cs
   |_=>False
  |c=>c0=c
def bE(γ:List Value):Rn→Value
 | .same j=>(γ[j]?).getD undef
 | .new=>.slice none 0 0
 | .cut sz j lo n=>match γ[j]? with
  |some (.slice p _ cap)=>.slice (p.map (·.add (lo*sz))) n (cap-lo)
  |_=>undef
section
variable {E:En} {F:Nat→Prop} {γ:List Value} {ah:List B} {H:ab} {B':Nat→Prop} {fr:Nat→Bool}
theorem RL.tB{m m':Md}{sz:Nat}{α:Type}{enc:α→List C}{l:List α}{v:Value}(h:RL F H m [.ls sz α enc l] [v]):RL F H m' [.ls sz α enc l] [v]:=by
 cases h with
 |ls0 _=>exact .ls0 .nl
 |ls hb h1 h2 hr hz hc _=>exact .ls hb h1 h2 hr hz hc .nl
theorem RL.yl{m m':Md}{sz:Nat}{α:Type}{enc:α→List C}{l:List α}{v:Value}(h:RL F H m [.ls sz α enc l] [v]):RL F H m' [.bs sz α enc l] [v]:=by
 cases h with
 |ls0 _=>exact .bs0 .nl
 |ls hb h1 h2 hr hz hc _=>exact .bs (.inl hb) h1 h2 hr hz hc .nl
theorem RL.A1{m:Md}{sz:Nat}{α:Type}{enc:α→List C}{l:List α}{p q:Option Addr}{n cap:Nat}(hs:SV F H ⟨sz,α,enc,l⟩ (.slice p n cap))(h:RL F H m [.bs sz α enc l] [.slice p n cap])(hq:cap≠0→q=p):RL F H m [.bs sz α enc l] [.slice q n cap]:=by
 by_cases e:cap=0
 ·obtain⟨p',cap',e',h1,_⟩:=hs.slice;cases e';have h1:l.length≤cap:=h1;have:l=[]:=List.eq_nil_of_length_eq_zero (by omega);subst this;rw[e];exact .bs0 .nl
 ·rw[hq e];exact h
theorem uo{b:B}{g:Value}{L:LS}{m m':Md}(h:BR F H m b g)(hL:rowOf b=some L)(hB:∀k∈ax b g,m'.B k):RL F H m' [.bs L.sz L.α L.enc L.l] [g]:=by
 cases b with
 |box cs ty=>cases hL
 |dead=>cases hL
 |buf=>cases hL
 |row sz α enc l=>
  have hs:=jY h hL;cases hL;rcases h with⟨p,rfl,rfl⟩|⟨k,off,cap,cur,t,css,rfl,h1,h2,h3,h4,h5,h6,h7⟩
  ·exact .bs0 .nl
  ·rcases hs with⟨p',e,e2⟩|⟨b,off',cap',css',e,g1,g2,g3,g4,g5⟩
   ·simp at e
   ·simp at e;obtain⟨⟨rfl,rfl⟩,rfl⟩:=e;exact .bs (.inr (hB k (by simp[ax]))) g1 g2 g3 g4 g5 .nl
 |fro sz α enc l=>cases hL;exact RL.yl h
theorem sH(hfr:∀j b g,fr j=true→ah[j]? =some b→γ[j]? =some g→∀k∈ax b g,B' k){j:Nat}{b:B}{g:Value}(h:nO fr ah j=true)(hb:ah[j]? =some b)(hg:γ[j]? =some g):∀k∈ax b g,B' k:=by
 unfold nO at h;rw[hb]at h;cases b with
 |fro=>intro k hk;simp[ax]at hk
 |row=>exact hfr j _ _ h hb hg
 |box=>exact hfr j _ _ h hb hg
 |dead=>cases h
 |buf=>cases h
theorem yS{f:C→C→Prop}{m m':Md}(hf:∀c0 c v,f c0 c→RL F H m [c0] [v]→RL F H m' [c] [v]):∀{cs0 cs:List C} {vs:List Value},mP f cs0 cs→RL F H m cs0 vs→∃us:List Value,RL F H m' cs us∧∀(j:Nat) (u:Value),us[j]? =some u→vs[j]? =some u
 |_,[],vs,_,_=>⟨[],.nl,fun j u h=>by simp at h⟩
 |c0::cs0,c::cs,vs,⟨h1,h2⟩,hr=>by
  obtain⟨v,us,rfl,h3,h4⟩:=hr.ic;obtain⟨us',h5,h6⟩:=yS hf h2 h4;refine⟨v::us',(hf _ _ _ h1 h3).cons h5,fun j u hj=>?_⟩;cases j with
  |zero=>simpa using hj
  |succ j=>simpa using h6 j u (by simpa using hj)
theorem lW{f:C→C→Prop}{m m':Md}(hf:∀c0 c v,f c0 c→RL F H m [c0] [v]→RL F H m' [c] [v]):∀{cs0 cs:List C} {vs:List Value},iY f cs0 cs→RL F H m cs0 vs→RL F H m' cs vs
 |[],[],vs,_,hr=>by cases hr;exact .nl
 |c0::cs0,c::cs,vs,⟨h1,h2⟩,hr=>by
  obtain⟨v,us,rfl,h3,h4⟩:=hr.ic;exact(hf _ _ _ h1 h3).cons (lW hf h2 h4)
theorem uZ{f:C→C→Prop}:∀{cs0 cs:List C},iY f cs0 cs→cs0.length=cs.length
 |[],[],_=>rfl
 |_::_,_::_,⟨_,h⟩=>by simp[uZ h]
theorem RL.tN{m:Md}{cs:List C}{vs:List Value}(h:RL F H ⟨m.B,[]⟩ cs vs):RL F H m cs vs:=h.ext ⟨fun _ h=>h,fun _ _ _ _ h=>h,fun _ h=>h,fun j v h=>by cases h⟩
theorem AZ{m:Md}{sz:Nat}{α:Type}{enc:α→List C}{l:List α}{b off n cap:Nat}(h:RL F H m [.bs sz α enc l] [.slice (some ⟨b,off,none⟩) n cap])(hl:l≠[]):F b∨m.B b:=by
 cases h with
 |bs0 _=>exact(hl rfl).elim
 |bs hb _ _ _ _ _ _=>exact hb
theorem tF(hW:WR E F γ ah H)(hB:∀k,E.B k→B' k)(hfr:∀j b g,fr j=true→ah[j]? =some b→γ[j]? =some g→∀k∈ax b g,B' k):
  ∀(n:Nat) {ρ:List Rn} {c0 c:C} {v:Value},mC fr ah n ρ c0 c→RL F H ⟨E.B,γ⟩ [c0] [v]→RL F H ⟨B',ρ.map (bE γ)⟩ [c] [v]:=by
 intro n;induction n with
 |zero=>intro ρ c0 c v h;exact h.elim
 |succ n ih=>
  intro ρ c0 c v h hr
  have hat:∀{i j:Nat} {g:Value},ρ[i]? =some (.same j)→γ[j]? =some g→(ρ.map (bE γ))[i]? =some g:=fun hi hg=>by
   rw[List.getElem?_map,hi];simp[bE,hg]
  have bpc:∀{b o:Nat} {cs0 cs:List C} {vs:List Value} {m:Md},(F b∨B' b)→RL F H ⟨E.B,γ⟩ cs0 vs→(∀j u,vs[j]? =some u→cell H b (o+j)=some u)→mP (mC fr ah n []) cs0 cs→RL F H ⟨B',ρ.map (bE γ)⟩ [.bp cs] [.pointer (some ⟨b,o,none⟩)]:=fun hb h1 h2 h3=>by
   obtain⟨us,g1,g2⟩:=yS (m':=⟨B',[]⟩) (fun c0 c v h hr=>ih (ρ:=[]) h hr) h3 h1;exact .bp hb g1 (fun j u hj=>h2 j u (g2 j u hj)) .nl
  cases c with
  |rw i=>
   simp only[mC]at h;split at h
   ·rename_i j hi;subst h;cases hr with
    |rw hg hq _=>exact .rw (hat hi hg) hq .nl
   ·rename_i hi;subst h;cases hr;refine .rw (p:=none) (by rw[List.getElem?_map,hi];rfl) (fun h=>(h rfl).elim) .nl
   ·rename_i sz j lo m hi;subst h;cases hr with
    | @sw _ _ _ _ _ p q n0 cap _ _ hg hle hq _=>
     have hg':γ[j]? =some _:=hg;exact .rw (p:=p.map (·.add (lo*sz))) (by rw[List.getElem?_map,hi];simp[bE,hg']) (fun h=>hq (by omega)) .nl
   ·exact h.elim
  |sw sz i lo m=>
   simp only[mC]at h;split at h
   ·rename_i j hi;subst h;cases hr with
    |sw hg hle hq _=>exact .sw (hat hi hg) hle hq .nl
   ·exact h.elim
  |ptr i o=>
   simp only[mC]at h;split at h
   ·rename_i j hi;subst h;cases hr with
    |ptr hg _=>exact .ptr (hat hi hg) .nl
   ·exact h.elim
  |ep sz i x o=>
   simp only[mC]at h;split at h
   ·rename_i j hi;subst h;cases hr with
    |ep hg _=>exact .ep (hat hi hg) .nl
   ·exact h.elim
  |ls sz α enc l=>
   simp only[mC]at h;split at h
   ·subst h;cases hr;exact .ls0 .nl
   ·cases h;exact hr.tB
   ·split at h
    ·rename_i hb;cases h;cases hr with
     |rw hg hq _=>exact RL.tB (m:=m0) ((RL.up (m:=m0) (hW.br _ _ _ hb hg)).ud hq)
    ·exact h.elim
   ·rename_i sz0 j lo m;split at h
    ·rename_i sz' α' enc' l' hb;obtain⟨hz,h⟩:=bM h;obtain rfl:=Nat.eq_of_beq_eq_true hz;have h1:=xe hW hr;rw[show cc ah (.sw sz0 j lo m)=(ah,.ls sz0 α' enc' ((l'.drop lo).take m))by simp only[cc,hb,hz,cond_true]]at h1;cases hr with
     | @sw _ _ _ _ _ p q n0 cap _ _ hg hle hq _=>
      have hf:RL F H m0 [.ls sz0 α' enc' l'] [.slice p n0 cap]:=hW.br _ _ _ hb hg;cases h
      have hn:n0=l'.length:=by
       obtain⟨p',cap',e,_⟩:=hf.sv.slice;cases e;rfl
      by_cases e:cap=lo
      ·obtain⟨p',cap',e',g1,_⟩:=hf.sv.slice;cases e';have g1:l'.length≤cap:=g1;obtain rfl:m=0:=by omega
       rw[List.take_zero,e,Nat.sub_self];exact .ls0 .nl
      ·have:=hf.cut (x:=lo) (y:=lo+m) (by omega) (by omega);simp only[fA,if_neg e]at this;rw[hq e];rw[show lo+m-lo=m by omega]at this;exact this.tB
    ·exact h.elim
   ·exact h.elim
  |bs sz α enc l=>
   simp only[mC]at h;split at h
   ·subst h;cases hr;exact .bs0 .nl
   ·cases h;exact hr.yl
   ·cases h;cases hr with
    |bs0 _=>exact .bs0 .nl
    |bs hb h1 h2 hr hz hc _=>exact .bs (hb.imp id (hB _)) h1 h2 hr hz hc .nl
   ·rename_i j;obtain⟨hf,h⟩:=bM h;obtain⟨b,hb,hL⟩:=Option.bind_eq_some_iff.1 h;cases hr with
    |rw hg hq _=>
     have hg':γ[j]? =some _:=hg;exact RL.A1 (jY (hW.br _ _ _ hb hg') hL) (uo (m':=⟨B',ρ.map (bE γ)⟩) (hW.br _ _ _ hb hg') hL (sH hfr hf hb hg')) hq
   ·rename_i sz0 j lo m;obtain⟨hf,h⟩:=bM h;have hs:=hW.sl hr h;cases hr with
    | @sw _ _ _ _ _ p q n0 cap _ _ hg hle hq _=>
     have hg':γ[j]? =some _:=hg;simp only[jw]at h;cases hb:(ah[j]?).bind rowOf with
     |none=>rw[hb]at h;cases h
     |some L0=>
      rw[hb]at h;simp only[]at h;by_cases hz:Nat.beq sz0 L0.sz=true
      ·rw[hz]at h;obtain⟨b,hb1,hL⟩:=Option.bind_eq_some_iff.1 hb;have hz:=Nat.eq_of_beq_eq_true hz;have hrow:=uo (m':=⟨B',ρ.map (bE γ)⟩) (hW.br _ _ _ hb1 hg') hL (sH hfr hf hb1 hg');have hsv:=jY (hW.br _ _ _ hb1 hg') hL
       have hn:n0=L0.l.length:=by
        obtain⟨p',cap',e,_⟩:=hsv.slice;cases e;rfl
       cases h;by_cases e:cap=lo
       ·obtain⟨p',cap',e',g1,_⟩:=hsv.slice;cases e';obtain rfl:m=0:=by omega
        rw[List.take_zero,e,Nat.sub_self];exact .bs0 .nl
       ·have:=RL.wv hsv hrow (x:=lo) (y:=lo+m) (by omega) (by omega);simp only[fA,if_neg e]at this;rw[hq e,hz];rw[show lo+m-lo=m by omega]at this;exact this
      ·rw[Bool.not_eq_true]at hz;rw[hz]at h;cases h
   ·exact h.elim
  |bp cs=>
   simp only[mC]at h;split at h
   ·cases hr with
    |bp hb hr' hc _=>exact bpc (m:=m0) (hb.imp id (hB _)) hr'.tN hc h
   ·rename_i j o;split at h
    ·rename_i cs0 hb;obtain⟨hf,h⟩:=bM h;cases hr with
     |ptr hg _=>
      have hg':γ[j]? =some _:=hg;obtain⟨k',vs,e,h1,h2⟩:=ph (o:=o) (hW.br j _ _ hb hg');cases e;exact bpc (m:=m0) (.inr (hfr j _ _ hf hb hg' _ (by simp[ax]))) h1 h2 h
    ·exact h.elim
   ·rename_i sz j i o;obtain⟨hf,h⟩:=bM h;split at h
    ·rename_i L hL;obtain⟨hz,x,hi,h'⟩:=bM h;obtain rfl:=Nat.eq_of_beq_eq_true hz;obtain⟨b,hb,hL⟩:=Option.bind_eq_some_iff.1 hL;cases hr with
     |ep hg _=>
      have hg':γ[j]? =some _:=hg;obtain⟨us,h1,h2⟩:=zn (hW.br j b _ hb hg') hL rfl hi o;have hbl:=uo (m':=⟨B',[]⟩) (hW.br j b _ hb hg') hL (sH hfr hf hb hg');have hblk:=AZ hbl (List.ne_nil_of_length_pos (by have:=(List.getElem?_eq_some_iff.1 hi).1;omega));exact bpc (m:=m0) hblk h1.up h2 h'
    ·exact h.elim
   ·exact h.elim
  |fn f caps=>
   simp only[mC]at h;split at h
   ·obtain⟨rfl,h⟩:=h;cases hr with
    |fn hr' _=>exact .fn (lW (fun c0 c v h hr=>ih h hr) h hr') .nl
   ·exact h.elim
  |iface t g cs=>
   simp only[mC]at h;split at h
   ·obtain⟨⟨rfl,rfl⟩,h⟩:=h;cases hr with
    |iface hr' _=>exact .iface (lW (fun c0 c v h hr=>ih h hr) h hr') .nl
   ·exact h.elim
  |int k i=>simp only[mC]at h;subst h;cases hr;exact .int .nl
  |bool b=>simp only[mC]at h;subst h;cases hr;exact .bool .nl
  |str l=>simp only[mC]at h;subst h;cases hr with|str h _=>exact .str h .nl
  |raw v=>simp only[mC]at h;subst h;cases hr with|raw h _=>exact .raw h .nl
  |nil=>simp only[mC]at h;subst h;cases hr;exact .nil .nl
end
end Go.AM
end
section
namespace Go.AM
open Go Go.NB
def uG:Option Nat→Option Nat→Prop
 |none,_=>True
 |some q,t0=>t0=some q
theorem G9{t t0:Option Nat}(h:uG t t0)(e:Nat):t.getD (t0.getD e)=t0.getD e:=by
 cases t with
 |none=>rfl
 |some q=>rw[show t0=some q from h];rfl
def mB(fr:Nat→Bool)(ah:List B)(ρ:List Rn)(r:Rn)(b:B):Prop:=
 match b with
 | .dead=>True
 | .box cs t=>match r with
  | .same j=>match ah[j]? with
   |some (.box cs0 t0)=>uG t t0∧iY (mC fr ah 5 ρ) cs0 cs
   |_=>False
  |_=>False
 | .row sz α enc l=>match r with
  | .same j=>match ah[j]? with
   |some (.row sz' α' enc' l')=>(⟨sz',α',enc',l'⟩:LS)=⟨sz,α,enc,l⟩
   |_=>False
  | .new=>l=[]
  | .cut sz0 j lo m=>match ah[j]? with
   |some (.row sz' α' enc' l')=>bif Nat.beq sz0 sz' then lo+m≤l'.length∧(⟨sz',α',enc',(l'.drop lo).take m⟩:LS)=⟨sz,α,enc,l⟩else False
   |_=>False
 | .fro sz α enc l=>match r with
  | .same j=>match ah[j]? with
   |some (.fro sz' α' enc' l')=>(⟨sz',α',enc',l'⟩:LS)=⟨sz,α,enc,l⟩
   |_=>False
  |_=>False
 | .buf t sz α enc l=>match r with
  | .same j=>match ah[j]? with
   |some (.buf t' sz' α' enc' l')=>t'=t∧(⟨sz',α',enc',l'⟩:LS)=⟨sz,α,enc,l⟩
   |_=>False
  | .new=>l=[]
  |_=>False
def jR(fr:Nat→Bool)(ah:List B)(ρ:List Rn):List Rn→List B→Prop
 |[],[]=>True
 |r::rs,b::bs=>mB fr ah ρ r b∧jR fr ah ρ rs bs
 |_,_=>False
def j4:Rn→List Nat
 | .same j=>[j]
 | .cut _ j _ _=>[j]
 | .new=>[]
def n3:B→Bool
 | .box .. | .row .. | .buf .. =>true
 |_=>false
def cu:List Rn→List B→List Nat
 |r::rs,.box _ _::bs=>j4 r++cu rs bs
 |r::rs,.row .. ::bs=>j4 r++cu rs bs
 |r::rs,.buf .. ::bs=>j4 r++cu rs bs
 |_::rs,_::bs=>cu rs bs
 |_,_=>[]
def dP:List Nat→Bool
 |[]=>true
 |j::r=> !(r.any (Nat.beq j))&&dP r
theorem qq:∀{l:List Nat},dP l=true→l.Nodup
 |[],_=>.nil
 |j::r,h=>by
  simp only[dP,Bool.and_eq_true,Bool.not_eq_true',List.any_eq_false]at h;refine List.nodup_cons.2 ⟨fun hj=>h.1 j hj (Nat.beq_refl j),qq h.2⟩
section
variable {E:En} {F:Nat→Prop} {γ:List Value} {ah:List B} {H:ab} {B':Nat→Prop} {fr:Nat→Bool} {ρ:List Rn} {tah:List B}
theorem qc:∀{rs:List Rn} {bs:List B},jR fr ah ρ rs bs→rs.length=bs.length∧∀(i:Nat) (b:B),bs[i]? =some b→∃r,rs[i]? =some r∧mB fr ah ρ r b
 |[],[],_=>⟨rfl,fun i b h=>by simp at h⟩
 |r::rs,b::bs,⟨h1,h2⟩=>by
  obtain⟨h3,h4⟩:=qc h2;refine⟨by simp[h3],fun i b' h=>?_⟩;cases i with
  |zero=>cases h;exact⟨r,rfl,h1⟩
  |succ i=>simpa using h4 i b' (by simpa using h)
theorem qb(hW:WR E F γ ah H){r:Rn}{b:B}(h:mB fr ah ρ r b):∀k∈ax b (bE γ r),∃j bj gj,j4 r=[j]∧ah[j]? =some bj∧γ[j]? =some gj∧k∈ax bj gj∧n3 b=true:=by
 intro k hk;have gget:∀{j:Nat} {bj:B},ah[j]? =some bj→∃gj,γ[j]? =some gj:=fun hj=>⟨_,List.getElem?_eq_getElem (by rw[hW.len];exact(List.getElem?_eq_some_iff.1 hj).1)⟩;cases b with
 |dead=>simp[ax]at hk
 |fro=>simp[ax]at hk
 |buf t sz α enc l=>
  cases r with
  |same j=>
   simp only[mB]at h;split at h
   ·rename_i hj;obtain⟨gj,hg⟩:=gget hj;refine⟨j,_,gj,rfl,hj,hg,?_,rfl⟩;simp only[bE,hg,Option.getD_some]at hk;cases gj with
    |slice p n c=>cases p<;>cases c<;>first|(simp[ax]at hk;done)|simpa[ax]using hk
    |_=>simp[ax]at hk
   ·exact h.elim
  |new=>simp[bE,ax]at hk
  |cut=>simp only[mB]at h
 |box cs ty=>
  cases r with
  |same j=>
   simp only[mB]at h;split at h
   ·rename_i cs0 t0 hj;obtain⟨gj,hg⟩:=gget hj;refine⟨j,_,gj,rfl,hj,hg,?_,rfl⟩;simp only[bE,hg,Option.getD_some]at hk;cases gj with
    |pointer p=>cases p<;>first|(simp[ax]at hk;done)|simpa[ax]using hk
    |_=>simp[ax]at hk
   ·exact h.elim
  |_=>simp only[mB]at h
 |row sz α enc l=>
  cases r with
  |same j=>
   simp only[mB]at h;split at h
   ·rename_i hj;obtain⟨gj,hg⟩:=gget hj;refine⟨j,_,gj,rfl,hj,hg,?_,rfl⟩;simp only[bE,hg,Option.getD_some]at hk;rw[kL]at hk⊢;exact hk
   ·exact h.elim
  |new=>simp[bE,ax]at hk
  |cut sz0 j lo m=>
   simp only[mB]at h;split at h
   ·rename_i sz' α' enc' l' hj;obtain⟨hz,h1,h2⟩:=bM h;obtain⟨gj,hg⟩:=gget hj;refine⟨j,_,gj,rfl,hj,hg,?_,rfl⟩;obtain⟨cs,g1,g2,g3⟩:=oE (hW.br _ _ _ hj hg)
    obtain⟨p,n0,cap,rfl⟩:∃p n0 cap,gj= .slice p n0 cap:=by
     rcases g1.2 with⟨p,e,_⟩|⟨_,_,_,_,_,e,_⟩<;>exact⟨_,_,_,e⟩
    have hn:n0=l'.length:=by
     rcases g1.2 with⟨p,e,e2⟩|⟨_,_,_,_,_,e,_⟩
     ·cases e;exact e2.symm
     ·simp at e;exact e.2.1
    subst hn;simp only[bE,hg]at hk;rw[kL]at hk⊢;exact(g1.part (lo:=lo) (n:=m) h1 (fun _=>rfl)).2 k (by rw[Nat.eq_of_beq_eq_true hz]at hk;exact hk)
   ·exact h.elim
theorem qY:∀{rs:List Rn} {bs:List B} {i j:Nat} {r:Rn} {b:B},rs[i]? =some r→bs[i]? =some b→n3 b=true→j4 r=[j]→j∈cu rs bs
 |[],_,i,j,r,b,hr,_,_,_=>by simp at hr
 |_::_,[],i,j,r,b,_,hb,_,_=>by simp at hb
 |r'::rs,b'::bs,0,j,r,b,hr,hb,hl,hs=>by
  cases hr;cases hb;cases b' with
  |box=>simp[cu,hs]
  |row=>simp[cu,hs]
  |buf=>simp[cu,hs]
  |fro=>cases hl
  |dead=>cases hl
 |r'::rs,b'::bs,i+1,j,r,b,hr,hb,hl,hs=>by
  have:=qY (rs:=rs) (bs:=bs) (i:=i) (by simpa using hr) (by simpa using hb) hl hs;cases b'<;>simp[cu,this]
theorem Ad:∀{rs:List Rn} {bs:List B} {i i' j:Nat} {r r':Rn} {b b':B},(cu rs bs).Nodup→i≠i'→rs[i]? =some r→bs[i]? =some b→rs[i']? =some r'→bs[i']? =some b'→
  n3 b=true→n3 b'=true→j4 r=[j]→j4 r'=[j]→False
 |[],_,i,i',j,r,r',b,b',_,_,hr,_,_,_,_,_,_,_=>by simp at hr
 |_::_,[],i,i',j,r,r',b,b',_,_,_,hb,_,_,_,_,_,_=>by simp at hb
 |r0::rs,b0::bs,i,i',j,r,r',b,b',hn,hne,hr,hb,hr',hb',hl,hl',hs,hs'=>by
  have hn2:(cu rs bs).Nodup:=by
   cases b0<;>simp only[cu]at hn
   ·exact(List.nodup_append.1 hn).2.1
   ·exact(List.nodup_append.1 hn).2.1
   ·exact hn
   ·exact(List.nodup_append.1 hn).2.1
   ·exact hn
  have hdis:∀{q:Nat},n3 b0=true→j4 r0=[q]→q∈cu rs bs→False:=fun{q} hl hs hm=>by
   cases b0 with
   |box _ _=>
    simp only[cu,hs]at hn;exact(List.nodup_append.1 hn).2.2 q (by simp) q hm rfl
   |row=>
    simp only[cu,hs]at hn;exact(List.nodup_append.1 hn).2.2 q (by simp) q hm rfl
   |buf=>
    simp only[cu,hs]at hn;exact(List.nodup_append.1 hn).2.2 q (by simp) q hm rfl
   |fro=>cases hl
   |dead=>cases hl
  cases i with
  |zero=>
   cases i' with
   |zero=>exact hne rfl
   |succ i'=>
    cases hr;cases hb;exact hdis hl hs (qY (i:=i') (by simpa using hr') (by simpa using hb') hl' hs')
  |succ i=>
   cases i' with
   |zero=>
    cases hr';cases hb';exact hdis hl' hs' (qY (i:=i) (by simpa using hr) (by simpa using hb) hl hs)
   |succ i'=>exact Ad (i:=i) (i':=i') hn2 (by omega) (by simpa using hr) (by simpa using hb) (by simpa using hr') (by simpa using hb') hl hl' hs hs'
structure Core(B':Nat→Prop)(own:Nat→Prop)(F:Nat→Prop)(γ:List Value)(ah:List B)(H:ab):Prop where
 len:γ.length=ah.length
 br:∀(j:Nat) (b:B) (g:Value),ah[j]? =some b→γ[j]? =some g→BR F H ⟨B',γ⟩ b g
 cK:∀(i j:Nat) (b b':B) (g g':Value),i≠j→ah[i]? =some b→γ[i]? =some g→ah[j]? =some b'→γ[j]? =some g'→∀k,k∈ax b g→k∉ax b' g'
 nf:∀(j:Nat) (b:B) (g:Value) (k:Nat),ah[j]? =some b→γ[j]? =some g→k∈ax b g→(¬F k∧¬B' k)∧own k
def jq(E:En)(γ:List Value)(ah:List B)(fr:Nat→Bool)(k:Nat):Prop:=E.B k∨∃(j:Nat) (b:B) (g:Value),ah[j]? =some b∧γ[j]? =some g∧fr j=true∧k∈ax b g
def owned(γ:List Value)(ah:List B)(k:Nat):Prop:=∃(j:Nat) (b:B) (g:Value),ah[j]? =some b∧γ[j]? =some g∧k∈ax b g
theorem core(hW:WR E F γ ah H)(hm:jR fr ah ρ ρ tah)(hnd:dP (cu ρ tah)=true)(hfu:∀j,fr j=true→j∉cu ρ tah):
  Core (jq E γ ah fr) (owned γ ah) F (ρ.map (bE γ)) tah H:=by
 obtain⟨hlen,hget⟩:=qc hm
 have hget':∀{i:Nat} {b:B} {g:Value},tah[i]? =some b→(ρ.map (bE γ))[i]? =some g→∃r,ρ[i]? =some r∧g=bE γ r∧mB fr ah ρ r b:=fun hb hg=>by
  obtain⟨r,h1,h2⟩:=hget _ _ hb;rw[List.getElem?_map,h1]at hg;exact⟨r,h1,by simpa using hg.symm,h2⟩
 have hND:=qq hnd;refine⟨by simp[hlen],fun i b g hb hg=>?_,fun i i' b b' g g' hne hb hg hb' hg' k hk hk'=>?_,fun i b g k hb hg hk=>?_⟩
 ·obtain⟨r,hr,rfl,hmb⟩:=hget' hb hg
  have hcell:∀{cs0 cs:List C} {vs:List Value},iY (mC fr ah 5 ρ) cs0 cs→RL F H ⟨E.B,γ⟩ cs0 vs→RL F H ⟨jq E γ ah fr,ρ.map (bE γ)⟩ cs vs:=fun h1 h2=>
   lW (fun c0 c v h hr=>tF hW (fun _ h=>.inl h) (fun j b g h1 h2 h3 k hk=>.inr ⟨j,b,g,h2,h3,h1,hk⟩) 5 h hr) h1 h2
  have gget:∀{j:Nat} {bj:B},ah[j]? =some bj→∃gj,γ[j]? =some gj:=fun hj=>⟨_,List.getElem?_eq_getElem (by rw[hW.len];exact(List.getElem?_eq_some_iff.1 hj).1)⟩;cases b with
  |dead=>trivial
  |buf t sz α enc l=>
   cases r with
   |same j=>
    simp only[mB]at hmb;split at hmb
    ·rename_i hj;obtain⟨gj,hgj⟩:=gget hj;obtain⟨rfl,hmb⟩:=hmb;cases hmb;have:=hW.br _ _ _ hj hgj;simp only[bE,hgj,Option.getD_some];exact this
    ·exact hmb.elim
   |new=>exact .inl ⟨none,rfl,hmb⟩
   |cut=>simp only[mB]at hmb
  |box cs ty=>
   cases r with
   |same j=>
    simp only[mB]at hmb;split at hmb
    ·rename_i cs0 t0 hj;obtain⟨gj,hgj⟩:=gget hj;obtain⟨k,e,vs,h1,h2,h3⟩:=hW.br _ _ _ hj hgj;refine⟨k,t0.getD e,vs,?_,by rw[G9 hmb.1];exact h2,hcell hmb.2 h3⟩;simp[bE,hgj,h1]
    ·exact hmb.elim
   |_=>simp only[mB]at hmb
  |row sz α enc l=>
   cases r with
   |same j=>
    simp only[mB]at hmb;split at hmb
    ·rename_i hj;obtain⟨gj,hgj⟩:=gget hj;cases hmb;have:=hW.br _ _ _ hj hgj;simp only[bE,hgj,Option.getD_some];exact this
    ·exact hmb.elim
   |new=>exact .inl ⟨none,rfl,hmb⟩
   |cut sz0 j lo m=>
    simp only[mB]at hmb;split at hmb
    ·rename_i sz' α' enc' l' hj;obtain⟨hz,h1,h2⟩:=bM hmb;have hz:=Nat.eq_of_beq_eq_true hz;obtain⟨gj,hgj⟩:=gget hj;obtain⟨cs,g1,g2,g3⟩:=oE (hW.br _ _ _ hj hgj)
     obtain⟨p,n0,cap,rfl⟩:∃p n0 cap,gj= .slice p n0 cap:=by
      rcases g1.2 with⟨p,e,_⟩|⟨_,_,_,_,_,e,_⟩<;>exact⟨_,_,_,e⟩
     have hn:n0=l'.length:=by
      rcases g1.2 with⟨p,e,e2⟩|⟨_,_,_,_,_,e,_⟩
      ·cases e;exact e2.symm
      ·simp at e;exact e.2.1
     subst hn;cases h2;simp only[bE,hgj];rw[hz];have h6:∀x∈l'.drop lo,(enc x).length=sz:=fun x hx=>g3 x (List.mem_of_mem_drop hx);refine pI (g1.part (lo:=lo) (n:=m) h1 (fun _=>rfl)).1 (by rw[List.length_take,List.length_drop];omega) ?_ (fun x hx=>h6 x (List.mem_of_mem_take hx));rw[←mc m h6,←ln lo g3];exact(g2.drop _).take _
    ·exact hmb.elim
  |fro sz α enc l=>
   cases r with
   |same j=>
    simp only[mB]at hmb;split at hmb
    ·rename_i hj;obtain⟨gj,hgj⟩:=gget hj;cases hmb;have:=hW.br _ _ _ hj hgj;simp only[bE,hgj,Option.getD_some];exact this
    ·exact hmb.elim
   |_=>simp only[mB]at hmb
 ·obtain⟨r,hr,rfl,hmb⟩:=hget' hb hg;obtain⟨r',hr',rfl,hmb'⟩:=hget' hb' hg';obtain⟨j,bj,gj,h1,h2,h3,h4,h5⟩:=qb hW hmb k hk;obtain⟨j',bj',gj',h1',h2',h3',h4',h5'⟩:=qb hW hmb' k hk';by_cases e:j=j'
  ·subst e;exact Ad hND hne hr hb hr' hb' h5 h5' h1 h1'
  ·exact hW.cK _ _ _ _ _ _ e h2 h3 h2' h3' k h4 h4'
 ·obtain⟨r,hr,rfl,hmb⟩:=hget' hb hg;obtain⟨j,bj,gj,h1,h2,h3,h4,h5⟩:=qb hW hmb k hk;obtain⟨h6,h7⟩:=hW.nf _ _ _ k h2 h3 h4;refine⟨⟨h6,fun h=>?_⟩,j,bj,gj,h2,h3,h4⟩;rcases h with h|⟨j',bj',gj',h2',h3',h8,h9⟩
  ·exact h7 h
  ·by_cases e:j=j'
   ·subst e;exact hfu _ h8 (qY hr hb h5 h1)
   ·exact hW.cK _ _ _ _ _ _ e h2 h3 h2' h3' k h4 h9
theorem weaken(hW:WR E F γ ah H)(hm:jR (fun _=>false) ah ρ ρ tah)(hnd:dP (cu ρ tah)=true)(hid:∀i,i<E.γ0.length→ρ[i]? =some (.same i)):
  WR E F (ρ.map (bE γ)) tah H∧∀{n:Nat} {c0 c:C} {v:Value},mC (fun _=>false) ah n ρ c0 c→RL F H ⟨E.B,γ⟩ [c0] [v]→RL F H ⟨E.B,ρ.map (bE γ)⟩ [c] [v]:=by
 have hc:=core hW hm hnd (fun j h=>by cases h)
 have hB:jq E γ ah (fun _=>false)=E.B:=by
  funext k;apply propext;constructor
  ·rintro(h|⟨_,_,_,_,_,h,_⟩)
   ·exact h
   ·cases h
  ·exact .inl
 rw[hB]at hc;refine⟨⟨hc.len,hc.br,hc.cK,fun j b g k h1 h2 h3=>(hc.nf j b g k h1 h2 h3).1,hW.fb,hW.bb,hW.size,hW.bQ,hW.fmono,hW.fnew,fun j b g k h1 h2 h3=>?_,fun i v hi=>?_⟩,fun h hr=>tF hW (fun _ h=>h) (fun j b g h=>by cases h) _ h hr⟩
 ·obtain⟨j',b',g',h4,h5,h6⟩:=(hc.nf j b g k h1 h2 h3).2;exact hW.onew _ _ _ k h4 h5 h6
 ·have h1:=hid i (List.getElem?_eq_some_iff.1 hi).1;rw[List.getElem?_map,h1];simp[bE,hW.pre i v hi]
end
end Go.AM
end
section
namespace Go.AM
open Go Go.NB
def iN(σ:Nat→Nat):C→C
 | .rw j=>.rw (σ j)
 | .sw sz j lo n=>.sw sz (σ j) lo n
 | .ptr j o=>.ptr (σ j) o
 |c=>c
def fk:C→Bool
 | .rw _| .sw .. | .ptr .. =>true
 | .iface _ _ cs=>dw cs
 |c=>dL c
def dY:List C→Bool
 |[]=>true
 |c::cs=>fk c&&dY cs
def eZ(σ:Nat→Nat):B→B
 | .box cs t=>.box (cs.map (iN σ)) t
 |b=>b
def eR:B→Bool
 | .box cs _=>dY cs
 |_=>true
def dR(σ:Nat→Nat):A→A
 | .c x=>.c (iN σ x)
 | .st cs=>.st (cs.map (iN σ))
 | .tup ts=>.tup (ts.map fun t=>(t.1,t.2.map (iN σ)))
 |a=>a
def eE:A→Bool
 | .c x=>fk x
 | .st cs=>dY cs
 | .tup ts=>ts.all fun t=>dY t.2
 | .undef=>true
 | .off=>false
inductive Out:Type 1 where
 |ret (a:A)
 |pan (a:A)
def Out.a:Out→A
 | .ret a=>a
 | .pan a=>a
section
variable {F:Nat→Prop} {H:ab} {m m':Md} {σ:Nat→Nat}
theorem qI(hσ:∀(j:Nat) (g:Value),m.γ[j]? =some g→m'.γ[σ j]? =some g){cs:List C}{vs:List Value}(h:RL F H m cs vs)(hc:dY cs=true):RL F H m' (cs.map (iN σ)) vs:=by
 induction h with
 |nl=>exact .nl
 |int _ ih=>simp[dY,fk,dL]at hc;exact .int (ih hσ hc)
 |bool _ ih=>simp[dY,fk,dL]at hc;exact .bool (ih hσ hc)
 |str h _ ih=>simp[dY,fk,dL]at hc;exact .str h (ih hσ hc)
 |raw h _ ih=>simp[dY,fk,dL]at hc;exact .raw h (ih hσ hc)
 |nil _ ih=>simp[dY,fk,dL]at hc;exact .nil (ih hσ hc)
 |ls0 _ ih=>simp[dY,fk,dL]at hc;exact .ls0 (ih hσ hc)
 |ls hb h1 h2 hr hz hcc _ _ ih=>simp[dY,fk,dL]at hc;exact .ls hb h1 h2 hr hz hcc (ih hσ hc)
 |rw hg hq _ ih=>simp[dY,fk]at hc;exact .rw (hσ _ _ hg) hq (ih hσ hc)
 |sw hg hle hq _ ih=>simp[dY,fk]at hc;exact .sw (hσ _ _ hg) hle hq (ih hσ hc)
 |ptr hg _ ih=>simp[dY,fk]at hc;exact .ptr (hσ _ _ hg) (ih hσ hc)
 |iface hr _ _ ih=>simp[dY,fk]at hc;exact .iface (r7 hr hc.1) (ih hσ hc.2)
 |_=>simp[dY,fk,dL]at hc
theorem zd(hσ:∀(j:Nat) (g:Value),m.γ[j]? =some g→m'.γ[σ j]? =some g):∀{ts:List (Bool×List C)} {vs:List Value},RT F H m ts vs→(ts.all fun t=>dY t.2)=true→RT F H m' (ts.map fun t=>(t.1,t.2.map (iN σ))) vs
 |[],[],_,_=>trivial
 |(g,cs)::ts,v::vs,⟨⟨us,h1,h2,h3⟩,h⟩,hc=>by
  simp only[List.all_cons,Bool.and_eq_true]at hc;exact⟨⟨us,qI hσ h1 hc.1,h2,fun h=>by simp[h3 h]⟩,zd hσ h hc.2⟩
theorem zc(hσ:∀(j:Nat) (g:Value),m.γ[j]? =some g→m'.γ[σ j]? =some g){a:A}{v:Value}(h:RA F H m a v)(hc:eE a=true):RA F H m' (dR σ a) v:=by
 cases a with
 |undef=>trivial
 |off=>cases hc
 |c x=>exact qI hσ (cs:=[x]) h (by simpa[dY,eE]using hc)
 |st cs=>obtain⟨vs,rfl,h⟩:=h;exact⟨vs,rfl,qI hσ h hc⟩
 |tup ts=>obtain⟨vs,rfl,h⟩:=h;exact⟨vs,rfl,zd hσ h hc⟩
theorem FJ(hσ:∀(j:Nat) (g:Value),m.γ[j]? =some g→m'.γ[σ j]? =some g){b:B}{g:Value}(h:BR F H m b g)(hc:eR b=true):BR F H m' (eZ σ b) g:=by
 cases b with
 |box cs ty=>obtain⟨k,e,vs,h1,h2,h3⟩:=h;exact⟨k,e,vs,h1,h2,qI hσ h3 hc⟩
 |row sz α enc l=>exact h
 |fro sz α enc l=>exact h
 |buf t sz α enc l=>exact h
 |dead=>trivial
theorem oq{b:B}{g:Value}:ax (eZ σ b) g=ax b g:=by
 cases g with
 |pointer p=>cases b<;>cases p<;>rfl
 |_=>cases b<;>rfl
end
def dJ(F:Nat→Prop)(H:ab)(m:Md):List A→List Value→Prop
 |[],[]=>True
 |a::as,v::vs=>RA F H m a v∧dJ F H m as vs
 |_,_=>False
structure du(d:Bool)(w w':World):Prop where
 os:w'.os=w.os
 tape:w'.tape=w.tape
 output:w'.output=w.output
 drawn:d=true→w.drawn≤w'.drawn
theorem du.refl{d:Bool}(w:World):du d w w:=⟨rfl,rfl,rfl,fun _=>Nat.le_refl _⟩
theorem du.trans{d:Bool}{a b c:World}(h:du d a b)(k:du d b c):du d a c:=⟨k.os.trans h.os,k.tape.trans h.tape,k.output.trans h.output,fun e=>Nat.le_trans (h.drawn e) (k.drawn e)⟩
theorem du.of{d:Bool}{a b:World}(h:bd a b):du d a b:=⟨h.os,h.tape,h.output,fun _=>h.drawn⟩
theorem du.nh{d:Bool}{a b:World}(h:du d a b):du false a b:=⟨h.os,h.tape,h.output,fun e=>by cases e⟩
def lV(d:Bool)(P:Program)(w:World)(R:Bool→Value→ab→Prop):Result Next→Prop
 | .ok (.value v) w'=>w'=w∧R true v w.heap
 | .ok (.enter f args) w'=>w'=w∧Calls P f args w fun e w'=>(∃v,e= .returned v∧R true v w'.heap∧du d w w')∨(∃v,e= .panicked [{v:=v,recovered:=false}]∧R false v w'.heap∧du d w w')
 |_=>False
def lU(d:Bool)(P:Program)(f:FuncId)(args:Array Value)(H:ab)(R:Bool→Value→ab→Prop):Prop:=
 ∀w:World,w.heap=H→lV d P w R ((callFunc f args).run P w)
theorem lU.mono{d:Bool}{P:Program}{f:FuncId}{args:Array Value}{H:ab}{R R':Bool→Value→ab→Prop}(h:lU d P f args H R)(hr:∀b v H',R b v H'→R' b v H'):lU d P f args H R':=by
 intro w hw;have:=h w hw;unfold lV at*;split at this
 ·exact⟨this.1,hr _ _ _ this.2⟩
 ·refine⟨this.1,this.2.mono fun e w' h=>?_⟩;rcases h with⟨v,h1,h2,h3⟩|⟨v,h1,h2,h3⟩
  ·exact .inl ⟨v,h1,hr _ _ _ h2,h3⟩
  ·exact .inr ⟨v,h1,hr _ _ _ h2,h3⟩
 ·exact this.elim
def en(F L:Nat→Prop)(γ:List Value)(ah:List B)(H:ab):En:=⟨F,L,owned γ ah,H,γ⟩
def nk(F L:Nat→Prop)(γ:List Value)(ah:List B)(H:ab)(Q:Out→List B→Prop)(ok:Bool)(v:Value)(H':ab):Prop:=
 ∃out ah' F' γ',Q out ah'∧eE out.a=true∧ah'.all eR=true∧(match out with| .ret _=>ok=true| .pan _=>ok=false)∧RA F' H' ⟨L,γ'⟩ out.a v∧WR (en F L γ ah H) F' γ' ah' H'
def bC(d:Bool)(P:Program)(f:FuncId)(args:List A)(ah:List B)(Q:Out→List B→Prop):Prop:=
 ∀(F L:Nat→Prop) (γ:List Value) (H:ab) (vs:List Value),dJ F H ⟨L,γ⟩ args vs→WR (en F L γ ah H) F γ ah H→lU d P f vs.toArray H (nk F L γ ah H Q)
abbrev ae(P:Program)(f:FuncId)(args:List A)(ah:List B)(Q:Out→List B→Prop):Prop:=bC false P f args ah Q
theorem bC.mono{d:Bool}{P:Program}{f:FuncId}{args:List A}{ah:List B}{Q Q':Out→List B→Prop}(h:bC d P f args ah Q)(hq:∀o b,Q o b→Q' o b):bC d P f args ah Q':=
 fun F L γ H vs h1 h2=>(h F L γ H vs h1 h2).mono fun ok v H' ⟨out,ah',F',γ',h3,h4⟩=>⟨out,ah',F',γ',hq _ _ h3,h4⟩
theorem ae.mono{P:Program}{f:FuncId}{args:List A}{ah:List B}{Q Q':Out→List B→Prop}(h:ae P f args ah Q)(hq:∀o b,Q o b→Q' o b):ae P f args ah Q':=bC.mono h hq
theorem bC.nh{d:Bool}{P:Program}{f:FuncId}{args:List A}{ah:List B}{Q:Out→List B→Prop}(h:bC d P f args ah Q):ae P f args ah Q:=by
 intro F L γ H vs h1 h2 w hw;have:=h F L γ H vs h1 h2 w hw;unfold lV at*;split at this
 ·exact this
 ·refine⟨this.1,this.2.mono fun e w' h=>?_⟩;rcases h with⟨v,h1,h2,h3⟩|⟨v,h1,h2,h3⟩
  ·exact .inl ⟨v,h1,h2,h3.nh⟩
  ·exact .inr ⟨v,h1,h2,h3.nh⟩
 ·exact this.elim
def mT(f:C→C→Prop):List (Bool×List C)→List (Bool×List C)→Prop
 |[],[]=>True
 |(g0,cs0)::ts0,(g,cs)::ts=>(g0=g∧iY f cs0 cs)∧mT f ts0 ts
 |_,_=>False
def mA(fr:Nat→Bool)(ah:List B)(ρ:List Rn):A→A→Prop
 |_,.undef=>True
 | .c c0,.c c=>mC fr ah 5 ρ c0 c
 | .st cs0,.st cs=>iY (mC fr ah 5 ρ) cs0 cs
 | .tup ts0,.tup ts=>mT (mC fr ah 5 ρ) ts0 ts
 | .off,.off=>True
 |_,_=>False
def kF(fr:Nat→Bool)(ah:List B)(ρ:List Rn):List A→List A→Prop
 |[],[]=>True
 |a0::as0,a::as=>mA fr ah ρ a0 a∧kF fr ah ρ as0 as
 |_,_=>False
def sig(m:List Nat)(n:Nat)(j:Nat):Nat:=bif Nat.blt j m.length then m.getD j 0 else n+(j-m.length)
def mW:List Nat→List B→List B→List B
 |j::m,b::bs,ah=>mW m bs (ah.set j b)
 |_,_,ah=>ah
def pW(f:B→B)(x:B)(t b:B):B:=match t with
 | .dead=>match b with
  | .dead=>x
  |b=>f b
 |_=>f b
theorem DP(f:B→B)(x t b:B):(t= .dead∧pW f x t b=x)∨pW f x t b=f b:=by
 cases t with
 |dead=>
  cases b with
  |dead=>exact .inl ⟨rfl,rfl⟩
  |_=>exact .inr rfl
 |_=>exact .inr rfl
def jN(f:B→B)(ah:List B):List Nat→List B→List B→List B
 |j::m,t::ts,b::bs=>pW f ((ah[j]?).getD .dead) t b::jN f ah m ts bs
 |_,_,_=>[]
theorem xO{f:B→B}{ah:List B}:∀{m:List Nat} {ts bs:List B},ts.length=m.length→m.length≤bs.length→(jN f ah m ts bs).length=m.length
 |[],_,_,_,_=>rfl
 |j::m,t::ts,b::bs,h1,h2=>by
  simp only[jN,List.length_cons];rw[xO (by simpa using h1) (by simpa using h2)]
 |j::m,[],_,h1,_=>by simp at h1
 |j::m,t::ts,[],_,h2=>by simp at h2
theorem xN{f:B→B}{ah:List B}:∀{m:List Nat} {ts bs:List B} {q i:Nat} {b:B},m[q]? =some i→(jN f ah m ts bs)[q]? =some b→(ts[q]? =some .dead∧b=(ah[i]?).getD .dead)∨∃b',bs[q]? =some b'∧b=f b'
 |[],_,_,_,_,_,h,_=>by simp at h
 |j::m,[],_,_,_,_,_,h=>by simp[jN]at h
 |j::m,t::ts,[],_,_,_,_,h=>by simp[jN]at h
 |j::m,t::ts,b::bs,0,i,x,h1,h2=>by
  obtain rfl:j=i:=by simpa using h1
  have h2:pW f ((ah[j]?).getD .dead) t b=x:=by simpa[jN]using h2
  subst h2;rcases DP f ((ah[j]?).getD .dead) t b with⟨rfl,h⟩|h
  ·exact .inl ⟨rfl,h⟩
  ·exact .inr ⟨b,rfl,h⟩
 |j::m,t::ts,b::bs,q+1,i,x,h1,h2=>by
  rcases xN (m:=m) (ts:=ts) (bs:=bs) (q:=q) (by simpa using h1) (by simpa[jN]using h2)with⟨h3,h4⟩|⟨b',h3,h4⟩
  ·exact .inl ⟨by simpa using h3,h4⟩
  ·exact .inr ⟨b',by simpa using h3,h4⟩
def dO(m:List Nat)(tah ah ah':List B):List B:=mW m (jN (eZ (sig m ah.length)) ah m tah ah') ah++(ah'.drop m.length).map (eZ (sig m ah.length))
theorem oG:∀(m:List Nat) (bs ah:List B),(mW m bs ah).length=ah.length
 |[],_,_=>rfl
 |_::_,[],_=>rfl
 |j::m,b::bs,ah=>by rw[mW,oG m bs,List.length_set]
theorem zC:∀{m:List Nat} {bs ah:List B} {i:Nat} {b:B},m.Nodup→(mW m bs ah)[i]? =some b→(ah[i]? =some b∧(i∈m→∃q,m[q]? =some i∧bs.length≤q))∨∃q:Nat,m[q]? =some i∧bs[q]? =some b
 |[],bs,ah,i,b,_,h=>.inl ⟨h,fun h=>by cases h⟩
 | j :: m, [], ah, i, b, _, h => .inl ⟨h,fun hm=>by
   obtain⟨q,hq⟩:=List.getElem?_of_mem hm;exact⟨q,hq,by simp⟩⟩
 |j::m,b'::bs,ah,i,b,hn,h=>by
  obtain⟨h1,h2⟩:=List.nodup_cons.1 hn;rw[mW]at h;rcases zC h2 h with⟨h3,h4⟩|⟨q,h3,h4⟩
  ·rcases nR h3 with⟨h5,h6⟩|⟨rfl,_,rfl⟩
   ·refine .inl ⟨h6,fun hm=>?_⟩;rcases List.mem_cons.1 hm with e|hm
    ·exact(h5 e).elim
    ·obtain⟨q,g1,g2⟩:=h4 hm;exact⟨q+1,by simpa using g1,by simpa using g2⟩
   ·exact .inr ⟨0,rfl,rfl⟩
  ·exact .inr ⟨q+1,by simpa using h3,by simpa using h4⟩
theorem uv{m:List Nat}{n q j:Nat}(h:m[q]? =some j):sig m n q=j:=by
 obtain⟨hlt,e⟩:=List.getElem?_eq_some_iff.1 h;have:Nat.blt q m.length=true:=Nat.ble_eq_true_of_le hlt;unfold sig;rw[this];simp[List.getD_eq_getElem?_getD,h]
theorem zF{m:List Nat}{n q:Nat}(h:m.length≤q):sig m n q=n+(q-m.length):=by
 have:Nat.blt q m.length=false:=by
  cases e:Nat.blt q m.length with
  |false=>rfl
  |true=>have:=Nat.le_of_ble_eq_true e;omega
 unfold sig;rw[this];rfl
section
variable {E:En} {F F':Nat→Prop} {γ γ':List Value} {ah ah' tah:List B} {H H':ab} {fr:Nat→Bool} {m:List Nat}
def bu(m:List Nat):List Rn:=m.map .same
theorem merge(hW:WR E F γ ah H)(hm:jR fr ah (bu m) (bu m) tah)(hn:m.Nodup)(hlt:∀j∈m,j<ah.length)(hc:Core (jq E γ ah fr) (owned γ ah) F ((bu m).map (bE γ)) tah H)
  (hR:WR (en F (jq E γ ah fr) ((bu m).map (bE γ)) tah H) F' γ' ah' H')(hcl:ah'.all eR=true):
  WR E F' (γ++γ'.drop m.length) (dO m tah ah ah') H'∧Ext F H ⟨E.B,γ⟩ F' H' ⟨E.B,γ++γ'.drop m.length⟩∧(∀(j:Nat) (g:Value),γ'[j]? =some g→(γ++γ'.drop m.length)[sig m ah.length j]? =some g)∧(m=[]→ak [] H H')∧
  ∀k,(F k∨E.B k∨∃j bj gj,j∉m∧ah[j]? =some bj∧γ[j]? =some gj∧k∈ax bj gj)→H'[k]? =H[k]? :=by
 have hml:tah.length=m.length:=by have:=(qc hm).1;simpa[bu]using this.symm
 let Kept:Nat→Prop:=fun i=>i∉m∨∃q:Nat,m[q]? =some i∧tah[q]? =some .dead
 have hown:∀k,owned ((bu m).map (bE γ)) tah k→∃j bj gj,¬Kept j∧ah[j]? =some bj∧γ[j]? =some gj∧k∈ax bj gj:=fun k ⟨i,b,g,hb,hg,hk⟩=>by
  obtain⟨r,h1,h2⟩:=(qc hm).2 _ _ hb;rw[List.getElem?_map,h1]at hg;simp at hg;subst hg;obtain⟨j,bj,gj,h3,h4,h5,h6,_⟩:=qb hW h2 k hk;have h1':=h1;unfold bu at h1';rw[List.getElem?_map]at h1';obtain⟨j',hj',rfl⟩:=Option.map_eq_some_iff.1 h1';simp[j4]at h3;subst h3;refine⟨j',bj,gj,fun hkp=>?_,h4,h5,h6⟩;rcases hkp with hkp|⟨q,hq,hd⟩
  ·exact hkp (List.mem_of_getElem? hj')
  ·obtain⟨g1,g2⟩:=List.getElem?_eq_some_iff.1 hq;obtain⟨g3,g4⟩:=List.getElem?_eq_some_iff.1 hj';obtain rfl:q=i:=(List.getElem_inj hn).1 (g2.trans g4.symm);rw[hd]at hb;cases hb;simp[ax]at hk
 have hγ:∀(j:Nat) (g:Value),γ'[j]? =some g→(γ++γ'.drop m.length)[sig m ah.length j]? =some g:=fun q g hq=>by
  rcases Nat.lt_or_ge q m.length with h|h
  ·have hmq:m[q]? =some m[q]:=List.getElem?_eq_getElem h;rw[uv hmq];have hj:m[q]<γ.length:=by rw[hW.len];exact hlt _ (List.getElem_mem h)
   rw[List.getElem?_append_left hj]
   have h1:((bu m).map (bE γ))[q]? =some (γ[m[q]]):=by
    simp[bu,hmq,bE,List.getElem?_eq_getElem hj]
   have h2:=hR.pre q _ h1;rw[h2]at hq;rw[List.getElem?_eq_getElem hj];exact hq
  ·rw[zF h,List.getElem?_append_right (by rw[hW.len];omega),List.getElem?_drop,hW.len];rw[show m.length+(ah.length+(q-m.length)-ah.length)=q by omega];exact hq
 have hlen':m.length≤ah'.length:=by
  rw[←hR.len];rcases Nat.eq_zero_or_pos m.length with h|h
  ·omega
  ·have h1:((bu m).map (bE γ))[m.length-1]? =some (((bu m).map (bE γ))[m.length-1]'(by simp[bu];omega)):=List.getElem?_eq_getElem _;have:=(List.getElem?_eq_some_iff.1 (hR.pre _ _ h1)).1;omega
 have get:∀{i:Nat} {b:B} {g:Value},(dO m tah ah ah')[i]? =some b→(γ++γ'.drop m.length)[i]? =some g→(Kept i∧ah[i]? =some b∧γ[i]? =some g)∨∃q b',ah'[q]? =some b'∧γ'[q]? =some g∧sig m ah.length q=i∧b=eZ (sig m ah.length) b':=fun{i b g} hb hg=>by
  unfold dO at hb;rcases Nat.lt_or_ge i ah.length with h|h
  ·rw[List.getElem?_append_left (by rw[oG];exact h)]at hb;rw[List.getElem?_append_left (by rw[hW.len];exact h)]at hg;rcases zC hn hb with⟨h1,h2⟩|⟨q,h1,h2⟩
   ·refine .inl ⟨.inl fun hm=>?_,h1,hg⟩;obtain⟨q,h3,h4⟩:=h2 hm;rw[xO hml hlen']at h4;have:=(List.getElem?_eq_some_iff.1 h3).1;omega
   ·rcases xN h1 h2 with⟨h3,h4⟩|⟨b',h3,h4⟩
    ·refine .inl ⟨.inr ⟨q,h1,h3⟩,?_,hg⟩;rw[h4,List.getElem?_eq_getElem h];rfl
    refine .inr ⟨q,b',h3,?_,uv h1,h4⟩;have hq:=(List.getElem?_eq_some_iff.1 h3).1;have h5:γ'[q]? =some (γ'[q]'(by rw[hR.len];exact hq)):=List.getElem?_eq_getElem _;have h6:=hγ q _ h5;rw[uv h1,List.getElem?_append_left (by rw[hW.len];exact h)]at h6;rw[h5];rw[hg]at h6;exact h6.symm
  ·rw[List.getElem?_append_right (by rw[oG];exact h),oG,List.getElem?_map,List.getElem?_drop]at hb;rw[List.getElem?_append_right (by rw[hW.len];exact h),List.getElem?_drop,hW.len]at hg;obtain⟨b',h3,h4⟩:=Option.map_eq_some_iff.1 hb;exact .inr ⟨m.length+(i-ah.length),b',h3,hg,by rw[zF (by omega)];omega,h4.symm⟩
 have keepF:∀k,F k∨E.B k→H'[k]? =H[k]? :=fun k hk=>by
  refine hR.bQ k ?_ (fun ho=>?_)
  ·exact hk.elim (hW.fb k) (fun h=>Nat.lt_of_lt_of_le (hW.bb k h).1 hW.size)
  ·obtain⟨j,bj,gj,_,h2,h3,h4⟩:=hown k ho;have:=hW.nf j bj gj k h2 h3 h4;exact hk.elim this.1 this.2
 have ex : Ext F H ⟨E.B, γ⟩ F' H' ⟨E.B, γ ++ γ'.drop m.length⟩ := ⟨hR.fmono,fun b o u hb hc=>rV (keepF b hb) hc,fun _ h=>h,fun j v hj=>by
  rw[List.getElem?_append_left (List.getElem?_eq_some_iff.1 hj).1];exact hj⟩
 have old:∀{i b g},Kept i→ah[i]? =some b→γ[i]? =some g→∀k∈ax b g,¬owned ((bu m).map (bE γ)) tah k∧H'[k]? =H[k]? :=fun{i b g} hi hb hg k hk=>by
  have hno:¬owned ((bu m).map (bE γ)) tah k:=fun ho=>by
   obtain⟨j,bj,gj,h1,h2,h3,h4⟩:=hown k ho;exact hW.cK _ _ _ _ _ _ (fun e=>h1 (by rw[←e];exact hi)) hb hg h2 h3 k hk h4
  exact⟨hno,hR.bQ k (eM (hW.br _ _ _ hb hg) k hk) hno⟩
 have own':∀{q b g k},ah'[q]? =some b→γ'[q]? =some g→k∈ax b g→(∃j bj gj,¬Kept j∧ah[j]? =some bj∧γ[j]? =some gj∧k∈ax bj gj)∨H.size≤k:=fun hb hg hk=>by
  rcases hR.onew _ _ _ _ hb hg hk with h|h
  ·exact .inl (hown _ h)
  ·exact .inr h
 refine⟨⟨?_,fun i b g hb hg=>?_,fun i i' b b' g g' hne hb hg hb' hg' k hk hk'=>?_,fun i b g k hb hg hk=>?_,hR.fb,hW.bb,Nat.le_trans hW.size hR.size,fun k hk ho=>?_,fun k hk=>hR.fmono k (hW.fmono k hk),fun k hk=>?_,fun i b g k hb hg hk=>?_,fun j v hj=>ex.g j v (hW.pre j v hj)⟩,ex,hγ,fun hm0=>⟨hR.size,fun k hk _=>hR.bQ k hk (fun ho=>?_)⟩,fun k hk=>hk.elim (fun h=>keepF k (.inl h)) fun h=>h.elim (fun h=>keepF k (.inr h)) fun⟨j,bj,gj,h1,h2,h3,h4⟩=>(old (.inl h1) h2 h3 k h4).2⟩
 ·unfold dO;simp[oG,hW.len,hR.len]
 ·rcases get hb hg with⟨h1,h2,h3⟩|⟨q,b',h1,h2,h3,rfl⟩
  ·exact BR.ext ex (fun k hk=>(old h1 h2 h3 k hk).2) (hW.br _ _ _ h2 h3)
  ·exact FJ hγ (hR.br _ _ _ h1 h2) (List.all_eq_true.1 hcl _ (List.mem_of_getElem? h1))
 ·rcases get hb hg with⟨h1,h2,h3⟩|⟨q,b1,h1,h2,h3,rfl⟩
  ·rcases get hb' hg' with⟨h1',h2',h3'⟩|⟨q',b1',h1',h2',h3',rfl⟩
   ·exact hW.cK _ _ _ _ _ _ hne h2 h3 h2' h3' k hk hk'
   ·rw[oq]at hk';have h4:=eM (hW.br _ _ _ h2 h3) k hk;rcases own' h1' h2' hk' with⟨j,bj,gj,g1,g2,g3,g4⟩|h
    ·exact hW.cK _ _ _ _ _ _ (fun e=>g1 (by rw[←e];exact h1)) h2 h3 g2 g3 k hk g4
    ·omega
  ·rw[oq]at hk;rcases get hb' hg' with⟨h1',h2',h3'⟩|⟨q',b1',h1',h2',h3',rfl⟩
   ·have h4:=eM (hW.br _ _ _ h2' h3') k hk';rcases own' h1 h2 hk with⟨j,bj,gj,g1,g2,g3,g4⟩|h
    ·exact hW.cK _ _ _ _ _ _ (fun e=>g1 (by rw[←e];exact h1')) h2' h3' g2 g3 k hk' g4
    ·omega
   ·rw[oq]at hk';exact hR.cK _ _ _ _ _ _ (fun e=>hne (by rw[←h3,←h3',e])) h1 h2 h1' h2' k hk hk'
 ·rcases get hb hg with⟨h1,h2,h3⟩|⟨q,b',h1,h2,h3,rfl⟩
  ·have h4:=hW.nf _ _ _ k h2 h3 hk;refine⟨fun hf=>?_,h4.2⟩;rcases hR.fnew k hf with h|h|h
   ·exact h4.1 h
   ·exact(old h1 h2 h3 k hk).1 h
   ·have:k<H.size:=eM (hW.br _ _ _ h2 h3) k hk;have:H.size≤k:=h;omega
  ·rw[oq]at hk;have h4:=hR.nf _ _ _ k h1 h2 hk;exact⟨h4.1,fun h=>h4.2 (.inl h)⟩
 ·have h1:k<H.size:=Nat.lt_of_lt_of_le hk hW.size;rw[hR.bQ k h1 (fun h=>?_)]
  ·exact hW.bQ k hk ho
  ·obtain⟨j,bj,gj,_,g2,g3,g4⟩:=hown k h;rcases hW.onew _ _ _ k g2 g3 g4 with h5|h5
   ·exact ho h5
   ·omega
 ·rcases hR.fnew k hk with h|h|h
  ·exact hW.fnew k h
  ·obtain⟨j,bj,gj,_,g2,g3,g4⟩:=hown k h;exact .inr (hW.onew _ _ _ k g2 g3 g4)
  ·exact .inr (.inr (Nat.le_trans hW.size h))
 ·rcases get hb hg with⟨h1,h2,h3⟩|⟨q,b',h1,h2,h3,rfl⟩
  ·exact hW.onew _ _ _ k h2 h3 hk
  ·rw[oq]at hk;rcases own' h1 h2 hk with⟨j,bj,gj,g1,g2,g3,g4⟩|h
   ·exact hW.onew _ _ _ k g2 g3 g4
   ·exact .inr (Nat.le_trans hW.size h)
 ·subst hm0;obtain⟨j,_,_,h,_⟩:=hown k ho;exact h (.inl (by simp))
end
end Go.AM
end
