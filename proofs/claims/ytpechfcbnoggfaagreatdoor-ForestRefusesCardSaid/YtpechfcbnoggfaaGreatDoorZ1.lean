/- part -/
import Derived.Test.YtpechfcbnoggfaaGreatDoorAmH
import Derived.Laws.Externs
import Derived.Below
import Derived.Test.YtpechfcbnoggfaaGreatDoorAm1
set_option linter.unusedVariables false
set_option linter.unusedSimpArgs false
section
namespace Go.AM
open Go Go.NB Go.RowKit
theorem wM{d:Bool}{P:Program}{f:FuncId}{fn:Func}{e:Array Value→Sem Value}(hf:P.funcs[f]? =some fn)(hname:(fn.name== "runtime.NumGoroutine")=false)(hb:fn.body.isNone=true)(hn:Extern.findNext fn=none)(he:Extern.find fn=some e)
  {args:List A}{x:C}(hx:dL x=true)(h:∀(F:Nat→Prop) (H:ab) (m:Md) (vs:List Value) (w:World),dJ F H m args vs→∃v,(e vs.toArray).run P w= .ok v w∧∀F H m,RL F H m [x] [v]):
  bC d P f args [] (Rt (.c x) []):=by
 intro F L γ H vs hargs hW w hw;obtain⟨v,h1,h2⟩:=h F H _ vs w hargs;rw[run_callFunc_extern hf hname hb hn he,h1];refine⟨rfl,.ret (.c x),[],F,γ,⟨rfl,rfl⟩,?_,rfl,rfl,h2 _ _ _,?_⟩
 ·show fk x=true;cases x<;>first|rfl|cases hx
 ·subst hw;exact hW
theorem ae.EV{P:Program}{f:FuncId}{args:List A}{x:C}(hx:dL x=true)(hcall:∀args w,(callFunc f args).run P w= .ok (.enter f args) w)
  (h:∀(F L:Nat→Prop) (γ:List Value) (w:World) (vs:List Value),dJ F w.heap ⟨L,γ⟩ args vs→(∀k,F k∨L k→k<w.heap.size)→∃v,(∀F H m,RL F H m [x] [v])∧Calls P f vs.toArray w fun e w'=>e= .returned v∧Below w.heap.size w w'):
  ae P f args [] (Rt (.c x) []):=by
 intro F L γ H vs hargs hW w hw;subst hw;obtain⟨v,h1,h2⟩:=h F L γ w vs hargs (fun k hk=>hk.elim (hW.fb k) (fun hk=>(hW.bb k hk).1));rw[hcall];refine⟨rfl,h2.mono fun e w' ⟨he,hb⟩=>.inl ⟨v,he,⟨.ret (.c x),[],F,γ,⟨rfl,rfl⟩,?_,rfl,rfl,h1 _ _ _,?_⟩,⟨hb.os,hb.tape,hb.output,fun h=>by cases h⟩⟩⟩
 ·show fk x=true;cases x<;>first|rfl|cases hx
 ·exact hW.same ⟨hb.size,fun k hk _=>hb.block k hk⟩
theorem uD{F:Nat→Prop}{H:ab}{m:Md}:∀{l:List (List UInt8)} {css:List Value},RL F H m (l.flatMap encS) css→css=l.map NB.str
 |[],_,h=>by cases h;rfl
 |x::l,css,h=>by
  rw[List.flatMap_cons]at h;cases h with
  |str _ t=>rw[uD t];rfl
end Go.AM
end
section
namespace Go.AM
open Go Go.NB
theorem vM{P:Program}{f:FuncId}{args:Array Value}{H:ab}{R:Value→ab→Prop}(h:bP P f args H R):lU false P f args H fun ok v H'=>ok=true∧R v H':=by
 intro w hw;have:=h w hw;unfold kY at this;unfold lV;split at this
 ·rename_i hr;rw[hr];exact⟨this.1,rfl,this.2⟩
 ·rename_i hr;rw[hr];exact⟨this.1,this.2.mono fun e w' ⟨v,h1,h2,h3⟩=>.inl ⟨v,h1,⟨rfl,h2⟩,.of h3⟩⟩
 ·exact this.elim
structure Br{α:Type}(T:Ty α)(enc:α→List C):Prop where
 len:∀x,(enc x).length=T.size
 to:∀{F:Nat→Prop} {H:ab} {M:List Nat} {cs:List Value} {x:α},(∀q∈M,¬F q)→(∀q,F q→q<H.size)→RL F H m0 (enc x) cs→T.R H M cs x
 back:∀{F:Nat→Prop} {H:ab} {M:List Nat} {cs:List Value} {x:α},(∀q,q<H.size→q∉M→F q)→T.R H M cs x→RL F H m0 (enc x) cs
theorem CL{α:Type}{enc:α→List C}{sz:Nat}{F:Nat→Prop}{H:ab}{l:List α}{css:List Value}(hz:∀x∈l,(enc x).length=sz)(h:RL F H m0 (l.flatMap enc) css){i:Nat}(hi:i<l.length):
  ∃us,RL F H m0 (enc l[i]) us∧∀j u,us[j]? =some u→css[i*sz+j]? =some u:=by
 have e:l=l.take i++l[i]::l.drop (i+1):=by rw[←List.drop_eq_getElem_cons hi,List.take_append_drop]
 have e2:l.flatMap enc=(l.take i).flatMap enc++(enc l[i]++(l.drop (i+1)).flatMap enc):=by
  conv=>lhs;rw[e]
  rw[List.flatMap_append,List.flatMap_cons]
 rw[e2]at h;obtain⟨us,ws,rfl,h1,h2⟩:=h.split;obtain⟨us2,ws2,rfl,h3,h4⟩:=h2.split
 have hl:us.length=i*sz:=by
  rw[←h1.length,gT fun x hx=>hz x (List.mem_of_mem_take hx),List.length_take,Nat.min_eq_left (by omega)]
 refine⟨us2,h3,fun j u hj=>?_⟩
 have hjl:j<us2.length:=by
  rw[List.getElem?_eq_some_iff]at hj;exact hj.1
 rw[List.getElem?_append_right (by omega),hl,Nat.add_sub_cancel_left,List.getElem?_append_left hjl];exact hj
theorem w3{α:Type}{T:Ty α}{enc:α→List C}(hb:Br T enc){F:Nat→Prop}{H:ab}{M:List Nat}(hF:∀q,q<H.size→q∉M→F q){b:Nat}:∀{l:List α} {off:Nat},(∀(i:Nat) (h:i<l.length),At T H M b (off+i*T.size) l[i])→
  ∃css,RL F H m0 (l.flatMap enc) css∧∀j u,css[j]? =some u→cell H b (off+j)=some u
 |[],off,_=>⟨[],.nl,fun j u h=>by simp at h⟩
 |x::l,off,h=>by
  obtain⟨-,-,cs,h1,h2⟩:=h 0 (by simp)
  obtain ⟨css, h3, h4⟩ := w3 hb hF (l := l) (off := off + T.size) (fun i hi=>by
   have:=h (i+1) (by simpa using hi);rw[Nat.succ_mul]at this;rw[show off+T.size+i*T.size=off+(i*T.size+T.size)by omega];exact this)
  have hl:=T.len h1;refine⟨cs++css,by rw[List.flatMap_cons];exact(hb.back hF h1).append h3,fun j u hj=>?_⟩;by_cases hjl:j<cs.length
  ·rw[List.getElem?_append_left hjl]at hj;have:=h2 j u hj;rwa[Nat.zero_mul,Nat.add_zero]at this
  ·rw[List.getElem?_append_right (by omega)]at hj;have:=h4 _ u hj;rwa[show off+T.size+(j-cs.length)=off+j by omega]at this
theorem oJ{α:Type}{T:Ty α}{enc:α→List C}(hb:Br T enc){F:Nat→Prop}{H:ab}{M:List Nat}(hM:∀q∈M,¬F q)(hF:∀q,F q→q<H.size){m:Md}{l:List α}{v:Value}(h:RL F H m [.ls T.size α enc l] [v]):Sl T H M v l:=by
 cases h with
 |ls0 t=>exact .inl ⟨_,rfl,rfl⟩
 | @ls _ _ _ _ _ b off cap css _ _ hB h1 h2 hr hz hc t=>
  refine .inr ⟨b,off,cap,rfl,hF b hB,fun hm=>hM b hm hB,h1,h2,by unfold maxLen at h2;omega,fun i hi=>?_⟩;obtain⟨us,u1,u2⟩:=CL hz hr hi;refine⟨hF b hB,fun hm=>hM b hm hB,us,hb.to hM hF u1,fun j u hj=>?_⟩;rw[Nat.add_assoc];exact hc _ u (u2 j u hj)
theorem ux{α:Type}{T:Ty α}{enc:α→List C}(hb:Br T enc){F:Nat→Prop}{H:ab}{M:List Nat}(hF:∀q,q<H.size→q∉M→F q){m:Md}{l:List α}{v:Value}(h:Sl T H M v l):RL F H m [.ls T.size α enc l] [v]:=by
 rcases h with⟨p,rfl,rfl⟩|⟨b,off,cap,rfl,h1,h2,h3,h4,h5,h6⟩
 ·exact .ls0 .nl
 ·obtain⟨css,c1,c2⟩:=w3 hb hF h6;exact .ls (hF b h1 h2) h3 h4 c1 (fun x _=>hb.len x) c2 .nl
theorem Br.byte:Br aV bA where
 len:=fun x=>rfl
 to:=fun _ _ h=>by cases h with|int t=>cases t;exact⟨rfl,trivial⟩
 back:=fun _ h=>by
  obtain⟨h,-⟩:=h;subst h;exact .int .nl
theorem Br.sl{α:Type}{T:Ty α}{enc:α→List C}(hb:Br T enc):Br (bO T) (bq T.size enc)where
 len:=fun x=>rfl
 to:=fun h1 h2 h=>by
  obtain⟨v,rfl,h⟩:=h.single;exact⟨v,rfl,oJ hb h1 h2 h⟩
 back:=fun h1 h=>by
  obtain⟨v,rfl,h⟩:=h;exact ux hb h1 h
theorem WR.fresh{E:En}{F:Nat→Prop}{γ:List Value}{H H':ab}(h:WR E F γ [] H)(hK:ak [] H H'):WR E (fun q=>F q∨(H.size≤q∧q<H'.size)) γ [] H':=by
 have h':=h.same hK;refine⟨h'.len,fun j b g hj=>(by simp at hj),fun i j b b' g g' hne hi=>(by simp at hi),fun j b g q hj=>(by simp at hj),fun q hq=>hq.elim (h'.fb q) (fun he=>he.2),h'.bb,h'.size,h'.bQ,fun q hq=>.inl (h'.fmono q hq),fun q hq=>hq.elim (h'.fnew q) (fun he=>.inr (.inr (by have:=h.size;omega))),fun j b g q hj=>(by simp at hj),h'.pre⟩
abbrev nr:=List (List UInt8)
abbrev HR:nr→List C:=bq 1 (bq 1 bA)
abbrev dq(l:nr):C:= .ls 1 (List UInt8) (bq 1 bA) l
open Classical in
noncomputable def outer(F:Nat→Prop)(H:ab):List Nat:=(List.range H.size).filter fun q=>decide (¬F q)
theorem qx{F:Nat→Prop}{H:ab}:∀q∈outer F H,¬F q:=fun q hq=>by
 unfold outer at hq;rw[List.mem_filter]at hq;simpa using hq.2
theorem yG{F:Nat→Prop}{H:ab}:∀q∈outer F H,q<H.size:=fun q hq=>by
 unfold outer at hq;rw[List.mem_filter]at hq;simpa using hq.1
theorem yH{F:Nat→Prop}{H H':ab}:∀q,q<H'.size→q∉outer F H→F q∨(H.size≤q∧q<H'.size):=fun q h1 h2=>by
 by_cases h:q<H.size
 ·refine .inl (Classical.byContradiction fun hn=>h2 ?_);unfold outer;rw[List.mem_filter];exact⟨by simpa using h,by simpa using hn⟩
 ·exact .inr ⟨by omega,h1⟩
theorem ae.merge{P:Program}{f:FuncId}{base a b:nr}{r:Option nr}
  (h:∀{H:ab} {M:List Nat} {vs va vb:Value},Sl (bO aV) H M vs base→Sl (bO aV) H M va a→Sl (bO aV) H M vb b→(∀i∈M,i<H.size)→
   bP P f #[vs,va,vb] H fun u H'=>(∃v l,r=some l∧u= .tuple #[v,.bool true]∧Sl (bO aV) H' M v l∧ak [] H H')∨(r=none∧u= .tuple #[.slice none 0 0,.bool false]∧ak [] H H')):
  ae P f [.c (dq base),.c (dq a),.c (dq b)] [] (fun o ah=>ah=[]∧((∃l,r=some l∧o= .ret (.tup [(false,[dq l]),(false,[.bool true])]))∨(r=none∧o= .ret (.tup [(false,[dq []]),(false,[.bool false])])))):=by
 intro F L γ H vs hargs hW;match vs,hargs with
 |[v1,v2,v3],⟨h1,h2,h3,_⟩=>
  have bb:=Br.byte.sl;have c:=h (M:=outer F H) (oJ bb qx hW.fb h1) (oJ bb qx hW.fb h2) (oJ bb qx hW.fb h3) yG;refine(vM c).mono fun ok v H' ⟨hok,hr⟩=>?_;subst hok;rcases hr with⟨u,l,e,rfl,hs,hK⟩|⟨e,rfl,hK⟩
  ·refine⟨.ret (.tup [(false,[dq l]),(false,[.bool true])]),[],_,γ,⟨rfl,.inl ⟨l,e,rfl⟩⟩,rfl,rfl,rfl,?_,hW.fresh hK⟩;exact⟨[u,.bool true],rfl,⟨[u],ux bb yH hs,rfl,fun _=>rfl⟩,⟨[.bool true],.bool .nl,rfl,fun _=>rfl⟩,trivial⟩
  ·refine⟨.ret (.tup [(false,[dq []]),(false,[.bool false])]),[],_,γ,⟨rfl,.inr ⟨e,rfl⟩⟩,rfl,rfl,rfl,?_,hW.fresh hK⟩;exact⟨[.slice none 0 0,.bool false],rfl,⟨[.slice none 0 0],.ls0 .nl,rfl,fun _=>rfl⟩,⟨[.bool false],.bool .nl,rfl,fun _=>rfl⟩,trivial⟩
theorem ae.lines{P:Program}{f:FuncId}{b:List UInt8}{r:nr}
  (h:∀{H:ab} {M:List Nat} {v:Value},Sl aV H M v b→(∀i∈M,i<H.size)→bP P f #[v] H fun u H'=>Sl (bO aV) H' M u r∧ak [] H H'):
  ae P f [.c (.ls 1 UInt8 bA b)] [] (Rt (.c (dq r)) []):=by
 intro F L γ H vs hargs hW;match vs,hargs with
 |[v1],⟨h1,_⟩=>
  have c:=h (M:=outer F H) (oJ Br.byte qx hW.fb h1) yG;refine(vM c).mono fun ok v H' ⟨hok,hs,hK⟩=>?_;subst hok;exact⟨.ret (.c (dq r)),[],_,γ,⟨rfl,rfl⟩,rfl,rfl,rfl,ux Br.byte.sl yH hs,hW.fresh hK⟩
end Go.AM
end
