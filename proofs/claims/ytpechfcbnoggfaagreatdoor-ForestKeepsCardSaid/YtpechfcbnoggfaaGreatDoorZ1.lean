/- part -/
import Derived.Test.YtpechfcbnoggfaaGreatDoorAmH
import Derived.Laws.Externs
import Derived.Below
import Derived.Test.YtpechfcbnoggfaaGreatDoorAm1
set_option linter.unusedVariables false
set_option linter.unusedSimpArgs false
section
namespace Go.AM
open Go Go.NB Go.RowKit
theorem x5{d:Bool}{P:Program}{f:FuncId}{fn:Func}{e:Array Value→Sem Value}(k:P.funcs[f]? =some fn)(b:(fn.name== "runtime.NumGoroutine")=false)(hb:fn.body.isNone=true)(hn:Extern.findNext fn=none)(he:Extern.find fn=some e)
  {args:List A}{x:C}(n:dW x=true)(h:∀(F:Nat→Prop) (H:ab) (m:Md) (vs:List Value) (w:World),dU F H m args vs→∃v,(e vs.toArray).run P w= .ok v w∧∀F H m,RL F H m [x] [v]):
  bA d P f args [] (Rt (.c x) []):=by
 intro F L γ H vs a j w l;obtain⟨v,g,i⟩:=h F H _ vs w a;rw[run_callFunc_extern k b hb hn he,g];refine⟨rfl,.ret (.c x),[],F,γ,⟨rfl,rfl⟩,?_,rfl,rfl,i _ _ _,?_⟩
 ·show fM x=true;cases x<;>first|rfl|cases n
 ·subst l;exact j
theorem ae.GR{P:Program}{f:FuncId}{args:List A}{x:C}(o:dW x=true)(b:∀args w,(callFunc f args).run P w= .ok (.enter f args) w)
  (h:∀(F L:Nat→Prop) (γ:List Value) (w:World) (vs:List Value),dU F w.heap ⟨L,γ⟩ args vs→(∀k,F k∨L k→k<w.heap.size)→∃v,(∀F H m,RL F H m [x] [v])∧Calls P f vs.toArray w fun e w'=>e= .returned v∧Below w.heap.size w w'):
  ae P f args [] (Rt (.c x) []):=by
 intro F L γ H vs a g w n;subst n;obtain⟨v,i,j⟩:=h F L γ w vs a (fun k d=>d.elim (g.fb k) (fun d=>(g.bb k d).1));rw[b];refine⟨rfl,j.mono fun e w' ⟨l,hb⟩=>.inl ⟨v,l,⟨.ret (.c x),[],F,γ,⟨rfl,rfl⟩,?_,rfl,rfl,i _ _ _,?_⟩,⟨hb.os,hb.tape,hb.output,fun h=>by cases h⟩⟩⟩
 ·show fM x=true;cases x<;>first|rfl|cases o
 ·exact g.same ⟨hb.size,fun k d _=>hb.block k d⟩
theorem vN{F:Nat→Prop}{H:ab}{m:Md}:∀{l:List (List UInt8)} {css:List Value},RL F H m (l.flatMap encS) css→css=l.map NB.str
 |[],_,h=>by cases h;rfl
 |x::l,css,h=>by
  rw[List.flatMap_cons]at h;cases h with
  |str _ t=>rw[vN t];rfl
end Go.AM
end
section
namespace Go.AM
open Go Go.NB
theorem xf{P:Program}{f:FuncId}{args:Array Value}{H:ab}{R:Value→ab→Prop}(h:cS P f args H R):mX false P f args H fun ok v H'=>ok=true∧R v H':=by
 intro w g;have:=h w g;unfold na at this;unfold ow;split at this
 ·rename_i a;rw[a];exact⟨this.1,rfl,this.2⟩
 ·rename_i a;rw[a];exact⟨this.1,this.2.mono fun e i ⟨v,b,c,d⟩=>.inl ⟨v,b,⟨rfl,c⟩,.of d⟩⟩
 ·exact this.elim
structure Bk{α:Type}(T:Ty α)(enc:α→List C):Prop where
 len:∀x,(enc x).length=T.size
 back:∀{F:Nat→Prop} {H:ab} {M:List Nat} {cs:List Value} {x:α},(∀q,q<H.size→q∉M→F q)→T.R H M cs x→RL F H m0 (enc x) cs
structure Br{α:Type}(T:Ty α)(enc:α→List C):Prop extends Bk T enc where
 to:∀{F:Nat→Prop} {H:ab} {M:List Nat} {cs:List Value} {x:α},(∀q∈M,¬F q)→(∀q,F q→q<H.size)→RL F H m0 (enc x) cs→T.R H M cs x
theorem Ew{α:Type}{enc:α→List C}{sz:Nat}{F:Nat→Prop}{H:ab}{l:List α}{css:List Value}(hz:∀x∈l,(enc x).length=sz)(h:RL F H m0 (l.flatMap enc) css){i:Nat}(hi:i<l.length):
  ∃us,RL F H m0 (enc l[i]) us∧∀j u,us[j]? =some u→css[i*sz+j]? =some u:=by
 have e:l=l.take i++l[i]::l.drop (i+1):=by rw[←List.drop_eq_getElem_cons hi,List.take_append_drop]
 have d:l.flatMap enc=(l.take i).flatMap enc++(enc l[i]++(l.drop (i+1)).flatMap enc):=by
  conv=>lhs;rw[e]
  rw[List.flatMap_append,List.flatMap_cons]
 rw[d]at h;obtain⟨us,q,rfl,f,g⟩:=h.split;obtain⟨a,o,rfl,k,p⟩:=g.split
 have m:us.length=i*sz:=by
  rw[←f.length,iz fun x n=>hz x (List.mem_of_mem_take n),List.length_take,Nat.min_eq_left (by omega)]
 refine⟨a,k,fun j u b=>?_⟩
 have c:j<a.length:=by
  rw[List.getElem?_eq_some_iff]at b;exact b.1
 rw[List.getElem?_append_right (by omega),m,Nat.add_sub_cancel_left,List.getElem?_append_left c];exact b
theorem yj{α:Type}{T:Ty α}{enc:α→List C}(hb:Bk T enc){F:Nat→Prop}{H:ab}{M:List Nat}(f:∀q,q<H.size→q∉M→F q){b:Nat}:∀{l:List α} {off:Nat},(∀(i:Nat) (h:i<l.length),At T H M b (off+i*T.size) l[i])→
  ∃css,RL F H m0 (l.flatMap enc) css∧∀j u,css[j]? =some u→cell H b (off+j)=some u
 |[],off,_=>⟨[],.nl,fun j u h=>by simp at h⟩
 |x::l,off,h=>by
  obtain⟨-,-,c,e,g⟩:=h 0 (by simp)
  obtain ⟨css, k, m⟩ := yj hb f (l := l) (off := off + T.size) (fun i n=>by
   have:=h (i+1) (by simpa using n);rw[Nat.succ_mul]at this;rw[show off+T.size+i*T.size=off+(i*T.size+T.size)by omega];exact this)
  have o:=T.len e;refine⟨c++css,by rw[List.flatMap_cons];exact(hb.back f e).append k,fun j u a=>?_⟩;by_cases d:j<c.length
  ·rw[List.getElem?_append_left d]at a;have:=g j u a;rwa[Nat.zero_mul,Nat.add_zero]at this
  ·rw[List.getElem?_append_right (by omega)]at a;have:=m _ u a;rwa[show off+T.size+(j-c.length)=off+j by omega]at this
theorem rZ{α:Type}{T:Ty α}{enc:α→List C}(hb:Br T enc){F:Nat→Prop}{H:ab}{M:List Nat}(d:∀q∈M,¬F q)(c:∀q,F q→q<H.size){m:Md}{l:List α}{v:Value}(h:RL F H m [.ls T.size α enc l] [v]):Sl T H M v l:=by
 cases h with
 |bY t=>exact .inl ⟨_,rfl,rfl⟩
 | @ls _ _ _ _ _ b f cap k _ _ a n g s w o t=>
  refine .inr ⟨b,f,cap,rfl,c b a,fun e=>d b e a,n,g,by unfold maxLen at g;omega,fun i p=>?_⟩;obtain⟨z,x,y⟩:=Ew w s p;refine⟨c b a,fun e=>d b e a,z,hb.to d c x,fun j u r=>?_⟩;rw[Nat.add_assoc];exact o _ u (y j u r)
theorem vG{α:Type}{T:Ty α}{enc:α→List C}(hb:Bk T enc){F:Nat→Prop}{H:ab}{M:List Nat}(a:∀q,q<H.size→q∉M→F q){m:Md}{l:List α}{v:Value}(h:Sl T H M v l):RL F H m [.ls T.size α enc l] [v]:=by
 rcases h with⟨p,rfl,rfl⟩|⟨b,n,cap,rfl,f,g,i,j,o,k⟩
 ·exact .bY .nl
 ·obtain⟨e,c,d⟩:=yj hb a k;exact .ls (a b f g) i j c (fun x _=>hb.len x) d .nl
theorem Br.byte:Br cY bt where
 len:=fun x=>rfl
 to:=fun _ _ h=>by cases h with|int t=>cases t;exact⟨rfl,trivial⟩
 back:=fun _ h=>by
  obtain⟨h,-⟩:=h;subst h;exact .int .nl
theorem Br.sl{α:Type}{T:Ty α}{enc:α→List C}(hb:Br T enc):Br (fY T) (bf T.size enc)where
 len:=fun x=>rfl
 to:=fun a b h=>by
  obtain⟨v,rfl,h⟩:=h.single;exact⟨v,rfl,rZ hb a b h⟩
 back:=fun a h=>by
  obtain⟨v,rfl,h⟩:=h;exact vG hb.toBk a h
theorem WR.fresh{E:En}{F:Nat→Prop}{γ:List Value}{H H':ab}(h:WR E F γ [] H)(f:aq [] H H'):WR E (fun q=>F q∨(H.size≤q∧q<H'.size)) γ [] H':=by
 have a:=h.same f;refine⟨a.len,fun j b g c=>(by simp at c),fun i j b m g n l k=>(by simp at k),fun j b g q c=>(by simp at c),fun q d=>d.elim (a.fb q) (fun e=>e.2),a.bb,a.size,a.ca,fun q d=>.inl (a.fmono q d),fun q d=>d.elim (a.fnew q) (fun e=>.inr (.inr (by have:=h.size;omega))),fun j b g q c=>(by simp at c),a.pre⟩
abbrev dt:=List (List UInt8)
abbrev Ki:dt→List C:=bf 1 (bf 1 bt)
abbrev bS(l:dt):C:= .ls 1 (List UInt8) (bf 1 bt) l
open Classical in
noncomputable def outer(F:Nat→Prop)(H:ab):List Nat:=(List.range H.size).filter fun q=>decide (¬F q)
theorem u5{F:Nat→Prop}{H:ab}:∀q∈outer F H,¬F q:=fun q a=>by
 unfold outer at a;rw[List.mem_filter]at a;simpa using a.2
theorem Ai{F:Nat→Prop}{H:ab}:∀q∈outer F H,q<H.size:=fun q a=>by
 unfold outer at a;rw[List.mem_filter]at a;simpa using a.1
theorem Aj{F:Nat→Prop}{H H':ab}:∀q,q<H'.size→q∉outer F H→F q∨(H.size≤q∧q<H'.size):=fun q a b=>by
 by_cases h:q<H.size
 ·refine .inl (Classical.byContradiction fun c=>b ?_);unfold outer;rw[List.mem_filter];exact⟨by simpa using h,by simpa using c⟩
 ·exact .inr ⟨by omega,a⟩
theorem ae.lines{P:Program}{f:FuncId}{b:List UInt8}{r:dt}
  (h:∀{H:ab} {M:List Nat} {v:Value},Sl cY H M v b→(∀i∈M,i<H.size)→cS P f #[v] H fun u H'=>Sl (fY cY) H' M u r∧aq [] H H'):
  ae P f [.c (.ls 1 UInt8 bt b)] [] (Rt (.c (bS r)) []):=by
 intro F L γ H vs a e;match vs,a with
 |[k],⟨h1,_⟩=>
  have c:=h (M:=outer F H) (rZ Br.byte u5 e.fb h1) Ai;refine(xf c).mono fun ok v H' ⟨d,j,g⟩=>?_;subst d;exact⟨.ret (.c (bS r)),[],_,γ,⟨rfl,rfl⟩,rfl,rfl,rfl,vG Br.byte.sl.toBk Aj j,e.fresh g⟩
end Go.AM
end
