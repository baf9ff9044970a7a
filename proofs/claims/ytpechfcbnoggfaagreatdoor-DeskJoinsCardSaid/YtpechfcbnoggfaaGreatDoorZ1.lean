import Derived.Test.YtpechfcbnoggfaaGreatDoorAmH
import Derived.Laws.Externs
import Derived.Below
import Derived.Test.YtpechfcbnoggfaaGreatDoorAm1
set_option linter.unusedVariables false
set_option linter.unusedSimpArgs false
open Classical renaming byContradiction->O
open List renaming getElem?_append_right->D,flatMap_cons->I,getElem?_append_left->J,mem_filter->N
section
namespace Go.AM
open Go Go.NB Go.RowKit
theorem wk{d:Bool}{P:Program}{f:FuncId}{fn:Func}{e:Array Value->Sem Value}(k:P.funcs[f]? =some fn)(b:(fn.name== "runtime.NumGoroutine")=false)(hb:fn.body.isNone=true)(hn:Extern.findNext fn=none)(he:Extern.find fn=some e)
  {args:List A}{x:C}(n:eM x=true)(h:∀(F:Nat->Prop) (H:ae) (m:Md) (vs:List Value) (w:World),ed F H m args vs->∃v,(e vs.toArray).run P w= .ok v w/\∀F H m,RL F H m [x] [v]):
  bB d P f args [] (Rt (.c x) []):=by
 intro F L γ H vs a j w l;obtain⟨v,g,i⟩:=h F H _ vs w a;rw[run_callFunc_extern k b hb hn he,g];refine⟨rfl,.ret (.c x),[],F,γ,⟨rfl,rfl⟩,?_,rfl,rfl,i _ _ _,?_⟩
 ·show gN x=true;cases x<;>first|rfl|cases n
 ·subst l;exact j
theorem aa.Dj{P:Program}{f:FuncId}{args:List A}{x:C}(o:eM x=true)(b:∀args w,(callFunc f args).run P w= .ok (.enter f args) w)
  (h:∀(F L:Nat->Prop) (γ:List Value) (w:World) (vs:List Value),ed F w.heap ⟨L,γ⟩ args vs->(∀k,F k\/L k->k<w.heap.size)->∃v,(∀F H m,RL F H m [x] [v])/\Calls P f vs.toArray w λe w'=>e= .returned v/\Below w.heap.size w w'):
  aa P f args [] (Rt (.c x) []):=by
 intro F L γ H vs a g w n;subst n;obtain⟨v,i,j⟩:=h F L γ w vs a (λk d=>d.elim (g.fb k) (λd=>(g.bb k d).1));rw[b];refine⟨rfl,j.mono λe w' ⟨l,hb⟩=>.inl ⟨v,l,⟨.ret (.c x),[],F,γ,⟨rfl,rfl⟩,?_,rfl,rfl,i _ _ _,?_⟩,⟨hb.os,hb.tape,hb.output,λh=>by cases h⟩⟩⟩
 ·show gN x=true;cases x<;>first|rfl|cases o
 ·exact g.same ⟨hb.size,λk d _=>hb.block k d⟩
theorem uB{F:Nat->Prop}{H:ae}{m:Md}:∀{l:List (List UInt8)} {css:List Value},RL F H m (l.flatMap encS) css->css=l.map NB.str
 |[],_,h=>by cases h;rfl
 |x::l,css,h=>by
  rw[I]at h;cases h with
  |str _ t=>rw[uB t];rfl
end Go.AM
end
section
namespace Go.AM
open Go Go.NB
theorem Ai{P:Program}{f:FuncId}{args:Array Value}{H:ae}{R:Value->ae->Prop}(h:cg P f args H R):oU false P f args H λok v H'=>ok=true/\R v H':=by
 intro w g;have:=h w g;unfold oW at this;unfold qi;split at this
 ·rename_i a;rw[a];exact⟨this.1,rfl,this.2⟩
 ·rename_i a;rw[a];exact⟨this.1,this.2.mono λe i ⟨v,b,c,d⟩=>.inl ⟨v,b,⟨rfl,c⟩,.of d⟩⟩
 ·exact this.elim
structure Bk{α:Type}(T:Ty α)(enc:α->List C):Prop where
 len:∀x,(enc x).length=T.size
 back:∀{F:Nat->Prop} {H:ae} {M:List Nat} {cs:List Value} {x:α},(∀q,q<H.size->q∉M->F q)->T.R H M cs x->RL F H m0 (enc x) cs
structure Br{α:Type}(T:Ty α)(enc:α->List C):Prop extends Bk T enc where
 to:∀{F:Nat->Prop} {H:ae} {M:List Nat} {cs:List Value} {x:α},(∀q∈M,¬F q)->(∀q,F q->q<H.size)->RL F H m0 (enc x) cs->T.R H M cs x
theorem Jq{α:Type}{enc:α->List C}{sz:Nat}{F:Nat->Prop}{H:ae}{l:List α}{css:List Value}(hz:∀x∈l,(enc x).length=sz)(h:RL F H m0 (l.flatMap enc) css){i:Nat}(hi:i<l.length):
  ∃us,RL F H m0 (enc l[i]) us/\∀j u,us[j]? =some u->css[i*sz+j]? =some u:=by
 have e:l=l.take i++l[i]::l.drop (i+1):=by rw[<-List.drop_eq_getElem_cons hi,List.take_append_drop]
 have d:l.flatMap enc=(l.take i).flatMap enc++(enc l[i]++(l.drop (i+1)).flatMap enc):=by
  conv=>lhs;rw[e]
  rw[List.flatMap_append,I]
 rw[d]at h;obtain⟨us,q,rfl,f,g⟩:=h.split;obtain⟨a,o,rfl,k,p⟩:=g.split
 have m:us.length=i*sz:=by
  rw[<-f.length,jD λx n=>hz x (List.mem_of_mem_take n),List.length_take,Nat.min_eq_left (by omega)]
 refine⟨a,k,λj u b=>?_⟩
 have c:j<a.length:=by
  rw[List.getElem?_eq_some_iff]at b;exact b.1
 rw[D (by omega),m,Nat.add_sub_cancel_left,J c];exact b
theorem BB{α:Type}{T:Ty α}{enc:α->List C}(hb:Bk T enc){F:Nat->Prop}{H:ae}{M:List Nat}(f:∀q,q<H.size->q∉M->F q){b:Nat}:∀{l:List α} {off:Nat},(∀(i:Nat) (h:i<l.length),At T H M b (off+i*T.size) l[i])->
  ∃css,RL F H m0 (l.flatMap enc) css/\∀j u,css[j]? =some u->cell H b (off+j)=some u
 |[],off,_=>⟨[],.nl,λj u h=>by simp at h⟩
 |x::l,off,h=>by
  obtain⟨-,-,c,e,g⟩:=h 0 (by simp)
  obtain ⟨css, k, m⟩ := BB hb f (l := l) (off := off + T.size) (λi n=>by
   have:=h (i+1) (by simpa using n);rw[Nat.succ_mul]at this;rw[show off+T.size+i*T.size=off+(i*T.size+T.size)by omega];exact this)
  have o:=T.len e;refine⟨c++css,by rw[I];exact(hb.back f e).append k,λj u a=>?_⟩;by_cases d:j<c.length
  ·rw[J d]at a;have:=g j u a;rwa[Nat.zero_mul,Nat.add_zero]at this
  ·rw[D (by omega)]at a;have:=m _ u a;rwa[show off+T.size+(j-c.length)=off+j by omega]at this
theorem uu{α:Type}{T:Ty α}{enc:α->List C}(hb:Br T enc){F:Nat->Prop}{H:ae}{M:List Nat}(d:∀q∈M,¬F q)(c:∀q,F q->q<H.size){m:Md}{l:List α}{v:Value}(h:RL F H m [.ls T.size α enc l] [v]):Sl T H M v l:=by
 cases h with
 |ct t=>exact .inl ⟨_,rfl,rfl⟩
 | @ls _ _ _ _ _ b f cap k _ _ a n g s w o t=>
  refine .inr ⟨b,f,cap,rfl,c b a,λe=>d b e a,n,g,by unfold maxLen at g;omega,λi p=>?_⟩;obtain⟨z,x,y⟩:=Jq w s p;refine⟨c b a,λe=>d b e a,z,hb.to d c x,λj u r=>?_⟩;rw[Nat.add_assoc];exact o _ u (y j u r)
theorem yj{α:Type}{T:Ty α}{enc:α->List C}(hb:Bk T enc){F:Nat->Prop}{H:ae}{M:List Nat}(a:∀q,q<H.size->q∉M->F q){m:Md}{l:List α}{v:Value}(h:Sl T H M v l):RL F H m [.ls T.size α enc l] [v]:=by
 rcases h with⟨p,rfl,rfl⟩|⟨b,n,cap,rfl,f,g,i,j,o,k⟩
 ·exact .ct .nl
 ·obtain⟨e,c,d⟩:=BB hb a k;exact .ls (a b f g) i j c (λx _=>hb.len x) d .nl
theorem Br.byte:Br dy aN where
 len:=λx=>rfl
 to:=λ_ _ h=>by cases h with|int t=>cases t;exact⟨rfl,trivial⟩
 back:=λ_ h=>by
  obtain⟨h,-⟩:=h;subst h;exact .int .nl
theorem Br.sl{α:Type}{T:Ty α}{enc:α->List C}(hb:Br T enc):Br (ia T) (bM T.size enc)where
 len:=λx=>rfl
 to:=λa b h=>by
  obtain⟨v,rfl,h⟩:=h.single;exact⟨v,rfl,uu hb a b h⟩
 back:=λa h=>by
  obtain⟨v,rfl,h⟩:=h;exact yj hb.toBk a h
theorem WR.fresh{E:En}{F:Nat->Prop}{γ:List Value}{H H':ae}(h:WR E F γ [] H)(f:au [] H H'):WR E (λq=>F q\/(H.size<=q/\q<H'.size)) γ [] H':=by
 have a:=h.same f;refine⟨a.len,λj b g c=>(by simp at c),λi j b m g n l k=>(by simp at k),λj b g q c=>(by simp at c),λq d=>d.elim (a.fb q) (λe=>e.2),a.bb,a.size,a.cn,λq d=>.inl (a.fmono q d),λq d=>d.elim (a.fnew q) (λe=>.inr (.inr (by have:=h.size;omega))),λj b g q c=>(by simp at c),a.pre,a.gl⟩
abbrev dM:=List (List UInt8)
abbrev Qg:dM->List C:=bM 1 (bM 1 aN)
abbrev b9(l:dM):C:= .ls 1 (List UInt8) (bM 1 aN) l
open Classical in
noncomputable def outer(F:Nat->Prop)(H:ae):List Nat:=(List.range H.size).filter λq=>decide (¬F q)
theorem xJ{F:Nat->Prop}{H:ae}:∀q∈outer F H,¬F q:=λq a=>by
 unfold outer at a;rw[N]at a;simpa using a.2
theorem Dw{F:Nat->Prop}{H:ae}:∀q∈outer F H,q<H.size:=λq a=>by
 unfold outer at a;rw[N]at a;simpa using a.1
theorem Dx{F:Nat->Prop}{H H':ae}:∀q,q<H'.size->q∉outer F H->F q\/(H.size<=q/\q<H'.size):=λq a b=>by
 by_cases h:q<H.size
 ·refine .inl (O λc=>b ?_);unfold outer;rw[N];exact⟨by simpa using h,by simpa using c⟩
 ·exact .inr ⟨by omega,a⟩
theorem aa.lines{P:Program}{f:FuncId}{b:List UInt8}{r:dM}
  (h:∀{H:ae} {M:List Nat} {v:Value},Sl dy H M v b->(∀i∈M,i<H.size)->cg P f #[v] H λu H'=>Sl (ia dy) H' M u r/\au [] H H'):
  aa P f [.c (.ls 1 UInt8 aN b)] [] (Rt (.c (b9 r)) []):=by
 intro F L γ H vs a e;match vs,a with
 |[k],⟨h1,_⟩=>
  have c:=h (M:=outer F H) (uu Br.byte xJ e.fb h1) Dw;refine(Ai c).mono λok v H' ⟨d,j,g⟩=>?_;subst d;exact⟨.ret (.c (b9 r)),[],_,γ,⟨rfl,rfl⟩,rfl,rfl,rfl,yj Br.byte.sl.toBk Dx j,e.fresh g⟩
end Go.AM
end
