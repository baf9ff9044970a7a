import Derived.Test.YtpechfcbnoggfaaGreatDoorAm14
import Derived.OrdersHeld
import Derived.KernelRfl
set_option linter.unusedVariables false
set_option linter.unusedSimpArgs false
open Array renaming getD_eq_getD_getElem?->a6,getElem?_eq_getElem->be,getElem?_eq_none->bj,getElem?_eq_some_iff->b1,getD->cr
open Bool renaming and_eq_true->a1,not_eq_true->a9,or_eq_true->bi
open List renaming mem_cons->bp,all_eq_true->b0,length_eq_one_iff->b3,pairwise_cons->cd,mapM_cons->ci
open Nat renaming eq_of_beq_eq_true->a5,beq->bl,le_of_ble_eq_true->bn,zero_add->b2,ble->b4,le_trans->cb,zero_le->ce,blt->co,lt_or_ge->cp,add_zero->cq
open Option renaming map_eq_some_iff->bk
section
namespace Go.AM
open Go Go.NB
def Xg(ops:Array Oper)(o:Oper)(s:St)(yes:St->Prop)(f:St->Prop):Prop:=
 match o.guard with
 |none=>yes s
 |some (j,a)=>match(ops[j]?).bind (·.dst)with
  |some d=>match lk s.env d with
   |some (.c (.bool b))=>match s with
    |⟨e,ah⟩=> @Bool.rec (λ_=>Prop) (bif a then f ⟨(d,.c (.bool false))::e,ah⟩else yes ⟨(d,.c (.bool false))::e,ah⟩)
     (bif a then yes ⟨(d,.c (.bool true))::e,ah⟩else f ⟨(d,.c (.bool true))::e,ah⟩) b
   |some .off=>f s
   |_=>False
  |none=>False
def Xl(c:dK)(ops:Array Oper)(l:List (G×Oper)):St->(St->Prop)->(A->St->Prop)->Prop:=
 List.rec (motive:=λ_=>St->(St->Prop)->(A->St->Prop)->Prop) (λs k _=>k s)
  (λx _ ih s k a=>Xg ops x.2 s (λs=>Xo c x.1 x.2 s (λs=>ih s k a) a) (λs=>jj c.n s x.2.dst .off λs=>ih s k a)) l
theorem uZ{c:dK}{ops:Array Oper}{g:G}{o:Oper}{r:List (G×Oper)}{s:St}{k:St->Prop}{a:A->St->Prop}(h:Xl c ops ((g,o)::r) s k a):Xg ops o s (λs=>Xo c g o s (λs=>Xl c ops r s k a) a) (λs=>jj c.n s o.dst .off λs=>Xl c ops r s k a):=h
section
variable {c:dK} {r:kO} {s:St} {a:Act} {w:World} {o:Oper}
theorem Fu{F:Nat->Prop}{H:ae}{m:Md}{ops:Array Oper}(c:ER F H m s.env a){j d:Nat}{x:A}(hj:(ops[j]?).bind (·.dst)=some d)(hl:lk s.env d=some x)(e:∀v,RA F H m x v->v≠undef\/True):
  yielded ops a.tmps j=(match a.tmps.getD d undef with| .bool b=>some b|_=>none):=by
 unfold yielded;rw[hj];show(match a.tmps[d]? with|some (.bool b)=>some b|_=>none)=_;by_cases h:d<a.tmps.size
 ·rw[be h];simp[cr,h];cases a.tmps[d]<;>rfl
 ·rw[bj (by omega)];simp[cr,h];rfl
theorem uY{ops:Array Oper}{F:Nat->Prop}{γ:List Value}{yes u:St->Prop}(h:Xg ops o s yes u)(D:gJ c r F γ s .undef undef a w):
  (Region.wanted o (yielded ops a.tmps)=true/\∃i,yes i/\i.ah=s.ah/\gJ c r F γ i .undef undef a w)\/(Region.wanted o (yielded ops a.tmps)=false/\∃i,u i/\i.ah=s.ah/\gJ c r F γ i .undef undef a w):=by
 unfold Xg at h;split at h
 ·rename_i n;exact .inl ⟨by simp[Region.wanted,n],s,h,rfl,D⟩
 ·rename_i j g n;split at h
  ·rename_i d J;have E:=D;obtain⟨N,z,K,M,k,_⟩:=E;split at h
   ·rename_i b l;have m:=Fu (ops:=ops) k J l (λ_ _=>.inr trivial);have p:=k d _ l;generalize H:a.tmps.getD d undef=v at m p;cases p with
    |bool _=>
     have put:∀y,y=b->gJ c r F γ ⟨(d,.c (.bool y))::s.env,s.ah⟩ .undef undef a w:=λy hb=>by
      subst hb;refine⟨N,z,K,M,λt x f=>?_,trivial⟩;simp only[lk]at f;by_cases e:bl d t=true
      ·rw[e]at f;cases f;obtain rfl:=a5 e;rw[H];exact .bool .nl
      ·rw[a9]at e;rw[e]at f;exact k t x f
     have q:Region.wanted o (yielded ops a.tmps)=(some b==some g):=by simp only[Region.wanted,n,m]
     cases b with
     |true=>
      have h:bif g then yes ⟨(d,.c (.bool true))::s.env,s.ah⟩else u ⟨(d,.c (.bool true))::s.env,s.ah⟩:=h
      rcases kg h with⟨rfl,h⟩|⟨rfl,h⟩
      ·exact .inl ⟨by rw[q];rfl,_,h,rfl,put _ rfl⟩
      ·exact .inr ⟨by rw[q];rfl,_,h,rfl,put _ rfl⟩
     |false=>
      have h:bif g then u ⟨(d,.c (.bool false))::s.env,s.ah⟩else yes ⟨(d,.c (.bool false))::s.env,s.ah⟩:=h
      rcases kg h with⟨rfl,h⟩|⟨rfl,h⟩
      ·exact .inr ⟨by rw[q];rfl,_,h,rfl,put _ rfl⟩
      ·exact .inl ⟨by rw[q];rfl,_,h,rfl,put _ rfl⟩
   ·rename_i l;have m:=Fu (ops:=ops) k J l (λ_ _=>.inr trivial);have p:a.tmps.getD d undef=undef:=k d _ l;rw[p]at m;have I:yielded ops a.tmps j=none:=by rw[m];rfl
    refine .inr ⟨?_,s,h,rfl,D⟩;simp only[Region.wanted,n,I];rfl
   ·exact h.elim
  ·exact h.elim
theorem FJ(E:bI c.P c.tab){ops:Array Oper}{k:St->Prop}{K:XE->St->Prop}{Q:Exit->Act->World->Prop}(g:∀s a w,k s->SR c r s .undef undef a w->Q .normal a w)(D:∀p a w,Qk c r K (.panic p) a w->Q (.panic p) a w):
  ∀(l:List Oper) (s:St) (a:Act) (w:World),Xl c ops (l.map λo=>(G.any,o)) s k (λv s=>K (.cV v) s)->SR c r s .undef undef a w->wpList c.P ops Q l a w:=by
 intro l;induction l with
 |nil=>intro s a w h e;exact wpList_nil (g _ _ _ h e)
 |cons o l ih=>
  intro s a w h e;refine wpList_step λN q=>?_;obtain⟨F,γ,e⟩:=e;rcases uY (uZ h) e with⟨j,J,h,_,b⟩|⟨j,J,h,_,b⟩
  ·rw[if_pos j];exact Oper.wp_mono (λu M ⟨t,n,m,f,d,_⟩=>q _ _ (ih m u M f ⟨t,n,d⟩)) (yT E h b D)
  ·rw[if_neg (by rw[j];simp)];obtain⟨I,i,y,H,z,_⟩:=b;obtain⟨m,f,_,d⟩:=oH (x:= .off) (v:=undef) h I i y H z rfl;exact q _ _ (ih m _ _ f ⟨F,γ,d⟩)
end
def bitsOf(a:Array Nat)(o:Oper):Nat:=o.after.toList.foldl (λs e=>bif Region.binds .any e then s|||2^e.on|||a.getD e.on 0 else s) 0
def o3:List Oper->Array Nat->Array Nat
 |[],a=>a
 |o::r,a=>o3 r (a.push (bitsOf a o))
inductive iN(ops:Array Oper):Nat->Nat->Prop
 |one {i j:Nat} {o:Oper} {e:Edge} (h:ops[j]? =some o) (he:e∈o.after) (hb:Region.binds .any e=true) (hi:e.on=i):iN ops i j
 |more {i j:Nat} {o:Oper} {e:Edge} (h:ops[j]? =some o) (he:e∈o.after) (hb:Region.binds .any e=true) (hi:iN ops i e.on):iN ops i j
theorem GW{ops:Array Oper}{a:Array Nat}{o:Oper}{j:Nat}(ho:ops[j]? =some o)(b:∀i q,(a.getD q 0).testBit i=true->iN ops i q):∀i,(bitsOf a o).testBit i=true->iN ops i j:=by
 have g:∀(l:List Edge) (s:Nat),(∀e∈l,e∈o.after)->(∀i,s.testBit i=true->iN ops i j)->∀i,(l.foldl (λs e=>bif Region.binds .any e then s|||2^e.on|||a.getD e.on 0 else s) s).testBit i=true->iN ops i j:=by
  intro l;induction l with
  |nil=>intro s _ c i h;exact c i h
  |cons e l ih=>
   intro s f c i h;rw[List.foldl_cons]at h;refine ih _ (λe d=>f e (by simp[d])) (λi hi=>?_) i h;by_cases hb:Region.binds .any e=true
   ·rw[hb,cond_true,Nat.testBit_or,Nat.testBit_or,bi,bi]at hi;rcases hi with(hi|hi)|hi
    ·exact c i hi
    ·rw[Nat.testBit_two_pow]at hi;exact .one ho (f e (by simp)) hb (by simpa using hi)
    ·exact .more ho (f e (by simp)) hb (b i _ hi)
   ·rw[a9]at hb;rw[hb,cond_false]at hi;exact c i hi
 intro i h;exact g o.after.toList 0 (λe d=>by simpa using d) (λi hi=>by simp at hi) i h
theorem zX{ops:Array Oper}:∀(l:List Oper) (a:Array Nat),(∀q o,l[q]? =some o->ops[a.size+q]? =some o)->(∀i q,(a.getD q 0).testBit i=true->iN ops i q)->∀i q,((o3 l a).getD q 0).testBit i=true->iN ops i q
 |[],a,_,h=>h
 |o::r,a,d,h=>by
  refine zX r _ (λq g c=>?_) (λi q b=>?_)
  ·have:=d (q+1) g (by simpa using c);rw[Array.size_push];rw[show a.size+1+q=a.size+(q+1)by omega];exact this
  ·by_cases c:q<a.size
   ·refine h i q ?_;simp only[a6]at b⊢;rw[Array.getElem?_push_lt c]at b;rw[be c];exact b
   ·by_cases f:q=a.size
    ·subst f;have e:=d 0 o rfl;simp only[a6,Array.getElem?_push_size,Option.getD_some]at b;exact GW e h i b
    ·simp only[a6]at b;rw[bj (by simp;omega)]at b;simp at b
def bC(a:Op):Bool:= !ja a
def w7(ops:Array Oper)(bits:Array Nat)(j:Nat):Bool:=(List.range ops.size).all λi=>match ops[i]? with
 |some o=> !bC o.op||bl i j||(bits.getD j 0).testBit i||(bits.getD i 0).testBit j
 |none=>true
section
variable {P:Program} {ops:Array Oper} {Q:Exit->Act->World->Prop} {S:World->Prop} {late:Nat->Bool}
def Cl(ops:Array Oper)(a:Array Bool):Prop:=
 ∀(j:Nat) (b:Oper),ops[j]? =some b->a.getD j false=true->∀e∈b.after,Region.binds .any e=true->a.getD e.on false=true
theorem Cl.step{a:Array Bool}{j:Nat}(hc:Cl ops a)(hj:j∈Region.ready .any ops a):Cl ops (a.setIfInBounds j true):=λk ok g h e f hb=>by
 obtain⟨_,i,d,b⟩:=mem_ready.1 hj;by_cases c:j=k
 ·subst c;rw[g]at d;cases d;exact getD_set_true (b e f hb)
 ·rw[getD_set_ne false c]at h;exact getD_set_true (hc k ok g h e f hb)
theorem za{a:Array Bool}(hc:Cl ops a){i j:Nat}(h:iN ops i j):(∀o,ops[j]? =some o->∀e∈o.after,Region.binds .any e=true->a.getD e.on false=true)->a.getD i false=true:=by
 induction h with
 |one h c hb l=>intro f;rw[<-l];exact f _ h _ c hb
 |more h c hb _ ih=>intro f;exact ih λm g k d b=>hc _ _ g (f _ h _ c hb) k d b
def iR(g:G)(D:Nat->Prop)(H H':ae):Prop:=∀k,D k->kP g H H' k
theorem iR.cn{H H':ae}(h:iR .grow (λk=>k<H.size) H H'):au [] H H':=by
 refine⟨?_,λk a _=>h k a⟩;rcases Nat.eq_zero_or_pos H.size with h0|h0
 ·omega
 ·have:H'[H.size-1]? =H[H.size-1]? :=h (H.size-1) (by show H.size-1<H.size;omega);rw[be (by omega:H.size-1<H.size)]at this;have:=(b1.1 this).1;omega
def oS(P:Program)(ops:Array Oper)(Q:Exit->Act->World->Prop)(late:Nat->Bool)(g:G):Nat->(Nat->Prop)->Array Bool->Act->World->Prop
 |0,_,b,a,w=>Region.ready .any ops b=[]/\Q .normal a w
 |fuel+1,d,b,a,w=>(Region.ready .any ops b=[]->Q .normal a w)/\
  ∀i∈Region.ready .any ops b,wpOp P ops Q i (λf e=>∃c,(late i=true\/(iR g d w.heap e.heap/\∀k,d k->c k))/\oS P ops Q late g fuel c (b.setIfInBounds i true) f e) a w
theorem Fp{g:G}:∀(fuel:Nat) (d:Nat->Prop) (b:Array Bool) (a:Act) (w:World),oS P ops Q late g fuel d b a w->wpAny P .any ops Q fuel b a w
 |0,_,_,_,_,h=>h
 |fuel+1,_,_,_,_,h=>⟨h.1,λi j=>wpOp_mono (λe k ⟨c,_,f⟩=>Fp fuel c _ e k f) (h.2 i j)⟩
theorem E7{a:Array Bool}{i:Nat}(h:a.getD i true=false):a.getD i false=false:=by
 rcases cp i a.size with h'|h'
 ·simp[h']at h⊢;exact h
 ·simp[bj h']at h
theorem PG{g:G}{i:Nat}{F:Oper}{v:Value}(hi:ops[i]? =some F)(u:∀(j:Nat) (o:Oper) cs b,ops[j]? =some o->o.op≠.select cs b)
  (hQ:∀c a w,Q (.panic c) (a.put F.dst v) w->Q (.panic c) a w){w0:World}{D:Nat->Prop}{n:Prop}
  (hl:n\/∀(d:Array Bool) (j:Nat),Cl ops d->i∈Region.ready .any ops d->j∈Region.ready .any ops d->d.getD i false=false->j≠i->late j=false):
  ∀(fuel:Nat) (x:Nat->Prop) (d:Array Bool) (a:Act) (w:World),Cl ops d->
   (∀j I,ops[j]? =some I->j≠i->d.getD j true=false->(∀e∈I.after,Region.binds .any e=true->e.on≠i)->F.apart ops I=true)->
   i∈Region.ready .any ops d->YieldsIf P ops (λw'=>n\/iR g D w0.heap w'.heap) F v a->(n\/(iR g D w0.heap w.heap/\∀k,D k->x k))->
   oS P ops Q late g fuel x (d.setIfInBounds i true) (a.put F.dst v) w->oS P ops Q late g (fuel+1) x d a w:=by
 intro fuel;induction fuel with
 |zero=>
  intro x d a w _ _ t T l H;have m:n\/iR g D w0.heap w.heap:=l.imp id (·.1);refine⟨λh=>(by rw[h]at t;cases t),λj J=>?_⟩;by_cases f:j=i
  ·subst f;exact T.wpOp hi m ⟨x,.inr ⟨λ_ _=>.of rfl,λ_ h=>h⟩,H⟩
  ·have:=ready_mono J f;rw[H.1]at this;cases this
 |succ fuel ih=>
  intro x d a w hc p t T l H;have m:n\/iR g D w0.heap w.heap:=l.imp id (·.1);refine⟨λh=>(by rw[h]at t;cases t),λj J=>?_⟩;by_cases f:j=i
  ·subst f;exact T.wpOp hi m ⟨x,.inr ⟨λ_ _=>.of rfl,λ_ h=>h⟩,H⟩
  ·have h1:=H.2 j (ready_mono J f);have r:=E7 (mem_ready.1 t).1;obtain⟨s,I,E,M⟩:=mem_ready.1 J
   have O:∀e∈I.after,Region.binds .any e=true->e.on≠i:=λe he hb W=>by
    have S:=M e he hb;rw[W,r]at S;cases S
   have S:=wpOp_putIf E (p j I E f s O) (λcs b=>u i F cs b hi) (λcs b=>u j I cs b E) hQ T h1
   have q:∀k ok,ops[k]? =some ok->k≠i->(d.setIfInBounds j true).getD k true=false->
     (∀e∈ok.after,Region.binds .any e=true->e.on≠i)->F.apart ops ok=true:=λk ok K Y R Z=>by
    refine p k ok K Y ?_ Z;by_cases N:j=k
    ·subst N;exact s
    ·rw[getD_set_ne true N]at R;exact R
   refine wpOp_mono (λa' w' h3=>?_) S;obtain⟨h4,y,z,h6⟩:=h3
   have U:n\/(iR g D w0.heap w'.heap/\∀k,D k->y k):=by
    rcases hl with hl|hl
    ·exact .inl hl
    ·rcases l with l|⟨g1,g2⟩
     ·exact .inl l
     ·rcases z with z|⟨z,h7⟩
      ·rw[hl d j hc t J r f]at z;cases z
      ·exact .inr ⟨λk K=>(g1 k K).trans (z k (g2 k K)),λk K=>h7 k (g2 k K)⟩
   refine⟨y,z,ih y (d.setIfInBounds j true) a' w' (hc.step J) q (ready_mono t (Ne.symm f)) h4 U ?_⟩;rw[Array.setIfInBounds_comm _ _ f];exact h6
theorem KE{bits:Array Nat}(c:∀i q,(bits.getD q 0).testBit i=true->iN ops i q){i:Nat}{t:Oper}(hi:ops[i]? =some t)(hr:bC t.op=true):
  ∀(a:Array Bool) (j:Nat),Cl ops a->i∈Region.ready .any ops a->j∈Region.ready .any ops a->a.getD i false=false->j≠i->w7 ops bits j=false:=λa j r n s p k=>by
 cases h:w7 ops bits j with
 |false=>rfl
 |true=>
  have g:=(b1.1 hi).1;have h1:=b0.1 h i (List.mem_range.2 g);rw[hi]at h1;simp only[hr,Bool.not_true,Bool.false_or,bi]at h1;rcases h1 with(h1|h1)|h1
  ·exact(k (a5 h1).symm).elim
  ·obtain⟨_,v,m,b⟩:=mem_ready.1 s;have:=za r (c i j h1) λo d e f hb=>by rw[m]at d;cases d;exact b e f hb
   rw[p]at this;cases this
  ·obtain⟨_,u,l,b⟩:=mem_ready.1 n;have:=za r (c j i h1) λo d e f hb=>by rw[l]at d;cases d;exact b e f hb
   rw[E7 (mem_ready.1 s).1]at this;cases this
end
def rO(tab:Nat->Option TD):Op->Bool
 | .move _| .assign _| .pick .. | .load .. | .nilCheck _| .binOp .. | .unOp .. | .build .. | .fieldAddr .. | .field .. | .indexAddr .. | .index .. | .slice .. | .extract .. | .makeFunc .. | .makeInterface .. =>true
 | .convert _ u _=>match tab u with
  |some d=>match d.kind with
   | .int _=>true
   | .str=>true
   |_=>false
  |none=>false
 | .call c=>match c.callee with
  | .builtin .len=>true
  | .builtin .max=>true
  | .builtin .min=>true
  |_=>false
 |_=>false
def yn(m:Bool)(tab:Nat->Option TD)(a:Op):Bool:=rO tab a&&(!m||ja a)
def qI(m:Bool)(tab:Nat->Option TD)(ops:Array Oper):List Nat->Array Bool->(Array Bool->Bool)->Bool
 |[],a,D=>D a
 | i :: r, a, D => (match ops[i]? with
   |some o=>bif yn m tab o.op then Region.free .any ops a i&&(Region.ready .any ops a).contains i else Region.ready .any ops a==[i]
   |none=>false)&&qI m tab ops r (a.setIfInBounds i true) D
inductive DT where
 |l (ord:List Nat)
 |alt (ord js:List Nat) (f:Nat->DT)
def wc(m:Bool)(tab:Nat->Option TD)(ops:Array Oper):DT->Array Bool->Bool
 | .l b,a=>qI m tab ops b a λa=>(Region.ready .any ops a).isEmpty
 | .alt b c f,a=>qI m tab ops b a λa=> !c.isEmpty&&(Region.ready .any ops a==c)&&c.all λj=>wc m tab ops (f j) (a.setIfInBounds j true)
def tB:DT->Nat->Bool
 | .l a,n=>bl a.length n
 | .alt a b f,n=>b4 (a.length+1) n&&b.all λj=>tB (f j) (n-(a.length+1))
def fw(m:Bool)(ops:Array Oper)(bits:Array Nat)(j:Nat):Bool:=m||w7 ops bits j
def iX(ops:Array Oper)(late:Nat->Bool)(g:G):List Nat->List (G×Oper)
 |[]=>[]
 |i::r=>match ops[i]? with
  |some o=>(bif ja o.op&&late i then .any else g,o)::iX ops late g r
  |none=>iX ops late g r
def wb(m:Bool)(g:G)(tab:Nat->Option TD)(ops:Array Oper)(t:DT):Bool:=
 (m||g.strict)&&tB t ops.size&&Region.noSelect ops&&wc m tab ops t (Array.replicate ops.size false)
def oT(P:Nat->Prop)(l:List Nat):Prop:=
 List.rec (motive:=λ_=>Prop) True (λj r ih=>List.rec (motive:=λ_=>Prop) (P j) (λ_ _ _=>P j/\ih) r) l
theorem oT.get{P:Nat->Prop}:∀{l:List Nat},oT P l->∀j∈l,P j
 |[],_,j,h=>by cases h
 |[i],h,j,hj=>by simp at hj;subst hj;exact h
 |i::k::r,h,j,hj=>by
  have h:P i/\oT P (k::r):=h;rcases bp.1 hj with rfl|hj
  ·exact h.1
  ·exact oT.get h.2 j hj
def XT(c:dK)(ops:Array Oper)(late:Nat->Bool)(g:G)(k:St->Prop)(b:A->St->Prop)(t:DT):St->Prop:=
 DT.rec (motive:=λ_=>St->Prop) (λa s=>Xl c ops (iX ops late g a) s k b)
  (λa d _ ih s=>Xl c ops (iX ops late g a) s (λs=>oT (λj=>Xl c ops (iX ops late g [j]) s (λs=>ih j s) b) d) b) t
section
variable {c:dK} {r:kO} {o:Oper}
theorem OD{tab:Nat->Option TD}{s:St}{a:Op}(h:rO tab a=true):wX tab s a=false/\(∀x,a≠.panic x)/\(∀m as g,a≠.call ⟨.value m,as,g⟩):=by
 cases a with
 |convert t u x=>
  refine⟨?_,(λ_ h=>by cases h),(λ_ _ _ h=>by cases h)⟩;simp only[wX];simp only[rO]at h;cases k:tab u with
  |none=>rw[k]at h;cases h
  |some d=>
   rw[k]at h;simp only[]at h;cases o:aW s x with
   |c y=>
    cases y with
    |str l=>
     simp only[];cases j:d.kind with
     |sl e=>rw[j]at h;cases h
     |_=>rfl
    |rw l=>
     simp only[];cases j:d.kind with
     |sl e=>rw[j]at h;cases h
     |_=>rfl
    |_=>rfl
   |_=>rfl
 |call cl=>
  obtain⟨i,as,g⟩:=cl;cases i with
  |builtin b=>cases b<;>first|(cases h;done)|exact⟨rfl,(λ_ h=>by cases h),(λ_ _ _ h=>by cases h)⟩
  |value f=>cases h
  |invoke f n=>cases h
 |_=>first|(cases h;done)|exact⟨rfl,(λ_ h=>by cases h),(λ_ _ _ h=>by cases h)⟩
theorem FK{g:G}{s:St}{k:St->Prop}{m:A->St->Prop}(l:rO c.tab o.op=true)(h:Xo c g o s k m):g.mem o.op s=true/\Y1 c.tab s o.op (λx=>jj c.n s o.dst x k):=by
 obtain⟨f,i,j⟩:=OD (s:=s) l;unfold Xo at h;split at h
 ·rename_i x a;exact(i x a).elim
 ·rename_i e as b a;exact(j e as b a).elim
 ·rcases kg h with⟨d,_⟩|⟨_,h⟩
  ·rw[f]at d;cases d
  ·exact bV h
def uR(K:XE->St->Prop):Prop:=∀x s,K (.cV x) s->K (.cV x) ⟨[],s.ah⟩
def nE(K:XE->St->Prop):XE->St->Prop
 | .cV x,s=>K (.cV x) ⟨[],s.ah⟩
 |e,s=>K e s
theorem FF{K:XE->St->Prop}(m:uR K){b:List PanicEntry}{a:Act}{w:World}{d:Option Nat}{v:Value}(h:Qk c r K (.panic b) (a.put d v) w):Qk c r K (.panic b) a w:=by
 obtain⟨n,x,s,e,f,F,γ,g,i,j,k,o,l⟩:=h;refine⟨n,x,⟨[],s.ah⟩,e,m _ _ f,F,γ,?_,?_,j,k,(λt x h=>by cases h),l⟩
 ·cases d<;>simpa[Act.put]using g
 ·cases d<;>simpa[Act.put]using i
abbrev r6(c:dK)(ops:Array Oper)(Q:Exit->Act->World->Prop)(late:Nat->Bool)(g:G)(r:kO)(F:Nat->Prop)(γ:List Value)(s:St)(fuel:Nat)(b:Array Bool)(a:Act)(w:World):Prop:=
 oS c.P ops Q late g fuel (gG g r.E F γ s.ah w.heap) b a w
theorem yV(O:bI c.P c.tab){ops:Array Oper}{late:Nat->Bool}{g:G}(hg:(∀i,late i=true)\/g.strict=true){k:St->Prop}{K:XE->St->Prop}{j:Nat}{s:St}{F:Nat->Prop}{γ:List Value}{a:Act}{w:World}{R:(Nat->Prop)->Act->World->Prop}(ho:ops[j]? =some o)
  (h:Xl c ops (iX ops late g [j]) s k (λv s=>K (.cV v) s))(S:gJ c r F γ s .undef undef a w)(H:∀F γ s a w,k s->gJ c r F γ s .undef undef a w->R (gG g r.E F γ s.ah w.heap) a w):
  wpOp c.P ops (Qk c r K) j (λE w'=>∃e,(late j=true\/(iR g (gG g r.E F γ s.ah w.heap) w.heap w'.heap/\∀q,gG g r.E F γ s.ah w.heap q->e q))/\R e E w') a w:=by
 simp only[iX,ho]at h;unfold wpOp;simp only[ho];rcases uY (uZ h) S with⟨y,T,m,l,b⟩|⟨y,T,m,l,b⟩
 ·rw[if_pos y];refine .inl (Oper.wp_mono (λE w' ⟨I,D,z,n,d,u⟩=>⟨_,?_,H I D z _ _ n d⟩) (yT O m b (λU a w h=>h)));cases t:late j with
  |true=>exact .inl rfl
  |false=>
   rcases hg with hg|hg
   ·rw[hg j]at t;cases t
   ·rw[t,Bool.and_false]at u;rw[<-l];exact .inr ⟨λq f=>(u hg q f).1,λq f=>(u hg q f).2⟩
 ·rw[if_neg (by rw[y];simp)];obtain⟨Q,p,M,P,N,_⟩:=b;obtain⟨z,n,J,d⟩:=oH (x:= .off) (v:=undef) m Q p M P N rfl;exact⟨_,.inr ⟨λ_ _=>.of rfl,λq f=>by rw[J,l];exact f⟩,H F γ z _ _ n d⟩
theorem Lp(l:bI c.P c.tab){g:G}{s:St}{k:A->Prop}{F:Nat->Prop}{γ:List Value}{a:Act}{w:World}(hg:g.strict=true)(z:rO c.tab o.op=true)(i:ER F w.heap ⟨r.E.B,γ⟩ s.env a)(m:WR r.E F γ s.ah w.heap)
  (hm:g.mem o.op s=true)(h:Y1 c.tab s o.op k):∃v x,k x/\RA F w.heap ⟨r.E.B,γ⟩ x v/\∀w':World,(ja o.op=true\/iR g (gG g r.E F γ s.ah w.heap) w.heap w'.heap)->(execOp a.eval o).run c.P w'= .ok (.value v) w':=by
 cases j:ja o.op with
 |true=>
  obtain⟨v,x,d,e,f⟩:=sa l i m h;exact⟨v,x,d,e,λw' _=>f w' (.inl j)⟩
 |false=>
  cases g with
  |any=>cases hg
  |grow=>
   obtain⟨v,x,d,e,f⟩:=sa l i m h;exact⟨v,x,d,e,λw' n=>f w' (.inr (iR.cn (n.resolve_left (by simp))))⟩
  |dj p=>
   generalize q:o.op=E at hm h j;cases E with
   |load t x=>
    obtain⟨b,hb,D⟩:=P2 (pl:=p) l i m q h hm;obtain⟨v,y,d,e,f⟩:=D;exact⟨v,y,d,e,λw' n=>f w' (n.resolve_left (by simp) b hb)⟩
   |convert t u x=>cases hm
   |_=>cases j
theorem yS(hT:bI c.P c.tab){K:XE->St->Prop}(hK:uR K){ops:Array Oper}{bits:Array Nat}{m:Bool}{g:G}(hg:(m||g.strict)=true)(E:∀i q,(bits.getD q 0).testBit i=true->iN ops i q)(Q:Region.noSelect ops=true){k:St->Prop}{D:Array Bool->Bool}{fuel:Nat}
  (hk:∀(b:Array Bool) (F:Nat->Prop) (γ:List Value) (s:St) (a:Act) (w:World),Cl ops b->D b=true->k s->gJ c r F γ s .undef undef a w->r6 c ops (Qk c r K) (fw m ops bits) g r F γ s fuel b a w):
  ∀(ord:List Nat) (b:Array Bool) (F:Nat->Prop) (γ:List Value) (s:St) (a:Act) (w:World),Cl ops b->qI m c.tab ops ord b D=true->Xl c ops (iX ops (fw m ops bits) g ord) s k (λv s=>K (.cV v) s)->gJ c r F γ s .undef undef a w->
   r6 c ops (Qk c r K) (fw m ops bits) g r F γ s (fuel+ord.length) b a w:=by
 have ac:(∀i,fw m ops bits i=true)\/g.strict=true:=by
  rw[bi]at hg;exact hg.imp (λh i=>by unfold fw;rw[h];rfl) id
 intro ord;induction ord with
 |nil=>
  intro b F γ s a w N T h U;exact hk b F γ s a w N T h U
 |cons i ord ih=>
  intro b F γ s a w N T h U;simp only[qI,a1]at T;obtain⟨d,l7⟩:=T;cases z:ops[i]? with
  |none=>rw[z]at d;cases d
  |some o=>
   rw[z]at d;have h0:=h;simp only[iX,z]at h;simp only[]at d;by_cases t:yn m c.tab o.op=true
   ·rw[t]at d;simp only[cond_true,a1]at d;obtain⟨I,p⟩:=d;have f:i∈Region.ready .any ops b:=by simpa using p
    have e:=t;unfold yn at e;rw[a1,bi,Bool.not_eq_true']at e
    have ar:∃v,YieldsIf c.P ops (λl=>ja o.op=true\/iR g (gG g r.E F γ s.ah w.heap) w.heap l.heap) o v a/\∃u,u.ah=s.ah/\Xl c ops (iX ops (fw m ops bits) g ord) u k (λv s=>K (.cV v) s)/\gJ c r F γ u .undef undef (a.put o.dst v) w:=by
     rcases uY (uZ h) U with⟨hw,s1,h1,S,hn,H,hA,M,J,_⟩|⟨hw,s1,h1,S,hn,H,hA,M,J,_⟩
     ·suffices hh:∃v x,jj c.n s1 o.dst x (λs=>Xl c ops (iX ops (fw m ops bits) g ord) s k (λv s=>K (.cV v) s))/\RA F w.heap ⟨r.E.B,γ⟩ x v/\∀l:World,(ja o.op=true\/iR g (gG g r.E F γ s.ah w.heap) w.heap l.heap)->(execOp a.eval o).run c.P l= .ok (.value v) l by
       obtain⟨v,x,al,hx,P⟩:=hh;obtain⟨u,Z,Y,g2⟩:=oH al hn H hA M J hx;exact⟨v,.inl ⟨hw,λl h=>P l h⟩,u,by rw[Y,S],Z,g2⟩
      obtain⟨O,W⟩:=FK e.1 h1;cases y:ja o.op with
      |true=>
       obtain⟨v,x,q1,q2,q3⟩:=sa hT J M W;exact⟨v,x,q1,q2,λl _=>q3 l (.inl y)⟩
      |false=>
       have am:m=false:=e.2.resolve_right (by rw[y];simp);have ad:g.strict=true:=by rw[am]at hg;exact hg
       rw[y,Bool.false_and,cond_false]at O;have:=Lp (r:=r) hT ad e.1 J M O W;rw[y,S]at this;exact this
     ·obtain⟨u,Z,Y,g2⟩:=oH (x:= .off) (v:=undef) h1 hn H hA M J rfl;exact⟨undef,.inr ⟨hw,rfl⟩,u,by rw[Y,S],Z,g2⟩
    obtain⟨v,W,u,e',h',ao⟩:=ar;refine PG (w0:=w) (D:=gG g r.E F γ s.ah w.heap) (n:=ja o.op=true) (v:=v) (g:=g) z (Region.noSelect_spec Q) (λch a w h=>FF hK h) ?_ _ _ b a w N (Region.free_spec z I) f W (.inr ⟨λ_ _=>.of rfl,λ_ h=>h⟩) (by have:=ih _ F γ u _ _ (N.step f) l7 h' ao;unfold r6 at this;rw[e']at this;exact this);by_cases y:ja o.op=true
    ·exact .inl y
    ·have hm:m=false:=e.2.resolve_right y;subst hm;exact .inr (KE E z (by simp[bC,y]))
   ·rw[a9]at t;rw[t]at d;simp only[cond_false]at d;have p:Region.ready .any ops b=[i]:=by simpa using d
    have f:i∈Region.ready .any ops b:=by rw[p];simp
    refine⟨λh0=>(by rw[p]at h0;cases h0),λj hj=>?_⟩;rw[p]at hj;obtain rfl:j=i:=by simpa using hj
    refine yV (late:=fw m ops bits) (g:=g) (k:=λs=>Xl c ops (iX ops (fw m ops bits) g ord) s k (λv s=>K (.cV v) s)) (R:=λPr a' l=>oS c.P ops (Qk c r K) (fw m ops bits) g (fuel+ord.length) Pr (b.setIfInBounds j true) a' l) hT ac z ?_ U (λF2 a0 s2 a' l h2 ap=>ih _ F2 a0 s2 _ _ (N.step f) l7 h2 ap);simp only[iX,z];exact h
theorem FH(N:bI c.P c.tab){K:XE->St->Prop}(W:uR K){ops:Array Oper}{bits:Array Nat}{m:Bool}{g:G}(hg:(m||g.strict)=true)(e:∀i q,(bits.getD q 0).testBit i=true->iN ops i q)(p:Region.noSelect ops=true){k:St->Prop}(hk:∀s,k s->K .normal s):
  ∀(t:DT) (n:Nat) (b:Array Bool) (F:Nat->Prop) (γ:List Value) (s:St) (a:Act) (w:World),tB t n=true->Cl ops b->wc m c.tab ops t b=true->XT c ops (fw m ops bits) g k (λv s=>K (.cV v) s) t s->gJ c r F γ s .undef undef a w->
   r6 c ops (Qk c r K) (fw m ops bits) g r F γ s n b a w:=by
 have P:(∀i,fw m ops bits i=true)\/g.strict=true:=by
  rw[bi]at hg;exact hg.imp (λh i=>by unfold fw;rw[h];rfl) id
 intro t;induction t with
 |l d=>
  intro n b F γ s a w H E O h z;obtain rfl:=a5 H;have:=yS (r:=r) (K:=K) (D:=λb=>(Region.ready .any ops b).isEmpty) (fuel:=0) N W hg e p (λb F γ s a w _ I y z=>⟨by simpa using I,s,hk s y,F,γ,z⟩) d b F γ s a w E O h z;rw[b2]at this;exact this
 |alt d js f ih=>
  intro n b F γ s a w H E O h z;simp only[tB,a1]at H;have ac:=bn H.1;have:=yS (r:=r) (K:=K) (fuel:=n-(d.length+1)+1) N W hg e p (λb F γ s a w E I y z=>?_) d b F γ s a w E O h z
  ·rw[show n-(d.length+1)+1+d.length=n by omega]at this;exact this
  ·rw[a1,a1,beq_iff_eq]at I;obtain⟨⟨J,u⟩,M⟩:=I;refine⟨λh0=>?_,λj Q=>?_⟩
   ·rw[h0]at u;subst u;cases J
   ·have x:j∈js:=by rw[<-u];exact Q
    obtain⟨_,o,ho,_⟩:=mem_ready.1 Q;refine yV (g:=g) (R:=λPr U Y=>oS c.P ops (Qk c r K) (fw m ops bits) g (n-(d.length+1)) Pr (b.setIfInBounds j true) U Y) N P ho (oT.get y j x) z (λZ T s2 U Y h2 S=>?_);exact ih j _ _ Z T s2 _ _ (b0.1 H.2 j x) (E.step Q) (b0.1 M j x) h2 S
theorem A7(N:bI c.P c.tab)(hm:c.P.follows .mixedOrders=true){id:Nat}{ops:Array Oper}{m:Bool}{g:G}{t:DT}{K:XE->St->Prop}(hd:wb m g c.tab ops t=true){s:St}{a:Act}{w:World}
  (h:XT c ops (fw m ops (o3 ops.toList #[])) g (K .normal) (λv s=>K (.cV v) ⟨[],s.ah⟩) t s)(R:SR c r s .undef undef a w):(Code.region id ops true).wp c.P (Qk c r K) a w:=by
 refine Code.wp_mono (Q:=Qk c r (nE K)) (λe a w f=>?_) ?_
 ·cases e with
  |panic T=>obtain⟨v,x,s,l,n,F,γ,p,E,H,I,U,J⟩:=f;exact⟨v,x,⟨[],s.ah⟩,l,n,F,γ,p,E,H,I,(λt x h=>by cases h),J⟩
  |_=>exact f
 simp only[wb,a1]at hd;obtain⟨⟨⟨D,l⟩,n⟩,p⟩:=hd;obtain⟨F,γ,P,u,d,O,M,S⟩:=R;refine wp_region_any hm (Fp (late:=fw m ops (o3 ops.toList #[])) (g:=g) _ (gG g r.E F γ s.ah w.heap) _ _ _ ?_);have z:gJ c r F γ s .undef undef a {w with drawn:=w.drawn+1}:=⟨P,u,⟨d.os,d.tape,d.output,λh=>Nat.le_succ_of_le (d.drawn h)⟩,O,M,S⟩;refine FH N (K:=nE K) (λ_ _ h=>h) D (zX _ _ (λq o f=>by simpa using f) (λi q h=>by simp at h)) n (λs h=>h) t _ _ F γ s a _ l (λj Y W b=>?_) p h z;exfalso;simp only[a6]at b;rcases cp j ops.size with y|hge
 ·rw[be (by simpa using y)]at b;simp at b
 ·rw[bj (by simpa using hge)]at b;simp at b
end
def l9:Nat->List Rn->Nat->Bool
 |_,_,0=>true
 |i,.s j::r,n+1=>bl i j&&l9 (i+1) r n
 |_,_,_=>false
theorem wM:∀{n i:Nat} {ρ:List Rn},l9 i ρ n=true->∀q,q<n->ρ[q]? =some (.s (i+q))
 |0,_,_,_,q,h=>by omega
 |n+1,i,.s j::r,h,q,a=>by
  simp only[l9,a1]at h;obtain rfl:=a5 h.1;cases q with
  |zero=>rfl
  |succ q=>
   have:=wM h.2 q (by omega);rw[List.getElem?_cons_succ,this];congr 2
   omega
 |n+1,i,[],h,_,_=>by cases h
 |n+1,i,.new::_,h,_,_=>by cases h
 |n+1,i,.cut .. ::_,h,_,_=>by cases h
def mE(ah:List B)(ρ:List Rn)(a:List (Nat×A)):List (Nat×A)->Prop
 |[]=>True
 | (t, x) :: r => (match lk a t with
  |some b=>mA (λ_=>false) ah ρ b x
  |none=>match x with
   | .undef=>True
   |_=>False)/\mE ah ρ a r
def le(n0:Nat)(js:List Nat)(ρ:List Rn)(s t:St):Prop:=
 bif l9 0 ρ n0&&eS (cR ρ t.ah)then mE (aZ js s.ah) ρ s.env t.env/\mi (λ_=>false) (aZ js s.ah) ρ ρ t.ah else False
def LE(n0:Nat)(s t:St):Prop:=∃a ρ,le n0 a ρ s t
def lex(n0:Nat)(js:List Nat)(ρ:List Rn)(ah:List B)(a x:A)(tah:List B):Prop:=
 bif l9 0 ρ n0&&eS (cR ρ tah)then mA (λ_=>false) (aZ js ah) ρ a x/\mi (λ_=>false) (aZ js ah) ρ ρ tah else False
def Fw{ι:Type}(n0:Nat)(I:ι->St)(inv:ι->Prop)(m:ι->Nat)(lt:Nat)(s:St):Prop:=∃y,(inv y/\m y<lt)/\LE n0 s (I y)
abbrev Mn:Type 1:=St->(XE->St->Prop)->Prop
def Fs:Mn:=λs K=>K .normal s
def PQ:Mn:=λs K=>K .ret s
def PM(id:Nat):Mn:=λs K=>K (.exit id) s
def uK:Mn:=λ_ _=>False
def PR(x y:Mn):Mn:=λs K=>x s λe a=>match e with
  | .normal=>y a K
  |e=>K e a
def PL(id:Nat)(b:Mn):Mn:=λs K=>b s λe a=>match e with
  | .exit i=>bif bl i id then K .normal a else K (.exit i) a
  |e=>K e a
def yM(x:Operand)(a b:Mn):Mn:=λs K=>match aW s x with
  | .c (.bool q)=> @Bool.rec (λ_=>Prop) (b s K) (a s K) q
  |_=>False
def PN(n0:Nat)(b:Mn):Mn:=λs K=>∃(a:Type) (I:a->St) (inv:a->Prop) (m:a->Nat),(∃y,inv y/\LE n0 s (I y))/\∀x,inv x->b (I x) λe c=>match e with
  | .normal=>Fw n0 I inv m (m x) c
  |e=>K e c
def PO(c:dK)(ops:Array Oper)(draw:Bool):Mn:=λs K=>bif draw then∃m g t,wb m g c.tab ops t=true/\(XT c ops (fw m ops (o3 ops.toList #[])) g (K .normal) (λv s=>K (.cV v) ⟨[],s.ah⟩) t s\/∃(a:Type) (I:a->St) (J:a->Prop),XT c ops (fw m ops (o3 ops.toList #[])) g (λb=>∃i,J i/\LE c.n0 b (I i)) (λv s=>K (.cV v) ⟨[],s.ah⟩) t s/\∀i,J i->K .normal (I i))
   else Xl c ops (ops.toList.map λo=>(G.any,o)) s (K .normal) (λv s=>K (.cV v) s)
def X(c:dK)(code:Code):Mn:=
 Code.rec (motive:=λ_=>Mn) Fs (λ_ ops draw=>PO c ops draw) (λ_ _ x y=>PR x y) (λx _ _ a b=>yM x a b) (λid _ b=>PL id b) (λ_ b=>PN c.n0 b)
  (λ_ _ _ _ _ _=>uK) PM (λ_ _=>uK) (λ_=>Fs) (λ_=>uK) PQ (λ_=>uK) code
section
variable {c:dK} {r:kO}
theorem CY{E:En}{F:Nat->Prop}{γ:List Value}{ah:List B}{H:ae}{ρ:List Rn}{b:List (Nat×A)}{a:Act}(j:∀f x v,mA (λ_=>false) ah ρ f x->RA F H ⟨E.B,γ⟩ f v->RA F H ⟨E.B,ρ.map (bR γ)⟩ x v)(i:ER F H ⟨E.B,γ⟩ b a):
  ∀{env:List (Nat×A)},mE ah ρ b env->ER F H ⟨E.B,ρ.map (bR γ)⟩ env a
 |[],_=>λt x h=>by cases h
 |(t,x)::n,⟨d,l⟩=>λk m c=>by
  unfold lk at c;by_cases e:bl t k=true
  ·rw[e]at c;cases c;obtain rfl:=a5 e;split at d
   ·rename_i f g;exact j _ _ _ d (i t f g)
   ·split at d
    ·trivial
    ·exact d.elim
  ·rw[a9]at e;rw[e]at c;exact CY j i l k m c
theorem xi{E:En}{F:Nat->Prop}{γ:List Value}{ah:List B}{H:ae}{js:List Nat}{ρ:List Rn}{f x:A}{tah:List B}{v:Value}(hn:E.γ0.length=c.n0)(o:WR E F γ ah H)(q:RA F H ⟨E.B,γ⟩ f v)(h:lex c.n0 js ρ ah f x tah):
  ∃F' γ',WR E F' γ' tah H/\RA F' H ⟨E.B,γ'⟩ x v:=by
 obtain⟨e,m,n⟩:=bV h;rw[a1]at e;obtain⟨k,d,a⟩:=qQ (js:=js) o;have hid:=wM e.1;obtain⟨l,_⟩:=weaken a n e.2 (λi p=>by have:=hid i (by rw[<-hn];exact p);rw[b2]at this;exact this);exact⟨k,_,l,xt a (λ_ h=>h) (λj b g h=>by cases h) m (q.ext (kZ d))⟩
theorem qg(hn:r.E.γ0.length=c.n0){s t:St}{a:Act}{w:World}(h:LE c.n0 s t)(H:SR c r s .undef undef a w):SR c r t .undef undef a w:=by
 obtain⟨k,ρ,h⟩:=h;obtain⟨F,γ,p,q,u,z,y,_⟩:=H;obtain⟨f,m,n⟩:=bV h;rw[a1]at f;obtain⟨l,e,d⟩:=qQ (js:=k) z;have hid:=wM f.1;obtain⟨o,_⟩:=weaken d n f.2 (λi D=>by have:=hid i (by rw[<-hn];exact D);rw[b2]at this;exact this);exact⟨l,_,p,q,u,o,CY (λI x v h E=>xt d (λ_ h=>h) (λj b g h=>by cases h) h E) (y.ext (kZ e)) m,trivial⟩
theorem uX(Z:bI c.P c.tab)(hm:c.P.follows .mixedOrders=true)(hn:r.E.γ0.length=c.n0):∀(code:Code) (s:St) (K:XE->St->Prop) (a:Act) (w:World),X c code s K->SR c r s .undef undef a w->code.wp c.P (Qk c r K) a w:=by
 intro code;induction code with
 |skip=>intro s K a w h d;exact wp_skip ⟨s,h,d⟩
 |label l=>intro s K a w h d;exact wp_label ⟨s,h,d⟩
 |exit id=>intro s K a w h d;exact wp_exit ⟨s,h,d⟩
 |ret=>intro s K a w h d;exact wp_ret ⟨s,h,d⟩
 |seq x y ap E=>
  intro s K a w h d;refine wp_seq (Code.wp_mono (λe a w f=>?_) (ap s _ a w h d));cases e with
  |normal=>obtain⟨H,u,j⟩:=f;exact E H K a w u j
  |exit id=>exact f
  |goto l=>exact f
  |ret=>exact f
  |panic M=>exact f
  |outgrown=>exact f
 |block id b ih=>
  intro s K a w h d;refine wp_block (Code.wp_mono (λe a w f=>?_) (ih s _ a w h d));cases e with
  |normal=>exact f
  |exit i=>
   obtain⟨H,u,j⟩:=f;show(if i=id then Qk c r K .normal a w else Qk c r K (.exit i) a w);rcases kg u with⟨e,u⟩|⟨e,u⟩
   ·rw[if_pos (a5 e)];exact⟨H,u,j⟩
   ·rw[if_neg (λh=>by subst h;simp at e)];exact⟨H,u,j⟩
  |goto l=>exact f
  |ret=>exact f
  |panic M=>exact f
  |outgrown=>exact f
 |cond x y z E ar=>
  intro s K a w h d;have h:yM x (X c y) (X c z) s K:=h;unfold yM at h;split at h
  ·rename_i q hx;have j:=d;obtain⟨F,γ,Y,R,h3,hW,hE,_⟩:=j;have hc:=bm hE hx;generalize hv:a.eval x=v at hc;cases hc with
   |bool _=>
    refine wp_cond_split hv (λhb=>?_) (λhb=>?_)
    ·subst hb;exact E s K a w h d
    ·subst hb;exact ar s K a w h d
  ·exact h.elim
 |loop n ih=>
  intro s K a w h d;obtain⟨ι,I,inv,m,⟨y0,ad,N⟩,t⟩:=h;intro b k U
  have a0:∀(q:Nat) (y:ι) (a:Act) (w:World),m y=q->inv y->SR c r (I y) .undef undef a w->
    ∃e O S,Qk c r K e O S/\Arrives c.P (lone (b.at a (.code n:: .inLoop n::k)) U w) b k U e O S:=by
   intro q;induction q using Nat.strongRecOn with
   |_ q ao=>
    intro y a w f hi d;obtain⟨ex,P,T,p,o⟩:=ih (I y) _ a w (t y hi) d b (.inLoop n::k) U;cases ex with
    |normal=>
     obtain⟨H,⟨y',⟨ac,a3⟩,al⟩,j⟩:=p;obtain⟨W,a2,w2,am,D⟩:=ao (m y') (by omega) y' P T rfl ac (qg hn al j);exact⟨W,a2,w2,am,.of_steps (Steps.trans o (.one step_inLoop)) D⟩
    |exit id=>exact⟨.exit id,P,T,p,.pass (x:= .inLoop n) rfl (λ_ _=>.inl (by simp)) o⟩
    |goto l=>exact p.elim
    |ret=>exact⟨.ret,P,T,p,.pass (x:= .inLoop n) rfl (λ_ _=>.inl (by simp)) o⟩
    |panic M=>exact⟨.panic M,P,T,p,.pass (x:= .inLoop n) rfl (λ_ _=>.inl (by simp)) o⟩
    |outgrown=>exact p.elim
  obtain⟨e,O,S,f,o⟩:=a0 _ y0 a w rfl ad (qg hn N d);exact⟨e,O,S,f,.of_steps (.one step_loop) o⟩
 |region id ops draw=>
  intro s K a w h d;cases draw with
  |true=>
   obtain⟨m,g,a4,Y,R|⟨ι,I,J,R,h3⟩⟩:=h
   ·exact A7 Z hm Y R d
   ·refine Code.wp_mono (λe a w f=>?_) (A7 (K:=λe s=>match e with| .normal=>∃i,J i/\LE c.n0 s (I i)|e=>K e s) Z hm Y R d);cases e with
    |normal=>obtain⟨H,⟨i,hi,hl⟩,j⟩:=f;exact⟨I i,h3 i hi,qg hn hl j⟩
    |exit id=>exact f
    |goto l=>exact f
    |ret=>exact f
    |panic M=>exact f
    |outgrown=>exact f
  |false=>
   have:=FJ Z (ops:=ops) (Q:=Qk c r K) (λs a w hk d=>⟨s,hk,d⟩) (λM a w h=>h) ops.toList s a w h d;have e:ops=ops.toList.toArray:=by simp
   rw[e];rw[e]at this;exact wp_region_lit (by simpa using this)
 |_=>intro s K a w h d;exact h.elim
structure XM(c:dK)(code:Code)(s:St)(K:XE->St->Prop):Prop where
 ok:bI c.P c.tab->c.P.follows .mixedOrders=true->∀r:kO,r.E.γ0.length=c.n0->∀(a:Act) (w:World),SR c r s .undef undef a w->code.wp c.P (Qk c r K) a w
theorem XM.of{c:dK}{code:Code}{s:St}{K:XE->St->Prop}(h:X c code s K):XM c code s K:=⟨λb d r e a w f=>uX b d e code s K a w h f⟩
theorem XM.le{c:dK}{code:Code}{s t:St}{K:XE->St->Prop}(js:List Nat)(ρ:List Rn)(hl:AM.le c.n0 js ρ s t)(h:XM c code t K):XM c code s K:=
 ⟨λd e r b a w f=>h.ok d e r b a w (qg b ⟨js,ρ,hl⟩ f)⟩
theorem XM.seq {c : dK} {x y : Code} {s : St} {K : XE -> St -> Prop} (h : X c x s λe f => match e with | .normal => XM c y f K | e => K e f) : XM c (.seq x y) s K := ⟨λg i r j a w m=>by
 refine wp_seq (Code.wp_mono (λe a w b=>?_) (uX g i j x s _ a w h m));cases e with
 |normal=>obtain⟨f,k,d⟩:=b;exact k.ok g i r j a w d
 |exit id=>exact b
 |goto l=>exact b
 |ret=>exact b
 |panic n=>exact b
 |outgrown=>exact b⟩
theorem XM.join{c:dK}{x y:Code}{s:St}{K:XE->St->Prop}{ι:Type}(I:ι->St)(J:ι->Prop)(h:X c x s λe g=>match e with| .normal=>∃i,J i/\LE c.n0 g (I i)|e=>K e g)
  (h2 : ∀ i, J i -> XM c y (I i) K) : XM c (.seq x y) s K := ⟨λj k r d a w o=>by
 refine wp_seq (Code.wp_mono (λe a w b=>?_) (uX j k d x s _ a w h o));cases e with
 |normal=>obtain⟨g,⟨i,m,n⟩,f⟩:=b;exact(h2 i m).ok j k r d a w (qg d n f)
 |exit id=>exact b
 |goto l=>exact b
 |ret=>exact b
 |panic p=>exact b
 |outgrown=>exact b⟩
def x5(d:TD)(cs:List C):Option A:=bif b4 d.size cs.length then(bif d.agg then some (.st (cs.take d.size))else match cs with|x::_=>some (.c x)|[]=>none)else none
def pS(tab:Nat->Option TD)(s:St):List ResultVar->Option (List A)
 |[]=>some []
 | .tmp t::r=>(pS tab s r).map ((lk s.env t).getD .undef:: ·)
 | .cell x t::r=>match lk s.env x,tab t with
  |some (.c (.ptr j o)),some d=>match s.ah[j]? with
   |some (.box a _)=>match x5 d (a.drop o),pS tab s r with
    |some y,some b=>some (y::b)
    |_,_=>none
   |_=>none
  |_,_=>none
def comp:A->Option (Bool×List C)
 | .c x=>some (false,[x])
 | .st a=>some (true,a)
 |_=>none
def qE:List A->Option (List (Bool×List C))
 |[]=>some []
 |x::r=>match comp x,qE r with
  |some y,some a=>some (y::a)
  |_,_=>none
def Eb:List A->Option A
 |[x]=>some x
 |xs=>(qE xs).map .ao
def qh(c:dK)(fn:Func)(Q:Out->List B->Prop)(s:St):Prop:=match pS c.tab s fn.results.toList with
 |some d=>match Eb d with
  |some a=>wE a λa=>jE s.ah λah=>∃b ρ x tah,lex c.n0 b ρ ah a x tah/\(fp x&&tah.all fq)=true/\Q (.ret x) tah
  |none=>False
 |none=>False
def FD(c:dK)(Q:Out->List B->Prop)(b:A)(s:St):Prop:=∃a ρ x tah,lex c.n0 a ρ s.ah b x tah/\(fp x&&tah.all fq)=true/\Q (.cV x) tah
def Kf(c:dK)(fn:Func)(Q:Out->List B->Prop):XE->St->Prop
 | .normal,s=>qh c fn Q s
 | .ret,s=>qh c fn Q s
 | .cV x,s=>FD c Q x s
 | .exit _,_=>False
def oZ:Nat->List A->List (Nat×A)
 |_,[]=>[]
 |i,x::r=>(i,x)::oZ (i+1) r
theorem AI{F:Nat->Prop}{H:ae}{m:Md}:∀{xs:List A} {ts:List (Bool×List C)} {vs:List Value},qE xs=some ts->ed F H m xs vs->RT F H m ts vs
 |[],ts,[],h,_=>by cases h;trivial
 |x::xs,ts,v::vs,h,⟨d,e⟩=>by
  unfold qE at h;split at h
  ·rename_i y j a b;cases h;have:=AI b e;cases x with
   |c z=>cases a;exact⟨⟨[v],d,rfl,λ_=>rfl⟩,this⟩
   |st i=>cases a;obtain⟨g,rfl,f⟩:=d;exact⟨⟨g,f,rfl,λh=>by cases h⟩,this⟩
   |_=>cases a
  ·cases h
theorem M4{P:Program}{tab:Nat->Option TD}{F:Nat->Prop}{w:World}{m:Md}(i:bI P tab){t:Nat}{d:TD}(k:tab t=some d){cs:List C}{vs:List Value}{b off:Nat}(hr:RL F w.heap m cs vs)
  (hc:∀j u,vs[j]? =some u->cell w.heap b (off+j)=some u){x:A}(h:x5 d cs=some x):∃v,RA F w.heap m x v/\(loadVar t ⟨b,off,none⟩).run P w= .ok v w:=by
 unfold x5 at h;have o:=hr.length;by_cases a:b4 d.size cs.length=true
 ·rw[a,cond_true]at h;have a:=bn a;have c:=i.agg t d k w;cases f:d.agg with
  |true=>
   rw[f,cond_true]at h;cases h;refine⟨_,⟨_,rfl,hr.take _⟩,?_⟩;have e:(vs.take d.size).length=d.size:=by rw[List.length_take];omega
   have := run_loadCells_list (P := P) (w := w) ⟨b, off, none⟩ (vs.take d.size) (λj v g=>by
    rw[Addr.add_lit,dG rfl];rw[List.getElem?_take]at g;split at g
    ·exact hc j v g
    ·cases g)
   rw[e]at this;rw[f]at c;simp[loadVar,c,i.size k w,this]
  |false=>
   rw[f,cond_false]at h;split at h
   ·cases h;obtain⟨v,p,rfl,l,n⟩:=hr.kK;refine⟨v,l,?_⟩;rw[f]at c;have:=hc 0 v rfl;rw[cq]at this;simp[loadVar,c,dG rfl,this]
   ·cases h
 ·rw[a9]at a;rw[a]at h;cases h
def rE(b:Array Value):ResultVar->Sem Value
 | .tmp t=>pure (b.getD t undef)
 | .cell a t=>do loadVar t (<-asAddr (b.getD a undef))
theorem Nr (fn : Func) (a : Array Value) : results fn a = (do
  let vs<-fn.results.mapM (rE a)
  pure (if h:vs.size=1 then vs[0]else .tuple vs)):=by
 unfold results;congr 1
theorem ya(i:bI c.P c.tab){F:Nat->Prop}{γ:List Value}{s:St}{a:Act}{w:World}{E:En}(k:WR E F γ s.ah w.heap)(b:ER F w.heap ⟨E.B,γ⟩ s.env a):∀{l:List ResultVar} {xs:List A},pS c.tab s l=some xs->
  ∃vs,ed F w.heap ⟨E.B,γ⟩ xs vs/\(l.mapM (rE a.tmps)).run c.P w= .ok vs w
 |[],xs,h=>by cases h;exact⟨[],trivial,by simp⟩
 | .tmp t::l,xs,h=>by
  simp only[pS,bk]at h;obtain⟨O,p,rfl⟩:=h;obtain⟨vs,f,g⟩:=ya i k b p;refine⟨a.tmps.getD t undef::vs,⟨?_,f⟩,by simp[ci,g,rE]⟩;cases I:lk s.env t with
  |none=>trivial
  |some x=>exact b t x I
 | .cell x t::l,xs,h=>by
  simp only[pS]at h;split at h
  ·rename_i _ _ j o d M J;split at h
   ·rename_i P hb;split at h
    ·rename_i y O N m;cases h;obtain⟨vs,f,g⟩:=ya i k b m;have n:=b x _ M;generalize K:a.tmps.getD x undef=v at n;cases n with
     |ptr H _=>
      obtain⟨Q,R,e,q,r⟩:=sC (o:=o) (k.br j _ _ hb H);cases e;obtain⟨u,z,D⟩:=M4 i J q r N;exact⟨u::vs,⟨z,f⟩,by simp[ci,g,rE,K,asAddr,D]⟩
    ·cases h
   ·cases h
  ·cases h
theorem uU{F:Nat->Prop}{H:ae}{m:Md}:∀{xs:List A} {vs:List Value},ed F H m xs vs->xs.length=vs.length
 |[],[],_=>rfl
 |_::_,_::_,⟨_,h⟩=>by simp[uU h]
theorem zn{F:Nat->Prop}{H:ae}{m:Md}{a:Act}:∀{xs:List A} {vs:List Value} {i:Nat},ed F H m xs vs->(∀q v,vs[q]? =some v->a.tmps.getD (i+q) undef=v)->ER F H m (oZ i xs) a
 |[],[],i,_,_=>λt x h=>by cases h
 |x::xs,v::vs,i,⟨d,f⟩,c=>λt y b=>by
  unfold oZ lk at b;by_cases e:bl i t=true
  ·rw[e]at b;cases b;obtain rfl:=a5 e;have:=c 0 v rfl;rw[cq]at this;rw[this];exact d
  ·rw[a9]at e;rw[e]at b;exact zn f (λq u g=>by have:=c (q+1) u (by simpa using g);rw[show i+1+q=i+(q+1)by omega];exact this) t y b
def vu:C->Prop
 | .str l=>l.length<=9223372036854775807
 | .ls _ _ _ l=>l.length<=9223372036854775807
 | .bs _ _ _ l=>l.length<=9223372036854775807
 |_=>True
def su:List C->Prop
 |[]=>True
 |c::a=>vu c/\su a
def G4:A->Prop
 | .c x=>vu x
 | .st a=>su a
 |_=>True
def qu:List A->Prop
 |[]=>True
 |a::r=>G4 a/\qu r
def lP:List B->Prop
 |[]=>True
 | .box a _::r=>su a/\lP r
 | .row _ _ _ l::r=>l.length<=9223372036854775807/\lP r
 | .bh _ _ _ l::r=>l.length<=9223372036854775807/\lP r
 | .buf _ _ _ _ l::r=>l.length<=9223372036854775807/\lP r
 | .dead::r=>lP r
theorem SV.CB{F:Nat->Prop}{H:ae}{L:LS}{v:Value}(h:SV F H L v):L.l.length<=9223372036854775807:=by
 rcases h with⟨p,e,d⟩|⟨b,f,cap,c,e,g,a,_⟩
 ·rw[d];simp
 ·have a:cap<=9223372036854775807:=a;omega
theorem Aa{F:Nat->Prop}{H:ae}{m:Md}{x:C}{v:Value}(h:RL F H m [x] [v]):vu x:=by
 cases h with
 |str h _=>exact h
 |ct _=>exact ce _
 |eg _=>exact ce _
 |ls _ a b _ _ _ _=>exact cb a b
 |bs _ a b _ _ _ _=>exact cb a b
 |_=>trivial
theorem vv{F:Nat->Prop}{H:ae}{m:Md}:∀{cs:List C} {vs:List Value},RL F H m cs vs->su cs
 |[],_,_=>trivial
 |c::cs,vs,h=>by
  obtain⟨v,d,rfl,a,b⟩:=h.kK;exact⟨Aa a,vv b⟩
theorem z7{F:Nat->Prop}{H:ae}{m:Md}:∀{as:List A} {vs:List Value},ed F H m as vs->qu as
 |[],_,_=>trivial
 |a::as,[],h=>h.elim
 |a::as,v::vs,⟨b,d⟩=>by
  refine⟨?_,z7 d⟩;cases a with
  |c x=>exact Aa b
  |st e=>obtain⟨f,_,h⟩:=b;exact vv h
  |_=>trivial
theorem z8{F:Nat->Prop}{H:ae}{m:Md}:∀{ah:List B} {γ:List Value},ah.length=γ.length->(∀(j:Nat) (b:B) (g:Value),ah[j]? =some b->γ[j]? =some g->BR F H m b g)->lP ah
 |[],_,_,_=>trivial
 |b::r,[],h,_=>by cases h
 |b::r,g::γ,o,h=>by
  have hb:=h 0 b g rfl rfl;have c:=z8 (ah:=r) (γ:=γ) (by simpa using o) (λ(j:Nat) (b:B) (g:Value) n f=>h (j+1) b g (by simpa using n) (by simpa using f));cases b with
  |box p q=>obtain⟨k,e,s,_,_,i⟩:=hb;exact⟨vv i,c⟩
  |row d α a l=>exact⟨(my hb (L:=⟨d,α,a,l⟩) rfl).CB,c⟩
  |bh d α a l=>exact⟨(my hb (L:=⟨d,α,a,l⟩) rfl).CB,c⟩
  |buf t d α a l=>
   refine⟨?_,c⟩;rcases hb with⟨_,_,h⟩|⟨_,_,_,_,_,_,f,i,_⟩
   ·rw[h];simp
   ·exact cb f i
  |dead=>exact c
theorem Ns(M:bI c.P c.tab){fn:Func}{Q:Out->List B->Prop}{F L:Nat->Prop}{γ:List Value}{ah:List B}{H:ae}(r:(en F L γ ah H).γ0.length=c.n0){s:St}{a:Act}{w':World}{l:Nat->Prop}{e:List Value}(hr:qh c fn Q s)(f:WR (en F L γ ah H) l e s.ah w'.heap)(p:ER l w'.heap ⟨L,e⟩ s.env a):
  ∃v,(results fn a.tmps).run c.P w'= .ok v w'/\qe F L γ ah H Q true v w'.heap:=by
 unfold qh at hr;split at hr
 ·rename_i N y;split at hr
  ·rename_i D b;obtain⟨O,ρ,x,tah,q,d,K⟩:=nk (BE hr);obtain⟨k,m,I⟩:=ya M f p y
   have h:∃v,(results fn a.tmps).run c.P w'= .ok v w'/\RA l w'.heap ⟨L,e⟩ D v:=by
    have i:(fn.results.mapM (rE a.tmps)).run c.P w'= .ok k.toArray w':=by
     rw[Array.mapM_eq_mapM_toList];simp[I]
    have g:=uU m;rw[Nr];simp only[Sem.run_bind,i,Result.andThen_ok];by_cases n:k.length=1
    ·obtain⟨u,rfl⟩:=b3.1 n;obtain⟨R,rfl⟩:=b3.1 (g.trans n);cases b;exact⟨u,rfl,m.1⟩
    ·refine⟨.tuple k.toArray,?_,?_⟩
     ·rw[dif_neg (by simpa using n)];rfl
     ·have j:(qE N).map A.ao=some D:=by
       unfold Eb at b;split at b
       ·simp at g;omega
       ·exact b
      obtain⟨P,o,rfl⟩:=bk.1 j;exact⟨k,rfl,AI o m⟩
   obtain⟨v,t,w⟩:=h;obtain⟨E,z,o,J⟩:=xi r f w q;rw[a1]at d;exact⟨v,t,_,tah,E,z,K,d.1,d.2,rfl,J,o⟩
  ·exact hr.elim
 ·exact hr.elim
theorem yR(c:dK)(N:bI c.P c.tab)(hm:c.P.follows .mixedOrders=true){f:FuncId}{fn:Func}{code:Code}{args:List A}{ah:List B}{Q:Out->List B->Prop}(m:∀args w,(callFunc f args).run c.P w= .ok (.enter f args) w)
  (W:c.P.funcs[f]? =some fn)(hb:fn.body=some code)(hn:fn.ntmps=c.n)(hl:b4 args.length c.n=true)(J:ah.length=c.n0)(h:qu args/\lP ah->XM c code ⟨oZ 0 args,ah⟩ (Kf c fn Q)):bB c.d c.P f args ah Q:=by
 intro F L γ H vs d y w hw;have h:=h ⟨z7 d,z8 y.len.symm (λj b g z r=>y.br j b g z r)⟩;subst hw;rw[m];refine⟨rfl,calls_of_wp W hb ?_⟩;have O:=uU d;have hl:=bn hl;have o:(en F L γ ah w.heap).γ0.length=c.n0:=by rw[<-J];exact y.len
 refine Code.wp_mono (Q:=Qk c ⟨en F L γ ah w.heap,[],w⟩ (Kf c fn Q)) (λe a p i=>?_) (h.ok N hm ⟨en F L γ ah w.heap,[],w⟩ o _ w ⟨F,γ,?_,rfl,eZ.refl _,y,?_,trivial⟩)
 ·have ret:(∃s,qh c fn Q s/\SR c ⟨en F L γ ah w.heap,[],w⟩ s .undef undef a p)->a.defers=[]/\∃v,(results fn a.tmps).run c.P p= .ok v p/\((∃u,Ending.returned v= .returned u/\qe F L γ ah w.heap Q true u p.heap/\eZ c.d w p)\/(∃u,Ending.returned v= .panicked [{v:=u,recovered:=false}]/\qe F L γ ah w.heap Q false u p.heap/\eZ c.d w p)):=by
   rintro⟨s,Y,P,K,z,r,D,k,t,_⟩;obtain⟨v,Z,hb⟩:=Ns N o Y k t;exact⟨r,v,Z,.inl ⟨v,rfl,hb,D⟩⟩
  cases e with
  |normal=>exact ret i
  |ret=>exact ret i
  |exit id=>obtain⟨s,h,_⟩:=i;exact h.elim
  |goto l=>exact i.elim
  |outgrown=>exact i.elim
  |panic ch=>
   obtain⟨v,x0,s1,rfl,⟨js,ρ,x,tah,E,n,U⟩,P,K,z,r,D,k,t,hx⟩:=i;obtain⟨R,M,S,T⟩:=xi o k hx E;rw[a1]at n;exact⟨r,.inr ⟨v,rfl,⟨_,tah,R,M,U,n.1,n.2,rfl,T,S⟩,D⟩⟩
 ·simp[hn];omega
 ·refine zn d λq v i=>?_;have I:=(List.getElem?_eq_some_iff.1 i).1;rw[b2];simp only[a6];rw[Array.getElem?_append_left (by simpa using I)];simp[i]
theorem af{n n0:Nat}{d:Bool}{P:Program}{tab:Nat->Option TD}(c:bI P tab){f:FuncId}{fn:Func}{code:Code}{args:List A}{ah:List B}{Q:Out->List B->Prop}(a:∀args w,(callFunc f args).run P w= .ok (.enter f args) w)
  (e:P.funcs[f]? =some fn)(h:qu args/\lP ah->X ⟨P,tab,n,n0,d⟩ code ⟨oZ 0 args,ah⟩ (Kf ⟨P,tab,n,n0,d⟩ fn Q))(hm:P.follows .mixedOrders=true:=by kernel_rfl)(hb:fn.body=some code:=by rfl)(hn:fn.ntmps=n:=by rfl)(hl:b4 args.length n=true:=by kernel_rfl)(b:ah.length=n0:=by rfl):bB d P f args ah Q:=
 yR ⟨P,tab,n,n0,d⟩ c hm a e hb hn hl b λhb=>XM.of (h hb)
theorem kQ{n n0:Nat}{d:Bool}{P:Program}{tab:Nat->Option TD}(c:bI P tab){f:FuncId}{fn:Func}{code:Code}{args:List A}{ah:List B}{Q:Out->List B->Prop}(a:∀args w,(callFunc f args).run P w= .ok (.enter f args) w)
  (e:P.funcs[f]? =some fn)(h:qu args/\lP ah->XM ⟨P,tab,n,n0,d⟩ code ⟨oZ 0 args,ah⟩ (Kf ⟨P,tab,n,n0,d⟩ fn Q))(hm:P.follows .mixedOrders=true:=by kernel_rfl)(hb:fn.body=some code:=by rfl)(hn:fn.ntmps=n:=by rfl)(hl:b4 args.length n=true:=by kernel_rfl)(b:ah.length=n0:=by rfl):bB d P f args ah Q:=
 yR ⟨P,tab,n,n0,d⟩ c hm a e hb hn hl b h
end
def pE:List (Nat×TD)->Nat->Option TD
 |[],_=>none
 |(t,d)::r,s=>bif bl t s then some d else pE r s
structure Good(P:Program)(tab:Nat->Option TD)(t:Nat)(d:TD):Prop where
 info:∃i z zs,(∀w,(typeInfo t).run P w= .ok i w)/\i.size=d.size/\i.bytes=d.bytes/\i.zero=some z/\z.cells=List.toArray zs/\∀F H m,RL F H m d.zero zs
 agg:∀w,(isAgg t).run P w= .ok d.agg w
 one:d.agg=false->d.size=1
 zl:d.zero.length=d.size
 kind:uQ P tab t d.kind
 cmp:d.cmp=true->uM P t d.zero
def rZ(P:Program)(tab:Nat->Option TD):List (Nat×TD)->Prop
 |[]=>True
 |(t,d)::r=>Good P tab t d/\rZ P tab r
theorem rZ.get{P:Program}{tab:Nat->Option TD}:∀{l:List (Nat×TD)} {t:Nat} {d:TD},rZ P tab l->pE l t=some d->Good P tab t d
 |(t,d)::r,s,c,⟨a,b⟩,h=>by
  unfold pE at h;by_cases e:bl t s=true
  ·rw[e]at h;cases h;obtain rfl:=a5 e;exact a
  ·rw[a9]at e;rw[e]at h;exact b.get h
def mM:List C->Option (List Value)
 |[]=>some []
 | .int k n::r=>(mM r).map (.int k n:: ·)
 | .bool b::r=>(mM r).map (.bool b:: ·)
 | .str []::r=>(mM r).map (NB.str []:: ·)
 | .nil::r=>(mM r).map (.slice none 0 0:: ·)
 | .ls _ _ _ []::r=>(mM r).map (.slice none 0 0:: ·)
 | .raw v::r=>bif v.oneCell' then(mM r).map (v:: ·)else none
 |_=>none
theorem Qc{F:Nat->Prop}{H:ae}{m:Md}{cs:List C}:∀{vs:List Value},mM cs=some vs->RL F H m cs vs:=by
 fun_induction mM cs<;>intro vs h
 case case1=>cases h;exact .nl
 case case7=>rename_i v r a ih;obtain⟨b,e,rfl⟩:=bk.1 h;exact .raw a (ih e)
 case case8=>cases h
 case case9=>cases h
 all_goals
  rename_i ih;obtain⟨b,e,rfl⟩:=bk.1 h;first|exact .int (ih e)|exact .bool (ih e)|exact .str (ce _) (ih e)|exact .nil (ih e)|exact .ct (ih e)
theorem aD{P:Program}{tab:Nat->Option TD}{t:Nat}{d:TD}{i:TypeInfo}{z:Value}(h1:∀w,(typeInfo t).run P w= .ok i w)(h2:∀w,(isAgg t).run P w= .ok d.agg w)(j:uQ P tab t d.kind)(k:d.cmp=true->uM P t d.zero:=by intro h;cases h)
  (b:i.size=d.size:=by rfl)(c:i.bytes=d.bytes:=by rfl)(e:i.zero=some z:=by rfl)(f:mM d.zero=some z.cells.toList:=by rfl)(a:(d.agg||bl d.size 1)=true:=by rfl)(g:d.zero.length=d.size:=by rfl):Good P tab t d:=
 ⟨⟨i,z,z.cells.toList,h1,b,c,e,by simp,λ_ _ _=>Qc f⟩,h2,λh=>by rw[h]at a;exact a5 a,g,j,k⟩
theorem Pj{P:Program}{l:List (Nat×TD)}(h:rZ P (pE l) l):bI P (pE l):=
 ⟨λ_ _ a=>(h.get a).info,λ_ _ a=>(h.get a).agg,λ_ _ a=>(h.get a).one,λ_ _ a=>(h.get a).zl,λ_ _ a=>(h.get a).kind,λ_ _ a=>(h.get a).cmp⟩
theorem dec{P a B':Prop}{i:Decidable P}(h1:P->a)(h2:¬P->B'): @Bool.rec (λ_=>Prop) B' a (decide P):=by
 by_cases h:P
 ·rw[decide_eq_true h];exact h1 h
 ·rw[decide_eq_false h];exact h2 h
theorem ay{P a B':Prop}{i:Decidable P}(h1:¬P->a)(h2:P->B'): @Bool.rec (λ_=>Prop) B' a (!decide P):=by
 by_cases h:P
 ·rw[decide_eq_true h];exact h2 h
 ·rw[decide_eq_false h];exact h1 h
theorem aS{b:Bool}{a B':Prop}(h1:b=true->a)(h2:b=false->B'): @Bool.rec (λ_=>Prop) B' a b:=by
 cases b
 ·exact h2 rfl
 ·exact h1 rfl
theorem dB{b:Bool}{a B':Prop}(h1:b=false->a)(h2:b=true->B'): @Bool.rec (λ_=>Prop) B' a (!b):=by
 cases b
 ·exact h1 rfl
 ·exact h2 rfl
def encI(n:Int):List C:=[.int .i64 n]
def encS(l:List UInt8):List C:=[.str l]
def ai(b:Bool):List C:=[.bool b]
def bM{α:Type}(sz:Nat)(enc:α->List C)(l:List α):List C:=[.ls sz α enc l]
def Rt(x:A)(ah:List B)(o:Out)(ah':List B):Prop:=o= .ret x/\ah'=ah
theorem I6{n:Int}{p:Prop}(h:p)(h1: -9223372036854775808<=n:=by omega)(h2:n<=9223372036854775807:=by omega):cD n/\p:=⟨⟨h1,h2⟩,h⟩
theorem i64{n:Int}(h1: -9223372036854775808<=n)(h2:n<=9223372036854775807):cD n:=⟨h1,h2⟩
theorem dY{ah:List B}{a X:C}(h:a=X)(hc:eM X=true):∃js ρ x tah,lex 0 js ρ ah (.c a) x tah/\(fp x&&tah.all fq)=true/\Rt (.c X) [] (.ret x) tah:=by
 subst h;refine⟨[],[],.c a,[],?_,?_,rfl,rfl⟩
 ·refine And.intro ?_ trivial;cases a<;>first|rfl|cases hc
 ·cases a<;>first|rfl|cases hc
theorem aL{ah:List B}{b b':Bool}(h:b=b'):∃js ρ x tah,lex 0 js ρ ah (.c (.bool b)) x tah/\(fp x&&tah.all fq)=true/\Rt (.c (.bool b')) [] (.ret x) tah:=dY (congrArg C.bool h) rfl
theorem aJ{ah:List B}{n a:Int}(h:n=a):∃js ρ x tah,lex 0 js ρ ah (.c (.int .i64 n)) x tah/\(fp x&&tah.all fq)=true/\Rt (.c (.int .i64 a)) [] (.ret x) tah:=dY (congrArg (C.int .i64) h) rfl
theorem rt{Q:Out->List B->Prop}{n0:Nat}{ah:List B}{a X:A}{Y:List B}(js:List Nat)(ρ:List Rn)(h:lex n0 js ρ ah a X Y)(hc:(fp X&&Y.all fq)=true)(b:Q (.ret X) Y):∃js ρ x tah,lex n0 js ρ ah a x tah/\(fp x&&tah.all fq)=true/\Q (.ret x) tah:=
 ⟨js,ρ,X,Y,h,hc,b⟩
theorem cl{d:Bool}{P:Program}{f:FuncId}{ah:List B}{env:List (Nat×A)}{args:List A}{g:G}{k:List B->A->Prop}{j:A->St->Prop}{b:List A}{tah Y:List B}{X:A}(js m:List Nat)(i:bB d P f b tah (Rt X Y))
  (hk:fm k (dV m tah (aZ js ah) Y) (dX (sig m (aZ js ah).length) X))(c:jY (aZ js ah) m args b tah:=by(repeat' first|exact trivial|exact rfl|refine And.intro ?_ ?_);first|done|fail)(hg:g.call m=true:=by rfl):
  ∃(js m:List Nat) (b:List A) (tah:List B) (Q:Out->List B->Prop),bB d P f b tah Q/\jY (aZ js ah) m args b tah/\g.call m=true/\
   ∀out ah',Q out ah'->match out with
    | .ret a=>fm k (dV m tah (aZ js ah) ah') (dX (sig m (aZ js ah).length) a)
    | .cV a=>fm j (dX (sig m (aZ js ah).length) a) ⟨env,dV m tah (aZ js ah) ah'⟩:=
 ⟨js,m,b,tah,_,i,c,hg,λout ah' ⟨e,h⟩=>by subst e;subst h;exact hk⟩
theorem rx{n0:Nat}{ah:List B}{a X:A}{Y:List B}(js:List Nat)(ρ:List Rn)(h:lex n0 js ρ ah a X Y:=by repeat' first|exact trivial|exact rfl|refine And.intro ?_ ?_)(hc:(fp X&&Y.all fq)=true:=by rfl):∃js ρ x tah,lex n0 js ρ ah a x tah/\(fp x&&tah.all fq)=true/\Rt X Y (.ret x) tah:=
 ⟨js,ρ,X,Y,h,hc,rfl,rfl⟩
theorem lp{n0:Nat}{a:St}{R:∀(ι:Type) (I:ι->St) (inv:ι->Prop) (m:ι->Nat),ι->Prop}(ι:Type)(I:ι->St)(inv:ι->Prop)(m:ι->Nat)(y:ι)(js:List Nat)(ρ:List Rn)(h1:inv y)(h2:le n0 js ρ a (I y))(b:∀x,inv x->R ι I inv m x):
  ∃(ι:Type) (I:ι->St) (inv:ι->Prop) (m:ι->Nat),(∃y,inv y/\LE n0 a (I y))/\∀x,inv x->R ι I inv m x:=
 ⟨ι,I,inv,m,⟨y,h1,js,ρ,h2⟩,b⟩
theorem ag{ι:Type}{n0:Nat}{I:ι->St}{inv:ι->Prop}{m:ι->Nat}{lt:Nat}{s:St}(y:ι)(js:List Nat)(ρ:List Rn)(h1:inv y)(h2:m y<lt)(a:le n0 js ρ s (I y)):∃y,(inv y/\m y<lt)/\LE n0 s (I y):=⟨y,⟨h1,h2⟩,js,ρ,a⟩
end Go.AM
end
section
namespace Go.Nest
open Go Go.AM
structure aI where
 name:List UInt8
 mode:Int
 id:Int
 ax:Int
 deriving DecidableEq
structure Ob where
 kind:Int
 bytes:List UInt8
 entries:List aI
 tree:Int
 parents:List Int
 text:List UInt8
 deriving DecidableEq
structure Fi where
 path:List UInt8
 mode:Int
 id:Int
 ax:Int
 deriving DecidableEq
structure Ch where
 path:List UInt8
 old:Fi
 new:Fi
 deriving DecidableEq
structure Dc where
 path:List UInt8
 bytes:List UInt8
 deriving DecidableEq
structure Rf where
 name:List UInt8
 id:Int
 deriving DecidableEq
structure Mv where
 name:List UInt8
 old:Int
 new:Int
 deriving DecidableEq
structure It where
 path:List UInt8
 bytes:List UInt8
 link:Bool
 id:Int
 ax:Int
 deriving DecidableEq
def cM(e:aI):List C:=[.str e.name,.int .i64 e.mode,.int .i64 e.id,.int .i64 e.ax]
def an(o:Ob):List C:=[.int .i64 o.kind,.ls 1 UInt8 aN o.bytes,.ls 4 aI cM o.entries,.int .i64 o.tree,.ls 1 Int encI o.parents,.str o.text]
def iG(o:Ob):List C:=[.int .i64 o.kind,.bs 1 UInt8 aN o.bytes,.bs 4 aI cM o.entries,.int .i64 o.tree,.bs 1 Int encI o.parents,.str o.text]
def aq(f:Fi):List C:=[.str f.path,.int .i64 f.mode,.int .i64 f.id,.int .i64 f.ax]
def iT(c:Ch):List C:=[.str c.path,.str c.old.path,.int .i64 c.old.mode,.int .i64 c.old.id,.int .i64 c.old.ax,.str c.new.path,.int .i64 c.new.mode,.int .i64 c.new.id,.int .i64 c.new.ax]
def lT(d:Dc):List C:=[.str d.path,.ls 1 UInt8 aN d.bytes]
def bL(r:Rf):List C:=[.str r.name,.int .i64 r.id]
def cN(m:Mv):List C:=[.str m.name,.int .i64 m.old,.int .i64 m.new]
def aM(x:It):List C:=[.str x.path,.ls 1 UInt8 aN x.bytes,.bool x.link,.int .i64 x.id,.int .i64 x.ax]
def kq(p:Int×Int):List C:=[.int .i64 p.1,.int .i64 p.2]
def we(p:Int×Int×Int):List C:=[.int .i64 p.1,.int .i64 p.2.1,.int .i64 p.2.2]
structure Sn where
 docs:List Dc
 parents:List Int
 text:List UInt8
 deriving DecidableEq
def nl(sz:Nat)(α:Type)(enc:α->List C):List α->C
 |[]=>.nil
 |x::l=>.ls sz α enc (x::l)
structure Dt where
 what:Int
 a:Int
 b:Int
 k:Int
 gu:Bool
 r0:List Int
 r1:List Int
 r2:List Int
 r3:List Int
structure Mt where
 k:Int
 to:Int
 ax:Int
 path:List UInt8
structure Dp where
 own:Nat->List Bool
 ef:Nat->List Int
theorem four{i:Nat}(h:i<4):i=0\/i=1\/i=2\/i=3:=by omega
def aA{α:Type}(o:Nat->α)(k:Nat)(v:α):Nat->α:=λj=>bif bl j k then v else o j
theorem iB{α:Type}{o:Nat->α}{k:Nat}{v:α}:aA o k v k=v:=by unfold aA;rw[Nat.beq_refl];rfl
theorem Pz{α:Type}{o:Nat->α}{k:Nat}{v w:α}:aA (aA o k v) k w=aA o k w:=by
 funext j;unfold aA;cases bl j k<;>rfl
structure FS where
 L:List Ob
 o:Nat->List Bool
 b:Nat->List Int
 n:Nat->List Rf
 m:Nat->List Mv
 w:Nat->List It
 h:Nat->Int
structure ck where
 kind:Int
 r:Int
 q:Int
 path:List UInt8
 name:List UInt8
 text:List UInt8
 bytes:List UInt8
def az(x:ck):List C:=[.int .i64 x.kind,.int .i64 x.r,.int .i64 x.q,.str x.path,.str x.name,.str x.text,.ls 1 UInt8 aN x.bytes]
structure cz where
 code:Int
 id:Int
 cf:List (List UInt8)
def b6(x:cz):List C:=[.int .i64 x.code,.int .i64 x.id,.ls 1 (List UInt8) encS x.cf]
def bO(id c:Int):cz:=if c≠0 then⟨c,0,[]⟩else⟨0,id,[]⟩
def FS.dep(s:FS):Dp:=⟨s.o,s.b⟩
def c8:FS:=⟨[],λ_=>[],λ_=>[],λ_=>[],λ_=>[],λ_=>[],λ_=> -1⟩
def FS.cC(s:FS)(r:Nat)(L:List Ob)(l:List It)(h:Int):FS:={s with L:=L,w:=aA s.w r l,h:=aA s.h r h}
def FS.lD(s:FS)(r:Nat)(l:List Rf)(m:List Mv):FS:={s with n:=aA s.n r l,m:=aA s.m r m}
def FS.dm(s:FS)(o:Nat->List Bool):FS:={s with o:=o}
def FS.Ez(s:FS)(b:Nat->List Int):FS:={s with b:=b}
def FS.aY(s:FS)(L:List Ob):FS:={s with L:=L}
theorem uF{α:Type}{p:α->Bool}:∀{l:List α} {k:Nat},k<=l.length->(∀g∈l.take k,p g=true)->(∀h:k<l.length,p l[k]=false)->l.takeWhile p=l.take k/\l.dropWhile p=l.drop k
 |[],0,_,_,_=>⟨rfl,rfl⟩
 |x::l,0,_,_,h=>by have:=h (by simp);simp at this;simp[this]
 |x::l,k+1,f,a,b=>by
  have i:=a x (by simp);obtain⟨c,d⟩:=uF (l:=l) (k:=k) (by simpa using f) (λg e=>a g (by simp[e])) (λh=>b (by simpa using h));simp[i,c,d]
 |[],k+1,h,_,_=>by simp at h
theorem oK:∀{a b:List Int},a.Pairwise (· < ·)->b.Pairwise (· < ·)->(∀x,x∈a↔x∈b)->a=b
 |[],[],_,_,_=>rfl
 |[],y::b,_,_,h=>by have:=(h y).2 (by simp);cases this
 |x::a,[],_,_,h=>by have:=(h x).1 (by simp);cases this
 |x::a,y::b,j,hb,h=>by
  obtain⟨d,g⟩:=cd.1 j;obtain⟨f,i⟩:=cd.1 hb
  have e:x=y:=by
   rcases bp.1 ((h x).1 (by simp))with e|hx
   ·exact e
   rcases bp.1 ((h y).2 (by simp))with e|hy
   ·exact e.symm
   have:=d y hy;have:=f x hx;omega
  subst e;congr 1
  refine oK g i λz=>⟨λc=>?_,λc=>?_⟩
  ·rcases bp.1 ((h z).1 (by simp[c]))with rfl|h5
   ·have:=d _ c;omega
   ·exact h5
  ·rcases bp.1 ((h z).2 (by simp[c]))with rfl|h5
   ·have:=f _ c;omega
   ·exact h5
end Go.Nest
end
section
namespace Go.AM
open Go Go.NB
theorem bB.frame{d:Bool}{P:Program}{f:FuncId}{o args:List A}{tah Y ah Z I:List B}{X W D:A}(m:List Nat)(ρ:List Rn)(hs:bB d P f o tah (Rt X Y))(w:jY ah m args o tah)
  (hZ:dV m tah ah Y=Z)(hW:dX (sig m ah.length) X=W)(O:lex ah.length [] ρ Z W D I)(u:(fp D&&I.all fq)=true):bB d P f args ah (Rt D I):=by
 intro F L γ H vs t n;obtain⟨r,R,z⟩:=bV w;simp only[a1,b0]at r;obtain⟨⟨S,Q⟩,T⟩:=r;have y:∀j∈m,j<ah.length:=λj hj=>bn (Q j hj);have a:=core n z T BI;have q:=xu (B':=lj (en F L γ ah H) γ ah (iu m tah)) n (λ_ h=>.inl h) (λj b g e i l k x=>.inr ⟨j,b,g,i,l,e,x⟩) R t
 have K:WR (en F (lj (en F L γ ah H) γ ah (iu m tah)) ((bG m).map (bR γ)) tah H) F ((bG m).map (bR γ)) tah H:=by
  refine⟨a.len,a.br,a.disj,λj b g k e i l=>(a.nf j b g k e i l).1,n.fb,λk x=>⟨?_,λ⟨j,b,g,e,i,l⟩=>(a.nf j b g k e i l).1.2 x⟩,Nat.le_refl _,λ_ _ _=>rfl,λ_ h=>h,λ_ h=>.inl h,λj b g k e i l=>.inl ⟨j,b,g,e,i,l⟩,λ_ _ h=>h,λp U=>⟨(n.l5 p U).1,λ⟨j,b,g,e,i,l⟩=>(a.nf j b g _ e i l).1.1 (n.l5 p U).1,(n.l5 p U).2⟩⟩;rcases x with x|⟨j,b,g,e,i,_,l⟩
  ·exact Nat.lt_of_lt_of_le (n.bb k x).1 n.size
  ·exact fV (n.br _ _ _ e i) k l
 refine(hs F _ _ H _ q K).mono λok v H' hb=>?_;obtain⟨out,ah',F',γ',⟨rfl,rfl⟩,M,N,w,ac,J⟩:=hb;obtain⟨m1,m2,m3,m4,m5⟩:=merge n z (tV S) y a J N;have s:RA F' H' ⟨L,γ++γ'.drop m.length⟩ (dX (sig m ah.length) X) v:=D9 m3 ac M;rw[hZ]at m1;rw[hW]at s;obtain⟨F2,ad,h7,h8⟩:=xi (c:=⟨P,λ_=>none,0,ah.length,d⟩) (E:=en F L γ ah H) n.len m1 s O;rw[a1]at u;exact⟨.ret D,I,F2,ad,⟨rfl,rfl⟩,u.1,u.2,w,h8,h7⟩
def gY(ρ:List Rn)(j:Nat):Nat:=match ρ[j]? with
 |some (.s k)=>k
 |_=>0
def lg:Option Rn->Bool
 |some (.s _)=>true
 |_=>false
def sF(ρ:List Rn):C->Bool
 | .rw i=>lg ρ[i]?
 | .ptr i _=>lg ρ[i]?
 | .sw _ i _ _=>lg ρ[i]?
 | .int _ _=>true
 | .bool _=>true
 | .str _=>true
 | .raw _=>true
 | .nil=>true
 | .ls .. =>true
 |_=>false
def vI(ρ:List Rn)(r:Rn)(b:B):Bool:=match b with
 | .dead=>true
 | .box a _=>lg (some r)&&a.all (sF ρ)
 |_=>lg (some r)
def ki(ρ:List Rn):List Rn->List B->Bool
 |[],[]=>true
 |r::c,b::a=>vI ρ r b&&ki ρ c a
 |_,_=>false
def Ex(ah:List B)(r:Rn)(b:B):B:=match b with
 | .dead=>.dead
 |_=>match r with
  | .s j=>(ah[j]?).getD .dead
  |_=>.dead
def kH(ah:List B):List Rn->List B->List B
 |r::c,b::a=>Ex ah r b::kH ah c a
 |_,_=>[]
section
variable {fr:Nat->Bool} {ah:List B} {ρ:List Rn}
theorem om{r:Option Rn}(h:lg r=true):∃k,r=some (.s k):=by
 cases r with
 |none=>cases h
 |some r=>cases r with
  |s k=>exact⟨k,rfl⟩
  |_=>cases h
theorem Lx{n:Nat}{c:C}(h:sF ρ c=true):mC fr ah (n+1) ρ (kF (gY ρ) c) c:=by
 cases c with
 |rw i=>obtain⟨k,e⟩:=om h;simp only[mC,kF,gY,e]
 |ptr i o=>obtain⟨k,e⟩:=om h;simp only[mC,kF,gY,e]
 |sw b i a m=>obtain⟨k,e⟩:=om h;simp only[mC,kF,gY,e]
 |int _ _=>rfl
 |bool _=>rfl
 |str _=>rfl
 |raw _=>rfl
 |nil=>rfl
 |ls _ _ _ _=>rfl
 |_=>cases h
theorem zc:∀{cs:List C},cs.all (sF ρ)=true->kR (mC fr ah 5 ρ) (cs.map (kF (gY ρ))) cs
 |[],_=>trivial
 |c::cs,h=>by
  rw[List.all_cons,a1]at h;exact⟨Lx h.1,zc h.2⟩
theorem Ps(t:Option Nat):yz t t:=by cases t<;>first|trivial|rfl
theorem uw{j:Nat}{b:B}(h:(ah[j]?).getD .dead=b)(hb:b≠.dead):ah[j]? =some b:=by
 cases e:ah[j]? with
 |none=>rw[e]at h;exact absurd h.symm hb
 |some x=>rw[e]at h;exact congrArg some h
theorem Lw{r:Rn}{b:B}(h:vI ρ r b=true)(he:Ex ah r b=fY (gY ρ) b):mB fr ah ρ r b:=by
 cases b with
 |dead=>trivial
 |box f t=>
  have h:(lg (some r)&&f.all (sF ρ))=true:=h;rw[a1]at h;obtain⟨k,e⟩:=om h.1;obtain rfl:r= .s k:=by simpa using e
  have c:=uw (b:=fY (gY ρ) (.box f t)) he (by intro h;cases h);simp only[mB,c,fY];exact⟨Ps t,zc h.2⟩
 |row d α a l=>
  obtain⟨k,e⟩:=om (show lg (some r)=true from h);obtain rfl:r= .s k:=by simpa using e
  have c:=uw (b:= .row d α a l) he (by intro h;cases h);simp only[mB,c]
 |bh d α a l=>
  obtain⟨k,e⟩:=om (show lg (some r)=true from h);obtain rfl:r= .s k:=by simpa using e
  have c:=uw (b:= .bh d α a l) he (by intro h;cases h);simp only[mB,c]
 |buf t d α a l=>
  obtain⟨k,e⟩:=om (show lg (some r)=true from h);obtain rfl:r= .s k:=by simpa using e
  have c:=uw (b:= .buf t d α a l) he (by intro h;cases h);simp only[mB,c,and_self]
theorem re:∀{rs:List Rn} {bs:List B},ki ρ rs bs=true->kH ah rs bs=bs.map (fY (gY ρ))->mi fr ah ρ rs bs
 |[],[],_,_=>trivial
 |r::rs,b::bs,h,e=>by
  have h:(vI ρ r b&&ki ρ rs bs)=true:=h;rw[a1]at h;simp only[kH,List.map_cons,List.cons.injEq]at e;exact⟨Lw h.1 e.1,re h.2 e.2⟩
 |[],_::_,h,_=>by cases h
 |_::_,[],h,_=>by cases h
end
theorem iH{ah tah:List B}{m:List Nat}{args a:List A}(c:lq (iu m tah) ah (bG m) args a)(h1:(eS m&&m.all (λj=>co j ah.length)&&eS (cR (bG m) tah))=true:=by kernel_rfl)
  (h2:ki (bG m) (bG m) tah=true:=by kernel_rfl)(b:kH ah (bG m) tah=tah.map (fY (gY (bG m))):=by kernel_rfl):jY ah m args a tah:=by
 unfold jY;rw[h1];exact⟨c,re h2 b⟩
theorem jd{n0:Nat}{ρ:List Rn}{ah tah:List B}{a x:A}(c:mA (λ_=>false) ah ρ a x)(h1:(l9 0 ρ n0&&eS (cR ρ tah))=true:=by kernel_rfl)
  (h2:ki ρ ρ tah=true:=by kernel_rfl)(b:kH ah ρ tah=tah.map (fY (gY ρ)):=by kernel_rfl):lex n0 [] ρ ah a x tah:=by
 unfold lex;rw[h1];exact⟨c,re h2 b⟩
theorem aE{d:Bool}{P:Program}{f:FuncId}{ah:List B}{env:List (Nat×A)}{args:List A}{g:G}{k:List B->A->Prop}{o:A->St->Prop}{b:List A}{tah Y:List B}{X:A}(m:List Nat)(Z:List B)(n:bB d P f b tah (Rt X Y))(hk:fm k Z (dX (sig m ah.length) X))
  (l:lq (iu m tah) ah (bG m) args b:=by repeat' first|exact trivial|exact rfl|refine And.intro ?_ ?_)(hZ:dV m tah ah Y=Z:=by kernel_rfl)(h1:(eS m&&m.all (λj=>co j ah.length)&&eS (cR (bG m) tah))=true:=by kernel_rfl)
  (h2:ki (bG m) (bG m) tah=true:=by kernel_rfl)(i:kH ah (bG m) tah=tah.map (fY (gY (bG m))):=by kernel_rfl)(hg:g.call m=true:=by rfl):
  ∃(js m:List Nat) (b:List A) (tah:List B) (Q:Out->List B->Prop),bB d P f b tah Q/\jY (aZ js ah) m args b tah/\g.call m=true/\
   ∀out ah',Q out ah'->match out with
    | .ret a=>fm k (dV m tah (aZ js ah) ah') (dX (sig m (aZ js ah).length) a)
    | .cV a=>fm o (dX (sig m (aZ js ah).length) a) ⟨env,dV m tah (aZ js ah) ah'⟩:=
 ⟨[],m,b,tah,_,n,iH l h1 h2 i,hg,λout ah' h=>by
  have c:=h.1;have e:=h.2;clear h;subst c;show fm k (dV m tah ah ah') (dX (sig m ah.length) X);rw[e,hZ];exact hk⟩
theorem aF{n0:Nat}{ah:List B}{a X:A}{Y:List B}(ρ:List Rn)(c:mA (λ_=>false) ah ρ a X:=by repeat' first|exact trivial|exact rfl|refine And.intro ?_ ?_)(h1:(l9 0 ρ n0&&eS (cR ρ Y))=true:=by kernel_rfl)
  (h2:ki ρ ρ Y=true:=by kernel_rfl)(b:kH ah ρ Y=Y.map (fY (gY ρ)):=by kernel_rfl)(hc:(fp X&&Y.all fq)=true:=by kernel_rfl):∃js ρ x tah,lex n0 js ρ ah a x tah/\(fp x&&tah.all fq)=true/\Rt X Y (.ret x) tah:=
 ⟨[],ρ,X,Y,jd c h1 h2 b,hc,rfl,rfl⟩
theorem dw{n0:Nat}{ρ:List Rn}{s t:St}(he:mE s.ah ρ s.env t.env:=by repeat' first|exact trivial|exact rfl|refine And.intro ?_ ?_)(h1:(l9 0 ρ n0&&eS (cR ρ t.ah))=true:=by kernel_rfl)
  (h2:ki ρ ρ t.ah=true:=by kernel_rfl)(a:kH s.ah ρ t.ah=t.ah.map (fY (gY ρ)):=by kernel_rfl):le n0 [] ρ s t:=by
 unfold le;rw[h1];exact⟨he,re h2 a⟩
theorem Am{d:Bool}{P:Program}{f:FuncId}{ah:List B}{env:List (Nat×A)}{args:List A}{g:G}{k:List B->A->Prop}{o:A->St->Prop}{b:List A}{tah Y:List B}{X:A}(js m:List Nat)(Z:List B)(n:bB d P f b tah (Rt X Y))(hk:fm k Z (dX (sig m (aZ js ah).length) X))
  (l:lq (iu m tah) (aZ js ah) (bG m) args b:=by repeat' first|exact trivial|exact rfl|refine And.intro ?_ ?_)(hZ:dV m tah (aZ js ah) Y=Z:=by kernel_rfl)(h1:(eS m&&m.all (λj=>co j (aZ js ah).length)&&eS (cR (bG m) tah))=true:=by kernel_rfl)
  (h2:ki (bG m) (bG m) tah=true:=by kernel_rfl)(i:kH (aZ js ah) (bG m) tah=tah.map (fY (gY (bG m))):=by kernel_rfl)(hg:g.call m=true:=by rfl):
  ∃(js m:List Nat) (b:List A) (tah:List B) (Q:Out->List B->Prop),bB d P f b tah Q/\jY (aZ js ah) m args b tah/\g.call m=true/\
   ∀out ah',Q out ah'->match out with
    | .ret a=>fm k (dV m tah (aZ js ah) ah') (dX (sig m (aZ js ah).length) a)
    | .cV a=>fm o (dX (sig m (aZ js ah).length) a) ⟨env,dV m tah (aZ js ah) ah'⟩:=
 ⟨js,m,b,tah,_,n,iH l h1 h2 i,hg,λout ah' h=>by
  have c:=h.1;have e:=h.2;clear h;subst c;show fm k (dV m tah (aZ js ah) ah') (dX (sig m (aZ js ah).length) X);rw[e,hZ];exact hk⟩
theorem NY{n0:Nat}{ah:List B}{a X:A}{Y:List B}(js:List Nat)(ρ:List Rn)(c:mA (λ_=>false) (aZ js ah) ρ a X:=by repeat' first|exact trivial|exact rfl|refine And.intro ?_ ?_)(h1:(l9 0 ρ n0&&eS (cR ρ Y))=true:=by kernel_rfl)
  (h2:ki ρ ρ Y=true:=by kernel_rfl)(b:kH (aZ js ah) ρ Y=Y.map (fY (gY ρ)):=by kernel_rfl)(hc:(fp X&&Y.all fq)=true:=by kernel_rfl):∃js ρ x tah,lex n0 js ρ ah a x tah/\(fp x&&tah.all fq)=true/\Rt X Y (.ret x) tah:=
 ⟨js,ρ,X,Y,by unfold lex;rw[h1];exact⟨c,re h2 b⟩,hc,rfl,rfl⟩
theorem Hw{d:Bool}{P:Program}{f:FuncId}{ah:List B}{env:List (Nat×A)}{args:List A}{g:G}{k:List B->A->Prop}{n:A->St->Prop}{b:List A}{tah Y:List B}{X:A}(js m:List Nat)(c Z:List B)(l:bB d P f b tah (Rt X Y))(hk:fm k Z (dX (sig m c.length) X))
  (h:aZ js ah=c:=by kernel_rfl)(i:lq (iu m tah) c (bG m) args b:=by repeat' first|exact trivial|exact rfl|refine And.intro ?_ ?_)(hZ:dV m tah c Y=Z:=by kernel_rfl)(h1:(eS m&&m.all (λj=>co j c.length)&&eS (cR (bG m) tah))=true:=by kernel_rfl)
  (h2:ki (bG m) (bG m) tah=true:=by kernel_rfl)(e:kH c (bG m) tah=tah.map (fY (gY (bG m))):=by kernel_rfl)(hg:g.call m=true:=by rfl):
  ∃(js m:List Nat) (b:List A) (tah:List B) (Q:Out->List B->Prop),bB d P f b tah Q/\jY (aZ js ah) m args b tah/\g.call m=true/\
   ∀out ah',Q out ah'->match out with
    | .ret a=>fm k (dV m tah (aZ js ah) ah') (dX (sig m (aZ js ah).length) a)
    | .cV a=>fm n (dX (sig m (aZ js ah).length) a) ⟨env,dV m tah (aZ js ah) ah'⟩:=by
 subst h;exact Am js m Z l hk i hZ h1 h2 e hg
end Go.AM
end
