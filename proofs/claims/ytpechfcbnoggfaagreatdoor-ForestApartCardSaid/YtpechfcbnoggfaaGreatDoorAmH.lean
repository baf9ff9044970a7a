/- part -/
import Derived.Test.YtpechfcbnoggfaaGreatDoorAm14
import Derived.OrdersHeld
import Derived.KernelRfl
set_option linter.unusedVariables false
set_option linter.unusedSimpArgs false
section
namespace Go.AM
open Go Go.NB
def Xg(ops:Array Oper)(o:Oper)(s:St)(yes:St→Prop)(f:St→Prop):Prop:=
 match o.guard with
 |none=>yes s
 |some (j,a)=>match(ops[j]?).bind (·.dst)with
  |some d=>match lk s.env d with
   |some (.c (.bool b))=>match s with
    |⟨e,ah⟩=> @Bool.rec (fun _=>Prop) (bif a then f ⟨(d,.c (.bool false))::e,ah⟩else yes ⟨(d,.c (.bool false))::e,ah⟩)
     (bif a then yes ⟨(d,.c (.bool true))::e,ah⟩else f ⟨(d,.c (.bool true))::e,ah⟩) b
   |some .off=>f s
   |_=>False
  |none=>False
def Xl(c:dO)(ops:Array Oper)(l:List (G×Oper)):St→(St→Prop)→(A→St→Prop)→Prop:=
 List.rec (motive:=fun _=>St→(St→Prop)→(A→St→Prop)→Prop) (fun s k _=>k s)
  (fun x _ ih s k a=>Xg ops x.2 s (fun s=>Xo c x.1 x.2 s (fun s=>ih s k a) a) (fun s=>iS c.n s x.2.dst .off fun s=>ih s k a)) l
theorem tp{c:dO}{ops:Array Oper}{g:G}{o:Oper}{r:List (G×Oper)}{s:St}{k:St→Prop}{a:A→St→Prop}(h:Xl c ops ((g,o)::r) s k a):Xg ops o s (fun s=>Xo c g o s (fun s=>Xl c ops r s k a) a) (fun s=>iS c.n s o.dst .off fun s=>Xl c ops r s k a):=h
section
variable {c:dO} {r:j8} {s:St} {a:Act} {w:World} {o:Oper}
theorem Cv{F:Nat→Prop}{H:af}{m:Md}{ops:Array Oper}(e:ER F H m s.env a){j d:Nat}{x:A}(c:(ops[j]?).bind (·.dst)=some d)(hl:lk s.env d=some x)(f:∀v,RA F H m x v→v≠undef∨True):
  yielded ops a.tmps j=(match a.tmps.getD d undef with| .bool b=>some b|_=>none):=by
 unfold yielded;rw[c];show(match a.tmps[d]? with|some (.bool b)=>some b|_=>none)=_;by_cases h:d<a.tmps.size
 ·rw[Array.getElem?_eq_getElem h];simp[Array.getD,h];cases a.tmps[d]<;>rfl
 ·rw[Array.getElem?_eq_none (by omega)];simp[Array.getD,h];rfl
theorem tn{ops:Array Oper}{F:Nat→Prop}{γ:List Value}{yes u:St→Prop}(h:Xg ops o s yes u)(D:gu c r F γ s .undef undef a w):
  (Region.wanted o (yielded ops a.tmps)=true∧∃i,yes i∧i.ah=s.ah∧gu c r F γ i .undef undef a w)∨(Region.wanted o (yielded ops a.tmps)=false∧∃i,u i∧i.ah=s.ah∧gu c r F γ i .undef undef a w):=by
 unfold Xg at h;split at h
 ·rename_i n;exact .inl ⟨by simp[Region.wanted,n],s,h,rfl,D⟩
 ·rename_i j g n;split at h
  ·rename_i d J;have E:=D;obtain⟨N,z,K,M,k,_⟩:=E;split at h
   ·rename_i b l;have m:=Cv (ops:=ops) k J l (fun _ _=>.inr trivial);have p:=k d _ l;generalize H:a.tmps.getD d undef=v at m p;cases p with
    |bool _=>
     have put:∀y,y=b→gu c r F γ ⟨(d,.c (.bool y))::s.env,s.ah⟩ .undef undef a w:=fun y hb=>by
      subst hb;refine⟨N,z,K,M,fun t x f=>?_,trivial⟩;simp only[lk]at f;by_cases e:Nat.beq d t=true
      ·rw[e]at f;cases f;obtain rfl:=Nat.eq_of_beq_eq_true e;rw[H];exact .bool .nl
      ·rw[Bool.not_eq_true]at e;rw[e]at f;exact k t x f
     have q:Region.wanted o (yielded ops a.tmps)=(some b==some g):=by simp only[Region.wanted,n,m]
     cases b with
     |true=>
      have h:bif g then yes ⟨(d,.c (.bool true))::s.env,s.ah⟩else u ⟨(d,.c (.bool true))::s.env,s.ah⟩:=h
      rcases jz h with⟨rfl,h⟩|⟨rfl,h⟩
      ·exact .inl ⟨by rw[q];rfl,_,h,rfl,put _ rfl⟩
      ·exact .inr ⟨by rw[q];rfl,_,h,rfl,put _ rfl⟩
     |false=>
      have h:bif g then u ⟨(d,.c (.bool false))::s.env,s.ah⟩else yes ⟨(d,.c (.bool false))::s.env,s.ah⟩:=h
      rcases jz h with⟨rfl,h⟩|⟨rfl,h⟩
      ·exact .inr ⟨by rw[q];rfl,_,h,rfl,put _ rfl⟩
      ·exact .inl ⟨by rw[q];rfl,_,h,rfl,put _ rfl⟩
   ·rename_i l;have m:=Cv (ops:=ops) k J l (fun _ _=>.inr trivial);have p:a.tmps.getD d undef=undef:=k d _ l;rw[p]at m;have I:yielded ops a.tmps j=none:=by rw[m];rfl
    refine .inr ⟨?_,s,h,rfl,D⟩;simp only[Region.wanted,n,I];rfl
   ·exact h.elim
  ·exact h.elim
theorem CM(E:bB c.P c.tab){ops:Array Oper}{k:St→Prop}{K:XE→St→Prop}{Q:Exit→Act→World→Prop}(g:∀s a w,k s→SR c r s .undef undef a w→Q .normal a w)(D:∀p a w,Qk c r K (.panic p) a w→Q (.panic p) a w):
  ∀(l:List Oper) (s:St) (a:Act) (w:World),Xl c ops (l.map fun o=>(G.any,o)) s k (fun v s=>K (.dm v) s)→SR c r s .undef undef a w→wpList c.P ops Q l a w:=by
 intro l;induction l with
 |nil=>intro s a w h e;exact wpList_nil (g _ _ _ h e)
 |cons o l ih=>
  intro s a w h e;refine wpList_step fun N q=>?_;obtain⟨F,γ,e⟩:=e;rcases tn (tp h) e with⟨j,J,h,_,b⟩|⟨j,J,h,_,b⟩
  ·rw[if_pos j];exact Oper.wp_mono (fun u M ⟨t,n,m,f,d,_⟩=>q _ _ (ih m u M f ⟨t,n,d⟩)) (w9 E h b D)
  ·rw[if_neg (by rw[j];simp)];obtain⟨I,i,y,H,z,_⟩:=b;obtain⟨m,f,_,d⟩:=nt (x:= .off) (v:=undef) h I i y H z rfl;exact q _ _ (ih m _ _ f ⟨F,γ,d⟩)
end
end Go.AM
end
section
namespace Go.AM
open Go Go.NB
def bitsOf(a:Array Nat)(o:Oper):Nat:=o.after.toList.foldl (fun s e=>bif Region.binds .any e then s|||2^e.on|||a.getD e.on 0 else s) 0
def nM:List Oper→Array Nat→Array Nat
 |[],a=>a
 |o::r,a=>nM r (a.push (bitsOf a o))
inductive iA(ops:Array Oper):Nat→Nat→Prop
 |one {i j:Nat} {o:Oper} {e:Edge} (h:ops[j]? =some o) (he:e∈o.after) (hb:Region.binds .any e=true) (hi:e.on=i):iA ops i j
 |more {i j:Nat} {o:Oper} {e:Edge} (h:ops[j]? =some o) (he:e∈o.after) (hb:Region.binds .any e=true) (hi:iA ops i e.on):iA ops i j
theorem Di{ops:Array Oper}{a:Array Nat}{o:Oper}{j:Nat}(ho:ops[j]? =some o)(b:∀i q,(a.getD q 0).testBit i=true→iA ops i q):∀i,(bitsOf a o).testBit i=true→iA ops i j:=by
 have g:∀(l:List Edge) (s:Nat),(∀e∈l,e∈o.after)→(∀i,s.testBit i=true→iA ops i j)→∀i,(l.foldl (fun s e=>bif Region.binds .any e then s|||2^e.on|||a.getD e.on 0 else s) s).testBit i=true→iA ops i j:=by
  intro l;induction l with
  |nil=>intro s _ c i h;exact c i h
  |cons e l ih=>
   intro s f c i h;rw[List.foldl_cons]at h;refine ih _ (fun e d=>f e (by simp[d])) (fun i hi=>?_) i h;by_cases hb:Region.binds .any e=true
   ·rw[hb,cond_true,Nat.testBit_or,Nat.testBit_or,Bool.or_eq_true,Bool.or_eq_true]at hi;rcases hi with(hi|hi)|hi
    ·exact c i hi
    ·rw[Nat.testBit_two_pow]at hi;exact .one ho (f e (by simp)) hb (by simpa using hi)
    ·exact .more ho (f e (by simp)) hb (b i _ hi)
   ·rw[Bool.not_eq_true]at hb;rw[hb,cond_false]at hi;exact c i hi
 intro i h;exact g o.after.toList 0 (fun e d=>by simpa using d) (fun i hi=>by simp at hi) i h
theorem xN{ops:Array Oper}:∀(l:List Oper) (a:Array Nat),(∀q o,l[q]? =some o→ops[a.size+q]? =some o)→(∀i q,(a.getD q 0).testBit i=true→iA ops i q)→∀i q,((nM l a).getD q 0).testBit i=true→iA ops i q
 |[],a,_,h=>h
 |o::r,a,d,h=>by
  refine xN r _ (fun q g c=>?_) (fun i q b=>?_)
  ·have:=d (q+1) g (by simpa using c);rw[Array.size_push];rw[show a.size+1+q=a.size+(q+1)by omega];exact this
  ·by_cases c:q<a.size
   ·refine h i q ?_;simp only[Array.getD_eq_getD_getElem?]at b⊢;rw[Array.getElem?_push_lt c]at b;rw[Array.getElem?_eq_getElem c];exact b
   ·by_cases f:q=a.size
    ·subst f;have e:=d 0 o rfl;simp only[Array.getD_eq_getD_getElem?,Array.getElem?_push_size,Option.getD_some]at b;exact Di e h i b
    ·simp only[Array.getD_eq_getD_getElem?]at b;rw[Array.getElem?_eq_none (by simp;omega)]at b;simp at b
def bw(a:Op):Bool:= !iO a
def vm(ops:Array Oper)(bits:Array Nat)(j:Nat):Bool:=(List.range ops.size).all fun i=>match ops[i]? with
 |some o=> !bw o.op||Nat.beq i j||(bits.getD j 0).testBit i||(bits.getD i 0).testBit j
 |none=>true
section
variable {P:Program} {ops:Array Oper} {Q:Exit→Act→World→Prop} {S:World→Prop} {late:Nat→Bool}
def Cl(ops:Array Oper)(a:Array Bool):Prop:=
 ∀(j:Nat) (b:Oper),ops[j]? =some b→a.getD j false=true→∀e∈b.after,Region.binds .any e=true→a.getD e.on false=true
theorem Cl.step{a:Array Bool}{j:Nat}(hc:Cl ops a)(i:j∈Region.ready .any ops a):Cl ops (a.setIfInBounds j true):=fun k ok g h e f hb=>by
 obtain⟨_,l,d,b⟩:=mem_ready.1 i;by_cases c:j=k
 ·subst c;rw[g]at d;cases d;exact getD_set_true (b e f hb)
 ·rw[getD_set_ne false c]at h;exact getD_set_true (hc k ok g h e f hb)
theorem xh{a:Array Bool}(hc:Cl ops a){i j:Nat}(h:iA ops i j):(∀o,ops[j]? =some o→∀e∈o.after,Region.binds .any e=true→a.getD e.on false=true)→a.getD i false=true:=by
 induction h with
 |one h c hb l=>intro f;rw[←l];exact f _ h _ c hb
 |more h c hb _ ih=>intro f;exact ih fun m g k d b=>hc _ _ g (f _ h _ c hb) k d b
def iG(g:G)(D:Nat→Prop)(H H':af):Prop:=∀k,D k→j9 g H H' k
theorem iG.cM{H H':af}(h:iG .grow (fun k=>k<H.size) H H'):aq [] H H':=by
 refine⟨?_,fun k a _=>h k a⟩;rcases Nat.eq_zero_or_pos H.size with h0|h0
 ·omega
 ·have:H'[H.size-1]? =H[H.size-1]? :=h (H.size-1) (by show H.size-1<H.size;omega);rw[Array.getElem?_eq_getElem (by omega:H.size-1<H.size)]at this;have:=(Array.getElem?_eq_some_iff.1 this).1;omega
def nB(P:Program)(ops:Array Oper)(Q:Exit→Act→World→Prop)(late:Nat→Bool)(g:G):Nat→(Nat→Prop)→Array Bool→Act→World→Prop
 |0,_,b,a,w=>Region.ready .any ops b=[]∧Q .normal a w
 |fuel+1,d,b,a,w=>(Region.ready .any ops b=[]→Q .normal a w)∧
  ∀i∈Region.ready .any ops b,wpOp P ops Q i (fun f e=>∃c,(late i=true∨(iG g d w.heap e.heap∧∀k,d k→c k))∧nB P ops Q late g fuel c (b.setIfInBounds i true) f e) a w
theorem Cr{g:G}:∀(fuel:Nat) (d:Nat→Prop) (b:Array Bool) (a:Act) (w:World),nB P ops Q late g fuel d b a w→wpAny P .any ops Q fuel b a w
 |0,_,_,_,_,h=>h
 |fuel+1,_,_,_,_,h=>⟨h.1,fun i j=>wpOp_mono (fun e k ⟨c,_,f⟩=>Cr fuel c _ e k f) (h.2 i j)⟩
theorem Ck{a:Array Bool}{i:Nat}(h:a.getD i true=false):a.getD i false=false:=by
 rcases Nat.lt_or_ge i a.size with h'|h'
 ·simp[h']at h⊢;exact h
 ·simp[Array.getElem?_eq_none h']at h
theorem Kx{g:G}{i:Nat}{F:Oper}{v:Value}(hi:ops[i]? =some F)(u:∀(j:Nat) (o:Oper) cs b,ops[j]? =some o→o.op≠.select cs b)
  (hQ:∀c a w,Q (.panic c) (a.put F.dst v) w→Q (.panic c) a w){w0:World}{D:Nat→Prop}{n:Prop}
  (hl:n∨∀(d:Array Bool) (j:Nat),Cl ops d→i∈Region.ready .any ops d→j∈Region.ready .any ops d→d.getD i false=false→j≠i→late j=false):
  ∀(fuel:Nat) (x:Nat→Prop) (d:Array Bool) (a:Act) (w:World),Cl ops d→
   (∀j I,ops[j]? =some I→j≠i→d.getD j true=false→(∀e∈I.after,Region.binds .any e=true→e.on≠i)→F.apart ops I=true)→
   i∈Region.ready .any ops d→YieldsIf P ops (fun w'=>n∨iG g D w0.heap w'.heap) F v a→(n∨(iG g D w0.heap w.heap∧∀k,D k→x k))→
   nB P ops Q late g fuel x (d.setIfInBounds i true) (a.put F.dst v) w→nB P ops Q late g (fuel+1) x d a w:=by
 intro fuel;induction fuel with
 |zero=>
  intro x d a w _ _ t T l H;have m:n∨iG g D w0.heap w.heap:=l.imp id (·.1);refine⟨fun h=>(by rw[h]at t;cases t),fun j J=>?_⟩;by_cases f:j=i
  ·subst f;exact T.wpOp hi m ⟨x,.inr ⟨fun _ _=>.of rfl,fun _ h=>h⟩,H⟩
  ·have:=ready_mono J f;rw[H.1]at this;cases this
 |succ fuel ih=>
  intro x d a w hc p t T l H;have m:n∨iG g D w0.heap w.heap:=l.imp id (·.1);refine⟨fun h=>(by rw[h]at t;cases t),fun j J=>?_⟩;by_cases f:j=i
  ·subst f;exact T.wpOp hi m ⟨x,.inr ⟨fun _ _=>.of rfl,fun _ h=>h⟩,H⟩
  ·have h1:=H.2 j (ready_mono J f);have r:=Ck (mem_ready.1 t).1;obtain⟨s,I,E,M⟩:=mem_ready.1 J
   have O:∀e∈I.after,Region.binds .any e=true→e.on≠i:=fun e he hb W=>by
    have S:=M e he hb;rw[W,r]at S;cases S
   have S:=wpOp_putIf E (p j I E f s O) (fun cs b=>u i F cs b hi) (fun cs b=>u j I cs b E) hQ T h1
   have q:∀k ok,ops[k]? =some ok→k≠i→(d.setIfInBounds j true).getD k true=false→
     (∀e∈ok.after,Region.binds .any e=true→e.on≠i)→F.apart ops ok=true:=fun k ok K Y R Z=>by
    refine p k ok K Y ?_ Z;by_cases N:j=k
    ·subst N;exact s
    ·rw[getD_set_ne true N]at R;exact R
   refine wpOp_mono (fun a' w' h3=>?_) S;obtain⟨h4,y,z,h6⟩:=h3
   have U:n∨(iG g D w0.heap w'.heap∧∀k,D k→y k):=by
    rcases hl with hl|hl
    ·exact .inl hl
    ·rcases l with l|⟨g1,g2⟩
     ·exact .inl l
     ·rcases z with z|⟨z,h7⟩
      ·rw[hl d j hc t J r f]at z;cases z
      ·exact .inr ⟨fun k K=>(g1 k K).trans (z k (g2 k K)),fun k K=>h7 k (g2 k K)⟩
   refine⟨y,z,ih y (d.setIfInBounds j true) a' w' (hc.step J) q (ready_mono t (Ne.symm f)) h4 U ?_⟩;rw[Array.setIfInBounds_comm _ _ f];exact h6
theorem GK{bits:Array Nat}(c:∀i q,(bits.getD q 0).testBit i=true→iA ops i q){i:Nat}{t:Oper}(hi:ops[i]? =some t)(hr:bw t.op=true):
  ∀(a:Array Bool) (j:Nat),Cl ops a→i∈Region.ready .any ops a→j∈Region.ready .any ops a→a.getD i false=false→j≠i→vm ops bits j=false:=fun a j r n s p k=>by
 cases h:vm ops bits j with
 |false=>rfl
 |true=>
  have g:=(Array.getElem?_eq_some_iff.1 hi).1;have h1:=List.all_eq_true.1 h i (List.mem_range.2 g);rw[hi]at h1;simp only[hr,Bool.not_true,Bool.false_or,Bool.or_eq_true]at h1;rcases h1 with(h1|h1)|h1
  ·exact(k (Nat.eq_of_beq_eq_true h1).symm).elim
  ·obtain⟨_,v,m,b⟩:=mem_ready.1 s;have:=xh r (c i j h1) fun o d e f hb=>by rw[m]at d;cases d;exact b e f hb
   rw[p]at this;cases this
  ·obtain⟨_,u,l,b⟩:=mem_ready.1 n;have:=xh r (c j i h1) fun o d e f hb=>by rw[l]at d;cases d;exact b e f hb
   rw[Ck (mem_ready.1 s).1]at this;cases this
end
def qp(tab:Nat→Option TD):Op→Bool
 | .move _| .assign _| .pick .. | .load .. | .nilCheck _| .binOp .. | .unOp .. | .build .. | .fieldAddr .. | .field .. | .indexAddr .. | .index .. | .slice .. | .extract .. | .makeFunc .. | .makeInterface .. =>true
 | .convert _ u _=>match tab u with
  |some d=>match d.kind with
   | .int _=>true
   | .str=>true
   |_=>false
  |none=>false
 | .call c=>match c.callee with
  | .builtin .len=>true
  | .builtin .max=>true
  | .builtin .min=>true
  |_=>false
 |_=>false
def wI(m:Bool)(tab:Nat→Option TD)(a:Op):Bool:=qp tab a&&(!m||iO a)
def pj(m:Bool)(tab:Nat→Option TD)(ops:Array Oper):List Nat→Array Bool→(Array Bool→Bool)→Bool
 |[],a,D=>D a
 | i :: r, a, D => (match ops[i]? with
   |some o=>bif wI m tab o.op then Region.free .any ops a i&&(Region.ready .any ops a).contains i else Region.ready .any ops a==[i]
   |none=>false)&&pj m tab ops r (a.setIfInBounds i true) D
inductive DT where
 |l (ord:List Nat)
 |alt (ord js:List Nat) (f:Nat→DT)
def uu(m:Bool)(tab:Nat→Option TD)(ops:Array Oper):DT→Array Bool→Bool
 | .l b,a=>pj m tab ops b a fun a=>(Region.ready .any ops a).isEmpty
 | .alt b c f,a=>pj m tab ops b a fun a=> !c.isEmpty&&(Region.ready .any ops a==c)&&c.all fun j=>uu m tab ops (f j) (a.setIfInBounds j true)
def rW:DT→Nat→Bool
 | .l a,n=>Nat.beq a.length n
 | .alt a b f,n=>Nat.ble (a.length+1) n&&b.all fun j=>rW (f j) (n-(a.length+1))
def fo(m:Bool)(ops:Array Oper)(bits:Array Nat)(j:Nat):Bool:=m||vm ops bits j
def iJ(ops:Array Oper)(late:Nat→Bool)(g:G):List Nat→List (G×Oper)
 |[]=>[]
 |i::r=>match ops[i]? with
  |some o=>(bif iO o.op&&late i then .any else g,o)::iJ ops late g r
  |none=>iJ ops late g r
def ur(m:Bool)(g:G)(tab:Nat→Option TD)(ops:Array Oper)(t:DT):Bool:=
 (m||g.strict)&&rW t ops.size&&Region.noSelect ops&&uu m tab ops t (Array.replicate ops.size false)
def nC(P:Nat→Prop)(l:List Nat):Prop:=
 List.rec (motive:=fun _=>Prop) True (fun j r ih=>List.rec (motive:=fun _=>Prop) (P j) (fun _ _ _=>P j∧ih) r) l
theorem nC.get{P:Nat→Prop}:∀{l:List Nat},nC P l→∀j∈l,P j
 |[],_,j,h=>by cases h
 |[i],h,j,hj=>by simp at hj;subst hj;exact h
 |i::k::r,h,j,hj=>by
  have h:P i∧nC P (k::r):=h;rcases List.mem_cons.1 hj with rfl|hj
  ·exact h.1
  ·exact nC.get h.2 j hj
def XT(c:dO)(ops:Array Oper)(late:Nat→Bool)(g:G)(k:St→Prop)(b:A→St→Prop)(t:DT):St→Prop:=
 DT.rec (motive:=fun _=>St→Prop) (fun a s=>Xl c ops (iJ ops late g a) s k b)
  (fun a d _ ih s=>Xl c ops (iJ ops late g a) s (fun s=>nC (fun j=>Xl c ops (iJ ops late g [j]) s (fun s=>ih j s) b) d) b) t
section
variable {c:dO} {r:j8} {o:Oper}
theorem JU{tab:Nat→Option TD}{s:St}{a:Op}(h:qp tab a=true):u7 tab s a=false∧(∀x,a≠.panic x)∧(∀m as g,a≠.call ⟨.value m,as,g⟩):=by
 cases a with
 |convert t u x=>
  refine⟨?_,(fun _ h=>by cases h),(fun _ _ _ h=>by cases h)⟩;simp only[u7];simp only[qp]at h;cases k:tab u with
  |none=>rw[k]at h;cases h
  |some d=>
   rw[k]at h;simp only[]at h;cases o:aU s x with
   |c y=>
    cases y with
    |str l=>
     simp only[];cases j:d.kind with
     |sl e=>rw[j]at h;cases h
     |_=>rfl
    |rw l=>
     simp only[];cases j:d.kind with
     |sl e=>rw[j]at h;cases h
     |_=>rfl
    |_=>rfl
   |_=>rfl
 |call cl=>
  obtain⟨i,as,g⟩:=cl;cases i with
  |builtin b=>cases b<;>first|(cases h;done)|exact⟨rfl,(fun _ h=>by cases h),(fun _ _ _ h=>by cases h)⟩
  |value f=>cases h
  |invoke f n=>cases h
 |_=>first|(cases h;done)|exact⟨rfl,(fun _ h=>by cases h),(fun _ _ _ h=>by cases h)⟩
theorem CN{g:G}{s:St}{k:St→Prop}{m:A→St→Prop}(l:qp c.tab o.op=true)(h:Xo c g o s k m):g.mem o.op s=true∧Y1 c.tab s o.op (fun x=>iS c.n s o.dst x k):=by
 obtain⟨f,i,j⟩:=JU (s:=s) l;unfold Xo at h;split at h
 ·rename_i x a;exact(i x a).elim
 ·rename_i e as b a;exact(j e as b a).elim
 ·rcases jz h with⟨d,_⟩|⟨_,h⟩
  ·rw[f]at d;cases d
  ·exact b8 h
def th(K:XE→St→Prop):Prop:=∀x s,K (.dm x) s→K (.dm x) ⟨[],s.ah⟩
def nE(K:XE→St→Prop):XE→St→Prop
 | .dm x,s=>K (.dm x) ⟨[],s.ah⟩
 |e,s=>K e s
theorem CJ{K:XE→St→Prop}(m:th K){b:List PanicEntry}{a:Act}{w:World}{d:Option Nat}{v:Value}(h:Qk c r K (.panic b) (a.put d v) w):Qk c r K (.panic b) a w:=by
 obtain⟨n,x,s,e,f,F,γ,g,i,j,k,o,l⟩:=h;refine⟨n,x,⟨[],s.ah⟩,e,m _ _ f,F,γ,?_,?_,j,k,(fun t x h=>by cases h),l⟩
 ·cases d<;>simpa[Act.put]using g
 ·cases d<;>simpa[Act.put]using i
abbrev qC(c:dO)(ops:Array Oper)(Q:Exit→Act→World→Prop)(late:Nat→Bool)(g:G)(r:j8)(F:Nat→Prop)(γ:List Value)(s:St)(fuel:Nat)(b:Array Bool)(a:Act)(w:World):Prop:=
 nB c.P ops Q late g fuel (gp g r.E F γ s.ah w.heap) b a w
theorem xc(O:bB c.P c.tab){ops:Array Oper}{late:Nat→Bool}{g:G}(hg:(∀i,late i=true)∨g.strict=true){k:St→Prop}{K:XE→St→Prop}{j:Nat}{s:St}{F:Nat→Prop}{γ:List Value}{a:Act}{w:World}{R:(Nat→Prop)→Act→World→Prop}(ho:ops[j]? =some o)
  (h:Xl c ops (iJ ops late g [j]) s k (fun v s=>K (.dm v) s))(S:gu c r F γ s .undef undef a w)(H:∀F γ s a w,k s→gu c r F γ s .undef undef a w→R (gp g r.E F γ s.ah w.heap) a w):
  wpOp c.P ops (Qk c r K) j (fun E w'=>∃e,(late j=true∨(iG g (gp g r.E F γ s.ah w.heap) w.heap w'.heap∧∀q,gp g r.E F γ s.ah w.heap q→e q))∧R e E w') a w:=by
 simp only[iJ,ho]at h;unfold wpOp;simp only[ho];rcases tn (tp h) S with⟨y,T,m,l,b⟩|⟨y,T,m,l,b⟩
 ·rw[if_pos y];refine .inl (Oper.wp_mono (fun E w' ⟨I,D,z,n,d,u⟩=>⟨_,?_,H I D z _ _ n d⟩) (w9 O m b (fun U a w h=>h)));cases t:late j with
  |true=>exact .inl rfl
  |false=>
   rcases hg with hg|hg
   ·rw[hg j]at t;cases t
   ·rw[t,Bool.and_false]at u;rw[←l];exact .inr ⟨fun q f=>(u hg q f).1,fun q f=>(u hg q f).2⟩
 ·rw[if_neg (by rw[y];simp)];obtain⟨Q,p,M,P,N,_⟩:=b;obtain⟨z,n,J,d⟩:=nt (x:= .off) (v:=undef) m Q p M P N rfl;exact⟨_,.inr ⟨fun _ _=>.of rfl,fun q f=>by rw[J,l];exact f⟩,H F γ z _ _ n d⟩
theorem Ho(l:bB c.P c.tab){g:G}{s:St}{k:A→Prop}{F:Nat→Prop}{γ:List Value}{a:Act}{w:World}(hg:g.strict=true)(z:qp c.tab o.op=true)(i:ER F w.heap ⟨r.E.B,γ⟩ s.env a)(m:WR r.E F γ s.ah w.heap)
  (hm:g.mem o.op s=true)(h:Y1 c.tab s o.op k):∃v x,k x∧RA F w.heap ⟨r.E.B,γ⟩ x v∧∀w':World,(iO o.op=true∨iG g (gp g r.E F γ s.ah w.heap) w.heap w'.heap)→(execOp a.eval o).run c.P w'= .ok (.value v) w':=by
 cases j:iO o.op with
 |true=>
  obtain⟨v,x,d,e,f⟩:=qH l i m h;exact⟨v,x,d,e,fun w' _=>f w' (.inl j)⟩
 |false=>
  cases g with
  |any=>cases hg
  |grow=>
   obtain⟨v,x,d,e,f⟩:=qH l i m h;exact⟨v,x,d,e,fun w' n=>f w' (.inr (iG.cM (n.resolve_left (by simp))))⟩
  |fe p=>
   generalize q:o.op=E at hm h j;cases E with
   |load t x=>
    obtain⟨b,hb,D⟩:=KV (pl:=p) l i m q h hm;obtain⟨v,y,d,e,f⟩:=D;exact⟨v,y,d,e,fun w' n=>f w' (n.resolve_left (by simp) b hb)⟩
   |convert t u x=>cases hm
   |_=>cases j
theorem w8(hT:bB c.P c.tab){K:XE→St→Prop}(hK:th K){ops:Array Oper}{bits:Array Nat}{m:Bool}{g:G}(hg:(m||g.strict)=true)(E:∀i q,(bits.getD q 0).testBit i=true→iA ops i q)(S:Region.noSelect ops=true){k:St→Prop}{D:Array Bool→Bool}{fuel:Nat}
  (hk:∀(b:Array Bool) (F:Nat→Prop) (γ:List Value) (s:St) (a:Act) (w:World),Cl ops b→D b=true→k s→gu c r F γ s .undef undef a w→qC c ops (Qk c r K) (fo m ops bits) g r F γ s fuel b a w):
  ∀(ord:List Nat) (b:Array Bool) (F:Nat→Prop) (γ:List Value) (s:St) (a:Act) (w:World),Cl ops b→pj m c.tab ops ord b D=true→Xl c ops (iJ ops (fo m ops bits) g ord) s k (fun v s=>K (.dm v) s)→gu c r F γ s .undef undef a w→
   qC c ops (Qk c r K) (fo m ops bits) g r F γ s (fuel+ord.length) b a w:=by
 have ac:(∀i,fo m ops bits i=true)∨g.strict=true:=by
  rw[Bool.or_eq_true]at hg;exact hg.imp (fun h i=>by unfold fo;rw[h];rfl) id
 intro ord;induction ord with
 |nil=>
  intro b F γ s a w N U h W;exact hk b F γ s a w N U h W
 |cons i ord ih=>
  intro b F γ s a w N U h W;simp only[pj,Bool.and_eq_true]at U;obtain⟨d,O⟩:=U;cases z:ops[i]? with
  |none=>rw[z]at d;cases d
  |some o=>
   rw[z]at d;have h0:=h;simp only[iJ,z]at h;simp only[]at d;by_cases t:wI m c.tab o.op=true
   ·rw[t]at d;simp only[cond_true,Bool.and_eq_true]at d;obtain⟨I,p⟩:=d;have f:i∈Region.ready .any ops b:=by simpa using p
    have e:=t;unfold wI at e;rw[Bool.and_eq_true,Bool.or_eq_true,Bool.not_eq_true']at e
    have aV:∃v,YieldsIf c.P ops (fun l=>iO o.op=true∨iG g (gp g r.E F γ s.ah w.heap) w.heap l.heap) o v a∧∃u,u.ah=s.ah∧Xl c ops (iJ ops (fo m ops bits) g ord) u k (fun v s=>K (.dm v) s)∧gu c r F γ u .undef undef (a.put o.dst v) w:=by
     rcases tn (tp h) W with⟨hw,s1,h1,T,hn,H,hA,M,J,_⟩|⟨hw,s1,h1,T,hn,H,hA,M,J,_⟩
     ·suffices hh:∃v x,iS c.n s1 o.dst x (fun s=>Xl c ops (iJ ops (fo m ops bits) g ord) s k (fun v s=>K (.dm v) s))∧RA F w.heap ⟨r.E.B,γ⟩ x v∧∀l:World,(iO o.op=true∨iG g (gp g r.E F γ s.ah w.heap) w.heap l.heap)→(execOp a.eval o).run c.P l= .ok (.value v) l by
       obtain⟨v,x,al,hx,Q⟩:=hh;obtain⟨u,g1,Z,g2⟩:=nt al hn H hA M J hx;exact⟨v,.inl ⟨hw,fun l h=>Q l h⟩,u,by rw[Z,T],g1,g2⟩
      obtain⟨P,Y⟩:=CN e.1 h1;cases y:iO o.op with
      |true=>
       obtain⟨v,x,q1,q2,q3⟩:=qH hT J M Y;exact⟨v,x,q1,q2,fun l _=>q3 l (.inl y)⟩
      |false=>
       have am:m=false:=e.2.resolve_right (by rw[y];simp);have ad:g.strict=true:=by rw[am]at hg;exact hg
       rw[y,Bool.false_and,cond_false]at P;have:=Ho (r:=r) hT ad e.1 J M P Y;rw[y,T]at this;exact this
     ·obtain⟨u,g1,Z,g2⟩:=nt (x:= .off) (v:=undef) h1 hn H hA M J rfl;exact⟨undef,.inr ⟨hw,rfl⟩,u,by rw[Z,T],g1,g2⟩
    obtain⟨v,Y,u,e',h',ap⟩:=aV;refine Kx (w0:=w) (D:=gp g r.E F γ s.ah w.heap) (n:=iO o.op=true) (v:=v) (g:=g) z (Region.noSelect_spec S) (fun ch a w h=>CJ hK h) ?_ _ _ b a w N (Region.free_spec z I) f Y (.inr ⟨fun _ _=>.of rfl,fun _ h=>h⟩) (by have:=ih _ F γ u _ _ (N.step f) O h' ap;unfold qC at this;rw[e']at this;exact this);by_cases y:iO o.op=true
    ·exact .inl y
    ·have hm:m=false:=e.2.resolve_right y;subst hm;exact .inr (GK E z (by simp[bw,y]))
   ·rw[Bool.not_eq_true]at t;rw[t]at d;simp only[cond_false]at d;have p:Region.ready .any ops b=[i]:=by simpa using d
    have f:i∈Region.ready .any ops b:=by rw[p];simp
    refine⟨fun h0=>(by rw[p]at h0;cases h0),fun j hj=>?_⟩;rw[p]at hj;obtain rfl:j=i:=by simpa using hj
    refine xc (late:=fo m ops bits) (g:=g) (k:=fun s=>Xl c ops (iJ ops (fo m ops bits) g ord) s k (fun v s=>K (.dm v) s)) (R:=fun Pr a' l=>nB c.P ops (Qk c r K) (fo m ops bits) g (fuel+ord.length) Pr (b.setIfInBounds j true) a' l) hT ac z ?_ W (fun F2 a0 s2 a' l h2 aL=>ih _ F2 a0 s2 _ _ (N.step f) O h2 aL);simp only[iJ,z];exact h
theorem CL(N:bB c.P c.tab){K:XE→St→Prop}(W:th K){ops:Array Oper}{bits:Array Nat}{m:Bool}{g:G}(hg:(m||g.strict)=true)(e:∀i q,(bits.getD q 0).testBit i=true→iA ops i q)(p:Region.noSelect ops=true){k:St→Prop}(hk:∀s,k s→K .normal s):
  ∀(t:DT) (n:Nat) (b:Array Bool) (F:Nat→Prop) (γ:List Value) (s:St) (a:Act) (w:World),rW t n=true→Cl ops b→uu m c.tab ops t b=true→XT c ops (fo m ops bits) g k (fun v s=>K (.dm v) s) t s→gu c r F γ s .undef undef a w→
   qC c ops (Qk c r K) (fo m ops bits) g r F γ s n b a w:=by
 have P:(∀i,fo m ops bits i=true)∨g.strict=true:=by
  rw[Bool.or_eq_true]at hg;exact hg.imp (fun h i=>by unfold fo;rw[h];rfl) id
 intro t;induction t with
 |l d=>
  intro n b F γ s a w H E O h z;obtain rfl:=Nat.eq_of_beq_eq_true H;have:=w8 (r:=r) (K:=K) (D:=fun b=>(Region.ready .any ops b).isEmpty) (fuel:=0) N W hg e p (fun b F γ s a w _ I y z=>⟨by simpa using I,s,hk s y,F,γ,z⟩) d b F γ s a w E O h z;rw[Nat.zero_add]at this;exact this
 |alt d js f ih=>
  intro n b F γ s a w H E O h z;simp only[rW,Bool.and_eq_true]at H;have ac:=Nat.le_of_ble_eq_true H.1;have:=w8 (r:=r) (K:=K) (fuel:=n-(d.length+1)+1) N W hg e p (fun b F γ s a w E I y z=>?_) d b F γ s a w E O h z
  ·rw[show n-(d.length+1)+1+d.length=n by omega]at this;exact this
  ·rw[Bool.and_eq_true,Bool.and_eq_true,beq_iff_eq]at I;obtain⟨⟨J,u⟩,M⟩:=I;refine⟨fun h0=>?_,fun j Q=>?_⟩
   ·rw[h0]at u;subst u;cases J
   ·have x:j∈js:=by rw[←u];exact Q
    obtain⟨_,o,ho,_⟩:=mem_ready.1 Q;refine xc (g:=g) (R:=fun Pr U Y=>nB c.P ops (Qk c r K) (fo m ops bits) g (n-(d.length+1)) Pr (b.setIfInBounds j true) U Y) N P ho (nC.get y j x) z (fun Z T s2 U Y h2 S=>?_);exact ih j _ _ Z T s2 _ _ (List.all_eq_true.1 H.2 j x) (E.step Q) (List.all_eq_true.1 M j x) h2 S
theorem yF(N:bB c.P c.tab)(hm:c.P.follows .mixedOrders=true){id:Nat}{ops:Array Oper}{m:Bool}{g:G}{t:DT}{K:XE→St→Prop}(hd:ur m g c.tab ops t=true){s:St}{a:Act}{w:World}
  (h:XT c ops (fo m ops (nM ops.toList #[])) g (K .normal) (fun v s=>K (.dm v) ⟨[],s.ah⟩) t s)(R:SR c r s .undef undef a w):(Code.region id ops true).wp c.P (Qk c r K) a w:=by
 refine Code.wp_mono (Q:=Qk c r (nE K)) (fun e a w f=>?_) ?_
 ·cases e with
  |panic T=>obtain⟨v,x,s,l,n,F,γ,p,E,H,I,U,J⟩:=f;exact⟨v,x,⟨[],s.ah⟩,l,n,F,γ,p,E,H,I,(fun t x h=>by cases h),J⟩
  |_=>exact f
 simp only[ur,Bool.and_eq_true]at hd;obtain⟨⟨⟨D,l⟩,n⟩,p⟩:=hd;obtain⟨F,γ,P,u,d,O,M,S⟩:=R;refine wp_region_any hm (Cr (late:=fo m ops (nM ops.toList #[])) (g:=g) _ (gp g r.E F γ s.ah w.heap) _ _ _ ?_);have z:gu c r F γ s .undef undef a {w with drawn:=w.drawn+1}:=⟨P,u,⟨d.os,d.tape,d.output,fun h=>Nat.le_succ_of_le (d.drawn h)⟩,O,M,S⟩;refine CL N (K:=nE K) (fun _ _ h=>h) D (xN _ _ (fun q o f=>by simpa using f) (fun i q h=>by simp at h)) n (fun s h=>h) t _ _ F γ s a _ l (fun j Y W b=>?_) p h z;exfalso;simp only[Array.getD_eq_getD_getElem?]at b;rcases Nat.lt_or_ge j ops.size with y|hge
 ·rw[Array.getElem?_eq_getElem (by simpa using y)]at b;simp at b
 ·rw[Array.getElem?_eq_none (by simpa using hge)]at b;simp at b
end
end Go.AM
end
section
namespace Go.AM
open Go Go.NB
def ln:Nat→List Rn→Nat→Bool
 |_,_,0=>true
 |i,.same j::r,n+1=>Nat.beq i j&&ln (i+1) r n
 |_,_,_=>false
theorem uU:∀{n i:Nat} {ρ:List Rn},ln i ρ n=true→∀q,q<n→ρ[q]? =some (.same (i+q))
 |0,_,_,_,q,h=>by omega
 |n+1,i,.same j::r,h,q,a=>by
  simp only[ln,Bool.and_eq_true]at h;obtain rfl:=Nat.eq_of_beq_eq_true h.1;cases q with
  |zero=>rfl
  |succ q=>
   have:=uU h.2 q (by omega);rw[List.getElem?_cons_succ,this];congr 2
   omega
 |n+1,i,[],h,_,_=>by cases h
 |n+1,i,.new::_,h,_,_=>by cases h
 |n+1,i,.cut .. ::_,h,_,_=>by cases h
def mE(ah:List B)(ρ:List Rn)(a:List (Nat×A)):List (Nat×A)→Prop
 |[]=>True
 | (t, x) :: r => (match lk a t with
  |some b=>mA (fun _=>false) ah ρ b x
  |none=>match x with
   | .undef=>True
   |_=>False)∧mE ah ρ a r
def le(n0:Nat)(js:List Nat)(ρ:List Rn)(s t:St):Prop:=
 bif ln 0 ρ n0&&eS (da ρ t.ah)then mE (bg js s.ah) ρ s.env t.env∧lC (fun _=>false) (bg js s.ah) ρ ρ t.ah else False
def LE(n0:Nat)(s t:St):Prop:=∃a ρ,le n0 a ρ s t
def lex(n0:Nat)(js:List Nat)(ρ:List Rn)(ah:List B)(a x:A)(tah:List B):Prop:=
 bif ln 0 ρ n0&&eS (da ρ tah)then mA (fun _=>false) (bg js ah) ρ a x∧lC (fun _=>false) (bg js ah) ρ ρ tah else False
def Cy{ι:Type}(n0:Nat)(I:ι→St)(inv:ι→Prop)(m:ι→Nat)(lt:Nat)(s:St):Prop:=∃y,(inv y∧m y<lt)∧LE n0 s (I y)
abbrev Mn:Type 1:=St→(XE→St→Prop)→Prop
def Ct:Mn:=fun s K=>K .normal s
def KH:Mn:=fun s K=>K .ret s
def KE(id:Nat):Mn:=fun s K=>K (.exit id) s
def s7:Mn:=fun _ _=>False
def KJ(x y:Mn):Mn:=fun s K=>x s fun e a=>match e with
  | .normal=>y a K
  |e=>K e a
def KD(id:Nat)(b:Mn):Mn:=fun s K=>b s fun e a=>match e with
  | .exit i=>bif Nat.beq i id then K .normal a else K (.exit i) a
  |e=>K e a
def wY(x:Operand)(a b:Mn):Mn:=fun s K=>match aU s x with
  | .c (.bool q)=> @Bool.rec (fun _=>Prop) (b s K) (a s K) q
  |_=>False
def KF(n0:Nat)(b:Mn):Mn:=fun s K=>∃(a:Type) (I:a→St) (inv:a→Prop) (m:a→Nat),(∃y,inv y∧LE n0 s (I y))∧∀x,inv x→b (I x) fun e c=>match e with
  | .normal=>Cy n0 I inv m (m x) c
  |e=>K e c
def KG(c:dO)(ops:Array Oper)(draw:Bool):Mn:=fun s K=>bif draw then∃m g t,ur m g c.tab ops t=true∧(XT c ops (fo m ops (nM ops.toList #[])) g (K .normal) (fun v s=>K (.dm v) ⟨[],s.ah⟩) t s∨∃(a:Type) (I:a→St) (J:a→Prop),XT c ops (fo m ops (nM ops.toList #[])) g (fun b=>∃i,J i∧LE c.n0 b (I i)) (fun v s=>K (.dm v) ⟨[],s.ah⟩) t s∧∀i,J i→K .normal (I i))
   else Xl c ops (ops.toList.map fun o=>(G.any,o)) s (K .normal) (fun v s=>K (.dm v) s)
def X(c:dO)(code:Code):Mn:=
 Code.rec (motive:=fun _=>Mn) Ct (fun _ ops draw=>KG c ops draw) (fun _ _ x y=>KJ x y) (fun x _ _ a b=>wY x a b) (fun id _ b=>KD id b) (fun _ b=>KF c.n0 b)
  (fun _ _ _ _ _ _=>s7) KE (fun _ _=>s7) (fun _=>Ct) (fun _=>s7) KH (fun _=>s7) code
section
variable {c:dO} {r:j8}
theorem AA{E:En}{F:Nat→Prop}{γ:List Value}{ah:List B}{H:af}{ρ:List Rn}{b:List (Nat×A)}{a:Act}(j:∀f x v,mA (fun _=>false) ah ρ f x→RA F H ⟨E.B,γ⟩ f v→RA F H ⟨E.B,ρ.map (bS γ)⟩ x v)(i:ER F H ⟨E.B,γ⟩ b a):
  ∀{env:List (Nat×A)},mE ah ρ b env→ER F H ⟨E.B,ρ.map (bS γ)⟩ env a
 |[],_=>fun t x h=>by cases h
 |(t,x)::n,⟨d,l⟩=>fun k m c=>by
  unfold lk at c;by_cases e:Nat.beq t k=true
  ·rw[e]at c;cases c;obtain rfl:=Nat.eq_of_beq_eq_true e;split at d
   ·rename_i f g;exact j _ _ _ d (i t f g)
   ·split at d
    ·trivial
    ·exact d.elim
  ·rw[Bool.not_eq_true]at e;rw[e]at c;exact AA j i l k m c
theorem vz{E:En}{F:Nat→Prop}{γ:List Value}{ah:List B}{H:af}{js:List Nat}{ρ:List Rn}{f x:A}{tah:List B}{v:Value}(hn:E.γ0.length=c.n0)(o:WR E F γ ah H)(q:RA F H ⟨E.B,γ⟩ f v)(h:lex c.n0 js ρ ah f x tah):
  ∃F' γ',WR E F' γ' tah H∧RA F' H ⟨E.B,γ'⟩ x v:=by
 obtain⟨e,m,n⟩:=b8 h;rw[Bool.and_eq_true]at e;obtain⟨k,d,a⟩:=px (js:=js) o;have hid:=uU e.1;obtain⟨l,_⟩:=weaken a n e.2 (fun i p=>by have:=hid i (by rw[←hn];exact p);rw[Nat.zero_add]at this;exact this);exact⟨k,_,l,vE a (fun _ h=>h) (fun j b g h=>by cases h) m (q.ext (l6 d))⟩
theorem oX(hn:r.E.γ0.length=c.n0){s t:St}{a:Act}{w:World}(h:LE c.n0 s t)(H:SR c r s .undef undef a w):SR c r t .undef undef a w:=by
 obtain⟨k,ρ,h⟩:=h;obtain⟨F,γ,p,q,u,z,y,_⟩:=H;obtain⟨f,m,n⟩:=b8 h;rw[Bool.and_eq_true]at f;obtain⟨l,e,d⟩:=px (js:=k) z;have hid:=uU f.1;obtain⟨o,_⟩:=weaken d n f.2 (fun i D=>by have:=hid i (by rw[←hn];exact D);rw[Nat.zero_add]at this;exact this);exact⟨l,_,p,q,u,o,AA (fun I x v h E=>vE d (fun _ h=>h) (fun j b g h=>by cases h) h E) (y.ext (l6 e)) m,trivial⟩
theorem tm(Z:bB c.P c.tab)(hm:c.P.follows .mixedOrders=true)(hn:r.E.γ0.length=c.n0):∀(code:Code) (s:St) (K:XE→St→Prop) (a:Act) (w:World),X c code s K→SR c r s .undef undef a w→code.wp c.P (Qk c r K) a w:=by
 intro code;induction code with
 |skip=>intro s K a w h d;exact wp_skip ⟨s,h,d⟩
 |label l=>intro s K a w h d;exact wp_label ⟨s,h,d⟩
 |exit id=>intro s K a w h d;exact wp_exit ⟨s,h,d⟩
 |ret=>intro s K a w h d;exact wp_ret ⟨s,h,d⟩
 |seq x y aL E=>
  intro s K a w h d;refine wp_seq (Code.wp_mono (fun e a w f=>?_) (aL s _ a w h d));cases e with
  |normal=>obtain⟨H,u,j⟩:=f;exact E H K a w u j
  |exit id=>exact f
  |goto l=>exact f
  |ret=>exact f
  |panic M=>exact f
  |outgrown=>exact f
 |block id b ih=>
  intro s K a w h d;refine wp_block (Code.wp_mono (fun e a w f=>?_) (ih s _ a w h d));cases e with
  |normal=>exact f
  |exit i=>
   obtain⟨H,u,j⟩:=f;show(if i=id then Qk c r K .normal a w else Qk c r K (.exit i) a w);rcases jz u with⟨e,u⟩|⟨e,u⟩
   ·rw[if_pos (Nat.eq_of_beq_eq_true e)];exact⟨H,u,j⟩
   ·rw[if_neg (fun h=>by subst h;simp at e)];exact⟨H,u,j⟩
  |goto l=>exact f
  |ret=>exact f
  |panic M=>exact f
  |outgrown=>exact f
 |cond x y z E aV=>
  intro s K a w h d;have h:wY x (X c y) (X c z) s K:=h;unfold wY at h;split at h
  ·rename_i q hx;have j:=d;obtain⟨F,γ,Y,R,h3,hW,hE,_⟩:=j;have hc:=a8 hE hx;generalize hv:a.eval x=v at hc;cases hc with
   |bool _=>
    refine wp_cond_split hv (fun hb=>?_) (fun hb=>?_)
    ·subst hb;exact E s K a w h d
    ·subst hb;exact aV s K a w h d
  ·exact h.elim
 |loop n ih=>
  intro s K a w h d;obtain⟨ι,I,inv,m,⟨y0,ad,N⟩,t⟩:=h;intro b k U
  have a0:∀(q:Nat) (y:ι) (a:Act) (w:World),m y=q→inv y→SR c r (I y) .undef undef a w→
    ∃e O S,Qk c r K e O S∧Arrives c.P (lone (b.at a (.code n:: .inLoop n::k)) U w) b k U e O S:=by
   intro q;induction q using Nat.strongRecOn with
   |_ q ap=>
    intro y a w f hi d;obtain⟨ex,P,T,p,o⟩:=ih (I y) _ a w (t y hi) d b (.inLoop n::k) U;cases ex with
    |normal=>
     obtain⟨H,⟨y',⟨ac,a3⟩,al⟩,j⟩:=p;obtain⟨W,a2,w2,am,D⟩:=ap (m y') (by omega) y' P T rfl ac (oX hn al j);exact⟨W,a2,w2,am,.of_steps (Steps.trans o (.one step_inLoop)) D⟩
    |exit id=>exact⟨.exit id,P,T,p,.pass (x:= .inLoop n) rfl (fun _ _=>.inl (by simp)) o⟩
    |goto l=>exact p.elim
    |ret=>exact⟨.ret,P,T,p,.pass (x:= .inLoop n) rfl (fun _ _=>.inl (by simp)) o⟩
    |panic M=>exact⟨.panic M,P,T,p,.pass (x:= .inLoop n) rfl (fun _ _=>.inl (by simp)) o⟩
    |outgrown=>exact p.elim
  obtain⟨e,O,S,f,o⟩:=a0 _ y0 a w rfl ad (oX hn N d);exact⟨e,O,S,f,.of_steps (.one step_loop) o⟩
 |region id ops draw=>
  intro s K a w h d;cases draw with
  |true=>
   obtain⟨m,g,a4,Y,R|⟨ι,I,J,R,h3⟩⟩:=h
   ·exact yF Z hm Y R d
   ·refine Code.wp_mono (fun e a w f=>?_) (yF (K:=fun e s=>match e with| .normal=>∃i,J i∧LE c.n0 s (I i)|e=>K e s) Z hm Y R d);cases e with
    |normal=>obtain⟨H,⟨i,hi,hl⟩,j⟩:=f;exact⟨I i,h3 i hi,oX hn hl j⟩
    |exit id=>exact f
    |goto l=>exact f
    |ret=>exact f
    |panic M=>exact f
    |outgrown=>exact f
  |false=>
   have:=CM Z (ops:=ops) (Q:=Qk c r K) (fun s a w hk d=>⟨s,hk,d⟩) (fun M a w h=>h) ops.toList s a w h d;have e:ops=ops.toList.toArray:=by simp
   rw[e];rw[e]at this;exact wp_region_lit (by simpa using this)
 |_=>intro s K a w h d;exact h.elim
structure XM(c:dO)(code:Code)(s:St)(K:XE→St→Prop):Prop where
 ok:bB c.P c.tab→c.P.follows .mixedOrders=true→∀r:j8,r.E.γ0.length=c.n0→∀(a:Act) (w:World),SR c r s .undef undef a w→code.wp c.P (Qk c r K) a w
theorem XM.of{c:dO}{code:Code}{s:St}{K:XE→St→Prop}(h:X c code s K):XM c code s K:=⟨fun b d r e a w f=>tm b d e code s K a w h f⟩
theorem XM.le{c:dO}{code:Code}{s t:St}{K:XE→St→Prop}(js:List Nat)(ρ:List Rn)(hl:AM.le c.n0 js ρ s t)(h:XM c code t K):XM c code s K:=
 ⟨fun d e r b a w f=>h.ok d e r b a w (oX b ⟨js,ρ,hl⟩ f)⟩
theorem XM.seq {c : dO} {x y : Code} {s : St} {K : XE → St → Prop} (h : X c x s fun e f => match e with | .normal => XM c y f K | e => K e f) : XM c (.seq x y) s K := ⟨fun g i r j a w m=>by
 refine wp_seq (Code.wp_mono (fun e a w b=>?_) (tm g i j x s _ a w h m));cases e with
 |normal=>obtain⟨f,k,d⟩:=b;exact k.ok g i r j a w d
 |exit id=>exact b
 |goto l=>exact b
 |ret=>exact b
 |panic n=>exact b
 |outgrown=>exact b⟩
theorem XM.join{c:dO}{x y:Code}{s:St}{K:XE→St→Prop}{ι:Type}(I:ι→St)(J:ι→Prop)(h:X c x s fun e g=>match e with| .normal=>∃i,J i∧LE c.n0 g (I i)|e=>K e g)
  (h2 : ∀ i, J i → XM c y (I i) K) : XM c (.seq x y) s K := ⟨fun j k r d a w o=>by
 refine wp_seq (Code.wp_mono (fun e a w b=>?_) (tm j k d x s _ a w h o));cases e with
 |normal=>obtain⟨g,⟨i,m,n⟩,f⟩:=b;exact(h2 i m).ok j k r d a w (oX d n f)
 |exit id=>exact b
 |goto l=>exact b
 |ret=>exact b
 |panic p=>exact b
 |outgrown=>exact b⟩
def wg(d:TD)(cs:List C):Option A:=bif Nat.ble d.size cs.length then(bif d.agg then some (.st (cs.take d.size))else match cs with|x::_=>some (.c x)|[]=>none)else none
def oO(tab:Nat→Option TD)(s:St):List ResultVar→Option (List A)
 |[]=>some []
 | .tmp t::r=>(oO tab s r).map ((lk s.env t).getD .undef:: ·)
 | .cell x t::r=>match lk s.env x,tab t with
  |some (.c (.ptr j o)),some d=>match s.ah[j]? with
   |some (.box a _)=>match wg d (a.drop o),oO tab s r with
    |some y,some b=>some (y::b)
    |_,_=>none
   |_=>none
  |_,_=>none
def comp:A→Option (Bool×List C)
 | .c x=>some (false,[x])
 | .st a=>some (true,a)
 |_=>none
def pf:List A→Option (List (Bool×List C))
 |[]=>some []
 |x::r=>match comp x,pf r with
  |some y,some a=>some (y::a)
  |_,_=>none
def BA:List A→Option A
 |[x]=>some x
 |xs=>(pf xs).map .aL
def oY(c:dO)(fn:Func)(Q:Out→List B→Prop)(s:St):Prop:=match oO c.tab s fn.results.toList with
 |some d=>match BA d with
  |some a=>uI a fun a=>je s.ah fun ah=>∃b ρ x tah,lex c.n0 b ρ ah a x tah∧(fF x&&tah.all fR)=true∧Q (.ret x) tah
  |none=>False
 |none=>False
def CF(c:dO)(Q:Out→List B→Prop)(b:A)(s:St):Prop:=∃a ρ x tah,lex c.n0 a ρ s.ah b x tah∧(fF x&&tah.all fR)=true∧Q (.dm x) tah
def Kf(c:dO)(fn:Func)(Q:Out→List B→Prop):XE→St→Prop
 | .normal,s=>oY c fn Q s
 | .ret,s=>oY c fn Q s
 | .dm x,s=>CF c Q x s
 | .exit _,_=>False
def nK:Nat→List A→List (Nat×A)
 |_,[]=>[]
 |i,x::r=>(i,x)::nK (i+1) r
theorem yq{F:Nat→Prop}{H:af}{m:Md}:∀{xs:List A} {ts:List (Bool×List C)} {vs:List Value},pf xs=some ts→eA F H m xs vs→RT F H m ts vs
 |[],ts,[],h,_=>by cases h;trivial
 |x::xs,ts,v::vs,h,⟨d,e⟩=>by
  unfold pf at h;split at h
  ·rename_i y j a b;cases h;have:=yq b e;cases x with
   |c z=>cases a;exact⟨⟨[v],d,rfl,fun _=>rfl⟩,this⟩
   |st i=>cases a;obtain⟨g,rfl,f⟩:=d;exact⟨⟨g,f,rfl,fun h=>by cases h⟩,this⟩
   |_=>cases a
  ·cases h
theorem IL{P:Program}{tab:Nat→Option TD}{F:Nat→Prop}{w:World}{m:Md}(i:bB P tab){t:Nat}{d:TD}(k:tab t=some d){cs:List C}{vs:List Value}{b off:Nat}(hr:RL F w.heap m cs vs)
  (hc:∀j u,vs[j]? =some u→cell w.heap b (off+j)=some u){x:A}(h:wg d cs=some x):∃v,RA F w.heap m x v∧(loadVar t ⟨b,off,none⟩).run P w= .ok v w:=by
 unfold wg at h;have o:=hr.length;by_cases a:Nat.ble d.size cs.length=true
 ·rw[a,cond_true]at h;have a:=Nat.le_of_ble_eq_true a;have c:=i.agg t d k w;cases f:d.agg with
  |true=>
   rw[f,cond_true]at h;cases h;refine⟨_,⟨_,rfl,hr.take _⟩,?_⟩;have e:(vs.take d.size).length=d.size:=by rw[List.length_take];omega
   have := run_loadCells_list (P := P) (w := w) ⟨b, off, none⟩ (vs.take d.size) (fun j v g=>by
    rw[Addr.add_lit,dY rfl];rw[List.getElem?_take]at g;split at g
    ·exact hc j v g
    ·cases g)
   rw[e]at this;rw[f]at c;simp[loadVar,c,i.size k w,this]
  |false=>
   rw[f,cond_false]at h;split at h
   ·cases h;obtain⟨v,p,rfl,l,n⟩:=hr.jZ;refine⟨v,l,?_⟩;rw[f]at c;have:=hc 0 v rfl;rw[Nat.add_zero]at this;simp[loadVar,c,dY rfl,this]
   ·cases h
 ·rw[Bool.not_eq_true]at a;rw[a]at h;cases h
def qe(b:Array Value):ResultVar→Sem Value
 | .tmp t=>pure (b.getD t undef)
 | .cell a t=>do loadVar t (←asAddr (b.getD a undef))
theorem I0 (fn : Func) (a : Array Value) : results fn a = (do
  let vs←fn.results.mapM (qe a)
  pure (if h:vs.size=1 then vs[0]else .tuple vs)):=by
 unfold results;congr 1
theorem wo(i:bB c.P c.tab){F:Nat→Prop}{γ:List Value}{s:St}{a:Act}{w:World}{E:En}(k:WR E F γ s.ah w.heap)(b:ER F w.heap ⟨E.B,γ⟩ s.env a):∀{l:List ResultVar} {xs:List A},oO c.tab s l=some xs→
  ∃vs,eA F w.heap ⟨E.B,γ⟩ xs vs∧(l.mapM (qe a.tmps)).run c.P w= .ok vs w
 |[],xs,h=>by cases h;exact⟨[],trivial,by simp⟩
 | .tmp t::l,xs,h=>by
  simp only[oO,Option.map_eq_some_iff]at h;obtain⟨O,p,rfl⟩:=h;obtain⟨vs,f,g⟩:=wo i k b p;refine⟨a.tmps.getD t undef::vs,⟨?_,f⟩,by simp[List.mapM_cons,g,qe]⟩;cases I:lk s.env t with
  |none=>trivial
  |some x=>exact b t x I
 | .cell x t::l,xs,h=>by
  simp only[oO]at h;split at h
  ·rename_i _ _ j o d M J;split at h
   ·rename_i P hb;split at h
    ·rename_i y O N m;cases h;obtain⟨vs,f,g⟩:=wo i k b m;have n:=b x _ M;generalize K:a.tmps.getD x undef=v at n;cases n with
     |ptr H _=>
      obtain⟨Q,R,e,q,r⟩:=qU (o:=o) (k.br j _ _ hb H);cases e;obtain⟨u,z,D⟩:=IL i J q r N;exact⟨u::vs,⟨z,f⟩,by simp[List.mapM_cons,g,qe,K,asAddr,D]⟩
    ·cases h
   ·cases h
  ·cases h
theorem tj{F:Nat→Prop}{H:af}{m:Md}:∀{xs:List A} {vs:List Value},eA F H m xs vs→xs.length=vs.length
 |[],[],_=>rfl
 |_::_,_::_,⟨_,h⟩=>by simp[tj h]
theorem xu{F:Nat→Prop}{H:af}{m:Md}{a:Act}:∀{xs:List A} {vs:List Value} {i:Nat},eA F H m xs vs→(∀q v,vs[q]? =some v→a.tmps.getD (i+q) undef=v)→ER F H m (nK i xs) a
 |[],[],i,_,_=>fun t x h=>by cases h
 |x::xs,v::vs,i,⟨d,f⟩,c=>fun t y b=>by
  unfold nK lk at b;by_cases e:Nat.beq i t=true
  ·rw[e]at b;cases b;obtain rfl:=Nat.eq_of_beq_eq_true e;have:=c 0 v rfl;rw[Nat.add_zero]at this;rw[this];exact d
  ·rw[Bool.not_eq_true]at e;rw[e]at b;exact xu f (fun q u g=>by have:=c (q+1) u (by simpa using g);rw[show i+1+q=i+(q+1)by omega];exact this) t y b
def tK:C→Prop
 | .str l=>l.length≤9223372036854775807
 | .ls _ _ _ l=>l.length≤9223372036854775807
 | .bs _ _ _ l=>l.length≤9223372036854775807
 |_=>True
def qT:List C→Prop
 |[]=>True
 |c::a=>tK c∧qT a
def Dr:A→Prop
 | .c x=>tK x
 | .st a=>qT a
 |_=>True
def o7:List A→Prop
 |[]=>True
 |a::r=>Dr a∧o7 r
def kV:List B→Prop
 |[]=>True
 | .box a _::r=>qT a∧kV r
 | .row _ _ _ l::r=>l.length≤9223372036854775807∧kV r
 | .aV _ _ _ l::r=>l.length≤9223372036854775807∧kV r
 | .buf _ _ _ _ l::r=>l.length≤9223372036854775807∧kV r
 | .dead::r=>kV r
theorem SV.Ai{F:Nat→Prop}{H:af}{L:LS}{v:Value}(h:SV F H L v):L.l.length≤9223372036854775807:=by
 rcases h with⟨p,e,d⟩|⟨b,f,cap,c,e,g,a,_⟩
 ·rw[d];simp
 ·have a:cap≤9223372036854775807:=a;omega
theorem xR{F:Nat→Prop}{H:af}{m:Md}{x:C}{v:Value}(h:RL F H m [x] [v]):tK x:=by
 cases h with
 |str h _=>exact h
 |cG _=>exact Nat.zero_le _
 |eC _=>exact Nat.zero_le _
 |ls _ a b _ _ _ _=>exact Nat.le_trans a b
 |bs _ a b _ _ _ _=>exact Nat.le_trans a b
 |_=>trivial
theorem tM{F:Nat→Prop}{H:af}{m:Md}:∀{cs:List C} {vs:List Value},RL F H m cs vs→qT cs
 |[],_,_=>trivial
 |c::cs,vs,h=>by
  obtain⟨v,d,rfl,a,b⟩:=h.jZ;exact⟨xR a,tM b⟩
theorem xP{F:Nat→Prop}{H:af}{m:Md}:∀{as:List A} {vs:List Value},eA F H m as vs→o7 as
 |[],_,_=>trivial
 |a::as,[],h=>h.elim
 |a::as,v::vs,⟨b,d⟩=>by
  refine⟨?_,xP d⟩;cases a with
  |c x=>exact xR b
  |st e=>obtain⟨f,_,h⟩:=b;exact tM h
  |_=>trivial
theorem xQ{F:Nat→Prop}{H:af}{m:Md}:∀{ah:List B} {γ:List Value},ah.length=γ.length→(∀(j:Nat) (b:B) (g:Value),ah[j]? =some b→γ[j]? =some g→BR F H m b g)→kV ah
 |[],_,_,_=>trivial
 |b::r,[],h,_=>by cases h
 |b::r,g::γ,o,h=>by
  have hb:=h 0 b g rfl rfl;have c:=xQ (ah:=r) (γ:=γ) (by simpa using o) (fun(j:Nat) (b:B) (g:Value) n f=>h (j+1) b g (by simpa using n) (by simpa using f));cases b with
  |box p q=>obtain⟨k,e,s,_,_,i⟩:=hb;exact⟨tM i,c⟩
  |row d α a l=>exact⟨(lH hb (L:=⟨d,α,a,l⟩) rfl).Ai,c⟩
  |aV d α a l=>exact⟨(lH hb (L:=⟨d,α,a,l⟩) rfl).Ai,c⟩
  |buf t d α a l=>
   refine⟨?_,c⟩;rcases hb with⟨_,_,h⟩|⟨_,_,_,_,_,_,f,i,_⟩
   ·rw[h];simp
   ·exact Nat.le_trans f i
  |dead=>exact c
theorem I1(M:bB c.P c.tab){fn:Func}{Q:Out→List B→Prop}{F L:Nat→Prop}{γ:List Value}{ah:List B}{H:af}(r:(en F L γ ah H).γ0.length=c.n0){s:St}{a:Act}{w':World}{l:Nat→Prop}{e:List Value}(hr:oY c fn Q s)(f:WR (en F L γ ah H) l e s.ah w'.heap)(p:ER l w'.heap ⟨L,e⟩ s.env a):
  ∃v,(results fn a.tmps).run c.P w'= .ok v w'∧oW F L γ ah H Q true v w'.heap:=by
 unfold oY at hr;split at hr
 ·rename_i N y;split at hr
  ·rename_i D b;obtain⟨O,ρ,x,tah,q,d,K⟩:=l5 (za hr);obtain⟨k,m,I⟩:=wo M f p y
   have h:∃v,(results fn a.tmps).run c.P w'= .ok v w'∧RA l w'.heap ⟨L,e⟩ D v:=by
    have i:(fn.results.mapM (qe a.tmps)).run c.P w'= .ok k.toArray w':=by
     rw[Array.mapM_eq_mapM_toList];simp[I]
    have g:=tj m;rw[I0];simp only[Sem.run_bind,i,Result.andThen_ok];by_cases n:k.length=1
    ·obtain⟨u,rfl⟩:=List.length_eq_one_iff.1 n;obtain⟨R,rfl⟩:=List.length_eq_one_iff.1 (g.trans n);cases b;exact⟨u,rfl,m.1⟩
    ·refine⟨.tuple k.toArray,?_,?_⟩
     ·rw[dif_neg (by simpa using n)];rfl
     ·have j:(pf N).map A.aL=some D:=by
       unfold BA at b;split at b
       ·simp at g;omega
       ·exact b
      obtain⟨P,o,rfl⟩:=Option.map_eq_some_iff.1 j;exact⟨k,rfl,yq o m⟩
   obtain⟨v,t,w⟩:=h;obtain⟨E,z,o,J⟩:=vz r f w q;rw[Bool.and_eq_true]at d;exact⟨v,t,_,tah,E,z,K,d.1,d.2,rfl,J,o⟩
  ·exact hr.elim
 ·exact hr.elim
theorem w7(c:dO)(N:bB c.P c.tab)(hm:c.P.follows .mixedOrders=true){f:FuncId}{fn:Func}{code:Code}{args:List A}{ah:List B}{Q:Out→List B→Prop}(m:∀args w,(callFunc f args).run c.P w= .ok (.enter f args) w)
  (W:c.P.funcs[f]? =some fn)(hb:fn.body=some code)(hn:fn.ntmps=c.n)(hl:Nat.ble args.length c.n=true)(J:ah.length=c.n0)(h:o7 args∧kV ah→XM c code ⟨nK 0 args,ah⟩ (Kf c fn Q)):bU c.d c.P f args ah Q:=by
 intro F L γ H vs d y w hw;have h:=h ⟨xP d,xQ y.len.symm (fun j b g z r=>y.br j b g z r)⟩;subst hw;rw[m];refine⟨rfl,calls_of_wp W hb ?_⟩;have O:=tj d;have hl:=Nat.le_of_ble_eq_true hl;have o:(en F L γ ah w.heap).γ0.length=c.n0:=by rw[←J];exact y.len
 refine Code.wp_mono (Q:=Qk c ⟨en F L γ ah w.heap,[],w⟩ (Kf c fn Q)) (fun e a p i=>?_) (h.ok N hm ⟨en F L γ ah w.heap,[],w⟩ o _ w ⟨F,γ,?_,rfl,eW.refl _,y,?_,trivial⟩)
 ·have ret:(∃s,oY c fn Q s∧SR c ⟨en F L γ ah w.heap,[],w⟩ s .undef undef a p)→a.defers=[]∧∃v,(results fn a.tmps).run c.P p= .ok v p∧((∃u,Ending.returned v= .returned u∧oW F L γ ah w.heap Q true u p.heap∧eW c.d w p)∨(∃u,Ending.returned v= .panicked [{v:=u,recovered:=false}]∧oW F L γ ah w.heap Q false u p.heap∧eW c.d w p)):=by
   rintro⟨s,Y,P,K,z,r,D,k,t,_⟩;obtain⟨v,Z,hb⟩:=I1 N o Y k t;exact⟨r,v,Z,.inl ⟨v,rfl,hb,D⟩⟩
  cases e with
  |normal=>exact ret i
  |ret=>exact ret i
  |exit id=>obtain⟨s,h,_⟩:=i;exact h.elim
  |goto l=>exact i.elim
  |outgrown=>exact i.elim
  |panic ch=>
   obtain⟨v,x0,s1,rfl,⟨js,ρ,x,tah,E,n,U⟩,P,K,z,r,D,k,t,hx⟩:=i;obtain⟨R,M,S,T⟩:=vz o k hx E;rw[Bool.and_eq_true]at n;exact⟨r,.inr ⟨v,rfl,⟨_,tah,R,M,U,n.1,n.2,rfl,T,S⟩,D⟩⟩
 ·simp[hn];omega
 ·refine xu d fun q v i=>?_;have I:=(List.getElem?_eq_some_iff.1 i).1;rw[Nat.zero_add];simp only[Array.getD_eq_getD_getElem?];rw[Array.getElem?_append_left (by simpa using I)];simp[i]
theorem an{n n0:Nat}{d:Bool}{P:Program}{tab:Nat→Option TD}(c:bB P tab){f:FuncId}{fn:Func}{code:Code}{args:List A}{ah:List B}{Q:Out→List B→Prop}(a:∀args w,(callFunc f args).run P w= .ok (.enter f args) w)
  (e:P.funcs[f]? =some fn)(h:o7 args∧kV ah→X ⟨P,tab,n,n0,d⟩ code ⟨nK 0 args,ah⟩ (Kf ⟨P,tab,n,n0,d⟩ fn Q))(hm:P.follows .mixedOrders=true:=by kernel_rfl)(hb:fn.body=some code:=by rfl)(hn:fn.ntmps=n:=by rfl)(hl:Nat.ble args.length n=true:=by kernel_rfl)(b:ah.length=n0:=by rfl):bU d P f args ah Q:=
 w7 ⟨P,tab,n,n0,d⟩ c hm a e hb hn hl b fun hb=>XM.of (h hb)
theorem lQ{n n0:Nat}{d:Bool}{P:Program}{tab:Nat→Option TD}(c:bB P tab){f:FuncId}{fn:Func}{code:Code}{args:List A}{ah:List B}{Q:Out→List B→Prop}(a:∀args w,(callFunc f args).run P w= .ok (.enter f args) w)
  (e:P.funcs[f]? =some fn)(h:o7 args∧kV ah→XM ⟨P,tab,n,n0,d⟩ code ⟨nK 0 args,ah⟩ (Kf ⟨P,tab,n,n0,d⟩ fn Q))(hm:P.follows .mixedOrders=true:=by kernel_rfl)(hb:fn.body=some code:=by rfl)(hn:fn.ntmps=n:=by rfl)(hl:Nat.ble args.length n=true:=by kernel_rfl)(b:ah.length=n0:=by rfl):bU d P f args ah Q:=
 w7 ⟨P,tab,n,n0,d⟩ c hm a e hb hn hl b h
end
end Go.AM
end
section
namespace Go.AM
open Go Go.NB
def oA:List (Nat×TD)→Nat→Option TD
 |[],_=>none
 |(t,d)::r,s=>bif Nat.beq t s then some d else oA r s
structure Good(P:Program)(tab:Nat→Option TD)(t:Nat)(d:TD):Prop where
 info:∃i z zs,(∀w,(typeInfo t).run P w= .ok i w)∧i.size=d.size∧i.bytes=d.bytes∧i.zero=some z∧z.cells=List.toArray zs∧∀F H m,RL F H m d.zero zs
 agg:∀w,(isAgg t).run P w= .ok d.agg w
 one:d.agg=false→d.size=1
 zl:d.zero.length=d.size
 kind:tg P tab t d.kind
 cmp:d.cmp=true→s9 P t d.zero
def qB(P:Program)(tab:Nat→Option TD):List (Nat×TD)→Prop
 |[]=>True
 |(t,d)::r=>Good P tab t d∧qB P tab r
theorem qB.get{P:Program}{tab:Nat→Option TD}:∀{l:List (Nat×TD)} {t:Nat} {d:TD},qB P tab l→oA l t=some d→Good P tab t d
 |(t,d)::r,s,c,⟨a,b⟩,h=>by
  unfold oA at h;by_cases e:Nat.beq t s=true
  ·rw[e]at h;cases h;obtain rfl:=Nat.eq_of_beq_eq_true e;exact a
  ·rw[Bool.not_eq_true]at e;rw[e]at h;exact b.get h
def lL:List C→Option (List Value)
 |[]=>some []
 | .int k n::r=>(lL r).map (.int k n:: ·)
 | .bool b::r=>(lL r).map (.bool b:: ·)
 | .str []::r=>(lL r).map (NB.str []:: ·)
 | .nil::r=>(lL r).map (.slice none 0 0:: ·)
 | .ls _ _ _ []::r=>(lL r).map (.slice none 0 0:: ·)
 | .raw v::r=>bif v.oneCell' then(lL r).map (v:: ·)else none
 |_=>none
theorem K6{F:Nat→Prop}{H:af}{m:Md}{cs:List C}:∀{vs:List Value},lL cs=some vs→RL F H m cs vs:=by
 fun_induction lL cs<;>intro vs h
 case case1=>cases h;exact .nl
 case case7=>rename_i v r a ih;obtain⟨b,e,rfl⟩:=Option.map_eq_some_iff.1 h;exact .raw a (ih e)
 case case8=>cases h
 case case9=>cases h
 all_goals
  rename_i ih;obtain⟨b,e,rfl⟩:=Option.map_eq_some_iff.1 h;first|exact .int (ih e)|exact .bool (ih e)|exact .str (Nat.zero_le _) (ih e)|exact .nil (ih e)|exact .cG (ih e)
theorem aC{P:Program}{tab:Nat→Option TD}{t:Nat}{d:TD}{i:TypeInfo}{z:Value}(h1:∀w,(typeInfo t).run P w= .ok i w)(h2:∀w,(isAgg t).run P w= .ok d.agg w)(j:tg P tab t d.kind)(k:d.cmp=true→s9 P t d.zero:=by intro h;cases h)
  (b:i.size=d.size:=by rfl)(c:i.bytes=d.bytes:=by rfl)(e:i.zero=some z:=by rfl)(f:lL d.zero=some z.cells.toList:=by rfl)(a:(d.agg||Nat.beq d.size 1)=true:=by rfl)(g:d.zero.length=d.size:=by rfl):Good P tab t d:=
 ⟨⟨i,z,z.cells.toList,h1,b,c,e,by simp,fun _ _ _=>K6 f⟩,h2,fun h=>by rw[h]at a;exact Nat.eq_of_beq_eq_true a,g,j,k⟩
theorem Ke{P:Program}{l:List (Nat×TD)}(h:qB P (oA l) l):bB P (oA l):=
 ⟨fun _ _ a=>(h.get a).info,fun _ _ a=>(h.get a).agg,fun _ _ a=>(h.get a).one,fun _ _ a=>(h.get a).zl,fun _ _ a=>(h.get a).kind,fun _ _ a=>(h.get a).cmp⟩
theorem dec{P a B':Prop}{i:Decidable P}(h1:P→a)(h2:¬P→B'): @Bool.rec (fun _=>Prop) B' a (decide P):=by
 by_cases h:P
 ·rw[decide_eq_true h];exact h1 h
 ·rw[decide_eq_false h];exact h2 h
theorem ay{P a B':Prop}{i:Decidable P}(h1:¬P→a)(h2:P→B'): @Bool.rec (fun _=>Prop) B' a (!decide P):=by
 by_cases h:P
 ·rw[decide_eq_true h];exact h2 h
 ·rw[decide_eq_false h];exact h1 h
theorem aW{b:Bool}{a B':Prop}(h1:b=true→a)(h2:b=false→B'): @Bool.rec (fun _=>Prop) B' a b:=by
 cases b
 ·exact h2 rfl
 ·exact h1 rfl
theorem dV{b:Bool}{a B':Prop}(h1:b=false→a)(h2:b=true→B'): @Bool.rec (fun _=>Prop) B' a (!b):=by
 cases b
 ·exact h1 rfl
 ·exact h2 rfl
def encI(n:Int):List C:=[.int .i64 n]
def encS(l:List UInt8):List C:=[.str l]
def aj(b:Bool):List C:=[.bool b]
def bG{α:Type}(sz:Nat)(enc:α→List C)(l:List α):List C:=[.ls sz α enc l]
end Go.AM
end
section
namespace Go.AM
open Go Go.NB
def Rt(x:A)(ah:List B)(o:Out)(ah':List B):Prop:=o= .ret x∧ah'=ah
theorem I6{n:Int}{p:Prop}(h:p)(h1: -9223372036854775808≤n:=by omega)(h2:n≤9223372036854775807:=by omega):cO n∧p:=⟨⟨h1,h2⟩,h⟩
theorem i64{n:Int}(h1: -9223372036854775808≤n)(h2:n≤9223372036854775807):cO n:=⟨h1,h2⟩
theorem eJ{ah:List B}{a X:C}(h:a=X)(hc:eK X=true):∃js ρ x tah,lex 0 js ρ ah (.c a) x tah∧(fF x&&tah.all fR)=true∧Rt (.c X) [] (.ret x) tah:=by
 subst h;refine⟨[],[],.c a,[],?_,?_,rfl,rfl⟩
 ·refine And.intro ?_ trivial;cases a<;>first|rfl|cases hc
 ·cases a<;>first|rfl|cases hc
theorem aG{ah:List B}{b b':Bool}(h:b=b'):∃js ρ x tah,lex 0 js ρ ah (.c (.bool b)) x tah∧(fF x&&tah.all fR)=true∧Rt (.c (.bool b')) [] (.ret x) tah:=eJ (congrArg C.bool h) rfl
theorem aK{ah:List B}{n a:Int}(h:n=a):∃js ρ x tah,lex 0 js ρ ah (.c (.int .i64 n)) x tah∧(fF x&&tah.all fR)=true∧Rt (.c (.int .i64 a)) [] (.ret x) tah:=eJ (congrArg (C.int .i64) h) rfl
theorem rt{Q:Out→List B→Prop}{n0:Nat}{ah:List B}{a X:A}{Y:List B}(js:List Nat)(ρ:List Rn)(h:lex n0 js ρ ah a X Y)(hc:(fF X&&Y.all fR)=true)(b:Q (.ret X) Y):∃js ρ x tah,lex n0 js ρ ah a x tah∧(fF x&&tah.all fR)=true∧Q (.ret x) tah:=
 ⟨js,ρ,X,Y,h,hc,b⟩
theorem cl{d:Bool}{P:Program}{f:FuncId}{ah:List B}{env:List (Nat×A)}{args:List A}{g:G}{k:List B→A→Prop}{j:A→St→Prop}{b:List A}{tah Y:List B}{X:A}(js m:List Nat)(i:bU d P f b tah (Rt X Y))
  (hk:gy k (eR m tah (bg js ah) Y) (eU (sig m (bg js ah).length) X))(c:kR (bg js ah) m args b tah:=by(repeat' first|exact trivial|exact rfl|refine And.intro ?_ ?_);first|done|fail)(hg:g.call m=true:=by rfl):
  ∃(js m:List Nat) (b:List A) (tah:List B) (Q:Out→List B→Prop),bU d P f b tah Q∧kR (bg js ah) m args b tah∧g.call m=true∧
   ∀out ah',Q out ah'→match out with
    | .ret a=>gy k (eR m tah (bg js ah) ah') (eU (sig m (bg js ah).length) a)
    | .dm a=>gy j (eU (sig m (bg js ah).length) a) ⟨env,eR m tah (bg js ah) ah'⟩:=
 ⟨js,m,b,tah,_,i,c,hg,fun out ah' ⟨e,h⟩=>by subst e;subst h;exact hk⟩
theorem rx{n0:Nat}{ah:List B}{a X:A}{Y:List B}(js:List Nat)(ρ:List Rn)(h:lex n0 js ρ ah a X Y:=by repeat' first|exact trivial|exact rfl|refine And.intro ?_ ?_)(hc:(fF X&&Y.all fR)=true:=by rfl):∃js ρ x tah,lex n0 js ρ ah a x tah∧(fF x&&tah.all fR)=true∧Rt X Y (.ret x) tah:=
 ⟨js,ρ,X,Y,h,hc,rfl,rfl⟩
theorem lp{n0:Nat}{a:St}{R:∀(ι:Type) (I:ι→St) (inv:ι→Prop) (m:ι→Nat),ι→Prop}(ι:Type)(I:ι→St)(inv:ι→Prop)(m:ι→Nat)(y:ι)(js:List Nat)(ρ:List Rn)(h1:inv y)(h2:le n0 js ρ a (I y))(b:∀x,inv x→R ι I inv m x):
  ∃(ι:Type) (I:ι→St) (inv:ι→Prop) (m:ι→Nat),(∃y,inv y∧LE n0 a (I y))∧∀x,inv x→R ι I inv m x:=
 ⟨ι,I,inv,m,⟨y,h1,js,ρ,h2⟩,b⟩
theorem ag{ι:Type}{n0:Nat}{I:ι→St}{inv:ι→Prop}{m:ι→Nat}{lt:Nat}{s:St}(y:ι)(js:List Nat)(ρ:List Rn)(h1:inv y)(h2:m y<lt)(a:le n0 js ρ s (I y)):∃y,(inv y∧m y<lt)∧LE n0 s (I y):=⟨y,⟨h1,h2⟩,js,ρ,a⟩
end Go.AM
end
section
namespace Go.Nest
open Go Go.AM
structure aF where
 name:List UInt8
 mode:Int
 id:Int
 ar:Int
 deriving DecidableEq
structure Ob where
 kind:Int
 bytes:List UInt8
 entries:List aF
 tree:Int
 parents:List Int
 text:List UInt8
 deriving DecidableEq
structure Fi where
 path:List UInt8
 mode:Int
 id:Int
 ar:Int
 deriving DecidableEq
structure Ch where
 path:List UInt8
 old:Fi
 new:Fi
 deriving DecidableEq
structure Dc where
 path:List UInt8
 bytes:List UInt8
 deriving DecidableEq
structure Rf where
 name:List UInt8
 id:Int
 deriving DecidableEq
structure Mv where
 name:List UInt8
 old:Int
 new:Int
 deriving DecidableEq
structure It where
 path:List UInt8
 bytes:List UInt8
 link:Bool
 id:Int
 ar:Int
 deriving DecidableEq
def cX(e:aF):List C:=[.str e.name,.int .i64 e.mode,.int .i64 e.id,.int .i64 e.ar]
def ak(o:Ob):List C:=[.int .i64 o.kind,.ls 1 UInt8 bD o.bytes,.ls 4 aF cX o.entries,.int .i64 o.tree,.ls 1 Int encI o.parents,.str o.text]
def ia(o:Ob):List C:=[.int .i64 o.kind,.bs 1 UInt8 bD o.bytes,.bs 4 aF cX o.entries,.int .i64 o.tree,.bs 1 Int encI o.parents,.str o.text]
def aA(f:Fi):List C:=[.str f.path,.int .i64 f.mode,.int .i64 f.id,.int .i64 f.ar]
def yH(c:Ch):List C:=[.str c.path,.str c.old.path,.int .i64 c.old.mode,.int .i64 c.old.id,.int .i64 c.old.ar,.str c.new.path,.int .i64 c.new.mode,.int .i64 c.new.id,.int .i64 c.new.ar]
def eY(d:Dc):List C:=[.str d.path,.ls 1 UInt8 bD d.bytes]
def bH(r:Rf):List C:=[.str r.name,.int .i64 r.id]
def cY(m:Mv):List C:=[.str m.name,.int .i64 m.old,.int .i64 m.new]
def aM(x:It):List C:=[.str x.path,.ls 1 UInt8 bD x.bytes,.bool x.link,.int .i64 x.id,.int .i64 x.ar]
def jE(p:Int×Int):List C:=[.int .i64 p.1,.int .i64 p.2]
def uv(p:Int×Int×Int):List C:=[.int .i64 p.1,.int .i64 p.2.1,.int .i64 p.2.2]
structure Sn where
 docs:List Dc
 parents:List Int
 text:List UInt8
 deriving DecidableEq
def nl(sz:Nat)(α:Type)(enc:α→List C):List α→C
 |[]=>.nil
 |x::l=>.ls sz α enc (x::l)
structure Dt where
 what:Int
 a:Int
 b:Int
 k:Int
 fY:Bool
 r0:List Int
 r1:List Int
 r2:List Int
 r3:List Int
structure Mt where
 k:Int
 to:Int
 ar:Int
 path:List UInt8
end Go.Nest
end
section
namespace Go.Nest
open Go Go.AM
structure Dp where
 own:Nat→List Bool
 dW:Nat→List Int
theorem four{i:Nat}(h:i<4):i=0∨i=1∨i=2∨i=3:=by omega
def ax{α:Type}(o:Nat→α)(k:Nat)(v:α):Nat→α:=fun j=>bif Nat.beq j k then v else o j
theorem ee{α:Type}{o:Nat→α}{k:Nat}{v:α}:ax o k v k=v:=by unfold ax;rw[Nat.beq_refl];rfl
end Go.Nest
end
section
namespace Go.Nest
open Go Go.AM
structure FS where
 L:List Ob
 o:Nat→List Bool
 b:Nat→List Int
 n:Nat→List Rf
 m:Nat→List Mv
 w:Nat→List It
 h:Nat→Int
structure bL where
 kind:Int
 r:Int
 q:Int
 path:List UInt8
 name:List UInt8
 text:List UInt8
 bytes:List UInt8
def aI(x:bL):List C:=[.int .i64 x.kind,.int .i64 x.r,.int .i64 x.q,.str x.path,.str x.name,.str x.text,.ls 1 UInt8 bD x.bytes]
structure cT where
 code:Int
 id:Int
 cf:List (List UInt8)
def bM(x:cT):List C:=[.int .i64 x.code,.int .i64 x.id,.ls 1 (List UInt8) encS x.cf]
def b9(id c:Int):cT:=if c≠0 then⟨c,0,[]⟩else⟨0,id,[]⟩
def FS.dep(s:FS):Dp:=⟨s.o,s.b⟩
def eb:FS:=⟨[],fun _=>[],fun _=>[],fun _=>[],fun _=>[],fun _=>[],fun _=> -1⟩
def FS.c9(s:FS)(r:Nat)(L:List Ob)(l:List It)(h:Int):FS:={s with L:=L,w:=ax s.w r l,h:=ax s.h r h}
def FS.gH(s:FS)(r:Nat)(l:List Rf)(m:List Mv):FS:={s with n:=ax s.n r l,m:=ax s.m r m}
def FS.bN(s:FS)(o:Nat→List Bool):FS:={s with o:=o}
def FS.BT(s:FS)(b:Nat→List Int):FS:={s with b:=b}
def FS.az(s:FS)(L:List Ob):FS:={s with L:=L}
end Go.Nest
end
section
namespace Go.Nest
open Go Go.AM
theorem wP{α:Type}{p:α→Bool}:∀{l:List α} {k:Nat},k≤l.length→(∀g∈l.take k,p g=true)→(∀h:k<l.length,p l[k]=false)→l.takeWhile p=l.take k∧l.dropWhile p=l.drop k
 |[],0,_,_,_=>⟨rfl,rfl⟩
 |x::l,0,_,_,h=>by have:=h (by simp);simp at this;simp[this]
 |x::l,k+1,f,a,b=>by
  have i:=a x (by simp);obtain⟨c,d⟩:=wP (l:=l) (k:=k) (by simpa using f) (fun g e=>a g (by simp[e])) (fun h=>b (by simpa using h));simp[i,c,d]
 |[],k+1,h,_,_=>by simp at h
theorem qf:∀{a b:List Int},a.Pairwise (· < ·)→b.Pairwise (· < ·)→(∀x,x∈a↔x∈b)→a=b
 |[],[],_,_,_=>rfl
 |[],y::b,_,_,h=>by have:=(h y).2 (by simp);cases this
 |x::a,[],_,_,h=>by have:=(h x).1 (by simp);cases this
 |x::a,y::b,j,hb,h=>by
  obtain⟨d,g⟩:=List.pairwise_cons.1 j;obtain⟨f,i⟩:=List.pairwise_cons.1 hb
  have e:x=y:=by
   rcases List.mem_cons.1 ((h x).1 (by simp))with e|hx
   ·exact e
   rcases List.mem_cons.1 ((h y).2 (by simp))with e|hy
   ·exact e.symm
   have:=d y hy;have:=f x hx;omega
  subst e;congr 1
  refine qf g i fun z=>⟨fun c=>?_,fun c=>?_⟩
  ·rcases List.mem_cons.1 ((h z).1 (by simp[c]))with rfl|h5
   ·have:=d _ c;omega
   ·exact h5
  ·rcases List.mem_cons.1 ((h z).2 (by simp[c]))with rfl|h5
   ·have:=f _ c;omega
   ·exact h5
end Go.Nest
end
section
namespace Go.AM
open Go Go.NB
theorem bU.frame{d:Bool}{P:Program}{f:FuncId}{e args:List A}{tah Y ah Z D:List B}{X W z:A}(m:List Nat)(ρ:List Rn)(hs:bU d P f e tah (Rt X Y))(u:kR ah m args e tah)
  (hZ:eR m tah ah Y=Z)(hW:eU (sig m ah.length) X=W)(N:lex ah.length [] ρ Z W z D)(t:(fF z&&D.all fR)=true):bU d P f args ah (Rt z D):=by
 intro F L γ H vs s p;obtain⟨q,Q,y⟩:=b8 u;simp only[Bool.and_eq_true,List.all_eq_true]at q;obtain⟨⟨R,O⟩,S⟩:=q;have x:∀j∈m,j<ah.length:=fun j hj=>Nat.le_of_ble_eq_true (O j hj);have a:=core p y S ze;have o:=vF (B':=kD (en F L γ ah H) γ ah (iK m tah)) p (fun _ h=>.inl h) (fun j b g i l n k w=>.inr ⟨j,b,g,l,n,i,w⟩) Q s
 have J:WR (en F (kD (en F L γ ah H) γ ah (iK m tah)) ((bK m).map (bS γ)) tah H) F ((bK m).map (bS γ)) tah H:=by
  refine⟨a.len,a.br,a.disj,fun j b g k i l n=>(a.nf j b g k i l n).1,p.fb,fun k w=>⟨?_,fun⟨j,b,g,i,l,n⟩=>(a.nf j b g k i l n).1.2 w⟩,Nat.le_refl _,fun _ _ _=>rfl,fun _ h=>h,fun _ h=>.inl h,fun j b g k i l n=>.inl ⟨j,b,g,i,l,n⟩,fun _ _ h=>h⟩;rcases w with w|⟨j,b,g,i,l,_,n⟩
  ·exact Nat.lt_of_lt_of_le (p.bb k w).1 p.size
  ·exact fJ (p.br _ _ _ i l) k n
 refine(hs F _ _ H _ o J).mono fun ok v H' hb=>?_;obtain⟨out,ah',F',γ',⟨rfl,rfl⟩,K,M,u,T,I⟩:=hb;obtain⟨m1,m2,m3,m4,m5⟩:=merge p y (sj R) x a I M;have r:RA F' H' ⟨L,γ++γ'.drop m.length⟩ (eU (sig m ah.length) X) v:=By m3 T K;rw[hZ]at m1;rw[hW]at r;obtain⟨F2,U,h7,h8⟩:=vz (c:=⟨P,fun _=>none,0,ah.length,d⟩) (E:=en F L γ ah H) p.len m1 r N;rw[Bool.and_eq_true]at t;exact⟨.ret z,D,F2,U,⟨rfl,rfl⟩,t.1,t.2,u,h8,h7⟩
def gI(ρ:List Rn)(j:Nat):Nat:=match ρ[j]? with
 |some (.same k)=>k
 |_=>0
def kA:Option Rn→Bool
 |some (.same _)=>true
 |_=>false
def qX(ρ:List Rn):C→Bool
 | .rw i=>kA ρ[i]?
 | .ptr i _=>kA ρ[i]?
 | .sw _ i _ _=>kA ρ[i]?
 | .int _ _=>true
 | .bool _=>true
 | .str _=>true
 | .raw _=>true
 | .nil=>true
 | .ls .. =>true
 |_=>false
def tV(ρ:List Rn)(r:Rn)(b:B):Bool:=match b with
 | .dead=>true
 | .box a _=>kA (some r)&&a.all (qX ρ)
 |_=>kA (some r)
def jB(ρ:List Rn):List Rn→List B→Bool
 |[],[]=>true
 |r::c,b::a=>tV ρ r b&&jB ρ c a
 |_,_=>false
def BP(ah:List B)(r:Rn)(b:B):B:=match b with
 | .dead=>.dead
 |_=>match r with
  | .same j=>(ah[j]?).getD .dead
  |_=>.dead
def jX(ah:List B):List Rn→List B→List B
 |r::c,b::a=>BP ah r b::jX ah c a
 |_,_=>[]
section
variable {fr:Nat→Bool} {ah:List B} {ρ:List Rn}
theorem nh{r:Option Rn}(h:kA r=true):∃k,r=some (.same k):=by
 cases r with
 |none=>cases h
 |some r=>cases r with
  |same k=>exact⟨k,rfl⟩
  |_=>cases h
theorem Hr{n:Nat}{c:C}(h:qX ρ c=true):mC fr ah (n+1) ρ (jU (gI ρ) c) c:=by
 cases c with
 |rw i=>obtain⟨k,e⟩:=nh h;simp only[mC,jU,gI,e]
 |ptr i o=>obtain⟨k,e⟩:=nh h;simp only[mC,jU,gI,e]
 |sw b i a m=>obtain⟨k,e⟩:=nh h;simp only[mC,jU,gI,e]
 |int _ _=>rfl
 |bool _=>rfl
 |str _=>rfl
 |raw _=>rfl
 |nil=>rfl
 |ls _ _ _ _=>rfl
 |_=>cases h
theorem xj:∀{cs:List C},cs.all (qX ρ)=true→ke (mC fr ah 5 ρ) (cs.map (jU (gI ρ))) cs
 |[],_=>trivial
 |c::cs,h=>by
  rw[List.all_cons,Bool.and_eq_true]at h;exact⟨Hr h.1,xj h.2⟩
theorem Kn(t:Option Nat):wQ t t:=by cases t<;>first|trivial|rfl
theorem sS{j:Nat}{b:B}(h:(ah[j]?).getD .dead=b)(hb:b≠.dead):ah[j]? =some b:=by
 cases e:ah[j]? with
 |none=>rw[e]at h;exact absurd h.symm hb
 |some x=>rw[e]at h;exact congrArg some h
theorem Hq{r:Rn}{b:B}(h:tV ρ r b=true)(he:BP ah r b=fL (gI ρ) b):mB fr ah ρ r b:=by
 cases b with
 |dead=>trivial
 |box f t=>
  have h:(kA (some r)&&f.all (qX ρ))=true:=h;rw[Bool.and_eq_true]at h;obtain⟨k,e⟩:=nh h.1;obtain rfl:r= .same k:=by simpa using e
  have c:=sS (b:=fL (gI ρ) (.box f t)) he (by intro h;cases h);simp only[mB,c,fL];exact⟨Kn t,xj h.2⟩
 |row d α a l=>
  obtain⟨k,e⟩:=nh (show kA (some r)=true from h);obtain rfl:r= .same k:=by simpa using e
  have c:=sS (b:= .row d α a l) he (by intro h;cases h);simp only[mB,c]
 |aV d α a l=>
  obtain⟨k,e⟩:=nh (show kA (some r)=true from h);obtain rfl:r= .same k:=by simpa using e
  have c:=sS (b:= .aV d α a l) he (by intro h;cases h);simp only[mB,c]
 |buf t d α a l=>
  obtain⟨k,e⟩:=nh (show kA (some r)=true from h);obtain rfl:r= .same k:=by simpa using e
  have c:=sS (b:= .buf t d α a l) he (by intro h;cases h);simp only[mB,c,and_self]
theorem pR:∀{rs:List Rn} {bs:List B},jB ρ rs bs=true→jX ah rs bs=bs.map (fL (gI ρ))→lC fr ah ρ rs bs
 |[],[],_,_=>trivial
 |r::rs,b::bs,h,e=>by
  have h:(tV ρ r b&&jB ρ rs bs)=true:=h;rw[Bool.and_eq_true]at h;simp only[jX,List.map_cons,List.cons.injEq]at e;exact⟨Hq h.1 e.1,pR h.2 e.2⟩
 |[],_::_,h,_=>by cases h
 |_::_,[],h,_=>by cases h
end
theorem kg{ah tah:List B}{m:List Nat}{args a:List A}(c:mi (iK m tah) ah (bK m) args a)(h1:(eS m&&m.all (fun j=>Nat.blt j ah.length)&&eS (da (bK m) tah))=true:=by kernel_rfl)
  (h2:jB (bK m) (bK m) tah=true:=by kernel_rfl)(b:jX ah (bK m) tah=tah.map (fL (gI (bK m))):=by kernel_rfl):kR ah m args a tah:=by
 unfold kR;rw[h1];exact⟨c,pR h2 b⟩
theorem lA{n0:Nat}{ρ:List Rn}{ah tah:List B}{a x:A}(c:mA (fun _=>false) ah ρ a x)(h1:(ln 0 ρ n0&&eS (da ρ tah))=true:=by kernel_rfl)
  (h2:jB ρ ρ tah=true:=by kernel_rfl)(b:jX ah ρ tah=tah.map (fL (gI ρ)):=by kernel_rfl):lex n0 [] ρ ah a x tah:=by
 unfold lex;rw[h1];exact⟨c,pR h2 b⟩
theorem bc{d:Bool}{P:Program}{f:FuncId}{ah:List B}{env:List (Nat×A)}{args:List A}{g:G}{k:List B→A→Prop}{p:A→St→Prop}{b:List A}{tah Y:List B}{X:A}(m:List Nat)(Z:List B)(o:bU d P f b tah (Rt X Y))(hk:gy k Z (eU (sig m ah.length) X))
  (n:mi (iK m tah) ah (bK m) args b:=by repeat' first|exact trivial|exact rfl|refine And.intro ?_ ?_)(l:eR m tah ah Y=Z:=by kernel_rfl)(h1:(eS m&&m.all (fun j=>Nat.blt j ah.length)&&eS (da (bK m) tah))=true:=by kernel_rfl)
  (h2:jB (bK m) (bK m) tah=true:=by kernel_rfl)(i:jX ah (bK m) tah=tah.map (fL (gI (bK m))):=by kernel_rfl)(hg:g.call m=true:=by rfl):
  ∃(js m:List Nat) (b:List A) (tah:List B) (Q:Out→List B→Prop),bU d P f b tah Q∧kR (bg js ah) m args b tah∧g.call m=true∧
   ∀out ah',Q out ah'→match out with
    | .ret a=>gy k (eR m tah (bg js ah) ah') (eU (sig m (bg js ah).length) a)
    | .dm a=>gy p (eU (sig m (bg js ah).length) a) ⟨env,eR m tah (bg js ah) ah'⟩:=
 ⟨[],m,b,tah,_,o,kg n h1 h2 i,hg,fun out ah' h=>by
  have c:=h.1;have e:=h.2;clear h;subst c;show gy k (eR m tah ah ah') (eU (sig m ah.length) X);rw[e,l];exact hk⟩
theorem bd{n0:Nat}{ah:List B}{a X:A}{Y:List B}(ρ:List Rn)(c:mA (fun _=>false) ah ρ a X:=by repeat' first|exact trivial|exact rfl|refine And.intro ?_ ?_)(h1:(ln 0 ρ n0&&eS (da ρ Y))=true:=by kernel_rfl)
  (h2:jB ρ ρ Y=true:=by kernel_rfl)(b:jX ah ρ Y=Y.map (fL (gI ρ)):=by kernel_rfl)(hc:(fF X&&Y.all fR)=true:=by kernel_rfl):∃js ρ x tah,lex n0 js ρ ah a x tah∧(fF x&&tah.all fR)=true∧Rt X Y (.ret x) tah:=
 ⟨[],ρ,X,Y,lA c h1 h2 b,hc,rfl,rfl⟩
theorem ik{n0:Nat}{ρ:List Rn}{s t:St}(he:mE s.ah ρ s.env t.env:=by repeat' first|exact trivial|exact rfl|refine And.intro ?_ ?_)(h1:(ln 0 ρ n0&&eS (da ρ t.ah))=true:=by kernel_rfl)
  (h2:jB ρ ρ t.ah=true:=by kernel_rfl)(a:jX s.ah ρ t.ah=t.ah.map (fL (gI ρ)):=by kernel_rfl):le n0 [] ρ s t:=by
 unfold le;rw[h1];exact⟨he,pR h2 a⟩
end Go.AM
end
section
namespace Go.AM
open Go Go.NB
theorem x7{d:Bool}{P:Program}{f:FuncId}{ah:List B}{env:List (Nat×A)}{args:List A}{g:G}{k:List B→A→Prop}{p:A→St→Prop}{b:List A}{tah Y:List B}{X:A}(js m:List Nat)(Z:List B)(o:bU d P f b tah (Rt X Y))(hk:gy k Z (eU (sig m (bg js ah).length) X))
  (n:mi (iK m tah) (bg js ah) (bK m) args b:=by repeat' first|exact trivial|exact rfl|refine And.intro ?_ ?_)(l:eR m tah (bg js ah) Y=Z:=by kernel_rfl)(h1:(eS m&&m.all (fun j=>Nat.blt j (bg js ah).length)&&eS (da (bK m) tah))=true:=by kernel_rfl)
  (h2:jB (bK m) (bK m) tah=true:=by kernel_rfl)(i:jX (bg js ah) (bK m) tah=tah.map (fL (gI (bK m))):=by kernel_rfl)(hg:g.call m=true:=by rfl):
  ∃(js m:List Nat) (b:List A) (tah:List B) (Q:Out→List B→Prop),bU d P f b tah Q∧kR (bg js ah) m args b tah∧g.call m=true∧
   ∀out ah',Q out ah'→match out with
    | .ret a=>gy k (eR m tah (bg js ah) ah') (eU (sig m (bg js ah).length) a)
    | .dm a=>gy p (eU (sig m (bg js ah).length) a) ⟨env,eR m tah (bg js ah) ah'⟩:=
 ⟨js,m,b,tah,_,o,kg n h1 h2 i,hg,fun out ah' h=>by
  have c:=h.1;have e:=h.2;clear h;subst c;show gy k (eR m tah (bg js ah) ah') (eU (sig m (bg js ah).length) X);rw[e,l];exact hk⟩
end Go.AM
end
section
namespace Go.AM
open Go Go.NB
theorem Jt{n0:Nat}{ah:List B}{a X:A}{Y:List B}(js:List Nat)(ρ:List Rn)(c:mA (fun _=>false) (bg js ah) ρ a X:=by repeat' first|exact trivial|exact rfl|refine And.intro ?_ ?_)(h1:(ln 0 ρ n0&&eS (da ρ Y))=true:=by kernel_rfl)
  (h2:jB ρ ρ Y=true:=by kernel_rfl)(b:jX (bg js ah) ρ Y=Y.map (fL (gI ρ)):=by kernel_rfl)(hc:(fF X&&Y.all fR)=true:=by kernel_rfl):∃js ρ x tah,lex n0 js ρ ah a x tah∧(fF x&&tah.all fR)=true∧Rt X Y (.ret x) tah:=
 ⟨js,ρ,X,Y,by unfold lex;rw[h1];exact⟨c,pR h2 b⟩,hc,rfl,rfl⟩
theorem DK{d:Bool}{P:Program}{f:FuncId}{ah:List B}{env:List (Nat×A)}{args:List A}{g:G}{k:List B→A→Prop}{o:A→St→Prop}{b:List A}{tah Y:List B}{X:A}(js m:List Nat)(c Z:List B)(n:bU d P f b tah (Rt X Y))(hk:gy k Z (eU (sig m c.length) X))
  (h:bg js ah=c:=by kernel_rfl)(l:mi (iK m tah) c (bK m) args b:=by repeat' first|exact trivial|exact rfl|refine And.intro ?_ ?_)(i:eR m tah c Y=Z:=by kernel_rfl)(h1:(eS m&&m.all (fun j=>Nat.blt j c.length)&&eS (da (bK m) tah))=true:=by kernel_rfl)
  (h2:jB (bK m) (bK m) tah=true:=by kernel_rfl)(e:jX c (bK m) tah=tah.map (fL (gI (bK m))):=by kernel_rfl)(hg:g.call m=true:=by rfl):
  ∃(js m:List Nat) (b:List A) (tah:List B) (Q:Out→List B→Prop),bU d P f b tah Q∧kR (bg js ah) m args b tah∧g.call m=true∧
   ∀out ah',Q out ah'→match out with
    | .ret a=>gy k (eR m tah (bg js ah) ah') (eU (sig m (bg js ah).length) a)
    | .dm a=>gy o (eU (sig m (bg js ah).length) a) ⟨env,eR m tah (bg js ah) ah'⟩:=by
 subst h;exact x7 js m Z n hk l i h1 h2 e hg
end Go.AM
end
