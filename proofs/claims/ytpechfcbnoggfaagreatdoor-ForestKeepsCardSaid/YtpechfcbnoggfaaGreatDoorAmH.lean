/- part -/
import Derived.Test.YtpechfcbnoggfaaGreatDoorAm14
import Derived.OrdersHeld
import Derived.KernelRfl
set_option linter.unusedVariables false
set_option linter.unusedSimpArgs false
section
namespace Go.AM
open Go Go.NB
def Xg(ops:Array Oper)(o:Oper)(s:St)(yes:St→Prop)(f:St→Prop):Prop:=
 match o.guard with
 |none=>yes s
 |some (j,a)=>match(ops[j]?).bind (·.dst)with
  |some d=>match lk s.env d with
   |some (.c (.bool b))=>match s with
    |⟨e,ah⟩=> @Bool.rec (fun _=>Prop) (bif a then f ⟨(d,.c (.bool false))::e,ah⟩else yes ⟨(d,.c (.bool false))::e,ah⟩)
     (bif a then yes ⟨(d,.c (.bool true))::e,ah⟩else f ⟨(d,.c (.bool true))::e,ah⟩) b
   |some .off=>f s
   |_=>False
  |none=>False
def Xl(c:dn)(ops:Array Oper)(l:List (G×Oper)):St→(St→Prop)→(A→St→Prop)→Prop:=
 List.rec (motive:=fun _=>St→(St→Prop)→(A→St→Prop)→Prop) (fun s k _=>k s)
  (fun x _ ih s k a=>Xg ops x.2 s (fun s=>Xo c x.1 x.2 s (fun s=>ih s k a) a) (fun s=>ib c.n s x.2.dst .off fun s=>ih s k a)) l
theorem sI{c:dn}{ops:Array Oper}{g:G}{o:Oper}{r:List (G×Oper)}{s:St}{k:St→Prop}{a:A→St→Prop}(h:Xl c ops ((g,o)::r) s k a):Xg ops o s (fun s=>Xo c g o s (fun s=>Xl c ops r s k a) a) (fun s=>ib c.n s o.dst .off fun s=>Xl c ops r s k a):=h
section
variable {c:dn} {r:jH} {s:St} {a:Act} {w:World} {o:Oper}
theorem BU{F:Nat→Prop}{H:ab}{m:Md}{ops:Array Oper}(c:ER F H m s.env a){j d:Nat}{x:A}(hj:(ops[j]?).bind (·.dst)=some d)(hl:lk s.env d=some x)(e:∀v,RA F H m x v→v≠undef∨True):
  yielded ops a.tmps j=(match a.tmps.getD d undef with| .bool b=>some b|_=>none):=by
 unfold yielded;rw[hj];show(match a.tmps[d]? with|some (.bool b)=>some b|_=>none)=_;by_cases h:d<a.tmps.size
 ·rw[Array.getElem?_eq_getElem h];simp[Array.getD,h];cases a.tmps[d]<;>rfl
 ·rw[Array.getElem?_eq_none (by omega)];simp[Array.getD,h];rfl
theorem sH{ops:Array Oper}{F:Nat→Prop}{γ:List Value}{yes u:St→Prop}(h:Xg ops o s yes u)(D:fJ c r F γ s .undef undef a w):
  (Region.wanted o (yielded ops a.tmps)=true∧∃i,yes i∧i.ah=s.ah∧fJ c r F γ i .undef undef a w)∨(Region.wanted o (yielded ops a.tmps)=false∧∃i,u i∧i.ah=s.ah∧fJ c r F γ i .undef undef a w):=by
 unfold Xg at h;split at h
 ·rename_i n;exact .inl ⟨by simp[Region.wanted,n],s,h,rfl,D⟩
 ·rename_i j g n;split at h
  ·rename_i d J;have E:=D;obtain⟨N,z,K,M,k,_⟩:=E;split at h
   ·rename_i b l;have m:=BU (ops:=ops) k J l (fun _ _=>.inr trivial);have p:=k d _ l;generalize H:a.tmps.getD d undef=v at m p;cases p with
    |bool _=>
     have put:∀y,y=b→fJ c r F γ ⟨(d,.c (.bool y))::s.env,s.ah⟩ .undef undef a w:=fun y hb=>by
      subst hb;refine⟨N,z,K,M,fun t x f=>?_,trivial⟩;simp only[lk]at f;by_cases e:Nat.beq d t=true
      ·rw[e]at f;cases f;obtain rfl:=Nat.eq_of_beq_eq_true e;rw[H];exact .bool .nl
      ·rw[Bool.not_eq_true]at e;rw[e]at f;exact k t x f
     have q:Region.wanted o (yielded ops a.tmps)=(some b==some g):=by simp only[Region.wanted,n,m]
     cases b with
     |true=>
      have h:bif g then yes ⟨(d,.c (.bool true))::s.env,s.ah⟩else u ⟨(d,.c (.bool true))::s.env,s.ah⟩:=h
      rcases ja h with⟨rfl,h⟩|⟨rfl,h⟩
      ·exact .inl ⟨by rw[q];rfl,_,h,rfl,put _ rfl⟩
      ·exact .inr ⟨by rw[q];rfl,_,h,rfl,put _ rfl⟩
     |false=>
      have h:bif g then u ⟨(d,.c (.bool false))::s.env,s.ah⟩else yes ⟨(d,.c (.bool false))::s.env,s.ah⟩:=h
      rcases ja h with⟨rfl,h⟩|⟨rfl,h⟩
      ·exact .inr ⟨by rw[q];rfl,_,h,rfl,put _ rfl⟩
      ·exact .inl ⟨by rw[q];rfl,_,h,rfl,put _ rfl⟩
   ·rename_i l;have m:=BU (ops:=ops) k J l (fun _ _=>.inr trivial);have p:a.tmps.getD d undef=undef:=k d _ l;rw[p]at m;have I:yielded ops a.tmps j=none:=by rw[m];rfl
    refine .inr ⟨?_,s,h,rfl,D⟩;simp only[Region.wanted,n,I];rfl
   ·exact h.elim
  ·exact h.elim
theorem B9(E:bo c.P c.tab){ops:Array Oper}{k:St→Prop}{K:XE→St→Prop}{Q:Exit→Act→World→Prop}(g:∀s a w,k s→SR c r s .undef undef a w→Q .normal a w)(D:∀p a w,Qk c r K (.panic p) a w→Q (.panic p) a w):
  ∀(l:List Oper) (s:St) (a:Act) (w:World),Xl c ops (l.map fun o=>(G.any,o)) s k (fun v s=>K (.cR v) s)→SR c r s .undef undef a w→wpList c.P ops Q l a w:=by
 intro l;induction l with
 |nil=>intro s a w h e;exact wpList_nil (g _ _ _ h e)
 |cons o l ih=>
  intro s a w h e;refine wpList_step fun N q=>?_;obtain⟨F,γ,e⟩:=e;rcases sH (sI h) e with⟨j,J,h,_,b⟩|⟨j,J,h,_,b⟩
  ·rw[if_pos j];exact Oper.wp_mono (fun u M ⟨t,n,m,f,d,_⟩=>q _ _ (ih m u M f ⟨t,n,d⟩)) (wq E h b D)
  ·rw[if_neg (by rw[j];simp)];obtain⟨I,i,y,H,z,_⟩:=b;obtain⟨m,f,_,d⟩:=mJ (x:= .off) (v:=undef) h I i y H z rfl;exact q _ _ (ih m _ _ f ⟨F,γ,d⟩)
end
end Go.AM
end
section
namespace Go.AM
open Go Go.NB
def bitsOf(a:Array Nat)(o:Oper):Nat:=o.after.toList.foldl (fun s e=>bif Region.binds .any e then s|||2^e.on|||a.getD e.on 0 else s) 0
def nj:List Oper→Array Nat→Array Nat
 |[],a=>a
 |o::r,a=>nj r (a.push (bitsOf a o))
inductive gO(ops:Array Oper):Nat→Nat→Prop
 |one {i j:Nat} {o:Oper} {e:Edge} (h:ops[j]? =some o) (he:e∈o.after) (hb:Region.binds .any e=true) (hi:e.on=i):gO ops i j
 |more {i j:Nat} {o:Oper} {e:Edge} (h:ops[j]? =some o) (he:e∈o.after) (hb:Region.binds .any e=true) (hi:gO ops i e.on):gO ops i j
theorem Cz{ops:Array Oper}{a:Array Nat}{o:Oper}{j:Nat}(ho:ops[j]? =some o)(b:∀i q,(a.getD q 0).testBit i=true→gO ops i q):∀i,(bitsOf a o).testBit i=true→gO ops i j:=by
 have g:∀(l:List Edge) (s:Nat),(∀e∈l,e∈o.after)→(∀i,s.testBit i=true→gO ops i j)→∀i,(l.foldl (fun s e=>bif Region.binds .any e then s|||2^e.on|||a.getD e.on 0 else s) s).testBit i=true→gO ops i j:=by
  intro l;induction l with
  |nil=>intro s _ c i h;exact c i h
  |cons e l ih=>
   intro s f c i h;rw[List.foldl_cons]at h;refine ih _ (fun e d=>f e (by simp[d])) (fun i hi=>?_) i h;by_cases hb:Region.binds .any e=true
   ·rw[hb,cond_true,Nat.testBit_or,Nat.testBit_or,Bool.or_eq_true,Bool.or_eq_true]at hi;rcases hi with(hi|hi)|hi
    ·exact c i hi
    ·rw[Nat.testBit_two_pow]at hi;exact .one ho (f e (by simp)) hb (by simpa using hi)
    ·exact .more ho (f e (by simp)) hb (b i _ hi)
   ·rw[Bool.not_eq_true]at hb;rw[hb,cond_false]at hi;exact c i hi
 intro i h;exact g o.after.toList 0 (fun e d=>by simpa using d) (fun i hi=>by simp at hi) i h
theorem w6{ops:Array Oper}:∀(l:List Oper) (a:Array Nat),(∀q o,l[q]? =some o→ops[a.size+q]? =some o)→(∀i q,(a.getD q 0).testBit i=true→gO ops i q)→∀i q,((nj l a).getD q 0).testBit i=true→gO ops i q
 |[],a,_,h=>h
 |o::r,a,d,h=>by
  refine w6 r _ (fun q g c=>?_) (fun i q b=>?_)
  ·have:=d (q+1) g (by simpa using c);rw[Array.size_push];rw[show a.size+1+q=a.size+(q+1)by omega];exact this
  ·by_cases c:q<a.size
   ·refine h i q ?_;simp only[Array.getD_eq_getD_getElem?]at b⊢;rw[Array.getElem?_push_lt c]at b;rw[Array.getElem?_eq_getElem c];exact b
   ·by_cases f:q=a.size
    ·subst f;have e:=d 0 o rfl;simp only[Array.getD_eq_getD_getElem?,Array.getElem?_push_size,Option.getD_some]at b;exact Cz e h i b
    ·simp only[Array.getD_eq_getD_getElem?]at b;rw[Array.getElem?_eq_none (by simp;omega)]at b;simp at b
def bg(a:Op):Bool:= !gZ a
def uz(ops:Array Oper)(bits:Array Nat)(j:Nat):Bool:=(List.range ops.size).all fun i=>match ops[i]? with
 |some o=> !bg o.op||Nat.beq i j||(bits.getD j 0).testBit i||(bits.getD i 0).testBit j
 |none=>true
section
variable {P:Program} {ops:Array Oper} {Q:Exit→Act→World→Prop} {S:World→Prop} {late:Nat→Bool}
def Cl(ops:Array Oper)(a:Array Bool):Prop:=
 ∀(j:Nat) (b:Oper),ops[j]? =some b→a.getD j false=true→∀e∈b.after,Region.binds .any e=true→a.getD e.on false=true
theorem Cl.step{a:Array Bool}{j:Nat}(hc:Cl ops a)(hj:j∈Region.ready .any ops a):Cl ops (a.setIfInBounds j true):=fun k ok g h e f hb=>by
 obtain⟨_,i,d,b⟩:=mem_ready.1 hj;by_cases c:j=k
 ·subst c;rw[g]at d;cases d;exact getD_set_true (b e f hb)
 ·rw[getD_set_ne false c]at h;exact getD_set_true (hc k ok g h e f hb)
theorem wE{a:Array Bool}(hc:Cl ops a){i j:Nat}(h:gO ops i j):(∀o,ops[j]? =some o→∀e∈o.after,Region.binds .any e=true→a.getD e.on false=true)→a.getD i false=true:=by
 induction h with
 |one h c hb l=>intro f;rw[←l];exact f _ h _ c hb
 |more h c hb _ ih=>intro f;exact ih fun m g k d b=>hc _ _ g (f _ h _ c hb) k d b
def gS(g:G)(D:Nat→Prop)(H H':ab):Prop:=∀k,D k→jI g H H' k
theorem gS.ca{H H':ab}(h:gS .grow (fun k=>k<H.size) H H'):aq [] H H':=by
 refine⟨?_,fun k a _=>h k a⟩;rcases Nat.eq_zero_or_pos H.size with h0|h0
 ·omega
 ·have:H'[H.size-1]? =H[H.size-1]? :=h (H.size-1) (by show H.size-1<H.size;omega);rw[Array.getElem?_eq_getElem (by omega:H.size-1<H.size)]at this;have:=(Array.getElem?_eq_some_iff.1 this).1;omega
def mV(P:Program)(ops:Array Oper)(Q:Exit→Act→World→Prop)(late:Nat→Bool)(g:G):Nat→(Nat→Prop)→Array Bool→Act→World→Prop
 |0,_,b,a,w=>Region.ready .any ops b=[]∧Q .normal a w
 |fuel+1,d,b,a,w=>(Region.ready .any ops b=[]→Q .normal a w)∧
  ∀i∈Region.ready .any ops b,wpOp P ops Q i (fun f e=>∃c,(late i=true∨(gS g d w.heap e.heap∧∀k,d k→c k))∧mV P ops Q late g fuel c (b.setIfInBounds i true) f e) a w
theorem BP{g:G}:∀(fuel:Nat) (d:Nat→Prop) (b:Array Bool) (a:Act) (w:World),mV P ops Q late g fuel d b a w→wpAny P .any ops Q fuel b a w
 |0,_,_,_,_,h=>h
 |fuel+1,_,_,_,_,h=>⟨h.1,fun i j=>wpOp_mono (fun e k ⟨c,_,f⟩=>BP fuel c _ e k f) (h.2 i j)⟩
theorem BH{a:Array Bool}{i:Nat}(h:a.getD i true=false):a.getD i false=false:=by
 rcases Nat.lt_or_ge i a.size with h'|h'
 ·simp[h']at h⊢;exact h
 ·simp[Array.getElem?_eq_none h']at h
theorem JL{g:G}{i:Nat}{F:Oper}{v:Value}(hi:ops[i]? =some F)(u:∀(j:Nat) (o:Oper) cs b,ops[j]? =some o→o.op≠.select cs b)
  (hQ:∀c a w,Q (.panic c) (a.put F.dst v) w→Q (.panic c) a w){w0:World}{D:Nat→Prop}{n:Prop}
  (hl:n∨∀(d:Array Bool) (j:Nat),Cl ops d→i∈Region.ready .any ops d→j∈Region.ready .any ops d→d.getD i false=false→j≠i→late j=false):
  ∀(fuel:Nat) (x:Nat→Prop) (d:Array Bool) (a:Act) (w:World),Cl ops d→
   (∀j I,ops[j]? =some I→j≠i→d.getD j true=false→(∀e∈I.after,Region.binds .any e=true→e.on≠i)→F.apart ops I=true)→
   i∈Region.ready .any ops d→YieldsIf P ops (fun w'=>n∨gS g D w0.heap w'.heap) F v a→(n∨(gS g D w0.heap w.heap∧∀k,D k→x k))→
   mV P ops Q late g fuel x (d.setIfInBounds i true) (a.put F.dst v) w→mV P ops Q late g (fuel+1) x d a w:=by
 intro fuel;induction fuel with
 |zero=>
  intro x d a w _ _ t T l H;have m:n∨gS g D w0.heap w.heap:=l.imp id (·.1);refine⟨fun h=>(by rw[h]at t;cases t),fun j J=>?_⟩;by_cases f:j=i
  ·subst f;exact T.wpOp hi m ⟨x,.inr ⟨fun _ _=>.of rfl,fun _ h=>h⟩,H⟩
  ·have:=ready_mono J f;rw[H.1]at this;cases this
 |succ fuel ih=>
  intro x d a w hc p t T l H;have m:n∨gS g D w0.heap w.heap:=l.imp id (·.1);refine⟨fun h=>(by rw[h]at t;cases t),fun j J=>?_⟩;by_cases f:j=i
  ·subst f;exact T.wpOp hi m ⟨x,.inr ⟨fun _ _=>.of rfl,fun _ h=>h⟩,H⟩
  ·have h1:=H.2 j (ready_mono J f);have r:=BH (mem_ready.1 t).1;obtain⟨s,I,E,M⟩:=mem_ready.1 J
   have O:∀e∈I.after,Region.binds .any e=true→e.on≠i:=fun e he hb W=>by
    have S:=M e he hb;rw[W,r]at S;cases S
   have S:=wpOp_putIf E (p j I E f s O) (fun cs b=>u i F cs b hi) (fun cs b=>u j I cs b E) hQ T h1
   have q:∀k ok,ops[k]? =some ok→k≠i→(d.setIfInBounds j true).getD k true=false→
     (∀e∈ok.after,Region.binds .any e=true→e.on≠i)→F.apart ops ok=true:=fun k ok K Y R Z=>by
    refine p k ok K Y ?_ Z;by_cases N:j=k
    ·subst N;exact s
    ·rw[getD_set_ne true N]at R;exact R
   refine wpOp_mono (fun a' w' h3=>?_) S;obtain⟨h4,y,z,h6⟩:=h3
   have U:n∨(gS g D w0.heap w'.heap∧∀k,D k→y k):=by
    rcases hl with hl|hl
    ·exact .inl hl
    ·rcases l with l|⟨g1,g2⟩
     ·exact .inl l
     ·rcases z with z|⟨z,h7⟩
      ·rw[hl d j hc t J r f]at z;cases z
      ·exact .inr ⟨fun k K=>(g1 k K).trans (z k (g2 k K)),fun k K=>h7 k (g2 k K)⟩
   refine⟨y,z,ih y (d.setIfInBounds j true) a' w' (hc.step J) q (ready_mono t (Ne.symm f)) h4 U ?_⟩;rw[Array.setIfInBounds_comm _ _ f];exact h6
theorem FL{bits:Array Nat}(c:∀i q,(bits.getD q 0).testBit i=true→gO ops i q){i:Nat}{t:Oper}(hi:ops[i]? =some t)(hr:bg t.op=true):
  ∀(a:Array Bool) (j:Nat),Cl ops a→i∈Region.ready .any ops a→j∈Region.ready .any ops a→a.getD i false=false→j≠i→uz ops bits j=false:=fun a j r n s p k=>by
 cases h:uz ops bits j with
 |false=>rfl
 |true=>
  have g:=(Array.getElem?_eq_some_iff.1 hi).1;have h1:=List.all_eq_true.1 h i (List.mem_range.2 g);rw[hi]at h1;simp only[hr,Bool.not_true,Bool.false_or,Bool.or_eq_true]at h1;rcases h1 with(h1|h1)|h1
  ·exact(k (Nat.eq_of_beq_eq_true h1).symm).elim
  ·obtain⟨_,v,m,b⟩:=mem_ready.1 s;have:=wE r (c i j h1) fun o d e f hb=>by rw[m]at d;cases d;exact b e f hb
   rw[p]at this;cases this
  ·obtain⟨_,u,l,b⟩:=mem_ready.1 n;have:=wE r (c j i h1) fun o d e f hb=>by rw[l]at d;cases d;exact b e f hb
   rw[BH (mem_ready.1 s).1]at this;cases this
end
def pO(tab:Nat→Option TD):Op→Bool
 | .move _| .assign _| .pick .. | .load .. | .nilCheck _| .binOp .. | .unOp .. | .build .. | .fieldAddr .. | .field .. | .indexAddr .. | .index .. | .slice .. | .extract .. | .makeFunc .. | .makeInterface .. =>true
 | .convert _ u _=>match tab u with
  |some d=>match d.kind with
   | .int _=>true
   | .str=>true
   |_=>false
  |none=>false
 | .call c=>match c.callee with
  | .builtin .len=>true
  | .builtin .max=>true
  | .builtin .min=>true
  |_=>false
 |_=>false
def vK(m:Bool)(tab:Nat→Option TD)(a:Op):Bool:=pO tab a&&(!m||gZ a)
def oN(m:Bool)(tab:Nat→Option TD)(ops:Array Oper):List Nat→Array Bool→(Array Bool→Bool)→Bool
 |[],a,D=>D a
 | i :: r, a, D => (match ops[i]? with
   |some o=>bif vK m tab o.op then Region.free .any ops a i&&(Region.ready .any ops a).contains i else Region.ready .any ops a==[i]
   |none=>false)&&oN m tab ops r (a.setIfInBounds i true) D
inductive DT where
 |l (ord:List Nat)
 |alt (ord js:List Nat) (f:Nat→DT)
def tG(m:Bool)(tab:Nat→Option TD)(ops:Array Oper):DT→Array Bool→Bool
 | .l b,a=>oN m tab ops b a fun a=>(Region.ready .any ops a).isEmpty
 | .alt b c f,a=>oN m tab ops b a fun a=> !c.isEmpty&&(Region.ready .any ops a==c)&&c.all fun j=>tG m tab ops (f j) (a.setIfInBounds j true)
def re:DT→Nat→Bool
 | .l a,n=>Nat.beq a.length n
 | .alt a b f,n=>Nat.ble (a.length+1) n&&b.all fun j=>re (f j) (n-(a.length+1))
def eR(m:Bool)(ops:Array Oper)(bits:Array Nat)(j:Nat):Bool:=m||uz ops bits j
def gV(ops:Array Oper)(late:Nat→Bool)(g:G):List Nat→List (G×Oper)
 |[]=>[]
 |i::r=>match ops[i]? with
  |some o=>(bif gZ o.op&&late i then .any else g,o)::gV ops late g r
  |none=>gV ops late g r
def tF(m:Bool)(g:G)(tab:Nat→Option TD)(ops:Array Oper)(t:DT):Bool:=
 (m||g.strict)&&re t ops.size&&Region.noSelect ops&&tG m tab ops t (Array.replicate ops.size false)
def mW(P:Nat→Prop)(l:List Nat):Prop:=
 List.rec (motive:=fun _=>Prop) True (fun j r ih=>List.rec (motive:=fun _=>Prop) (P j) (fun _ _ _=>P j∧ih) r) l
theorem mW.get{P:Nat→Prop}:∀{l:List Nat},mW P l→∀j∈l,P j
 |[],_,j,h=>by cases h
 |[i],h,j,hj=>by simp at hj;subst hj;exact h
 |i::k::r,h,j,hj=>by
  have h:P i∧mW P (k::r):=h;rcases List.mem_cons.1 hj with rfl|hj
  ·exact h.1
  ·exact mW.get h.2 j hj
def XT(c:dn)(ops:Array Oper)(late:Nat→Bool)(g:G)(k:St→Prop)(b:A→St→Prop)(t:DT):St→Prop:=
 DT.rec (motive:=fun _=>St→Prop) (fun a s=>Xl c ops (gV ops late g a) s k b)
  (fun a d _ ih s=>Xl c ops (gV ops late g a) s (fun s=>mW (fun j=>Xl c ops (gV ops late g [j]) s (fun s=>ih j s) b) d) b) t
section
variable {c:dn} {r:jH} {o:Oper}
theorem IV{tab:Nat→Option TD}{s:St}{a:Op}(h:pO tab a=true):ur tab s a=false∧(∀x,a≠.panic x)∧(∀m as g,a≠.call ⟨.value m,as,g⟩):=by
 cases a with
 |convert t u x=>
  refine⟨?_,(fun _ h=>by cases h),(fun _ _ _ h=>by cases h)⟩;simp only[ur];simp only[pO]at h;cases k:tab u with
  |none=>rw[k]at h;cases h
  |some d=>
   rw[k]at h;simp only[]at h;cases o:aO s x with
   |c y=>
    cases y with
    |str l=>
     simp only[];cases j:d.kind with
     |sl e=>rw[j]at h;cases h
     |_=>rfl
    |rw l=>
     simp only[];cases j:d.kind with
     |sl e=>rw[j]at h;cases h
     |_=>rfl
    |_=>rfl
   |_=>rfl
 |call cl=>
  obtain⟨i,as,g⟩:=cl;cases i with
  |builtin b=>cases b<;>first|(cases h;done)|exact⟨rfl,(fun _ h=>by cases h),(fun _ _ _ h=>by cases h)⟩
  |value f=>cases h
  |invoke f n=>cases h
 |_=>first|(cases h;done)|exact⟨rfl,(fun _ h=>by cases h),(fun _ _ _ h=>by cases h)⟩
theorem Ca{g:G}{s:St}{k:St→Prop}{m:A→St→Prop}(l:pO c.tab o.op=true)(h:Xo c g o s k m):g.mem o.op s=true∧Y1 c.tab s o.op (fun x=>ib c.n s o.dst x k):=by
 obtain⟨f,i,j⟩:=IV (s:=s) l;unfold Xo at h;split at h
 ·rename_i x a;exact(i x a).elim
 ·rename_i e as b a;exact(j e as b a).elim
 ·rcases ja h with⟨d,_⟩|⟨_,h⟩
  ·rw[f]at d;cases d
  ·exact bM h
def sB(K:XE→St→Prop):Prop:=∀x s,K (.cR x) s→K (.cR x) ⟨[],s.ah⟩
def nE(K:XE→St→Prop):XE→St→Prop
 | .cR x,s=>K (.cR x) ⟨[],s.ah⟩
 |e,s=>K e s
theorem B6{K:XE→St→Prop}(m:sB K){b:List PanicEntry}{a:Act}{w:World}{d:Option Nat}{v:Value}(h:Qk c r K (.panic b) (a.put d v) w):Qk c r K (.panic b) a w:=by
 obtain⟨n,x,s,e,f,F,γ,g,i,j,k,o,l⟩:=h;refine⟨n,x,⟨[],s.ah⟩,e,m _ _ f,F,γ,?_,?_,j,k,(fun t x h=>by cases h),l⟩
 ·cases d<;>simpa[Act.put]using g
 ·cases d<;>simpa[Act.put]using i
abbrev pW(c:dn)(ops:Array Oper)(Q:Exit→Act→World→Prop)(late:Nat→Bool)(g:G)(r:jH)(F:Nat→Prop)(γ:List Value)(s:St)(fuel:Nat)(b:Array Bool)(a:Act)(w:World):Prop:=
 mV c.P ops Q late g fuel (fH g r.E F γ s.ah w.heap) b a w
theorem wz(O:bo c.P c.tab){ops:Array Oper}{late:Nat→Bool}{g:G}(hg:(∀i,late i=true)∨g.strict=true){k:St→Prop}{K:XE→St→Prop}{j:Nat}{s:St}{F:Nat→Prop}{γ:List Value}{a:Act}{w:World}{R:(Nat→Prop)→Act→World→Prop}(ho:ops[j]? =some o)
  (h:Xl c ops (gV ops late g [j]) s k (fun v s=>K (.cR v) s))(S:fJ c r F γ s .undef undef a w)(H:∀F γ s a w,k s→fJ c r F γ s .undef undef a w→R (fH g r.E F γ s.ah w.heap) a w):
  wpOp c.P ops (Qk c r K) j (fun E w'=>∃e,(late j=true∨(gS g (fH g r.E F γ s.ah w.heap) w.heap w'.heap∧∀q,fH g r.E F γ s.ah w.heap q→e q))∧R e E w') a w:=by
 simp only[gV,ho]at h;unfold wpOp;simp only[ho];rcases sH (sI h) S with⟨y,T,m,l,b⟩|⟨y,T,m,l,b⟩
 ·rw[if_pos y];refine .inl (Oper.wp_mono (fun E w' ⟨I,D,z,n,d,u⟩=>⟨_,?_,H I D z _ _ n d⟩) (wq O m b (fun U a w h=>h)));cases t:late j with
  |true=>exact .inl rfl
  |false=>
   rcases hg with hg|hg
   ·rw[hg j]at t;cases t
   ·rw[t,Bool.and_false]at u;rw[←l];exact .inr ⟨fun q f=>(u hg q f).1,fun q f=>(u hg q f).2⟩
 ·rw[if_neg (by rw[y];simp)];obtain⟨Q,p,M,P,N,_⟩:=b;obtain⟨z,n,J,d⟩:=mJ (x:= .off) (v:=undef) m Q p M P N rfl;exact⟨_,.inr ⟨fun _ _=>.of rfl,fun q f=>by rw[J,l];exact f⟩,H F γ z _ _ n d⟩
theorem Gk(l:bo c.P c.tab){g:G}{s:St}{k:A→Prop}{F:Nat→Prop}{γ:List Value}{a:Act}{w:World}(hg:g.strict=true)(z:pO c.tab o.op=true)(i:ER F w.heap ⟨r.E.B,γ⟩ s.env a)(m:WR r.E F γ s.ah w.heap)
  (hm:g.mem o.op s=true)(h:Y1 c.tab s o.op k):∃v x,k x∧RA F w.heap ⟨r.E.B,γ⟩ x v∧∀w':World,(gZ o.op=true∨gS g (fH g r.E F γ s.ah w.heap) w.heap w'.heap)→(execOp a.eval o).run c.P w'= .ok (.value v) w':=by
 cases j:gZ o.op with
 |true=>
  obtain⟨v,x,d,e,f⟩:=p8 l i m h;exact⟨v,x,d,e,fun w' _=>f w' (.inl j)⟩
 |false=>
  cases g with
  |any=>cases hg
  |grow=>
   obtain⟨v,x,d,e,f⟩:=p8 l i m h;exact⟨v,x,d,e,fun w' n=>f w' (.inr (gS.ca (n.resolve_left (by simp))))⟩
  |eF p=>
   generalize q:o.op=E at hm h j;cases E with
   |load t x=>
    obtain⟨b,hb,D⟩:=J3 (pl:=p) l i m q h hm;obtain⟨v,y,d,e,f⟩:=D;exact⟨v,y,d,e,fun w' n=>f w' (n.resolve_left (by simp) b hb)⟩
   |convert t u x=>cases hm
   |_=>cases j
theorem wo(hT:bo c.P c.tab){K:XE→St→Prop}(hK:sB K){ops:Array Oper}{bits:Array Nat}{m:Bool}{g:G}(hg:(m||g.strict)=true)(E:∀i q,(bits.getD q 0).testBit i=true→gO ops i q)(S:Region.noSelect ops=true){k:St→Prop}{D:Array Bool→Bool}{fuel:Nat}
  (hk:∀(b:Array Bool) (F:Nat→Prop) (γ:List Value) (s:St) (a:Act) (w:World),Cl ops b→D b=true→k s→fJ c r F γ s .undef undef a w→pW c ops (Qk c r K) (eR m ops bits) g r F γ s fuel b a w):
  ∀(ord:List Nat) (b:Array Bool) (F:Nat→Prop) (γ:List Value) (s:St) (a:Act) (w:World),Cl ops b→oN m c.tab ops ord b D=true→Xl c ops (gV ops (eR m ops bits) g ord) s k (fun v s=>K (.cR v) s)→fJ c r F γ s .undef undef a w→
   pW c ops (Qk c r K) (eR m ops bits) g r F γ s (fuel+ord.length) b a w:=by
 have ac:(∀i,eR m ops bits i=true)∨g.strict=true:=by
  rw[Bool.or_eq_true]at hg;exact hg.imp (fun h i=>by unfold eR;rw[h];rfl) id
 intro ord;induction ord with
 |nil=>
  intro b F γ s a w N U h W;exact hk b F γ s a w N U h W
 |cons i ord ih=>
  intro b F γ s a w N U h W;simp only[oN,Bool.and_eq_true]at U;obtain⟨d,O⟩:=U;cases z:ops[i]? with
  |none=>rw[z]at d;cases d
  |some o=>
   rw[z]at d;have h0:=h;simp only[gV,z]at h;simp only[]at d;by_cases t:vK m c.tab o.op=true
   ·rw[t]at d;simp only[cond_true,Bool.and_eq_true]at d;obtain⟨I,p⟩:=d;have f:i∈Region.ready .any ops b:=by simpa using p
    have e:=t;unfold vK at e;rw[Bool.and_eq_true,Bool.or_eq_true,Bool.not_eq_true']at e
    have aC:∃v,YieldsIf c.P ops (fun l=>gZ o.op=true∨gS g (fH g r.E F γ s.ah w.heap) w.heap l.heap) o v a∧∃u,u.ah=s.ah∧Xl c ops (gV ops (eR m ops bits) g ord) u k (fun v s=>K (.cR v) s)∧fJ c r F γ u .undef undef (a.put o.dst v) w:=by
     rcases sH (sI h) W with⟨hw,s1,h1,T,hn,H,hA,M,J,_⟩|⟨hw,s1,h1,T,hn,H,hA,M,J,_⟩
     ·suffices hh:∃v x,ib c.n s1 o.dst x (fun s=>Xl c ops (gV ops (eR m ops bits) g ord) s k (fun v s=>K (.cR v) s))∧RA F w.heap ⟨r.E.B,γ⟩ x v∧∀l:World,(gZ o.op=true∨gS g (fH g r.E F γ s.ah w.heap) w.heap l.heap)→(execOp a.eval o).run c.P l= .ok (.value v) l by
       obtain⟨v,x,al,hx,Q⟩:=hh;obtain⟨u,g1,Z,g2⟩:=mJ al hn H hA M J hx;exact⟨v,.inl ⟨hw,fun l h=>Q l h⟩,u,by rw[Z,T],g1,g2⟩
      obtain⟨P,Y⟩:=Ca e.1 h1;cases y:gZ o.op with
      |true=>
       obtain⟨v,x,q1,q2,q3⟩:=p8 hT J M Y;exact⟨v,x,q1,q2,fun l _=>q3 l (.inl y)⟩
      |false=>
       have am:m=false:=e.2.resolve_right (by rw[y];simp);have ad:g.strict=true:=by rw[am]at hg;exact hg
       rw[y,Bool.false_and,cond_false]at P;have:=Gk (r:=r) hT ad e.1 J M P Y;rw[y,T]at this;exact this
     ·obtain⟨u,g1,Z,g2⟩:=mJ (x:= .off) (v:=undef) h1 hn H hA M J rfl;exact⟨undef,.inr ⟨hw,rfl⟩,u,by rw[Z,T],g1,g2⟩
    obtain⟨v,Y,u,e',h',ap⟩:=aC;refine JL (w0:=w) (D:=fH g r.E F γ s.ah w.heap) (n:=gZ o.op=true) (v:=v) (g:=g) z (Region.noSelect_spec S) (fun ch a w h=>B6 hK h) ?_ _ _ b a w N (Region.free_spec z I) f Y (.inr ⟨fun _ _=>.of rfl,fun _ h=>h⟩) (by have:=ih _ F γ u _ _ (N.step f) O h' ap;unfold pW at this;rw[e']at this;exact this);by_cases y:gZ o.op=true
    ·exact .inl y
    ·have hm:m=false:=e.2.resolve_right y;subst hm;exact .inr (FL E z (by simp[bg,y]))
   ·rw[Bool.not_eq_true]at t;rw[t]at d;simp only[cond_false]at d;have p:Region.ready .any ops b=[i]:=by simpa using d
    have f:i∈Region.ready .any ops b:=by rw[p];simp
    refine⟨fun h0=>(by rw[p]at h0;cases h0),fun j hj=>?_⟩;rw[p]at hj;obtain rfl:j=i:=by simpa using hj
    refine wz (late:=eR m ops bits) (g:=g) (k:=fun s=>Xl c ops (gV ops (eR m ops bits) g ord) s k (fun v s=>K (.cR v) s)) (R:=fun Pr a' l=>mV c.P ops (Qk c r K) (eR m ops bits) g (fuel+ord.length) Pr (b.setIfInBounds j true) a' l) hT ac z ?_ W (fun F2 aT s2 a' l h2 ar=>ih _ F2 aT s2 _ _ (N.step f) O h2 ar);simp only[gV,z];exact h
theorem B8(N:bo c.P c.tab){K:XE→St→Prop}(W:sB K){ops:Array Oper}{bits:Array Nat}{m:Bool}{g:G}(hg:(m||g.strict)=true)(e:∀i q,(bits.getD q 0).testBit i=true→gO ops i q)(p:Region.noSelect ops=true){k:St→Prop}(hk:∀s,k s→K .normal s):
  ∀(t:DT) (n:Nat) (b:Array Bool) (F:Nat→Prop) (γ:List Value) (s:St) (a:Act) (w:World),re t n=true→Cl ops b→tG m c.tab ops t b=true→XT c ops (eR m ops bits) g k (fun v s=>K (.cR v) s) t s→fJ c r F γ s .undef undef a w→
   pW c ops (Qk c r K) (eR m ops bits) g r F γ s n b a w:=by
 have P:(∀i,eR m ops bits i=true)∨g.strict=true:=by
  rw[Bool.or_eq_true]at hg;exact hg.imp (fun h i=>by unfold eR;rw[h];rfl) id
 intro t;induction t with
 |l d=>
  intro n b F γ s a w H E O h z;obtain rfl:=Nat.eq_of_beq_eq_true H;have:=wo (r:=r) (K:=K) (D:=fun b=>(Region.ready .any ops b).isEmpty) (fuel:=0) N W hg e p (fun b F γ s a w _ I y z=>⟨by simpa using I,s,hk s y,F,γ,z⟩) d b F γ s a w E O h z;rw[Nat.zero_add]at this;exact this
 |alt d js f ih=>
  intro n b F γ s a w H E O h z;simp only[re,Bool.and_eq_true]at H;have ac:=Nat.le_of_ble_eq_true H.1;have:=wo (r:=r) (K:=K) (fuel:=n-(d.length+1)+1) N W hg e p (fun b F γ s a w E I y z=>?_) d b F γ s a w E O h z
  ·rw[show n-(d.length+1)+1+d.length=n by omega]at this;exact this
  ·rw[Bool.and_eq_true,Bool.and_eq_true,beq_iff_eq]at I;obtain⟨⟨J,u⟩,M⟩:=I;refine⟨fun h0=>?_,fun j Q=>?_⟩
   ·rw[h0]at u;subst u;cases J
   ·have x:j∈js:=by rw[←u];exact Q
    obtain⟨_,o,ho,_⟩:=mem_ready.1 Q;refine wz (g:=g) (R:=fun Pr U Y=>mV c.P ops (Qk c r K) (eR m ops bits) g (n-(d.length+1)) Pr (b.setIfInBounds j true) U Y) N P ho (mW.get y j x) z (fun Z T s2 U Y h2 S=>?_);exact ih j _ _ Z T s2 _ _ (List.all_eq_true.1 H.2 j x) (E.step Q) (List.all_eq_true.1 M j x) h2 S
theorem xS(N:bo c.P c.tab)(hm:c.P.follows .mixedOrders=true){id:Nat}{ops:Array Oper}{m:Bool}{g:G}{t:DT}{K:XE→St→Prop}(hd:tF m g c.tab ops t=true){s:St}{a:Act}{w:World}
  (h:XT c ops (eR m ops (nj ops.toList #[])) g (K .normal) (fun v s=>K (.cR v) ⟨[],s.ah⟩) t s)(R:SR c r s .undef undef a w):(Code.region id ops true).wp c.P (Qk c r K) a w:=by
 refine Code.wp_mono (Q:=Qk c r (nE K)) (fun e a w f=>?_) ?_
 ·cases e with
  |panic T=>obtain⟨v,x,s,l,n,F,γ,p,E,H,I,U,J⟩:=f;exact⟨v,x,⟨[],s.ah⟩,l,n,F,γ,p,E,H,I,(fun t x h=>by cases h),J⟩
  |_=>exact f
 simp only[tF,Bool.and_eq_true]at hd;obtain⟨⟨⟨D,l⟩,n⟩,p⟩:=hd;obtain⟨F,γ,P,u,d,O,M,S⟩:=R;refine wp_region_any hm (BP (late:=eR m ops (nj ops.toList #[])) (g:=g) _ (fH g r.E F γ s.ah w.heap) _ _ _ ?_);have z:fJ c r F γ s .undef undef a {w with drawn:=w.drawn+1}:=⟨P,u,⟨d.os,d.tape,d.output,fun h=>Nat.le_succ_of_le (d.drawn h)⟩,O,M,S⟩;refine B8 N (K:=nE K) (fun _ _ h=>h) D (w6 _ _ (fun q o f=>by simpa using f) (fun i q h=>by simp at h)) n (fun s h=>h) t _ _ F γ s a _ l (fun j Y W b=>?_) p h z;exfalso;simp only[Array.getD_eq_getD_getElem?]at b;rcases Nat.lt_or_ge j ops.size with y|hge
 ·rw[Array.getElem?_eq_getElem (by simpa using y)]at b;simp at b
 ·rw[Array.getElem?_eq_none (by simpa using hge)]at b;simp at b
end
end Go.AM
end
section
namespace Go.AM
open Go Go.NB
def kx:Nat→List Rn→Nat→Bool
 |_,_,0=>true
 |i,.same j::r,n+1=>Nat.beq i j&&kx (i+1) r n
 |_,_,_=>false
theorem ud:∀{n i:Nat} {ρ:List Rn},kx i ρ n=true→∀q,q<n→ρ[q]? =some (.same (i+q))
 |0,_,_,_,q,h=>by omega
 |n+1,i,.same j::r,h,q,a=>by
  simp only[kx,Bool.and_eq_true]at h;obtain rfl:=Nat.eq_of_beq_eq_true h.1;cases q with
  |zero=>rfl
  |succ q=>
   have:=ud h.2 q (by omega);rw[List.getElem?_cons_succ,this];congr 2
   omega
 |n+1,i,[],h,_,_=>by cases h
 |n+1,i,.new::_,h,_,_=>by cases h
 |n+1,i,.cut .. ::_,h,_,_=>by cases h
def mE(ah:List B)(ρ:List Rn)(a:List (Nat×A)):List (Nat×A)→Prop
 |[]=>True
 | (t, x) :: r => (match lk a t with
  |some b=>mA (fun _=>false) ah ρ b x
  |none=>match x with
   | .undef=>True
   |_=>False)∧mE ah ρ a r
def le(n0:Nat)(js:List Nat)(ρ:List Rn)(s t:St):Prop:=
 bif kx 0 ρ n0&&eg (cF ρ t.ah)then mE (a7 js s.ah) ρ s.env t.env∧kF (fun _=>false) (a7 js s.ah) ρ ρ t.ah else False
def LE(n0:Nat)(s t:St):Prop:=∃a ρ,le n0 a ρ s t
def lex(n0:Nat)(js:List Nat)(ρ:List Rn)(ah:List B)(a x:A)(tah:List B):Prop:=
 bif kx 0 ρ n0&&eg (cF ρ tah)then mA (fun _=>false) (a7 js ah) ρ a x∧kF (fun _=>false) (a7 js ah) ρ ρ tah else False
def BW{ι:Type}(n0:Nat)(I:ι→St)(inv:ι→Prop)(m:ι→Nat)(lt:Nat)(s:St):Prop:=∃y,(inv y∧m y<lt)∧LE n0 s (I y)
abbrev Mn:Type 1:=St→(XE→St→Prop)→Prop
def BQ:Mn:=fun s K=>K .normal s
def JR:Mn:=fun s K=>K .ret s
def JO(id:Nat):Mn:=fun s K=>K (.exit id) s
def sj:Mn:=fun _ _=>False
def JS(x y:Mn):Mn:=fun s K=>x s fun e a=>match e with
  | .normal=>y a K
  |e=>K e a
def JN(id:Nat)(b:Mn):Mn:=fun s K=>b s fun e a=>match e with
  | .exit i=>bif Nat.beq i id then K .normal a else K (.exit i) a
  |e=>K e a
def wg(x:Operand)(a b:Mn):Mn:=fun s K=>match aO s x with
  | .c (.bool q)=> @Bool.rec (fun _=>Prop) (b s K) (a s K) q
  |_=>False
def JP(n0:Nat)(b:Mn):Mn:=fun s K=>∃(a:Type) (I:a→St) (inv:a→Prop) (m:a→Nat),(∃y,inv y∧LE n0 s (I y))∧∀x,inv x→b (I x) fun e c=>match e with
  | .normal=>BW n0 I inv m (m x) c
  |e=>K e c
def JQ(c:dn)(ops:Array Oper)(draw:Bool):Mn:=fun s K=>bif draw then∃m g t,tF m g c.tab ops t=true∧(XT c ops (eR m ops (nj ops.toList #[])) g (K .normal) (fun v s=>K (.cR v) ⟨[],s.ah⟩) t s∨∃(a:Type) (I:a→St) (J:a→Prop),XT c ops (eR m ops (nj ops.toList #[])) g (fun b=>∃i,J i∧LE c.n0 b (I i)) (fun v s=>K (.cR v) ⟨[],s.ah⟩) t s∧∀i,J i→K .normal (I i))
   else Xl c ops (ops.toList.map fun o=>(G.any,o)) s (K .normal) (fun v s=>K (.cR v) s)
def X(c:dn)(code:Code):Mn:=
 Code.rec (motive:=fun _=>Mn) BQ (fun _ ops draw=>JQ c ops draw) (fun _ _ x y=>JS x y) (fun x _ _ a b=>wg x a b) (fun id _ b=>JN id b) (fun _ b=>JP c.n0 b)
  (fun _ _ _ _ _ _=>sj) JO (fun _ _=>sj) (fun _=>BQ) (fun _=>sj) JR (fun _=>sj) code
section
variable {c:dn} {r:jH}
theorem zN{E:En}{F:Nat→Prop}{γ:List Value}{ah:List B}{H:ab}{ρ:List Rn}{b:List (Nat×A)}{a:Act}(j:∀f x v,mA (fun _=>false) ah ρ f x→RA F H ⟨E.B,γ⟩ f v→RA F H ⟨E.B,ρ.map (bI γ)⟩ x v)(i:ER F H ⟨E.B,γ⟩ b a):
  ∀{env:List (Nat×A)},mE ah ρ b env→ER F H ⟨E.B,ρ.map (bI γ)⟩ env a
 |[],_=>fun t x h=>by cases h
 |(t,x)::n,⟨d,l⟩=>fun k m c=>by
  unfold lk at c;by_cases e:Nat.beq t k=true
  ·rw[e]at c;cases c;obtain rfl:=Nat.eq_of_beq_eq_true e;split at d
   ·rename_i f g;exact j _ _ _ d (i t f g)
   ·split at d
    ·trivial
    ·exact d.elim
  ·rw[Bool.not_eq_true]at e;rw[e]at c;exact zN j i l k m c
theorem rh{E:En}{F:Nat→Prop}{γ:List Value}{ah:List B}{H:ab}{js:List Nat}{ρ:List Rn}{f x:A}{tah:List B}{v:Value}(hn:E.γ0.length=c.n0)(o:WR E F γ ah H)(q:RA F H ⟨E.B,γ⟩ f v)(h:lex c.n0 js ρ ah f x tah):
  ∃F' γ',WR E F' γ' tah H∧RA F' H ⟨E.B,γ'⟩ x v:=by
 obtain⟨e,m,n⟩:=bM h;rw[Bool.and_eq_true]at e;obtain⟨k,d,a⟩:=oU (js:=js) o;have hid:=ud e.1;obtain⟨l,_⟩:=weaken a n e.2 (fun i p=>by have:=hid i (by rw[←hn];exact p);rw[Nat.zero_add]at this;exact this);exact⟨k,_,l,uM a (fun _ h=>h) (fun j b g h=>by cases h) m (q.ext (ll d))⟩
theorem ot(hn:r.E.γ0.length=c.n0){s t:St}{a:Act}{w:World}(h:LE c.n0 s t)(H:SR c r s .undef undef a w):SR c r t .undef undef a w:=by
 obtain⟨k,ρ,h⟩:=h;obtain⟨F,γ,p,q,u,z,y,_⟩:=H;obtain⟨f,m,n⟩:=bM h;rw[Bool.and_eq_true]at f;obtain⟨l,e,d⟩:=oU (js:=k) z;have hid:=ud f.1;obtain⟨o,_⟩:=weaken d n f.2 (fun i D=>by have:=hid i (by rw[←hn];exact D);rw[Nat.zero_add]at this;exact this);exact⟨l,_,p,q,u,o,zN (fun I x v h E=>uM d (fun _ h=>h) (fun j b g h=>by cases h) h E) (y.ext (ll e)) m,trivial⟩
theorem sG(Z:bo c.P c.tab)(hm:c.P.follows .mixedOrders=true)(hn:r.E.γ0.length=c.n0):∀(code:Code) (s:St) (K:XE→St→Prop) (a:Act) (w:World),X c code s K→SR c r s .undef undef a w→code.wp c.P (Qk c r K) a w:=by
 intro code;induction code with
 |skip=>intro s K a w h d;exact wp_skip ⟨s,h,d⟩
 |label l=>intro s K a w h d;exact wp_label ⟨s,h,d⟩
 |exit id=>intro s K a w h d;exact wp_exit ⟨s,h,d⟩
 |ret=>intro s K a w h d;exact wp_ret ⟨s,h,d⟩
 |seq x y ar E=>
  intro s K a w h d;refine wp_seq (Code.wp_mono (fun e a w f=>?_) (ar s _ a w h d));cases e with
  |normal=>obtain⟨H,u,j⟩:=f;exact E H K a w u j
  |exit id=>exact f
  |goto l=>exact f
  |ret=>exact f
  |panic M=>exact f
  |outgrown=>exact f
 |block id b ih=>
  intro s K a w h d;refine wp_block (Code.wp_mono (fun e a w f=>?_) (ih s _ a w h d));cases e with
  |normal=>exact f
  |exit i=>
   obtain⟨H,u,j⟩:=f;show(if i=id then Qk c r K .normal a w else Qk c r K (.exit i) a w);rcases ja u with⟨e,u⟩|⟨e,u⟩
   ·rw[if_pos (Nat.eq_of_beq_eq_true e)];exact⟨H,u,j⟩
   ·rw[if_neg (fun h=>by subst h;simp at e)];exact⟨H,u,j⟩
  |goto l=>exact f
  |ret=>exact f
  |panic M=>exact f
  |outgrown=>exact f
 |cond x y z E aC=>
  intro s K a w h d;have h:wg x (X c y) (X c z) s K:=h;unfold wg at h;split at h
  ·rename_i q hx;have j:=d;obtain⟨F,γ,Y,R,h3,hW,hE,_⟩:=j;have hc:=aY hE hx;generalize hv:a.eval x=v at hc;cases hc with
   |bool _=>
    refine wp_cond_split hv (fun hb=>?_) (fun hb=>?_)
    ·subst hb;exact E s K a w h d
    ·subst hb;exact aC s K a w h d
  ·exact h.elim
 |loop n ih=>
  intro s K a w h d;obtain⟨ι,I,inv,m,⟨y0,ad,N⟩,t⟩:=h;intro b k U
  have aT:∀(q:Nat) (y:ι) (a:Act) (w:World),m y=q→inv y→SR c r (I y) .undef undef a w→
    ∃e O S,Qk c r K e O S∧Arrives c.P (lone (b.at a (.code n:: .inLoop n::k)) U w) b k U e O S:=by
   intro q;induction q using Nat.strongRecOn with
   |_ q ap=>
    intro y a w f hi d;obtain⟨ex,P,T,p,o⟩:=ih (I y) _ a w (t y hi) d b (.inLoop n::k) U;cases ex with
    |normal=>
     obtain⟨H,⟨y',⟨ac,a0⟩,al⟩,j⟩:=p;obtain⟨W,a2,w2,am,D⟩:=ap (m y') (by omega) y' P T rfl ac (ot hn al j);exact⟨W,a2,w2,am,.of_steps (Steps.trans o (.one step_inLoop)) D⟩
    |exit id=>exact⟨.exit id,P,T,p,.pass (x:= .inLoop n) rfl (fun _ _=>.inl (by simp)) o⟩
    |goto l=>exact p.elim
    |ret=>exact⟨.ret,P,T,p,.pass (x:= .inLoop n) rfl (fun _ _=>.inl (by simp)) o⟩
    |panic M=>exact⟨.panic M,P,T,p,.pass (x:= .inLoop n) rfl (fun _ _=>.inl (by simp)) o⟩
    |outgrown=>exact p.elim
  obtain⟨e,O,S,f,o⟩:=aT _ y0 a w rfl ad (ot hn N d);exact⟨e,O,S,f,.of_steps (.one step_loop) o⟩
 |region id ops draw=>
  intro s K a w h d;cases draw with
  |true=>
   obtain⟨m,g,a3,Y,R|⟨ι,I,J,R,h3⟩⟩:=h
   ·exact xS Z hm Y R d
   ·refine Code.wp_mono (fun e a w f=>?_) (xS (K:=fun e s=>match e with| .normal=>∃i,J i∧LE c.n0 s (I i)|e=>K e s) Z hm Y R d);cases e with
    |normal=>obtain⟨H,⟨i,hi,hl⟩,j⟩:=f;exact⟨I i,h3 i hi,ot hn hl j⟩
    |exit id=>exact f
    |goto l=>exact f
    |ret=>exact f
    |panic M=>exact f
    |outgrown=>exact f
  |false=>
   have:=B9 Z (ops:=ops) (Q:=Qk c r K) (fun s a w hk d=>⟨s,hk,d⟩) (fun M a w h=>h) ops.toList s a w h d;have e:ops=ops.toList.toArray:=by simp
   rw[e];rw[e]at this;exact wp_region_lit (by simpa using this)
 |_=>intro s K a w h d;exact h.elim
structure XM(c:dn)(code:Code)(s:St)(K:XE→St→Prop):Prop where
 ok:bo c.P c.tab→c.P.follows .mixedOrders=true→∀r:jH,r.E.γ0.length=c.n0→∀(a:Act) (w:World),SR c r s .undef undef a w→code.wp c.P (Qk c r K) a w
theorem XM.of{c:dn}{code:Code}{s:St}{K:XE→St→Prop}(h:X c code s K):XM c code s K:=⟨fun b d r e a w f=>sG b d e code s K a w h f⟩
theorem XM.le{c:dn}{code:Code}{s t:St}{K:XE→St→Prop}(js:List Nat)(ρ:List Rn)(hl:AM.le c.n0 js ρ s t)(h:XM c code t K):XM c code s K:=
 ⟨fun d e r b a w f=>h.ok d e r b a w (ot b ⟨js,ρ,hl⟩ f)⟩
theorem XM.seq {c : dn} {x y : Code} {s : St} {K : XE → St → Prop} (h : X c x s fun e f => match e with | .normal => XM c y f K | e => K e f) : XM c (.seq x y) s K := ⟨fun g i r j a w m=>by
 refine wp_seq (Code.wp_mono (fun e a w b=>?_) (sG g i j x s _ a w h m));cases e with
 |normal=>obtain⟨f,k,d⟩:=b;exact k.ok g i r j a w d
 |exit id=>exact b
 |goto l=>exact b
 |ret=>exact b
 |panic n=>exact b
 |outgrown=>exact b⟩
theorem XM.join{c:dn}{x y:Code}{s:St}{K:XE→St→Prop}{ι:Type}(I:ι→St)(J:ι→Prop)(h:X c x s fun e g=>match e with| .normal=>∃i,J i∧LE c.n0 g (I i)|e=>K e g)
  (h2 : ∀ i, J i → XM c y (I i) K) : XM c (.seq x y) s K := ⟨fun j k r d a w o=>by
 refine wp_seq (Code.wp_mono (fun e a w b=>?_) (sG j k d x s _ a w h o));cases e with
 |normal=>obtain⟨g,⟨i,m,n⟩,f⟩:=b;exact(h2 i m).ok j k r d a w (ot d n f)
 |exit id=>exact b
 |goto l=>exact b
 |ret=>exact b
 |panic p=>exact b
 |outgrown=>exact b⟩
def vr(d:TD)(cs:List C):Option A:=bif Nat.ble d.size cs.length then(bif d.agg then some (.st (cs.take d.size))else match cs with|x::_=>some (.c x)|[]=>none)else none
def nZ(tab:Nat→Option TD)(s:St):List ResultVar→Option (List A)
 |[]=>some []
 | .tmp t::r=>(nZ tab s r).map ((lk s.env t).getD .undef:: ·)
 | .cell x t::r=>match lk s.env x,tab t with
  |some (.c (.ptr j o)),some d=>match s.ah[j]? with
   |some (.box a _)=>match vr d (a.drop o),nZ tab s r with
    |some y,some b=>some (y::b)
    |_,_=>none
   |_=>none
  |_,_=>none
def comp:A→Option (Bool×List C)
 | .c x=>some (false,[x])
 | .st a=>some (true,a)
 |_=>none
def oK:List A→Option (List (Bool×List C))
 |[]=>some []
 |x::r=>match comp x,oK r with
  |some y,some a=>some (y::a)
  |_,_=>none
def AR:List A→Option A
 |[x]=>some x
 |xs=>(oK xs).map .aC
def ou(c:dn)(fn:Func)(Q:Out→List B→Prop)(s:St):Prop:=match nZ c.tab s fn.results.toList with
 |some d=>match AR d with
  |some a=>tS a fun a=>iA s.ah fun ah=>∃b ρ x tah,lex c.n0 b ρ ah a x tah∧(eK x&&tah.all eZ)=true∧Q (.ret x) tah
  |none=>False
 |none=>False
def B4(c:dn)(Q:Out→List B→Prop)(b:A)(s:St):Prop:=∃a ρ x tah,lex c.n0 a ρ s.ah b x tah∧(eK x&&tah.all eZ)=true∧Q (.cR x) tah
def Kf(c:dn)(fn:Func)(Q:Out→List B→Prop):XE→St→Prop
 | .normal,s=>ou c fn Q s
 | .ret,s=>ou c fn Q s
 | .cR x,s=>B4 c Q x s
 | .exit _,_=>False
def ni:Nat→List A→List (Nat×A)
 |_,[]=>[]
 |i,x::r=>(i,x)::ni (i+1) r
theorem xC{F:Nat→Prop}{H:ab}{m:Md}:∀{xs:List A} {ts:List (Bool×List C)} {vs:List Value},oK xs=some ts→dU F H m xs vs→RT F H m ts vs
 |[],ts,[],h,_=>by cases h;trivial
 |x::xs,ts,v::vs,h,⟨d,e⟩=>by
  unfold oK at h;split at h
  ·rename_i y j a b;cases h;have:=xC b e;cases x with
   |c z=>cases a;exact⟨⟨[v],d,rfl,fun _=>rfl⟩,this⟩
   |st i=>cases a;obtain⟨g,rfl,f⟩:=d;exact⟨⟨g,f,rfl,fun h=>by cases h⟩,this⟩
   |_=>cases a
  ·cases h
theorem Hz{P:Program}{tab:Nat→Option TD}{F:Nat→Prop}{w:World}{m:Md}(i:bo P tab){t:Nat}{d:TD}(k:tab t=some d){cs:List C}{vs:List Value}{b off:Nat}(hr:RL F w.heap m cs vs)
  (hc:∀j u,vs[j]? =some u→cell w.heap b (off+j)=some u){x:A}(h:vr d cs=some x):∃v,RA F w.heap m x v∧(loadVar t ⟨b,off,none⟩).run P w= .ok v w:=by
 unfold vr at h;have o:=hr.length;by_cases a:Nat.ble d.size cs.length=true
 ·rw[a,cond_true]at h;have a:=Nat.le_of_ble_eq_true a;have c:=i.agg t d k w;cases f:d.agg with
  |true=>
   rw[f,cond_true]at h;cases h;refine⟨_,⟨_,rfl,hr.take _⟩,?_⟩;have e:(vs.take d.size).length=d.size:=by rw[List.length_take];omega
   have := run_loadCells_list (P := P) (w := w) ⟨b, off, none⟩ (vs.take d.size) (fun j v g=>by
    rw[Addr.add_lit,dA rfl];rw[List.getElem?_take]at g;split at g
    ·exact hc j v g
    ·cases g)
   rw[e]at this;rw[f]at c;simp[loadVar,c,i.size k w,this]
  |false=>
   rw[f,cond_false]at h;split at h
   ·cases h;obtain⟨v,p,rfl,l,n⟩:=hr.jC;refine⟨v,l,?_⟩;rw[f]at c;have:=hc 0 v rfl;rw[Nat.add_zero]at this;simp[loadVar,c,dA rfl,this]
   ·cases h
 ·rw[Bool.not_eq_true]at a;rw[a]at h;cases h
def pD(b:Array Value):ResultVar→Sem Value
 | .tmp t=>pure (b.getD t undef)
 | .cell a t=>do loadVar t (←asAddr (b.getD a undef))
theorem HL (fn : Func) (a : Array Value) : results fn a = (do
  let vs←fn.results.mapM (pD a)
  pure (if h:vs.size=1 then vs[0]else .tuple vs)):=by
 unfold results;congr 1
theorem vz(i:bo c.P c.tab){F:Nat→Prop}{γ:List Value}{s:St}{a:Act}{w:World}{E:En}(k:WR E F γ s.ah w.heap)(b:ER F w.heap ⟨E.B,γ⟩ s.env a):∀{l:List ResultVar} {xs:List A},nZ c.tab s l=some xs→
  ∃vs,dU F w.heap ⟨E.B,γ⟩ xs vs∧(l.mapM (pD a.tmps)).run c.P w= .ok vs w
 |[],xs,h=>by cases h;exact⟨[],trivial,by simp⟩
 | .tmp t::l,xs,h=>by
  simp only[nZ,Option.map_eq_some_iff]at h;obtain⟨O,p,rfl⟩:=h;obtain⟨vs,f,g⟩:=vz i k b p;refine⟨a.tmps.getD t undef::vs,⟨?_,f⟩,by simp[List.mapM_cons,g,pD]⟩;cases I:lk s.env t with
  |none=>trivial
  |some x=>exact b t x I
 | .cell x t::l,xs,h=>by
  simp only[nZ]at h;split at h
  ·rename_i _ _ j o d M J;split at h
   ·rename_i P hb;split at h
    ·rename_i y O N m;cases h;obtain⟨vs,f,g⟩:=vz i k b m;have n:=b x _ M;generalize K:a.tmps.getD x undef=v at n;cases n with
     |ptr H _=>
      obtain⟨Q,R,e,q,r⟩:=qn (o:=o) (k.br j _ _ hb H);cases e;obtain⟨u,z,D⟩:=Hz i J q r N;exact⟨u::vs,⟨z,f⟩,by simp[List.mapM_cons,g,pD,K,asAddr,D]⟩
    ·cases h
   ·cases h
  ·cases h
theorem sD{F:Nat→Prop}{H:ab}{m:Md}:∀{xs:List A} {vs:List Value},dU F H m xs vs→xs.length=vs.length
 |[],[],_=>rfl
 |_::_,_::_,⟨_,h⟩=>by simp[sD h]
theorem wN{F:Nat→Prop}{H:ab}{m:Md}{a:Act}:∀{xs:List A} {vs:List Value} {i:Nat},dU F H m xs vs→(∀q v,vs[q]? =some v→a.tmps.getD (i+q) undef=v)→ER F H m (ni i xs) a
 |[],[],i,_,_=>fun t x h=>by cases h
 |x::xs,v::vs,i,⟨d,f⟩,c=>fun t y b=>by
  unfold ni lk at b;by_cases e:Nat.beq i t=true
  ·rw[e]at b;cases b;obtain rfl:=Nat.eq_of_beq_eq_true e;have:=c 0 v rfl;rw[Nat.add_zero]at this;rw[this];exact d
  ·rw[Bool.not_eq_true]at e;rw[e]at b;exact wN f (fun q u g=>by have:=c (q+1) u (by simpa using g);rw[show i+1+q=i+(q+1)by omega];exact this) t y b
def sX:C→Prop
 | .str l=>l.length≤9223372036854775807
 | .ls _ _ _ l=>l.length≤9223372036854775807
 | .bs _ _ _ l=>l.length≤9223372036854775807
 |_=>True
def qj:List C→Prop
 |[]=>True
 |c::a=>sX c∧qj a
def CD:A→Prop
 | .c x=>sX x
 | .st a=>qj a
 |_=>True
def oE:List A→Prop
 |[]=>True
 |a::r=>CD a∧oE r
def ko:List B→Prop
 |[]=>True
 | .box a _::r=>qj a∧ko r
 | .row _ _ _ l::r=>l.length≤9223372036854775807∧ko r
 | .aT _ _ _ l::r=>l.length≤9223372036854775807∧ko r
 | .buf _ _ _ _ l::r=>l.length≤9223372036854775807∧ko r
 | .dead::r=>ko r
theorem SV.zr{F:Nat→Prop}{H:ab}{L:LS}{v:Value}(h:SV F H L v):L.l.length≤9223372036854775807:=by
 rcases h with⟨p,e,d⟩|⟨b,f,cap,c,e,g,a,_⟩
 ·rw[d];simp
 ·have a:cap≤9223372036854775807:=a;omega
theorem w9{F:Nat→Prop}{H:ab}{m:Md}{x:C}{v:Value}(h:RL F H m [x] [v]):sX x:=by
 cases h with
 |str h _=>exact h
 |bY _=>exact Nat.zero_le _
 |dN _=>exact Nat.zero_le _
 |ls _ a b _ _ _ _=>exact Nat.le_trans a b
 |bs _ a b _ _ _ _=>exact Nat.le_trans a b
 |_=>trivial
theorem sY{F:Nat→Prop}{H:ab}{m:Md}:∀{cs:List C} {vs:List Value},RL F H m cs vs→qj cs
 |[],_,_=>trivial
 |c::cs,vs,h=>by
  obtain⟨v,d,rfl,a,b⟩:=h.jC;exact⟨w9 a,sY b⟩
theorem w7{F:Nat→Prop}{H:ab}{m:Md}:∀{as:List A} {vs:List Value},dU F H m as vs→oE as
 |[],_,_=>trivial
 |a::as,[],h=>h.elim
 |a::as,v::vs,⟨b,d⟩=>by
  refine⟨?_,w7 d⟩;cases a with
  |c x=>exact w9 b
  |st e=>obtain⟨f,_,h⟩:=b;exact sY h
  |_=>trivial
theorem w8{F:Nat→Prop}{H:ab}{m:Md}:∀{ah:List B} {γ:List Value},ah.length=γ.length→(∀(j:Nat) (b:B) (g:Value),ah[j]? =some b→γ[j]? =some g→BR F H m b g)→ko ah
 |[],_,_,_=>trivial
 |b::r,[],h,_=>by cases h
 |b::r,g::γ,o,h=>by
  have hb:=h 0 b g rfl rfl;have c:=w8 (ah:=r) (γ:=γ) (by simpa using o) (fun(j:Nat) (b:B) (g:Value) n f=>h (j+1) b g (by simpa using n) (by simpa using f));cases b with
  |box p q=>obtain⟨k,e,s,_,_,i⟩:=hb;exact⟨sY i,c⟩
  |row d α a l=>exact⟨(kJ hb (L:=⟨d,α,a,l⟩) rfl).zr,c⟩
  |aT d α a l=>exact⟨(kJ hb (L:=⟨d,α,a,l⟩) rfl).zr,c⟩
  |buf t d α a l=>
   refine⟨?_,c⟩;rcases hb with⟨_,_,h⟩|⟨_,_,_,_,_,_,f,i,_⟩
   ·rw[h];simp
   ·exact Nat.le_trans f i
  |dead=>exact c
theorem HM(M:bo c.P c.tab){fn:Func}{Q:Out→List B→Prop}{F L:Nat→Prop}{γ:List Value}{ah:List B}{H:ab}(r:(en F L γ ah H).γ0.length=c.n0){s:St}{a:Act}{w':World}{l:Nat→Prop}{e:List Value}(hr:ou c fn Q s)(f:WR (en F L γ ah H) l e s.ah w'.heap)(p:ER l w'.heap ⟨L,e⟩ s.env a):
  ∃v,(results fn a.tmps).run c.P w'= .ok v w'∧oq F L γ ah H Q true v w'.heap:=by
 unfold ou at hr;split at hr
 ·rename_i N y;split at hr
  ·rename_i D b;obtain⟨O,ρ,x,tah,q,d,K⟩:=lj (yl hr);obtain⟨k,m,I⟩:=vz M f p y
   have h:∃v,(results fn a.tmps).run c.P w'= .ok v w'∧RA l w'.heap ⟨L,e⟩ D v:=by
    have i:(fn.results.mapM (pD a.tmps)).run c.P w'= .ok k.toArray w':=by
     rw[Array.mapM_eq_mapM_toList];simp[I]
    have g:=sD m;rw[HL];simp only[Sem.run_bind,i,Result.andThen_ok];by_cases n:k.length=1
    ·obtain⟨u,rfl⟩:=List.length_eq_one_iff.1 n;obtain⟨R,rfl⟩:=List.length_eq_one_iff.1 (g.trans n);cases b;exact⟨u,rfl,m.1⟩
    ·refine⟨.tuple k.toArray,?_,?_⟩
     ·rw[dif_neg (by simpa using n)];rfl
     ·have j:(oK N).map A.aC=some D:=by
       unfold AR at b;split at b
       ·simp at g;omega
       ·exact b
      obtain⟨P,o,rfl⟩:=Option.map_eq_some_iff.1 j;exact⟨k,rfl,xC o m⟩
   obtain⟨v,t,w⟩:=h;obtain⟨E,z,o,J⟩:=rh r f w q;rw[Bool.and_eq_true]at d;exact⟨v,t,_,tah,E,z,K,d.1,d.2,rfl,J,o⟩
  ·exact hr.elim
 ·exact hr.elim
theorem wm(c:dn)(N:bo c.P c.tab)(hm:c.P.follows .mixedOrders=true){f:FuncId}{fn:Func}{code:Code}{args:List A}{ah:List B}{Q:Out→List B→Prop}(m:∀args w,(callFunc f args).run c.P w= .ok (.enter f args) w)
  (W:c.P.funcs[f]? =some fn)(hb:fn.body=some code)(hn:fn.ntmps=c.n)(hl:Nat.ble args.length c.n=true)(J:ah.length=c.n0)(h:oE args∧ko ah→XM c code ⟨ni 0 args,ah⟩ (Kf c fn Q)):bA c.d c.P f args ah Q:=by
 intro F L γ H vs d y w hw;have h:=h ⟨w7 d,w8 y.len.symm (fun j b g z r=>y.br j b g z r)⟩;subst hw;rw[m];refine⟨rfl,calls_of_wp W hb ?_⟩;have O:=sD d;have hl:=Nat.le_of_ble_eq_true hl;have o:(en F L γ ah w.heap).γ0.length=c.n0:=by rw[←J];exact y.len
 refine Code.wp_mono (Q:=Qk c ⟨en F L γ ah w.heap,[],w⟩ (Kf c fn Q)) (fun e a p i=>?_) (h.ok N hm ⟨en F L γ ah w.heap,[],w⟩ o _ w ⟨F,γ,?_,rfl,ek.refl _,y,?_,trivial⟩)
 ·have ret:(∃s,ou c fn Q s∧SR c ⟨en F L γ ah w.heap,[],w⟩ s .undef undef a p)→a.defers=[]∧∃v,(results fn a.tmps).run c.P p= .ok v p∧((∃u,Ending.returned v= .returned u∧oq F L γ ah w.heap Q true u p.heap∧ek c.d w p)∨(∃u,Ending.returned v= .panicked [{v:=u,recovered:=false}]∧oq F L γ ah w.heap Q false u p.heap∧ek c.d w p)):=by
   rintro⟨s,Y,P,K,z,r,D,k,t,_⟩;obtain⟨v,Z,hb⟩:=HM N o Y k t;exact⟨r,v,Z,.inl ⟨v,rfl,hb,D⟩⟩
  cases e with
  |normal=>exact ret i
  |ret=>exact ret i
  |exit id=>obtain⟨s,h,_⟩:=i;exact h.elim
  |goto l=>exact i.elim
  |outgrown=>exact i.elim
  |panic ch=>
   obtain⟨v,x0,s1,rfl,⟨js,ρ,x,tah,E,n,U⟩,P,K,z,r,D,k,t,hx⟩:=i;obtain⟨R,M,S,T⟩:=rh o k hx E;rw[Bool.and_eq_true]at n;exact⟨r,.inr ⟨v,rfl,⟨_,tah,R,M,U,n.1,n.2,rfl,T,S⟩,D⟩⟩
 ·simp[hn];omega
 ·refine wN d fun q v i=>?_;have I:=(List.getElem?_eq_some_iff.1 i).1;rw[Nat.zero_add];simp only[Array.getD_eq_getD_getElem?];rw[Array.getElem?_append_left (by simpa using I)];simp[i]
theorem ak{n n0:Nat}{d:Bool}{P:Program}{tab:Nat→Option TD}(c:bo P tab){f:FuncId}{fn:Func}{code:Code}{args:List A}{ah:List B}{Q:Out→List B→Prop}(a:∀args w,(callFunc f args).run P w= .ok (.enter f args) w)
  (e:P.funcs[f]? =some fn)(h:oE args∧ko ah→X ⟨P,tab,n,n0,d⟩ code ⟨ni 0 args,ah⟩ (Kf ⟨P,tab,n,n0,d⟩ fn Q))(hm:P.follows .mixedOrders=true:=by kernel_rfl)(hb:fn.body=some code:=by rfl)(hn:fn.ntmps=n:=by rfl)(hl:Nat.ble args.length n=true:=by kernel_rfl)(b:ah.length=n0:=by rfl):bA d P f args ah Q:=
 wm ⟨P,tab,n,n0,d⟩ c hm a e hb hn hl b fun hb=>XM.of (h hb)
theorem iX{n n0:Nat}{d:Bool}{P:Program}{tab:Nat→Option TD}(c:bo P tab){f:FuncId}{fn:Func}{code:Code}{args:List A}{ah:List B}{Q:Out→List B→Prop}(a:∀args w,(callFunc f args).run P w= .ok (.enter f args) w)
  (e:P.funcs[f]? =some fn)(h:oE args∧ko ah→XM ⟨P,tab,n,n0,d⟩ code ⟨ni 0 args,ah⟩ (Kf ⟨P,tab,n,n0,d⟩ fn Q))(hm:P.follows .mixedOrders=true:=by kernel_rfl)(hb:fn.body=some code:=by rfl)(hn:fn.ntmps=n:=by rfl)(hl:Nat.ble args.length n=true:=by kernel_rfl)(b:ah.length=n0:=by rfl):bA d P f args ah Q:=
 wm ⟨P,tab,n,n0,d⟩ c hm a e hb hn hl b h
end
end Go.AM
end
section
namespace Go.AM
open Go Go.NB
def nQ:List (Nat×TD)→Nat→Option TD
 |[],_=>none
 |(t,d)::r,s=>bif Nat.beq t s then some d else nQ r s
structure Good(P:Program)(tab:Nat→Option TD)(t:Nat)(d:TD):Prop where
 info:∃i z zs,(∀w,(typeInfo t).run P w= .ok i w)∧i.size=d.size∧i.bytes=d.bytes∧i.zero=some z∧z.cells=List.toArray zs∧∀F H m,RL F H m d.zero zs
 agg:∀w,(isAgg t).run P w= .ok d.agg w
 one:d.agg=false→d.size=1
 zl:d.zero.length=d.size
 kind:su P tab t d.kind
 cmp:d.cmp=true→sq P t d.zero
def pV(P:Program)(tab:Nat→Option TD):List (Nat×TD)→Prop
 |[]=>True
 |(t,d)::r=>Good P tab t d∧pV P tab r
theorem pV.get{P:Program}{tab:Nat→Option TD}:∀{l:List (Nat×TD)} {t:Nat} {d:TD},pV P tab l→nQ l t=some d→Good P tab t d
 |(t,d)::r,s,c,⟨a,b⟩,h=>by
  unfold nQ at h;by_cases e:Nat.beq t s=true
  ·rw[e]at h;cases h;obtain rfl:=Nat.eq_of_beq_eq_true e;exact a
  ·rw[Bool.not_eq_true]at e;rw[e]at h;exact b.get h
def kR:List C→Option (List Value)
 |[]=>some []
 | .int k n::r=>(kR r).map (.int k n:: ·)
 | .bool b::r=>(kR r).map (.bool b:: ·)
 | .str []::r=>(kR r).map (NB.str []:: ·)
 | .nil::r=>(kR r).map (.slice none 0 0:: ·)
 | .ls _ _ _ []::r=>(kR r).map (.slice none 0 0:: ·)
 | .raw v::r=>bif v.oneCell' then(kR r).map (v:: ·)else none
 |_=>none
theorem Kd{F:Nat→Prop}{H:ab}{m:Md}{cs:List C}:∀{vs:List Value},kR cs=some vs→RL F H m cs vs:=by
 fun_induction kR cs<;>intro vs h
 case case1=>cases h;exact .nl
 case case7=>rename_i v r a ih;obtain⟨b,e,rfl⟩:=Option.map_eq_some_iff.1 h;exact .raw a (ih e)
 case case8=>cases h
 case case9=>cases h
 all_goals
  rename_i ih;obtain⟨b,e,rfl⟩:=Option.map_eq_some_iff.1 h;first|exact .int (ih e)|exact .bool (ih e)|exact .str (Nat.zero_le _) (ih e)|exact .nil (ih e)|exact .bY (ih e)
theorem aB{P:Program}{tab:Nat→Option TD}{t:Nat}{d:TD}{i:TypeInfo}{z:Value}(h1:∀w,(typeInfo t).run P w= .ok i w)(h2:∀w,(isAgg t).run P w= .ok d.agg w)(j:su P tab t d.kind)(k:d.cmp=true→sq P t d.zero:=by intro h;cases h)
  (b:i.size=d.size:=by rfl)(c:i.bytes=d.bytes:=by rfl)(e:i.zero=some z:=by rfl)(f:kR d.zero=some z.cells.toList:=by rfl)(a:(d.agg||Nat.beq d.size 1)=true:=by rfl)(g:d.zero.length=d.size:=by rfl):Good P tab t d:=
 ⟨⟨i,z,z.cells.toList,h1,b,c,e,by simp,fun _ _ _=>Kd f⟩,h2,fun h=>by rw[h]at a;exact Nat.eq_of_beq_eq_true a,g,j,k⟩
theorem Jl{P:Program}{l:List (Nat×TD)}(h:pV P (nQ l) l):bo P (nQ l):=
 ⟨fun _ _ a=>(h.get a).info,fun _ _ a=>(h.get a).agg,fun _ _ a=>(h.get a).one,fun _ _ a=>(h.get a).zl,fun _ _ a=>(h.get a).kind,fun _ _ a=>(h.get a).cmp⟩
theorem dec{P a B':Prop}{i:Decidable P}(h1:P→a)(h2:¬P→B'): @Bool.rec (fun _=>Prop) B' a (decide P):=by
 by_cases h:P
 ·rw[decide_eq_true h];exact h1 h
 ·rw[decide_eq_false h];exact h2 h
theorem aw{P a B':Prop}{i:Decidable P}(h1:¬P→a)(h2:P→B'): @Bool.rec (fun _=>Prop) B' a (!decide P):=by
 by_cases h:P
 ·rw[decide_eq_true h];exact h2 h
 ·rw[decide_eq_false h];exact h1 h
theorem aL{b:Bool}{a B':Prop}(h1:b=true→a)(h2:b=false→B'): @Bool.rec (fun _=>Prop) B' a b:=by
 cases b
 ·exact h2 rfl
 ·exact h1 rfl
theorem cO{b:Bool}{a B':Prop}(h1:b=false→a)(h2:b=true→B'): @Bool.rec (fun _=>Prop) B' a (!b):=by
 cases b
 ·exact h1 rfl
 ·exact h2 rfl
def encI(n:Int):List C:=[.int .i64 n]
def encS(l:List UInt8):List C:=[.str l]
def af(b:Bool):List C:=[.bool b]
def bf{α:Type}(sz:Nat)(enc:α→List C)(l:List α):List C:=[.ls sz α enc l]
end Go.AM
end
section
namespace Go.AM
open Go Go.NB
def Rt(x:A)(ah:List B)(o:Out)(ah':List B):Prop:=o= .ret x∧ah'=ah
theorem I6{n:Int}{p:Prop}(h:p)(h1: -9223372036854775808≤n:=by omega)(h2:n≤9223372036854775807:=by omega):cc n∧p:=⟨⟨h1,h2⟩,h⟩
theorem i64{n:Int}(h1: -9223372036854775808≤n)(h2:n≤9223372036854775807):cc n:=⟨h1,h2⟩
theorem dj{ah:List B}{a X:C}(h:a=X)(hc:dW X=true):∃js ρ x tah,lex 0 js ρ ah (.c a) x tah∧(eK x&&tah.all eZ)=true∧Rt (.c X) [] (.ret x) tah:=by
 subst h;refine⟨[],[],.c a,[],?_,?_,rfl,rfl⟩
 ·refine And.intro ?_ trivial;cases a<;>first|rfl|cases hc
 ·cases a<;>first|rfl|cases hc
theorem aE{ah:List B}{b b':Bool}(h:b=b'):∃js ρ x tah,lex 0 js ρ ah (.c (.bool b)) x tah∧(eK x&&tah.all eZ)=true∧Rt (.c (.bool b')) [] (.ret x) tah:=dj (congrArg C.bool h) rfl
theorem aG{ah:List B}{n a:Int}(h:n=a):∃js ρ x tah,lex 0 js ρ ah (.c (.int .i64 n)) x tah∧(eK x&&tah.all eZ)=true∧Rt (.c (.int .i64 a)) [] (.ret x) tah:=dj (congrArg (C.int .i64) h) rfl
theorem rt{Q:Out→List B→Prop}{n0:Nat}{ah:List B}{a X:A}{Y:List B}(js:List Nat)(ρ:List Rn)(h:lex n0 js ρ ah a X Y)(hc:(eK X&&Y.all eZ)=true)(b:Q (.ret X) Y):∃js ρ x tah,lex n0 js ρ ah a x tah∧(eK x&&tah.all eZ)=true∧Q (.ret x) tah:=
 ⟨js,ρ,X,Y,h,hc,b⟩
theorem cl{d:Bool}{P:Program}{f:FuncId}{ah:List B}{env:List (Nat×A)}{args:List A}{g:G}{k:List B→A→Prop}{j:A→St→Prop}{b:List A}{tah Y:List B}{X:A}(js m:List Nat)(i:bA d P f b tah (Rt X Y))
  (hk:fK k (ef m tah (a7 js ah) Y) (ej (sig m (a7 js ah).length) X))(c:ki (a7 js ah) m args b tah:=by(repeat' first|exact trivial|exact rfl|refine And.intro ?_ ?_);first|done|fail)(hg:g.call m=true:=by rfl):
  ∃(js m:List Nat) (b:List A) (tah:List B) (Q:Out→List B→Prop),bA d P f b tah Q∧ki (a7 js ah) m args b tah∧g.call m=true∧
   ∀out ah',Q out ah'→match out with
    | .ret a=>fK k (ef m tah (a7 js ah) ah') (ej (sig m (a7 js ah).length) a)
    | .cR a=>fK j (ej (sig m (a7 js ah).length) a) ⟨env,ef m tah (a7 js ah) ah'⟩:=
 ⟨js,m,b,tah,_,i,c,hg,fun out ah' ⟨e,h⟩=>by subst e;subst h;exact hk⟩
theorem rx{n0:Nat}{ah:List B}{a X:A}{Y:List B}(js:List Nat)(ρ:List Rn)(h:lex n0 js ρ ah a X Y:=by repeat' first|exact trivial|exact rfl|refine And.intro ?_ ?_)(hc:(eK X&&Y.all eZ)=true:=by rfl):∃js ρ x tah,lex n0 js ρ ah a x tah∧(eK x&&tah.all eZ)=true∧Rt X Y (.ret x) tah:=
 ⟨js,ρ,X,Y,h,hc,rfl,rfl⟩
theorem lp{n0:Nat}{a:St}{R:∀(ι:Type) (I:ι→St) (inv:ι→Prop) (m:ι→Nat),ι→Prop}(ι:Type)(I:ι→St)(inv:ι→Prop)(m:ι→Nat)(y:ι)(js:List Nat)(ρ:List Rn)(h1:inv y)(h2:le n0 js ρ a (I y))(b:∀x,inv x→R ι I inv m x):
  ∃(ι:Type) (I:ι→St) (inv:ι→Prop) (m:ι→Nat),(∃y,inv y∧LE n0 a (I y))∧∀x,inv x→R ι I inv m x:=
 ⟨ι,I,inv,m,⟨y,h1,js,ρ,h2⟩,b⟩
theorem ag{ι:Type}{n0:Nat}{I:ι→St}{inv:ι→Prop}{m:ι→Nat}{lt:Nat}{s:St}(y:ι)(js:List Nat)(ρ:List Rn)(h1:inv y)(h2:m y<lt)(a:le n0 js ρ s (I y)):∃y,(inv y∧m y<lt)∧LE n0 s (I y):=⟨y,⟨h1,h2⟩,js,ρ,a⟩
end Go.AM
end
section
namespace Go.Nest
open Go Go.AM
structure aD where
 name:List UInt8
 mode:Int
 id:Int
 av:Int
 deriving DecidableEq
structure Ob where
 kind:Int
 bytes:List UInt8
 entries:List aD
 tree:Int
 parents:List Int
 text:List UInt8
 deriving DecidableEq
structure Fi where
 path:List UInt8
 mode:Int
 id:Int
 av:Int
 deriving DecidableEq
structure Ch where
 path:List UInt8
 old:Fi
 new:Fi
 deriving DecidableEq
structure Dc where
 path:List UInt8
 bytes:List UInt8
 deriving DecidableEq
structure Rf where
 name:List UInt8
 id:Int
 deriving DecidableEq
structure Mv where
 name:List UInt8
 old:Int
 new:Int
 deriving DecidableEq
structure It where
 path:List UInt8
 bytes:List UInt8
 link:Bool
 id:Int
 av:Int
 deriving DecidableEq
def cB(e:aD):List C:=[.str e.name,.int .i64 e.mode,.int .i64 e.id,.int .i64 e.av]
def an(o:Ob):List C:=[.int .i64 o.kind,.ls 1 UInt8 bt o.bytes,.ls 4 aD cB o.entries,.int .i64 o.tree,.ls 1 Int encI o.parents,.str o.text]
def gB(o:Ob):List C:=[.int .i64 o.kind,.bs 1 UInt8 bt o.bytes,.bs 4 aD cB o.entries,.int .i64 o.tree,.bs 1 Int encI o.parents,.str o.text]
def ao(f:Fi):List C:=[.str f.path,.int .i64 f.mode,.int .i64 f.id,.int .i64 f.av]
def jP(c:Ch):List C:=[.str c.path,.str c.old.path,.int .i64 c.old.mode,.int .i64 c.old.id,.int .i64 c.old.av,.str c.new.path,.int .i64 c.new.mode,.int .i64 c.new.id,.int .i64 c.new.av]
def dZ(d:Dc):List C:=[.str d.path,.ls 1 UInt8 bt d.bytes]
def bd(r:Rf):List C:=[.str r.name,.int .i64 r.id]
def cC(m:Mv):List C:=[.str m.name,.int .i64 m.old,.int .i64 m.new]
def aJ(x:It):List C:=[.str x.path,.ls 1 UInt8 bt x.bytes,.bool x.link,.int .i64 x.id,.int .i64 x.av]
def jg(p:Int×Int):List C:=[.int .i64 p.1,.int .i64 p.2]
def tH(p:Int×Int×Int):List C:=[.int .i64 p.1,.int .i64 p.2.1,.int .i64 p.2.2]
structure Sn where
 xQ:List Dc
 parents:List Int
 text:List UInt8
 deriving DecidableEq
def nl(sz:Nat)(α:Type)(enc:α→List C):List α→C
 |[]=>.nil
 |x::l=>.ls sz α enc (x::l)
structure Dt where
 what:Int
 a:Int
 b:Int
 k:Int
 ft:Bool
 r0:List Int
 r1:List Int
 r2:List Int
 r3:List Int
structure Mt where
 k:Int
 to:Int
 av:Int
 path:List UInt8
end Go.Nest
end
section
namespace Go.Nest
open Go Go.AM
structure Dp where
 own:Nat→List Bool
 df:Nat→List Int
theorem four{i:Nat}(h:i<4):i=0∨i=1∨i=2∨i=3:=by omega
def ay{α:Type}(o:Nat→α)(k:Nat)(v:α):Nat→α:=fun j=>bif Nat.beq j k then v else o j
theorem fB{α:Type}{o:Nat→α}{k:Nat}{v:α}:ay o k v k=v:=by unfold ay;rw[Nat.beq_refl];rfl
end Go.Nest
end
section
namespace Go.Nest
open Go Go.AM
structure FS where
 L:List Ob
 o:Nat→List Bool
 b:Nat→List Int
 n:Nat→List Rf
 m:Nat→List Mv
 w:Nat→List It
 h:Nat→Int
structure bm where
 kind:Int
 r:Int
 q:Int
 path:List UInt8
 name:List UInt8
 text:List UInt8
 bytes:List UInt8
def aI(x:bm):List C:=[.int .i64 x.kind,.int .i64 x.r,.int .i64 x.q,.str x.path,.str x.name,.str x.text,.ls 1 UInt8 bt x.bytes]
structure cG where
 code:Int
 id:Int
 cf:List (List UInt8)
def b9(x:cG):List C:=[.int .i64 x.code,.int .i64 x.id,.ls 1 (List UInt8) encS x.cf]
def bP(id c:Int):cG:=if c≠0 then⟨c,0,[]⟩else⟨0,id,[]⟩
def FS.dep(s:FS):Dp:=⟨s.o,s.b⟩
def iB:FS:=⟨[],fun _=>[],fun _=>[],fun _=>[],fun _=>[],fun _=>[],fun _=> -1⟩
def FS.db(s:FS)(r:Nat)(L:List Ob)(l:List It)(h:Int):FS:={s with L:=L,w:=ay s.w r l,h:=ay s.h r h}
def FS.iN(s:FS)(r:Nat)(l:List Rf)(m:List Mv):FS:={s with n:=ay s.n r l,m:=ay s.m r m}
def FS.cn(s:FS)(o:Nat→List Bool):FS:={s with o:=o}
def FS.Ba(s:FS)(b:Nat→List Int):FS:={s with b:=b}
def FS.aS(s:FS)(L:List Ob):FS:={s with L:=L}
end Go.Nest
end
section
namespace Go.Nest
open Go Go.AM
theorem sf{α:Type}{p:α→Bool}:∀{l:List α} {k:Nat},k≤l.length→(∀g∈l.take k,p g=true)→(∀h:k<l.length,p l[k]=false)→l.takeWhile p=l.take k∧l.dropWhile p=l.drop k
 |[],0,_,_,_=>⟨rfl,rfl⟩
 |x::l,0,_,_,h=>by have:=h (by simp);simp at this;simp[this]
 |x::l,k+1,f,a,b=>by
  have i:=a x (by simp);obtain⟨c,d⟩:=sf (l:=l) (k:=k) (by simpa using f) (fun g e=>a g (by simp[e])) (fun h=>b (by simpa using h));simp[i,c,d]
 |[],k+1,h,_,_=>by simp at h
theorem pE:∀{a b:List Int},a.Pairwise (· < ·)→b.Pairwise (· < ·)→(∀x,x∈a↔x∈b)→a=b
 |[],[],_,_,_=>rfl
 |[],y::b,_,_,h=>by have:=(h y).2 (by simp);cases this
 |x::a,[],_,_,h=>by have:=(h x).1 (by simp);cases this
 |x::a,y::b,j,hb,h=>by
  obtain⟨d,g⟩:=List.pairwise_cons.1 j;obtain⟨f,i⟩:=List.pairwise_cons.1 hb
  have e:x=y:=by
   rcases List.mem_cons.1 ((h x).1 (by simp))with e|hx
   ·exact e
   rcases List.mem_cons.1 ((h y).2 (by simp))with e|hy
   ·exact e.symm
   have:=d y hy;have:=f x hx;omega
  subst e;congr 1
  refine pE g i fun z=>⟨fun c=>?_,fun c=>?_⟩
  ·rcases List.mem_cons.1 ((h z).1 (by simp[c]))with rfl|h5
   ·have:=d _ c;omega
   ·exact h5
  ·rcases List.mem_cons.1 ((h z).2 (by simp[c]))with rfl|h5
   ·have:=f _ c;omega
   ·exact h5
end Go.Nest
end
section
namespace Go.AM
open Go Go.NB
theorem bA.frame{d:Bool}{P:Program}{f:FuncId}{e args:List A}{tah Y ah Z D:List B}{X W z:A}(m:List Nat)(ρ:List Rn)(hs:bA d P f e tah (Rt X Y))(u:ki ah m args e tah)
  (hZ:ef m tah ah Y=Z)(hW:ej (sig m ah.length) X=W)(N:lex ah.length [] ρ Z W z D)(t:(eK z&&D.all eZ)=true):bA d P f args ah (Rt z D):=by
 intro F L γ H vs s p;obtain⟨q,Q,y⟩:=bM u;simp only[Bool.and_eq_true,List.all_eq_true]at q;obtain⟨⟨R,O⟩,S⟩:=q;have x:∀j∈m,j<ah.length:=fun j hj=>Nat.le_of_ble_eq_true (O j hj);have a:=core p y S yq;have o:=uN (B':=jZ (en F L γ ah H) γ ah (gW m tah)) p (fun _ h=>.inl h) (fun j b g i l n k w=>.inr ⟨j,b,g,l,n,i,w⟩) Q s
 have J:WR (en F (jZ (en F L γ ah H) γ ah (gW m tah)) ((bE m).map (bI γ)) tah H) F ((bE m).map (bI γ)) tah H:=by
  refine⟨a.len,a.br,a.disj,fun j b g k i l n=>(a.nf j b g k i l n).1,p.fb,fun k w=>⟨?_,fun⟨j,b,g,i,l,n⟩=>(a.nf j b g k i l n).1.2 w⟩,Nat.le_refl _,fun _ _ _=>rfl,fun _ h=>h,fun _ h=>.inl h,fun j b g k i l n=>.inl ⟨j,b,g,i,l,n⟩,fun _ _ h=>h⟩;rcases w with w|⟨j,b,g,i,l,_,n⟩
  ·exact Nat.lt_of_lt_of_le (p.bb k w).1 p.size
  ·exact fg (p.br _ _ _ i l) k n
 refine(hs F _ _ H _ o J).mono fun ok v H' hb=>?_;obtain⟨out,ah',F',γ',⟨rfl,rfl⟩,K,M,u,T,I⟩:=hb;obtain⟨m1,m2,m3,m4,m5⟩:=merge p y (rC R) x a I M;have r:RA F' H' ⟨L,γ++γ'.drop m.length⟩ (ej (sig m ah.length) X) v:=AP m3 T K;rw[hZ]at m1;rw[hW]at r;obtain⟨F2,U,h7,h8⟩:=rh (c:=⟨P,fun _=>none,0,ah.length,d⟩) (E:=en F L γ ah H) p.len m1 r N;rw[Bool.and_eq_true]at t;exact⟨.ret z,D,F2,U,⟨rfl,rfl⟩,t.1,t.2,u,h8,h7⟩
def fW(ρ:List Rn)(j:Nat):Nat:=match ρ[j]? with
 |some (.same k)=>k
 |_=>0
def jW:Option Rn→Bool
 |some (.same _)=>true
 |_=>false
def qt(ρ:List Rn):C→Bool
 | .rw i=>jW ρ[i]?
 | .ptr i _=>jW ρ[i]?
 | .sw _ i _ _=>jW ρ[i]?
 | .int _ _=>true
 | .bool _=>true
 | .str _=>true
 | .raw _=>true
 | .nil=>true
 | .ls .. =>true
 |_=>false
def te(ρ:List Rn)(r:Rn)(b:B):Bool:=match b with
 | .dead=>true
 | .box a _=>jW (some r)&&a.all (qt ρ)
 |_=>jW (some r)
def jd(ρ:List Rn):List Rn→List B→Bool
 |[],[]=>true
 |r::c,b::a=>te ρ r b&&jd ρ c a
 |_,_=>false
def A8(ah:List B)(r:Rn)(b:B):B:=match b with
 | .dead=>.dead
 |_=>match r with
  | .same j=>(ah[j]?).getD .dead
  |_=>.dead
def jA(ah:List B):List Rn→List B→List B
 |r::c,b::a=>A8 ah r b::jA ah c a
 |_,_=>[]
section
variable {fr:Nat→Bool} {ah:List B} {ρ:List Rn}
theorem mo{r:Option Rn}(h:jW r=true):∃k,r=some (.same k):=by
 cases r with
 |none=>cases h
 |some r=>cases r with
  |same k=>exact⟨k,rfl⟩
  |_=>cases h
theorem Gp{n:Nat}{c:C}(h:qt ρ c=true):mC fr ah (n+1) ρ (jx (fW ρ) c) c:=by
 cases c with
 |rw i=>obtain⟨k,e⟩:=mo h;simp only[mC,jx,fW,e]
 |ptr i o=>obtain⟨k,e⟩:=mo h;simp only[mC,jx,fW,e]
 |sw b i a m=>obtain⟨k,e⟩:=mo h;simp only[mC,jx,fW,e]
 |int _ _=>rfl
 |bool _=>rfl
 |str _=>rfl
 |raw _=>rfl
 |nil=>rfl
 |ls _ _ _ _=>rfl
 |_=>cases h
theorem wG:∀{cs:List C},cs.all (qt ρ)=true→jK (mC fr ah 5 ρ) (cs.map (jx (fW ρ))) cs
 |[],_=>trivial
 |c::cs,h=>by
  rw[List.all_cons,Bool.and_eq_true]at h;exact⟨Gp h.1,wG h.2⟩
theorem Ju(t:Option Nat):vU t t:=by cases t<;>first|trivial|rfl
theorem r8{j:Nat}{b:B}(h:(ah[j]?).getD .dead=b)(hb:b≠.dead):ah[j]? =some b:=by
 cases e:ah[j]? with
 |none=>rw[e]at h;exact absurd h.symm hb
 |some x=>rw[e]at h;exact congrArg some h
theorem Gn{r:Rn}{b:B}(h:te ρ r b=true)(he:A8 ah r b=fu (fW ρ) b):mB fr ah ρ r b:=by
 cases b with
 |dead=>trivial
 |box f t=>
  have h:(jW (some r)&&f.all (qt ρ))=true:=h;rw[Bool.and_eq_true]at h;obtain⟨k,e⟩:=mo h.1;obtain rfl:r= .same k:=by simpa using e
  have c:=r8 (b:=fu (fW ρ) (.box f t)) he (by intro h;cases h);simp only[mB,c,fu];exact⟨Ju t,wG h.2⟩
 |row d α a l=>
  obtain⟨k,e⟩:=mo (show jW (some r)=true from h);obtain rfl:r= .same k:=by simpa using e
  have c:=r8 (b:= .row d α a l) he (by intro h;cases h);simp only[mB,c]
 |aT d α a l=>
  obtain⟨k,e⟩:=mo (show jW (some r)=true from h);obtain rfl:r= .same k:=by simpa using e
  have c:=r8 (b:= .aT d α a l) he (by intro h;cases h);simp only[mB,c]
 |buf t d α a l=>
  obtain⟨k,e⟩:=mo (show jW (some r)=true from h);obtain rfl:r= .same k:=by simpa using e
  have c:=r8 (b:= .buf t d α a l) he (by intro h;cases h);simp only[mB,c,and_self]
theorem pd:∀{rs:List Rn} {bs:List B},jd ρ rs bs=true→jA ah rs bs=bs.map (fu (fW ρ))→kF fr ah ρ rs bs
 |[],[],_,_=>trivial
 |r::rs,b::bs,h,e=>by
  have h:(te ρ r b&&jd ρ rs bs)=true:=h;rw[Bool.and_eq_true]at h;simp only[jA,List.map_cons,List.cons.injEq]at e;exact⟨Gn h.1 e.1,pd h.2 e.2⟩
 |[],_::_,h,_=>by cases h
 |_::_,[],h,_=>by cases h
end
theorem jc{ah tah:List B}{m:List Nat}{args a:List A}(c:lJ (gW m tah) ah (bE m) args a)(h1:(eg m&&m.all (fun j=>Nat.blt j ah.length)&&eg (cF (bE m) tah))=true:=by kernel_rfl)
  (h2:jd (bE m) (bE m) tah=true:=by kernel_rfl)(b:jA ah (bE m) tah=tah.map (fu (fW (bE m))):=by kernel_rfl):ki ah m args a tah:=by
 unfold ki;rw[h1];exact⟨c,pd h2 b⟩
theorem j5{n0:Nat}{ρ:List Rn}{ah tah:List B}{a x:A}(c:mA (fun _=>false) ah ρ a x)(h1:(kx 0 ρ n0&&eg (cF ρ tah))=true:=by kernel_rfl)
  (h2:jd ρ ρ tah=true:=by kernel_rfl)(b:jA ah ρ tah=tah.map (fu (fW ρ)):=by kernel_rfl):lex n0 [] ρ ah a x tah:=by
 unfold lex;rw[h1];exact⟨c,pd h2 b⟩
theorem aP{d:Bool}{P:Program}{f:FuncId}{ah:List B}{env:List (Nat×A)}{args:List A}{g:G}{k:List B→A→Prop}{p:A→St→Prop}{b:List A}{tah Y:List B}{X:A}(m:List Nat)(Z:List B)(o:bA d P f b tah (Rt X Y))(hk:fK k Z (ej (sig m ah.length) X))
  (n:lJ (gW m tah) ah (bE m) args b:=by repeat' first|exact trivial|exact rfl|refine And.intro ?_ ?_)(l:ef m tah ah Y=Z:=by kernel_rfl)(h1:(eg m&&m.all (fun j=>Nat.blt j ah.length)&&eg (cF (bE m) tah))=true:=by kernel_rfl)
  (h2:jd (bE m) (bE m) tah=true:=by kernel_rfl)(i:jA ah (bE m) tah=tah.map (fu (fW (bE m))):=by kernel_rfl)(hg:g.call m=true:=by rfl):
  ∃(js m:List Nat) (b:List A) (tah:List B) (Q:Out→List B→Prop),bA d P f b tah Q∧ki (a7 js ah) m args b tah∧g.call m=true∧
   ∀out ah',Q out ah'→match out with
    | .ret a=>fK k (ef m tah (a7 js ah) ah') (ej (sig m (a7 js ah).length) a)
    | .cR a=>fK p (ej (sig m (a7 js ah).length) a) ⟨env,ef m tah (a7 js ah) ah'⟩:=
 ⟨[],m,b,tah,_,o,jc n h1 h2 i,hg,fun out ah' h=>by
  have c:=h.1;have e:=h.2;clear h;subst c;show fK k (ef m tah ah ah') (ej (sig m ah.length) X);rw[e,l];exact hk⟩
theorem aZ{n0:Nat}{ah:List B}{a X:A}{Y:List B}(ρ:List Rn)(c:mA (fun _=>false) ah ρ a X:=by repeat' first|exact trivial|exact rfl|refine And.intro ?_ ?_)(h1:(kx 0 ρ n0&&eg (cF ρ Y))=true:=by kernel_rfl)
  (h2:jd ρ ρ Y=true:=by kernel_rfl)(b:jA ah ρ Y=Y.map (fu (fW ρ)):=by kernel_rfl)(hc:(eK X&&Y.all eZ)=true:=by kernel_rfl):∃js ρ x tah,lex n0 js ρ ah a x tah∧(eK x&&tah.all eZ)=true∧Rt X Y (.ret x) tah:=
 ⟨[],ρ,X,Y,j5 c h1 h2 b,hc,rfl,rfl⟩
theorem ed{n0:Nat}{ρ:List Rn}{s t:St}(he:mE s.ah ρ s.env t.env:=by repeat' first|exact trivial|exact rfl|refine And.intro ?_ ?_)(h1:(kx 0 ρ n0&&eg (cF ρ t.ah))=true:=by kernel_rfl)
  (h2:jd ρ ρ t.ah=true:=by kernel_rfl)(a:jA s.ah ρ t.ah=t.ah.map (fu (fW ρ)):=by kernel_rfl):le n0 [] ρ s t:=by
 unfold le;rw[h1];exact⟨he,pd h2 a⟩
end Go.AM
end
section
namespace Go.AM
open Go Go.NB
theorem xl{d:Bool}{P:Program}{f:FuncId}{ah:List B}{env:List (Nat×A)}{args:List A}{g:G}{k:List B→A→Prop}{p:A→St→Prop}{b:List A}{tah Y:List B}{X:A}(js m:List Nat)(Z:List B)(o:bA d P f b tah (Rt X Y))(hk:fK k Z (ej (sig m (a7 js ah).length) X))
  (n:lJ (gW m tah) (a7 js ah) (bE m) args b:=by repeat' first|exact trivial|exact rfl|refine And.intro ?_ ?_)(l:ef m tah (a7 js ah) Y=Z:=by kernel_rfl)(h1:(eg m&&m.all (fun j=>Nat.blt j (a7 js ah).length)&&eg (cF (bE m) tah))=true:=by kernel_rfl)
  (h2:jd (bE m) (bE m) tah=true:=by kernel_rfl)(i:jA (a7 js ah) (bE m) tah=tah.map (fu (fW (bE m))):=by kernel_rfl)(hg:g.call m=true:=by rfl):
  ∃(js m:List Nat) (b:List A) (tah:List B) (Q:Out→List B→Prop),bA d P f b tah Q∧ki (a7 js ah) m args b tah∧g.call m=true∧
   ∀out ah',Q out ah'→match out with
    | .ret a=>fK k (ef m tah (a7 js ah) ah') (ej (sig m (a7 js ah).length) a)
    | .cR a=>fK p (ej (sig m (a7 js ah).length) a) ⟨env,ef m tah (a7 js ah) ah'⟩:=
 ⟨js,m,b,tah,_,o,jc n h1 h2 i,hg,fun out ah' h=>by
  have c:=h.1;have e:=h.2;clear h;subst c;show fK k (ef m tah (a7 js ah) ah') (ej (sig m (a7 js ah).length) X);rw[e,l];exact hk⟩
end Go.AM
end
section
namespace Go.AM
open Go Go.NB
theorem Ii{n0:Nat}{ah:List B}{a X:A}{Y:List B}(js:List Nat)(ρ:List Rn)(c:mA (fun _=>false) (a7 js ah) ρ a X:=by repeat' first|exact trivial|exact rfl|refine And.intro ?_ ?_)(h1:(kx 0 ρ n0&&eg (cF ρ Y))=true:=by kernel_rfl)
  (h2:jd ρ ρ Y=true:=by kernel_rfl)(b:jA (a7 js ah) ρ Y=Y.map (fu (fW ρ)):=by kernel_rfl)(hc:(eK X&&Y.all eZ)=true:=by kernel_rfl):∃js ρ x tah,lex n0 js ρ ah a x tah∧(eK x&&tah.all eZ)=true∧Rt X Y (.ret x) tah:=
 ⟨js,ρ,X,Y,by unfold lex;rw[h1];exact⟨c,pd h2 b⟩,hc,rfl,rfl⟩
theorem CT{d:Bool}{P:Program}{f:FuncId}{ah:List B}{env:List (Nat×A)}{args:List A}{g:G}{k:List B→A→Prop}{o:A→St→Prop}{b:List A}{tah Y:List B}{X:A}(js m:List Nat)(c Z:List B)(n:bA d P f b tah (Rt X Y))(hk:fK k Z (ej (sig m c.length) X))
  (h:a7 js ah=c:=by kernel_rfl)(l:lJ (gW m tah) c (bE m) args b:=by repeat' first|exact trivial|exact rfl|refine And.intro ?_ ?_)(i:ef m tah c Y=Z:=by kernel_rfl)(h1:(eg m&&m.all (fun j=>Nat.blt j c.length)&&eg (cF (bE m) tah))=true:=by kernel_rfl)
  (h2:jd (bE m) (bE m) tah=true:=by kernel_rfl)(e:jA c (bE m) tah=tah.map (fu (fW (bE m))):=by kernel_rfl)(hg:g.call m=true:=by rfl):
  ∃(js m:List Nat) (b:List A) (tah:List B) (Q:Out→List B→Prop),bA d P f b tah Q∧ki (a7 js ah) m args b tah∧g.call m=true∧
   ∀out ah',Q out ah'→match out with
    | .ret a=>fK k (ef m tah (a7 js ah) ah') (ej (sig m (a7 js ah).length) a)
    | .cR a=>fK o (ej (sig m (a7 js ah).length) a) ⟨env,ef m tah (a7 js ah) ah'⟩:=by
 subst h;exact xl js m Z n hk l i h1 h2 e hg
end Go.AM
end
