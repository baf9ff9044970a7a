/- part -/
import Derived.Test.YtpechfcbnoggfaaGreatDoorAm14
import Derived.OrdersHeld
import Derived.KernelRfl
set_option linter.unusedVariables false
set_option linter.unusedSimpArgs false
section
namespace Go.AM
open Go Go.NB
def Xg(ops:Array Oper)(o:Oper)(s:St)(yes:St→Prop)(no:St→Prop):Prop:=
 match o.guard with
 |none=>yes s
 |some (j,want)=>match(ops[j]?).bind (·.dst)with
  |some d=>match lk s.env d with
   |some (.c (.bool b))=>match s with
    |⟨e,ah⟩=> @Bool.rec (fun _=>Prop) (bif want then no ⟨(d,.c (.bool false))::e,ah⟩else yes ⟨(d,.c (.bool false))::e,ah⟩)
     (bif want then yes ⟨(d,.c (.bool true))::e,ah⟩else no ⟨(d,.c (.bool true))::e,ah⟩) b
   |some .off=>no s
   |_=>False
  |none=>False
def Xl(c:da)(ops:Array Oper)(l:List (G×Oper)):St→(St→Prop)→(A→St→Prop)→Prop:=
 List.rec (motive:=fun _=>St→(St→Prop)→(A→St→Prop)→Prop) (fun s k _=>k s)
  (fun x _ ih s k kp=>Xg ops x.2 s (fun s=>Xo c x.1 x.2 s (fun s=>ih s k kp) kp) (fun s=>gH c.n s x.2.dst .off fun s=>ih s k kp)) l
theorem rq{c:da}{ops:Array Oper}{g:G}{o:Oper}{r:List (G×Oper)}{s:St}{k:St→Prop}{kp:A→St→Prop}(h:Xl c ops ((g,o)::r) s k kp):Xg ops o s (fun s=>Xo c g o s (fun s=>Xl c ops r s k kp) kp) (fun s=>gH c.n s o.dst .off fun s=>Xl c ops r s k kp):=h
section
variable {c:da} {r:iW} {s:St} {a:Act} {w:World} {o:Oper}
theorem Ah{F:Nat→Prop}{H:ab}{m:Md}{ops:Array Oper}(hE:ER F H m s.env a){j d:Nat}{x:A}(hj:(ops[j]?).bind (·.dst)=some d)(hl:lk s.env d=some x)(hx:∀v,RA F H m x v→v≠undef∨True):
  yielded ops a.tmps j=(match a.tmps.getD d undef with| .bool b=>some b|_=>none):=by
 unfold yielded;rw[hj];show(match a.tmps[d]? with|some (.bool b)=>some b|_=>none)=_;by_cases h:d<a.tmps.size
 ·rw[Array.getElem?_eq_getElem h];simp[Array.getD,h];cases a.tmps[d]<;>rfl
 ·rw[Array.getElem?_eq_none (by omega)];simp[Array.getD,h];rfl
theorem rp{ops:Array Oper}{F:Nat→Prop}{γ:List Value}{yes no:St→Prop}(h:Xg ops o s yes no)(hs:fh c r F γ s .undef undef a w):
  (Region.wanted o (yielded ops a.tmps)=true∧∃s',yes s'∧s'.ah=s.ah∧fh c r F γ s' .undef undef a w)∨(Region.wanted o (yielded ops a.tmps)=false∧∃s',no s'∧s'.ah=s.ah∧fh c r F γ s' .undef undef a w):=by
 unfold Xg at h;split at h
 ·rename_i hg;exact .inl ⟨by simp[Region.wanted,hg],s,h,rfl,hs⟩
 ·rename_i j want hg;split at h
  ·rename_i d hd;have hs':=hs;obtain⟨hn,hds,hA,hW,hE,_⟩:=hs';split at h
   ·rename_i b hl;have hy:=Ah (ops:=ops) hE hd hl (fun _ _=>.inr trivial);have hv:=hE d _ hl;generalize hvv:a.tmps.getD d undef=v at hy hv;cases hv with
    |bool _=>
     have put:∀b',b'=b→fh c r F γ ⟨(d,.c (.bool b'))::s.env,s.ah⟩ .undef undef a w:=fun b' hb=>by
      subst hb;refine⟨hn,hds,hA,hW,fun t x hlk=>?_,trivial⟩;simp only[lk]at hlk;by_cases e:Nat.beq d t=true
      ·rw[e]at hlk;cases hlk;obtain rfl:=Nat.eq_of_beq_eq_true e;rw[hvv];exact .bool .nl
      ·rw[Bool.not_eq_true]at e;rw[e]at hlk;exact hE t x hlk
     have hw:Region.wanted o (yielded ops a.tmps)=(some b==some want):=by simp only[Region.wanted,hg,hy]
     cases b with
     |true=>
      have h:bif want then yes ⟨(d,.c (.bool true))::s.env,s.ah⟩else no ⟨(d,.c (.bool true))::s.env,s.ah⟩:=h
      rcases iw h with⟨rfl,h⟩|⟨rfl,h⟩
      ·exact .inl ⟨by rw[hw];rfl,_,h,rfl,put _ rfl⟩
      ·exact .inr ⟨by rw[hw];rfl,_,h,rfl,put _ rfl⟩
     |false=>
      have h:bif want then no ⟨(d,.c (.bool false))::s.env,s.ah⟩else yes ⟨(d,.c (.bool false))::s.env,s.ah⟩:=h
      rcases iw h with⟨rfl,h⟩|⟨rfl,h⟩
      ·exact .inr ⟨by rw[hw];rfl,_,h,rfl,put _ rfl⟩
      ·exact .inl ⟨by rw[hw];rfl,_,h,rfl,put _ rfl⟩
   ·rename_i hl;have hy:=Ah (ops:=ops) hE hd hl (fun _ _=>.inr trivial);have hv:a.tmps.getD d undef=undef:=hE d _ hl;rw[hv]at hy;have hy':yielded ops a.tmps j=none:=by rw[hy];rfl
    refine .inr ⟨?_,s,h,rfl,hs⟩;simp only[Region.wanted,hg,hy'];rfl
   ·exact h.elim
  ·exact h.elim
theorem Au(hT:bm c.P c.tab){ops:Array Oper}{k:St→Prop}{K:XE→St→Prop}{Q:Exit→Act→World→Prop}(hQn:∀s a w,k s→SR c r s .undef undef a w→Q .normal a w)(hQ:∀ch a w,Qk c r K (.panic ch) a w→Q (.panic ch) a w):
  ∀(l:List Oper) (s:St) (a:Act) (w:World),Xl c ops (l.map fun o=>(G.any,o)) s k (fun v s=>K (.pan v) s)→SR c r s .undef undef a w→wpList c.P ops Q l a w:=by
 intro l;induction l with
 |nil=>intro s a w h hs;exact wpList_nil (hQn _ _ _ h hs)
 |cons o l ih=>
  intro s a w h hs;refine wpList_step fun KK hK=>?_;obtain⟨F,γ,hs⟩:=hs;rcases rp (rq h) hs with⟨hw,s',h,_,hs'⟩|⟨hw,s',h,_,hs'⟩
  ·rw[if_pos hw];exact Oper.wp_mono (fun a' w' ⟨F2,γ2,s2,h2,hs2,_⟩=>hK _ _ (ih s2 a' w' h2 ⟨F2,γ2,hs2⟩)) (uS hT h hs' hQ)
  ·rw[if_neg (by rw[hw];simp)];obtain⟨hn,hds,hA,hW,hE,_⟩:=hs';obtain⟨s2,h2,_,hs2⟩:=lJ (x:= .off) (v:=undef) h hn hds hA hW hE rfl;exact hK _ _ (ih s2 _ _ h2 ⟨F,γ,hs2⟩)
end
end Go.AM
end
section
namespace Go.AM
open Go Go.NB
def bitsOf(acc:Array Nat)(o:Oper):Nat:=o.after.toList.foldl (fun s e=>bif Region.binds .any e then s|||2^e.on|||acc.getD e.on 0 else s) 0
def lY:List Oper→Array Nat→Array Nat
 |[],acc=>acc
 |o::r,acc=>lY r (acc.push (bitsOf acc o))
inductive gg(ops:Array Oper):Nat→Nat→Prop
 |one {i j:Nat} {o:Oper} {e:Edge} (h:ops[j]? =some o) (he:e∈o.after) (hb:Region.binds .any e=true) (hi:e.on=i):gg ops i j
 |more {i j:Nat} {o:Oper} {e:Edge} (h:ops[j]? =some o) (he:e∈o.after) (hb:Region.binds .any e=true) (hi:gg ops i e.on):gg ops i j
theorem AS{ops:Array Oper}{acc:Array Nat}{o:Oper}{j:Nat}(ho:ops[j]? =some o)(hacc:∀i q,(acc.getD q 0).testBit i=true→gg ops i q):∀i,(bitsOf acc o).testBit i=true→gg ops i j:=by
 have key:∀(l:List Edge) (s:Nat),(∀e∈l,e∈o.after)→(∀i,s.testBit i=true→gg ops i j)→∀i,(l.foldl (fun s e=>bif Region.binds .any e then s|||2^e.on|||acc.getD e.on 0 else s) s).testBit i=true→gg ops i j:=by
  intro l;induction l with
  |nil=>intro s _ hs i h;exact hs i h
  |cons e l ih=>
   intro s hl hs i h;rw[List.foldl_cons]at h;refine ih _ (fun e he=>hl e (by simp[he])) (fun i hi=>?_) i h;by_cases hb:Region.binds .any e=true
   ·rw[hb,cond_true,Nat.testBit_or,Nat.testBit_or,Bool.or_eq_true,Bool.or_eq_true]at hi;rcases hi with(hi|hi)|hi
    ·exact hs i hi
    ·rw[Nat.testBit_two_pow]at hi;exact .one ho (hl e (by simp)) hb (by simpa using hi)
    ·exact .more ho (hl e (by simp)) hb (hacc i _ hi)
   ·rw[Bool.not_eq_true]at hb;rw[hb,cond_false]at hi;exact hs i hi
 intro i h;exact key o.after.toList 0 (fun e he=>by simpa using he) (fun i hi=>by simp at hi) i h
theorem vD{ops:Array Oper}:∀(l:List Oper) (acc:Array Nat),(∀q o,l[q]? =some o→ops[acc.size+q]? =some o)→(∀i q,(acc.getD q 0).testBit i=true→gg ops i q)→∀i q,((lY l acc).getD q 0).testBit i=true→gg ops i q
 |[],acc,_,h=>h
 |o::r,acc,hl,h=>by
  refine vD r _ (fun q o' hq=>?_) (fun i q hi=>?_)
  ·have:=hl (q+1) o' (by simpa using hq);rw[Array.size_push];rw[show acc.size+1+q=acc.size+(q+1)by omega];exact this
  ·by_cases hq:q<acc.size
   ·refine h i q ?_;simp only[Array.getD_eq_getD_getElem?]at hi⊢;rw[Array.getElem?_push_lt hq]at hi;rw[Array.getElem?_eq_getElem hq];exact hi
   ·by_cases he:q=acc.size
    ·subst he;have h1:=hl 0 o rfl;simp only[Array.getD_eq_getD_getElem?,Array.getElem?_push_size,Option.getD_some]at hi;exact AS h1 h i hi
    ·simp only[Array.getD_eq_getD_getElem?]at hi;rw[Array.getElem?_eq_none (by simp;omega)]at hi;simp at hi
def bh(op:Op):Bool:= !gE op
def tg(ops:Array Oper)(bits:Array Nat)(j:Nat):Bool:=(List.range ops.size).all fun i=>match ops[i]? with
 |some o=> !bh o.op||Nat.beq i j||(bits.getD j 0).testBit i||(bits.getD i 0).testBit j
 |none=>true
section
variable {P:Program} {ops:Array Oper} {Q:Exit→Act→World→Prop} {S:World→Prop} {late:Nat→Bool}
def Cl(ops:Array Oper)(listed:Array Bool):Prop:=
 ∀(j:Nat) (oj:Oper),ops[j]? =some oj→listed.getD j false=true→∀e∈oj.after,Region.binds .any e=true→listed.getD e.on false=true
theorem Cl.step{listed:Array Bool}{j:Nat}(hc:Cl ops listed)(hj:j∈Region.ready .any ops listed):Cl ops (listed.setIfInBounds j true):=fun k ok hk hl e he hb=>by
 obtain⟨_,oj,hoj,hall⟩:=mem_ready.1 hj;by_cases hkj:j=k
 ·subst hkj;rw[hk]at hoj;cases hoj;exact getD_set_true (hall e he hb)
 ·rw[getD_set_ne false hkj]at hl;exact getD_set_true (hc k ok hk hl e he hb)
theorem uY{listed:Array Bool}(hc:Cl ops listed){i j:Nat}(h:gg ops i j):(∀o,ops[j]? =some o→∀e∈o.after,Region.binds .any e=true→listed.getD e.on false=true)→listed.getD i false=true:=by
 induction h with
 |one h he hb hi=>intro hj;rw[←hi];exact hj _ h _ he hb
 |more h he hb _ ih=>intro hj;exact ih fun o' ho' e' he' hb'=>hc _ _ ho' (hj _ h _ he hb) e' he' hb'
def gp(g:G)(D:Nat→Prop)(H H':ab):Prop:=∀k,D k→iX g H H' k
theorem gp.bQ{H H':ab}(h:gp .grow (fun k=>k<H.size) H H'):ak [] H H':=by
 refine⟨?_,fun k hk _=>h k hk⟩;rcases Nat.eq_zero_or_pos H.size with h0|h0
 ·omega
 ·have:H'[H.size-1]? =H[H.size-1]? :=h (H.size-1) (by show H.size-1<H.size;omega);rw[Array.getElem?_eq_getElem (by omega:H.size-1<H.size)]at this;have:=(Array.getElem?_eq_some_iff.1 this).1;omega
def lQ(P:Program)(ops:Array Oper)(Q:Exit→Act→World→Prop)(late:Nat→Bool)(g:G):Nat→(Nat→Prop)→Array Bool→Act→World→Prop
 |0,_,listed,a,w=>Region.ready .any ops listed=[]∧Q .normal a w
 |fuel+1,Pr,listed,a,w=>(Region.ready .any ops listed=[]→Q .normal a w)∧
  ∀i∈Region.ready .any ops listed,wpOp P ops Q i (fun a' w'=>∃Pr',(late i=true∨(gp g Pr w.heap w'.heap∧∀k,Pr k→Pr' k))∧lQ P ops Q late g fuel Pr' (listed.setIfInBounds i true) a' w') a w
theorem Ae{g:G}:∀(fuel:Nat) (Pr:Nat→Prop) (listed:Array Bool) (a:Act) (w:World),lQ P ops Q late g fuel Pr listed a w→wpAny P .any ops Q fuel listed a w
 |0,_,_,_,_,h=>h
 |fuel+1,_,_,_,_,h=>⟨h.1,fun i hi=>wpOp_mono (fun a' w' ⟨Pr',_,h'⟩=>Ae fuel Pr' _ a' w' h') (h.2 i hi)⟩
theorem z8{listed:Array Bool}{i:Nat}(h:listed.getD i true=false):listed.getD i false=false:=by
 rcases Nat.lt_or_ge i listed.size with h'|h'
 ·simp[h']at h⊢;exact h
 ·simp[Array.getElem?_eq_none h']at h
theorem Ho{g:G}{i:Nat}{oi:Oper}{v:Value}(hi:ops[i]? =some oi)(hsel:∀(j:Nat) (o:Oper) cs b,ops[j]? =some o→o.op≠.select cs b)
  (hQ:∀c a w,Q (.panic c) (a.put oi.dst v) w→Q (.panic c) a w){w0:World}{D:Nat→Prop}{n:Prop}
  (hl:n∨∀(listed:Array Bool) (j:Nat),Cl ops listed→i∈Region.ready .any ops listed→j∈Region.ready .any ops listed→listed.getD i false=false→j≠i→late j=false):
  ∀(fuel:Nat) (Pr:Nat→Prop) (listed:Array Bool) (a:Act) (w:World),Cl ops listed→
   (∀j oj,ops[j]? =some oj→j≠i→listed.getD j true=false→(∀e∈oj.after,Region.binds .any e=true→e.on≠i)→oi.apart ops oj=true)→
   i∈Region.ready .any ops listed→YieldsIf P ops (fun w'=>n∨gp g D w0.heap w'.heap) oi v a→(n∨(gp g D w0.heap w.heap∧∀k,D k→Pr k))→
   lQ P ops Q late g fuel Pr (listed.setIfInBounds i true) (a.put oi.dst v) w→lQ P ops Q late g (fuel+1) Pr listed a w:=by
 intro fuel;induction fuel with
 |zero=>
  intro Pr listed a w _ _ hr hy hSw H;have hSw':n∨gp g D w0.heap w.heap:=hSw.imp id (·.1);refine⟨fun h=>(by rw[h]at hr;cases hr),fun j hj=>?_⟩;by_cases hji:j=i
  ·subst hji;exact hy.wpOp hi hSw' ⟨Pr,.inr ⟨fun _ _=>.of rfl,fun _ h=>h⟩,H⟩
  ·have:=ready_mono hj hji;rw[H.1]at this;cases this
 |succ fuel ih=>
  intro Pr listed a w hc hfree hr hy hSw H;have hSw':n∨gp g D w0.heap w.heap:=hSw.imp id (·.1);refine⟨fun h=>(by rw[h]at hr;cases hr),fun j hj=>?_⟩;by_cases hji:j=i
  ·subst hji;exact hy.wpOp hi hSw' ⟨Pr,.inr ⟨fun _ _=>.of rfl,fun _ h=>h⟩,H⟩
  ·have h1:=H.2 j (ready_mono hj hji);have hiun:=z8 (mem_ready.1 hr).1;obtain⟨hjun,oj,hoj,hall⟩:=mem_ready.1 hj
   have hnot:∀e∈oj.after,Region.binds .any e=true→e.on≠i:=fun e he hb heq=>by
    have h2:=hall e he hb;rw[heq,hiun]at h2;cases h2
   have h2:=wpOp_putIf hoj (hfree j oj hoj hji hjun hnot) (fun cs b=>hsel i oi cs b hi) (fun cs b=>hsel j oj cs b hoj) hQ hy h1
   have hfree':∀k ok,ops[k]? =some ok→k≠i→(listed.setIfInBounds j true).getD k true=false→
     (∀e∈ok.after,Region.binds .any e=true→e.on≠i)→oi.apart ops ok=true:=fun k ok hk hki hun hno=>by
    refine hfree k ok hk hki ?_ hno;by_cases hjk:j=k
    ·subst hjk;exact hjun
    ·rw[getD_set_ne true hjk]at hun;exact hun
   refine wpOp_mono (fun a' w' h3=>?_) h2;obtain⟨h4,Pr',h5,h6⟩:=h3
   have hS2:n∨(gp g D w0.heap w'.heap∧∀k,D k→Pr' k):=by
    rcases hl with hl|hl
    ·exact .inl hl
    ·rcases hSw with hSw|⟨g1,g2⟩
     ·exact .inl hSw
     ·rcases h5 with h5|⟨h5,h7⟩
      ·rw[hl listed j hc hr hj hiun hji]at h5;cases h5
      ·exact .inr ⟨fun k hk=>(g1 k hk).trans (h5 k (g2 k hk)),fun k hk=>h7 k (g2 k hk)⟩
   refine⟨Pr',h5,ih Pr' (listed.setIfInBounds j true) a' w' (hc.step hj) hfree' (ready_mono hr (Ne.symm hji)) h4 hS2 ?_⟩;rw[Array.setIfInBounds_comm _ _ hji];exact h6
theorem DQ{bits:Array Nat}(hbits:∀i q,(bits.getD q 0).testBit i=true→gg ops i q){i:Nat}{oi:Oper}(hi:ops[i]? =some oi)(hr:bh oi.op=true):
  ∀(listed:Array Bool) (j:Nat),Cl ops listed→i∈Region.ready .any ops listed→j∈Region.ready .any ops listed→listed.getD i false=false→j≠i→tg ops bits j=false:=fun listed j hc hri hj hun hne=>by
 cases h:tg ops bits j with
 |false=>rfl
 |true=>
  have hlt:=(Array.getElem?_eq_some_iff.1 hi).1;have h1:=List.all_eq_true.1 h i (List.mem_range.2 hlt);rw[hi]at h1;simp only[hr,Bool.not_true,Bool.false_or,Bool.or_eq_true]at h1;rcases h1 with(h1|h1)|h1
  ·exact(hne (Nat.eq_of_beq_eq_true h1).symm).elim
  ·obtain⟨_,oj,hoj,hall⟩:=mem_ready.1 hj;have:=uY hc (hbits i j h1) fun o ho e he hb=>by rw[hoj]at ho;cases ho;exact hall e he hb
   rw[hun]at this;cases this
  ·obtain⟨_,oi',hoi,hall⟩:=mem_ready.1 hri;have:=uY hc (hbits j i h1) fun o ho e he hb=>by rw[hoi]at ho;cases ho;exact hall e he hb
   rw[z8 (mem_ready.1 hj).1]at this;cases this
end
def oM(tab:Nat→Option TD):Op→Bool
 | .move _| .assign _| .pick .. | .load .. | .nilCheck _| .binOp .. | .unOp .. | .build .. | .fieldAddr .. | .field .. | .indexAddr .. | .index .. | .slice .. | .extract .. | .makeFunc .. | .makeInterface .. =>true
 | .convert _ u _=>match tab u with
  |some d=>match d.kind with
   | .int _=>true
   | .str=>true
   |_=>false
  |none=>false
 | .call c=>match c.callee with
  | .builtin .len=>true
  | .builtin .max=>true
  | .builtin .min=>true
  |_=>false
 |_=>false
def uA(m:Bool)(tab:Nat→Option TD)(op:Op):Bool:=oM tab op&&(!m||gE op)
def nJ(m:Bool)(tab:Nat→Option TD)(ops:Array Oper):List Nat→Array Bool→(Array Bool→Bool)→Bool
 |[],listed,D=>D listed
 | i :: r, listed, D => (match ops[i]? with
   |some o=>bif uA m tab o.op then Region.free .any ops listed i&&(Region.ready .any ops listed).contains i else Region.ready .any ops listed==[i]
   |none=>false)&&nJ m tab ops r (listed.setIfInBounds i true) D
inductive DT where
 |l (ord:List Nat)
 |alt (ord js:List Nat) (f:Nat→DT)
def sh(m:Bool)(tab:Nat→Option TD)(ops:Array Oper):DT→Array Bool→Bool
 | .l ord,listed=>nJ m tab ops ord listed fun listed=>(Region.ready .any ops listed).isEmpty
 | .alt ord js f,listed=>nJ m tab ops ord listed fun listed=> !js.isEmpty&&(Region.ready .any ops listed==js)&&js.all fun j=>sh m tab ops (f j) (listed.setIfInBounds j true)
def p8:DT→Nat→Bool
 | .l ord,n=>Nat.beq ord.length n
 | .alt ord js f,n=>Nat.ble (ord.length+1) n&&js.all fun j=>p8 (f j) (n-(ord.length+1))
def eg(m:Bool)(ops:Array Oper)(bits:Array Nat)(j:Nat):Bool:=m||tg ops bits j
def gz(ops:Array Oper)(late:Nat→Bool)(g:G):List Nat→List (G×Oper)
 |[]=>[]
 |i::r=>match ops[i]? with
  |some o=>(bif gE o.op&&late i then .any else g,o)::gz ops late g r
  |none=>gz ops late g r
def sg(m:Bool)(g:G)(tab:Nat→Option TD)(ops:Array Oper)(t:DT):Bool:=
 (m||g.strict)&&p8 t ops.size&&Region.noSelect ops&&sh m tab ops t (Array.replicate ops.size false)
def lR(P:Nat→Prop)(l:List Nat):Prop:=
 List.rec (motive:=fun _=>Prop) True (fun j r ih=>List.rec (motive:=fun _=>Prop) (P j) (fun _ _ _=>P j∧ih) r) l
theorem lR.get{P:Nat→Prop}:∀{l:List Nat},lR P l→∀j∈l,P j
 |[],_,j,h=>by cases h
 |[i],h,j,hj=>by simp at hj;subst hj;exact h
 |i::k::r,h,j,hj=>by
  have h:P i∧lR P (k::r):=h;rcases List.mem_cons.1 hj with rfl|hj
  ·exact h.1
  ·exact lR.get h.2 j hj
def XT(c:da)(ops:Array Oper)(late:Nat→Bool)(g:G)(k:St→Prop)(kp:A→St→Prop)(t:DT):St→Prop:=
 DT.rec (motive:=fun _=>St→Prop) (fun ord s=>Xl c ops (gz ops late g ord) s k kp)
  (fun ord js _ ih s=>Xl c ops (gz ops late g ord) s (fun s=>lR (fun j=>Xl c ops (gz ops late g [j]) s (fun s=>ih j s) kp) js) kp) t
section
variable {c:da} {r:iW} {o:Oper}
theorem GI{tab:Nat→Option TD}{s:St}{op:Op}(h:oM tab op=true):s8 tab s op=false∧(∀x,op≠.panic x)∧(∀fx as tys,op≠.call ⟨.value fx,as,tys⟩):=by
 cases op with
 |convert t u x=>
  refine⟨?_,(fun _ h=>by cases h),(fun _ _ _ h=>by cases h)⟩;simp only[s8];simp only[oM]at h;cases hu:tab u with
  |none=>rw[hu]at h;cases h
  |some d=>
   rw[hu]at h;simp only[]at h;cases hx:aM s x with
   |c y=>
    cases y with
    |str l=>
     simp only[];cases hd:d.kind with
     |sl e=>rw[hd]at h;cases h
     |_=>rfl
    |rw l=>
     simp only[];cases hd:d.kind with
     |sl e=>rw[hd]at h;cases h
     |_=>rfl
    |_=>rfl
   |_=>rfl
 |call cl=>
  obtain⟨cal,as,tys⟩:=cl;cases cal with
  |builtin b=>cases b<;>first|(cases h;done)|exact⟨rfl,(fun _ h=>by cases h),(fun _ _ _ h=>by cases h)⟩
  |value f=>cases h
  |invoke f n=>cases h
 |_=>first|(cases h;done)|exact⟨rfl,(fun _ h=>by cases h),(fun _ _ _ h=>by cases h)⟩
theorem Av{g:G}{s:St}{k:St→Prop}{kp:A→St→Prop}(hs:oM c.tab o.op=true)(h:Xo c g o s k kp):g.mem o.op s=true∧Y1 c.tab s o.op (fun x=>gH c.n s o.dst x k):=by
 obtain⟨h1,h2,h3⟩:=GI (s:=s) hs;unfold Xo at h;split at h
 ·rename_i x ho;exact(h2 x ho).elim
 ·rename_i fx as tys ho;exact(h3 fx as tys ho).elim
 ·rcases iw h with⟨ha,_⟩|⟨_,h⟩
  ·rw[h1]at ha;cases ha
  ·exact bM h
def rh(K:XE→St→Prop):Prop:=∀x s,K (.pan x) s→K (.pan x) ⟨[],s.ah⟩
def nE(K:XE→St→Prop):XE→St→Prop
 | .pan x,s=>K (.pan x) ⟨[],s.ah⟩
 |e,s=>K e s
theorem Aq{K:XE→St→Prop}(hK:rh K){ch:List PanicEntry}{a:Act}{w:World}{d:Option Nat}{v:Value}(h:Qk c r K (.panic ch) (a.put d v) w):Qk c r K (.panic ch) a w:=by
 obtain⟨v',x,s,h1,h2,F,γ,h3,h4,h5,h6,h7,h8⟩:=h;refine⟨v',x,⟨[],s.ah⟩,h1,hK _ _ h2,F,γ,?_,?_,h5,h6,(fun t x h=>by cases h),h8⟩
 ·cases d<;>simpa[Act.put]using h3
 ·cases d<;>simpa[Act.put]using h4
abbrev oX(c:da)(ops:Array Oper)(Q:Exit→Act→World→Prop)(late:Nat→Bool)(g:G)(r:iW)(F:Nat→Prop)(γ:List Value)(s:St)(fuel:Nat)(listed:Array Bool)(a:Act)(w:World):Prop:=
 lQ c.P ops Q late g fuel (ff g r.E F γ s.ah w.heap) listed a w
theorem uU(hT:bm c.P c.tab){ops:Array Oper}{late:Nat→Bool}{g:G}(hg:(∀i,late i=true)∨g.strict=true){k:St→Prop}{K:XE→St→Prop}{j:Nat}{s:St}{F:Nat→Prop}{γ:List Value}{a:Act}{w:World}{R:(Nat→Prop)→Act→World→Prop}(ho:ops[j]? =some o)
  (h:Xl c ops (gz ops late g [j]) s k (fun v s=>K (.pan v) s))(hs:fh c r F γ s .undef undef a w)(hR:∀F γ s a w,k s→fh c r F γ s .undef undef a w→R (ff g r.E F γ s.ah w.heap) a w):
  wpOp c.P ops (Qk c r K) j (fun a' w'=>∃Pr',(late j=true∨(gp g (ff g r.E F γ s.ah w.heap) w.heap w'.heap∧∀q,ff g r.E F γ s.ah w.heap q→Pr' q))∧R Pr' a' w') a w:=by
 simp only[gz,ho]at h;unfold wpOp;simp only[ho];rcases rp (rq h) hs with⟨hw,s1,h1,e1,hs1⟩|⟨hw,s1,h1,e1,hs1⟩
 ·rw[if_pos hw];refine .inl (Oper.wp_mono (fun a' w' ⟨F2,γ2,s2,h2,hs2,hp⟩=>⟨_,?_,hR F2 γ2 s2 _ _ h2 hs2⟩) (uS hT h1 hs1 (fun ch a w h=>h)));cases hl:late j with
  |true=>exact .inl rfl
  |false=>
   rcases hg with hg|hg
   ·rw[hg j]at hl;cases hl
   ·rw[hl,Bool.and_false]at hp;rw[←e1];exact .inr ⟨fun q hq=>(hp hg q hq).1,fun q hq=>(hp hg q hq).2⟩
 ·rw[if_neg (by rw[hw];simp)];obtain⟨hn,hds,hA,hW,hE,_⟩:=hs1;obtain⟨s2,h2,e2,hs2⟩:=lJ (x:= .off) (v:=undef) h1 hn hds hA hW hE rfl;exact⟨_,.inr ⟨fun _ _=>.of rfl,fun q hq=>by rw[e2,e1];exact hq⟩,hR F γ s2 _ _ h2 hs2⟩
theorem Em(hT:bm c.P c.tab){g:G}{s:St}{k:A→Prop}{F:Nat→Prop}{γ:List Value}{a:Act}{w:World}(hg:g.strict=true)(hst:oM c.tab o.op=true)(hE:ER F w.heap ⟨r.E.B,γ⟩ s.env a)(hW:WR r.E F γ s.ah w.heap)
  (hm:g.mem o.op s=true)(h:Y1 c.tab s o.op k):∃v x,k x∧RA F w.heap ⟨r.E.B,γ⟩ x v∧∀w':World,(gE o.op=true∨gp g (ff g r.E F γ s.ah w.heap) w.heap w'.heap)→(execOp a.eval o).run c.P w'= .ok (.value v) w':=by
 cases hN:gE o.op with
 |true=>
  obtain⟨v,x,h1,h2,h3⟩:=o4 hT hE hW h;exact⟨v,x,h1,h2,fun w' _=>h3 w' (.inl hN)⟩
 |false=>
  cases g with
  |any=>cases hg
  |grow=>
   obtain⟨v,x,h1,h2,h3⟩:=o4 hT hE hW h;exact⟨v,x,h1,h2,fun w' hw=>h3 w' (.inr (gp.bQ (hw.resolve_left (by simp))))⟩
  |prot pl=>
   generalize ho:o.op=op at hm h hN;cases op with
   |load t x=>
    obtain⟨b,hb,hy⟩:=HG (pl:=pl) hT hE hW ho h hm;obtain⟨v,y,h1,h2,h3⟩:=hy;exact⟨v,y,h1,h2,fun w' hw=>h3 w' (hw.resolve_left (by simp) b hb)⟩
   |convert t u x=>cases hm
   |_=>cases hN
theorem uR(hT:bm c.P c.tab){K:XE→St→Prop}(hK:rh K){ops:Array Oper}{bits:Array Nat}{m:Bool}{g:G}(hg:(m||g.strict)=true)(hbits:∀i q,(bits.getD q 0).testBit i=true→gg ops i q)(hsel:Region.noSelect ops=true){k:St→Prop}{D:Array Bool→Bool}{fuel:Nat}
  (hk:∀(listed:Array Bool) (F:Nat→Prop) (γ:List Value) (s:St) (a:Act) (w:World),Cl ops listed→D listed=true→k s→fh c r F γ s .undef undef a w→oX c ops (Qk c r K) (eg m ops bits) g r F γ s fuel listed a w):
  ∀(ord:List Nat) (listed:Array Bool) (F:Nat→Prop) (γ:List Value) (s:St) (a:Act) (w:World),Cl ops listed→nJ m c.tab ops ord listed D=true→Xl c ops (gz ops (eg m ops bits) g ord) s k (fun v s=>K (.pan v) s)→fh c r F γ s .undef undef a w→
   oX c ops (Qk c r K) (eg m ops bits) g r F γ s (fuel+ord.length) listed a w:=by
 have hgl:(∀i,eg m ops bits i=true)∨g.strict=true:=by
  rw[Bool.or_eq_true]at hg;exact hg.imp (fun h i=>by unfold eg;rw[h];rfl) id
 intro ord;induction ord with
 |nil=>
  intro listed F γ s a w hc hd h hs;exact hk listed F γ s a w hc hd h hs
 |cons i ord ih=>
  intro listed F γ s a w hc hd h hs;simp only[nJ,Bool.and_eq_true]at hd;obtain⟨hd1,hd2⟩:=hd;cases ho:ops[i]? with
  |none=>rw[ho]at hd1;cases hd1
  |some o=>
   rw[ho]at hd1;have h0:=h;simp only[gz,ho]at h;simp only[]at hd1;by_cases hst:uA m c.tab o.op=true
   ·rw[hst]at hd1;simp only[cond_true,Bool.and_eq_true]at hd1;obtain⟨hfree,hrd⟩:=hd1;have hrd':i∈Region.ready .any ops listed:=by simpa using hrd
    have hst':=hst;unfold uA at hst';rw[Bool.and_eq_true,Bool.or_eq_true,Bool.not_eq_true']at hst'
    have key:∃v,YieldsIf c.P ops (fun w'=>gE o.op=true∨gp g (ff g r.E F γ s.ah w.heap) w.heap w'.heap) o v a∧∃s',s'.ah=s.ah∧Xl c ops (gz ops (eg m ops bits) g ord) s' k (fun v s=>K (.pan v) s)∧fh c r F γ s' .undef undef (a.put o.dst v) w:=by
     rcases rp (rq h) hs with⟨hw,s1,h1,e1,hn,hds,hA,hW,hE,_⟩|⟨hw,s1,h1,e1,hn,hds,hA,hW,hE,_⟩
     ·suffices hh:∃v x,gH c.n s1 o.dst x (fun s=>Xl c ops (gz ops (eg m ops bits) g ord) s k (fun v s=>K (.pan v) s))∧RA F w.heap ⟨r.E.B,γ⟩ x v∧∀w':World,(gE o.op=true∨gp g (ff g r.E F γ s.ah w.heap) w.heap w'.heap)→(execOp a.eval o).run c.P w'= .ok (.value v) w' by
       obtain⟨v,x,hk2,hx,hrun⟩:=hh;obtain⟨s',g1,e2,g2⟩:=lJ hk2 hn hds hA hW hE hx;exact⟨v,.inl ⟨hw,fun w' h=>hrun w' h⟩,s',by rw[e2,e1],g1,g2⟩
      obtain⟨hm1,hy⟩:=Av hst'.1 h1;cases hN:gE o.op with
      |true=>
       obtain⟨v,x,q1,q2,q3⟩:=o4 hT hE hW hy;exact⟨v,x,q1,q2,fun w' _=>q3 w' (.inl hN)⟩
      |false=>
       have hm0:m=false:=hst'.2.resolve_right (by rw[hN];simp);have hgs:g.strict=true:=by rw[hm0]at hg;exact hg
       rw[hN,Bool.false_and,cond_false]at hm1;have:=Em (r:=r) hT hgs hst'.1 hE hW hm1 hy;rw[hN,e1]at this;exact this
     ·obtain⟨s',g1,e2,g2⟩:=lJ (x:= .off) (v:=undef) h1 hn hds hA hW hE rfl;exact⟨undef,.inr ⟨hw,rfl⟩,s',by rw[e2,e1],g1,g2⟩
    obtain⟨v,hy,s',e',h',hs'⟩:=key;refine Ho (w0:=w) (D:=ff g r.E F γ s.ah w.heap) (n:=gE o.op=true) (v:=v) (g:=g) ho (Region.noSelect_spec hsel) (fun ch a w h=>Aq hK h) ?_ _ _ listed a w hc (Region.free_spec ho hfree) hrd' hy (.inr ⟨fun _ _=>.of rfl,fun _ h=>h⟩) (by have:=ih _ F γ s' _ _ (hc.step hrd') hd2 h' hs';unfold oX at this;rw[e']at this;exact this);by_cases hN:gE o.op=true
    ·exact .inl hN
    ·have hm:m=false:=hst'.2.resolve_right hN;subst hm;exact .inr (DQ hbits ho (by simp[bh,hN]))
   ·rw[Bool.not_eq_true]at hst;rw[hst]at hd1;simp only[cond_false]at hd1;have hrd:Region.ready .any ops listed=[i]:=by simpa using hd1
    have hrd':i∈Region.ready .any ops listed:=by rw[hrd];simp
    refine⟨fun h0=>(by rw[hrd]at h0;cases h0),fun j hj=>?_⟩;rw[hrd]at hj;obtain rfl:j=i:=by simpa using hj
    refine uU (late:=eg m ops bits) (g:=g) (k:=fun s=>Xl c ops (gz ops (eg m ops bits) g ord) s k (fun v s=>K (.pan v) s)) (R:=fun Pr a' w'=>lQ c.P ops (Qk c r K) (eg m ops bits) g (fuel+ord.length) Pr (listed.setIfInBounds j true) a' w') hT hgl ho ?_ hs (fun F2 γ2 s2 a' w' h2 hs2=>ih _ F2 γ2 s2 _ _ (hc.step hrd') hd2 h2 hs2);simp only[gz,ho];exact h
theorem As(hT:bm c.P c.tab){K:XE→St→Prop}(hK:rh K){ops:Array Oper}{bits:Array Nat}{m:Bool}{g:G}(hg:(m||g.strict)=true)(hbits:∀i q,(bits.getD q 0).testBit i=true→gg ops i q)(hsel:Region.noSelect ops=true){k:St→Prop}(hk:∀s,k s→K .normal s):
  ∀(t:DT) (n:Nat) (listed:Array Bool) (F:Nat→Prop) (γ:List Value) (s:St) (a:Act) (w:World),p8 t n=true→Cl ops listed→sh m c.tab ops t listed=true→XT c ops (eg m ops bits) g k (fun v s=>K (.pan v) s) t s→fh c r F γ s .undef undef a w→
   oX c ops (Qk c r K) (eg m ops bits) g r F γ s n listed a w:=by
 have hgl:(∀i,eg m ops bits i=true)∨g.strict=true:=by
  rw[Bool.or_eq_true]at hg;exact hg.imp (fun h i=>by unfold eg;rw[h];rfl) id
 intro t;induction t with
 |l ord=>
  intro n listed F γ s a w hn hc hd h hs;obtain rfl:=Nat.eq_of_beq_eq_true hn;have:=uR (r:=r) (K:=K) (D:=fun listed=>(Region.ready .any ops listed).isEmpty) (fuel:=0) hT hK hg hbits hsel (fun listed F γ s a w _ hD hk' hs=>⟨by simpa using hD,s,hk s hk',F,γ,hs⟩) ord listed F γ s a w hc hd h hs;rw[Nat.zero_add]at this;exact this
 |alt ord js f ih=>
  intro n listed F γ s a w hn hc hd h hs;simp only[p8,Bool.and_eq_true]at hn;have hle:=Nat.le_of_ble_eq_true hn.1;have:=uR (r:=r) (K:=K) (fuel:=n-(ord.length+1)+1) hT hK hg hbits hsel (fun listed F γ s a w hc hD hk' hs=>?_) ord listed F γ s a w hc hd h hs
  ·rw[show n-(ord.length+1)+1+ord.length=n by omega]at this;exact this
  ·rw[Bool.and_eq_true,Bool.and_eq_true,beq_iff_eq]at hD;obtain⟨⟨hD0,hD1⟩,hD2⟩:=hD;refine⟨fun h0=>?_,fun j hj=>?_⟩
   ·rw[h0]at hD1;subst hD1;cases hD0
   ·have hj':j∈js:=by rw[←hD1];exact hj
    obtain⟨_,o,ho,_⟩:=mem_ready.1 hj;refine uU (g:=g) (R:=fun Pr a' w'=>lQ c.P ops (Qk c r K) (eg m ops bits) g (n-(ord.length+1)) Pr (listed.setIfInBounds j true) a' w') hT hgl ho (lR.get hk' j hj') hs (fun F2 γ2 s2 a' w' h2 hs2=>?_);exact ih j _ _ F2 γ2 s2 _ _ (List.all_eq_true.1 hn.2 j hj') (hc.step hj) (List.all_eq_true.1 hD2 j hj') h2 hs2
theorem wC(hT:bm c.P c.tab)(hm:c.P.follows .mixedOrders=true){id:Nat}{ops:Array Oper}{m:Bool}{g:G}{t:DT}{K:XE→St→Prop}(hd:sg m g c.tab ops t=true){s:St}{a:Act}{w:World}
  (h:XT c ops (eg m ops (lY ops.toList #[])) g (K .normal) (fun v s=>K (.pan v) ⟨[],s.ah⟩) t s)(hs:SR c r s .undef undef a w):(Code.region id ops true).wp c.P (Qk c r K) a w:=by
 refine Code.wp_mono (Q:=Qk c r (nE K)) (fun e a w hq=>?_) ?_
 ·cases e with
  |panic ch=>obtain⟨v,x,s,h1,h2,F,γ,h3,h4,h5,h6,h7,h8⟩:=hq;exact⟨v,x,⟨[],s.ah⟩,h1,h2,F,γ,h3,h4,h5,h6,(fun t x h=>by cases h),h8⟩
  |_=>exact hq
 simp only[sg,Bool.and_eq_true]at hd;obtain⟨⟨⟨h0,h1⟩,h2⟩,h3⟩:=hd;obtain⟨F,γ,hn,hds,hA,hW,hE,hx⟩:=hs;refine wp_region_any hm (Ae (late:=eg m ops (lY ops.toList #[])) (g:=g) _ (ff g r.E F γ s.ah w.heap) _ _ _ ?_);have hs':fh c r F γ s .undef undef a {w with drawn:=w.drawn+1}:=⟨hn,hds,⟨hA.os,hA.tape,hA.output,fun h=>Nat.le_succ_of_le (hA.drawn h)⟩,hW,hE,hx⟩;refine As hT (K:=nE K) (fun _ _ h=>h) h0 (vD _ _ (fun q o hq=>by simpa using hq) (fun i q h=>by simp at h)) h2 (fun s h=>h) t _ _ F γ s a _ h1 (fun j oj hj hl=>?_) h3 h hs';exfalso;simp only[Array.getD_eq_getD_getElem?]at hl;rcases Nat.lt_or_ge j ops.size with hlt|hge
 ·rw[Array.getElem?_eq_getElem (by simpa using hlt)]at hl;simp at hl
 ·rw[Array.getElem?_eq_none (by simpa using hge)]at hl;simp at hl
end
end Go.AM
end
section
namespace Go.AM
open Go Go.NB
def jK:Nat→List Rn→Nat→Bool
 |_,_,0=>true
 |i,.same j::r,n+1=>Nat.beq i j&&jK (i+1) r n
 |_,_,_=>false
theorem sR:∀{n i:Nat} {ρ:List Rn},jK i ρ n=true→∀q,q<n→ρ[q]? =some (.same (i+q))
 |0,_,_,_,q,h=>by omega
 |n+1,i,.same j::r,h,q,hq=>by
  simp only[jK,Bool.and_eq_true]at h;obtain rfl:=Nat.eq_of_beq_eq_true h.1;cases q with
  |zero=>rfl
  |succ q=>
   have:=sR h.2 q (by omega);rw[List.getElem?_cons_succ,this];congr 2
   omega
 |n+1,i,[],h,_,_=>by cases h
 |n+1,i,.new::_,h,_,_=>by cases h
 |n+1,i,.cut .. ::_,h,_,_=>by cases h
def mE(ah:List B)(ρ:List Rn)(env0:List (Nat×A)):List (Nat×A)→Prop
 |[]=>True
 | (t, x) :: r => (match lk env0 t with
  |some x0=>mA (fun _=>false) ah ρ x0 x
  |none=>match x with
   | .undef=>True
   |_=>False)∧mE ah ρ env0 r
def le(n0:Nat)(js:List Nat)(ρ:List Rn)(s t:St):Prop:=
 bif jK 0 ρ n0&&dP (cu ρ t.ah)then mE (aZ js s.ah) ρ s.env t.env∧jR (fun _=>false) (aZ js s.ah) ρ ρ t.ah else False
def LE(n0:Nat)(s t:St):Prop:=∃js ρ,le n0 js ρ s t
def lex(n0:Nat)(js:List Nat)(ρ:List Rn)(ah:List B)(x0 x:A)(tah:List B):Prop:=
 bif jK 0 ρ n0&&dP (cu ρ tah)then mA (fun _=>false) (aZ js ah) ρ x0 x∧jR (fun _=>false) (aZ js ah) ρ ρ tah else False
def Ak{ι:Type}(n0:Nat)(I:ι→St)(inv:ι→Prop)(m:ι→Nat)(lt:Nat)(s:St):Prop:=∃y,(inv y∧m y<lt)∧LE n0 s (I y)
abbrev Mn:Type 1:=St→(XE→St→Prop)→Prop
def Af:Mn:=fun s K=>K .normal s
def Hu:Mn:=fun s K=>K .ret s
def Hr(id:Nat):Mn:=fun s K=>K (.exit id) s
def qZ:Mn:=fun _ _=>False
def Hv(x y:Mn):Mn:=fun s K=>x s fun e s'=>match e with
  | .normal=>y s' K
  |e=>K e s'
def Hq(id:Nat)(b:Mn):Mn:=fun s K=>b s fun e s'=>match e with
  | .exit i=>bif Nat.beq i id then K .normal s' else K (.exit i) s'
  |e=>K e s'
def uM(x:Operand)(a b:Mn):Mn:=fun s K=>match aM s x with
  | .c (.bool q)=> @Bool.rec (fun _=>Prop) (b s K) (a s K) q
  |_=>False
def Hs(n0:Nat)(b:Mn):Mn:=fun s K=>∃(ι:Type) (I:ι→St) (inv:ι→Prop) (m:ι→Nat),(∃y,inv y∧LE n0 s (I y))∧∀x,inv x→b (I x) fun e s'=>match e with
  | .normal=>Ak n0 I inv m (m x) s'
  |e=>K e s'
def Ht(c:da)(ops:Array Oper)(draw:Bool):Mn:=fun s K=>bif draw then∃m g t,sg m g c.tab ops t=true∧(XT c ops (eg m ops (lY ops.toList #[])) g (K .normal) (fun v s=>K (.pan v) ⟨[],s.ah⟩) t s∨∃(ι:Type) (I:ι→St) (J:ι→Prop),XT c ops (eg m ops (lY ops.toList #[])) g (fun s'=>∃i,J i∧LE c.n0 s' (I i)) (fun v s=>K (.pan v) ⟨[],s.ah⟩) t s∧∀i,J i→K .normal (I i))
   else Xl c ops (ops.toList.map fun o=>(G.any,o)) s (K .normal) (fun v s=>K (.pan v) s)
def X(c:da)(code:Code):Mn:=
 Code.rec (motive:=fun _=>Mn) Af (fun _ ops draw=>Ht c ops draw) (fun _ _ x y=>Hv x y) (fun x _ _ a b=>uM x a b) (fun id _ b=>Hq id b) (fun _ b=>Hs c.n0 b)
  (fun _ _ _ _ _ _=>qZ) Hr (fun _ _=>qZ) (fun _=>Af) (fun _=>qZ) Hu (fun _=>qZ) code
section
variable {c:da} {r:iW}
theorem ym{E:En}{F:Nat→Prop}{γ:List Value}{ah:List B}{H:ab}{ρ:List Rn}{env0:List (Nat×A)}{a:Act}(hf:∀x0 x v,mA (fun _=>false) ah ρ x0 x→RA F H ⟨E.B,γ⟩ x0 v→RA F H ⟨E.B,ρ.map (bE γ)⟩ x v)(hE:ER F H ⟨E.B,γ⟩ env0 a):
  ∀{env:List (Nat×A)},mE ah ρ env0 env→ER F H ⟨E.B,ρ.map (bE γ)⟩ env a
 |[],_=>fun t x h=>by cases h
 |(t,x)::rr,⟨h1,h2⟩=>fun t' x' hl=>by
  unfold lk at hl;by_cases e:Nat.beq t t'=true
  ·rw[e]at hl;cases hl;obtain rfl:=Nat.eq_of_beq_eq_true e;split at h1
   ·rename_i x0 hx0;exact hf _ _ _ h1 (hE t x0 hx0)
   ·split at h1
    ·trivial
    ·exact h1.elim
  ·rw[Bool.not_eq_true]at e;rw[e]at hl;exact ym hf hE h2 t' x' hl
theorem tu{E:En}{F:Nat→Prop}{γ:List Value}{ah:List B}{H:ab}{js:List Nat}{ρ:List Rn}{x0 x:A}{tah:List B}{v:Value}(hn:E.γ0.length=c.n0)(hW:WR E F γ ah H)(hx:RA F H ⟨E.B,γ⟩ x0 v)(h:lex c.n0 js ρ ah x0 x tah):
  ∃F' γ',WR E F' γ' tah H∧RA F' H ⟨E.B,γ'⟩ x v:=by
 obtain⟨hc,h1,h2⟩:=bM h;rw[Bool.and_eq_true]at hc;obtain⟨F1,hF1,hW1⟩:=nP (js:=js) hW;have hid:=sR hc.1;obtain⟨g1,_⟩:=weaken hW1 h2 hc.2 (fun i hi=>by have:=hid i (by rw[←hn];exact hi);rw[Nat.zero_add]at this;exact this);exact⟨F1,_,g1,tD hW1 (fun _ h=>h) (fun j b g h=>by cases h) h1 (hx.ext (kt hF1))⟩
theorem nq(hn:r.E.γ0.length=c.n0){s t:St}{a:Act}{w:World}(h:LE c.n0 s t)(hs:SR c r s .undef undef a w):SR c r t .undef undef a w:=by
 obtain⟨js,ρ,h⟩:=h;obtain⟨F,γ,h1,h2,h3,hW,hE,_⟩:=hs;obtain⟨hc,g1,g2⟩:=bM h;rw[Bool.and_eq_true]at hc;obtain⟨F1,hF1,hW1⟩:=nP (js:=js) hW;have hid:=sR hc.1;obtain⟨g3,_⟩:=weaken hW1 g2 hc.2 (fun i hi=>by have:=hid i (by rw[←hn];exact hi);rw[Nat.zero_add]at this;exact this);exact⟨F1,_,h1,h2,h3,g3,ym (fun x0 x v h hr=>tD hW1 (fun _ h=>h) (fun j b g h=>by cases h) h hr) (hE.ext (kt hF1)) g1,trivial⟩
theorem rn(hT:bm c.P c.tab)(hm:c.P.follows .mixedOrders=true)(hn:r.E.γ0.length=c.n0):∀(code:Code) (s:St) (K:XE→St→Prop) (a:Act) (w:World),X c code s K→SR c r s .undef undef a w→code.wp c.P (Qk c r K) a w:=by
 intro code;induction code with
 |skip=>intro s K a w h hs;exact wp_skip ⟨s,h,hs⟩
 |label l=>intro s K a w h hs;exact wp_label ⟨s,h,hs⟩
 |exit id=>intro s K a w h hs;exact wp_exit ⟨s,h,hs⟩
 |ret=>intro s K a w h hs;exact wp_ret ⟨s,h,hs⟩
 |seq x y ihx ihy=>
  intro s K a w h hs;refine wp_seq (Code.wp_mono (fun e a w hq=>?_) (ihx s _ a w h hs));cases e with
  |normal=>obtain⟨s',h',hs'⟩:=hq;exact ihy s' K a w h' hs'
  |exit id=>exact hq
  |goto l=>exact hq
  |ret=>exact hq
  |panic ch=>exact hq
  |outgrown=>exact hq
 |block id b ih=>
  intro s K a w h hs;refine wp_block (Code.wp_mono (fun e a w hq=>?_) (ih s _ a w h hs));cases e with
  |normal=>exact hq
  |exit i=>
   obtain⟨s',h',hs'⟩:=hq;show(if i=id then Qk c r K .normal a w else Qk c r K (.exit i) a w);rcases iw h' with⟨e,h'⟩|⟨e,h'⟩
   ·rw[if_pos (Nat.eq_of_beq_eq_true e)];exact⟨s',h',hs'⟩
   ·rw[if_neg (fun h=>by subst h;simp at e)];exact⟨s',h',hs'⟩
  |goto l=>exact hq
  |ret=>exact hq
  |panic ch=>exact hq
  |outgrown=>exact hq
 |cond x y z ihy ihz=>
  intro s K a w h hs;have h:uM x (X c y) (X c z) s K:=h;unfold uM at h;split at h
  ·rename_i q hx;have hs':=hs;obtain⟨F,γ,h1,h2,h3,hW,hE,_⟩:=hs';have hc:=aU hE hx;generalize hv:a.eval x=v at hc;cases hc with
   |bool _=>
    refine wp_cond_split hv (fun hb=>?_) (fun hb=>?_)
    ·subst hb;exact ihy s K a w h hs
    ·subst hb;exact ihz s K a w h hs
  ·exact h.elim
 |loop body ih=>
  intro s K a w h hs;obtain⟨ι,I,inv,m,⟨y0,hi0,hle0⟩,hround⟩:=h;intro b k cs
  have key:∀(q:Nat) (y:ι) (a:Act) (w:World),m y=q→inv y→SR c r (I y) .undef undef a w→
    ∃e a' w',Qk c r K e a' w'∧Arrives c.P (lone (b.at a (.code body:: .inLoop body::k)) cs w) b k cs e a' w':=by
   intro q;induction q using Nat.strongRecOn with
   |_ q ihq=>
    intro y a w hq hi hs;obtain⟨ex,a1,w1,hq1,harr⟩:=ih (I y) _ a w (hround y hi) hs b (.inLoop body::k) cs;cases ex with
    |normal=>
     obtain⟨s',⟨y',⟨hi',hlt⟩,hle⟩,hs'⟩:=hq1;obtain⟨ex2,a2,w2,hq2,harr2⟩:=ihq (m y') (by omega) y' a1 w1 rfl hi' (nq hn hle hs');exact⟨ex2,a2,w2,hq2,.of_steps (Steps.trans harr (.one step_inLoop)) harr2⟩
    |exit id=>exact⟨.exit id,a1,w1,hq1,.pass (x:= .inLoop body) rfl (fun _ _=>.inl (by simp)) harr⟩
    |goto l=>exact hq1.elim
    |ret=>exact⟨.ret,a1,w1,hq1,.pass (x:= .inLoop body) rfl (fun _ _=>.inl (by simp)) harr⟩
    |panic ch=>exact⟨.panic ch,a1,w1,hq1,.pass (x:= .inLoop body) rfl (fun _ _=>.inl (by simp)) harr⟩
    |outgrown=>exact hq1.elim
  obtain⟨e,a',w',hq,harr⟩:=key _ y0 a w rfl hi0 (nq hn hle0 hs);exact⟨e,a',w',hq,.of_steps (.one step_loop) harr⟩
 |region id ops draw=>
  intro s K a w h hs;cases draw with
  |true=>
   obtain⟨m,g,ord,h1,h2|⟨ι,I,J,h2,h3⟩⟩:=h
   ·exact wC hT hm h1 h2 hs
   ·refine Code.wp_mono (fun e a w hq=>?_) (wC (K:=fun e s=>match e with| .normal=>∃i,J i∧LE c.n0 s (I i)|e=>K e s) hT hm h1 h2 hs);cases e with
    |normal=>obtain⟨s',⟨i,hi,hl⟩,hs'⟩:=hq;exact⟨I i,h3 i hi,nq hn hl hs'⟩
    |exit id=>exact hq
    |goto l=>exact hq
    |ret=>exact hq
    |panic ch=>exact hq
    |outgrown=>exact hq
  |false=>
   have:=Au hT (ops:=ops) (Q:=Qk c r K) (fun s a w hk hs=>⟨s,hk,hs⟩) (fun ch a w h=>h) ops.toList s a w h hs;have e:ops=ops.toList.toArray:=by simp
   rw[e];rw[e]at this;exact wp_region_lit (by simpa using this)
 |_=>intro s K a w h hs;exact h.elim
structure XM(c:da)(code:Code)(s:St)(K:XE→St→Prop):Prop where
 ok:bm c.P c.tab→c.P.follows .mixedOrders=true→∀r:iW,r.E.γ0.length=c.n0→∀(a:Act) (w:World),SR c r s .undef undef a w→code.wp c.P (Qk c r K) a w
theorem XM.of{c:da}{code:Code}{s:St}{K:XE→St→Prop}(h:X c code s K):XM c code s K:=⟨fun hT hm r hn a w hs=>rn hT hm hn code s K a w h hs⟩
theorem XM.le{c:da}{code:Code}{s t:St}{K:XE→St→Prop}(js:List Nat)(ρ:List Rn)(hl:AM.le c.n0 js ρ s t)(h:XM c code t K):XM c code s K:=
 ⟨fun hT hm r hn a w hs=>h.ok hT hm r hn a w (nq hn ⟨js,ρ,hl⟩ hs)⟩
theorem XM.seq {c : da} {x y : Code} {s : St} {K : XE → St → Prop} (h : X c x s fun e s' => match e with | .normal => XM c y s' K | e => K e s') : XM c (.seq x y) s K := ⟨fun hT hm r hn a w hs=>by
 refine wp_seq (Code.wp_mono (fun e a w hq=>?_) (rn hT hm hn x s _ a w h hs));cases e with
 |normal=>obtain⟨s',h',hs'⟩:=hq;exact h'.ok hT hm r hn a w hs'
 |exit id=>exact hq
 |goto l=>exact hq
 |ret=>exact hq
 |panic ch=>exact hq
 |outgrown=>exact hq⟩
theorem XM.join{c:da}{x y:Code}{s:St}{K:XE→St→Prop}{ι:Type}(I:ι→St)(J:ι→Prop)(h:X c x s fun e s'=>match e with| .normal=>∃i,J i∧LE c.n0 s' (I i)|e=>K e s')
  (h2 : ∀ i, J i → XM c y (I i) K) : XM c (.seq x y) s K := ⟨fun hT hm r hn a w hs=>by
 refine wp_seq (Code.wp_mono (fun e a w hq=>?_) (rn hT hm hn x s _ a w h hs));cases e with
 |normal=>obtain⟨s',⟨i,hJ,hl⟩,hs'⟩:=hq;exact(h2 i hJ).ok hT hm r hn a w (nq hn hl hs')
 |exit id=>exact hq
 |goto l=>exact hq
 |ret=>exact hq
 |panic ch=>exact hq
 |outgrown=>exact hq⟩
def uf(d:TD)(cs:List C):Option A:=bif Nat.ble d.size cs.length then(bif d.agg then some (.st (cs.take d.size))else match cs with|x::_=>some (.c x)|[]=>none)else none
def mS(tab:Nat→Option TD)(s:St):List ResultVar→Option (List A)
 |[]=>some []
 | .tmp t::r=>(mS tab s r).map ((lk s.env t).getD .undef:: ·)
 | .cell x t::r=>match lk s.env x,tab t with
  |some (.c (.ptr j o)),some d=>match s.ah[j]? with
   |some (.box cs _)=>match uf d (cs.drop o),mS tab s r with
    |some y,some ys=>some (y::ys)
    |_,_=>none
   |_=>none
  |_,_=>none
def comp:A→Option (Bool×List C)
 | .c x=>some (false,[x])
 | .st cs=>some (true,cs)
 |_=>none
def nF:List A→Option (List (Bool×List C))
 |[]=>some []
 |x::r=>match comp x,nF r with
  |some y,some ys=>some (y::ys)
  |_,_=>none
def ze:List A→Option A
 |[x]=>some x
 |xs=>(nF xs).map .tup
def ns(c:da)(fn:Func)(Q:Out→List B→Prop)(s:St):Prop:=match mS c.tab s fn.results.toList with
 |some xs=>match ze xs with
  |some x0=>sF x0 fun x0=>gU s.ah fun ah=>∃js ρ x tah,lex c.n0 js ρ ah x0 x tah∧(eE x&&tah.all eR)=true∧Q (.ret x) tah
  |none=>False
 |none=>False
def Ao(c:da)(Q:Out→List B→Prop)(x0:A)(s:St):Prop:=∃js ρ x tah,lex c.n0 js ρ s.ah x0 x tah∧(eE x&&tah.all eR)=true∧Q (.pan x) tah
def Kf(c:da)(fn:Func)(Q:Out→List B→Prop):XE→St→Prop
 | .normal,s=>ns c fn Q s
 | .ret,s=>ns c fn Q s
 | .pan x,s=>Ao c Q x s
 | .exit _,_=>False
def lX:Nat→List A→List (Nat×A)
 |_,[]=>[]
 |i,x::r=>(i,x)::lX (i+1) r
theorem wg{F:Nat→Prop}{H:ab}{m:Md}:∀{xs:List A} {ts:List (Bool×List C)} {vs:List Value},nF xs=some ts→dJ F H m xs vs→RT F H m ts vs
 |[],ts,[],h,_=>by cases h;trivial
 |x::xs,ts,v::vs,h,⟨h1,h2⟩=>by
  unfold nF at h;split at h
  ·rename_i y ys hy hys;cases h;have:=wg hys h2;cases x with
   |c z=>cases hy;exact⟨⟨[v],h1,rfl,fun _=>rfl⟩,this⟩
   |st cs=>cases hy;obtain⟨us,rfl,h3⟩:=h1;exact⟨⟨us,h3,rfl,fun h=>by cases h⟩,this⟩
   |_=>cases hy
  ·cases h
theorem Fz{P:Program}{tab:Nat→Option TD}{F:Nat→Prop}{w:World}{m:Md}(hT:bm P tab){t:Nat}{d:TD}(ht:tab t=some d){cs:List C}{vs:List Value}{b off:Nat}(hr:RL F w.heap m cs vs)
  (hc:∀j u,vs[j]? =some u→cell w.heap b (off+j)=some u){x:A}(h:uf d cs=some x):∃v,RA F w.heap m x v∧(loadVar t ⟨b,off,none⟩).run P w= .ok v w:=by
 unfold uf at h;have hl:=hr.length;by_cases hle:Nat.ble d.size cs.length=true
 ·rw[hle,cond_true]at h;have hle:=Nat.le_of_ble_eq_true hle;have hag:=hT.agg t d ht w;cases ha:d.agg with
  |true=>
   rw[ha,cond_true]at h;cases h;refine⟨_,⟨_,rfl,hr.take _⟩,?_⟩;have hlen:(vs.take d.size).length=d.size:=by rw[List.length_take];omega
   have := run_loadCells_list (P := P) (w := w) ⟨b, off, none⟩ (vs.take d.size) (fun j v hj=>by
    rw[Addr.add_lit,dg rfl];rw[List.getElem?_take]at hj;split at hj
    ·exact hc j v hj
    ·cases hj)
   rw[hlen]at this;rw[ha]at hag;simp[loadVar,hag,hT.size ht w,this]
  |false=>
   rw[ha,cond_false]at h;split at h
   ·cases h;obtain⟨v,us,rfl,h2,h3⟩:=hr.ic;refine⟨v,h2,?_⟩;rw[ha]at hag;have:=hc 0 v rfl;rw[Nat.add_zero]at this;simp[loadVar,hag,dg rfl,this]
   ·cases h
 ·rw[Bool.not_eq_true]at hle;rw[hle]at h;cases h
def oD(tmps:Array Value):ResultVar→Sem Value
 | .tmp t=>pure (tmps.getD t undef)
 | .cell a t=>do loadVar t (←asAddr (tmps.getD a undef))
theorem FM (fn : Func) (tmps : Array Value) : results fn tmps = (do
  let vs←fn.results.mapM (oD tmps)
  pure (if h:vs.size=1 then vs[0]else .tuple vs)):=by
 unfold results;congr 1
theorem uk(hT:bm c.P c.tab){F:Nat→Prop}{γ:List Value}{s:St}{a:Act}{w:World}{E:En}(hW:WR E F γ s.ah w.heap)(hE:ER F w.heap ⟨E.B,γ⟩ s.env a):∀{l:List ResultVar} {xs:List A},mS c.tab s l=some xs→
  ∃vs,dJ F w.heap ⟨E.B,γ⟩ xs vs∧(l.mapM (oD a.tmps)).run c.P w= .ok vs w
 |[],xs,h=>by cases h;exact⟨[],trivial,by simp⟩
 | .tmp t::l,xs,h=>by
  simp only[mS,Option.map_eq_some_iff]at h;obtain⟨ys,h1,rfl⟩:=h;obtain⟨vs,h2,h3⟩:=uk hT hW hE h1;refine⟨a.tmps.getD t undef::vs,⟨?_,h2⟩,by simp[List.mapM_cons,h3,oD]⟩;cases hl:lk s.env t with
  |none=>trivial
  |some x=>exact hE t x hl
 | .cell x t::l,xs,h=>by
  simp only[mS]at h;split at h
  ·rename_i _ _ j o d hx ht;split at h
   ·rename_i cs hb;split at h
    ·rename_i y ys hy hys;cases h;obtain⟨vs,h2,h3⟩:=uk hT hW hE hys;have hp:=hE x _ hx;generalize hv:a.tmps.getD x undef=v at hp;cases hp with
     |ptr hg _=>
      obtain⟨k',us,e,h4,h5⟩:=ph (o:=o) (hW.br j _ _ hb hg);cases e;obtain⟨u,h6,h7⟩:=Fz hT ht h4 h5 hy;exact⟨u::vs,⟨h6,h2⟩,by simp[List.mapM_cons,h3,oD,hv,asAddr,h7]⟩
    ·cases h
   ·cases h
  ·cases h
theorem rj{F:Nat→Prop}{H:ab}{m:Md}:∀{xs:List A} {vs:List Value},dJ F H m xs vs→xs.length=vs.length
 |[],[],_=>rfl
 |_::_,_::_,⟨_,h⟩=>by simp[rj h]
theorem vk{F:Nat→Prop}{H:ab}{m:Md}{a:Act}:∀{xs:List A} {vs:List Value} {i:Nat},dJ F H m xs vs→(∀q v,vs[q]? =some v→a.tmps.getD (i+q) undef=v)→ER F H m (lX i xs) a
 |[],[],i,_,_=>fun t x h=>by cases h
 |x::xs,v::vs,i,⟨h1,h2⟩,hv=>fun t y hl=>by
  unfold lX lk at hl;by_cases e:Nat.beq i t=true
  ·rw[e]at hl;cases hl;obtain rfl:=Nat.eq_of_beq_eq_true e;have:=hv 0 v rfl;rw[Nat.add_zero]at this;rw[this];exact h1
  ·rw[Bool.not_eq_true]at e;rw[e]at hl;exact vk h2 (fun q u hq=>by have:=hv (q+1) u (by simpa using hq);rw[show i+1+q=i+(q+1)by omega];exact this) t y hl
def rJ:C→Prop
 | .str l=>l.length≤9223372036854775807
 | .ls _ _ _ l=>l.length≤9223372036854775807
 | .bs _ _ _ l=>l.length≤9223372036854775807
 |_=>True
def pe:List C→Prop
 |[]=>True
 |c::cs=>rJ c∧pe cs
def AW:A→Prop
 | .c x=>rJ x
 | .st cs=>pe cs
 |_=>True
def nz:List A→Prop
 |[]=>True
 |a::r=>AW a∧nz r
def jD:List B→Prop
 |[]=>True
 | .box cs _::r=>pe cs∧jD r
 | .row _ _ _ l::r=>l.length≤9223372036854775807∧jD r
 | .fro _ _ _ l::r=>l.length≤9223372036854775807∧jD r
 | .buf _ _ _ _ l::r=>l.length≤9223372036854775807∧jD r
 | .dead::r=>jD r
theorem SV.xW{F:Nat→Prop}{H:ab}{L:LS}{v:Value}(h:SV F H L v):L.l.length≤9223372036854775807:=by
 rcases h with⟨p,hv,hl⟩|⟨b,off,cap,css,hv,g1,g2,_⟩
 ·rw[hl];simp
 ·have g2:cap≤9223372036854775807:=g2;omega
theorem vI{F:Nat→Prop}{H:ab}{m:Md}{x:C}{v:Value}(h:RL F H m [x] [v]):rJ x:=by
 cases h with
 |str h _=>exact h
 |ls0 _=>exact Nat.zero_le _
 |bs0 _=>exact Nat.zero_le _
 |ls _ h1 h2 _ _ _ _=>exact Nat.le_trans h1 h2
 |bs _ h1 h2 _ _ _ _=>exact Nat.le_trans h1 h2
 |_=>trivial
theorem rL{F:Nat→Prop}{H:ab}{m:Md}:∀{cs:List C} {vs:List Value},RL F H m cs vs→pe cs
 |[],_,_=>trivial
 |c::cs,vs,h=>by
  obtain⟨v,us,rfl,h1,h2⟩:=h.ic;exact⟨vI h1,rL h2⟩
theorem vG{F:Nat→Prop}{H:ab}{m:Md}:∀{as:List A} {vs:List Value},dJ F H m as vs→nz as
 |[],_,_=>trivial
 |a::as,[],h=>h.elim
 |a::as,v::vs,⟨h1,h2⟩=>by
  refine⟨?_,vG h2⟩;cases a with
  |c x=>exact vI h1
  |st cs=>obtain⟨us,_,h⟩:=h1;exact rL h
  |_=>trivial
theorem vH{F:Nat→Prop}{H:ab}{m:Md}:∀{ah:List B} {γ:List Value},ah.length=γ.length→(∀(j:Nat) (b:B) (g:Value),ah[j]? =some b→γ[j]? =some g→BR F H m b g)→jD ah
 |[],_,_,_=>trivial
 |b::r,[],h,_=>by cases h
 |b::r,g::γ,hl,h=>by
  have hb:=h 0 b g rfl rfl;have hr:=vH (ah:=r) (γ:=γ) (by simpa using hl) (fun(j:Nat) (b:B) (g:Value) h1 h2=>h (j+1) b g (by simpa using h1) (by simpa using h2));cases b with
  |box cs ty=>obtain⟨k,e,vs,_,_,h3⟩:=hb;exact⟨rL h3,hr⟩
  |row sz α enc l=>exact⟨(jY hb (L:=⟨sz,α,enc,l⟩) rfl).xW,hr⟩
  |fro sz α enc l=>exact⟨(jY hb (L:=⟨sz,α,enc,l⟩) rfl).xW,hr⟩
  |buf t sz α enc l=>
   refine⟨?_,hr⟩;rcases hb with⟨_,_,h⟩|⟨_,_,_,_,_,_,h2,h3,_⟩
   ·rw[h];simp
   ·exact Nat.le_trans h2 h3
  |dead=>exact hr
theorem FN(hT:bm c.P c.tab){fn:Func}{Q:Out→List B→Prop}{F L:Nat→Prop}{γ:List Value}{ah:List B}{H:ab}(hn':(en F L γ ah H).γ0.length=c.n0){s:St}{a:Act}{w':World}{F1:Nat→Prop}{γ1:List Value}(hr:ns c fn Q s)(hW1:WR (en F L γ ah H) F1 γ1 s.ah w'.heap)(hE1:ER F1 w'.heap ⟨L,γ1⟩ s.env a):
  ∃v,(results fn a.tmps).run c.P w'= .ok v w'∧nk F L γ ah H Q true v w'.heap:=by
 unfold ns at hr;split at hr
 ·rename_i xs hxs;split at hr
  ·rename_i x0 hx0;obtain⟨js,ρ,x,tah,hle,hcl,hQ⟩:=kr (w5 hr);obtain⟨us,h4,h5⟩:=uk hT hW1 hE1 hxs
   have hres:∃v,(results fn a.tmps).run c.P w'= .ok v w'∧RA F1 w'.heap ⟨L,γ1⟩ x0 v:=by
    have hrun:(fn.results.mapM (oD a.tmps)).run c.P w'= .ok us.toArray w':=by
     rw[Array.mapM_eq_mapM_toList];simp[h5]
    have hll:=rj h4;rw[FM];simp only[Sem.run_bind,hrun,Result.andThen_ok];by_cases h6:us.length=1
    ·obtain⟨u,rfl⟩:=List.length_eq_one_iff.1 h6;obtain⟨x1,rfl⟩:=List.length_eq_one_iff.1 (hll.trans h6);cases hx0;exact⟨u,rfl,h4.1⟩
    ·refine⟨.tuple us.toArray,?_,?_⟩
     ·rw[dif_neg (by simpa using h6)];rfl
     ·have hx0':(nF xs).map A.tup=some x0:=by
       unfold ze at hx0;split at hx0
       ·simp at hll;omega
       ·exact hx0
      obtain⟨ts,h7,rfl⟩:=Option.map_eq_some_iff.1 hx0';exact⟨us,rfl,wg h7 h4⟩
   obtain⟨v,hv1,hv2⟩:=hres;obtain⟨F2,γ2,h7,h8⟩:=tu hn' hW1 hv2 hle;rw[Bool.and_eq_true]at hcl;exact⟨v,hv1,_,tah,F2,γ2,hQ,hcl.1,hcl.2,rfl,h8,h7⟩
  ·exact hr.elim
 ·exact hr.elim
theorem uQ(c:da)(hT:bm c.P c.tab)(hm:c.P.follows .mixedOrders=true){f:FuncId}{fn:Func}{code:Code}{args:List A}{ah:List B}{Q:Out→List B→Prop}(hcall:∀args w,(callFunc f args).run c.P w= .ok (.enter f args) w)
  (hf:c.P.funcs[f]? =some fn)(hb:fn.body=some code)(hn:fn.ntmps=c.n)(hl:Nat.ble args.length c.n=true)(hn0:ah.length=c.n0)(h:nz args∧jD ah→XM c code ⟨lX 0 args,ah⟩ (Kf c fn Q)):bC c.d c.P f args ah Q:=by
 intro F L γ H vs hargs hW w hw;have h:=h ⟨vG hargs,vH hW.len.symm (fun j b g h1 h2=>hW.br j b g h1 h2)⟩;subst hw;rw[hcall];refine⟨rfl,calls_of_wp hf hb ?_⟩;have hlen:=rj hargs;have hl:=Nat.le_of_ble_eq_true hl;have hn':(en F L γ ah w.heap).γ0.length=c.n0:=by rw[←hn0];exact hW.len
 refine Code.wp_mono (Q:=Qk c ⟨en F L γ ah w.heap,[],w⟩ (Kf c fn Q)) (fun e a w' hq=>?_) (h.ok hT hm ⟨en F L γ ah w.heap,[],w⟩ hn' _ w ⟨F,γ,?_,rfl,du.refl _,hW,?_,trivial⟩)
 ·have ret:(∃s,ns c fn Q s∧SR c ⟨en F L γ ah w.heap,[],w⟩ s .undef undef a w')→a.defers=[]∧∃v,(results fn a.tmps).run c.P w'= .ok v w'∧((∃v',Ending.returned v= .returned v'∧nk F L γ ah w.heap Q true v' w'.heap∧du c.d w w')∨(∃v',Ending.returned v= .panicked [{v:=v',recovered:=false}]∧nk F L γ ah w.heap Q false v' w'.heap∧du c.d w w')):=by
   rintro⟨s,hr,F1,γ1,h1,h2,h3,hW1,hE1,_⟩;obtain⟨v,hv,hb⟩:=FN hT hn' hr hW1 hE1;exact⟨h2,v,hv,.inl ⟨v,rfl,hb,h3⟩⟩
  cases e with
  |normal=>exact ret hq
  |ret=>exact ret hq
  |exit id=>obtain⟨s,h,_⟩:=hq;exact h.elim
  |goto l=>exact hq.elim
  |outgrown=>exact hq.elim
  |panic ch=>
   obtain⟨v,x0,s1,rfl,⟨js,ρ,x,tah,hle,hcl,hQ⟩,F1,γ1,h1,h2,h3,hW1,hE1,hx⟩:=hq;obtain⟨F2,γ2,h7,h8⟩:=tu hn' hW1 hx hle;rw[Bool.and_eq_true]at hcl;exact⟨h2,.inr ⟨v,rfl,⟨_,tah,F2,γ2,hQ,hcl.1,hcl.2,rfl,h8,h7⟩,h3⟩⟩
 ·simp[hn];omega
 ·refine vk hargs fun q v hq=>?_;have hlt:=(List.getElem?_eq_some_iff.1 hq).1;rw[Nat.zero_add];simp only[Array.getD_eq_getD_getElem?];rw[Array.getElem?_append_left (by simpa using hlt)];simp[hq]
theorem ao{n n0:Nat}{d:Bool}{P:Program}{tab:Nat→Option TD}(hT:bm P tab){f:FuncId}{fn:Func}{code:Code}{args:List A}{ah:List B}{Q:Out→List B→Prop}(hcall:∀args w,(callFunc f args).run P w= .ok (.enter f args) w)
  (hf:P.funcs[f]? =some fn)(h:nz args∧jD ah→X ⟨P,tab,n,n0,d⟩ code ⟨lX 0 args,ah⟩ (Kf ⟨P,tab,n,n0,d⟩ fn Q))(hm:P.follows .mixedOrders=true:=by kernel_rfl)(hb:fn.body=some code:=by rfl)(hn:fn.ntmps=n:=by rfl)(hl:Nat.ble args.length n=true:=by kernel_rfl)(hn0:ah.length=n0:=by rfl):bC d P f args ah Q:=
 uQ ⟨P,tab,n,n0,d⟩ hT hm hcall hf hb hn hl hn0 fun hb=>XM.of (h hb)
theorem kg{n n0:Nat}{d:Bool}{P:Program}{tab:Nat→Option TD}(hT:bm P tab){f:FuncId}{fn:Func}{code:Code}{args:List A}{ah:List B}{Q:Out→List B→Prop}(hcall:∀args w,(callFunc f args).run P w= .ok (.enter f args) w)
  (hf:P.funcs[f]? =some fn)(h:nz args∧jD ah→XM ⟨P,tab,n,n0,d⟩ code ⟨lX 0 args,ah⟩ (Kf ⟨P,tab,n,n0,d⟩ fn Q))(hm:P.follows .mixedOrders=true:=by kernel_rfl)(hb:fn.body=some code:=by rfl)(hn:fn.ntmps=n:=by rfl)(hl:Nat.ble args.length n=true:=by kernel_rfl)(hn0:ah.length=n0:=by rfl):bC d P f args ah Q:=
 uQ ⟨P,tab,n,n0,d⟩ hT hm hcall hf hb hn hl hn0 h
end
end Go.AM
end
section
namespace Go.AM
open Go Go.NB
def mJ:List (Nat×TD)→Nat→Option TD
 |[],_=>none
 |(t,d)::r,s=>bif Nat.beq t s then some d else mJ r s
structure Good(P:Program)(tab:Nat→Option TD)(t:Nat)(d:TD):Prop where
 info:∃i z zs,(∀w,(typeInfo t).run P w= .ok i w)∧i.size=d.size∧i.bytes=d.bytes∧i.zero=some z∧z.cells=List.toArray zs∧∀F H m,RL F H m d.zero zs
 agg:∀w,(isAgg t).run P w= .ok d.agg w
 one:d.agg=false→d.size=1
 zl:d.zero.length=d.size
 kind:re P tab t d.kind
 cmp:d.cmp=true→q8 P t d.zero
def oW(P:Program)(tab:Nat→Option TD):List (Nat×TD)→Prop
 |[]=>True
 |(t,d)::r=>Good P tab t d∧oW P tab r
theorem oW.get{P:Program}{tab:Nat→Option TD}:∀{l:List (Nat×TD)} {t:Nat} {d:TD},oW P tab l→mJ l t=some d→Good P tab t d
 |(t,d)::r,s,d',⟨h1,h2⟩,h=>by
  unfold mJ at h;by_cases e:Nat.beq t s=true
  ·rw[e]at h;cases h;obtain rfl:=Nat.eq_of_beq_eq_true e;exact h1
  ·rw[Bool.not_eq_true]at e;rw[e]at h;exact h2.get h
def j8:List C→Option (List Value)
 |[]=>some []
 | .int k n::r=>(j8 r).map (.int k n:: ·)
 | .bool b::r=>(j8 r).map (.bool b:: ·)
 | .str []::r=>(j8 r).map (NB.str []:: ·)
 | .nil::r=>(j8 r).map (.slice none 0 0:: ·)
 | .ls _ _ _ []::r=>(j8 r).map (.slice none 0 0:: ·)
 | .raw v::r=>bif v.oneCell' then(j8 r).map (v:: ·)else none
 |_=>none
theorem HP{F:Nat→Prop}{H:ab}{m:Md}{cs:List C}:∀{vs:List Value},j8 cs=some vs→RL F H m cs vs:=by
 fun_induction j8 cs<;>intro vs h
 case case1=>cases h;exact .nl
 case case7=>rename_i v r hv ih;obtain⟨us,e,rfl⟩:=Option.map_eq_some_iff.1 h;exact .raw hv (ih e)
 case case8=>cases h
 case case9=>cases h
 all_goals
  rename_i ih;obtain⟨us,e,rfl⟩:=Option.map_eq_some_iff.1 h;first|exact .int (ih e)|exact .bool (ih e)|exact .str (Nat.zero_le _) (ih e)|exact .nil (ih e)|exact .ls0 (ih e)
theorem ay{P:Program}{tab:Nat→Option TD}{t:Nat}{d:TD}{i:TypeInfo}{z:Value}(h1:∀w,(typeInfo t).run P w= .ok i w)(h2:∀w,(isAgg t).run P w= .ok d.agg w)(h3:re P tab t d.kind)(h4:d.cmp=true→q8 P t d.zero:=by intro h;cases h)
  (e1:i.size=d.size:=by rfl)(e2:i.bytes=d.bytes:=by rfl)(e3:i.zero=some z:=by rfl)(e4:j8 d.zero=some z.cells.toList:=by rfl)(e5:(d.agg||Nat.beq d.size 1)=true:=by rfl)(e6:d.zero.length=d.size:=by rfl):Good P tab t d:=
 ⟨⟨i,z,z.cells.toList,h1,e1,e2,e3,by simp,fun _ _ _=>HP e4⟩,h2,fun h=>by rw[h]at e5;exact Nat.eq_of_beq_eq_true e5,e6,h3,h4⟩
theorem G0{P:Program}{l:List (Nat×TD)}(h:oW P (mJ l) l):bm P (mJ l):=
 ⟨fun _ _ ht=>(h.get ht).info,fun _ _ ht=>(h.get ht).agg,fun _ _ ht=>(h.get ht).one,fun _ _ ht=>(h.get ht).zl,fun _ _ ht=>(h.get ht).kind,fun _ _ ht=>(h.get ht).cmp⟩
theorem dec{P A' B':Prop}{i:Decidable P}(h1:P→A')(h2:¬P→B'): @Bool.rec (fun _=>Prop) B' A' (decide P):=by
 by_cases h:P
 ·rw[decide_eq_true h];exact h1 h
 ·rw[decide_eq_false h];exact h2 h
theorem av{P A' B':Prop}{i:Decidable P}(h1:¬P→A')(h2:P→B'): @Bool.rec (fun _=>Prop) B' A' (!decide P):=by
 by_cases h:P
 ·rw[decide_eq_true h];exact h2 h
 ·rw[decide_eq_false h];exact h1 h
theorem aO{b:Bool}{A' B':Prop}(h1:b=true→A')(h2:b=false→B'): @Bool.rec (fun _=>Prop) B' A' b:=by
 cases b
 ·exact h2 rfl
 ·exact h1 rfl
theorem df{b:Bool}{A' B':Prop}(h1:b=false→A')(h2:b=true→B'): @Bool.rec (fun _=>Prop) B' A' (!b):=by
 cases b
 ·exact h1 rfl
 ·exact h2 rfl
def encI(n:Int):List C:=[.int .i64 n]
def encS(l:List UInt8):List C:=[.str l]
def af(b:Bool):List C:=[.bool b]
def bq{α:Type}(sz:Nat)(enc:α→List C)(l:List α):List C:=[.ls sz α enc l]
end Go.AM
end
section
namespace Go.AM
open Go Go.NB
def Rt(x:A)(ah:List B)(o:Out)(ah':List B):Prop:=o= .ret x∧ah'=ah
theorem I6{n:Int}{p:Prop}(h:p)(h1: -9223372036854775808≤n:=by omega)(h2:n≤9223372036854775807:=by omega):aE n∧p:=⟨⟨h1,h2⟩,h⟩
theorem i64{n:Int}(h1: -9223372036854775808≤n)(h2:n≤9223372036854775807):aE n:=⟨h1,h2⟩
theorem dB{ah:List B}{x0 X:C}(h:x0=X)(hc:dL X=true):∃js ρ x tah,lex 0 js ρ ah (.c x0) x tah∧(eE x&&tah.all eR)=true∧Rt (.c X) [] (.ret x) tah:=by
 subst h;refine⟨[],[],.c x0,[],?_,?_,rfl,rfl⟩
 ·refine And.intro ?_ trivial;cases x0<;>first|rfl|cases hc
 ·cases x0<;>first|rfl|cases hc
theorem aC{ah:List B}{b b':Bool}(h:b=b'):∃js ρ x tah,lex 0 js ρ ah (.c (.bool b)) x tah∧(eE x&&tah.all eR)=true∧Rt (.c (.bool b')) [] (.ret x) tah:=dB (congrArg C.bool h) rfl
theorem aI{ah:List B}{n n':Int}(h:n=n'):∃js ρ x tah,lex 0 js ρ ah (.c (.int .i64 n)) x tah∧(eE x&&tah.all eR)=true∧Rt (.c (.int .i64 n')) [] (.ret x) tah:=dB (congrArg (C.int .i64) h) rfl
theorem rt{Q:Out→List B→Prop}{n0:Nat}{ah:List B}{x0 X:A}{Y:List B}(js:List Nat)(ρ:List Rn)(h:lex n0 js ρ ah x0 X Y)(hc:(eE X&&Y.all eR)=true)(hQ:Q (.ret X) Y):∃js ρ x tah,lex n0 js ρ ah x0 x tah∧(eE x&&tah.all eR)=true∧Q (.ret x) tah:=
 ⟨js,ρ,X,Y,h,hc,hQ⟩
theorem cl{d:Bool}{P:Program}{f:FuncId}{ah:List B}{env:List (Nat×A)}{args:List A}{g:G}{k:List B→A→Prop}{kp:A→St→Prop}{targs:List A}{tah Y:List B}{X:A}(js m:List Nat)(hs:bC d P f targs tah (Rt X Y))
  (hk:fi k (dO m tah (aZ js ah) Y) (dR (sig m (aZ js ah).length) X))(hok:jz (aZ js ah) m args targs tah:=by(repeat' first|exact trivial|exact rfl|refine And.intro ?_ ?_);first|done|fail)(hg:g.call m=true:=by rfl):
  ∃(js m:List Nat) (targs:List A) (tah:List B) (Q:Out→List B→Prop),bC d P f targs tah Q∧jz (aZ js ah) m args targs tah∧g.call m=true∧
   ∀out ah',Q out ah'→match out with
    | .ret a=>fi k (dO m tah (aZ js ah) ah') (dR (sig m (aZ js ah).length) a)
    | .pan a=>fi kp (dR (sig m (aZ js ah).length) a) ⟨env,dO m tah (aZ js ah) ah'⟩:=
 ⟨js,m,targs,tah,_,hs,hok,hg,fun out ah' ⟨h1,h2⟩=>by subst h1;subst h2;exact hk⟩
theorem rx{n0:Nat}{ah:List B}{x0 X:A}{Y:List B}(js:List Nat)(ρ:List Rn)(h:lex n0 js ρ ah x0 X Y:=by repeat' first|exact trivial|exact rfl|refine And.intro ?_ ?_)(hc:(eE X&&Y.all eR)=true:=by rfl):∃js ρ x tah,lex n0 js ρ ah x0 x tah∧(eE x&&tah.all eR)=true∧Rt X Y (.ret x) tah:=
 ⟨js,ρ,X,Y,h,hc,rfl,rfl⟩
theorem lp{n0:Nat}{s0:St}{R:∀(ι:Type) (I:ι→St) (inv:ι→Prop) (m:ι→Nat),ι→Prop}(ι:Type)(I:ι→St)(inv:ι→Prop)(m:ι→Nat)(y:ι)(js:List Nat)(ρ:List Rn)(h1:inv y)(h2:le n0 js ρ s0 (I y))(h3:∀x,inv x→R ι I inv m x):
  ∃(ι:Type) (I:ι→St) (inv:ι→Prop) (m:ι→Nat),(∃y,inv y∧LE n0 s0 (I y))∧∀x,inv x→R ι I inv m x:=
 ⟨ι,I,inv,m,⟨y,h1,js,ρ,h2⟩,h3⟩
theorem ag{ι:Type}{n0:Nat}{I:ι→St}{inv:ι→Prop}{m:ι→Nat}{lt:Nat}{s:St}(y:ι)(js:List Nat)(ρ:List Rn)(h1:inv y)(h2:m y<lt)(h3:le n0 js ρ s (I y)):∃y,(inv y∧m y<lt)∧LE n0 s (I y):=⟨y,⟨h1,h2⟩,js,ρ,h3⟩
end Go.AM
end
section
namespace Go.Nest
open Go Go.AM
structure aB where
 name:List UInt8
 mode:Int
 id:Int
 au:Int
 deriving DecidableEq
structure Ob where
 kind:Int
 bytes:List UInt8
 entries:List aB
 tree:Int
 parents:List Int
 text:List UInt8
 deriving DecidableEq
structure Fi where
 path:List UInt8
 mode:Int
 id:Int
 au:Int
 deriving DecidableEq
structure Ch where
 path:List UInt8
 old:Fi
 new:Fi
 deriving DecidableEq
structure Dc where
 path:List UInt8
 bytes:List UInt8
 deriving DecidableEq
structure Rf where
 name:List UInt8
 id:Int
 deriving DecidableEq
structure Mv where
 name:List UInt8
 old:Int
 new:Int
 deriving DecidableEq
structure It where
 path:List UInt8
 bytes:List UInt8
 link:Bool
 id:Int
 au:Int
 deriving DecidableEq
def cm(e:aB):List C:=[.str e.name,.int .i64 e.mode,.int .i64 e.id,.int .i64 e.au]
def an(o:Ob):List C:=[.int .i64 o.kind,.ls 1 UInt8 bA o.bytes,.ls 4 aB cm o.entries,.int .i64 o.tree,.ls 1 Int encI o.parents,.str o.text]
def fS(o:Ob):List C:=[.int .i64 o.kind,.bs 1 UInt8 bA o.bytes,.bs 4 aB cm o.entries,.int .i64 o.tree,.bs 1 Int encI o.parents,.str o.text]
def aw(f:Fi):List C:=[.str f.path,.int .i64 f.mode,.int .i64 f.id,.int .i64 f.au]
def wE(c:Ch):List C:=[.str c.path,.str c.old.path,.int .i64 c.old.mode,.int .i64 c.old.id,.int .i64 c.old.au,.str c.new.path,.int .i64 c.new.mode,.int .i64 c.new.id,.int .i64 c.new.au]
def cQ(d:Dc):List C:=[.str d.path,.ls 1 UInt8 bA d.bytes]
def bg(r:Rf):List C:=[.str r.name,.int .i64 r.id]
def cn(m:Mv):List C:=[.str m.name,.int .i64 m.old,.int .i64 m.new]
def aG(x:It):List C:=[.str x.path,.ls 1 UInt8 bA x.bytes,.bool x.link,.int .i64 x.id,.int .i64 x.au]
def iA(p:Int×Int):List C:=[.int .i64 p.1,.int .i64 p.2]
def si(p:Int×Int×Int):List C:=[.int .i64 p.1,.int .i64 p.2.1,.int .i64 p.2.2]
structure Sn where
 docs:List Dc
 parents:List Int
 text:List UInt8
 deriving DecidableEq
def nl(sz:Nat)(α:Type)(enc:α→List C):List α→C
 |[]=>.nil
 |x::l=>.ls sz α enc (x::l)
structure Dt where
 what:Int
 a:Int
 b:Int
 k:Int
 eX:Bool
 r0:List Int
 r1:List Int
 r2:List Int
 r3:List Int
structure Mt where
 k:Int
 to:Int
 au:Int
 path:List UInt8
end Go.Nest
end
section
namespace Go.Nest
open Go Go.AM
structure Dp where
 own:Nat→List Bool
 dX:Nat→List Int
theorem four{i:Nat}(h:i<4):i=0∨i=1∨i=2∨i=3:=by omega
def aq{α:Type}(o:Nat→α)(k:Nat)(v:α):Nat→α:=fun j=>bif Nat.beq j k then v else o j
theorem fL{α:Type}{o:Nat→α}{k:Nat}{v:α}:aq o k v k=v:=by unfold aq;rw[Nat.beq_refl];rfl
end Go.Nest
end
section
namespace Go.Nest
open Go Go.AM
structure FS where
 L:List Ob
 o:Nat→List Bool
 b:Nat→List Int
 n:Nat→List Rf
 m:Nat→List Mv
 w:Nat→List It
 h:Nat→Int
structure bG where
 kind:Int
 r:Int
 q:Int
 path:List UInt8
 name:List UInt8
 text:List UInt8
 bytes:List UInt8
def aF(x:bG):List C:=[.int .i64 x.kind,.int .i64 x.r,.int .i64 x.q,.str x.path,.str x.name,.str x.text,.ls 1 UInt8 bA x.bytes]
structure ck where
 code:Int
 id:Int
 cf:List (List UInt8)
def b8(x:ck):List C:=[.int .i64 x.code,.int .i64 x.id,.ls 1 (List UInt8) encS x.cf]
def bV(id c:Int):ck:=if c≠0 then⟨c,0,[]⟩else⟨0,id,[]⟩
def FS.dep(s:FS):Dp:=⟨s.o,s.b⟩
def iE:FS:=⟨[],fun _=>[],fun _=>[],fun _=>[],fun _=>[],fun _=>[],fun _=> -1⟩
def FS.dG(s:FS)(r:Nat)(L:List Ob)(l:List It)(h:Int):FS:={s with L:=L,w:=aq s.w r l,h:=aq s.h r h}
def FS.hU(s:FS)(r:Nat)(l:List Rf)(m:List Mv):FS:={s with n:=aq s.n r l,m:=aq s.m r m}
def FS.cG(s:FS)(o:Nat→List Bool):FS:={s with o:=o}
def FS.zD(s:FS)(b:Nat→List Int):FS:={s with b:=b}
def FS.aL(s:FS)(L:List Ob):FS:={s with L:=L}
end Go.Nest
end
section
namespace Go.Nest
open Go Go.AM
theorem uF{α:Type}{p:α→Bool}:∀{l:List α} {k:Nat},k≤l.length→(∀g∈l.take k,p g=true)→(∀h:k<l.length,p l[k]=false)→l.takeWhile p=l.take k∧l.dropWhile p=l.drop k
 |[],0,_,_,_=>⟨rfl,rfl⟩
 |x::l,0,_,_,h=>by have:=h (by simp);simp at this;simp[this]
 |x::l,k+1,hk,h1,h2=>by
  have hx:=h1 x (by simp);obtain⟨h3,h4⟩:=uF (l:=l) (k:=k) (by simpa using hk) (fun g hg=>h1 g (by simp[hg])) (fun h=>h2 (by simpa using h));simp[hx,h3,h4]
 |[],k+1,h,_,_=>by simp at h
theorem qK:∀{a b:List Int},a.Pairwise (· < ·)→b.Pairwise (· < ·)→(∀x,x∈a↔x∈b)→a=b
 |[],[],_,_,_=>rfl
 |[],y::b,_,_,h=>by have:=(h y).2 (by simp);cases this
 |x::a,[],_,_,h=>by have:=(h x).1 (by simp);cases this
 |x::a,y::b,ha,hb,h=>by
  obtain⟨h1,h2⟩:=List.pairwise_cons.1 ha;obtain⟨h3,h4⟩:=List.pairwise_cons.1 hb
  have e:x=y:=by
   rcases List.mem_cons.1 ((h x).1 (by simp))with e|hx
   ·exact e
   rcases List.mem_cons.1 ((h y).2 (by simp))with e|hy
   ·exact e.symm
   have:=h1 y hy;have:=h3 x hx;omega
  subst e;congr 1
  refine qK h2 h4 fun z=>⟨fun hz=>?_,fun hz=>?_⟩
  ·rcases List.mem_cons.1 ((h z).1 (by simp[hz]))with rfl|h5
   ·have:=h1 _ hz;omega
   ·exact h5
  ·rcases List.mem_cons.1 ((h z).2 (by simp[hz]))with rfl|h5
   ·have:=h3 _ hz;omega
   ·exact h5
end Go.Nest
end
section
namespace Go.AM
open Go Go.NB
theorem bC.frame{d:Bool}{P:Program}{f:FuncId}{targs args:List A}{tah Y ah Z Y':List B}{X W X':A}(m:List Nat)(ρ:List Rn)(hs:bC d P f targs tah (Rt X Y))(hok:jz ah m args targs tah)
  (hZ:dO m tah ah Y=Z)(hW:dR (sig m ah.length) X=W)(hle:lex ah.length [] ρ Z W X' Y')(hcl:(eE X'&&Y'.all eR)=true):bC d P f args ah (Rt X' Y'):=by
 intro F L γ H vs hargs hR;obtain⟨hchk,hma,hmb⟩:=bM hok;simp only[Bool.and_eq_true,List.all_eq_true]at hchk;obtain⟨⟨hnd,hlt⟩,hnu⟩:=hchk;have hlt':∀j∈m,j<ah.length:=fun j hj=>Nat.le_of_ble_eq_true (hlt j hj);have hcore:=core hR hmb hnu xa;have hargs':=tE (B':=jq (en F L γ ah H) γ ah (gA m tah)) hR (fun _ h=>.inl h) (fun j b g h1 h2 h3 k hk=>.inr ⟨j,b,g,h2,h3,h1,hk⟩) hma hargs
 have hWc:WR (en F (jq (en F L γ ah H) γ ah (gA m tah)) ((bu m).map (bE γ)) tah H) F ((bu m).map (bE γ)) tah H:=by
  refine⟨hcore.len,hcore.br,hcore.cK,fun j b g k h1 h2 h3=>(hcore.nf j b g k h1 h2 h3).1,hR.fb,fun k hk=>⟨?_,fun⟨j,b,g,h1,h2,h3⟩=>(hcore.nf j b g k h1 h2 h3).1.2 hk⟩,Nat.le_refl _,fun _ _ _=>rfl,fun _ h=>h,fun _ h=>.inl h,fun j b g k h1 h2 h3=>.inl ⟨j,b,g,h1,h2,h3⟩,fun _ _ h=>h⟩;rcases hk with hk|⟨j,b,g,h1,h2,_,h3⟩
  ·exact Nat.lt_of_lt_of_le (hR.bb k hk).1 hR.size
  ·exact eM (hR.br _ _ _ h1 h2) k h3
 refine(hs F _ _ H _ hargs' hWc).mono fun ok v H' hb=>?_;obtain⟨out,ah',F',γ',⟨rfl,rfl⟩,hca,hcb,hok,hra,hWR⟩:=hb;obtain⟨m1,m2,m3,m4,m5⟩:=merge hR hmb (qq hnd) hlt' hcore hWR hcb;have hra':RA F' H' ⟨L,γ++γ'.drop m.length⟩ (dR (sig m ah.length) X) v:=zc m3 hra hca;rw[hZ]at m1;rw[hW]at hra';obtain⟨F2,γ2,h7,h8⟩:=tu (c:=⟨P,fun _=>none,0,ah.length,d⟩) (E:=en F L γ ah H) hR.len m1 hra' hle;rw[Bool.and_eq_true]at hcl;exact⟨.ret X',Y',F2,γ2,⟨rfl,rfl⟩,hcl.1,hcl.2,hok,h8,h7⟩
def fy(ρ:List Rn)(j:Nat):Nat:=match ρ[j]? with
 |some (.same k)=>k
 |_=>0
def jm:Option Rn→Bool
 |some (.same _)=>true
 |_=>false
def po(ρ:List Rn):C→Bool
 | .rw i=>jm ρ[i]?
 | .ptr i _=>jm ρ[i]?
 | .sw _ i _ _=>jm ρ[i]?
 | .int _ _=>true
 | .bool _=>true
 | .str _=>true
 | .raw _=>true
 | .nil=>true
 | .ls .. =>true
 |_=>false
def rX(ρ:List Rn)(r:Rn)(b:B):Bool:=match b with
 | .dead=>true
 | .box cs _=>jm (some r)&&cs.all (po ρ)
 |_=>jm (some r)
def iy(ρ:List Rn):List Rn→List B→Bool
 |[],[]=>true
 |r::rs,b::bs=>rX ρ r b&&iy ρ rs bs
 |_,_=>false
def zB(ah:List B)(r:Rn)(b:B):B:=match b with
 | .dead=>.dead
 |_=>match r with
  | .same j=>(ah[j]?).getD .dead
  |_=>.dead
def iQ(ah:List B):List Rn→List B→List B
 |r::rs,b::bs=>zB ah r b::iQ ah rs bs
 |_,_=>[]
section
variable {fr:Nat→Bool} {ah:List B} {ρ:List Rn}
theorem lu{r:Option Rn}(h:jm r=true):∃k,r=some (.same k):=by
 cases r with
 |none=>cases h
 |some r=>cases r with
  |same k=>exact⟨k,rfl⟩
  |_=>cases h
theorem Er{n:Nat}{c:C}(h:po ρ c=true):mC fr ah (n+1) ρ (iN (fy ρ) c) c:=by
 cases c with
 |rw i=>obtain⟨k,e⟩:=lu h;simp only[mC,iN,fy,e]
 |ptr i o=>obtain⟨k,e⟩:=lu h;simp only[mC,iN,fy,e]
 |sw sz i lo m=>obtain⟨k,e⟩:=lu h;simp only[mC,iN,fy,e]
 |int _ _=>rfl
 |bool _=>rfl
 |str _=>rfl
 |raw _=>rfl
 |nil=>rfl
 |ls _ _ _ _=>rfl
 |_=>cases h
theorem u0:∀{cs:List C},cs.all (po ρ)=true→iY (mC fr ah 5 ρ) (cs.map (iN (fy ρ))) cs
 |[],_=>trivial
 |c::cs,h=>by
  rw[List.all_cons,Bool.and_eq_true]at h;exact⟨Er h.1,u0 h.2⟩
theorem He(t:Option Nat):uG t t:=by cases t<;>first|trivial|rfl
theorem qN{j:Nat}{b:B}(h:(ah[j]?).getD .dead=b)(hb:b≠.dead):ah[j]? =some b:=by
 cases e:ah[j]? with
 |none=>rw[e]at h;exact absurd h.symm hb
 |some x=>rw[e]at h;exact congrArg some h
theorem Ep{r:Rn}{b:B}(h:rX ρ r b=true)(he:zB ah r b=eZ (fy ρ) b):mB fr ah ρ r b:=by
 cases b with
 |dead=>trivial
 |box cs t=>
  have h:(jm (some r)&&cs.all (po ρ))=true:=h;rw[Bool.and_eq_true]at h;obtain⟨k,e⟩:=lu h.1;obtain rfl:r= .same k:=by simpa using e
  have hk:=qN (b:=eZ (fy ρ) (.box cs t)) he (by intro h;cases h);simp only[mB,hk,eZ];exact⟨He t,u0 h.2⟩
 |row sz α enc l=>
  obtain⟨k,e⟩:=lu (show jm (some r)=true from h);obtain rfl:r= .same k:=by simpa using e
  have hk:=qN (b:= .row sz α enc l) he (by intro h;cases h);simp only[mB,hk]
 |fro sz α enc l=>
  obtain⟨k,e⟩:=lu (show jm (some r)=true from h);obtain rfl:r= .same k:=by simpa using e
  have hk:=qN (b:= .fro sz α enc l) he (by intro h;cases h);simp only[mB,hk]
 |buf t sz α enc l=>
  obtain⟨k,e⟩:=lu (show jm (some r)=true from h);obtain rfl:r= .same k:=by simpa using e
  have hk:=qN (b:= .buf t sz α enc l) he (by intro h;cases h);simp only[mB,hk,and_self]
theorem n9:∀{rs:List Rn} {bs:List B},iy ρ rs bs=true→iQ ah rs bs=bs.map (eZ (fy ρ))→jR fr ah ρ rs bs
 |[],[],_,_=>trivial
 |r::rs,b::bs,h,e=>by
  have h:(rX ρ r b&&iy ρ rs bs)=true:=h;rw[Bool.and_eq_true]at h;simp only[iQ,List.map_cons,List.cons.injEq]at e;exact⟨Ep h.1 e.1,n9 h.2 e.2⟩
 |[],_::_,h,_=>by cases h
 |_::_,[],h,_=>by cases h
end
theorem jc{ah tah:List B}{m:List Nat}{args targs:List A}(ha:kF (gA m tah) ah (bu m) args targs)(h1:(dP m&&m.all (fun j=>Nat.blt j ah.length)&&dP (cu (bu m) tah))=true:=by kernel_rfl)
  (h2:iy (bu m) (bu m) tah=true:=by kernel_rfl)(h3:iQ ah (bu m) tah=tah.map (eZ (fy (bu m))):=by kernel_rfl):jz ah m args targs tah:=by
 unfold jz;rw[h1];exact⟨ha,n9 h2 h3⟩
theorem jP{n0:Nat}{ρ:List Rn}{ah tah:List B}{x0 x:A}(ha:mA (fun _=>false) ah ρ x0 x)(h1:(jK 0 ρ n0&&dP (cu ρ tah))=true:=by kernel_rfl)
  (h2:iy ρ ρ tah=true:=by kernel_rfl)(h3:iQ ah ρ tah=tah.map (eZ (fy ρ)):=by kernel_rfl):lex n0 [] ρ ah x0 x tah:=by
 unfold lex;rw[h1];exact⟨ha,n9 h2 h3⟩
theorem aP{d:Bool}{P:Program}{f:FuncId}{ah:List B}{env:List (Nat×A)}{args:List A}{g:G}{k:List B→A→Prop}{kp:A→St→Prop}{targs:List A}{tah Y:List B}{X:A}(m:List Nat)(Z:List B)(hs:bC d P f targs tah (Rt X Y))(hk:fi k Z (dR (sig m ah.length) X))
  (ha:kF (gA m tah) ah (bu m) args targs:=by repeat' first|exact trivial|exact rfl|refine And.intro ?_ ?_)(hZ:dO m tah ah Y=Z:=by kernel_rfl)(h1:(dP m&&m.all (fun j=>Nat.blt j ah.length)&&dP (cu (bu m) tah))=true:=by kernel_rfl)
  (h2:iy (bu m) (bu m) tah=true:=by kernel_rfl)(h3:iQ ah (bu m) tah=tah.map (eZ (fy (bu m))):=by kernel_rfl)(hg:g.call m=true:=by rfl):
  ∃(js m:List Nat) (targs:List A) (tah:List B) (Q:Out→List B→Prop),bC d P f targs tah Q∧jz (aZ js ah) m args targs tah∧g.call m=true∧
   ∀out ah',Q out ah'→match out with
    | .ret a=>fi k (dO m tah (aZ js ah) ah') (dR (sig m (aZ js ah).length) a)
    | .pan a=>fi kp (dR (sig m (aZ js ah).length) a) ⟨env,dO m tah (aZ js ah) ah'⟩:=
 ⟨[],m,targs,tah,_,hs,jc ha h1 h2 h3,hg,fun out ah' h=>by
  have e1:=h.1;have e2:=h.2;clear h;subst e1;show fi k (dO m tah ah ah') (dR (sig m ah.length) X);rw[e2,hZ];exact hk⟩
theorem aW{n0:Nat}{ah:List B}{x0 X:A}{Y:List B}(ρ:List Rn)(ha:mA (fun _=>false) ah ρ x0 X:=by repeat' first|exact trivial|exact rfl|refine And.intro ?_ ?_)(h1:(jK 0 ρ n0&&dP (cu ρ Y))=true:=by kernel_rfl)
  (h2:iy ρ ρ Y=true:=by kernel_rfl)(h3:iQ ah ρ Y=Y.map (eZ (fy ρ)):=by kernel_rfl)(hc:(eE X&&Y.all eR)=true:=by kernel_rfl):∃js ρ x tah,lex n0 js ρ ah x0 x tah∧(eE x&&tah.all eR)=true∧Rt X Y (.ret x) tah:=
 ⟨[],ρ,X,Y,jP ha h1 h2 h3,hc,rfl,rfl⟩
theorem eV{n0:Nat}{ρ:List Rn}{s t:St}(he:mE s.ah ρ s.env t.env:=by repeat' first|exact trivial|exact rfl|refine And.intro ?_ ?_)(h1:(jK 0 ρ n0&&dP (cu ρ t.ah))=true:=by kernel_rfl)
  (h2:iy ρ ρ t.ah=true:=by kernel_rfl)(h3:iQ s.ah ρ t.ah=t.ah.map (eZ (fy ρ)):=by kernel_rfl):le n0 [] ρ s t:=by
 unfold le;rw[h1];exact⟨he,n9 h2 h3⟩
end Go.AM
end
section
namespace Go.AM
open Go Go.NB
theorem vQ{d:Bool}{P:Program}{f:FuncId}{ah:List B}{env:List (Nat×A)}{args:List A}{g:G}{k:List B→A→Prop}{kp:A→St→Prop}{targs:List A}{tah Y:List B}{X:A}(js m:List Nat)(Z:List B)(hs:bC d P f targs tah (Rt X Y))(hk:fi k Z (dR (sig m (aZ js ah).length) X))
  (ha:kF (gA m tah) (aZ js ah) (bu m) args targs:=by repeat' first|exact trivial|exact rfl|refine And.intro ?_ ?_)(hZ:dO m tah (aZ js ah) Y=Z:=by kernel_rfl)(h1:(dP m&&m.all (fun j=>Nat.blt j (aZ js ah).length)&&dP (cu (bu m) tah))=true:=by kernel_rfl)
  (h2:iy (bu m) (bu m) tah=true:=by kernel_rfl)(h3:iQ (aZ js ah) (bu m) tah=tah.map (eZ (fy (bu m))):=by kernel_rfl)(hg:g.call m=true:=by rfl):
  ∃(js m:List Nat) (targs:List A) (tah:List B) (Q:Out→List B→Prop),bC d P f targs tah Q∧jz (aZ js ah) m args targs tah∧g.call m=true∧
   ∀out ah',Q out ah'→match out with
    | .ret a=>fi k (dO m tah (aZ js ah) ah') (dR (sig m (aZ js ah).length) a)
    | .pan a=>fi kp (dR (sig m (aZ js ah).length) a) ⟨env,dO m tah (aZ js ah) ah'⟩:=
 ⟨js,m,targs,tah,_,hs,jc ha h1 h2 h3,hg,fun out ah' h=>by
  have e1:=h.1;have e2:=h.2;clear h;subst e1;show fi k (dO m tah (aZ js ah) ah') (dR (sig m (aZ js ah).length) X);rw[e2,hZ];exact hk⟩
end Go.AM
end
section
namespace Go.AM
open Go Go.NB
theorem Gg{n0:Nat}{ah:List B}{x0 X:A}{Y:List B}(js:List Nat)(ρ:List Rn)(ha:mA (fun _=>false) (aZ js ah) ρ x0 X:=by repeat' first|exact trivial|exact rfl|refine And.intro ?_ ?_)(h1:(jK 0 ρ n0&&dP (cu ρ Y))=true:=by kernel_rfl)
  (h2:iy ρ ρ Y=true:=by kernel_rfl)(h3:iQ (aZ js ah) ρ Y=Y.map (eZ (fy ρ)):=by kernel_rfl)(hc:(eE X&&Y.all eR)=true:=by kernel_rfl):∃js ρ x tah,lex n0 js ρ ah x0 x tah∧(eE x&&tah.all eR)=true∧Rt X Y (.ret x) tah:=
 ⟨js,ρ,X,Y,by unfold lex;rw[h1];exact⟨ha,n9 h2 h3⟩,hc,rfl,rfl⟩
theorem Bb{d:Bool}{P:Program}{f:FuncId}{ah:List B}{env:List (Nat×A)}{args:List A}{g:G}{k:List B→A→Prop}{kp:A→St→Prop}{targs:List A}{tah Y:List B}{X:A}(js m:List Nat)(AH Z:List B)(hs:bC d P f targs tah (Rt X Y))(hk:fi k Z (dR (sig m AH.length) X))
  (hF:aZ js ah=AH:=by kernel_rfl)(ha:kF (gA m tah) AH (bu m) args targs:=by repeat' first|exact trivial|exact rfl|refine And.intro ?_ ?_)(hZ:dO m tah AH Y=Z:=by kernel_rfl)(h1:(dP m&&m.all (fun j=>Nat.blt j AH.length)&&dP (cu (bu m) tah))=true:=by kernel_rfl)
  (h2:iy (bu m) (bu m) tah=true:=by kernel_rfl)(h3:iQ AH (bu m) tah=tah.map (eZ (fy (bu m))):=by kernel_rfl)(hg:g.call m=true:=by rfl):
  ∃(js m:List Nat) (targs:List A) (tah:List B) (Q:Out→List B→Prop),bC d P f targs tah Q∧jz (aZ js ah) m args targs tah∧g.call m=true∧
   ∀out ah',Q out ah'→match out with
    | .ret a=>fi k (dO m tah (aZ js ah) ah') (dR (sig m (aZ js ah).length) a)
    | .pan a=>fi kp (dR (sig m (aZ js ah).length) a) ⟨env,dO m tah (aZ js ah) ah'⟩:=by
 subst hF;exact vQ js m Z hs hk ha hZ h1 h2 h3 hg
end Go.AM
end
