/- part -/
import Derived.Test.YtpechfcbnoggfaaGreatDoorAm13
set_option linter.unusedVariables false
set_option linter.unusedSimpArgs false
namespace Go.AM
open Go Go.NB
structure da:Type 1 where
 P:Program
 tab:Nat→Option TD
 n:Nat
 n0:Nat
 d:Bool
structure iW where
 E:En
 ds:List Deferred
 W0:World
def aZ:List Nat→List B→List B
 |[],ah=>ah
 | j :: r, ah => aZ r (match ah[j]? with
  |some (.row sz α enc l)=>ah.set j (.fro sz α enc l)
  |_=>ah)
theorem nP{E:En}{γ:List Value}{H:ab}:∀{js:List Nat} {F:Nat→Prop} {ah:List B},WR E F γ ah H→∃F',(∀k,F k→F' k)∧WR E F' γ (aZ js ah) H
 |[],F,ah,h=>⟨F,fun _ h=>h,h⟩
 |j::r,F,ah,h=>by
  unfold aZ;split
  ·rename_i sz α enc l hj;obtain⟨F1,h1,h2,_⟩:=h.freeze hj;obtain⟨F2,h3,h4⟩:=nP h2;exact⟨F2,fun k hk=>h3 k (h1 k hk),h4⟩
  ·exact nP h
def fh(c:da)(r:iW)(F:Nat→Prop)(γ:List Value)(s:St)(x:A)(v:Value)(a:Act)(w:World):Prop:=
 a.tmps.size=c.n∧a.defers=r.ds∧du c.d r.W0 w∧WR r.E F γ s.ah w.heap∧ER F w.heap ⟨r.E.B,γ⟩ s.env a∧RA F w.heap ⟨r.E.B,γ⟩ x v
def SR(c:da)(r:iW)(s:St)(x:A)(v:Value)(a:Act)(w:World):Prop:=∃F γ,fh c r F γ s x v a w
inductive G where
 |any
 |grow
 |prot (pl:List Nat)
def s9:Option B→Bool
 |some (.box _ _)=>true
 |_=>false
def pR(pl:List Nat)(j:Nat):Bool:=pl.any (Nat.beq j)
def G.mem(g:G)(op:Op)(s:St):Bool:=match op with
 | .load _ x=>match g with
  | .prot pl=>match aM s x with
   | .c (.ptr j _)=>pR pl j
   | .c (.bp _)=>true
   |_=>false
  |_=>true
 | .convert .. =>match g with
  | .prot _=>false
  |_=>true
 |_=>true
def G.call:G→List Nat→Bool
 | .any,_=>true
 | .grow,m=>m.isEmpty
 | .prot pl,m=>m.all fun j=> !pR pl j
def G.act:G→Bool→Bool
 | .any,_=>true
 | .grow,b=>b
 | .prot pl,b=>b||pl.isEmpty
def G.o5 (g : G) (s : St) (op : Op) : Bool := g.act (jJ s op) || (match g with
 | .prot _=>apps op
 |_=>false)
def G.still:G→List B→Bool
 | .prot pl,ah=>pl.all fun j=>s9 ah[j]?
 |_,_=>true
def G.strict:G→Bool
 | .any=>false
 |_=>true
def ff(g:G)(E:En)(F:Nat→Prop)(γ:List Value)(ah:List B)(H:ab)(k:Nat):Prop:=match g with
 | .prot pl=>F k∨E.B k∨∃j cs ty v,pR pl j=true∧ah[j]? =some (.box cs ty)∧γ[j]? =some v∧k∈ax (.box cs ty) v
 |_=>k<H.size
theorem Ap{g:G}{E:En}{F:Nat→Prop}{γ:List Value}{ah:List B}{H:ab}{k:Nat}(hW:WR E F γ ah H)(h:ff g E F γ ah H k):k<H.size:=by
 cases g with
 |prot pl=>
  rcases h with h|h|⟨j,cs,ty,v,_,h2,h3,h4⟩
  ·exact hW.fb k h
  ·exact Nat.lt_of_lt_of_le (hW.bb k h).1 hW.size
  ·exact eM (hW.br _ _ _ h2 h3) k h4
 |_=>exact h
theorem EU{cs cs':List C}{t t':Option Nat}{v:Value}{k:Nat}(h:k∈ax (.box cs t) v):k∈ax (.box cs' t') v:=by
 cases v with
 |pointer p=>cases p<;>exact h
 |_=>exact h
theorem ri{g:G}{E:En}{F F':Nat→Prop}{γ γ':List Value}{ah ah':List B}{H H':ab}{k:Nat}(hs:H.size≤H'.size)(hF:∀k,F k→F' k)(hγ:∀(j:Nat) (v:Value),γ[j]? =some v→γ'[j]? =some v)
  (hst:g.still ah'=true)(h:ff g E F γ ah H k):ff g E F' γ' ah' H' k:=by
 cases g with
 |prot pl=>
  rcases h with h|h|⟨j,cs,ty,v,h1,h2,h3,h4⟩
  ·exact .inl (hF k h)
  ·exact .inr (.inl h)
  ·have h5:s9 ah'[j]? =true:=by
    have h1':=h1;unfold pR at h1';rw[List.any_eq_true]at h1';obtain⟨i,hi,e⟩:=h1';obtain rfl:=Nat.eq_of_beq_eq_true e;exact List.all_eq_true.1 hst j hi
   unfold s9 at h5;split at h5
   ·rename_i cs' ty' e;exact .inr (.inr ⟨j,cs',ty',v,h1,e,hγ _ _ h3,EU h4⟩)
   ·cases h5
 |_=>exact Nat.lt_of_lt_of_le h hs
theorem HG{P:Program}{tab:Nat→Option TD}{E:En}{F:Nat→Prop}{γ:List Value}{s:St}{a:Act}{w:World}{o:Oper}{k:A→Prop}{pl:List Nat}(hT:bm P tab)(hE:ER F w.heap ⟨E.B,γ⟩ s.env a)(hW:WR E F γ s.ah w.heap){t:Nat}{x:Operand}(ho:o.op= .load t x)(h:Y1 tab s (.load t x) k)
  (hm:(G.prot pl).mem (.load t x) s=true):∃b,ff (.prot pl) E F γ s.ah w.heap b∧uT P F ⟨E.B,γ⟩ a w o k b:=by
 simp only[Y1]at h;simp only[G.mem]at hm;split at h
 ·rename_i d ht;split at h
  ·rename_i j off hx;rw[hx]at hm;have hx:=aU hE hx;split at h
   ·rename_i cs ty hb;generalize hv:a.eval x=v at hx;cases hx with
    |ptr hg _=>
     obtain⟨k',vs,e,h1,h2⟩:=ph (o:=off) (hW.br j _ _ hb hg);cases e;exact⟨_,.inr (.inr ⟨j,cs,ty,_,hm,hb,hg,by simp[ax]⟩),uh hT ht ho h1 h2 hv h⟩
   ·exact h.elim
  ·rename_i cs hx;have hx:=aU hE hx;generalize hv:a.eval x=v at hx;cases hx with
   |bp hb hr hc _=>exact⟨_,hb.imp id .inl,uh hT ht ho (hr.ext ⟨fun _ h=>h,fun _ _ _ _ h=>h,fun _ h=>h,fun j v h=>by cases h⟩) hc hv h⟩
  ·rename_i sz j i off hx;rw[hx]at hm;cases hm
  ·exact h.elim
 ·exact h.elim
def iX(g:G)(H H':ab)(k:Nat):Prop:=match g with
 | .prot _=>∀o u,cell H k o=some u→cell H' k o=some u
 |_=>H'[k]? =H[k]?
theorem iX.of{g:G}{H H':ab}{k:Nat}(h:H'[k]? =H[k]?):iX g H H' k:=by
 cases g with
 |prot pl=>exact fun o u hu=>rV h hu
 |_=>exact h
theorem iX.trans{g:G}{H H' H2:ab}{k:Nat}(h:iX g H H' k)(h2:iX g H' H2 k):iX g H H2 k:=by
 cases g with
 |prot pl=>exact fun o u hu=>h2 o u (h o u hu)
 |_=>exact Eq.trans h2 h
def Nx(g:G)(c:da)(r:iW)(k:St→Prop)(F:Nat→Prop)(γ:List Value)(ah:List B)(w:World)(a':Act)(w':World):Prop:=
 ∃F' γ' s',k s'∧fh c r F' γ' s' .undef undef a' w'∧(g.strict=true→∀q,ff g r.E F γ ah w.heap q→iX g w.heap w'.heap q∧ff g r.E F' γ' s'.ah w'.heap q)
inductive XE:Type 1 where
 |normal
 |exit (id:Nat)
 |ret
 |pan (v:A)
def Qk(c:da)(r:iW)(K:XE→St→Prop):Exit→Act→World→Prop
 | .normal,a,w=>∃s,K .normal s∧SR c r s .undef undef a w
 | .exit id,a,w=>∃s,K (.exit id) s∧SR c r s .undef undef a w
 | .ret,a,w=>∃s,K .ret s∧SR c r s .undef undef a w
 | .panic ch,a,w=>∃v x s,ch=[{v:=v,recovered:=false}]∧K (.pan x) s∧SR c r s x v a w
 |_,_,_=>False
def lits:List Nat:=[0,1,2,3,4,5,6,7,8,9,10,11,12,13,14,15,16,17,18,19,20,21,22,23,24,25,26,27,28,29,30,31,32,33,34,35,36,37,38,39,40]
def iD:List Nat→Nat→(Nat→Prop)→Prop
 |[],n,k=>k n
 |i::r,n,k=>bif Nat.beq n i then k i else iD r n k
theorem lq{k:Nat→Prop}:∀{l:List Nat} {n:Nat},iD l n k→k n
 |[],_,h=>h
 |i::r,n,h=>by
  unfold iD at h;rcases iw h with⟨e,h⟩|⟨_,h⟩
  ·rw[Nat.eq_of_beq_eq_true e];exact h
  ·exact lq h
def sG(x:C)(k:C→Prop):Prop:=match x with
 | .int q n=>k (.int q n)
 | .bool b=>k (.bool b)
 | .str l=>k (.str l)
 | .raw v=>k (.raw v)
 | .nil=>k .nil
 | .ls sz α enc l=>k (.ls sz α enc l)
 | .bs sz α enc l=>k (.bs sz α enc l)
 | .rw j=>iD lits j fun j=>k (.rw j)
 | .sw sz j lo n=>iD lits j fun j=>k (.sw sz j lo n)
 | .ptr j o=>iD lits j fun j=>iD lits o fun o=>k (.ptr j o)
 | .ep sz j i o=>iD lits j fun j=>iD lits o fun o=>k (.ep sz j i o)
 | .bp cs=>k (.bp cs)
 | .fn f caps=>k (.fn f caps)
 | .iface t g cs=>k (.iface t g cs)
theorem w6{x:C}{k:C→Prop}(h:sG x k):k x:=by
 cases x with
 |rw j=>exact lq (k:=fun j=>k (.rw j)) h
 |sw sz j lo n=>exact lq (k:=fun j=>k (.sw sz j lo n)) h
 |ptr j o=>exact lq (k:=fun o=>k (.ptr j o)) (lq (k:=fun j=>iD lits o fun o=>k (.ptr j o)) h)
 |ep sz j i o=>exact lq (k:=fun o=>k (.ep sz j i o)) (lq (k:=fun j=>iD lits o fun o=>k (.ep sz j i o)) h)
 |_=>exact h
def me:List C→(List C→Prop)→Prop
 |[],k=>k []
 |x::r,k=>sG x fun x=>me r fun r=>k (x::r)
theorem pG:∀{l:List C} {k:List C→Prop},me l k→k l
 |[],_,h=>h
 |x::r,k,h=>pG (k:=fun r=>k (x::r)) (w6 (k:=fun x=>me r fun r=>k (x::r)) h)
def pH:List (Bool×List C)→(List (Bool×List C)→Prop)→Prop
 |[],k=>k []
 |(g,cs)::r,k=>me cs fun cs=>pH r fun r=>k ((g,cs)::r)
theorem w7:∀{l:List (Bool×List C)} {k:List (Bool×List C)→Prop},pH l k→k l
 |[],_,h=>h
 |(g,cs)::r,k,h=>w7 (k:=fun r=>k ((g,cs)::r)) (pG (k:=fun cs=>pH r fun r=>k ((g,cs)::r)) h)
def sF(x:A)(k:A→Prop):Prop:=match x with
 | .undef=>k .undef
 | .off=>k .off
 | .c x=>sG x fun x=>k (.c x)
 | .st cs=>me cs fun cs=>k (.st cs)
 | .tup ts=>pH ts fun ts=>k (.tup ts)
theorem w5{x:A}{k:A→Prop}(h:sF x k):k x:=by
 cases x with
 |c x=>exact w6 (k:=fun x=>k (.c x)) h
 |st cs=>exact pG (k:=fun cs=>k (.st cs)) h
 |tup ts=>exact w7 (k:=fun ts=>k (.tup ts)) h
 |_=>exact h
def gU:List B→(List B→Prop)→Prop
 |[],k=>k []
 | .box cs t::r,k=>me cs fun cs=>gU r fun r=>k (.box cs t::r)
 | .row sz α enc l::r,k=>gU r fun r=>k (.row sz α enc l::r)
 | .fro sz α enc l::r,k=>gU r fun r=>k (.fro sz α enc l::r)
 | .buf t sz α enc l::r,k=>gU r fun r=>k (.buf t sz α enc l::r)
 | .dead::r,k=>gU r fun r=>k (.dead::r)
theorem kr:∀{l:List B} {k:List B→Prop},gU l k→k l
 |[],_,h=>h
 | .box cs t::r,k,h=>kr (k:=fun r=>k (.box cs t::r)) (pG (k:=fun cs=>gU r fun r=>k (.box cs t::r)) h)
 | .row sz α enc l::r,k,h=>kr (k:=fun r=>k (.row sz α enc l::r)) h
 | .fro sz α enc l::r,k,h=>kr (k:=fun r=>k (.fro sz α enc l::r)) h
 | .buf t sz α enc l::r,k,h=>kr (k:=fun r=>k (.buf t sz α enc l::r)) h
 | .dead::r,k,h=>kr (k:=fun r=>k (.dead::r)) h
def gH(n:Nat)(s:St)(d:Option Nat)(x:A)(k:St→Prop):Prop:=match d with
 |none=>k s
 |some d=>bif Nat.blt d n then sF x fun x=>match s with
  |⟨e,ah⟩=>k ⟨(d,x)::e,ah⟩else False
def s8(tab:Nat→Option TD)(s:St):Op→Bool
 | .alloc _| .box .. | .buildSlice .. | .makeSlice .. | .store .. =>true
 | .convert _ u x=>match aM s x,tab u with
  | .c (.str _),some d=>(match d.kind with| .sl _=>true|_=>false)
  | .c (.rw _),some d=>(match d.kind with| .sl _=>true|_=>false)
  |_,_=>false
 | .call c=>(match c.callee with| .builtin .append=>true| .builtin .clear=>true|_=>false)
 |_=>false
def gA(m:List Nat)(tah:List B)(j:Nat):Bool:= !((cu (bu m) tah).any (Nat.beq j))
def jz(ah:List B)(m:List Nat)(args targs:List A)(tah:List B):Prop:=
 bif dP m&&m.all (fun j=>Nat.blt j ah.length)&&dP (cu (bu m) tah)then kF (gA m tah) ah (bu m) args targs∧jR (gA m tah) ah (bu m) (bu m) tah else False
def fi{α β:Type 1}(k:α→β→Prop)(x:α)(y:β):Prop:=k x y
def YC(c:da)(g:G)(s:St)(fx:Operand)(as:List Operand)(k:List B→A→Prop)(kp:A→St→Prop):Prop:=
 match aM s fx with
 | .c (.fn f caps)=>∃(js m:List Nat) (targs:List A) (tah:List B) (Q:Out→List B→Prop),bC c.d c.P f targs tah Q∧jz (aZ js s.ah) m (as.map (aM s)++caps.map .c) targs tah∧g.call m=true∧
   ∀out ah',Q out ah'→match out with
    | .ret a=>fi k (dO m tah (aZ js s.ah) ah') (dR (sig m (aZ js s.ah).length) a)
    | .pan a=>fi kp (dR (sig m (aZ js s.ah).length) a) ⟨s.env,dO m tah (aZ js s.ah) ah'⟩
 |_=>False
def Xo(c:da)(g:G)(o:Oper)(s:St)(k:St→Prop)(kp:A→St→Prop):Prop:=
 match o.op with
 | .panic x=>match aM s x with
  | .c (.iface t ag cs)=>kp (.c (.iface t ag cs)) s
  |_=>False
 | .call ⟨.value fx,as,_⟩=>YC c g s fx as.toList (fun ah x=>gU ah fun ah=>bif g.still ah then gH c.n ⟨s.env,ah⟩ o.dst x k else False) kp
 |op=>bif s8 c.tab s op then(bif g.o5 s op then Y2 c.tab s op fun ah x=>gU ah fun ah=>bif g.still ah then gH c.n ⟨s.env,ah⟩ o.dst x k else False else False)
   else bif g.mem op s then Y1 c.tab s op fun x=>gH c.n s o.dst x k else False
section
variable {c:da} {r:iW} {s:St} {a:Act} {w:World} {o:Oper}
theorem ER.put{F:Nat→Prop}{H:ab}{m:Md}{env:List (Nat×A)}(h:ER F H m env a){d:Nat}(hd:d<a.tmps.size){x:A}{v:Value}(hx:RA F H m x v):ER F H m ((d,x)::env) (a.put (some d) v):=by
 intro t y hl;unfold lk at hl;by_cases hb:Nat.beq d t=true
 ·rw[hb]at hl;cases hl;obtain rfl:=Nat.eq_of_beq_eq_true hb;simpa[Act.put,Array.getD,hd]using hx
 ·rw[Bool.not_eq_true]at hb;rw[hb]at hl;have hne:d≠t:=fun e=>by subst e;simp at hb
  have:=h t y hl;simpa[Act.put,Array.getD_eq_getD_getElem?,hne]using this
theorem ER.ext{F F':Nat→Prop}{H H':ab}{m m':Md}{env:List (Nat×A)}(h:ER F H m env a)(e:Ext F H m F' H' m'):ER F' H' m' env a:=fun t x hl=>(h t x hl).ext e
theorem lJ{F:Nat→Prop}{γ:List Value}{s:St}{x:A}{v:Value}{k:St→Prop}{d:Option Nat}(hk:gH c.n s d x k)(hn:a.tmps.size=c.n)(hds:a.defers=r.ds)(hA:du c.d r.W0 w)(hW:WR r.E F γ s.ah w.heap)(hE:ER F w.heap ⟨r.E.B,γ⟩ s.env a)(hx:RA F w.heap ⟨r.E.B,γ⟩ x v):
  ∃s',k s'∧s'.ah=s.ah∧fh c r F γ s' .undef undef (a.put d v) w:=by
 unfold gH at hk;split at hk
 ·exact⟨s,hk,rfl,by simpa[Act.put]using hn,by simpa[Act.put]using hds,hA,hW,by simpa[Act.put]using hE,trivial⟩
 ·rename_i d;obtain⟨hd,hk⟩:=bM hk;have hd':d<a.tmps.size:=by rw[hn];exact Nat.le_of_ble_eq_true hd
  exact⟨_,w5 hk,rfl,by simp[Act.put,hn],by simp[Act.put,hds],hA,hW,hE.put hd' hx,trivial⟩
theorem Fw{g:G}{F:Nat→Prop}{γ:List Value}{s:St}{x:A}{v:Value}{k:St→Prop}{d:Option Nat}(hk:gH c.n s d x k)(hn:a.tmps.size=c.n)(hds:a.defers=r.ds)(hA:du c.d r.W0 w)(hW:WR r.E F γ s.ah w.heap)(hE:ER F w.heap ⟨r.E.B,γ⟩ s.env a)(hx:RA F w.heap ⟨r.E.B,γ⟩ x v):
  Nx g c r k F γ s.ah w (a.put d v) w:=by
 obtain⟨s',h1,h2,h3⟩:=lJ hk hn hds hA hW hE hx;exact⟨F,γ,s',h1,h3,fun _ q hq=>⟨.of rfl,by rw[h2];exact hq⟩⟩
theorem xb{j:Nat}{cs:List C}{ty:Option Nat}:∀{js:List Nat} {ah:List B},ah[j]? =some (.box cs ty)→(aZ js ah)[j]? =some (.box cs ty)
 |[],_,h=>h
 |i::r,ah,h=>by
  unfold aZ;refine xb (js:=r) ?_;split
  ·rename_i e;rw[List.getElem?_set];split
   ·rename_i e2;subst e2;rw[h]at e;cases e
   ·exact h
  ·exact h
theorem yn{f:C→C→Prop}{F:Nat→Prop}{H:ab}{m m':Md}(hf:∀c0 c v,f c0 c→RL F H m [c0] [v]→RL F H m' [c] [v]):∀{ts0 ts:List (Bool×List C)} {vs:List Value},mT f ts0 ts→RT F H m ts0 vs→RT F H m' ts vs
 |[],[],[],_,_=>trivial
 |(g0,cs0)::ts0,(g,cs)::ts,v::vs,⟨⟨e,h1⟩,h2⟩,⟨⟨us,h3,h4,h5⟩,h6⟩=>⟨⟨us,lW hf h1 h3,by rw[←e];exact h4,fun h=>by rw[←uZ h1];exact h5 (e.trans h)⟩,yn hf h2 h6⟩
theorem tD{E:En}{F:Nat→Prop}{γ:List Value}{ah:List B}{H:ab}{B':Nat→Prop}{fr:Nat→Bool}{ρ:List Rn}(hW:WR E F γ ah H)(hB:∀k,E.B k→B' k)(hfr:∀j b g,fr j=true→ah[j]? =some b→γ[j]? =some g→∀k∈ax b g,B' k)
  {x0 x:A}{v:Value}(h:mA fr ah ρ x0 x)(hr:RA F H ⟨E.B,γ⟩ x0 v):RA F H ⟨B',ρ.map (bE γ)⟩ x v:=by
 have hf:∀c0 c v,mC fr ah 5 ρ c0 c→RL F H ⟨E.B,γ⟩ [c0] [v]→RL F H ⟨B',ρ.map (bE γ)⟩ [c] [v]:=fun c0 c v h hr=>tF hW hB hfr 5 h hr;cases x with
 |undef=>trivial
 |off=>cases x0<;>first|exact h.elim|exact hr
 |c y=>cases x0<;>first|exact h.elim|exact hf _ _ _ h hr
 |st cs=>
  cases x0 with
  |st cs0=>obtain⟨vs,rfl,hr⟩:=hr;exact⟨vs,rfl,lW hf h hr⟩
  |_=>exact h.elim
 |tup ts=>
  cases x0 with
  |tup ts0=>obtain⟨vs,rfl,hr⟩:=hr;exact⟨vs,rfl,yn hf h hr⟩
  |_=>exact h.elim
theorem tE{E:En}{F:Nat→Prop}{γ:List Value}{ah:List B}{H:ab}{B':Nat→Prop}{fr:Nat→Bool}{ρ:List Rn}(hW:WR E F γ ah H)(hB:∀k,E.B k→B' k)(hfr:∀j b g,fr j=true→ah[j]? =some b→γ[j]? =some g→∀k∈ax b g,B' k):
  ∀{xs0 xs:List A} {vs:List Value},kF fr ah ρ xs0 xs→dJ F H ⟨E.B,γ⟩ xs0 vs→dJ F H ⟨B',ρ.map (bE γ)⟩ xs vs
 |[],[],[],_,_=>trivial
 |x0::xs0,x::xs,v::vs,⟨h1,h2⟩,⟨h3,h4⟩=>⟨tD hW hB hfr h1 h3,tE hW hB hfr h2 h4⟩
theorem dJ.ext{F F':Nat→Prop}{H H':ab}{m m':Md}(e:Ext F H m F' H' m'):∀{as:List A} {vs:List Value},dJ F H m as vs→dJ F' H' m' as vs
 |[],[],_=>trivial
 |_::_,_::_,⟨h1,h2⟩=>⟨h1.ext e,dJ.ext e h2⟩
theorem vm{F:Nat→Prop}{H:ab}{m:Md}(hE:ER F H m s.env a){caps:List C}{us:List Value}(hc:RL F H m caps us):∀(as:List Operand),dJ F H m (as.map (aM s)++caps.map .c) (as.map a.eval++us)
 |[]=>by
  have:∀{caps:List C} {us:List Value},RL F H m caps us→dJ F H m (caps.map .c) us:=fun{caps}=>by
   induction caps with
   |nil=>intro us h;cases h;trivial
   |cons c cs ih=>
    intro us h;obtain⟨v,vs,rfl,h1,h2⟩:=h.ic;exact⟨h1,ih h2⟩
  exact this hc
 |x::as=>⟨kM hE x,vm hE hc as⟩
theorem xa{m:List Nat}{tah:List B}(j:Nat)(h:gA m tah j=true):j∉cu (bu m) tah:=fun hj=>by
 unfold gA at h;rw[Bool.not_eq_true',List.any_eq_false]at h;exact h j hj (Nat.beq_refl j)
theorem Ax{g:G}{F:Nat→Prop}{γ:List Value}{fx:Operand}{as:List Operand}{tys:Array TypeId}{k:St→Prop}{K:XE→St→Prop}{Q:Exit→Act→World→Prop}(ho:o.op= .call ⟨.value fx,as.toArray,tys⟩)
  (h:YC c g s fx as (fun ah x=>gU ah fun ah=>bif g.still ah then gH c.n ⟨s.env,ah⟩ o.dst x k else False) (fun v s=>K (.pan v) s))(hs:fh c r F γ s .undef undef a w)(hQ:∀ch a w,Qk c r K (.panic ch) a w→Q (.panic ch) a w):
  o.wp c.P a w (fun a' w'=>Nx g c r k F γ s.ah w a' w') Q:=by
 obtain⟨hn,hds,hA,hW,hE,_⟩:=hs;unfold YC at h;split at h
 ·rename_i f caps hfx;obtain⟨js,m,targs,tah,QQ,hspec,hok,hg,hk⟩:=h;have hc:=aU hE hfx;generalize hfv:a.eval fx=fv at hc;cases hc with
  | @fn _ _ _ us _ _ hcaps _=>
   obtain⟨F1,hF1,hW1⟩:=nP (js:=js) hW;have e1:Ext F w.heap ⟨r.E.B,γ⟩ F1 w.heap ⟨r.E.B,γ⟩:=kt hF1;obtain⟨hchk,hma,hmb⟩:=bM hok;simp only[Bool.and_eq_true,List.all_eq_true]at hchk;obtain⟨⟨hnd,hlt⟩,hnu⟩:=hchk;have hlt':∀j∈m,j<(aZ js s.ah).length:=fun j hj=>Nat.le_of_ble_eq_true (hlt j hj);have hcore:=core hW1 hmb hnu xa;have hargs:=tE (B':=jq r.E γ (aZ js s.ah) (gA m tah)) hW1 (fun _ h=>.inl h) (fun j b g h1 h2 h3 k hk=>.inr ⟨j,b,g,h2,h3,h1,hk⟩) hma ((vm hE hcaps as).ext e1)
   have hWc:WR (en F1 (jq r.E γ (aZ js s.ah) (gA m tah)) ((bu m).map (bE γ)) tah w.heap) F1 ((bu m).map (bE γ)) tah w.heap:=by
    refine⟨hcore.len,hcore.br,hcore.cK,fun j b g k h1 h2 h3=>(hcore.nf j b g k h1 h2 h3).1,hW1.fb,fun k hk=>⟨?_,fun⟨j,b,g,h1,h2,h3⟩=>(hcore.nf j b g k h1 h2 h3).1.2 hk⟩,Nat.le_refl _,fun _ _ _=>rfl,fun _ h=>h,fun _ h=>.inl h,fun j b g k h1 h2 h3=>.inl ⟨j,b,g,h1,h2,h3⟩,fun _ _ h=>h⟩;rcases hk with hk|⟨j,b,g,h1,h2,_,h3⟩
    ·exact Nat.lt_of_lt_of_le (hW1.bb k hk).1 hW1.size
    ·exact eM (hW1.br _ _ _ h1 h2) k h3
   have hcall:=hspec F1 _ _ w.heap _ hargs hWc w rfl;have he:=pE (a:=a) (first:=[]) (caps:=us) (vs:=as.map a.eval) ho hfv rfl;rw[List.nil_append]at he;unfold Oper.wp;rw[he]
   have fin:∀(ok:Bool) (v:Value) (w':World),du c.d w w'→nk F1 (jq r.E γ (aZ js s.ah) (gA m tah)) ((bu m).map (bE γ)) tah w.heap QQ ok v w'.heap→
     (ok=true→Nx g c r k F γ s.ah w (a.put o.dst v) w')∧(ok=false→Q (.panic [{v:=v,recovered:=false}]) a w'):=by
    intro ok v w' hA' ⟨out,ah',F',γ',hq,hca,hcb,hok,hra,hWR⟩;obtain⟨m1,m2,m3,m4,m5⟩:=merge hW1 hmb (qq hnd) hlt' hcore hWR hcb;have hk':=hk out ah' hq;have e2:Ext F w.heap ⟨r.E.B,γ⟩ F' w'.heap ⟨r.E.B,γ++γ'.drop m.length⟩:=⟨fun q hq=>m2.f q (hF1 q hq),fun b o u hb hcc=>m2.h b o u (hb.imp (hF1 b) id) hcc,m2.b,m2.g⟩;have hra':RA F' w'.heap ⟨r.E.B,γ++γ'.drop m.length⟩ (dR (sig m (aZ js s.ah).length) out.a) v:=zc m3 hra hca;refine⟨fun hok1=>?_,fun hok0=>?_⟩
    ·cases out with
     |pan a=>rw[hok1]at hok;cases hok
     |ret x=>
      obtain⟨hst,hk2⟩:=bM (kr hk');obtain⟨s',q1,q2,q3⟩:=lJ (s:=⟨s.env,_⟩) hk2 hn hds (hA.trans hA') m1 (hE.ext e2) hra';have hsz:w.heap.size≤w'.heap.size:=hWR.size;refine⟨F',_,s',q1,q3,fun hstr q hq=>⟨?_,by rw[q2];exact ri hsz e2.f e2.g hst hq⟩⟩;cases g with
      |any=>cases hstr
      |grow=>exact(m4 (List.isEmpty_iff.1 hg)).2 q hq (by simp)
      |prot pl=>
       refine iX.of (m5 q ?_);rcases hq with hq|hq|⟨j,cs,ty,v,g1,g2,g3,g4⟩
       ·exact .inl (hF1 q hq)
       ·exact .inr (.inl hq)
       ·refine .inr (.inr ⟨j,_,v,fun hj=>?_,xb g2,g3,g4⟩);have:=List.all_eq_true.1 hg j hj;rw[g1]at this;cases this
    ·cases out with
     |ret x=>rw[hok0]at hok;cases hok
     |pan x=>exact hQ _ _ _ ⟨v,_,_,rfl,hk',F',_,hn,hds,hA.trans hA',m1,hE.ext e2,hra'⟩
   unfold lV at hcall;split at hcall
   ·rename_i v w' hr;obtain⟨rfl,hb⟩:=hcall;rw[hr];exact(fin true v _ (du.refl _) hb).1 rfl
   ·rename_i f' args' w' hr;obtain⟨rfl,hb⟩:=hcall;rw[hr];refine hb.mono fun e w'' he=>?_;rcases he with⟨v,rfl,hb,hA'⟩|⟨v,rfl,hb,hA'⟩
    ·exact(fin true v w'' hA' hb).1 rfl
    ·exact(fin false v w'' hA' hb).2 rfl
   ·exact hcall.elim
 ·exact h.elim
theorem uS(hT:bm c.P c.tab){g:G}{F:Nat→Prop}{γ:List Value}{k:St→Prop}{K:XE→St→Prop}{Q:Exit→Act→World→Prop}(h:Xo c g o s k (fun v s=>K (.pan v) s))(hs:fh c r F γ s .undef undef a w)(hQ:∀ch a w,Qk c r K (.panic ch) a w→Q (.panic ch) a w):
  o.wp c.P a w (fun a' w'=>Nx g c r k F γ s.ah w a' w') Q:=by
 have stable:Y1 c.tab s o.op (fun x=>gH c.n s o.dst x k)→o.wp c.P a w (fun a' w'=>Nx g c r k F γ s.ah w a' w') Q:=fun h=>by
  obtain⟨hn,hds,hA,hW,hE,_⟩:=hs;obtain⟨v,x,hk,hx,hrun⟩:=o4 hT hE hW h;unfold Oper.wp;rw[hrun w (.inr (ak.refl _ _))];exact Fw hk hn hds hA hW hE hx
 have active:g.o5 s o.op=true→Y2 c.tab s o.op (fun ah x=>gU ah fun ah=>bif g.still ah then gH c.n ⟨s.env,ah⟩ o.dst x k else False)→o.wp c.P a w (fun a' w'=>Nx g c r k F γ s.ah w a' w') Q:=fun hgr h=>by
  obtain⟨hn,hds,hA,hW,hE,_⟩:=hs;obtain⟨nx,v,w',ah',x,F',γ',⟨hnx,hrun⟩,hA',hk,hst,hx,hgk,hbk⟩:=Aw hT hE hW h;obtain⟨hsl,hk2⟩:=bM (kr hk);obtain⟨s',q1,q2,q3⟩:=lJ (s:=⟨s.env,_⟩) hk2 hn hds (hA.trans (du.of hA')) hst.wr (hE.ext hst.ext) hx
  have hp:Nx g c r k F γ s.ah w (a.put o.dst v) w':=by
   refine⟨F',γ',s',q1,q3,fun hstr q hq=>?_⟩;have hlt:=Ap hW hq
   have kp:jJ s o.op=true→iX g w.heap w'.heap q∧ff g r.E F' γ' s'.ah w'.heap q:=fun hgr'=>by
    have hK:=hgk hgr';exact⟨.of (hK.2 q hlt (by simp)),by rw[q2];exact ri hK.1 hst.ext.f hst.ext.g hsl hq⟩
   cases g with
   |any=>cases hstr
   |grow=>exact kp (by simpa[G.o5,G.act]using hgr)
   |prot pl=>
    simp only[G.o5,G.act,Bool.or_eq_true]at hgr;rcases hgr with(hgr|hgr)|hgr
    ·exact kp hgr
    ·obtain rfl:pl=[]:=List.isEmpty_iff.1 hgr;rcases hq with hq|hq|⟨j,cs,ty,u,g1,_⟩
     ·exact⟨fun o u hu=>hst.ext.h q o u (.inl hq) hu,.inl (hst.ext.f q hq)⟩
     ·exact⟨fun o u hu=>hst.ext.h q o u (.inr hq) hu,.inr (.inl hq)⟩
     ·cases g1
    ·obtain⟨hsz,hbk⟩:=hbk hgr;refine⟨?_,by rw[q2];exact ri hsz hst.ext.f hst.ext.g hsl hq⟩;rcases hq with hq|hq|⟨j,cs,ty,u,g1,g2,g3,g4⟩
     ·exact fun o u hu=>hst.ext.h q o u (.inl hq) hu
     ·exact fun o u hu=>hst.ext.h q o u (.inr hq) hu
     ·exact .of (hbk j cs ty u g2 g3 q g4)
  unfold Oper.wp;rw[hrun];rcases hnx with rfl|⟨rfl,rfl⟩
  ·exact hp
  ·exact hp
 unfold Xo at h;split at h
 ·rename_i x ho;split at h
  ·rename_i t ag cs hx;obtain⟨hn,hds,hA,hW,hE,_⟩:=hs;have hc:=aU hE hx;generalize hv:a.eval x=v at hc;have hc':=hc;cases hc with
   | @iface _ _ _ _ us _ _ hr _=>
    have hrun:(execOp a.eval o).run c.P w= .halt (.panic (.iface t (gV ag us))) w:=by
     unfold execOp;rw[ho];simp[hv,Instr.panic,goPanic]
    unfold Oper.wp;rw[hrun];exact hQ _ _ _ ⟨_,_,s,rfl,h,F,γ,hn,hds,hA,hW,hE,hc'⟩
  ·exact h.elim
 ·rename_i fx as tys ho;have ho':o.op= .call ⟨.value fx,as.toList.toArray,tys⟩:=by rw[ho]
  exact Ax ho' h hs hQ
 ·rename_i op hne1 hne2;rcases iw h with⟨ha,h⟩|⟨ha,h⟩
  ·obtain⟨h1,h⟩:=bM h;exact active h1 h
  ·exact stable (bM h).2
end
end Go.AM
