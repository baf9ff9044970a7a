/- part -/
import Derived.Test.YtpechfcbnoggfaaGreatDoorOps
import Derived.KernelRfl
set_option linter.unusedVariables false
set_option linter.unusedSimpArgs false
section
namespace Go.NB
def kY(P:Program)(w:World)(R:Value→ab→Prop):Result Next→Prop
 | .ok (.value v) w'=>w'=w∧R v w.heap
 | .ok (.enter f args) w'=>w'=w∧Calls P f args w fun e w'=>∃v,e= .returned v∧R v w'.heap∧bd w w'
 |_=>False
def bP(P:Program)(f:FuncId)(args:Array Value)(H:ab)(R:Value→ab→Prop):Prop:=
 ∀w:World,w.heap=H→kY P w R ((callFunc f args).run P w)
theorem bP.mono{P:Program}{f:FuncId}{args:Array Value}{H:ab}{R R':Value→ab→Prop}(h:bP P f args H R)(hr:∀v H',R v H'→R' v H'):bP P f args H R':=by
 intro w hw;have:=h w hw;unfold kY at*;split at this
 ·exact⟨this.1,hr _ _ this.2⟩
 ·exact⟨this.1,this.2.mono fun e w' ⟨v,h1,h2,h3⟩=>⟨v,h1,hr _ _ h2,h3⟩⟩
 ·exact this.elim
def o9:Nat→List Value→Env
 |_,[]=>[]
 |i,v::r=>(i,true,v)::o9 (i+1) r
theorem yk:∀(l:List Value) (i t:Nat) (g:Bool) (v:Value),look (o9 i l) t=some (g,v)→g=true∧i≤t∧l[t-i]? =some v
 |[],_,_,_,_,h=>by cases h
 |u::r,i,t,g,v,h=>by
  unfold o9 look at h;by_cases hb:Nat.beq i t=true
  ·rw[hb]at h;simp at h;obtain⟨rfl,rfl⟩:=h;have:=Nat.eq_of_beq_eq_true hb;subst this;simp
  ·rw[Bool.not_eq_true]at hb;rw[hb]at h;have hne:i≠t:=fun e=>by subst e;simp at hb
   obtain⟨h1,h2,h3⟩:=yk r (i+1) t g v h;refine⟨h1,by omega,?_⟩;rw[show t-i=(t-(i+1))+1 by omega];simpa using h3
def rk(c:Cx)(fn:Func)(R:Value→ab→Prop)(Q:Exit→Act→World→Prop):Prop:=
 ∀e a w v,(e= .ret∨e= .normal)→a.defers=[]→(results fn a.tmps).run c.P w= .ok v w→R v w.heap→bd c.W0 w→Q e a w
theorem enter{P:Program}{f:FuncId}{fn:Func}{code:Code}{args:List Value}{H:ab}{R:Value→ab→Prop}{n:Nat}
  (hc:∀args w,(callFunc f args).run P w= .ok (.enter f args) w)(hf:P.funcs[f]? =some fn)(hb:fn.body=some code)(hn:fn.ntmps=n)(hl:args.length≤n)
  (h:∀W0 Q,rk ⟨P,n,[],W0⟩ fn R Q→WC ⟨P,n,[],W0⟩ code (o9 0 args) H Q):bP P f args.toArray H R:=by
 intro w hw;rw[hc];refine⟨rfl,calls_of_wp hf hb ?_⟩;refine h w _ (fun e a w' v he hd hr hR hA=>?_) _ w ⟨?_,rfl,fun t g v hl=>?_⟩ hw (bd.refl _)
 ·rcases he with rfl|rfl<;>exact⟨hd,v,hr,v,rfl,hR,hA⟩
 ·simp[hn];omega
 ·obtain⟨rfl,_,h2⟩:=yk _ _ _ _ _ hl;rw[Nat.sub_zero]at h2;obtain⟨hlt,e⟩:=List.getElem?_eq_some_iff.1 h2;simp[Array.getD_eq_getD_getElem?,Array.getElem?_append,hlt,e]
section
variable {c:Cx} {env:Env} {H:ab} {Q:Exit→Act→World→Prop} {fn:Func} {R:Value→ab→Prop}
theorem dt{t:Nat}{v:Value}(hQ:rk c fn R Q)(hr:fn.results= #[.tmp t])(hd:c.ds=[])(hx:Ev env (.tmp t) v)(hR:R v H):NX c env H (Q .ret):=fun a w hf hw hA=>by
 have:=hf.eval hx;simp only[Act.eval,Array.getD_eq_getD_getElem?]at this;exact hQ _ _ _ v (.inl rfl) (hf.defers.trans hd) (by simp[results,hr,this]) (by rw[hw];exact hR) hA
theorem um{t s:Nat}{v u:Value}(hQ:rk c fn R Q)(hr:fn.results= #[.tmp t,.tmp s])(hd:c.ds=[])(hx:Ev env (.tmp t) v)(hy:Ev env (.tmp s) u)(hR:R (.tuple #[v,u]) H):NX c env H (Q .ret):=fun a w hf hw hA=>by
 have h1:=hf.eval hx;have h2:=hf.eval hy;simp only[Act.eval,Array.getD_eq_getD_getElem?]at h1 h2;exact hQ _ _ _ (.tuple #[v,u]) (.inl rfl) (hf.defers.trans hd) (by simp[results,hr,h1,h2]) (by rw[hw];exact hR) hA
def Gd(c:Cx)(ops:Array Oper)(o:Oper)(env:Env)(g:Bool):Prop:=∀a,Fr c env a→Region.wanted o (yielded ops a.tmps)=g
theorem Gd.none{ops:Array Oper}{o:Oper}(h:o.guard= .none):Gd c ops o env true:=fun a _=>by simp[Region.wanted,h]
theorem Ai{ops:Array Oper}{j t:Nat}{g b:Bool}{a:Act}(hf:Fr c env a)(hj:(ops[j]?).bind (·.dst)=some t)(ht:Nat.blt t c.n=true)(hl:look env t=some (g,.bool b)):
  yielded ops a.tmps j=bif g then some b else .none:=by
 have hs:=hf.slot t g _ hl;have hlt:t<a.tmps.size:=by rw[hf.size];exact Nat.le_of_ble_eq_true ht
 have e:a.tmps[t]? =some (bif g then .bool b else undef):=by
  rw[Array.getElem?_eq_getElem hlt];rw[Array.getD_eq_getD_getElem?,Array.getElem?_eq_getElem hlt]at hs;simpa using hs
 unfold yielded;rw[hj];show(match a.tmps[t]? with|some (.bool b)=>some b|_=>.none)=_;rw[e];cases g<;>rfl
theorem Gd.yes{ops:Array Oper}{o:Oper}{j t:Nat}{g b:Bool}(h:o.guard=some (j,true))(hj:(ops[j]?).bind (·.dst)=some t)(ht:Nat.blt t c.n=true)(hl:look env t=some (g,.bool b)):Gd c ops o env (g&&b):=fun a hf=>by
 simp only[Region.wanted,h,Ai hf hj ht hl];cases g<;>cases b<;>rfl
theorem Gd.no{ops:Array Oper}{o:Oper}{j t:Nat}{g b:Bool}(h:o.guard=some (j,false))(hj:(ops[j]?).bind (·.dst)=some t)(ht:Nat.blt t c.n=true)(hl:look env t=some (g,.bool b)):Gd c ops o env (g&& !b):=fun a hf=>by
 simp only[Region.wanted,h,Ai hf hj ht hl];cases g<;>cases b<;>rfl
theorem Gd.q7{ops:Array Oper}{o:Oper}{j t:Nat}{b:Bool}(h:o.guard=some (j,true))(hj:(ops[j]?).bind (·.dst)=some t)(ht:Nat.blt t c.n=true)(hl:look env t=some (true,.bool b)):Gd c ops o env b:=Gd.yes h hj ht hl
theorem Gd.gF{ops:Array Oper}{o:Oper}{j t:Nat}{b:Bool}(h:o.guard=some (j,false))(hj:(ops[j]?).bind (·.dst)=some t)(ht:Nat.blt t c.n=true)(hl:look env t=some (true,.bool b)):Gd c ops o env (!b):=Gd.no h hj ht hl
section wl
variable {ops:Array Oper} {o:Oper} {rest:List Oper} {d:Nat}
theorem WL.dS{g:Bool}{v:Value}(hg:Gd c ops o env g)(hd:o.dst=some d)(hlt:Nat.blt d c.n=true)(h:g=true→aN c o env (Is H) v)(k:WL c ops rest ((d,g,v)::env) H Q):WL c ops (o::rest) env H Q:=by
 intro a w hf hw hA;have hlt':d<c.n:=Nat.le_of_ble_eq_true hlt;have hp:=hf.put hlt' g v;refine wpList_step fun K hK=>?_;rw[hg a hf];cases g with
 |true=>
  rw[if_pos rfl];have:=h rfl a w hf hw hA;unfold Oper.wp;rw[this];simp only[Oper.upon,hd];exact hK _ _ (k _ w hp hw hA)
 |false=>
  rw[if_neg (by simp),hd];exact hK _ _ (k _ w hp hw hA)
theorem WL.aa{v:Value}(hg:o.guard= .none)(hd:o.dst=some d)(hlt:Nat.blt d c.n=true)(h:aN c o env (Is H) v)(k:WL c ops rest ((d,true,v)::env) H Q):WL c ops (o::rest) env H Q:=
 WL.dS (Gd.none hg) hd hlt (fun _=>h) k
theorem WL.ex{Φ:Value→Prop}(hg:o.guard= .none)(hd:o.dst=some d)(hlt:Nat.blt d c.n=true)(h:∃v,aN c o env (Is H) v∧Φ v)(k:∀v,Φ v→WL c ops rest ((d,true,v)::env) H Q):WL c ops (o::rest) env H Q:=
 let ⟨v,h1,h2⟩:=h;WL.aa hg hd hlt h1 (k v h2)
inductive gk(env:Env):List Operand→List Value→Prop
 |nil:gk env [] []
 |cons {x v xs vs}:Ev env x v→gk env xs vs→gk env (x::xs) (v::vs)
theorem gk.eval{xs:List Operand}{vs:List Value}(h:gk env xs vs){a:Act}(hf:Fr c env a):xs.map a.eval=vs:=by
 induction h with
 |nil=>rfl
 |cons h1 _ ih=>simp[hf.eval h1,ih]
theorem pE{o:Oper}{a:Act}{f:FuncId}{fx:Operand}{first caps:List Value}{as:List Operand}{tys:Array TypeId}{vs:List Value}(ho:o.op= .call {callee:= .value fx,args:=as.toArray,argTypes:=tys})
  (hfx:a.eval fx= .func (.func f) first.toArray caps.toArray)(hvs:as.map a.eval=vs):execOp a.eval o=callFunc f ((first++vs)++caps).toArray:=by
 unfold execOp;rw[ho];simp only[resolve,List.map_toArray,hvs,hfx,Deferred.ofValue];show callFunc f ((first.toArray++vs.toArray)++caps.toArray)=_;simp
theorem WL.rU{f:FuncId}{fx:Operand}{first caps:List Value}{as:List Operand}{tys:Array TypeId}{vs:List Value}{R:Value→ab→Prop}(hg:o.guard= .none)(hd:o.dst=some d)(hlt:Nat.blt d c.n=true)
  (ho:o.op= .call {callee:= .value fx,args:=as.toArray,argTypes:=tys})(hfx:Ev env fx (.func (.func f) first.toArray caps.toArray))(hvs:gk env as vs)(hc:bP c.P f ((first++vs)++caps).toArray H R)
  (k:∀v H',R v H'→WL c ops rest ((d,true,v)::env) H' Q):WL c ops (o::rest) env H Q:=by
 intro a w hf hw hA;have hlt':d<c.n:=Nat.le_of_ble_eq_true hlt;refine wpList_plain hg fun K hK=>?_;have he:=pE ho (hf.eval hfx) (hvs.eval hf);unfold Oper.wp;rw[he];have:=hc w hw;unfold kY at this;split at this
 ·rename_i v w' hr;rw[hr];obtain⟨rfl,hR⟩:=this;simp only[Oper.upon,hd];exact hK _ _ (k v _ hR _ _ (hf.put hlt' true v) rfl hA)
 ·rename_i f' args' w' hr;rw[hr];obtain⟨rfl,hR⟩:=this;simp only[Oper.upon,hd];refine hR.mono fun e w'' ⟨v,h1,h2,h3⟩=>?_;subst h1;exact hK _ _ (k v _ h2 _ _ (hf.put hlt' true v) rfl (hA.trans h3))
 ·exact this.elim
theorem WL.call{f:FuncId}{as:List Operand}{tys:Array TypeId}{vs:List Value}{R:Value→ab→Prop}(hg:o.guard= .none)(hd:o.dst=some d)(hlt:Nat.blt d c.n=true)
  (ho:o.op= .call {callee:= .value (.func f),args:=as.toArray,argTypes:=tys})(hvs:gk env as vs)(hc:bP c.P f vs.toArray H R)
  (k:∀v H',R v H'→WL c ops rest ((d,true,v)::env) H' Q):WL c ops (o::rest) env H Q:=
 WL.rU (first:=[]) (caps:=[]) hg hd hlt ho ⟨_,rfl,rfl⟩ hvs (by simpa using hc) k
theorem WL.pM{g:Bool}{f:FuncId}{as:List Operand}{tys:Array TypeId}{vs:List Value}{u:Value}(hg:Gd c ops o env g)(hd:o.dst=some d)(hlt:Nat.blt d c.n=true)
  (ho:o.op= .call {callee:= .value (.func f),args:=as.toArray,argTypes:=tys})(hvs:g=true→gk env as vs)(hc:g=true→bP c.P f vs.toArray H fun v H'=>v=u∧ak [] H H')
  (k:∀H',ak [] H H'→WL c ops rest ((d,g,u)::env) H' Q):WL c ops (o::rest) env H Q:=by
 intro a w hf hw hA;have hlt':d<c.n:=Nat.le_of_ble_eq_true hlt;refine wpList_step fun K hK=>?_;rw[hg a hf];cases g with
 |false=>
  rw[if_neg (by simp),hd];exact hK _ _ (k H (ak.refl _ _) _ w (hf.put hlt' false u) hw hA)
 |true=>
  rw[if_pos rfl];have he:=pE (first:=[]) (caps:=[]) ho (hf.eval ⟨_,rfl,rfl⟩) ((hvs rfl).eval hf);unfold Oper.wp;rw[he];have:=hc rfl w hw;simp only[List.nil_append,List.append_nil];unfold kY at this;split at this
  ·rename_i v w' hr;rw[hr];obtain⟨rfl,rfl,hR⟩:=this;simp only[Oper.upon,hd];exact hK _ _ (k _ hR _ _ (hf.put hlt' true v) rfl hA)
  ·rename_i f' args' w' hr;rw[hr];obtain⟨rfl,hR⟩:=this;simp only[Oper.upon,hd];refine hR.mono fun e w'' ⟨v,h1,h2,h3⟩=>?_;subst h1;obtain⟨rfl,h4⟩:=h2;exact hK _ _ (k _ h4 _ _ (hf.put hlt' true v) rfl (hA.trans h3))
  ·exact this.elim
end wl
def oZ(c:Cx)(S:ab→Prop)(w:World):Prop:=S w.heap∧bd c.W0 w
def QL(c:Cx)(ops:Array Oper)(l:List Oper)(env:Env)(S:ab→Prop)(K:Act→Prop):Prop:=∀a,Fr c env a→wpQuiet c.P ops (oZ c S) K l a
theorem WC.draw{id:Nat}{l:List Oper}(S:ab→Prop)(hS:S H)(hm:c.P.follows .mixedOrders=true)(hB:Region.lexB .any l.toArray=true)
  (h:QL c l.toArray l env S (fun a'=>∀w',oZ c S w'→Q .normal a' w')):WC c (.region id l.toArray true) env H Q:=by
 intro a w hf hw hA;refine wp_region_quiet (C:=oZ c S) hm hB ⟨by rw[←hw]at hS;exact hS,⟨hA.os,hA.tape,hA.output,Nat.le_succ_of_le hA.drawn⟩⟩ ?_;have:=h a hf;simpa using this
section ql
variable {ops:Array Oper} {o:Oper} {rest:List Oper} {d:Nat} {S:ab→Prop} {K:Act→Prop}
theorem QL.nil(h:∀H',S H'→NX c env H' (Q .normal)):QL c ops [] env S (fun a'=>∀w',oZ c S w'→Q .normal a' w'):=fun a hf=>wpQuiet_nil fun w' hC=>h _ hC.1 a w' hf rfl hC.2
theorem QL.dS{g:Bool}{v:Value}(hg:Gd c ops o env g)(hd:o.dst=some d)(hlt:Nat.blt d c.n=true)(h:g=true→aN c o env S v)(k:QL c ops rest ((d,g,v)::env) S K):QL c ops (o::rest) env S K:=by
 intro a hf;have hlt':d<c.n:=Nat.le_of_ble_eq_true hlt;have hp:=hf.put hlt' g v;refine wpQuiet_step fun K hK=>?_;rw[hg a hf];cases g with
 |true=>
  rw[if_pos rfl];refine⟨v,fun w hC=>?_,?_⟩
  ·have:=h rfl a w hf hC.1 hC.2;unfold Oper.quietAt;rw[this];exact⟨rfl,rfl⟩
  ·rw[hd];exact hK _ (k _ hp)
 |false=>
  rw[if_neg (by simp),hd];exact hK _ (k _ hp)
theorem QL.aa{v:Value}(hg:o.guard= .none)(hd:o.dst=some d)(hlt:Nat.blt d c.n=true)(h:aN c o env S v)(k:QL c ops rest ((d,true,v)::env) S K):QL c ops (o::rest) env S K:=
 QL.dS (Gd.none hg) hd hlt (fun _=>h) k
theorem QL.ex{Φ:Value→Prop}(hg:o.guard= .none)(hd:o.dst=some d)(hlt:Nat.blt d c.n=true)(h:∃v,aN c o env S v∧Φ v)(k:∀v,Φ v→QL c ops rest ((d,true,v)::env) S K):QL c ops (o::rest) env S K:=
 let ⟨v,h1,h2⟩:=h;QL.aa hg hd hlt h1 (k v h2)
theorem QL.pM{g:Bool}{f:FuncId}{as:List Operand}{tys:Array TypeId}{vs:List Value}{u:Value}(hg:Gd c ops o env g)(hd:o.dst=some d)(hlt:Nat.blt d c.n=true)
  (ho:o.op= .call {callee:= .value (.func f),args:=as.toArray,argTypes:=tys})(hvs:g=true→gk env as vs)(hc:g=true→∀H',S H'→bP c.P f vs.toArray H' fun v H''=>v=u∧S H'')
  (k:QL c ops rest ((d,g,u)::env) S K):QL c ops (o::rest) env S K:=by
 intro a hf;have hlt':d<c.n:=Nat.le_of_ble_eq_true hlt;have hp:=hf.put hlt' g u;refine wpQuiet_step fun K hK=>?_;rw[hg a hf];cases g with
 |false=>
  rw[if_neg (by simp),hd];exact hK _ (k _ hp)
 |true=>
  rw[if_pos rfl];refine⟨u,fun w hC=>?_,by rw[hd];exact hK _ (k _ hp)⟩;have he:=pE (first:=[]) (caps:=[]) ho (hf.eval ⟨_,rfl,rfl⟩) ((hvs rfl).eval hf);unfold Oper.quietAt;rw[he];have:=hc rfl _ hC.1 w rfl;simp only[List.nil_append,List.append_nil];unfold kY at this;split at this
  ·rename_i v w' hr;rw[hr];obtain⟨rfl,rfl,hR⟩:=this;exact⟨rfl,rfl⟩
  ·rename_i f' args' w' hr;rw[hr];obtain⟨rfl,hR⟩:=this;refine⟨rfl,hR.mono fun e w'' ⟨v,h1,h2,h3⟩=>?_⟩;subst h1;obtain⟨rfl,h4⟩:=h2;exact⟨rfl,h4,hC.2.trans h3⟩
  ·exact this.elim
theorem QL.call{f:FuncId}{as:List Operand}{tys:Array TypeId}{vs:List Value}{u:Value}(hg:o.guard= .none)(hd:o.dst=some d)(hlt:Nat.blt d c.n=true)
  (ho:o.op= .call {callee:= .value (.func f),args:=as.toArray,argTypes:=tys})(hvs:gk env as vs)(hc:∀H',S H'→bP c.P f vs.toArray H' fun v H''=>v=u∧S H'')
  (k:QL c ops rest ((d,true,u)::env) S K):QL c ops (o::rest) env S K:=
 QL.pM (Gd.none hg) hd hlt ho (fun _=>hvs) (fun _=>hc) k
end ql
def SL(c:Cx)(ops:Array Oper)(l:List Oper)(env:Env)(H:ab)(T:List Oper)(Q:Exit→Act→World→Prop):Prop:=
 ∀a w,Fr c env a→w.heap=H→bd c.W0 w→wpStill c.P ops w (fun a'=>wpList c.P ops Q T a' w) l a
theorem WC.tail{id:Nat}{l:List Oper}(n:Nat)(hm:c.P.follows .mixedOrders=true)(hB:Region.lexTailB .any l.toArray n=true)
  (h:SL c l.toArray (l.take n) env H (l.drop n) Q):WC c (.region id l.toArray true) env H Q:=fun a w hf hw hA=>
 wp_region_still_tail n hm hB (h a {w with drawn:=w.drawn+1} hf hw ⟨hA.os,hA.tape,hA.output,Nat.le_succ_of_le hA.drawn⟩)
section sl
variable {ops:Array Oper} {o:Oper} {rest T:List Oper} {d:Nat}
theorem SL.nil(h:WL c ops T env H Q):SL c ops [] env H T Q:=fun a w hf hw hA=>wpStill_nil (h a w hf hw hA)
theorem SL.dS{g:Bool}{v:Value}(hg:Gd c ops o env g)(hd:o.dst=some d)(hlt:Nat.blt d c.n=true)(h:g=true→aN c o env (Is H) v)(k:SL c ops rest ((d,g,v)::env) H T Q):SL c ops (o::rest) env H T Q:=by
 intro a w hf hw hA;have hlt':d<c.n:=Nat.le_of_ble_eq_true hlt;have hp:=hf.put hlt' g v;refine wpStill_step fun K hK=>?_;rw[hg a hf];cases g with
 |true=>
  rw[if_pos rfl];have:=h rfl a w hf hw hA;unfold Oper.still;rw[this];refine⟨rfl,?_⟩;rw[hd];exact hK _ (k _ w hp hw hA)
 |false=>
  rw[if_neg (by simp),hd];exact hK _ (k _ w hp hw hA)
theorem SL.aa{v:Value}(hg:o.guard= .none)(hd:o.dst=some d)(hlt:Nat.blt d c.n=true)(h:aN c o env (Is H) v)(k:SL c ops rest ((d,true,v)::env) H T Q):SL c ops (o::rest) env H T Q:=
 SL.dS (Gd.none hg) hd hlt (fun _=>h) k
theorem SL.ex{Φ:Value→Prop}(hg:o.guard= .none)(hd:o.dst=some d)(hlt:Nat.blt d c.n=true)(h:∃v,aN c o env (Is H) v∧Φ v)(k:∀v,Φ v→SL c ops rest ((d,true,v)::env) H T Q):SL c ops (o::rest) env H T Q:=
 let ⟨v,h1,h2⟩:=h;SL.aa hg hd hlt h1 (k v h2)
end sl
end
end Go.NB
end
section
namespace Go.NB
section
variable {c:Cx} {env:Env} {H:ab} {Q:Exit→Act→World→Prop} {ops:Array Oper} {o:Oper} {rest:List Oper} {d:Nat}
theorem WL.new{v:Value}{H':ab}(hg:o.guard= .none)(hd:o.dst=some d)(hlt:Nat.blt d c.n=true)
  (h:∀a w,Fr c env a→w.heap=H→∃w',(execOp a.eval o).run c.P w= .ok (.value v) w'∧w'.heap=H'∧bd w w')(k:WL c ops rest ((d,true,v)::env) H' Q):WL c ops (o::rest) env H Q:=by
 intro a w hf hw hA;have hlt':d<c.n:=Nat.le_of_ble_eq_true hlt;refine wpList_plain hg fun K hK=>?_;obtain⟨w',hr,hh,hA'⟩:=h a w hf hw;unfold Oper.wp;rw[hr];simp only[Oper.upon,hd];exact hK _ _ (k _ w' (hf.put hlt' true v) hh (hA.trans hA'))
theorem WL.og{Φ:Value→ab→Prop}(hg:o.guard= .none)(hd:o.dst=some d)(hlt:Nat.blt d c.n=true)
  (h:∀a w,Fr c env a→w.heap=H→∃v w',(execOp a.eval o).run c.P w= .ok (.value v) w'∧Φ v w'.heap∧bd w w')(k:∀v H',Φ v H'→WL c ops rest ((d,true,v)::env) H' Q):WL c ops (o::rest) env H Q:=by
 intro a w hf hw hA;have hlt':d<c.n:=Nat.le_of_ble_eq_true hlt;refine wpList_plain hg fun K hK=>?_;obtain⟨v,w',hr,hh,hA'⟩:=h a w hf hw;unfold Oper.wp;rw[hr];simp only[Oper.upon,hd];exact hK _ _ (k v _ hh _ w' (hf.put hlt' true v) rfl (hA.trans hA'))
theorem Bx.push(H:ab)(e:TypeId)(cs:List Value):Bx (H.push (.cells cs.toArray e (0,0))) H.size e cs:=by
 unfold Bx;simp
theorem WL.alloc{e:TypeId}{z:Value}{zs:List Value}(hg:o.guard= .none)(hd:o.dst=some d)(hlt:Nat.blt d c.n=true)(ho:o.op= .alloc e)
  (hz:∀w,(zeroValue e).run c.P w= .ok z w)(hzs:z.cells=zs.toArray)
  (k:∀g H',Bx H' g e zs→H.size≤g→ak [] H H'→WL c ops rest ((d,true,.pointer (some ⟨g,0,none⟩))::env) H' Q):WL c ops (o::rest) env H Q:=by
 refine WL.new (H':=H.push (.cells zs.toArray e (0,0))) (v:= .pointer (some ⟨H.size,0,none⟩)) hg hd hlt (fun a w hf hw=>?_) (k _ _ (Bx.push _ _ _) (Nat.le_refl _) (ak.push _ _ _));subst hw;unfold execOp;rw[ho];refine⟨{w with heap:=w.heap.push (.cells zs.toArray e (0,0))},?_,rfl,bd.of rfl rfl rfl⟩;simp[Instr.alloc,hz,newVar,newRow,hzs]
theorem WL.box{e:TypeId}{x:Operand}{v:Value}{cs:List Value}(hg:o.guard= .none)(hd:o.dst=some d)(hlt:Nat.blt d c.n=true)(ho:o.op= .box e x)(hx:Ev env x v)(hcs:v.cells=cs.toArray)
  (k:∀g H',Bx H' g e cs→H.size≤g→ak [] H H'→WL c ops rest ((d,true,.pointer (some ⟨g,0,none⟩))::env) H' Q):WL c ops (o::rest) env H Q:=by
 refine WL.new (H':=H.push (.cells cs.toArray e (0,0))) (v:= .pointer (some ⟨H.size,0,none⟩)) hg hd hlt (fun a w hf hw=>?_) (k _ _ (Bx.push _ _ _) (Nat.le_refl _) (ak.push _ _ _));subst hw;unfold execOp;rw[ho];refine⟨{w with heap:=w.heap.push (.cells cs.toArray e (0,0))},?_,rfl,bd.of rfl rfl rfl⟩;simp[Instr.box,hf.eval hx,newVar,newRow,hcs]
theorem Gn{w:World}{g:Nat}{e:TypeId}{old new:List Value}(h:Bx w.heap g e old):Bx (w.setRow g new.toArray).heap g e new:=setRow_heap w g _ _ _ _ h
theorem jZ(w:World)(g:Nat)(cs:Array Value):ak [g] w.heap (w.setRow g cs).heap:=
 ⟨by simp[World.setRow],fun k hk hm=>setRow_other w g k cs (by simpa using hm)⟩
theorem WL.store{t e:TypeId}{x y:Operand}{g off:Nat}{v:Value}{vs cs:List Value}(hg:o.guard= .none)(hd:o.dst= .none)(ho:o.op= .store t x y)
  (hx:Ev env x (.pointer (some ⟨g,off,none⟩)))(hy:Ev env y v)(hvs:v.cells=vs.toArray)(hz:∀w,(sizeOf t).run c.P w= .ok vs.length w)(hone:∀u∈vs,u.oneCell'=true)
  (hb:Bx H g e cs)(hfit:off+vs.length≤cs.length)
  (k:∀H',Bx H' g e (cs.take off++vs++cs.drop (off+vs.length))→ak [g] H H'→WL c ops rest env H' Q):WL c ops (o::rest) env H Q:=by
 intro a w hf hw hA;refine wpList_plain hg fun K hK=>?_;subst hw;have hs:=run_storeCells_at c.P g off e vs 0 cs.toArray w hb (by simpa using hfit) hone;simp only[Nat.add_zero]at hs
 have hr:(execOp a.eval o).run c.P w= .ok .skip (w.setRow g (cs.take off++vs++cs.drop (off+vs.length)).toArray):=by
  unfold execOp;rw[ho];simp[hf.eval hx,hf.eval hy,Instr.storeAt,Instr.sureAddr,storeVar,hvs,hz,hs]
 unfold Oper.wp;rw[hr];simp only[Oper.upon,hd];exact hK _ _ (k _ (Gn hb) (jZ _ _ _) _ _ hf rfl (hA.trans (bd.of rfl rfl rfl)))
theorem w8(l:List Value):∀(off i:Nat) (cur:Array Value),off+i+l.length≤cur.size→
  ((l.zipIdx i).foldl (fun cs (x:Value×Nat)=>cs.setIfInBounds (off+x.2) x.1) cur).toList=cur.toList.take (off+i)++l++cur.toList.drop (off+i+l.length):=by
 induction l with
 |nil=>intro off i cur h;simp
 |cons u l ih=>
  intro off i cur h;simp only[List.zipIdx_cons,List.foldl_cons];rw[ih off (i+1) _ (by simp at h⊢;omega)];simp only[Array.toList_setIfInBounds,List.length_cons];have hi:off+i<cur.toList.length:=by simp at h⊢;omega
  rw[show off+(i+1)=(off+i)+1 by omega,List.take_succ_eq_append_getElem (by simpa using hi),List.getElem_set_self,List.take_set_of_le (by omega),List.drop_set_of_lt (by omega)];simp only[List.append_assoc,List.singleton_append];rw[show off+i+1+l.length=off+i+(l.length+1)by omega]
theorem sD(size:Nat):∀(vs:List Value) (k:Nat) (cur:Array Value),(∀v∈vs,v.cells.size=size)→(k+vs.length)*size≤cur.size→
  Instr.fill (fun i=>some (i*size,size)) cur ((vs.zipIdx k).map fun x=>(x.2,x.1))=some (cur.toList.take (k*size)++(vs.map fun v=>v.cells.toList).flatten++cur.toList.drop ((k+vs.length)*size)).toArray
 |[],k,cur,_,_=>by simp[Instr.fill]
 |v::vs,k,cur,hv,hle=>by
  have h1:v.cells.size=size:=hv v (by simp)
  have hks:k*size+size≤cur.size:=by
   refine Nat.le_trans ?_ hle;rw[←Nat.succ_mul];exact Nat.mul_le_mul_right _ (by simp)
  simp only[List.zipIdx_cons,List.map_cons,Instr.fill];rw[if_neg (by simp[h1];omega)];have hfold:=w8 v.cells.toList (k*size) 0 cur (by simp[h1];omega)
  have hz:v.cells.zipIdx.foldl (fun cs (x:Value×Nat)=>cs.setIfInBounds (k*size+x.2) x.1) cur=((v.cells.toList.zipIdx 0).foldl (fun cs (x:Value×Nat)=>cs.setIfInBounds (k*size+x.2) x.1) cur):=by
   rw[←Array.foldl_toList];simp
  have hsz:(v.cells.zipIdx.foldl (fun cs (x:Value×Nat)=>cs.setIfInBounds (k*size+x.2) x.1) cur).size=cur.size:=by
   rw[hz];have:=congrArg List.length hfold;simp[h1]at this;omega
  rw[sD size vs (k+1) _ (fun u hu=>hv u (by simp[hu])) (by rw[hsz];refine Nat.le_trans (Nat.le_of_eq ?_) hle;simp;congr 1;omega)];rw[hz,hfold];simp only[Nat.add_zero,List.length_cons,List.flatten_cons,Array.length_toList,h1];have hl:(List.take (k*size) cur.toList).length=k*size:=by simp;omega
  have e1:(k+1)*size=(List.take (k*size) cur.toList++v.cells.toList).length:=by rw[List.length_append,hl];simp[h1,Nat.succ_mul]
  have e2:(k+1+vs.length)*size=(k+(vs.length+1))*size:=by congr 1;omega
  rw[e2,e1,List.take_left,List.drop_append];have e3:(List.take (k*size) cur.toList++v.cells.toList).length=k*size+size:=by rw[←e1,Nat.succ_mul]
  rw[e3]
  have e4:(k+(vs.length+1))*size=k*size+size+vs.length*size:=by
   rw[show k+(vs.length+1)=k+1+vs.length by omega,Nat.add_mul,Nat.succ_mul]
  rw[e4,List.drop_eq_nil_of_le (by rw[e3];omega),List.nil_append,List.drop_drop,show k*size+size+vs.length*size-(k*size+size)=vs.length*size by omega];simp[List.append_assoc]
theorem gk.length{xs:List Operand}{vs:List Value}(h:gk env xs vs):vs.length=xs.length:=by
 induction h with
 |nil=>rfl
 |cons _ _ ih=>simp[ih]
theorem WL.buildSlice{t e:TypeId}{n size:Nat}{xs:List Operand}{vs css:List Value}{z:Value}(hg:o.guard= .none)(hd:o.dst=some d)(hlt:Nat.blt d c.n=true)
  (ho:o.op= .buildSlice t n ((xs.zipIdx).map fun x=>(x.2,x.1)).toArray)(ht:c.P.underlying t=some (.slice e))(hz:∀w,(sizeOf e).run c.P w= .ok size w)(hzero:∀w,(zeroValue e).run c.P w= .ok z w)
  (hx:gk env xs vs)(hn:xs.length=n)(hsm:n*size≤16777216)(hv:∀v∈vs,v.cells.size=size)(hcs:(vs.map fun v=>v.cells.toList).flatten=css)
  (k:∀g H',Bx H' g e css→H.size≤g→ak [] H H'→WL c ops rest ((d,true,.slice (some ⟨g,0,none⟩) n n)::env) H' Q):WL c ops (o::rest) env H Q:=by
 have hl:vs.length=n:=by rw[←hn,hx.length]
 refine WL.new (H':=H.push (.cells css.toArray e (0,0))) (v:= .slice (some ⟨H.size,0,none⟩) n n) hg hd hlt (fun a w hf hw=>?_) (k _ _ (Bx.push _ _ _) (Nat.le_refl _) (ak.push _ _ _));subst hw;have hev:=hx.eval hf
 have hmap:(((xs.zipIdx).map fun x=>(x.2,x.1)).map fun x:Nat×Operand=>match x with|(i,x)=>(i,a.eval x))=(vs.zipIdx 0).map fun x=>(x.2,x.1):=by
  rw[←hev,List.zipIdx_map];simp only[List.map_map];rfl
 have hfill:=fun(cur:Array Value) (hc:cur.size=n*size)=>sD size vs 0 cur hv (by rw[hc];simp[hl]);refine⟨{w with heap:=w.heap.push (.cells css.toArray e (0,0))},?_,rfl,bd.of rfl rfl rfl⟩;have hbig:¬16777216<n*size:=by omega
 unfold execOp;rw[ho];simp only[List.map_toArray,hmap];by_cases h0:n*size=0
 ·have:=hfill (Array.map (fun _=>default) (Array.range 0)) (by simp[h0]);simp[Instr.buildSlice,run_underlying ht,hz,h0,newRow];rw[this];have e0:(Array.map (fun _=>(default:Value)) (Array.range 0)).toList=[]:=by rw[Array.range_zero'];simp
  simp only[e0,List.take_nil,List.drop_nil,List.nil_append,List.append_nil,hcs];rfl
 ·have:=hfill ((Array.range (n*size)).map (fun x=>z.cells[x%z.cells.size]!)) (by simp);simp[Instr.buildSlice,run_underlying ht,hz,hbig,h0,hzero,newRow];simp at this;rw[this];simp only[hl];rw[List.drop_eq_nil_of_le (by simp),List.append_nil,hcs];rfl
def Src(P:Program)(H:ab)(size:Nat)(x:Value)(m:Nat)(news:List Value):Prop:=
 ∀w:World,w.heap=H→(Builtin.lenOf x).run P w= .ok m w∧(Builtin.firstCells size m x).run P w= .ok news.toArray w
theorem Src.sl{α:Type}{T:Ty α}{P:Program}{M:List Nat}{x:Value}{xs:List α}(h:Sl T H M x xs):∃news,Src P H T.size x xs.length news∧dm T H M news xs:=by
 rcases h with⟨p,rfl,rfl⟩|⟨b,off,cap,rfl,hb,hm,h1,h2,h3,h4⟩
 ·refine⟨[],fun w _=>⟨by simp[Builtin.lenOf],?_⟩,.nil⟩;cases p with
  |none=>simp[Builtin.firstCells]
  |some a=>
   have:=run_loadCells_list (P:=P) (w:=w) a [] (by simp);simpa[Builtin.firstCells]using this
 ·obtain⟨css,he,hc⟩:=Sl.wZ xs off h4;refine⟨css,fun w hw=>⟨by simp[Builtin.lenOf],?_⟩,he⟩;exact run_firstCells_some w T.size xs.length ⟨b,off,none⟩ _ cap css he.length (fun j v hj=>by rw[Addr.add_lit,dg hw];exact hc j v hj)
theorem Src.bx{P:Program}{g m cp size:Nat}{e:TypeId}{cs:List Value}(h:Bx H g e cs)(hl:cs.length=m*size):Src P H size (.slice (some ⟨g,0,none⟩) m cp) m cs:=fun w hw=>by
 refine⟨by simp[Builtin.lenOf],?_⟩;exact run_firstCells_some w size m ⟨g,0,none⟩ _ cp cs hl (fun j v hj=>by rw[Addr.add_lit,dg hw,Nat.zero_add,h.cell];exact hj)
theorem Src.str{P:Program}(l:List UInt8):Src P H 1 (str l) l.length (l.map bv):=fun w _=>by
 refine⟨by simp[Builtin.lenOf,NB.str];rfl,?_⟩;simp only[Builtin.firstCells,NB.str]
 have e:(ByteArray.extract ⟨l.toArray⟩ 0 l.length).data=l.toArray:=by
  simp[ByteArray.data_extract]
 simp;intro b _;rfl
theorem Row.src{P:Program}{e:TypeId}{size:Nat}{v:Value}{n:Nat}{cs:List Value}(h:Row H e size v n cs):Src P H size v n cs:=fun w hw=>by
 rcases h.2 with⟨rfl,rfl⟩|⟨g,cap,cur,rfl,hg,h1,h2,h3,h4⟩
 ·have:cs=[]:=List.eq_nil_of_length_eq_zero (by simpa using h.1);subst this;exact⟨by simp[Builtin.lenOf],by simp[Builtin.firstCells]⟩
 ·refine⟨by simp[Builtin.lenOf],?_⟩;refine run_firstCells_some w size n ⟨g,0,none⟩ _ cap cs h.1 (fun j v hj=>?_);rw[Addr.add_lit,dg hw,Nat.zero_add];unfold NB.cell;rw[hg];rw[←h4,List.getElem?_take]at hj;split at hj
  ·simpa using hj
  ·cases hj
theorem WL.append{t t2 e:TypeId}{i:TypeInfo}{z v x:Value}{s y:Operand}{size n m:Nat}{cs news:List Value}{dx:TypeDesc}(hg:o.guard= .none)(hd:o.dst=some d)(hlt:Nat.blt d c.n=true)
  (ho:o.op= .call {callee:= .builtin .append,args:= #[s,y],argTypes:= #[t,t2]})(ht:c.P.underlying t=some (.slice e))(ht2:c.P.underlying t2=some dx)(hnx:∀k,dx≠.int k)
  (hi:∀w,(typeInfo e).run c.P w= .ok i w)(hsz:i.size=size)(hz:i.zero=some z)(hzs:z.cells.size=size)
  (hs:Ev env s v)(hy:Ev env y x)(hr:Row H e size v n cs)(hsrc:Src c.P H size x m news)(hone:∀u∈news,u.oneCell'=true)(hnl:news.length=m*size)(hfit:(n+m)*i.bytes≤140737488355328)(hml:n+m≤9223372036854775807)
  (k:∀v' H',Row H' e size v' (n+m) (cs++news)→ak (ob v) H H'→(∀b∈ob v',b∈ob v∨H.size≤b)→WL c ops rest ((d,true,v')::env) H' Q):WL c ops (o::rest) env H Q:=by
 refine WL.og (Φ:=fun v' H'=>Row H' e size v' (n+m) (cs++news)∧ak (ob v) H H'∧(∀b∈ob v',b∈ob v∨H.size≤b)) hg hd hlt (fun a w hf hw=>?_) (fun v' H' h=>k v' H' h.1 h.2.1 h.2.2);have hlen:(cs++news).length=(n+m)*size:=by rw[List.length_append,hr.1,hnl,Nat.add_mul]
 have hsizeOf:∀w,(sizeOf e).run c.P w= .ok size w:=fun w=>by simp[sizeOf,hi,hsz]
 have hzero:∀w,(zeroValue e).run c.P w= .ok z w:=fun w=>by simp[zeroValue,hi,hz]
 obtain⟨hs1,hs2⟩:=hsrc w hw;have hmx:n+m≤maxLen:=hml
 have grow:∀(p:Option Addr) (cp:Nat),v= .slice p n cp→cp<n+m→∃v' w',(execOp a.eval o).run c.P w= .ok (.value v') w'∧(Row w'.heap e size v' (n+m) (cs++news)∧ak (ob v) H w'.heap∧(∀b∈ob v',b∈ob v∨H.size≤b))∧bd w w':=by
  intro p cp hv hcp;have hge:=grownCap_ge w (n+m) cp e;have hcm:grownCap w (n+m) cp e≤maxLen:=grownCap_le_maxLen w (n+m) cp e hmx;have hfits:=growslice_fits hcp hfit;have hold:∀w':World,w'.heap=H→(Builtin.firstCells size n (.slice p n cp)).run c.P w'= .ok cs.toArray w':=fun w' hw'=>by rw[←hv];exact(Row.src (P:=c.P) hr w' hw').2
  refine⟨.slice (some ⟨w.heap.size,0,none⟩) (n+m) (grownCap w (n+m) cp e),w.drew.alloc (.cells (cs.toArray++news.toArray++Builtin.zeroCells z.cells (grownCap w (n+m) cp e-(n+m))) e),?_,⟨⟨hlen,.inr ⟨w.heap.size,_,_,rfl,heap_alloc_new w.drew _,hge,hcm,?_,?_⟩⟩,?_,?_⟩,bd.of rfl rfl rfl⟩
  ·have h1:=hold w.drew hw;have h2:=(hsrc w.drew hw).2;unfold execOp;rw[ho];have hnle:¬n+m≤cp:=by omega
   have hn63:¬((9223372036854775807:Int)<(n:Int)+(m:Int)):=by omega
   have hnf:¬281474976710656<Builtin.nextslicecap (n+m) cp*i.bytes:=by omega
   simp[resolve,invoke,builtin,hf.eval hs,hf.eval hy,hv,Builtin.append_,run_underlying ht,run_underlying ht2,hsizeOf,hs1,hnle,hi,hn63,hnf,hzero,newRow];have hch:Question.forced (.appendCap (n+m) cp e)=false:=rfl;simp[hch];rw[h1];simp[h2];refine⟨rfl,?_⟩;have e2:(cs++news).toArray=cs.toArray++news.toArray:=by simp
   rw[e2,Array.append_assoc];rfl
  ·simp only[Array.size_append,List.size_toArray,size_zeroCells,hzs,hr.1,hnl,←Nat.add_mul];congr 1
   omega
  ·simp only[Array.toList_append,List.append_assoc];rw[←List.append_assoc,←hlen];exact List.take_left
  ·rw[←hw];exact(ak.push [] w.heap _).nil
  ·intro b hb;simp[ob]at hb;subst hb;rw[hw];exact .inr (Nat.le_refl _)
 rcases hr.2 with⟨hv,hn⟩|⟨g,cap,cur,hv,hg',h1,h2,h3,h4⟩
 ·by_cases hm:m=0
  ·have hcs:cs=[]:=List.eq_nil_of_length_eq_zero (by rw[hr.1,hn];simp);have hnews:news=[]:=List.eq_nil_of_length_eq_zero (by rw[hnl,hm];simp);subst hn hm hcs hnews hv;refine⟨.slice none 0 0,w,?_,⟨by rw[hw];exact Row.nil _ _ _,by rw[hw];exact ak.refl _ _,fun b hb=>by simp[ob]at hb⟩,bd.refl _⟩;unfold execOp;rw[ho];simp[resolve,invoke,builtin,hf.eval hs,hf.eval hy,Builtin.append_,run_underlying ht,run_underlying ht2,hsizeOf,hs1,hs2]
  ·subst hn;exact grow none 0 hv (by omega)
 ·by_cases hroom:n+m≤cap
  ·have hst:=run_storeCells_at c.P g (n*size) e news 0 cur w (by rw[hw];exact hg') (by rw[h3,hnl,Nat.add_zero,←Nat.add_mul];exact Nat.mul_le_mul_right _ hroom) hone;simp only[Nat.add_zero]at hst;refine⟨.slice (some ⟨g,0,none⟩) (n+m) cap,w.setRow g (cur.toList.take (n*size)++news++cur.toList.drop (n*size+news.length)).toArray,?_,⟨⟨hlen,.inr ⟨g,cap,_,rfl,setRow_heap w g cur _ e _ (by rw[hw];exact hg'),hroom,h2,?_,?_⟩⟩,?_,?_⟩,bd.of rfl rfl rfl⟩
   ·unfold execOp;rw[ho];simp[resolve,invoke,builtin,hf.eval hs,hf.eval hy,hv,Builtin.append_,run_underlying ht,run_underlying ht2,hsizeOf,hs1,hs2,hroom,Addr.add_lit,hst]
   ·have:n*size+m*size≤cap*size:=by rw[←Nat.add_mul];exact Nat.mul_le_mul_right _ hroom
    simp only[List.size_toArray,List.length_append,List.length_take,List.length_drop,Array.length_toList];omega
   ·rw[h4,←hlen];exact List.take_left
   ·rw[←hw,hv];exact jZ w g _
   ·intro b hb;rw[hv];exact .inl hb
  ·exact grow _ cap hv (by omega)
theorem WL.make{t e:TypeId}{i:TypeInfo}{z:Value}{x y:Operand}{size n:Nat}{zs:List Value}{p q:Int}(hg:o.guard= .none)(hd:o.dst=some d)(hlt:Nat.blt d c.n=true)
  (ho:o.op= .makeSlice t x y)(ht:c.P.underlying t=some (.slice e))(hi:∀w,(typeInfo e).run c.P w= .ok i w)(hsz:i.size=size)(hz:i.zero=some z)(hzs:z.cells=zs.toArray)(hzl:zs.length=size)(hpos:0<size)
  (hx:Ev env x (iv p))(hy:Ev env y (iv q))(hp:p=(n:Int))(hq:q=(n:Int))(hfit:(n:Int)*i.bytes≤140737488355328)(hb:0<i.bytes)
  (k:∀v H',Row H' e size v n (List.replicate n zs).flatten→ak [] H H'→(∀b∈ob v,H.size≤b)→(∃g,v= .slice (some ⟨g,0,none⟩) n n)→WL c ops rest ((d,true,v)::env) H' Q):WL c ops (o::rest) env H Q:=by
 subst hp hq
 have hlarge:(n:Int)≤140737488355328:=by
  have:(n:Int)*1≤(n:Int)*i.bytes:=Int.mul_le_mul_of_nonneg_left (by omega) (by omega);omega
 have hflat:∀n:Nat,((Array.range (n*size)).map (fun j=>z.cells[j%z.cells.size]!)).toList=(List.replicate n zs).flatten:=by
  intro n;refine List.ext_getElem? fun j=>?_;by_cases hj:j<n*size
  ·have hm:j%size<zs.length:=by rw[hzl];exact Nat.mod_lt _ hpos
   have:((List.replicate n zs).flatten)[j]? =some (zs[j%size]):=by
    have key:∀(n j:Nat) (h:j<n*size),((List.replicate n zs).flatten)[j]? =zs[j%size]? :=by
     intro n;induction n with
     |zero=>intro j h;simp at h
     |succ n ih=>
      intro j h;rw[List.replicate_succ,List.flatten_cons];by_cases hjl:j<zs.length
      ·rw[List.getElem?_append_left hjl,Nat.mod_eq_of_lt (by omega)]
      ·rw[List.getElem?_append_right (by omega),hzl,ih _ (by rw[Nat.succ_mul]at h;omega)];congr 1
       rw[Nat.mod_eq_sub_mod (show j≥size by omega)]
    rw[key n j hj,List.getElem?_eq_getElem hm]
   rw[this];simp[hj,hzs,hzl];rw[List.getElem?_eq_getElem hm];rfl
  ·rw[List.getElem?_eq_none (by simp;omega),List.getElem?_eq_none (by simp[hzl];omega)]
 refine WL.new (H':=H.push (.cells (List.replicate n zs).flatten.toArray e (0,0))) (v:= .slice (some ⟨H.size,0,none⟩) n n) hg hd hlt (fun a w hf hw=>?_)
  (k _ _ ⟨by simp[hzl],.inr ⟨H.size,n,(List.replicate n zs).flatten.toArray,rfl,by simp,Nat.le_refl _,by unfold maxLen;omega,by simp[hzl],List.take_of_length_le (by simp[hzl])⟩⟩ (ak.push _ _ _) (fun b hb=>by simp[ob]at hb;omega) ⟨_,rfl⟩)
 subst hw;have hsizeOf:∀w,(sizeOf e).run c.P w= .ok size w:=fun w=>by simp[sizeOf,hi,hsz]
 have hzero:∀w,(zeroValue e).run c.P w= .ok z w:=fun w=>by simp[zeroValue,hi,hz]
 refine⟨{w with heap:=w.heap.push (.cells (List.replicate n zs).flatten.toArray e (0,0))},?_,rfl,bd.of rfl rfl rfl⟩;have hwrap:IntKind.i64.wrap (n:Int)=n:=IntWalk.i64_in _ (by omega);have h1:¬(n:Int)<0:=by omega
 have h2:¬(281474976710656:Int)<i.bytes*n:=by rw[Int.mul_comm];omega
 unfold execOp;rw[ho];by_cases h0:n*size=0
 ·have hn0:n=0:=by rcases Nat.mul_eq_zero.1 h0 with h|h<;>omega
  have h0':(0:Int)<9223372036854775808:=by omega
  have hw0:IntKind.i64.wrap 0=0:=IntWalk.i64_in _ (by omega);subst hn0;simp[iv,hf.eval hx,hf.eval hy,Instr.makeSlice,run_underlying ht,asInt,asIntOf,hi,hw0,hsizeOf,newRow];rw[Array.range_zero'];simp
 ·have:=hflat n;simp[iv,hf.eval hx,hf.eval hy,Instr.makeSlice,run_underlying ht,asInt,asIntOf,hi,hwrap,h1,h2,hsizeOf,h0,hzero,newRow];rw[←this,Array.toArray_toList]
end
end Go.NB
end
section
namespace Go.AM
open Go Go.NB
inductive C:Type 1 where
 |int (k:IntKind) (n:Int)
 |bool (b:Bool)
 |str (l:List UInt8)
 |raw (v:Value)
 |nil
 |ls (sz:Nat) (α:Type) (enc:α→List C) (l:List α)
 |bs (sz:Nat) (α:Type) (enc:α→List C) (l:List α)
 |rw(j:Nat)
 |sw (sz j lo n:Nat)
 |ptr (j o:Nat)
 |ep (sz j i o:Nat)
 |bp (cs:List C)
 |fn (f:Nat) (caps:List C)
 |iface (t:Nat) (agg:Bool) (cs:List C)
inductive A:Type 1 where
 |undef
 |off
 |c (x:C)
 |st (cs:List C)
 |tup (ts:List (Bool×List C))
inductive B:Type 1 where
 |box (cs:List C) (t:Option Nat:=none)
 |row (sz:Nat) (α:Type) (enc:α→List C) (l:List α)
 |fro (sz:Nat) (α:Type) (enc:α→List C) (l:List α)
 |buf (t sz:Nat) (α:Type) (enc:α→List C) (l:List α)
 |dead
structure St:Type 1 where
 env:List (Nat×A)
 ah:List B
def lk:List (Nat×A)→Nat→Option A
 |[],_=>none
 |(t,x)::r,s=>bif Nat.beq t s then some x else lk r s
def St.put(s:St)(d:Nat)(x:A):St:={s with env:=(d,x)::s.env}
structure Md where
 B:Nat→Prop
 γ:List Value
def m0:Md:=⟨fun _=>False,[]⟩
def fA(sz lo n:Nat):Value→Value
 | .slice p _ cap=>.slice (if cap=lo then p else p.map (·.add (lo*sz))) n (cap-lo)
 |v=>v
def gV(agg:Bool)(vs:List Value):Value:=bif agg then .agg vs.toArray else vs.headD undef
inductive RL(F:Nat→Prop)(H:ab):Md→List C→List Value→Prop
 |nl {m}:RL F H m [] []
 |int {m k n cs vs} (t:RL F H m cs vs):RL F H m (.int k n::cs) (.int k n::vs)
 |bool {m b cs vs} (t:RL F H m cs vs):RL F H m (.bool b::cs) (.bool b::vs)
 |str {m l cs vs} (hl:l.length≤9223372036854775807) (t:RL F H m cs vs):RL F H m (.str l::cs) (NB.str l::vs)
 |raw {m v cs vs} (h:v.oneCell'=true) (t:RL F H m cs vs):RL F H m (.raw v::cs) (v::vs)
 |nil {m cs vs} (t:RL F H m cs vs):RL F H m (.nil::cs) (.slice none 0 0::vs)
 |ls0 {m sz α enc p cs vs} (t:RL F H m cs vs):RL F H m (.ls sz α enc []::cs) (.slice p 0 0::vs)
 |ls {m sz α enc l b off cap css cs vs} (hb:F b) (h1:l.length≤cap) (h2:cap≤maxLen) (hr:RL F H m0 (l.flatMap enc) css) (hz:∀x∈l,(enc x).length=sz)
   (hc:∀j u,css[j]? =some u→cell H b (off+j)=some u) (t:RL F H m cs vs):RL F H m (.ls sz α enc l::cs) (.slice (some ⟨b,off,none⟩) l.length cap::vs)
 |bs0 {m sz α enc p cs vs} (t:RL F H m cs vs):RL F H m (.bs sz α enc []::cs) (.slice p 0 0::vs)
 |bs {m sz α enc l b off cap css cs vs} (hb:F b∨m.B b) (h1:l.length≤cap) (h2:cap≤maxLen) (hr:RL F H m0 (l.flatMap enc) css) (hz:∀x∈l,(enc x).length=sz)
   (hc:∀j u,css[j]? =some u→cell H b (off+j)=some u) (t:RL F H m cs vs):RL F H m (.bs sz α enc l::cs) (.slice (some ⟨b,off,none⟩) l.length cap::vs)
 |rw{m j p q n cap cs vs} (hg:m.γ[j]? =some (.slice p n cap)) (hq:cap≠0→q=p) (t:RL F H m cs vs):RL F H m (.rw j::cs) (.slice q n cap::vs)
 |sw {m sz j lo n p q n0 cap cs vs} (hg:m.γ[j]? =some (.slice p n0 cap)) (h:lo+n≤n0) (hq:cap≠lo→q=p.map (·.add (lo*sz))) (t:RL F H m cs vs):RL F H m (.sw sz j lo n::cs) (.slice q n (cap-lo)::vs)
 |ptr {m j o b cs vs} (hg:m.γ[j]? =some (.pointer (some ⟨b,0,none⟩))) (t:RL F H m cs vs):RL F H m (.ptr j o::cs) (.pointer (some ⟨b,o,none⟩)::vs)
 |ep {m sz j i o b off n cap cs vs} (hg:m.γ[j]? =some (.slice (some ⟨b,off,none⟩) n cap)) (t:RL F H m cs vs):RL F H m (.ep sz j i o::cs) (.pointer (some ⟨b,off+i*sz+o,none⟩)::vs)
 |bp {m cs' css b o cs vs} (hb:F b∨m.B b) (hr:RL F H ⟨m.B,[]⟩ cs' css) (hc:∀j u,css[j]? =some u→cell H b (o+j)=some u) (t:RL F H m cs vs):RL F H m (.bp cs'::cs) (.pointer (some ⟨b,o,none⟩)::vs)
 |fn {m f caps us cs vs} (hr:RL F H m caps us) (t:RL F H m cs vs):RL F H m (.fn f caps::cs) (.func (.func f) #[] us.toArray::vs)
 |iface {m ty agg cs' us cs vs} (hr:RL F H m cs' us) (t:RL F H m cs vs):RL F H m (.iface ty agg cs'::cs) (.iface ty (gV agg us)::vs)
section
variable {F:Nat→Prop} {H:ab} {m:Md}
theorem RL.length{cs:List C}{vs:List Value}(h:RL F H m cs vs):cs.length=vs.length:=by
 induction h<;>simp_all
theorem RL.one{cs:List C}{vs:List Value}(h:RL F H m cs vs):∀u∈vs,u.oneCell'=true:=by
 induction h with
 |nl=>intro u hu;cases hu
 |raw h _ ih=>intro u hu;rcases List.mem_cons.1 hu with rfl|hu;exact h;exact ih u hu
 |int _ ih|bool _ ih|str _ _ ih|nil _ ih|ls0 _ ih|rw _ _ _ ih|sw _ _ _ _ ih|ls _ _ _ _ _ _ _ _ ih|bs0 _ ih|bs _ _ _ _ _ _ _ _ ih|ptr _ _ ih|ep _ _ ih|bp _ _ _ _ _ ih|fn _ _ _ ih|iface _ _ _ ih=>
  intro u hu;rcases List.mem_cons.1 hu with rfl|hu
  ·rfl
  ·exact ih u hu
structure Ext(F:Nat→Prop)(H:ab)(m:Md)(F':Nat→Prop)(H':ab)(m':Md):Prop where
 f:∀k,F k→F' k
 h:∀(b o:Nat) (u:Value),F b∨m.B b→cell H b o=some u→cell H' b o=some u
 b:∀k,m.B k→m'.B k
 g:∀(j:Nat) (v:Value),m.γ[j]? =some v→m'.γ[j]? =some v
theorem Ext.m0{F F':Nat→Prop}{H H':ab}{m m':Md}(e:Ext F H m F' H' m'):Ext F H AM.m0 F' H' AM.m0:=
 ⟨e.f,fun b o u hb=>e.h b o u (hb.elim .inl False.elim),fun _ h=>h,fun _ _ h=>h⟩
theorem Ext.tN{F F':Nat→Prop}{H H':ab}{m m':Md}(e:Ext F H m F' H' m'):Ext F H ⟨m.B,[]⟩ F' H' ⟨m'.B,[]⟩:=
 ⟨e.f,e.h,e.b,fun _ _ h=>h⟩
theorem Ext.hb{F F':Nat→Prop}{H H':ab}{m m':Md}(e:Ext F H m F' H' m'){b:Nat}(h:F b∨m.B b):F' b∨m'.B b:=h.imp (e.f b) (e.b b)
theorem RL.ext{F F':Nat→Prop}{H H':ab}{m:Md}{cs:List C}{vs:List Value}(h:RL F H m cs vs):∀{m':Md},Ext F H m F' H' m'→RL F' H' m' cs vs:=by
 induction h with
 |nl=>intro m' e;exact .nl
 |int _ ih=>intro m' e;exact .int (ih e)
 |bool _ ih=>intro m' e;exact .bool (ih e)
 |str h _ ih=>intro m' e;exact .str h (ih e)
 |raw h _ ih=>intro m' e;exact .raw h (ih e)
 |nil _ ih=>intro m' e;exact .nil (ih e)
 |ls0 _ ih=>intro m' e;exact .ls0 (ih e)
 |ls hb h1 h2 hr hz hc _ ihr ih=>intro m' e;exact .ls (e.f _ hb) h1 h2 (ihr e.m0) hz (fun j u hj=>e.h _ _ _ (.inl hb) (hc j u hj)) (ih e)
 |bs0 _ ih=>intro m' e;exact .bs0 (ih e)
 |bs hb h1 h2 hr hz hc _ ihr ih=>intro m' e;exact .bs (e.hb hb) h1 h2 (ihr e.m0) hz (fun j u hj=>e.h _ _ _ hb (hc j u hj)) (ih e)
 |rw hg hq _ ih=>intro m' e;exact .rw (e.g _ _ hg) hq (ih e)
 |sw hg h hq _ ih=>intro m' e;exact .sw (e.g _ _ hg) h hq (ih e)
 |ptr hg _ ih=>intro m' e;exact .ptr (e.g _ _ hg) (ih e)
 |ep hg _ ih=>intro m' e;exact .ep (e.g _ _ hg) (ih e)
 |bp hb hr hc _ ihr ih=>intro m' e;exact .bp (e.hb hb) (ihr e.tN) (fun j u hj=>e.h _ _ _ hb (hc j u hj)) (ih e)
 |fn hr _ ihr ih=>intro m' e;exact .fn (ihr e) (ih e)
 |iface hr _ ihr ih=>intro m' e;exact .iface (ihr e) (ih e)
theorem RL.append{cs ds:List C}{vs us:List Value}(h:RL F H m cs vs)(k:RL F H m ds us):RL F H m (cs++ds) (vs++us):=by
 induction h with
 |nl=>exact k
 |int _ ih=>exact .int (ih k)
 |bool _ ih=>exact .bool (ih k)
 |str h _ ih=>exact .str h (ih k)
 |raw h _ ih=>exact .raw h (ih k)
 |nil _ ih=>exact .nil (ih k)
 |ls0 _ ih=>exact .ls0 (ih k)
 |ls hb h1 h2 hr hz hc _ _ ih=>exact .ls hb h1 h2 hr hz hc (ih k)
 |bs0 _ ih=>exact .bs0 (ih k)
 |bs hb h1 h2 hr hz hc _ _ ih=>exact .bs hb h1 h2 hr hz hc (ih k)
 |rw hg hq _ ih=>exact .rw hg hq (ih k)
 |sw hg h hq _ ih=>exact .sw hg h hq (ih k)
 |ptr hg _ ih=>exact .ptr hg (ih k)
 |ep hg _ ih=>exact .ep hg (ih k)
 |bp hb hr hc _ _ ih=>exact .bp hb hr hc (ih k)
 |fn hr _ _ ih=>exact .fn hr (ih k)
 |iface hr _ _ ih=>exact .iface hr (ih k)
theorem RL.ic{c:C}{cs:List C}{vs:List Value}(h:RL F H m (c::cs) vs):∃v us,vs=v::us∧RL F H m [c] [v]∧RL F H m cs us:=by
 cases h with
 |int t=>exact⟨_,_,rfl,.int .nl,t⟩
 |bool t=>exact⟨_,_,rfl,.bool .nl,t⟩
 |str h t=>exact⟨_,_,rfl,.str h .nl,t⟩
 |raw h t=>exact⟨_,_,rfl,.raw h .nl,t⟩
 |nil t=>exact⟨_,_,rfl,.nil .nl,t⟩
 |ls0 t=>exact⟨_,_,rfl,.ls0 .nl,t⟩
 |ls hb h1 h2 hr hz hc t=>exact⟨_,_,rfl,.ls hb h1 h2 hr hz hc .nl,t⟩
 |bs0 t=>exact⟨_,_,rfl,.bs0 .nl,t⟩
 |bs hb h1 h2 hr hz hc t=>exact⟨_,_,rfl,.bs hb h1 h2 hr hz hc .nl,t⟩
 |rw hg hq t=>exact⟨_,_,rfl,.rw hg hq .nl,t⟩
 |sw hg h hq t=>exact⟨_,_,rfl,.sw hg h hq .nl,t⟩
 |ptr hg t=>exact⟨_,_,rfl,.ptr hg .nl,t⟩
 |ep hg t=>exact⟨_,_,rfl,.ep hg .nl,t⟩
 |bp hb hr hc t=>exact⟨_,_,rfl,.bp hb hr hc .nl,t⟩
 |fn hr t=>exact⟨_,_,rfl,.fn hr .nl,t⟩
 |iface hr t=>exact⟨_,_,rfl,.iface hr .nl,t⟩
theorem RL.cons{c:C}{v:Value}{cs:List C}{vs:List Value}(h:RL F H m [c] [v])(t:RL F H m cs vs):RL F H m (c::cs) (v::vs):=h.append t
theorem RL.split:∀{cs ds:List C} {vs:List Value},RL F H m (cs++ds) vs→∃us ws,vs=us++ws∧RL F H m cs us∧RL F H m ds ws
 |[],ds,vs,h=>⟨[],vs,rfl,.nl,h⟩
 |c::cs,ds,vs,h=>by
  obtain⟨v,us,rfl,h1,h2⟩:=RL.ic h;obtain⟨us1,us2,rfl,h3,h4⟩:=RL.split h2;exact⟨v::us1,us2,rfl,h1.cons h3,h4⟩
theorem RL.take{cs:List C}{vs:List Value}(h:RL F H m cs vs)(n:Nat):RL F H m (cs.take n) (vs.take n):=by
 have h':=h;rw[←List.take_append_drop n cs]at h';obtain⟨us,ws,rfl,h1,h2⟩:=h'.split;have e:=h1.length
 have:(us++ws).take n=us:=by
  by_cases hn:n≤cs.length
  ·rw[List.length_take,Nat.min_eq_left hn]at e;rw[e,List.take_left]
  ·rw[List.take_of_length_le (l:=cs) (by omega)]at e;have e2:=h2.length;rw[List.drop_of_length_le (by omega)]at e2;have:ws=[]:=List.eq_nil_of_length_eq_zero e2.symm;subst this;rw[List.append_nil,List.take_of_length_le (by omega)]
 rw[this];exact h1
theorem RL.drop{cs:List C}{vs:List Value}(h:RL F H m cs vs)(n:Nat):RL F H m (cs.drop n) (vs.drop n):=by
 have h':=h;rw[←List.take_append_drop n cs]at h';obtain⟨us,ws,rfl,h1,h2⟩:=h'.split;have e:=h1.length
 have:(us++ws).drop n=ws:=by
  by_cases hn:n≤cs.length
  ·rw[List.length_take,Nat.min_eq_left hn]at e;rw[e,List.drop_left]
  ·have e2:=h2.length;rw[List.drop_of_length_le (by omega)]at e2;have:ws=[]:=List.eq_nil_of_length_eq_zero e2.symm;subst this;rw[List.append_nil,List.drop_of_length_le (by rw[←e,List.length_take];omega)]
 rw[this];exact h2
theorem RL.get{cs:List C}{vs:List Value}(h:RL F H m cs vs){i:Nat}{c:C}(hi:cs[i]? =some c):∃v,vs[i]? =some v∧RL F H m [c] [v]:=by
 obtain⟨hlt,e⟩:=List.getElem?_eq_some_iff.1 hi;have h1:=h.drop i;rw[List.drop_eq_getElem_cons hlt,e]at h1;obtain⟨v,us,e2,h3,_⟩:=h1.ic;refine⟨v,?_,h3⟩;have:=congrArg List.head? e2;simpa using this
theorem RL.single{c:C}{vs:List Value}(h:RL F H m [c] vs):∃v,vs=[v]∧RL F H m [c] [v]:=by
 obtain⟨v,us,rfl,h1,h2⟩:=h.ic;cases h2;exact⟨v,rfl,h1⟩
end
def RT(F:Nat→Prop)(H:ab)(m:Md):List (Bool×List C)→List Value→Prop
 |[],[]=>True
 |(g,cs)::ts,v::vs=>(∃us,RL F H m cs us∧v=gV g us∧(g=false→cs.length=1))∧RT F H m ts vs
 |_,_=>False
def RA(F:Nat→Prop)(H:ab)(m:Md):A→Value→Prop
 | .undef,_=>True
 | .off,v=>v=undef
 | .c x,v=>RL F H m [x] [v]
 | .st cs,v=>∃vs,v= .agg vs.toArray∧RL F H m cs vs
 | .tup ts,v=>∃vs,v= .tuple vs.toArray∧RT F H m ts vs
theorem RT.ext{F F':Nat→Prop}{H H':ab}{m m':Md}(e:Ext F H m F' H' m'):∀{ts:List (Bool×List C)} {vs:List Value},RT F H m ts vs→RT F' H' m' ts vs
 |[],[],_=>trivial
 |(_,_)::_,_::_,⟨⟨us,h1,h2,h3⟩,h⟩=>⟨⟨us,h1.ext e,h2,h3⟩,RT.ext e h⟩
theorem RA.ext{F F':Nat→Prop}{H H':ab}{m m':Md}(e:Ext F H m F' H' m'){a:A}{v:Value}(h:RA F H m a v):RA F' H' m' a v:=by
 cases a with
 |undef=>trivial
 |off=>exact h
 |c x=>exact RL.ext h e
 |st cs=>obtain⟨vs,rfl,h⟩:=h;exact⟨vs,rfl,h.ext e⟩
 |tup ts=>obtain⟨vs,rfl,h⟩:=h;exact⟨vs,rfl,RT.ext e h⟩
structure LS:Type 1 where
 sz:Nat
 α:Type
 enc:α→List C
 l:List α
def LS.part(L:LS)(lo n:Nat):LS:=⟨L.sz,L.α,L.enc,(L.l.drop lo).take n⟩
def rowOf:B→Option LS
 | .row sz α enc l| .fro sz α enc l=>some ⟨sz,α,enc,l⟩
 |_=>none
def jw(ah:List B):C→Option LS
 | .ls sz α enc l| .bs sz α enc l=>some ⟨sz,α,enc,l⟩
 | .rw j=>(ah[j]?).bind rowOf
 | .sw sz j lo n=>match(ah[j]?).bind rowOf with
  |some L=>bif Nat.beq sz L.sz then some (L.part lo n)else none
  |none=>none
 |_=>none
def ax:B→Value→List Nat
 | .box _ _,.pointer (some a)=>[a.block]
 | .row ..,.slice (some a) _ (_+1)=>[a.block]
 | .buf ..,.slice (some a) _ (_+1)=>[a.block]
 |_,_=>[]
def BR(F:Nat→Prop)(H:ab)(m:Md):B→Value→Prop
 | .box cs t,g=>∃k e vs,g= .pointer (some ⟨k,0,none⟩)∧H[k]? =some (.cells (List.toArray vs) (t.getD e) (0,0))∧RL F H m cs vs
 | .row sz _ enc l,g=>(∃p,g= .slice p 0 0∧l=[])∨∃k off cap cur e css,g= .slice (some ⟨k,off,none⟩) l.length (cap+1)∧H[k]? =some (.cells cur e (0,0))∧l.length≤cap+1∧cap+1≤maxLen∧
   off+(cap+1)*sz≤cur.size∧RL F H m0 (l.flatMap enc) css∧(∀x∈l,(enc x).length=sz)∧(cur.toList.drop off).take css.length=css
 | .fro sz _ enc l,g=>RL F H m0 [.ls sz _ enc l] [g]
 | .buf t sz _ enc l,g=>(∃p,g= .slice p 0 0∧l=[])∨∃k cap cur css,g= .slice (some ⟨k,0,none⟩) l.length (cap+1)∧H[k]? =some (.cells cur t (0,0))∧l.length≤cap+1∧cap+1≤maxLen∧
   (cap+1)*sz≤cur.size∧RL F H m0 (l.flatMap enc) css∧(∀x∈l,(enc x).length=sz)∧cur.toList.take css.length=css
 | .dead,_=>True
theorem BR.ext{F F':Nat→Prop}{H H':ab}{m m':Md}(e:Ext F H m F' H' m'){b:B}{g:Value}(hk:∀k∈ax b g,H'[k]? =H[k]?)(h:BR F H m b g):BR F' H' m' b g:=by
 cases b with
 |box cs ty=>
  obtain⟨k,t,vs,rfl,h1,h2⟩:=h;exact⟨k,t,vs,rfl,by rw[hk k (by simp[ax])];exact h1,h2.ext e⟩
 |row sz α enc l=>
  rcases h with h|⟨k,off,cap,cur,t,css,rfl,h1,h2,h3,h4,h5,h6,h7⟩
  ·exact .inl h
  ·exact .inr ⟨k,off,cap,cur,t,css,rfl,by rw[hk k (by simp[ax])];exact h1,h2,h3,h4,h5.ext e.m0,h6,h7⟩
 |fro sz α enc l=>exact RL.ext h e.m0
 |buf t sz α enc l=>
  rcases h with h|⟨k,cap,cur,css,rfl,h1,h2,h3,h4,h5,h6,h7⟩
  ·exact .inl h
  ·exact .inr ⟨k,cap,cur,css,rfl,by rw[hk k (by simp[ax])];exact h1,h2,h3,h4,h5.ext e.m0,h6,h7⟩
 |dead=>trivial
structure En where
 F0:Nat→Prop
 B:Nat→Prop
 own:Nat→Prop
 H0:ab
 γ0:List Value
structure WR(E:En)(F:Nat→Prop)(γ:List Value)(ah:List B)(H:ab):Prop where
 len:γ.length=ah.length
 br:∀(j:Nat) (b:B) (g:Value),ah[j]? =some b→γ[j]? =some g→BR F H ⟨E.B,γ⟩ b g
 cK:∀(i j:Nat) (b b':B) (g g':Value),i≠j→ah[i]? =some b→γ[i]? =some g→ah[j]? =some b'→γ[j]? =some g'→∀k,k∈ax b g→k∉ax b' g'
 nf:∀(j:Nat) (b:B) (g:Value) (k:Nat),ah[j]? =some b→γ[j]? =some g→k∈ax b g→¬F k∧¬E.B k
 fb:∀k,F k→k<H.size
 bb:∀k,E.B k→k<E.H0.size∧¬E.own k
 size:E.H0.size≤H.size
 bQ:∀k,k<E.H0.size→¬E.own k→H[k]? =E.H0[k]?
 fmono:∀k,E.F0 k→F k
 fnew:∀k,F k→E.F0 k∨E.own k∨E.H0.size≤k
 onew:∀(j:Nat) (b:B) (g:Value) (k:Nat),ah[j]? =some b→γ[j]? =some g→k∈ax b g→E.own k∨E.H0.size≤k
 pre:∀(j:Nat) (v:Value),E.γ0[j]? =some v→γ[j]? =some v
theorem rV{H H':ab}{b o:Nat}{u:Value}(e:H'[b]? =H[b]?)(h:cell H b o=some u):cell H' b o=some u:=by
 unfold cell at*;rw[e];exact h
theorem eM{F:Nat→Prop}{H:ab}{m:Md}{b:B}{g:Value}(h:BR F H m b g):∀k∈ax b g,k<H.size:=by
 intro k hk;cases b with
 |box cs ty=>
  obtain⟨k',t,vs,rfl,h1,h2⟩:=h;simp[ax]at hk;subst hk;exact(Array.getElem?_eq_some_iff.1 h1).1
 |row sz α enc l=>
  rcases h with⟨p,rfl,_⟩|⟨k',off,cap,cur,t,css,rfl,h1,_⟩
  ·cases p<;>simp[ax]at hk
  ·simp[ax]at hk;subst hk;exact(Array.getElem?_eq_some_iff.1 h1).1
 |fro sz α enc l=>simp[ax]at hk
 |buf t sz α enc l=>
  rcases h with⟨p,rfl,_⟩|⟨k',cap,cur,css,rfl,h1,_⟩
  ·cases p<;>simp[ax]at hk
  ·simp[ax]at hk;subst hk;exact(Array.getElem?_eq_some_iff.1 h1).1
 |dead=>simp[ax]at hk
section
variable {E:En} {F:Nat→Prop} {γ:List Value} {ah:List B} {H H':ab}
theorem WR.ext(h:WR E F γ ah H){W:List Nat}(hW:∀k∈W,¬F k∧¬E.B k)(hK:ak W H H')(γ':List Value):Ext F H ⟨E.B,γ⟩ F H' ⟨E.B,γ++γ'⟩:=
 ⟨fun _ h=>h,fun b o u hb hc=>fj hc hK (fun hm=>hb.elim (hW b hm).1 (hW b hm).2),fun _ h=>h,fun j v hj=>by
  have:=(List.getElem?_eq_some_iff.1 hj).1;rw[List.getElem?_append_left this];exact hj⟩
theorem WR.pQ(h:WR E F γ ah H){W:List Nat}(hO:∀k∈W,E.own k∨E.H0.size≤k)(hK:ak W H H'):E.H0.size≤H'.size∧∀k,k<E.H0.size→¬E.own k→H'[k]? =E.H0[k]? :=by
 refine⟨Nat.le_trans h.size hK.1,fun k hk ho=>?_⟩;rw[hK.2 k (Nat.lt_of_lt_of_le hk h.size) (fun hm=>(hO k hm).elim ho (fun h'=>by omega))];exact h.bQ k hk ho
theorem get_append{α:Type _}{l:List α}{x y:α}{j:Nat}(h:(l++[x])[j]? =some y):(j<l.length∧l[j]? =some y)∨(j=l.length∧y=x):=by
 by_cases hj:j<l.length
 ·rw[List.getElem?_append_left hj]at h;exact .inl ⟨hj,h⟩
 ·obtain⟨hlt,e⟩:=List.getElem?_eq_some_iff.1 h;have:j=l.length:=by simp at hlt;omega
  subst this;simp at e;exact .inr ⟨rfl,e.symm⟩
theorem nR{α:Type _}{l:List α}{x y:α}{i j:Nat}(h:(l.set i x)[j]? =some y):(j≠i∧l[j]? =some y)∨(j=i∧j<l.length∧y=x):=by
 rw[List.getElem?_set]at h;by_cases e:i=j
 ·subst e;rw[if_pos rfl]at h;split at h
  ·exact .inr ⟨rfl,by assumption,by simpa using h.symm⟩
  ·cases h
 ·rw[if_neg e]at h;exact .inl ⟨fun e'=>e e'.symm,h⟩
theorem WR.aq(h:WR E F γ ah H){j:Nat}{b b1:B}{g:Value}(hj:ah[j]? =some b)(hg:γ[j]? =some g)(hK:ak (ax b g) H H')(ho:∀k∈ax b1 g,k∈ax b g)
  (hb1:BR F H' ⟨E.B,γ⟩ b1 g):WR E F γ (ah.set j b1) H':=by
 have hW:=fun k hk=>h.nf j b g k hj hg hk;have e:=h.ext (γ':=[]) hW hK;rw[List.append_nil]at e;obtain⟨h1,h2⟩:=h.pQ (fun k hk=>h.onew j b g k hj hg hk) hK
 have other:∀{i b' g'},i≠j→ah[i]? =some b'→γ[i]? =some g'→∀k∈ax b' g',H'[k]? =H[k]? :=fun hi hb' hg' k hk=>
  hK.2 k (eM (h.br _ _ _ hb' hg') k hk) (fun hm=>h.cK _ _ _ _ _ _ hi hb' hg' hj hg k hk hm)
 have get:∀{i b' g'},(ah.set j b1)[i]? =some b'→γ[i]? =some g'→(i≠j∧ah[i]? =some b')∨(i=j∧b'=b1∧g'=g):=fun hi hg'=>by
  rcases nR hi with h3|⟨rfl,_,rfl⟩
  ·exact .inl h3
  ·rw[hg]at hg';exact .inr ⟨rfl,rfl,by simpa using hg'.symm⟩
 refine⟨by simp[h.len],fun i b' g' hi hg'=>?_,fun i i' b' b'' g' g'' hne hi hg' hi' hg'' k hk hk'=>?_,fun i b' g' k hi hg' hk=>?_,fun k hk=>Nat.lt_of_lt_of_le (h.fb k hk) hK.1,h.bb,h1,h2,h.fmono,h.fnew,fun i b' g' k hi hg' hk=>?_,h.pre⟩
 ·rcases get hi hg' with⟨h3,h4⟩|⟨rfl,rfl,rfl⟩
  ·exact BR.ext e (other h3 h4 hg') (h.br _ _ _ h4 hg')
  ·exact hb1
 ·rcases get hi hg' with⟨h3,h4⟩|⟨rfl,rfl,rfl⟩
  ·rcases get hi' hg'' with⟨h5,h6⟩|⟨rfl,rfl,rfl⟩
   ·exact h.cK _ _ _ _ _ _ hne h4 hg' h6 hg'' k hk hk'
   ·exact h.cK _ _ _ _ _ _ hne h4 hg' hj hg k hk (ho k hk')
  ·rcases get hi' hg'' with⟨h5,h6⟩|⟨rfl,rfl,rfl⟩
   ·exact h.cK _ _ _ _ _ _ hne hj hg h6 hg'' k (ho k hk) hk'
   ·exact hne rfl
 ·rcases get hi hg' with⟨h3,h4⟩|⟨rfl,rfl,rfl⟩
  ·exact h.nf _ _ _ k h4 hg' hk
  ·exact h.nf _ _ _ k hj hg (ho k hk)
 ·rcases get hi hg' with⟨h3,h4⟩|⟨rfl,rfl,rfl⟩
  ·exact h.onew _ _ _ k h4 hg' hk
  ·exact h.onew _ _ _ k hj hg (ho k hk)
theorem WR.same(h:WR E F γ ah H)(hK:ak [] H H'):WR E F γ ah H':=by
 have e:=h.ext (γ':=[]) (W:=[]) (fun k hk=>by cases hk) hK;rw[List.append_nil]at e;obtain⟨h1,h2⟩:=h.pQ (W:=[]) (fun k hk=>by cases hk) hK;exact⟨h.len,fun i b' g' hi hg'=>BR.ext e (fun k hk=>hK.2 k (eM (h.br _ _ _ hi hg') k hk) (by simp)) (h.br _ _ _ hi hg'),h.cK,h.nf,fun k hk=>Nat.lt_of_lt_of_le (h.fb k hk) hK.1,h.bb,h1,h2,h.fmono,h.fnew,h.onew,h.pre⟩
theorem WR.push(h:WR E F γ ah H)(hK:ak [] H H'){b:B}{g:Value}(ho:∀k∈ax b g,H.size≤k)(hb:BR F H' ⟨E.B,γ++[g]⟩ b g):WR E F (γ++[g]) (ah++[b]) H':=by
 have e:=h.ext (γ':=[g]) (W:=[]) (fun k hk=>by cases hk) hK;obtain⟨h1,h2⟩:=h.pQ (W:=[]) (fun k hk=>by cases hk) hK
 have get:∀{i b' g'},(ah++[b])[i]? =some b'→(γ++[g])[i]? =some g'→(i<ah.length∧ah[i]? =some b'∧γ[i]? =some g')∨(i=ah.length∧b'=b∧g'=g):=fun hi hg'=>by
  rcases get_append hi with⟨h3,h4⟩|⟨h3,h4⟩
  ·rw[List.getElem?_append_left (by rw[h.len];exact h3)]at hg';exact .inl ⟨h3,h4,hg'⟩
  ·rcases get_append hg' with⟨h5,h6⟩|⟨h5,h6⟩
   ·rw[h.len]at h5;omega
   ·exact .inr ⟨h3,h4,h6⟩
 refine⟨by simp[h.len],fun i b' g' hi hg'=>?_,fun i i' b' b'' g' g'' hne hi hg' hi' hg'' k hk hk'=>?_,fun i b' g' k hi hg' hk=>?_,fun k hk=>Nat.lt_of_lt_of_le (h.fb k hk) hK.1,h.bb,h1,h2,h.fmono,h.fnew,fun i b' g' k hi hg' hk=>?_,fun j v hj=>?_⟩
 ·rcases get hi hg' with⟨_,h4,h5⟩|⟨rfl,rfl,rfl⟩
  ·exact BR.ext e (fun k hk=>hK.2 k (eM (h.br _ _ _ h4 h5) k hk) (by simp)) (h.br _ _ _ h4 h5)
  ·exact hb
 ·rcases get hi hg' with⟨_,h4,h5⟩|⟨rfl,rfl,rfl⟩
  ·rcases get hi' hg'' with⟨_,h6,h7⟩|⟨rfl,rfl,rfl⟩
   ·exact h.cK _ _ _ _ _ _ hne h4 h5 h6 h7 k hk hk'
   ·have:=eM (h.br _ _ _ h4 h5) k hk;have:=ho k hk';omega
  ·rcases get hi' hg'' with⟨_,h6,h7⟩|⟨rfl,rfl,rfl⟩
   ·have:=eM (h.br _ _ _ h6 h7) k hk';have:=ho k hk;omega
   ·exact hne rfl
 ·rcases get hi hg' with⟨_,h4,h5⟩|⟨rfl,rfl,rfl⟩
  ·exact h.nf _ _ _ k h4 h5 hk
  ·have:=ho k hk;exact⟨fun hf=>by have:=h.fb k hf;omega,fun hB=>by have:=(h.bb k hB).1;have:=h.size;omega⟩
 ·rcases get hi hg' with⟨_,h4,h5⟩|⟨rfl,rfl,rfl⟩
  ·exact h.onew _ _ _ k h4 h5 hk
  ·have:=ho k hk;have:=h.size;exact .inr (by omega)
 ·have h3:=h.pre j v hj;have:=(List.getElem?_eq_some_iff.1 h3).1;rw[List.getElem?_append_left this];exact h3
theorem WR.move(h:WR E F γ ah H){j:Nat}{b b2:B}{g g2:Value}(hj:ah[j]? =some b)(hg:γ[j]? =some g)(hK:ak (ax b g) H H')(ho:∀k∈ax b2 g2,k∈ax b g∨H.size≤k)
  (hb:BR F H' ⟨E.B,γ++[g2]⟩ b2 g2):WR E F (γ++[g2]) (ah.set j .dead++[b2]) H':=by
 have hlt:=(List.getElem?_eq_some_iff.1 hj).1;have hW:=fun k hk=>h.nf j b g k hj hg hk;have e:=h.ext (γ':=[g2]) hW hK;obtain⟨h1,h2⟩:=h.pQ (fun k hk=>h.onew j b g k hj hg hk) hK
 have other:∀{i b' g'},i≠j→ah[i]? =some b'→γ[i]? =some g'→∀k∈ax b' g',H'[k]? =H[k]? :=fun hi hb' hg' k hk=>
  hK.2 k (eM (h.br _ _ _ hb' hg') k hk) (fun hm=>h.cK _ _ _ _ _ _ hi hb' hg' hj hg k hk hm)
 have get:∀{i b' g'},(ah.set j .dead++[b2])[i]? =some b'→(γ++[g2])[i]? =some g'→(i≠j∧ah[i]? =some b'∧γ[i]? =some g')∨(b'= .dead)∨(i=ah.length∧b'=b2∧g'=g2):=fun hi hg'=>by
  rcases get_append hi with⟨h3,h4⟩|⟨h3,h4⟩
  ·rw[List.length_set]at h3;rw[List.getElem?_append_left (by rw[h.len];exact h3)]at hg';rcases nR h4 with⟨h5,h6⟩|⟨_,_,h6⟩
   ·exact .inl ⟨h5,h6,hg'⟩
   ·exact .inr (.inl h6)
  ·rw[List.length_set]at h3;rcases get_append hg' with⟨h5,h6⟩|⟨h5,h6⟩
   ·rw[h.len]at h5;omega
   ·exact .inr (.inr ⟨h3,h4,h6⟩)
 refine⟨by simp[h.len],fun i b' g' hi hg'=>?_,fun i i' b' b'' g' g'' hne hi hg' hi' hg'' k hk hk'=>?_,fun i b' g' k hi hg' hk=>?_,fun k hk=>Nat.lt_of_lt_of_le (h.fb k hk) hK.1,h.bb,h1,h2,h.fmono,h.fnew,fun i b' g' k hi hg' hk=>?_,fun j v hj=>?_⟩
 ·rcases get hi hg' with⟨h3,h4,h5⟩|rfl|⟨rfl,rfl,rfl⟩
  ·exact BR.ext e (other h3 h4 h5) (h.br _ _ _ h4 h5)
  ·trivial
  ·exact hb
 ·rcases get hi hg' with⟨h3,h4,h5⟩|rfl|⟨rfl,rfl,rfl⟩
  ·rcases get hi' hg'' with⟨_,h6,h7⟩|rfl|⟨rfl,rfl,rfl⟩
   ·exact h.cK _ _ _ _ _ _ hne h4 h5 h6 h7 k hk hk'
   ·simp[ax]at hk'
   ·rcases ho k hk' with h8|h8
    ·exact h.cK _ _ _ _ _ _ h3 h4 h5 hj hg k hk h8
    ·have:=eM (h.br _ _ _ h4 h5) k hk;omega
  ·simp[ax]at hk
  ·rcases get hi' hg'' with⟨h3,h6,h7⟩|rfl|⟨rfl,rfl,rfl⟩
   ·rcases ho k hk with h8|h8
    ·exact h.cK _ _ _ _ _ _ h3 h6 h7 hj hg k hk' h8
    ·have:=eM (h.br _ _ _ h6 h7) k hk';omega
   ·simp[ax]at hk'
   ·exact hne rfl
 ·rcases get hi hg' with⟨_,h4,h5⟩|rfl|⟨rfl,rfl,rfl⟩
  ·exact h.nf _ _ _ k h4 h5 hk
  ·simp[ax]at hk
  ·rcases ho k hk with h8|h8
   ·exact h.nf _ _ _ k hj hg h8
   ·exact⟨fun hf=>by have:=h.fb k hf;omega,fun hB=>by have:=(h.bb k hB).1;have:=h.size;omega⟩
 ·rcases get hi hg' with⟨_,h4,h5⟩|rfl|⟨rfl,rfl,rfl⟩
  ·exact h.onew _ _ _ k h4 h5 hk
  ·simp[ax]at hk
  ·rcases ho k hk with h8|h8
   ·exact h.onew _ _ _ k hj hg h8
   ·have:=h.size;exact .inr (by omega)
 ·have h3:=h.pre j v hj;have:=(List.getElem?_eq_some_iff.1 h3).1;rw[List.getElem?_append_left this];exact h3
theorem WR.freeze(h:WR E F γ ah H){j sz:Nat}{α:Type}{enc:α→List C}{l:List α}(hj:ah[j]? =some (.row sz α enc l)):
  ∃F',(∀k,F k→F' k)∧WR E F' γ (ah.set j (.fro sz α enc l)) H∧∀g,γ[j]? =some g→RL F' H m0 [.ls sz α enc l] [g]:=by
 have hlt:=(List.getElem?_eq_some_iff.1 hj).1;obtain⟨g,hg⟩:∃g,γ[j]? =some g:=⟨γ[j]'(by rw[h.len];exact hlt),List.getElem?_eq_getElem _⟩;let F':=fun k=>F k∨k∈ax (.row sz α enc l) g
 have e:Ext F H ⟨E.B,γ⟩ F' H ⟨E.B,γ⟩:=⟨fun _ h=>.inl h,fun _ _ _ _ h=>h,fun _ h=>h,fun _ _ h=>h⟩
 have hfro:RL F' H m0 [.ls sz α enc l] [g]:=by
  rcases h.br _ _ _ hj hg with⟨p,rfl,rfl⟩|⟨k,off,cap,cur,t,css,rfl,h1,h2,h3,h4,h5,h6,h7⟩
  ·exact .ls0 .nl
  ·refine .ls (b:=k) (.inr (by simp[ax])) h2 h3 (h5.ext e.m0) h6 (fun i u hi=>?_) .nl;unfold cell;rw[h1];rw[←h7,List.getElem?_take]at hi;split at hi
   ·rw[List.getElem?_drop]at hi;simpa using hi
   ·cases hi
 refine⟨F',fun _ h=>.inl h,?_,fun g' hg'=>by rw[hg]at hg';cases hg';exact hfro⟩
 have get:∀{i b' g'},(ah.set j (.fro sz α enc l))[i]? =some b'→γ[i]? =some g'→(i≠j∧ah[i]? =some b')∨(i=j∧b'= .fro sz α enc l∧g'=g):=fun hi hg'=>by
  rcases nR hi with h3|⟨rfl,_,rfl⟩
  ·exact .inl h3
  ·rw[hg]at hg';exact .inr ⟨rfl,rfl,by simpa using hg'.symm⟩
 refine⟨by simp[h.len],fun i b' g' hi hg'=>?_,fun i i' b' b'' g' g'' hne hi hg' hi' hg'' k hk hk'=>?_,fun i b' g' k hi hg' hk=>?_,fun k hk=>?_,h.bb,h.size,h.bQ,fun k hk=>.inl (h.fmono k hk),fun k hk=>?_,fun i b' g' k hi hg' hk=>?_,h.pre⟩
 ·rcases get hi hg' with⟨h3,h4⟩|⟨rfl,rfl,rfl⟩
  ·exact BR.ext e (fun _ _=>rfl) (h.br _ _ _ h4 hg')
  ·exact hfro
 ·rcases get hi hg' with⟨h3,h4⟩|⟨rfl,rfl,rfl⟩
  ·rcases get hi' hg'' with⟨h5,h6⟩|⟨rfl,rfl,rfl⟩
   ·exact h.cK _ _ _ _ _ _ hne h4 hg' h6 hg'' k hk hk'
   ·simp[ax]at hk'
  ·simp[ax]at hk
 ·rcases get hi hg' with⟨h3,h4⟩|⟨rfl,rfl,rfl⟩
  ·exact⟨fun hf=>hf.elim (h.nf _ _ _ k h4 hg' hk).1 (fun hm=>h.cK _ _ _ _ _ _ h3 h4 hg' hj hg k hk hm),(h.nf _ _ _ k h4 hg' hk).2⟩
  ·simp[ax]at hk
 ·rcases hk with hk|hk
  ·exact h.fb k hk
  ·exact eM (h.br _ _ _ hj hg) k hk
 ·rcases hk with hk|hk
  ·exact h.fnew k hk
  ·exact .inr (h.onew _ _ _ k hj hg hk)
 ·rcases get hi hg' with⟨h3,h4⟩|⟨rfl,rfl,rfl⟩
  ·exact h.onew _ _ _ k h4 hg' hk
  ·simp[ax]at hk
end
def SV(F:Nat→Prop)(H:ab)(L:LS)(v:Value):Prop:=
 (∃p,v= .slice p 0 0∧L.l=[])∨∃b off cap css,v= .slice (some ⟨b,off,none⟩) L.l.length cap∧L.l.length≤cap∧cap≤maxLen∧RL F H m0 (L.l.flatMap L.enc) css∧
  (∀x∈L.l,(L.enc x).length=L.sz)∧∀j u,css[j]? =some u→cell H b (off+j)=some u
theorem gT{α:Type}{enc:α→List C}{sz:Nat}:∀{l:List α},(∀x∈l,(enc x).length=sz)→(l.flatMap enc).length=l.length*sz
 |[],_=>by simp
 |x::l,h=>by
  rw[List.flatMap_cons,List.length_append,h x (by simp),gT (fun y hy=>h y (by simp[hy])),List.length_cons,Nat.succ_mul,Nat.add_comm]
theorem ln{α:Type}{enc:α→List C}{sz:Nat}:∀{l:List α} (i:Nat),(∀x∈l,(enc x).length=sz)→(l.flatMap enc).drop (i*sz)=(l.drop i).flatMap enc
 |[],i,_=>by simp
 |x::l,0,_=>by simp
 |x::l,i+1,h=>by
  rw[List.flatMap_cons,List.drop_succ_cons,Nat.succ_mul,Nat.add_comm,←List.drop_drop,←h x (by simp),List.drop_left,h x (by simp)];exact ln i (fun y hy=>h y (by simp[hy]))
theorem mc{α:Type}{enc:α→List C}{sz:Nat}:∀{l:List α} (i:Nat),(∀x∈l,(enc x).length=sz)→(l.flatMap enc).take (i*sz)=(l.take i).flatMap enc
 |[],i,_=>by simp
 |x::l,0,_=>by simp
 |x::l,i+1,h=>by
  have hx:=h x (by simp);rw[List.flatMap_cons,List.take_succ_cons,List.flatMap_cons,Nat.succ_mul,Nat.add_comm,←hx,List.take_length_add_append,hx,mc i (fun y hy=>h y (by simp[hy]))]
section
variable {E:En} {F:Nat→Prop} {γ:List Value} {ah:List B} {H H':ab} {m:Md}
theorem RL.sv{sz:Nat}{α:Type}{enc:α→List C}{l:List α}{v:Value}(h:RL F H m [.ls sz α enc l] [v]):SV F H ⟨sz,α,enc,l⟩ v:=by
 cases h with
 |ls0 _=>exact .inl ⟨_,rfl,rfl⟩
 |ls hb h1 h2 hr hz hc _=>exact .inr ⟨_,_,_,_,rfl,h1,h2,hr,hz,hc⟩
theorem jY{b:B}{g:Value}{L:LS}(h:BR F H m b g)(hL:rowOf b=some L):SV F H L g:=by
 cases b with
 |box cs ty=>cases hL
 |dead=>cases hL
 |buf=>cases hL
 |row sz α enc l=>
  cases hL;rcases h with⟨p,rfl,rfl⟩|⟨k,off,cap,cur,t,css,rfl,h1,h2,h3,h4,h5,h6,h7⟩
  ·exact .inl ⟨_,rfl,rfl⟩
  ·refine .inr ⟨_,_,_,_,rfl,h2,h3,h5,h6,fun j u hj=>?_⟩;unfold cell;rw[h1];rw[←h7,List.getElem?_take]at hj;split at hj
   ·rw[List.getElem?_drop]at hj;simpa using hj
   ·cases hj
 |fro sz α enc l=>cases hL;exact RL.sv h
theorem SV.slice{L:LS}{v:Value}(h:SV F H L v):∃p cap,v= .slice p L.l.length cap∧L.l.length≤cap∧cap≤maxLen:=by
 rcases h with⟨p,rfl,e⟩|⟨b,off,cap,css,rfl,h1,h2,_⟩
 ·exact⟨p,0,by rw[e];rfl,by rw[e];exact Nat.le_refl _,Nat.zero_le _⟩
 ·exact⟨_,_,rfl,h1,h2⟩
theorem SV.part{L:LS}{p:Option Addr}{n0 cap lo n:Nat}(h:SV F H L (.slice p n0 cap))(hle:lo+n≤n0):SV F H (L.part lo n) (fA L.sz lo n (.slice p n0 cap)):=by
 have hl:L.l.length=n0:=by
  obtain⟨p',cap',e,_⟩:=h.slice;cases e;rfl
 rcases h with⟨p',e,e2⟩|⟨b,off,cap',css,e,h1,h2,hr,hz,hc⟩
 ·cases e;obtain rfl:lo=0:=by omega
  obtain rfl:n=0:=by omega
  exact .inl ⟨p,by simp[fA],by simp[LS.part]⟩
 ·cases e;have hlen:(L.part lo n).l.length=n:=by simp[LS.part];omega
  by_cases hcl:cap=lo
  ·subst hcl;obtain rfl:n=0:=by omega
   refine .inl ⟨some ⟨b,off,none⟩,by simp[fA],List.eq_nil_of_length_eq_zero hlen⟩
  ·have hz':∀x∈(L.part lo n).l,(L.enc x).length=L.sz:=fun x hx=>hz x (List.mem_of_mem_drop (List.mem_of_mem_take hx))
   have e1:(L.part lo n).l.flatMap L.enc=((L.l.flatMap L.enc).drop (lo*L.sz)).take (n*L.sz):=by
    have h3:∀x∈L.l.drop lo,(L.enc x).length=L.sz:=fun x hx=>hz x (List.mem_of_mem_drop hx);rw[ln lo hz,mc n h3];rfl
   refine .inr ⟨b,off+lo*L.sz,cap-lo,(css.drop (lo*L.sz)).take (n*L.sz),by simp[fA,hcl,Addr.add_lit,hlen],by rw[hlen];omega,by omega,?_,hz',fun j u hj=>?_⟩
   ·show RL F H m0 ((L.part lo n).l.flatMap L.enc) _;rw[e1];exact(hr.drop _).take _
   ·rw[List.getElem?_take]at hj;split at hj
    ·rw[List.getElem?_drop]at hj;rw[Nat.add_assoc];exact hc _ _ hj
    ·cases hj
theorem SV.Fj{L:LS}{p q:Option Addr}{n0 cap lo n:Nat}(h:SV F H L (.slice p n0 cap))(hle:lo+n≤n0)(hq:cap≠lo→q=p.map (·.add (lo*L.sz))):SV F H (L.part lo n) (.slice q n (cap-lo)):=by
 by_cases e:cap=lo
 ·have hl:L.l.length=n0:=by
   obtain⟨p',cap',e,_⟩:=h.slice;cases e;rfl
  obtain⟨p',cap',e',h1,_⟩:=h.slice;cases e';obtain rfl:n=0:=by omega
  exact .inl ⟨q,by rw[e,Nat.sub_self],by simp[LS.part]⟩
 ·have:=h.part hle;simp only[fA,if_neg e]at this;rw[hq e];exact this
theorem SV.elem{L:LS}{b off n cap:Nat}(h:SV F H L (.slice (some ⟨b,off,none⟩) n cap)){i:Nat}{x:L.α}(hi:L.l[i]? =some x):
  ∃us,RL F H m0 (L.enc x) us∧∀j u,us[j]? =some u→cell H b (off+i*L.sz+j)=some u:=by
 obtain⟨hlt,e0⟩:=List.getElem?_eq_some_iff.1 hi;rcases h with⟨p,e,e2⟩|⟨b,off,cap',css,e,h1,h2,hr,hz,hc⟩
 ·rw[e2]at hlt;cases hlt
 ·cases e
  have e1:L.enc x=((L.l.flatMap L.enc).drop (i*L.sz)).take L.sz:=by
   rw[ln i hz,List.drop_eq_getElem_cons hlt,e0,List.flatMap_cons,←hz x (List.mem_of_getElem? hi),List.take_left]
  refine⟨(css.drop (i*L.sz)).take L.sz,by rw[e1];exact(hr.drop _).take _,fun j u hj=>?_⟩;rw[List.getElem?_take]at hj;split at hj
  ·rw[List.getElem?_drop]at hj;rw[Nat.add_assoc];exact hc _ _ hj
  ·cases hj
theorem SV.some{L:LS}{v:Value}(h:SV F H L v)(hl:0<L.l.length):∃b off cap,v= .slice (some ⟨b,off,none⟩) L.l.length cap:=by
 rcases h with⟨p,e,e2⟩|⟨b,off,cap',css,e,_⟩
 ·rw[e2]at hl;cases hl
 ·exact⟨_,_,_,e⟩
theorem SV.ptr{L:LS}{p q:Option Addr}{n cap:Nat}(h:SV F H L (.slice p n cap))(hq:cap≠0→q=p):SV F H L (.slice q n cap):=by
 by_cases e:cap=0
 ·obtain⟨p',cap',e',h1,_⟩:=h.slice;cases e';have:L.l=[]:=List.eq_nil_of_length_eq_zero (by omega);exact .inl ⟨q,by rw[this,e];rfl,this⟩
 ·rw[hq e];exact h
theorem WR.sl(h:WR E F γ ah H){c:C}{v:Value}{L:LS}(hc:RL F H ⟨E.B,γ⟩ [c] [v])(hL:jw ah c=some L):SV F H L v:=by
 cases c with
 |ls sz α enc l=>cases hL;exact hc.sv
 |bs sz α enc l=>
  cases hL;cases hc with
  |bs0 _=>exact .inl ⟨_,rfl,rfl⟩
  |bs hb h1 h2 hr hz hc _=>exact .inr ⟨_,_,_,_,rfl,h1,h2,hr,hz,hc⟩
 |rw j=>
  cases hc with
  |rw hg hq _=>
   simp only[jw]at hL;cases hb:ah[j]? with
   |none=>rw[hb]at hL;cases hL
   |some b=>rw[hb]at hL;exact(jY (h.br j b _ hb hg) hL).ptr hq
 |sw sz j lo n=>
  cases hc with
  |sw hg hle hq _=>
   simp only[jw]at hL;cases hb:ah[j]? with
   |none=>rw[hb]at hL;cases hL
   |some b=>
    rw[hb]at hL;cases hr:rowOf b with
    |none=>rw[show Option.bind (Option.some b) rowOf=none from hr]at hL;cases hL
    |some L0=>
     rw[show Option.bind (Option.some b) rowOf=some L0 from hr]at hL;simp only[]at hL;by_cases hz:Nat.beq sz L0.sz=true
     ·rw[hz]at hL;cases hL;obtain rfl:=Nat.eq_of_beq_eq_true hz;exact(jY (h.br j b _ hb hg) hr).Fj hle hq
     ·rw[Bool.not_eq_true]at hz;rw[hz]at hL;cases hL
 |_=>cases hL
end
end Go.AM
end
