import Derived.Test.YtpechfcbnoggfaaGreatDoorOps
import Derived.KernelRfl
set_option linter.unusedVariables false
set_option linter.unusedSimpArgs false
open Array renaming getElem?_eq_some_iff->bn,getD_eq_getD_getElem?->ce,getElem?_eq_getElem->cV,range->c5,length_toList->de,map->d9
open Bool renaming not_eq_true->dq
open ByteArray renaming data_extract->d8
open List renaming eq_nil_of_length_eq_zero->a9,getElem?_eq_some_iff->be,getElem?_append_left->bi,append_nil->bl,replicate->b0,getElem?_take->b4,flatMap_cons->cd,length_append->cf,getElem?_eq_getElem->ch,getElem?_drop->ci,take_left->co,append_assoc->cp,take_of_length_le->cq,drop_of_length_le->cr,length_take->cv,length_cons->c1,nil_append->c2,drop_eq_nil_of_le->c3,getElem?_eq_none->c7,take_append_drop->c9,mem_of_mem_drop->dc,flatten_cons->dl,size_toArray->dp,map_toArray->dr,length_set->d1,drop_drop->d3,take->d4,mem_cons->d5
open Nat renaming le_of_ble_eq_true->bj,blt->bk,succ_mul->b3,lt_of_lt_of_le->cb,mul_le_mul_right->cx,add_mul->cy,add_zero->c0,le_refl->c4,eq_of_beq_eq_true->c6,le_trans->dg,add_comm->dj,le_succ_of_le->dk,min_eq_left->d0,beq->d2,add_assoc->d6,zero_add->d7
section
namespace Go.NB
def oW(P:Program)(w:World)(R:Value->ae->Prop):Result Next->Prop
 | .ok (.value v) a=>a=w/\R v w.heap
 | .ok (.enter f b) a=>a=w/\Calls P f b w λe a=>∃v,e= .returned v/\R v a.heap/\bA w a
 |_=>False
def cg(P:Program)(f:FuncId)(args:Array Value)(H:ae)(R:Value->ae->Prop):Prop:=
 ∀w:World,w.heap=H->oW P w R ((callFunc f args).run P w)
theorem cg.mono{P:Program}{f:FuncId}{args:Array Value}{H:ae}{R a:Value->ae->Prop}(h:cg P f args H R)(hr:∀v H',R v H'->a v H'):cg P f args H a:=by
 intro w g;have:=h w g;unfold oW at*;split at this
 ·exact⟨this.1,hr _ _ this.2⟩
 ·exact⟨this.1,this.2.mono λe i ⟨v,b,c,d⟩=>⟨v,b,hr _ _ c,d⟩⟩
 ·exact this.elim
def sj:Nat->List Value->Env
 |_,[]=>[]
 |i,v::r=>(i,true,v)::sj (i+1) r
theorem CU:∀(l:List Value) (i t:Nat) (g:Bool) (v:Value),look (sj i l) t=some (g,v)->g=true/\i<=t/\l[t-i]? =some v
 |[],_,_,_,_,h=>by cases h
 |u::r,i,t,g,v,h=>by
  unfold sj look at h;by_cases hb:d2 i t=true
  ·rw[hb]at h;simp at h;obtain⟨rfl,rfl⟩:=h;have:=c6 hb;subst this;simp
  ·rw[dq]at hb;rw[hb]at h;have c:i≠t:=λe=>by subst e;simp at hb
   obtain⟨a,d,b⟩:=CU r (i+1) t g v h;refine⟨a,by omega,?_⟩;rw[show t-i=(t-(i+1))+1 by omega];simpa using b
def uV(c:Cx)(fn:Func)(R:Value->ae->Prop)(Q:Exit->Act->World->Prop):Prop:=
 ∀e a w v,(e= .ret\/e= .normal)->a.defers=[]->(results fn a.tmps).run c.P w= .ok v w->R v w.heap->bA c.W0 w->Q e a w
theorem enter{P:Program}{f:FuncId}{fn:Func}{code:Code}{args:List Value}{H:ae}{R:Value->ae->Prop}{n:Nat}
  (hc:∀args w,(callFunc f args).run P w= .ok (.enter f args) w)(l:P.funcs[f]? =some fn)(hb:fn.body=some code)(hn:fn.ntmps=n)(hl:args.length<=n)
  (h:∀W0 Q,uV ⟨P,n,[],W0⟩ fn R Q->WC ⟨P,n,[],W0⟩ code (sj 0 args) H Q):cg P f args.toArray H R:=by
 intro w o;rw[hc];refine⟨rfl,calls_of_wp l hb ?_⟩;refine h w _ (λe a p v k j m i d=>?_) _ w ⟨?_,rfl,λt g v hl=>?_⟩ o (bA.refl _)
 ·rcases k with rfl|rfl<;>exact⟨j,v,m,v,rfl,i,d⟩
 ·simp[hn];omega
 ·obtain⟨rfl,_,c⟩:=CU _ _ _ _ _ hl;rw[Nat.sub_zero]at c;obtain⟨b,e⟩:=be.1 c;simp[ce,Array.getElem?_append,b,e]
section
variable {c:Cx} {env:Env} {H:ae} {Q:Exit->Act->World->Prop} {fn:Func} {R:Value->ae->Prop}
theorem Ba(d:uV c fn R Q)(hr:fn.results= #[])(hd:c.ds=[])(e:R (.tuple #[]) H):NX c env H (Q .normal):=λa w f g b=>
 d _ _ _ (.tuple #[]) (.inr rfl) (f.defers.trans hd) (by simp[results,hr]) (by rw[g];exact e) b
theorem gW{t:Nat}{v:Value}(e:uV c fn R Q)(hr:fn.results= #[.tmp t])(hd:c.ds=[])(h:Ev env (.tmp t) v)(f:R v H):NX c env H (Q .ret):=λa w b g d=>by
 have:=b.eval h;simp only[Act.eval,ce]at this;exact e _ _ _ v (.inl rfl) (b.defers.trans hd) (by simp[results,hr,this]) (by rw[g];exact f) d
def Gd(c:Cx)(ops:Array Oper)(o:Oper)(env:Env)(g:Bool):Prop:=∀a,Fr c env a->Region.wanted o (yielded ops a.tmps)=g
theorem Gd.none{ops:Array Oper}{o:Oper}(h:o.guard= .none):Gd c ops o env true:=λa _=>by simp[Region.wanted,h]
theorem Qb{ops:Array Oper}{j t:Nat}{g b:Bool}{a:Act}(f:Fr c env a)(hj:(ops[j]?).bind (·.dst)=some t)(i:bk t c.n=true)(hl:look env t=some (g,.bool b)):
  yielded ops a.tmps j=bif g then some b else .none:=by
 have h:=f.slot t g _ hl;have d:t<a.tmps.size:=by rw[f.size];exact bj i
 have e:a.tmps[t]? =some (bif g then .bool b else undef):=by
  rw[cV d];rw[ce,cV d]at h;simpa using h
 unfold yielded;rw[hj];show(match a.tmps[t]? with|some (.bool b)=>some b|_=>.none)=_;rw[e];cases g<;>rfl
theorem Gd.yes{ops:Array Oper}{o:Oper}{j t:Nat}{g b:Bool}(h:o.guard=some (j,true))(hj:(ops[j]?).bind (·.dst)=some t)(e:bk t c.n=true)(hl:look env t=some (g,.bool b)):Gd c ops o env (g&&b):=λa d=>by
 simp only[Region.wanted,h,Qb d hj e hl];cases g<;>cases b<;>rfl
theorem Gd.uL{ops:Array Oper}{o:Oper}{j t:Nat}{b:Bool}(h:o.guard=some (j,true))(hj:(ops[j]?).bind (·.dst)=some t)(a:bk t c.n=true)(hl:look env t=some (true,.bool b)):Gd c ops o env b:=Gd.yes h hj a hl
section wl
variable {ops:Array Oper} {o:Oper} {rest:List Oper} {d:Nat}
theorem WL.lY{g:Bool}{v:Value}(hg:Gd c ops o env g)(hd:o.dst=some d)(i:bk d c.n=true)(h:g=true->bo c o env (Is H) v)(k:WL c ops rest ((d,g,v)::env) H Q):WL c ops (o::rest) env H Q:=by
 intro a w f j e;have b:d<c.n:=bj i;have m:=f.put b g v;refine wpList_step λK l=>?_;rw[hg a f];cases g with
 |true=>
  rw[if_pos rfl];have:=h rfl a w f j e;unfold Oper.wp;rw[this];simp only[Oper.upon,hd];exact l _ _ (k _ w m j e)
 |false=>
  rw[if_neg (by simp),hd];exact l _ _ (k _ w m j e)
theorem WL.ab{v:Value}(hg:o.guard= .none)(hd:o.dst=some d)(a:bk d c.n=true)(h:bo c o env (Is H) v)(k:WL c ops rest ((d,true,v)::env) H Q):WL c ops (o::rest) env H Q:=
 WL.lY (Gd.none hg) hd a (λ_=>h) k
theorem WL.ex{Φ:Value->Prop}(hg:o.guard= .none)(hd:o.dst=some d)(a:bk d c.n=true)(h:∃v,bo c o env (Is H) v/\Φ v)(k:∀v,Φ v->WL c ops rest ((d,true,v)::env) H Q):WL c ops (o::rest) env H Q:=
 let ⟨v,b,e⟩:=h;WL.ab hg hd a b (k v e)
inductive jq(env:Env):List Operand->List Value->Prop
 |nil:jq env [] []
 |cons {x v xs vs}:Ev env x v->jq env xs vs->jq env (x::xs) (v::vs)
theorem jq.eval{xs:List Operand}{vs:List Value}(h:jq env xs vs){a:Act}(d:Fr c env a):xs.map a.eval=vs:=by
 induction h with
 |nil=>rfl
 |cons b _ ih=>simp[d.eval b,ih]
theorem wj{o:Oper}{a:Act}{f:FuncId}{e:Operand}{first caps:List Value}{as:List Operand}{d:Array TypeId}{vs:List Value}(ho:o.op= .call {callee:= .value e,args:=as.toArray,argTypes:=d})
  (b:a.eval e= .func (.func f) first.toArray caps.toArray)(c:as.map a.eval=vs):execOp a.eval o=callFunc f ((first++vs)++caps).toArray:=by
 unfold execOp;rw[ho];simp only[resolve,dr,c,b,Deferred.ofValue];show callFunc f ((first.toArray++vs.toArray)++caps.toArray)=_;simp
theorem WL.Hr{f:FuncId}{q:Operand}{first caps:List Value}{as:List Operand}{p:Array TypeId}{vs:List Value}{R:Value->ae->Prop}(hg:o.guard= .none)(hd:o.dst=some d)(l:bk d c.n=true)
  (ho:o.op= .call {callee:= .value q,args:=as.toArray,argTypes:=p})(j:Ev env q (.func (.func f) first.toArray caps.toArray))(n:jq env as vs)(hc:cg c.P f ((first++vs)++caps).toArray H R)
  (k:∀v H',R v H'->WL c ops rest ((d,true,v)::env) H' Q):WL c ops (o::rest) env H Q:=by
 intro a w g z r;have b:d<c.n:=bj l;refine wpList_plain hg λK s=>?_;have y:=wj ho (g.eval j) (n.eval g);unfold Oper.wp;rw[y];have:=hc w z;unfold oW at this;split at this
 ·rename_i v D m;rw[m];obtain⟨rfl,i⟩:=this;simp only[Oper.upon,hd];exact s _ _ (k v _ i _ _ (g.put b true v) rfl r)
 ·rename_i F h D m;rw[m];obtain⟨rfl,i⟩:=this;simp only[Oper.upon,hd];refine i.mono λe E ⟨v,t,u,x⟩=>?_;subst t;exact s _ _ (k v _ u _ _ (g.put b true v) rfl (r.trans x))
 ·exact this.elim
theorem WL.call{f:FuncId}{as:List Operand}{e:Array TypeId}{vs:List Value}{R:Value->ae->Prop}(hg:o.guard= .none)(hd:o.dst=some d)(a:bk d c.n=true)
  (ho:o.op= .call {callee:= .value (.func f),args:=as.toArray,argTypes:=e})(b:jq env as vs)(hc:cg c.P f vs.toArray H R)
  (k:∀v H',R v H'->WL c ops rest ((d,true,v)::env) H' Q):WL c ops (o::rest) env H Q:=
 WL.Hr (first:=[]) (caps:=[]) hg hd a ho ⟨_,rfl,rfl⟩ b (by simpa using hc) k
end wl
def r7(c:Cx)(S:ae->Prop)(w:World):Prop:=S w.heap/\bA c.W0 w
def QL(c:Cx)(ops:Array Oper)(l:List Oper)(env:Env)(S:ae->Prop)(K:Act->Prop):Prop:=∀a,Fr c env a->wpQuiet c.P ops (r7 c S) K l a
theorem WC.draw{id:Nat}{l:List Oper}(S:ae->Prop)(d:S H)(hm:c.P.follows .mixedOrders=true)(f:Region.lexB .any l.toArray=true)
  (h:QL c l.toArray l env S (λe=>∀w',r7 c S w'->Q .normal e w')):WC c (.region id l.toArray true) env H Q:=by
 intro a w g i b;refine wp_region_quiet (C:=r7 c S) hm f ⟨by rw[<-i]at d;exact d,⟨b.os,b.tape,b.output,dk b.drawn⟩⟩ ?_;have:=h a g;simpa using this
section ql
variable {ops:Array Oper} {o:Oper} {rest:List Oper} {d:Nat} {S:ae->Prop} {K:Act->Prop}
theorem QL.nil(h:∀H',S H'->NX c env H' (Q .normal)):QL c ops [] env S (λd=>∀w',r7 c S w'->Q .normal d w'):=λa e=>wpQuiet_nil λw' b=>h _ b.1 a w' e rfl b.2
theorem QL.lY{g:Bool}{v:Value}(hg:Gd c ops o env g)(hd:o.dst=some d)(f:bk d c.n=true)(h:g=true->bo c o env S v)(k:QL c ops rest ((d,g,v)::env) S K):QL c ops (o::rest) env S K:=by
 intro a e;have b:d<c.n:=bj f;have l:=e.put b g v;refine wpQuiet_step λK j=>?_;rw[hg a e];cases g with
 |true=>
  rw[if_pos rfl];refine⟨v,λw i=>?_,?_⟩
  ·have:=h rfl a w e i.1 i.2;unfold Oper.quietAt;rw[this];exact⟨rfl,rfl⟩
  ·rw[hd];exact j _ (k _ l)
 |false=>
  rw[if_neg (by simp),hd];exact j _ (k _ l)
theorem QL.ab{v:Value}(hg:o.guard= .none)(hd:o.dst=some d)(a:bk d c.n=true)(h:bo c o env S v)(k:QL c ops rest ((d,true,v)::env) S K):QL c ops (o::rest) env S K:=
 QL.lY (Gd.none hg) hd a (λ_=>h) k
theorem QL.ex{Φ:Value->Prop}(hg:o.guard= .none)(hd:o.dst=some d)(a:bk d c.n=true)(h:∃v,bo c o env S v/\Φ v)(k:∀v,Φ v->QL c ops rest ((d,true,v)::env) S K):QL c ops (o::rest) env S K:=
 let ⟨v,b,e⟩:=h;QL.ab hg hd a b (k v e)
theorem QL.JA{g:Bool}{f:FuncId}{as:List Operand}{p:Array TypeId}{vs:List Value}{u:Value}(hg:Gd c ops o env g)(hd:o.dst=some d)(l:bk d c.n=true)
  (ho:o.op= .call {callee:= .value (.func f),args:=as.toArray,argTypes:=p})(n:g=true->jq env as vs)(hc:g=true->∀H',S H'->cg c.P f vs.toArray H' λv i=>v=u/\S i)
  (k:QL c ops rest ((d,g,u)::env) S K):QL c ops (o::rest) env S K:=by
 intro a h;have b:d<c.n:=bj l;have t:=h.put b g u;refine wpQuiet_step λK r=>?_;rw[hg a h];cases g with
 |false=>
  rw[if_neg (by simp),hd];exact r _ (k _ t)
 |true=>
  rw[if_pos rfl];refine⟨u,λw q=>?_,by rw[hd];exact r _ (k _ t)⟩;have E:=wj (first:=[]) (caps:=[]) ho (h.eval ⟨_,rfl,rfl⟩) ((n rfl).eval h);unfold Oper.quietAt;rw[E];have:=hc rfl _ q.1 w rfl;simp only[c2,bl];unfold oW at this;split at this
  ·rename_i v F m;rw[m];obtain⟨rfl,rfl,s⟩:=this;exact⟨rfl,rfl⟩
  ·rename_i I j F m;rw[m];obtain⟨rfl,s⟩:=this;refine⟨rfl,s.mono λe H ⟨v,x,y,z⟩=>?_⟩;subst x;obtain⟨rfl,D⟩:=y;exact⟨rfl,D,q.2.trans z⟩
  ·exact this.elim
theorem QL.call{f:FuncId}{as:List Operand}{g:Array TypeId}{vs:List Value}{u:Value}(hg:o.guard= .none)(hd:o.dst=some d)(b:bk d c.n=true)
  (ho:o.op= .call {callee:= .value (.func f),args:=as.toArray,argTypes:=g})(e:jq env as vs)(hc:∀H',S H'->cg c.P f vs.toArray H' λv a=>v=u/\S a)
  (k:QL c ops rest ((d,true,u)::env) S K):QL c ops (o::rest) env S K:=
 QL.JA (Gd.none hg) hd b ho (λ_=>e) (λ_=>hc) k
end ql
def SL(c:Cx)(ops:Array Oper)(l:List Oper)(env:Env)(H:ae)(T:List Oper)(Q:Exit->Act->World->Prop):Prop:=
 ∀a w,Fr c env a->w.heap=H->bA c.W0 w->wpStill c.P ops w (λb=>wpList c.P ops Q T b w) l a
theorem WC.tail{id:Nat}{l:List Oper}(n:Nat)(hm:c.P.follows .mixedOrders=true)(e:Region.lexTailB .any l.toArray n=true)
  (h:SL c l.toArray (l.take n) env H (l.drop n) Q):WC c (.region id l.toArray true) env H Q:=λa w f g b=>
 wp_region_still_tail n hm e (h a {w with drawn:=w.drawn+1} f g ⟨b.os,b.tape,b.output,dk b.drawn⟩)
section sl
variable {ops:Array Oper} {o:Oper} {rest T:List Oper} {d:Nat}
theorem SL.nil(h:WL c ops T env H Q):SL c ops [] env H T Q:=λa w d e b=>wpStill_nil (h a w d e b)
theorem SL.lY{g:Bool}{v:Value}(hg:Gd c ops o env g)(hd:o.dst=some d)(i:bk d c.n=true)(h:g=true->bo c o env (Is H) v)(k:SL c ops rest ((d,g,v)::env) H T Q):SL c ops (o::rest) env H T Q:=by
 intro a w f j e;have b:d<c.n:=bj i;have m:=f.put b g v;refine wpStill_step λK l=>?_;rw[hg a f];cases g with
 |true=>
  rw[if_pos rfl];have:=h rfl a w f j e;unfold Oper.still;rw[this];refine⟨rfl,?_⟩;rw[hd];exact l _ (k _ w m j e)
 |false=>
  rw[if_neg (by simp),hd];exact l _ (k _ w m j e)
theorem SL.ab{v:Value}(hg:o.guard= .none)(hd:o.dst=some d)(a:bk d c.n=true)(h:bo c o env (Is H) v)(k:SL c ops rest ((d,true,v)::env) H T Q):SL c ops (o::rest) env H T Q:=
 SL.lY (Gd.none hg) hd a (λ_=>h) k
end sl
end
section
variable {c:Cx} {env:Env} {H:ae} {Q:Exit->Act->World->Prop} {ops:Array Oper} {o:Oper} {rest:List Oper} {d:Nat}
theorem WL.new{v:Value}{H':ae}(hg:o.guard= .none)(hd:o.dst=some d)(f:bk d c.n=true)
  (h:∀a w,Fr c env a->w.heap=H->∃w',(execOp a.eval o).run c.P w= .ok (.value v) w'/\w'.heap=H'/\bA w w')(k:WL c ops rest ((d,true,v)::env) H' Q):WL c ops (o::rest) env H Q:=by
 intro a w g n i;have b:d<c.n:=bj f;refine wpList_plain hg λK j=>?_;obtain⟨w',m,l,e⟩:=h a w g n;unfold Oper.wp;rw[m];simp only[Oper.upon,hd];exact j _ _ (k _ w' (g.put b true v) l (i.trans e))
theorem WL.oF{Φ:Value->ae->Prop}(hg:o.guard= .none)(hd:o.dst=some d)(f:bk d c.n=true)
  (h:∀a w,Fr c env a->w.heap=H->∃v w',(execOp a.eval o).run c.P w= .ok (.value v) w'/\Φ v w'.heap/\bA w w')(k:∀v H',Φ v H'->WL c ops rest ((d,true,v)::env) H' Q):WL c ops (o::rest) env H Q:=by
 intro a w g n i;have b:d<c.n:=bj f;refine wpList_plain hg λK j=>?_;obtain⟨v,w',m,l,e⟩:=h a w g n;unfold Oper.wp;rw[m];simp only[Oper.upon,hd];exact j _ _ (k v _ l _ w' (g.put b true v) rfl (i.trans e))
theorem Bx.push(H:ae)(e:TypeId)(cs:List Value):Bx (H.push (.cells cs.toArray e (0,0))) H.size e cs:=by
 unfold Bx;simp
theorem N3{w:World}{g:Nat}{e:TypeId}{old new:List Value}(h:Bx w.heap g e old):Bx (w.setRow g new.toArray).heap g e new:=setRow_heap w g _ _ _ _ h
theorem mz(w:World)(g:Nat)(cs:Array Value):au [g] w.heap (w.setRow g cs).heap:=
 ⟨by simp[World.setRow],λk b a=>setRow_other w g k cs (by simpa using a)⟩
theorem WL.store{t e:TypeId}{x y:Operand}{g off:Nat}{v:Value}{vs cs:List Value}(hg:o.guard= .none)(hd:o.dst= .none)(ho:o.op= .store t x y)
  (p:Ev env x (.pointer (some ⟨g,off,none⟩)))(hy:Ev env y v)(h:v.cells=vs.toArray)(hz:∀w,(sizeOf t).run c.P w= .ok vs.length w)(d:∀u∈vs,u.oneCell'=true)
  (hb:Bx H g e cs)(b:off+vs.length<=cs.length)
  (k:∀H',Bx H' g e (cs.take off++vs++cs.drop (off+vs.length))->au [g] H H'->WL c ops rest env H' Q):WL c ops (o::rest) env H Q:=by
 intro a w f n j;refine wpList_plain hg λK l=>?_;subst n;have i:=run_storeCells_at c.P g off e vs 0 cs.toArray w hb (by simpa using b) d;simp only[c0]at i
 have m:(execOp a.eval o).run c.P w= .ok .skip (w.setRow g (cs.take off++vs++cs.drop (off+vs.length)).toArray):=by
  unfold execOp;rw[ho];simp[f.eval p,f.eval hy,Instr.storeAt,Instr.sureAddr,storeVar,h,hz,i]
 unfold Oper.wp;rw[m];simp only[Oper.upon,hd];exact l _ _ (k _ (N3 hb) (mz _ _ _) _ _ f rfl (j.trans (bA.of rfl rfl rfl)))
theorem BH(l:List Value):∀(off i:Nat) (cur:Array Value),off+i+l.length<=cur.size->
  ((l.zipIdx i).foldl (λcs (x:Value×Nat)=>cs.setIfInBounds (off+x.2) x.1) cur).toList=cur.toList.take (off+i)++l++cur.toList.drop (off+i+l.length):=by
 induction l with
 |nil=>intro off i cur h;simp
 |cons u l ih=>
  intro off i cur h;simp only[List.zipIdx_cons,List.foldl_cons];rw[ih off (i+1) _ (by simp at h⊢;omega)];simp only[Array.toList_setIfInBounds,c1];have a:off+i<cur.toList.length:=by simp at h⊢;omega
  rw[show off+(i+1)=(off+i)+1 by omega,List.take_succ_eq_append_getElem (by simpa using a),List.getElem_set_self,List.take_set_of_le (by omega),List.drop_set_of_lt (by omega)];simp only[cp,List.singleton_append];rw[show off+i+1+l.length=off+i+(l.length+1)by omega]
theorem wD(size:Nat):∀(vs:List Value) (k:Nat) (cur:Array Value),(∀v∈vs,v.cells.size=size)->(k+vs.length)*size<=cur.size->
  Instr.fill (λi=>some (i*size,size)) cur ((vs.zipIdx k).map λx=>(x.2,x.1))=some (cur.toList.take (k*size)++(vs.map λv=>v.cells.toList).flatten++cur.toList.drop ((k+vs.length)*size)).toArray
 |[],k,cur,_,_=>by simp[Instr.fill]
 |v::vs,k,cur,h,d=>by
  have c:v.cells.size=size:=h v (by simp)
  have n:k*size+size<=cur.size:=by
   refine dg ?_ d;rw[<-b3];exact cx _ (by simp)
  simp only[List.zipIdx_cons,List.map_cons,Instr.fill];rw[if_neg (by simp[c];omega)];have a:=BH v.cells.toList (k*size) 0 cur (by simp[c];omega)
  have j:v.cells.zipIdx.foldl (λb (x:Value×Nat)=>b.setIfInBounds (k*size+x.2) x.1) cur=((v.cells.toList.zipIdx 0).foldl (λb (x:Value×Nat)=>b.setIfInBounds (k*size+x.2) x.1) cur):=by
   rw[<-Array.foldl_toList];simp
  have e:(v.cells.zipIdx.foldl (λb (x:Value×Nat)=>b.setIfInBounds (k*size+x.2) x.1) cur).size=cur.size:=by
   rw[j];have:=congrArg List.length a;simp[c]at this;omega
  rw[wD size vs (k+1) _ (λu p=>h u (by simp[p])) (by rw[e];refine dg (Nat.le_of_eq ?_) d;simp;congr 1;omega)];rw[j,a];simp only[c0,c1,dl,de,c];have o:(d4 (k*size) cur.toList).length=k*size:=by simp;omega
  have f:(k+1)*size=(d4 (k*size) cur.toList++v.cells.toList).length:=by rw[cf,o];simp[c,b3]
  have l:(k+1+vs.length)*size=(k+(vs.length+1))*size:=by congr 1;omega
  rw[l,f,co,List.drop_append];have g:(d4 (k*size) cur.toList++v.cells.toList).length=k*size+size:=by rw[<-f,b3]
  rw[g]
  have m:(k+(vs.length+1))*size=k*size+size+vs.length*size:=by
   rw[show k+(vs.length+1)=k+1+vs.length by omega,cy,b3]
  rw[m,c3 (by rw[g];omega),c2,d3,show k*size+size+vs.length*size-(k*size+size)=vs.length*size by omega];simp[cp]
theorem jq.length{xs:List Operand}{vs:List Value}(h:jq env xs vs):vs.length=xs.length:=by
 induction h with
 |nil=>rfl
 |cons _ _ ih=>simp[ih]
theorem WL.buildSlice{t e:TypeId}{n size:Nat}{xs:List Operand}{vs css:List Value}{z:Value}(hg:o.guard= .none)(hd:o.dst=some d)(r:bk d c.n=true)
  (ho:o.op= .buildSlice t n ((xs.zipIdx).map λx=>(x.2,x.1)).toArray)(y:c.P.underlying t=some (.slice e))(hz:∀w,(sizeOf e).run c.P w= .ok size w)(f:∀w,(zeroValue e).run c.P w= .ok z w)
  (D:jq env xs vs)(hn:xs.length=n)(J:n*size<=16777216)(hv:∀v∈vs,v.cells.size=size)(l:(vs.map λv=>v.cells.toList).flatten=css)
  (k:∀g H',Bx H' g e css->H.size<=g->au [] H H'->WL c ops rest ((d,true,.slice (some ⟨g,0,none⟩) n n)::env) H' Q):WL c ops (o::rest) env H Q:=by
 have u:vs.length=n:=by rw[<-hn,D.length]
 refine WL.new (H':=H.push (.cells css.toArray e (0,0))) (v:= .slice (some ⟨H.size,0,none⟩) n n) hg hd r (λa w I K=>?_) (k _ _ (Bx.push _ _ _) (c4 _) (au.push _ _ _));subst K;have q:=D.eval I
 have m:(((xs.zipIdx).map λx=>(x.2,x.1)).map λx:Nat×Operand=>match x with|(i,x)=>(i,a.eval x))=(vs.zipIdx 0).map λx=>(x.2,x.1):=by
  rw[<-q,List.zipIdx_map];simp only[List.map_map];rfl
 have b:=λ(h:Array Value) (F:h.size=n*size)=>wD size vs 0 h hv (by rw[F];simp[u]);refine⟨{w with heap:=w.heap.push (.cells css.toArray e (0,0))},?_,rfl,bA.of rfl rfl rfl⟩;have j:¬16777216<n*size:=by omega
 unfold execOp;rw[ho];simp only[dr,m];by_cases p:n*size=0
 ·have:=b (d9 (λ_=>default) (c5 0)) (by simp[p]);simp[Instr.buildSlice,run_underlying y,hz,p,newRow];rw[this];have E:(d9 (λ_=>(default:Value)) (c5 0)).toList=[]:=by rw[Array.range_zero'];simp
  simp only[E,List.take_nil,List.drop_nil,c2,bl,l];rfl
 ·have:=b ((c5 (n*size)).map (λx=>z.cells[x%z.cells.size]!)) (by simp);simp[Instr.buildSlice,run_underlying y,hz,j,p,f,newRow];simp at this;rw[this];simp only[u];rw[c3 (by simp),bl,l];rfl
def Src(P:Program)(H:ae)(size:Nat)(x:Value)(m:Nat)(news:List Value):Prop:=
 ∀w:World,w.heap=H->(Builtin.lenOf x).run P w= .ok m w/\(Builtin.firstCells size m x).run P w= .ok news.toArray w
theorem Src.sl{α:Type}{T:Ty α}{P:Program}{M:List Nat}{x:Value}{xs:List α}(h:Sl T H M x xs):∃news,Src P H T.size x xs.length news/\dR T H M news xs:=by
 rcases h with⟨p,rfl,rfl⟩|⟨b,d,cap,rfl,hb,o,l,m,n,f⟩
 ·refine⟨[],λw _=>⟨by simp[Builtin.lenOf],?_⟩,.nil⟩;cases p with
  |none=>simp[Builtin.firstCells]
  |some a=>
   have:=run_loadCells_list (P:=P) (w:=w) a [] (by simp);simpa[Builtin.firstCells]using this
 ·obtain⟨c,e,g⟩:=Sl.BA xs d f;refine⟨c,λw k=>⟨by simp[Builtin.lenOf],?_⟩,e⟩;exact run_firstCells_some w T.size xs.length ⟨b,d,none⟩ _ cap c e.length (λj v i=>by rw[Addr.add_lit,dG k];exact g j v i)
theorem Src.bx{P:Program}{g m a size:Nat}{e:TypeId}{cs:List Value}(h:Bx H g e cs)(hl:cs.length=m*size):Src P H size (.slice (some ⟨g,0,none⟩) m a) m cs:=λw c=>by
 refine⟨by simp[Builtin.lenOf],?_⟩;exact run_firstCells_some w size m ⟨g,0,none⟩ _ a cs hl (λj v b=>by rw[Addr.add_lit,dG c,d7,h.cell];exact b)
theorem Src.str{P:Program}(l:List UInt8):Src P H 1 (str l) l.length (l.map bv):=λw _=>by
 refine⟨by simp[Builtin.lenOf,NB.str];rfl,?_⟩;simp only[Builtin.firstCells,NB.str]
 have e:(ByteArray.extract ⟨l.toArray⟩ 0 l.length).data=l.toArray:=by
  simp[d8]
 simp;intro b _;rfl
theorem Row.src{P:Program}{e:TypeId}{size:Nat}{v:Value}{n:Nat}{cs:List Value}(h:Row H e size v n cs):Src P H size v n cs:=λw f=>by
 rcases h.2 with⟨rfl,rfl⟩|⟨g,cap,b,rfl,d,i,k,l,c⟩
 ·have:cs=[]:=a9 (by simpa using h.1);subst this;exact⟨by simp[Builtin.lenOf],by simp[Builtin.firstCells]⟩
 ·refine⟨by simp[Builtin.lenOf],?_⟩;refine run_firstCells_some w size n ⟨g,0,none⟩ _ cap cs h.1 (λj v a=>?_);rw[Addr.add_lit,dG f,d7];unfold NB.cell;rw[d];rw[<-c,b4]at a;split at a
  ·simpa using a
  ·cases a
theorem WL.append{t t2 e:TypeId}{i:TypeInfo}{z v x:Value}{s y:Operand}{size n m:Nat}{cs news:List Value}{dx:TypeDesc}(hg:o.guard= .none)(hd:o.dst=some d)(ar:bk d c.n=true)
  (ho:o.op= .call {callee:= .builtin .append,args:= #[s,y],argTypes:= #[t,t2]})(ht:c.P.underlying t=some (.slice e))(J:c.P.underlying t2=some dx)(a6:∀k,dx≠.int k)
  (hi:∀w,(typeInfo e).run c.P w= .ok i w)(a3:i.size=size)(hz:i.zero=some z)(a5:z.cells.size=size)
  (hs:Ev env s v)(hy:Ev env y x)(hr:Row H e size v n cs)(E:Src c.P H size x m news)(U:∀u∈news,u.oneCell'=true)(D:news.length=m*size)(N:(n+m)*i.bytes<=140737488355328)(a0:n+m<=9223372036854775807)
  (k:∀v' H',Row H' e size v' (n+m) (cs++news)->au (ob v) H H'->(∀b∈ob v',b∈ob v\/H.size<=b)->WL c ops rest ((d,true,v')::env) H' Q):WL c ops (o::rest) env H Q:=by
 refine WL.oF (Φ:=λv' H'=>Row H' e size v' (n+m) (cs++news)/\au (ob v) H H'/\(∀b∈ob v',b∈ob v\/H.size<=b)) hg hd ar (λa w M q=>?_) (λv' H' h=>k v' H' h.1 h.2.1 h.2.2);have hlen:(cs++news).length=(n+m)*size:=by rw[cf,hr.1,D,cy]
 have f:∀w,(sizeOf e).run c.P w= .ok size w:=λw=>by simp[sizeOf,hi,a3]
 have K:∀w,(zeroValue e).run c.P w= .ok z w:=λw=>by simp[zeroValue,hi,hz]
 obtain⟨I,W⟩:=E w q;have a1:n+m<=maxLen:=a0
 have grow:∀(p:Option Addr) (l:Nat),v= .slice p n l->l<n+m->∃v' w',(execOp a.eval o).run c.P w= .ok (.value v') w'/\(Row w'.heap e size v' (n+m) (cs++news)/\au (ob v) H w'.heap/\(∀b∈ob v',b∈ob v\/H.size<=b))/\bA w w':=by
  intro p l hv al;have ap:=grownCap_ge w (n+m) l e;have ad:grownCap w (n+m) l e<=maxLen:=grownCap_le_maxLen w (n+m) l e a1;have ao:=growslice_fits al N;have T:∀w':World,w'.heap=H->(Builtin.firstCells size n (.slice p n l)).run c.P w'= .ok cs.toArray w':=λw' a4=>by rw[<-hv];exact(Row.src (P:=c.P) hr w' a4).2
  refine⟨.slice (some ⟨w.heap.size,0,none⟩) (n+m) (grownCap w (n+m) l e),w.drew.alloc (.cells (cs.toArray++news.toArray++Builtin.zeroCells z.cells (grownCap w (n+m) l e-(n+m))) e),?_,⟨⟨hlen,.inr ⟨w.heap.size,_,_,rfl,heap_alloc_new w.drew _,ap,ad,?_,?_⟩⟩,?_,?_⟩,bA.of rfl rfl rfl⟩
  ·have h1:=T w.drew q;have Z:=(E w.drew q).2;unfold execOp;rw[ho];have S:¬n+m<=l:=by omega
   have R:¬((9223372036854775807:Int)<(n:Int)+(m:Int)):=by omega
   have a2:¬281474976710656<Builtin.nextslicecap (n+m) l*i.bytes:=by omega
   simp[resolve,invoke,builtin,M.eval hs,M.eval hy,hv,Builtin.append_,run_underlying ht,run_underlying J,f,I,S,hi,R,a2,K,newRow];have ac:Question.forced (.appendCap (n+m) l e)=false:=rfl;simp[ac];rw[h1];simp[Z];refine⟨rfl,?_⟩;have e2:(cs++news).toArray=cs.toArray++news.toArray:=by simp
   rw[e2,Array.append_assoc];rfl
  ·simp only[Array.size_append,dp,size_zeroCells,a5,hr.1,D,<-cy];congr 1
   omega
  ·simp only[Array.toList_append,cp];rw[<-cp,<-hlen];exact co
  ·rw[<-q];exact(au.push [] w.heap _).nil
  ·intro b hb;simp[ob]at hb;subst hb;rw[q];exact .inr (c4 _)
 rcases hr.2 with⟨hv,hn⟩|⟨g,cap,r,hv,O,h1,Z,h3,h4⟩
 ·by_cases hm:m=0
  ·have am:cs=[]:=a9 (by rw[hr.1,hn];simp);have F:news=[]:=a9 (by rw[D,hm];simp);subst hn hm am F hv;refine⟨.slice none 0 0,w,?_,⟨by rw[q];exact Row.nil _ _ _,by rw[q];exact au.refl _ _,λb hb=>by simp[ob]at hb⟩,bA.refl _⟩;unfold execOp;rw[ho];simp[resolve,invoke,builtin,M.eval hs,M.eval hy,Builtin.append_,run_underlying ht,run_underlying J,f,I,W]
  ·subst hn;exact grow none 0 hv (by omega)
 ·by_cases j:n+m<=cap
  ·have Y:=run_storeCells_at c.P g (n*size) e news 0 r w (by rw[q];exact O) (by rw[h3,D,c0,<-cy];exact cx _ j) U;simp only[c0]at Y;refine⟨.slice (some ⟨g,0,none⟩) (n+m) cap,w.setRow g (r.toList.take (n*size)++news++r.toList.drop (n*size+news.length)).toArray,?_,⟨⟨hlen,.inr ⟨g,cap,_,rfl,setRow_heap w g r _ e _ (by rw[q];exact O),j,Z,?_,?_⟩⟩,?_,?_⟩,bA.of rfl rfl rfl⟩
   ·unfold execOp;rw[ho];simp[resolve,invoke,builtin,M.eval hs,M.eval hy,hv,Builtin.append_,run_underlying ht,run_underlying J,f,I,W,j,Addr.add_lit,Y]
   ·have:n*size+m*size<=cap*size:=by rw[<-cy];exact cx _ j
    simp only[dp,cf,cv,List.length_drop,de];omega
   ·rw[h4,<-hlen];exact co
   ·rw[<-q,hv];exact mz w g _
   ·intro b hb;rw[hv];exact .inl hb
  ·exact grow _ cap hv (by omega)
theorem WL.make{t e:TypeId}{i:TypeInfo}{z:Value}{x y:Operand}{size n:Nat}{zs:List Value}{p q:Int}(hg:o.guard= .none)(hd:o.dst=some d)(I:bk d c.n=true)
  (ho:o.op= .makeSlice t x y)(W:c.P.underlying t=some (.slice e))(hi:∀w,(typeInfo e).run c.P w= .ok i w)(K:i.size=size)(hz:i.zero=some z)(N:z.cells=zs.toArray)(l:zs.length=size)(u:0<size)
  (Y:Ev env x (iv p))(hy:Ev env y (iv q))(hp:p=(n:Int))(hq:q=(n:Int))(S:(n:Int)*i.bytes<=140737488355328)(hb:0<i.bytes)
  (k:∀v H',Row H' e size v n (b0 n zs).flatten->au [] H H'->(∀b∈ob v,H.size<=b)->(∃g,v= .slice (some ⟨g,0,none⟩) n n)->WL c ops rest ((d,true,v)::env) H' Q):WL c ops (o::rest) env H Q:=by
 subst hp hq
 have E:(n:Int)<=140737488355328:=by
  have:(n:Int)*1<=(n:Int)*i.bytes:=Int.mul_le_mul_of_nonneg_left (by omega) (by omega);omega
 have m:∀n:Nat,((c5 (n*size)).map (λj=>z.cells[j%z.cells.size]!)).toList=(b0 n zs).flatten:=by
  intro n;refine List.ext_getElem? λj=>?_;by_cases T:j<n*size
  ·have U:j%size<zs.length:=by rw[l];exact Nat.mod_lt _ u
   have:((b0 n zs).flatten)[j]? =some (zs[j%size]):=by
    have O:∀(n j:Nat) (h:j<n*size),((b0 n zs).flatten)[j]? =zs[j%size]? :=by
     intro n;induction n with
     |zero=>intro j h;simp at h
     |succ n ih=>
      intro j h;rw[List.replicate_succ,dl];by_cases F:j<zs.length
      ·rw[bi F,Nat.mod_eq_of_lt (by omega)]
      ·rw[List.getElem?_append_right (by omega),l,ih _ (by rw[b3]at h;omega)];congr 1
       rw[Nat.mod_eq_sub_mod (show j>=size by omega)]
    rw[O n j T,ch U]
   rw[this];simp[T,N,l];rw[ch U];rfl
  ·rw[c7 (by simp;omega),c7 (by simp[l];omega)]
 refine WL.new (H':=H.push (.cells (b0 n zs).flatten.toArray e (0,0))) (v:= .slice (some ⟨H.size,0,none⟩) n n) hg hd I (λa w D hw=>?_)
  (k _ _ ⟨by simp[l],.inr ⟨H.size,n,(b0 n zs).flatten.toArray,rfl,by simp,c4 _,by unfold maxLen;omega,by simp[l],cq (by simp[l])⟩⟩ (au.push _ _ _) (λb hb=>by simp[ob]at hb;omega) ⟨_,rfl⟩)
 subst hw;have f:∀w,(sizeOf e).run c.P w= .ok size w:=λw=>by simp[sizeOf,hi,K]
 have s:∀w,(zeroValue e).run c.P w= .ok z w:=λw=>by simp[zeroValue,hi,hz]
 refine⟨{w with heap:=w.heap.push (.cells (b0 n zs).flatten.toArray e (0,0))},?_,rfl,bA.of rfl rfl rfl⟩;have r:IntKind.i64.wrap (n:Int)=n:=IntWalk.i64_in _ (by omega);have h1:¬(n:Int)<0:=by omega
 have h2:¬(281474976710656:Int)<i.bytes*n:=by rw[Int.mul_comm];omega
 unfold execOp;rw[ho];by_cases P:n*size=0
 ·have J:n=0:=by rcases Nat.mul_eq_zero.1 P with h|h<;>omega
  have Z:(0:Int)<9223372036854775808:=by omega
  have M:IntKind.i64.wrap 0=0:=IntWalk.i64_in _ (by omega);subst J;simp[iv,D.eval Y,D.eval hy,Instr.makeSlice,run_underlying W,asInt,asIntOf,hi,M,f,newRow];rw[Array.range_zero'];simp
 ·have:=m n;simp[iv,D.eval Y,D.eval hy,Instr.makeSlice,run_underlying W,asInt,asIntOf,hi,r,h1,h2,f,P,s,newRow];rw[<-this,Array.toArray_toList]
end
end Go.NB
end
section
namespace Go.AM
open Go Go.NB
def wJ(cs:Array Value):Prop:=∃t p,cs= #[Value.iface t p]
def BT(cs:Array Value):Prop:=cs= #[.int .u64 1,.int .u64 10,.int .u64 100,.int .u64 1000,.int .u64 10000,.int .u64 100000,.int .u64 1000000,.int .u64 10000000,.int .u64 100000000,.int .u64 1000000000,.int .u64 10000000000,.int .u64 100000000000,.int .u64 1000000000000,.int .u64 10000000000000,.int .u64 100000000000000,.int .u64 1000000000000000,.int .u64 10000000000000000,.int .u64 100000000000000000,.int .u64 1000000000000000000,.int .u64 10000000000000000000]
def iw:List (Nat×(Array Value->Prop)):=[(1,wJ),(2,wJ),(3,BT)]
def lK(H:ae)(p:Nat×(Array Value->Prop)):Prop:=∃a t f,H[p.1]? =some (.cells a t f)/\p.2 a
inductive C:Type 1 where
 |int (k:IntKind) (n:Int)
 |bool (b:Bool)
 |str (l:List UInt8)
 |raw (v:Value)
 |nil
 |ls (sz:Nat) (α:Type) (enc:α->List C) (l:List α)
 |bs (sz:Nat) (α:Type) (enc:α->List C) (l:List α)
 |rw(j:Nat)
 |sw (sz j lo n:Nat)
 |ptr (j o:Nat)
 |ep (sz j i o:Nat)
 |bp (cs:List C)
 |fn (f:Nat) (caps:List C)
 |iface (t:Nat) (agg:Bool) (cs:List C)
inductive A:Type 1 where
 |undef
 |off
 |c (x:C)
 |st (cs:List C)
 |ao (ts:List (Bool×List C))
inductive B:Type 1 where
 |box (cs:List C) (t:Option Nat:=none)
 |row (sz:Nat) (α:Type) (enc:α->List C) (l:List α)
 |bh (sz:Nat) (α:Type) (enc:α->List C) (l:List α)
 |buf (t sz:Nat) (α:Type) (enc:α->List C) (l:List α)
 |dead
structure St:Type 1 where
 env:List (Nat×A)
 ah:List B
def lk:List (Nat×A)->Nat->Option A
 |[],_=>none
 |(t,x)::r,s=>bif d2 t s then some x else lk r s
def St.put(s:St)(d:Nat)(x:A):St:={s with env:=(d,x)::s.env}
structure Md where
 B:Nat->Prop
 γ:List Value
def m0:Md:=⟨λ_=>False,[]⟩
def gZ(sz lo n:Nat):Value->Value
 | .slice p _ cap=>.slice (if cap=lo then p else p.map (·.add (lo*sz))) n (cap-lo)
 |v=>v
def jF(agg:Bool)(vs:List Value):Value:=bif agg then .agg vs.toArray else vs.headD undef
inductive RL(F:Nat->Prop)(H:ae):Md->List C->List Value->Prop
 |nl {m}:RL F H m [] []
 |int {m k n cs vs} (t:RL F H m cs vs):RL F H m (.int k n::cs) (.int k n::vs)
 |bool {m b cs vs} (t:RL F H m cs vs):RL F H m (.bool b::cs) (.bool b::vs)
 |str {m l cs vs} (hl:l.length<=9223372036854775807) (t:RL F H m cs vs):RL F H m (.str l::cs) (NB.str l::vs)
 |raw {m v cs vs} (h:v.oneCell'=true) (t:RL F H m cs vs):RL F H m (.raw v::cs) (v::vs)
 |nil {m cs vs} (t:RL F H m cs vs):RL F H m (.nil::cs) (.slice none 0 0::vs)
 |ct {m sz α enc p cs vs} (t:RL F H m cs vs):RL F H m (.ls sz α enc []::cs) (.slice p 0 0::vs)
 |ls {m sz α enc l b off cap css cs vs} (hb:F b) (h1:l.length<=cap) (h2:cap<=maxLen) (hr:RL F H m0 (l.flatMap enc) css) (hz:∀x∈l,(enc x).length=sz)
   (hc:∀j u,css[j]? =some u->cell H b (off+j)=some u) (t:RL F H m cs vs):RL F H m (.ls sz α enc l::cs) (.slice (some ⟨b,off,none⟩) l.length cap::vs)
 |eg {m sz α enc p cs vs} (t:RL F H m cs vs):RL F H m (.bs sz α enc []::cs) (.slice p 0 0::vs)
 |bs {m sz α enc l b off cap css cs vs} (hb:F b\/m.B b) (h1:l.length<=cap) (h2:cap<=maxLen) (hr:RL F H m0 (l.flatMap enc) css) (hz:∀x∈l,(enc x).length=sz)
   (hc:∀j u,css[j]? =some u->cell H b (off+j)=some u) (t:RL F H m cs vs):RL F H m (.bs sz α enc l::cs) (.slice (some ⟨b,off,none⟩) l.length cap::vs)
 |rw{m j p q n cap cs vs} (hg:m.γ[j]? =some (.slice p n cap)) (hq:cap≠0->q=p) (t:RL F H m cs vs):RL F H m (.rw j::cs) (.slice q n cap::vs)
 |sw {m sz j lo n p q n0 cap cs vs} (hg:m.γ[j]? =some (.slice p n0 cap)) (h:lo+n<=n0) (hq:cap≠lo->q=p.map (·.add (lo*sz))) (t:RL F H m cs vs):RL F H m (.sw sz j lo n::cs) (.slice q n (cap-lo)::vs)
 |ptr {m j o b cs vs} (hg:m.γ[j]? =some (.pointer (some ⟨b,0,none⟩))) (t:RL F H m cs vs):RL F H m (.ptr j o::cs) (.pointer (some ⟨b,o,none⟩)::vs)
 |ep {m sz j i o b off n cap cs vs} (hg:m.γ[j]? =some (.slice (some ⟨b,off,none⟩) n cap)) (t:RL F H m cs vs):RL F H m (.ep sz j i o::cs) (.pointer (some ⟨b,off+i*sz+o,none⟩)::vs)
 |bp {m cs' css b o cs vs} (hb:F b\/m.B b) (hr:RL F H ⟨m.B,[]⟩ cs' css) (hc:∀j u,css[j]? =some u->cell H b (o+j)=some u) (t:RL F H m cs vs):RL F H m (.bp cs'::cs) (.pointer (some ⟨b,o,none⟩)::vs)
 |fn {m f caps us cs vs} (hr:RL F H m caps us) (t:RL F H m cs vs):RL F H m (.fn f caps::cs) (.func (.func f) #[] us.toArray::vs)
 |iface {m ty agg cs' us cs vs} (hr:RL F H m cs' us) (t:RL F H m cs vs):RL F H m (.iface ty agg cs'::cs) (.iface ty (jF agg us)::vs)
section
variable {F:Nat->Prop} {H:ae} {m:Md}
theorem RL.length{cs:List C}{vs:List Value}(h:RL F H m cs vs):cs.length=vs.length:=by
 induction h<;>simp_all
theorem RL.one{cs:List C}{vs:List Value}(h:RL F H m cs vs):∀u∈vs,u.oneCell'=true:=by
 induction h with
 |nl=>intro u hu;cases hu
 |raw h _ ih=>intro u hu;rcases d5.1 hu with rfl|hu;exact h;exact ih u hu
 |int _ ih|bool _ ih|str _ _ ih|nil _ ih|ct _ ih|rw _ _ _ ih|sw _ _ _ _ ih|ls _ _ _ _ _ _ _ _ ih|eg _ ih|bs _ _ _ _ _ _ _ _ ih|ptr _ _ ih|ep _ _ ih|bp _ _ _ _ _ ih|fn _ _ _ ih|iface _ _ _ ih=>
  intro u hu;rcases d5.1 hu with rfl|hu
  ·rfl
  ·exact ih u hu
structure Ext(F:Nat->Prop)(H:ae)(m:Md)(F':Nat->Prop)(H':ae)(m':Md):Prop where
 f:∀k,F k->F' k
 h:∀(b o:Nat) (u:Value),F b\/m.B b->cell H b o=some u->cell H' b o=some u
 b:∀k,m.B k->m'.B k
 g:∀(j:Nat) (v:Value),m.γ[j]? =some v->m'.γ[j]? =some v
theorem Ext.m0{F F':Nat->Prop}{H H':ae}{m m':Md}(e:Ext F H m F' H' m'):Ext F H AM.m0 F' H' AM.m0:=
 ⟨e.f,λb o u hb=>e.h b o u (hb.elim .inl False.elim),λ_ h=>h,λ_ _ h=>h⟩
theorem Ext.xE{F F':Nat->Prop}{H H':ae}{m m':Md}(e:Ext F H m F' H' m'):Ext F H ⟨m.B,[]⟩ F' H' ⟨m'.B,[]⟩:=
 ⟨e.f,e.h,e.b,λ_ _ h=>h⟩
theorem Ext.hb{F F':Nat->Prop}{H H':ae}{m m':Md}(e:Ext F H m F' H' m'){b:Nat}(h:F b\/m.B b):F' b\/m'.B b:=h.imp (e.f b) (e.b b)
theorem RL.ext{F F':Nat->Prop}{H H':ae}{m:Md}{cs:List C}{vs:List Value}(h:RL F H m cs vs):∀{m':Md},Ext F H m F' H' m'->RL F' H' m' cs vs:=by
 induction h with
 |nl=>intro m' e;exact .nl
 |int _ ih=>intro m' e;exact .int (ih e)
 |bool _ ih=>intro m' e;exact .bool (ih e)
 |str h _ ih=>intro m' e;exact .str h (ih e)
 |raw h _ ih=>intro m' e;exact .raw h (ih e)
 |nil _ ih=>intro m' e;exact .nil (ih e)
 |ct _ ih=>intro m' e;exact .ct (ih e)
 |ls hb g i f l c _ a ih=>intro m' e;exact .ls (e.f _ hb) g i (a e.m0) l (λj u d=>e.h _ _ _ (.inl hb) (c j u d)) (ih e)
 |eg _ ih=>intro m' e;exact .eg (ih e)
 |bs hb g i f l c _ a ih=>intro m' e;exact .bs (e.hb hb) g i (a e.m0) l (λj u d=>e.h _ _ _ hb (c j u d)) (ih e)
 |rw b k _ ih=>intro m' e;exact .rw (e.g _ _ b) k (ih e)
 |sw b h k _ ih=>intro m' e;exact .sw (e.g _ _ b) h k (ih e)
 |ptr b _ ih=>intro m' e;exact .ptr (e.g _ _ b) (ih e)
 |ep b _ ih=>intro m' e;exact .ep (e.g _ _ b) (ih e)
 |bp hb f c _ a ih=>intro m' e;exact .bp (e.hb hb) (a e.xE) (λj u d=>e.h _ _ _ hb (c j u d)) (ih e)
 |fn f _ a ih=>intro m' e;exact .fn (a e) (ih e)
 |iface f _ a ih=>intro m' e;exact .iface (a e) (ih e)
theorem RL.append{cs ds:List C}{vs us:List Value}(h:RL F H m cs vs)(k:RL F H m ds us):RL F H m (cs++ds) (vs++us):=by
 induction h with
 |nl=>exact k
 |int _ ih=>exact .int (ih k)
 |bool _ ih=>exact .bool (ih k)
 |str h _ ih=>exact .str h (ih k)
 |raw h _ ih=>exact .raw h (ih k)
 |nil _ ih=>exact .nil (ih k)
 |ct _ ih=>exact .ct (ih k)
 |ls hb d e a g c _ _ ih=>exact .ls hb d e a g c (ih k)
 |eg _ ih=>exact .eg (ih k)
 |bs hb d e a g c _ _ ih=>exact .bs hb d e a g c (ih k)
 |rw b f _ ih=>exact .rw b f (ih k)
 |sw b h f _ ih=>exact .sw b h f (ih k)
 |ptr b _ ih=>exact .ptr b (ih k)
 |ep b _ ih=>exact .ep b (ih k)
 |bp hb a c _ _ ih=>exact .bp hb a c (ih k)
 |fn a _ _ ih=>exact .fn a (ih k)
 |iface a _ _ ih=>exact .iface a (ih k)
theorem RL.kK{c:C}{cs:List C}{vs:List Value}(h:RL F H m (c::cs) vs):∃v us,vs=v::us/\RL F H m [c] [v]/\RL F H m cs us:=by
 cases h with
 |int t=>exact⟨_,_,rfl,.int .nl,t⟩
 |bool t=>exact⟨_,_,rfl,.bool .nl,t⟩
 |str h t=>exact⟨_,_,rfl,.str h .nl,t⟩
 |raw h t=>exact⟨_,_,rfl,.raw h .nl,t⟩
 |nil t=>exact⟨_,_,rfl,.nil .nl,t⟩
 |ct t=>exact⟨_,_,rfl,.ct .nl,t⟩
 |ls hb e f a i d t=>exact⟨_,_,rfl,.ls hb e f a i d .nl,t⟩
 |eg t=>exact⟨_,_,rfl,.eg .nl,t⟩
 |bs hb e f a i d t=>exact⟨_,_,rfl,.bs hb e f a i d .nl,t⟩
 |rw b g t=>exact⟨_,_,rfl,.rw b g .nl,t⟩
 |sw b h g t=>exact⟨_,_,rfl,.sw b h g .nl,t⟩
 |ptr b t=>exact⟨_,_,rfl,.ptr b .nl,t⟩
 |ep b t=>exact⟨_,_,rfl,.ep b .nl,t⟩
 |bp hb a d t=>exact⟨_,_,rfl,.bp hb a d .nl,t⟩
 |fn a t=>exact⟨_,_,rfl,.fn a .nl,t⟩
 |iface a t=>exact⟨_,_,rfl,.iface a .nl,t⟩
theorem RL.cons{c:C}{v:Value}{cs:List C}{vs:List Value}(h:RL F H m [c] [v])(t:RL F H m cs vs):RL F H m (c::cs) (v::vs):=h.append t
theorem RL.split:∀{cs ds:List C} {vs:List Value},RL F H m (cs++ds) vs->∃us ws,vs=us++ws/\RL F H m cs us/\RL F H m ds ws
 |[],ds,vs,h=>⟨[],vs,rfl,.nl,h⟩
 |c::cs,ds,vs,h=>by
  obtain⟨v,us,rfl,d,e⟩:=RL.kK h;obtain⟨a,b,rfl,f,g⟩:=RL.split e;exact⟨v::a,b,rfl,d.cons f,g⟩
theorem RL.take{cs:List C}{vs:List Value}(h:RL F H m cs vs)(n:Nat):RL F H m (cs.take n) (vs.take n):=by
 have b:=h;rw[<-c9 n cs]at b;obtain⟨d,f,rfl,c,g⟩:=b.split;have e:=c.length
 have:(d++f).take n=d:=by
  by_cases i:n<=cs.length
  ·rw[cv,d0 i]at e;rw[e,co]
  ·rw[cq (l:=cs) (by omega)]at e;have a:=g.length;rw[cr (by omega)]at a;have:f=[]:=a9 a.symm;subst this;rw[bl,cq (by omega)]
 rw[this];exact c
theorem RL.drop{cs:List C}{vs:List Value}(h:RL F H m cs vs)(n:Nat):RL F H m (cs.drop n) (vs.drop n):=by
 have c:=h;rw[<-c9 n cs]at c;obtain⟨i,a,rfl,f,d⟩:=c.split;have e:=f.length
 have:(i++a).drop n=a:=by
  by_cases g:n<=cs.length
  ·rw[cv,d0 g]at e;rw[e,List.drop_left]
  ·have b:=d.length;rw[cr (by omega)]at b;have:a=[]:=a9 b.symm;subst this;rw[bl,cr (by rw[<-e,cv];omega)]
 rw[this];exact d
theorem RL.single{c:C}{vs:List Value}(h:RL F H m [c] vs):∃v,vs=[v]/\RL F H m [c] [v]:=by
 obtain⟨v,d,rfl,a,b⟩:=h.kK;cases b;exact⟨v,rfl,a⟩
end
def RT(F:Nat->Prop)(H:ae)(m:Md):List (Bool×List C)->List Value->Prop
 |[],[]=>True
 |(g,a)::c,v::d=>(∃b,RL F H m a b/\v=jF g b/\(g=false->a.length=1))/\RT F H m c d
 |_,_=>False
def RA(F:Nat->Prop)(H:ae)(m:Md):A->Value->Prop
 | .undef,_=>True
 | .off,v=>v=undef
 | .c x,v=>RL F H m [x] [v]
 | .st b,v=>∃a,v= .agg a.toArray/\RL F H m b a
 | .ao d,v=>∃a,v= .tuple a.toArray/\RT F H m d a
theorem RT.ext{F F':Nat->Prop}{H H':ae}{m m':Md}(e:Ext F H m F' H' m'):∀{ts:List (Bool×List C)} {vs:List Value},RT F H m ts vs->RT F' H' m' ts vs
 |[],[],_=>trivial
 |(_,_)::_,_::_,⟨⟨d,a,b,c⟩,h⟩=>⟨⟨d,a.ext e,b,c⟩,RT.ext e h⟩
theorem RA.ext{F F':Nat->Prop}{H H':ae}{m m':Md}(e:Ext F H m F' H' m'){a:A}{v:Value}(h:RA F H m a v):RA F' H' m' a v:=by
 cases a with
 |undef=>trivial
 |off=>exact h
 |c x=>exact RL.ext h e
 |st d=>obtain⟨b,rfl,h⟩:=h;exact⟨b,rfl,h.ext e⟩
 |ao f=>obtain⟨b,rfl,h⟩:=h;exact⟨b,rfl,RT.ext e h⟩
structure LS:Type 1 where
 sz:Nat
 α:Type
 enc:α->List C
 l:List α
def LS.part(L:LS)(lo n:Nat):LS:=⟨L.sz,L.α,L.enc,(L.l.drop lo).take n⟩
def rowOf:B->Option LS
 | .row b α a l| .bh b α a l=>some ⟨b,α,a,l⟩
 |_=>none
def lE(ah:List B):C->Option LS
 | .ls b α a l| .bs b α a l=>some ⟨b,α,a,l⟩
 | .rw j=>(ah[j]?).bind rowOf
 | .sw b j c n=>match(ah[j]?).bind rowOf with
  |some L=>bif d2 b L.sz then some (L.part c n)else none
  |none=>none
 |_=>none
def aC:B->Value->List Nat
 | .box _ _,.pointer (some a)=>[a.block]
 | .row ..,.slice (some a) _ (_+1)=>[a.block]
 | .buf ..,.slice (some a) _ (_+1)=>[a.block]
 |_,_=>[]
def BR(F:Nat->Prop)(H:ae)(m:Md):B->Value->Prop
 | .box i t,g=>∃k e h,g= .pointer (some ⟨k,0,none⟩)/\H[k]? =some (.cells (List.toArray h) (t.getD e) (0,0))/\RL F H m i h
 | .row f _ c l,g=>(∃p,g= .slice p 0 0/\l=[])\/∃k d cap b e a,g= .slice (some ⟨k,d,none⟩) l.length (cap+1)/\H[k]? =some (.cells b e (0,0))/\l.length<=cap+1/\cap+1<=maxLen/\
   d+(cap+1)*f<=b.size/\RL F H m0 (l.flatMap c) a/\(∀x∈l,(c x).length=f)/\(b.toList.drop d).take a.length=a
 | .bh f _ c l,g=>RL F H m0 [.ls f _ c l] [g]
 | .buf t f _ c l,g=>(∃p,g= .slice p 0 0/\l=[])\/∃k cap b a,g= .slice (some ⟨k,0,none⟩) l.length (cap+1)/\H[k]? =some (.cells b t (0,0))/\l.length<=cap+1/\cap+1<=maxLen/\
   (cap+1)*f<=b.size/\RL F H m0 (l.flatMap c) a/\(∀x∈l,(c x).length=f)/\b.toList.take a.length=a
 | .dead,_=>True
theorem BR.ext{F F':Nat->Prop}{H H':ae}{m m':Md}(e:Ext F H m F' H' m'){b:B}{g:Value}(hk:∀k∈aC b g,H'[k]? =H[k]?)(h:BR F H m b g):BR F' H' m' b g:=by
 cases b with
 |box v w=>
  obtain⟨k,t,u,rfl,f,i⟩:=h;exact⟨k,t,u,rfl,by rw[hk k (by simp[aC])];exact f,i.ext e⟩
 |row s α d l=>
  rcases h with h|⟨k,r,cap,c,t,a,rfl,f,i,j,n,o,p,q⟩
  ·exact .inl h
  ·exact .inr ⟨k,r,cap,c,t,a,rfl,by rw[hk k (by simp[aC])];exact f,i,j,n,o.ext e.m0,p,q⟩
 |bh s α d l=>exact RL.ext h e.m0
 |buf t s α d l=>
  rcases h with h|⟨k,cap,c,a,rfl,f,i,j,n,o,p,q⟩
  ·exact .inl h
  ·exact .inr ⟨k,cap,c,a,rfl,by rw[hk k (by simp[aC])];exact f,i,j,n,o.ext e.m0,p,q⟩
 |dead=>trivial
structure En where
 F0:Nat->Prop
 B:Nat->Prop
 own:Nat->Prop
 H0:ae
 γ0:List Value
structure WR(E:En)(F:Nat->Prop)(γ:List Value)(ah:List B)(H:ae):Prop where
 len:γ.length=ah.length
 br:∀(j:Nat) (b:B) (g:Value),ah[j]? =some b->γ[j]? =some g->BR F H ⟨E.B,γ⟩ b g
 disj:∀(i j:Nat) (b b':B) (g g':Value),i≠j->ah[i]? =some b->γ[i]? =some g->ah[j]? =some b'->γ[j]? =some g'->∀k,k∈aC b g->k∉aC b' g'
 nf:∀(j:Nat) (b:B) (g:Value) (k:Nat),ah[j]? =some b->γ[j]? =some g->k∈aC b g->¬F k/\¬E.B k
 fb:∀k,F k->k<H.size
 bb:∀k,E.B k->k<E.H0.size/\¬E.own k
 size:E.H0.size<=H.size
 cn:∀k,k<E.H0.size->¬E.own k->H[k]? =E.H0[k]?
 fmono:∀k,E.F0 k->F k
 fnew:∀k,F k->E.F0 k\/E.own k\/E.H0.size<=k
 onew:∀(j:Nat) (b:B) (g:Value) (k:Nat),ah[j]? =some b->γ[j]? =some g->k∈aC b g->E.own k\/E.H0.size<=k
 pre:∀(j:Nat) (v:Value),E.γ0[j]? =some v->γ[j]? =some v
 gl:∀p∈iw,E.F0 p.1/\¬E.own p.1/\lK E.H0 p
theorem WR.l5{E:En}{F:Nat->Prop}{γ:List Value}{ah:List B}{H:ae}(h:WR E F γ ah H)(p:Nat×(Array Value->Prop))(g:p∈iw):F p.1/\lK H p:=by
 obtain⟨a,b,e,t,f,c,d⟩:=h.gl p g;exact⟨h.fmono _ a,e,t,f,by rw[h.cn _ (bn.1 c).1 b];exact c,d⟩
theorem vD{H H':ae}{b o:Nat}{u:Value}(e:H'[b]? =H[b]?)(h:cell H b o=some u):cell H' b o=some u:=by
 unfold cell at*;rw[e];exact h
theorem fV{F:Nat->Prop}{H:ae}{m:Md}{b:B}{g:Value}(h:BR F H m b g):∀k∈aC b g,k<H.size:=by
 intro k a;cases b with
 |box o r=>
  obtain⟨i,t,s,rfl,d,q⟩:=h;simp[aC]at a;subst a;exact(bn.1 d).1
 |row j α c l=>
  rcases h with⟨p,rfl,_⟩|⟨i,n,cap,f,t,e,rfl,d,_⟩
  ·cases p<;>simp[aC]at a
  ·simp[aC]at a;subst a;exact(bn.1 d).1
 |bh j α c l=>simp[aC]at a
 |buf t j α c l=>
  rcases h with⟨p,rfl,_⟩|⟨i,cap,f,e,rfl,d,_⟩
  ·cases p<;>simp[aC]at a
  ·simp[aC]at a;subst a;exact(bn.1 d).1
 |dead=>simp[aC]at a
section
variable {E:En} {F:Nat->Prop} {γ:List Value} {ah:List B} {H H':ae}
theorem WR.ext(h:WR E F γ ah H){W:List Nat}(a:∀k∈W,¬F k/\¬E.B k)(e:au W H H')(γ':List Value):Ext F H ⟨E.B,γ⟩ F H' ⟨E.B,γ++γ'⟩:=
 ⟨λ_ h=>h,λb o u hb f=>gM f e (λd=>hb.elim (a b d).1 (a b d).2),λ_ h=>h,λj v c=>by
  have:=(be.1 c).1;rw[bi this];exact c⟩
theorem WR.ti(h:WR E F γ ah H){W:List Nat}(d:∀k∈W,E.own k\/E.H0.size<=k)(a:au W H H'):E.H0.size<=H'.size/\∀k,k<E.H0.size->¬E.own k->H'[k]? =E.H0[k]? :=by
 refine⟨dg h.size a.1,λk b c=>?_⟩;rw[a.2 k (cb b h.size) (λe=>(d k e).elim c (λf=>by omega))];exact h.cn k b c
theorem get_append{α:Type _}{l:List α}{x y:α}{j:Nat}(h:(l++[x])[j]? =some y):(j<l.length/\l[j]? =some y)\/(j=l.length/\y=x):=by
 by_cases b:j<l.length
 ·rw[bi b]at h;exact .inl ⟨b,h⟩
 ·obtain⟨a,e⟩:=be.1 h;have:j=l.length:=by simp at a;omega
  subst this;simp at e;exact .inr ⟨rfl,e.symm⟩
theorem pn{α:Type _}{l:List α}{x y:α}{i j:Nat}(h:(l.set i x)[j]? =some y):(j≠i/\l[j]? =some y)\/(j=i/\j<l.length/\y=x):=by
 rw[List.getElem?_set]at h;by_cases e:i=j
 ·subst e;rw[if_pos rfl]at h;split at h
  ·exact .inr ⟨rfl,by assumption,by simpa using h.symm⟩
  ·cases h
 ·rw[if_neg e]at h;exact .inl ⟨λa=>e a.symm,h⟩
theorem WR.aA(h:WR E F γ ah H){j:Nat}{b b1:B}{g:Value}(hj:ah[j]? =some b)(hg:γ[j]? =some g)(u:au (aC b g) H H')(ho:∀k∈aC b1 g,k∈aC b g)
  (w:BR F H' ⟨E.B,γ⟩ b1 g):WR E F γ (ah.set j b1) H':=by
 have J:=λk c=>h.nf j b g k hj hg c;have e:=h.ext (γ':=[]) J u;rw[bl]at e;obtain⟨z,D⟩:=h.ti (λk c=>h.onew j b g k hj hg c) u
 have q:∀{i l m},i≠j->ah[i]? =some l->γ[i]? =some m->∀k∈aC l m,H'[k]? =H[k]? :=λf s a k c=>
  u.2 k (fV (h.br _ _ _ s a) k c) (λK=>h.disj _ _ _ _ _ _ f s a hj hg k c K)
 have get:∀{i l m},(ah.set j b1)[i]? =some l->γ[i]? =some m->(i≠j/\ah[i]? =some l)\/(i=j/\l=b1/\m=g):=λf a=>by
  rcases pn f with r|⟨rfl,_,rfl⟩
  ·exact .inl r
  ·rw[hg]at a;exact .inr ⟨rfl,rfl,by simpa using a.symm⟩
 refine⟨by simp[h.len],λi l m f a=>?_,λi M l x m y o f a t d k c p=>?_,λi l m k f a c=>?_,λk c=>cb (h.fb k c) u.1,h.bb,z,D,h.fmono,h.fnew,λi l m k f a c=>?_,h.pre,h.gl⟩
 ·rcases get f a with⟨r,n⟩|⟨rfl,rfl,rfl⟩
  ·exact BR.ext e (q r n a) (h.br _ _ _ n a)
  ·exact w
 ·rcases get f a with⟨r,n⟩|⟨rfl,rfl,rfl⟩
  ·rcases get t d with⟨I,v⟩|⟨rfl,rfl,rfl⟩
   ·exact h.disj _ _ _ _ _ _ o n a v d k c p
   ·exact h.disj _ _ _ _ _ _ o n a hj hg k c (ho k p)
  ·rcases get t d with⟨I,v⟩|⟨rfl,rfl,rfl⟩
   ·exact h.disj _ _ _ _ _ _ o hj hg v d k (ho k c) p
   ·exact o rfl
 ·rcases get f a with⟨r,n⟩|⟨rfl,rfl,rfl⟩
  ·exact h.nf _ _ _ k n a c
  ·exact h.nf _ _ _ k hj hg (ho k c)
 ·rcases get f a with⟨r,n⟩|⟨rfl,rfl,rfl⟩
  ·exact h.onew _ _ _ k n a c
  ·exact h.onew _ _ _ k hj hg (ho k c)
theorem WR.same(h:WR E F γ ah H)(c:au [] H H'):WR E F γ ah H':=by
 have e:=h.ext (γ':=[]) (W:=[]) (λk a=>by cases a) c;rw[bl]at e;obtain⟨f,g⟩:=h.ti (W:=[]) (λk a=>by cases a) c;exact⟨h.len,λi j l d b=>BR.ext e (λk a=>c.2 k (fV (h.br _ _ _ d b) k a) (by simp)) (h.br _ _ _ d b),h.disj,h.nf,λk a=>cb (h.fb k a) c.1,h.bb,f,g,h.fmono,h.fnew,h.onew,h.pre,h.gl⟩
theorem WR.push(h:WR E F γ ah H)(u:au [] H H'){b:B}{g:Value}(ho:∀k∈aC b g,H.size<=k)(hb:BR F H' ⟨E.B,γ++[g]⟩ b g):WR E F (γ++[g]) (ah++[b]) H':=by
 have e:=h.ext (γ':=[g]) (W:=[]) (λk c=>by cases c) u;obtain⟨z,D⟩:=h.ti (W:=[]) (λk c=>by cases c) u
 have get:∀{i n o},(ah++[b])[i]? =some n->(γ++[g])[i]? =some o->(i<ah.length/\ah[i]? =some n/\γ[i]? =some o)\/(i=ah.length/\n=b/\o=g):=λl a=>by
  rcases get_append l with⟨p,d⟩|⟨p,d⟩
  ·rw[bi (by rw[h.len];exact p)]at a;exact .inl ⟨p,d,a⟩
  ·rcases get_append a with⟨f,r⟩|⟨f,r⟩
   ·rw[h.len]at f;omega
   ·exact .inr ⟨p,d,r⟩
 refine⟨by simp[h.len],λi n o l a=>?_,λi M n x o y t l a s m k c q=>?_,λi n o k l a c=>?_,λk c=>cb (h.fb k c) u.1,h.bb,z,D,h.fmono,h.fnew,λi n o k l a c=>?_,λj v K=>?_,h.gl⟩
 ·rcases get l a with⟨_,d,f⟩|⟨rfl,rfl,rfl⟩
  ·exact BR.ext e (λk c=>u.2 k (fV (h.br _ _ _ d f) k c) (by simp)) (h.br _ _ _ d f)
  ·exact hb
 ·rcases get l a with⟨_,d,f⟩|⟨rfl,rfl,rfl⟩
  ·rcases get s m with⟨_,r,w⟩|⟨rfl,rfl,rfl⟩
   ·exact h.disj _ _ _ _ _ _ t d f r w k c q
   ·have:=fV (h.br _ _ _ d f) k c;have:=ho k q;omega
  ·rcases get s m with⟨_,r,w⟩|⟨rfl,rfl,rfl⟩
   ·have:=fV (h.br _ _ _ r w) k q;have:=ho k c;omega
   ·exact t rfl
 ·rcases get l a with⟨_,d,f⟩|⟨rfl,rfl,rfl⟩
  ·exact h.nf _ _ _ k d f c
  ·have:=ho k c;exact⟨λJ=>by have:=h.fb k J;omega,λI=>by have:=(h.bb k I).1;have:=h.size;omega⟩
 ·rcases get l a with⟨_,d,f⟩|⟨rfl,rfl,rfl⟩
  ·exact h.onew _ _ _ k d f c
  ·have:=ho k c;have:=h.size;exact .inr (by omega)
 ·have p:=h.pre j v K;have:=(be.1 p).1;rw[bi this];exact p
theorem WR.move(h:WR E F γ ah H){j:Nat}{b b2:B}{g g2:Value}(hj:ah[j]? =some b)(hg:γ[j]? =some g)(y:au (aC b g) H H')(ho:∀k∈aC b2 g2,k∈aC b g\/H.size<=k)
  (hb:BR F H' ⟨E.B,γ++[g2]⟩ b2 g2):WR E F (γ++[g2]) (ah.set j .dead++[b2]) H':=by
 have O:=(be.1 hj).1;have M:=λk c=>h.nf j b g k hj hg c;have e:=h.ext (γ':=[g2]) M y;obtain⟨I,J⟩:=h.ti (λk c=>h.onew j b g k hj hg c) y
 have s:∀{i n q},i≠j->ah[i]? =some n->γ[i]? =some q->∀k∈aC n q,H'[k]? =H[k]? :=λp t a k c=>
  y.2 k (fV (h.br _ _ _ t a) k c) (λP=>h.disj _ _ _ _ _ _ p t a hj hg k c P)
 have get:∀{i n q},(ah.set j .dead++[b2])[i]? =some n->(γ++[g2])[i]? =some q->(i≠j/\ah[i]? =some n/\γ[i]? =some q)\/(n= .dead)\/(i=ah.length/\n=b2/\q=g2):=λp a=>by
  rcases get_append p with⟨f,l⟩|⟨f,l⟩
  ·rw[d1]at f;rw[bi (by rw[h.len];exact f)]at a;rcases pn l with⟨d,o⟩|⟨_,_,o⟩
   ·exact .inl ⟨d,o,a⟩
   ·exact .inr (.inl o)
  ·rw[d1]at f;rcases get_append a with⟨d,o⟩|⟨d,o⟩
   ·rw[h.len]at d;omega
   ·exact .inr (.inr ⟨f,l,o⟩)
 refine⟨by simp[h.len],λi n q p a=>?_,λi Q n z q D w p a u r k c m=>?_,λi n q k p a c=>?_,λk c=>cb (h.fb k c) y.1,h.bb,I,J,h.fmono,h.fnew,λi n q k p a c=>?_,λj v hj=>?_,h.gl⟩
 ·rcases get p a with⟨f,l,d⟩|rfl|⟨rfl,rfl,rfl⟩
  ·exact BR.ext e (s f l d) (h.br _ _ _ l d)
  ·trivial
  ·exact hb
 ·rcases get p a with⟨f,l,d⟩|rfl|⟨rfl,rfl,rfl⟩
  ·rcases get u r with⟨_,o,x⟩|rfl|⟨rfl,rfl,rfl⟩
   ·exact h.disj _ _ _ _ _ _ w l d o x k c m
   ·simp[aC]at m
   ·rcases ho k m with h8|h8
    ·exact h.disj _ _ _ _ _ _ f l d hj hg k c h8
    ·have:=fV (h.br _ _ _ l d) k c;omega
  ·simp[aC]at c
  ·rcases get u r with⟨f,o,x⟩|rfl|⟨rfl,rfl,rfl⟩
   ·rcases ho k c with h8|h8
    ·exact h.disj _ _ _ _ _ _ f o x hj hg k m h8
    ·have:=fV (h.br _ _ _ o x) k m;omega
   ·simp[aC]at m
   ·exact w rfl
 ·rcases get p a with⟨_,l,d⟩|rfl|⟨rfl,rfl,rfl⟩
  ·exact h.nf _ _ _ k l d c
  ·simp[aC]at c
  ·rcases ho k c with h8|h8
   ·exact h.nf _ _ _ k hj hg h8
   ·exact⟨λN=>by have:=h.fb k N;omega,λK=>by have:=(h.bb k K).1;have:=h.size;omega⟩
 ·rcases get p a with⟨_,l,d⟩|rfl|⟨rfl,rfl,rfl⟩
  ·exact h.onew _ _ _ k l d c
  ·simp[aC]at c
  ·rcases ho k c with h8|h8
   ·exact h.onew _ _ _ k hj hg h8
   ·have:=h.size;exact .inr (by omega)
 ·have f:=h.pre j v hj;have:=(be.1 f).1;rw[bi this];exact f
theorem WR.freeze(h:WR E F γ ah H){j sz:Nat}{α:Type}{enc:α->List C}{l:List α}(hj:ah[j]? =some (.row sz α enc l)):
  ∃F',(∀k,F k->F' k)/\WR E F' γ (ah.set j (.bh sz α enc l)) H/\∀g,γ[j]? =some g->RL F' H m0 [.ls sz α enc l] [g]:=by
 have x:=(be.1 hj).1;obtain⟨g,r⟩:∃g,γ[j]? =some g:=⟨γ[j]'(by rw[h.len];exact x),ch _⟩;let F':=λk=>F k\/k∈aC (.row sz α enc l) g
 have e:Ext F H ⟨E.B,γ⟩ F' H ⟨E.B,γ⟩:=⟨λ_ h=>.inl h,λ_ _ _ _ h=>h,λ_ h=>h,λ_ _ h=>h⟩
 have m:RL F' H m0 [.ls sz α enc l] [g]:=by
  rcases h.br _ _ _ hj r with⟨p,rfl,rfl⟩|⟨k,R,cap,J,t,I,rfl,M,N,f,d,z,v,O⟩
  ·exact .ct .nl
  ·refine .ls (b:=k) (.inr (by simp[aC])) N f (z.ext e.m0) v (λi u c=>?_) .nl;unfold cell;rw[M];rw[<-O,b4]at c;split at c
   ·rw[ci]at c;simpa using c
   ·cases c
 refine⟨F',λ_ h=>.inl h,?_,λq a=>by rw[r]at a;cases a;exact m⟩
 have get:∀{i o q},(ah.set j (.bh sz α enc l))[i]? =some o->γ[i]? =some q->(i≠j/\ah[i]? =some o)\/(i=j/\o= .bh sz α enc l/\q=g):=λc a=>by
  rcases pn c with f|⟨rfl,_,rfl⟩
  ·exact .inl f
  ·rw[r]at a;exact .inr ⟨rfl,rfl,by simpa using a.symm⟩
 refine⟨by simp[h.len],λi o q c a=>?_,λi S o D q K y c a w n k hk s=>?_,λi o q k c a hk=>?_,λk hk=>?_,h.bb,h.size,h.cn,λk hk=>.inl (h.fmono k hk),λk hk=>?_,λi o q k c a hk=>?_,h.pre,h.gl⟩
 ·rcases get c a with⟨f,d⟩|⟨rfl,rfl,rfl⟩
  ·exact BR.ext e (λ_ _=>rfl) (h.br _ _ _ d a)
  ·exact m
 ·rcases get c a with⟨f,d⟩|⟨rfl,rfl,rfl⟩
  ·rcases get w n with⟨z,v⟩|⟨rfl,rfl,rfl⟩
   ·exact h.disj _ _ _ _ _ _ y d a v n k hk s
   ·simp[aC]at s
  ·simp[aC]at hk
 ·rcases get c a with⟨f,d⟩|⟨rfl,rfl,rfl⟩
  ·exact⟨λP=>P.elim (h.nf _ _ _ k d a hk).1 (λQ=>h.disj _ _ _ _ _ _ f d a hj r k hk Q),(h.nf _ _ _ k d a hk).2⟩
  ·simp[aC]at hk
 ·rcases hk with hk|hk
  ·exact h.fb k hk
  ·exact fV (h.br _ _ _ hj r) k hk
 ·rcases hk with hk|hk
  ·exact h.fnew k hk
  ·exact .inr (h.onew _ _ _ k hj r hk)
 ·rcases get c a with⟨f,d⟩|⟨rfl,rfl,rfl⟩
  ·exact h.onew _ _ _ k d a hk
  ·simp[aC]at hk
end
def SV(F:Nat->Prop)(H:ae)(L:LS)(v:Value):Prop:=
 (∃p,v= .slice p 0 0/\L.l=[])\/∃b c cap a,v= .slice (some ⟨b,c,none⟩) L.l.length cap/\L.l.length<=cap/\cap<=maxLen/\RL F H m0 (L.l.flatMap L.enc) a/\
  (∀x∈L.l,(L.enc x).length=L.sz)/\∀j u,a[j]? =some u->cell H b (c+j)=some u
theorem jD{α:Type}{enc:α->List C}{sz:Nat}:∀{l:List α},(∀x∈l,(enc x).length=sz)->(l.flatMap enc).length=l.length*sz
 |[],_=>by simp
 |x::l,h=>by
  rw[cd,cf,h x (by simp),jD (λy a=>h y (by simp[a])),c1,b3,dj]
theorem oe{α:Type}{enc:α->List C}{sz:Nat}:∀{l:List α} (i:Nat),(∀x∈l,(enc x).length=sz)->(l.flatMap enc).drop (i*sz)=(l.drop i).flatMap enc
 |[],i,_=>by simp
 |x::l,0,_=>by simp
 |x::l,i+1,h=>by
  rw[cd,List.drop_succ_cons,b3,dj,<-d3,<-h x (by simp),List.drop_left,h x (by simp)];exact oe i (λy a=>h y (by simp[a]))
theorem ph{α:Type}{enc:α->List C}{sz:Nat}:∀{l:List α} (i:Nat),(∀x∈l,(enc x).length=sz)->(l.flatMap enc).take (i*sz)=(l.take i).flatMap enc
 |[],i,_=>by simp
 |x::l,0,_=>by simp
 |x::l,i+1,h=>by
  have a:=h x (by simp);rw[cd,List.take_succ_cons,cd,b3,dj,<-a,List.take_length_add_append,a,ph i (λy b=>h y (by simp[b]))]
section
variable {E:En} {F:Nat->Prop} {γ:List Value} {ah:List B} {H H':ae} {m:Md}
theorem RL.sv{sz:Nat}{α:Type}{enc:α->List C}{l:List α}{v:Value}(h:RL F H m [.ls sz α enc l] [v]):SV F H ⟨sz,α,enc,l⟩ v:=by
 cases h with
 |ct _=>exact .inl ⟨_,rfl,rfl⟩
 |ls hb a b d e c _=>exact .inr ⟨_,_,_,_,rfl,a,b,d,e,c⟩
theorem my{b:B}{g:Value}{L:LS}(h:BR F H m b g)(a:rowOf b=some L):SV F H L g:=by
 cases b with
 |box x z=>cases a
 |dead=>cases a
 |buf=>cases a
 |row w α d l=>
  cases a;rcases h with⟨p,rfl,rfl⟩|⟨k,v,cap,f,t,e,rfl,i,n,o,y,q,r,s⟩
  ·exact .inl ⟨_,rfl,rfl⟩
  ·refine .inr ⟨_,_,_,_,rfl,n,o,q,r,λj u c=>?_⟩;unfold cell;rw[i];rw[<-s,b4]at c;split at c
   ·rw[ci]at c;simpa using c
   ·cases c
 |bh w α d l=>cases a;exact RL.sv h
theorem SV.slice{L:LS}{v:Value}(h:SV F H L v):∃p cap,v= .slice p L.l.length cap/\L.l.length<=cap/\cap<=maxLen:=by
 rcases h with⟨p,rfl,e⟩|⟨b,f,cap,a,rfl,c,d,_⟩
 ·exact⟨p,0,by rw[e];rfl,by rw[e];exact c4 _,Nat.zero_le _⟩
 ·exact⟨_,_,rfl,c,d⟩
theorem SV.part{L:LS}{p:Option Addr}{n0 cap lo n:Nat}(h:SV F H L (.slice p n0 cap))(t:lo+n<=n0):SV F H (L.part lo n) (gZ L.sz lo n (.slice p n0 cap)):=by
 have E:L.l.length=n0:=by
  obtain⟨w,c,e,_⟩:=h.slice;cases e;rfl
 rcases h with⟨w,e,y⟩|⟨b,g,c,i,e,z,D,v,m,s⟩
 ·cases e;obtain rfl:lo=0:=by omega
  obtain rfl:n=0:=by omega
  exact .inl ⟨p,by simp[gZ],by simp[LS.part]⟩
 ·cases e;have a:(L.part lo n).l.length=n:=by simp[LS.part];omega
  by_cases d:cap=lo
  ·subst d;obtain rfl:n=0:=by omega
   refine .inl ⟨some ⟨b,g,none⟩,by simp[gZ],a9 a⟩
  ·have o:∀x∈(L.part lo n).l,(L.enc x).length=L.sz:=λx k=>m x (dc (List.mem_of_mem_take k))
   have q:(L.part lo n).l.flatMap L.enc=((L.l.flatMap L.enc).drop (lo*L.sz)).take (n*L.sz):=by
    have r:∀x∈L.l.drop lo,(L.enc x).length=L.sz:=λx k=>m x (dc k);rw[oe lo m,ph n r];rfl
   refine .inr ⟨b,g+lo*L.sz,cap-lo,(i.drop (lo*L.sz)).take (n*L.sz),by simp[gZ,d,Addr.add_lit,a],by rw[a];omega,by omega,?_,o,λj u f=>?_⟩
   ·show RL F H m0 ((L.part lo n).l.flatMap L.enc) _;rw[q];exact(v.drop _).take _
   ·rw[b4]at f;split at f
    ·rw[ci]at f;rw[d6];exact s _ _ f
    ·cases f
theorem SV.ML{L:LS}{p q:Option Addr}{n0 cap lo n:Nat}(h:SV F H L (.slice p n0 cap))(b:lo+n<=n0)(hq:cap≠lo->q=p.map (·.add (lo*L.sz))):SV F H (L.part lo n) (.slice q n (cap-lo)):=by
 by_cases e:cap=lo
 ·have g:L.l.length=n0:=by
   obtain⟨d,a,e,_⟩:=h.slice;cases e;rfl
  obtain⟨d,a,c,f,_⟩:=h.slice;cases c;obtain rfl:n=0:=by omega
  exact .inl ⟨q,by rw[e,Nat.sub_self],by simp[LS.part]⟩
 ·have:=h.part b;simp only[gZ,if_neg e]at this;rw[hq e];exact this
theorem SV.elem{L:LS}{b off n cap:Nat}(h:SV F H L (.slice (some ⟨b,off,none⟩) n cap)){i:Nat}{x:L.α}(hi:L.l[i]? =some x):
  ∃us,RL F H m0 (L.enc x) us/\∀j u,us[j]? =some u->cell H b (off+i*L.sz+j)=some u:=by
 obtain⟨a,k⟩:=be.1 hi;rcases h with⟨p,e,m⟩|⟨b,off,f,d,e,r,s,q,g,o⟩
 ·rw[m]at a;cases a
 ·cases e
  have l:L.enc x=((L.l.flatMap L.enc).drop (i*L.sz)).take L.sz:=by
   rw[oe i g,List.drop_eq_getElem_cons a,k,cd,<-g x (List.mem_of_getElem? hi),co]
  refine⟨(d.drop (i*L.sz)).take L.sz,by rw[l];exact(q.drop _).take _,λj u c=>?_⟩;rw[b4]at c;split at c
  ·rw[ci]at c;rw[d6];exact o _ _ c
  ·cases c
theorem SV.some{L:LS}{v:Value}(h:SV F H L v)(hl:0<L.l.length):∃b off cap,v= .slice (some ⟨b,off,none⟩) L.l.length cap:=by
 rcases h with⟨p,e,d⟩|⟨b,off,a,c,e,_⟩
 ·rw[d]at hl;cases hl
 ·exact⟨_,_,_,e⟩
theorem SV.ptr{L:LS}{p q:Option Addr}{n cap:Nat}(h:SV F H L (.slice p n cap))(hq:cap≠0->q=p):SV F H L (.slice q n cap):=by
 by_cases e:cap=0
 ·obtain⟨d,a,b,c,_⟩:=h.slice;cases b;have:L.l=[]:=a9 (by omega);exact .inl ⟨q,by rw[this,e];rfl,this⟩
 ·rw[hq e];exact h
theorem WR.sl(h:WR E F γ ah H){c:C}{v:Value}{L:LS}(hc:RL F H ⟨E.B,γ⟩ [c] [v])(a:lE ah c=some L):SV F H L v:=by
 cases c with
 |ls m α f l=>cases a;exact hc.sv
 |bs m α f l=>
  cases a;cases hc with
  |eg _=>exact .inl ⟨_,rfl,rfl⟩
  |bs hb o p e d hc _=>exact .inr ⟨_,_,_,_,rfl,o,p,e,d,hc⟩
 |rw j=>
  cases hc with
  |rw g k _=>
   simp only[lE]at a;cases hb:ah[j]? with
   |none=>rw[hb]at a;cases a
   |some b=>rw[hb]at a;exact(my (h.br j b _ hb g) a).ptr k
 |sw m j q n=>
  cases hc with
  |sw g i k _=>
   simp only[lE]at a;cases hb:ah[j]? with
   |none=>rw[hb]at a;cases a
   |some b=>
    rw[hb]at a;cases e:rowOf b with
    |none=>rw[show Option.bind (Option.some b) rowOf=none from e]at a;cases a
    |some L0=>
     rw[show Option.bind (Option.some b) rowOf=some L0 from e]at a;simp only[]at a;by_cases d:d2 m L0.sz=true
     ·rw[d]at a;cases a;obtain rfl:=c6 d;exact(my (h.br j b _ hb g) e).ML i k
     ·rw[dq]at d;rw[d]at a;cases a
 |_=>cases a
end
end Go.AM
end
