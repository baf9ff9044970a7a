import Derived.Deep.Quiet
import Derived.StillTail
import Derived.Tactics2
import Derived.IntWalk
open Bool renaming not_eq_true->W
open Nat renaming eq_of_beq_eq_true->S,le_trans->T,lt_of_lt_of_le->U,le_refl->Y,beq->Z
namespace Go.NB
abbrev ae:=Array Obj
structure bA(w w':World):Prop where
 os:w'.os=w.os
 tape:w'.tape=w.tape
 output:w'.output=w.output
 drawn:w.drawn<=w'.drawn
theorem bA.of{w w':World}(h1:w'.os=w.os)(h2:w'.tape=w.tape)(a:w'.output=w.output)(b:w.drawn<=w'.drawn:=by first|exact Nat.le_refl _|exact Nat.le_succ _):bA w w':=⟨h1,h2,a,b⟩
theorem bA.refl(w:World):bA w w:=⟨rfl,rfl,rfl,Y _⟩
theorem bA.trans{a b c:World}(h:bA a b)(k:bA b c):bA a c:=⟨k.os.trans h.os,k.tape.trans h.tape,k.output.trans h.output,T h.drawn k.drawn⟩
def au(M:List Nat)(H H':ae):Prop:=H.size<=H'.size/\∀k,k<H.size->k∉M->H'[k]? =H[k]?
theorem au.refl(M:List Nat)(H:ae):au M H H:=⟨Y _,λ_ _ _=>rfl⟩
theorem au.trans{M:List Nat}{a b c:ae}(h:au M a b)(k:au M b c):au M a c:=
 ⟨T h.1 k.1,λi d e=>(k.2 i (U d h.1) e).trans (h.2 i d e)⟩
theorem au.mono{M M':List Nat}{a b:ae}(h:au M a b)(e:∀k,k∈M->k∈M'):au M' a b:=
 ⟨h.1,λi c d=>h.2 i c (λf=>d (e i f))⟩
theorem au.nil{M:List Nat}{a b:ae}(h:au [] a b):au M a b:=h.mono (λ_ c=>by cases c)
theorem au.push(M:List Nat)(H:ae)(o:Obj):au M H (H.push o):=
 ⟨by simp,λk a _=>by rw[Array.getElem?_push,if_neg (by omega)]⟩
theorem au.drop{M M':List Nat}{a b:ae}(h:au M a b)(f:∀k,k∈M->k∈M'\/a.size<=k):au M' a b:=
 ⟨h.1,λi c e=>h.2 i c (λg=>(f i g).elim e (λd=>by omega))⟩
theorem au.then{M M':List Nat}{a b c:ae}(h:au M a b)(k:au M' b c)(g:∀i,i∈M'->i∈M\/a.size<=i):au M a c:=
 ⟨T h.1 k.1,λi d e=>(k.2 i (U d h.1) (λj=>(g i j).elim e (λf=>by omega))).trans (h.2 i d e)⟩
abbrev Env:=List (Nat×Bool×Value)
def look:Env->Nat->Option (Bool×Value)
 |[],_=>none
 |(t,g,v)::r,s=>bif Z t s then some (g,v)else look r s
structure Cx where
 P:Program
 n:Nat
 ds:List Deferred
 W0:World
structure Fr(c:Cx)(env:Env)(a:Act):Prop where
 size:a.tmps.size=c.n
 defers:a.defers=c.ds
 slot:∀t g v,look env t=some (g,v)->a.tmps.getD t undef=bif g then v else undef
def Sub:Env->Env->Prop
 |[],_=>True
 |(t,g,v)::r,e=>look e t=some (g,v)/\Sub r e
theorem Sub.look:∀{e e':Env},Sub e e'->∀{t g v},look e t=some (g,v)->NB.look e' t=some (g,v)
 |[],_,_,_,_,_,h=>by cases h
 |(s,b,c)::r,e',a,t,g,v,h=>by
  unfold NB.look at h;by_cases hb:Z s t=true
  ·rw[hb]at h;simp at h;obtain⟨rfl,rfl⟩:=h;have:=S hb;subst this;exact a.1
  ·rw[W]at hb;rw[hb]at h;exact Sub.look a.2 h
theorem Fr.sub{c:Cx}{e e':Env}{a:Act}(h:Fr c e' a)(d:Sub e e'):Fr c e a:=
 ⟨h.size,h.defers,λt g v b=>h.slot t g v (d.look b)⟩
theorem Fr.put{c:Cx}{env:Env}{a:Act}(h:Fr c env a){d:Nat}(hd:d<c.n)(g:Bool)(v:Value):
  Fr c ((d,g,v)::env) (a.put (some d) (bif g then v else undef)):=by
 refine⟨by simp[Act.put,h.size],by simp[Act.put,h.defers],λt i j b=>?_⟩;unfold NB.look at b;by_cases hb:Z d t=true
 ·rw[hb]at b;simp at b;obtain⟨rfl,rfl⟩:=b;have:=S hb;subst this;simp[Act.put,Array.getD,h.size,hd]
 ·rw[W]at hb;rw[hb]at b;have f:d≠t:=λe=>by subst e;simp at hb
  have:=h.slot t i j b;rw[<-this];simp[Act.put,Array.getD_eq_getD_getElem?,f]
def ev(env:Env):Operand->Option (Bool×Value)
 | .tmp t=>look env t
 | .const v=>some (true,v)
 | .global g=>some (true,.pointer (some ⟨g,0,none⟩))
 | .func f=>some (true,.func (.func f) #[] #[])
def Ev(env:Env)(x:Operand)(v:Value):Prop:=∃g,ev env x=some (g,v)/\g=true
theorem Fr.eval{c:Cx}{env:Env}{a:Act}(h:Fr c env a){x:Operand}{v:Value}(d:Ev env x v):a.eval x=v:=by
 obtain⟨g,b,rfl⟩:=d;cases x with
 |tmp t=>exact h.slot t true v b
 |const u=>simp[ev]at b;exact b
 |global g=>simp[ev]at b;exact b
 |func f=>simp[ev]at b;exact b
def NX(c:Cx)(env:Env)(H:ae)(K:Act->World->Prop):Prop:=∀a w,Fr c env a->w.heap=H->bA c.W0 w->K a w
def WC(c:Cx)(code:Code)(env:Env)(H:ae)(Q:Exit->Act->World->Prop):Prop:=∀a w,Fr c env a->w.heap=H->bA c.W0 w->code.wp c.P Q a w
def WL(c:Cx)(ops:Array Oper)(l:List Oper)(env:Env)(H:ae)(Q:Exit->Act->World->Prop):Prop:=
 ∀a w,Fr c env a->w.heap=H->bA c.W0 w->wpList c.P ops Q l a w
section rules
variable {c:Cx} {env:Env} {H:ae} {Q:Exit->Act->World->Prop}
theorem WC.sub{code:Code}{e':Env}(e:Sub e' env)(h:WC c code e' H Q):WC c code env H Q:=λa w d f b=>h a w (d.sub e) f b
theorem WC.skip(h:NX c env H (Q .normal)):WC c .skip env H Q:=λa w d e b=>wp_skip (h a w d e b)
theorem WC.exit{id:Nat}(h:NX c env H (Q (.exit id))):WC c (.exit id) env H Q:=λa w d e b=>wp_exit (h a w d e b)
theorem WC.ret(h:NX c env H (Q .ret)):WC c .ret env H Q:=λa w d e b=>wp_ret (h a w d e b)
theorem WC.seq{x y:Code}(h:WC c x env H (Exit.then (y.wp c.P Q) Q)):WC c (.seq x y) env H Q:=λa w d e b=>wp_seq (h a w d e b)
theorem WC.block{id:Nat}{x:Code}(h:WC c x env H (Exit.inBlock id Q)):WC c (.block id x) env H Q:=λa w d e b=>wp_block (h a w d e b)
theorem WC.cond{x:Operand}{s t:Code}{b:Bool}(i:Ev env x (.bool b))(h:b=true->WC c s env H Q)(g:b=false->WC c t env H Q):WC c (.cond x s t) env H Q:=
 λa w d f e=>wp_cond_split (d.eval i) (λhb=>h hb a w d f e) (λhb=>g hb a w d f e)
theorem WC.region{id:Nat}{l:List Oper}(h:WL c l.toArray l env H Q):WC c (.region id l.toArray false) env H Q:=λa w d e b=>wp_region_lit (h a w d e b)
theorem WL.nil{ops:Array Oper}(h:NX c env H (Q .normal)):WL c ops [] env H Q:=λa w d e b=>wpList_nil (h a w d e b)
theorem NX.go{y:Code}(h:WC c y env H Q):NX c env H (Exit.then (y.wp c.P Q) Q .normal):=h
theorem NX.lB{y:Act->World->Prop}{id:Nat}(h:NX c env H (Q (.exit id))):NX c env H (Exit.then y Q (.exit id)):=h
theorem NX.dJ{y:Act->World->Prop}(h:NX c env H (Q .ret)):NX c env H (Exit.then y Q .ret):=h
theorem NX.jz{id:Nat}(h:NX c env H (Q .normal)):NX c env H (Exit.inBlock id Q .normal):=h
theorem NX.qt{id:Nat}(h:NX c env H (Q .normal)):NX c env H (Exit.inBlock id Q (.exit id)):=λa w d e b=>by
 show(if id=id then Q .normal a w else Q (.exit id) a w);rw[if_pos rfl];exact h a w d e b
def jt(c:Cx)(J:Env->ae->Prop)(a:Act)(w:World):Prop:=∃env,J env w.heap/\Fr c env a/\bA c.W0 w
def Head(c:Cx)(I:Nat->Env->ae->Prop)(m:Nat)(a:Act)(w:World):Prop:=∃m' env,I m' env w.heap/\Fr c env a/\bA c.W0 w/\m'<m
theorem Head.mk{I:Nat->Env->ae->Prop}{m m':Nat}{e':Env}(b:I m' e' H)(e:Sub e' env)(hm:m'<m):NX c env H (Exit.then (Head c I m) Q .normal):=
 λ_ w d f a=>⟨m',e',by rw[f];exact b,d.sub e,a,hm⟩
theorem WC.loop{d:Code}(I:Nat->Env->ae->Prop){m0:Nat}{e0:Env}(K:I m0 e0 H)(N:Sub e0 env)
  (i:∀m e H',I m e H'->WC c d e H' (Exit.then (Head c I m) Q)):WC c (.loop d) env H Q:=by
 intro a w v O s b k q
 have E:∀m (a:Act) (w:World),(∃e,I m e w.heap/\Fr c e a/\bA c.W0 w)->
   ∃e o p,Q e o p/\Arrives c.P (lone (b.at a (.code d:: .inLoop d::k)) q w) b k q e o p:=by
  intro m;induction m using Nat.strongRecOn with
  |_ m ih=>
   intro a w ⟨e,M,v,s⟩;obtain⟨ex,j,n,g,f⟩:=i m e w.heap M a w v rfl s b (.inLoop d::k) q;cases ex with
   |normal=>
    obtain⟨m',J,u,y,t,z⟩:=g;obtain⟨r,F,P,D,h⟩:=ih m' z j n ⟨J,u,y,t⟩;exact⟨r,F,P,D,.of_steps (Steps.trans f (.one step_inLoop)) h⟩
   |exit id=>exact⟨_,j,n,g,.pass (x:= .inLoop d) rfl (λ_ _=>.inl (by simp)) f⟩
   |goto l=>exact⟨_,j,n,g,.pass (x:= .inLoop d) rfl (λ_ _=>.inl (by simp)) f⟩
   |ret=>exact⟨_,j,n,g,.pass (x:= .inLoop d) rfl (λ_ _=>.inl (by simp)) f⟩
   |panic R=>exact⟨_,j,n,g,.pass (x:= .inLoop d) rfl (λ_ _=>.inl (by simp)) f⟩
   |outgrown=>exact⟨_,j,n,g,.pass (x:= .inLoop d) rfl (λ_ _=>.inl (by simp)) f⟩
 obtain⟨e,o,p,g,f⟩:=E m0 a w ⟨e0,by rw[O];exact K,v.sub N,s⟩;exact⟨e,o,p,g,.of_steps (.one step_loop) f⟩
end rules
end Go.NB
