/- part -/
import Derived.Deep.Quiet
import Derived.StillTail
import Derived.Tactics2
import Derived.IntWalk
namespace Go.NB
abbrev ab:=Array Obj
structure bd(w w':World):Prop where
 os:w'.os=w.os
 tape:w'.tape=w.tape
 output:w'.output=w.output
 drawn:w.drawn≤w'.drawn
theorem bd.of{w w':World}(h1:w'.os=w.os)(h2:w'.tape=w.tape)(h3:w'.output=w.output)(h4:w.drawn≤w'.drawn:=by first|exact Nat.le_refl _|exact Nat.le_succ _):bd w w':=⟨h1,h2,h3,h4⟩
theorem bd.refl(w:World):bd w w:=⟨rfl,rfl,rfl,Nat.le_refl _⟩
theorem bd.trans{a b c:World}(h:bd a b)(k:bd b c):bd a c:=⟨k.os.trans h.os,k.tape.trans h.tape,k.output.trans h.output,Nat.le_trans h.drawn k.drawn⟩
def ak(M:List Nat)(H H':ab):Prop:=H.size≤H'.size∧∀k,k<H.size→k∉M→H'[k]? =H[k]?
theorem ak.refl(M:List Nat)(H:ab):ak M H H:=⟨Nat.le_refl _,fun _ _ _=>rfl⟩
theorem ak.trans{M:List Nat}{a b c:ab}(h:ak M a b)(k:ak M b c):ak M a c:=
 ⟨Nat.le_trans h.1 k.1,fun i hi hm=>(k.2 i (Nat.lt_of_lt_of_le hi h.1) hm).trans (h.2 i hi hm)⟩
theorem ak.mono{M M':List Nat}{a b:ab}(h:ak M a b)(hs:∀k,k∈M→k∈M'):ak M' a b:=
 ⟨h.1,fun i hi hm=>h.2 i hi (fun hx=>hm (hs i hx))⟩
theorem ak.nil{M:List Nat}{a b:ab}(h:ak [] a b):ak M a b:=h.mono (fun _ hk=>by cases hk)
theorem ak.push(M:List Nat)(H:ab)(o:Obj):ak M H (H.push o):=
 ⟨by simp,fun k hk _=>by rw[Array.getElem?_push,if_neg (by omega)]⟩
theorem ak.drop{M M':List Nat}{a b:ab}(h:ak M a b)(hs:∀k,k∈M→k∈M'∨a.size≤k):ak M' a b:=
 ⟨h.1,fun i hi hm=>h.2 i hi (fun hx=>(hs i hx).elim hm (fun hle=>by omega))⟩
theorem ak.then{M M':List Nat}{a b c:ab}(h:ak M a b)(k:ak M' b c)(hs:∀i,i∈M'→i∈M∨a.size≤i):ak M a c:=
 ⟨Nat.le_trans h.1 k.1,fun i hi hm=>(k.2 i (Nat.lt_of_lt_of_le hi h.1) (fun hx=>(hs i hx).elim hm (fun hle=>by omega))).trans (h.2 i hi hm)⟩
abbrev Env:=List (Nat×Bool×Value)
def look:Env→Nat→Option (Bool×Value)
 |[],_=>none
 |(t,g,v)::r,s=>bif Nat.beq t s then some (g,v)else look r s
structure Cx where
 P:Program
 n:Nat
 ds:List Deferred
 W0:World
structure Fr(c:Cx)(env:Env)(a:Act):Prop where
 size:a.tmps.size=c.n
 defers:a.defers=c.ds
 slot:∀t g v,look env t=some (g,v)→a.tmps.getD t undef=bif g then v else undef
def Sub:Env→Env→Prop
 |[],_=>True
 |(t,g,v)::r,e=>look e t=some (g,v)∧Sub r e
theorem Sub.look:∀{e e':Env},Sub e e'→∀{t g v},look e t=some (g,v)→NB.look e' t=some (g,v)
 |[],_,_,_,_,_,h=>by cases h
 |(s,g',v')::r,e',hs,t,g,v,h=>by
  unfold NB.look at h;by_cases hb:Nat.beq s t=true
  ·rw[hb]at h;simp at h;obtain⟨rfl,rfl⟩:=h;have:=Nat.eq_of_beq_eq_true hb;subst this;exact hs.1
  ·rw[Bool.not_eq_true]at hb;rw[hb]at h;exact Sub.look hs.2 h
theorem Fr.sub{c:Cx}{e e':Env}{a:Act}(h:Fr c e' a)(hs:Sub e e'):Fr c e a:=
 ⟨h.size,h.defers,fun t g v hl=>h.slot t g v (hs.look hl)⟩
theorem Fr.put{c:Cx}{env:Env}{a:Act}(h:Fr c env a){d:Nat}(hd:d<c.n)(g:Bool)(v:Value):
  Fr c ((d,g,v)::env) (a.put (some d) (bif g then v else undef)):=by
 refine⟨by simp[Act.put,h.size],by simp[Act.put,h.defers],fun t g' v' hl=>?_⟩;unfold NB.look at hl;by_cases hb:Nat.beq d t=true
 ·rw[hb]at hl;simp at hl;obtain⟨rfl,rfl⟩:=hl;have:=Nat.eq_of_beq_eq_true hb;subst this;simp[Act.put,Array.getD,h.size,hd]
 ·rw[Bool.not_eq_true]at hb;rw[hb]at hl;have hne:d≠t:=fun e=>by subst e;simp at hb
  have:=h.slot t g' v' hl;rw[←this];simp[Act.put,Array.getD_eq_getD_getElem?,hne]
def ev(env:Env):Operand→Option (Bool×Value)
 | .tmp t=>look env t
 | .const v=>some (true,v)
 | .global g=>some (true,.pointer (some ⟨g,0,none⟩))
 | .func f=>some (true,.func (.func f) #[] #[])
def Ev(env:Env)(x:Operand)(v:Value):Prop:=∃g,ev env x=some (g,v)∧g=true
theorem Fr.eval{c:Cx}{env:Env}{a:Act}(h:Fr c env a){x:Operand}{v:Value}(hx:Ev env x v):a.eval x=v:=by
 obtain⟨g,hv,rfl⟩:=hx;cases x with
 |tmp t=>exact h.slot t true v hv
 |const u=>simp[ev]at hv;exact hv
 |global g=>simp[ev]at hv;exact hv
 |func f=>simp[ev]at hv;exact hv
def NX(c:Cx)(env:Env)(H:ab)(K:Act→World→Prop):Prop:=∀a w,Fr c env a→w.heap=H→bd c.W0 w→K a w
def WC(c:Cx)(code:Code)(env:Env)(H:ab)(Q:Exit→Act→World→Prop):Prop:=∀a w,Fr c env a→w.heap=H→bd c.W0 w→code.wp c.P Q a w
def WL(c:Cx)(ops:Array Oper)(l:List Oper)(env:Env)(H:ab)(Q:Exit→Act→World→Prop):Prop:=
 ∀a w,Fr c env a→w.heap=H→bd c.W0 w→wpList c.P ops Q l a w
section rules
variable {c:Cx} {env:Env} {H:ab} {Q:Exit→Act→World→Prop}
theorem NX.sub{K:Act→World→Prop}{e':Env}(hs:Sub e' env)(h:NX c e' H K):NX c env H K:=fun a w hf hw hA=>h a w (hf.sub hs) hw hA
theorem WC.sub{code:Code}{e':Env}(hs:Sub e' env)(h:WC c code e' H Q):WC c code env H Q:=fun a w hf hw hA=>h a w (hf.sub hs) hw hA
theorem WL.sub{ops:Array Oper}{l:List Oper}{e':Env}(hs:Sub e' env)(h:WL c ops l e' H Q):WL c ops l env H Q:=fun a w hf hw hA=>h a w (hf.sub hs) hw hA
theorem WC.skip(h:NX c env H (Q .normal)):WC c .skip env H Q:=fun a w hf hw hA=>wp_skip (h a w hf hw hA)
theorem WC.label{l:Nat}(h:NX c env H (Q .normal)):WC c (.label l) env H Q:=fun a w hf hw hA=>wp_label (h a w hf hw hA)
theorem WC.exit{id:Nat}(h:NX c env H (Q (.exit id))):WC c (.exit id) env H Q:=fun a w hf hw hA=>wp_exit (h a w hf hw hA)
theorem WC.ret(h:NX c env H (Q .ret)):WC c .ret env H Q:=fun a w hf hw hA=>wp_ret (h a w hf hw hA)
theorem WC.seq{x y:Code}(h:WC c x env H (Exit.then (y.wp c.P Q) Q)):WC c (.seq x y) env H Q:=fun a w hf hw hA=>wp_seq (h a w hf hw hA)
theorem WC.block{id:Nat}{x:Code}(h:WC c x env H (Exit.inBlock id Q)):WC c (.block id x) env H Q:=fun a w hf hw hA=>wp_block (h a w hf hw hA)
theorem WC.cond{x:Operand}{s t:Code}{b:Bool}(hx:Ev env x (.bool b))(ht:b=true→WC c s env H Q)(hf:b=false→WC c t env H Q):WC c (.cond x s t) env H Q:=
 fun a w hfr hw hA=>wp_cond_split (hfr.eval hx) (fun hb=>ht hb a w hfr hw hA) (fun hb=>hf hb a w hfr hw hA)
theorem WC.region{id:Nat}{l:List Oper}(h:WL c l.toArray l env H Q):WC c (.region id l.toArray false) env H Q:=fun a w hf hw hA=>wp_region_lit (h a w hf hw hA)
theorem WL.nil{ops:Array Oper}(h:NX c env H (Q .normal)):WL c ops [] env H Q:=fun a w hf hw hA=>wpList_nil (h a w hf hw hA)
theorem NX.go{y:Code}(h:WC c y env H Q):NX c env H (Exit.then (y.wp c.P Q) Q .normal):=h
theorem NX.ek{y:Act→World→Prop}{id:Nat}(h:NX c env H (Q (.exit id))):NX c env H (Exit.then y Q (.exit id)):=h
theorem NX.dA{y:Act→World→Prop}(h:NX c env H (Q .ret)):NX c env H (Exit.then y Q .ret):=h
theorem NX.cN{id:Nat}(h:NX c env H (Q .normal)):NX c env H (Exit.inBlock id Q .normal):=h
theorem NX.jb{id:Nat}(h:NX c env H (Q .ret)):NX c env H (Exit.inBlock id Q .ret):=h
theorem NX.ja{id:Nat}(h:NX c env H (Q .normal)):NX c env H (Exit.inBlock id Q (.exit id)):=fun a w hf hw hA=>by
 show(if id=id then Q .normal a w else Q (.exit id) a w);rw[if_pos rfl];exact h a w hf hw hA
def fF(c:Cx)(J:Env→ab→Prop)(a:Act)(w:World):Prop:=∃env,J env w.heap∧Fr c env a∧bd c.W0 w
theorem fF.mk{J:Env→ab→Prop}{e':Env}(hJ:J e' H)(hs:Sub e' env):NX c env H (Exit.then (fF c J) Q .normal):=
 fun _ w hf hw hA=>⟨e',by rw[hw];exact hJ,hf.sub hs,hA⟩
theorem Exit.G3{K K':Act→World→Prop}(h:∀a w,K a w→K' a w):∀e a w,Exit.then K Q e a w→Exit.then K' Q e a w:=by
 intro e a w hq;cases e<;>first|exact h _ _ hq|exact hq
theorem WC.cut{x y:Code}(J:Env→ab→Prop)(h1:WC c x env H (Exit.then (fF c J) Q))(h2:∀e' H',J e' H'→WC c y e' H' Q):WC c (.seq x y) env H Q:=
 fun a w hf hw hA=>wp_seq (Code.wp_mono (Exit.G3 fun a' w' ⟨_,hJ,hf',hA'⟩=>h2 _ _ hJ a' w' hf' rfl hA') (h1 a w hf hw hA))
def Head(c:Cx)(I:Nat→Env→ab→Prop)(m:Nat)(a:Act)(w:World):Prop:=∃m' env,I m' env w.heap∧Fr c env a∧bd c.W0 w∧m'<m
theorem Head.mk{I:Nat→Env→ab→Prop}{m m':Nat}{e':Env}(hI:I m' e' H)(hs:Sub e' env)(hm:m'<m):NX c env H (Exit.then (Head c I m) Q .normal):=
 fun _ w hf hw hA=>⟨m',e',by rw[hw];exact hI,hf.sub hs,hA,hm⟩
theorem WC.loop{body:Code}(I:Nat→Env→ab→Prop){m0:Nat}{e0:Env}(h0:I m0 e0 H)(hs:Sub e0 env)
  (round:∀m e H',I m e H'→WC c body e H' (Exit.then (Head c I m) Q)):WC c (.loop body) env H Q:=by
 intro a w hf hw hA b k cs
 have key:∀m (a:Act) (w:World),(∃e,I m e w.heap∧Fr c e a∧bd c.W0 w)→
   ∃e a' w',Q e a' w'∧Arrives c.P (lone (b.at a (.code body:: .inLoop body::k)) cs w) b k cs e a' w':=by
  intro m;induction m using Nat.strongRecOn with
  |_ m ih=>
   intro a w ⟨e,hI,hf,hA⟩;obtain⟨ex,a1,w1,hq,harr⟩:=round m e w.heap hI a w hf rfl hA b (.inLoop body::k) cs;cases ex with
   |normal=>
    obtain⟨m',e',hI',hf',hA',hlt⟩:=hq;obtain⟨ex2,a2,w2,hq2,harr2⟩:=ih m' hlt a1 w1 ⟨e',hI',hf',hA'⟩;exact⟨ex2,a2,w2,hq2,.of_steps (Steps.trans harr (.one step_inLoop)) harr2⟩
   |exit id=>exact⟨_,a1,w1,hq,.pass (x:= .inLoop body) rfl (fun _ _=>.inl (by simp)) harr⟩
   |goto l=>exact⟨_,a1,w1,hq,.pass (x:= .inLoop body) rfl (fun _ _=>.inl (by simp)) harr⟩
   |ret=>exact⟨_,a1,w1,hq,.pass (x:= .inLoop body) rfl (fun _ _=>.inl (by simp)) harr⟩
   |panic ch=>exact⟨_,a1,w1,hq,.pass (x:= .inLoop body) rfl (fun _ _=>.inl (by simp)) harr⟩
   |outgrown=>exact⟨_,a1,w1,hq,.pass (x:= .inLoop body) rfl (fun _ _=>.inl (by simp)) harr⟩
 obtain⟨e,a',w',hq,harr⟩:=key m0 a w ⟨e0,by rw[hw];exact h0,hf.sub hs,hA⟩;exact⟨e,a',w',hq,.of_steps (.one step_loop) harr⟩
end rules
end Go.NB
