import Derived.Test.YtpechfcbnoggfaaGreatDoorAm11
set_option linter.unusedVariables false
set_option linter.unusedSimpArgs false
open Bool renaming and_eq_true->cp,not_eq_true'->c1
open List renaming getElem?_eq_some_iff->bl,getElem?_eq_getElem->bn,getElem?_append_left->b0,nodup_append->b3,getElem?_map->cd,getElem?_append_right->ce,all_eq_true->cf,getElem?_drop->co,mem_of_getElem?->cy,any_eq_false->c2,nodup_cons->c3
open Nat renaming eq_of_beq_eq_true->b2,lt_of_lt_of_le->cb,le_of_ble_eq_true->ci,le_trans->cq,beq->cv,blt->cx,beq_refl->c4,lt_or_ge->c5,le_refl->c6
open Option renaming getD_some->b4,map_eq_some_iff->cr
section
namespace Go.AM
open Go Go.NB
def yz:Option Nat->Option Nat->Prop
 |none,_=>True
 |some q,a=>a=some q
theorem Pq{t t0:Option Nat}(h:yz t t0)(e:Nat):t.getD (t0.getD e)=t0.getD e:=by
 cases t with
 |none=>rfl
 |some q=>rw[show t0=some q from h];rfl
def mB(fr:Nat->Bool)(ah:List B)(ρ:List Rn)(r:Rn)(b:B):Prop:=
 match b with
 | .dead=>True
 | .box n t=>match r with
  | .s j=>match ah[j]? with
   |some (.box h p)=>yz t p/\kR (mC fr ah 5 ρ) h n
   |_=>False
  |_=>False
 | .row g α e l=>match r with
  | .s j=>match ah[j]? with
   |some (.row c d a f)=>(⟨c,d,a,f⟩:LS)=⟨g,α,e,l⟩
   |_=>False
  | .new=>l=[]
  | .cut i j k m=>match ah[j]? with
   |some (.row c d a f)=>bif cv i c then k+m<=f.length/\(⟨c,d,a,(f.drop k).take m⟩:LS)=⟨g,α,e,l⟩else False
   |_=>False
 | .bh g α e l=>match r with
  | .s j=>match ah[j]? with
   |some (.bh c d a f)=>(⟨c,d,a,f⟩:LS)=⟨g,α,e,l⟩
   |_=>False
  |_=>False
 | .buf t g α e l=>match r with
  | .s j=>match ah[j]? with
   |some (.buf o c d a f)=>o=t/\(⟨c,d,a,f⟩:LS)=⟨g,α,e,l⟩
   |_=>False
  | .new=>l=[]
  |_=>False
def mi(fr:Nat->Bool)(ah:List B)(ρ:List Rn):List Rn->List B->Prop
 |[],[]=>True
 |r::c,b::a=>mB fr ah ρ r b/\mi fr ah ρ c a
 |_,_=>False
def mH:Rn->List Nat
 | .s j=>[j]
 | .cut _ j _ _=>[j]
 | .new=>[]
def q9:B->Bool
 | .box .. | .row .. | .buf .. =>true
 |_=>false
def cR:List Rn->List B->List Nat
 |r::b,.box _ _::a=>mH r++cR b a
 |r::b,.row .. ::a=>mH r++cR b a
 |r::b,.buf .. ::a=>mH r++cR b a
 |_::b,_::a=>cR b a
 |_,_=>[]
def eS:List Nat->Bool
 |[]=>true
 |j::r=> !(r.any (cv j))&&eS r
theorem tV:∀{l:List Nat},eS l=true->l.Nodup
 |[],_=>.nil
 |j::r,h=>by
  simp only[eS,cp,c1,c2]at h;refine c3.2 ⟨λa=>h.1 j a (c4 j),tV h.2⟩
section
variable {E:En} {F:Nat->Prop} {γ:List Value} {ah:List B} {H:ae} {B':Nat->Prop} {fr:Nat->Bool} {ρ:List Rn} {tah:List B}
theorem tI:∀{rs:List Rn} {bs:List B},mi fr ah ρ rs bs->rs.length=bs.length/\∀(i:Nat) (b:B),bs[i]? =some b->∃r,rs[i]? =some r/\mB fr ah ρ r b
 |[],[],_=>⟨rfl,λi b h=>by simp at h⟩
 |r::rs,b::bs,⟨c,d⟩=>by
  obtain⟨e,f⟩:=tI d;refine⟨by simp[e],λi a h=>?_⟩;cases i with
  |zero=>cases h;exact⟨r,rfl,c⟩
  |succ i=>simpa using f i a (by simpa using h)
theorem tH(v:WR E F γ ah H){r:Rn}{b:B}(h:mB fr ah ρ r b):∀k∈aC b (bR γ r),∃j o d,mH r=[j]/\ah[j]? =some o/\γ[j]? =some d/\k∈aC o d/\q9 b=true:=by
 intro k a;have f:∀{j:Nat} {o:B},ah[j]? =some o->∃d,γ[j]? =some d:=λg=>⟨_,bn (by rw[v.len];exact(bl.1 g).1)⟩;cases b with
 |dead=>simp[aC]at a
 |bh=>simp[aC]at a
 |buf t M α q l=>
  cases r with
  |s j=>
   simp only[mB]at h;split at h
   ·rename_i g;obtain⟨d,i⟩:=f g;refine⟨j,_,d,rfl,g,i,?_,rfl⟩;simp only[bR,i,b4]at a;cases d with
    |slice p n c=>cases p<;>cases c<;>first|(simp[aC]at a;done)|simpa[aC]using a
    |_=>simp[aC]at a
   ·exact h.elim
  |new=>simp[bR,aC]at a
  |cut=>simp only[mB]at h
 |box x U=>
  cases r with
  |s j=>
   simp only[mB]at h;split at h
   ·rename_i y T g;obtain⟨d,i⟩:=f g;refine⟨j,_,d,rfl,g,i,?_,rfl⟩;simp only[bR,i,b4]at a;cases d with
    |pointer p=>cases p<;>first|(simp[aC]at a;done)|simpa[aC]using a
    |_=>simp[aC]at a
   ·exact h.elim
  |_=>simp only[mB]at h
 |row M α q l=>
  cases r with
  |s j=>
   simp only[mB]at h;split at h
   ·rename_i g;obtain⟨d,i⟩:=f g;refine⟨j,_,d,rfl,g,i,?_,rfl⟩;simp only[bR,i,b4]at a;rw[nK]at a⊢;exact a
   ·exact h.elim
  |new=>simp[bR,aC]at a
  |cut O j w m=>
   simp only[mB]at h;split at h
   ·rename_i N P u K g;obtain⟨J,D,S⟩:=bV h;obtain⟨d,i⟩:=f g;refine⟨j,_,d,rfl,g,i,?_,rfl⟩;obtain⟨x,s,Q,R⟩:=rG (v.br _ _ _ g i)
    obtain⟨p,n0,cap,rfl⟩:∃p n0 cap,d= .slice p n0 cap:=by
     rcases s.2 with⟨p,e,_⟩|⟨_,_,_,_,_,e,_⟩<;>exact⟨_,_,_,e⟩
    have I:n0=K.length:=by
     rcases s.2 with⟨p,e,z⟩|⟨_,_,_,_,_,e,_⟩
     ·cases e;exact z.symm
     ·simp at e;exact e.2.1
    subst I;simp only[bR,i]at a;rw[nK]at a⊢;exact(s.part (lo:=w) (n:=m) D (λ_=>rfl)).2 k (by rw[b2 J]at a;exact a)
   ·exact h.elim
theorem uI:∀{rs:List Rn} {bs:List B} {i j:Nat} {r:Rn} {b:B},rs[i]? =some r->bs[i]? =some b->q9 b=true->mH r=[j]->j∈cR rs bs
 |[],_,i,j,r,b,a,_,_,_=>by simp at a
 |_::_,[],i,j,r,b,_,hb,_,_=>by simp at hb
 |r'::rs,e::bs,0,j,r,b,a,hb,d,c=>by
  cases a;cases hb;cases e with
  |box=>simp[cR,c]
  |row=>simp[cR,c]
  |buf=>simp[cR,c]
  |bh=>cases d
  |dead=>cases d
 |r'::rs,e::bs,i+1,j,r,b,a,hb,d,c=>by
  have:=uI (rs:=rs) (bs:=bs) (i:=i) (by simpa using a) (by simpa using hb) d c;cases e<;>simp[cR,this]
theorem Fe:∀{rs:List Rn} {bs:List B} {i i' j:Nat} {r r':Rn} {b b':B},(cR rs bs).Nodup->i≠i'->rs[i]? =some r->bs[i]? =some b->rs[i']? =some r'->bs[i']? =some b'->
  q9 b=true->q9 b'=true->mH r=[j]->mH r'=[j]->False
 |[],_,i,i',j,r,r',b,b',_,_,l,_,_,_,_,_,_,_=>by simp at l
 |_::_,[],i,i',j,r,r',b,b',_,_,_,hb,_,_,_,_,_,_=>by simp at hb
 |r0::rs,m::bs,i,i',j,r,r',b,b',a,p,l,hb,f,d,k,e,g,h=>by
  have o:(cR rs bs).Nodup:=by
   cases m<;>simp only[cR]at a
   ·exact(b3.1 a).2.1
   ·exact(b3.1 a).2.1
   ·exact a
   ·exact(b3.1 a).2.1
   ·exact a
  have c:∀{q:Nat},q9 m=true->mH r0=[q]->q∈cR rs bs->False:=λ{q} k g n=>by
   cases m with
   |box _ _=>
    simp only[cR,g]at a;exact(b3.1 a).2.2 q (by simp) q n rfl
   |row=>
    simp only[cR,g]at a;exact(b3.1 a).2.2 q (by simp) q n rfl
   |buf=>
    simp only[cR,g]at a;exact(b3.1 a).2.2 q (by simp) q n rfl
   |bh=>cases k
   |dead=>cases k
  cases i with
  |zero=>
   cases i' with
   |zero=>exact p rfl
   |succ i'=>
    cases l;cases hb;exact c k g (uI (i:=i') (by simpa using f) (by simpa using d) e h)
  |succ i=>
   cases i' with
   |zero=>
    cases f;cases d;exact c e h (uI (i:=i) (by simpa using l) (by simpa using hb) k g)
   |succ i'=>exact Fe (i:=i) (i':=i') o (by omega) (by simpa using l) (by simpa using hb) (by simpa using f) (by simpa using d) k e g h
structure Core(B':Nat->Prop)(own:Nat->Prop)(F:Nat->Prop)(γ:List Value)(ah:List B)(H:ae):Prop where
 len:γ.length=ah.length
 br:∀(j:Nat) (b:B) (g:Value),ah[j]? =some b->γ[j]? =some g->BR F H ⟨B',γ⟩ b g
 disj:∀(i j:Nat) (b b':B) (g g':Value),i≠j->ah[i]? =some b->γ[i]? =some g->ah[j]? =some b'->γ[j]? =some g'->∀k,k∈aC b g->k∉aC b' g'
 nf:∀(j:Nat) (b:B) (g:Value) (k:Nat),ah[j]? =some b->γ[j]? =some g->k∈aC b g->(¬F k/\¬B' k)/\own k
def lj(E:En)(γ:List Value)(ah:List B)(fr:Nat->Bool)(k:Nat):Prop:=E.B k\/∃(j:Nat) (b:B) (g:Value),ah[j]? =some b/\γ[j]? =some g/\fr j=true/\k∈aC b g
def owned(γ:List Value)(ah:List B)(k:Nat):Prop:=∃(j:Nat) (b:B) (g:Value),ah[j]? =some b/\γ[j]? =some g/\k∈aC b g
theorem core(w:WR E F γ ah H)(hm:mi fr ah ρ ρ tah)(a2:eS (cR ρ tah)=true)(ar:∀j,fr j=true->j∉cR ρ tah):
  Core (lj E γ ah fr) (owned γ ah) F (ρ.map (bR γ)) tah H:=by
 obtain⟨T,R⟩:=tI hm
 have f:∀{i:Nat} {b:B} {g:Value},tah[i]? =some b->(ρ.map (bR γ))[i]? =some g->∃r,ρ[i]? =some r/\g=bR γ r/\mB fr ah ρ r b:=λhb D=>by
  obtain⟨r,u,s⟩:=R _ _ hb;rw[cd,u]at D;exact⟨r,u,by simpa using D.symm,s⟩
 have ap:=tV a2;refine⟨by simp[T],λi b g hb D=>?_,λi i' b b' g g' a3 hb D Q a0 k S a1=>?_,λi b g k hb D S=>?_⟩
 ·obtain⟨r,O,rfl,a⟩:=f hb D
  have N:∀{I Y:List C} {vs:List Value},kR (mC fr ah 5 ρ) I Y->RL F H ⟨E.B,γ⟩ I vs->RL F H ⟨lj E γ ah fr,ρ.map (bR γ)⟩ Y vs:=λu s=>
   oY (λc0 c v h O=>xv w (λ_ h=>.inl h) (λj b g u s z k S=>.inr ⟨j,b,g,s,z,u,S⟩) 5 h O) u s
  have o:∀{j:Nat} {W:B},ah[j]? =some W->∃y,γ[j]? =some y:=λq=>⟨_,bn (by rw[w.len];exact(bl.1 q).1)⟩;cases b with
  |dead=>trivial
  |buf t sz α J l=>
   cases r with
   |s j=>
    simp only[mB]at a;split at a
    ·rename_i q;obtain⟨y,d⟩:=o q;obtain⟨rfl,a⟩:=a;cases a;have:=w.br _ _ _ q d;simp only[bR,d,b4];exact this
    ·exact a.elim
   |new=>exact .inl ⟨none,rfl,a⟩
   |cut=>simp only[mB]at a
  |box Y ty=>
   cases r with
   |s j=>
    simp only[mB]at a;split at a
    ·rename_i I t0 q;obtain⟨y,d⟩:=o q;obtain⟨k,e,vs,u,s,z⟩:=w.br _ _ _ q d;refine⟨k,t0.getD e,vs,?_,by rw[Pq a.1];exact s,N a.2 z⟩;simp[bR,d,u]
    ·exact a.elim
   |_=>simp only[mB]at a
  |row sz α J l=>
   cases r with
   |s j=>
    simp only[mB]at a;split at a
    ·rename_i q;obtain⟨y,d⟩:=o q;cases a;have:=w.br _ _ _ q d;simp only[bR,d,b4];exact this
    ·exact a.elim
   |new=>exact .inl ⟨none,rfl,a⟩
   |cut a9 j lo m=>
    simp only[mB]at a;split at a
    ·rename_i a6 bb a5 l' q;obtain⟨hz,u,s⟩:=bV a;have hz:=b2 hz;obtain⟨y,d⟩:=o q;obtain⟨Y,g1,g2,g3⟩:=rG (w.br _ _ _ q d)
     obtain⟨p,n0,cap,rfl⟩:∃p n0 cap,y= .slice p n0 cap:=by
      rcases g1.2 with⟨p,e,_⟩|⟨_,_,_,_,_,e,_⟩<;>exact⟨_,_,_,e⟩
     have hn:n0=l'.length:=by
      rcases g1.2 with⟨p,e,e2⟩|⟨_,_,_,_,_,e,_⟩
      ·cases e;exact e2.symm
      ·simp at e;exact e.2.1
     subst hn;cases s;simp only[bR,d];rw[hz];have Z:∀x∈l'.drop lo,(J x).length=sz:=λx hx=>g3 x (List.mem_of_mem_drop hx);refine s8 (g1.part (lo:=lo) (n:=m) u (λ_=>rfl)).1 (by rw[List.length_take,List.length_drop];omega) ?_ (λx hx=>Z x (List.mem_of_mem_take hx));rw[<-ph m Z,<-oe lo g3];exact(g2.drop _).take _
    ·exact a.elim
  |bh sz α J l=>
   cases r with
   |s j=>
    simp only[mB]at a;split at a
    ·rename_i q;obtain⟨y,d⟩:=o q;cases a;have:=w.br _ _ _ q d;simp only[bR,d,b4];exact this
    ·exact a.elim
   |_=>simp only[mB]at a
 ·obtain⟨r,O,rfl,a⟩:=f hb D;obtain⟨r',a4,rfl,U⟩:=f Q a0;obtain⟨j,W,y,u,s,z,P,h5⟩:=tH w a k S;obtain⟨j',ac,ad,al,K,M,am,ao⟩:=tH w U k a1;by_cases e:j=j'
  ·subst e;exact Fe ap a3 O hb a4 Q h5 ao u al
  ·exact w.disj _ _ _ _ _ _ e s z K M k P am
 ·obtain⟨r,O,rfl,a⟩:=f hb D;obtain⟨j,W,y,u,s,z,P,h5⟩:=tH w a k S;obtain⟨Z,h7⟩:=w.nf _ _ _ k s z P;refine⟨⟨Z,λh=>?_⟩,j,W,y,s,z,P⟩;rcases h with h|⟨j',ac,ad,K,M,h8,h9⟩
  ·exact h7 h
  ·by_cases e:j=j'
   ·subst e;exact ar _ h8 (uI O hb h5 u)
   ·exact w.disj _ _ _ _ _ _ e s z K M k P h9
theorem weaken(a:WR E F γ ah H)(hm:mi (λ_=>false) ah ρ ρ tah)(m:eS (cR ρ tah)=true)(hid:∀i,i<E.γ0.length->ρ[i]? =some (.s i)):
  WR E F (ρ.map (bR γ)) tah H/\∀{n:Nat} {c0 c:C} {v:Value},mC (λ_=>false) ah n ρ c0 c->RL F H ⟨E.B,γ⟩ [c0] [v]->RL F H ⟨E.B,ρ.map (bR γ)⟩ [c] [v]:=by
 have d:=core a hm m (λj h=>by cases h)
 have s:lj E γ ah (λ_=>false)=E.B:=by
  funext k;apply propext;constructor
  ·rintro(h|⟨_,_,_,_,_,h,_⟩)
   ·exact h
   ·cases h
  ·exact .inl
 rw[s]at d;refine⟨⟨d.len,d.br,d.disj,λj b g k e f l=>(d.nf j b g k e f l).1,a.fb,a.bb,a.size,a.cn,a.fmono,a.fnew,λj b g k e f l=>?_,λi v o=>?_,a.gl⟩,λh t=>xv a (λ_ h=>h) (λj b g h=>by cases h) _ h t⟩
 ·obtain⟨x,u,w,p,q,r⟩:=(d.nf j b g k e f l).2;exact a.onew _ _ _ k p q r
 ·have e:=hid i (bl.1 o).1;rw[cd,e];simp[bR,a.pre i v o]
end
def kF(σ:Nat->Nat):C->C
 | .rw j=>.rw (σ j)
 | .sw b j a n=>.sw b (σ j) a n
 | .ptr j o=>.ptr (σ j) o
 |c=>c
def gN:C->Bool
 | .rw _| .sw .. | .ptr .. =>true
 | .iface _ _ a=>ei a
 |c=>eM c
def fc:List C->Bool
 |[]=>true
 |c::a=>gN c&&fc a
def fY(σ:Nat->Nat):B->B
 | .box a t=>.box (a.map (kF σ)) t
 |b=>b
def fq:B->Bool
 | .box a _=>fc a
 |_=>true
def dX(σ:Nat->Nat):A->A
 | .c x=>.c (kF σ x)
 | .st b=>.st (b.map (kF σ))
 | .ao d=>.ao (d.map λt=>(t.1,t.2.map (kF σ)))
 |a=>a
def fp:A->Bool
 | .c x=>gN x
 | .st a=>fc a
 | .ao b=>b.all λt=>fc t.2
 | .undef=>true
 | .off=>false
inductive Out:Type 1 where
 |ret (a:A)
 |cV (a:A)
def Out.a:Out->A
 | .ret a=>a
 | .cV a=>a
section
variable {F:Nat->Prop} {H:ae} {m m':Md} {σ:Nat->Nat}
theorem uk(a:∀(j:Nat) (g:Value),m.γ[j]? =some g->m'.γ[σ j]? =some g){cs:List C}{vs:List Value}(h:RL F H m cs vs)(hc:fc cs=true):RL F H m' (cs.map (kF σ)) vs:=by
 induction h with
 |nl=>exact .nl
 |int _ ih=>simp[fc,gN,eM]at hc;exact .int (ih a hc)
 |bool _ ih=>simp[fc,gN,eM]at hc;exact .bool (ih a hc)
 |str h _ ih=>simp[fc,gN,eM]at hc;exact .str h (ih a hc)
 |raw h _ ih=>simp[fc,gN,eM]at hc;exact .raw h (ih a hc)
 |nil _ ih=>simp[fc,gN,eM]at hc;exact .nil (ih a hc)
 |ct _ ih=>simp[fc,gN,eM]at hc;exact .ct (ih a hc)
 |ls hb i k f l c _ _ ih=>simp[fc,gN,eM]at hc;exact .ls hb i k f l c (ih a hc)
 |rw b e _ ih=>simp[fc,gN]at hc;exact .rw (a _ _ b) e (ih a hc)
 |sw b d e _ ih=>simp[fc,gN]at hc;exact .sw (a _ _ b) d e (ih a hc)
 |ptr b _ ih=>simp[fc,gN]at hc;exact .ptr (a _ _ b) (ih a hc)
 |iface f _ _ ih=>simp[fc,gN]at hc;exact .iface (vM f hc.1) (ih a hc.2)
 |_=>simp[fc,gN,eM]at hc
theorem Ea(a:∀(j:Nat) (g:Value),m.γ[j]? =some g->m'.γ[σ j]? =some g):∀{ts:List (Bool×List C)} {vs:List Value},RT F H m ts vs->(ts.all λt=>fc t.2)=true->RT F H m' (ts.map λt=>(t.1,t.2.map (kF σ))) vs
 |[],[],_,_=>trivial
 |(g,i)::ts,v::vs,⟨⟨f,c,d,e⟩,h⟩,b=>by
  simp only[List.all_cons,cp]at b;exact⟨⟨f,uk a c b.1,d,λh=>by simp[e h]⟩,Ea a h b.2⟩
theorem D9(b:∀(j:Nat) (g:Value),m.γ[j]? =some g->m'.γ[σ j]? =some g){a:A}{v:Value}(h:RA F H m a v)(hc:fp a=true):RA F H m' (dX σ a) v:=by
 cases a with
 |undef=>trivial
 |off=>cases hc
 |c x=>exact uk b (cs:=[x]) h (by simpa[fc,fp]using hc)
 |st e=>obtain⟨d,rfl,h⟩:=h;exact⟨d,rfl,uk b h hc⟩
 |ao f=>obtain⟨d,rfl,h⟩:=h;exact⟨d,rfl,Ea b h hc⟩
theorem Nn(c:∀(j:Nat) (g:Value),m.γ[j]? =some g->m'.γ[σ j]? =some g){b:B}{g:Value}(h:BR F H m b g)(hc:fq b=true):BR F H m' (fY σ b) g:=by
 cases b with
 |box p q=>obtain⟨k,e,o,f,i,n⟩:=h;exact⟨k,e,o,f,i,uk c n hc⟩
 |row d α a l=>exact h
 |bh d α a l=>exact h
 |buf t d α a l=>exact h
 |dead=>trivial
theorem rm{b:B}{g:Value}:aC (fY σ b) g=aC b g:=by
 cases g with
 |pointer p=>cases b<;>cases p<;>rfl
 |_=>cases b<;>rfl
end
def ed(F:Nat->Prop)(H:ae)(m:Md):List A->List Value->Prop
 |[],[]=>True
 |a::as,v::b=>RA F H m a v/\ed F H m as b
 |_,_=>False
structure eZ(d:Bool)(w w':World):Prop where
 os:w'.os=w.os
 tape:w'.tape=w.tape
 output:w'.output=w.output
 drawn:d=true->w.drawn<=w'.drawn
theorem eZ.refl{d:Bool}(w:World):eZ d w w:=⟨rfl,rfl,rfl,λ_=>c6 _⟩
theorem eZ.trans{d:Bool}{a b c:World}(h:eZ d a b)(k:eZ d b c):eZ d a c:=⟨k.os.trans h.os,k.tape.trans h.tape,k.output.trans h.output,λe=>cq (h.drawn e) (k.drawn e)⟩
theorem eZ.of{d:Bool}{a b:World}(h:bA a b):eZ d a b:=⟨h.os,h.tape,h.output,λ_=>h.drawn⟩
def qi(d:Bool)(P:Program)(w:World)(R:Bool->Value->ae->Prop):Result Next->Prop
 | .ok (.value v) a=>a=w/\R true v w.heap
 | .ok (.enter f b) a=>a=w/\Calls P f b w λe a=>(∃v,e= .returned v/\R true v a.heap/\eZ d w a)\/(∃v,e= .panicked [{v:=v,recovered:=false}]/\R false v a.heap/\eZ d w a)
 |_=>False
def oU(d:Bool)(P:Program)(f:FuncId)(args:Array Value)(H:ae)(R:Bool->Value->ae->Prop):Prop:=
 ∀w:World,w.heap=H->qi d P w R ((callFunc f args).run P w)
theorem oU.mono{d:Bool}{P:Program}{f:FuncId}{args:Array Value}{H:ae}{R i:Bool->Value->ae->Prop}(h:oU d P f args H R)(hr:∀b v H',R b v H'->i b v H'):oU d P f args H i:=by
 intro w j;have:=h w j;unfold qi at*;split at this
 ·exact⟨this.1,hr _ _ _ this.2⟩
 ·refine⟨this.1,this.2.mono λe k h=>?_⟩;rcases h with⟨v,a,c,g⟩|⟨v,a,c,g⟩
  ·exact .inl ⟨v,a,hr _ _ _ c,g⟩
  ·exact .inr ⟨v,a,hr _ _ _ c,g⟩
 ·exact this.elim
def en(F L:Nat->Prop)(γ:List Value)(ah:List B)(H:ae):En:=⟨F,L,owned γ ah,H,γ⟩
def qe(F L:Nat->Prop)(γ:List Value)(ah:List B)(H:ae)(Q:Out->List B->Prop)(ok:Bool)(v:Value)(H':ae):Prop:=
 ∃out ah' F' γ',Q out ah'/\fp out.a=true/\ah'.all fq=true/\(match out with| .ret _=>ok=true| .cV _=>ok=false)/\RA F' H' ⟨L,γ'⟩ out.a v/\WR (en F L γ ah H) F' γ' ah' H'
def bB(d:Bool)(P:Program)(f:FuncId)(args:List A)(ah:List B)(Q:Out->List B->Prop):Prop:=
 ∀(F L:Nat->Prop) (γ:List Value) (H:ae) (a:List Value),ed F H ⟨L,γ⟩ args a->WR (en F L γ ah H) F γ ah H->oU d P f a.toArray H (qe F L γ ah H Q)
abbrev aa(P:Program)(f:FuncId)(args:List A)(ah:List B)(Q:Out->List B->Prop):Prop:=bB false P f args ah Q
theorem bB.mono{d:Bool}{P:Program}{f:FuncId}{args:List A}{ah:List B}{Q a:Out->List B->Prop}(h:bB d P f args ah Q)(hq:∀o b,Q o b->a o b):bB d P f args ah a:=
 λF L γ H j c e=>(h F L γ H j c e).mono λok v H' ⟨out,ah',F',γ',g,i⟩=>⟨out,ah',F',γ',hq _ _ g,i⟩
theorem aa.mono{P:Program}{f:FuncId}{args:List A}{ah:List B}{Q a:Out->List B->Prop}(h:aa P f args ah Q)(hq:∀o b,Q o b->a o b):aa P f args ah a:=bB.mono h hq
def mT(f:C->C->Prop):List (Bool×List C)->List (Bool×List C)->Prop
 |[],[]=>True
 |(d,a)::b,(g,c)::e=>(d=g/\kR f a c)/\mT f b e
 |_,_=>False
def mA(fr:Nat->Bool)(ah:List B)(ρ:List Rn):A->A->Prop
 |_,.undef=>True
 | .c d,.c c=>mC fr ah 5 ρ d c
 | .st a,.st e=>kR (mC fr ah 5 ρ) a e
 | .ao b,.ao f=>mT (mC fr ah 5 ρ) b f
 | .off,.off=>True
 |_,_=>False
def lq(fr:Nat->Bool)(ah:List B)(ρ:List Rn):List A->List A->Prop
 |[],[]=>True
 |a0::b,a::as=>mA fr ah ρ a0 a/\lq fr ah ρ b as
 |_,_=>False
def sig(m:List Nat)(n:Nat)(j:Nat):Nat:=bif cx j m.length then m.getD j 0 else n+(j-m.length)
def pU:List Nat->List B->List B->List B
 |j::m,b::a,ah=>pU m a (ah.set j b)
 |_,_,ah=>ah
def tv(f:B->B)(x:B)(t b:B):B:=match t with
 | .dead=>match b with
  | .dead=>x
  |b=>f b
 |_=>f b
theorem KD(f:B->B)(x t b:B):(t= .dead/\tv f x t b=x)\/tv f x t b=f b:=by
 cases t with
 |dead=>
  cases b with
  |dead=>exact .inl ⟨rfl,rfl⟩
  |_=>exact .inr rfl
 |_=>exact .inr rfl
def mc(f:B->B)(ah:List B):List Nat->List B->List B->List B
 |j::m,t::c,b::a=>tv f ((ah[j]?).getD .dead) t b::mc f ah m c a
 |_,_,_=>[]
theorem Cr{f:B->B}{ah:List B}:∀{m:List Nat} {ts bs:List B},ts.length=m.length->m.length<=bs.length->(mc f ah m ts bs).length=m.length
 |[],_,_,_,_=>rfl
 |j::m,t::ts,b::bs,a,c=>by
  simp only[mc,List.length_cons];rw[Cr (by simpa using a) (by simpa using c)]
 |j::m,[],_,a,_=>by simp at a
 |j::m,t::ts,[],_,c=>by simp at c
theorem Cq{f:B->B}{ah:List B}:∀{m:List Nat} {ts bs:List B} {q i:Nat} {b:B},m[q]? =some i->(mc f ah m ts bs)[q]? =some b->(ts[q]? =some .dead/\b=(ah[i]?).getD .dead)\/∃b',bs[q]? =some b'/\b=f b'
 |[],_,_,_,_,_,h,_=>by simp at h
 |j::m,[],_,_,_,_,_,h=>by simp[mc]at h
 |j::m,t::ts,[],_,_,_,_,h=>by simp[mc]at h
 |j::m,t::ts,b::bs,0,i,x,c,a=>by
  obtain rfl:j=i:=by simpa using c
  have a:tv f ((ah[j]?).getD .dead) t b=x:=by simpa[mc]using a
  subst a;rcases KD f ((ah[j]?).getD .dead) t b with⟨rfl,h⟩|h
  ·exact .inl ⟨rfl,h⟩
  ·exact .inr ⟨b,rfl,h⟩
 |j::m,t::ts,b::bs,q+1,i,x,c,a=>by
  rcases Cq (m:=m) (ts:=ts) (bs:=bs) (q:=q) (by simpa using c) (by simpa[mc]using a)with⟨d,e⟩|⟨b',d,e⟩
  ·exact .inl ⟨by simpa using d,e⟩
  ·exact .inr ⟨b',by simpa using d,e⟩
def dV(m:List Nat)(tah ah ah':List B):List B:=pU m (mc (fY (sig m ah.length)) ah m tah ah') ah++(ah'.drop m.length).map (fY (sig m ah.length))
theorem rI:∀(m:List Nat) (bs ah:List B),(pU m bs ah).length=ah.length
 |[],_,_=>rfl
 |_::_,[],_=>rfl
 |j::m,b::bs,ah=>by rw[pU,rI m bs,List.length_set]
theorem Ey:∀{m:List Nat} {bs ah:List B} {i:Nat} {b:B},m.Nodup->(pU m bs ah)[i]? =some b->(ah[i]? =some b/\(i∈m->∃q,m[q]? =some i/\bs.length<=q))\/∃q:Nat,m[q]? =some i/\bs[q]? =some b
 |[],bs,ah,i,b,_,h=>.inl ⟨h,λh=>by cases h⟩
 | j :: m, [], ah, i, b, _, h => .inl ⟨h,λhm=>by
   obtain⟨q,o⟩:=List.getElem?_of_mem hm;exact⟨q,o,by simp⟩⟩
 |j::m,p::bs,ah,i,b,n,h=>by
  obtain⟨r,g⟩:=c3.1 n;rw[pU]at h;rcases Ey g h with⟨a,c⟩|⟨q,a,c⟩
  ·rcases pn a with⟨k,l⟩|⟨rfl,_,rfl⟩
   ·refine .inl ⟨l,λhm=>?_⟩;rcases List.mem_cons.1 hm with e|hm
    ·exact(k e).elim
    ·obtain⟨q,d,f⟩:=c hm;exact⟨q+1,by simpa using d,by simpa using f⟩
   ·exact .inr ⟨0,rfl,rfl⟩
  ·exact .inr ⟨q+1,by simpa using a,by simpa using c⟩
theorem yh{m:List Nat}{n q j:Nat}(h:m[q]? =some j):sig m n q=j:=by
 obtain⟨a,e⟩:=bl.1 h;have:cx q m.length=true:=Nat.ble_eq_true_of_le a;unfold sig;rw[this];simp[List.getD_eq_getElem?_getD,h]
theorem EC{m:List Nat}{n q:Nat}(h:m.length<=q):sig m n q=n+(q-m.length):=by
 have:cx q m.length=false:=by
  cases e:cx q m.length with
  |false=>rfl
  |true=>have:=ci e;omega
 unfold sig;rw[this];rfl
section
variable {E:En} {F F':Nat->Prop} {γ γ':List Value} {ah ah' tah:List B} {H H':ae} {fr:Nat->Bool} {m:List Nat}
def bG(m:List Nat):List Rn:=m.map .s
theorem merge(c:WR E F γ ah H)(hm:mi fr ah (bG m) (bG m) tah)(hn:m.Nodup)(a1:∀j∈m,j<ah.length)(hc:Core (lj E γ ah fr) (owned γ ah) F ((bG m).map (bR γ)) tah H)
  (t:WR (en F (lj E γ ah fr) ((bG m).map (bR γ)) tah H) F' γ' ah' H')(a0:ah'.all fq=true):
  WR E F' (γ++γ'.drop m.length) (dV m tah ah ah') H'/\Ext F H ⟨E.B,γ⟩ F' H' ⟨E.B,γ++γ'.drop m.length⟩/\(∀(j:Nat) (g:Value),γ'[j]? =some g->(γ++γ'.drop m.length)[sig m ah.length j]? =some g)/\(m=[]->au [] H H')/\
  ∀k,(F k\/E.B k\/∃j x y,j∉m/\ah[j]? =some x/\γ[j]? =some y/\k∈aC x y)->H'[k]? =H[k]? :=by
 have a3:tah.length=m.length:=by have:=(tI hm).1;simpa[bG]using this.symm
 let Kept:Nat->Prop:=λi=>i∉m\/∃q:Nat,m[q]? =some i/\tah[q]? =some .dead
 have w:∀k,owned ((bG m).map (bR γ)) tah k->∃j x y,¬Kept j/\ah[j]? =some x/\γ[j]? =some y/\k∈aC x y:=λk ⟨i,b,g,hb,p,a⟩=>by
  obtain⟨r,d,f⟩:=(tI hm).2 _ _ hb;rw[cd,d]at p;simp at p;subst p;obtain⟨j,x,y,l,n,h5,h6,_⟩:=tH c f k a;have s:=d;unfold bG at s;rw[cd]at s;obtain⟨j',al,rfl⟩:=cr.1 s;simp[mH]at l;subst l;refine⟨j',x,y,λS=>?_,n,h5,h6⟩;rcases S with S|⟨q,U,hd⟩
  ·exact S (cy al)
  ·obtain⟨Z,K⟩:=bl.1 U;obtain⟨P,M⟩:=bl.1 al;obtain rfl:q=i:=(List.getElem_inj hn).1 (K.trans M.symm);rw[hd]at hb;cases hb;simp[aC]at a
 have W:∀(j:Nat) (g:Value),γ'[j]? =some g->(γ++γ'.drop m.length)[sig m ah.length j]? =some g:=λq g U=>by
  rcases c5 q m.length with h|h
  ·have am:m[q]? =some m[q]:=bn h;rw[yh am];have Q:m[q]<γ.length:=by rw[c.len];exact a1 _ (List.getElem_mem h)
   rw[b0 Q]
   have d:((bG m).map (bR γ))[q]? =some (γ[m[q]]):=by
    simp[bG,am,bR,bn Q]
   have f:=t.pre q _ d;rw[f]at U;rw[bn Q];exact U
  ·rw[EC h,ce (by rw[c.len];omega),co,c.len];rw[show m.length+(ah.length+(q-m.length)-ah.length)=q by omega];exact U
 have T:m.length<=ah'.length:=by
  rw[<-t.len];rcases Nat.eq_zero_or_pos m.length with h|h
  ·omega
  ·have d:((bG m).map (bR γ))[m.length-1]? =some (((bG m).map (bR γ))[m.length-1]'(by simp[bG];omega)):=bn _;have:=(bl.1 (t.pre _ _ d)).1;omega
 have get:∀{i:Nat} {b:B} {g:Value},(dV m tah ah ah')[i]? =some b->(γ++γ'.drop m.length)[i]? =some g->(Kept i/\ah[i]? =some b/\γ[i]? =some g)\/∃q O,ah'[q]? =some O/\γ'[q]? =some g/\sig m ah.length q=i/\b=fY (sig m ah.length) O:=λ{i b g} hb p=>by
  unfold dV at hb;rcases c5 i ah.length with h|h
  ·rw[b0 (by rw[rI];exact h)]at hb;rw[b0 (by rw[c.len];exact h)]at p;rcases Ey hn hb with⟨d,f⟩|⟨q,d,f⟩
   ·refine .inl ⟨.inl λhm=>?_,d,p⟩;obtain⟨q,l,n⟩:=f hm;rw[Cr a3 T]at n;have:=(bl.1 l).1;omega
   ·rcases Cq d f with⟨l,n⟩|⟨O,l,n⟩
    ·refine .inl ⟨.inr ⟨q,d,l⟩,?_,p⟩;rw[n,bn h];rfl
    refine .inr ⟨q,O,l,?_,yh d,n⟩;have U:=(bl.1 l).1;have h5:γ'[q]? =some (γ'[q]'(by rw[t.len];exact U)):=bn _;have h6:=W q _ h5;rw[yh d,b0 (by rw[c.len];exact h)]at h6;rw[h5];rw[p]at h6;exact h6.symm
  ·rw[ce (by rw[rI];exact h),rI,cd,co]at hb;rw[ce (by rw[c.len];exact h),co,c.len]at p;obtain⟨O,l,n⟩:=cr.1 hb;exact .inr ⟨m.length+(i-ah.length),O,l,p,by rw[EC (by omega)];omega,n.symm⟩
 have J:∀k,F k\/E.B k->H'[k]? =H[k]? :=λk a=>by
  refine t.cn k ?_ (λR=>?_)
  ·exact a.elim (c.fb k) (λh=>cb (c.bb k h).1 c.size)
  ·obtain⟨j,x,y,_,f,l,n⟩:=w k R;have:=c.nf j x y k f l n;exact a.elim this.1 this.2
 have ex : Ext F H ⟨E.B, γ⟩ F' H' ⟨E.B, γ ++ γ'.drop m.length⟩ := ⟨t.fmono,λb o u hb hc=>vD (J b hb) hc,λ_ h=>h,λj v Q=>by
  rw[b0 (bl.1 Q).1];exact Q⟩
 have Y:∀{i b g},Kept i->ah[i]? =some b->γ[i]? =some g->∀k∈aC b g,¬owned ((bG m).map (bR γ)) tah k/\H'[k]? =H[k]? :=λ{i b g} hi hb p k a=>by
  have ap:¬owned ((bG m).map (bR γ)) tah k:=λR=>by
   obtain⟨j,x,y,d,f,l,n⟩:=w k R;exact c.disj _ _ _ _ _ _ (λe=>d (by rw[<-e];exact hi)) hb p f l k a n
  exact⟨ap,t.cn k (fV (c.br _ _ _ hb p) k a) ap⟩
 have N:∀{q b g k},ah'[q]? =some b->γ'[q]? =some g->k∈aC b g->(∃j x y,¬Kept j/\ah[j]? =some x/\γ[j]? =some y/\k∈aC x y)\/H.size<=k:=λhb p a=>by
  rcases t.onew _ _ _ _ hb p a with h|h
  ·exact .inl (w _ h)
  ·exact .inr h
 refine⟨⟨?_,λi b g hb p=>?_,λi i' b O g g' ao hb p ac ad k a I=>?_,λi b g k hb p a=>?_,t.fb,c.bb,cq c.size t.size,λk a R=>?_,λk a=>t.fmono k (c.fmono k a),λk a=>?_,λi b g k hb p a=>?_,λj v Q=>ex.g j v (c.pre j v Q),c.gl⟩,ex,W,λa2=>⟨t.size,λk a _=>t.cn k a (λR=>?_)⟩,λk a=>a.elim (λh=>J k (.inl h)) λh=>h.elim (λh=>J k (.inr h)) λ⟨j,x,y,d,f,l,n⟩=>(Y (.inl d) f l k n).2⟩
 ·unfold dV;simp[rI,c.len,t.len]
 ·rcases get hb p with⟨d,f,l⟩|⟨q,O,d,f,l,rfl⟩
  ·exact BR.ext ex (λk a=>(Y d f l k a).2) (c.br _ _ _ f l)
  ·exact Nn W (t.br _ _ _ d f) (cf.1 a0 _ (cy d))
 ·rcases get hb p with⟨d,f,l⟩|⟨q,b1,d,f,l,rfl⟩
  ·rcases get ac ad with⟨s,z,D⟩|⟨q',ar,s,z,D,rfl⟩
   ·exact c.disj _ _ _ _ _ _ ao f l z D k a I
   ·rw[rm]at I;have n:=fV (c.br _ _ _ f l) k a;rcases N s z I with⟨j,x,y,Z,K,P,M⟩|h
    ·exact c.disj _ _ _ _ _ _ (λe=>Z (by rw[<-e];exact d)) f l K P k a M
    ·omega
  ·rw[rm]at a;rcases get ac ad with⟨s,z,D⟩|⟨q',ar,s,z,D,rfl⟩
   ·have n:=fV (c.br _ _ _ z D) k I;rcases N d f a with⟨j,x,y,Z,K,P,M⟩|h
    ·exact c.disj _ _ _ _ _ _ (λe=>Z (by rw[<-e];exact s)) z D K P k I M
    ·omega
   ·rw[rm]at I;exact t.disj _ _ _ _ _ _ (λe=>ao (by rw[<-l,<-D,e])) d f s z k a I
 ·rcases get hb p with⟨d,f,l⟩|⟨q,O,d,f,l,rfl⟩
  ·have n:=c.nf _ _ _ k f l a;refine⟨λhf=>?_,n.2⟩;rcases t.fnew k hf with h|h|h
   ·exact n.1 h
   ·exact(Y d f l k a).1 h
   ·have:k<H.size:=fV (c.br _ _ _ f l) k a;have:H.size<=k:=h;omega
  ·rw[rm]at a;have n:=t.nf _ _ _ k d f a;exact⟨n.1,λh=>n.2 (.inl h)⟩
 ·have d:k<H.size:=cb a c.size;rw[t.cn k d (λh=>?_)]
  ·exact c.cn k a R
  ·obtain⟨j,x,y,_,K,P,M⟩:=w k h;rcases c.onew _ _ _ k K P M with h5|h5
   ·exact R h5
   ·omega
 ·rcases t.fnew k a with h|h|h
  ·exact c.fnew k h
  ·obtain⟨j,x,y,_,K,P,M⟩:=w k h;exact .inr (c.onew _ _ _ k K P M)
  ·exact .inr (.inr (cq c.size h))
 ·rcases get hb p with⟨d,f,l⟩|⟨q,O,d,f,l,rfl⟩
  ·exact c.onew _ _ _ k f l a
  ·rw[rm]at a;rcases N d f a with⟨j,x,y,Z,K,P,M⟩|h
   ·exact c.onew _ _ _ k K P M
   ·exact .inr (cq c.size h)
 ·subst a2;obtain⟨j,_,_,h,_⟩:=w k R;exact h (.inl (by simp))
end
structure dK:Type 1 where
 P:Program
 tab:Nat->Option TD
 n:Nat
 n0:Nat
 d:Bool
structure kO where
 E:En
 ds:List Deferred
 W0:World
def aZ:List Nat->List B->List B
 |[],ah=>ah
 | j :: r, ah => aZ r (match ah[j]? with
  |some (.row b α a l)=>ah.set j (.bh b α a l)
  |_=>ah)
theorem qQ{E:En}{γ:List Value}{H:ae}:∀{js:List Nat} {F:Nat->Prop} {ah:List B},WR E F γ ah H->∃F',(∀k,F k->F' k)/\WR E F' γ (aZ js ah) H
 |[],F,ah,h=>⟨F,λ_ h=>h,h⟩
 |j::r,F,ah,h=>by
  unfold aZ;split
  ·rename_i n α b l g;obtain⟨m,c,d,_⟩:=h.freeze g;obtain⟨a,e,f⟩:=qQ d;exact⟨a,λk i=>e k (c k i),f⟩
  ·exact qQ h
def gJ(c:dK)(r:kO)(F:Nat->Prop)(γ:List Value)(s:St)(x:A)(v:Value)(a:Act)(w:World):Prop:=
 a.tmps.size=c.n/\a.defers=r.ds/\eZ c.d r.W0 w/\WR r.E F γ s.ah w.heap/\ER F w.heap ⟨r.E.B,γ⟩ s.env a/\RA F w.heap ⟨r.E.B,γ⟩ x v
def SR(c:dK)(r:kO)(s:St)(x:A)(v:Value)(a:Act)(w:World):Prop:=∃F γ,gJ c r F γ s x v a w
inductive G where
 |any
 |grow
 |dj (pl:List Nat)
def wY:Option B->Bool
 |some (.box _ _)=>true
 |_=>false
def tk(pl:List Nat)(j:Nat):Bool:=pl.any (cv j)
def G.mem(g:G)(a:Op)(s:St):Bool:=match a with
 | .load _ x=>match g with
  | .dj b=>match aW s x with
   | .c (.ptr j _)=>tk b j
   | .c (.bp _)=>true
   |_=>false
  |_=>true
 | .convert .. =>match g with
  | .dj _=>false
  |_=>true
 |_=>true
def G.call:G->List Nat->Bool
 | .any,_=>true
 | .grow,m=>m.isEmpty
 | .dj a,m=>m.all λj=> !tk a j
def G.act:G->Bool->Bool
 | .any,_=>true
 | .grow,b=>b
 | .dj a,b=>b||a.isEmpty
def G.sb (g : G) (s : St) (a : Op) : Bool := g.act (l6 s a) || (match g with
 | .dj _=>apps a
 |_=>false)
def G.still:G->List B->Bool
 | .dj a,ah=>a.all λj=>wY ah[j]?
 |_,_=>true
def G.strict:G->Bool
 | .any=>false
 |_=>true
def gG(g:G)(E:En)(F:Nat->Prop)(γ:List Value)(ah:List B)(H:ae)(k:Nat):Prop:=match g with
 | .dj c=>F k\/E.B k\/∃j a b v,tk c j=true/\ah[j]? =some (.box a b)/\γ[j]? =some v/\k∈aC (.box a b) v
 |_=>k<H.size
theorem FE{g:G}{E:En}{F:Nat->Prop}{γ:List Value}{ah:List B}{H:ae}{k:Nat}(a:WR E F γ ah H)(h:gG g E F γ ah H k):k<H.size:=by
 cases g with
 |dj f=>
  rcases h with h|h|⟨j,e,i,v,_,b,c,d⟩
  ·exact a.fb k h
  ·exact cb (a.bb k h).1 a.size
  ·exact fV (a.br _ _ _ b c) k d
 |_=>exact h
theorem Mg{cs cs':List C}{t t':Option Nat}{v:Value}{k:Nat}(h:k∈aC (.box cs t) v):k∈aC (.box cs' t') v:=by
 cases v with
 |pointer p=>cases p<;>exact h
 |_=>exact h
theorem uT{g:G}{E:En}{F F':Nat->Prop}{γ γ':List Value}{ah ah':List B}{H H':ae}{k:Nat}(r:H.size<=H'.size)(p:∀k,F k->F' k)(f:∀(j:Nat) (v:Value),γ[j]? =some v->γ'[j]? =some v)
  (d:g.still ah'=true)(h:gG g E F γ ah H k):gG g E F' γ' ah' H' k:=by
 cases g with
 |dj u=>
  rcases h with h|h|⟨j,s,w,v,m,t,n,o⟩
  ·exact .inl (p k h)
  ·exact .inr (.inl h)
  ·have c:wY ah'[j]? =true:=by
    have a:=m;unfold tk at a;rw[List.any_eq_true]at a;obtain⟨i,q,e⟩:=a;obtain rfl:=b2 e;exact cf.1 d j q
   unfold wY at c;split at c
   ·rename_i b l e;exact .inr (.inr ⟨j,b,l,v,m,e,f _ _ n,Mg o⟩)
   ·cases c
 |_=>exact cb h r
theorem P2{P:Program}{tab:Nat->Option TD}{E:En}{F:Nat->Prop}{γ:List Value}{s:St}{a:Act}{w:World}{o:Oper}{k:A->Prop}{pl:List Nat}(n:bI P tab)(m:ER F w.heap ⟨E.B,γ⟩ s.env a)(y:WR E F γ s.ah w.heap){t:Nat}{x:Operand}(ho:o.op= .load t x)(h:Y1 tab s (.load t x) k)
  (hm:(G.dj pl).mem (.load t x) s=true):∃b,gG (.dj pl) E F γ s.ah w.heap b/\yU P F ⟨E.B,γ⟩ a w o k b:=by
 simp only[Y1]at h;simp only[G.mem]at hm;split at h
 ·rename_i d q;split at h
  ·rename_i j f c;rw[c]at hm;have c:=bm m c;split at h
   ·rename_i l H hb;generalize g:a.eval x=v at c;cases c with
    |ptr p _=>
     obtain⟨I,K,e,r,u⟩:=sC (o:=f) (y.br j _ _ hb p);cases e;exact⟨_,.inr (.inr ⟨j,l,H,_,hm,hb,p,by simp[aC]⟩),x7 n q ho r u g h⟩
   ·exact h.elim
  ·rename_i l c;have c:=bm m c;generalize g:a.eval x=v at c;cases c with
   |bp hb D z _=>exact⟨_,hb.imp id .inl,x7 n q ho (D.ext ⟨λ_ h=>h,λ_ _ _ _ h=>h,λ_ h=>h,λj v h=>by cases h⟩) z g h⟩
  ·rename_i J j i f c;rw[c]at hm;cases hm
  ·exact h.elim
 ·exact h.elim
def kP(g:G)(H H':ae)(k:Nat):Prop:=match g with
 | .dj _=>∀o u,cell H k o=some u->cell H' k o=some u
 |_=>H'[k]? =H[k]?
theorem kP.of{g:G}{H H':ae}{k:Nat}(h:H'[k]? =H[k]?):kP g H H' k:=by
 cases g with
 |dj b=>exactλo u a=>vD h a
 |_=>exact h
theorem kP.trans{g:G}{H H' a:ae}{k:Nat}(h:kP g H H' k)(h2:kP g H' a k):kP g H a k:=by
 cases g with
 |dj c=>exactλo u b=>h2 o u (h o u b)
 |_=>exact Eq.trans h2 h
def Nx(g:G)(c:dK)(r:kO)(k:St->Prop)(F:Nat->Prop)(γ:List Value)(ah:List B)(w:World)(b:Act)(w':World):Prop:=
 ∃F' γ' a,k a/\gJ c r F' γ' a .undef undef b w'/\(g.strict=true->∀q,gG g r.E F γ ah w.heap q->kP g w.heap w'.heap q/\gG g r.E F' γ' a.ah w'.heap q)
inductive XE:Type 1 where
 |normal
 |exit (id:Nat)
 |ret
 |cV (v:A)
def Qk(c:dK)(r:kO)(K:XE->St->Prop):Exit->Act->World->Prop
 | .normal,a,w=>∃s,K .normal s/\SR c r s .undef undef a w
 | .exit id,a,w=>∃s,K (.exit id) s/\SR c r s .undef undef a w
 | .ret,a,w=>∃s,K .ret s/\SR c r s .undef undef a w
 | .panic b,a,w=>∃v x s,b=[{v:=v,recovered:=false}]/\K (.cV x) s/\SR c r s x v a w
 |_,_,_=>False
def lits:List Nat:=[0,1,2,3,4,5,6,7,8,9,10,11,12,13,14,15,16,17,18,19,20,21,22,23,24,25,26,27,28,29,30,31,32,33,34,35,36,37,38,39,40]
def kt:List Nat->Nat->(Nat->Prop)->Prop
 |[],n,k=>k n
 |i::r,n,k=>bif cv n i then k i else kt r n k
theorem og{k:Nat->Prop}:∀{l:List Nat} {n:Nat},kt l n k->k n
 |[],_,h=>h
 |i::r,n,h=>by
  unfold kt at h;rcases kg h with⟨e,h⟩|⟨_,h⟩
  ·rw[b2 e];exact h
  ·exact og h
def wF(x:C)(k:C->Prop):Prop:=match x with
 | .int q n=>k (.int q n)
 | .bool b=>k (.bool b)
 | .str l=>k (.str l)
 | .raw v=>k (.raw v)
 | .nil=>k .nil
 | .ls c α a l=>k (.ls c α a l)
 | .bs c α a l=>k (.bs c α a l)
 | .rw j=>kt lits j λj=>k (.rw j)
 | .sw c j h n=>kt lits j λj=>k (.sw c j h n)
 | .ptr j o=>kt lits j λj=>kt lits o λo=>k (.ptr j o)
 | .ep c j i o=>kt lits j λj=>kt lits o λo=>k (.ep c j i o)
 | .bp e=>k (.bp e)
 | .fn f d=>k (.fn f d)
 | .iface t g e=>k (.iface t g e)
theorem BF{x:C}{k:C->Prop}(h:wF x k):k x:=by
 cases x with
 |rw j=>exact og (k:=λj=>k (.rw j)) h
 |sw a j b n=>exact og (k:=λj=>k (.sw a j b n)) h
 |ptr j o=>exact og (k:=λo=>k (.ptr j o)) (og (k:=λj=>kt lits o λo=>k (.ptr j o)) h)
 |ep a j i o=>exact og (k:=λo=>k (.ep a j i o)) (og (k:=λj=>kt lits o λo=>k (.ep a j i o)) h)
 |_=>exact h
def pj:List C->(List C->Prop)->Prop
 |[],k=>k []
 |x::r,k=>wF x λx=>pj r λr=>k (x::r)
theorem s6:∀{l:List C} {k:List C->Prop},pj l k->k l
 |[],_,h=>h
 |x::r,k,h=>s6 (k:=λr=>k (x::r)) (BF (k:=λx=>pj r λr=>k (x::r)) h)
def s7:List (Bool×List C)->(List (Bool×List C)->Prop)->Prop
 |[],k=>k []
 |(g,a)::r,k=>pj a λa=>s7 r λr=>k ((g,a)::r)
theorem BG:∀{l:List (Bool×List C)} {k:List (Bool×List C)->Prop},s7 l k->k l
 |[],_,h=>h
 |(g,a)::r,k,h=>BG (k:=λr=>k ((g,a)::r)) (s6 (k:=λa=>s7 r λr=>k ((g,a)::r)) h)
def wE(x:A)(k:A->Prop):Prop:=match x with
 | .undef=>k .undef
 | .off=>k .off
 | .c x=>wF x λx=>k (.c x)
 | .st a=>pj a λa=>k (.st a)
 | .ao b=>s7 b λb=>k (.ao b)
theorem BE{x:A}{k:A->Prop}(h:wE x k):k x:=by
 cases x with
 |c x=>exact BF (k:=λx=>k (.c x)) h
 |st a=>exact s6 (k:=λa=>k (.st a)) h
 |ao b=>exact BG (k:=λb=>k (.ao b)) h
 |_=>exact h
def jE:List B->(List B->Prop)->Prop
 |[],k=>k []
 | .box c t::r,k=>pj c λc=>jE r λr=>k (.box c t::r)
 | .row b α a l::r,k=>jE r λr=>k (.row b α a l::r)
 | .bh b α a l::r,k=>jE r λr=>k (.bh b α a l::r)
 | .buf t b α a l::r,k=>jE r λr=>k (.buf t b α a l::r)
 | .dead::r,k=>jE r λr=>k (.dead::r)
theorem nk:∀{l:List B} {k:List B->Prop},jE l k->k l
 |[],_,h=>h
 | .box c t::r,k,h=>nk (k:=λr=>k (.box c t::r)) (s6 (k:=λc=>jE r λr=>k (.box c t::r)) h)
 | .row b α a l::r,k,h=>nk (k:=λr=>k (.row b α a l::r)) h
 | .bh b α a l::r,k,h=>nk (k:=λr=>k (.bh b α a l::r)) h
 | .buf t b α a l::r,k,h=>nk (k:=λr=>k (.buf t b α a l::r)) h
 | .dead::r,k,h=>nk (k:=λr=>k (.dead::r)) h
def jj(n:Nat)(s:St)(d:Option Nat)(x:A)(k:St->Prop):Prop:=match d with
 |none=>k s
 |some d=>bif cx d n then wE x λx=>match s with
  |⟨e,ah⟩=>k ⟨(d,x)::e,ah⟩else False
def wX(tab:Nat->Option TD)(s:St):Op->Bool
 | .alloc _| .box .. | .buildSlice .. | .makeSlice .. | .store .. =>true
 | .convert _ u x=>match aW s x,tab u with
  | .c (.str _),some d=>(match d.kind with| .sl _=>true|_=>false)
  | .c (.rw _),some d=>(match d.kind with| .sl _=>true|_=>false)
  |_,_=>false
 | .call c=>(match c.callee with| .builtin .append=>true| .builtin .clear=>true|_=>false)
 |_=>false
def iu(m:List Nat)(tah:List B)(j:Nat):Bool:= !((cR (bG m) tah).any (cv j))
def jY(ah:List B)(m:List Nat)(args a:List A)(tah:List B):Prop:=
 bif eS m&&m.all (λj=>cx j ah.length)&&eS (cR (bG m) tah)then lq (iu m tah) ah (bG m) args a/\mi (iu m tah) ah (bG m) (bG m) tah else False
def fm{α a:Type 1}(k:α->a->Prop)(x:α)(y:a):Prop:=k x y
def YC(c:dK)(g:G)(s:St)(h:Operand)(as:List Operand)(k:List B->A->Prop)(i:A->St->Prop):Prop:=
 match aW s h with
 | .c (.fn f d)=>∃(e m:List Nat) (b:List A) (tah:List B) (Q:Out->List B->Prop),bB c.d c.P f b tah Q/\jY (aZ e s.ah) m (as.map (aW s)++d.map .c) b tah/\g.call m=true/\
   ∀out ah',Q out ah'->match out with
    | .ret a=>fm k (dV m tah (aZ e s.ah) ah') (dX (sig m (aZ e s.ah).length) a)
    | .cV a=>fm i (dX (sig m (aZ e s.ah).length) a) ⟨s.env,dV m tah (aZ e s.ah) ah'⟩
 |_=>False
def Xo(c:dK)(g:G)(o:Oper)(s:St)(k:St->Prop)(a:A->St->Prop):Prop:=
 match o.op with
 | .panic x=>match aW s x with
  | .c (.iface t ag b)=>a (.c (.iface t ag b)) s
  |_=>False
 | .call ⟨.value d,as,_⟩=>YC c g s d as.toList (λah x=>jE ah λah=>bif g.still ah then jj c.n ⟨s.env,ah⟩ o.dst x k else False) a
 |op=>bif wX c.tab s op then(bif g.sb s op then Y2 c.tab s op λah x=>jE ah λah=>bif g.still ah then jj c.n ⟨s.env,ah⟩ o.dst x k else False else False)
   else bif g.mem op s then Y1 c.tab s op λx=>jj c.n s o.dst x k else False
section
variable {c:dK} {r:kO} {s:St} {a:Act} {w:World} {o:Oper}
theorem ER.put{F:Nat->Prop}{H:ae}{m:Md}{env:List (Nat×A)}(h:ER F H m env a){d:Nat}(hd:d<a.tmps.size){x:A}{v:Value}(f:RA F H m x v):ER F H m ((d,x)::env) (a.put (some d) v):=by
 intro t y b;unfold lk at b;by_cases hb:cv d t=true
 ·rw[hb]at b;cases b;obtain rfl:=b2 hb;simpa[Act.put,Array.getD,hd]using f
 ·rw[Bool.not_eq_true]at hb;rw[hb]at b;have c:d≠t:=λe=>by subst e;simp at hb
  have:=h t y b;simpa[Act.put,Array.getD_eq_getD_getElem?,c]using this
theorem ER.ext{F F':Nat->Prop}{H H':ae}{m m':Md}{env:List (Nat×A)}(h:ER F H m env a)(e:Ext F H m F' H' m'):ER F' H' m' env a:=λt x b=>(h t x b).ext e
theorem oH{F:Nat->Prop}{γ:List Value}{s:St}{x:A}{v:Value}{k:St->Prop}{d:Option Nat}(hk:jj c.n s d x k)(hn:a.tmps.size=c.n)(b:a.defers=r.ds)(g:eZ c.d r.W0 w)(i:WR r.E F γ s.ah w.heap)(h:ER F w.heap ⟨r.E.B,γ⟩ s.env a)(l:RA F w.heap ⟨r.E.B,γ⟩ x v):
  ∃f,k f/\f.ah=s.ah/\gJ c r F γ f .undef undef (a.put d v) w:=by
 unfold jj at hk;split at hk
 ·exact⟨s,hk,rfl,by simpa[Act.put]using hn,by simpa[Act.put]using b,g,i,by simpa[Act.put]using h,trivial⟩
 ·rename_i d;obtain⟨j,hk⟩:=bV hk;have e:d<a.tmps.size:=by rw[hn];exact ci j
  exact⟨_,BE hk,rfl,by simp[Act.put,hn],by simp[Act.put,b],g,i,h.put e l,trivial⟩
theorem M0{g:G}{F:Nat->Prop}{γ:List Value}{s:St}{x:A}{v:Value}{k:St->Prop}{d:Option Nat}(hk:jj c.n s d x k)(hn:a.tmps.size=c.n)(b:a.defers=r.ds)(i:eZ c.d r.W0 w)(l:WR r.E F γ s.ah w.heap)(j:ER F w.heap ⟨r.E.B,γ⟩ s.env a)(n:RA F w.heap ⟨r.E.B,γ⟩ x v):
  Nx g c r k F γ s.ah w (a.put d v) w:=by
 obtain⟨o,e,f,h⟩:=oH hk hn b i l j n;exact⟨F,γ,o,e,h,λ_ q m=>⟨.of rfl,by rw[f];exact m⟩⟩
theorem BJ{j:Nat}{cs:List C}{ty:Option Nat}:∀{js:List Nat} {ah:List B},ah[j]? =some (.box cs ty)->(aZ js ah)[j]? =some (.box cs ty)
 |[],_,h=>h
 |i::r,ah,h=>by
  unfold aZ;refine BJ (js:=r) ?_;split
  ·rename_i e;rw[List.getElem?_set];split
   ·rename_i a;subst a;rw[h]at e;cases e
   ·exact h
  ·exact h
theorem CZ{f:C->C->Prop}{F:Nat->Prop}{H:ae}{m m':Md}(d:∀c0 c v,f c0 c->RL F H m [c0] [v]->RL F H m' [c] [v]):∀{a ts:List (Bool×List C)} {vs:List Value},mT f a ts->RT F H m a vs->RT F H m' ts vs
 |[],[],[],_,_=>trivial
 |(r,i)::a,(g,q)::ts,v::vs,⟨⟨e,b⟩,j⟩,⟨⟨p,k,l,n⟩,o⟩=>⟨⟨p,oY d b k,by rw[<-e];exact l,λh=>by rw[<-zb b];exact n (e.trans h)⟩,CZ d j o⟩
theorem xt{E:En}{F:Nat->Prop}{γ:List Value}{ah:List B}{H:ae}{B':Nat->Prop}{fr:Nat->Bool}{ρ:List Rn}(n:WR E F γ ah H)(m:∀k,E.B k->B' k)(f:∀j b g,fr j=true->ah[j]? =some b->γ[j]? =some g->∀k∈aC b g,B' k)
  {a x:A}{v:Value}(h:mA fr ah ρ a x)(hr:RA F H ⟨E.B,γ⟩ a v):RA F H ⟨B',ρ.map (bR γ)⟩ x v:=by
 have e:∀d c v,mC fr ah 5 ρ d c->RL F H ⟨E.B,γ⟩ [d] [v]->RL F H ⟨B',ρ.map (bR γ)⟩ [c] [v]:=λd c v h hr=>xv n m f 5 h hr;cases x with
 |undef=>trivial
 |off=>cases a<;>first|exact h.elim|exact hr
 |c y=>cases a<;>first|exact h.elim|exact e _ _ _ h hr
 |st p=>
  cases a with
  |st l=>obtain⟨i,rfl,hr⟩:=hr;exact⟨i,rfl,oY e h hr⟩
  |_=>exact h.elim
 |ao q=>
  cases a with
  |ao o=>obtain⟨i,rfl,hr⟩:=hr;exact⟨i,rfl,CZ e h hr⟩
  |_=>exact h.elim
theorem xu{E:En}{F:Nat->Prop}{γ:List Value}{ah:List B}{H:ae}{B':Nat->Prop}{fr:Nat->Bool}{ρ:List Rn}(e:WR E F γ ah H)(d:∀k,E.B k->B' k)(c:∀j b g,fr j=true->ah[j]? =some b->γ[j]? =some g->∀k∈aC b g,B' k):
  ∀{a xs:List A} {vs:List Value},lq fr ah ρ a xs->ed F H ⟨E.B,γ⟩ a vs->ed F H ⟨B',ρ.map (bR γ)⟩ xs vs
 |[],[],[],_,_=>trivial
 |x0::a,x::xs,v::vs,⟨f,h⟩,⟨i,l⟩=>⟨xt e d c f i,xu e d c h l⟩
theorem ed.ext{F F':Nat->Prop}{H H':ae}{m m':Md}(e:Ext F H m F' H' m'):∀{as:List A} {vs:List Value},ed F H m as vs->ed F' H' m' as vs
 |[],[],_=>trivial
 |_::_,_::_,⟨a,b⟩=>⟨a.ext e,ed.ext e b⟩
theorem zo{F:Nat->Prop}{H:ae}{m:Md}(b:ER F H m s.env a){caps:List C}{us:List Value}(hc:RL F H m caps us):∀(as:List Operand),ed F H m (as.map (aW s)++caps.map .c) (as.map a.eval++us)
 |[]=>by
  have:∀{caps:List C} {us:List Value},RL F H m caps us->ed F H m (caps.map .c) us:=λ{caps}=>by
   induction caps with
   |nil=>intro us h;cases h;trivial
   |cons c f ih=>
    intro us h;obtain⟨v,g,rfl,d,e⟩:=h.kK;exact⟨d,ih e⟩
  exact this hc
 |x::as=>⟨nL b x,zo b hc as⟩
theorem BI{m:List Nat}{tah:List B}(j:Nat)(h:iu m tah j=true):j∉cR (bG m) tah:=λa=>by
 unfold iu at h;rw[c1,c2]at h;exact h j a (c4 j)
theorem FM{g:G}{F:Nat->Prop}{γ:List Value}{fx:Operand}{as:List Operand}{bk:Array TypeId}{k:St->Prop}{K:XE->St->Prop}{Q:Exit->Act->World->Prop}(ho:o.op= .call ⟨.value fx,as.toArray,bk⟩)
  (h:YC c g s fx as (λah x=>jE ah λah=>bif g.still ah then jj c.n ⟨s.env,ah⟩ o.dst x k else False) (λv s=>K (.cV v) s))(hs:gJ c r F γ s .undef undef a w)(hQ:∀ch a w,Qk c r K (.panic ch) a w->Q (.panic ch) a w):
  o.wp c.P a w (λa' w'=>Nx g c r k F γ s.ah w a' w') Q:=by
 obtain⟨hn,U,hA,hW,hE,_⟩:=hs;unfold YC at h;split at h
 ·rename_i f S a3;obtain⟨P,m,bj,tah,QQ,O,t,hg,I⟩:=h;have hc:=bm hE a3;generalize a2:a.eval fx=fv at hc;cases hc with
  | @fn _ _ _ us _ _ N _=>
   obtain⟨R,E,l⟩:=qQ (js:=P) hW;have e1:Ext F w.heap ⟨r.E.B,γ⟩ R w.heap ⟨r.E.B,γ⟩:=kZ E;obtain⟨H,a6,Z⟩:=bV t;simp only[cp,cf]at H;obtain⟨⟨a9,a5⟩,bb⟩:=H;have Y:∀j∈m,j<(aZ P s.ah).length:=λj hj=>ci (a5 j hj);have d:=core l Z bb BI;have M:=xu (B':=lj r.E γ (aZ P s.ah) (iu m tah)) l (λ_ h=>.inl h) (λj b g y z D k I=>.inr ⟨j,b,g,z,D,y,I⟩) a6 ((zo hE N as).ext e1)
   have ap:WR (en R (lj r.E γ (aZ P s.ah) (iu m tah)) ((bG m).map (bR γ)) tah w.heap) R ((bG m).map (bR γ)) tah w.heap:=by
    refine⟨d.len,d.br,d.disj,λj b g k y z D=>(d.nf j b g k y z D).1,l.fb,λk I=>⟨?_,λ⟨j,b,g,y,z,D⟩=>(d.nf j b g k y z D).1.2 I⟩,c6 _,λ_ _ _=>rfl,λ_ h=>h,λ_ h=>.inl h,λj b g k y z D=>.inl ⟨j,b,g,y,z,D⟩,λ_ _ h=>h,λp hp=>⟨(l.l5 p hp).1,λ⟨j,b,g,y,z,D⟩=>(d.nf j b g _ y z D).1.1 (l.l5 p hp).1,(l.l5 p hp).2⟩⟩;rcases I with I|⟨j,b,g,y,z,_,D⟩
    ·exact cb (l.bb k I).1 l.size
    ·exact fV (l.br _ _ _ y z) k D
   have i:=O R _ _ w.heap _ M ap w rfl;have he:=wj (a:=a) (first:=[]) (caps:=us) (vs:=as.map a.eval) ho a2 rfl;rw[List.nil_append]at he;unfold Oper.wp;rw[he]
   have fin:∀(ok:Bool) (v:Value) (w':World),eZ c.d w w'->qe R (lj r.E γ (aZ P s.ah) (iu m tah)) ((bG m).map (bR γ)) tah w.heap QQ ok v w'.heap->
     (ok=true->Nx g c r k F γ s.ah w (a.put o.dst v) w')/\(ok=false->Q (.panic [{v:=v,recovered:=false}]) a w'):=by
    intro ok v w' n ⟨out,ah',F',γ',hq,ar,a0,t,be,T⟩;obtain⟨m1,m2,m3,m4,m5⟩:=merge l Z (tV a9) Y d T a0;have W:=I out ah' hq;have e2:Ext F w.heap ⟨r.E.B,γ⟩ F' w'.heap ⟨r.E.B,γ++γ'.drop m.length⟩:=⟨λq hq=>m2.f q (E q hq),λb o u hb a1=>m2.h b o u (hb.imp (E b) id) a1,m2.b,m2.g⟩;have J:RA F' w'.heap ⟨r.E.B,γ++γ'.drop m.length⟩ (dX (sig m (aZ P s.ah).length) out.a) v:=D9 m3 be ar;refine⟨λad=>?_,λac=>?_⟩
    ·cases out with
     |cV a=>rw[ad]at t;cases t
     |ret x=>
      obtain⟨bh,a4⟩:=bV (nk W);obtain⟨s',q1,q2,q3⟩:=oH (s:=⟨s.env,_⟩) a4 hn U (hA.trans n) m1 (hE.ext e2) J;have bi:w.heap.size<=w'.heap.size:=T.size;refine⟨F',_,s',q1,q3,λal q hq=>⟨?_,by rw[q2];exact uT bi e2.f e2.g bh hq⟩⟩;cases g with
      |any=>cases al
      |grow=>exact(m4 (List.isEmpty_iff.1 hg)).2 q hq (by simp)
      |dj pl=>
       refine kP.of (m5 q ?_);rcases hq with hq|hq|⟨j,cs,ty,v,g1,g2,g3,g4⟩
       ·exact .inl (E q hq)
       ·exact .inr (.inl hq)
       ·refine .inr (.inr ⟨j,_,v,λhj=>?_,BJ g2,g3,g4⟩);have:=cf.1 hg j hj;rw[g1]at this;cases this
    ·cases out with
     |ret x=>rw[ac]at t;cases t
     |cV x=>exact hQ _ _ _ ⟨v,_,_,rfl,W,F',_,hn,U,hA.trans n,m1,hE.ext e2,J⟩
   unfold qi at i;split at i
   ·rename_i v w' hr;obtain⟨rfl,hb⟩:=i;rw[hr];exact(fin true v _ (eZ.refl _) hb).1 rfl
   ·rename_i f' ao w' hr;obtain⟨rfl,hb⟩:=i;rw[hr];refine hb.mono λe am he=>?_;rcases he with⟨v,rfl,hb,n⟩|⟨v,rfl,hb,n⟩
    ·exact(fin true v am n hb).1 rfl
    ·exact(fin false v am n hb).2 rfl
   ·exact i.elim
 ·exact h.elim
theorem yT(hT:bI c.P c.tab){g:G}{F:Nat->Prop}{γ:List Value}{k:St->Prop}{K:XE->St->Prop}{Q:Exit->Act->World->Prop}(h:Xo c g o s k (λv s=>K (.cV v) s))(M:gJ c r F γ s .undef undef a w)(hQ:∀ch a w,Qk c r K (.panic ch) a w->Q (.panic ch) a w):
  o.wp c.P a w (λy w'=>Nx g c r k F γ s.ah w y w') Q:=by
 have i:Y1 c.tab s o.op (λx=>jj c.n s o.dst x k)->o.wp c.P a w (λy w'=>Nx g c r k F γ s.ah w y w') Q:=λh=>by
  obtain⟨E,e,z,m,l,_⟩:=M;obtain⟨v,x,T,J,d⟩:=sa hT l m h;unfold Oper.wp;rw[d w (.inr (au.refl _ _))];exact M0 T E e z m l J
 have f:g.sb s o.op=true->Y2 c.tab s o.op (λah x=>jE ah λah=>bif g.still ah then jj c.n ⟨s.env,ah⟩ o.dst x k else False)->o.wp c.P a w (λy w'=>Nx g c r k F γ s.ah w y w') Q:=λhgr h=>by
  obtain⟨E,e,z,m,l,_⟩:=M;obtain⟨nx,v,w',ah',x,F',γ',⟨Y,d⟩,O,T,b,J,S,n⟩:=FL hT l m h;obtain⟨H,U⟩:=bV (nk T);obtain⟨s',q1,q2,q3⟩:=oH (s:=⟨s.env,_⟩) U E e (z.trans (eZ.of O)) b.wr (l.ext b.ext) J
  have hp:Nx g c r k F γ s.ah w (a.put o.dst v) w':=by
   refine⟨F',γ',s',q1,q3,λI q hq=>?_⟩;have W:=FE m hq
   have kp:l6 s o.op=true->kP g w.heap w'.heap q/\gG g r.E F' γ' s'.ah w'.heap q:=λD=>by
    have hK:=S D;exact⟨.of (hK.2 q W (by simp)),by rw[q2];exact uT hK.1 b.ext.f b.ext.g H hq⟩
   cases g with
   |any=>cases I
   |grow=>exact kp (by simpa[G.sb,G.act]using hgr)
   |dj pl=>
    simp only[G.sb,G.act,Bool.or_eq_true]at hgr;rcases hgr with(hgr|hgr)|hgr
    ·exact kp hgr
    ·obtain rfl:pl=[]:=List.isEmpty_iff.1 hgr;rcases hq with hq|hq|⟨j,N,ty,u,g1,_⟩
     ·exact⟨λo u p=>b.ext.h q o u (.inl hq) p,.inl (b.ext.f q hq)⟩
     ·exact⟨λo u p=>b.ext.h q o u (.inr hq) p,.inr (.inl hq)⟩
     ·cases g1
    ·obtain⟨ad,n⟩:=n hgr;refine⟨?_,by rw[q2];exact uT ad b.ext.f b.ext.g H hq⟩;rcases hq with hq|hq|⟨j,N,ty,u,g1,g2,g3,g4⟩
     ·exactλo u p=>b.ext.h q o u (.inl hq) p
     ·exactλo u p=>b.ext.h q o u (.inr hq) p
     ·exact .of (n j N ty u g2 g3 q g4)
  unfold Oper.wp;rw[d];rcases Y with rfl|⟨rfl,rfl⟩
  ·exact hp
  ·exact hp
 unfold Xo at h;split at h
 ·rename_i x Z;split at h
  ·rename_i t ag N J;obtain⟨E,e,z,m,l,_⟩:=M;have P:=bm l J;generalize hv:a.eval x=v at P;have R:=P;cases P with
   | @iface _ _ _ _ us _ _ hr _=>
    have d:(execOp a.eval o).run c.P w= .halt (.panic (.iface t (jF ag us))) w:=by
     unfold execOp;rw[Z];simp[hv,Instr.panic,goPanic]
    unfold Oper.wp;rw[d];exact hQ _ _ _ ⟨_,_,s,rfl,h,F,γ,E,e,z,m,l,R⟩
  ·exact h.elim
 ·rename_i fx as al Z;have ac:o.op= .call ⟨.value fx,as.toList.toArray,al⟩:=by rw[Z]
  exact FM ac h M hQ
 ·rename_i op am ao;rcases kg h with⟨ha,h⟩|⟨ha,h⟩
  ·obtain⟨h1,h⟩:=bV h;exact f h1 h
  ·exact i (bV h).2
end
end Go.AM
end
