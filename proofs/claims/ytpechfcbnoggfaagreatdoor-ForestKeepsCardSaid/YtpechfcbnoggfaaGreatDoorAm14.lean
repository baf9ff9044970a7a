/- part -/
import Derived.Test.YtpechfcbnoggfaaGreatDoorAm10
set_option linter.unusedVariables false
set_option linter.unusedSimpArgs false
section
namespace Go.AM
open Go Go.NB
inductive Rn where
 |new
 |same (j:Nat)
 |cut (sz j lo n:Nat)
def jK(f:C→C→Prop):List C→List C→Prop
 |[],[]=>True
 |x::r,y::q=>f x y∧jK f r q
 |_,_=>False
def nX(f:C→C→Prop):List C→List C→Prop
 |_,[]=>True
 |x::r,y::q=>f x y∧nX f r q
 |[],_::_=>False
def oT(fr:Nat→Bool)(ah:List B)(j:Nat):Bool:=match ah[j]? with
 |some (.aT ..)=>true
 |some (.row ..)=>fr j
 |some (.box _ _)=>fr j
 |_=>false
def mC(fr:Nat→Bool)(ah:List B):Nat→List Rn→C→C→Prop
 |0,_,_,_=>False
 |n+1,ρ,k,c=>match c with
  | .rw i=>match ρ[i]? with
   |some (.same j)=>k= .rw j
   |some .new=>k= .nil
   |some (.cut h j s m)=>k= .sw h j s m
   |none=>False
  | .sw h i s m=>match ρ[i]? with
   |some (.same j)=>k= .sw h j s m
   |_=>False
  | .ptr i o=>match ρ[i]? with
   |some (.same j)=>k= .ptr j o
   |_=>False
  | .ep h i x o=>match ρ[i]? with
   |some (.same j)=>k= .ep h j x o
   |_=>False
  | .ls h α e l=>match k with
   | .nil=>l=[]
   | .ls b d a q=>(⟨b,d,a,q⟩:LS)=⟨h,α,e,l⟩
   | .rw j=>match ah[j]? with
    |some (.aT b d a q)=>(⟨b,d,a,q⟩:LS)=⟨h,α,e,l⟩
    |_=>False
   | .sw u j s m=>match ah[j]? with
    |some (.aT b d a q)=>bif Nat.beq u b then(⟨b,d,a,(q.drop s).take m⟩:LS)=⟨h,α,e,l⟩else False
    |_=>False
   |_=>False
  | .bs h α e l=>match k with
   | .nil=>l=[]
   | .ls b d a q=>(⟨b,d,a,q⟩:LS)=⟨h,α,e,l⟩
   | .bs b d a q=>(⟨b,d,a,q⟩:LS)=⟨h,α,e,l⟩
   | .rw j=>bif oT fr ah j then(ah[j]?).bind rowOf=some ⟨h,α,e,l⟩else False
   | .sw u j s m=>bif oT fr ah j then ke ah (.sw u j s m)=some ⟨h,α,e,l⟩else False
   |_=>False
  | .bp w=>match k with
   | .bp p=>nX (mC fr ah n []) p w
   | .ptr j o=>match ah[j]? with
    |some (.box p _)=>bif fr j then nX (mC fr ah n []) (p.drop o) w else False
    |_=>False
   | .ep h j i o=>bif oT fr ah j then match(ah[j]?).bind rowOf with
    |some L=>bif Nat.beq h L.sz then∃x,L.l[i]? =some x∧nX (mC fr ah n []) ((L.enc x).drop o) w else False
    |none=>False
    else False
   |_=>False
  | .fn f v=>match k with
   | .fn y r=>y=f∧jK (mC fr ah n ρ) r v
   |_=>False
  | .iface t g w=>match k with
   | .iface D z p=>(D=t∧z=g)∧jK (mC fr ah n ρ) p w
   |_=>False
  |c=>k=c
def bI(γ:List Value):Rn→Value
 | .same j=>(γ[j]?).getD undef
 | .new=>.slice none 0 0
 | .cut b j a n=>match γ[j]? with
  |some (.slice p _ cap)=>.slice (p.map (·.add (a*b))) n (cap-a)
  |_=>undef
section
variable {E:En} {F:Nat→Prop} {γ:List Value} {ah:List B} {H:ab} {B':Nat→Prop} {fr:Nat→Bool}
theorem RL.uK{m m':Md}{sz:Nat}{α:Type}{enc:α→List C}{l:List α}{v:Value}(h:RL F H m [.ls sz α enc l] [v]):RL F H m' [.ls sz α enc l] [v]:=by
 cases h with
 |bY _=>exact .bY .nl
 |ls hb a b d e c _=>exact .ls hb a b d e c .nl
theorem RL.zL{m m':Md}{sz:Nat}{α:Type}{enc:α→List C}{l:List α}{v:Value}(h:RL F H m [.ls sz α enc l] [v]):RL F H m' [.bs sz α enc l] [v]:=by
 cases h with
 |bY _=>exact .dN .nl
 |ls hb a b d e c _=>exact .bs (.inl hb) a b d e c .nl
theorem RL.CI{m:Md}{sz:Nat}{α:Type}{enc:α→List C}{l:List α}{p q:Option Addr}{n cap:Nat}(d:SV F H ⟨sz,α,enc,l⟩ (.slice p n cap))(h:RL F H m [.bs sz α enc l] [.slice p n cap])(hq:cap≠0→q=p):RL F H m [.bs sz α enc l] [.slice q n cap]:=by
 by_cases e:cap=0
 ·obtain⟨f,a,c,b,_⟩:=d.slice;cases c;have b:l.length≤cap:=b;have:l=[]:=List.eq_nil_of_length_eq_zero (by omega);subst this;rw[e];exact .dN .nl
 ·rw[hq e];exact h
theorem vB{b:B}{g:Value}{L:LS}{m m':Md}(h:BR F H m b g)(a:rowOf b=some L)(v:∀k∈az b g,m'.B k):RL F H m' [.bs L.sz L.α L.enc L.l] [g]:=by
 cases b with
 |box z Q=>cases a
 |dead=>cases a
 |buf=>cases a
 |row y α c l=>
  have w:=kJ h a;cases a;rcases h with⟨p,rfl,rfl⟩|⟨k,x,cap,n,t,j,rfl,E,I,J,K,M,N,O⟩
  ·exact .dN .nl
  ·rcases w with⟨P,e,D⟩|⟨b,i,d,f,e,o,q,r,s,u⟩
   ·simp at e
   ·simp at e;obtain⟨⟨rfl,rfl⟩,rfl⟩:=e;exact .bs (.inr (v k (by simp[az]))) o q r s u .nl
 |aT y α c l=>cases a;exact RL.zL h
theorem tU(a:∀j b g,fr j=true→ah[j]? =some b→γ[j]? =some g→∀k∈az b g,B' k){j:Nat}{b:B}{g:Value}(h:oT fr ah j=true)(hb:ah[j]? =some b)(hg:γ[j]? =some g):∀k∈az b g,B' k:=by
 unfold oT at h;rw[hb]at h;cases b with
 |aT=>intro k c;simp[az]at c
 |row=>exact a j _ _ h hb hg
 |box=>exact a j _ _ h hb hg
 |dead=>cases h
 |buf=>cases h
theorem Av{f:C→C→Prop}{m m':Md}(d:∀c0 c v,f c0 c→RL F H m [c0] [v]→RL F H m' [c] [v]):∀{a cs:List C} {vs:List Value},nX f a cs→RL F H m a vs→∃us:List Value,RL F H m' cs us∧∀(j:Nat) (u:Value),us[j]? =some u→vs[j]? =some u
 |_,[],vs,_,_=>⟨[],.nl,fun j u h=>by simp at h⟩
 |c0::a,c::cs,vs,⟨g,i⟩,p=>by
  obtain⟨v,us,rfl,k,l⟩:=p.jC;obtain⟨b,n,o⟩:=Av d i l;refine⟨v::b,(d _ _ _ g k).cons n,fun j u e=>?_⟩;cases j with
  |zero=>simpa using e
  |succ j=>simpa using o j u (by simpa using e)
theorem nh{f:C→C→Prop}{m m':Md}(d:∀c0 c v,f c0 c→RL F H m [c0] [v]→RL F H m' [c] [v]):∀{a cs:List C} {vs:List Value},jK f a cs→RL F H m a vs→RL F H m' cs vs
 |[],[],vs,_,b=>by cases b;exact .nl
 |c0::a,c::cs,vs,⟨e,g⟩,b=>by
  obtain⟨v,j,rfl,h,i⟩:=b.jC;exact(d _ _ _ e h).cons (nh d g i)
theorem wF{f:C→C→Prop}:∀{a cs:List C},jK f a cs→a.length=cs.length
 |[],[],_=>rfl
 |_::_,_::_,⟨_,h⟩=>by simp[wF h]
theorem RL.uX{m:Md}{cs:List C}{vs:List Value}(h:RL F H ⟨m.B,[]⟩ cs vs):RL F H m cs vs:=h.ext ⟨fun _ h=>h,fun _ _ _ _ h=>h,fun _ h=>h,fun j v h=>by cases h⟩
theorem CH{m:Md}{sz:Nat}{α:Type}{enc:α→List C}{l:List α}{b off n cap:Nat}(h:RL F H m [.bs sz α enc l] [.slice (some ⟨b,off,none⟩) n cap])(hl:l≠[]):F b∨m.B b:=by
 cases h with
 |dN _=>exact(hl rfl).elim
 |bs hb _ _ _ _ _ _=>exact hb
theorem uO(J:WR E F γ ah H)(hB:∀k,E.B k→B' k)(R:∀j b g,fr j=true→ah[j]? =some b→γ[j]? =some g→∀k∈az b g,B' k):
  ∀(n:Nat) {ρ:List Rn} {W c:C} {v:Value},mC fr ah n ρ W c→RL F H ⟨E.B,γ⟩ [W] [v]→RL F H ⟨B',ρ.map (bI γ)⟩ [c] [v]:=by
 intro n;induction n with
 |zero=>intro ρ W c v h;exact h.elim
 |succ n ih=>
  intro ρ W c v h a
  have Q:∀{i j:Nat} {g:Value},ρ[i]? =some (.same j)→γ[j]? =some g→(ρ.map (bI γ))[i]? =some g:=fun s r=>by
   rw[List.getElem?_map,s];simp[bI,r]
  have U:∀{b o:Nat} {Y cs:List C} {vs:List Value} {m:Md},(F b∨B' b)→RL F H ⟨E.B,γ⟩ Y vs→(∀j u,vs[j]? =some u→cell H b (o+j)=some u)→nX (mC fr ah n []) Y cs→RL F H ⟨B',ρ.map (bI γ)⟩ [.bp cs] [.pointer (some ⟨b,o,none⟩)]:=fun hb P Z h3=>by
   obtain⟨us,g1,g2⟩:=Av (m':=⟨B',[]⟩) (fun W c v h a=>ih (ρ:=[]) h a) h3 P;exact .bp hb g1 (fun j u hj=>Z j u (g2 j u hj)) .nl
  cases c with
  |rw i=>
   simp only[mC]at h;split at h
   ·rename_i j s;subst h;cases a with
    |rw r z _=>exact .rw (Q s r) z .nl
   ·rename_i s;subst h;cases a;refine .rw (p:=none) (by rw[List.getElem?_map,s];rfl) (fun h=>(h rfl).elim) .nl
   ·rename_i sz j w m s;subst h;cases a with
    | @sw _ _ _ _ _ p q n0 cap _ _ r S z _=>
     have d:γ[j]? =some _:=r;exact .rw (p:=p.map (·.add (w*sz))) (by rw[List.getElem?_map,s];simp[bI,d]) (fun h=>z (by omega)) .nl
   ·exact h.elim
  |sw sz i w m=>
   simp only[mC]at h;split at h
   ·rename_i j s;subst h;cases a with
    |sw r S z _=>exact .sw (Q s r) S z .nl
   ·exact h.elim
  |ptr i o=>
   simp only[mC]at h;split at h
   ·rename_i j s;subst h;cases a with
    |ptr r _=>exact .ptr (Q s r) .nl
   ·exact h.elim
  |ep sz i x o=>
   simp only[mC]at h;split at h
   ·rename_i j s;subst h;cases a with
    |ep r _=>exact .ep (Q s r) .nl
   ·exact h.elim
  |ls sz α ar l=>
   simp only[mC]at h;split at h
   ·subst h;cases a;exact .bY .nl
   ·cases h;exact a.uK
   ·split at h
    ·rename_i hb;cases h;cases a with
     |rw r z _=>exact RL.uK (m:=m0) ((RL.up (m:=m0) (J.br _ _ _ hb r)).vp z)
    ·exact h.elim
   ·rename_i N j w m;split at h
    ·rename_i a0 ap T l' hb;obtain⟨D,h⟩:=bM h;obtain rfl:=Nat.eq_of_beq_eq_true D;have P:=yv J a;rw[show cj ah (.sw N j w m)=(ah,.ls N ap T ((l'.drop w).take m))by simp only[cj,hb,D,cond_true]]at P;cases a with
     | @sw _ _ _ _ _ p q n0 cap _ _ r S z _=>
      have K:RL F H m0 [.ls N ap T l'] [.slice p n0 cap]:=J.br _ _ _ hb r;cases h
      have hn:n0=l'.length:=by
       obtain⟨p',I,e,_⟩:=K.sv.slice;cases e;rfl
      by_cases e:cap=w
      ·obtain⟨p',I,e',g1,_⟩:=K.sv.slice;cases e';have g1:l'.length≤cap:=g1;obtain rfl:m=0:=by omega
       rw[List.take_zero,e,Nat.sub_self];exact .bY .nl
      ·have:=K.cut (x:=w) (y:=w+m) (by omega) (by omega);simp only[fX,if_neg e]at this;rw[z e];rw[show w+m-w=m by omega]at this;exact this.uK
    ·exact h.elim
   ·exact h.elim
  |bs sz α ar l=>
   simp only[mC]at h;split at h
   ·subst h;cases a;exact .dN .nl
   ·cases h;exact a.zL
   ·cases h;cases a with
    |dN _=>exact .dN .nl
    |bs hb P Z a D hc _=>exact .bs (hb.imp id (hB _)) P Z a D hc .nl
   ·rename_i j;obtain⟨K,h⟩:=bM h;obtain⟨b,hb,O⟩:=Option.bind_eq_some_iff.1 h;cases a with
    |rw r z _=>
     have d:γ[j]? =some _:=r;exact RL.CI (kJ (J.br _ _ _ hb d) O) (vB (m':=⟨B',ρ.map (bI γ)⟩) (J.br _ _ _ hb d) O (tU R K hb d)) z
   ·rename_i N j w m;obtain⟨K,h⟩:=bM h;have hs:=J.sl a h;cases a with
    | @sw _ _ _ _ _ p q n0 cap _ _ r S z _=>
     have d:γ[j]? =some _:=r;simp only[ke]at h;cases hb:(ah[j]?).bind rowOf with
     |none=>rw[hb]at h;cases h
     |some L0=>
      rw[hb]at h;simp only[]at h;by_cases D:Nat.beq N L0.sz=true
      ·rw[D]at h;obtain⟨b,ac,O⟩:=Option.bind_eq_some_iff.1 hb;have D:=Nat.eq_of_beq_eq_true D;have am:=vB (m':=⟨B',ρ.map (bI γ)⟩) (J.br _ _ _ ac d) O (tU R K ac d);have ad:=kJ (J.br _ _ _ ac d) O
       have hn:n0=L0.l.length:=by
        obtain⟨p',I,e,_⟩:=ad.slice;cases e;rfl
       cases h;by_cases e:cap=w
       ·obtain⟨p',I,e',g1,_⟩:=ad.slice;cases e';obtain rfl:m=0:=by omega
        rw[List.take_zero,e,Nat.sub_self];exact .dN .nl
       ·have:=RL.xJ ad am (x:=w) (y:=w+m) (by omega) (by omega);simp only[fX,if_neg e]at this;rw[z e,D];rw[show w+m-w=m by omega]at this;exact this
      ·rw[Bool.not_eq_true]at D;rw[D]at h;cases h
   ·exact h.elim
  |bp cs=>
   simp only[mC]at h;split at h
   ·cases a with
    |bp hb M hc _=>exact U (m:=m0) (hb.imp id (hB _)) M.uX hc h
   ·rename_i j o;split at h
    ·rename_i Y hb;obtain⟨K,h⟩:=bM h;cases a with
     |ptr r _=>
      have d:γ[j]? =some _:=r;obtain⟨k',vs,e,P,Z⟩:=qn (o:=o) (J.br j _ _ hb d);cases e;exact U (m:=m0) (.inr (R j _ _ K hb d _ (by simp[az]))) P Z h
    ·exact h.elim
   ·rename_i sz j i o;obtain⟨K,h⟩:=bM h;split at h
    ·rename_i L O;obtain⟨D,x,s,h'⟩:=bM h;obtain rfl:=Nat.eq_of_beq_eq_true D;obtain⟨b,hb,O⟩:=Option.bind_eq_some_iff.1 O;cases a with
     |ep r _=>
      have d:γ[j]? =some _:=r;obtain⟨us,P,Z⟩:=AY (J.br j b _ hb d) O rfl s o;have aC:=vB (m':=⟨B',[]⟩) (J.br j b _ hb d) O (tU R K hb d);have al:=CH aC (List.ne_nil_of_length_pos (by have:=(List.getElem?_eq_some_iff.1 s).1;omega));exact U (m:=m0) al P.up Z h'
    ·exact h.elim
   ·exact h.elim
  |fn f aT=>
   simp only[mC]at h;split at h
   ·obtain⟨rfl,h⟩:=h;cases a with
    |fn M _=>exact .fn (nh (fun W c v h a=>ih h a) h M) .nl
   ·exact h.elim
  |iface t g cs=>
   simp only[mC]at h;split at h
   ·obtain⟨⟨rfl,rfl⟩,h⟩:=h;cases a with
    |iface M _=>exact .iface (nh (fun W c v h a=>ih h a) h M) .nl
   ·exact h.elim
  |int k i=>simp only[mC]at h;subst h;cases a;exact .int .nl
  |bool b=>simp only[mC]at h;subst h;cases a;exact .bool .nl
  |str l=>simp only[mC]at h;subst h;cases a with|str h _=>exact .str h .nl
  |raw v=>simp only[mC]at h;subst h;cases a with|raw h _=>exact .raw h .nl
  |nil=>simp only[mC]at h;subst h;cases a;exact .nil .nl
end
end Go.AM
end
section
namespace Go.AM
open Go Go.NB
def vU:Option Nat→Option Nat→Prop
 |none,_=>True
 |some q,a=>a=some q
theorem Jt{t t0:Option Nat}(h:vU t t0)(e:Nat):t.getD (t0.getD e)=t0.getD e:=by
 cases t with
 |none=>rfl
 |some q=>rw[show t0=some q from h];rfl
def mB(fr:Nat→Bool)(ah:List B)(ρ:List Rn)(r:Rn)(b:B):Prop:=
 match b with
 | .dead=>True
 | .box n t=>match r with
  | .same j=>match ah[j]? with
   |some (.box h p)=>vU t p∧jK (mC fr ah 5 ρ) h n
   |_=>False
  |_=>False
 | .row g α e l=>match r with
  | .same j=>match ah[j]? with
   |some (.row c d a f)=>(⟨c,d,a,f⟩:LS)=⟨g,α,e,l⟩
   |_=>False
  | .new=>l=[]
  | .cut i j k m=>match ah[j]? with
   |some (.row c d a f)=>bif Nat.beq i c then k+m≤f.length∧(⟨c,d,a,(f.drop k).take m⟩:LS)=⟨g,α,e,l⟩else False
   |_=>False
 | .aT g α e l=>match r with
  | .same j=>match ah[j]? with
   |some (.aT c d a f)=>(⟨c,d,a,f⟩:LS)=⟨g,α,e,l⟩
   |_=>False
  |_=>False
 | .buf t g α e l=>match r with
  | .same j=>match ah[j]? with
   |some (.buf o c d a f)=>o=t∧(⟨c,d,a,f⟩:LS)=⟨g,α,e,l⟩
   |_=>False
  | .new=>l=[]
  |_=>False
def kF(fr:Nat→Bool)(ah:List B)(ρ:List Rn):List Rn→List B→Prop
 |[],[]=>True
 |r::c,b::a=>mB fr ah ρ r b∧kF fr ah ρ c a
 |_,_=>False
def kM:Rn→List Nat
 | .same j=>[j]
 | .cut _ j _ _=>[j]
 | .new=>[]
def pb:B→Bool
 | .box .. | .row .. | .buf .. =>true
 |_=>false
def cF:List Rn→List B→List Nat
 |r::b,.box _ _::a=>kM r++cF b a
 |r::b,.row .. ::a=>kM r++cF b a
 |r::b,.buf .. ::a=>kM r++cF b a
 |_::b,_::a=>cF b a
 |_,_=>[]
def eg:List Nat→Bool
 |[]=>true
 |j::r=> !(r.any (Nat.beq j))&&eg r
theorem rC:∀{l:List Nat},eg l=true→l.Nodup
 |[],_=>.nil
 |j::r,h=>by
  simp only[eg,Bool.and_eq_true,Bool.not_eq_true',List.any_eq_false]at h;refine List.nodup_cons.2 ⟨fun a=>h.1 j a (Nat.beq_refl j),rC h.2⟩
section
variable {E:En} {F:Nat→Prop} {γ:List Value} {ah:List B} {H:ab} {B':Nat→Prop} {fr:Nat→Bool} {ρ:List Rn} {tah:List B}
theorem rm:∀{rs:List Rn} {bs:List B},kF fr ah ρ rs bs→rs.length=bs.length∧∀(i:Nat) (b:B),bs[i]? =some b→∃r,rs[i]? =some r∧mB fr ah ρ r b
 |[],[],_=>⟨rfl,fun i b h=>by simp at h⟩
 |r::rs,b::bs,⟨c,d⟩=>by
  obtain⟨e,f⟩:=rm d;refine⟨by simp[e],fun i a h=>?_⟩;cases i with
  |zero=>cases h;exact⟨r,rfl,c⟩
  |succ i=>simpa using f i a (by simpa using h)
theorem rk(v:WR E F γ ah H){r:Rn}{b:B}(h:mB fr ah ρ r b):∀k∈az b (bI γ r),∃j o d,kM r=[j]∧ah[j]? =some o∧γ[j]? =some d∧k∈az o d∧pb b=true:=by
 intro k a;have f:∀{j:Nat} {o:B},ah[j]? =some o→∃d,γ[j]? =some d:=fun g=>⟨_,List.getElem?_eq_getElem (by rw[v.len];exact(List.getElem?_eq_some_iff.1 g).1)⟩;cases b with
 |dead=>simp[az]at a
 |aT=>simp[az]at a
 |buf t M α q l=>
  cases r with
  |same j=>
   simp only[mB]at h;split at h
   ·rename_i g;obtain⟨d,i⟩:=f g;refine⟨j,_,d,rfl,g,i,?_,rfl⟩;simp only[bI,i,Option.getD_some]at a;cases d with
    |slice p n c=>cases p<;>cases c<;>first|(simp[az]at a;done)|simpa[az]using a
    |_=>simp[az]at a
   ·exact h.elim
  |new=>simp[bI,az]at a
  |cut=>simp only[mB]at h
 |box x U=>
  cases r with
  |same j=>
   simp only[mB]at h;split at h
   ·rename_i y T g;obtain⟨d,i⟩:=f g;refine⟨j,_,d,rfl,g,i,?_,rfl⟩;simp only[bI,i,Option.getD_some]at a;cases d with
    |pointer p=>cases p<;>first|(simp[az]at a;done)|simpa[az]using a
    |_=>simp[az]at a
   ·exact h.elim
  |_=>simp only[mB]at h
 |row M α q l=>
  cases r with
  |same j=>
   simp only[mB]at h;split at h
   ·rename_i g;obtain⟨d,i⟩:=f g;refine⟨j,_,d,rfl,g,i,?_,rfl⟩;simp only[bI,i,Option.getD_some]at a;rw[lM]at a⊢;exact a
   ·exact h.elim
  |new=>simp[bI,az]at a
  |cut O j w m=>
   simp only[mB]at h;split at h
   ·rename_i N P u K g;obtain⟨J,D,S⟩:=bM h;obtain⟨d,i⟩:=f g;refine⟨j,_,d,rfl,g,i,?_,rfl⟩;obtain⟨x,s,Q,R⟩:=pF (v.br _ _ _ g i)
    obtain⟨p,n0,cap,rfl⟩:∃p n0 cap,d= .slice p n0 cap:=by
     rcases s.2 with⟨p,e,_⟩|⟨_,_,_,_,_,e,_⟩<;>exact⟨_,_,_,e⟩
    have I:n0=K.length:=by
     rcases s.2 with⟨p,e,z⟩|⟨_,_,_,_,_,e,_⟩
     ·cases e;exact z.symm
     ·simp at e;exact e.2.1
    subst I;simp only[bI,i]at a;rw[lM]at a⊢;exact(s.part (lo:=w) (n:=m) D (fun _=>rfl)).2 k (by rw[Nat.eq_of_beq_eq_true J]at a;exact a)
   ·exact h.elim
theorem si:∀{rs:List Rn} {bs:List B} {i j:Nat} {r:Rn} {b:B},rs[i]? =some r→bs[i]? =some b→pb b=true→kM r=[j]→j∈cF rs bs
 |[],_,i,j,r,b,a,_,_,_=>by simp at a
 |_::_,[],i,j,r,b,_,hb,_,_=>by simp at hb
 |r'::rs,e::bs,0,j,r,b,a,hb,d,c=>by
  cases a;cases hb;cases e with
  |box=>simp[cF,c]
  |row=>simp[cF,c]
  |buf=>simp[cF,c]
  |aT=>cases d
  |dead=>cases d
 |r'::rs,e::bs,i+1,j,r,b,a,hb,d,c=>by
  have:=si (rs:=rs) (bs:=bs) (i:=i) (by simpa using a) (by simpa using hb) d c;cases e<;>simp[cF,this]
theorem BM:∀{rs:List Rn} {bs:List B} {i i' j:Nat} {r r':Rn} {b b':B},(cF rs bs).Nodup→i≠i'→rs[i]? =some r→bs[i]? =some b→rs[i']? =some r'→bs[i']? =some b'→
  pb b=true→pb b'=true→kM r=[j]→kM r'=[j]→False
 |[],_,i,i',j,r,r',b,b',_,_,l,_,_,_,_,_,_,_=>by simp at l
 |_::_,[],i,i',j,r,r',b,b',_,_,_,hb,_,_,_,_,_,_=>by simp at hb
 |r0::rs,m::bs,i,i',j,r,r',b,b',a,p,l,hb,f,d,k,e,g,h=>by
  have o:(cF rs bs).Nodup:=by
   cases m<;>simp only[cF]at a
   ·exact(List.nodup_append.1 a).2.1
   ·exact(List.nodup_append.1 a).2.1
   ·exact a
   ·exact(List.nodup_append.1 a).2.1
   ·exact a
  have c:∀{q:Nat},pb m=true→kM r0=[q]→q∈cF rs bs→False:=fun{q} k g n=>by
   cases m with
   |box _ _=>
    simp only[cF,g]at a;exact(List.nodup_append.1 a).2.2 q (by simp) q n rfl
   |row=>
    simp only[cF,g]at a;exact(List.nodup_append.1 a).2.2 q (by simp) q n rfl
   |buf=>
    simp only[cF,g]at a;exact(List.nodup_append.1 a).2.2 q (by simp) q n rfl
   |aT=>cases k
   |dead=>cases k
  cases i with
  |zero=>
   cases i' with
   |zero=>exact p rfl
   |succ i'=>
    cases l;cases hb;exact c k g (si (i:=i') (by simpa using f) (by simpa using d) e h)
  |succ i=>
   cases i' with
   |zero=>
    cases f;cases d;exact c e h (si (i:=i) (by simpa using l) (by simpa using hb) k g)
   |succ i'=>exact BM (i:=i) (i':=i') o (by omega) (by simpa using l) (by simpa using hb) (by simpa using f) (by simpa using d) k e g h
structure Core(B':Nat→Prop)(own:Nat→Prop)(F:Nat→Prop)(γ:List Value)(ah:List B)(H:ab):Prop where
 len:γ.length=ah.length
 br:∀(j:Nat) (b:B) (g:Value),ah[j]? =some b→γ[j]? =some g→BR F H ⟨B',γ⟩ b g
 disj:∀(i j:Nat) (b b':B) (g g':Value),i≠j→ah[i]? =some b→γ[i]? =some g→ah[j]? =some b'→γ[j]? =some g'→∀k,k∈az b g→k∉az b' g'
 nf:∀(j:Nat) (b:B) (g:Value) (k:Nat),ah[j]? =some b→γ[j]? =some g→k∈az b g→(¬F k∧¬B' k)∧own k
def jZ(E:En)(γ:List Value)(ah:List B)(fr:Nat→Bool)(k:Nat):Prop:=E.B k∨∃(j:Nat) (b:B) (g:Value),ah[j]? =some b∧γ[j]? =some g∧fr j=true∧k∈az b g
def owned(γ:List Value)(ah:List B)(k:Nat):Prop:=∃(j:Nat) (b:B) (g:Value),ah[j]? =some b∧γ[j]? =some g∧k∈az b g
theorem core(w:WR E F γ ah H)(hm:kF fr ah ρ ρ tah)(a2:eg (cF ρ tah)=true)(aC:∀j,fr j=true→j∉cF ρ tah):
  Core (jZ E γ ah fr) (owned γ ah) F (ρ.map (bI γ)) tah H:=by
 obtain⟨T,R⟩:=rm hm
 have f:∀{i:Nat} {b:B} {g:Value},tah[i]? =some b→(ρ.map (bI γ))[i]? =some g→∃r,ρ[i]? =some r∧g=bI γ r∧mB fr ah ρ r b:=fun hb D=>by
  obtain⟨r,u,s⟩:=R _ _ hb;rw[List.getElem?_map,u]at D;exact⟨r,u,by simpa using D.symm,s⟩
 have ar:=rC a2;refine⟨by simp[T],fun i b g hb D=>?_,fun i i' b b' g g' a3 hb D Q a0 k S a1=>?_,fun i b g k hb D S=>?_⟩
 ·obtain⟨r,O,rfl,a⟩:=f hb D
  have N:∀{I Y:List C} {vs:List Value},jK (mC fr ah 5 ρ) I Y→RL F H ⟨E.B,γ⟩ I vs→RL F H ⟨jZ E γ ah fr,ρ.map (bI γ)⟩ Y vs:=fun u s=>
   nh (fun c0 c v h O=>uO w (fun _ h=>.inl h) (fun j b g u s z k S=>.inr ⟨j,b,g,s,z,u,S⟩) 5 h O) u s
  have o:∀{j:Nat} {W:B},ah[j]? =some W→∃y,γ[j]? =some y:=fun q=>⟨_,List.getElem?_eq_getElem (by rw[w.len];exact(List.getElem?_eq_some_iff.1 q).1)⟩;cases b with
  |dead=>trivial
  |buf t sz α J l=>
   cases r with
   |same j=>
    simp only[mB]at a;split at a
    ·rename_i q;obtain⟨y,d⟩:=o q;obtain⟨rfl,a⟩:=a;cases a;have:=w.br _ _ _ q d;simp only[bI,d,Option.getD_some];exact this
    ·exact a.elim
   |new=>exact .inl ⟨none,rfl,a⟩
   |cut=>simp only[mB]at a
  |box Y ty=>
   cases r with
   |same j=>
    simp only[mB]at a;split at a
    ·rename_i I t0 q;obtain⟨y,d⟩:=o q;obtain⟨k,e,vs,u,s,z⟩:=w.br _ _ _ q d;refine⟨k,t0.getD e,vs,?_,by rw[Jt a.1];exact s,N a.2 z⟩;simp[bI,d,u]
    ·exact a.elim
   |_=>simp only[mB]at a
  |row sz α J l=>
   cases r with
   |same j=>
    simp only[mB]at a;split at a
    ·rename_i q;obtain⟨y,d⟩:=o q;cases a;have:=w.br _ _ _ q d;simp only[bI,d,Option.getD_some];exact this
    ·exact a.elim
   |new=>exact .inl ⟨none,rfl,a⟩
   |cut a9 j lo m=>
    simp only[mB]at a;split at a
    ·rename_i a6 bb a5 l' q;obtain⟨hz,u,s⟩:=bM a;have hz:=Nat.eq_of_beq_eq_true hz;obtain⟨y,d⟩:=o q;obtain⟨Y,g1,g2,g3⟩:=pF (w.br _ _ _ q d)
     obtain⟨p,n0,cap,rfl⟩:∃p n0 cap,y= .slice p n0 cap:=by
      rcases g1.2 with⟨p,e,_⟩|⟨_,_,_,_,_,e,_⟩<;>exact⟨_,_,_,e⟩
     have hn:n0=l'.length:=by
      rcases g1.2 with⟨p,e,e2⟩|⟨_,_,_,_,_,e,_⟩
      ·cases e;exact e2.symm
      ·simp at e;exact e.2.1
     subst hn;cases s;simp only[bI,d];rw[hz];have Z:∀x∈l'.drop lo,(J x).length=sz:=fun x hx=>g3 x (List.mem_of_mem_drop hx);refine qM (g1.part (lo:=lo) (n:=m) u (fun _=>rfl)).1 (by rw[List.length_take,List.length_drop];omega) ?_ (fun x hx=>Z x (List.mem_of_mem_take hx));rw[←nw m Z,←ml lo g3];exact(g2.drop _).take _
    ·exact a.elim
  |aT sz α J l=>
   cases r with
   |same j=>
    simp only[mB]at a;split at a
    ·rename_i q;obtain⟨y,d⟩:=o q;cases a;have:=w.br _ _ _ q d;simp only[bI,d,Option.getD_some];exact this
    ·exact a.elim
   |_=>simp only[mB]at a
 ·obtain⟨r,O,rfl,a⟩:=f hb D;obtain⟨r',a4,rfl,U⟩:=f Q a0;obtain⟨j,W,y,u,s,z,P,h5⟩:=rk w a k S;obtain⟨j',ac,ad,al,K,M,am,ap⟩:=rk w U k a1;by_cases e:j=j'
  ·subst e;exact BM ar a3 O hb a4 Q h5 ap u al
  ·exact w.disj _ _ _ _ _ _ e s z K M k P am
 ·obtain⟨r,O,rfl,a⟩:=f hb D;obtain⟨j,W,y,u,s,z,P,h5⟩:=rk w a k S;obtain⟨Z,h7⟩:=w.nf _ _ _ k s z P;refine⟨⟨Z,fun h=>?_⟩,j,W,y,s,z,P⟩;rcases h with h|⟨j',ac,ad,K,M,h8,h9⟩
  ·exact h7 h
  ·by_cases e:j=j'
   ·subst e;exact aC _ h8 (si O hb h5 u)
   ·exact w.disj _ _ _ _ _ _ e s z K M k P h9
theorem weaken(a:WR E F γ ah H)(hm:kF (fun _=>false) ah ρ ρ tah)(m:eg (cF ρ tah)=true)(hid:∀i,i<E.γ0.length→ρ[i]? =some (.same i)):
  WR E F (ρ.map (bI γ)) tah H∧∀{n:Nat} {o c:C} {v:Value},mC (fun _=>false) ah n ρ o c→RL F H ⟨E.B,γ⟩ [o] [v]→RL F H ⟨E.B,ρ.map (bI γ)⟩ [c] [v]:=by
 have d:=core a hm m (fun j h=>by cases h)
 have t:jZ E γ ah (fun _=>false)=E.B:=by
  funext k;apply propext;constructor
  ·rintro(h|⟨_,_,_,_,_,h,_⟩)
   ·exact h
   ·cases h
  ·exact .inl
 rw[t]at d;refine⟨⟨d.len,d.br,d.disj,fun j b g k e f l=>(d.nf j b g k e f l).1,a.fb,a.bb,a.size,a.ca,a.fmono,a.fnew,fun j b g k e f l=>?_,fun i v p=>?_⟩,fun h u=>uO a (fun _ h=>h) (fun j b g h=>by cases h) _ h u⟩
 ·obtain⟨y,w,x,q,r,s⟩:=(d.nf j b g k e f l).2;exact a.onew _ _ _ k q r s
 ·have e:=hid i (List.getElem?_eq_some_iff.1 p).1;rw[List.getElem?_map,e];simp[bI,a.pre i v p]
end
end Go.AM
end
section
namespace Go.AM
open Go Go.NB
def jx(σ:Nat→Nat):C→C
 | .rw j=>.rw (σ j)
 | .sw b j a n=>.sw b (σ j) a n
 | .ptr j o=>.ptr (σ j) o
 |c=>c
def fM:C→Bool
 | .rw _| .sw .. | .ptr .. =>true
 | .iface _ _ a=>dF a
 |c=>dW c
def eL:List C→Bool
 |[]=>true
 |c::a=>fM c&&eL a
def fu(σ:Nat→Nat):B→B
 | .box a t=>.box (a.map (jx σ)) t
 |b=>b
def eZ:B→Bool
 | .box a _=>eL a
 |_=>true
def ej(σ:Nat→Nat):A→A
 | .c x=>.c (jx σ x)
 | .st b=>.st (b.map (jx σ))
 | .aC d=>.aC (d.map fun t=>(t.1,t.2.map (jx σ)))
 |a=>a
def eK:A→Bool
 | .c x=>fM x
 | .st a=>eL a
 | .aC b=>b.all fun t=>eL t.2
 | .undef=>true
 | .off=>false
inductive Out:Type 1 where
 |ret (a:A)
 |cR (a:A)
def Out.a:Out→A
 | .ret a=>a
 | .cR a=>a
section
variable {F:Nat→Prop} {H:ab} {m m':Md} {σ:Nat→Nat}
theorem rX(a:∀(j:Nat) (g:Value),m.γ[j]? =some g→m'.γ[σ j]? =some g){cs:List C}{vs:List Value}(h:RL F H m cs vs)(hc:eL cs=true):RL F H m' (cs.map (jx σ)) vs:=by
 induction h with
 |nl=>exact .nl
 |int _ ih=>simp[eL,fM,dW]at hc;exact .int (ih a hc)
 |bool _ ih=>simp[eL,fM,dW]at hc;exact .bool (ih a hc)
 |str h _ ih=>simp[eL,fM,dW]at hc;exact .str h (ih a hc)
 |raw h _ ih=>simp[eL,fM,dW]at hc;exact .raw h (ih a hc)
 |nil _ ih=>simp[eL,fM,dW]at hc;exact .nil (ih a hc)
 |bY _ ih=>simp[eL,fM,dW]at hc;exact .bY (ih a hc)
 |ls hb i k f l c _ _ ih=>simp[eL,fM,dW]at hc;exact .ls hb i k f l c (ih a hc)
 |rw b e _ ih=>simp[eL,fM]at hc;exact .rw (a _ _ b) e (ih a hc)
 |sw b d e _ ih=>simp[eL,fM]at hc;exact .sw (a _ _ b) d e (ih a hc)
 |ptr b _ ih=>simp[eL,fM]at hc;exact .ptr (a _ _ b) (ih a hc)
 |iface f _ _ ih=>simp[eL,fM]at hc;exact .iface (ti f hc.1) (ih a hc.2)
 |_=>simp[eL,fM,dW]at hc
theorem AQ(a:∀(j:Nat) (g:Value),m.γ[j]? =some g→m'.γ[σ j]? =some g):∀{ts:List (Bool×List C)} {vs:List Value},RT F H m ts vs→(ts.all fun t=>eL t.2)=true→RT F H m' (ts.map fun t=>(t.1,t.2.map (jx σ))) vs
 |[],[],_,_=>trivial
 |(g,i)::ts,v::vs,⟨⟨f,c,d,e⟩,h⟩,b=>by
  simp only[List.all_cons,Bool.and_eq_true]at b;exact⟨⟨f,rX a c b.1,d,fun h=>by simp[e h]⟩,AQ a h b.2⟩
theorem AP(b:∀(j:Nat) (g:Value),m.γ[j]? =some g→m'.γ[σ j]? =some g){a:A}{v:Value}(h:RA F H m a v)(hc:eK a=true):RA F H m' (ej σ a) v:=by
 cases a with
 |undef=>trivial
 |off=>cases hc
 |c x=>exact rX b (cs:=[x]) h (by simpa[eL,eK]using hc)
 |st e=>obtain⟨d,rfl,h⟩:=h;exact⟨d,rfl,rX b h hc⟩
 |aC f=>obtain⟨d,rfl,h⟩:=h;exact⟨d,rfl,AQ b h hc⟩
theorem HH(c:∀(j:Nat) (g:Value),m.γ[j]? =some g→m'.γ[σ j]? =some g){b:B}{g:Value}(h:BR F H m b g)(hc:eZ b=true):BR F H m' (fu σ b) g:=by
 cases b with
 |box p q=>obtain⟨k,e,o,f,i,n⟩:=h;exact⟨k,e,o,f,i,rX c n hc⟩
 |row d α a l=>exact h
 |aT d α a l=>exact h
 |buf t d α a l=>exact h
 |dead=>trivial
theorem pv{b:B}{g:Value}:az (fu σ b) g=az b g:=by
 cases g with
 |pointer p=>cases b<;>cases p<;>rfl
 |_=>cases b<;>rfl
end
def dU(F:Nat→Prop)(H:ab)(m:Md):List A→List Value→Prop
 |[],[]=>True
 |a::as,v::b=>RA F H m a v∧dU F H m as b
 |_,_=>False
structure ek(d:Bool)(w w':World):Prop where
 os:w'.os=w.os
 tape:w'.tape=w.tape
 output:w'.output=w.output
 drawn:d=true→w.drawn≤w'.drawn
theorem ek.refl{d:Bool}(w:World):ek d w w:=⟨rfl,rfl,rfl,fun _=>Nat.le_refl _⟩
theorem ek.trans{d:Bool}{a b c:World}(h:ek d a b)(k:ek d b c):ek d a c:=⟨k.os.trans h.os,k.tape.trans h.tape,k.output.trans h.output,fun e=>Nat.le_trans (h.drawn e) (k.drawn e)⟩
theorem ek.of{d:Bool}{a b:World}(h:bh a b):ek d a b:=⟨h.os,h.tape,h.output,fun _=>h.drawn⟩
def ow(d:Bool)(P:Program)(w:World)(R:Bool→Value→ab→Prop):Result Next→Prop
 | .ok (.value v) a=>a=w∧R true v w.heap
 | .ok (.enter f b) a=>a=w∧Calls P f b w fun e a=>(∃v,e= .returned v∧R true v a.heap∧ek d w a)∨(∃v,e= .panicked [{v:=v,recovered:=false}]∧R false v a.heap∧ek d w a)
 |_=>False
def mX(d:Bool)(P:Program)(f:FuncId)(args:Array Value)(H:ab)(R:Bool→Value→ab→Prop):Prop:=
 ∀w:World,w.heap=H→ow d P w R ((callFunc f args).run P w)
theorem mX.mono{d:Bool}{P:Program}{f:FuncId}{args:Array Value}{H:ab}{R i:Bool→Value→ab→Prop}(h:mX d P f args H R)(hr:∀b v H',R b v H'→i b v H'):mX d P f args H i:=by
 intro w j;have:=h w j;unfold ow at*;split at this
 ·exact⟨this.1,hr _ _ _ this.2⟩
 ·refine⟨this.1,this.2.mono fun e k h=>?_⟩;rcases h with⟨v,a,c,g⟩|⟨v,a,c,g⟩
  ·exact .inl ⟨v,a,hr _ _ _ c,g⟩
  ·exact .inr ⟨v,a,hr _ _ _ c,g⟩
 ·exact this.elim
def en(F L:Nat→Prop)(γ:List Value)(ah:List B)(H:ab):En:=⟨F,L,owned γ ah,H,γ⟩
def oq(F L:Nat→Prop)(γ:List Value)(ah:List B)(H:ab)(Q:Out→List B→Prop)(ok:Bool)(v:Value)(H':ab):Prop:=
 ∃out ah' F' γ',Q out ah'∧eK out.a=true∧ah'.all eZ=true∧(match out with| .ret _=>ok=true| .cR _=>ok=false)∧RA F' H' ⟨L,γ'⟩ out.a v∧WR (en F L γ ah H) F' γ' ah' H'
def bA(d:Bool)(P:Program)(f:FuncId)(args:List A)(ah:List B)(Q:Out→List B→Prop):Prop:=
 ∀(F L:Nat→Prop) (γ:List Value) (H:ab) (a:List Value),dU F H ⟨L,γ⟩ args a→WR (en F L γ ah H) F γ ah H→mX d P f a.toArray H (oq F L γ ah H Q)
abbrev ae(P:Program)(f:FuncId)(args:List A)(ah:List B)(Q:Out→List B→Prop):Prop:=bA false P f args ah Q
theorem bA.mono{d:Bool}{P:Program}{f:FuncId}{args:List A}{ah:List B}{Q a:Out→List B→Prop}(h:bA d P f args ah Q)(hq:∀o b,Q o b→a o b):bA d P f args ah a:=
 fun F L γ H j c e=>(h F L γ H j c e).mono fun ok v H' ⟨out,ah',F',γ',g,i⟩=>⟨out,ah',F',γ',hq _ _ g,i⟩
theorem ae.mono{P:Program}{f:FuncId}{args:List A}{ah:List B}{Q a:Out→List B→Prop}(h:ae P f args ah Q)(hq:∀o b,Q o b→a o b):ae P f args ah a:=bA.mono h hq
def mT(f:C→C→Prop):List (Bool×List C)→List (Bool×List C)→Prop
 |[],[]=>True
 |(d,a)::b,(g,c)::e=>(d=g∧jK f a c)∧mT f b e
 |_,_=>False
def mA(fr:Nat→Bool)(ah:List B)(ρ:List Rn):A→A→Prop
 |_,.undef=>True
 | .c d,.c c=>mC fr ah 5 ρ d c
 | .st a,.st e=>jK (mC fr ah 5 ρ) a e
 | .aC b,.aC f=>mT (mC fr ah 5 ρ) b f
 | .off,.off=>True
 |_,_=>False
def lJ(fr:Nat→Bool)(ah:List B)(ρ:List Rn):List A→List A→Prop
 |[],[]=>True
 |a0::b,a::as=>mA fr ah ρ a0 a∧lJ fr ah ρ b as
 |_,_=>False
def sig(m:List Nat)(n:Nat)(j:Nat):Nat:=bif Nat.blt j m.length then m.getD j 0 else n+(j-m.length)
def n5:List Nat→List B→List B→List B
 |j::m,b::a,ah=>n5 m a (ah.set j b)
 |_,_,ah=>ah
def q8(f:B→B)(x:B)(t b:B):B:=match t with
 | .dead=>match b with
  | .dead=>x
  |b=>f b
 |_=>f b
theorem FK(f:B→B)(x t b:B):(t= .dead∧q8 f x t b=x)∨q8 f x t b=f b:=by
 cases t with
 |dead=>
  cases b with
  |dead=>exact .inl ⟨rfl,rfl⟩
  |_=>exact .inr rfl
 |_=>exact .inr rfl
def kz(f:B→B)(ah:List B):List Nat→List B→List B→List B
 |j::m,t::c,b::a=>q8 f ((ah[j]?).getD .dead) t b::kz f ah m c a
 |_,_,_=>[]
theorem zf{f:B→B}{ah:List B}:∀{m:List Nat} {ts bs:List B},ts.length=m.length→m.length≤bs.length→(kz f ah m ts bs).length=m.length
 |[],_,_,_,_=>rfl
 |j::m,t::ts,b::bs,a,c=>by
  simp only[kz,List.length_cons];rw[zf (by simpa using a) (by simpa using c)]
 |j::m,[],_,a,_=>by simp at a
 |j::m,t::ts,[],_,c=>by simp at c
theorem ze{f:B→B}{ah:List B}:∀{m:List Nat} {ts bs:List B} {q i:Nat} {b:B},m[q]? =some i→(kz f ah m ts bs)[q]? =some b→(ts[q]? =some .dead∧b=(ah[i]?).getD .dead)∨∃b',bs[q]? =some b'∧b=f b'
 |[],_,_,_,_,_,h,_=>by simp at h
 |j::m,[],_,_,_,_,_,h=>by simp[kz]at h
 |j::m,t::ts,[],_,_,_,_,h=>by simp[kz]at h
 |j::m,t::ts,b::bs,0,i,x,c,a=>by
  obtain rfl:j=i:=by simpa using c
  have a:q8 f ((ah[j]?).getD .dead) t b=x:=by simpa[kz]using a
  subst a;rcases FK f ((ah[j]?).getD .dead) t b with⟨rfl,h⟩|h
  ·exact .inl ⟨rfl,h⟩
  ·exact .inr ⟨b,rfl,h⟩
 |j::m,t::ts,b::bs,q+1,i,x,c,a=>by
  rcases ze (m:=m) (ts:=ts) (bs:=bs) (q:=q) (by simpa using c) (by simpa[kz]using a)with⟨d,e⟩|⟨b',d,e⟩
  ·exact .inl ⟨by simpa using d,e⟩
  ·exact .inr ⟨b',by simpa using d,e⟩
def ef(m:List Nat)(tah ah ah':List B):List B:=n5 m (kz (fu (sig m ah.length)) ah m tah ah') ah++(ah'.drop m.length).map (fu (sig m ah.length))
theorem pH:∀(m:List Nat) (bs ah:List B),(n5 m bs ah).length=ah.length
 |[],_,_=>rfl
 |_::_,[],_=>rfl
 |j::m,b::bs,ah=>by rw[n5,pH m bs,List.length_set]
theorem A9:∀{m:List Nat} {bs ah:List B} {i:Nat} {b:B},m.Nodup→(n5 m bs ah)[i]? =some b→(ah[i]? =some b∧(i∈m→∃q,m[q]? =some i∧bs.length≤q))∨∃q:Nat,m[q]? =some i∧bs[q]? =some b
 |[],bs,ah,i,b,_,h=>.inl ⟨h,fun h=>by cases h⟩
 | j :: m, [], ah, i, b, _, h => .inl ⟨h,fun hm=>by
   obtain⟨q,o⟩:=List.getElem?_of_mem hm;exact⟨q,o,by simp⟩⟩
 |j::m,p::bs,ah,i,b,n,h=>by
  obtain⟨r,g⟩:=List.nodup_cons.1 n;rw[n5]at h;rcases A9 g h with⟨a,c⟩|⟨q,a,c⟩
  ·rcases oX a with⟨k,l⟩|⟨rfl,_,rfl⟩
   ·refine .inl ⟨l,fun hm=>?_⟩;rcases List.mem_cons.1 hm with e|hm
    ·exact(k e).elim
    ·obtain⟨q,d,f⟩:=c hm;exact⟨q+1,by simpa using d,by simpa using f⟩
   ·exact .inr ⟨0,rfl,rfl⟩
  ·exact .inr ⟨q+1,by simpa using a,by simpa using c⟩
theorem vE{m:List Nat}{n q j:Nat}(h:m[q]? =some j):sig m n q=j:=by
 obtain⟨a,e⟩:=List.getElem?_eq_some_iff.1 h;have:Nat.blt q m.length=true:=Nat.ble_eq_true_of_le a;unfold sig;rw[this];simp[List.getD_eq_getElem?_getD,h]
theorem Bb{m:List Nat}{n q:Nat}(h:m.length≤q):sig m n q=n+(q-m.length):=by
 have:Nat.blt q m.length=false:=by
  cases e:Nat.blt q m.length with
  |false=>rfl
  |true=>have:=Nat.le_of_ble_eq_true e;omega
 unfold sig;rw[this];rfl
section
variable {E:En} {F F':Nat→Prop} {γ γ':List Value} {ah ah' tah:List B} {H H':ab} {fr:Nat→Bool} {m:List Nat}
def bE(m:List Nat):List Rn:=m.map .same
theorem merge(d:WR E F γ ah H)(hm:kF fr ah (bE m) (bE m) tah)(hn:m.Nodup)(a0:∀j∈m,j<ah.length)(hc:Core (jZ E γ ah fr) (owned γ ah) F ((bE m).map (bI γ)) tah H)
  (t:WR (en F (jZ E γ ah fr) ((bE m).map (bI γ)) tah H) F' γ' ah' H')(aT:ah'.all eZ=true):
  WR E F' (γ++γ'.drop m.length) (ef m tah ah ah') H'∧Ext F H ⟨E.B,γ⟩ F' H' ⟨E.B,γ++γ'.drop m.length⟩∧(∀(j:Nat) (g:Value),γ'[j]? =some g→(γ++γ'.drop m.length)[sig m ah.length j]? =some g)∧(m=[]→aq [] H H')∧
  ∀k,(F k∨E.B k∨∃j x y,j∉m∧ah[j]? =some x∧γ[j]? =some y∧k∈az x y)→H'[k]? =H[k]? :=by
 have a2:tah.length=m.length:=by have:=(rm hm).1;simpa[bE]using this.symm
 let Kept:Nat→Prop:=fun i=>i∉m∨∃q:Nat,m[q]? =some i∧tah[q]? =some .dead
 have w:∀k,owned ((bE m).map (bI γ)) tah k→∃j x y,¬Kept j∧ah[j]? =some x∧γ[j]? =some y∧k∈az x y:=fun k ⟨i,b,g,hb,p,a⟩=>by
  obtain⟨r,c,f⟩:=(rm hm).2 _ _ hb;rw[List.getElem?_map,c]at p;simp at p;subst p;obtain⟨j,x,y,l,n,h5,h6,_⟩:=rk d f k a;have s:=c;unfold bE at s;rw[List.getElem?_map]at s;obtain⟨j',al,rfl⟩:=Option.map_eq_some_iff.1 s;simp[kM]at l;subst l;refine⟨j',x,y,fun S=>?_,n,h5,h6⟩;rcases S with S|⟨q,U,hd⟩
  ·exact S (List.mem_of_getElem? al)
  ·obtain⟨Z,K⟩:=List.getElem?_eq_some_iff.1 U;obtain⟨P,M⟩:=List.getElem?_eq_some_iff.1 al;obtain rfl:q=i:=(List.getElem_inj hn).1 (K.trans M.symm);rw[hd]at hb;cases hb;simp[az]at a
 have W:∀(j:Nat) (g:Value),γ'[j]? =some g→(γ++γ'.drop m.length)[sig m ah.length j]? =some g:=fun q g U=>by
  rcases Nat.lt_or_ge q m.length with h|h
  ·have am:m[q]? =some m[q]:=List.getElem?_eq_getElem h;rw[vE am];have Q:m[q]<γ.length:=by rw[d.len];exact a0 _ (List.getElem_mem h)
   rw[List.getElem?_append_left Q]
   have c:((bE m).map (bI γ))[q]? =some (γ[m[q]]):=by
    simp[bE,am,bI,List.getElem?_eq_getElem Q]
   have f:=t.pre q _ c;rw[f]at U;rw[List.getElem?_eq_getElem Q];exact U
  ·rw[Bb h,List.getElem?_append_right (by rw[d.len];omega),List.getElem?_drop,d.len];rw[show m.length+(ah.length+(q-m.length)-ah.length)=q by omega];exact U
 have T:m.length≤ah'.length:=by
  rw[←t.len];rcases Nat.eq_zero_or_pos m.length with h|h
  ·omega
  ·have c:((bE m).map (bI γ))[m.length-1]? =some (((bE m).map (bI γ))[m.length-1]'(by simp[bE];omega)):=List.getElem?_eq_getElem _;have:=(List.getElem?_eq_some_iff.1 (t.pre _ _ c)).1;omega
 have get:∀{i:Nat} {b:B} {g:Value},(ef m tah ah ah')[i]? =some b→(γ++γ'.drop m.length)[i]? =some g→(Kept i∧ah[i]? =some b∧γ[i]? =some g)∨∃q O,ah'[q]? =some O∧γ'[q]? =some g∧sig m ah.length q=i∧b=fu (sig m ah.length) O:=fun{i b g} hb p=>by
  unfold ef at hb;rcases Nat.lt_or_ge i ah.length with h|h
  ·rw[List.getElem?_append_left (by rw[pH];exact h)]at hb;rw[List.getElem?_append_left (by rw[d.len];exact h)]at p;rcases A9 hn hb with⟨c,f⟩|⟨q,c,f⟩
   ·refine .inl ⟨.inl fun hm=>?_,c,p⟩;obtain⟨q,l,n⟩:=f hm;rw[zf a2 T]at n;have:=(List.getElem?_eq_some_iff.1 l).1;omega
   ·rcases ze c f with⟨l,n⟩|⟨O,l,n⟩
    ·refine .inl ⟨.inr ⟨q,c,l⟩,?_,p⟩;rw[n,List.getElem?_eq_getElem h];rfl
    refine .inr ⟨q,O,l,?_,vE c,n⟩;have U:=(List.getElem?_eq_some_iff.1 l).1;have h5:γ'[q]? =some (γ'[q]'(by rw[t.len];exact U)):=List.getElem?_eq_getElem _;have h6:=W q _ h5;rw[vE c,List.getElem?_append_left (by rw[d.len];exact h)]at h6;rw[h5];rw[p]at h6;exact h6.symm
  ·rw[List.getElem?_append_right (by rw[pH];exact h),pH,List.getElem?_map,List.getElem?_drop]at hb;rw[List.getElem?_append_right (by rw[d.len];exact h),List.getElem?_drop,d.len]at p;obtain⟨O,l,n⟩:=Option.map_eq_some_iff.1 hb;exact .inr ⟨m.length+(i-ah.length),O,l,p,by rw[Bb (by omega)];omega,n.symm⟩
 have J:∀k,F k∨E.B k→H'[k]? =H[k]? :=fun k a=>by
  refine t.ca k ?_ (fun R=>?_)
  ·exact a.elim (d.fb k) (fun h=>Nat.lt_of_lt_of_le (d.bb k h).1 d.size)
  ·obtain⟨j,x,y,_,f,l,n⟩:=w k R;have:=d.nf j x y k f l n;exact a.elim this.1 this.2
 have ex : Ext F H ⟨E.B, γ⟩ F' H' ⟨E.B, γ ++ γ'.drop m.length⟩ := ⟨t.fmono,fun b o u hb hc=>ta (J b hb) hc,fun _ h=>h,fun j v Q=>by
  rw[List.getElem?_append_left (List.getElem?_eq_some_iff.1 Q).1];exact Q⟩
 have Y:∀{i b g},Kept i→ah[i]? =some b→γ[i]? =some g→∀k∈az b g,¬owned ((bE m).map (bI γ)) tah k∧H'[k]? =H[k]? :=fun{i b g} hi hb p k a=>by
  have ar:¬owned ((bE m).map (bI γ)) tah k:=fun R=>by
   obtain⟨j,x,y,c,f,l,n⟩:=w k R;exact d.disj _ _ _ _ _ _ (fun e=>c (by rw[←e];exact hi)) hb p f l k a n
  exact⟨ar,t.ca k (fg (d.br _ _ _ hb p) k a) ar⟩
 have N:∀{q b g k},ah'[q]? =some b→γ'[q]? =some g→k∈az b g→(∃j x y,¬Kept j∧ah[j]? =some x∧γ[j]? =some y∧k∈az x y)∨H.size≤k:=fun hb p a=>by
  rcases t.onew _ _ _ _ hb p a with h|h
  ·exact .inl (w _ h)
  ·exact .inr h
 refine⟨⟨?_,fun i b g hb p=>?_,fun i i' b O g g' ap hb p ac ad k a I=>?_,fun i b g k hb p a=>?_,t.fb,d.bb,Nat.le_trans d.size t.size,fun k a R=>?_,fun k a=>t.fmono k (d.fmono k a),fun k a=>?_,fun i b g k hb p a=>?_,fun j v Q=>ex.g j v (d.pre j v Q)⟩,ex,W,fun a1=>⟨t.size,fun k a _=>t.ca k a (fun R=>?_)⟩,fun k a=>a.elim (fun h=>J k (.inl h)) fun h=>h.elim (fun h=>J k (.inr h)) fun⟨j,x,y,c,f,l,n⟩=>(Y (.inl c) f l k n).2⟩
 ·unfold ef;simp[pH,d.len,t.len]
 ·rcases get hb p with⟨c,f,l⟩|⟨q,O,c,f,l,rfl⟩
  ·exact BR.ext ex (fun k a=>(Y c f l k a).2) (d.br _ _ _ f l)
  ·exact HH W (t.br _ _ _ c f) (List.all_eq_true.1 aT _ (List.mem_of_getElem? c))
 ·rcases get hb p with⟨c,f,l⟩|⟨q,b1,c,f,l,rfl⟩
  ·rcases get ac ad with⟨s,z,D⟩|⟨q',aC,s,z,D,rfl⟩
   ·exact d.disj _ _ _ _ _ _ ap f l z D k a I
   ·rw[pv]at I;have n:=fg (d.br _ _ _ f l) k a;rcases N s z I with⟨j,x,y,Z,K,P,M⟩|h
    ·exact d.disj _ _ _ _ _ _ (fun e=>Z (by rw[←e];exact c)) f l K P k a M
    ·omega
  ·rw[pv]at a;rcases get ac ad with⟨s,z,D⟩|⟨q',aC,s,z,D,rfl⟩
   ·have n:=fg (d.br _ _ _ z D) k I;rcases N c f a with⟨j,x,y,Z,K,P,M⟩|h
    ·exact d.disj _ _ _ _ _ _ (fun e=>Z (by rw[←e];exact s)) z D K P k I M
    ·omega
   ·rw[pv]at I;exact t.disj _ _ _ _ _ _ (fun e=>ap (by rw[←l,←D,e])) c f s z k a I
 ·rcases get hb p with⟨c,f,l⟩|⟨q,O,c,f,l,rfl⟩
  ·have n:=d.nf _ _ _ k f l a;refine⟨fun hf=>?_,n.2⟩;rcases t.fnew k hf with h|h|h
   ·exact n.1 h
   ·exact(Y c f l k a).1 h
   ·have:k<H.size:=fg (d.br _ _ _ f l) k a;have:H.size≤k:=h;omega
  ·rw[pv]at a;have n:=t.nf _ _ _ k c f a;exact⟨n.1,fun h=>n.2 (.inl h)⟩
 ·have c:k<H.size:=Nat.lt_of_lt_of_le a d.size;rw[t.ca k c (fun h=>?_)]
  ·exact d.ca k a R
  ·obtain⟨j,x,y,_,K,P,M⟩:=w k h;rcases d.onew _ _ _ k K P M with h5|h5
   ·exact R h5
   ·omega
 ·rcases t.fnew k a with h|h|h
  ·exact d.fnew k h
  ·obtain⟨j,x,y,_,K,P,M⟩:=w k h;exact .inr (d.onew _ _ _ k K P M)
  ·exact .inr (.inr (Nat.le_trans d.size h))
 ·rcases get hb p with⟨c,f,l⟩|⟨q,O,c,f,l,rfl⟩
  ·exact d.onew _ _ _ k f l a
  ·rw[pv]at a;rcases N c f a with⟨j,x,y,Z,K,P,M⟩|h
   ·exact d.onew _ _ _ k K P M
   ·exact .inr (Nat.le_trans d.size h)
 ·subst a1;obtain⟨j,_,_,h,_⟩:=w k R;exact h (.inl (by simp))
end
end Go.AM
end
section
namespace Go.AM
open Go Go.NB
structure dn:Type 1 where
 P:Program
 tab:Nat→Option TD
 n:Nat
 n0:Nat
 d:Bool
structure jH where
 E:En
 ds:List Deferred
 W0:World
def a7:List Nat→List B→List B
 |[],ah=>ah
 | j :: r, ah => a7 r (match ah[j]? with
  |some (.row b α a l)=>ah.set j (.aT b α a l)
  |_=>ah)
theorem oU{E:En}{γ:List Value}{H:ab}:∀{js:List Nat} {F:Nat→Prop} {ah:List B},WR E F γ ah H→∃F',(∀k,F k→F' k)∧WR E F' γ (a7 js ah) H
 |[],F,ah,h=>⟨F,fun _ h=>h,h⟩
 |j::r,F,ah,h=>by
  unfold a7;split
  ·rename_i n α b l g;obtain⟨m,c,d,_⟩:=h.freeze g;obtain⟨a,e,f⟩:=oU d;exact⟨a,fun k i=>e k (c k i),f⟩
  ·exact oU h
def fJ(c:dn)(r:jH)(F:Nat→Prop)(γ:List Value)(s:St)(x:A)(v:Value)(a:Act)(w:World):Prop:=
 a.tmps.size=c.n∧a.defers=r.ds∧ek c.d r.W0 w∧WR r.E F γ s.ah w.heap∧ER F w.heap ⟨r.E.B,γ⟩ s.env a∧RA F w.heap ⟨r.E.B,γ⟩ x v
def SR(c:dn)(r:jH)(s:St)(x:A)(v:Value)(a:Act)(w:World):Prop:=∃F γ,fJ c r F γ s x v a w
inductive G where
 |any
 |grow
 |eF (pl:List Nat)
def uu:Option B→Bool
 |some (.box _ _)=>true
 |_=>false
def qU(pl:List Nat)(j:Nat):Bool:=pl.any (Nat.beq j)
def G.mem(g:G)(a:Op)(s:St):Bool:=match a with
 | .load _ x=>match g with
  | .eF b=>match aO s x with
   | .c (.ptr j _)=>qU b j
   | .c (.bp _)=>true
   |_=>false
  |_=>true
 | .convert .. =>match g with
  | .eF _=>false
  |_=>true
 |_=>true
def G.call:G→List Nat→Bool
 | .any,_=>true
 | .grow,m=>m.isEmpty
 | .eF a,m=>m.all fun j=> !qU a j
def G.act:G→Bool→Bool
 | .any,_=>true
 | .grow,b=>b
 | .eF a,b=>b||a.isEmpty
def G.p9 (g : G) (s : St) (a : Op) : Bool := g.act (kv s a) || (match g with
 | .eF _=>apps a
 |_=>false)
def G.still:G→List B→Bool
 | .eF a,ah=>a.all fun j=>uu ah[j]?
 |_,_=>true
def G.strict:G→Bool
 | .any=>false
 |_=>true
def fH(g:G)(E:En)(F:Nat→Prop)(γ:List Value)(ah:List B)(H:ab)(k:Nat):Prop:=match g with
 | .eF c=>F k∨E.B k∨∃j a b v,qU c j=true∧ah[j]? =some (.box a b)∧γ[j]? =some v∧k∈az (.box a b) v
 |_=>k<H.size
theorem B5{g:G}{E:En}{F:Nat→Prop}{γ:List Value}{ah:List B}{H:ab}{k:Nat}(a:WR E F γ ah H)(h:fH g E F γ ah H k):k<H.size:=by
 cases g with
 |eF f=>
  rcases h with h|h|⟨j,e,i,v,_,b,c,d⟩
  ·exact a.fb k h
  ·exact Nat.lt_of_lt_of_le (a.bb k h).1 a.size
  ·exact fg (a.br _ _ _ b c) k d
 |_=>exact h
theorem GQ{cs cs':List C}{t t':Option Nat}{v:Value}{k:Nat}(h:k∈az (.box cs t) v):k∈az (.box cs' t') v:=by
 cases v with
 |pointer p=>cases p<;>exact h
 |_=>exact h
theorem sC{g:G}{E:En}{F F':Nat→Prop}{γ γ':List Value}{ah ah':List B}{H H':ab}{k:Nat}(r:H.size≤H'.size)(p:∀k,F k→F' k)(f:∀(j:Nat) (v:Value),γ[j]? =some v→γ'[j]? =some v)
  (d:g.still ah'=true)(h:fH g E F γ ah H k):fH g E F' γ' ah' H' k:=by
 cases g with
 |eF u=>
  rcases h with h|h|⟨j,s,w,v,m,t,n,o⟩
  ·exact .inl (p k h)
  ·exact .inr (.inl h)
  ·have c:uu ah'[j]? =true:=by
    have a:=m;unfold qU at a;rw[List.any_eq_true]at a;obtain⟨i,q,e⟩:=a;obtain rfl:=Nat.eq_of_beq_eq_true e;exact List.all_eq_true.1 d j q
   unfold uu at c;split at c
   ·rename_i b l e;exact .inr (.inr ⟨j,b,l,v,m,e,f _ _ n,GQ o⟩)
   ·cases c
 |_=>exact Nat.lt_of_lt_of_le h r
theorem J3{P:Program}{tab:Nat→Option TD}{E:En}{F:Nat→Prop}{γ:List Value}{s:St}{a:Act}{w:World}{o:Oper}{k:A→Prop}{pl:List Nat}(n:bo P tab)(m:ER F w.heap ⟨E.B,γ⟩ s.env a)(y:WR E F γ s.ah w.heap){t:Nat}{x:Operand}(ho:o.op= .load t x)(h:Y1 tab s (.load t x) k)
  (hm:(G.eF pl).mem (.load t x) s=true):∃b,fH (.eF pl) E F γ s.ah w.heap b∧wv P F ⟨E.B,γ⟩ a w o k b:=by
 simp only[Y1]at h;simp only[G.mem]at hm;split at h
 ·rename_i d q;split at h
  ·rename_i j f c;rw[c]at hm;have c:=aY m c;split at h
   ·rename_i l H hb;generalize g:a.eval x=v at c;cases c with
    |ptr p _=>
     obtain⟨I,K,e,r,u⟩:=qn (o:=f) (y.br j _ _ hb p);cases e;exact⟨_,.inr (.inr ⟨j,l,H,_,hm,hb,p,by simp[az]⟩),vv n q ho r u g h⟩
   ·exact h.elim
  ·rename_i l c;have c:=aY m c;generalize g:a.eval x=v at c;cases c with
   |bp hb D z _=>exact⟨_,hb.imp id .inl,vv n q ho (D.ext ⟨fun _ h=>h,fun _ _ _ _ h=>h,fun _ h=>h,fun j v h=>by cases h⟩) z g h⟩
  ·rename_i J j i f c;rw[c]at hm;cases hm
  ·exact h.elim
 ·exact h.elim
def jI(g:G)(H H':ab)(k:Nat):Prop:=match g with
 | .eF _=>∀o u,cell H k o=some u→cell H' k o=some u
 |_=>H'[k]? =H[k]?
theorem jI.of{g:G}{H H':ab}{k:Nat}(h:H'[k]? =H[k]?):jI g H H' k:=by
 cases g with
 |eF b=>exact fun o u a=>ta h a
 |_=>exact h
theorem jI.trans{g:G}{H H' a:ab}{k:Nat}(h:jI g H H' k)(h2:jI g H' a k):jI g H a k:=by
 cases g with
 |eF c=>exact fun o u b=>h2 o u (h o u b)
 |_=>exact Eq.trans h2 h
def Nx(g:G)(c:dn)(r:jH)(k:St→Prop)(F:Nat→Prop)(γ:List Value)(ah:List B)(w:World)(b:Act)(w':World):Prop:=
 ∃F' γ' a,k a∧fJ c r F' γ' a .undef undef b w'∧(g.strict=true→∀q,fH g r.E F γ ah w.heap q→jI g w.heap w'.heap q∧fH g r.E F' γ' a.ah w'.heap q)
inductive XE:Type 1 where
 |normal
 |exit (id:Nat)
 |ret
 |cR (v:A)
def Qk(c:dn)(r:jH)(K:XE→St→Prop):Exit→Act→World→Prop
 | .normal,a,w=>∃s,K .normal s∧SR c r s .undef undef a w
 | .exit id,a,w=>∃s,K (.exit id) s∧SR c r s .undef undef a w
 | .ret,a,w=>∃s,K .ret s∧SR c r s .undef undef a w
 | .panic b,a,w=>∃v x s,b=[{v:=v,recovered:=false}]∧K (.cR x) s∧SR c r s x v a w
 |_,_,_=>False
def lits:List Nat:=[0,1,2,3,4,5,6,7,8,9,10,11,12,13,14,15,16,17,18,19,20,21,22,23,24,25,26,27,28,29,30,31,32,33,34,35,36,37,38,39,40]
def ji:List Nat→Nat→(Nat→Prop)→Prop
 |[],n,k=>k n
 |i::r,n,k=>bif Nat.beq n i then k i else ji r n k
theorem mm{k:Nat→Prop}:∀{l:List Nat} {n:Nat},ji l n k→k n
 |[],_,h=>h
 |i::r,n,h=>by
  unfold ji at h;rcases ja h with⟨e,h⟩|⟨_,h⟩
  ·rw[Nat.eq_of_beq_eq_true e];exact h
  ·exact mm h
def tT(x:C)(k:C→Prop):Prop:=match x with
 | .int q n=>k (.int q n)
 | .bool b=>k (.bool b)
 | .str l=>k (.str l)
 | .raw v=>k (.raw v)
 | .nil=>k .nil
 | .ls c α a l=>k (.ls c α a l)
 | .bs c α a l=>k (.bs c α a l)
 | .rw j=>ji lits j fun j=>k (.rw j)
 | .sw c j h n=>ji lits j fun j=>k (.sw c j h n)
 | .ptr j o=>ji lits j fun j=>ji lits o fun o=>k (.ptr j o)
 | .ep c j i o=>ji lits j fun j=>ji lits o fun o=>k (.ep c j i o)
 | .bp e=>k (.bp e)
 | .fn f d=>k (.fn f d)
 | .iface t g e=>k (.iface t g e)
theorem ym{x:C}{k:C→Prop}(h:tT x k):k x:=by
 cases x with
 |rw j=>exact mm (k:=fun j=>k (.rw j)) h
 |sw a j b n=>exact mm (k:=fun j=>k (.sw a j b n)) h
 |ptr j o=>exact mm (k:=fun o=>k (.ptr j o)) (mm (k:=fun j=>ji lits o fun o=>k (.ptr j o)) h)
 |ep a j i o=>exact mm (k:=fun o=>k (.ep a j i o)) (mm (k:=fun j=>ji lits o fun o=>k (.ep a j i o)) h)
 |_=>exact h
def ny:List C→(List C→Prop)→Prop
 |[],k=>k []
 |x::r,k=>tT x fun x=>ny r fun r=>k (x::r)
theorem qK:∀{l:List C} {k:List C→Prop},ny l k→k l
 |[],_,h=>h
 |x::r,k,h=>qK (k:=fun r=>k (x::r)) (ym (k:=fun x=>ny r fun r=>k (x::r)) h)
def qL:List (Bool×List C)→(List (Bool×List C)→Prop)→Prop
 |[],k=>k []
 |(g,a)::r,k=>ny a fun a=>qL r fun r=>k ((g,a)::r)
theorem yn:∀{l:List (Bool×List C)} {k:List (Bool×List C)→Prop},qL l k→k l
 |[],_,h=>h
 |(g,a)::r,k,h=>yn (k:=fun r=>k ((g,a)::r)) (qK (k:=fun a=>qL r fun r=>k ((g,a)::r)) h)
def tS(x:A)(k:A→Prop):Prop:=match x with
 | .undef=>k .undef
 | .off=>k .off
 | .c x=>tT x fun x=>k (.c x)
 | .st a=>ny a fun a=>k (.st a)
 | .aC b=>qL b fun b=>k (.aC b)
theorem yl{x:A}{k:A→Prop}(h:tS x k):k x:=by
 cases x with
 |c x=>exact ym (k:=fun x=>k (.c x)) h
 |st a=>exact qK (k:=fun a=>k (.st a)) h
 |aC b=>exact yn (k:=fun b=>k (.aC b)) h
 |_=>exact h
def iA:List B→(List B→Prop)→Prop
 |[],k=>k []
 | .box c t::r,k=>ny c fun c=>iA r fun r=>k (.box c t::r)
 | .row b α a l::r,k=>iA r fun r=>k (.row b α a l::r)
 | .aT b α a l::r,k=>iA r fun r=>k (.aT b α a l::r)
 | .buf t b α a l::r,k=>iA r fun r=>k (.buf t b α a l::r)
 | .dead::r,k=>iA r fun r=>k (.dead::r)
theorem lj:∀{l:List B} {k:List B→Prop},iA l k→k l
 |[],_,h=>h
 | .box c t::r,k,h=>lj (k:=fun r=>k (.box c t::r)) (qK (k:=fun c=>iA r fun r=>k (.box c t::r)) h)
 | .row b α a l::r,k,h=>lj (k:=fun r=>k (.row b α a l::r)) h
 | .aT b α a l::r,k,h=>lj (k:=fun r=>k (.aT b α a l::r)) h
 | .buf t b α a l::r,k,h=>lj (k:=fun r=>k (.buf t b α a l::r)) h
 | .dead::r,k,h=>lj (k:=fun r=>k (.dead::r)) h
def ib(n:Nat)(s:St)(d:Option Nat)(x:A)(k:St→Prop):Prop:=match d with
 |none=>k s
 |some d=>bif Nat.blt d n then tS x fun x=>match s with
  |⟨e,ah⟩=>k ⟨(d,x)::e,ah⟩else False
def ur(tab:Nat→Option TD)(s:St):Op→Bool
 | .alloc _| .box .. | .buildSlice .. | .makeSlice .. | .store .. =>true
 | .convert _ u x=>match aO s x,tab u with
  | .c (.str _),some d=>(match d.kind with| .sl _=>true|_=>false)
  | .c (.rw _),some d=>(match d.kind with| .sl _=>true|_=>false)
  |_,_=>false
 | .call c=>(match c.callee with| .builtin .append=>true| .builtin .clear=>true|_=>false)
 |_=>false
def gW(m:List Nat)(tah:List B)(j:Nat):Bool:= !((cF (bE m) tah).any (Nat.beq j))
def ki(ah:List B)(m:List Nat)(args a:List A)(tah:List B):Prop:=
 bif eg m&&m.all (fun j=>Nat.blt j ah.length)&&eg (cF (bE m) tah)then lJ (gW m tah) ah (bE m) args a∧kF (gW m tah) ah (bE m) (bE m) tah else False
def fK{α a:Type 1}(k:α→a→Prop)(x:α)(y:a):Prop:=k x y
def YC(c:dn)(g:G)(s:St)(h:Operand)(as:List Operand)(k:List B→A→Prop)(i:A→St→Prop):Prop:=
 match aO s h with
 | .c (.fn f d)=>∃(e m:List Nat) (b:List A) (tah:List B) (Q:Out→List B→Prop),bA c.d c.P f b tah Q∧ki (a7 e s.ah) m (as.map (aO s)++d.map .c) b tah∧g.call m=true∧
   ∀out ah',Q out ah'→match out with
    | .ret a=>fK k (ef m tah (a7 e s.ah) ah') (ej (sig m (a7 e s.ah).length) a)
    | .cR a=>fK i (ej (sig m (a7 e s.ah).length) a) ⟨s.env,ef m tah (a7 e s.ah) ah'⟩
 |_=>False
def Xo(c:dn)(g:G)(o:Oper)(s:St)(k:St→Prop)(a:A→St→Prop):Prop:=
 match o.op with
 | .panic x=>match aO s x with
  | .c (.iface t ag b)=>a (.c (.iface t ag b)) s
  |_=>False
 | .call ⟨.value d,as,_⟩=>YC c g s d as.toList (fun ah x=>iA ah fun ah=>bif g.still ah then ib c.n ⟨s.env,ah⟩ o.dst x k else False) a
 |op=>bif ur c.tab s op then(bif g.p9 s op then Y2 c.tab s op fun ah x=>iA ah fun ah=>bif g.still ah then ib c.n ⟨s.env,ah⟩ o.dst x k else False else False)
   else bif g.mem op s then Y1 c.tab s op fun x=>ib c.n s o.dst x k else False
section
variable {c:dn} {r:jH} {s:St} {a:Act} {w:World} {o:Oper}
theorem ER.put{F:Nat→Prop}{H:ab}{m:Md}{env:List (Nat×A)}(h:ER F H m env a){d:Nat}(hd:d<a.tmps.size){x:A}{v:Value}(f:RA F H m x v):ER F H m ((d,x)::env) (a.put (some d) v):=by
 intro t y b;unfold lk at b;by_cases hb:Nat.beq d t=true
 ·rw[hb]at b;cases b;obtain rfl:=Nat.eq_of_beq_eq_true hb;simpa[Act.put,Array.getD,hd]using f
 ·rw[Bool.not_eq_true]at hb;rw[hb]at b;have c:d≠t:=fun e=>by subst e;simp at hb
  have:=h t y b;simpa[Act.put,Array.getD_eq_getD_getElem?,c]using this
theorem ER.ext{F F':Nat→Prop}{H H':ab}{m m':Md}{env:List (Nat×A)}(h:ER F H m env a)(e:Ext F H m F' H' m'):ER F' H' m' env a:=fun t x b=>(h t x b).ext e
theorem mJ{F:Nat→Prop}{γ:List Value}{s:St}{x:A}{v:Value}{k:St→Prop}{d:Option Nat}(hk:ib c.n s d x k)(hn:a.tmps.size=c.n)(b:a.defers=r.ds)(g:ek c.d r.W0 w)(i:WR r.E F γ s.ah w.heap)(h:ER F w.heap ⟨r.E.B,γ⟩ s.env a)(l:RA F w.heap ⟨r.E.B,γ⟩ x v):
  ∃f,k f∧f.ah=s.ah∧fJ c r F γ f .undef undef (a.put d v) w:=by
 unfold ib at hk;split at hk
 ·exact⟨s,hk,rfl,by simpa[Act.put]using hn,by simpa[Act.put]using b,g,i,by simpa[Act.put]using h,trivial⟩
 ·rename_i d;obtain⟨j,hk⟩:=bM hk;have e:d<a.tmps.size:=by rw[hn];exact Nat.le_of_ble_eq_true j
  exact⟨_,yl hk,rfl,by simp[Act.put,hn],by simp[Act.put,b],g,i,h.put e l,trivial⟩
theorem Hw{g:G}{F:Nat→Prop}{γ:List Value}{s:St}{x:A}{v:Value}{k:St→Prop}{d:Option Nat}(hk:ib c.n s d x k)(hn:a.tmps.size=c.n)(b:a.defers=r.ds)(i:ek c.d r.W0 w)(l:WR r.E F γ s.ah w.heap)(j:ER F w.heap ⟨r.E.B,γ⟩ s.env a)(n:RA F w.heap ⟨r.E.B,γ⟩ x v):
  Nx g c r k F γ s.ah w (a.put d v) w:=by
 obtain⟨o,e,f,h⟩:=mJ hk hn b i l j n;exact⟨F,γ,o,e,h,fun _ q m=>⟨.of rfl,by rw[f];exact m⟩⟩
theorem yr{j:Nat}{cs:List C}{ty:Option Nat}:∀{js:List Nat} {ah:List B},ah[j]? =some (.box cs ty)→(a7 js ah)[j]? =some (.box cs ty)
 |[],_,h=>h
 |i::r,ah,h=>by
  unfold a7;refine yr (js:=r) ?_;split
  ·rename_i e;rw[List.getElem?_set];split
   ·rename_i a;subst a;rw[h]at e;cases e
   ·exact h
  ·exact h
theorem zO{f:C→C→Prop}{F:Nat→Prop}{H:ab}{m m':Md}(i:∀b c v,f b c→RL F H m [b] [v]→RL F H m' [c] [v]):∀{a ts:List (Bool×List C)} {vs:List Value},mT f a ts→RT F H m a vs→RT F H m' ts vs
 |[],[],[],_,_=>trivial
 |(s,j)::a,(g,r)::ts,v::vs,⟨⟨e,d⟩,k⟩,⟨⟨q,l,n,o⟩,p⟩=>⟨⟨q,nh i d l,by rw[←e];exact n,fun h=>by rw[←wF d];exact o (e.trans h)⟩,zO i k p⟩
theorem uM{E:En}{F:Nat→Prop}{γ:List Value}{ah:List B}{H:ab}{B':Nat→Prop}{fr:Nat→Bool}{ρ:List Rn}(n:WR E F γ ah H)(m:∀k,E.B k→B' k)(f:∀j b g,fr j=true→ah[j]? =some b→γ[j]? =some g→∀k∈az b g,B' k)
  {a x:A}{v:Value}(h:mA fr ah ρ a x)(hr:RA F H ⟨E.B,γ⟩ a v):RA F H ⟨B',ρ.map (bI γ)⟩ x v:=by
 have e:∀d c v,mC fr ah 5 ρ d c→RL F H ⟨E.B,γ⟩ [d] [v]→RL F H ⟨B',ρ.map (bI γ)⟩ [c] [v]:=fun d c v h hr=>uO n m f 5 h hr;cases x with
 |undef=>trivial
 |off=>cases a<;>first|exact h.elim|exact hr
 |c y=>cases a<;>first|exact h.elim|exact e _ _ _ h hr
 |st p=>
  cases a with
  |st l=>obtain⟨i,rfl,hr⟩:=hr;exact⟨i,rfl,nh e h hr⟩
  |_=>exact h.elim
 |aC q=>
  cases a with
  |aC o=>obtain⟨i,rfl,hr⟩:=hr;exact⟨i,rfl,zO e h hr⟩
  |_=>exact h.elim
theorem uN{E:En}{F:Nat→Prop}{γ:List Value}{ah:List B}{H:ab}{B':Nat→Prop}{fr:Nat→Bool}{ρ:List Rn}(e:WR E F γ ah H)(d:∀k,E.B k→B' k)(c:∀j b g,fr j=true→ah[j]? =some b→γ[j]? =some g→∀k∈az b g,B' k):
  ∀{a xs:List A} {vs:List Value},lJ fr ah ρ a xs→dU F H ⟨E.B,γ⟩ a vs→dU F H ⟨B',ρ.map (bI γ)⟩ xs vs
 |[],[],[],_,_=>trivial
 |x0::a,x::xs,v::vs,⟨f,h⟩,⟨i,l⟩=>⟨uM e d c f i,uN e d c h l⟩
theorem dU.ext{F F':Nat→Prop}{H H':ab}{m m':Md}(e:Ext F H m F' H' m'):∀{as:List A} {vs:List Value},dU F H m as vs→dU F' H' m' as vs
 |[],[],_=>trivial
 |_::_,_::_,⟨a,b⟩=>⟨a.ext e,dU.ext e b⟩
theorem wO{F:Nat→Prop}{H:ab}{m:Md}(b:ER F H m s.env a){caps:List C}{us:List Value}(hc:RL F H m caps us):∀(as:List Operand),dU F H m (as.map (aO s)++caps.map .c) (as.map a.eval++us)
 |[]=>by
  have:∀{caps:List C} {us:List Value},RL F H m caps us→dU F H m (caps.map .c) us:=fun{caps}=>by
   induction caps with
   |nil=>intro us h;cases h;trivial
   |cons c f ih=>
    intro us h;obtain⟨v,g,rfl,d,e⟩:=h.jC;exact⟨d,ih e⟩
  exact this hc
 |x::as=>⟨lN b x,wO b hc as⟩
theorem yq{m:List Nat}{tah:List B}(j:Nat)(h:gW m tah j=true):j∉cF (bE m) tah:=fun a=>by
 unfold gW at h;rw[Bool.not_eq_true',List.any_eq_false]at h;exact h j a (Nat.beq_refl j)
theorem Cc{g:G}{F:Nat→Prop}{γ:List Value}{fx:Operand}{as:List Operand}{bj:Array TypeId}{k:St→Prop}{K:XE→St→Prop}{Q:Exit→Act→World→Prop}(ho:o.op= .call ⟨.value fx,as.toArray,bj⟩)
  (h:YC c g s fx as (fun ah x=>iA ah fun ah=>bif g.still ah then ib c.n ⟨s.env,ah⟩ o.dst x k else False) (fun v s=>K (.cR v) s))(hs:fJ c r F γ s .undef undef a w)(hQ:∀ch a w,Qk c r K (.panic ch) a w→Q (.panic ch) a w):
  o.wp c.P a w (fun a' w'=>Nx g c r k F γ s.ah w a' w') Q:=by
 obtain⟨hn,T,hA,hW,hE,_⟩:=hs;unfold YC at h;split at h
 ·rename_i f R a1;obtain⟨O,m,bi,tah,QQ,N,p,hg,H⟩:=h;have hc:=aY hE a1;generalize a0:a.eval fx=fv at hc;cases hc with
  | @fn _ _ _ us _ _ M _=>
   obtain⟨P,D,l⟩:=oU (js:=O) hW;have e1:Ext F w.heap ⟨r.E.B,γ⟩ P w.heap ⟨r.E.B,γ⟩:=ll D;obtain⟨E,a4,Y⟩:=bM p;simp only[Bool.and_eq_true,List.all_eq_true]at E;obtain⟨⟨a5,a3⟩,a6⟩:=E;have W:∀j∈m,j<(a7 O s.ah).length:=fun j hj=>Nat.le_of_ble_eq_true (a3 j hj);have d:=core l Y a6 yq;have J:=uN (B':=jZ r.E γ (a7 O s.ah) (gW m tah)) l (fun _ h=>.inl h) (fun j b g t y z k H=>.inr ⟨j,b,g,y,z,t,H⟩) a4 ((wO hE M as).ext e1)
   have ap:WR (en P (jZ r.E γ (a7 O s.ah) (gW m tah)) ((bE m).map (bI γ)) tah w.heap) P ((bE m).map (bI γ)) tah w.heap:=by
    refine⟨d.len,d.br,d.disj,fun j b g k t y z=>(d.nf j b g k t y z).1,l.fb,fun k H=>⟨?_,fun⟨j,b,g,t,y,z⟩=>(d.nf j b g k t y z).1.2 H⟩,Nat.le_refl _,fun _ _ _=>rfl,fun _ h=>h,fun _ h=>.inl h,fun j b g k t y z=>.inl ⟨j,b,g,t,y,z⟩,fun _ _ h=>h⟩;rcases H with H|⟨j,b,g,t,y,_,z⟩
    ·exact Nat.lt_of_lt_of_le (l.bb k H).1 l.size
    ·exact fg (l.br _ _ _ t y) k z
   have i:=N P _ _ w.heap _ J ap w rfl;have he:=tJ (a:=a) (first:=[]) (caps:=us) (vs:=as.map a.eval) ho a0 rfl;rw[List.nil_append]at he;unfold Oper.wp;rw[he]
   have fin:∀(ok:Bool) (v:Value) (w':World),ek c.d w w'→oq P (jZ r.E γ (a7 O s.ah) (gW m tah)) ((bE m).map (bI γ)) tah w.heap QQ ok v w'.heap→
     (ok=true→Nx g c r k F γ s.ah w (a.put o.dst v) w')∧(ok=false→Q (.panic [{v:=v,recovered:=false}]) a w'):=by
    intro ok v w' n ⟨out,ah',F',γ',hq,ar,aC,p,a9,S⟩;obtain⟨m1,m2,m3,m4,m5⟩:=merge l Y (rC a5) W d S aC;have U:=H out ah' hq;have e2:Ext F w.heap ⟨r.E.B,γ⟩ F' w'.heap ⟨r.E.B,γ++γ'.drop m.length⟩:=⟨fun q hq=>m2.f q (D q hq),fun b o u hb aT=>m2.h b o u (hb.imp (D b) id) aT,m2.b,m2.g⟩;have I:RA F' w'.heap ⟨r.E.B,γ++γ'.drop m.length⟩ (ej (sig m (a7 O s.ah).length) out.a) v:=AP m3 a9 ar;refine⟨fun ac=>?_,fun Z=>?_⟩
    ·cases out with
     |cR a=>rw[ac]at p;cases p
     |ret x=>
      obtain⟨bb,a2⟩:=bM (lj U);obtain⟨s',q1,q2,q3⟩:=mJ (s:=⟨s.env,_⟩) a2 hn T (hA.trans n) m1 (hE.ext e2) I;have be:w.heap.size≤w'.heap.size:=S.size;refine⟨F',_,s',q1,q3,fun ad q hq=>⟨?_,by rw[q2];exact sC be e2.f e2.g bb hq⟩⟩;cases g with
      |any=>cases ad
      |grow=>exact(m4 (List.isEmpty_iff.1 hg)).2 q hq (by simp)
      |eF pl=>
       refine jI.of (m5 q ?_);rcases hq with hq|hq|⟨j,cs,ty,v,g1,g2,g3,g4⟩
       ·exact .inl (D q hq)
       ·exact .inr (.inl hq)
       ·refine .inr (.inr ⟨j,_,v,fun hj=>?_,yr g2,g3,g4⟩);have:=List.all_eq_true.1 hg j hj;rw[g1]at this;cases this
    ·cases out with
     |ret x=>rw[Z]at p;cases p
     |cR x=>exact hQ _ _ _ ⟨v,_,_,rfl,U,F',_,hn,T,hA.trans n,m1,hE.ext e2,I⟩
   unfold ow at i;split at i
   ·rename_i v w' hr;obtain⟨rfl,hb⟩:=i;rw[hr];exact(fin true v _ (ek.refl _) hb).1 rfl
   ·rename_i f' am w' hr;obtain⟨rfl,hb⟩:=i;rw[hr];refine hb.mono fun e al he=>?_;rcases he with⟨v,rfl,hb,n⟩|⟨v,rfl,hb,n⟩
    ·exact(fin true v al n hb).1 rfl
    ·exact(fin false v al n hb).2 rfl
   ·exact i.elim
 ·exact h.elim
theorem wq(hT:bo c.P c.tab){g:G}{F:Nat→Prop}{γ:List Value}{k:St→Prop}{K:XE→St→Prop}{Q:Exit→Act→World→Prop}(h:Xo c g o s k (fun v s=>K (.cR v) s))(M:fJ c r F γ s .undef undef a w)(hQ:∀ch a w,Qk c r K (.panic ch) a w→Q (.panic ch) a w):
  o.wp c.P a w (fun y w'=>Nx g c r k F γ s.ah w y w') Q:=by
 have i:Y1 c.tab s o.op (fun x=>ib c.n s o.dst x k)→o.wp c.P a w (fun y w'=>Nx g c r k F γ s.ah w y w') Q:=fun h=>by
  obtain⟨E,e,z,m,l,_⟩:=M;obtain⟨v,x,T,J,d⟩:=p8 hT l m h;unfold Oper.wp;rw[d w (.inr (aq.refl _ _))];exact Hw T E e z m l J
 have f:g.p9 s o.op=true→Y2 c.tab s o.op (fun ah x=>iA ah fun ah=>bif g.still ah then ib c.n ⟨s.env,ah⟩ o.dst x k else False)→o.wp c.P a w (fun y w'=>Nx g c r k F γ s.ah w y w') Q:=fun hgr h=>by
  obtain⟨E,e,z,m,l,_⟩:=M;obtain⟨nx,v,w',ah',x,F',γ',⟨Y,d⟩,O,T,b,J,S,n⟩:=Cb hT l m h;obtain⟨H,U⟩:=bM (lj T);obtain⟨s',q1,q2,q3⟩:=mJ (s:=⟨s.env,_⟩) U E e (z.trans (ek.of O)) b.wr (l.ext b.ext) J
  have hp:Nx g c r k F γ s.ah w (a.put o.dst v) w':=by
   refine⟨F',γ',s',q1,q3,fun I q hq=>?_⟩;have W:=B5 m hq
   have kp:kv s o.op=true→jI g w.heap w'.heap q∧fH g r.E F' γ' s'.ah w'.heap q:=fun D=>by
    have hK:=S D;exact⟨.of (hK.2 q W (by simp)),by rw[q2];exact sC hK.1 b.ext.f b.ext.g H hq⟩
   cases g with
   |any=>cases I
   |grow=>exact kp (by simpa[G.p9,G.act]using hgr)
   |eF pl=>
    simp only[G.p9,G.act,Bool.or_eq_true]at hgr;rcases hgr with(hgr|hgr)|hgr
    ·exact kp hgr
    ·obtain rfl:pl=[]:=List.isEmpty_iff.1 hgr;rcases hq with hq|hq|⟨j,N,ty,u,g1,_⟩
     ·exact⟨fun o u p=>b.ext.h q o u (.inl hq) p,.inl (b.ext.f q hq)⟩
     ·exact⟨fun o u p=>b.ext.h q o u (.inr hq) p,.inr (.inl hq)⟩
     ·cases g1
    ·obtain⟨ad,n⟩:=n hgr;refine⟨?_,by rw[q2];exact sC ad b.ext.f b.ext.g H hq⟩;rcases hq with hq|hq|⟨j,N,ty,u,g1,g2,g3,g4⟩
     ·exact fun o u p=>b.ext.h q o u (.inl hq) p
     ·exact fun o u p=>b.ext.h q o u (.inr hq) p
     ·exact .of (n j N ty u g2 g3 q g4)
  unfold Oper.wp;rw[d];rcases Y with rfl|⟨rfl,rfl⟩
  ·exact hp
  ·exact hp
 unfold Xo at h;split at h
 ·rename_i x Z;split at h
  ·rename_i t ag N J;obtain⟨E,e,z,m,l,_⟩:=M;have P:=aY l J;generalize hv:a.eval x=v at P;have R:=P;cases P with
   | @iface _ _ _ _ us _ _ hr _=>
    have d:(execOp a.eval o).run c.P w= .halt (.panic (.iface t (iC ag us))) w:=by
     unfold execOp;rw[Z];simp[hv,Instr.panic,goPanic]
    unfold Oper.wp;rw[d];exact hQ _ _ _ ⟨_,_,s,rfl,h,F,γ,E,e,z,m,l,R⟩
  ·exact h.elim
 ·rename_i fx as al Z;have ac:o.op= .call ⟨.value fx,as.toList.toArray,al⟩:=by rw[Z]
  exact Cc ac h M hQ
 ·rename_i op am ap;rcases ja h with⟨ha,h⟩|⟨ha,h⟩
  ·obtain⟨h1,h⟩:=bM h;exact f h1 h
  ·exact i (bM h).2
end
end Go.AM
end
