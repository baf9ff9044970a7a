/- part -/
import Derived.Test.YtpechfcbnoggfaaGreatDoorAm10
set_option linter.unusedVariables false
set_option linter.unusedSimpArgs false
section
namespace Go.AM
open Go Go.NB
inductive Rn where
 |new
 |same (j:Nat)
 |cut (sz j lo n:Nat)
def ke(f:C→C→Prop):List C→List C→Prop
 |[],[]=>True
 |x::r,y::q=>f x y∧ke f r q
 |_,_=>False
def oI(f:C→C→Prop):List C→List C→Prop
 |_,[]=>True
 |x::r,y::q=>f x y∧oI f r q
 |[],_::_=>False
def pw(fr:Nat→Bool)(ah:List B)(j:Nat):Bool:=match ah[j]? with
 |some (.aV ..)=>true
 |some (.row ..)=>fr j
 |some (.box _ _)=>fr j
 |_=>false
def mC(fr:Nat→Bool)(ah:List B):Nat→List Rn→C→C→Prop
 |0,_,_,_=>False
 |n+1,ρ,k,c=>match c with
  | .rw i=>match ρ[i]? with
   |some (.same j)=>k= .rw j
   |some .new=>k= .nil
   |some (.cut h j s m)=>k= .sw h j s m
   |none=>False
  | .sw h i s m=>match ρ[i]? with
   |some (.same j)=>k= .sw h j s m
   |_=>False
  | .ptr i o=>match ρ[i]? with
   |some (.same j)=>k= .ptr j o
   |_=>False
  | .ep h i x o=>match ρ[i]? with
   |some (.same j)=>k= .ep h j x o
   |_=>False
  | .ls h α e l=>match k with
   | .nil=>l=[]
   | .ls b d a q=>(⟨b,d,a,q⟩:LS)=⟨h,α,e,l⟩
   | .rw j=>match ah[j]? with
    |some (.aV b d a q)=>(⟨b,d,a,q⟩:LS)=⟨h,α,e,l⟩
    |_=>False
   | .sw u j s m=>match ah[j]? with
    |some (.aV b d a q)=>bif Nat.beq u b then(⟨b,d,a,(q.drop s).take m⟩:LS)=⟨h,α,e,l⟩else False
    |_=>False
   |_=>False
  | .bs h α e l=>match k with
   | .nil=>l=[]
   | .ls b d a q=>(⟨b,d,a,q⟩:LS)=⟨h,α,e,l⟩
   | .bs b d a q=>(⟨b,d,a,q⟩:LS)=⟨h,α,e,l⟩
   | .rw j=>bif pw fr ah j then(ah[j]?).bind rowOf=some ⟨h,α,e,l⟩else False
   | .sw u j s m=>bif pw fr ah j then kN ah (.sw u j s m)=some ⟨h,α,e,l⟩else False
   |_=>False
  | .bp w=>match k with
   | .bp p=>oI (mC fr ah n []) p w
   | .ptr j o=>match ah[j]? with
    |some (.box p _)=>bif fr j then oI (mC fr ah n []) (p.drop o) w else False
    |_=>False
   | .ep h j i o=>bif pw fr ah j then match(ah[j]?).bind rowOf with
    |some L=>bif Nat.beq h L.sz then∃x,L.l[i]? =some x∧oI (mC fr ah n []) ((L.enc x).drop o) w else False
    |none=>False
    else False
   |_=>False
  | .fn f v=>match k with
   | .fn y r=>y=f∧ke (mC fr ah n ρ) r v
   |_=>False
  | .iface t g w=>match k with
   | .iface D z p=>(D=t∧z=g)∧ke (mC fr ah n ρ) p w
   |_=>False
  |c=>k=c
def bS(γ:List Value):Rn→Value
 | .same j=>(γ[j]?).getD undef
 | .new=>.slice none 0 0
 | .cut b j a n=>match γ[j]? with
  |some (.slice p _ cap)=>.slice (p.map (·.add (a*b))) n (cap-a)
  |_=>undef
section
variable {E:En} {F:Nat→Prop} {γ:List Value} {ah:List B} {H:af} {B':Nat→Prop} {fr:Nat→Bool}
theorem RL.vD{m m':Md}{sz:Nat}{α:Type}{enc:α→List C}{l:List α}{v:Value}(h:RL F H m [.ls sz α enc l] [v]):RL F H m' [.ls sz α enc l] [v]:=by
 cases h with
 |cG _=>exact .cG .nl
 |ls hb a b d e c _=>exact .ls hb a b d e c .nl
theorem RL.Az{m m':Md}{sz:Nat}{α:Type}{enc:α→List C}{l:List α}{v:Value}(h:RL F H m [.ls sz α enc l] [v]):RL F H m' [.bs sz α enc l] [v]:=by
 cases h with
 |cG _=>exact .eC .nl
 |ls hb a b d e c _=>exact .bs (.inl hb) a b d e c .nl
theorem RL.Dx{m:Md}{sz:Nat}{α:Type}{enc:α→List C}{l:List α}{p q:Option Addr}{n cap:Nat}(d:SV F H ⟨sz,α,enc,l⟩ (.slice p n cap))(h:RL F H m [.bs sz α enc l] [.slice p n cap])(hq:cap≠0→q=p):RL F H m [.bs sz α enc l] [.slice q n cap]:=by
 by_cases e:cap=0
 ·obtain⟨f,a,c,b,_⟩:=d.slice;cases c;have b:l.length≤cap:=b;have:l=[]:=List.eq_nil_of_length_eq_zero (by omega);subst this;rw[e];exact .eC .nl
 ·rw[hq e];exact h
theorem wx{b:B}{g:Value}{L:LS}{m m':Md}(h:BR F H m b g)(a:rowOf b=some L)(v:∀k∈aB b g,m'.B k):RL F H m' [.bs L.sz L.α L.enc L.l] [g]:=by
 cases b with
 |box z Q=>cases a
 |dead=>cases a
 |buf=>cases a
 |row y α c l=>
  have w:=lH h a;cases a;rcases h with⟨p,rfl,rfl⟩|⟨k,x,cap,n,t,j,rfl,E,I,J,K,M,N,O⟩
  ·exact .eC .nl
  ·rcases w with⟨P,e,D⟩|⟨b,i,d,f,e,o,q,r,s,u⟩
   ·simp at e
   ·simp at e;obtain⟨⟨rfl,rfl⟩,rfl⟩:=e;exact .bs (.inr (v k (by simp[aB]))) o q r s u .nl
 |aV y α c l=>cases a;exact RL.Az h
theorem uL(a:∀j b g,fr j=true→ah[j]? =some b→γ[j]? =some g→∀k∈aB b g,B' k){j:Nat}{b:B}{g:Value}(h:pw fr ah j=true)(hb:ah[j]? =some b)(hg:γ[j]? =some g):∀k∈aB b g,B' k:=by
 unfold pw at h;rw[hb]at h;cases b with
 |aV=>intro k c;simp[aB]at c
 |row=>exact a j _ _ h hb hg
 |box=>exact a j _ _ h hb hg
 |dead=>cases h
 |buf=>cases h
theorem Bd{f:C→C→Prop}{m m':Md}(d:∀c0 c v,f c0 c→RL F H m [c0] [v]→RL F H m' [c] [v]):∀{a cs:List C} {vs:List Value},oI f a cs→RL F H m a vs→∃us:List Value,RL F H m' cs us∧∀(j:Nat) (u:Value),us[j]? =some u→vs[j]? =some u
 |_,[],vs,_,_=>⟨[],.nl,fun j u h=>by simp at h⟩
 |c0::a,c::cs,vs,⟨g,i⟩,p=>by
  obtain⟨v,us,rfl,k,l⟩:=p.jZ;obtain⟨b,n,o⟩:=Bd d i l;refine⟨v::b,(d _ _ _ g k).cons n,fun j u e=>?_⟩;cases j with
  |zero=>simpa using e
  |succ j=>simpa using o j u (by simpa using e)
theorem nJ{f:C→C→Prop}{m m':Md}(d:∀c0 c v,f c0 c→RL F H m [c0] [v]→RL F H m' [c] [v]):∀{a cs:List C} {vs:List Value},ke f a cs→RL F H m a vs→RL F H m' cs vs
 |[],[],vs,_,b=>by cases b;exact .nl
 |c0::a,c::cs,vs,⟨e,g⟩,b=>by
  obtain⟨v,j,rfl,h,i⟩:=b.jZ;exact(d _ _ _ e h).cons (nJ d g i)
theorem xi{f:C→C→Prop}:∀{a cs:List C},ke f a cs→a.length=cs.length
 |[],[],_=>rfl
 |_::_,_::_,⟨_,h⟩=>by simp[xi h]
theorem RL.vN{m:Md}{cs:List C}{vs:List Value}(h:RL F H ⟨m.B,[]⟩ cs vs):RL F H m cs vs:=h.ext ⟨fun _ h=>h,fun _ _ _ _ h=>h,fun _ h=>h,fun j v h=>by cases h⟩
theorem Dw{m:Md}{sz:Nat}{α:Type}{enc:α→List C}{l:List α}{b off n cap:Nat}(h:RL F H m [.bs sz α enc l] [.slice (some ⟨b,off,none⟩) n cap])(hl:l≠[]):F b∨m.B b:=by
 cases h with
 |eC _=>exact(hl rfl).elim
 |bs hb _ _ _ _ _ _=>exact hb
theorem vG(J:WR E F γ ah H)(hB:∀k,E.B k→B' k)(R:∀j b g,fr j=true→ah[j]? =some b→γ[j]? =some g→∀k∈aB b g,B' k):
  ∀(n:Nat) {ρ:List Rn} {W c:C} {v:Value},mC fr ah n ρ W c→RL F H ⟨E.B,γ⟩ [W] [v]→RL F H ⟨B',ρ.map (bS γ)⟩ [c] [v]:=by
 intro n;induction n with
 |zero=>intro ρ W c v h;exact h.elim
 |succ n ih=>
  intro ρ W c v h a
  have Q:∀{i j:Nat} {g:Value},ρ[i]? =some (.same j)→γ[j]? =some g→(ρ.map (bS γ))[i]? =some g:=fun s r=>by
   rw[List.getElem?_map,s];simp[bS,r]
  have U:∀{b o:Nat} {Y cs:List C} {vs:List Value} {m:Md},(F b∨B' b)→RL F H ⟨E.B,γ⟩ Y vs→(∀j u,vs[j]? =some u→cell H b (o+j)=some u)→oI (mC fr ah n []) Y cs→RL F H ⟨B',ρ.map (bS γ)⟩ [.bp cs] [.pointer (some ⟨b,o,none⟩)]:=fun hb P Z h3=>by
   obtain⟨us,g1,g2⟩:=Bd (m':=⟨B',[]⟩) (fun W c v h a=>ih (ρ:=[]) h a) h3 P;exact .bp hb g1 (fun j u hj=>Z j u (g2 j u hj)) .nl
  cases c with
  |rw i=>
   simp only[mC]at h;split at h
   ·rename_i j s;subst h;cases a with
    |rw r z _=>exact .rw (Q s r) z .nl
   ·rename_i s;subst h;cases a;refine .rw (p:=none) (by rw[List.getElem?_map,s];rfl) (fun h=>(h rfl).elim) .nl
   ·rename_i sz j w m s;subst h;cases a with
    | @sw _ _ _ _ _ p q n0 cap _ _ r S z _=>
     have d:γ[j]? =some _:=r;exact .rw (p:=p.map (·.add (w*sz))) (by rw[List.getElem?_map,s];simp[bS,d]) (fun h=>z (by omega)) .nl
   ·exact h.elim
  |sw sz i w m=>
   simp only[mC]at h;split at h
   ·rename_i j s;subst h;cases a with
    |sw r S z _=>exact .sw (Q s r) S z .nl
   ·exact h.elim
  |ptr i o=>
   simp only[mC]at h;split at h
   ·rename_i j s;subst h;cases a with
    |ptr r _=>exact .ptr (Q s r) .nl
   ·exact h.elim
  |ep sz i x o=>
   simp only[mC]at h;split at h
   ·rename_i j s;subst h;cases a with
    |ep r _=>exact .ep (Q s r) .nl
   ·exact h.elim
  |ls sz α aL l=>
   simp only[mC]at h;split at h
   ·subst h;cases a;exact .cG .nl
   ·cases h;exact a.vD
   ·split at h
    ·rename_i hb;cases h;cases a with
     |rw r z _=>exact RL.vD (m:=m0) ((RL.up (m:=m0) (J.br _ _ _ hb r)).wb z)
    ·exact h.elim
   ·rename_i N j w m;split at h
    ·rename_i a1 ap T l' hb;obtain⟨D,h⟩:=b8 h;obtain rfl:=Nat.eq_of_beq_eq_true D;have P:=zi J a;rw[show cQ ah (.sw N j w m)=(ah,.ls N ap T ((l'.drop w).take m))by simp only[cQ,hb,D,cond_true]]at P;cases a with
     | @sw _ _ _ _ _ p q n0 cap _ _ r S z _=>
      have K:RL F H m0 [.ls N ap T l'] [.slice p n0 cap]:=J.br _ _ _ hb r;cases h
      have hn:n0=l'.length:=by
       obtain⟨p',I,e,_⟩:=K.sv.slice;cases e;rfl
      by_cases e:cap=w
      ·obtain⟨p',I,e',g1,_⟩:=K.sv.slice;cases e';have g1:l'.length≤cap:=g1;obtain rfl:m=0:=by omega
       rw[List.take_zero,e,Nat.sub_self];exact .cG .nl
      ·have:=K.cut (x:=w) (y:=w+m) (by omega) (by omega);simp only[gJ,if_neg e]at this;rw[z e];rw[show w+m-w=m by omega]at this;exact this.vD
    ·exact h.elim
   ·exact h.elim
  |bs sz α aL l=>
   simp only[mC]at h;split at h
   ·subst h;cases a;exact .eC .nl
   ·cases h;exact a.Az
   ·cases h;cases a with
    |eC _=>exact .eC .nl
    |bs hb P Z a D hc _=>exact .bs (hb.imp id (hB _)) P Z a D hc .nl
   ·rename_i j;obtain⟨K,h⟩:=b8 h;obtain⟨b,hb,O⟩:=Option.bind_eq_some_iff.1 h;cases a with
    |rw r z _=>
     have d:γ[j]? =some _:=r;exact RL.Dx (lH (J.br _ _ _ hb d) O) (wx (m':=⟨B',ρ.map (bS γ)⟩) (J.br _ _ _ hb d) O (uL R K hb d)) z
   ·rename_i N j w m;obtain⟨K,h⟩:=b8 h;have hs:=J.sl a h;cases a with
    | @sw _ _ _ _ _ p q n0 cap _ _ r S z _=>
     have d:γ[j]? =some _:=r;simp only[kN]at h;cases hb:(ah[j]?).bind rowOf with
     |none=>rw[hb]at h;cases h
     |some L0=>
      rw[hb]at h;simp only[]at h;by_cases D:Nat.beq N L0.sz=true
      ·rw[D]at h;obtain⟨b,ac,O⟩:=Option.bind_eq_some_iff.1 hb;have D:=Nat.eq_of_beq_eq_true D;have am:=wx (m':=⟨B',ρ.map (bS γ)⟩) (J.br _ _ _ ac d) O (uL R K ac d);have ad:=lH (J.br _ _ _ ac d) O
       have hn:n0=L0.l.length:=by
        obtain⟨p',I,e,_⟩:=ad.slice;cases e;rfl
       cases h;by_cases e:cap=w
       ·obtain⟨p',I,e',g1,_⟩:=ad.slice;cases e';obtain rfl:m=0:=by omega
        rw[List.take_zero,e,Nat.sub_self];exact .eC .nl
       ·have:=RL.yz ad am (x:=w) (y:=w+m) (by omega) (by omega);simp only[gJ,if_neg e]at this;rw[z e,D];rw[show w+m-w=m by omega]at this;exact this
      ·rw[Bool.not_eq_true]at D;rw[D]at h;cases h
   ·exact h.elim
  |bp cs=>
   simp only[mC]at h;split at h
   ·cases a with
    |bp hb M hc _=>exact U (m:=m0) (hb.imp id (hB _)) M.vN hc h
   ·rename_i j o;split at h
    ·rename_i Y hb;obtain⟨K,h⟩:=b8 h;cases a with
     |ptr r _=>
      have d:γ[j]? =some _:=r;obtain⟨k',vs,e,P,Z⟩:=qU (o:=o) (J.br j _ _ hb d);cases e;exact U (m:=m0) (.inr (R j _ _ K hb d _ (by simp[aB]))) P Z h
    ·exact h.elim
   ·rename_i sz j i o;obtain⟨K,h⟩:=b8 h;split at h
    ·rename_i L O;obtain⟨D,x,s,h'⟩:=b8 h;obtain rfl:=Nat.eq_of_beq_eq_true D;obtain⟨b,hb,O⟩:=Option.bind_eq_some_iff.1 O;cases a with
     |ep r _=>
      have d:γ[j]? =some _:=r;obtain⟨us,P,Z⟩:=BE (J.br j b _ hb d) O rfl s o;have aV:=wx (m':=⟨B',[]⟩) (J.br j b _ hb d) O (uL R K hb d);have al:=Dw aV (List.ne_nil_of_length_pos (by have:=(List.getElem?_eq_some_iff.1 s).1;omega));exact U (m:=m0) al P.up Z h'
    ·exact h.elim
   ·exact h.elim
  |fn f a0=>
   simp only[mC]at h;split at h
   ·obtain⟨rfl,h⟩:=h;cases a with
    |fn M _=>exact .fn (nJ (fun W c v h a=>ih h a) h M) .nl
   ·exact h.elim
  |iface t g cs=>
   simp only[mC]at h;split at h
   ·obtain⟨⟨rfl,rfl⟩,h⟩:=h;cases a with
    |iface M _=>exact .iface (nJ (fun W c v h a=>ih h a) h M) .nl
   ·exact h.elim
  |int k i=>simp only[mC]at h;subst h;cases a;exact .int .nl
  |bool b=>simp only[mC]at h;subst h;cases a;exact .bool .nl
  |str l=>simp only[mC]at h;subst h;cases a with|str h _=>exact .str h .nl
  |raw v=>simp only[mC]at h;subst h;cases a with|raw h _=>exact .raw h .nl
  |nil=>simp only[mC]at h;subst h;cases a;exact .nil .nl
end
end Go.AM
end
section
namespace Go.AM
open Go Go.NB
def wQ:Option Nat→Option Nat→Prop
 |none,_=>True
 |some q,a=>a=some q
theorem Km{t t0:Option Nat}(h:wQ t t0)(e:Nat):t.getD (t0.getD e)=t0.getD e:=by
 cases t with
 |none=>rfl
 |some q=>rw[show t0=some q from h];rfl
def mB(fr:Nat→Bool)(ah:List B)(ρ:List Rn)(r:Rn)(b:B):Prop:=
 match b with
 | .dead=>True
 | .box n t=>match r with
  | .same j=>match ah[j]? with
   |some (.box h p)=>wQ t p∧ke (mC fr ah 5 ρ) h n
   |_=>False
  |_=>False
 | .row g α e l=>match r with
  | .same j=>match ah[j]? with
   |some (.row c d a f)=>(⟨c,d,a,f⟩:LS)=⟨g,α,e,l⟩
   |_=>False
  | .new=>l=[]
  | .cut i j k m=>match ah[j]? with
   |some (.row c d a f)=>bif Nat.beq i c then k+m≤f.length∧(⟨c,d,a,(f.drop k).take m⟩:LS)=⟨g,α,e,l⟩else False
   |_=>False
 | .aV g α e l=>match r with
  | .same j=>match ah[j]? with
   |some (.aV c d a f)=>(⟨c,d,a,f⟩:LS)=⟨g,α,e,l⟩
   |_=>False
  |_=>False
 | .buf t g α e l=>match r with
  | .same j=>match ah[j]? with
   |some (.buf o c d a f)=>o=t∧(⟨c,d,a,f⟩:LS)=⟨g,α,e,l⟩
   |_=>False
  | .new=>l=[]
  |_=>False
def lC(fr:Nat→Bool)(ah:List B)(ρ:List Rn):List Rn→List B→Prop
 |[],[]=>True
 |r::c,b::a=>mB fr ah ρ r b∧lC fr ah ρ c a
 |_,_=>False
def lK:Rn→List Nat
 | .same j=>[j]
 | .cut _ j _ _=>[j]
 | .new=>[]
def pO:B→Bool
 | .box .. | .row .. | .buf .. =>true
 |_=>false
def da:List Rn→List B→List Nat
 |r::b,.box _ _::a=>lK r++da b a
 |r::b,.row .. ::a=>lK r++da b a
 |r::b,.buf .. ::a=>lK r++da b a
 |_::b,_::a=>da b a
 |_,_=>[]
def eS:List Nat→Bool
 |[]=>true
 |j::r=> !(r.any (Nat.beq j))&&eS r
theorem sj:∀{l:List Nat},eS l=true→l.Nodup
 |[],_=>.nil
 |j::r,h=>by
  simp only[eS,Bool.and_eq_true,Bool.not_eq_true',List.any_eq_false]at h;refine List.nodup_cons.2 ⟨fun a=>h.1 j a (Nat.beq_refl j),sj h.2⟩
section
variable {E:En} {F:Nat→Prop} {γ:List Value} {ah:List B} {H:af} {B':Nat→Prop} {fr:Nat→Bool} {ρ:List Rn} {tah:List B}
theorem r7:∀{rs:List Rn} {bs:List B},lC fr ah ρ rs bs→rs.length=bs.length∧∀(i:Nat) (b:B),bs[i]? =some b→∃r,rs[i]? =some r∧mB fr ah ρ r b
 |[],[],_=>⟨rfl,fun i b h=>by simp at h⟩
 |r::rs,b::bs,⟨c,d⟩=>by
  obtain⟨e,f⟩:=r7 d;refine⟨by simp[e],fun i a h=>?_⟩;cases i with
  |zero=>cases h;exact⟨r,rfl,c⟩
  |succ i=>simpa using f i a (by simpa using h)
theorem rZ(v:WR E F γ ah H){r:Rn}{b:B}(h:mB fr ah ρ r b):∀k∈aB b (bS γ r),∃j o d,lK r=[j]∧ah[j]? =some o∧γ[j]? =some d∧k∈aB o d∧pO b=true:=by
 intro k a;have f:∀{j:Nat} {o:B},ah[j]? =some o→∃d,γ[j]? =some d:=fun g=>⟨_,List.getElem?_eq_getElem (by rw[v.len];exact(List.getElem?_eq_some_iff.1 g).1)⟩;cases b with
 |dead=>simp[aB]at a
 |aV=>simp[aB]at a
 |buf t M α q l=>
  cases r with
  |same j=>
   simp only[mB]at h;split at h
   ·rename_i g;obtain⟨d,i⟩:=f g;refine⟨j,_,d,rfl,g,i,?_,rfl⟩;simp only[bS,i,Option.getD_some]at a;cases d with
    |slice p n c=>cases p<;>cases c<;>first|(simp[aB]at a;done)|simpa[aB]using a
    |_=>simp[aB]at a
   ·exact h.elim
  |new=>simp[bS,aB]at a
  |cut=>simp only[mB]at h
 |box x U=>
  cases r with
  |same j=>
   simp only[mB]at h;split at h
   ·rename_i y T g;obtain⟨d,i⟩:=f g;refine⟨j,_,d,rfl,g,i,?_,rfl⟩;simp only[bS,i,Option.getD_some]at a;cases d with
    |pointer p=>cases p<;>first|(simp[aB]at a;done)|simpa[aB]using a
    |_=>simp[aB]at a
   ·exact h.elim
  |_=>simp only[mB]at h
 |row M α q l=>
  cases r with
  |same j=>
   simp only[mB]at h;split at h
   ·rename_i g;obtain⟨d,i⟩:=f g;refine⟨j,_,d,rfl,g,i,?_,rfl⟩;simp only[bS,i,Option.getD_some]at a;rw[mm]at a⊢;exact a
   ·exact h.elim
  |new=>simp[bS,aB]at a
  |cut O j w m=>
   simp only[mB]at h;split at h
   ·rename_i N P u K g;obtain⟨J,D,S⟩:=b8 h;obtain⟨d,i⟩:=f g;refine⟨j,_,d,rfl,g,i,?_,rfl⟩;obtain⟨x,s,Q,R⟩:=qg (v.br _ _ _ g i)
    obtain⟨p,n0,cap,rfl⟩:∃p n0 cap,d= .slice p n0 cap:=by
     rcases s.2 with⟨p,e,_⟩|⟨_,_,_,_,_,e,_⟩<;>exact⟨_,_,_,e⟩
    have I:n0=K.length:=by
     rcases s.2 with⟨p,e,z⟩|⟨_,_,_,_,_,e,_⟩
     ·cases e;exact z.symm
     ·simp at e;exact e.2.1
    subst I;simp only[bS,i]at a;rw[mm]at a⊢;exact(s.part (lo:=w) (n:=m) D (fun _=>rfl)).2 k (by rw[Nat.eq_of_beq_eq_true J]at a;exact a)
   ·exact h.elim
theorem s6:∀{rs:List Rn} {bs:List B} {i j:Nat} {r:Rn} {b:B},rs[i]? =some r→bs[i]? =some b→pO b=true→lK r=[j]→j∈da rs bs
 |[],_,i,j,r,b,a,_,_,_=>by simp at a
 |_::_,[],i,j,r,b,_,hb,_,_=>by simp at hb
 |r'::rs,e::bs,0,j,r,b,a,hb,d,c=>by
  cases a;cases hb;cases e with
  |box=>simp[da,c]
  |row=>simp[da,c]
  |buf=>simp[da,c]
  |aV=>cases d
  |dead=>cases d
 |r'::rs,e::bs,i+1,j,r,b,a,hb,d,c=>by
  have:=s6 (rs:=rs) (bs:=bs) (i:=i) (by simpa using a) (by simpa using hb) d c;cases e<;>simp[da,this]
theorem Cq:∀{rs:List Rn} {bs:List B} {i i' j:Nat} {r r':Rn} {b b':B},(da rs bs).Nodup→i≠i'→rs[i]? =some r→bs[i]? =some b→rs[i']? =some r'→bs[i']? =some b'→
  pO b=true→pO b'=true→lK r=[j]→lK r'=[j]→False
 |[],_,i,i',j,r,r',b,b',_,_,l,_,_,_,_,_,_,_=>by simp at l
 |_::_,[],i,i',j,r,r',b,b',_,_,_,hb,_,_,_,_,_,_=>by simp at hb
 |r0::rs,m::bs,i,i',j,r,r',b,b',a,p,l,hb,f,d,k,e,g,h=>by
  have o:(da rs bs).Nodup:=by
   cases m<;>simp only[da]at a
   ·exact(List.nodup_append.1 a).2.1
   ·exact(List.nodup_append.1 a).2.1
   ·exact a
   ·exact(List.nodup_append.1 a).2.1
   ·exact a
  have c:∀{q:Nat},pO m=true→lK r0=[q]→q∈da rs bs→False:=fun{q} k g n=>by
   cases m with
   |box _ _=>
    simp only[da,g]at a;exact(List.nodup_append.1 a).2.2 q (by simp) q n rfl
   |row=>
    simp only[da,g]at a;exact(List.nodup_append.1 a).2.2 q (by simp) q n rfl
   |buf=>
    simp only[da,g]at a;exact(List.nodup_append.1 a).2.2 q (by simp) q n rfl
   |aV=>cases k
   |dead=>cases k
  cases i with
  |zero=>
   cases i' with
   |zero=>exact p rfl
   |succ i'=>
    cases l;cases hb;exact c k g (s6 (i:=i') (by simpa using f) (by simpa using d) e h)
  |succ i=>
   cases i' with
   |zero=>
    cases f;cases d;exact c e h (s6 (i:=i) (by simpa using l) (by simpa using hb) k g)
   |succ i'=>exact Cq (i:=i) (i':=i') o (by omega) (by simpa using l) (by simpa using hb) (by simpa using f) (by simpa using d) k e g h
structure Core(B':Nat→Prop)(own:Nat→Prop)(F:Nat→Prop)(γ:List Value)(ah:List B)(H:af):Prop where
 len:γ.length=ah.length
 br:∀(j:Nat) (b:B) (g:Value),ah[j]? =some b→γ[j]? =some g→BR F H ⟨B',γ⟩ b g
 disj:∀(i j:Nat) (b b':B) (g g':Value),i≠j→ah[i]? =some b→γ[i]? =some g→ah[j]? =some b'→γ[j]? =some g'→∀k,k∈aB b g→k∉aB b' g'
 nf:∀(j:Nat) (b:B) (g:Value) (k:Nat),ah[j]? =some b→γ[j]? =some g→k∈aB b g→(¬F k∧¬B' k)∧own k
def kD(E:En)(γ:List Value)(ah:List B)(fr:Nat→Bool)(k:Nat):Prop:=E.B k∨∃(j:Nat) (b:B) (g:Value),ah[j]? =some b∧γ[j]? =some g∧fr j=true∧k∈aB b g
def owned(γ:List Value)(ah:List B)(k:Nat):Prop:=∃(j:Nat) (b:B) (g:Value),ah[j]? =some b∧γ[j]? =some g∧k∈aB b g
theorem core(w:WR E F γ ah H)(hm:lC fr ah ρ ρ tah)(a3:eS (da ρ tah)=true)(a0:∀j,fr j=true→j∉da ρ tah):
  Core (kD E γ ah fr) (owned γ ah) F (ρ.map (bS γ)) tah H:=by
 obtain⟨T,R⟩:=r7 hm
 have f:∀{i:Nat} {b:B} {g:Value},tah[i]? =some b→(ρ.map (bS γ))[i]? =some g→∃r,ρ[i]? =some r∧g=bS γ r∧mB fr ah ρ r b:=fun hb D=>by
  obtain⟨r,u,s⟩:=R _ _ hb;rw[List.getElem?_map,u]at D;exact⟨r,u,by simpa using D.symm,s⟩
 have aL:=sj a3;refine⟨by simp[T],fun i b g hb D=>?_,fun i i' b b' g g' a4 hb D Q a1 k S a2=>?_,fun i b g k hb D S=>?_⟩
 ·obtain⟨r,O,rfl,a⟩:=f hb D
  have N:∀{I Y:List C} {vs:List Value},ke (mC fr ah 5 ρ) I Y→RL F H ⟨E.B,γ⟩ I vs→RL F H ⟨kD E γ ah fr,ρ.map (bS γ)⟩ Y vs:=fun u s=>
   nJ (fun c0 c v h O=>vG w (fun _ h=>.inl h) (fun j b g u s z k S=>.inr ⟨j,b,g,s,z,u,S⟩) 5 h O) u s
  have o:∀{j:Nat} {W:B},ah[j]? =some W→∃y,γ[j]? =some y:=fun q=>⟨_,List.getElem?_eq_getElem (by rw[w.len];exact(List.getElem?_eq_some_iff.1 q).1)⟩;cases b with
  |dead=>trivial
  |buf t sz α J l=>
   cases r with
   |same j=>
    simp only[mB]at a;split at a
    ·rename_i q;obtain⟨y,d⟩:=o q;obtain⟨rfl,a⟩:=a;cases a;have:=w.br _ _ _ q d;simp only[bS,d,Option.getD_some];exact this
    ·exact a.elim
   |new=>exact .inl ⟨none,rfl,a⟩
   |cut=>simp only[mB]at a
  |box Y ty=>
   cases r with
   |same j=>
    simp only[mB]at a;split at a
    ·rename_i I t0 q;obtain⟨y,d⟩:=o q;obtain⟨k,e,vs,u,s,z⟩:=w.br _ _ _ q d;refine⟨k,t0.getD e,vs,?_,by rw[Km a.1];exact s,N a.2 z⟩;simp[bS,d,u]
    ·exact a.elim
   |_=>simp only[mB]at a
  |row sz α J l=>
   cases r with
   |same j=>
    simp only[mB]at a;split at a
    ·rename_i q;obtain⟨y,d⟩:=o q;cases a;have:=w.br _ _ _ q d;simp only[bS,d,Option.getD_some];exact this
    ·exact a.elim
   |new=>exact .inl ⟨none,rfl,a⟩
   |cut be j lo m=>
    simp only[mB]at a;split at a
    ·rename_i bb bi a9 l' q;obtain⟨hz,u,s⟩:=b8 a;have hz:=Nat.eq_of_beq_eq_true hz;obtain⟨y,d⟩:=o q;obtain⟨Y,g1,g2,g3⟩:=qg (w.br _ _ _ q d)
     obtain⟨p,n0,cap,rfl⟩:∃p n0 cap,y= .slice p n0 cap:=by
      rcases g1.2 with⟨p,e,_⟩|⟨_,_,_,_,_,e,_⟩<;>exact⟨_,_,_,e⟩
     have hn:n0=l'.length:=by
      rcases g1.2 with⟨p,e,e2⟩|⟨_,_,_,_,_,e,_⟩
      ·cases e;exact e2.symm
      ·simp at e;exact e.2.1
     subst hn;cases s;simp only[bS,d];rw[hz];have Z:∀x∈l'.drop lo,(J x).length=sz:=fun x hx=>g3 x (List.mem_of_mem_drop hx);refine rm (g1.part (lo:=lo) (n:=m) u (fun _=>rfl)).1 (by rw[List.length_take,List.length_drop];omega) ?_ (fun x hx=>Z x (List.mem_of_mem_take hx));rw[←nZ m Z,←mZ lo g3];exact(g2.drop _).take _
    ·exact a.elim
  |aV sz α J l=>
   cases r with
   |same j=>
    simp only[mB]at a;split at a
    ·rename_i q;obtain⟨y,d⟩:=o q;cases a;have:=w.br _ _ _ q d;simp only[bS,d,Option.getD_some];exact this
    ·exact a.elim
   |_=>simp only[mB]at a
 ·obtain⟨r,O,rfl,a⟩:=f hb D;obtain⟨r',a5,rfl,U⟩:=f Q a1;obtain⟨j,W,y,u,s,z,P,h5⟩:=rZ w a k S;obtain⟨j',ac,ad,al,K,M,am,ap⟩:=rZ w U k a2;by_cases e:j=j'
  ·subst e;exact Cq aL a4 O hb a5 Q h5 ap u al
  ·exact w.disj _ _ _ _ _ _ e s z K M k P am
 ·obtain⟨r,O,rfl,a⟩:=f hb D;obtain⟨j,W,y,u,s,z,P,h5⟩:=rZ w a k S;obtain⟨Z,h7⟩:=w.nf _ _ _ k s z P;refine⟨⟨Z,fun h=>?_⟩,j,W,y,s,z,P⟩;rcases h with h|⟨j',ac,ad,K,M,h8,h9⟩
  ·exact h7 h
  ·by_cases e:j=j'
   ·subst e;exact a0 _ h8 (s6 O hb h5 u)
   ·exact w.disj _ _ _ _ _ _ e s z K M k P h9
theorem weaken(a:WR E F γ ah H)(hm:lC (fun _=>false) ah ρ ρ tah)(m:eS (da ρ tah)=true)(hid:∀i,i<E.γ0.length→ρ[i]? =some (.same i)):
  WR E F (ρ.map (bS γ)) tah H∧∀{n:Nat} {o c:C} {v:Value},mC (fun _=>false) ah n ρ o c→RL F H ⟨E.B,γ⟩ [o] [v]→RL F H ⟨E.B,ρ.map (bS γ)⟩ [c] [v]:=by
 have d:=core a hm m (fun j h=>by cases h)
 have t:kD E γ ah (fun _=>false)=E.B:=by
  funext k;apply propext;constructor
  ·rintro(h|⟨_,_,_,_,_,h,_⟩)
   ·exact h
   ·cases h
  ·exact .inl
 rw[t]at d;refine⟨⟨d.len,d.br,d.disj,fun j b g k e f l=>(d.nf j b g k e f l).1,a.fb,a.bb,a.size,a.cM,a.fmono,a.fnew,fun j b g k e f l=>?_,fun i v p=>?_⟩,fun h u=>vG a (fun _ h=>h) (fun j b g h=>by cases h) _ h u⟩
 ·obtain⟨y,w,x,q,r,s⟩:=(d.nf j b g k e f l).2;exact a.onew _ _ _ k q r s
 ·have e:=hid i (List.getElem?_eq_some_iff.1 p).1;rw[List.getElem?_map,e];simp[bS,a.pre i v p]
end
end Go.AM
end
section
namespace Go.AM
open Go Go.NB
def jU(σ:Nat→Nat):C→C
 | .rw j=>.rw (σ j)
 | .sw b j a n=>.sw b (σ j) a n
 | .ptr j o=>.ptr (σ j) o
 |c=>c
def gA:C→Bool
 | .rw _| .sw .. | .ptr .. =>true
 | .iface _ _ a=>ei a
 |c=>eK c
def fl:List C→Bool
 |[]=>true
 |c::a=>gA c&&fl a
def fL(σ:Nat→Nat):B→B
 | .box a t=>.box (a.map (jU σ)) t
 |b=>b
def fR:B→Bool
 | .box a _=>fl a
 |_=>true
def eU(σ:Nat→Nat):A→A
 | .c x=>.c (jU σ x)
 | .st b=>.st (b.map (jU σ))
 | .aL d=>.aL (d.map fun t=>(t.1,t.2.map (jU σ)))
 |a=>a
def fF:A→Bool
 | .c x=>gA x
 | .st a=>fl a
 | .aL b=>b.all fun t=>fl t.2
 | .undef=>true
 | .off=>false
inductive Out:Type 1 where
 |ret (a:A)
 |dm (a:A)
def Out.a:Out→A
 | .ret a=>a
 | .dm a=>a
section
variable {F:Nat→Prop} {H:af} {m m':Md} {σ:Nat→Nat}
theorem sN(a:∀(j:Nat) (g:Value),m.γ[j]? =some g→m'.γ[σ j]? =some g){cs:List C}{vs:List Value}(h:RL F H m cs vs)(hc:fl cs=true):RL F H m' (cs.map (jU σ)) vs:=by
 induction h with
 |nl=>exact .nl
 |int _ ih=>simp[fl,gA,eK]at hc;exact .int (ih a hc)
 |bool _ ih=>simp[fl,gA,eK]at hc;exact .bool (ih a hc)
 |str h _ ih=>simp[fl,gA,eK]at hc;exact .str h (ih a hc)
 |raw h _ ih=>simp[fl,gA,eK]at hc;exact .raw h (ih a hc)
 |nil _ ih=>simp[fl,gA,eK]at hc;exact .nil (ih a hc)
 |cG _ ih=>simp[fl,gA,eK]at hc;exact .cG (ih a hc)
 |ls hb i k f l c _ _ ih=>simp[fl,gA,eK]at hc;exact .ls hb i k f l c (ih a hc)
 |rw b e _ ih=>simp[fl,gA]at hc;exact .rw (a _ _ b) e (ih a hc)
 |sw b d e _ ih=>simp[fl,gA]at hc;exact .sw (a _ _ b) d e (ih a hc)
 |ptr b _ ih=>simp[fl,gA]at hc;exact .ptr (a _ _ b) (ih a hc)
 |iface f _ _ ih=>simp[fl,gA]at hc;exact .iface (tZ f hc.1) (ih a hc.2)
 |_=>simp[fl,gA,eK]at hc
theorem Bz(a:∀(j:Nat) (g:Value),m.γ[j]? =some g→m'.γ[σ j]? =some g):∀{ts:List (Bool×List C)} {vs:List Value},RT F H m ts vs→(ts.all fun t=>fl t.2)=true→RT F H m' (ts.map fun t=>(t.1,t.2.map (jU σ))) vs
 |[],[],_,_=>trivial
 |(g,i)::ts,v::vs,⟨⟨f,c,d,e⟩,h⟩,b=>by
  simp only[List.all_cons,Bool.and_eq_true]at b;exact⟨⟨f,sN a c b.1,d,fun h=>by simp[e h]⟩,Bz a h b.2⟩
theorem By(b:∀(j:Nat) (g:Value),m.γ[j]? =some g→m'.γ[σ j]? =some g){a:A}{v:Value}(h:RA F H m a v)(hc:fF a=true):RA F H m' (eU σ a) v:=by
 cases a with
 |undef=>trivial
 |off=>cases hc
 |c x=>exact sN b (cs:=[x]) h (by simpa[fl,fF]using hc)
 |st e=>obtain⟨d,rfl,h⟩:=h;exact⟨d,rfl,sN b h hc⟩
 |aL f=>obtain⟨d,rfl,h⟩:=h;exact⟨d,rfl,Bz b h hc⟩
theorem IW(c:∀(j:Nat) (g:Value),m.γ[j]? =some g→m'.γ[σ j]? =some g){b:B}{g:Value}(h:BR F H m b g)(hc:fR b=true):BR F H m' (fL σ b) g:=by
 cases b with
 |box p q=>obtain⟨k,e,o,f,i,n⟩:=h;exact⟨k,e,o,f,i,sN c n hc⟩
 |row d α a l=>exact h
 |aV d α a l=>exact h
 |buf t d α a l=>exact h
 |dead=>trivial
theorem p8{b:B}{g:Value}:aB (fL σ b) g=aB b g:=by
 cases g with
 |pointer p=>cases b<;>cases p<;>rfl
 |_=>cases b<;>rfl
end
def eA(F:Nat→Prop)(H:af)(m:Md):List A→List Value→Prop
 |[],[]=>True
 |a::as,v::b=>RA F H m a v∧eA F H m as b
 |_,_=>False
structure eW(d:Bool)(w w':World):Prop where
 os:w'.os=w.os
 tape:w'.tape=w.tape
 output:w'.output=w.output
 drawn:d=true→w.drawn≤w'.drawn
theorem eW.refl{d:Bool}(w:World):eW d w w:=⟨rfl,rfl,rfl,fun _=>Nat.le_refl _⟩
theorem eW.trans{d:Bool}{a b c:World}(h:eW d a b)(k:eW d b c):eW d a c:=⟨k.os.trans h.os,k.tape.trans h.tape,k.output.trans h.output,fun e=>Nat.le_trans (h.drawn e) (k.drawn e)⟩
theorem eW.of{d:Bool}{a b:World}(h:bA a b):eW d a b:=⟨h.os,h.tape,h.output,fun _=>h.drawn⟩
def oZ(d:Bool)(P:Program)(w:World)(R:Bool→Value→af→Prop):Result Next→Prop
 | .ok (.value v) a=>a=w∧R true v w.heap
 | .ok (.enter f b) a=>a=w∧Calls P f b w fun e a=>(∃v,e= .returned v∧R true v a.heap∧eW d w a)∨(∃v,e= .panicked [{v:=v,recovered:=false}]∧R false v a.heap∧eW d w a)
 |_=>False
def nD(d:Bool)(P:Program)(f:FuncId)(args:Array Value)(H:af)(R:Bool→Value→af→Prop):Prop:=
 ∀w:World,w.heap=H→oZ d P w R ((callFunc f args).run P w)
theorem nD.mono{d:Bool}{P:Program}{f:FuncId}{args:Array Value}{H:af}{R i:Bool→Value→af→Prop}(h:nD d P f args H R)(hr:∀b v H',R b v H'→i b v H'):nD d P f args H i:=by
 intro w j;have:=h w j;unfold oZ at*;split at this
 ·exact⟨this.1,hr _ _ _ this.2⟩
 ·refine⟨this.1,this.2.mono fun e k h=>?_⟩;rcases h with⟨v,a,c,g⟩|⟨v,a,c,g⟩
  ·exact .inl ⟨v,a,hr _ _ _ c,g⟩
  ·exact .inr ⟨v,a,hr _ _ _ c,g⟩
 ·exact this.elim
def en(F L:Nat→Prop)(γ:List Value)(ah:List B)(H:af):En:=⟨F,L,owned γ ah,H,γ⟩
def oW(F L:Nat→Prop)(γ:List Value)(ah:List B)(H:af)(Q:Out→List B→Prop)(ok:Bool)(v:Value)(H':af):Prop:=
 ∃out ah' F' γ',Q out ah'∧fF out.a=true∧ah'.all fR=true∧(match out with| .ret _=>ok=true| .dm _=>ok=false)∧RA F' H' ⟨L,γ'⟩ out.a v∧WR (en F L γ ah H) F' γ' ah' H'
def bU(d:Bool)(P:Program)(f:FuncId)(args:List A)(ah:List B)(Q:Out→List B→Prop):Prop:=
 ∀(F L:Nat→Prop) (γ:List Value) (H:af) (a:List Value),eA F H ⟨L,γ⟩ args a→WR (en F L γ ah H) F γ ah H→nD d P f a.toArray H (oW F L γ ah H Q)
abbrev ai(P:Program)(f:FuncId)(args:List A)(ah:List B)(Q:Out→List B→Prop):Prop:=bU false P f args ah Q
theorem bU.mono{d:Bool}{P:Program}{f:FuncId}{args:List A}{ah:List B}{Q a:Out→List B→Prop}(h:bU d P f args ah Q)(hq:∀o b,Q o b→a o b):bU d P f args ah a:=
 fun F L γ H j c e=>(h F L γ H j c e).mono fun ok v H' ⟨out,ah',F',γ',g,i⟩=>⟨out,ah',F',γ',hq _ _ g,i⟩
theorem ai.mono{P:Program}{f:FuncId}{args:List A}{ah:List B}{Q a:Out→List B→Prop}(h:ai P f args ah Q)(hq:∀o b,Q o b→a o b):ai P f args ah a:=bU.mono h hq
def mT(f:C→C→Prop):List (Bool×List C)→List (Bool×List C)→Prop
 |[],[]=>True
 |(d,a)::b,(g,c)::e=>(d=g∧ke f a c)∧mT f b e
 |_,_=>False
def mA(fr:Nat→Bool)(ah:List B)(ρ:List Rn):A→A→Prop
 |_,.undef=>True
 | .c d,.c c=>mC fr ah 5 ρ d c
 | .st a,.st e=>ke (mC fr ah 5 ρ) a e
 | .aL b,.aL f=>mT (mC fr ah 5 ρ) b f
 | .off,.off=>True
 |_,_=>False
def mi(fr:Nat→Bool)(ah:List B)(ρ:List Rn):List A→List A→Prop
 |[],[]=>True
 |a0::b,a::as=>mA fr ah ρ a0 a∧mi fr ah ρ b as
 |_,_=>False
def sig(m:List Nat)(n:Nat)(j:Nat):Nat:=bif Nat.blt j m.length then m.getD j 0 else n+(j-m.length)
def oQ:List Nat→List B→List B→List B
 |j::m,b::a,ah=>oQ m a (ah.set j b)
 |_,_,ah=>ah
def rS(f:B→B)(x:B)(t b:B):B:=match t with
 | .dead=>match b with
  | .dead=>x
  |b=>f b
 |_=>f b
theorem GH(f:B→B)(x t b:B):(t= .dead∧rS f x t b=x)∨rS f x t b=f b:=by
 cases t with
 |dead=>
  cases b with
  |dead=>exact .inl ⟨rfl,rfl⟩
  |_=>exact .inr rfl
 |_=>exact .inr rfl
def lr(f:B→B)(ah:List B):List Nat→List B→List B→List B
 |j::m,t::c,b::a=>rS f ((ah[j]?).getD .dead) t b::lr f ah m c a
 |_,_,_=>[]
theorem z7{f:B→B}{ah:List B}:∀{m:List Nat} {ts bs:List B},ts.length=m.length→m.length≤bs.length→(lr f ah m ts bs).length=m.length
 |[],_,_,_,_=>rfl
 |j::m,t::ts,b::bs,a,c=>by
  simp only[lr,List.length_cons];rw[z7 (by simpa using a) (by simpa using c)]
 |j::m,[],_,a,_=>by simp at a
 |j::m,t::ts,[],_,c=>by simp at c
theorem zZ{f:B→B}{ah:List B}:∀{m:List Nat} {ts bs:List B} {q i:Nat} {b:B},m[q]? =some i→(lr f ah m ts bs)[q]? =some b→(ts[q]? =some .dead∧b=(ah[i]?).getD .dead)∨∃b',bs[q]? =some b'∧b=f b'
 |[],_,_,_,_,_,h,_=>by simp at h
 |j::m,[],_,_,_,_,_,h=>by simp[lr]at h
 |j::m,t::ts,[],_,_,_,_,h=>by simp[lr]at h
 |j::m,t::ts,b::bs,0,i,x,c,a=>by
  obtain rfl:j=i:=by simpa using c
  have a:rS f ((ah[j]?).getD .dead) t b=x:=by simpa[lr]using a
  subst a;rcases GH f ((ah[j]?).getD .dead) t b with⟨rfl,h⟩|h
  ·exact .inl ⟨rfl,h⟩
  ·exact .inr ⟨b,rfl,h⟩
 |j::m,t::ts,b::bs,q+1,i,x,c,a=>by
  rcases zZ (m:=m) (ts:=ts) (bs:=bs) (q:=q) (by simpa using c) (by simpa[lr]using a)with⟨d,e⟩|⟨b',d,e⟩
  ·exact .inl ⟨by simpa using d,e⟩
  ·exact .inr ⟨b',by simpa using d,e⟩
def eR(m:List Nat)(tah ah ah':List B):List B:=oQ m (lr (fL (sig m ah.length)) ah m tah ah') ah++(ah'.drop m.length).map (fL (sig m ah.length))
theorem qi:∀(m:List Nat) (bs ah:List B),(oQ m bs ah).length=ah.length
 |[],_,_=>rfl
 |_::_,[],_=>rfl
 |j::m,b::bs,ah=>by rw[oQ,qi m bs,List.length_set]
theorem BQ:∀{m:List Nat} {bs ah:List B} {i:Nat} {b:B},m.Nodup→(oQ m bs ah)[i]? =some b→(ah[i]? =some b∧(i∈m→∃q,m[q]? =some i∧bs.length≤q))∨∃q:Nat,m[q]? =some i∧bs[q]? =some b
 |[],bs,ah,i,b,_,h=>.inl ⟨h,fun h=>by cases h⟩
 | j :: m, [], ah, i, b, _, h => .inl ⟨h,fun hm=>by
   obtain⟨q,o⟩:=List.getElem?_of_mem hm;exact⟨q,o,by simp⟩⟩
 |j::m,p::bs,ah,i,b,n,h=>by
  obtain⟨r,g⟩:=List.nodup_cons.1 n;rw[oQ]at h;rcases BQ g h with⟨a,c⟩|⟨q,a,c⟩
  ·rcases pA a with⟨k,l⟩|⟨rfl,_,rfl⟩
   ·refine .inl ⟨l,fun hm=>?_⟩;rcases List.mem_cons.1 hm with e|hm
    ·exact(k e).elim
    ·obtain⟨q,d,f⟩:=c hm;exact⟨q+1,by simpa using d,by simpa using f⟩
   ·exact .inr ⟨0,rfl,rfl⟩
  ·exact .inr ⟨q+1,by simpa using a,by simpa using c⟩
theorem wC{m:List Nat}{n q j:Nat}(h:m[q]? =some j):sig m n q=j:=by
 obtain⟨a,e⟩:=List.getElem?_eq_some_iff.1 h;have:Nat.blt q m.length=true:=Nat.ble_eq_true_of_le a;unfold sig;rw[this];simp[List.getD_eq_getElem?_getD,h]
theorem BV{m:List Nat}{n q:Nat}(h:m.length≤q):sig m n q=n+(q-m.length):=by
 have:Nat.blt q m.length=false:=by
  cases e:Nat.blt q m.length with
  |false=>rfl
  |true=>have:=Nat.le_of_ble_eq_true e;omega
 unfold sig;rw[this];rfl
section
variable {E:En} {F F':Nat→Prop} {γ γ':List Value} {ah ah' tah:List B} {H H':af} {fr:Nat→Bool} {m:List Nat}
def bK(m:List Nat):List Rn:=m.map .same
theorem merge(d:WR E F γ ah H)(hm:lC fr ah (bK m) (bK m) tah)(hn:m.Nodup)(a1:∀j∈m,j<ah.length)(hc:Core (kD E γ ah fr) (owned γ ah) F ((bK m).map (bS γ)) tah H)
  (t:WR (en F (kD E γ ah fr) ((bK m).map (bS γ)) tah H) F' γ' ah' H')(a0:ah'.all fR=true):
  WR E F' (γ++γ'.drop m.length) (eR m tah ah ah') H'∧Ext F H ⟨E.B,γ⟩ F' H' ⟨E.B,γ++γ'.drop m.length⟩∧(∀(j:Nat) (g:Value),γ'[j]? =some g→(γ++γ'.drop m.length)[sig m ah.length j]? =some g)∧(m=[]→aq [] H H')∧
  ∀k,(F k∨E.B k∨∃j x y,j∉m∧ah[j]? =some x∧γ[j]? =some y∧k∈aB x y)→H'[k]? =H[k]? :=by
 have a3:tah.length=m.length:=by have:=(r7 hm).1;simpa[bK]using this.symm
 let Kept:Nat→Prop:=fun i=>i∉m∨∃q:Nat,m[q]? =some i∧tah[q]? =some .dead
 have w:∀k,owned ((bK m).map (bS γ)) tah k→∃j x y,¬Kept j∧ah[j]? =some x∧γ[j]? =some y∧k∈aB x y:=fun k ⟨i,b,g,hb,p,a⟩=>by
  obtain⟨r,c,f⟩:=(r7 hm).2 _ _ hb;rw[List.getElem?_map,c]at p;simp at p;subst p;obtain⟨j,x,y,l,n,h5,h6,_⟩:=rZ d f k a;have s:=c;unfold bK at s;rw[List.getElem?_map]at s;obtain⟨j',al,rfl⟩:=Option.map_eq_some_iff.1 s;simp[lK]at l;subst l;refine⟨j',x,y,fun S=>?_,n,h5,h6⟩;rcases S with S|⟨q,U,hd⟩
  ·exact S (List.mem_of_getElem? al)
  ·obtain⟨Z,K⟩:=List.getElem?_eq_some_iff.1 U;obtain⟨P,M⟩:=List.getElem?_eq_some_iff.1 al;obtain rfl:q=i:=(List.getElem_inj hn).1 (K.trans M.symm);rw[hd]at hb;cases hb;simp[aB]at a
 have W:∀(j:Nat) (g:Value),γ'[j]? =some g→(γ++γ'.drop m.length)[sig m ah.length j]? =some g:=fun q g U=>by
  rcases Nat.lt_or_ge q m.length with h|h
  ·have am:m[q]? =some m[q]:=List.getElem?_eq_getElem h;rw[wC am];have Q:m[q]<γ.length:=by rw[d.len];exact a1 _ (List.getElem_mem h)
   rw[List.getElem?_append_left Q]
   have c:((bK m).map (bS γ))[q]? =some (γ[m[q]]):=by
    simp[bK,am,bS,List.getElem?_eq_getElem Q]
   have f:=t.pre q _ c;rw[f]at U;rw[List.getElem?_eq_getElem Q];exact U
  ·rw[BV h,List.getElem?_append_right (by rw[d.len];omega),List.getElem?_drop,d.len];rw[show m.length+(ah.length+(q-m.length)-ah.length)=q by omega];exact U
 have T:m.length≤ah'.length:=by
  rw[←t.len];rcases Nat.eq_zero_or_pos m.length with h|h
  ·omega
  ·have c:((bK m).map (bS γ))[m.length-1]? =some (((bK m).map (bS γ))[m.length-1]'(by simp[bK];omega)):=List.getElem?_eq_getElem _;have:=(List.getElem?_eq_some_iff.1 (t.pre _ _ c)).1;omega
 have get:∀{i:Nat} {b:B} {g:Value},(eR m tah ah ah')[i]? =some b→(γ++γ'.drop m.length)[i]? =some g→(Kept i∧ah[i]? =some b∧γ[i]? =some g)∨∃q O,ah'[q]? =some O∧γ'[q]? =some g∧sig m ah.length q=i∧b=fL (sig m ah.length) O:=fun{i b g} hb p=>by
  unfold eR at hb;rcases Nat.lt_or_ge i ah.length with h|h
  ·rw[List.getElem?_append_left (by rw[qi];exact h)]at hb;rw[List.getElem?_append_left (by rw[d.len];exact h)]at p;rcases BQ hn hb with⟨c,f⟩|⟨q,c,f⟩
   ·refine .inl ⟨.inl fun hm=>?_,c,p⟩;obtain⟨q,l,n⟩:=f hm;rw[z7 a3 T]at n;have:=(List.getElem?_eq_some_iff.1 l).1;omega
   ·rcases zZ c f with⟨l,n⟩|⟨O,l,n⟩
    ·refine .inl ⟨.inr ⟨q,c,l⟩,?_,p⟩;rw[n,List.getElem?_eq_getElem h];rfl
    refine .inr ⟨q,O,l,?_,wC c,n⟩;have U:=(List.getElem?_eq_some_iff.1 l).1;have h5:γ'[q]? =some (γ'[q]'(by rw[t.len];exact U)):=List.getElem?_eq_getElem _;have h6:=W q _ h5;rw[wC c,List.getElem?_append_left (by rw[d.len];exact h)]at h6;rw[h5];rw[p]at h6;exact h6.symm
  ·rw[List.getElem?_append_right (by rw[qi];exact h),qi,List.getElem?_map,List.getElem?_drop]at hb;rw[List.getElem?_append_right (by rw[d.len];exact h),List.getElem?_drop,d.len]at p;obtain⟨O,l,n⟩:=Option.map_eq_some_iff.1 hb;exact .inr ⟨m.length+(i-ah.length),O,l,p,by rw[BV (by omega)];omega,n.symm⟩
 have J:∀k,F k∨E.B k→H'[k]? =H[k]? :=fun k a=>by
  refine t.cM k ?_ (fun R=>?_)
  ·exact a.elim (d.fb k) (fun h=>Nat.lt_of_lt_of_le (d.bb k h).1 d.size)
  ·obtain⟨j,x,y,_,f,l,n⟩:=w k R;have:=d.nf j x y k f l n;exact a.elim this.1 this.2
 have ex : Ext F H ⟨E.B, γ⟩ F' H' ⟨E.B, γ ++ γ'.drop m.length⟩ := ⟨t.fmono,fun b o u hb hc=>tT (J b hb) hc,fun _ h=>h,fun j v Q=>by
  rw[List.getElem?_append_left (List.getElem?_eq_some_iff.1 Q).1];exact Q⟩
 have Y:∀{i b g},Kept i→ah[i]? =some b→γ[i]? =some g→∀k∈aB b g,¬owned ((bK m).map (bS γ)) tah k∧H'[k]? =H[k]? :=fun{i b g} hi hb p k a=>by
  have aL:¬owned ((bK m).map (bS γ)) tah k:=fun R=>by
   obtain⟨j,x,y,c,f,l,n⟩:=w k R;exact d.disj _ _ _ _ _ _ (fun e=>c (by rw[←e];exact hi)) hb p f l k a n
  exact⟨aL,t.cM k (fJ (d.br _ _ _ hb p) k a) aL⟩
 have N:∀{q b g k},ah'[q]? =some b→γ'[q]? =some g→k∈aB b g→(∃j x y,¬Kept j∧ah[j]? =some x∧γ[j]? =some y∧k∈aB x y)∨H.size≤k:=fun hb p a=>by
  rcases t.onew _ _ _ _ hb p a with h|h
  ·exact .inl (w _ h)
  ·exact .inr h
 refine⟨⟨?_,fun i b g hb p=>?_,fun i i' b O g g' ap hb p ac ad k a I=>?_,fun i b g k hb p a=>?_,t.fb,d.bb,Nat.le_trans d.size t.size,fun k a R=>?_,fun k a=>t.fmono k (d.fmono k a),fun k a=>?_,fun i b g k hb p a=>?_,fun j v Q=>ex.g j v (d.pre j v Q)⟩,ex,W,fun a2=>⟨t.size,fun k a _=>t.cM k a (fun R=>?_)⟩,fun k a=>a.elim (fun h=>J k (.inl h)) fun h=>h.elim (fun h=>J k (.inr h)) fun⟨j,x,y,c,f,l,n⟩=>(Y (.inl c) f l k n).2⟩
 ·unfold eR;simp[qi,d.len,t.len]
 ·rcases get hb p with⟨c,f,l⟩|⟨q,O,c,f,l,rfl⟩
  ·exact BR.ext ex (fun k a=>(Y c f l k a).2) (d.br _ _ _ f l)
  ·exact IW W (t.br _ _ _ c f) (List.all_eq_true.1 a0 _ (List.mem_of_getElem? c))
 ·rcases get hb p with⟨c,f,l⟩|⟨q,b1,c,f,l,rfl⟩
  ·rcases get ac ad with⟨s,z,D⟩|⟨q',aV,s,z,D,rfl⟩
   ·exact d.disj _ _ _ _ _ _ ap f l z D k a I
   ·rw[p8]at I;have n:=fJ (d.br _ _ _ f l) k a;rcases N s z I with⟨j,x,y,Z,K,P,M⟩|h
    ·exact d.disj _ _ _ _ _ _ (fun e=>Z (by rw[←e];exact c)) f l K P k a M
    ·omega
  ·rw[p8]at a;rcases get ac ad with⟨s,z,D⟩|⟨q',aV,s,z,D,rfl⟩
   ·have n:=fJ (d.br _ _ _ z D) k I;rcases N c f a with⟨j,x,y,Z,K,P,M⟩|h
    ·exact d.disj _ _ _ _ _ _ (fun e=>Z (by rw[←e];exact s)) z D K P k I M
    ·omega
   ·rw[p8]at I;exact t.disj _ _ _ _ _ _ (fun e=>ap (by rw[←l,←D,e])) c f s z k a I
 ·rcases get hb p with⟨c,f,l⟩|⟨q,O,c,f,l,rfl⟩
  ·have n:=d.nf _ _ _ k f l a;refine⟨fun hf=>?_,n.2⟩;rcases t.fnew k hf with h|h|h
   ·exact n.1 h
   ·exact(Y c f l k a).1 h
   ·have:k<H.size:=fJ (d.br _ _ _ f l) k a;have:H.size≤k:=h;omega
  ·rw[p8]at a;have n:=t.nf _ _ _ k c f a;exact⟨n.1,fun h=>n.2 (.inl h)⟩
 ·have c:k<H.size:=Nat.lt_of_lt_of_le a d.size;rw[t.cM k c (fun h=>?_)]
  ·exact d.cM k a R
  ·obtain⟨j,x,y,_,K,P,M⟩:=w k h;rcases d.onew _ _ _ k K P M with h5|h5
   ·exact R h5
   ·omega
 ·rcases t.fnew k a with h|h|h
  ·exact d.fnew k h
  ·obtain⟨j,x,y,_,K,P,M⟩:=w k h;exact .inr (d.onew _ _ _ k K P M)
  ·exact .inr (.inr (Nat.le_trans d.size h))
 ·rcases get hb p with⟨c,f,l⟩|⟨q,O,c,f,l,rfl⟩
  ·exact d.onew _ _ _ k f l a
  ·rw[p8]at a;rcases N c f a with⟨j,x,y,Z,K,P,M⟩|h
   ·exact d.onew _ _ _ k K P M
   ·exact .inr (Nat.le_trans d.size h)
 ·subst a2;obtain⟨j,_,_,h,_⟩:=w k R;exact h (.inl (by simp))
end
end Go.AM
end
section
namespace Go.AM
open Go Go.NB
structure dO:Type 1 where
 P:Program
 tab:Nat→Option TD
 n:Nat
 n0:Nat
 d:Bool
structure j8 where
 E:En
 ds:List Deferred
 W0:World
def bg:List Nat→List B→List B
 |[],ah=>ah
 | j :: r, ah => bg r (match ah[j]? with
  |some (.row b α a l)=>ah.set j (.aV b α a l)
  |_=>ah)
theorem px{E:En}{γ:List Value}{H:af}:∀{js:List Nat} {F:Nat→Prop} {ah:List B},WR E F γ ah H→∃F',(∀k,F k→F' k)∧WR E F' γ (bg js ah) H
 |[],F,ah,h=>⟨F,fun _ h=>h,h⟩
 |j::r,F,ah,h=>by
  unfold bg;split
  ·rename_i n α b l g;obtain⟨m,c,d,_⟩:=h.freeze g;obtain⟨a,e,f⟩:=px d;exact⟨a,fun k i=>e k (c k i),f⟩
  ·exact px h
def gu(c:dO)(r:j8)(F:Nat→Prop)(γ:List Value)(s:St)(x:A)(v:Value)(a:Act)(w:World):Prop:=
 a.tmps.size=c.n∧a.defers=r.ds∧eW c.d r.W0 w∧WR r.E F γ s.ah w.heap∧ER F w.heap ⟨r.E.B,γ⟩ s.env a∧RA F w.heap ⟨r.E.B,γ⟩ x v
def SR(c:dO)(r:j8)(s:St)(x:A)(v:Value)(a:Act)(w:World):Prop:=∃F γ,gu c r F γ s x v a w
inductive G where
 |any
 |grow
 |fe (pl:List Nat)
def u9:Option B→Bool
 |some (.box _ _)=>true
 |_=>false
def rI(pl:List Nat)(j:Nat):Bool:=pl.any (Nat.beq j)
def G.mem(g:G)(a:Op)(s:St):Bool:=match a with
 | .load _ x=>match g with
  | .fe b=>match aU s x with
   | .c (.ptr j _)=>rI b j
   | .c (.bp _)=>true
   |_=>false
  |_=>true
 | .convert .. =>match g with
  | .fe _=>false
  |_=>true
 |_=>true
def G.call:G→List Nat→Bool
 | .any,_=>true
 | .grow,m=>m.isEmpty
 | .fe a,m=>m.all fun j=> !rI a j
def G.act:G→Bool→Bool
 | .any,_=>true
 | .grow,b=>b
 | .fe a,b=>b||a.isEmpty
def G.qI (g : G) (s : St) (a : Op) : Bool := g.act (lj s a) || (match g with
 | .fe _=>apps a
 |_=>false)
def G.still:G→List B→Bool
 | .fe a,ah=>a.all fun j=>u9 ah[j]?
 |_,_=>true
def G.strict:G→Bool
 | .any=>false
 |_=>true
def gp(g:G)(E:En)(F:Nat→Prop)(γ:List Value)(ah:List B)(H:af)(k:Nat):Prop:=match g with
 | .fe c=>F k∨E.B k∨∃j a b v,rI c j=true∧ah[j]? =some (.box a b)∧γ[j]? =some v∧k∈aB (.box a b) v
 |_=>k<H.size
theorem CH{g:G}{E:En}{F:Nat→Prop}{γ:List Value}{ah:List B}{H:af}{k:Nat}(a:WR E F γ ah H)(h:gp g E F γ ah H k):k<H.size:=by
 cases g with
 |fe f=>
  rcases h with h|h|⟨j,e,i,v,_,b,c,d⟩
  ·exact a.fb k h
  ·exact Nat.lt_of_lt_of_le (a.bb k h).1 a.size
  ·exact fJ (a.br _ _ _ b c) k d
 |_=>exact h
theorem HY{cs cs':List C}{t t':Option Nat}{v:Value}{k:Nat}(h:k∈aB (.box cs t) v):k∈aB (.box cs' t') v:=by
 cases v with
 |pointer p=>cases p<;>exact h
 |_=>exact h
theorem ti{g:G}{E:En}{F F':Nat→Prop}{γ γ':List Value}{ah ah':List B}{H H':af}{k:Nat}(r:H.size≤H'.size)(p:∀k,F k→F' k)(f:∀(j:Nat) (v:Value),γ[j]? =some v→γ'[j]? =some v)
  (d:g.still ah'=true)(h:gp g E F γ ah H k):gp g E F' γ' ah' H' k:=by
 cases g with
 |fe u=>
  rcases h with h|h|⟨j,s,w,v,m,t,n,o⟩
  ·exact .inl (p k h)
  ·exact .inr (.inl h)
  ·have c:u9 ah'[j]? =true:=by
    have a:=m;unfold rI at a;rw[List.any_eq_true]at a;obtain⟨i,q,e⟩:=a;obtain rfl:=Nat.eq_of_beq_eq_true e;exact List.all_eq_true.1 d j q
   unfold u9 at c;split at c
   ·rename_i b l e;exact .inr (.inr ⟨j,b,l,v,m,e,f _ _ n,HY o⟩)
   ·cases c
 |_=>exact Nat.lt_of_lt_of_le h r
theorem KV{P:Program}{tab:Nat→Option TD}{E:En}{F:Nat→Prop}{γ:List Value}{s:St}{a:Act}{w:World}{o:Oper}{k:A→Prop}{pl:List Nat}(n:bB P tab)(m:ER F w.heap ⟨E.B,γ⟩ s.env a)(y:WR E F γ s.ah w.heap){t:Nat}{x:Operand}(ho:o.op= .load t x)(h:Y1 tab s (.load t x) k)
  (hm:(G.fe pl).mem (.load t x) s=true):∃b,gp (.fe pl) E F γ s.ah w.heap b∧xa P F ⟨E.B,γ⟩ a w o k b:=by
 simp only[Y1]at h;simp only[G.mem]at hm;split at h
 ·rename_i d q;split at h
  ·rename_i j f c;rw[c]at hm;have c:=a8 m c;split at h
   ·rename_i l H hb;generalize g:a.eval x=v at c;cases c with
    |ptr p _=>
     obtain⟨I,K,e,r,u⟩:=qU (o:=f) (y.br j _ _ hb p);cases e;exact⟨_,.inr (.inr ⟨j,l,H,_,hm,hb,p,by simp[aB]⟩),wi n q ho r u g h⟩
   ·exact h.elim
  ·rename_i l c;have c:=a8 m c;generalize g:a.eval x=v at c;cases c with
   |bp hb D z _=>exact⟨_,hb.imp id .inl,wi n q ho (D.ext ⟨fun _ h=>h,fun _ _ _ _ h=>h,fun _ h=>h,fun j v h=>by cases h⟩) z g h⟩
  ·rename_i J j i f c;rw[c]at hm;cases hm
  ·exact h.elim
 ·exact h.elim
def j9(g:G)(H H':af)(k:Nat):Prop:=match g with
 | .fe _=>∀o u,cell H k o=some u→cell H' k o=some u
 |_=>H'[k]? =H[k]?
theorem j9.of{g:G}{H H':af}{k:Nat}(h:H'[k]? =H[k]?):j9 g H H' k:=by
 cases g with
 |fe b=>exact fun o u a=>tT h a
 |_=>exact h
theorem j9.trans{g:G}{H H' a:af}{k:Nat}(h:j9 g H H' k)(h2:j9 g H' a k):j9 g H a k:=by
 cases g with
 |fe c=>exact fun o u b=>h2 o u (h o u b)
 |_=>exact Eq.trans h2 h
def Nx(g:G)(c:dO)(r:j8)(k:St→Prop)(F:Nat→Prop)(γ:List Value)(ah:List B)(w:World)(b:Act)(w':World):Prop:=
 ∃F' γ' a,k a∧gu c r F' γ' a .undef undef b w'∧(g.strict=true→∀q,gp g r.E F γ ah w.heap q→j9 g w.heap w'.heap q∧gp g r.E F' γ' a.ah w'.heap q)
inductive XE:Type 1 where
 |normal
 |exit (id:Nat)
 |ret
 |dm (v:A)
def Qk(c:dO)(r:j8)(K:XE→St→Prop):Exit→Act→World→Prop
 | .normal,a,w=>∃s,K .normal s∧SR c r s .undef undef a w
 | .exit id,a,w=>∃s,K (.exit id) s∧SR c r s .undef undef a w
 | .ret,a,w=>∃s,K .ret s∧SR c r s .undef undef a w
 | .panic b,a,w=>∃v x s,b=[{v:=v,recovered:=false}]∧K (.dm x) s∧SR c r s x v a w
 |_,_,_=>False
def lits:List Nat:=[0,1,2,3,4,5,6,7,8,9,10,11,12,13,14,15,16,17,18,19,20,21,22,23,24,25,26,27,28,29,30,31,32,33,34,35,36,37,38,39,40]
def jH:List Nat→Nat→(Nat→Prop)→Prop
 |[],n,k=>k n
 |i::r,n,k=>bif Nat.beq n i then k i else jH r n k
theorem na{k:Nat→Prop}:∀{l:List Nat} {n:Nat},jH l n k→k n
 |[],_,h=>h
 |i::r,n,h=>by
  unfold jH at h;rcases jz h with⟨e,h⟩|⟨_,h⟩
  ·rw[Nat.eq_of_beq_eq_true e];exact h
  ·exact na h
def uJ(x:C)(k:C→Prop):Prop:=match x with
 | .int q n=>k (.int q n)
 | .bool b=>k (.bool b)
 | .str l=>k (.str l)
 | .raw v=>k (.raw v)
 | .nil=>k .nil
 | .ls c α a l=>k (.ls c α a l)
 | .bs c α a l=>k (.bs c α a l)
 | .rw j=>jH lits j fun j=>k (.rw j)
 | .sw c j h n=>jH lits j fun j=>k (.sw c j h n)
 | .ptr j o=>jH lits j fun j=>jH lits o fun o=>k (.ptr j o)
 | .ep c j i o=>jH lits j fun j=>jH lits o fun o=>k (.ep c j i o)
 | .bp e=>k (.bp e)
 | .fn f d=>k (.fn f d)
 | .iface t g e=>k (.iface t g e)
theorem zb{x:C}{k:C→Prop}(h:uJ x k):k x:=by
 cases x with
 |rw j=>exact na (k:=fun j=>k (.rw j)) h
 |sw a j b n=>exact na (k:=fun j=>k (.sw a j b n)) h
 |ptr j o=>exact na (k:=fun o=>k (.ptr j o)) (na (k:=fun j=>jH lits o fun o=>k (.ptr j o)) h)
 |ep a j i o=>exact na (k:=fun o=>k (.ep a j i o)) (na (k:=fun j=>jH lits o fun o=>k (.ep a j i o)) h)
 |_=>exact h
def n3:List C→(List C→Prop)→Prop
 |[],k=>k []
 |x::r,k=>uJ x fun x=>n3 r fun r=>k (x::r)
theorem rj:∀{l:List C} {k:List C→Prop},n3 l k→k l
 |[],_,h=>h
 |x::r,k,h=>rj (k:=fun r=>k (x::r)) (zb (k:=fun x=>n3 r fun r=>k (x::r)) h)
def rk:List (Bool×List C)→(List (Bool×List C)→Prop)→Prop
 |[],k=>k []
 |(g,a)::r,k=>n3 a fun a=>rk r fun r=>k ((g,a)::r)
theorem zc:∀{l:List (Bool×List C)} {k:List (Bool×List C)→Prop},rk l k→k l
 |[],_,h=>h
 |(g,a)::r,k,h=>zc (k:=fun r=>k ((g,a)::r)) (rj (k:=fun a=>rk r fun r=>k ((g,a)::r)) h)
def uI(x:A)(k:A→Prop):Prop:=match x with
 | .undef=>k .undef
 | .off=>k .off
 | .c x=>uJ x fun x=>k (.c x)
 | .st a=>n3 a fun a=>k (.st a)
 | .aL b=>rk b fun b=>k (.aL b)
theorem za{x:A}{k:A→Prop}(h:uI x k):k x:=by
 cases x with
 |c x=>exact zb (k:=fun x=>k (.c x)) h
 |st a=>exact rj (k:=fun a=>k (.st a)) h
 |aL b=>exact zc (k:=fun b=>k (.aL b)) h
 |_=>exact h
def je:List B→(List B→Prop)→Prop
 |[],k=>k []
 | .box c t::r,k=>n3 c fun c=>je r fun r=>k (.box c t::r)
 | .row b α a l::r,k=>je r fun r=>k (.row b α a l::r)
 | .aV b α a l::r,k=>je r fun r=>k (.aV b α a l::r)
 | .buf t b α a l::r,k=>je r fun r=>k (.buf t b α a l::r)
 | .dead::r,k=>je r fun r=>k (.dead::r)
theorem l5:∀{l:List B} {k:List B→Prop},je l k→k l
 |[],_,h=>h
 | .box c t::r,k,h=>l5 (k:=fun r=>k (.box c t::r)) (rj (k:=fun c=>je r fun r=>k (.box c t::r)) h)
 | .row b α a l::r,k,h=>l5 (k:=fun r=>k (.row b α a l::r)) h
 | .aV b α a l::r,k,h=>l5 (k:=fun r=>k (.aV b α a l::r)) h
 | .buf t b α a l::r,k,h=>l5 (k:=fun r=>k (.buf t b α a l::r)) h
 | .dead::r,k,h=>l5 (k:=fun r=>k (.dead::r)) h
def iS(n:Nat)(s:St)(d:Option Nat)(x:A)(k:St→Prop):Prop:=match d with
 |none=>k s
 |some d=>bif Nat.blt d n then uI x fun x=>match s with
  |⟨e,ah⟩=>k ⟨(d,x)::e,ah⟩else False
def u7(tab:Nat→Option TD)(s:St):Op→Bool
 | .alloc _| .box .. | .buildSlice .. | .makeSlice .. | .store .. =>true
 | .convert _ u x=>match aU s x,tab u with
  | .c (.str _),some d=>(match d.kind with| .sl _=>true|_=>false)
  | .c (.rw _),some d=>(match d.kind with| .sl _=>true|_=>false)
  |_,_=>false
 | .call c=>(match c.callee with| .builtin .append=>true| .builtin .clear=>true|_=>false)
 |_=>false
def iK(m:List Nat)(tah:List B)(j:Nat):Bool:= !((da (bK m) tah).any (Nat.beq j))
def kR(ah:List B)(m:List Nat)(args a:List A)(tah:List B):Prop:=
 bif eS m&&m.all (fun j=>Nat.blt j ah.length)&&eS (da (bK m) tah)then mi (iK m tah) ah (bK m) args a∧lC (iK m tah) ah (bK m) (bK m) tah else False
def gy{α β:Type 1}(k:α→β→Prop)(x:α)(y:β):Prop:=k x y
def YC(c:dO)(g:G)(s:St)(h:Operand)(as:List Operand)(k:List B→A→Prop)(i:A→St→Prop):Prop:=
 match aU s h with
 | .c (.fn f d)=>∃(e m:List Nat) (b:List A) (tah:List B) (Q:Out→List B→Prop),bU c.d c.P f b tah Q∧kR (bg e s.ah) m (as.map (aU s)++d.map .c) b tah∧g.call m=true∧
   ∀out ah',Q out ah'→match out with
    | .ret a=>gy k (eR m tah (bg e s.ah) ah') (eU (sig m (bg e s.ah).length) a)
    | .dm a=>gy i (eU (sig m (bg e s.ah).length) a) ⟨s.env,eR m tah (bg e s.ah) ah'⟩
 |_=>False
def Xo(c:dO)(g:G)(o:Oper)(s:St)(k:St→Prop)(a:A→St→Prop):Prop:=
 match o.op with
 | .panic x=>match aU s x with
  | .c (.iface t ag b)=>a (.c (.iface t ag b)) s
  |_=>False
 | .call ⟨.value d,as,_⟩=>YC c g s d as.toList (fun ah x=>je ah fun ah=>bif g.still ah then iS c.n ⟨s.env,ah⟩ o.dst x k else False) a
 |op=>bif u7 c.tab s op then(bif g.qI s op then Y2 c.tab s op fun ah x=>je ah fun ah=>bif g.still ah then iS c.n ⟨s.env,ah⟩ o.dst x k else False else False)
   else bif g.mem op s then Y1 c.tab s op fun x=>iS c.n s o.dst x k else False
section
variable {c:dO} {r:j8} {s:St} {a:Act} {w:World} {o:Oper}
theorem ER.put{F:Nat→Prop}{H:af}{m:Md}{env:List (Nat×A)}(h:ER F H m env a){d:Nat}(hd:d<a.tmps.size){x:A}{v:Value}(f:RA F H m x v):ER F H m ((d,x)::env) (a.put (some d) v):=by
 intro t y b;unfold lk at b;by_cases hb:Nat.beq d t=true
 ·rw[hb]at b;cases b;obtain rfl:=Nat.eq_of_beq_eq_true hb;simpa[Act.put,Array.getD,hd]using f
 ·rw[Bool.not_eq_true]at hb;rw[hb]at b;have c:d≠t:=fun e=>by subst e;simp at hb
  have:=h t y b;simpa[Act.put,Array.getD_eq_getD_getElem?,c]using this
theorem ER.ext{F F':Nat→Prop}{H H':af}{m m':Md}{env:List (Nat×A)}(h:ER F H m env a)(e:Ext F H m F' H' m'):ER F' H' m' env a:=fun t x b=>(h t x b).ext e
theorem nt{F:Nat→Prop}{γ:List Value}{s:St}{x:A}{v:Value}{k:St→Prop}{d:Option Nat}(hk:iS c.n s d x k)(hn:a.tmps.size=c.n)(b:a.defers=r.ds)(g:eW c.d r.W0 w)(i:WR r.E F γ s.ah w.heap)(h:ER F w.heap ⟨r.E.B,γ⟩ s.env a)(l:RA F w.heap ⟨r.E.B,γ⟩ x v):
  ∃f,k f∧f.ah=s.ah∧gu c r F γ f .undef undef (a.put d v) w:=by
 unfold iS at hk;split at hk
 ·exact⟨s,hk,rfl,by simpa[Act.put]using hn,by simpa[Act.put]using b,g,i,by simpa[Act.put]using h,trivial⟩
 ·rename_i d;obtain⟨j,hk⟩:=b8 hk;have e:d<a.tmps.size:=by rw[hn];exact Nat.le_of_ble_eq_true j
  exact⟨_,za hk,rfl,by simp[Act.put,hn],by simp[Act.put,b],g,i,h.put e l,trivial⟩
theorem IJ{g:G}{F:Nat→Prop}{γ:List Value}{s:St}{x:A}{v:Value}{k:St→Prop}{d:Option Nat}(hk:iS c.n s d x k)(hn:a.tmps.size=c.n)(b:a.defers=r.ds)(i:eW c.d r.W0 w)(l:WR r.E F γ s.ah w.heap)(j:ER F w.heap ⟨r.E.B,γ⟩ s.env a)(n:RA F w.heap ⟨r.E.B,γ⟩ x v):
  Nx g c r k F γ s.ah w (a.put d v) w:=by
 obtain⟨o,e,f,h⟩:=nt hk hn b i l j n;exact⟨F,γ,o,e,h,fun _ q m=>⟨.of rfl,by rw[f];exact m⟩⟩
theorem zf{j:Nat}{cs:List C}{ty:Option Nat}:∀{js:List Nat} {ah:List B},ah[j]? =some (.box cs ty)→(bg js ah)[j]? =some (.box cs ty)
 |[],_,h=>h
 |i::r,ah,h=>by
  unfold bg;refine zf (js:=r) ?_;split
  ·rename_i e;rw[List.getElem?_set];split
   ·rename_i a;subst a;rw[h]at e;cases e
   ·exact h
  ·exact h
theorem AB{f:C→C→Prop}{F:Nat→Prop}{H:af}{m m':Md}(i:∀b c v,f b c→RL F H m [b] [v]→RL F H m' [c] [v]):∀{a ts:List (Bool×List C)} {vs:List Value},mT f a ts→RT F H m a vs→RT F H m' ts vs
 |[],[],[],_,_=>trivial
 |(s,j)::a,(g,r)::ts,v::vs,⟨⟨e,d⟩,k⟩,⟨⟨q,l,n,o⟩,p⟩=>⟨⟨q,nJ i d l,by rw[←e];exact n,fun h=>by rw[←xi d];exact o (e.trans h)⟩,AB i k p⟩
theorem vE{E:En}{F:Nat→Prop}{γ:List Value}{ah:List B}{H:af}{B':Nat→Prop}{fr:Nat→Bool}{ρ:List Rn}(n:WR E F γ ah H)(m:∀k,E.B k→B' k)(f:∀j b g,fr j=true→ah[j]? =some b→γ[j]? =some g→∀k∈aB b g,B' k)
  {a x:A}{v:Value}(h:mA fr ah ρ a x)(hr:RA F H ⟨E.B,γ⟩ a v):RA F H ⟨B',ρ.map (bS γ)⟩ x v:=by
 have e:∀d c v,mC fr ah 5 ρ d c→RL F H ⟨E.B,γ⟩ [d] [v]→RL F H ⟨B',ρ.map (bS γ)⟩ [c] [v]:=fun d c v h hr=>vG n m f 5 h hr;cases x with
 |undef=>trivial
 |off=>cases a<;>first|exact h.elim|exact hr
 |c y=>cases a<;>first|exact h.elim|exact e _ _ _ h hr
 |st p=>
  cases a with
  |st l=>obtain⟨i,rfl,hr⟩:=hr;exact⟨i,rfl,nJ e h hr⟩
  |_=>exact h.elim
 |aL q=>
  cases a with
  |aL o=>obtain⟨i,rfl,hr⟩:=hr;exact⟨i,rfl,AB e h hr⟩
  |_=>exact h.elim
theorem vF{E:En}{F:Nat→Prop}{γ:List Value}{ah:List B}{H:af}{B':Nat→Prop}{fr:Nat→Bool}{ρ:List Rn}(e:WR E F γ ah H)(d:∀k,E.B k→B' k)(c:∀j b g,fr j=true→ah[j]? =some b→γ[j]? =some g→∀k∈aB b g,B' k):
  ∀{a xs:List A} {vs:List Value},mi fr ah ρ a xs→eA F H ⟨E.B,γ⟩ a vs→eA F H ⟨B',ρ.map (bS γ)⟩ xs vs
 |[],[],[],_,_=>trivial
 |x0::a,x::xs,v::vs,⟨f,h⟩,⟨i,l⟩=>⟨vE e d c f i,vF e d c h l⟩
theorem eA.ext{F F':Nat→Prop}{H H':af}{m m':Md}(e:Ext F H m F' H' m'):∀{as:List A} {vs:List Value},eA F H m as vs→eA F' H' m' as vs
 |[],[],_=>trivial
 |_::_,_::_,⟨a,b⟩=>⟨a.ext e,eA.ext e b⟩
theorem xv{F:Nat→Prop}{H:af}{m:Md}(b:ER F H m s.env a){caps:List C}{us:List Value}(hc:RL F H m caps us):∀(as:List Operand),eA F H m (as.map (aU s)++caps.map .c) (as.map a.eval++us)
 |[]=>by
  have:∀{caps:List C} {us:List Value},RL F H m caps us→eA F H m (caps.map .c) us:=fun{caps}=>by
   induction caps with
   |nil=>intro us h;cases h;trivial
   |cons c f ih=>
    intro us h;obtain⟨v,g,rfl,d,e⟩:=h.jZ;exact⟨d,ih e⟩
  exact this hc
 |x::as=>⟨mn b x,xv b hc as⟩
theorem ze{m:List Nat}{tah:List B}(j:Nat)(h:iK m tah j=true):j∉da (bK m) tah:=fun a=>by
 unfold iK at h;rw[Bool.not_eq_true',List.any_eq_false]at h;exact h j a (Nat.beq_refl j)
theorem CP{g:G}{F:Nat→Prop}{γ:List Value}{fx:Operand}{as:List Operand}{bl:Array TypeId}{k:St→Prop}{K:XE→St→Prop}{Q:Exit→Act→World→Prop}(ho:o.op= .call ⟨.value fx,as.toArray,bl⟩)
  (h:YC c g s fx as (fun ah x=>je ah fun ah=>bif g.still ah then iS c.n ⟨s.env,ah⟩ o.dst x k else False) (fun v s=>K (.dm v) s))(hs:gu c r F γ s .undef undef a w)(hQ:∀ch a w,Qk c r K (.panic ch) a w→Q (.panic ch) a w):
  o.wp c.P a w (fun a' w'=>Nx g c r k F γ s.ah w a' w') Q:=by
 obtain⟨hn,T,hA,hW,hE,_⟩:=hs;unfold YC at h;split at h
 ·rename_i f R a2;obtain⟨O,m,bk,tah,QQ,N,p,hg,H⟩:=h;have hc:=a8 hE a2;generalize a1:a.eval fx=fv at hc;cases hc with
  | @fn _ _ _ us _ _ M _=>
   obtain⟨P,D,l⟩:=px (js:=O) hW;have e1:Ext F w.heap ⟨r.E.B,γ⟩ P w.heap ⟨r.E.B,γ⟩:=l6 D;obtain⟨E,a5,Y⟩:=b8 p;simp only[Bool.and_eq_true,List.all_eq_true]at E;obtain⟨⟨a9,a4⟩,bb⟩:=E;have W:∀j∈m,j<(bg O s.ah).length:=fun j hj=>Nat.le_of_ble_eq_true (a4 j hj);have d:=core l Y bb ze;have J:=vF (B':=kD r.E γ (bg O s.ah) (iK m tah)) l (fun _ h=>.inl h) (fun j b g t y z k H=>.inr ⟨j,b,g,y,z,t,H⟩) a5 ((xv hE M as).ext e1)
   have ap:WR (en P (kD r.E γ (bg O s.ah) (iK m tah)) ((bK m).map (bS γ)) tah w.heap) P ((bK m).map (bS γ)) tah w.heap:=by
    refine⟨d.len,d.br,d.disj,fun j b g k t y z=>(d.nf j b g k t y z).1,l.fb,fun k H=>⟨?_,fun⟨j,b,g,t,y,z⟩=>(d.nf j b g k t y z).1.2 H⟩,Nat.le_refl _,fun _ _ _=>rfl,fun _ h=>h,fun _ h=>.inl h,fun j b g k t y z=>.inl ⟨j,b,g,t,y,z⟩,fun _ _ h=>h⟩;rcases H with H|⟨j,b,g,t,y,_,z⟩
    ·exact Nat.lt_of_lt_of_le (l.bb k H).1 l.size
    ·exact fJ (l.br _ _ _ t y) k z
   have i:=N P _ _ w.heap _ J ap w rfl;have he:=uy (a:=a) (first:=[]) (caps:=us) (vs:=as.map a.eval) ho a1 rfl;rw[List.nil_append]at he;unfold Oper.wp;rw[he]
   have fin:∀(ok:Bool) (v:Value) (w':World),eW c.d w w'→oW P (kD r.E γ (bg O s.ah) (iK m tah)) ((bK m).map (bS γ)) tah w.heap QQ ok v w'.heap→
     (ok=true→Nx g c r k F γ s.ah w (a.put o.dst v) w')∧(ok=false→Q (.panic [{v:=v,recovered:=false}]) a w'):=by
    intro ok v w' n ⟨out,ah',F',γ',hq,aL,aV,p,be,S⟩;obtain⟨m1,m2,m3,m4,m5⟩:=merge l Y (sj a9) W d S aV;have U:=H out ah' hq;have e2:Ext F w.heap ⟨r.E.B,γ⟩ F' w'.heap ⟨r.E.B,γ++γ'.drop m.length⟩:=⟨fun q hq=>m2.f q (D q hq),fun b o u hb a0=>m2.h b o u (hb.imp (D b) id) a0,m2.b,m2.g⟩;have I:RA F' w'.heap ⟨r.E.B,γ++γ'.drop m.length⟩ (eU (sig m (bg O s.ah).length) out.a) v:=By m3 be aL;refine⟨fun ac=>?_,fun Z=>?_⟩
    ·cases out with
     |dm a=>rw[ac]at p;cases p
     |ret x=>
      obtain⟨bi,a3⟩:=b8 (l5 U);obtain⟨s',q1,q2,q3⟩:=nt (s:=⟨s.env,_⟩) a3 hn T (hA.trans n) m1 (hE.ext e2) I;have bj:w.heap.size≤w'.heap.size:=S.size;refine⟨F',_,s',q1,q3,fun ad q hq=>⟨?_,by rw[q2];exact ti bj e2.f e2.g bi hq⟩⟩;cases g with
      |any=>cases ad
      |grow=>exact(m4 (List.isEmpty_iff.1 hg)).2 q hq (by simp)
      |fe pl=>
       refine j9.of (m5 q ?_);rcases hq with hq|hq|⟨j,cs,ty,v,g1,g2,g3,g4⟩
       ·exact .inl (D q hq)
       ·exact .inr (.inl hq)
       ·refine .inr (.inr ⟨j,_,v,fun hj=>?_,zf g2,g3,g4⟩);have:=List.all_eq_true.1 hg j hj;rw[g1]at this;cases this
    ·cases out with
     |ret x=>rw[Z]at p;cases p
     |dm x=>exact hQ _ _ _ ⟨v,_,_,rfl,U,F',_,hn,T,hA.trans n,m1,hE.ext e2,I⟩
   unfold oZ at i;split at i
   ·rename_i v w' hr;obtain⟨rfl,hb⟩:=i;rw[hr];exact(fin true v _ (eW.refl _) hb).1 rfl
   ·rename_i f' am w' hr;obtain⟨rfl,hb⟩:=i;rw[hr];refine hb.mono fun e al he=>?_;rcases he with⟨v,rfl,hb,n⟩|⟨v,rfl,hb,n⟩
    ·exact(fin true v al n hb).1 rfl
    ·exact(fin false v al n hb).2 rfl
   ·exact i.elim
 ·exact h.elim
theorem w9(hT:bB c.P c.tab){g:G}{F:Nat→Prop}{γ:List Value}{k:St→Prop}{K:XE→St→Prop}{Q:Exit→Act→World→Prop}(h:Xo c g o s k (fun v s=>K (.dm v) s))(M:gu c r F γ s .undef undef a w)(hQ:∀ch a w,Qk c r K (.panic ch) a w→Q (.panic ch) a w):
  o.wp c.P a w (fun y w'=>Nx g c r k F γ s.ah w y w') Q:=by
 have i:Y1 c.tab s o.op (fun x=>iS c.n s o.dst x k)→o.wp c.P a w (fun y w'=>Nx g c r k F γ s.ah w y w') Q:=fun h=>by
  obtain⟨E,e,z,m,l,_⟩:=M;obtain⟨v,x,T,J,d⟩:=qH hT l m h;unfold Oper.wp;rw[d w (.inr (aq.refl _ _))];exact IJ T E e z m l J
 have f:g.qI s o.op=true→Y2 c.tab s o.op (fun ah x=>je ah fun ah=>bif g.still ah then iS c.n ⟨s.env,ah⟩ o.dst x k else False)→o.wp c.P a w (fun y w'=>Nx g c r k F γ s.ah w y w') Q:=fun hgr h=>by
  obtain⟨E,e,z,m,l,_⟩:=M;obtain⟨nx,v,w',ah',x,F',γ',⟨Y,d⟩,O,T,b,J,S,n⟩:=CO hT l m h;obtain⟨H,U⟩:=b8 (l5 T);obtain⟨s',q1,q2,q3⟩:=nt (s:=⟨s.env,_⟩) U E e (z.trans (eW.of O)) b.wr (l.ext b.ext) J
  have hp:Nx g c r k F γ s.ah w (a.put o.dst v) w':=by
   refine⟨F',γ',s',q1,q3,fun I q hq=>?_⟩;have W:=CH m hq
   have kp:lj s o.op=true→j9 g w.heap w'.heap q∧gp g r.E F' γ' s'.ah w'.heap q:=fun D=>by
    have hK:=S D;exact⟨.of (hK.2 q W (by simp)),by rw[q2];exact ti hK.1 b.ext.f b.ext.g H hq⟩
   cases g with
   |any=>cases I
   |grow=>exact kp (by simpa[G.qI,G.act]using hgr)
   |fe pl=>
    simp only[G.qI,G.act,Bool.or_eq_true]at hgr;rcases hgr with(hgr|hgr)|hgr
    ·exact kp hgr
    ·obtain rfl:pl=[]:=List.isEmpty_iff.1 hgr;rcases hq with hq|hq|⟨j,N,ty,u,g1,_⟩
     ·exact⟨fun o u p=>b.ext.h q o u (.inl hq) p,.inl (b.ext.f q hq)⟩
     ·exact⟨fun o u p=>b.ext.h q o u (.inr hq) p,.inr (.inl hq)⟩
     ·cases g1
    ·obtain⟨ad,n⟩:=n hgr;refine⟨?_,by rw[q2];exact ti ad b.ext.f b.ext.g H hq⟩;rcases hq with hq|hq|⟨j,N,ty,u,g1,g2,g3,g4⟩
     ·exact fun o u p=>b.ext.h q o u (.inl hq) p
     ·exact fun o u p=>b.ext.h q o u (.inr hq) p
     ·exact .of (n j N ty u g2 g3 q g4)
  unfold Oper.wp;rw[d];rcases Y with rfl|⟨rfl,rfl⟩
  ·exact hp
  ·exact hp
 unfold Xo at h;split at h
 ·rename_i x Z;split at h
  ·rename_i t ag N J;obtain⟨E,e,z,m,l,_⟩:=M;have P:=a8 l J;generalize hv:a.eval x=v at P;have R:=P;cases P with
   | @iface _ _ _ _ us _ _ hr _=>
    have d:(execOp a.eval o).run c.P w= .halt (.panic (.iface t (jf ag us))) w:=by
     unfold execOp;rw[Z];simp[hv,Instr.panic,goPanic]
    unfold Oper.wp;rw[d];exact hQ _ _ _ ⟨_,_,s,rfl,h,F,γ,E,e,z,m,l,R⟩
  ·exact h.elim
 ·rename_i fx as al Z;have ac:o.op= .call ⟨.value fx,as.toList.toArray,al⟩:=by rw[Z]
  exact CP ac h M hQ
 ·rename_i op am ap;rcases jz h with⟨ha,h⟩|⟨ha,h⟩
  ·obtain⟨h1,h⟩:=b8 h;exact f h1 h
  ·exact i (b8 h).2
end
end Go.AM
end
