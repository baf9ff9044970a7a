import Derived.Test.YtpechfcbnoggfaaGreatDoorV25
import Derived.Test.YtpechfcbnoggfaaGreatDoorD23
set_option linter.unusedVariables false
set_option linter.unusedSimpArgs false
open Bool renaming and_eq_true->ad
open Decidable renaming not_not->W
open List renaming mem_singleton->Z,mem_append_left->ac,mem_append->ah,getElem?_append_left->al,any_eq_true->am,prefix_refl->ao,getElem?_eq_getElem->ap,mem_cons->a0,getElem?_set->a1,getElem_mem->a2,length_nil->a3,mem_map->a4
open List.IsPrefix renaming trans->a6
open Nat renaming zero_le->ar,le_refl->a5
section
namespace Go.Nest
open Go Go.AM
set_option maxRecDepth 100000
theorem CC{b:Nat->List Int}{x:Int}:∀(n:Nat) {out:List Int} {i:Nat},x∈out->x∈nC b n out i
 |0,out,i,h=>h
 |n+1,out,i,h=>by
  unfold nC;split
  ·exact CC n (nY.2 (.inl h))
  ·exact h
theorem K1{b:Nat->List Int}{r:Int}:r∈cJ b r:=CC 5 (by simp)
theorem MF{o b:Nat->List Bool}(h:∀k,k<4->∀j:Nat,(o k)[j]? =some true->(b k)[j]? =some true)(q z:Int)(hq:gw o q z=true):gw b q z=true:=by
 have c:bC q=true:=by unfold gw at hq;rw[ad]at hq;exact hq.1
 obtain⟨k,a,rfl⟩:=bW.1 c;rw[tX a]at hq⊢;exact⟨hq.1,h k a _ hq.2⟩
theorem nu{o c:Nat->List Bool}{b:Nat->List Int}(h:∀k,k<4->∀j:Nat,(o k)[j]? =some true->(c k)[j]? =some true){r id:Int}(a:bt ⟨o,b⟩ r id=true):bt ⟨c,b⟩ r id=true:=by
 unfold bt at a⊢;rw[ad,am]at a⊢;obtain⟨d,q,e,f⟩:=a;exact⟨d,q,e,MF h q id f⟩
theorem Py{o:Nat->List Bool}{r:Nat}{x y:List Bool}(h:∀j:Nat,x[j]? =some true->y[j]? =some true):∀k,k<4->∀j:Nat,(aA o r x k)[j]? =some true->(aA o r y k)[j]? =some true:=λk _ j=>by
 rw[gb,gb];split
 ·exact h j
 ·exact id
theorem xw{o:Nat->List Bool}{b:Nat->List Int}{r:Nat}(hr:r<4):∀{l:List Int} {x:List Bool},(∀id∈l,0<=id/\id.toNat<x.length)->
  (∀j:Nat,x[j]? =some true->(l.foldl (cP o b r) x)[j]? =some true)/\∀id∈l,bt ⟨aA o r (l.foldl (cP o b r) x),b⟩ r id=true
 |[],x,_=>⟨λ_ h=>h,λid h=>(by cases h)⟩
 |z::l,x,h=>by
  have g:=h z (by simp);have c:(cP o b r x z).length=x.length:=oz (l:=[z]);obtain⟨i,k⟩:=xw hr (l:=l) (x:=cP o b r x z) (o:=o) (b:=b) (λid hid=>by rw[c];exact h id (by simp[hid]))
  have f:∀j:Nat,x[j]? =some true->(cP o b r x z)[j]? =some true:=λj d=>by
   unfold cP;split
   ·exact d
   ·rw[a1];split
    ·rename_i e;rw[if_pos (by omega)]
    ·exact d
  have a:bt ⟨aA o r (cP o b r x z),b⟩ r z=true:=by
   unfold cP;split
   ·assumption
   ·unfold bt;rw[ad,am];refine⟨bW.2 ⟨r,hr,rfl⟩,r,K1,?_⟩;show gw (aA o r (x.set z.toNat true)) r z=true;rw[tX hr,iB,a1,if_pos rfl,if_pos g.2];exact⟨g.1,rfl⟩
  rw[List.foldl_cons];refine⟨λj d=>i j (f j d),λid hid=>?_⟩;rcases a0.1 hid with rfl|hid
  ·exact nu (Py i) a
  ·exact k id hid
theorem oX{L:List Ob}{o:Nat->List Bool}{b:Nat->List Int}{r:Nat}(hr:r<4)(ids:List Int):∀k,k<4->∀j:Nat,(o k)[j]? =some true->(dS L o b r ids k)[j]? =some true:=λk f j a=>by
 unfold dS;split
 ·exact a
 ·rw[gb];split
  ·rename_i e;have e:k=r:=e;refine(xw hr (l:=bc L ids) (x:=eI (o r) L.length) (λid hid=>?_)).1 j ?_
   ·have c:=mr hid;have d:=DF (l:=o r) (n:=L.length);exact⟨c.1,by omega⟩
   ·unfold eI;rw[<-e,al (List.getElem?_eq_some_iff.1 a).1];exact a
  ·exact a
theorem u5{L:List Ob}{o:Nat->List Bool}{b:Nat->List Int}{r:Nat}(hr:r<4){ids:List Int}(hc:dd L r ids=0){k:Int}(hk:k∈bc L ids):bt ⟨dS L o b r ids,b⟩ r k=true:=by
 unfold dS;rw[if_neg (λh=>h hc)]
 exact (xw hr (l := bc L ids) (x := eI (o r) L.length) (λid hid=>by
  have a:=mr hid;have c:=DF (l:=o r) (n:=L.length);exact⟨a.1,by omega⟩)).2 k hk
inductive lL(b:Nat->List Int)(r:Int):Int->Prop
 |refl:lL b r r
 |step {x y:Int} (h:lL b r x) (hy:y∈b x.toNat):lL b r y
theorem yX:∀{l out:List Int},out<+:l.foldl bJ out
 |[],out=>ao _
 |x::l,out=>by
  refine a6 ?_ (yX (l:=l) (out:=bJ out x));unfold bJ;split
  ·exact ao _
  ·exact List.prefix_append _ _
theorem CD{b:Nat->List Int}(hb:gf b){r:Int}(hr:bC r=true){x:Int}:x∈cJ b r↔lL b r x:=by
 suffices∀n i out,5-i<=n->gE b r i out->(∀x∈out,lL b r x)->(∀j,j<i->∀z,out[j]? =some z->∀y∈b z.toNat,y∈out)->r∈out->∀x,x∈cJ b r↔lL b r x from
  this 5 0 [r] (a5 _) (gE.start hr) (λx hx=>by rw[Z]at hx;subst hx;exact .refl) (λj h=>absurd h (Nat.not_lt_zero _)) (by simp) x
 intro n;induction n with
 |zero=>
  intro i out p c;have:=c.len;have:=c.le;omega
 |succ n ih=>
  intro i out p c g k m;by_cases a:i<out.length
  ·refine ih (i+1) _ (by omega) (c.next hb a) (λx hx=>?_) (λj o z f y d=>?_) (nY.2 (.inl m))
   ·rcases nY.1 hx with hx|hx
    ·exact g x hx
    ·exact .step (g _ (a2 a)) hx
   ·obtain⟨t,q⟩:=yX (l:=b out[i].toNat) (out:=out);rw[<-q,al (by omega)]at f;by_cases e:j=i
    ·subst e;rw[ap a]at f;cases f;exact nY.2 (.inr d)
    ·exact nY.2 (.inl (k j (by omega) z f y d))
  ·intro x;rw[c.stop a];refine⟨g x,λhx=>?_⟩;induction hx with
   |refl=>exact m
   |step _ d ih=>
    obtain⟨j,o,e⟩:=List.mem_iff_getElem.1 ih;exact k j (by omega) _ (by rw[ap o,e]) _ d
theorem lL.mono{b b':Nat->List Int}(h:∀k,∀y∈b k,y∈b' k){r x:Int}(a:lL b r x):lL b' r x:=by
 induction a with
 |refl=>exact .refl
 |step _ c ih=>exact ih.step (h _ _ c)
theorem G7{b:Nat->List Int}{r q:Int}:∀k,∀y∈b k,y∈cL b r q k:=λk y a=>by
 unfold cL;split
 ·exact a
 ·rw[gb];split
  ·rename_i e;rw[<-e];exact ac _ a
  ·exact a
theorem BZ{o:Nat->List Bool}{b:Nat->List Int}(hb:jX b){r q:Int}{k id:Int}(h:bt ⟨o,b⟩ k id=true):bt ⟨o,cL b r q⟩ k id=true:=by
 unfold bt at h⊢;rw[ad,am]at h⊢;obtain⟨a,x,c,d⟩:=h;exact⟨a,x,(CD (hb.ef r q).ok a).2 (((CD hb.ok a).1 c).mono G7),d⟩
theorem Bi{L M:List Ob}(a:L<+:M){j:Int}(hj:¬kindOf L j=0):dI M j=dI L j:=by
 unfold dI;rw[ext_get a hj]
theorem KV{L M:List Ob}(c:ak L)(b:L<+:M){ids:List Int}(hi:∀id∈ids,¬kindOf L id=0){k:Int}:cA M ids k↔cA L ids k:=by
 constructor
 ·intro h;induction h with
  |base h a=>exact .base h (hi _ h)
  |step _ a ih=>exact ih.step (by rw[<-Bi b (ih.kind c)];exact a)
 ·intro h;induction h with
  |base h a=>exact .base h (by rw[dO b a];exact a)
  |step h a ih=>exact ih.step (by rw[Bi b (h.kind c)];exact a)
theorem M9{L M:List Ob}(a:ak L)(b:ak M)(c:L<+:M){ids:List Int}(hi:∀id∈ids,¬kindOf L id=0):bc M ids=bc L ids:=
 oK pR pR λx=>by rw[jf b,jf a,KV a c hi]
theorem Kept.down{L:List Ob}(n:ak L){t u:Int}{fs:List Fi}(h:Kept L t fs){dir:List UInt8}(a:cY L t dir=(u,0)):∃r,Kept L u r:=by
 unfold cY at a;split at a
 ·rename_i i;exact absurd (congrArg Prod.snd a) i
 rename_i i;obtain⟨x,z,q⟩:=oM (W.1 i);generalize (cc dir).1=c at a q;by_cases l:c=[]
 ·subst l;rw[gL]at a;cases a;exact⟨fs,h⟩
 ·have w:∀d∈c,bP d=0:=by rw[q];exact oD x
  rcases E4 n c l w h.tree with⟨v,e,k,y⟩|⟨e,_⟩
  ·rw[e]at a;cases a;refine⟨_,k,E3 n k (Nat.le_trans (List.length_filterMap_le _ _) (iW h.ok).1) λf m=>?_⟩;unfold ee at m;obtain⟨g,s,b⟩:=List.mem_filterMap.1 m;unfold nS at b;cases j:under g.path (bZ c)with
   |none=>rw[j]at b;cases b
   |some p=>
    rw[j]at b;cases b;have o:=((iW h.ok).2 g s).1;rw[jn j]at o;exact(oM (A1 o)).2.1
  ·rw[e]at a;cases a
theorem JW{L:List Ob}(c:ak L)(hc:dz L){dir:List UInt8}{up:List Int}{o:Ob}{fs:List Fi}(d:Kept L o.tree fs):dz (bS L dir up o).2.2:=by
 unfold bS;split
 ·exact hc
 split
 ·exact hc
 rename_i a;split
 ·exact hc
 ·obtain⟨e,b⟩:=d.down c (dir:=dir) (u:=(cY L o.tree dir).1) (Prod.ext rfl (W.1 a));exact vJ hc b
theorem EJ{dir:List UInt8}:∀{l:List Int} {L:List Ob} {im:List (List Int)},ak L->(∀x∈l,kindOf L x=3)->dz L->dz (bH dir l L im).2.1
 |[],L,im,c,b,a=>a
 |id::r,L,im,c,b,a=>by
  obtain⟨i,g⟩:=a id (b id (by simp));have d:dz (eF L dir im id).2.2:=JW c a g;obtain⟨e,f,-⟩:=nv c (dir:=dir) (up:=cQ im (aj L id).parents) (o:=aj L id);unfold bH;split
  ·exact d
  ·exact EJ e (λx h=>by have:=b x (by simp[h]);exact(dO f (by omega)).trans this) d
theorem Ow{L:List Ob}(b:ak L)(hc:dz L)(id:Int)(dir:List UInt8):dz (bY L id dir).2.2:=by
 unfold bY;by_cases a:kindOf L id=3
 ·rw[show b7 L id=(bf L id,0)from if_pos a,if_neg (by simp)];have c:dz (bH dir (bf L id) L (List.replicate L.length [])).2.1:=EJ b (λx d=>((mj b a).1 d).kind b a) hc;split
  ·exact c
  ·exact c
 ·rw[show b7 L id=([],9)from if_neg a,if_pos (by decide)];exact hc
theorem Er{base x y:List Fi}:∀(a:List (List UInt8)) (s:BS),gF s.L (da base x y s a).L
 |[],s=>.refl _
 |q::a,s=>by
  refine gF.trans ?_ (Er a (jT base x y s q));show gF s.L (lC s.L _ _ _);unfold lC;split
  ·exact .refl _
  split
  ·exact .refl _
  unfold jL;split
  ·exact .refl _
  ·exact rB (show(1:Int)≠3 by decide)
theorem G1{L:List Ob}(b:ak L)(hc:dz L)(base x y:List Fi):dz (fo L base x y).L:=by
 refine hc.mono (vr b base x y).2 ?_;have a:=Er (base:=base) (x:=x) (y:=y) (dE [base,x,y]) ⟨L,[],[],0⟩;unfold fo;split
 ·exact .refl _
 dsimp only;generalize (if(da base x y ⟨L,[],[],0⟩ (dE [base,x,y])).code=0 then cu (da base x y ⟨L,[],[],0⟩ (dE [base,x,y])).out else(da base x y ⟨L,[],[],0⟩ (dE [base,x,y])).code)=c;split
 ·exact a
 ·exact a
def gC(L:List Ob)(d:Dp)(r id:Int):Prop:=∀k∈bc L [id],bt d r k=true
theorem gC.more{L M:List Ob}(e:ak L)(c:ak M)(f:L<+:M){d:Dp}{r id:Int}(hk:kindOf L id=3)(h:gC L d r id):gC M d r id:=λk a=>by
 rw[M9 e c f (λx b=>by rw[Z]at b;rw[b];omega)]at a;exact h k a
structure KX(X:Nat->Prop)(s:FS):Prop where
 ej:dz s.L
 ref:∀r,r<4->∀x∈s.n r,kindOf s.L x.id=3
 mov:∀r,r<4->∀x∈s.m r,(0<=x.old->kindOf s.L x.old=3)/\(0<=x.new->kindOf s.L x.new=3)
 dD:∀r,r<4->∀y∈s.w r,y.link=true->kindOf s.L y.id=3
 has:∀r:Nat,r<4->∀x∈s.n r,gC s.L s.dep r x.id
 hd:∀r:Nat,r<4->¬X r->0<=s.h r->gC s.L s.dep r (s.h r)
abbrev KA(s:FS):Prop:=KX (λ_=>False) s
theorem KA.nil:KA c8:=⟨dz.nil,λr b x a=>(by cases a),λr b x a=>(by cases a),λr b x a=>(by cases a),λr b x a=>(by cases a),λr b _ h=>absurd h (by show¬(0:Int)≤-1;decide)⟩
variable {L0:List Ob} {s:FS} {n:Nat} {X:Nat->Prop}
theorem KX.yF(h:KA s):KX X s:=⟨h.ej,h.ref,h.mov,h.dD,h.has,λr a _=>h.hd r a (λf=>f)⟩
theorem iV{L M:List Ob}(a:L<+:M){k:Int}(h:kindOf L k=3):kindOf M k=3:=by rw[dO a (by omega)];exact h
theorem iE.k3{L:List Ob}{h:Int}(a:iE L h)(b:0<=h):kindOf L h=3:=a.resolve_left (by omega)
theorem KX.mL(i:FI L0 s n)(h:KX X s){r:Nat}{M:List Ob}{l:List It}{hd:Int}(j:ak M)(d:s.L<+:M)(hc:dz M)(hl:∀y∈l,y.link=true->kindOf M y.id=3)(o:¬X r->r<4->0<=hd->gC M s.dep r hd):KX X (s.cC r M l hd):=
 ⟨hc,λk b x a=>iV d (h.ref k b x a),λk b x a=>⟨λc=>iV d ((h.mov k b x a).1 c),λc=>iV d ((h.mov k b x a).2 c)⟩,λk b y f g=>by
  have f:y∈aA s.w r l k:=f;rw[gb]at f;split at f
  ·exact hl y f g
  ·exact iV d (h.dD k b y f g),λk b x a=>(h.has k b x a).more i.pool j d (h.ref k b x a),λk b m=>by
  show 0<=aA s.h r hd k->gC M s.dep k (aA s.h r hd k);rw[gb];split
  ·rename_i e;subst e;exact o m b
  ·exactλc=>(h.hd k b m c).more i.pool j d ((i.work k b).head.k3 c)⟩
theorem KX.grow(e:FI L0 s n)(h:KX X s){M:List Ob}(g:ak M)(d:s.L<+:M)(hc:dz M):KX X (s.aY M):=
 ⟨hc,λk b x a=>iV d (h.ref k b x a),λk b x a=>⟨λc=>iV d ((h.mov k b x a).1 c),λc=>iV d ((h.mov k b x a).2 c)⟩,λk b y j f=>iV d (h.dD k b y j f),λk b x a=>(h.has k b x a).more e.pool g d (h.ref k b x a),λk b i c=>(h.hd k b i c).more e.pool g d ((e.work k b).head.k3 c)⟩
theorem yC{l:List Rf}{name:List UInt8}{old id:Int}{x:Rf}(hx:x∈aY l name old id):x∈l\/(x=⟨name,id⟩/\0<=id):=by
 unfold aY at hx;split at hx
 ·rename_i b;obtain⟨d,e,a,f,g⟩:=o7 b;unfold lI at hx;split at hx
  ·rename_i c;rw[np c]at a;rcases qW.1 hx with rfl|hx
   ·exact .inr ⟨rfl,by show 0<=id;omega⟩
   ·exact .inl hx
  ·split at hx
   ·rcases ah.1 hx with hx|hx
    ·exact .inl (List.mem_of_mem_take hx)
    ·exact .inl (List.mem_of_mem_drop hx)
   ·rcases List.mem_or_eq_of_mem_set hx with hx|rfl
    ·exact .inl hx
    ·exact .inr ⟨rfl,by omega⟩
 ·exact .inl hx
theorem BQ{l:List Rf}{name:List UInt8}(h:0<=cm l name):∃x∈l,x.id=cm l name:=by
 cases b:ey l name with
 |false=>rw[np b]at h;exact absurd h (by decide)
 |true=>obtain⟨a,_,e⟩:=qS b;exact⟨_,a2 a,e.symm⟩
theorem xd{s:FS}{r:Int}{name:List UInt8}(h:(aK s r name).2=0):∃i:Nat,i<4/\r=i/\0<=(aK s r name).1/\∃x∈s.n i,x.id=(aK s r name).1:=by
 unfold aK at h⊢;split at h
 ·cases h
 rename_i a;split at h
 ·cases h
 rename_i b;obtain⟨i,d,e⟩:=(bW (r:=r)).1 (by cases q:bC r;exact absurd q a;rfl);rw[if_neg a,if_neg b];have c:r.toNat=i:=by omega
 rw[c]at b⊢;exact⟨i,d,e,by dsimp only;omega,BQ (by omega)⟩
theorem LR{l:List Rf}{m:List Mv}{name:List UInt8}{old id:Int}{x:Mv}(hx:x∈fZ l m name old id):x∈m\/(x=⟨name,old,id⟩/\old=cm l name):=by
 unfold fZ at hx;split at hx
 ·rename_i a;rcases ah.1 hx with hx|hx
  ·exact .inl hx
  ·rw[Z]at hx;exact .inr ⟨hx,(o7 a).2.2.1⟩
 ·exact .inl hx
theorem KX.x8(m:FI L0 s n)(h:KX X s){Y:Nat->Prop}{r:Nat}{name:List UInt8}{old id:Int}{o:Nat->List Bool}(ho:∀k,k<4->∀j:Nat,(s.o k)[j]? =some true->(o k)[j]? =some true)
  (hid:0<=id->kindOf s.L id=3/\gC s.L ⟨o,s.b⟩ r id)(i:∀k:Nat,k<4->¬Y k->0<=s.h k->gC s.L ⟨o,s.b⟩ k (s.h k)):
  KX Y ((s.lD r (aY (s.n r) name old id) (fZ (s.n r) (s.m r) name old id)).dm o):=by
 refine⟨h.ej,λk c x a=>?_,λk c x a=>?_,h.dD,λk c x a=>?_,i⟩
 ·have a:x∈aA s.n r _ k:=a;rw[gb]at a;split at a
  ·rename_i e;subst e;rcases yC a with a|⟨rfl,b⟩
   ·exact h.ref k c x a
   ·exact(hid b).1
  ·exact h.ref k c x a
 ·have a:x∈aA s.m r _ k:=a;rw[gb]at a;split at a
  ·rename_i e;subst e;rcases LR a with a|⟨rfl,f⟩
   ·exact h.mov k c x a
   ·refine⟨λb=>?_,λb=>(hid b).1⟩;dsimp only at b⊢;rw[f]at b⊢;obtain⟨y,l,g⟩:=BQ b;rw[<-g];exact h.ref k c y l
  ·exact h.mov k c x a
 ·have a:x∈aA s.n r _ k:=a;rw[gb]at a;split at a
  ·rename_i e;subst e;rcases yC a with a|⟨rfl,b⟩
   ·exactλz d=>nu ho (h.has k c x a z d)
   ·exact(hid b).2
  ·exactλz d=>nu ho (h.has k c x a z d)
theorem KX.own(h:KX X s){Y:Nat->Prop}{o:Nat->List Bool}(ho:∀k,k<4->∀j:Nat,(s.o k)[j]? =some true->(o k)[j]? =some true)(a:∀k:Nat,k<4->¬Y k->0<=s.h k->gC s.L ⟨o,s.b⟩ k (s.h k)):KX Y (s.dm o):=
 ⟨h.ej,h.ref,h.mov,h.dD,λk b x c z d=>nu ho (h.has k b x c z d),a⟩
theorem KX.lead(f:FI L0 s n){r:Nat}(hr:r<4)(h:KX (· =r) s){name:List UInt8}{id:Int}(hn:dW (s.n r) name=0)(hk:kindOf s.L id=3)(i:s.h r=id\/(0<=s.h r->gC s.L s.dep r (s.h r))):KA (eG s r name id):=by
 have hid:=dC (l:=s.L) (id:=id) (by omega)
 have d:dd s.L r [id]=0:=by
  unfold dd;rw[if_neg (by rw[bW.2 ⟨r,hr,rfl⟩];decide),if_neg (by simp;omega)]
 unfold eG;rw[if_neg (λk=>(N4 (f.refs r hr) hn (by omega)).elim k.1 k.2)];refine KX.x8 f h (o:=dS s.L s.o s.b r [id]) (oX hr [id]) (λ_=>⟨hk,λz a=>u5 hr d a⟩) λk b _ c=>?_;by_cases e:k=r
 ·subst e;rcases i with g|h2
  ·rw[g];exactλz a=>u5 hr d a
  ·exactλz a=>nu (oX hr [id]) (h2 c z a)
 ·exactλz a=>nu (oX hr [id]) (h.hd k b e c z a)
end Go.Nest
end
section
namespace Go.Nest
open Go Go.AM
variable {L0:List Ob} {s:FS} {n:Nat} {X:Nat->Prop}
theorem dn.dD{ne:Bool}{L:List Ob}(o:ak L){es:List aI}{l:List Fi}(h:dn ne L es l):(∀e∈es,jo L e)->∀f∈l,f.mode=3->kindOf L f.id=3:=by
 induction h with
 |nil=>intro _ f hf;cases hf
 | @file e es l k h ih=>
  intro b f hf a;rcases a0.1 hf with rfl|hf
  ·have:=(b e (by simp)).kind;dsimp only at a⊢;omega
  ·exact ih (λx c=>b x (by simp[c])) f hf a
 | @dir e es m l k j n p h d ih=>
  intro b f hf a;rcases ah.1 hf with hf|hf
  ·obtain⟨g,i,rfl⟩:=a4.1 hf;exact d (iM o j).2 g i a
  ·exact ih (λx c=>b x (by simp[c])) f hf a
theorem Cv{ne:Bool}{M:List Ob}{fs:List Fi}{t:Int}(c:ak M)(d:fM ne M t fs):∀y∈fs.map (cI M),y.link=true->kindOf M y.id=3:=λy g b=>by
 obtain⟨f,e,rfl⟩:=a4.1 g;unfold cI at b⊢;split
 ·rename_i a;exact d.2.dD c (iM c d.1).2 f e a
 ·rename_i a;rw[if_neg a]at b;cases b
theorem KL{L:List Ob}(d:ak L){l:List It}(h:∀y∈l,y.link=true->kindOf L y.id=3)(fs:List Fi):∀y∈me L l fs,y.link=true->kindOf (cG L fs).2.2 y.id=3:=by
 obtain⟨a,b⟩:=n9 d fs;by_cases c:(cG L fs).2.1=0
 ·rw[show me L l fs=fs.map (cI (cG L fs).2.2)from if_neg (λh=>h c)];exact Cv a (qw d c).2
 ·rw[show me L l fs=l from if_pos c];exactλy f e=>iV b (h y f e)
theorem KX.lay(c:FI L0 s n)(h:KX X s){r:Nat}(hr:r<4)(l:List Fi):KX X (dQ s r l):=by
 obtain⟨a,b⟩:=n9 c.pool l;exact h.mL c a b (h.ej.mono b Ac) (KL c.pool (h.dD r hr) l) λe _ d=>(h.hd r hr e d).more c.pool a b ((c.work r hr).head.k3 d)
theorem KX.Ar(c:FI L0 s n)(h:KX X s)(r:Nat):KX X (cZ s r):=by
 obtain⟨a,b⟩:=kJ (l:=s.w r) c.pool;exact h.grow c a b (h.ej.mono b yx)
theorem KX.Ax(c:FI L0 s n)(h:KX X s){r:Nat}(hr:r<4){text:List UInt8}{others:List Int}(hc:(bg s.L (s.w r) (s.h r) text others).2.1≠0):KX X (cH s r text others):=by
 obtain⟨a,b⟩:=qD (l:=s.w r) (h:=s.h r) (text:=text) (others:=others) c.pool;refine h.mL c a b (AA c.pool h.ej) (λy g f=>iV b (h.dD r hr y g f)) λe _ d=>?_;rw[show l8 s.L (s.w r) (s.h r) text others=s.h r from if_neg hc]at d⊢;exact(h.hd r hr e d).more c.pool a b ((c.work r hr).head.k3 d)
theorem KX.Ay(c:FI L0 s n)(h:KA s){r:Nat}(hr:r<4)(text:List UInt8)(others:List Int):KX (· =r) (cH s r text others):=by
 obtain⟨a,b⟩:=qD (l:=s.w r) (h:=s.h r) (text:=text) (others:=others) c.pool;exact h.yF.mL c a b (AA c.pool h.ej) (λy f e=>iV b (h.dD r hr y f e)) λd _ _=>absurd rfl d
theorem KX.out(g:FI L0 s n)(h:KX X s){r:Nat}(hr:r<4){id:Int}(hid:gC s.L s.dep r id):KX X (jM s r id):=by
 have j:=g.pool;obtain⟨a,b⟩:=vN (l:=s.w r) (id:=id) j
 have f:gF s.L (kl s.L (s.w r) id):=by
  unfold kl;split
  ·exact .refl _
  ·exact yx
 by_cases d:fe s.L (s.w r) (s.h r) id=0
 ·have e:kindOf s.L id=3:=by
   by_cases e:kindOf s.L id=3
   ·exact e
   ·rw[(vQ (h:=s.h r) (l:=s.w r) e).1]at d;cases d
  have c:il s.L (s.w r) (s.h r)=0:=by
   by_cases c:il s.L (s.w r) (s.h r)=0
   ·exact c
   ·rw[(vO (h:=s.h r) (l:=s.w r) e c).1]at d;exact absurd d c
  obtain⟨q,k,m,o⟩:=vP (h:=s.h r) (l:=s.w r) e c;have p:(bq (bz s.L (s.w r)).2.2 (aj s.L id).tree).2=0:=q▸d;rw[if_neg (λh=>h p)]at m o;refine h.mL g a b (h.ej.mono b f) ?_ λ_ _ _=>?_
  ·rw[m,k];rw[k]at a;exact Cv a (qN a p).1
  ·rw[o];exact hid.more j a b e
 ·refine h.mL g a b (h.ej.mono b f) ?_ λt _ i=>?_
  ·rw[show lQ s.L (s.w r) (s.h r) id=s.w r from if_pos d];exactλy v u=>iV b (h.dD r hr y v u)
  ·rw[show kV s.L (s.w r) (s.h r) id=s.h r from if_pos d]at i⊢;exact(h.hd r hr t i).more j a b ((g.work r hr).head.k3 i)
theorem KX.mix(f:FI L0 s n)(h:KA s){r:Nat}(hr:r<4)(base id:Int):KA (jg s r base id):=by
 obtain⟨v,w⟩:=vr f.pool (bu s.L base).1 (bu s.L (s.h r)).1 (bu s.L id).1;have c:=f.qq r base id;have i:KA (s.aY (a7 s r base id).L):=h.grow f v w (G1 f.pool h.ej _ _ _);have a:=c.dQ hr (a7 s r base id).out;have d:=i.lay c hr (a7 s r base id).out;unfold jg;refine av (P:=KA) (λ_=>h) (λ_=>av (P:=KA) (λ_=>h) (λ_=>av (P:=KA) (λ_=>h) (λ_=>av (P:=KA) (λ_=>i) (λ_=>av (P:=KA) (λ_=>i) (λ_=>av (P:=KA) (λ_=>d) (λ_=>?_))))));generalize dQ (s.aY (a7 s r base id).L) r (a7 s r base id).out=t at a d;unfold pJ;refine av (P:=KA) (λg=>(d.Ax a hr g).lay (a.cH hr _ _) hr _) (λg=>?_);have g:=W.1 g;have y:=AB a.pool g;have j:=KX.Ay a d hr eH [id];have o:=a.cH hr eH [id]
 have l:dd (cH t r eH [id]).L r [(bg t.L (t.w r) (t.h r) eH [id]).1]=0:=by
  unfold dd;rw[if_neg (by rw[bW.2 ⟨r,hr,rfl⟩];decide),if_neg];simp only[List.any_cons,List.any_nil,Bool.or_false,decide_eq_true_iff];exactλe=>absurd (y.symm.trans e) (by decide)
 have b:(cH t r eH [id]).h r=(bg t.L (t.w r) (t.h r) eH [id]).1:=by
  show aA t.h r _ r=_;rw[iB];exact if_pos g
 generalize (bg t.L (t.w r) (t.h r) eH [id]).1=m at l b;generalize cH t r eH [id]=u at j l b o;refine j.own (oX hr [m]) λk p _ x=>?_;by_cases e:k=r
 ·subst e;rw[b];exactλz q=>u5 hr l q
 ·exactλz q=>nu (oX hr [m]) (j.hd k p e x z q)
theorem KX.swp(d:FI L0 s n)(h:KA s):KA (rS s):=by
 have b:∀r:Nat,r<4->∀id,id∈iJ s r->gC s.L s.dep r id->gC s.L ⟨jk s.L s.o s.b (iJ s),s.b⟩ r id:=λr a id hid i z f=>by
  rw[JK d.pool d.ef.ok r z (.root a hid ((jf d.pool).1 f))];exact i z f
 refine⟨h.ej,h.ref,h.mov,h.dD,λr a x e=>?_,λr a g c=>?_⟩
 ·refine b r a _ ?_ (h.has r a x e);unfold iJ iz;exact ac _ (ac _ (JQ (d.refs r a).inv e))
 ·have c:0<=s.h r:=c;refine b r a _ ?_ (h.hd r a g c);unfold iJ iz;rw[if_pos c];exact ac _ (List.mem_append_right _ (Z.2 rfl))
theorem DU{L:List Ob}{l:List It}(b:ig l)(h:∀y∈l,y.link=true->kindOf L y.id=3){x:It}(c:x.link=true->kindOf L x.id=3):∀y∈(fW l x).2,y.link=true->kindOf L y.id=3:=λy hy a=>by
 rcases(DY b x).2 y hy with rfl|hy
 ·exact c a
 ·exact h y hy a
theorem KX.step(a:FI L0 s n)(h:KA s)(x:ck):KA (ko s x):=by
 unfold ko;refine av (P:=KA) (λ_=>h) (λ_=>av (P:=KA) (λ_=>h) (λU=>?_));obtain⟨i,b,e⟩:=(bW (r:=x.r)).1 (by cases q:bC x.r;exact absurd q U;rfl);have e:x.r.toNat=i:=by omega
 rw[e];have K:=a.work i b;have u:=rM a.pool (s.h i) x.path;have E:¬False->i<4->0<=s.h i->gC s.L s.dep i (s.h i):=λt _ c=>h.hd i b t c
 have I:∀{l:List UInt8},¬(aK s (i:Nat) l).2≠0->kindOf s.L (aK s (i:Nat) l).1=3/\gC s.L s.dep i (aK s (i:Nat) l).1:=λT=>by
  obtain⟨j,p,Q,_,y,v,M⟩:=xd (W.1 T);obtain rfl:i=j:=by omega
  rw[<-M];exact⟨h.ref i b y v,h.has i b y v⟩
 have F:=ao s.L;refine av (P:=KA) (λ_=>?_) (λ_=>av (P:=KA) (λ_=>?_) (λ_=>av (P:=KA) (λ_=>?_) (λ_=>av (P:=KA) (λ_=>?_) (λ_=>av (P:=KA) (λ_=>?_) (λ_=>av (P:=KA) (λ_=>?_) (λ_=>av (P:=KA) (λ_=>?_) (λ_=>av (P:=KA) (λ_=>?_) (λ_=>av (P:=KA) (λ_=>?_) (λ_=>av (P:=KA) (λ_=>?_) (λ_=>av (P:=KA) (λ_=>?_) (λ_=>h.swp a)))))))))))
 ·refine h.mL a a.pool F h.ej ?_ E;unfold iC;split
  ·exact h.dD i b
  ·exact DU K.ok (h.dD i b) λh=>by cases h
 ·exact h.mL a a.pool F h.ej (λy v=>h.dD i b y ((D7 K.ok x.path).2 y v)) E
 ·unfold ow;refine av (P:=KA) (λ_=>h) (λ_=>h.mL a a.pool F h.ej ?_ E);unfold gS;split
  ·exact h.dD i b
  split
  ·exact h.dD i b
  ·rename_i _ d;exact DU K.ok (h.dD i b) λ_=>W.1 d
 ·unfold na;refine av (P:=KA) (λ_=>h) (λg=>av (P:=KA) (λm=>h.Ax a b m) (λm=>?_));have m:=W.1 m;exact(KX.Ay a h b x.text []).lead (a.cH b _ _) b (W.1 g) (AB a.pool m) (.inl (by show aA s.h i _ i=_;rw[iB];exact if_pos m))
 ·unfold oa;exact av (P:=KA) (λ_=>h) (λg=>h.out a b (I g).2)
 ·unfold nG;refine av (P:=KA) (λ_=>h) (λg=>av (P:=KA) (λ_=>h.Ar a i) (λ_=>?_));have J:=h.Ar a i;have D:=a.cZ (r:=i);obtain⟨k3,S⟩:=I g;unfold pI;exact av (P:=KA) (λ_=>J.out D b (S.more a.pool D.pool (kJ a.pool).2 k3)) (λ_=>av (P:=KA) (λ_=>J) (λ_=>av (P:=KA) (λ_=>J) (λ_=>J.mix D b _ _)))
 ·unfold n5;refine av (P:=KA) (λ_=>h) (λg=>?_);exact h.x8 a (o:=s.o) (λ_ _ _ p=>p) (λc=>⟨K.head.k3 c,h.hd i b (λf=>f) c⟩) λk d t c=>h.hd k d t c
 ·unfold od;exact av (P:=KA) (λ_=>h) (λ_=>h.x8 a (o:=s.o) (λ_ _ _ p=>p) (λc=>absurd c (by decide)) λk d t c=>h.hd k d t c)
 ·unfold pd;refine av (P:=KA) (λ_=>h) (λg=>av (P:=KA) (λ_=>h) (λm=>?_))
  have O:∀k,k<4->∀j:Nat,(s.o k)[j]? =some true->(di s.L s.o s.b (i:Nat) x.q (aK s x.q x.name).1 k)[j]? =some true:=λk d j p=>by
   unfold di;split
   ·exact p
   split
   ·exact p
   ·exact oX b _ k d j p
  have w:KA (s.dm (di s.L s.o s.b (i:Nat) x.q (aK s x.q x.name).1)):=h.own O λk d t c z H=>nu O (h.hd k d t c z H);have N:=a.dm (wm a i x.q (aK s x.q x.name).1);refine av (P:=KA) (λ_=>w) (λ_=>?_);obtain⟨j,p,Q,_,y,v,M⟩:=xd (W.1 g);exact KX.lead N b w.yF (W.1 m) (by rw[<-M];exact h.ref j p y v) (.inr λc=>w.hd i b (λf=>f) c)
 ·exact⟨h.ej,h.ref,h.mov,h.dD,λk d y v z H=>BZ a.ef (h.has k d y v z H),λk d t c z H=>BZ a.ef (h.hd k d t c z H)⟩
 ·unfold pZ;refine av (P:=KA) (λ_=>h) (λg=>av (P:=KA) (λ_=>h) (λm=>?_));have w:KA (s.aY (bY s.L (s.h i) x.path).2.2):=h.grow a u.1 u.2 (Ow a.pool h.ej _ _);refine av (P:=KA) (λ_=>w) (λR=>?_);have d:=((EM (dir:=x.path) (id:=s.h i) a.pool rfl).2.2.2.2 (W.1 R)).2.1;exact KX.lead (a.aY u.1 u.2) b w.yF (W.1 m) d (.inr λc=>w.hd i b (λf=>f) c)
end Go.Nest
end
section
namespace Go.Nest
open Go Go.AM
def Cd(c:Int):Prop:=0<=c/\c<=100
theorem ba{c:Int}(h:decide (0<=c/\c<=100)=true):Cd c:=show 0<=c/\c<=100 from of_decide_eq_true h
theorem xA(l:List UInt8):Cd (bP l):=by
 unfold bP;repeat' split
 all_goals exact ba rfl
theorem C9:∀l:List (List UInt8),Cd (eR l)
 |[]=>ba rfl
 |x::r=>by
  unfold eR;split
  ·exact C9 r
  ·exact xA x
theorem yl(l:List UInt8):Cd (cc l).2:=by
 unfold cc;repeat' split
 ·exact ba rfl
 ·exact ba rfl
 ·exact C9 _
theorem DR(l:List It)(x:It):Cd (fW l x).1:=by
 unfold fW;repeat' split
 ·exact yl _
 all_goals exact ba rfl
theorem PH(l:List It)(p b:List UInt8):Cd (iC l p b).1:=by
 unfold iC;split
 ·exact ba rfl
 ·exact DR _ _
theorem Ng(l:List It)(p:List UInt8):Cd (iI l p).1:=by
 unfold iI;split<;>exact ba rfl
theorem K5(L:List Ob)(l:List It)(p:List UInt8)(q id:Int):Cd (gS L l p q id).1:=by
 unfold gS;repeat' split
 ·exact ba rfl
 ·exact ba rfl
 ·exact DR _ _
theorem sK(l:List Rf)(n:List UInt8)(old id:Int):Cd (dN l n old id):=by
 unfold dN;split
 ·exact xA n
 repeat' split
 all_goals exact ba rfl
theorem u0(L:List Ob)(r:Int)(ids:List Int):Cd (dd L r ids):=by
 unfold dd;repeat' split
 all_goals exact ba rfl
theorem G5(b:Nat->List Int)(r q:Int):Cd (dT b r q):=by
 unfold dT;repeat' split
 all_goals exact ba rfl
theorem Ja(L:List Ob)(d:Dp)(r q id:Int):Cd (fO L d r q id):=by
 unfold fO;repeat' split
 ·exact ba rfl
 ·exact ba rfl
 ·exact u0 _ _ _
theorem IU(p:Option (List UInt8))(e:aI):Cd (gP p e):=by
 unfold gP;split
 ·exact xA _
 repeat' split
 all_goals exact ba rfl
theorem Bb:∀(l:List aI) (p:Option (List UInt8)),Cd (eA p l)
 |[],p=>by unfold eA;exact ba rfl
 |e::r,p=>by
  unfold eA;split
  ·exact Bb r _
  ·exact IU _ _
theorem Mf(o:Ob):Cd (ca o):=by
 unfold ca nV;repeat' split
 all_goals first|exact ba rfl|exact Bb _ _
theorem pP(L:List Ob)(o:Ob):Cd (aB L o).2.1:=by
 unfold aB;split
 ·exact Mf o
 repeat' split
 all_goals exact ba rfl
theorem sV:∀(l:List It) (L:List Ob) (out:List Fi),Cd (aR L l out).2.1
 |[],L,out=>by unfold aR;exact ba rfl
 |x::r,L,out=>by
  unfold aR;split
  ·exact sV r _ _
  split
  ·exact pP _ _
  ·exact sV r _ _
theorem Hx(p:Option Fi)(f:Fi):Cd (dU p f):=by
 unfold dU;repeat' split
 all_goals exact ba rfl
theorem vE:∀(l:List Fi) (p:Option Fi),Cd (ez p l)
 |[],p=>by unfold ez;exact ba rfl
 |f::r,p=>by
  unfold ez;split
  ·exact yl _
  split
  ·exact ba rfl
  split
  ·exact Hx _ _
  ·exact vE r _
theorem wq(l:List Fi):Cd (cu l):=by
 unfold cu;split
 ·exact ba rfl
 ·exact vE _ _
theorem ta:∀(n:Nat) (L:List Ob) (es:List aI) (l:List Fi),Cd (aV n L es l).2.1
 |0,L,es,l=>by unfold aV;exact ba rfl
 |n+1,L,es,[]=>by unfold aV;exact pP _ _
 |n+1,L,es,f::r=>by
  unfold aV;split
  ·exact ta n _ _ _
  split
  ·exact ta n _ _ _
  ·exact ta n _ _ _
theorem Ab(L:List Ob)(l:List Fi):Cd (cG L l).2.1:=by
 unfold cG;split
 ·exact wq l
 ·exact ta _ _ _ _
theorem E2(L:List Ob)(l:List It):Cd (bz L l).2.1:=by
 unfold bz;split
 ·exact sV _ _ _
 ·exact Ab _ _
theorem Ao(L:List Ob)(l:List It)(h:Int):Cd (il L l h):=by
 unfold il;split
 ·exact E2 _ _
 split<;>exact ba rfl
theorem Az(L:List Ob)(l:List It)(h:Int)(t:List UInt8)(o:List Int):Cd (bg L l h t o).2.1:=by
 unfold bg;split
 ·exact E2 _ _
 split
 ·exact ba rfl
 split
 ·exact pP _ _
 ·exact pP _ _
theorem yp{a:Int->List (List UInt8)->List Fi->Int×List Fi}(h:∀t ins out,Cd (a t ins out).1)(ins:List (List UInt8)):∀(es:List aI) (out:List Fi),Cd (eW a ins es out).1
 |[],out=>by unfold eW;exact ba rfl
 |e::r,out=>by
  unfold eW;split
  ·split
   ·exact h _ _ _
   ·exact yp h ins r _
  split
  ·exact ba rfl
  ·exact yp h ins r _
theorem BU(L:List Ob):∀(n:Nat) (t:Int) (ins:List (List UInt8)) (out:List Fi),Cd (cO L n t ins out).1
 |0,t,ins,out=>by unfold cO;exact ba rfl
 |n+1,t,ins,out=>by
  unfold cO;split
  ·exact ba rfl
  split
  ·exact ba rfl
  ·exact yp (λt ins out=>BU L n t ins out) _ _ _
theorem sU(L:List Ob)(t:Int):Cd (bq L t).2:=by
 unfold bq;split
 ·exact ba rfl
 ·exact BU _ _ _ _ _
theorem wv(L:List Ob)(id:Int):Cd (bu L id).2:=by
 unfold bu;split
 ·exact ba rfl
 ·exact sU _ _
theorem HG(L:List Ob)(l:List It)(h id:Int):Cd (fe L l h id):=by
 unfold fe;split
 ·exact ba rfl
 split
 ·exact Ao _ _ _
 ·exact sU _ _
theorem Bv:∀l:List (List Fi),Cd (eD l)
 |[]=>by unfold eD;exact ba rfl
 |l::r=>by
  unfold eD;split
  ·exact wq _
  ·exact Bv r
theorem LJ(L:List Ob){code:Int}(h:Cd code)(b x y:Fi):Cd (ml L code b x y):=by
 unfold ml;split
 ·exact h
 split
 ·exact pP _ _
 ·exact h
theorem Ek(base x y:List Fi):∀(a:List (List UInt8)) (s:BS),Cd s.code->Cd (da base x y s a).code
 |[],s,h=>h
 | q :: a, s, h => Ek base x y a (jT base x y s q) (by
  show Cd (rA s.L s.code _ _ _);unfold rA;split
  ·exact h
  split
  ·exact h
  ·exact LJ _ h _ _ _)
theorem Em(base x y:List Fi):∀(a:List (List UInt8)) (s:BS),∀q∈(da base x y s a).cf,q∈s.cf\/q∈a
 |[],s,q,h=>.inl h
 |p::a,s,q,h=>by
  rcases Em base x y a (jT base x y s p) q h with h|h
  ·have h:q∈mo s.L s.cf (eC base p).1 (eC x p).1 (eC y p).1 p:=h;unfold mo at h;split at h
   ·exact .inl h
   split at h
   ·exact .inl h
   split at h
   ·exact .inl h
   ·rcases ah.1 h with h|h
    ·exact .inl h
    ·exact .inr (by rw[Z.1 h];exact List.mem_cons_self ..)
  ·exact .inr (List.mem_cons_of_mem _ h)
theorem Jo{a b c:List Fi}(h:eD [a,b,c]=0):∀l∈[a,b,c],cu l=0:=by
 unfold eD at h;split at h
 ·exact absurd h ‹_›
 unfold eD at h;split at h
 ·exact absurd h ‹_›
 unfold eD at h;split at h
 ·exact absurd h ‹_›
 rename_i e f g;intro l d;simp only[a0,List.not_mem_nil,or_false]at d;rcases d with rfl|rfl|rfl
 ·exact W.1 e
 ·exact W.1 f
 ·exact W.1 g
theorem G3(L:List Ob)(base x y:List Fi):Cd (fo L base x y).code/\(fo L base x y).cf.length<=180/\∀q∈(fo L base x y).cf,q.length<=168:=by
 unfold fo;split
 ·exact⟨Bv _,ar _,λq h=>by cases h⟩
 rename_i b;have b:=Jo (W.1 b);have i:=Ek base x y (dE [base,x,y]) ⟨L,[],[],0⟩ (ba rfl);have j:=Em base x y (dE [base,x,y]) ⟨L,[],[],0⟩;have hb:base.length<=60:=(iW (b base (by simp))).1;have p:x.length<=60:=(iW (b x (by simp))).1;have r:y.length<=60:=(iW (b y (by simp))).1
 have o:(dE [base,x,y]).length<=180:=by
  have:=DN [base,x,y];simp only[List.flatten_cons,List.flatten_nil,List.length_append,a3]at this;omega
 have k:(da base x y ⟨L,[],[],0⟩ (dE [base,x,y])).cf.length<=180:=by
  have:∀(a:List (List UInt8)) (s:BS),(da base x y s a).cf.length<=s.cf.length+a.length:=λa=>by
   induction a with
   |nil=>intro s;exact a5 _
   |cons q a ih=>
    intro s;have e:=ih (jT base x y s q)
    have g:(jT base x y s q).cf.length<=s.cf.length+1:=by
     show(mo s.L s.cf _ _ _ q).length<=_;unfold mo;repeat' split
     all_goals simp
    have n:(da base x y s (q::a)).cf.length=(da base x y (jT base x y s q) a).cf.length:=rfl;rw[List.length_cons];omega
  have:=this (dE [base,x,y]) ⟨L,[],[],0⟩;simp only[a3]at this;omega
 generalize da base x y ⟨L,[],[],0⟩ (dE [base,x,y])=R at*
 have d:Cd (if R.code=0 then cu R.out else R.code):=by
  split
  ·exact wq _
  ·exact i
 dsimp only;generalize (if R.code=0 then cu R.out else R.code)=c at*;split
 ·exact⟨d,ar _,λq h=>by cases h⟩
 ·refine⟨ba rfl,k,λq m=>?_⟩;rcases j q m with h|h
  ·cases h
  ·obtain⟨l,e,f,g,rfl⟩:=xS h;exact rz ((iW (b l e)).2 f g).1
theorem Gp(L:List Ob)(a b:Int):Cd (eL L a b).2:=by
 unfold eL;repeat' split
 all_goals exact ba rfl
theorem FP(L:List Ob)(a:Int):Cd (b7 L a).2:=by
 unfold b7;split<;>exact ba rfl
theorem zC(L:List Ob):∀(ds:List (List UInt8)) (t:Int),Cd (gL L t ds).2
 |[],t=>by unfold gL;exact ba rfl
 |d::ds,t=>by
  unfold gL;split
  ·exact ba rfl
  split
  ·exact zC L ds _
  ·exact ba rfl
theorem Ge(L:List Ob)(t:Int)(dir:List UInt8):Cd (cY L t dir).2:=by
 unfold cY;split
 ·exact yl _
 ·exact zC _ _ _
theorem JV(L:List Ob)(dir:List UInt8)(up:List Int)(o:Ob):Cd (bS L dir up o).2.1:=by
 unfold bS;split
 ·exact ba rfl
 split
 ·exact Ge _ _ _
 split
 ·exact ba rfl
 ·exact pP _ _
theorem EI(dir:List UInt8):∀(l:List Int) (L:List Ob) (im:List (List Int)),Cd (bH dir l L im).1
 |[],L,im=>by unfold bH;exact ba rfl
 |id::r,L,im=>by
  unfold bH;split
  ·exact JV _ _ _ _
  ·exact EI dir r _ _
theorem Ov(L:List Ob)(id:Int)(dir:List UInt8):Cd (bY L id dir).2.1:=by
 unfold bY;split
 ·exact FP _ _
 split
 ·exact EI _ _ _ _
 ·show Cd (kC _).2;unfold kC;repeat' split
  all_goals exact ba rfl
theorem yH{f:Int->Int->List UInt8->List Fi->List Fi×Int}(h:∀r id p out,Cd (f r id p out).2)(pre:List UInt8):∀(l out:List Fi),Cd (fH f pre l out).2
 |[],out=>by unfold fH;exact ba rfl
 |x::l,out=>by
  unfold fH;split
  ·split
   ·exact yH h pre l _
   ·exact h _ _ _ _
  split
  ·exact ba rfl
  ·exact yH h pre l _
theorem Fg(L:List Ob)(has:Int->Int->Bool):∀(n:Nat) (r id:Int) (p:List UInt8) (out:List Fi),Cd (cS L has n r id p out).2
 |0,r,id,p,out=>by unfold cS;exact ba rfl
 |n+1,r,id,p,out=>by
  unfold cS;split
  ·exact ba rfl
  split
  ·exact yH (λr id p out=>Fg L has n r id p out) _ _ _
  ·exact sU _ _
theorem Fk(L:List Ob)(has:Int->Int->Bool)(r id:Int):Cd (dZ L has r id).2:=by
 unfold dZ;repeat' split
 ·exact ba rfl
 ·exact vE _ _
 ·exact Fg _ _ _ _ _ _ _
theorem q7(s:FS)(r:Int)(name:List UInt8):Cd (aK s r name).2:=by
 unfold aK;repeat' split
 all_goals exact ba rfl
theorem xB(l:List Rf)(name:List UInt8):Cd (dW l name):=sK _ _ _ _
theorem xb(s:FS)(r:Nat)(name:List UInt8)(id:Int):Cd (gp s r name id):=by
 unfold gp;split
 ·exact sK _ _ _ _
 ·exact u0 _ _ _
def Ir(id:Int):Prop:=0<=id/\id<=1000
theorem lf:Ir 0:=⟨by decide,(by decide:(0:Int)<=1000)⟩
theorem oo{L:List Ob}{id:Int}(a:ak L)(h:kindOf L id=3):Ir id:=by
 obtain⟨b,c⟩:=dC (l:=L) (id:=id) (by omega);have:=a.len;exact⟨by omega,by omega⟩
theorem MZ{L:List Ob}(b:ak L)(o:Ob):Ir (aB L o).1:=by
 have c:=b.len;unfold aB;split
 ·exact lf
 split
 ·exact lf
 split
 ·rename_i a;rcases qU (p:=λx=>decide (x=o)) (l:=L)with⟨h,_⟩|⟨i,h,e,_⟩
  ·rw[h]at a;exact absurd a (by decide)
  ·exact⟨a,by show bD _ L<=1000;rw[e];omega⟩
 split
 ·exact lf
 ·exact⟨by show(0:Int)<=L.length;omega,by show(L.length:Int)<=1000;omega⟩
theorem vR{L:List Ob}(a:ak L)(l:List It)(h:Int)(t:List UInt8)(o:List Int):Ir (bg L l h t o).1:=by
 unfold bg;repeat' split
 ·exact lf
 ·exact lf
 ·exact lf
 ·exact MZ (kJ a).1 _
structure bQ(e:cz):Prop where
 c:Cd e.code
 i:Ir e.id
 n:e.cf.length<=180
 l:∀p∈e.cf,p.length<=168
theorem bQ.code{c:Int}(h:Cd c):bQ ⟨c,0,[]⟩:=⟨h,lf,ar _,λp h=>by cases h⟩
theorem bQ.bO{id c:Int}(h:Cd c)(hi:c=0->Ir id):bQ (bO id c):=by
 unfold Go.Nest.bO;split
 ·exact .code h
 ·rename_i a;exact⟨ba rfl,hi (W.1 a),ar _,λp h=>by cases h⟩
variable {L0:List Ob} {s:FS} {n:Nat}
theorem Dv(a:FI L0 s n)(r:Nat)(id:Int):bQ (rq s r id):= .bO (HG _ _ _ _) λh=>by
 refine oo a.pool ?_;unfold fe at h;split at h
 ·cases h
 ·rename_i b;exact W.1 b
theorem LK(b:FI L0 s n){r:Nat}(hr:r<4)(base id:Int):bQ (mm s r base id):=by
 have hb:=G3 s.L (bu s.L base).1 (bu s.L (s.h r)).1 (bu s.L id).1;have a:=(b.qq r base id).dQ hr (a7 s r base id).out;unfold mm;refine av (P:=bQ) (λ_=>.code (wv _ _)) (λ_=>av (P:=bQ) (λ_=>.code (wv _ _)) (λ_=>av (P:=bQ) (λ_=>.code (wv _ _)) (λ_=>av (P:=bQ) (λ_=>.code hb.1) (λ_=>av (P:=bQ) (λ_=>?_) (λ_=>av (P:=bQ) (λ_=>.code (Ab _ _)) (λ_=>?_))))))
 ·exact⟨ba rfl,⟨Int.le_refl 0,(by decide:(0:Int)<=1000)⟩,hb.2.1,hb.2.2⟩
 ·unfold tM;exact av (P:=bQ) (λ_=>.code (Az _ _ _ _ _)) (λ_=>.bO (u0 _ _ _) λ_=>vR a.pool _ _ _ _)
theorem A4(b:FI L0 s n)(k:KA s)(x:ck):bQ (pc s x):=by
 have c:∀{r:Int} {a:List UInt8},¬(aK s r a).2≠0->Ir (aK s r a).1:=λ{r a} l=>by
  obtain⟨j,h,_,_,y,o,f⟩:=xd (W.1 l);rw[<-f];exact oo b.pool (k.ref j h y o)
 unfold pc;refine av (P:=bQ) (λ_=>.code (ba rfl)) (λ_=>av (P:=bQ) (λ_=>.code (ba rfl)) (λm=>?_));obtain⟨i,d,e⟩:=(bW (r:=x.r)).1 (by cases q:bC x.r;exact absurd q m;rfl);have e:x.r.toNat=i:=by omega
 rw[e];refine av (P:=bQ) (λ_=>?_) (λ_=>av (P:=bQ) (λ_=>?_) (λ_=>av (P:=bQ) (λ_=>?_) (λ_=>av (P:=bQ) (λ_=>?_) (λ_=>av (P:=bQ) (λ_=>?_) (λ_=>av (P:=bQ) (λ_=>?_) (λ_=>av (P:=bQ) (λ_=>?_) (λ_=>av (P:=bQ) (λ_=>?_) (λ_=>av (P:=bQ) (λ_=>?_) (λ_=>av (P:=bQ) (λ_=>?_) (λ_=>av (P:=bQ) (λ_=>?_) (λ_=>?_)))))))))))
 ·exact .bO (PH _ _ _) λ_=>lf
 ·exact .bO (Ng _ _) λ_=>lf
 ·unfold ra;exact av (P:=bQ) (λ_=>.code (q7 _ _ _)) (λg=>.bO (K5 _ _ _ _ _) λ_=>c g)
 ·unfold o8;exact av (P:=bQ) (λ_=>.code (xB _ _)) (λ_=>av (P:=bQ) (λ_=>.code (Az _ _ _ _ _)) (λ_=>.bO (xb _ _ _ _) λ_=>vR b.pool _ _ _ _))
 ·unfold qz;exact av (P:=bQ) (λ_=>.code (q7 _ _ _)) (λ_=>Dv b _ _)
 ·unfold rf;refine av (P:=bQ) (λ_=>.code (q7 _ _ _)) (λ_=>av (P:=bQ) (λ_=>.code (Ao _ _ _)) (λ_=>?_));unfold tL;exact av (P:=bQ) (λ_=>Dv (b.cZ (r:=i)) _ _) (λ_=>av (P:=bQ) (λ_=>.code (ba rfl)) (λ_=>av (P:=bQ) (λ_=>.code (Gp _ _ _)) (λ_=>LK (b.cZ (r:=i)) d _ _)))
 ·unfold qv;exact av (P:=bQ) (λ_=>.code (ba rfl)) (λg=>.bO (sK _ _ _ _) λ_=>oo b.pool ((b.work i d).head.k3 (by omega)))
 ·unfold qJ;exact av (P:=bQ) (λ_=>.code (q7 _ _ _)) (λg=>.bO (sK _ _ _ _) λ_=>c g)
 ·unfold sT;exact av (P:=bQ) (λ_=>.code (q7 _ _ _)) (λg=>av (P:=bQ) (λ_=>.code (xB _ _)) (λ_=>av (P:=bQ) (λ_=>.code (Ja _ _ _ _ _)) (λ_=>.bO (xb _ _ _ _) λ_=>c g)))
 ·exact .bO (G5 _ _ _) λ_=>lf
 ·unfold uy;refine av (P:=bQ) (λ_=>.code (ba rfl)) (λ_=>av (P:=bQ) (λ_=>.code (xB _ _)) (λ_=>av (P:=bQ) (λ_=>.code (Ov _ _ _)) (λg=>.bO (xb _ _ _ _) λ_=>?_)));exact oo (rM b.pool (s.h i) x.path).1 ((EM (dir:=x.path) (id:=s.h i) b.pool rfl).2.2.2.2 (W.1 g)).2.1
 ·exact .code (ba rfl)
def Hd(s:FS):Prop:=∀k,k<4→-1<=s.h k
theorem Hd.cC{s:FS}(h:Hd s){r:Nat}(hr:r<4){M:List Ob}{l:List It}{hd:Int}(a: -1<=s.h r→-1<=hd):Hd (s.cC r M l hd):=λk b=>by
 show-1<=aA s.h r hd k;rw[gb];split
 ·exact a (h r hr)
 ·exact h k b
theorem Hd.ej{s:FS}{n:Nat}(b:FI L0 s n)(h:Hd s){r:Nat}(hr:r<4)(t:List UInt8)(o:List Int):Hd (cH s r t o):=h.cC hr λa=>by
 have:=vR b.pool (s.w r) (s.h r) t o;unfold l8;split
 ·have:=this.1;omega
 ·exact a
theorem Hd.out{s:FS}{n:Nat}(c:FI L0 s n)(h:Hd s){r:Nat}(hr:r<4)(id:Int):Hd (jM s r id):=h.cC hr λb=>by
 unfold kV;split
 ·exact b
 ·rename_i a;unfold fe at a;split at a
  ·exact absurd (show(9:Int)≠0 by decide) a
  ·rename_i d;have:=(oo c.pool (W.1 d)).1;omega
theorem Hd.lead{s:FS}(h:Hd s)(r:Nat)(name:List UInt8)(id:Int):Hd (eG s r name id):=by
 unfold eG;split<;>exact h
theorem Hd.mix{s:FS}{n:Nat}(c:FI L0 s n)(h:Hd s){r:Nat}(hr:r<4)(base id:Int):Hd (jg s r base id):=by
 have b:=(c.qq r base id).dQ hr (a7 s r base id).out;have a:Hd (dQ (s.aY (a7 s r base id).L) r (a7 s r base id).out):=Hd.cC (s:=s.aY (a7 s r base id).L) h hr λh=>h;unfold jg;repeat' split
 any_goals first|exact h|exact a
 unfold pJ;split
 ·exact Hd.cC (Hd.ej b a hr _ _) hr λh=>h
 ·exact Hd.ej b a hr _ _
theorem Hd.step{s:FS}{n:Nat}(c:FI L0 s n)(h:Hd s)(x:ck):Hd (ko s x):=by
 unfold ko;refine av (P:=Hd) (λ_=>h) (λ_=>av (P:=Hd) (λ_=>h) (λd=>?_));obtain⟨i,a,e⟩:=(bW (r:=x.r)).1 (by cases q:bC x.r;exact absurd q d;rfl);have e:x.r.toNat=i:=by omega
 rw[e];refine av (P:=Hd) (λ_=>?_) (λ_=>av (P:=Hd) (λ_=>?_) (λ_=>av (P:=Hd) (λ_=>?_) (λ_=>av (P:=Hd) (λ_=>?_) (λ_=>av (P:=Hd) (λ_=>?_) (λ_=>av (P:=Hd) (λ_=>?_) (λ_=>av (P:=Hd) (λ_=>?_) (λ_=>av (P:=Hd) (λ_=>?_) (λ_=>av (P:=Hd) (λ_=>?_) (λ_=>av (P:=Hd) (λ_=>?_) (λ_=>av (P:=Hd) (λ_=>?_) (λ_=>?_)))))))))))
 ·exact h.cC a λh=>h
 ·exact h.cC a λh=>h
 ·unfold ow;exact av (P:=Hd) (λ_=>h) (λ_=>h.cC a λh=>h)
 ·unfold na;exact av (P:=Hd) (λ_=>h) (λ_=>av (P:=Hd) (λ_=>h.ej c a _ _) (λ_=>(h.ej c a _ _).lead _ _ _))
 ·unfold oa;exact av (P:=Hd) (λ_=>h) (λ_=>h.out c a _)
 ·unfold nG;have b:Hd (cZ s i):=h;refine av (P:=Hd) (λ_=>h) (λ_=>av (P:=Hd) (λ_=>b) (λ_=>?_));unfold pI;exact av (P:=Hd) (λ_=>b.out (c.cZ (r:=i)) a _) (λ_=>av (P:=Hd) (λ_=>b) (λ_=>av (P:=Hd) (λ_=>b) (λ_=>b.mix (c.cZ (r:=i)) a _ _)))
 ·unfold n5;exact av (P:=Hd) (λ_=>h) (λ_=>h)
 ·unfold od;exact av (P:=Hd) (λ_=>h) (λ_=>h)
 ·unfold pd;exact av (P:=Hd) (λ_=>h) (λ_=>av (P:=Hd) (λ_=>h) (λ_=>av (P:=Hd) (λ_=>h) (λ_=>Hd.lead (s:=s.dm (di s.L s.o s.b (i:Nat) x.q (aK s x.q x.name).1)) h _ _ _)))
 ·exact h
 ·unfold pZ;exact av (P:=Hd) (λ_=>h) (λ_=>av (P:=Hd) (λ_=>h) (λ_=>av (P:=Hd) (λ_=>h) (λ_=>Hd.lead (s:=s.aY (bY s.L (s.h i) x.path).2.2) h _ _ _)))
 ·exact h
end Go.Nest
end
