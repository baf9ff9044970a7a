/- part -/
import Derived.Test.YtpechfcbnoggfaaGreatDoorU0
import Derived.Test.YtpechfcbnoggfaaGreatDoorV1
import Derived.Test.YtpechfcbnoggfaaGreatDoorS3
import Derived.Test.YtpechfcbnoggfaaGreatDoorW4
import Derived.Test.YtpechfcbnoggfaaGreatDoorG10
import Derived.Test.YtpechfcbnoggfaaGreatDoorAmH
set_option linter.unusedVariables false
set_option linter.unusedSimpArgs false
section
namespace Go.Nest
open Go Go.AM
theorem dK.first{L:List Ob}{a b:Int}(h:dK L a b):b=a∨∃p∈(ab L a).parents,dK L p b:=by
 cases h with
 |refl=>exact .inl rfl
 |step c d=>exact .inr ⟨_,c,d⟩
theorem CX{L:List Ob}(a:ae L){id:Int}(hi:kindOf L id=3):0<(aO L id).length∧(aO L id)[(aO L id).length-1]? =some id:=by
 have d:id∈aO L id:=(ft a hi).2 (.refl id);obtain⟨i,b,e⟩:=List.mem_iff_getElem.1 d;refine⟨by omega,?_⟩;rw[List.getElem?_eq_getElem (by omega)];have f:(aO L id)[(aO L id).length-1]≤id:=((ft a hi).1 (List.getElem_mem (by omega))).le a;by_cases c:i=(aO L id).length-1
 ·subst c;rw[e]
 ·have:=List.pairwise_iff_getElem.1 (lT (L:=L) (id:=id)) i ((aO L id).length-1) b (by omega) (by omega);omega
end Go.Nest
end
section
namespace Go.Nest
open Go Go.AM
def ba(out:List Int)(id:Int):List Int:=if id∈out then out else out++[id]
def bI(im:List (List Int))(k:Int):List Int:=(im[k.toNat]?).getD []
def cn(im:List (List Int))(ks:List Int):List Int:=ks.foldl (fun out k=>(bI im k).foldl ba out) []
def bT(L:List Ob)(dir:List UInt8)(up:List Int)(o:Ob):List Int×Int×List Ob:=
 if(bt L o.tree dir).2=9 then(up,0,L)else if(bt L o.tree dir).2≠0 then([],(bt L o.tree dir).2,L)else
 if up.length=1∧(ab L (up.headD 0)).tree=(bt L o.tree dir).1 then(up,0,L)else
 ([(ao L (bE (bt L o.tree dir).1 up o.text)).1],(ao L (bE (bt L o.tree dir).1 up o.text)).2.1,(ao L (bE (bt L o.tree dir).1 up o.text)).2.2)
def bP(L:List Ob)(dir:List UInt8)(im:List (List Int))(id:Int):List Int×Int×List Ob:=bT L dir (cn im (ab L id).parents) (ab L id)
def aS(dir:List UInt8):List Int→List Ob→List (List Int)→Int×List Ob×List (List Int)
 |[],L,a=>(0,L,a)
 |id::r,L,a=>if(bP L dir a id).2.1≠0 then((bP L dir a id).2.1,(bP L dir a id).2.2,a)else aS dir r (bP L dir a id).2.2 (a.set id.toNat (bP L dir a id).1)
def jS(l:List Int):Int×Int:=if l.length=0 then(0,9)else if l.length=1 then(l.headD 0,0)else(0,5)
def aP(L:List Ob)(id:Int)(dir:List UInt8):Int×Int×List Ob:=
 if(b7 L id).2≠0 then(0,(b7 L id).2,L)else
 if(aS dir (b7 L id).1 L (List.replicate L.length [])).1≠0 then(0,(aS dir (b7 L id).1 L (List.replicate L.length [])).1,(aS dir (b7 L id).1 L (List.replicate L.length [])).2.1)else
 ((jS (bI (aS dir (b7 L id).1 L (List.replicate L.length [])).2.2 id)).1,(jS (bI (aS dir (b7 L id).1 L (List.replicate L.length [])).2.2 id)).2,(aS dir (b7 L id).1 L (List.replicate L.length [])).2.1)
theorem xm{L M:List Ob}(e:ae L)(f:L<+:M){a b:Int}(d:kindOf L a=3):dK M a b↔dK L a b:=by
 constructor
 ·intro h;induction h with
  |refl=>exact .refl _
  |step c _ ih=>
   rw[ext_get f (by omega)]at c;exact .step c (ih (mr e d c))
 ·intro h;induction h with
  |refl=>exact .refl _
  |step c _ ih=>
   refine .step ?_ (ih (mr e d c));rw[ext_get f (by omega)];exact c
theorem CU{L M:List Ob}(d:ae L)(f:ae M)(e:L<+:M){a:Int}(c:kindOf L a=3):b7 M a=b7 L a:=by
 have b:kindOf M a=3:=by rw[dy e (by omega)];exact c
 unfold b7;rw[if_pos c,if_pos b];have:aO M a=aO L a:=qf lT lT fun k=>by rw[ft f b,ft d c,xm d e c]
 rw[this]
theorem jC{L:List Ob}(e:ae L){j:Int}(c:kindOf L j=3):kindOf L (ab L j).tree=2:=by
 obtain⟨a,b⟩:=bJ (l:=L) (id:=j) (by omega);have:=(e.obj (ab L j) (by rw[jg a b];exact List.getElem_mem _)).2;have d:=cH (l:=L) (id:=j);unfold dH at this;rw[Bool.and_eq_true,Bool.and_eq_true]at this;have:=this.2.2;rw[d,c]at this;simpa using this
theorem mQ{L M:List Ob}(c:ae L)(b:L<+:M):∀{ds:List (List UInt8)} {t:Int},¬kindOf L t=0→bR M t ds=bR L t ds
 |[],t,h=>rfl
 |d::ds,t,h=>by
  unfold bR;rw[dy b h,ext_get b h];split
  ·rfl
  ·rename_i a;have a:=Decidable.not_not.1 a;cases e:(ab L t).entries.find? (isDir d)with
   |none=>rfl
   |some x=>
    have f:=List.mem_of_find?_eq_some e;have q:=(gg c a).2 x f;have g:=q.m1;have i:=q.kind;exact mQ c b (by omega)
theorem nL{L M:List Ob}(a:ae L)(b:L<+:M){t:Int}(h:¬kindOf L t=0)(dir:List UInt8):bt M t dir=bt L t dir:=by
 unfold bt;rw[mQ a b h]
def jt(L:List Ob)(l:List Int):Prop:=∀x∈l,kindOf L x=3
theorem jt.mono{L M:List Ob}(b:L<+:M){l:List Int}(h:jt L l):jt M l:=fun x a=>by
 have:=h x a;rw[dy b (by omega)];exact this
theorem xf{x id:Int}{out:List Int}:x∈ba out id↔x∈out∨x=id:=by
 unfold ba;split
 ·rename_i h;constructor
  ·exact .inl
  ·rintro(a|rfl)
   ·exact a
   ·exact h
 ·simp
theorem mP{x:Int}:∀{l out:List Int},x∈l.foldl ba out↔x∈out∨x∈l
 |[],out=>by simp
 |a::l,out=>by
  rw[List.foldl_cons,mP,xf,List.mem_cons,or_assoc]
theorem Co{x:Int}{im:List (List Int)}:∀{ks out:List Int},x∈ks.foldl (fun out k=>(bI im k).foldl ba out) out↔x∈out∨∃k∈ks,x∈bI im k
 |[],out=>by simp
 |a::l,out=>by
  rw[List.foldl_cons,Co,mP,or_assoc];simp
theorem qy{x:Int}{im:List (List Int)}{ks:List Int}:x∈cn im ks↔∃k∈ks,x∈bI im k:=by
 unfold cn;rw[Co];simp
def dD(P:Int→Prop)(im:List (List Int)):Prop:=∀k,∀x∈bI im k,P x
theorem dD.up{P:Int→Prop}{im:List (List Int)}(h:dD P im){ks:List Int}:∀x∈cn im ks,P x:=fun x b=>by
 obtain⟨k,-,a⟩:=qy.1 b;exact h k x a
theorem dD.put{P:Int→Prop}{im:List (List Int)}(h:dD P im){n:Nat}{v:List Int}(hv:∀x∈v,P x):dD P (im.set n v):=fun k x a=>by
 unfold bI at a;rw[List.getElem?_set]at a;split at a
 ·split at a
  ·exact hv x a
  ·cases a
 ·exact h k x a
theorem dD.start{P:Int→Prop}{n:Nat}:dD P (List.replicate n []):=fun k x a=>by
 unfold bI at a;rw[List.getElem?_replicate]at a;split at a<;>cases a
theorem dD.mono{P Q:Int→Prop}{im:List (List Int)}(h:dD P im)(a:∀x,P x→Q x):dD Q im:=fun k x b=>a x (h k x b)
theorem lq{L:List Ob}(a:ae L){dir:List UInt8}{up:List Int}{o:Ob}:ae (bT L dir up o).2.2∧L<+:(bT L dir up o).2.2∧((bT L dir up o).2.1≠0→(bT L dir up o).2.2=L):=by
 unfold bT;split
 ·exact⟨a,List.prefix_refl _,fun _=>rfl⟩
 split
 ·exact⟨a,List.prefix_refl _,fun _=>rfl⟩
 split
 ·exact⟨a,List.prefix_refl _,fun _=>rfl⟩
 ·exact⟨fK a _,dS _,oK⟩
theorem pE{l:List Int}(h:l.length=1):l.headD 0∈l:=by
 obtain⟨x,rfl⟩:=List.length_eq_one_iff.1 h;simp
theorem F8{L:List Ob}(i:ae L){dir:List UInt8}{up:List Int}{o:Ob}(q:kindOf L o.tree=2)(j:jt L up){M:List Ob}(n:ae M)(c:(bT L dir up o).2.2<+:M)(hc:(bT L dir up o).2.1≠0→M=(bT L dir up o).2.2):
  bT M dir up o=((bT L dir up o).1,(bT L dir up o).2.1,M):=by
 have b:L<+:M:=(lq i).2.1.trans c;have k:bt M o.tree dir=bt L o.tree dir:=nL i b (by omega) dir;unfold bT at c hc⊢;rw[k];split
 ·rfl
 rename_i l;rw[if_neg l]at c hc;split
 ·rfl
 rename_i m;rw[if_neg m]at c hc;by_cases a:up.length=1∧(ab L (up.headD 0)).tree=(bt L o.tree dir).1
 ·have p:=j _ (pE a.1);rw[if_pos a,if_pos ⟨a.1,by rw[ext_get b (by omega)];exact a.2⟩]
 ·have g : ¬ (up.length = 1 ∧ (ab M (up.headD 0)).tree = (bt L o.tree dir).1) := fun f => a ⟨f.1,by
   have p:=j _ (pE f.1);rw[ext_get b (by omega)]at f;exact f.2⟩
  rw[if_neg a,if_neg g];rw[if_neg a]at c hc;dsimp only at c hc⊢;by_cases d:(ao L (bE (bt L o.tree dir).1 up o.text)).2.1=0
  ·have:=(Bl (fun h=>by cases h) d n c).1;rw[this,d]
  ·have e:=oK d;have:=hc d;rw[e]at this;subst this;rw[e]
theorem u4{L:List Ob}(f:ae L){dir:List UInt8}{up:List Int}{o:Ob}(b:jt L up)(hc:(bT L dir up o).2.1=0):jt (bT L dir up o).2.2 (bT L dir up o).1:=by
 unfold bT at hc⊢;split
 ·exact b
 rename_i d;rw[if_neg d]at hc;split
 ·rename_i a;rw[if_pos a]at hc;exact absurd hc a
 rename_i a;rw[if_neg a]at hc;split
 ·exact b
 rename_i e;rw[if_neg e]at hc;intro x c;rw[List.mem_singleton]at c;subst c;have:=(gG hc).2;dsimp only;rw[←cH,this];rfl
def j6(im im2:List (List Int)):Prop:=∀n:Nat,(im[n]?).getD []=(im2[n]?).getD []
theorem j6.at{im im2:List (List Int)}(h:j6 im im2)(k:Int):bI im k=bI im2 k:=h k.toNat
theorem j6.up{im im2:List (List Int)}(h:j6 im im2)(ks:List Int):cn im ks=cn im2 ks:=by
 unfold cn;have:(fun out k=>(bI im k).foldl ba out)=(fun(out:List Int) k=>(bI im2 k).foldl ba out):=by funext out k;rw[h.at]
 rw[this]
theorem j6.put{im im2:List (List Int)}(h:j6 im im2){n:Nat}(h1:n<im.length)(h2:n<im2.length)(v:List Int):j6 (im.set n v) (im2.set n v):=fun k=>by
 rw[List.getElem?_set,List.getElem?_set];by_cases e:n=k
 ·rw[if_pos e,if_pos e,if_pos h1,if_pos h2]
 ·rw[if_neg e,if_neg e];exact h k
theorem zK{L:List Ob}(b:ae L){dir:List UInt8}{im:List (List Int)}{id:Int}(hk:kindOf L id=3)(hi:dD (fun x=>kindOf L x=3) im){M:List Ob}(d:ae M)(c:(bP L dir im id).2.2<+:M)
  (hc:(bP L dir im id).2.1≠0→M=(bP L dir im id).2.2){im2:List (List Int)}(he:j6 im im2):bP M dir im2 id=((bP L dir im id).1,(bP L dir im id).2.1,M):=by
 have a:L<+:M:=(lq b).2.1.trans c;unfold bP at c hc⊢;rw[ext_get a (by omega),←he.up];exact F8 b (jC b hk) hi.up d c hc
theorem qn{dir:List UInt8}:∀{l:List Int} {L:List Ob} {im:List (List Int)},ae L→ae (aS dir l L im).2.1∧L<+:(aS dir l L im).2.1
 |[],L,im,h=>⟨h,List.prefix_refl _⟩
 |id::r,L,im,h=>by
  obtain⟨a,b,-⟩:=lq h (dir:=dir) (up:=cn im (ab L id).parents) (o:=ab L id);unfold aS;split
  ·exact⟨a,b⟩
  ·obtain⟨c,d⟩:=qn (l:=r) (im:=im.set id.toNat (bP L dir im id).1) a;exact⟨c,b.trans d⟩
theorem B1{dir:List UInt8}:∀{l:List Int} {L:List Ob} {im:List (List Int)},ae L→jt L l→dD (fun x=>kindOf L x=3) im→(∀x∈l,x.toNat<im.length)→
  ∀{M:List Ob} {im2:List (List Int)},ae M→(aS dir l L im).2.1<+:M→((aS dir l L im).1≠0→M=(aS dir l L im).2.1)→j6 im im2→(∀x∈l,x.toNat<im2.length)→
  (aS dir l M im2).1=(aS dir l L im).1∧(aS dir l M im2).2.1=M∧((aS dir l L im).1=0→j6 (aS dir l L im).2.2 (aS dir l M im2).2.2)
 |[],L,im,g,_,_,_,M,im2,i,a,c,d,_=>⟨rfl,rfl,fun _=>d⟩
 |id::r,L,im,g,k,j,q,M,im2,i,a,c,d,f=>by
  obtain⟨n,p,t⟩:=lq g (dir:=dir) (up:=cn im (ab L id).parents) (o:=ab L id);unfold aS at a c⊢;by_cases b:(bP L dir im id).2.1≠0
  ·rw[if_pos b]at a c⊢;have e:=zK g (k id (by simp)) j i a (fun _=>c b) d;rw[e];dsimp only;rw[if_pos b];exact⟨rfl,rfl,fun h=>absurd h b⟩
  ·rw[if_neg b]at a c⊢;have m:=(qn (dir:=dir) (l:=r) (im:=im.set id.toNat (bP L dir im id).1) n).2;have e:=zK g (k id (by simp)) j i (m.trans a) (fun h=>absurd h b) d;rw[e];dsimp only;rw[if_neg b];have s:=u4 g (dir:=dir) (up:=cn im (ab L id).parents) (o:=ab L id) j.up (Decidable.not_not.1 b);refine B1 n (fun x a=>(k.mono p) x (by simp[a])) (dD.put (j.mono fun x a=>by rw[dy p (by omega)];exact a) s) (fun x a=>by rw[List.length_set];exact q x (by simp[a])) i a c (d.put (q id (by simp)) (f id (by simp)) _) (fun x a=>by rw[List.length_set];exact f x (by simp[a]))
def Good(L:List Ob)(line:Int→Prop)(dir:List UInt8)(x:Int):Prop:=kindOf L x=3∧∀y,dK L x y→∃j,line j∧kindOf L j=3∧bt L (ab L j).tree dir=((ab L y).tree,0)
theorem Good.mono{L M:List Ob}(e:ae L)(d:L<+:M){line:Int→Prop}{dir:List UInt8}{x:Int}(h:Good L line dir x):Good M line dir x:=by
 obtain⟨g,i⟩:=h;refine⟨by rw[dy d (by omega)];exact g,fun y f=>?_⟩;have f:=(xm e d g).1 f;have k:=f.kind e g;obtain⟨j,a,b,c⟩:=i y f;have l:=jC e b;refine⟨j,a,by rw[dy d (by omega)];exact b,?_⟩;rw[ext_get d (by omega),ext_get d (by omega),nL e d (by omega),c]
theorem F6{L:List Ob}(d:ae L){line:Int→Prop}{dir:List UInt8}{up:List Int}{id:Int}(hid:line id)(hk:kindOf L id=3)(e:∀x∈up,Good L line dir x)(hc:(bT L dir up (ab L id)).2.1=0):
  ∀x∈(bT L dir up (ab L id)).1,Good (bT L dir up (ab L id)).2.2 line dir x:=by
 have m:=jC d hk;unfold bT at hc⊢;split
 ·exact e
 rename_i h;rw[if_neg h]at hc;split
 ·rename_i b;rw[if_pos b]at hc;exact absurd hc b
 rename_i b;rw[if_neg b]at hc;have b:=Decidable.not_not.1 b;split
 ·exact e
 rename_i i;rw[if_neg i]at hc;intro x f;rw[List.mem_singleton]at f;subst f;have c:=(gG hc).2;have a:=dS (L:=L) (bE (bt L (ab L id).tree dir).1 up (ab L id).text);dsimp only;refine⟨by rw[←cH,c];rfl,fun y j=>?_⟩;rcases j.first with rfl|⟨p,g,l⟩
 ·refine⟨id,hid,by rw[dy a (by omega)];exact hk,?_⟩;rw[c,ext_get a (k:=id) (by omega),nL d a (by omega)];exact Prod.ext rfl b
 ·rw[c]at g;exact((e p g).mono d a).2 y l
theorem B3{dir:List UInt8}{line:Int→Prop}:∀{l:List Int} {L:List Ob} {im:List (List Int)},ae L→jt L l→(∀x∈l,line x)→dD (Good L line dir) im→(aS dir l L im).1=0→dD (Good (aS dir l L im).2.1 line dir) (aS dir l L im).2.2
 |[],L,im,d,_,_,c,_=>c
 |id::r,L,im,d,f,g,c,b=>by
  obtain⟨i,e,j⟩:=lq d (dir:=dir) (up:=cn im (ab L id).parents) (o:=ab L id);unfold aS at b⊢;split at b
  ·exact absurd b ‹_›
  rename_i h;rw[if_neg h];refine B3 i (fun x a=>(f.mono e) x (by simp[a])) (fun x a=>g x (by simp[a])) (dD.put (c.mono fun x a=>a.mono d e) ?_) b;exact F6 d (g id (by simp)) (f id (by simp)) c.up (Decidable.not_not.1 h)
theorem F9{L:List Ob}{dir:List UInt8}{up:List Int}{o:Ob}{t:Int}(b:bt L o.tree dir=(t,0))(hc:(bT L dir up o).2.1=0):∃x,(bT L dir up o).1=[x]∧(ab (bT L dir up o).2.2 x).tree=t:=by
 unfold bT at hc⊢;rw[b]at hc⊢;rw[if_neg (by simp),if_neg (by simp)]at hc⊢;split
 ·rename_i a;obtain⟨x,rfl⟩:=List.length_eq_one_iff.1 a.1;exact⟨x,rfl,a.2⟩
 ·rename_i a;rw[if_neg a]at hc;refine⟨_,rfl,?_⟩;dsimp only;rw[(gG hc).2];rfl
theorem B5{dir:List UInt8}:∀{l:List Int} {L:List Ob} {im:List (List Int)} (hne:l≠[]),ae L→jt L l→dD (fun x=>kindOf L x=3) im→(∀x∈l,x.toNat<im.length)→(aS dir l L im).1=0→
  ∀t,bt L (ab L (l.getLast hne)).tree dir=(t,0)→∃x,bI (aS dir l L im).2.2 (l.getLast hne)=[x]∧(ab (aS dir l L im).2.1 x).tree=t
 |[id],L,im,hne,c,i,h,k,a,t,g=>by
  unfold aS at a⊢;split at a
  ·exact absurd a ‹_›
  rename_i e;rw[if_neg e];obtain⟨x,q,s⟩:=F9 (up:=cn im (ab L id).parents) g (Decidable.not_not.1 e);refine⟨x,?_,s⟩;unfold aS bI;rw[List.getLast_singleton,List.getElem?_set,if_pos rfl,if_pos (k id (by simp))];exact q
 |id::b::r,L,im,hne,c,i,h,k,a,t,g=>by
  obtain⟨m,f,u⟩:=lq c (dir:=dir) (up:=cn im (ab L id).parents) (o:=ab L id);unfold aS at a⊢;split at a
  ·exact absurd a ‹_›
  rename_i e;rw[if_neg e];rw[List.getLast_cons (by simp)]at g⊢;have p:=u4 c (dir:=dir) (up:=cn im (ab L id).parents) (o:=ab L id) h.up (Decidable.not_not.1 e);have j:=i ((b::r).getLast (by simp)) (List.mem_cons_of_mem _ (List.getLast_mem _));have n:=jC c j;refine B5 (l:=b::r) (by simp) m (fun x d=>(i.mono f) x (List.mem_cons_of_mem _ d)) (dD.put (h.mono fun x d=>by rw[dy f (by omega)];exact d) p) (fun x d=>by rw[List.length_set];exact k x (List.mem_cons_of_mem _ d)) a t ?_;rw[ext_get f (by omega),nL c f (by omega)];exact g
theorem xl{L:List Ob}(d:ae L){id:Int}(hi:kindOf L id=3):∃h:aO L id≠[],(aO L id).getLast h=id:=by
 obtain⟨b,c⟩:=CX d hi;have a:aO L id≠[]:=fun e=>by rw[e]at b;cases b
 refine⟨a,?_⟩;rw[List.getLast_eq_getElem];rw[List.getElem?_eq_getElem (by omega)]at c;exact Option.some.inj c
theorem wG{L:List Ob}(a:ae L){id:Int}{dir:List UInt8}{x c:Int}{M:List Ob}(e:aP L id dir=(x,c,M)):
  ae M∧L<+:M∧(c≠0→x=0)∧aP M id dir=(x,c,M)∧
  (c=0→kindOf M id=3∧kindOf M x=3∧(∀t,bt M (ab M id).tree dir=(t,0)→(ab M x).tree=t)∧∀y∈(b7 M x).1,∃j∈(b7 M id).1,bt M (ab M j).tree dir=((ab M y).tree,0)):=by
 unfold aP at e;by_cases f:kindOf L id=3
 ·have p:b7 L id=(aO L id,0):=if_pos f;rw[p,if_neg (by simp)]at e;have g:jt L (aO L id):=fun y b=>((ft a f).1 b).kind a f
  have k:∀y∈aO L id,y.toNat<(List.replicate L.length ([]:List Int)).length:=fun y b=>by
   rw[List.length_replicate];have:=g y b;exact(bJ (l:=L) (id:=y) (by omega)).2
  obtain⟨q,m⟩:=qn (dir:=dir) (l:=aO L id) (im:=List.replicate L.length []) a
  have ag:=B1 (dir:=dir) a g dD.start k (M:=(aS dir (aO L id) L (List.replicate L.length [])).2.1) (im2:=List.replicate (aS dir (aO L id) L (List.replicate L.length [])).2.1.length []) q (List.prefix_refl _) (fun _=>rfl)
   (fun n=>by
    rw[List.getElem?_replicate,List.getElem?_replicate];split <;> split <;> rfl) (fun y b=>by
    have v:=k y b;rw[List.length_replicate]at v⊢;exact Nat.lt_of_lt_of_le v m.length_le)
  have r:=B3 (dir:=dir) (line:=fun j=>j∈aO L id) (l:=aO L id) a g (fun y b=>b) (im:=List.replicate L.length []) dD.start;have o:=B5 (dir:=dir) (l:=aO L id) (im:=List.replicate L.length []) (xl a f).choose a g dD.start k;rw[(xl a f).choose_spec]at o;have w:b7 (aS dir (aO L id) L (List.replicate L.length [])).2.1 id=(aO L id,0):=by rw[CU a q m f,p]
  generalize Y:aS dir (aO L id) L (List.replicate L.length [])=G at*;obtain⟨H,K,E⟩:=G;dsimp only at q m ag r o w e
  have F:M=K:=by
   split at e
   ·exact(congrArg (·.2.2) e).symm
   ·exact(congrArg (·.2.2) e).symm
  subst F;obtain⟨N,O,P⟩:=ag;have D:kindOf M id=3:=by rw[dy m (by omega)];exact f
  refine⟨q,m,fun z=>?_,?_,fun z=>?_⟩
  ·split at e
   ·exact(congrArg (·.1) e).symm
   ·unfold jS at e;split at e
    ·exact(congrArg (·.1) e).symm
    split at e
    ·exact absurd (congrArg (·.2.1) e).symm z
    ·exact(congrArg (·.1) e).symm
  ·unfold aP;rw[w,if_neg (by simp)];dsimp only;rw[N,O];by_cases d:H≠0
   ·rw[if_pos d]at e⊢;exact e
   ·rw[if_neg d]at e⊢;rw[←(P (Decidable.not_not.1 d)).at];exact e
  ·have d:H=0:=by
    refine Decidable.byContradiction fun d=>?_;rw[if_pos d]at e;exact d ((congrArg (·.2.1) e).trans z)
   rw[if_neg (by simpa using d)]at e;have r:=r d
   have i:bI E id=[x]:=by
    unfold jS at e;split at e
    ·have:=congrArg (·.2.1) e;dsimp only at this;omega
    split at e
    ·rename_i v;obtain⟨u,S⟩:=List.length_eq_one_iff.1 v;rw[S]at e⊢;rw[show u=x from congrArg (·.1) e]
    ·have:=congrArg (·.2.1) e;dsimp only at this;omega
   have s:=r id x (by rw[i];simp);refine⟨D,s.1,fun t I=>?_,fun y b=>?_⟩
   ·have R:=jC a f;rw[ext_get m (by omega),nL a m (by omega)]at I;obtain⟨u,J,W⟩:=o d t I;rw[i]at J;obtain rfl:x=u:=by simpa using J
    exact W
   ·have Q:b7 M x=(aO M x,0):=if_pos s.1;rw[Q]at b;obtain⟨j,T,Z,U⟩:=s.2 y ((ft q s.1).1 b);exact⟨j,by rw[w];exact T,U⟩
 ·have p:b7 L id=([],9):=if_neg f;rw[p,if_pos (by simp)]at e
  obtain⟨rfl,rfl,rfl⟩:x=0∧c=9∧M=L:=by
   refine⟨(congrArg (·.1) e).symm,(congrArg (·.2.1) e).symm,(congrArg (·.2.2) e).symm⟩
  refine⟨a,List.prefix_refl _,fun _=>rfl,?_,fun h=>by cases h⟩;unfold aP;rw[p,if_pos (by simp)]
end Go.Nest
end
section
namespace Go.Nest
open Go Go.AM Go.Proofs
open Go.Proofs.YtpechfcbnoggfaaGreatDoor (tab tabOk)
set_option maxRecDepth 4000
theorem lS{n:Nat}:∀{l out:List Int},out.Nodup→(∀x∈out,0≤x∧x<n)→(∀x∈l,0≤x∧x<n)→(l.foldl ba out).Nodup∧∀x∈l.foldl ba out,0≤x∧x<n
 |[],out,c,d,_=>⟨c,d⟩
 |a::l,out,c,d,f=>by
  rw[List.foldl_cons];refine lS ?_ (fun x b=>?_) (fun x b=>f x (by simp[b]))
  ·unfold ba;split
   ·exact c
   ·rename_i h;rw[List.nodup_append];exact⟨c,by simp,fun x b y g=>by rw[List.mem_singleton]at g;subst g;exact fun e=>h (e▸b)⟩
  ·rcases xf.1 b with b|rfl
   ·exact d x b
   ·exact f x (by simp)
theorem Cp{n:Nat}{im:List (List Int)}(hi:∀k,∀x∈bI im k,0≤x∧x<n):∀{ks out:List Int},out.Nodup→(∀x∈out,0≤x∧x<n)→(ks.foldl (fun out k=>(bI im k).foldl ba out) out).Nodup∧∀x∈ks.foldl (fun out k=>(bI im k).foldl ba out) out,0≤x∧x<n
 |[],out,c,d=>⟨c,d⟩
 |k::ks,out,c,d=>by
  rw[List.foldl_cons];obtain⟨a,b⟩:=lS c d (hi k);exact Cp hi a b
structure Fit(im:List (List Int)):Prop where
 len:∀k,(bI im k).length≤600
 all:∀k,∀x∈bI im k,0≤x∧x<(600:Nat)
theorem sZ{im:List (List Int)}(hi:Fit im)(ks:List Int):(cn im ks).Nodup∧(cn im ks).length≤600∧∀x∈cn im ks,0≤x∧x<(600:Nat):=by
 obtain⟨a,b⟩:=Cp (n:=600) hi.all (ks:=ks) (out:=[]) List.nodup_nil (fun x h=>by cases h);exact⟨a,iR 600 a b,b⟩
theorem Ks{im:List (List Int)}{ks:List Int}{i:Nat}(h:i<ks.length):cn im (ks.take (i+1))=(bI im ks[i]).foldl ba (cn im (ks.take i)):=by
 unfold cn;rw[List.take_succ_eq_append_getElem h,List.foldl_append];rfl
theorem o3{l out:List Int}{j:Nat}(h:j<l.length):(l.take (j+1)).foldl ba out=ba ((l.take j).foldl ba out) l[j]:=by
 rw[List.take_succ_eq_append_getElem h,List.foldl_append];rfl
theorem Iq(L:List Ob)(dir:List UInt8)(im:List (List Int))(o:Ob)(z:o.parents.length≤3)(hk:∀k∈o.parents,0≤k∧k.toNat<im.length)(hi:Fit im):ai Tryz.prog 283 [.c (.bp [.bp [.bs 6 Ob ak L],.str dir,.bs 1 (List Int) (bG 1 encI) im]),.st (ak o)] [] (Rt (.c (.rw 0)) [.row 1 Int encI (cn im o.parents)]):=by
 refine an (n:=40) (n0:=0) tabOk Tryz.call283 Tryz.func283 ?_;intro hb;(conv=>whnf);refine lp Nat (fun i=>⟨[(0,.c (.bp [.bp [.bs 6 Ob ak L],.str dir,.bs 1 (List Int) (bG 1 encI) im])),(5,.c (.rw 0)),(11,.c (.bs 1 Int encI o.parents)),(12,.c (.int .i64 o.parents.length)),(13,.c (.int .i64 i))],[.row 1 Int encI (cn im (o.parents.take i))]⟩) (fun i=>i≤o.parents.length∧True) (fun i=>o.parents.length-i) 0 [] [.new] ?_ ?_ (fun i v=>?_)
 ·simp
 ·repeat' first|exact trivial|exact rfl|refine And.intro ?_ ?_
 (conv=>whnf);refine dec (fun t=>?_) (fun t=>?_)
 ·have d:i<o.parents.length:=by omega
  have p:=Ks (im:=im) d;obtain⟨w,r⟩:=hk _ (List.getElem_mem d);obtain⟨E,-,F⟩:=sZ hi (o.parents.take i);generalize cn im (o.parents.take i)=out at*;(conv=>whnf);refine⟨i,o.parents[i],rfl,List.getElem?_eq_getElem d,?_⟩;generalize o.parents[i]=k at*;have m:im[k.toNat]? =some im[k.toNat]:=List.getElem?_eq_getElem r;have s:bI im k=im[k.toNat]:=by unfold bI;rw[m];rfl
  have g:=hi.all k;have q:=hi.len k;rw[s]at p g q;generalize im[k.toNat]=a at*;(conv=>whnf);refine⟨k.toNat,a,by omega,m,?_⟩;(conv=>whnf);refine lp Nat (fun j=>⟨[(0,.c (.bp [.bp [.bs 6 Ob ak L],.str dir,.bs 1 (List Int) (bG 1 encI) im])),(5,.c (.rw 0)),(11,.c (.bs 1 Int encI o.parents)),(12,.c (.int .i64 o.parents.length)),(13,.c (.int .i64 i)),(23,.c (.bs 1 Int encI a)),(24,.c (.int .i64 a.length)),(25,.c (.int .i64 j))],[.row 1 Int encI ((a.take j).foldl ba out)]⟩) (fun j=>j≤a.length∧True) (fun j=>a.length-j) 0 [] [.same 0] ?_ ?_ (fun j J=>?_)
  ·simp
  ·repeat' first|exact trivial|exact rfl|refine And.intro ?_ ?_
  (conv=>whnf);refine dec (fun u=>?_) (fun u=>?_)
  ·have b:j<a.length:=by omega
   have e:=o3 (out:=out) b;obtain⟨H,I⟩:=lS (l:=a.take j) E F (fun x D=>g x (List.mem_of_mem_take D));have K:=iR 600 H I;generalize (a.take j).foldl ba out=o2 at*;(conv=>whnf);refine⟨j,a[j],rfl,List.getElem?_eq_getElem b,?_⟩;generalize a[j]=y at*;(conv=>whnf);refine cl [] [] (gC o2 y) ?_;(conv=>whnf);refine aW (fun f=>?_) (fun f=>?_)
   ·have f:y∉o2:=fun h=>by rw[eP.2 h]at f;cases f
    rw[show ba o2 y=o2++[y]from if_neg f]at e;(conv=>whnf);refine⟨[y],rfl,?_⟩;(conv=>whnf);refine⟨_,_,rfl,rfl,(by simp only[List.length_append,List.length_cons,List.length_nil];omega),?_⟩;repeat'((conv=>whnf);refine I6 ?_)
    refine ag (j+1) [] [.same 2] ⟨b,trivial⟩ (by simp only[];omega) ?_;rw[e];repeat' first|exact trivial|exact rfl|refine And.intro ?_ ?_
   ·have f:y∈o2:=eP.1 (by simpa using f);rw[show ba o2 y=o2 from if_pos f]at e;repeat'((conv=>whnf);refine I6 ?_)
    refine ag (j+1) [] [.same 0] ⟨b,trivial⟩ (by simp only[];omega) ?_;rw[e];repeat' first|exact trivial|exact rfl|refine And.intro ?_ ?_
  ·obtain rfl:j=a.length:=by omega
   rw[List.take_length];repeat'((conv=>whnf);refine I6 ?_)
   refine ag (i+1) [] [.same 0] ⟨d,trivial⟩ (by simp only[];omega) ?_;rw[p];repeat' first|exact trivial|exact rfl|refine And.intro ?_ ?_
 ·obtain rfl:i=o.parents.length:=by omega
  rw[List.take_length];(conv=>whnf);exact rx [] [.same 0]
theorem Ga(L:List Ob)(m:ae L)(dir:List UInt8)(hd:dir.length≤4000000)(im:List (List Int))(o:Ob)(p:o.parents.length≤3)(hk:∀k∈o.parents,0≤k∧k.toNat<im.length)(hi:Fit im):ai Tryz.prog 219 [.c (.ptr 0 0),.st (ak o)] [.box [.ptr 1 0,.str dir,.rw 3],.box [.rw 2],.row 6 Ob ak L,.row 1 (List Int) (bG 1 encI) im] (Rt (.aL [(false,[.rw 5]),(false,[.int .i64 (bT L dir (cn im o.parents) o).2.1])]) [.box [.ptr 1 0,.str dir,.rw 3],.box [.rw 4],.dead,.row 1 (List Int) (bG 1 encI) im,.row 6 Ob ak (bT L dir (cn im o.parents) o).2.2,.row 1 Int encI (bT L dir (cn im o.parents) o).1]):=by
 have w:=Iq L dir im o p hk hi;have v:=(sZ hi o.parents).2.1;have y:=(sZ hi o.parents).2.2;generalize cn im o.parents=up at*;have q:=C5 L m o.tree dir hd;refine an (n:=72) (n0:=4) tabOk Tryz.call219 Tryz.func219 ?_;intro hb;rcases a:bt L o.tree dir with⟨t,c⟩
 rw[a]at q;dsimp only at q;have s:c=9→bT L dir up o=(up,0,L):=fun h=>by unfold bT;rw[a];exact if_pos h
 have u:c≠9→c≠0→bT L dir up o=([],c,L):=fun d b=>by unfold bT;rw[a,if_neg d,if_pos b]
 have g:c=0→(up.length=1∧(ab L (up.headD 0)).tree=t)→bT L dir up o=(up,0,L):=fun d b=>by unfold bT;subst d;rw[a];exact(if_neg (fun h=>by cases h)).trans ((if_neg (fun h=>h rfl)).trans (if_pos b))
 have f:c=0→¬(up.length=1∧(ab L (up.headD 0)).tree=t)→bT L dir up o=([(ao L (bE t up o.text)).1],(ao L (bE t up o.text)).2.1,(ao L (bE t up o.text)).2.2):=fun d b=>by unfold bT;subst d;rw[a];exact(if_neg (fun h=>by cases h)).trans ((if_neg (fun h=>h rfl)).trans (if_neg b))
 have r:=qd L (bE t up o.text) m.len;generalize bT L dir up o=R at*;(conv=>whnf);refine cl [] [] (w) ?_;(conv=>whnf);refine⟨false,.grow,(.l [0,1,2,3,4,5,6,7,8,9,10,11,12,13,14,15]),by kernel_rfl,.inl ?_⟩;(conv=>whnf);refine cl [] [] (q) ?_;(conv=>whnf);refine dec (fun d=>?_) (fun d=>?_)
 ·obtain rfl:=s d;(conv=>whnf);exact rx [] [.same 0,.same 1,.same 2,.same 3,.same 2,.same 5]
 (conv=>whnf);refine ay (fun b=>?_) (fun b=>?_)
 ·obtain rfl:=u d b;(conv=>whnf);exact rx [] [.same 0,.same 1,.same 2,.same 3,.same 2,.new]
 have f:=f b;have g:=g b;(conv=>whnf);refine dec (fun i=>?_) (fun i=>?_)
 ·obtain⟨x,rfl⟩:=List.length_eq_one_iff.1 (show up.length=1 by have i:(up.length:Int)=1:=i;omega);(conv=>whnf);refine⟨false,.grow,(.alt [0,1,2,3,4,5,6] [7,11] fun j=>bif Nat.beq j 7 then(.l [8,9,10,11,12,13])else bif Nat.beq j 11 then(.l [7,8,9,10,12,13])else .l []),by kernel_rfl,.inl ?_⟩;(conv=>whnf);refine⟨0,⟨rfl,Nat.one_pos⟩,?_⟩;(conv=>whnf);refine⟨x,rfl,?_⟩;refine And.intro ?_ ?_
  ·(conv=>whnf);refine cl [] [] (gT L m x) ?_;(conv=>whnf);refine dec (fun e=>?_) (fun e=>?_)
   ·obtain rfl:=g ⟨rfl,e⟩;(conv=>whnf);exact rx [] [.same 0,.same 1,.same 2,.same 3,.same 2,.same 5]
   obtain rfl:=f (fun h=>e h.2);generalize ao L (bE t [x] o.text)=Q at*;(conv=>whnf);refine⟨false,.grow,(.l [0,1,2,3,4,5,6,7,8,9,10,11,12,13,14]),by kernel_rfl,.inl ?_⟩;(conv=>whnf);refine cl [] [1,2] (r) ?_;(conv=>whnf);refine⟨[Q.1],rfl,?_⟩;(conv=>whnf);exact rx [] [.same 0,.same 1,.same 2,.same 3,.same 7,.same 8]
  ·(conv=>whnf);refine cl [] [] (gT L m x) ?_;(conv=>whnf);refine dec (fun e=>?_) (fun e=>?_)
   ·obtain rfl:=g ⟨rfl,e⟩;(conv=>whnf);exact rx [] [.same 0,.same 1,.same 2,.same 3,.same 2,.same 5]
   obtain rfl:=f (fun h=>e h.2);generalize ao L (bE t [x] o.text)=Q at*;(conv=>whnf);refine⟨false,.grow,(.l [0,1,2,3,4,5,6,7,8,9,10,11,12,13,14]),by kernel_rfl,.inl ?_⟩;(conv=>whnf);refine cl [] [1,2] (r) ?_;(conv=>whnf);refine⟨[Q.1],rfl,?_⟩;(conv=>whnf);exact rx [] [.same 0,.same 1,.same 2,.same 3,.same 7,.same 8]
 ·obtain rfl:=f (fun h=>i (by show(up.length:Int)=1;omega));generalize ao L (bE t up o.text)=Q at*;(conv=>whnf);refine⟨false,.grow,(.l [0,1,2,3,4,5,6,7,8,9,10,11,12,13,14]),by kernel_rfl,.inl ?_⟩;(conv=>whnf);refine cl [] [1,2] (r) ?_;(conv=>whnf);refine⟨[Q.1],rfl,?_⟩;(conv=>whnf);exact rx [] [.same 0,.same 1,.same 2,.same 3,.same 6,.same 7]
end Go.Nest
end
section
namespace Go.Nest
open Go Go.AM
def bw(r:Int):Bool:=decide (0≤r)&&decide (r<4)
theorem bZ{r:Int}:bw r=true↔∃i:Nat,i<4∧r=i:=by
 unfold bw;rw[Bool.and_eq_true,decide_eq_true_iff,decide_eq_true_iff];constructor
 ·rintro⟨a,b⟩;exact⟨r.toNat,by omega,by omega⟩
 ·rintro⟨i,a,rfl⟩;omega
def gh(b:Nat→List Int):Prop:=∀i,i<4→(b i).length≤4∧∀q∈b i,0≤q∧q<(4:Nat)
def mf(b:Nat→List Int):Nat→List Int→Nat→List Int
 |0,out,_=>out
 |n+1,out,i=>match out[i]? with
  |some q=>mf b n ((b q.toNat).foldl ba out) (i+1)
  |none=>out
def cR(b:Nat→List Int)(r:Int):List Int:=mf b 5 [r] 0
def gV(o:Nat→List Bool)(r id:Int):Bool:=bw r&&(decide (0≤id)&&(decide (id<(o r.toNat).length)&&((o r.toNat)[id.toNat]?).getD false))
def cZ(d:Dp)(r id:Int):Bool:=bw r&&(cR d.dW r).any fun q=>gV d.own q id
theorem G9{b:Nat→List Int}:∀{n:Nat} {out:List Int} {i:Nat},out[i]? =none→mf b n out i=out
 |0,out,i,h=>rfl
 |n+1,out,i,h=>by unfold mf;rw[h]
theorem CR{out:List Int}{x:Int}:out.length≤(ba out x).length:=by unfold ba;split<;>simp
theorem xd:∀{l out:List Int},out.length≤(l.foldl ba out).length
 |[],out=>Nat.le_refl _
 |x::l,out=>Nat.le_trans CR (xd (l:=l) (out:=ba out x))
structure gn(b:Nat→List Int)(r:Int)(i:Nat)(out:List Int):Prop where
 nd:out.Nodup
 all:∀x∈out,0≤x∧x<(4:Nat)
 le:i≤out.length
 eq:cR b r=mf b (5-i) out i
theorem gn.len{b:Nat→List Int}{r:Int}{i:Nat}{out:List Int}(h:gn b r i out):out.length≤4:=iR 4 h.nd h.all
theorem gn.start{b:Nat→List Int}{r:Int}(h:bw r=true):gn b r 0 [r]:=by
 obtain⟨k,c,rfl⟩:=bZ.1 h;refine⟨by simp,fun x a=>?_,by simp,rfl⟩;rw[List.mem_singleton]at a;subst a;omega
theorem gn.next{b:Nat→List Int}(hb:gh b){r:Int}{i:Nat}{out:List Int}(h:gn b r i out)(hi:i<out.length):gn b r (i+1) ((b out[i].toNat).foldl ba out):=by
 have f:=h.all _ (List.getElem_mem hi);have e:=h.len;obtain⟨a,c⟩:=lS (l:=b out[i].toNat) h.nd h.all (hb out[i].toNat (by omega)).2;have d:out.length≤((b out[i].toNat).foldl ba out).length:=xd;refine⟨a,c,by omega,?_⟩;rw[h.eq];conv=>lhs;rw[show 5-i=(5-(i+1))+1 by omega]
 conv=>lhs;unfold mf
 rw[List.getElem?_eq_getElem hi]
theorem gn.stop{b:Nat→List Int}{r:Int}{i:Nat}{out:List Int}(h:gn b r i out)(hi:¬i<out.length):cR b r=out:=by
 rw[h.eq,G9 (List.getElem?_eq_none (by omega))]
end Go.Nest
end
section
namespace Go.Nest
open Go Go.AM Go.Proofs
open Go.Proofs.YtpechfcbnoggfaaGreatDoor (tab tabOk)
set_option maxRecDepth 4000
theorem nu(r:Int):ai Tryz.prog 105 [.c (.int .i64 r)] [] (Rt (.c (.bool (bw r))) []):=by
 refine an (n:=9) (n0:=0) tabOk Tryz.call105 Tryz.func105 ?_;intro hb;(conv=>whnf);refine dec (fun a=>?_) (fun a=>?_)
 ·(conv=>whnf);exact aG (by unfold bw;rw[decide_eq_true (show 0≤r from a)];rfl)
 ·(conv=>whnf);exact aG (by unfold bw;rw[decide_eq_false (show¬0≤r from a)];rfl)
set_option maxHeartbeats 4000000 in
theorem vw(L:List Ob)(o:Nat→List Bool)(b:Nat→List Int)(q:gh b)(r:Int)(hr:bw r=true):ai Tryz.prog 107 [.c (.bp [.bp [.bs 6 Ob ak L],.bs 1 Bool aj (o 0),.bs 1 Bool aj (o 1),.bs 1 Bool aj (o 2),.bs 1 Bool aj (o 3),.bs 1 Int encI (b 0),.bs 1 Int encI (b 1),.bs 1 Int encI (b 2),.bs 1 Int encI (b 3)]),.c (.int .i64 r)] [] (Rt (.c (.rw 0)) [.row 1 Int encI (cR b r)]):=by
 refine an (n:=41) (n0:=0) tabOk Tryz.call107 Tryz.func107 ?_;intro hb;(conv=>whnf);refine⟨[r],rfl,?_⟩;(conv=>whnf);refine lp (Nat×List Int) (fun p=>⟨[(0,.c (.bp [.bp [.bs 6 Ob ak L],.bs 1 Bool aj (o 0),.bs 1 Bool aj (o 1),.bs 1 Bool aj (o 2),.bs 1 Bool aj (o 3),.bs 1 Int encI (b 0),.bs 1 Int encI (b 1),.bs 1 Int encI (b 2),.bs 1 Int encI (b 3)])),(5,.c (.rw 0)),(6,.c (.int .i64 p.1))],[.row 1 Int encI p.2]⟩) (fun p=>gn b r p.1 p.2∧True) (fun p=>4-p.1) (0,[r]) [] [.same 0] ?_ ?_ (fun⟨i,out⟩ m=>?_)
 ·exact⟨gn.start hr,trivial⟩
 ·repeat' first|exact trivial|exact rfl|refine And.intro ?_ ?_
 obtain⟨m,-⟩:=m;have m:gn b r i out:=m;have J:=m.len;(conv=>whnf);refine dec (fun F=>?_) (fun F=>?_)
 ·have g:i<out.length:=by have F:(i:Int)<out.length:=F;omega
  obtain⟨k,I,u⟩:∃k:Nat,k<4∧out[i]=k:=by
   have:=m.all _ (List.getElem_mem g);exact⟨out[i].toNat,by omega,by omega⟩
  rcases four I with rfl|rfl|rfl|rfl
  ·have t:=m.next q g;rw[u]at t;have D:=(q 0 (by decide)).1;(conv=>whnf);refine⟨false,.grow,(.l [0,1,2,3,4,5,6,7,8,9,10]),by kernel_rfl,.inl ?_⟩;(conv=>whnf);refine⟨i,⟨rfl,g⟩,?_⟩;(conv=>whnf);refine⟨0,by rw[List.getElem?_eq_getElem g,u];rfl,?_⟩;(conv=>whnf);refine⟨0,⟨rfl,by decide⟩,?_⟩;(conv=>whnf);refine lp Nat (fun j=>⟨[(0,.c (.bp [.bp [.bs 6 Ob ak L],.bs 1 Bool aj (o 0),.bs 1 Bool aj (o 1),.bs 1 Bool aj (o 2),.bs 1 Bool aj (o 3),.bs 1 Int encI (b 0),.bs 1 Int encI (b 1),.bs 1 Int encI (b 2),.bs 1 Int encI (b 3)])),(5,.c (.rw 0)),(6,.c (.int .i64 i)),(25,.c (.bs 1 Int encI (b 0))),(26,.c (.int .i64 (b 0).length)),(27,.c (.int .i64 j))],[.row 1 Int encI (((b 0).take j).foldl ba out)]⟩) (fun j=>j≤(b 0).length∧True) (fun j=>(b 0).length-j) 0 [] [.same 0] ?_ ?_ (fun j H=>?_)
   ·simp
   ·repeat' first|exact trivial|exact rfl|refine And.intro ?_ ?_
   (conv=>whnf);refine dec (fun z=>?_) (fun z=>?_)
   ·have d:j<(b 0).length:=by omega
    have a:=o3 (out:=out) d;obtain⟨v,w⟩:=lS (l:=(b 0).take j) m.nd m.all (fun x m=>(q 0 (by decide)).2 x (List.mem_of_mem_take m));have E:=iR 4 v w;have s:(b 0)[j]? =some (b 0)[j]:=List.getElem?_eq_getElem d;generalize ((b 0).take j).foldl ba out=o2 at a v w E⊢;generalize (b 0)[j]=y at s a;(conv=>whnf);refine⟨j,y,rfl,s,?_⟩;(conv=>whnf);refine cl [] [] (gC o2 y) ?_;(conv=>whnf);refine aW (fun f=>?_) (fun f=>?_)
    ·have f:y∉o2:=fun h=>by rw[eP.2 h]at f;cases f
     rw[show ba o2 y=o2++[y]from if_neg f]at a;(conv=>whnf);refine⟨[y],rfl,?_⟩;(conv=>whnf);refine⟨_,_,rfl,rfl,(by simp only[List.length_append,List.length_cons,List.length_nil];omega),?_⟩;repeat'((conv=>whnf);refine I6 ?_)
     refine ag (j+1) [] [.same 2] ⟨d,trivial⟩ (by simp only[];omega) ?_;rw[a];repeat' first|exact trivial|exact rfl|refine And.intro ?_ ?_
    ·have f:y∈o2:=eP.1 (by simpa using f);rw[show ba o2 y=o2 from if_pos f]at a;repeat'((conv=>whnf);refine I6 ?_)
     refine ag (j+1) [] [.same 0] ⟨d,trivial⟩ (by simp only[];omega) ?_;rw[a];repeat' first|exact trivial|exact rfl|refine And.intro ?_ ?_
   ·obtain rfl:j=(b 0).length:=by omega
    rw[List.take_length];repeat'((conv=>whnf);refine I6 ?_)
    refine ag (i+1,(b 0).foldl ba out) [] [.same 0] ⟨t,trivial⟩ (by have:=t.le;have:=t.len;simp only[];omega) ?_;repeat' first|exact trivial|exact rfl|refine And.intro ?_ ?_
  ·have t:=m.next q g;rw[u]at t;have D:=(q 1 (by decide)).1;(conv=>whnf);refine⟨false,.grow,(.l [0,1,2,3,4,5,6,7,8,9,10]),by kernel_rfl,.inl ?_⟩;(conv=>whnf);refine⟨i,⟨rfl,g⟩,?_⟩;(conv=>whnf);refine⟨1,by rw[List.getElem?_eq_getElem g,u];rfl,?_⟩;(conv=>whnf);refine⟨1,⟨rfl,by decide⟩,?_⟩;(conv=>whnf);refine lp Nat (fun j=>⟨[(0,.c (.bp [.bp [.bs 6 Ob ak L],.bs 1 Bool aj (o 0),.bs 1 Bool aj (o 1),.bs 1 Bool aj (o 2),.bs 1 Bool aj (o 3),.bs 1 Int encI (b 0),.bs 1 Int encI (b 1),.bs 1 Int encI (b 2),.bs 1 Int encI (b 3)])),(5,.c (.rw 0)),(6,.c (.int .i64 i)),(25,.c (.bs 1 Int encI (b 1))),(26,.c (.int .i64 (b 1).length)),(27,.c (.int .i64 j))],[.row 1 Int encI (((b 1).take j).foldl ba out)]⟩) (fun j=>j≤(b 1).length∧True) (fun j=>(b 1).length-j) 0 [] [.same 0] ?_ ?_ (fun j H=>?_)
   ·simp
   ·repeat' first|exact trivial|exact rfl|refine And.intro ?_ ?_
   (conv=>whnf);refine dec (fun z=>?_) (fun z=>?_)
   ·have d:j<(b 1).length:=by omega
    have a:=o3 (out:=out) d;obtain⟨v,w⟩:=lS (l:=(b 1).take j) m.nd m.all (fun x m=>(q 1 (by decide)).2 x (List.mem_of_mem_take m));have E:=iR 4 v w;have s:(b 1)[j]? =some (b 1)[j]:=List.getElem?_eq_getElem d;generalize ((b 1).take j).foldl ba out=o2 at a v w E⊢;generalize (b 1)[j]=y at s a;(conv=>whnf);refine⟨j,y,rfl,s,?_⟩;(conv=>whnf);refine cl [] [] (gC o2 y) ?_;(conv=>whnf);refine aW (fun f=>?_) (fun f=>?_)
    ·have f:y∉o2:=fun h=>by rw[eP.2 h]at f;cases f
     rw[show ba o2 y=o2++[y]from if_neg f]at a;(conv=>whnf);refine⟨[y],rfl,?_⟩;(conv=>whnf);refine⟨_,_,rfl,rfl,(by simp only[List.length_append,List.length_cons,List.length_nil];omega),?_⟩;repeat'((conv=>whnf);refine I6 ?_)
     refine ag (j+1) [] [.same 2] ⟨d,trivial⟩ (by simp only[];omega) ?_;rw[a];repeat' first|exact trivial|exact rfl|refine And.intro ?_ ?_
    ·have f:y∈o2:=eP.1 (by simpa using f);rw[show ba o2 y=o2 from if_pos f]at a;repeat'((conv=>whnf);refine I6 ?_)
     refine ag (j+1) [] [.same 0] ⟨d,trivial⟩ (by simp only[];omega) ?_;rw[a];repeat' first|exact trivial|exact rfl|refine And.intro ?_ ?_
   ·obtain rfl:j=(b 1).length:=by omega
    rw[List.take_length];repeat'((conv=>whnf);refine I6 ?_)
    refine ag (i+1,(b 1).foldl ba out) [] [.same 0] ⟨t,trivial⟩ (by have:=t.le;have:=t.len;simp only[];omega) ?_;repeat' first|exact trivial|exact rfl|refine And.intro ?_ ?_
  ·have t:=m.next q g;rw[u]at t;have D:=(q 2 (by decide)).1;(conv=>whnf);refine⟨false,.grow,(.l [0,1,2,3,4,5,6,7,8,9,10]),by kernel_rfl,.inl ?_⟩;(conv=>whnf);refine⟨i,⟨rfl,g⟩,?_⟩;(conv=>whnf);refine⟨2,by rw[List.getElem?_eq_getElem g,u];rfl,?_⟩;(conv=>whnf);refine⟨2,⟨rfl,by decide⟩,?_⟩;(conv=>whnf);refine lp Nat (fun j=>⟨[(0,.c (.bp [.bp [.bs 6 Ob ak L],.bs 1 Bool aj (o 0),.bs 1 Bool aj (o 1),.bs 1 Bool aj (o 2),.bs 1 Bool aj (o 3),.bs 1 Int encI (b 0),.bs 1 Int encI (b 1),.bs 1 Int encI (b 2),.bs 1 Int encI (b 3)])),(5,.c (.rw 0)),(6,.c (.int .i64 i)),(25,.c (.bs 1 Int encI (b 2))),(26,.c (.int .i64 (b 2).length)),(27,.c (.int .i64 j))],[.row 1 Int encI (((b 2).take j).foldl ba out)]⟩) (fun j=>j≤(b 2).length∧True) (fun j=>(b 2).length-j) 0 [] [.same 0] ?_ ?_ (fun j H=>?_)
   ·simp
   ·repeat' first|exact trivial|exact rfl|refine And.intro ?_ ?_
   (conv=>whnf);refine dec (fun z=>?_) (fun z=>?_)
   ·have d:j<(b 2).length:=by omega
    have a:=o3 (out:=out) d;obtain⟨v,w⟩:=lS (l:=(b 2).take j) m.nd m.all (fun x m=>(q 2 (by decide)).2 x (List.mem_of_mem_take m));have E:=iR 4 v w;have s:(b 2)[j]? =some (b 2)[j]:=List.getElem?_eq_getElem d;generalize ((b 2).take j).foldl ba out=o2 at a v w E⊢;generalize (b 2)[j]=y at s a;(conv=>whnf);refine⟨j,y,rfl,s,?_⟩;(conv=>whnf);refine cl [] [] (gC o2 y) ?_;(conv=>whnf);refine aW (fun f=>?_) (fun f=>?_)
    ·have f:y∉o2:=fun h=>by rw[eP.2 h]at f;cases f
     rw[show ba o2 y=o2++[y]from if_neg f]at a;(conv=>whnf);refine⟨[y],rfl,?_⟩;(conv=>whnf);refine⟨_,_,rfl,rfl,(by simp only[List.length_append,List.length_cons,List.length_nil];omega),?_⟩;repeat'((conv=>whnf);refine I6 ?_)
     refine ag (j+1) [] [.same 2] ⟨d,trivial⟩ (by simp only[];omega) ?_;rw[a];repeat' first|exact trivial|exact rfl|refine And.intro ?_ ?_
    ·have f:y∈o2:=eP.1 (by simpa using f);rw[show ba o2 y=o2 from if_pos f]at a;repeat'((conv=>whnf);refine I6 ?_)
     refine ag (j+1) [] [.same 0] ⟨d,trivial⟩ (by simp only[];omega) ?_;rw[a];repeat' first|exact trivial|exact rfl|refine And.intro ?_ ?_
   ·obtain rfl:j=(b 2).length:=by omega
    rw[List.take_length];repeat'((conv=>whnf);refine I6 ?_)
    refine ag (i+1,(b 2).foldl ba out) [] [.same 0] ⟨t,trivial⟩ (by have:=t.le;have:=t.len;simp only[];omega) ?_;repeat' first|exact trivial|exact rfl|refine And.intro ?_ ?_
  ·have t:=m.next q g;rw[u]at t;have D:=(q 3 (by decide)).1;(conv=>whnf);refine⟨false,.grow,(.l [0,1,2,3,4,5,6,7,8,9,10]),by kernel_rfl,.inl ?_⟩;(conv=>whnf);refine⟨i,⟨rfl,g⟩,?_⟩;(conv=>whnf);refine⟨3,by rw[List.getElem?_eq_getElem g,u];rfl,?_⟩;(conv=>whnf);refine⟨3,⟨rfl,by decide⟩,?_⟩;(conv=>whnf);refine lp Nat (fun j=>⟨[(0,.c (.bp [.bp [.bs 6 Ob ak L],.bs 1 Bool aj (o 0),.bs 1 Bool aj (o 1),.bs 1 Bool aj (o 2),.bs 1 Bool aj (o 3),.bs 1 Int encI (b 0),.bs 1 Int encI (b 1),.bs 1 Int encI (b 2),.bs 1 Int encI (b 3)])),(5,.c (.rw 0)),(6,.c (.int .i64 i)),(25,.c (.bs 1 Int encI (b 3))),(26,.c (.int .i64 (b 3).length)),(27,.c (.int .i64 j))],[.row 1 Int encI (((b 3).take j).foldl ba out)]⟩) (fun j=>j≤(b 3).length∧True) (fun j=>(b 3).length-j) 0 [] [.same 0] ?_ ?_ (fun j H=>?_)
   ·simp
   ·repeat' first|exact trivial|exact rfl|refine And.intro ?_ ?_
   (conv=>whnf);refine dec (fun z=>?_) (fun z=>?_)
   ·have d:j<(b 3).length:=by omega
    have a:=o3 (out:=out) d;obtain⟨v,w⟩:=lS (l:=(b 3).take j) m.nd m.all (fun x m=>(q 3 (by decide)).2 x (List.mem_of_mem_take m));have E:=iR 4 v w;have s:(b 3)[j]? =some (b 3)[j]:=List.getElem?_eq_getElem d;generalize ((b 3).take j).foldl ba out=o2 at a v w E⊢;generalize (b 3)[j]=y at s a;(conv=>whnf);refine⟨j,y,rfl,s,?_⟩;(conv=>whnf);refine cl [] [] (gC o2 y) ?_;(conv=>whnf);refine aW (fun f=>?_) (fun f=>?_)
    ·have f:y∉o2:=fun h=>by rw[eP.2 h]at f;cases f
     rw[show ba o2 y=o2++[y]from if_neg f]at a;(conv=>whnf);refine⟨[y],rfl,?_⟩;(conv=>whnf);refine⟨_,_,rfl,rfl,(by simp only[List.length_append,List.length_cons,List.length_nil];omega),?_⟩;repeat'((conv=>whnf);refine I6 ?_)
     refine ag (j+1) [] [.same 2] ⟨d,trivial⟩ (by simp only[];omega) ?_;rw[a];repeat' first|exact trivial|exact rfl|refine And.intro ?_ ?_
    ·have f:y∈o2:=eP.1 (by simpa using f);rw[show ba o2 y=o2 from if_pos f]at a;repeat'((conv=>whnf);refine I6 ?_)
     refine ag (j+1) [] [.same 0] ⟨d,trivial⟩ (by simp only[];omega) ?_;rw[a];repeat' first|exact trivial|exact rfl|refine And.intro ?_ ?_
   ·obtain rfl:j=(b 3).length:=by omega
    rw[List.take_length];repeat'((conv=>whnf);refine I6 ?_)
    refine ag (i+1,(b 3).foldl ba out) [] [.same 0] ⟨t,trivial⟩ (by have:=t.le;have:=t.len;simp only[];omega) ?_;repeat' first|exact trivial|exact rfl|refine And.intro ?_ ?_
 ·have e:=m.stop (by have F:¬(i:Int)<out.length:=F;omega);rw[e];(conv=>whnf);exact rx [] [.same 0]
end Go.Nest
end
section
namespace Go.Nest
open Go Go.AM Go.Proofs
open Go.Proofs.YtpechfcbnoggfaaGreatDoor (tab tabOk)
set_option maxRecDepth 4000
theorem qb{o:Nat→List Bool}{k:Nat}{id:Int}(hk:k<4):gV o k id=(decide (0≤id)&&(decide (id<(o k).length)&&((o k)[id.toNat]?).getD false)):=by
 unfold gV;rw[bZ.2 ⟨k,hk,rfl⟩,Bool.true_and,Int.toNat_natCast]
set_option maxHeartbeats 4000000 in
theorem Ik(L:List Ob)(o:Nat→List Bool)(b:Nat→List Int)(r id:Int):ai Tryz.prog 72 [.c (.bp [.bp [.bs 6 Ob ak L],.bs 1 Bool aj (o 0),.bs 1 Bool aj (o 1),.bs 1 Bool aj (o 2),.bs 1 Bool aj (o 3),.bs 1 Int encI (b 0),.bs 1 Int encI (b 1),.bs 1 Int encI (b 2),.bs 1 Int encI (b 3)]),.c (.int .i64 r),.c (.int .i64 id)] [] (Rt (.c (.bool (gV o r id))) []):=by
 have i:=nu r;refine an (n:=35) (n0:=0) tabOk Tryz.call72 Tryz.func72 ?_;intro hb;cases h:bw r with
 |false=>
  rw[h]at i;(conv=>whnf);refine cl [] [] (i) ?_;(conv=>whnf);exact aG (by unfold gV;rw[h];rfl)
 |true=>
  rw[h]at i;obtain⟨k,j,rfl⟩:=bZ.1 h;(conv=>whnf);refine cl [] [] (i) ?_;rcases four j with rfl|rfl|rfl|rfl
  ·have e:=qb (o:=o) (k:=0) (id:=id) (by decide);(conv=>whnf);refine dec (fun a=>?_) (fun a=>?_)
   ·(conv=>whnf);refine⟨0,⟨rfl,by decide⟩,?_⟩;(conv=>whnf);refine dec (fun d=>?_) (fun d=>?_)
    ·have g:id.toNat<(o 0).length:=by have a:(0:Int)≤id:=a;have d:id<((o 0).length:Int):=d;omega
     have f:(o 0)[id.toNat]? =some (o 0)[id.toNat]:=List.getElem?_eq_getElem g;rw[decide_eq_true a,decide_eq_true d,f]at e;(conv=>whnf);refine⟨0,⟨rfl,by decide⟩,?_⟩;(conv=>whnf);refine⟨id.toNat,_,by have a:(0:Int)≤id:=a;omega,f,?_⟩;(conv=>whnf);exact aG e.symm
    ·rw[decide_eq_false d]at e;(conv=>whnf);exact aG (by rw[e];simp)
   ·rw[decide_eq_false a]at e;(conv=>whnf);exact aG (by rw[e];rfl)
  ·have e:=qb (o:=o) (k:=1) (id:=id) (by decide);(conv=>whnf);refine dec (fun a=>?_) (fun a=>?_)
   ·(conv=>whnf);refine⟨1,⟨rfl,by decide⟩,?_⟩;(conv=>whnf);refine dec (fun d=>?_) (fun d=>?_)
    ·have g:id.toNat<(o 1).length:=by have a:(0:Int)≤id:=a;have d:id<((o 1).length:Int):=d;omega
     have f:(o 1)[id.toNat]? =some (o 1)[id.toNat]:=List.getElem?_eq_getElem g;rw[decide_eq_true a,decide_eq_true d,f]at e;(conv=>whnf);refine⟨1,⟨rfl,by decide⟩,?_⟩;(conv=>whnf);refine⟨id.toNat,_,by have a:(0:Int)≤id:=a;omega,f,?_⟩;(conv=>whnf);exact aG e.symm
    ·rw[decide_eq_false d]at e;(conv=>whnf);exact aG (by rw[e];simp)
   ·rw[decide_eq_false a]at e;(conv=>whnf);exact aG (by rw[e];rfl)
  ·have e:=qb (o:=o) (k:=2) (id:=id) (by decide);(conv=>whnf);refine dec (fun a=>?_) (fun a=>?_)
   ·(conv=>whnf);refine⟨2,⟨rfl,by decide⟩,?_⟩;(conv=>whnf);refine dec (fun d=>?_) (fun d=>?_)
    ·have g:id.toNat<(o 2).length:=by have a:(0:Int)≤id:=a;have d:id<((o 2).length:Int):=d;omega
     have f:(o 2)[id.toNat]? =some (o 2)[id.toNat]:=List.getElem?_eq_getElem g;rw[decide_eq_true a,decide_eq_true d,f]at e;(conv=>whnf);refine⟨2,⟨rfl,by decide⟩,?_⟩;(conv=>whnf);refine⟨id.toNat,_,by have a:(0:Int)≤id:=a;omega,f,?_⟩;(conv=>whnf);exact aG e.symm
    ·rw[decide_eq_false d]at e;(conv=>whnf);exact aG (by rw[e];simp)
   ·rw[decide_eq_false a]at e;(conv=>whnf);exact aG (by rw[e];rfl)
  ·have e:=qb (o:=o) (k:=3) (id:=id) (by decide);(conv=>whnf);refine dec (fun a=>?_) (fun a=>?_)
   ·(conv=>whnf);refine⟨3,⟨rfl,by decide⟩,?_⟩;(conv=>whnf);refine dec (fun d=>?_) (fun d=>?_)
    ·have g:id.toNat<(o 3).length:=by have a:(0:Int)≤id:=a;have d:id<((o 3).length:Int):=d;omega
     have f:(o 3)[id.toNat]? =some (o 3)[id.toNat]:=List.getElem?_eq_getElem g;rw[decide_eq_true a,decide_eq_true d,f]at e;(conv=>whnf);refine⟨3,⟨rfl,by decide⟩,?_⟩;(conv=>whnf);refine⟨id.toNat,_,by have a:(0:Int)≤id:=a;omega,f,?_⟩;(conv=>whnf);exact aG e.symm
    ·rw[decide_eq_false d]at e;(conv=>whnf);exact aG (by rw[e];simp)
   ·rw[decide_eq_false a]at e;(conv=>whnf);exact aG (by rw[e];rfl)
theorem FP(L:List Ob)(o:Nat→List Bool)(b:Nat→List Int)(id q:Int):ai Tryz.prog 108 [.c (.int .i64 q),.c (.bp [.bp [.bp [.bs 6 Ob ak L],.bs 1 Bool aj (o 0),.bs 1 Bool aj (o 1),.bs 1 Bool aj (o 2),.bs 1 Bool aj (o 3),.bs 1 Int encI (b 0),.bs 1 Int encI (b 1),.bs 1 Int encI (b 2),.bs 1 Int encI (b 3)]]),.c (.bp [.int .i64 id])] [] (Rt (.c (.bool (gV o q id))) []):=by
 refine an (n:=9) (n0:=0) tabOk Tryz.call108 Tryz.func108 ?_;intro hb;(conv=>whnf);refine cl [] [] (Ik L o b q id) ?_;(conv=>whnf);exact aG rfl
theorem Gg(F:Nat)(L:List Ob)(o:Nat→List Bool)(b:Nat→List Int)(k:Int)(p:Int→Bool)(f:∀x,ai Tryz.prog F [.c (.int .i64 x),.c (.bp [.bp [.bp [.bs 6 Ob ak L],.bs 1 Bool aj (o 0),.bs 1 Bool aj (o 1),.bs 1 Bool aj (o 2),.bs 1 Bool aj (o 3),.bs 1 Int encI (b 0),.bs 1 Int encI (b 1),.bs 1 Int encI (b 2),.bs 1 Int encI (b 3)]]),.c (.bp [.int .i64 k])] [] (Rt (.c (.bool (p x))) []))(l:List Int):ai Tryz.prog 178 [.c (.bs 1 Int encI l),.c (.fn F [.bp [.bp [.bp [.bs 6 Ob ak L],.bs 1 Bool aj (o 0),.bs 1 Bool aj (o 1),.bs 1 Bool aj (o 2),.bs 1 Bool aj (o 3),.bs 1 Int encI (b 0),.bs 1 Int encI (b 1),.bs 1 Int encI (b 2),.bs 1 Int encI (b 3)]],.bp [.int .i64 k]])] [] (Rt (.c (.int .i64 (bh p l))) []):=by
 refine an (n:=19) (n0:=0) tabOk Tryz.call178 Tryz.func178 ?_;intro hb;have hb:l.length≤9223372036854775807:=hb.1.1;(conv=>whnf);refine lp Nat (fun i=>⟨[(0,.c (.bs 1 Int encI l)),(1,.c (.fn F [.bp [.bp [.bp [.bs 6 Ob ak L],.bs 1 Bool aj (o 0),.bs 1 Bool aj (o 1),.bs 1 Bool aj (o 2),.bs 1 Bool aj (o 3),.bs 1 Int encI (b 0),.bs 1 Int encI (b 1),.bs 1 Int encI (b 2),.bs 1 Int encI (b 3)]],.bp [.int .i64 k]])),(7,.c (.int .i64 l.length)),(8,.c (.int .i64 i))],[]⟩) (fun i=>i≤l.length∧(l.take i).any p=false) (fun i=>l.length-i) 0 [] [] ?_ ?_ (fun i d=>?_)
 ·simp
 ·repeat' first|exact trivial|exact rfl|refine And.intro ?_ ?_
 (conv=>whnf);refine dec (fun e=>?_) (fun e=>?_)
 ·have a:i<l.length:=by omega
  repeat'((conv=>whnf);first|refine⟨_,_,rfl,List.getElem?_eq_getElem (by omega),?_⟩|fail)
  (conv=>whnf);refine cl [] [] (f l[i]) ?_;(conv=>whnf);refine aW (fun h=>?_) (fun h=>?_)
  ·(conv=>whnf);exact aK (jM a d.2 h)
  ·repeat'((conv=>whnf);refine I6 ?_)
   refine ag (i+1) [] [] ⟨a,hU a d.2 h⟩ (by simp only[];omega) ?_;repeat' first|exact trivial|exact rfl|refine And.intro ?_ ?_
 ·repeat'((conv=>whnf);first|refine aK ?_|fail)
  have:=d.2;rw[List.take_of_length_le (by omega)]at this;exact kx this
theorem yr(F:Nat)(L:List Ob)(o:Nat→List Bool)(b:Nat→List Int)(k:Int)(p:Int→Bool)(a:∀x,ai Tryz.prog F [.c (.int .i64 x),.c (.bp [.bp [.bp [.bs 6 Ob ak L],.bs 1 Bool aj (o 0),.bs 1 Bool aj (o 1),.bs 1 Bool aj (o 2),.bs 1 Bool aj (o 3),.bs 1 Int encI (b 0),.bs 1 Int encI (b 1),.bs 1 Int encI (b 2),.bs 1 Int encI (b 3)]]),.c (.bp [.int .i64 k])] [] (Rt (.c (.bool (p x))) []))(l:List Int):ai Tryz.prog 106 [.c (.bs 1 Int encI l),.c (.fn F [.bp [.bp [.bp [.bs 6 Ob ak L],.bs 1 Bool aj (o 0),.bs 1 Bool aj (o 1),.bs 1 Bool aj (o 2),.bs 1 Bool aj (o 3),.bs 1 Int encI (b 0),.bs 1 Int encI (b 1),.bs 1 Int encI (b 2),.bs 1 Int encI (b 3)]],.bp [.int .i64 k]])] [] (Rt (.c (.bool (l.any p))) []):=by
 refine an (n:=9) (n0:=0) tabOk Tryz.call106 Tryz.func106 ?_;intro hb;(conv=>whnf);refine cl [] [] (Gg F L o b k p a l) ?_;(conv=>whnf);exact aG (oh ..)
theorem pD(L:List Ob)(o:Nat→List Bool)(b:Nat→List Int)(e:gh b)(r id:Int):ai Tryz.prog 41 [.c (.bp [.bp [.bs 6 Ob ak L],.bs 1 Bool aj (o 0),.bs 1 Bool aj (o 1),.bs 1 Bool aj (o 2),.bs 1 Bool aj (o 3),.bs 1 Int encI (b 0),.bs 1 Int encI (b 1),.bs 1 Int encI (b 2),.bs 1 Int encI (b 3)]),.c (.int .i64 r),.c (.int .i64 id)] [] (Rt (.c (.bool (cZ ⟨o,b⟩ r id))) []):=by
 have d:=nu r;refine an (n:=16) (n0:=0) tabOk Tryz.call41 Tryz.func41 ?_;intro hb;cases a:bw r with
 |false=>
  rw[a]at d;(conv=>whnf);refine cl [] [] (d) ?_;(conv=>whnf);exact aG (by unfold cZ;rw[a];rfl)
 |true=>
  rw[a]at d;(conv=>whnf);refine cl [] [] (d) ?_;(conv=>whnf);refine cl [] [] (vw L o b e r a) ?_;(conv=>whnf);refine cl [] [] (yr 108 L o b id (fun q=>gV o q id) (FP L o b id) (cR b r)) ?_;(conv=>whnf);exact aG (by unfold cZ;rw[a];rfl)
end Go.Nest
end
section
namespace Go.Nest
open Go Go.AM Go.Proofs
open Go.Proofs.YtpechfcbnoggfaaGreatDoor (tab tabOk)
set_option maxRecDepth 4000
def fc(l:List Bool)(n:Nat):List Bool:=l++List.replicate (n-l.length) false
def dj(o:Nat→List Bool)(b:Nat→List Int)(r:Nat)(x:List Bool)(id:Int):List Bool:=if cZ ⟨ax o r x,b⟩ r id=true then x else x.set id.toNat true
noncomputable def lR(L:List Ob)(o:Nat→List Bool)(b:Nat→List Int)(r:Nat)(ids:List Int):List Bool:=(aZ L ids).foldl (dj o b r) (fc (o r) L.length)
def cI(L:List Ob)(r:Int)(ids:List Int):Int:=if bw r=false then 1 else if(ids.any fun id=>decide (kindOf L id=0))=true then 9 else 0
noncomputable def dE(L:List Ob)(o:Nat→List Bool)(b:Nat→List Int)(r:Int)(ids:List Int):Nat→List Bool:=if cI L r ids≠0 then o else ax o r.toNat (lR L o b r.toNat ids)
theorem nr{o:Nat→List Bool}{b:Nat→List Int}{r:Nat}:∀{l:List Int} {x:List Bool},(l.foldl (dj o b r) x).length=x.length
 |[],x=>rfl
 |id::l,x=>by
  rw[List.foldl_cons,nr];unfold dj;split
  ·rfl
  ·rw[List.length_set]
theorem r8{o:Nat→List Bool}{b:Nat→List Int}{r:Nat}{l:List Int}{x:List Bool}{i:Nat}(h:i<l.length):(l.take (i+1)).foldl (dj o b r) x=dj o b r ((l.take i).foldl (dj o b r) x) l[i]:=by
 rw[List.take_succ_eq_append_getElem h,List.foldl_append];rfl
theorem A5{l:List Bool}{n:Nat}:n≤(fc l n).length:=by unfold fc;rw[List.length_append,List.length_replicate];omega
theorem sA{l:List Bool}{n:Nat}(h:l.length<n):fc (l++[false]) n=fc l n:=by
 unfold fc;rw[List.length_append,List.length_singleton,List.append_assoc];congr 1
 rw[show n-l.length=(n-(l.length+1))+1 by omega,List.replicate_succ];rfl
theorem su{l:List Bool}{n:Nat}(h:n≤l.length):fc l n=l:=by
 unfold fc;rw[show n-l.length=0 by omega];simp
theorem oM{L:List Ob}{ids:List Int}{id:Int}(h:id∈aZ L ids):0≤id∧id.toNat<L.length:=by
 unfold aZ at h;obtain⟨k,a,rfl⟩:=List.mem_map.1 h;have:=(List.mem_filter.1 a).1;rw[List.mem_range]at this;omega
set_option maxHeartbeats 8000000 in
theorem tq(L:List Ob)(J:ae L)(o:Nat→List Bool)(b:Nat→List Int)(D:gh b)(ho:∀k,k<4→(o k).length≤1000000)(r:Int)(ids:List Int)(hi:ids.length≤1000000):ai Tryz.prog 204 [.c (.ptr 0 0),.c (.int .i64 r),.c (.bs 1 Int encI ids)] [.box [.ptr 1 0,.rw 3,.rw 4,.rw 5,.rw 6,.rw 7,.rw 8,.rw 9,.rw 10],.box [.rw 2],.row 6 Ob ak L,.row 1 Bool aj (o 0),.row 1 Bool aj (o 1),.row 1 Bool aj (o 2),.row 1 Bool aj (o 3),.row 1 Int encI (b 0),.row 1 Int encI (b 1),.row 1 Int encI (b 2),.row 1 Int encI (b 3)] (Rt (.c (.int .i64 (cI L r ids))) [.box [.ptr 1 0,.rw 11,.rw 12,.rw 13,.rw 14,.rw 7,.rw 8,.rw 9,.rw 10],.box [.rw 2],.row 6 Ob ak L,.dead,.dead,.dead,.dead,.row 1 Int encI (b 0),.row 1 Int encI (b 1),.row 1 Int encI (b 2),.row 1 Int encI (b 3),.row 1 Bool aj ((dE L o b r ids) 0),.row 1 Bool aj ((dE L o b r ids) 1),.row 1 Bool aj ((dE L o b r ids) 2),.row 1 Bool aj ((dE L o b r ids) 3)]):=by
 have N:=nu r;have Q:=J.len;refine an (n:=85) (n0:=11) tabOk Tryz.call204 Tryz.func204 ?_;intro hb;cases M:bw r with
 |false=>
  rw[M]at N;have e:cI L r ids=1:=by unfold cI;rw[M];rfl
  rw[show dE L o b r ids=o by unfold dE;rw[e];rfl,e];(conv=>whnf);refine cl [] [] (N) ?_;(conv=>whnf);exact rx [] [.same 0,.same 1,.same 2,.same 3,.same 4,.same 5,.same 6,.same 7,.same 8,.same 9,.same 10,.same 3,.same 4,.same 5,.same 6]
 |true=>
  rw[M]at N;have O:cI L r ids=if(ids.any fun id=>decide (kindOf L id=0))=true then 9 else 0:=by unfold cI;rw[M];rfl
  (conv=>whnf);refine cl [] [] (N) ?_;(conv=>whnf);refine lp Nat (fun i=>⟨[(0,.c (.ptr 0 0)),(1,.c (.int .i64 r)),(2,.c (.bs 1 Int encI ids)),(16,.c (.bs 1 Int encI ids)),(17,.c (.int .i64 ids.length)),(18,.c (.int .i64 i))],[.box [.ptr 1 0,.rw 3,.rw 4,.rw 5,.rw 6,.rw 7,.rw 8,.rw 9,.rw 10],.box [.rw 2],.row 6 Ob ak L,.row 1 Bool aj (o 0),.row 1 Bool aj (o 1),.row 1 Bool aj (o 2),.row 1 Bool aj (o 3),.row 1 Int encI (b 0),.row 1 Int encI (b 1),.row 1 Int encI (b 2),.row 1 Int encI (b 3)]⟩) (fun i=>i≤ids.length∧(ids.take i).any (fun id=>decide (kindOf L id=0))=false) (fun i=>ids.length-i) 0 [] [.same 0,.same 1,.same 2,.same 3,.same 4,.same 5,.same 6,.same 7,.same 8,.same 9,.same 10] ?_ ?_ (fun i w=>?_)
  ·simp
  ·repeat' first|exact trivial|exact rfl|refine And.intro ?_ ?_
  obtain⟨w,E⟩:=w;(conv=>whnf);refine dec (fun K=>?_) (fun K=>?_)
  ·have a:i<ids.length:=by have K:(i:Int)<ids.length:=K;omega
   have m:ids[i]? =some ids[i]:=List.getElem?_eq_getElem a;have P:=fun h=>o4 (l:=ids) (p:=fun id=>decide (kindOf L id=0)) a h;have R:=fun h=>hU (p:=fun id=>decide (kindOf L id=0)) a E h;generalize ids[i]=x at m P R;(conv=>whnf);refine⟨i,x,rfl,m,?_⟩;(conv=>whnf);refine cl [] [] (gT L J x) ?_;(conv=>whnf);refine ay (fun j=>?_) (fun j=>?_)
   ·have j:¬kindOf L x≠0:=j;have e:cI L r ids=9:=by rw[O,P (decide_eq_true (by omega))];rfl
    rw[show dE L o b r ids=o by unfold dE;rw[e];rfl,e];(conv=>whnf);exact rx [] [.same 0,.same 1,.same 2,.same 3,.same 4,.same 5,.same 6,.same 7,.same 8,.same 9,.same 10,.same 3,.same 4,.same 5,.same 6]
   ·have j:kindOf L x≠0:=j;repeat'((conv=>whnf);refine I6 ?_)
    refine ag (i+1) [] [.same 0,.same 1,.same 2,.same 3,.same 4,.same 5,.same 6,.same 7,.same 8,.same 9,.same 10] ⟨a,R (decide_eq_false (by omega))⟩ (by simp only[];omega) ?_;repeat' first|exact trivial|exact rfl|refine And.intro ?_ ?_
  ·have K:¬(i:Int)<ids.length:=K;rw[List.take_of_length_le (by omega)]at E;have e:cI L r ids=0:=by rw[O,E];rfl
   obtain⟨k,S,rfl⟩:=bZ.1 M;have eo:dE L o b (k:Int) ids=ax o k (lR L o b k ids):=by unfold dE;rw[e];rfl
   rw[e,eo];(conv=>whnf);rcases four S with rfl|rfl|rfl|rfl
   ·refine lp (List Bool) (fun x=>⟨[(0,.c (.ptr 0 0)),(1,.c (.int .i64 (0:Nat))),(2,.c (.bs 1 Int encI ids))],[.box [.ptr 1 0,.rw 11,.rw 4,.rw 5,.rw 6,.rw 7,.rw 8,.rw 9,.rw 10],.box [.rw 2],.row 6 Ob ak L,.dead,.row 1 Bool aj (o 1),.row 1 Bool aj (o 2),.row 1 Bool aj (o 3),.row 1 Int encI (b 0),.row 1 Int encI (b 1),.row 1 Int encI (b 2),.row 1 Int encI (b 3),.row 1 Bool aj x]⟩) (fun x=>(x.length≤max (o 0).length L.length∧fc x L.length=fc (o 0) L.length)∧True) (fun x=>L.length-x.length) (o 0) [] [.same 0,.same 1,.same 2,.same 3,.same 4,.same 5,.same 6,.same 7,.same 8,.same 9,.same 10,.same 3] ?_ ?_ (fun x F=>?_)
    ·exact⟨⟨by omega,rfl⟩,trivial⟩
    ·repeat' first|exact trivial|exact rfl|refine And.intro ?_ ?_
    obtain⟨⟨v,f⟩,-⟩:=F;(conv=>whnf);refine⟨false,.grow,(.l [0,1,2,3,4,5,6,7,8,9,10,11,12]),by kernel_rfl,.inl ?_⟩;(conv=>whnf);refine⟨0,⟨rfl,by decide⟩,?_⟩;(conv=>whnf);refine cl [] [] (pI L) ?_;(conv=>whnf);refine dec (fun j=>?_) (fun j=>?_)
    ·have j:(x.length:Int)<L.length:=j;(conv=>whnf);refine⟨false,.grow,(.l [0,1,2,3,4,5,6,7,10,11,8,9,12,13]),by kernel_rfl,.inl ?_⟩;(conv=>whnf);refine⟨0,⟨rfl,by decide⟩,?_⟩;(conv=>whnf);refine⟨[false],rfl,?_⟩;(conv=>whnf);refine⟨_,_,rfl,rfl,(by simp only[List.length_append,List.length_cons,List.length_nil];omega),?_⟩;(conv=>whnf);refine⟨0,⟨rfl,by decide⟩,?_⟩;skip;refine ag (x++[false]) [] [.same 0,.same 1,.same 2,.same 3,.same 4,.same 5,.same 6,.same 7,.same 8,.same 9,.same 10,.same 13] ⟨⟨by rw[List.length_append,List.length_singleton];omega,by rw[sA (by omega)];exact f⟩,trivial⟩ (by simp only[List.length_append,List.length_singleton];omega) ?_;repeat' first|exact trivial|exact rfl|refine And.intro ?_ ?_
    ·have j:¬(x.length:Int)<L.length:=j;rw[su (by omega)]at f;unfold lR;rw[←f];have H:L.length≤x.length:=by omega
     have s:=fun id (h:id∈aZ L ids)=>oM h;have u:=oL (l:=L) (ids:=ids);have z:=oN L J ids hi;generalize aZ L ids=rl at s u z⊢;clear f v;(conv=>whnf);refine cl [] [] (z) ?_;(conv=>whnf);refine lp Nat (fun i=>⟨[(0,.c (.ptr 0 0)),(1,.c (.int .i64 (0:Nat))),(65,.c (.rw 12)),(66,.c (.int .i64 rl.length)),(67,.c (.int .i64 i))],[.box [.ptr 1 0,.rw 11,.rw 4,.rw 5,.rw 6,.rw 7,.rw 8,.rw 9,.rw 10],.box [.rw 2],.row 6 Ob ak L,.dead,.row 1 Bool aj (o 1),.row 1 Bool aj (o 2),.row 1 Bool aj (o 3),.row 1 Int encI (b 0),.row 1 Int encI (b 1),.row 1 Int encI (b 2),.row 1 Int encI (b 3),.row 1 Bool aj ((rl.take i).foldl (dj o b 0) x)]++[.row 1 Int encI rl]⟩) (fun i=>i≤rl.length∧True) (fun i=>rl.length-i) 0 [] [.same 0,.same 1,.same 2,.same 3,.same 4,.same 5,.same 6,.same 7,.same 8,.same 9,.same 10,.same 11,.same 12] ?_ ?_ (fun i w=>?_)
     ·simp
     ·repeat' first|exact trivial|exact rfl|refine And.intro ?_ ?_
     (conv=>whnf);refine dec (fun q=>?_) (fun q=>?_)
     ·have a:i<rl.length:=by have q:(i:Int)<rl.length:=q;omega
      have m:rl[i]? =some rl[i]:=List.getElem?_eq_getElem a;have d:=r8 (o:=o) (b:=b) (r:=0) (x:=x) a;have t:=nr (o:=o) (b:=b) (r:=0) (x:=x) (l:=rl.take i);have hid:=s _ (List.getElem_mem a);generalize (rl.take i).foldl (dj o b 0) x=y at d t⊢;generalize rl[i]=id at m d hid;have I:=pD L (ax o 0 y) b D (0:Nat) id;(conv=>whnf);refine⟨i,⟨rfl,a⟩,?_⟩;(conv=>whnf);refine⟨id,m,?_⟩;(conv=>whnf);refine cl [] [] (I) ?_;(conv=>whnf);refine aW (fun g=>?_) (fun g=>?_)
      ·have g:cZ ⟨ax o 0 y,b⟩ (0:Nat) id=false:=by simpa using g
       rw[show dj o b 0 y id=y.set id.toNat true from if_neg (by rw[g];decide)]at d;(conv=>whnf);refine⟨0,⟨rfl,by decide⟩,?_⟩;(conv=>whnf);refine⟨id.toNat,⟨by omega,by omega⟩,?_⟩;(conv=>whnf);refine⟨_,true,List.getElem?_eq_getElem (show id.toNat<y.length by omega),⟨Nat.le_refl 1,rfl⟩,?_⟩;repeat'((conv=>whnf);refine I6 ?_)
       refine ag (i+1) [] [.same 0,.same 1,.same 2,.same 3,.same 4,.same 5,.same 6,.same 7,.same 8,.same 9,.same 10,.same 11,.same 12] ⟨a,trivial⟩ (by simp only[];omega) ?_;rw[d];repeat' first|exact trivial|exact rfl|refine And.intro ?_ ?_
      ·have g:cZ ⟨ax o 0 y,b⟩ (0:Nat) id=true:=by simpa using g
       rw[show dj o b 0 y id=y from if_pos g]at d;repeat'((conv=>whnf);refine I6 ?_)
       refine ag (i+1) [] [.same 0,.same 1,.same 2,.same 3,.same 4,.same 5,.same 6,.same 7,.same 8,.same 9,.same 10,.same 11,.same 12] ⟨a,trivial⟩ (by simp only[];omega) ?_;rw[d];repeat' first|exact trivial|exact rfl|refine And.intro ?_ ?_
     ·obtain rfl:i=rl.length:=by have q:¬(i:Int)<rl.length:=q;omega
      rw[List.take_length];(conv=>whnf);exact rx [] [.same 0,.same 1,.same 2,.same 3,.same 4,.same 5,.same 6,.same 7,.same 8,.same 9,.same 10,.same 11,.same 4,.same 5,.same 6]
   ·refine lp (List Bool) (fun x=>⟨[(0,.c (.ptr 0 0)),(1,.c (.int .i64 (1:Nat))),(2,.c (.bs 1 Int encI ids))],[.box [.ptr 1 0,.rw 3,.rw 11,.rw 5,.rw 6,.rw 7,.rw 8,.rw 9,.rw 10],.box [.rw 2],.row 6 Ob ak L,.row 1 Bool aj (o 0),.dead,.row 1 Bool aj (o 2),.row 1 Bool aj (o 3),.row 1 Int encI (b 0),.row 1 Int encI (b 1),.row 1 Int encI (b 2),.row 1 Int encI (b 3),.row 1 Bool aj x]⟩) (fun x=>(x.length≤max (o 1).length L.length∧fc x L.length=fc (o 1) L.length)∧True) (fun x=>L.length-x.length) (o 1) [] [.same 0,.same 1,.same 2,.same 3,.same 4,.same 5,.same 6,.same 7,.same 8,.same 9,.same 10,.same 4] ?_ ?_ (fun x F=>?_)
    ·exact⟨⟨by omega,rfl⟩,trivial⟩
    ·repeat' first|exact trivial|exact rfl|refine And.intro ?_ ?_
    obtain⟨⟨v,f⟩,-⟩:=F;(conv=>whnf);refine⟨false,.grow,(.l [0,1,2,3,4,5,6,7,8,9,10,11,12]),by kernel_rfl,.inl ?_⟩;(conv=>whnf);refine⟨1,⟨rfl,by decide⟩,?_⟩;(conv=>whnf);refine cl [] [] (pI L) ?_;(conv=>whnf);refine dec (fun j=>?_) (fun j=>?_)
    ·have j:(x.length:Int)<L.length:=j;(conv=>whnf);refine⟨false,.grow,(.l [0,1,2,3,4,5,6,7,10,11,8,9,12,13]),by kernel_rfl,.inl ?_⟩;(conv=>whnf);refine⟨1,⟨rfl,by decide⟩,?_⟩;(conv=>whnf);refine⟨[false],rfl,?_⟩;(conv=>whnf);refine⟨_,_,rfl,rfl,(by simp only[List.length_append,List.length_cons,List.length_nil];omega),?_⟩;(conv=>whnf);refine⟨1,⟨rfl,by decide⟩,?_⟩;skip;refine ag (x++[false]) [] [.same 0,.same 1,.same 2,.same 3,.same 4,.same 5,.same 6,.same 7,.same 8,.same 9,.same 10,.same 13] ⟨⟨by rw[List.length_append,List.length_singleton];omega,by rw[sA (by omega)];exact f⟩,trivial⟩ (by simp only[List.length_append,List.length_singleton];omega) ?_;repeat' first|exact trivial|exact rfl|refine And.intro ?_ ?_
    ·have j:¬(x.length:Int)<L.length:=j;rw[su (by omega)]at f;unfold lR;rw[←f];have H:L.length≤x.length:=by omega
     have s:=fun id (h:id∈aZ L ids)=>oM h;have u:=oL (l:=L) (ids:=ids);have z:=oN L J ids hi;generalize aZ L ids=rl at s u z⊢;clear f v;(conv=>whnf);refine cl [] [] (z) ?_;(conv=>whnf);refine lp Nat (fun i=>⟨[(0,.c (.ptr 0 0)),(1,.c (.int .i64 (1:Nat))),(65,.c (.rw 12)),(66,.c (.int .i64 rl.length)),(67,.c (.int .i64 i))],[.box [.ptr 1 0,.rw 3,.rw 11,.rw 5,.rw 6,.rw 7,.rw 8,.rw 9,.rw 10],.box [.rw 2],.row 6 Ob ak L,.row 1 Bool aj (o 0),.dead,.row 1 Bool aj (o 2),.row 1 Bool aj (o 3),.row 1 Int encI (b 0),.row 1 Int encI (b 1),.row 1 Int encI (b 2),.row 1 Int encI (b 3),.row 1 Bool aj ((rl.take i).foldl (dj o b 1) x)]++[.row 1 Int encI rl]⟩) (fun i=>i≤rl.length∧True) (fun i=>rl.length-i) 0 [] [.same 0,.same 1,.same 2,.same 3,.same 4,.same 5,.same 6,.same 7,.same 8,.same 9,.same 10,.same 11,.same 12] ?_ ?_ (fun i w=>?_)
     ·simp
     ·repeat' first|exact trivial|exact rfl|refine And.intro ?_ ?_
     (conv=>whnf);refine dec (fun q=>?_) (fun q=>?_)
     ·have a:i<rl.length:=by have q:(i:Int)<rl.length:=q;omega
      have m:rl[i]? =some rl[i]:=List.getElem?_eq_getElem a;have d:=r8 (o:=o) (b:=b) (r:=1) (x:=x) a;have t:=nr (o:=o) (b:=b) (r:=1) (x:=x) (l:=rl.take i);have hid:=s _ (List.getElem_mem a);generalize (rl.take i).foldl (dj o b 1) x=y at d t⊢;generalize rl[i]=id at m d hid;have I:=pD L (ax o 1 y) b D (1:Nat) id;(conv=>whnf);refine⟨i,⟨rfl,a⟩,?_⟩;(conv=>whnf);refine⟨id,m,?_⟩;(conv=>whnf);refine cl [] [] (I) ?_;(conv=>whnf);refine aW (fun g=>?_) (fun g=>?_)
      ·have g:cZ ⟨ax o 1 y,b⟩ (1:Nat) id=false:=by simpa using g
       rw[show dj o b 1 y id=y.set id.toNat true from if_neg (by rw[g];decide)]at d;(conv=>whnf);refine⟨1,⟨rfl,by decide⟩,?_⟩;(conv=>whnf);refine⟨id.toNat,⟨by omega,by omega⟩,?_⟩;(conv=>whnf);refine⟨_,true,List.getElem?_eq_getElem (show id.toNat<y.length by omega),⟨Nat.le_refl 1,rfl⟩,?_⟩;repeat'((conv=>whnf);refine I6 ?_)
       refine ag (i+1) [] [.same 0,.same 1,.same 2,.same 3,.same 4,.same 5,.same 6,.same 7,.same 8,.same 9,.same 10,.same 11,.same 12] ⟨a,trivial⟩ (by simp only[];omega) ?_;rw[d];repeat' first|exact trivial|exact rfl|refine And.intro ?_ ?_
      ·have g:cZ ⟨ax o 1 y,b⟩ (1:Nat) id=true:=by simpa using g
       rw[show dj o b 1 y id=y from if_pos g]at d;repeat'((conv=>whnf);refine I6 ?_)
       refine ag (i+1) [] [.same 0,.same 1,.same 2,.same 3,.same 4,.same 5,.same 6,.same 7,.same 8,.same 9,.same 10,.same 11,.same 12] ⟨a,trivial⟩ (by simp only[];omega) ?_;rw[d];repeat' first|exact trivial|exact rfl|refine And.intro ?_ ?_
     ·obtain rfl:i=rl.length:=by have q:¬(i:Int)<rl.length:=q;omega
      rw[List.take_length];(conv=>whnf);exact rx [] [.same 0,.same 1,.same 2,.same 3,.same 4,.same 5,.same 6,.same 7,.same 8,.same 9,.same 10,.same 3,.same 11,.same 5,.same 6]
   ·refine lp (List Bool) (fun x=>⟨[(0,.c (.ptr 0 0)),(1,.c (.int .i64 (2:Nat))),(2,.c (.bs 1 Int encI ids))],[.box [.ptr 1 0,.rw 3,.rw 4,.rw 11,.rw 6,.rw 7,.rw 8,.rw 9,.rw 10],.box [.rw 2],.row 6 Ob ak L,.row 1 Bool aj (o 0),.row 1 Bool aj (o 1),.dead,.row 1 Bool aj (o 3),.row 1 Int encI (b 0),.row 1 Int encI (b 1),.row 1 Int encI (b 2),.row 1 Int encI (b 3),.row 1 Bool aj x]⟩) (fun x=>(x.length≤max (o 2).length L.length∧fc x L.length=fc (o 2) L.length)∧True) (fun x=>L.length-x.length) (o 2) [] [.same 0,.same 1,.same 2,.same 3,.same 4,.same 5,.same 6,.same 7,.same 8,.same 9,.same 10,.same 5] ?_ ?_ (fun x F=>?_)
    ·exact⟨⟨by omega,rfl⟩,trivial⟩
    ·repeat' first|exact trivial|exact rfl|refine And.intro ?_ ?_
    obtain⟨⟨v,f⟩,-⟩:=F;(conv=>whnf);refine⟨false,.grow,(.l [0,1,2,3,4,5,6,7,8,9,10,11,12]),by kernel_rfl,.inl ?_⟩;(conv=>whnf);refine⟨2,⟨rfl,by decide⟩,?_⟩;(conv=>whnf);refine cl [] [] (pI L) ?_;(conv=>whnf);refine dec (fun j=>?_) (fun j=>?_)
    ·have j:(x.length:Int)<L.length:=j;(conv=>whnf);refine⟨false,.grow,(.l [0,1,2,3,4,5,6,7,10,11,8,9,12,13]),by kernel_rfl,.inl ?_⟩;(conv=>whnf);refine⟨2,⟨rfl,by decide⟩,?_⟩;(conv=>whnf);refine⟨[false],rfl,?_⟩;(conv=>whnf);refine⟨_,_,rfl,rfl,(by simp only[List.length_append,List.length_cons,List.length_nil];omega),?_⟩;(conv=>whnf);refine⟨2,⟨rfl,by decide⟩,?_⟩;skip;refine ag (x++[false]) [] [.same 0,.same 1,.same 2,.same 3,.same 4,.same 5,.same 6,.same 7,.same 8,.same 9,.same 10,.same 13] ⟨⟨by rw[List.length_append,List.length_singleton];omega,by rw[sA (by omega)];exact f⟩,trivial⟩ (by simp only[List.length_append,List.length_singleton];omega) ?_;repeat' first|exact trivial|exact rfl|refine And.intro ?_ ?_
    ·have j:¬(x.length:Int)<L.length:=j;rw[su (by omega)]at f;unfold lR;rw[←f];have H:L.length≤x.length:=by omega
     have s:=fun id (h:id∈aZ L ids)=>oM h;have u:=oL (l:=L) (ids:=ids);have z:=oN L J ids hi;generalize aZ L ids=rl at s u z⊢;clear f v;(conv=>whnf);refine cl [] [] (z) ?_;(conv=>whnf);refine lp Nat (fun i=>⟨[(0,.c (.ptr 0 0)),(1,.c (.int .i64 (2:Nat))),(65,.c (.rw 12)),(66,.c (.int .i64 rl.length)),(67,.c (.int .i64 i))],[.box [.ptr 1 0,.rw 3,.rw 4,.rw 11,.rw 6,.rw 7,.rw 8,.rw 9,.rw 10],.box [.rw 2],.row 6 Ob ak L,.row 1 Bool aj (o 0),.row 1 Bool aj (o 1),.dead,.row 1 Bool aj (o 3),.row 1 Int encI (b 0),.row 1 Int encI (b 1),.row 1 Int encI (b 2),.row 1 Int encI (b 3),.row 1 Bool aj ((rl.take i).foldl (dj o b 2) x)]++[.row 1 Int encI rl]⟩) (fun i=>i≤rl.length∧True) (fun i=>rl.length-i) 0 [] [.same 0,.same 1,.same 2,.same 3,.same 4,.same 5,.same 6,.same 7,.same 8,.same 9,.same 10,.same 11,.same 12] ?_ ?_ (fun i w=>?_)
     ·simp
     ·repeat' first|exact trivial|exact rfl|refine And.intro ?_ ?_
     (conv=>whnf);refine dec (fun q=>?_) (fun q=>?_)
     ·have a:i<rl.length:=by have q:(i:Int)<rl.length:=q;omega
      have m:rl[i]? =some rl[i]:=List.getElem?_eq_getElem a;have d:=r8 (o:=o) (b:=b) (r:=2) (x:=x) a;have t:=nr (o:=o) (b:=b) (r:=2) (x:=x) (l:=rl.take i);have hid:=s _ (List.getElem_mem a);generalize (rl.take i).foldl (dj o b 2) x=y at d t⊢;generalize rl[i]=id at m d hid;have I:=pD L (ax o 2 y) b D (2:Nat) id;(conv=>whnf);refine⟨i,⟨rfl,a⟩,?_⟩;(conv=>whnf);refine⟨id,m,?_⟩;(conv=>whnf);refine cl [] [] (I) ?_;(conv=>whnf);refine aW (fun g=>?_) (fun g=>?_)
      ·have g:cZ ⟨ax o 2 y,b⟩ (2:Nat) id=false:=by simpa using g
       rw[show dj o b 2 y id=y.set id.toNat true from if_neg (by rw[g];decide)]at d;(conv=>whnf);refine⟨2,⟨rfl,by decide⟩,?_⟩;(conv=>whnf);refine⟨id.toNat,⟨by omega,by omega⟩,?_⟩;(conv=>whnf);refine⟨_,true,List.getElem?_eq_getElem (show id.toNat<y.length by omega),⟨Nat.le_refl 1,rfl⟩,?_⟩;repeat'((conv=>whnf);refine I6 ?_)
       refine ag (i+1) [] [.same 0,.same 1,.same 2,.same 3,.same 4,.same 5,.same 6,.same 7,.same 8,.same 9,.same 10,.same 11,.same 12] ⟨a,trivial⟩ (by simp only[];omega) ?_;rw[d];repeat' first|exact trivial|exact rfl|refine And.intro ?_ ?_
      ·have g:cZ ⟨ax o 2 y,b⟩ (2:Nat) id=true:=by simpa using g
       rw[show dj o b 2 y id=y from if_pos g]at d;repeat'((conv=>whnf);refine I6 ?_)
       refine ag (i+1) [] [.same 0,.same 1,.same 2,.same 3,.same 4,.same 5,.same 6,.same 7,.same 8,.same 9,.same 10,.same 11,.same 12] ⟨a,trivial⟩ (by simp only[];omega) ?_;rw[d];repeat' first|exact trivial|exact rfl|refine And.intro ?_ ?_
     ·obtain rfl:i=rl.length:=by have q:¬(i:Int)<rl.length:=q;omega
      rw[List.take_length];(conv=>whnf);exact rx [] [.same 0,.same 1,.same 2,.same 3,.same 4,.same 5,.same 6,.same 7,.same 8,.same 9,.same 10,.same 3,.same 4,.same 11,.same 6]
   ·refine lp (List Bool) (fun x=>⟨[(0,.c (.ptr 0 0)),(1,.c (.int .i64 (3:Nat))),(2,.c (.bs 1 Int encI ids))],[.box [.ptr 1 0,.rw 3,.rw 4,.rw 5,.rw 11,.rw 7,.rw 8,.rw 9,.rw 10],.box [.rw 2],.row 6 Ob ak L,.row 1 Bool aj (o 0),.row 1 Bool aj (o 1),.row 1 Bool aj (o 2),.dead,.row 1 Int encI (b 0),.row 1 Int encI (b 1),.row 1 Int encI (b 2),.row 1 Int encI (b 3),.row 1 Bool aj x]⟩) (fun x=>(x.length≤max (o 3).length L.length∧fc x L.length=fc (o 3) L.length)∧True) (fun x=>L.length-x.length) (o 3) [] [.same 0,.same 1,.same 2,.same 3,.same 4,.same 5,.same 6,.same 7,.same 8,.same 9,.same 10,.same 6] ?_ ?_ (fun x F=>?_)
    ·exact⟨⟨by omega,rfl⟩,trivial⟩
    ·repeat' first|exact trivial|exact rfl|refine And.intro ?_ ?_
    obtain⟨⟨v,f⟩,-⟩:=F;(conv=>whnf);refine⟨false,.grow,(.l [0,1,2,3,4,5,6,7,8,9,10,11,12]),by kernel_rfl,.inl ?_⟩;(conv=>whnf);refine⟨3,⟨rfl,by decide⟩,?_⟩;(conv=>whnf);refine cl [] [] (pI L) ?_;(conv=>whnf);refine dec (fun j=>?_) (fun j=>?_)
    ·have j:(x.length:Int)<L.length:=j;(conv=>whnf);refine⟨false,.grow,(.l [0,1,2,3,4,5,6,7,10,11,8,9,12,13]),by kernel_rfl,.inl ?_⟩;(conv=>whnf);refine⟨3,⟨rfl,by decide⟩,?_⟩;(conv=>whnf);refine⟨[false],rfl,?_⟩;(conv=>whnf);refine⟨_,_,rfl,rfl,(by simp only[List.length_append,List.length_cons,List.length_nil];omega),?_⟩;(conv=>whnf);refine⟨3,⟨rfl,by decide⟩,?_⟩;skip;refine ag (x++[false]) [] [.same 0,.same 1,.same 2,.same 3,.same 4,.same 5,.same 6,.same 7,.same 8,.same 9,.same 10,.same 13] ⟨⟨by rw[List.length_append,List.length_singleton];omega,by rw[sA (by omega)];exact f⟩,trivial⟩ (by simp only[List.length_append,List.length_singleton];omega) ?_;repeat' first|exact trivial|exact rfl|refine And.intro ?_ ?_
    ·have j:¬(x.length:Int)<L.length:=j;rw[su (by omega)]at f;unfold lR;rw[←f];have H:L.length≤x.length:=by omega
     have s:=fun id (h:id∈aZ L ids)=>oM h;have u:=oL (l:=L) (ids:=ids);have z:=oN L J ids hi;generalize aZ L ids=rl at s u z⊢;clear f v;(conv=>whnf);refine cl [] [] (z) ?_;(conv=>whnf);refine lp Nat (fun i=>⟨[(0,.c (.ptr 0 0)),(1,.c (.int .i64 (3:Nat))),(65,.c (.rw 12)),(66,.c (.int .i64 rl.length)),(67,.c (.int .i64 i))],[.box [.ptr 1 0,.rw 3,.rw 4,.rw 5,.rw 11,.rw 7,.rw 8,.rw 9,.rw 10],.box [.rw 2],.row 6 Ob ak L,.row 1 Bool aj (o 0),.row 1 Bool aj (o 1),.row 1 Bool aj (o 2),.dead,.row 1 Int encI (b 0),.row 1 Int encI (b 1),.row 1 Int encI (b 2),.row 1 Int encI (b 3),.row 1 Bool aj ((rl.take i).foldl (dj o b 3) x)]++[.row 1 Int encI rl]⟩) (fun i=>i≤rl.length∧True) (fun i=>rl.length-i) 0 [] [.same 0,.same 1,.same 2,.same 3,.same 4,.same 5,.same 6,.same 7,.same 8,.same 9,.same 10,.same 11,.same 12] ?_ ?_ (fun i w=>?_)
     ·simp
     ·repeat' first|exact trivial|exact rfl|refine And.intro ?_ ?_
     (conv=>whnf);refine dec (fun q=>?_) (fun q=>?_)
     ·have a:i<rl.length:=by have q:(i:Int)<rl.length:=q;omega
      have m:rl[i]? =some rl[i]:=List.getElem?_eq_getElem a;have d:=r8 (o:=o) (b:=b) (r:=3) (x:=x) a;have t:=nr (o:=o) (b:=b) (r:=3) (x:=x) (l:=rl.take i);have hid:=s _ (List.getElem_mem a);generalize (rl.take i).foldl (dj o b 3) x=y at d t⊢;generalize rl[i]=id at m d hid;have I:=pD L (ax o 3 y) b D (3:Nat) id;(conv=>whnf);refine⟨i,⟨rfl,a⟩,?_⟩;(conv=>whnf);refine⟨id,m,?_⟩;(conv=>whnf);refine cl [] [] (I) ?_;(conv=>whnf);refine aW (fun g=>?_) (fun g=>?_)
      ·have g:cZ ⟨ax o 3 y,b⟩ (3:Nat) id=false:=by simpa using g
       rw[show dj o b 3 y id=y.set id.toNat true from if_neg (by rw[g];decide)]at d;(conv=>whnf);refine⟨3,⟨rfl,by decide⟩,?_⟩;(conv=>whnf);refine⟨id.toNat,⟨by omega,by omega⟩,?_⟩;(conv=>whnf);refine⟨_,true,List.getElem?_eq_getElem (show id.toNat<y.length by omega),⟨Nat.le_refl 1,rfl⟩,?_⟩;repeat'((conv=>whnf);refine I6 ?_)
       refine ag (i+1) [] [.same 0,.same 1,.same 2,.same 3,.same 4,.same 5,.same 6,.same 7,.same 8,.same 9,.same 10,.same 11,.same 12] ⟨a,trivial⟩ (by simp only[];omega) ?_;rw[d];repeat' first|exact trivial|exact rfl|refine And.intro ?_ ?_
      ·have g:cZ ⟨ax o 3 y,b⟩ (3:Nat) id=true:=by simpa using g
       rw[show dj o b 3 y id=y from if_pos g]at d;repeat'((conv=>whnf);refine I6 ?_)
       refine ag (i+1) [] [.same 0,.same 1,.same 2,.same 3,.same 4,.same 5,.same 6,.same 7,.same 8,.same 9,.same 10,.same 11,.same 12] ⟨a,trivial⟩ (by simp only[];omega) ?_;rw[d];repeat' first|exact trivial|exact rfl|refine And.intro ?_ ?_
     ·obtain rfl:i=rl.length:=by have q:¬(i:Int)<rl.length:=q;omega
      rw[List.take_length];(conv=>whnf);exact rx [] [.same 0,.same 1,.same 2,.same 3,.same 4,.same 5,.same 6,.same 7,.same 8,.same 9,.same 10,.same 3,.same 4,.same 5,.same 11]
end Go.Nest
end
section
namespace Go.Nest
open Go Go.AM Go.Proofs
open Go.Proofs.YtpechfcbnoggfaaGreatDoor (tab tabOk)
set_option maxRecDepth 4000
def jO(es:List aF):List (Int×Int):=(es.filter fun e=>decide (e.mode=3)).map fun e=>(e.ar,e.id)
def cA(L:List Ob)(ids:List Int):List (Int×Int):=ids.flatMap fun id=>jO (ab L id).entries
theorem Ar{es:List aF}:(jO es).length≤es.length:=by
 unfold jO;rw[List.length_map];exact List.length_filter_le _ _
theorem Hg{es:List aF}{j:Nat}(h:j<es.length):jO (es.take (j+1))=jO (es.take j)++(if es[j].mode=3 then[(es[j].ar,es[j].id)]else[]):=by
 unfold jO;rw[List.take_succ_eq_append_getElem h,List.filter_append,List.map_append,List.filter_cons];congr 1
 split
 ·rename_i a;rw[if_pos (by simpa using a)];rfl
 ·rename_i a;rw[if_neg (by simpa using a)];rfl
theorem Hk{L:List Ob}{ids:List Int}{i:Nat}(h:i<ids.length):cA L (ids.take (i+1))=cA L (ids.take i)++jO (ab L ids[i]).entries:=by
 unfold cA;rw[List.take_succ_eq_append_getElem h,List.flatMap_append];simp
theorem vC{L:List Ob}(a:ae L):∀{ids:List Int},(cA L ids).length≤ids.length*60
 |[]=>Nat.zero_le _
 |id::ids=>by
  have ih:=vC a (ids:=ids)
  have b:(ab L id).entries.length≤60:=by
   by_cases h:kindOf L id=0
   ·rw[a.l8 h];exact Nat.zero_le _
   ·exact(a.get h).entries
  have c:=Ar (es:=(ab L id).entries);unfold cA at ih⊢;rw[List.flatMap_cons,List.length_append,List.length_cons];omega
set_option maxHeartbeats 2000000 in
theorem Hj(L:List Ob)(s:ae L)(o:Nat→List Bool)(b:Nat→List Int)(ids:List Int)(hi:ids.length≤1000000):ai Tryz.prog 220 [.c (.bp [.bp [.bs 6 Ob ak L],.bs 1 Bool aj (o 0),.bs 1 Bool aj (o 1),.bs 1 Bool aj (o 2),.bs 1 Bool aj (o 3),.bs 1 Int encI (b 0),.bs 1 Int encI (b 1),.bs 1 Int encI (b 2),.bs 1 Int encI (b 3)]),.c (.bs 1 Int encI ids)] [] (Rt (.c (.rw 0)) [.row 2 (Int×Int) jE (cA L ids)]):=by
 refine an (n:=48) (n0:=0) tabOk Tryz.call220 Tryz.func220 ?_;intro hb;(conv=>whnf);refine lp Nat (fun i=>⟨[(0,.c (.bp [.bp [.bs 6 Ob ak L],.bs 1 Bool aj (o 0),.bs 1 Bool aj (o 1),.bs 1 Bool aj (o 2),.bs 1 Bool aj (o 3),.bs 1 Int encI (b 0),.bs 1 Int encI (b 1),.bs 1 Int encI (b 2),.bs 1 Int encI (b 3)])),(5,.c (.rw 0)),(12,.c (.bs 1 Int encI ids)),(13,.c (.int .i64 ids.length)),(14,.c (.int .i64 i))],[.row 2 (Int×Int) jE (cA L (ids.take i))]⟩) (fun i=>i≤ids.length∧True) (fun i=>ids.length-i) 0 [] [.new] ?_ ?_ (fun i v=>?_)
 ·simp
 ·repeat' first|exact trivial|exact rfl|refine And.intro ?_ ?_
 (conv=>whnf);refine dec (fun k=>?_) (fun k=>?_)
 ·have g:i<ids.length:=by have k:(i:Int)<ids.length:=k;omega
  have m:ids[i]? =some ids[i]:=List.getElem?_eq_getElem g;have f:=Hk (L:=L) g;have r:=vC s (ids:=ids.take i);rw[List.length_take]at r;generalize cA L (ids.take i)=out at f r⊢;generalize ids[i]=id at m f
  have u:(ab L id).entries.length≤60:=by
   by_cases h:kindOf L id=0
   ·rw[s.l8 h];exact Nat.zero_le _
   ·exact(s.get h).entries
  (conv=>whnf);refine⟨i,id,rfl,m,?_⟩;(conv=>whnf);refine cl [] [] (gT L s id) ?_;generalize ab L id=ob at u f⊢;(conv=>whnf);refine lp Nat (fun j=>⟨[(0,.c (.bp [.bp [.bs 6 Ob ak L],.bs 1 Bool aj (o 0),.bs 1 Bool aj (o 1),.bs 1 Bool aj (o 2),.bs 1 Bool aj (o 3),.bs 1 Int encI (b 0),.bs 1 Int encI (b 1),.bs 1 Int encI (b 2),.bs 1 Int encI (b 3)])),(5,.c (.rw 0)),(12,.c (.bs 1 Int encI ids)),(13,.c (.int .i64 ids.length)),(14,.c (.int .i64 i)),(28,.c (.bs 4 aF cX ob.entries)),(29,.c (.int .i64 ob.entries.length)),(30,.c (.int .i64 j))],[.row 2 (Int×Int) jE (out++jO (ob.entries.take j))]⟩) (fun j=>j≤ob.entries.length∧True) (fun j=>ob.entries.length-j) 0 [] [.same 0] ?_ ?_ (fun j w=>?_)
  ·simp
  ·rw[List.take_zero,show jO []=[]from rfl,List.append_nil];repeat' first|exact trivial|exact rfl|refine And.intro ?_ ?_
  (conv=>whnf);refine dec (fun l=>?_) (fun l=>?_)
  ·have d:j<ob.entries.length:=by have l:(j:Int)<ob.entries.length:=l;omega
   have p:ob.entries[j]? =some ob.entries[j]:=List.getElem?_eq_getElem d;have a:=Hg d;have q:=Ar (es:=ob.entries.take j);rw[List.length_take]at q;generalize jO (ob.entries.take j)=o2 at a q⊢;generalize ob.entries[j]=e at p a;(conv=>whnf);refine⟨j,e,rfl,p,?_⟩;(conv=>whnf);refine dec (fun t=>?_) (fun t=>?_)
   ·rw[if_pos t]at a;(conv=>whnf);refine⟨[(e.ar,e.id)],rfl,?_⟩;(conv=>whnf);refine⟨_,_,rfl,rfl,(by simp only[List.length_append,List.length_cons,List.length_nil];omega),?_⟩;repeat'((conv=>whnf);refine I6 ?_)
    refine ag (j+1) [] [.same 3] ⟨d,trivial⟩ (by simp only[];omega) ?_;rw[a,←List.append_assoc];repeat' first|exact trivial|exact rfl|refine And.intro ?_ ?_
   ·rw[if_neg t,List.append_nil]at a;repeat'((conv=>whnf);refine I6 ?_)
    refine ag (j+1) [] [.same 0] ⟨d,trivial⟩ (by simp only[];omega) ?_;rw[a];repeat' first|exact trivial|exact rfl|refine And.intro ?_ ?_
  ·obtain rfl:j=ob.entries.length:=by have l:¬(j:Int)<ob.entries.length:=l;omega
   rw[List.take_length];repeat'((conv=>whnf);refine I6 ?_)
   refine ag (i+1) [] [.same 0] ⟨g,trivial⟩ (by simp only[];omega) ?_;rw[f];repeat' first|exact trivial|exact rfl|refine And.intro ?_ ?_
 ·obtain rfl:i=ids.length:=by have k:¬(i:Int)<ids.length:=k;omega
  rw[List.take_length];(conv=>whnf);exact rx [] [.same 0]
def Hm(o:Nat→List Bool)(r:Int)(n:Nat):List Int:=((List.range n).filter fun k:Nat=>gV o r k).map fun k:Nat=>(k:Int)
end Go.Nest
end
section
namespace Go.Nest
open Go Go.AM
inductive Nd(L:List Ob)(ro:Nat→List Int):Nat→Int→Prop
 |root {r:Nat} {x k:Int} (hr:r<4) (h:x∈ro r) (hl:db L [x] k):Nd L ro r k
 |link {r:Nat} {k m:Int} {e:aF} (h:Nd L ro r k) (he:e∈(ab L k).entries) (hm:e.mode=3) (hl:db L [e.id] m):Nd L ro e.ar.toNat m
noncomputable def fX(L:List Ob)(ro:Nat→List Int)(r:Nat):List Int:=((List.range L.length).filter fun k:Nat=> @decide (Nd L ro r (k:Int)) (Classical.propDecidable _)).map fun k:Nat=>(k:Int)
structure RS where
 ro:Nat→List Int
 out:Nat→List Int
 more:Bool
def mH(f:Nat→Nat):Nat:=f 0+(f 1+(f 2+f 3))
def fu(L:List Ob)(n:Nat→Nat)(s:RS):Nat:=mH (fun r=>600+n r-(s.ro r).length)+mH (fun r=>L.length-(s.out r).length)
structure gq(L:List Ob)(r0:Nat→List Int)(s:RS):Prop where
 sub:∀r,r<4→∀x∈r0 r,x∈s.ro r
 nd:∀r,r<4→∀x∈s.ro r,∀k,db L [x] k→Nd L r0 r k
 ext:∀r,r<4→∃ex,s.ro r=r0 r++ex∧ex.Nodup∧∀x∈ex,0≤x∧x<(600:Nat)
 out:∀r,r<4→∀k∈s.out r,k∈aZ L (s.ro r)
 onod:∀r,r<4→(s.out r).Nodup
theorem gq.len{L:List Ob}{r0:Nat→List Int}{s:RS}(h:gq L r0 s){r:Nat}(hr:r<4):(s.ro r).length≤(r0 r).length+600:=by
 obtain⟨ex,e,a,b⟩:=h.ext r hr;rw[e,List.length_append];have:=iR 600 a b;omega
structure qF(L:List Ob)(s:RS):Prop where
 out:∀r,r<4→s.out r=aZ L (s.ro r)
 clo:∀r,r<4→∀l∈cA L (s.out r),l.2∈s.ro l.1.toNat
theorem vu{L:List Ob}{ids:List Int}{k:Int}(h:db L ids k):∃x∈ids,db L [x] k:=by
 induction h with
 |base h a=>exact⟨_,h,.base (by simp) a⟩
 |step h a ih=>
  obtain⟨x,b,c⟩:=ih;exact⟨x,b,.step c a⟩
theorem vr{L:List Ob}{ids:List Int}{x k:Int}(b:x∈ids)(h:db L [x] k):db L ids k:=by
 induction h with
 |base h a=>rw[List.mem_singleton]at h;subst h;exact .base b a
 |step h a ih=>exact .step ih a
theorem G3{L:List Ob}{ids a:List Int}(d:∀x∈ids,x∈a){k:Int}(h:db L ids k):db L a k:=by
 obtain⟨x,b,c⟩:=vu h;exact vr (d x b) c
theorem db.pos{L:List Ob}(a:ae L){ids:List Int}{k:Int}(h:db L ids k):0≤k∧k.toNat<L.length:=by
 have b:=bJ (h.kind a);omega
theorem r9{L:List Ob}{ids:List Int}{l:Int×Int}:l∈cA L ids↔∃k∈ids,∃e∈(ab L k).entries,e.mode=3∧l=(e.ar,e.id):=by
 unfold cA jO;rw[List.mem_flatMap];constructor
 ·rintro⟨k,b,c⟩;obtain⟨e,a,d⟩:=List.mem_map.1 c;rw[List.mem_filter]at a;exact⟨k,b,e,a.1,by simpa using a.2,d.symm⟩
 ·rintro⟨k,b,e,c,a,d⟩;refine⟨k,b,List.mem_map.2 ⟨e,List.mem_filter.2 ⟨c,by simpa using a⟩,d.symm⟩⟩
theorem po{L:List Ob}(b:ae L){k:Int}{e:aF}(he:e∈(ab L k).entries):0≤e.ar∧e.ar<4∧kindOf L e.id=e.mode:=by
 have c:¬kindOf L k=0:=fun h=>by rw[b.l8 h]at he;cases he
 have d:=b.get c;have a:=bJ c;have q:=mY d.ents e he;have:=(b.obj (ab L k) (by rw[jg a.1 a.2];exact List.getElem_mem _)).2;unfold dH at this;rw[Bool.and_eq_true,List.all_eq_true]at this;have:=this.1 e he;exact⟨q.2.2.2.1.1,q.2.2.2.1.2,by simpa using this⟩
theorem Nd.lt{L:List Ob}(a:ae L){r0:Nat→List Int}{r:Nat}{k:Int}(h:Nd L r0 r k):r<4:=by
 cases h with
 |root c _ _=>exact c
 |link h b e d=>have:=po a b;omega
theorem Nd.pos{L:List Ob}(b:ae L){r0:Nat→List Int}{r:Nat}{k:Int}(h:Nd L r0 r k):0≤k∧k.toNat<L.length:=by
 cases h with
 |root e _ a=>exact a.pos b
 |link h c d a=>exact a.pos b
theorem AE{L:List Ob}(b:ae L){r0:Nat→List Int}{r:Nat}{k:Int}:k∈fX L r0 r↔Nd L r0 r k:=by
 unfold fX;rw[List.mem_map];constructor
 ·rintro⟨j,c,rfl⟩;have:=(List.mem_filter.1 c).2;simpa using this
 ·intro h;obtain⟨d,a⟩:=h.pos b;have e:((k.toNat:Nat):Int)=k:=by omega
  refine⟨k.toNat,List.mem_filter.2 ⟨List.mem_range.2 a,?_⟩,e⟩;rw[e];simpa using h
theorem HR{L:List Ob}{r0:Nat→List Int}{r:Nat}:(fX L r0 r).Pairwise (· < ·):=by
 unfold fX;rw[List.pairwise_map];exact(List.pairwise_lt_range.filter _).imp fun h=>by omega
theorem qF.cd{L:List Ob}(a:ae L){r0:Nat→List Int}{s:RS}(hi:gq L r0 s)(b:qF L s){r:Nat}(hr:r<4):s.out r=fX L r0 r:=by
 have d:∀r k,Nd L r0 r k→k∈s.out r:=fun r k h=>by
  induction h with
  | @root r x k hr h c=>
   rw[b.out r hr,jk a];exact vr (hi.sub r hr x h) c
  | @link r k m e h f j c ih=>
   have hr:=h.lt a;have l:=po a f;have:=b.clo r hr (e.ar,e.id) (r9.2 ⟨k,ih,e,f,j,rfl⟩);rw[b.out _ (by omega),jk a];exact vr this c
 rw[b.out r hr];refine qf sH HR fun k=>?_;rw[AE a];constructor
 ·intro h;obtain⟨x,g,i⟩:=vu ((jk a).1 h);exact hi.nd r hr x g k i
 ·intro h;have:=d r k h;rwa[b.out r hr]at this
theorem gq.start{L:List Ob}{r0:Nat→List Int}:gq L r0 ⟨r0,fun _=>[],true⟩where
 sub:=fun r a x h=>h
 nd:=fun r a x h k b=>.root a h b
 ext:=fun r a=>⟨[],by simp,List.nodup_nil,fun x h=>by cases h⟩;out:=fun r a k h=>by cases h
 onod:=fun r a=>List.nodup_nil
theorem J5{α:Type}{f:α→Nat}{o:Nat→α}{k:Nat}(hk:k<4){v:α}:mH (fun r=>f (ax o k v r))+f (o k)=mH (fun r=>f (o r))+f v:=by
 unfold mH;rcases four hk with rfl|rfl|rfl|rfl<;>simp only[ax,Nat.beq,cond_true,cond_false]<;>omega
end Go.Nest
end
