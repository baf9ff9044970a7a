/- part -/
import Derived.Test.YtpechfcbnoggfaaGreatDoorQ3
import Derived.Test.YtpechfcbnoggfaaGreatDoorW1
import Derived.Test.YtpechfcbnoggfaaGreatDoorP9
import Derived.Test.YtpechfcbnoggfaaGreatDoorW4
import Derived.Test.YtpechfcbnoggfaaGreatDoorV1
import Derived.Test.YtpechfcbnoggfaaGreatDoorAmH
set_option linter.unusedVariables false
set_option linter.unusedSimpArgs false
section
namespace Go.Nest
open Go Go.AM
theorem dD.first{L:List Ob}{a b:Int}(h:dD L a b):b=a∨∃p∈(aj L a).parents,dD L p b:=by
 cases h with
 |refl=>exact .inl rfl
 |step c d=>exact .inr ⟨_,c,d⟩
theorem Cg{L:List Ob}(a:ai L){id:Int}(hi:kindOf L id=3):0<(aW L id).length∧(aW L id)[(aW L id).length-1]? =some id:=by
 have d:id∈aW L id:=(kG a hi).2 (.refl id);obtain⟨i,b,e⟩:=List.mem_iff_getElem.1 d;refine⟨by omega,?_⟩;rw[List.getElem?_eq_getElem (by omega)];have f:(aW L id)[(aW L id).length-1]≤id:=((kG a hi).1 (List.getElem_mem (by omega))).le a;by_cases c:i=(aW L id).length-1
 ·subst c;rw[e]
 ·have:=List.pairwise_iff_getElem.1 (qc (L:=L) (id:=id)) i ((aW L id).length-1) b (by omega) (by omega);omega
end Go.Nest
end
section
namespace Go.Nest
open Go Go.AM
def bq(out:List Int)(id:Int):List Int:=if id∈out then out else out++[id]
def cJ(im:List (List Int))(k:Int):List Int:=(im[k.toNat]?).getD []
def cE(im:List (List Int))(ks:List Int):List Int:=ks.foldl (fun out k=>(cJ im k).foldl bq out) []
def bL(L:List Ob)(dir:List UInt8)(up:List Int)(o:Ob):List Int×Int×List Ob:=
 if(cV L o.tree dir).2=9 then(up,0,L)else if(cV L o.tree dir).2≠0 then([],(cV L o.tree dir).2,L)else
 if up.length=1∧(aj L (up.headD 0)).tree=(cV L o.tree dir).1 then(up,0,L)else
 ([(ax L (dX (cV L o.tree dir).1 up o.text)).1],(ax L (dX (cV L o.tree dir).1 up o.text)).2.1,(ax L (dX (cV L o.tree dir).1 up o.text)).2.2)
def dP(L:List Ob)(dir:List UInt8)(im:List (List Int))(id:Int):List Int×Int×List Ob:=bL L dir (cE im (aj L id).parents) (aj L id)
def bH(dir:List UInt8):List Int→List Ob→List (List Int)→Int×List Ob×List (List Int)
 |[],L,a=>(0,L,a)
 |id::r,L,a=>if(dP L dir a id).2.1≠0 then((dP L dir a id).2.1,(dP L dir a id).2.2,a)else bH dir r (dP L dir a id).2.2 (a.set id.toNat (dP L dir a id).1)
def kI(l:List Int):Int×Int:=if l.length=0 then(0,9)else if l.length=1 then(l.headD 0,0)else(0,5)
def bT(L:List Ob)(id:Int)(dir:List UInt8):Int×Int×List Ob:=
 if(bX L id).2≠0 then(0,(bX L id).2,L)else
 if(bH dir (bX L id).1 L (List.replicate L.length [])).1≠0 then(0,(bH dir (bX L id).1 L (List.replicate L.length [])).1,(bH dir (bX L id).1 L (List.replicate L.length [])).2.1)else
 ((kI (cJ (bH dir (bX L id).1 L (List.replicate L.length [])).2.2 id)).1,(kI (cJ (bH dir (bX L id).1 L (List.replicate L.length [])).2.2 id)).2,(bH dir (bX L id).1 L (List.replicate L.length [])).2.1)
theorem wI{L M:List Ob}(e:ai L)(f:L<+:M){a b:Int}(d:kindOf L a=3):dD M a b↔dD L a b:=by
 constructor
 ·intro h;induction h with
  |refl=>exact .refl _
  |step c _ ih=>
   rw[ext_get f (by omega)]at c;exact .step c (ih (ve e d c))
 ·intro h;induction h with
  |refl=>exact .refl _
  |step c _ ih=>
   refine .step ?_ (ih (ve e d c));rw[ext_get f (by omega)];exact c
theorem Cf{L M:List Ob}(d:ai L)(f:ai M)(e:L<+:M){a:Int}(c:kindOf L a=3):bX M a=bX L a:=by
 have b:kindOf M a=3:=by rw[c9 e (by omega)];exact c
 unfold bX;rw[if_pos c,if_pos b];have:aW M a=aW L a:=pE qc qc fun k=>by rw[kG f b,kG d c,wI d e c]
 rw[this]
theorem mf{L:List Ob}(d:ai L){j:Int}(hj:kindOf L j=3):kindOf L (aj L j).tree=2:=by
 obtain⟨a,b⟩:=dh (l:=L) (id:=j) (by omega);have:=(d.obj (aj L j) (by rw[ku a b];exact List.getElem_mem _)).2;have c:=eP (l:=L) (id:=j);unfold dR at this;rw[Bool.and_eq_true,Bool.and_eq_true]at this;have:=this.2.2;rw[c,hj]at this;simpa using this
theorem wS{L M:List Ob}(c:ai L)(b:L<+:M):∀{ds:List (List UInt8)} {t:Int},¬kindOf L t=0→gT M t ds=gT L t ds
 |[],t,h=>rfl
 |d::ds,t,h=>by
  unfold gT;rw[c9 b h,ext_get b h];split
  ·rfl
  ·rename_i a;have a:=Decidable.not_not.1 a;cases e:(aj L t).entries.find? (isDir d)with
   |none=>rfl
   |some x=>
    have f:=List.mem_of_find?_eq_some e;have q:=(gM c a).2 x f;have g:=q.m1;have i:=q.kind;exact wS c b (by omega)
theorem oB{L M:List Ob}(a:ai L)(b:L<+:M){t:Int}(h:¬kindOf L t=0)(dir:List UInt8):cV M t dir=cV L t dir:=by
 unfold cV;rw[wS a b h]
def iU(L:List Ob)(l:List Int):Prop:=∀x∈l,kindOf L x=3
theorem iU.mono{L M:List Ob}(b:L<+:M){l:List Int}(h:iU L l):iU M l:=fun x a=>by
 have:=h x a;rw[c9 b (by omega)];exact this
theorem wC{x id:Int}{out:List Int}:x∈bq out id↔x∈out∨x=id:=by
 unfold bq;split
 ·rename_i h;constructor
  ·exact .inl
  ·rintro(a|rfl)
   ·exact a
   ·exact h
 ·simp
theorem l6{x:Int}:∀{l out:List Int},x∈l.foldl bq out↔x∈out∨x∈l
 |[],out=>by simp
 |a::l,out=>by
  rw[List.foldl_cons,l6,wC,List.mem_cons,or_assoc]
theorem BJ{x:Int}{im:List (List Int)}:∀{ks out:List Int},x∈ks.foldl (fun out k=>(cJ im k).foldl bq out) out↔x∈out∨∃k∈ks,x∈cJ im k
 |[],out=>by simp
 |a::l,out=>by
  rw[List.foldl_cons,BJ,l6,or_assoc];simp
theorem Jy{x:Int}{im:List (List Int)}{ks:List Int}:x∈cE im ks↔∃k∈ks,x∈cJ im k:=by
 unfold cE;rw[BJ];simp
def cZ(P:Int→Prop)(im:List (List Int)):Prop:=∀k,∀x∈cJ im k,P x
theorem cZ.up{P:Int→Prop}{im:List (List Int)}(h:cZ P im){ks:List Int}:∀x∈cE im ks,P x:=fun x b=>by
 obtain⟨k,-,a⟩:=Jy.1 b;exact h k x a
theorem cZ.put{P:Int→Prop}{im:List (List Int)}(h:cZ P im){n:Nat}{v:List Int}(hv:∀x∈v,P x):cZ P (im.set n v):=fun k x a=>by
 unfold cJ at a;rw[List.getElem?_set]at a;split at a
 ·split at a
  ·exact hv x a
  ·cases a
 ·exact h k x a
theorem cZ.start{P:Int→Prop}{n:Nat}:cZ P (List.replicate n []):=fun k x a=>by
 unfold cJ at a;rw[List.getElem?_replicate]at a;split at a<;>cases a
theorem cZ.mono{P Q:Int→Prop}{im:List (List Int)}(h:cZ P im)(a:∀x,P x→Q x):cZ Q im:=fun k x b=>a x (h k x b)
theorem lB{L:List Ob}(a:ai L){dir:List UInt8}{up:List Int}{o:Ob}:ai (bL L dir up o).2.2∧L<+:(bL L dir up o).2.2∧((bL L dir up o).2.1≠0→(bL L dir up o).2.2=L):=by
 unfold bL;split
 ·exact⟨a,List.prefix_refl _,fun _=>rfl⟩
 split
 ·exact⟨a,List.prefix_refl _,fun _=>rfl⟩
 split
 ·exact⟨a,List.prefix_refl _,fun _=>rfl⟩
 ·exact⟨jv a _,jw _,AB⟩
theorem yO{l:List Int}(h:l.length=1):l.headD 0∈l:=by
 obtain⟨x,rfl⟩:=List.length_eq_one_iff.1 h;simp
theorem E6{L:List Ob}(i:ai L){dir:List UInt8}{up:List Int}{o:Ob}(q:kindOf L o.tree=2)(j:iU L up){M:List Ob}(n:ai M)(c:(bL L dir up o).2.2<+:M)(hc:(bL L dir up o).2.1≠0→M=(bL L dir up o).2.2):
  bL M dir up o=((bL L dir up o).1,(bL L dir up o).2.1,M):=by
 have b:L<+:M:=(lB i).2.1.trans c;have k:cV M o.tree dir=cV L o.tree dir:=oB i b (by omega) dir;unfold bL at c hc⊢;rw[k];split
 ·rfl
 rename_i l;rw[if_neg l]at c hc;split
 ·rfl
 rename_i m;rw[if_neg m]at c hc;by_cases a:up.length=1∧(aj L (up.headD 0)).tree=(cV L o.tree dir).1
 ·have p:=j _ (yO a.1);rw[if_pos a,if_pos ⟨a.1,by rw[ext_get b (by omega)];exact a.2⟩]
 ·have g : ¬ (up.length = 1 ∧ (aj M (up.headD 0)).tree = (cV L o.tree dir).1) := fun f => a ⟨f.1,by
   have p:=j _ (yO f.1);rw[ext_get b (by omega)]at f;exact f.2⟩
  rw[if_neg a,if_neg g];rw[if_neg a]at c hc;dsimp only at c hc⊢;by_cases d:(ax L (dX (cV L o.tree dir).1 up o.text)).2.1=0
  ·have:=(Az (fun h=>by cases h) d n c).1;rw[this,d]
  ·have e:=AB d;have:=hc d;rw[e]at this;subst this;rw[e]
theorem uk{L:List Ob}(f:ai L){dir:List UInt8}{up:List Int}{o:Ob}(b:iU L up)(hc:(bL L dir up o).2.1=0):iU (bL L dir up o).2.2 (bL L dir up o).1:=by
 unfold bL at hc⊢;split
 ·exact b
 rename_i d;rw[if_neg d]at hc;split
 ·rename_i a;rw[if_pos a]at hc;exact absurd hc a
 rename_i a;rw[if_neg a]at hc;split
 ·exact b
 rename_i e;rw[if_neg e]at hc;intro x c;rw[List.mem_singleton]at c;subst c;have:=(lQ hc).2;dsimp only;rw[←eP,this];rfl
def jF(im im2:List (List Int)):Prop:=∀n:Nat,(im[n]?).getD []=(im2[n]?).getD []
theorem jF.at{im im2:List (List Int)}(h:jF im im2)(k:Int):cJ im k=cJ im2 k:=h k.toNat
theorem jF.up{im im2:List (List Int)}(h:jF im im2)(ks:List Int):cE im ks=cE im2 ks:=by
 unfold cE;have:(fun out k=>(cJ im k).foldl bq out)=(fun(out:List Int) k=>(cJ im2 k).foldl bq out):=by funext out k;rw[h.at]
 rw[this]
theorem jF.put{im im2:List (List Int)}(h:jF im im2){n:Nat}(h1:n<im.length)(h2:n<im2.length)(v:List Int):jF (im.set n v) (im2.set n v):=fun k=>by
 rw[List.getElem?_set,List.getElem?_set];by_cases e:n=k
 ·rw[if_pos e,if_pos e,if_pos h1,if_pos h2]
 ·rw[if_neg e,if_neg e];exact h k
theorem yS{L:List Ob}(b:ai L){dir:List UInt8}{im:List (List Int)}{id:Int}(hk:kindOf L id=3)(hi:cZ (fun x=>kindOf L x=3) im){M:List Ob}(d:ai M)(c:(dP L dir im id).2.2<+:M)
  (hc:(dP L dir im id).2.1≠0→M=(dP L dir im id).2.2){im2:List (List Int)}(he:jF im im2):dP M dir im2 id=((dP L dir im id).1,(dP L dir im id).2.1,M):=by
 have a:L<+:M:=(lB b).2.1.trans c;unfold dP at c hc⊢;rw[ext_get a (by omega),←he.up];exact E6 b (mf b hk) hi.up d c hc
theorem pK{dir:List UInt8}:∀{l:List Int} {L:List Ob} {im:List (List Int)},ai L→ai (bH dir l L im).2.1∧L<+:(bH dir l L im).2.1
 |[],L,im,h=>⟨h,List.prefix_refl _⟩
 |id::r,L,im,h=>by
  obtain⟨a,b,-⟩:=lB h (dir:=dir) (up:=cE im (aj L id).parents) (o:=aj L id);unfold bH;split
  ·exact⟨a,b⟩
  ·obtain⟨c,d⟩:=pK (l:=r) (im:=im.set id.toNat (dP L dir im id).1) a;exact⟨c,b.trans d⟩
theorem Bi{dir:List UInt8}:∀{l:List Int} {L:List Ob} {im:List (List Int)},ai L→iU L l→cZ (fun x=>kindOf L x=3) im→(∀x∈l,x.toNat<im.length)→
  ∀{M:List Ob} {im2:List (List Int)},ai M→(bH dir l L im).2.1<+:M→((bH dir l L im).1≠0→M=(bH dir l L im).2.1)→jF im im2→(∀x∈l,x.toNat<im2.length)→
  (bH dir l M im2).1=(bH dir l L im).1∧(bH dir l M im2).2.1=M∧((bH dir l L im).1=0→jF (bH dir l L im).2.2 (bH dir l M im2).2.2)
 |[],L,im,g,_,_,_,M,im2,i,a,c,d,_=>⟨rfl,rfl,fun _=>d⟩
 |id::r,L,im,g,k,j,q,M,im2,i,a,c,d,f=>by
  obtain⟨n,p,t⟩:=lB g (dir:=dir) (up:=cE im (aj L id).parents) (o:=aj L id);unfold bH at a c⊢;by_cases b:(dP L dir im id).2.1≠0
  ·rw[if_pos b]at a c⊢;have e:=yS g (k id (by simp)) j i a (fun _=>c b) d;rw[e];dsimp only;rw[if_pos b];exact⟨rfl,rfl,fun h=>absurd h b⟩
  ·rw[if_neg b]at a c⊢;have m:=(pK (dir:=dir) (l:=r) (im:=im.set id.toNat (dP L dir im id).1) n).2;have e:=yS g (k id (by simp)) j i (m.trans a) (fun h=>absurd h b) d;rw[e];dsimp only;rw[if_neg b];have s:=uk g (dir:=dir) (up:=cE im (aj L id).parents) (o:=aj L id) j.up (Decidable.not_not.1 b);refine Bi n (fun x a=>(k.mono p) x (by simp[a])) (cZ.put (j.mono fun x a=>by rw[c9 p (by omega)];exact a) s) (fun x a=>by rw[List.length_set];exact q x (by simp[a])) i a c (d.put (q id (by simp)) (f id (by simp)) _) (fun x a=>by rw[List.length_set];exact f x (by simp[a]))
def Good(L:List Ob)(line:Int→Prop)(dir:List UInt8)(x:Int):Prop:=kindOf L x=3∧∀y,dD L x y→∃j,line j∧kindOf L j=3∧cV L (aj L j).tree dir=((aj L y).tree,0)
theorem Good.mono{L M:List Ob}(e:ai L)(d:L<+:M){line:Int→Prop}{dir:List UInt8}{x:Int}(h:Good L line dir x):Good M line dir x:=by
 obtain⟨g,i⟩:=h;refine⟨by rw[c9 d (by omega)];exact g,fun y f=>?_⟩;have f:=(wI e d g).1 f;have k:=f.kind e g;obtain⟨j,a,b,c⟩:=i y f;have l:=mf e b;refine⟨j,a,by rw[c9 d (by omega)];exact b,?_⟩;rw[ext_get d (by omega),ext_get d (by omega),oB e d (by omega),c]
theorem E4{L:List Ob}(d:ai L){line:Int→Prop}{dir:List UInt8}{up:List Int}{id:Int}(hid:line id)(hk:kindOf L id=3)(e:∀x∈up,Good L line dir x)(hc:(bL L dir up (aj L id)).2.1=0):
  ∀x∈(bL L dir up (aj L id)).1,Good (bL L dir up (aj L id)).2.2 line dir x:=by
 have m:=mf d hk;unfold bL at hc⊢;split
 ·exact e
 rename_i h;rw[if_neg h]at hc;split
 ·rename_i b;rw[if_pos b]at hc;exact absurd hc b
 rename_i b;rw[if_neg b]at hc;have b:=Decidable.not_not.1 b;split
 ·exact e
 rename_i i;rw[if_neg i]at hc;intro x f;rw[List.mem_singleton]at f;subst f;have c:=(lQ hc).2;have a:=jw (L:=L) (dX (cV L (aj L id).tree dir).1 up (aj L id).text);dsimp only;refine⟨by rw[←eP,c];rfl,fun y j=>?_⟩;rcases j.first with rfl|⟨p,g,l⟩
 ·refine⟨id,hid,by rw[c9 a (by omega)];exact hk,?_⟩;rw[c,ext_get a (k:=id) (by omega),oB d a (by omega)];exact Prod.ext rfl b
 ·rw[c]at g;exact((e p g).mono d a).2 y l
theorem Bl{dir:List UInt8}{line:Int→Prop}:∀{l:List Int} {L:List Ob} {im:List (List Int)},ai L→iU L l→(∀x∈l,line x)→cZ (Good L line dir) im→(bH dir l L im).1=0→cZ (Good (bH dir l L im).2.1 line dir) (bH dir l L im).2.2
 |[],L,im,d,_,_,c,_=>c
 |id::r,L,im,d,f,g,c,b=>by
  obtain⟨i,e,j⟩:=lB d (dir:=dir) (up:=cE im (aj L id).parents) (o:=aj L id);unfold bH at b⊢;split at b
  ·exact absurd b ‹_›
  rename_i h;rw[if_neg h];refine Bl i (fun x a=>(f.mono e) x (by simp[a])) (fun x a=>g x (by simp[a])) (cZ.put (c.mono fun x a=>a.mono d e) ?_) b;exact E4 d (g id (by simp)) (f id (by simp)) c.up (Decidable.not_not.1 h)
theorem E7{L:List Ob}{dir:List UInt8}{up:List Int}{o:Ob}{t:Int}(b:cV L o.tree dir=(t,0))(hc:(bL L dir up o).2.1=0):∃x,(bL L dir up o).1=[x]∧(aj (bL L dir up o).2.2 x).tree=t:=by
 unfold bL at hc⊢;rw[b]at hc⊢;rw[if_neg (by simp),if_neg (by simp)]at hc⊢;split
 ·rename_i a;obtain⟨x,rfl⟩:=List.length_eq_one_iff.1 a.1;exact⟨x,rfl,a.2⟩
 ·rename_i a;rw[if_neg a]at hc;refine⟨_,rfl,?_⟩;dsimp only;rw[(lQ hc).2];rfl
theorem Bm{dir:List UInt8}:∀{l:List Int} {L:List Ob} {im:List (List Int)} (hne:l≠[]),ai L→iU L l→cZ (fun x=>kindOf L x=3) im→(∀x∈l,x.toNat<im.length)→(bH dir l L im).1=0→
  ∀t,cV L (aj L (l.getLast hne)).tree dir=(t,0)→∃x,cJ (bH dir l L im).2.2 (l.getLast hne)=[x]∧(aj (bH dir l L im).2.1 x).tree=t
 |[id],L,im,hne,c,i,h,k,a,t,g=>by
  unfold bH at a⊢;split at a
  ·exact absurd a ‹_›
  rename_i e;rw[if_neg e];obtain⟨x,q,s⟩:=E7 (up:=cE im (aj L id).parents) g (Decidable.not_not.1 e);refine⟨x,?_,s⟩;unfold bH cJ;rw[List.getLast_singleton,List.getElem?_set,if_pos rfl,if_pos (k id (by simp))];exact q
 |id::b::r,L,im,hne,c,i,h,k,a,t,g=>by
  obtain⟨m,f,u⟩:=lB c (dir:=dir) (up:=cE im (aj L id).parents) (o:=aj L id);unfold bH at a⊢;split at a
  ·exact absurd a ‹_›
  rename_i e;rw[if_neg e];rw[List.getLast_cons (by simp)]at g⊢;have p:=uk c (dir:=dir) (up:=cE im (aj L id).parents) (o:=aj L id) h.up (Decidable.not_not.1 e);have j:=i ((b::r).getLast (by simp)) (List.mem_cons_of_mem _ (List.getLast_mem _));have n:=mf c j;refine Bm (l:=b::r) (by simp) m (fun x d=>(i.mono f) x (List.mem_cons_of_mem _ d)) (cZ.put (h.mono fun x d=>by rw[c9 f (by omega)];exact d) p) (fun x d=>by rw[List.length_set];exact k x (List.mem_cons_of_mem _ d)) a t ?_;rw[ext_get f (by omega),oB c f (by omega)];exact g
theorem wH{L:List Ob}(d:ai L){id:Int}(hi:kindOf L id=3):∃h:aW L id≠[],(aW L id).getLast h=id:=by
 obtain⟨b,c⟩:=Cg d hi;have a:aW L id≠[]:=fun e=>by rw[e]at b;cases b
 refine⟨a,?_⟩;rw[List.getLast_eq_getElem];rw[List.getElem?_eq_getElem (by omega)]at c;exact Option.some.inj c
theorem IN{L:List Ob}(a:ai L){id:Int}{dir:List UInt8}{x c:Int}{M:List Ob}(e:bT L id dir=(x,c,M)):
  ai M∧L<+:M∧(c≠0→x=0)∧bT M id dir=(x,c,M)∧
  (c=0→kindOf M id=3∧kindOf M x=3∧(∀t,cV M (aj M id).tree dir=(t,0)→(aj M x).tree=t)∧∀y∈(bX M x).1,∃j∈(bX M id).1,cV M (aj M j).tree dir=((aj M y).tree,0)):=by
 unfold bT at e;by_cases f:kindOf L id=3
 ·have p:bX L id=(aW L id,0):=if_pos f;rw[p,if_neg (by simp)]at e;have g:iU L (aW L id):=fun y b=>((kG a f).1 b).kind a f
  have k:∀y∈aW L id,y.toNat<(List.replicate L.length ([]:List Int)).length:=fun y b=>by
   rw[List.length_replicate];have:=g y b;exact(dh (l:=L) (id:=y) (by omega)).2
  obtain⟨q,m⟩:=pK (dir:=dir) (l:=aW L id) (im:=List.replicate L.length []) a
  have ag:=Bi (dir:=dir) a g cZ.start k (M:=(bH dir (aW L id) L (List.replicate L.length [])).2.1) (im2:=List.replicate (bH dir (aW L id) L (List.replicate L.length [])).2.1.length []) q (List.prefix_refl _) (fun _=>rfl)
   (fun n=>by
    rw[List.getElem?_replicate,List.getElem?_replicate];split <;> split <;> rfl) (fun y b=>by
    have v:=k y b;rw[List.length_replicate]at v⊢;exact Nat.lt_of_lt_of_le v m.length_le)
  have r:=Bl (dir:=dir) (line:=fun j=>j∈aW L id) (l:=aW L id) a g (fun y b=>b) (im:=List.replicate L.length []) cZ.start;have o:=Bm (dir:=dir) (l:=aW L id) (im:=List.replicate L.length []) (wH a f).choose a g cZ.start k;rw[(wH a f).choose_spec]at o;have w:bX (bH dir (aW L id) L (List.replicate L.length [])).2.1 id=(aW L id,0):=by rw[Cf a q m f,p]
  generalize Y:bH dir (aW L id) L (List.replicate L.length [])=G at*;obtain⟨H,K,E⟩:=G;dsimp only at q m ag r o w e
  have F:M=K:=by
   split at e
   ·exact(congrArg (·.2.2) e).symm
   ·exact(congrArg (·.2.2) e).symm
  subst F;obtain⟨N,O,P⟩:=ag;have D:kindOf M id=3:=by rw[c9 m (by omega)];exact f
  refine⟨q,m,fun z=>?_,?_,fun z=>?_⟩
  ·split at e
   ·exact(congrArg (·.1) e).symm
   ·unfold kI at e;split at e
    ·exact(congrArg (·.1) e).symm
    split at e
    ·exact absurd (congrArg (·.2.1) e).symm z
    ·exact(congrArg (·.1) e).symm
  ·unfold bT;rw[w,if_neg (by simp)];dsimp only;rw[N,O];by_cases d:H≠0
   ·rw[if_pos d]at e⊢;exact e
   ·rw[if_neg d]at e⊢;rw[←(P (Decidable.not_not.1 d)).at];exact e
  ·have d:H=0:=by
    refine Decidable.byContradiction fun d=>?_;rw[if_pos d]at e;exact d ((congrArg (·.2.1) e).trans z)
   rw[if_neg (by simpa using d)]at e;have r:=r d
   have i:cJ E id=[x]:=by
    unfold kI at e;split at e
    ·have:=congrArg (·.2.1) e;dsimp only at this;omega
    split at e
    ·rename_i v;obtain⟨u,S⟩:=List.length_eq_one_iff.1 v;rw[S]at e⊢;rw[show u=x from congrArg (·.1) e]
    ·have:=congrArg (·.2.1) e;dsimp only at this;omega
   have s:=r id x (by rw[i];simp);refine⟨D,s.1,fun t I=>?_,fun y b=>?_⟩
   ·have R:=mf a f;rw[ext_get m (by omega),oB a m (by omega)]at I;obtain⟨u,J,W⟩:=o d t I;rw[i]at J;obtain rfl:x=u:=by simpa using J
    exact W
   ·have Q:bX M x=(aW M x,0):=if_pos s.1;rw[Q]at b;obtain⟨j,T,Z,U⟩:=s.2 y ((kG q s.1).1 b);exact⟨j,by rw[w];exact T,U⟩
 ·have p:bX L id=([],9):=if_neg f;rw[p,if_pos (by simp)]at e
  obtain⟨rfl,rfl,rfl⟩:x=0∧c=9∧M=L:=by
   refine⟨(congrArg (·.1) e).symm,(congrArg (·.2.1) e).symm,(congrArg (·.2.2) e).symm⟩
  refine⟨a,List.prefix_refl _,fun _=>rfl,?_,fun h=>by cases h⟩;unfold bT;rw[p,if_pos (by simp)]
end Go.Nest
end
section
namespace Go.Nest
open Go Go.AM Go.Proofs
open Go.Proofs.YtpechfcbnoggfaaGreatDoor (tab tabOk)
set_option maxRecDepth 4000
theorem kW{n:Nat}:∀{l out:List Int},out.Nodup→(∀x∈out,0≤x∧x<n)→(∀x∈l,0≤x∧x<n)→(l.foldl bq out).Nodup∧∀x∈l.foldl bq out,0≤x∧x<n
 |[],out,c,d,_=>⟨c,d⟩
 |a::l,out,c,d,f=>by
  rw[List.foldl_cons];refine kW ?_ (fun x b=>?_) (fun x b=>f x (by simp[b]))
  ·unfold bq;split
   ·exact c
   ·rename_i h;rw[List.nodup_append];exact⟨c,by simp,fun x b y g=>by rw[List.mem_singleton]at g;subst g;exact fun e=>h (e▸b)⟩
  ·rcases wC.1 b with b|rfl
   ·exact d x b
   ·exact f x (by simp)
theorem BK{n:Nat}{im:List (List Int)}(hi:∀k,∀x∈cJ im k,0≤x∧x<n):∀{ks out:List Int},out.Nodup→(∀x∈out,0≤x∧x<n)→(ks.foldl (fun out k=>(cJ im k).foldl bq out) out).Nodup∧∀x∈ks.foldl (fun out k=>(cJ im k).foldl bq out) out,0≤x∧x<n
 |[],out,c,d=>⟨c,d⟩
 |k::ks,out,c,d=>by
  rw[List.foldl_cons];obtain⟨a,b⟩:=kW c d (hi k);exact BK hi a b
structure Fit(im:List (List Int)):Prop where
 len:∀k,(cJ im k).length≤600
 all:∀k,∀x∈cJ im k,0≤x∧x<(600:Nat)
theorem sh{im:List (List Int)}(hi:Fit im)(ks:List Int):(cE im ks).Nodup∧(cE im ks).length≤600∧∀x∈cE im ks,0≤x∧x<(600:Nat):=by
 obtain⟨a,b⟩:=BK (n:=600) hi.all (ks:=ks) (out:=[]) List.nodup_nil (fun x h=>by cases h);exact⟨a,ia 600 a b,b⟩
theorem Jz{im:List (List Int)}{ks:List Int}{i:Nat}(h:i<ks.length):cE im (ks.take (i+1))=(cJ im ks[i]).foldl bq (cE im (ks.take i)):=by
 unfold cE;rw[List.take_succ_eq_append_getElem h,List.foldl_append];rfl
theorem oz{l out:List Int}{j:Nat}(h:j<l.length):(l.take (j+1)).foldl bq out=bq ((l.take j).foldl bq out) l[j]:=by
 rw[List.take_succ_eq_append_getElem h,List.foldl_append];rfl
theorem Hi(L:List Ob)(dir:List UInt8)(im:List (List Int))(o:Ob)(z:o.parents.length≤3)(hk:∀k∈o.parents,0≤k∧k.toNat<im.length)(hi:Fit im):ae Tryz.prog 283 [.c (.bp [.bp [.bs 6 Ob an L],.str dir,.bs 1 (List Int) (bf 1 encI) im]),.st (an o)] [] (Rt (.c (.rw 0)) [.row 1 Int encI (cE im o.parents)]):=by
 refine ak (n:=40) (n0:=0) tabOk Tryz.call283 Tryz.func283 ?_;intro hb;(conv=>whnf);refine lp Nat (fun i=>⟨[(0,.c (.bp [.bp [.bs 6 Ob an L],.str dir,.bs 1 (List Int) (bf 1 encI) im])),(5,.c (.rw 0)),(11,.c (.bs 1 Int encI o.parents)),(12,.c (.int .i64 o.parents.length)),(13,.c (.int .i64 i))],[.row 1 Int encI (cE im (o.parents.take i))]⟩) (fun i=>i≤o.parents.length∧True) (fun i=>o.parents.length-i) 0 [] [.new] ?_ ?_ (fun i v=>?_)
 ·simp
 ·repeat' first|exact trivial|exact rfl|refine And.intro ?_ ?_
 (conv=>whnf);refine dec (fun t=>?_) (fun t=>?_)
 ·have d:i<o.parents.length:=by omega
  have p:=Jz (im:=im) d;obtain⟨w,r⟩:=hk _ (List.getElem_mem d);obtain⟨E,-,F⟩:=sh hi (o.parents.take i);generalize cE im (o.parents.take i)=out at*;(conv=>whnf);refine⟨i,o.parents[i],rfl,List.getElem?_eq_getElem d,?_⟩;generalize o.parents[i]=k at*;have m:im[k.toNat]? =some im[k.toNat]:=List.getElem?_eq_getElem r;have s:cJ im k=im[k.toNat]:=by unfold cJ;rw[m];rfl
  have g:=hi.all k;have q:=hi.len k;rw[s]at p g q;generalize im[k.toNat]=a at*;(conv=>whnf);refine⟨k.toNat,a,by omega,m,?_⟩;(conv=>whnf);refine lp Nat (fun j=>⟨[(0,.c (.bp [.bp [.bs 6 Ob an L],.str dir,.bs 1 (List Int) (bf 1 encI) im])),(5,.c (.rw 0)),(11,.c (.bs 1 Int encI o.parents)),(12,.c (.int .i64 o.parents.length)),(13,.c (.int .i64 i)),(23,.c (.bs 1 Int encI a)),(24,.c (.int .i64 a.length)),(25,.c (.int .i64 j))],[.row 1 Int encI ((a.take j).foldl bq out)]⟩) (fun j=>j≤a.length∧True) (fun j=>a.length-j) 0 [] [.same 0] ?_ ?_ (fun j J=>?_)
  ·simp
  ·repeat' first|exact trivial|exact rfl|refine And.intro ?_ ?_
  (conv=>whnf);refine dec (fun u=>?_) (fun u=>?_)
  ·have b:j<a.length:=by omega
   have e:=oz (out:=out) b;obtain⟨H,I⟩:=kW (l:=a.take j) E F (fun x D=>g x (List.mem_of_mem_take D));have K:=ia 600 H I;generalize (a.take j).foldl bq out=o2 at*;(conv=>whnf);refine⟨j,a[j],rfl,List.getElem?_eq_getElem b,?_⟩;generalize a[j]=y at*;(conv=>whnf);refine cl [] [] (fN o2 y) ?_;(conv=>whnf);refine aL (fun f=>?_) (fun f=>?_)
   ·have f:y∉o2:=fun h=>by rw[ff.2 h]at f;cases f
    rw[show bq o2 y=o2++[y]from if_neg f]at e;(conv=>whnf);refine⟨[y],rfl,?_⟩;(conv=>whnf);refine⟨_,_,rfl,rfl,(by simp only[List.length_append,List.length_cons,List.length_nil];omega),?_⟩;repeat'((conv=>whnf);refine I6 ?_)
    refine ag (j+1) [] [.same 2] ⟨b,trivial⟩ (by simp only[];omega) ?_;rw[e];repeat' first|exact trivial|exact rfl|refine And.intro ?_ ?_
   ·have f:y∈o2:=ff.1 (by simpa using f);rw[show bq o2 y=o2 from if_pos f]at e;repeat'((conv=>whnf);refine I6 ?_)
    refine ag (j+1) [] [.same 0] ⟨b,trivial⟩ (by simp only[];omega) ?_;rw[e];repeat' first|exact trivial|exact rfl|refine And.intro ?_ ?_
  ·obtain rfl:j=a.length:=by omega
   rw[List.take_length];repeat'((conv=>whnf);refine I6 ?_)
   refine ag (i+1) [] [.same 0] ⟨d,trivial⟩ (by simp only[];omega) ?_;rw[p];repeat' first|exact trivial|exact rfl|refine And.intro ?_ ?_
 ·obtain rfl:i=o.parents.length:=by omega
  rw[List.take_length];(conv=>whnf);exact rx [] [.same 0]
theorem E8(L:List Ob)(m:ai L)(dir:List UInt8)(hd:dir.length≤4000000)(im:List (List Int))(o:Ob)(p:o.parents.length≤3)(hk:∀k∈o.parents,0≤k∧k.toNat<im.length)(hi:Fit im):ae Tryz.prog 219 [.c (.ptr 0 0),.st (an o)] [.box [.ptr 1 0,.str dir,.rw 3],.box [.rw 2],.row 6 Ob an L,.row 1 (List Int) (bf 1 encI) im] (Rt (.aC [(false,[.rw 5]),(false,[.int .i64 (bL L dir (cE im o.parents) o).2.1])]) [.box [.ptr 1 0,.str dir,.rw 3],.box [.rw 4],.dead,.row 1 (List Int) (bf 1 encI) im,.row 6 Ob an (bL L dir (cE im o.parents) o).2.2,.row 1 Int encI (bL L dir (cE im o.parents) o).1]):=by
 have w:=Hi L dir im o p hk hi;have v:=(sh hi o.parents).2.1;have y:=(sh hi o.parents).2.2;generalize cE im o.parents=up at*;have q:=Co L m o.tree dir hd;refine ak (n:=72) (n0:=4) tabOk Tryz.call219 Tryz.func219 ?_;intro hb;rcases a:cV L o.tree dir with⟨t,c⟩
 rw[a]at q;dsimp only at q;have s:c=9→bL L dir up o=(up,0,L):=fun h=>by unfold bL;rw[a];exact if_pos h
 have u:c≠9→c≠0→bL L dir up o=([],c,L):=fun d b=>by unfold bL;rw[a,if_neg d,if_pos b]
 have g:c=0→(up.length=1∧(aj L (up.headD 0)).tree=t)→bL L dir up o=(up,0,L):=fun d b=>by unfold bL;subst d;rw[a];exact(if_neg (fun h=>by cases h)).trans ((if_neg (fun h=>h rfl)).trans (if_pos b))
 have f:c=0→¬(up.length=1∧(aj L (up.headD 0)).tree=t)→bL L dir up o=([(ax L (dX t up o.text)).1],(ax L (dX t up o.text)).2.1,(ax L (dX t up o.text)).2.2):=fun d b=>by unfold bL;subst d;rw[a];exact(if_neg (fun h=>by cases h)).trans ((if_neg (fun h=>h rfl)).trans (if_neg b))
 have r:=pC L (dX t up o.text) m.len;generalize bL L dir up o=R at*;(conv=>whnf);refine cl [] [] (w) ?_;(conv=>whnf);refine⟨false,.grow,(.l [0,1,2,3,4,5,6,7,8,9,10,11,12,13,14,15]),by kernel_rfl,.inl ?_⟩;(conv=>whnf);refine cl [] [] (q) ?_;(conv=>whnf);refine dec (fun d=>?_) (fun d=>?_)
 ·obtain rfl:=s d;(conv=>whnf);exact rx [] [.same 0,.same 1,.same 2,.same 3,.same 2,.same 5]
 (conv=>whnf);refine aw (fun b=>?_) (fun b=>?_)
 ·obtain rfl:=u d b;(conv=>whnf);exact rx [] [.same 0,.same 1,.same 2,.same 3,.same 2,.new]
 have f:=f b;have g:=g b;(conv=>whnf);refine dec (fun i=>?_) (fun i=>?_)
 ·obtain⟨x,rfl⟩:=List.length_eq_one_iff.1 (show up.length=1 by have i:(up.length:Int)=1:=i;omega);(conv=>whnf);refine⟨false,.grow,(.alt [0,1,2,3,4,5,6] [7,11] fun j=>bif Nat.beq j 7 then(.l [8,9,10,11,12,13])else bif Nat.beq j 11 then(.l [7,8,9,10,12,13])else .l []),by kernel_rfl,.inl ?_⟩;(conv=>whnf);refine⟨0,⟨rfl,Nat.one_pos⟩,?_⟩;(conv=>whnf);refine⟨x,rfl,?_⟩;refine And.intro ?_ ?_
  ·(conv=>whnf);refine cl [] [] (fc L m x) ?_;(conv=>whnf);refine dec (fun e=>?_) (fun e=>?_)
   ·obtain rfl:=g ⟨rfl,e⟩;(conv=>whnf);exact rx [] [.same 0,.same 1,.same 2,.same 3,.same 2,.same 5]
   obtain rfl:=f (fun h=>e h.2);generalize ax L (dX t [x] o.text)=Q at*;(conv=>whnf);refine⟨false,.grow,(.l [0,1,2,3,4,5,6,7,8,9,10,11,12,13,14]),by kernel_rfl,.inl ?_⟩;(conv=>whnf);refine cl [] [1,2] (r) ?_;(conv=>whnf);refine⟨[Q.1],rfl,?_⟩;(conv=>whnf);exact rx [] [.same 0,.same 1,.same 2,.same 3,.same 7,.same 8]
  ·(conv=>whnf);refine cl [] [] (fc L m x) ?_;(conv=>whnf);refine dec (fun e=>?_) (fun e=>?_)
   ·obtain rfl:=g ⟨rfl,e⟩;(conv=>whnf);exact rx [] [.same 0,.same 1,.same 2,.same 3,.same 2,.same 5]
   obtain rfl:=f (fun h=>e h.2);generalize ax L (dX t [x] o.text)=Q at*;(conv=>whnf);refine⟨false,.grow,(.l [0,1,2,3,4,5,6,7,8,9,10,11,12,13,14]),by kernel_rfl,.inl ?_⟩;(conv=>whnf);refine cl [] [1,2] (r) ?_;(conv=>whnf);refine⟨[Q.1],rfl,?_⟩;(conv=>whnf);exact rx [] [.same 0,.same 1,.same 2,.same 3,.same 7,.same 8]
 ·obtain rfl:=f (fun h=>i (by show(up.length:Int)=1;omega));generalize ax L (dX t up o.text)=Q at*;(conv=>whnf);refine⟨false,.grow,(.l [0,1,2,3,4,5,6,7,8,9,10,11,12,13,14]),by kernel_rfl,.inl ?_⟩;(conv=>whnf);refine cl [] [1,2] (r) ?_;(conv=>whnf);refine⟨[Q.1],rfl,?_⟩;(conv=>whnf);exact rx [] [.same 0,.same 1,.same 2,.same 3,.same 6,.same 7]
end Go.Nest
end
section
namespace Go.Nest
open Go Go.AM
def bg(r:Int):Bool:=decide (0≤r)&&decide (r<4)
theorem bQ{r:Int}:bg r=true↔∃i:Nat,i<4∧r=i:=by
 unfold bg;rw[Bool.and_eq_true,decide_eq_true_iff,decide_eq_true_iff];constructor
 ·rintro⟨a,b⟩;exact⟨r.toNat,by omega,by omega⟩
 ·rintro⟨i,a,rfl⟩;omega
def fk(b:Nat→List Int):Prop:=∀i,i<4→(b i).length≤4∧∀q∈b i,0≤q∧q<(4:Nat)
def lH(b:Nat→List Int):Nat→List Int→Nat→List Int
 |0,out,_=>out
 |n+1,out,i=>match out[i]? with
  |some q=>lH b n ((b q.toNat).foldl bq out) (i+1)
  |none=>out
def cm(b:Nat→List Int)(r:Int):List Int:=lH b 5 [r] 0
def gy(o:Nat→List Bool)(r id:Int):Bool:=bg r&&(decide (0≤id)&&(decide (id<(o r.toNat).length)&&((o r.toNat)[id.toNat]?).getD false))
def aU(d:Dp)(r id:Int):Bool:=bg r&&(cm d.df r).any fun q=>gy d.own q id
theorem F9{b:Nat→List Int}:∀{n:Nat} {out:List Int} {i:Nat},out[i]? =none→lH b n out i=out
 |0,out,i,h=>rfl
 |n+1,out,i,h=>by unfold lH;rw[h]
theorem Cd{out:List Int}{x:Int}:out.length≤(bq out x).length:=by unfold bq;split<;>simp
theorem wA:∀{l out:List Int},out.length≤(l.foldl bq out).length
 |[],out=>Nat.le_refl _
 |x::l,out=>Nat.le_trans Cd (wA (l:=l) (out:=bq out x))
structure fF(b:Nat→List Int)(r:Int)(i:Nat)(out:List Int):Prop where
 nd:out.Nodup
 all:∀x∈out,0≤x∧x<(4:Nat)
 le:i≤out.length
 eq:cm b r=lH b (5-i) out i
theorem fF.len{b:Nat→List Int}{r:Int}{i:Nat}{out:List Int}(h:fF b r i out):out.length≤4:=ia 4 h.nd h.all
theorem fF.start{b:Nat→List Int}{r:Int}(h:bg r=true):fF b r 0 [r]:=by
 obtain⟨k,c,rfl⟩:=bQ.1 h;refine⟨by simp,fun x a=>?_,by simp,rfl⟩;rw[List.mem_singleton]at a;subst a;omega
theorem fF.next{b:Nat→List Int}(hb:fk b){r:Int}{i:Nat}{out:List Int}(h:fF b r i out)(hi:i<out.length):fF b r (i+1) ((b out[i].toNat).foldl bq out):=by
 have f:=h.all _ (List.getElem_mem hi);have e:=h.len;obtain⟨a,c⟩:=kW (l:=b out[i].toNat) h.nd h.all (hb out[i].toNat (by omega)).2;have d:out.length≤((b out[i].toNat).foldl bq out).length:=wA;refine⟨a,c,by omega,?_⟩;rw[h.eq];conv=>lhs;rw[show 5-i=(5-(i+1))+1 by omega]
 conv=>lhs;unfold lH
 rw[List.getElem?_eq_getElem hi]
theorem fF.stop{b:Nat→List Int}{r:Int}{i:Nat}{out:List Int}(h:fF b r i out)(hi:¬i<out.length):cm b r=out:=by
 rw[h.eq,F9 (List.getElem?_eq_none (by omega))]
end Go.Nest
end
section
namespace Go.Nest
open Go Go.AM Go.Proofs
open Go.Proofs.YtpechfcbnoggfaaGreatDoor (tab tabOk)
set_option maxRecDepth 4000
theorem mL(r:Int):ae Tryz.prog 105 [.c (.int .i64 r)] [] (Rt (.c (.bool (bg r))) []):=by
 refine ak (n:=9) (n0:=0) tabOk Tryz.call105 Tryz.func105 ?_;intro hb;(conv=>whnf);refine dec (fun a=>?_) (fun a=>?_)
 ·(conv=>whnf);exact aE (by unfold bg;rw[decide_eq_true (show 0≤r from a)];rfl)
 ·(conv=>whnf);exact aE (by unfold bg;rw[decide_eq_false (show¬0≤r from a)];rfl)
set_option maxHeartbeats 4000000 in
theorem uF(L:List Ob)(o:Nat→List Bool)(b:Nat→List Int)(q:fk b)(r:Int)(hr:bg r=true):ae Tryz.prog 107 [.c (.bp [.bp [.bs 6 Ob an L],.bs 1 Bool af (o 0),.bs 1 Bool af (o 1),.bs 1 Bool af (o 2),.bs 1 Bool af (o 3),.bs 1 Int encI (b 0),.bs 1 Int encI (b 1),.bs 1 Int encI (b 2),.bs 1 Int encI (b 3)]),.c (.int .i64 r)] [] (Rt (.c (.rw 0)) [.row 1 Int encI (cm b r)]):=by
 refine ak (n:=41) (n0:=0) tabOk Tryz.call107 Tryz.func107 ?_;intro hb;(conv=>whnf);refine⟨[r],rfl,?_⟩;(conv=>whnf);refine lp (Nat×List Int) (fun p=>⟨[(0,.c (.bp [.bp [.bs 6 Ob an L],.bs 1 Bool af (o 0),.bs 1 Bool af (o 1),.bs 1 Bool af (o 2),.bs 1 Bool af (o 3),.bs 1 Int encI (b 0),.bs 1 Int encI (b 1),.bs 1 Int encI (b 2),.bs 1 Int encI (b 3)])),(5,.c (.rw 0)),(6,.c (.int .i64 p.1))],[.row 1 Int encI p.2]⟩) (fun p=>fF b r p.1 p.2∧True) (fun p=>4-p.1) (0,[r]) [] [.same 0] ?_ ?_ (fun⟨i,out⟩ m=>?_)
 ·exact⟨fF.start hr,trivial⟩
 ·repeat' first|exact trivial|exact rfl|refine And.intro ?_ ?_
 obtain⟨m,-⟩:=m;have m:fF b r i out:=m;have J:=m.len;(conv=>whnf);refine dec (fun F=>?_) (fun F=>?_)
 ·have g:i<out.length:=by have F:(i:Int)<out.length:=F;omega
  obtain⟨k,I,u⟩:∃k:Nat,k<4∧out[i]=k:=by
   have:=m.all _ (List.getElem_mem g);exact⟨out[i].toNat,by omega,by omega⟩
  rcases four I with rfl|rfl|rfl|rfl
  ·have t:=m.next q g;rw[u]at t;have D:=(q 0 (by decide)).1;(conv=>whnf);refine⟨false,.grow,(.l [0,1,2,3,4,5,6,7,8,9,10]),by kernel_rfl,.inl ?_⟩;(conv=>whnf);refine⟨i,⟨rfl,g⟩,?_⟩;(conv=>whnf);refine⟨0,by rw[List.getElem?_eq_getElem g,u];rfl,?_⟩;(conv=>whnf);refine⟨0,⟨rfl,by decide⟩,?_⟩;(conv=>whnf);refine lp Nat (fun j=>⟨[(0,.c (.bp [.bp [.bs 6 Ob an L],.bs 1 Bool af (o 0),.bs 1 Bool af (o 1),.bs 1 Bool af (o 2),.bs 1 Bool af (o 3),.bs 1 Int encI (b 0),.bs 1 Int encI (b 1),.bs 1 Int encI (b 2),.bs 1 Int encI (b 3)])),(5,.c (.rw 0)),(6,.c (.int .i64 i)),(25,.c (.bs 1 Int encI (b 0))),(26,.c (.int .i64 (b 0).length)),(27,.c (.int .i64 j))],[.row 1 Int encI (((b 0).take j).foldl bq out)]⟩) (fun j=>j≤(b 0).length∧True) (fun j=>(b 0).length-j) 0 [] [.same 0] ?_ ?_ (fun j H=>?_)
   ·simp
   ·repeat' first|exact trivial|exact rfl|refine And.intro ?_ ?_
   (conv=>whnf);refine dec (fun z=>?_) (fun z=>?_)
   ·have d:j<(b 0).length:=by omega
    have a:=oz (out:=out) d;obtain⟨v,w⟩:=kW (l:=(b 0).take j) m.nd m.all (fun x m=>(q 0 (by decide)).2 x (List.mem_of_mem_take m));have E:=ia 4 v w;have s:(b 0)[j]? =some (b 0)[j]:=List.getElem?_eq_getElem d;generalize ((b 0).take j).foldl bq out=o2 at a v w E⊢;generalize (b 0)[j]=y at s a;(conv=>whnf);refine⟨j,y,rfl,s,?_⟩;(conv=>whnf);refine cl [] [] (fN o2 y) ?_;(conv=>whnf);refine aL (fun f=>?_) (fun f=>?_)
    ·have f:y∉o2:=fun h=>by rw[ff.2 h]at f;cases f
     rw[show bq o2 y=o2++[y]from if_neg f]at a;(conv=>whnf);refine⟨[y],rfl,?_⟩;(conv=>whnf);refine⟨_,_,rfl,rfl,(by simp only[List.length_append,List.length_cons,List.length_nil];omega),?_⟩;repeat'((conv=>whnf);refine I6 ?_)
     refine ag (j+1) [] [.same 2] ⟨d,trivial⟩ (by simp only[];omega) ?_;rw[a];repeat' first|exact trivial|exact rfl|refine And.intro ?_ ?_
    ·have f:y∈o2:=ff.1 (by simpa using f);rw[show bq o2 y=o2 from if_pos f]at a;repeat'((conv=>whnf);refine I6 ?_)
     refine ag (j+1) [] [.same 0] ⟨d,trivial⟩ (by simp only[];omega) ?_;rw[a];repeat' first|exact trivial|exact rfl|refine And.intro ?_ ?_
   ·obtain rfl:j=(b 0).length:=by omega
    rw[List.take_length];repeat'((conv=>whnf);refine I6 ?_)
    refine ag (i+1,(b 0).foldl bq out) [] [.same 0] ⟨t,trivial⟩ (by have:=t.le;have:=t.len;simp only[];omega) ?_;repeat' first|exact trivial|exact rfl|refine And.intro ?_ ?_
  ·have t:=m.next q g;rw[u]at t;have D:=(q 1 (by decide)).1;(conv=>whnf);refine⟨false,.grow,(.l [0,1,2,3,4,5,6,7,8,9,10]),by kernel_rfl,.inl ?_⟩;(conv=>whnf);refine⟨i,⟨rfl,g⟩,?_⟩;(conv=>whnf);refine⟨1,by rw[List.getElem?_eq_getElem g,u];rfl,?_⟩;(conv=>whnf);refine⟨1,⟨rfl,by decide⟩,?_⟩;(conv=>whnf);refine lp Nat (fun j=>⟨[(0,.c (.bp [.bp [.bs 6 Ob an L],.bs 1 Bool af (o 0),.bs 1 Bool af (o 1),.bs 1 Bool af (o 2),.bs 1 Bool af (o 3),.bs 1 Int encI (b 0),.bs 1 Int encI (b 1),.bs 1 Int encI (b 2),.bs 1 Int encI (b 3)])),(5,.c (.rw 0)),(6,.c (.int .i64 i)),(25,.c (.bs 1 Int encI (b 1))),(26,.c (.int .i64 (b 1).length)),(27,.c (.int .i64 j))],[.row 1 Int encI (((b 1).take j).foldl bq out)]⟩) (fun j=>j≤(b 1).length∧True) (fun j=>(b 1).length-j) 0 [] [.same 0] ?_ ?_ (fun j H=>?_)
   ·simp
   ·repeat' first|exact trivial|exact rfl|refine And.intro ?_ ?_
   (conv=>whnf);refine dec (fun z=>?_) (fun z=>?_)
   ·have d:j<(b 1).length:=by omega
    have a:=oz (out:=out) d;obtain⟨v,w⟩:=kW (l:=(b 1).take j) m.nd m.all (fun x m=>(q 1 (by decide)).2 x (List.mem_of_mem_take m));have E:=ia 4 v w;have s:(b 1)[j]? =some (b 1)[j]:=List.getElem?_eq_getElem d;generalize ((b 1).take j).foldl bq out=o2 at a v w E⊢;generalize (b 1)[j]=y at s a;(conv=>whnf);refine⟨j,y,rfl,s,?_⟩;(conv=>whnf);refine cl [] [] (fN o2 y) ?_;(conv=>whnf);refine aL (fun f=>?_) (fun f=>?_)
    ·have f:y∉o2:=fun h=>by rw[ff.2 h]at f;cases f
     rw[show bq o2 y=o2++[y]from if_neg f]at a;(conv=>whnf);refine⟨[y],rfl,?_⟩;(conv=>whnf);refine⟨_,_,rfl,rfl,(by simp only[List.length_append,List.length_cons,List.length_nil];omega),?_⟩;repeat'((conv=>whnf);refine I6 ?_)
     refine ag (j+1) [] [.same 2] ⟨d,trivial⟩ (by simp only[];omega) ?_;rw[a];repeat' first|exact trivial|exact rfl|refine And.intro ?_ ?_
    ·have f:y∈o2:=ff.1 (by simpa using f);rw[show bq o2 y=o2 from if_pos f]at a;repeat'((conv=>whnf);refine I6 ?_)
     refine ag (j+1) [] [.same 0] ⟨d,trivial⟩ (by simp only[];omega) ?_;rw[a];repeat' first|exact trivial|exact rfl|refine And.intro ?_ ?_
   ·obtain rfl:j=(b 1).length:=by omega
    rw[List.take_length];repeat'((conv=>whnf);refine I6 ?_)
    refine ag (i+1,(b 1).foldl bq out) [] [.same 0] ⟨t,trivial⟩ (by have:=t.le;have:=t.len;simp only[];omega) ?_;repeat' first|exact trivial|exact rfl|refine And.intro ?_ ?_
  ·have t:=m.next q g;rw[u]at t;have D:=(q 2 (by decide)).1;(conv=>whnf);refine⟨false,.grow,(.l [0,1,2,3,4,5,6,7,8,9,10]),by kernel_rfl,.inl ?_⟩;(conv=>whnf);refine⟨i,⟨rfl,g⟩,?_⟩;(conv=>whnf);refine⟨2,by rw[List.getElem?_eq_getElem g,u];rfl,?_⟩;(conv=>whnf);refine⟨2,⟨rfl,by decide⟩,?_⟩;(conv=>whnf);refine lp Nat (fun j=>⟨[(0,.c (.bp [.bp [.bs 6 Ob an L],.bs 1 Bool af (o 0),.bs 1 Bool af (o 1),.bs 1 Bool af (o 2),.bs 1 Bool af (o 3),.bs 1 Int encI (b 0),.bs 1 Int encI (b 1),.bs 1 Int encI (b 2),.bs 1 Int encI (b 3)])),(5,.c (.rw 0)),(6,.c (.int .i64 i)),(25,.c (.bs 1 Int encI (b 2))),(26,.c (.int .i64 (b 2).length)),(27,.c (.int .i64 j))],[.row 1 Int encI (((b 2).take j).foldl bq out)]⟩) (fun j=>j≤(b 2).length∧True) (fun j=>(b 2).length-j) 0 [] [.same 0] ?_ ?_ (fun j H=>?_)
   ·simp
   ·repeat' first|exact trivial|exact rfl|refine And.intro ?_ ?_
   (conv=>whnf);refine dec (fun z=>?_) (fun z=>?_)
   ·have d:j<(b 2).length:=by omega
    have a:=oz (out:=out) d;obtain⟨v,w⟩:=kW (l:=(b 2).take j) m.nd m.all (fun x m=>(q 2 (by decide)).2 x (List.mem_of_mem_take m));have E:=ia 4 v w;have s:(b 2)[j]? =some (b 2)[j]:=List.getElem?_eq_getElem d;generalize ((b 2).take j).foldl bq out=o2 at a v w E⊢;generalize (b 2)[j]=y at s a;(conv=>whnf);refine⟨j,y,rfl,s,?_⟩;(conv=>whnf);refine cl [] [] (fN o2 y) ?_;(conv=>whnf);refine aL (fun f=>?_) (fun f=>?_)
    ·have f:y∉o2:=fun h=>by rw[ff.2 h]at f;cases f
     rw[show bq o2 y=o2++[y]from if_neg f]at a;(conv=>whnf);refine⟨[y],rfl,?_⟩;(conv=>whnf);refine⟨_,_,rfl,rfl,(by simp only[List.length_append,List.length_cons,List.length_nil];omega),?_⟩;repeat'((conv=>whnf);refine I6 ?_)
     refine ag (j+1) [] [.same 2] ⟨d,trivial⟩ (by simp only[];omega) ?_;rw[a];repeat' first|exact trivial|exact rfl|refine And.intro ?_ ?_
    ·have f:y∈o2:=ff.1 (by simpa using f);rw[show bq o2 y=o2 from if_pos f]at a;repeat'((conv=>whnf);refine I6 ?_)
     refine ag (j+1) [] [.same 0] ⟨d,trivial⟩ (by simp only[];omega) ?_;rw[a];repeat' first|exact trivial|exact rfl|refine And.intro ?_ ?_
   ·obtain rfl:j=(b 2).length:=by omega
    rw[List.take_length];repeat'((conv=>whnf);refine I6 ?_)
    refine ag (i+1,(b 2).foldl bq out) [] [.same 0] ⟨t,trivial⟩ (by have:=t.le;have:=t.len;simp only[];omega) ?_;repeat' first|exact trivial|exact rfl|refine And.intro ?_ ?_
  ·have t:=m.next q g;rw[u]at t;have D:=(q 3 (by decide)).1;(conv=>whnf);refine⟨false,.grow,(.l [0,1,2,3,4,5,6,7,8,9,10]),by kernel_rfl,.inl ?_⟩;(conv=>whnf);refine⟨i,⟨rfl,g⟩,?_⟩;(conv=>whnf);refine⟨3,by rw[List.getElem?_eq_getElem g,u];rfl,?_⟩;(conv=>whnf);refine⟨3,⟨rfl,by decide⟩,?_⟩;(conv=>whnf);refine lp Nat (fun j=>⟨[(0,.c (.bp [.bp [.bs 6 Ob an L],.bs 1 Bool af (o 0),.bs 1 Bool af (o 1),.bs 1 Bool af (o 2),.bs 1 Bool af (o 3),.bs 1 Int encI (b 0),.bs 1 Int encI (b 1),.bs 1 Int encI (b 2),.bs 1 Int encI (b 3)])),(5,.c (.rw 0)),(6,.c (.int .i64 i)),(25,.c (.bs 1 Int encI (b 3))),(26,.c (.int .i64 (b 3).length)),(27,.c (.int .i64 j))],[.row 1 Int encI (((b 3).take j).foldl bq out)]⟩) (fun j=>j≤(b 3).length∧True) (fun j=>(b 3).length-j) 0 [] [.same 0] ?_ ?_ (fun j H=>?_)
   ·simp
   ·repeat' first|exact trivial|exact rfl|refine And.intro ?_ ?_
   (conv=>whnf);refine dec (fun z=>?_) (fun z=>?_)
   ·have d:j<(b 3).length:=by omega
    have a:=oz (out:=out) d;obtain⟨v,w⟩:=kW (l:=(b 3).take j) m.nd m.all (fun x m=>(q 3 (by decide)).2 x (List.mem_of_mem_take m));have E:=ia 4 v w;have s:(b 3)[j]? =some (b 3)[j]:=List.getElem?_eq_getElem d;generalize ((b 3).take j).foldl bq out=o2 at a v w E⊢;generalize (b 3)[j]=y at s a;(conv=>whnf);refine⟨j,y,rfl,s,?_⟩;(conv=>whnf);refine cl [] [] (fN o2 y) ?_;(conv=>whnf);refine aL (fun f=>?_) (fun f=>?_)
    ·have f:y∉o2:=fun h=>by rw[ff.2 h]at f;cases f
     rw[show bq o2 y=o2++[y]from if_neg f]at a;(conv=>whnf);refine⟨[y],rfl,?_⟩;(conv=>whnf);refine⟨_,_,rfl,rfl,(by simp only[List.length_append,List.length_cons,List.length_nil];omega),?_⟩;repeat'((conv=>whnf);refine I6 ?_)
     refine ag (j+1) [] [.same 2] ⟨d,trivial⟩ (by simp only[];omega) ?_;rw[a];repeat' first|exact trivial|exact rfl|refine And.intro ?_ ?_
    ·have f:y∈o2:=ff.1 (by simpa using f);rw[show bq o2 y=o2 from if_pos f]at a;repeat'((conv=>whnf);refine I6 ?_)
     refine ag (j+1) [] [.same 0] ⟨d,trivial⟩ (by simp only[];omega) ?_;rw[a];repeat' first|exact trivial|exact rfl|refine And.intro ?_ ?_
   ·obtain rfl:j=(b 3).length:=by omega
    rw[List.take_length];repeat'((conv=>whnf);refine I6 ?_)
    refine ag (i+1,(b 3).foldl bq out) [] [.same 0] ⟨t,trivial⟩ (by have:=t.le;have:=t.len;simp only[];omega) ?_;repeat' first|exact trivial|exact rfl|refine And.intro ?_ ?_
 ·have e:=m.stop (by have F:¬(i:Int)<out.length:=F;omega);rw[e];(conv=>whnf);exact rx [] [.same 0]
end Go.Nest
end
section
namespace Go.Nest
open Go Go.AM Go.Proofs
open Go.Proofs.YtpechfcbnoggfaaGreatDoor (tab tabOk)
set_option maxRecDepth 4000
theorem pz{o:Nat→List Bool}{k:Nat}{id:Int}(hk:k<4):gy o k id=(decide (0≤id)&&(decide (id<(o k).length)&&((o k)[id.toNat]?).getD false)):=by
 unfold gy;rw[bQ.2 ⟨k,hk,rfl⟩,Bool.true_and,Int.toNat_natCast]
set_option maxHeartbeats 4000000 in
theorem G9(L:List Ob)(o:Nat→List Bool)(b:Nat→List Int)(r id:Int):ae Tryz.prog 72 [.c (.bp [.bp [.bs 6 Ob an L],.bs 1 Bool af (o 0),.bs 1 Bool af (o 1),.bs 1 Bool af (o 2),.bs 1 Bool af (o 3),.bs 1 Int encI (b 0),.bs 1 Int encI (b 1),.bs 1 Int encI (b 2),.bs 1 Int encI (b 3)]),.c (.int .i64 r),.c (.int .i64 id)] [] (Rt (.c (.bool (gy o r id))) []):=by
 have i:=mL r;refine ak (n:=35) (n0:=0) tabOk Tryz.call72 Tryz.func72 ?_;intro hb;cases h:bg r with
 |false=>
  rw[h]at i;(conv=>whnf);refine cl [] [] (i) ?_;(conv=>whnf);exact aE (by unfold gy;rw[h];rfl)
 |true=>
  rw[h]at i;obtain⟨k,j,rfl⟩:=bQ.1 h;(conv=>whnf);refine cl [] [] (i) ?_;rcases four j with rfl|rfl|rfl|rfl
  ·have e:=pz (o:=o) (k:=0) (id:=id) (by decide);(conv=>whnf);refine dec (fun a=>?_) (fun a=>?_)
   ·(conv=>whnf);refine⟨0,⟨rfl,by decide⟩,?_⟩;(conv=>whnf);refine dec (fun d=>?_) (fun d=>?_)
    ·have g:id.toNat<(o 0).length:=by have a:(0:Int)≤id:=a;have d:id<((o 0).length:Int):=d;omega
     have f:(o 0)[id.toNat]? =some (o 0)[id.toNat]:=List.getElem?_eq_getElem g;rw[decide_eq_true a,decide_eq_true d,f]at e;(conv=>whnf);refine⟨0,⟨rfl,by decide⟩,?_⟩;(conv=>whnf);refine⟨id.toNat,_,by have a:(0:Int)≤id:=a;omega,f,?_⟩;(conv=>whnf);exact aE e.symm
    ·rw[decide_eq_false d]at e;(conv=>whnf);exact aE (by rw[e];simp)
   ·rw[decide_eq_false a]at e;(conv=>whnf);exact aE (by rw[e];rfl)
  ·have e:=pz (o:=o) (k:=1) (id:=id) (by decide);(conv=>whnf);refine dec (fun a=>?_) (fun a=>?_)
   ·(conv=>whnf);refine⟨1,⟨rfl,by decide⟩,?_⟩;(conv=>whnf);refine dec (fun d=>?_) (fun d=>?_)
    ·have g:id.toNat<(o 1).length:=by have a:(0:Int)≤id:=a;have d:id<((o 1).length:Int):=d;omega
     have f:(o 1)[id.toNat]? =some (o 1)[id.toNat]:=List.getElem?_eq_getElem g;rw[decide_eq_true a,decide_eq_true d,f]at e;(conv=>whnf);refine⟨1,⟨rfl,by decide⟩,?_⟩;(conv=>whnf);refine⟨id.toNat,_,by have a:(0:Int)≤id:=a;omega,f,?_⟩;(conv=>whnf);exact aE e.symm
    ·rw[decide_eq_false d]at e;(conv=>whnf);exact aE (by rw[e];simp)
   ·rw[decide_eq_false a]at e;(conv=>whnf);exact aE (by rw[e];rfl)
  ·have e:=pz (o:=o) (k:=2) (id:=id) (by decide);(conv=>whnf);refine dec (fun a=>?_) (fun a=>?_)
   ·(conv=>whnf);refine⟨2,⟨rfl,by decide⟩,?_⟩;(conv=>whnf);refine dec (fun d=>?_) (fun d=>?_)
    ·have g:id.toNat<(o 2).length:=by have a:(0:Int)≤id:=a;have d:id<((o 2).length:Int):=d;omega
     have f:(o 2)[id.toNat]? =some (o 2)[id.toNat]:=List.getElem?_eq_getElem g;rw[decide_eq_true a,decide_eq_true d,f]at e;(conv=>whnf);refine⟨2,⟨rfl,by decide⟩,?_⟩;(conv=>whnf);refine⟨id.toNat,_,by have a:(0:Int)≤id:=a;omega,f,?_⟩;(conv=>whnf);exact aE e.symm
    ·rw[decide_eq_false d]at e;(conv=>whnf);exact aE (by rw[e];simp)
   ·rw[decide_eq_false a]at e;(conv=>whnf);exact aE (by rw[e];rfl)
  ·have e:=pz (o:=o) (k:=3) (id:=id) (by decide);(conv=>whnf);refine dec (fun a=>?_) (fun a=>?_)
   ·(conv=>whnf);refine⟨3,⟨rfl,by decide⟩,?_⟩;(conv=>whnf);refine dec (fun d=>?_) (fun d=>?_)
    ·have g:id.toNat<(o 3).length:=by have a:(0:Int)≤id:=a;have d:id<((o 3).length:Int):=d;omega
     have f:(o 3)[id.toNat]? =some (o 3)[id.toNat]:=List.getElem?_eq_getElem g;rw[decide_eq_true a,decide_eq_true d,f]at e;(conv=>whnf);refine⟨3,⟨rfl,by decide⟩,?_⟩;(conv=>whnf);refine⟨id.toNat,_,by have a:(0:Int)≤id:=a;omega,f,?_⟩;(conv=>whnf);exact aE e.symm
    ·rw[decide_eq_false d]at e;(conv=>whnf);exact aE (by rw[e];simp)
   ·rw[decide_eq_false a]at e;(conv=>whnf);exact aE (by rw[e];rfl)
theorem ES(L:List Ob)(o:Nat→List Bool)(b:Nat→List Int)(id q:Int):ae Tryz.prog 108 [.c (.int .i64 q),.c (.bp [.bp [.bp [.bs 6 Ob an L],.bs 1 Bool af (o 0),.bs 1 Bool af (o 1),.bs 1 Bool af (o 2),.bs 1 Bool af (o 3),.bs 1 Int encI (b 0),.bs 1 Int encI (b 1),.bs 1 Int encI (b 2),.bs 1 Int encI (b 3)]]),.c (.bp [.int .i64 id])] [] (Rt (.c (.bool (gy o q id))) []):=by
 refine ak (n:=9) (n0:=0) tabOk Tryz.call108 Tryz.func108 ?_;intro hb;(conv=>whnf);refine cl [] [] (G9 L o b q id) ?_;(conv=>whnf);exact aE rfl
theorem Fg(F:Nat)(L:List Ob)(o:Nat→List Bool)(b:Nat→List Int)(k:Int)(p:Int→Bool)(f:∀x,ae Tryz.prog F [.c (.int .i64 x),.c (.bp [.bp [.bp [.bs 6 Ob an L],.bs 1 Bool af (o 0),.bs 1 Bool af (o 1),.bs 1 Bool af (o 2),.bs 1 Bool af (o 3),.bs 1 Int encI (b 0),.bs 1 Int encI (b 1),.bs 1 Int encI (b 2),.bs 1 Int encI (b 3)]]),.c (.bp [.int .i64 k])] [] (Rt (.c (.bool (p x))) []))(l:List Int):ae Tryz.prog 178 [.c (.bs 1 Int encI l),.c (.fn F [.bp [.bp [.bp [.bs 6 Ob an L],.bs 1 Bool af (o 0),.bs 1 Bool af (o 1),.bs 1 Bool af (o 2),.bs 1 Bool af (o 3),.bs 1 Int encI (b 0),.bs 1 Int encI (b 1),.bs 1 Int encI (b 2),.bs 1 Int encI (b 3)]],.bp [.int .i64 k]])] [] (Rt (.c (.int .i64 (bF p l))) []):=by
 refine ak (n:=19) (n0:=0) tabOk Tryz.call178 Tryz.func178 ?_;intro hb;have hb:l.length≤9223372036854775807:=hb.1.1;(conv=>whnf);refine lp Nat (fun i=>⟨[(0,.c (.bs 1 Int encI l)),(1,.c (.fn F [.bp [.bp [.bp [.bs 6 Ob an L],.bs 1 Bool af (o 0),.bs 1 Bool af (o 1),.bs 1 Bool af (o 2),.bs 1 Bool af (o 3),.bs 1 Int encI (b 0),.bs 1 Int encI (b 1),.bs 1 Int encI (b 2),.bs 1 Int encI (b 3)]],.bp [.int .i64 k]])),(7,.c (.int .i64 l.length)),(8,.c (.int .i64 i))],[]⟩) (fun i=>i≤l.length∧(l.take i).any p=false) (fun i=>l.length-i) 0 [] [] ?_ ?_ (fun i d=>?_)
 ·simp
 ·repeat' first|exact trivial|exact rfl|refine And.intro ?_ ?_
 (conv=>whnf);refine dec (fun e=>?_) (fun e=>?_)
 ·have a:i<l.length:=by omega
  repeat'((conv=>whnf);first|refine⟨_,_,rfl,List.getElem?_eq_getElem (by omega),?_⟩|fail)
  (conv=>whnf);refine cl [] [] (f l[i]) ?_;(conv=>whnf);refine aL (fun h=>?_) (fun h=>?_)
  ·(conv=>whnf);exact aG (jk a d.2 h)
  ·repeat'((conv=>whnf);refine I6 ?_)
   refine ag (i+1) [] [] ⟨a,gA a d.2 h⟩ (by simp only[];omega) ?_;repeat' first|exact trivial|exact rfl|refine And.intro ?_ ?_
 ·repeat'((conv=>whnf);first|refine aG ?_|fail)
  have:=d.2;rw[List.take_of_length_le (by omega)]at this;exact jT this
theorem tv(F:Nat)(L:List Ob)(o:Nat→List Bool)(b:Nat→List Int)(k:Int)(p:Int→Bool)(a:∀x,ae Tryz.prog F [.c (.int .i64 x),.c (.bp [.bp [.bp [.bs 6 Ob an L],.bs 1 Bool af (o 0),.bs 1 Bool af (o 1),.bs 1 Bool af (o 2),.bs 1 Bool af (o 3),.bs 1 Int encI (b 0),.bs 1 Int encI (b 1),.bs 1 Int encI (b 2),.bs 1 Int encI (b 3)]]),.c (.bp [.int .i64 k])] [] (Rt (.c (.bool (p x))) []))(l:List Int):ae Tryz.prog 106 [.c (.bs 1 Int encI l),.c (.fn F [.bp [.bp [.bp [.bs 6 Ob an L],.bs 1 Bool af (o 0),.bs 1 Bool af (o 1),.bs 1 Bool af (o 2),.bs 1 Bool af (o 3),.bs 1 Int encI (b 0),.bs 1 Int encI (b 1),.bs 1 Int encI (b 2),.bs 1 Int encI (b 3)]],.bp [.int .i64 k]])] [] (Rt (.c (.bool (l.any p))) []):=by
 refine ak (n:=9) (n0:=0) tabOk Tryz.call106 Tryz.func106 ?_;intro hb;(conv=>whnf);refine cl [] [] (Fg F L o b k p a l) ?_;(conv=>whnf);exact aE (nH ..)
theorem lr(L:List Ob)(o:Nat→List Bool)(b:Nat→List Int)(e:fk b)(r id:Int):ae Tryz.prog 41 [.c (.bp [.bp [.bs 6 Ob an L],.bs 1 Bool af (o 0),.bs 1 Bool af (o 1),.bs 1 Bool af (o 2),.bs 1 Bool af (o 3),.bs 1 Int encI (b 0),.bs 1 Int encI (b 1),.bs 1 Int encI (b 2),.bs 1 Int encI (b 3)]),.c (.int .i64 r),.c (.int .i64 id)] [] (Rt (.c (.bool (aU ⟨o,b⟩ r id))) []):=by
 have d:=mL r;refine ak (n:=16) (n0:=0) tabOk Tryz.call41 Tryz.func41 ?_;intro hb;cases a:bg r with
 |false=>
  rw[a]at d;(conv=>whnf);refine cl [] [] (d) ?_;(conv=>whnf);exact aE (by unfold aU;rw[a];rfl)
 |true=>
  rw[a]at d;(conv=>whnf);refine cl [] [] (d) ?_;(conv=>whnf);refine cl [] [] (uF L o b e r a) ?_;(conv=>whnf);refine cl [] [] (tv 108 L o b id (fun q=>gy o q id) (ES L o b id) (cm b r)) ?_;(conv=>whnf);exact aE (by unfold aU;rw[a];rfl)
end Go.Nest
end
section
namespace Go.Nest
open Go Go.AM Go.Proofs
open Go.Proofs.YtpechfcbnoggfaaGreatDoor (tab tabOk)
set_option maxRecDepth 4000
def eE(l:List Bool)(n:Nat):List Bool:=l++List.replicate (n-l.length) false
def cQ(o:Nat→List Bool)(b:Nat→List Int)(r:Nat)(x:List Bool)(id:Int):List Bool:=if aU ⟨ay o r x,b⟩ r id=true then x else x.set id.toNat true
noncomputable def kV(L:List Ob)(o:Nat→List Bool)(b:Nat→List Int)(r:Nat)(ids:List Int):List Bool:=(aN L ids).foldl (cQ o b r) (eE (o r) L.length)
def cN(L:List Ob)(r:Int)(ids:List Int):Int:=if bg r=false then 1 else if(ids.any fun id=>decide (kindOf L id=0))=true then 9 else 0
noncomputable def c8(L:List Ob)(o:Nat→List Bool)(b:Nat→List Int)(r:Int)(ids:List Int):Nat→List Bool:=if cN L r ids≠0 then o else ay o r.toNat (kV L o b r.toNat ids)
theorem my{o:Nat→List Bool}{b:Nat→List Int}{r:Nat}:∀{l:List Int} {x:List Bool},(l.foldl (cQ o b r) x).length=x.length
 |[],x=>rfl
 |id::l,x=>by
  rw[List.foldl_cons,my];unfold cQ;split
  ·rfl
  ·rw[List.length_set]
theorem rn{o:Nat→List Bool}{b:Nat→List Int}{r:Nat}{l:List Int}{x:List Bool}{i:Nat}(h:i<l.length):(l.take (i+1)).foldl (cQ o b r) x=cQ o b r ((l.take i).foldl (cQ o b r) x) l[i]:=by
 rw[List.take_succ_eq_append_getElem h,List.foldl_append];rfl
theorem Am{l:List Bool}{n:Nat}:n≤(eE l n).length:=by unfold eE;rw[List.length_append,List.length_replicate];omega
theorem rI{l:List Bool}{n:Nat}(h:l.length<n):eE (l++[false]) n=eE l n:=by
 unfold eE;rw[List.length_append,List.length_singleton,List.append_assoc];congr 1
 rw[show n-l.length=(n-(l.length+1))+1 by omega,List.replicate_succ];rfl
theorem rH{l:List Bool}{n:Nat}(h:n≤l.length):eE l n=l:=by
 unfold eE;rw[show n-l.length=0 by omega];simp
theorem nY{L:List Ob}{ids:List Int}{id:Int}(h:id∈aN L ids):0≤id∧id.toNat<L.length:=by
 unfold aN at h;obtain⟨k,a,rfl⟩:=List.mem_map.1 h;have:=(List.mem_filter.1 a).1;rw[List.mem_range]at this;omega
set_option maxHeartbeats 8000000 in
theorem sJ(L:List Ob)(J:ai L)(o:Nat→List Bool)(b:Nat→List Int)(D:fk b)(ho:∀k,k<4→(o k).length≤1000000)(r:Int)(ids:List Int)(hi:ids.length≤1000000):ae Tryz.prog 204 [.c (.ptr 0 0),.c (.int .i64 r),.c (.bs 1 Int encI ids)] [.box [.ptr 1 0,.rw 3,.rw 4,.rw 5,.rw 6,.rw 7,.rw 8,.rw 9,.rw 10],.box [.rw 2],.row 6 Ob an L,.row 1 Bool af (o 0),.row 1 Bool af (o 1),.row 1 Bool af (o 2),.row 1 Bool af (o 3),.row 1 Int encI (b 0),.row 1 Int encI (b 1),.row 1 Int encI (b 2),.row 1 Int encI (b 3)] (Rt (.c (.int .i64 (cN L r ids))) [.box [.ptr 1 0,.rw 11,.rw 12,.rw 13,.rw 14,.rw 7,.rw 8,.rw 9,.rw 10],.box [.rw 2],.row 6 Ob an L,.dead,.dead,.dead,.dead,.row 1 Int encI (b 0),.row 1 Int encI (b 1),.row 1 Int encI (b 2),.row 1 Int encI (b 3),.row 1 Bool af ((c8 L o b r ids) 0),.row 1 Bool af ((c8 L o b r ids) 1),.row 1 Bool af ((c8 L o b r ids) 2),.row 1 Bool af ((c8 L o b r ids) 3)]):=by
 have N:=mL r;have Q:=J.len;refine ak (n:=85) (n0:=11) tabOk Tryz.call204 Tryz.func204 ?_;intro hb;cases M:bg r with
 |false=>
  rw[M]at N;have e:cN L r ids=1:=by unfold cN;rw[M];rfl
  rw[show c8 L o b r ids=o by unfold c8;rw[e];rfl,e];(conv=>whnf);refine cl [] [] (N) ?_;(conv=>whnf);exact rx [] [.same 0,.same 1,.same 2,.same 3,.same 4,.same 5,.same 6,.same 7,.same 8,.same 9,.same 10,.same 3,.same 4,.same 5,.same 6]
 |true=>
  rw[M]at N;have O:cN L r ids=if(ids.any fun id=>decide (kindOf L id=0))=true then 9 else 0:=by unfold cN;rw[M];rfl
  (conv=>whnf);refine cl [] [] (N) ?_;(conv=>whnf);refine lp Nat (fun i=>⟨[(0,.c (.ptr 0 0)),(1,.c (.int .i64 r)),(2,.c (.bs 1 Int encI ids)),(16,.c (.bs 1 Int encI ids)),(17,.c (.int .i64 ids.length)),(18,.c (.int .i64 i))],[.box [.ptr 1 0,.rw 3,.rw 4,.rw 5,.rw 6,.rw 7,.rw 8,.rw 9,.rw 10],.box [.rw 2],.row 6 Ob an L,.row 1 Bool af (o 0),.row 1 Bool af (o 1),.row 1 Bool af (o 2),.row 1 Bool af (o 3),.row 1 Int encI (b 0),.row 1 Int encI (b 1),.row 1 Int encI (b 2),.row 1 Int encI (b 3)]⟩) (fun i=>i≤ids.length∧(ids.take i).any (fun id=>decide (kindOf L id=0))=false) (fun i=>ids.length-i) 0 [] [.same 0,.same 1,.same 2,.same 3,.same 4,.same 5,.same 6,.same 7,.same 8,.same 9,.same 10] ?_ ?_ (fun i w=>?_)
  ·simp
  ·repeat' first|exact trivial|exact rfl|refine And.intro ?_ ?_
  obtain⟨w,E⟩:=w;(conv=>whnf);refine dec (fun K=>?_) (fun K=>?_)
  ·have a:i<ids.length:=by have K:(i:Int)<ids.length:=K;omega
   have m:ids[i]? =some ids[i]:=List.getElem?_eq_getElem a;have P:=fun h=>oA (l:=ids) (p:=fun id=>decide (kindOf L id=0)) a h;have R:=fun h=>gA (p:=fun id=>decide (kindOf L id=0)) a E h;generalize ids[i]=x at m P R;(conv=>whnf);refine⟨i,x,rfl,m,?_⟩;(conv=>whnf);refine cl [] [] (fc L J x) ?_;(conv=>whnf);refine aw (fun j=>?_) (fun j=>?_)
   ·have j:¬kindOf L x≠0:=j;have e:cN L r ids=9:=by rw[O,P (decide_eq_true (by omega))];rfl
    rw[show c8 L o b r ids=o by unfold c8;rw[e];rfl,e];(conv=>whnf);exact rx [] [.same 0,.same 1,.same 2,.same 3,.same 4,.same 5,.same 6,.same 7,.same 8,.same 9,.same 10,.same 3,.same 4,.same 5,.same 6]
   ·have j:kindOf L x≠0:=j;repeat'((conv=>whnf);refine I6 ?_)
    refine ag (i+1) [] [.same 0,.same 1,.same 2,.same 3,.same 4,.same 5,.same 6,.same 7,.same 8,.same 9,.same 10] ⟨a,R (decide_eq_false (by omega))⟩ (by simp only[];omega) ?_;repeat' first|exact trivial|exact rfl|refine And.intro ?_ ?_
  ·have K:¬(i:Int)<ids.length:=K;rw[List.take_of_length_le (by omega)]at E;have e:cN L r ids=0:=by rw[O,E];rfl
   obtain⟨k,S,rfl⟩:=bQ.1 M;have eo:c8 L o b (k:Int) ids=ay o k (kV L o b k ids):=by unfold c8;rw[e];rfl
   rw[e,eo];(conv=>whnf);rcases four S with rfl|rfl|rfl|rfl
   ·refine lp (List Bool) (fun x=>⟨[(0,.c (.ptr 0 0)),(1,.c (.int .i64 (0:Nat))),(2,.c (.bs 1 Int encI ids))],[.box [.ptr 1 0,.rw 11,.rw 4,.rw 5,.rw 6,.rw 7,.rw 8,.rw 9,.rw 10],.box [.rw 2],.row 6 Ob an L,.dead,.row 1 Bool af (o 1),.row 1 Bool af (o 2),.row 1 Bool af (o 3),.row 1 Int encI (b 0),.row 1 Int encI (b 1),.row 1 Int encI (b 2),.row 1 Int encI (b 3),.row 1 Bool af x]⟩) (fun x=>(x.length≤max (o 0).length L.length∧eE x L.length=eE (o 0) L.length)∧True) (fun x=>L.length-x.length) (o 0) [] [.same 0,.same 1,.same 2,.same 3,.same 4,.same 5,.same 6,.same 7,.same 8,.same 9,.same 10,.same 3] ?_ ?_ (fun x F=>?_)
    ·exact⟨⟨by omega,rfl⟩,trivial⟩
    ·repeat' first|exact trivial|exact rfl|refine And.intro ?_ ?_
    obtain⟨⟨v,f⟩,-⟩:=F;(conv=>whnf);refine⟨false,.grow,(.l [0,1,2,3,4,5,6,7,8,9,10,11,12]),by kernel_rfl,.inl ?_⟩;(conv=>whnf);refine⟨0,⟨rfl,by decide⟩,?_⟩;(conv=>whnf);refine cl [] [] (o9 L) ?_;(conv=>whnf);refine dec (fun j=>?_) (fun j=>?_)
    ·have j:(x.length:Int)<L.length:=j;(conv=>whnf);refine⟨false,.grow,(.l [0,1,2,3,4,5,6,7,10,11,8,9,12,13]),by kernel_rfl,.inl ?_⟩;(conv=>whnf);refine⟨0,⟨rfl,by decide⟩,?_⟩;(conv=>whnf);refine⟨[false],rfl,?_⟩;(conv=>whnf);refine⟨_,_,rfl,rfl,(by simp only[List.length_append,List.length_cons,List.length_nil];omega),?_⟩;(conv=>whnf);refine⟨0,⟨rfl,by decide⟩,?_⟩;skip;refine ag (x++[false]) [] [.same 0,.same 1,.same 2,.same 3,.same 4,.same 5,.same 6,.same 7,.same 8,.same 9,.same 10,.same 13] ⟨⟨by rw[List.length_append,List.length_singleton];omega,by rw[rI (by omega)];exact f⟩,trivial⟩ (by simp only[List.length_append,List.length_singleton];omega) ?_;repeat' first|exact trivial|exact rfl|refine And.intro ?_ ?_
    ·have j:¬(x.length:Int)<L.length:=j;rw[rH (by omega)]at f;unfold kV;rw[←f];have H:L.length≤x.length:=by omega
     have s:=fun id (h:id∈aN L ids)=>nY h;have u:=mK (l:=L) (ids:=ids);have z:=lR L J ids hi;generalize aN L ids=rl at s u z⊢;clear f v;(conv=>whnf);refine cl [] [] (z) ?_;(conv=>whnf);refine lp Nat (fun i=>⟨[(0,.c (.ptr 0 0)),(1,.c (.int .i64 (0:Nat))),(65,.c (.rw 12)),(66,.c (.int .i64 rl.length)),(67,.c (.int .i64 i))],[.box [.ptr 1 0,.rw 11,.rw 4,.rw 5,.rw 6,.rw 7,.rw 8,.rw 9,.rw 10],.box [.rw 2],.row 6 Ob an L,.dead,.row 1 Bool af (o 1),.row 1 Bool af (o 2),.row 1 Bool af (o 3),.row 1 Int encI (b 0),.row 1 Int encI (b 1),.row 1 Int encI (b 2),.row 1 Int encI (b 3),.row 1 Bool af ((rl.take i).foldl (cQ o b 0) x)]++[.row 1 Int encI rl]⟩) (fun i=>i≤rl.length∧True) (fun i=>rl.length-i) 0 [] [.same 0,.same 1,.same 2,.same 3,.same 4,.same 5,.same 6,.same 7,.same 8,.same 9,.same 10,.same 11,.same 12] ?_ ?_ (fun i w=>?_)
     ·simp
     ·repeat' first|exact trivial|exact rfl|refine And.intro ?_ ?_
     (conv=>whnf);refine dec (fun q=>?_) (fun q=>?_)
     ·have a:i<rl.length:=by have q:(i:Int)<rl.length:=q;omega
      have m:rl[i]? =some rl[i]:=List.getElem?_eq_getElem a;have d:=rn (o:=o) (b:=b) (r:=0) (x:=x) a;have t:=my (o:=o) (b:=b) (r:=0) (x:=x) (l:=rl.take i);have hid:=s _ (List.getElem_mem a);generalize (rl.take i).foldl (cQ o b 0) x=y at d t⊢;generalize rl[i]=id at m d hid;have I:=lr L (ay o 0 y) b D (0:Nat) id;(conv=>whnf);refine⟨i,⟨rfl,a⟩,?_⟩;(conv=>whnf);refine⟨id,m,?_⟩;(conv=>whnf);refine cl [] [] (I) ?_;(conv=>whnf);refine aL (fun g=>?_) (fun g=>?_)
      ·have g:aU ⟨ay o 0 y,b⟩ (0:Nat) id=false:=by simpa using g
       rw[show cQ o b 0 y id=y.set id.toNat true from if_neg (by rw[g];decide)]at d;(conv=>whnf);refine⟨0,⟨rfl,by decide⟩,?_⟩;(conv=>whnf);refine⟨id.toNat,⟨by omega,by omega⟩,?_⟩;(conv=>whnf);refine⟨_,true,List.getElem?_eq_getElem (show id.toNat<y.length by omega),⟨Nat.le_refl 1,rfl⟩,?_⟩;repeat'((conv=>whnf);refine I6 ?_)
       refine ag (i+1) [] [.same 0,.same 1,.same 2,.same 3,.same 4,.same 5,.same 6,.same 7,.same 8,.same 9,.same 10,.same 11,.same 12] ⟨a,trivial⟩ (by simp only[];omega) ?_;rw[d];repeat' first|exact trivial|exact rfl|refine And.intro ?_ ?_
      ·have g:aU ⟨ay o 0 y,b⟩ (0:Nat) id=true:=by simpa using g
       rw[show cQ o b 0 y id=y from if_pos g]at d;repeat'((conv=>whnf);refine I6 ?_)
       refine ag (i+1) [] [.same 0,.same 1,.same 2,.same 3,.same 4,.same 5,.same 6,.same 7,.same 8,.same 9,.same 10,.same 11,.same 12] ⟨a,trivial⟩ (by simp only[];omega) ?_;rw[d];repeat' first|exact trivial|exact rfl|refine And.intro ?_ ?_
     ·obtain rfl:i=rl.length:=by have q:¬(i:Int)<rl.length:=q;omega
      rw[List.take_length];(conv=>whnf);exact rx [] [.same 0,.same 1,.same 2,.same 3,.same 4,.same 5,.same 6,.same 7,.same 8,.same 9,.same 10,.same 11,.same 4,.same 5,.same 6]
   ·refine lp (List Bool) (fun x=>⟨[(0,.c (.ptr 0 0)),(1,.c (.int .i64 (1:Nat))),(2,.c (.bs 1 Int encI ids))],[.box [.ptr 1 0,.rw 3,.rw 11,.rw 5,.rw 6,.rw 7,.rw 8,.rw 9,.rw 10],.box [.rw 2],.row 6 Ob an L,.row 1 Bool af (o 0),.dead,.row 1 Bool af (o 2),.row 1 Bool af (o 3),.row 1 Int encI (b 0),.row 1 Int encI (b 1),.row 1 Int encI (b 2),.row 1 Int encI (b 3),.row 1 Bool af x]⟩) (fun x=>(x.length≤max (o 1).length L.length∧eE x L.length=eE (o 1) L.length)∧True) (fun x=>L.length-x.length) (o 1) [] [.same 0,.same 1,.same 2,.same 3,.same 4,.same 5,.same 6,.same 7,.same 8,.same 9,.same 10,.same 4] ?_ ?_ (fun x F=>?_)
    ·exact⟨⟨by omega,rfl⟩,trivial⟩
    ·repeat' first|exact trivial|exact rfl|refine And.intro ?_ ?_
    obtain⟨⟨v,f⟩,-⟩:=F;(conv=>whnf);refine⟨false,.grow,(.l [0,1,2,3,4,5,6,7,8,9,10,11,12]),by kernel_rfl,.inl ?_⟩;(conv=>whnf);refine⟨1,⟨rfl,by decide⟩,?_⟩;(conv=>whnf);refine cl [] [] (o9 L) ?_;(conv=>whnf);refine dec (fun j=>?_) (fun j=>?_)
    ·have j:(x.length:Int)<L.length:=j;(conv=>whnf);refine⟨false,.grow,(.l [0,1,2,3,4,5,6,7,10,11,8,9,12,13]),by kernel_rfl,.inl ?_⟩;(conv=>whnf);refine⟨1,⟨rfl,by decide⟩,?_⟩;(conv=>whnf);refine⟨[false],rfl,?_⟩;(conv=>whnf);refine⟨_,_,rfl,rfl,(by simp only[List.length_append,List.length_cons,List.length_nil];omega),?_⟩;(conv=>whnf);refine⟨1,⟨rfl,by decide⟩,?_⟩;skip;refine ag (x++[false]) [] [.same 0,.same 1,.same 2,.same 3,.same 4,.same 5,.same 6,.same 7,.same 8,.same 9,.same 10,.same 13] ⟨⟨by rw[List.length_append,List.length_singleton];omega,by rw[rI (by omega)];exact f⟩,trivial⟩ (by simp only[List.length_append,List.length_singleton];omega) ?_;repeat' first|exact trivial|exact rfl|refine And.intro ?_ ?_
    ·have j:¬(x.length:Int)<L.length:=j;rw[rH (by omega)]at f;unfold kV;rw[←f];have H:L.length≤x.length:=by omega
     have s:=fun id (h:id∈aN L ids)=>nY h;have u:=mK (l:=L) (ids:=ids);have z:=lR L J ids hi;generalize aN L ids=rl at s u z⊢;clear f v;(conv=>whnf);refine cl [] [] (z) ?_;(conv=>whnf);refine lp Nat (fun i=>⟨[(0,.c (.ptr 0 0)),(1,.c (.int .i64 (1:Nat))),(65,.c (.rw 12)),(66,.c (.int .i64 rl.length)),(67,.c (.int .i64 i))],[.box [.ptr 1 0,.rw 3,.rw 11,.rw 5,.rw 6,.rw 7,.rw 8,.rw 9,.rw 10],.box [.rw 2],.row 6 Ob an L,.row 1 Bool af (o 0),.dead,.row 1 Bool af (o 2),.row 1 Bool af (o 3),.row 1 Int encI (b 0),.row 1 Int encI (b 1),.row 1 Int encI (b 2),.row 1 Int encI (b 3),.row 1 Bool af ((rl.take i).foldl (cQ o b 1) x)]++[.row 1 Int encI rl]⟩) (fun i=>i≤rl.length∧True) (fun i=>rl.length-i) 0 [] [.same 0,.same 1,.same 2,.same 3,.same 4,.same 5,.same 6,.same 7,.same 8,.same 9,.same 10,.same 11,.same 12] ?_ ?_ (fun i w=>?_)
     ·simp
     ·repeat' first|exact trivial|exact rfl|refine And.intro ?_ ?_
     (conv=>whnf);refine dec (fun q=>?_) (fun q=>?_)
     ·have a:i<rl.length:=by have q:(i:Int)<rl.length:=q;omega
      have m:rl[i]? =some rl[i]:=List.getElem?_eq_getElem a;have d:=rn (o:=o) (b:=b) (r:=1) (x:=x) a;have t:=my (o:=o) (b:=b) (r:=1) (x:=x) (l:=rl.take i);have hid:=s _ (List.getElem_mem a);generalize (rl.take i).foldl (cQ o b 1) x=y at d t⊢;generalize rl[i]=id at m d hid;have I:=lr L (ay o 1 y) b D (1:Nat) id;(conv=>whnf);refine⟨i,⟨rfl,a⟩,?_⟩;(conv=>whnf);refine⟨id,m,?_⟩;(conv=>whnf);refine cl [] [] (I) ?_;(conv=>whnf);refine aL (fun g=>?_) (fun g=>?_)
      ·have g:aU ⟨ay o 1 y,b⟩ (1:Nat) id=false:=by simpa using g
       rw[show cQ o b 1 y id=y.set id.toNat true from if_neg (by rw[g];decide)]at d;(conv=>whnf);refine⟨1,⟨rfl,by decide⟩,?_⟩;(conv=>whnf);refine⟨id.toNat,⟨by omega,by omega⟩,?_⟩;(conv=>whnf);refine⟨_,true,List.getElem?_eq_getElem (show id.toNat<y.length by omega),⟨Nat.le_refl 1,rfl⟩,?_⟩;repeat'((conv=>whnf);refine I6 ?_)
       refine ag (i+1) [] [.same 0,.same 1,.same 2,.same 3,.same 4,.same 5,.same 6,.same 7,.same 8,.same 9,.same 10,.same 11,.same 12] ⟨a,trivial⟩ (by simp only[];omega) ?_;rw[d];repeat' first|exact trivial|exact rfl|refine And.intro ?_ ?_
      ·have g:aU ⟨ay o 1 y,b⟩ (1:Nat) id=true:=by simpa using g
       rw[show cQ o b 1 y id=y from if_pos g]at d;repeat'((conv=>whnf);refine I6 ?_)
       refine ag (i+1) [] [.same 0,.same 1,.same 2,.same 3,.same 4,.same 5,.same 6,.same 7,.same 8,.same 9,.same 10,.same 11,.same 12] ⟨a,trivial⟩ (by simp only[];omega) ?_;rw[d];repeat' first|exact trivial|exact rfl|refine And.intro ?_ ?_
     ·obtain rfl:i=rl.length:=by have q:¬(i:Int)<rl.length:=q;omega
      rw[List.take_length];(conv=>whnf);exact rx [] [.same 0,.same 1,.same 2,.same 3,.same 4,.same 5,.same 6,.same 7,.same 8,.same 9,.same 10,.same 3,.same 11,.same 5,.same 6]
   ·refine lp (List Bool) (fun x=>⟨[(0,.c (.ptr 0 0)),(1,.c (.int .i64 (2:Nat))),(2,.c (.bs 1 Int encI ids))],[.box [.ptr 1 0,.rw 3,.rw 4,.rw 11,.rw 6,.rw 7,.rw 8,.rw 9,.rw 10],.box [.rw 2],.row 6 Ob an L,.row 1 Bool af (o 0),.row 1 Bool af (o 1),.dead,.row 1 Bool af (o 3),.row 1 Int encI (b 0),.row 1 Int encI (b 1),.row 1 Int encI (b 2),.row 1 Int encI (b 3),.row 1 Bool af x]⟩) (fun x=>(x.length≤max (o 2).length L.length∧eE x L.length=eE (o 2) L.length)∧True) (fun x=>L.length-x.length) (o 2) [] [.same 0,.same 1,.same 2,.same 3,.same 4,.same 5,.same 6,.same 7,.same 8,.same 9,.same 10,.same 5] ?_ ?_ (fun x F=>?_)
    ·exact⟨⟨by omega,rfl⟩,trivial⟩
    ·repeat' first|exact trivial|exact rfl|refine And.intro ?_ ?_
    obtain⟨⟨v,f⟩,-⟩:=F;(conv=>whnf);refine⟨false,.grow,(.l [0,1,2,3,4,5,6,7,8,9,10,11,12]),by kernel_rfl,.inl ?_⟩;(conv=>whnf);refine⟨2,⟨rfl,by decide⟩,?_⟩;(conv=>whnf);refine cl [] [] (o9 L) ?_;(conv=>whnf);refine dec (fun j=>?_) (fun j=>?_)
    ·have j:(x.length:Int)<L.length:=j;(conv=>whnf);refine⟨false,.grow,(.l [0,1,2,3,4,5,6,7,10,11,8,9,12,13]),by kernel_rfl,.inl ?_⟩;(conv=>whnf);refine⟨2,⟨rfl,by decide⟩,?_⟩;(conv=>whnf);refine⟨[false],rfl,?_⟩;(conv=>whnf);refine⟨_,_,rfl,rfl,(by simp only[List.length_append,List.length_cons,List.length_nil];omega),?_⟩;(conv=>whnf);refine⟨2,⟨rfl,by decide⟩,?_⟩;skip;refine ag (x++[false]) [] [.same 0,.same 1,.same 2,.same 3,.same 4,.same 5,.same 6,.same 7,.same 8,.same 9,.same 10,.same 13] ⟨⟨by rw[List.length_append,List.length_singleton];omega,by rw[rI (by omega)];exact f⟩,trivial⟩ (by simp only[List.length_append,List.length_singleton];omega) ?_;repeat' first|exact trivial|exact rfl|refine And.intro ?_ ?_
    ·have j:¬(x.length:Int)<L.length:=j;rw[rH (by omega)]at f;unfold kV;rw[←f];have H:L.length≤x.length:=by omega
     have s:=fun id (h:id∈aN L ids)=>nY h;have u:=mK (l:=L) (ids:=ids);have z:=lR L J ids hi;generalize aN L ids=rl at s u z⊢;clear f v;(conv=>whnf);refine cl [] [] (z) ?_;(conv=>whnf);refine lp Nat (fun i=>⟨[(0,.c (.ptr 0 0)),(1,.c (.int .i64 (2:Nat))),(65,.c (.rw 12)),(66,.c (.int .i64 rl.length)),(67,.c (.int .i64 i))],[.box [.ptr 1 0,.rw 3,.rw 4,.rw 11,.rw 6,.rw 7,.rw 8,.rw 9,.rw 10],.box [.rw 2],.row 6 Ob an L,.row 1 Bool af (o 0),.row 1 Bool af (o 1),.dead,.row 1 Bool af (o 3),.row 1 Int encI (b 0),.row 1 Int encI (b 1),.row 1 Int encI (b 2),.row 1 Int encI (b 3),.row 1 Bool af ((rl.take i).foldl (cQ o b 2) x)]++[.row 1 Int encI rl]⟩) (fun i=>i≤rl.length∧True) (fun i=>rl.length-i) 0 [] [.same 0,.same 1,.same 2,.same 3,.same 4,.same 5,.same 6,.same 7,.same 8,.same 9,.same 10,.same 11,.same 12] ?_ ?_ (fun i w=>?_)
     ·simp
     ·repeat' first|exact trivial|exact rfl|refine And.intro ?_ ?_
     (conv=>whnf);refine dec (fun q=>?_) (fun q=>?_)
     ·have a:i<rl.length:=by have q:(i:Int)<rl.length:=q;omega
      have m:rl[i]? =some rl[i]:=List.getElem?_eq_getElem a;have d:=rn (o:=o) (b:=b) (r:=2) (x:=x) a;have t:=my (o:=o) (b:=b) (r:=2) (x:=x) (l:=rl.take i);have hid:=s _ (List.getElem_mem a);generalize (rl.take i).foldl (cQ o b 2) x=y at d t⊢;generalize rl[i]=id at m d hid;have I:=lr L (ay o 2 y) b D (2:Nat) id;(conv=>whnf);refine⟨i,⟨rfl,a⟩,?_⟩;(conv=>whnf);refine⟨id,m,?_⟩;(conv=>whnf);refine cl [] [] (I) ?_;(conv=>whnf);refine aL (fun g=>?_) (fun g=>?_)
      ·have g:aU ⟨ay o 2 y,b⟩ (2:Nat) id=false:=by simpa using g
       rw[show cQ o b 2 y id=y.set id.toNat true from if_neg (by rw[g];decide)]at d;(conv=>whnf);refine⟨2,⟨rfl,by decide⟩,?_⟩;(conv=>whnf);refine⟨id.toNat,⟨by omega,by omega⟩,?_⟩;(conv=>whnf);refine⟨_,true,List.getElem?_eq_getElem (show id.toNat<y.length by omega),⟨Nat.le_refl 1,rfl⟩,?_⟩;repeat'((conv=>whnf);refine I6 ?_)
       refine ag (i+1) [] [.same 0,.same 1,.same 2,.same 3,.same 4,.same 5,.same 6,.same 7,.same 8,.same 9,.same 10,.same 11,.same 12] ⟨a,trivial⟩ (by simp only[];omega) ?_;rw[d];repeat' first|exact trivial|exact rfl|refine And.intro ?_ ?_
      ·have g:aU ⟨ay o 2 y,b⟩ (2:Nat) id=true:=by simpa using g
       rw[show cQ o b 2 y id=y from if_pos g]at d;repeat'((conv=>whnf);refine I6 ?_)
       refine ag (i+1) [] [.same 0,.same 1,.same 2,.same 3,.same 4,.same 5,.same 6,.same 7,.same 8,.same 9,.same 10,.same 11,.same 12] ⟨a,trivial⟩ (by simp only[];omega) ?_;rw[d];repeat' first|exact trivial|exact rfl|refine And.intro ?_ ?_
     ·obtain rfl:i=rl.length:=by have q:¬(i:Int)<rl.length:=q;omega
      rw[List.take_length];(conv=>whnf);exact rx [] [.same 0,.same 1,.same 2,.same 3,.same 4,.same 5,.same 6,.same 7,.same 8,.same 9,.same 10,.same 3,.same 4,.same 11,.same 6]
   ·refine lp (List Bool) (fun x=>⟨[(0,.c (.ptr 0 0)),(1,.c (.int .i64 (3:Nat))),(2,.c (.bs 1 Int encI ids))],[.box [.ptr 1 0,.rw 3,.rw 4,.rw 5,.rw 11,.rw 7,.rw 8,.rw 9,.rw 10],.box [.rw 2],.row 6 Ob an L,.row 1 Bool af (o 0),.row 1 Bool af (o 1),.row 1 Bool af (o 2),.dead,.row 1 Int encI (b 0),.row 1 Int encI (b 1),.row 1 Int encI (b 2),.row 1 Int encI (b 3),.row 1 Bool af x]⟩) (fun x=>(x.length≤max (o 3).length L.length∧eE x L.length=eE (o 3) L.length)∧True) (fun x=>L.length-x.length) (o 3) [] [.same 0,.same 1,.same 2,.same 3,.same 4,.same 5,.same 6,.same 7,.same 8,.same 9,.same 10,.same 6] ?_ ?_ (fun x F=>?_)
    ·exact⟨⟨by omega,rfl⟩,trivial⟩
    ·repeat' first|exact trivial|exact rfl|refine And.intro ?_ ?_
    obtain⟨⟨v,f⟩,-⟩:=F;(conv=>whnf);refine⟨false,.grow,(.l [0,1,2,3,4,5,6,7,8,9,10,11,12]),by kernel_rfl,.inl ?_⟩;(conv=>whnf);refine⟨3,⟨rfl,by decide⟩,?_⟩;(conv=>whnf);refine cl [] [] (o9 L) ?_;(conv=>whnf);refine dec (fun j=>?_) (fun j=>?_)
    ·have j:(x.length:Int)<L.length:=j;(conv=>whnf);refine⟨false,.grow,(.l [0,1,2,3,4,5,6,7,10,11,8,9,12,13]),by kernel_rfl,.inl ?_⟩;(conv=>whnf);refine⟨3,⟨rfl,by decide⟩,?_⟩;(conv=>whnf);refine⟨[false],rfl,?_⟩;(conv=>whnf);refine⟨_,_,rfl,rfl,(by simp only[List.length_append,List.length_cons,List.length_nil];omega),?_⟩;(conv=>whnf);refine⟨3,⟨rfl,by decide⟩,?_⟩;skip;refine ag (x++[false]) [] [.same 0,.same 1,.same 2,.same 3,.same 4,.same 5,.same 6,.same 7,.same 8,.same 9,.same 10,.same 13] ⟨⟨by rw[List.length_append,List.length_singleton];omega,by rw[rI (by omega)];exact f⟩,trivial⟩ (by simp only[List.length_append,List.length_singleton];omega) ?_;repeat' first|exact trivial|exact rfl|refine And.intro ?_ ?_
    ·have j:¬(x.length:Int)<L.length:=j;rw[rH (by omega)]at f;unfold kV;rw[←f];have H:L.length≤x.length:=by omega
     have s:=fun id (h:id∈aN L ids)=>nY h;have u:=mK (l:=L) (ids:=ids);have z:=lR L J ids hi;generalize aN L ids=rl at s u z⊢;clear f v;(conv=>whnf);refine cl [] [] (z) ?_;(conv=>whnf);refine lp Nat (fun i=>⟨[(0,.c (.ptr 0 0)),(1,.c (.int .i64 (3:Nat))),(65,.c (.rw 12)),(66,.c (.int .i64 rl.length)),(67,.c (.int .i64 i))],[.box [.ptr 1 0,.rw 3,.rw 4,.rw 5,.rw 11,.rw 7,.rw 8,.rw 9,.rw 10],.box [.rw 2],.row 6 Ob an L,.row 1 Bool af (o 0),.row 1 Bool af (o 1),.row 1 Bool af (o 2),.dead,.row 1 Int encI (b 0),.row 1 Int encI (b 1),.row 1 Int encI (b 2),.row 1 Int encI (b 3),.row 1 Bool af ((rl.take i).foldl (cQ o b 3) x)]++[.row 1 Int encI rl]⟩) (fun i=>i≤rl.length∧True) (fun i=>rl.length-i) 0 [] [.same 0,.same 1,.same 2,.same 3,.same 4,.same 5,.same 6,.same 7,.same 8,.same 9,.same 10,.same 11,.same 12] ?_ ?_ (fun i w=>?_)
     ·simp
     ·repeat' first|exact trivial|exact rfl|refine And.intro ?_ ?_
     (conv=>whnf);refine dec (fun q=>?_) (fun q=>?_)
     ·have a:i<rl.length:=by have q:(i:Int)<rl.length:=q;omega
      have m:rl[i]? =some rl[i]:=List.getElem?_eq_getElem a;have d:=rn (o:=o) (b:=b) (r:=3) (x:=x) a;have t:=my (o:=o) (b:=b) (r:=3) (x:=x) (l:=rl.take i);have hid:=s _ (List.getElem_mem a);generalize (rl.take i).foldl (cQ o b 3) x=y at d t⊢;generalize rl[i]=id at m d hid;have I:=lr L (ay o 3 y) b D (3:Nat) id;(conv=>whnf);refine⟨i,⟨rfl,a⟩,?_⟩;(conv=>whnf);refine⟨id,m,?_⟩;(conv=>whnf);refine cl [] [] (I) ?_;(conv=>whnf);refine aL (fun g=>?_) (fun g=>?_)
      ·have g:aU ⟨ay o 3 y,b⟩ (3:Nat) id=false:=by simpa using g
       rw[show cQ o b 3 y id=y.set id.toNat true from if_neg (by rw[g];decide)]at d;(conv=>whnf);refine⟨3,⟨rfl,by decide⟩,?_⟩;(conv=>whnf);refine⟨id.toNat,⟨by omega,by omega⟩,?_⟩;(conv=>whnf);refine⟨_,true,List.getElem?_eq_getElem (show id.toNat<y.length by omega),⟨Nat.le_refl 1,rfl⟩,?_⟩;repeat'((conv=>whnf);refine I6 ?_)
       refine ag (i+1) [] [.same 0,.same 1,.same 2,.same 3,.same 4,.same 5,.same 6,.same 7,.same 8,.same 9,.same 10,.same 11,.same 12] ⟨a,trivial⟩ (by simp only[];omega) ?_;rw[d];repeat' first|exact trivial|exact rfl|refine And.intro ?_ ?_
      ·have g:aU ⟨ay o 3 y,b⟩ (3:Nat) id=true:=by simpa using g
       rw[show cQ o b 3 y id=y from if_pos g]at d;repeat'((conv=>whnf);refine I6 ?_)
       refine ag (i+1) [] [.same 0,.same 1,.same 2,.same 3,.same 4,.same 5,.same 6,.same 7,.same 8,.same 9,.same 10,.same 11,.same 12] ⟨a,trivial⟩ (by simp only[];omega) ?_;rw[d];repeat' first|exact trivial|exact rfl|refine And.intro ?_ ?_
     ·obtain rfl:i=rl.length:=by have q:¬(i:Int)<rl.length:=q;omega
      rw[List.take_length];(conv=>whnf);exact rx [] [.same 0,.same 1,.same 2,.same 3,.same 4,.same 5,.same 6,.same 7,.same 8,.same 9,.same 10,.same 3,.same 4,.same 5,.same 11]
end Go.Nest
end
section
namespace Go.Nest
open Go Go.AM Go.Proofs
open Go.Proofs.YtpechfcbnoggfaaGreatDoor (tab tabOk)
set_option maxRecDepth 4000
def jo(es:List aD):List (Int×Int):=(es.filter fun e=>decide (e.mode=3)).map fun e=>(e.av,e.id)
def bR(L:List Ob)(ids:List Int):List (Int×Int):=ids.flatMap fun id=>jo (aj L id).entries
theorem zE{es:List aD}:(jo es).length≤es.length:=by
 unfold jo;rw[List.length_map];exact List.length_filter_le _ _
theorem Gb{es:List aD}{j:Nat}(h:j<es.length):jo (es.take (j+1))=jo (es.take j)++(if es[j].mode=3 then[(es[j].av,es[j].id)]else[]):=by
 unfold jo;rw[List.take_succ_eq_append_getElem h,List.filter_append,List.map_append,List.filter_cons];congr 1
 split
 ·rename_i a;rw[if_pos (by simpa using a)];rfl
 ·rename_i a;rw[if_neg (by simpa using a)];rfl
theorem Gg{L:List Ob}{ids:List Int}{i:Nat}(h:i<ids.length):bR L (ids.take (i+1))=bR L (ids.take i)++jo (aj L ids[i]).entries:=by
 unfold bR;rw[List.take_succ_eq_append_getElem h,List.flatMap_append];simp
theorem uJ{L:List Ob}(a:ai L):∀{ids:List Int},(bR L ids).length≤ids.length*60
 |[]=>Nat.zero_le _
 |id::ids=>by
  have ih:=uJ a (ids:=ids)
  have b:(aj L id).entries.length≤60:=by
   by_cases h:kindOf L id=0
   ·rw[a.lD h];exact Nat.zero_le _
   ·exact(a.get h).entries
  have c:=zE (es:=(aj L id).entries);unfold bR at ih⊢;rw[List.flatMap_cons,List.length_append,List.length_cons];omega
set_option maxHeartbeats 2000000 in
theorem Gf(L:List Ob)(s:ai L)(o:Nat→List Bool)(b:Nat→List Int)(ids:List Int)(hi:ids.length≤1000000):ae Tryz.prog 220 [.c (.bp [.bp [.bs 6 Ob an L],.bs 1 Bool af (o 0),.bs 1 Bool af (o 1),.bs 1 Bool af (o 2),.bs 1 Bool af (o 3),.bs 1 Int encI (b 0),.bs 1 Int encI (b 1),.bs 1 Int encI (b 2),.bs 1 Int encI (b 3)]),.c (.bs 1 Int encI ids)] [] (Rt (.c (.rw 0)) [.row 2 (Int×Int) jg (bR L ids)]):=by
 refine ak (n:=48) (n0:=0) tabOk Tryz.call220 Tryz.func220 ?_;intro hb;(conv=>whnf);refine lp Nat (fun i=>⟨[(0,.c (.bp [.bp [.bs 6 Ob an L],.bs 1 Bool af (o 0),.bs 1 Bool af (o 1),.bs 1 Bool af (o 2),.bs 1 Bool af (o 3),.bs 1 Int encI (b 0),.bs 1 Int encI (b 1),.bs 1 Int encI (b 2),.bs 1 Int encI (b 3)])),(5,.c (.rw 0)),(12,.c (.bs 1 Int encI ids)),(13,.c (.int .i64 ids.length)),(14,.c (.int .i64 i))],[.row 2 (Int×Int) jg (bR L (ids.take i))]⟩) (fun i=>i≤ids.length∧True) (fun i=>ids.length-i) 0 [] [.new] ?_ ?_ (fun i v=>?_)
 ·simp
 ·repeat' first|exact trivial|exact rfl|refine And.intro ?_ ?_
 (conv=>whnf);refine dec (fun k=>?_) (fun k=>?_)
 ·have g:i<ids.length:=by have k:(i:Int)<ids.length:=k;omega
  have m:ids[i]? =some ids[i]:=List.getElem?_eq_getElem g;have f:=Gg (L:=L) g;have r:=uJ s (ids:=ids.take i);rw[List.length_take]at r;generalize bR L (ids.take i)=out at f r⊢;generalize ids[i]=id at m f
  have u:(aj L id).entries.length≤60:=by
   by_cases h:kindOf L id=0
   ·rw[s.lD h];exact Nat.zero_le _
   ·exact(s.get h).entries
  (conv=>whnf);refine⟨i,id,rfl,m,?_⟩;(conv=>whnf);refine cl [] [] (fc L s id) ?_;generalize aj L id=ob at u f⊢;(conv=>whnf);refine lp Nat (fun j=>⟨[(0,.c (.bp [.bp [.bs 6 Ob an L],.bs 1 Bool af (o 0),.bs 1 Bool af (o 1),.bs 1 Bool af (o 2),.bs 1 Bool af (o 3),.bs 1 Int encI (b 0),.bs 1 Int encI (b 1),.bs 1 Int encI (b 2),.bs 1 Int encI (b 3)])),(5,.c (.rw 0)),(12,.c (.bs 1 Int encI ids)),(13,.c (.int .i64 ids.length)),(14,.c (.int .i64 i)),(28,.c (.bs 4 aD cB ob.entries)),(29,.c (.int .i64 ob.entries.length)),(30,.c (.int .i64 j))],[.row 2 (Int×Int) jg (out++jo (ob.entries.take j))]⟩) (fun j=>j≤ob.entries.length∧True) (fun j=>ob.entries.length-j) 0 [] [.same 0] ?_ ?_ (fun j w=>?_)
  ·simp
  ·rw[List.take_zero,show jo []=[]from rfl,List.append_nil];repeat' first|exact trivial|exact rfl|refine And.intro ?_ ?_
  (conv=>whnf);refine dec (fun l=>?_) (fun l=>?_)
  ·have d:j<ob.entries.length:=by have l:(j:Int)<ob.entries.length:=l;omega
   have p:ob.entries[j]? =some ob.entries[j]:=List.getElem?_eq_getElem d;have a:=Gb d;have q:=zE (es:=ob.entries.take j);rw[List.length_take]at q;generalize jo (ob.entries.take j)=o2 at a q⊢;generalize ob.entries[j]=e at p a;(conv=>whnf);refine⟨j,e,rfl,p,?_⟩;(conv=>whnf);refine dec (fun t=>?_) (fun t=>?_)
   ·rw[if_pos t]at a;(conv=>whnf);refine⟨[(e.av,e.id)],rfl,?_⟩;(conv=>whnf);refine⟨_,_,rfl,rfl,(by simp only[List.length_append,List.length_cons,List.length_nil];omega),?_⟩;repeat'((conv=>whnf);refine I6 ?_)
    refine ag (j+1) [] [.same 3] ⟨d,trivial⟩ (by simp only[];omega) ?_;rw[a,←List.append_assoc];repeat' first|exact trivial|exact rfl|refine And.intro ?_ ?_
   ·rw[if_neg t,List.append_nil]at a;repeat'((conv=>whnf);refine I6 ?_)
    refine ag (j+1) [] [.same 0] ⟨d,trivial⟩ (by simp only[];omega) ?_;rw[a];repeat' first|exact trivial|exact rfl|refine And.intro ?_ ?_
  ·obtain rfl:j=ob.entries.length:=by have l:¬(j:Int)<ob.entries.length:=l;omega
   rw[List.take_length];repeat'((conv=>whnf);refine I6 ?_)
   refine ag (i+1) [] [.same 0] ⟨g,trivial⟩ (by simp only[];omega) ?_;rw[f];repeat' first|exact trivial|exact rfl|refine And.intro ?_ ?_
 ·obtain rfl:i=ids.length:=by have k:¬(i:Int)<ids.length:=k;omega
  rw[List.take_length];(conv=>whnf);exact rx [] [.same 0]
def Gi(o:Nat→List Bool)(r:Int)(n:Nat):List Int:=((List.range n).filter fun k:Nat=>gy o r k).map fun k:Nat=>(k:Int)
end Go.Nest
end
section
namespace Go.Nest
open Go Go.AM
inductive Nd(L:List Ob)(ro:Nat→List Int):Nat→Int→Prop
 |root {r:Nat} {x k:Int} (hr:r<4) (h:x∈ro r) (hl:bO L [x] k):Nd L ro r k
 |link {r:Nat} {k m:Int} {e:aD} (h:Nd L ro r k) (he:e∈(aj L k).entries) (hm:e.mode=3) (hl:bO L [e.id] m):Nd L ro e.av.toNat m
noncomputable def fq(L:List Ob)(ro:Nat→List Int)(r:Nat):List Int:=((List.range L.length).filter fun k:Nat=> @decide (Nd L ro r (k:Int)) (Classical.propDecidable _)).map fun k:Nat=>(k:Int)
structure RS where
 ro:Nat→List Int
 out:Nat→List Int
 more:Bool
def kP(f:Nat→Nat):Nat:=f 0+(f 1+(f 2+f 3))
def eS(L:List Ob)(n:Nat→Nat)(s:RS):Nat:=kP (fun r=>600+n r-(s.ro r).length)+kP (fun r=>L.length-(s.out r).length)
structure fI(L:List Ob)(r0:Nat→List Int)(s:RS):Prop where
 sub:∀r,r<4→∀x∈r0 r,x∈s.ro r
 nd:∀r,r<4→∀x∈s.ro r,∀k,bO L [x] k→Nd L r0 r k
 ext:∀r,r<4→∃ex,s.ro r=r0 r++ex∧ex.Nodup∧∀x∈ex,0≤x∧x<(600:Nat)
 out:∀r,r<4→∀k∈s.out r,k∈aN L (s.ro r)
 onod:∀r,r<4→(s.out r).Nodup
theorem fI.len{L:List Ob}{r0:Nat→List Int}{s:RS}(h:fI L r0 s){r:Nat}(hr:r<4):(s.ro r).length≤(r0 r).length+600:=by
 obtain⟨ex,e,a,b⟩:=h.ext r hr;rw[e,List.length_append];have:=ia 600 a b;omega
structure pY(L:List Ob)(s:RS):Prop where
 out:∀r,r<4→s.out r=aN L (s.ro r)
 clo:∀r,r<4→∀l∈bR L (s.out r),l.2∈s.ro l.1.toNat
theorem uE{L:List Ob}{ids:List Int}{k:Int}(h:bO L ids k):∃x∈ids,bO L [x] k:=by
 induction h with
 |base h a=>exact⟨_,h,.base (by simp) a⟩
 |step h a ih=>
  obtain⟨x,b,c⟩:=ih;exact⟨x,b,.step c a⟩
theorem uD{L:List Ob}{ids:List Int}{x k:Int}(b:x∈ids)(h:bO L [x] k):bO L ids k:=by
 induction h with
 |base h a=>rw[List.mem_singleton]at h;subst h;exact .base b a
 |step h a ih=>exact .step ih a
theorem F4{L:List Ob}{ids a:List Int}(d:∀x∈ids,x∈a){k:Int}(h:bO L ids k):bO L a k:=by
 obtain⟨x,b,c⟩:=uE h;exact uD (d x b) c
theorem bO.pos{L:List Ob}(a:ai L){ids:List Int}{k:Int}(h:bO L ids k):0≤k∧k.toNat<L.length:=by
 have b:=dh (h.kind a);omega
theorem rp{L:List Ob}{ids:List Int}{l:Int×Int}:l∈bR L ids↔∃k∈ids,∃e∈(aj L k).entries,e.mode=3∧l=(e.av,e.id):=by
 unfold bR jo;rw[List.mem_flatMap];constructor
 ·rintro⟨k,b,c⟩;obtain⟨e,a,d⟩:=List.mem_map.1 c;rw[List.mem_filter]at a;exact⟨k,b,e,a.1,by simpa using a.2,d.symm⟩
 ·rintro⟨k,b,e,c,a,d⟩;refine⟨k,b,List.mem_map.2 ⟨e,List.mem_filter.2 ⟨c,by simpa using a⟩,d.symm⟩⟩
theorem lh{L:List Ob}(b:ai L){k:Int}{e:aD}(he:e∈(aj L k).entries):0≤e.av∧e.av<4∧kindOf L e.id=e.mode:=by
 have c:¬kindOf L k=0:=fun h=>by rw[b.lD h]at he;cases he
 have d:=b.get c;have a:=dh c;have q:=mh d.ents e he;have:=(b.obj (aj L k) (by rw[ku a.1 a.2];exact List.getElem_mem _)).2;unfold dR at this;rw[Bool.and_eq_true,List.all_eq_true]at this;have:=this.1 e he;exact⟨q.2.2.2.1.1,q.2.2.2.1.2,by simpa using this⟩
theorem Nd.lt{L:List Ob}(a:ai L){r0:Nat→List Int}{r:Nat}{k:Int}(h:Nd L r0 r k):r<4:=by
 cases h with
 |root c _ _=>exact c
 |link h b e d=>have:=lh a b;omega
theorem Nd.pos{L:List Ob}(b:ai L){r0:Nat→List Int}{r:Nat}{k:Int}(h:Nd L r0 r k):0≤k∧k.toNat<L.length:=by
 cases h with
 |root e _ a=>exact a.pos b
 |link h c d a=>exact a.pos b
theorem zT{L:List Ob}(b:ai L){r0:Nat→List Int}{r:Nat}{k:Int}:k∈fq L r0 r↔Nd L r0 r k:=by
 unfold fq;rw[List.mem_map];constructor
 ·rintro⟨j,c,rfl⟩;have:=(List.mem_filter.1 c).2;simpa using this
 ·intro h;obtain⟨d,a⟩:=h.pos b;have e:((k.toNat:Nat):Int)=k:=by omega
  refine⟨k.toNat,List.mem_filter.2 ⟨List.mem_range.2 a,?_⟩,e⟩;rw[e];simpa using h
theorem GK{L:List Ob}{r0:Nat→List Int}{r:Nat}:(fq L r0 r).Pairwise (· < ·):=by
 unfold fq;rw[List.pairwise_map];exact(List.pairwise_lt_range.filter _).imp fun h=>by omega
theorem pY.bN{L:List Ob}(a:ai L){r0:Nat→List Int}{s:RS}(hi:fI L r0 s)(b:pY L s){r:Nat}(hr:r<4):s.out r=fq L r0 r:=by
 have d:∀r k,Nd L r0 r k→k∈s.out r:=fun r k h=>by
  induction h with
  | @root r x k hr h c=>
   rw[b.out r hr,iI a];exact uD (hi.sub r hr x h) c
  | @link r k m e h f j c ih=>
   have hr:=h.lt a;have l:=lh a f;have:=b.clo r hr (e.av,e.id) (rp.2 ⟨k,ih,e,f,j,rfl⟩);rw[b.out _ (by omega),iI a];exact uD this c
 rw[b.out r hr];refine pE rS GK fun k=>?_;rw[zT a];constructor
 ·intro h;obtain⟨x,g,i⟩:=uE ((iI a).1 h);exact hi.nd r hr x g k i
 ·intro h;have:=d r k h;rwa[b.out r hr]at this
theorem fI.start{L:List Ob}{r0:Nat→List Int}:fI L r0 ⟨r0,fun _=>[],true⟩where
 sub:=fun r a x h=>h
 nd:=fun r a x h k b=>.root a h b
 ext:=fun r a=>⟨[],by simp,List.nodup_nil,fun x h=>by cases h⟩;out:=fun r a k h=>by cases h
 onod:=fun r a=>List.nodup_nil
theorem I7{α:Type}{f:α→Nat}{o:Nat→α}{k:Nat}(hk:k<4){v:α}:kP (fun r=>f (ay o k v r))+f (o k)=kP (fun r=>f (o r))+f v:=by
 unfold kP;rcases four hk with rfl|rfl|rfl|rfl<;>simp only[ay,Nat.beq,cond_true,cond_false]<;>omega
end Go.Nest
end
