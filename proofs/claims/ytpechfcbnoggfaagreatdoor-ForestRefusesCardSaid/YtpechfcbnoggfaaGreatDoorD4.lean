/- part -/
import Derived.Test.YtpechfcbnoggfaaGreatDoorU0
import Derived.Test.YtpechfcbnoggfaaGreatDoorV1
import Derived.Test.YtpechfcbnoggfaaGreatDoorP9
import Derived.Test.YtpechfcbnoggfaaGreatDoorW4
import Derived.Test.YtpechfcbnoggfaaGreatDoorG9
import Derived.Test.YtpechfcbnoggfaaGreatDoorAmH
set_option linter.unusedVariables false
set_option linter.unusedSimpArgs false
section
namespace Go.Nest
open Go Go.AM
theorem cU.trans{L:List Ob}{a b c:Int}(h:cU L a b)(h2:cU L b c):cU L a c:=by
 induction h with
 |refl=>exact h2
 |step h _ ih=>exact .step h (ih h2)
theorem cU.first{L:List Ob}{a b:Int}(h:cU L a b):b=a∨∃p∈(ai L a).parents,cU L p b:=by
 cases h with
 |refl=>exact .inl rfl
 |step h1 h2=>exact .inr ⟨_,h1,h2⟩
theorem AD{L:List Ob}(hL:aj L){id:Int}(hi:kindOf L id=3):0<(aX L id).length∧(aX L id)[(aX L id).length-1]? =some id:=by
 have hm:id∈aX L id:=(kG hL hi).2 (.refl id);obtain⟨i,hlt,e⟩:=List.mem_iff_getElem.1 hm;refine⟨by omega,?_⟩;rw[List.getElem?_eq_getElem (by omega)];have hl:(aX L id)[(aX L id).length-1]≤id:=((kG hL hi).1 (List.getElem_mem (by omega))).le hL;by_cases h0:i=(aX L id).length-1
 ·subst h0;rw[e]
 ·have:=List.pairwise_iff_getElem.1 (o7 (L:=L) (id:=id)) i ((aX L id).length-1) hlt (by omega) (by omega);omega
end Go.Nest
end
section
namespace Go.Nest
open Go Go.AM
def bz(out:List Int)(id:Int):List Int:=if id∈out then out else out++[id]
def cz(im:List (List Int))(k:Int):List Int:=(im[k.toNat]?).getD []
def cB(im:List (List Int))(ks:List Int):List Int:=ks.foldl (fun out k=>(cz im k).foldl bz out) []
def bN(L:List Ob)(dir:List UInt8)(up:List Int)(o:Ob):List Int×Int×List Ob:=
 if(dd L o.tree dir).2=9 then(up,0,L)else if(dd L o.tree dir).2≠0 then([],(dd L o.tree dir).2,L)else
 if up.length=1∧(ai L (up.headD 0)).tree=(dd L o.tree dir).1 then(up,0,L)else
 ([(aA L (eG (dd L o.tree dir).1 up o.text)).1],(aA L (eG (dd L o.tree dir).1 up o.text)).2.1,(aA L (eG (dd L o.tree dir).1 up o.text)).2.2)
def dN(L:List Ob)(dir:List UInt8)(im:List (List Int))(id:Int):List Int×Int×List Ob:=bN L dir (cB im (ai L id).parents) (ai L id)
def bF(dir:List UInt8):List Int→List Ob→List (List Int)→Int×List Ob×List (List Int)
 |[],L,im=>(0,L,im)
 |id::r,L,im=>if(dN L dir im id).2.1≠0 then((dN L dir im id).2.1,(dN L dir im id).2.2,im)else bF dir r (dN L dir im id).2.2 (im.set id.toNat (dN L dir im id).1)
def jU(l:List Int):Int×Int:=if l.length=0 then(0,9)else if l.length=1 then(l.headD 0,0)else(0,5)
def bT(L:List Ob)(id:Int)(dir:List UInt8):Int×Int×List Ob:=
 if(b7 L id).2≠0 then(0,(b7 L id).2,L)else
 if(bF dir (b7 L id).1 L (List.replicate L.length [])).1≠0 then(0,(bF dir (b7 L id).1 L (List.replicate L.length [])).1,(bF dir (b7 L id).1 L (List.replicate L.length [])).2.1)else
 ((jU (cz (bF dir (b7 L id).1 L (List.replicate L.length [])).2.2 id)).1,(jU (cz (bF dir (b7 L id).1 L (List.replicate L.length [])).2.2 id)).2,(bF dir (b7 L id).1 L (List.replicate L.length [])).2.1)
theorem u6{L M:List Ob}(hp:aj L)(hx:L<+:M){a b:Int}(ha:kindOf L a=3):cU M a b↔cU L a b:=by
 constructor
 ·intro h;induction h with
  |refl=>exact .refl _
  |step h1 _ ih=>
   rw[ext_get hx (by omega)]at h1;exact .step h1 (ih (tX hp ha h1))
 ·intro h;induction h with
  |refl=>exact .refl _
  |step h1 _ ih=>
   refine .step ?_ (ih (tX hp ha h1));rw[ext_get hx (by omega)];exact h1
theorem AB{L M:List Ob}(hp:aj L)(hM:aj M)(hx:L<+:M){a:Int}(ha:kindOf L a=3):b7 M a=b7 L a:=by
 have ha2:kindOf M a=3:=by rw[dE hx (by omega)];exact ha
 unfold b7;rw[if_pos ha,if_pos ha2];have:aX M a=aX L a:=qK o7 o7 fun k=>by rw[kG hM ha2,kG hp ha,u6 hp hx ha]
 rw[this]
theorem nD{L:List Ob}(hp:aj L){j:Int}(hj:kindOf L j=3):kindOf L (ai L j).tree=2:=by
 obtain⟨h1,h2⟩:=c9 (l:=L) (id:=j) (by omega);have:=(hp.obj (ai L j) (by rw[jg h1 h2];exact List.getElem_mem _)).2;have hk:=fp (l:=L) (id:=j);unfold dU at this;rw[Bool.and_eq_true,Bool.and_eq_true]at this;have:=this.2.2;rw[hk,hj]at this;simpa using this
theorem vu{L M:List Ob}(hp:aj L)(hx:L<+:M):∀{ds:List (List UInt8)} {t:Int},¬kindOf L t=0→jB M t ds=jB L t ds
 |[],t,h=>rfl
 |d::ds,t,h=>by
  unfold jB;rw[dE hx h,ext_get hx h];split
  ·rfl
  ·rename_i hk;have hk:=Decidable.not_not.1 hk;cases e:(ai L t).entries.find? (isDir d)with
   |none=>rfl
   |some x=>
    have hm:=List.mem_of_find?_eq_some e;have q:=(iS hp hk).2 x hm;have q1:=q.m1;have q2:=q.kind;exact vu hp hx (by omega)
theorem nw{L M:List Ob}(hp:aj L)(hx:L<+:M){t:Int}(h:¬kindOf L t=0)(dir:List UInt8):dd M t dir=dd L t dir:=by
 unfold dd;rw[vu hp hx h]
def ie(L:List Ob)(l:List Int):Prop:=∀x∈l,kindOf L x=3
theorem ie.mono{L M:List Ob}(hx:L<+:M){l:List Int}(h:ie L l):ie M l:=fun x hm=>by
 have:=h x hm;rw[dE hx (by omega)];exact this
theorem uW{x id:Int}{out:List Int}:x∈bz out id↔x∈out∨x=id:=by
 unfold bz;split
 ·rename_i h;constructor
  ·exact .inl
  ·rintro(h1|rfl)
   ·exact h1
   ·exact h
 ·simp
theorem ry{x:Int}:∀{l out:List Int},x∈l.foldl bz out↔x∈out∨x∈l
 |[],out=>by simp
 |a::l,out=>by
  rw[List.foldl_cons,ry,uW,List.mem_cons,or_assoc]
theorem Ab{x:Int}{im:List (List Int)}:∀{ks out:List Int},x∈ks.foldl (fun out k=>(cz im k).foldl bz out) out↔x∈out∨∃k∈ks,x∈cz im k
 |[],out=>by simp
 |a::l,out=>by
  rw[List.foldl_cons,Ab,ry,or_assoc];simp
theorem Hj{x:Int}{im:List (List Int)}{ks:List Int}:x∈cB im ks↔∃k∈ks,x∈cz im k:=by
 unfold cB;rw[Ab];simp
def cV(P:Int→Prop)(im:List (List Int)):Prop:=∀k,∀x∈cz im k,P x
theorem cV.up{P:Int→Prop}{im:List (List Int)}(h:cV P im){ks:List Int}:∀x∈cB im ks,P x:=fun x hx=>by
 obtain⟨k,-,h2⟩:=Hj.1 hx;exact h k x h2
theorem cV.put{P:Int→Prop}{im:List (List Int)}(h:cV P im){n:Nat}{v:List Int}(hv:∀x∈v,P x):cV P (im.set n v):=fun k x hx=>by
 unfold cz at hx;rw[List.getElem?_set]at hx;split at hx
 ·split at hx
  ·exact hv x hx
  ·cases hx
 ·exact h k x hx
theorem cV.start{P:Int→Prop}{n:Nat}:cV P (List.replicate n []):=fun k x hx=>by
 unfold cz at hx;rw[List.getElem?_replicate]at hx;split at hx<;>cases hx
theorem cV.mono{P Q:Int→Prop}{im:List (List Int)}(h:cV P im)(hPQ:∀x,P x→Q x):cV Q im:=fun k x hx=>hPQ x (h k x hx)
theorem lr{L:List Ob}(hp:aj L){dir:List UInt8}{up:List Int}{o:Ob}:aj (bN L dir up o).2.2∧L<+:(bN L dir up o).2.2∧((bN L dir up o).2.1≠0→(bN L dir up o).2.2=L):=by
 unfold bN;split
 ·exact⟨hp,List.prefix_refl _,fun _=>rfl⟩
 split
 ·exact⟨hp,List.prefix_refl _,fun _=>rfl⟩
 split
 ·exact⟨hp,List.prefix_refl _,fun _=>rfl⟩
 ·exact⟨iM hp _,jV _,yW⟩
theorem xt{l:List Int}(h:l.length=1):l.headD 0∈l:=by
 obtain⟨x,rfl⟩:=List.length_eq_one_iff.1 h;simp
theorem Dg{L:List Ob}(hp:aj L){dir:List UInt8}{up:List Int}{o:Ob}(ht:kindOf L o.tree=2)(hu:ie L up){M:List Ob}(hM:aj M)(hx:(bN L dir up o).2.2<+:M)(hc:(bN L dir up o).2.1≠0→M=(bN L dir up o).2.2):
  bN M dir up o=((bN L dir up o).1,(bN L dir up o).2.1,M):=by
 have hLM:L<+:M:=(lr hp).2.1.trans hx;have ea:dd M o.tree dir=dd L o.tree dir:=nw hp hLM (by omega) dir;unfold bN at hx hc⊢;rw[ea];split
 ·rfl
 rename_i h1;rw[if_neg h1]at hx hc;split
 ·rfl
 rename_i h2;rw[if_neg h2]at hx hc;by_cases h3:up.length=1∧(ai L (up.headD 0)).tree=(dd L o.tree dir).1
 ·have hk:=hu _ (xt h3.1);rw[if_pos h3,if_pos ⟨h3.1,by rw[ext_get hLM (by omega)];exact h3.2⟩]
 ·have h3' : ¬ (up.length = 1 ∧ (ai M (up.headD 0)).tree = (dd L o.tree dir).1) := fun hh => h3 ⟨hh.1,by
   have hk:=hu _ (xt hh.1);rw[ext_get hLM (by omega)]at hh;exact hh.2⟩
  rw[if_neg h3,if_neg h3'];rw[if_neg h3]at hx hc;dsimp only at hx hc⊢;by_cases h4:(aA L (eG (dd L o.tree dir).1 up o.text)).2.1=0
  ·have:=(yV (fun h=>by cases h) h4 hM hx).1;rw[this,h4]
  ·have e:=yW h4;have:=hc h4;rw[e]at this;subst this;rw[e]
theorem sX{L:List Ob}(hp:aj L){dir:List UInt8}{up:List Int}{o:Ob}(hu:ie L up)(hc:(bN L dir up o).2.1=0):ie (bN L dir up o).2.2 (bN L dir up o).1:=by
 unfold bN at hc⊢;split
 ·exact hu
 rename_i h1;rw[if_neg h1]at hc;split
 ·rename_i h2;rw[if_pos h2]at hc;exact absurd hc h2
 rename_i h2;rw[if_neg h2]at hc;split
 ·exact hu
 rename_i h3;rw[if_neg h3]at hc;intro x hx;rw[List.mem_singleton]at hx;subst hx;have:=(kQ hc).2;dsimp only;rw[←fp,this];rfl
def iU(im im2:List (List Int)):Prop:=∀n:Nat,(im[n]?).getD []=(im2[n]?).getD []
theorem iU.at{im im2:List (List Int)}(h:iU im im2)(k:Int):cz im k=cz im2 k:=h k.toNat
theorem iU.up{im im2:List (List Int)}(h:iU im im2)(ks:List Int):cB im ks=cB im2 ks:=by
 unfold cB;have:(fun out k=>(cz im k).foldl bz out)=(fun(out:List Int) k=>(cz im2 k).foldl bz out):=by funext out k;rw[h.at]
 rw[this]
theorem iU.put{im im2:List (List Int)}(h:iU im im2){n:Nat}(h1:n<im.length)(h2:n<im2.length)(v:List Int):iU (im.set n v) (im2.set n v):=fun k=>by
 rw[List.getElem?_set,List.getElem?_set];by_cases e:n=k
 ·rw[if_pos e,if_pos e,if_pos h1,if_pos h2]
 ·rw[if_neg e,if_neg e];exact h k
theorem xz{L:List Ob}(hp:aj L){dir:List UInt8}{im:List (List Int)}{id:Int}(hk:kindOf L id=3)(hi:cV (fun x=>kindOf L x=3) im){M:List Ob}(hM:aj M)(hx:(dN L dir im id).2.2<+:M)
  (hc:(dN L dir im id).2.1≠0→M=(dN L dir im id).2.2){im2:List (List Int)}(he:iU im im2):dN M dir im2 id=((dN L dir im id).1,(dN L dir im id).2.1,M):=by
 have hLM:L<+:M:=(lr hp).2.1.trans hx;unfold dN at hx hc⊢;rw[ext_get hLM (by omega),←he.up];exact Dg hp (nD hp hk) hi.up hM hx hc
theorem oK{dir:List UInt8}:∀{l:List Int} {L:List Ob} {im:List (List Int)},aj L→aj (bF dir l L im).2.1∧L<+:(bF dir l L im).2.1
 |[],L,im,h=>⟨h,List.prefix_refl _⟩
 |id::r,L,im,h=>by
  obtain⟨h1,h2,-⟩:=lr h (dir:=dir) (up:=cB im (ai L id).parents) (o:=ai L id);unfold bF;split
  ·exact⟨h1,h2⟩
  ·obtain⟨h3,h4⟩:=oK (l:=r) (im:=im.set id.toNat (dN L dir im id).1) h1;exact⟨h3,h2.trans h4⟩
theorem zM{dir:List UInt8}:∀{l:List Int} {L:List Ob} {im:List (List Int)},aj L→ie L l→cV (fun x=>kindOf L x=3) im→(∀x∈l,x.toNat<im.length)→
  ∀{M:List Ob} {im2:List (List Int)},aj M→(bF dir l L im).2.1<+:M→((bF dir l L im).1≠0→M=(bF dir l L im).2.1)→iU im im2→(∀x∈l,x.toNat<im2.length)→
  (bF dir l M im2).1=(bF dir l L im).1∧(bF dir l M im2).2.1=M∧((bF dir l L im).1=0→iU (bF dir l L im).2.2 (bF dir l M im2).2.2)
 |[],L,im,hp,_,_,_,M,im2,hM,hx,hc,he,_=>⟨rfl,rfl,fun _=>he⟩
 |id::r,L,im,hp,hk,hi,hn,M,im2,hM,hx,hc,he,hn2=>by
  obtain⟨h1,h2,h3⟩:=lr hp (dir:=dir) (up:=cB im (ai L id).parents) (o:=ai L id);unfold bF at hx hc⊢;by_cases hz:(dN L dir im id).2.1≠0
  ·rw[if_pos hz]at hx hc⊢;have e:=xz hp (hk id (by simp)) hi hM hx (fun _=>hc hz) he;rw[e];dsimp only;rw[if_pos hz];exact⟨rfl,rfl,fun h=>absurd h hz⟩
  ·rw[if_neg hz]at hx hc⊢;have hx1:=(oK (dir:=dir) (l:=r) (im:=im.set id.toNat (dN L dir im id).1) h1).2;have e:=xz hp (hk id (by simp)) hi hM (hx1.trans hx) (fun h=>absurd h hz) he;rw[e];dsimp only;rw[if_neg hz];have hv:=sX hp (dir:=dir) (up:=cB im (ai L id).parents) (o:=ai L id) hi.up (Decidable.not_not.1 hz);refine zM h1 (fun x hx=>(hk.mono h2) x (by simp[hx])) (cV.put (hi.mono fun x hx=>by rw[dE h2 (by omega)];exact hx) hv) (fun x hx=>by rw[List.length_set];exact hn x (by simp[hx])) hM hx hc (he.put (hn id (by simp)) (hn2 id (by simp)) _) (fun x hx=>by rw[List.length_set];exact hn2 x (by simp[hx]))
def Good(L:List Ob)(line:Int→Prop)(dir:List UInt8)(x:Int):Prop:=kindOf L x=3∧∀y,cU L x y→∃j,line j∧kindOf L j=3∧dd L (ai L j).tree dir=((ai L y).tree,0)
theorem Good.mono{L M:List Ob}(hp:aj L)(hx:L<+:M){line:Int→Prop}{dir:List UInt8}{x:Int}(h:Good L line dir x):Good M line dir x:=by
 obtain⟨h1,h2⟩:=h;refine⟨by rw[dE hx (by omega)];exact h1,fun y hy=>?_⟩;have hy:=(u6 hp hx h1).1 hy;have hk:=hy.kind hp h1;obtain⟨j,a,b,c⟩:=h2 y hy;have ht:=nD hp b;refine⟨j,a,by rw[dE hx (by omega)];exact b,?_⟩;rw[ext_get hx (by omega),ext_get hx (by omega),nw hp hx (by omega),c]
theorem De{L:List Ob}(hp:aj L){line:Int→Prop}{dir:List UInt8}{up:List Int}{id:Int}(hid:line id)(hk:kindOf L id=3)(hu:∀x∈up,Good L line dir x)(hc:(bN L dir up (ai L id)).2.1=0):
  ∀x∈(bN L dir up (ai L id)).1,Good (bN L dir up (ai L id)).2.2 line dir x:=by
 have ht:=nD hp hk;unfold bN at hc⊢;split
 ·exact hu
 rename_i h1;rw[if_neg h1]at hc;split
 ·rename_i h2;rw[if_pos h2]at hc;exact absurd hc h2
 rename_i h2;rw[if_neg h2]at hc;have h2:=Decidable.not_not.1 h2;split
 ·exact hu
 rename_i h3;rw[if_neg h3]at hc;intro x hx;rw[List.mem_singleton]at hx;subst hx;have hg:=(kQ hc).2;have hxx:=jV (L:=L) (eG (dd L (ai L id).tree dir).1 up (ai L id).text);dsimp only;refine⟨by rw[←fp,hg];rfl,fun y hy=>?_⟩;rcases hy.first with rfl|⟨p,p1,p2⟩
 ·refine⟨id,hid,by rw[dE hxx (by omega)];exact hk,?_⟩;rw[hg,ext_get hxx (k:=id) (by omega),nw hp hxx (by omega)];exact Prod.ext rfl h2
 ·rw[hg]at p1;exact((hu p p1).mono hp hxx).2 y p2
theorem zN{dir:List UInt8}{line:Int→Prop}:∀{l:List Int} {L:List Ob} {im:List (List Int)},aj L→ie L l→(∀x∈l,line x)→cV (Good L line dir) im→(bF dir l L im).1=0→cV (Good (bF dir l L im).2.1 line dir) (bF dir l L im).2.2
 |[],L,im,hp,_,_,hi,_=>hi
 |id::r,L,im,hp,hk,hl,hi,hc=>by
  obtain⟨h1,h2,h3⟩:=lr hp (dir:=dir) (up:=cB im (ai L id).parents) (o:=ai L id);unfold bF at hc⊢;split at hc
  ·exact absurd hc ‹_›
  rename_i hz;rw[if_neg hz];refine zN h1 (fun x hx=>(hk.mono h2) x (by simp[hx])) (fun x hx=>hl x (by simp[hx])) (cV.put (hi.mono fun x hx=>hx.mono hp h2) ?_) hc;exact De hp (hl id (by simp)) (hk id (by simp)) hi.up (Decidable.not_not.1 hz)
theorem Dh{L:List Ob}{dir:List UInt8}{up:List Int}{o:Ob}{t:Int}(ha:dd L o.tree dir=(t,0))(hc:(bN L dir up o).2.1=0):∃x,(bN L dir up o).1=[x]∧(ai (bN L dir up o).2.2 x).tree=t:=by
 unfold bN at hc⊢;rw[ha]at hc⊢;rw[if_neg (by simp),if_neg (by simp)]at hc⊢;split
 ·rename_i h3;obtain⟨x,rfl⟩:=List.length_eq_one_iff.1 h3.1;exact⟨x,rfl,h3.2⟩
 ·rename_i h3;rw[if_neg h3]at hc;refine⟨_,rfl,?_⟩;dsimp only;rw[(kQ hc).2];rfl
theorem zO{dir:List UInt8}:∀{l:List Int} {L:List Ob} {im:List (List Int)} (hne:l≠[]),aj L→ie L l→cV (fun x=>kindOf L x=3) im→(∀x∈l,x.toNat<im.length)→(bF dir l L im).1=0→
  ∀t,dd L (ai L (l.getLast hne)).tree dir=(t,0)→∃x,cz (bF dir l L im).2.2 (l.getLast hne)=[x]∧(ai (bF dir l L im).2.1 x).tree=t
 |[id],L,im,hne,hp,hk,hi,hn,hc,t,ha=>by
  unfold bF at hc⊢;split at hc
  ·exact absurd hc ‹_›
  rename_i hz;rw[if_neg hz];obtain⟨x,x1,x2⟩:=Dh (up:=cB im (ai L id).parents) ha (Decidable.not_not.1 hz);refine⟨x,?_,x2⟩;unfold bF cz;rw[List.getLast_singleton,List.getElem?_set,if_pos rfl,if_pos (hn id (by simp))];exact x1
 |id::b::r,L,im,hne,hp,hk,hi,hn,hc,t,ha=>by
  obtain⟨h1,h2,h3⟩:=lr hp (dir:=dir) (up:=cB im (ai L id).parents) (o:=ai L id);unfold bF at hc⊢;split at hc
  ·exact absurd hc ‹_›
  rename_i hz;rw[if_neg hz];rw[List.getLast_cons (by simp)]at ha⊢;have hv:=sX hp (dir:=dir) (up:=cB im (ai L id).parents) (o:=ai L id) hi.up (Decidable.not_not.1 hz);have hkl:=hk ((b::r).getLast (by simp)) (List.mem_cons_of_mem _ (List.getLast_mem _));have htl:=nD hp hkl;refine zO (l:=b::r) (by simp) h1 (fun x hx=>(hk.mono h2) x (List.mem_cons_of_mem _ hx)) (cV.put (hi.mono fun x hx=>by rw[dE h2 (by omega)];exact hx) hv) (fun x hx=>by rw[List.length_set];exact hn x (List.mem_cons_of_mem _ hx)) hc t ?_;rw[ext_get h2 (by omega),nw hp h2 (by omega)];exact ha
theorem u5{L:List Ob}(hL:aj L){id:Int}(hi:kindOf L id=3):∃h:aX L id≠[],(aX L id).getLast h=id:=by
 obtain⟨h1,h2⟩:=AD hL hi;have hne:aX L id≠[]:=fun e=>by rw[e]at h1;cases h1
 refine⟨hne,?_⟩;rw[List.getLast_eq_getElem];rw[List.getElem?_eq_getElem (by omega)]at h2;exact Option.some.inj h2
theorem GC{L:List Ob}(hp:aj L){id:Int}{dir:List UInt8}{x c:Int}{M:List Ob}(e:bT L id dir=(x,c,M)):
  aj M∧L<+:M∧(c≠0→x=0)∧bT M id dir=(x,c,M)∧
  (c=0→kindOf M id=3∧kindOf M x=3∧(∀t,dd M (ai M id).tree dir=(t,0)→(ai M x).tree=t)∧∀y∈(b7 M x).1,∃j∈(b7 M id).1,dd M (ai M j).tree dir=((ai M y).tree,0)):=by
 unfold bT at e;by_cases hk:kindOf L id=3
 ·have e0:b7 L id=(aX L id,0):=if_pos hk;rw[e0,if_neg (by simp)]at e;have hkl:ie L (aX L id):=fun y hy=>((kG hp hk).1 hy).kind hp hk
  have hnl:∀y∈aX L id,y.toNat<(List.replicate L.length ([]:List Int)).length:=fun y hy=>by
   rw[List.length_replicate];have:=hkl y hy;exact(c9 (l:=L) (id:=y) (by omega)).2
  obtain⟨hM,hx⟩:=oK (dir:=dir) (l:=aX L id) (im:=List.replicate L.length []) hp
  have ag:=zM (dir:=dir) hp hkl cV.start hnl (M:=(bF dir (aX L id) L (List.replicate L.length [])).2.1) (im2:=List.replicate (bF dir (aX L id) L (List.replicate L.length [])).2.1.length []) hM (List.prefix_refl _) (fun _=>rfl)
   (fun n=>by
    rw[List.getElem?_replicate,List.getElem?_replicate];split <;> split <;> rfl) (fun y hy=>by
    have h1:=hnl y hy;rw[List.length_replicate]at h1⊢;exact Nat.lt_of_lt_of_le h1 hx.length_le)
  have gd:=zN (dir:=dir) (line:=fun j=>j∈aX L id) (l:=aX L id) hp hkl (fun y hy=>hy) (im:=List.replicate L.length []) cV.start;have lst:=zO (dir:=dir) (l:=aX L id) (im:=List.replicate L.length []) (u5 hp hk).choose hp hkl cV.start hnl;rw[(u5 hp hk).choose_spec]at lst;have e1:b7 (bF dir (aX L id) L (List.replicate L.length [])).2.1 id=(aX L id,0):=by rw[AB hp hM hx hk,e0]
  generalize hG:bF dir (aX L id) L (List.replicate L.length [])=G at*;obtain⟨c1,M1,im1⟩:=G;dsimp only at hM hx ag gd lst e1 e
  have key:M=M1:=by
   split at e
   ·exact(congrArg (·.2.2) e).symm
   ·exact(congrArg (·.2.2) e).symm
  subst key;obtain⟨a1,a2,a3⟩:=ag;have hk2:kindOf M id=3:=by rw[dE hx (by omega)];exact hk
  refine⟨hM,hx,fun hc=>?_,?_,fun hc=>?_⟩
  ·split at e
   ·exact(congrArg (·.1) e).symm
   ·unfold jU at e;split at e
    ·exact(congrArg (·.1) e).symm
    split at e
    ·exact absurd (congrArg (·.2.1) e).symm hc
    ·exact(congrArg (·.1) e).symm
  ·unfold bT;rw[e1,if_neg (by simp)];dsimp only;rw[a1,a2];by_cases hz:c1≠0
   ·rw[if_pos hz]at e⊢;exact e
   ·rw[if_neg hz]at e⊢;rw[←(a3 (Decidable.not_not.1 hz)).at];exact e
  ·have hz:c1=0:=by
    refine Decidable.byContradiction fun hz=>?_;rw[if_pos hz]at e;exact hz ((congrArg (·.2.1) e).trans hc)
   rw[if_neg (by simpa using hz)]at e;have gd:=gd hz
   have hlen:cz im1 id=[x]:=by
    unfold jU at e;split at e
    ·have:=congrArg (·.2.1) e;dsimp only at this;omega
    split at e
    ·rename_i h1;obtain⟨u,hu⟩:=List.length_eq_one_iff.1 h1;rw[hu]at e⊢;rw[show u=x from congrArg (·.1) e]
    ·have:=congrArg (·.2.1) e;dsimp only at this;omega
   have gx:=gd id x (by rw[hlen];simp);refine⟨hk2,gx.1,fun t ht=>?_,fun y hy=>?_⟩
   ·have ht2:=nD hp hk;rw[ext_get hx (by omega),nw hp hx (by omega)]at ht;obtain⟨u,u1,u2⟩:=lst hz t ht;rw[hlen]at u1;obtain rfl:x=u:=by simpa using u1
    exact u2
   ·have e2:b7 M x=(aX M x,0):=if_pos gx.1;rw[e2]at hy;obtain⟨j,j1,j2,j3⟩:=gx.2 y ((kG hM gx.1).1 hy);exact⟨j,by rw[e1];exact j1,j3⟩
 ·have e0:b7 L id=([],9):=if_neg hk;rw[e0,if_pos (by simp)]at e
  obtain⟨rfl,rfl,rfl⟩:x=0∧c=9∧M=L:=by
   refine⟨(congrArg (·.1) e).symm,(congrArg (·.2.1) e).symm,(congrArg (·.2.2) e).symm⟩
  refine⟨hp,List.prefix_refl _,fun _=>rfl,?_,fun h=>by cases h⟩;unfold bT;rw[e0,if_pos (by simp)]
end Go.Nest
end
section
namespace Go.Nest
open Go Go.AM Go.Proofs
open Go.Proofs.YtpechfcbnoggfaaGreatDoor (tab tabOk)
set_option maxRecDepth 4000
theorem ki{n:Nat}:∀{l out:List Int},out.Nodup→(∀x∈out,0≤x∧x<n)→(∀x∈l,0≤x∧x<n)→(l.foldl bz out).Nodup∧∀x∈l.foldl bz out,0≤x∧x<n
 |[],out,h1,h2,_=>⟨h1,h2⟩
 |a::l,out,h1,h2,h3=>by
  rw[List.foldl_cons];refine ki ?_ (fun x hx=>?_) (fun x hx=>h3 x (by simp[hx]))
  ·unfold bz;split
   ·exact h1
   ·rename_i h;rw[List.nodup_append];exact⟨h1,by simp,fun x hx y hy=>by rw[List.mem_singleton]at hy;subst hy;exact fun e=>h (e▸hx)⟩
  ·rcases uW.1 hx with hx|rfl
   ·exact h2 x hx
   ·exact h3 x (by simp)
theorem Ac{n:Nat}{im:List (List Int)}(hi:∀k,∀x∈cz im k,0≤x∧x<n):∀{ks out:List Int},out.Nodup→(∀x∈out,0≤x∧x<n)→(ks.foldl (fun out k=>(cz im k).foldl bz out) out).Nodup∧∀x∈ks.foldl (fun out k=>(cz im k).foldl bz out) out,0≤x∧x<n
 |[],out,h1,h2=>⟨h1,h2⟩
 |k::ks,out,h1,h2=>by
  rw[List.foldl_cons];obtain⟨a,b⟩:=ki h1 h2 (hi k);exact Ac hi a b
structure Fit(im:List (List Int)):Prop where
 len:∀k,(cz im k).length≤600
 all:∀k,∀x∈cz im k,0≤x∧x<(600:Nat)
theorem qX{im:List (List Int)}(hi:Fit im)(ks:List Int):(cB im ks).Nodup∧(cB im ks).length≤600∧∀x∈cB im ks,0≤x∧x<(600:Nat):=by
 obtain⟨a,b⟩:=Ac (n:=600) hi.all (ks:=ks) (out:=[]) List.nodup_nil (fun x h=>by cases h);exact⟨a,gG 600 a b,b⟩
theorem Hk{im:List (List Int)}{ks:List Int}{i:Nat}(h:i<ks.length):cB im (ks.take (i+1))=(cz im ks[i]).foldl bz (cB im (ks.take i)):=by
 unfold cB;rw[List.take_succ_eq_append_getElem h,List.foldl_append];rfl
theorem nt{l out:List Int}{j:Nat}(h:j<l.length):(l.take (j+1)).foldl bz out=bz ((l.take j).foldl bz out) l[j]:=by
 rw[List.take_succ_eq_append_getElem h,List.foldl_append];rfl
theorem Fh(L:List Ob)(dir:List UInt8)(im:List (List Int))(o:Ob)(hpl:o.parents.length≤3)(hk:∀k∈o.parents,0≤k∧k.toNat<im.length)(hi:Fit im):ae Tryz.prog 283 [.c (.bp [.bp [.bs 6 Ob an L],.str dir,.bs 1 (List Int) (bq 1 encI) im]),.st (an o)] [] (Rt (.c (.rw 0)) [.row 1 Int encI (cB im o.parents)]):=by
 refine ao (n:=40) (n0:=0) tabOk Tryz.call283 Tryz.func283 ?_;intro hb;(conv=>whnf);refine lp Nat (fun i=>⟨[(0,.c (.bp [.bp [.bs 6 Ob an L],.str dir,.bs 1 (List Int) (bq 1 encI) im])),(5,.c (.rw 0)),(11,.c (.bs 1 Int encI o.parents)),(12,.c (.int .i64 o.parents.length)),(13,.c (.int .i64 i))],[.row 1 Int encI (cB im (o.parents.take i))]⟩) (fun i=>i≤o.parents.length∧True) (fun i=>o.parents.length-i) 0 [] [.new] ?_ ?_ (fun i hii=>?_)
 ·simp
 ·repeat' first|exact trivial|exact rfl|refine And.intro ?_ ?_
 (conv=>whnf);refine dec (fun h4=>?_) (fun h4=>?_)
 ·have hlt:i<o.parents.length:=by omega
  have hst:=Hk (im:=im) hlt;obtain⟨hk0,hk1⟩:=hk _ (List.getElem_mem hlt);obtain⟨u1,-,u3⟩:=qX hi (o.parents.take i);generalize cB im (o.parents.take i)=out at*;(conv=>whnf);refine⟨i,o.parents[i],rfl,List.getElem?_eq_getElem hlt,?_⟩;generalize o.parents[i]=k at*;have hik:im[k.toNat]? =some im[k.toNat]:=List.getElem?_eq_getElem hk1;have hxs:cz im k=im[k.toNat]:=by unfold cz;rw[hik];rfl
  have hfx:=hi.all k;have hfl:=hi.len k;rw[hxs]at hst hfx hfl;generalize im[k.toNat]=xs at*;(conv=>whnf);refine⟨k.toNat,xs,by omega,hik,?_⟩;(conv=>whnf);refine lp Nat (fun j=>⟨[(0,.c (.bp [.bp [.bs 6 Ob an L],.str dir,.bs 1 (List Int) (bq 1 encI) im])),(5,.c (.rw 0)),(11,.c (.bs 1 Int encI o.parents)),(12,.c (.int .i64 o.parents.length)),(13,.c (.int .i64 i)),(23,.c (.bs 1 Int encI xs)),(24,.c (.int .i64 xs.length)),(25,.c (.int .i64 j))],[.row 1 Int encI ((xs.take j).foldl bz out)]⟩) (fun j=>j≤xs.length∧True) (fun j=>xs.length-j) 0 [] [.same 0] ?_ ?_ (fun j hj=>?_)
  ·simp
  ·repeat' first|exact trivial|exact rfl|refine And.intro ?_ ?_
  (conv=>whnf);refine dec (fun h5=>?_) (fun h5=>?_)
  ·have hjt:j<xs.length:=by omega
   have hs2:=nt (out:=out) hjt;obtain⟨v1,v2⟩:=ki (l:=xs.take j) u1 u3 (fun x hx=>hfx x (List.mem_of_mem_take hx));have v3:=gG 600 v1 v2;generalize (xs.take j).foldl bz out=o2 at*;(conv=>whnf);refine⟨j,xs[j],rfl,List.getElem?_eq_getElem hjt,?_⟩;generalize xs[j]=y at*;(conv=>whnf);refine cl [] [] (fl o2 y) ?_;(conv=>whnf);refine aO (fun h6=>?_) (fun h6=>?_)
   ·have h6:y∉o2:=fun h=>by rw[eI.2 h]at h6;cases h6
    rw[show bz o2 y=o2++[y]from if_neg h6]at hs2;(conv=>whnf);refine⟨[y],rfl,?_⟩;(conv=>whnf);refine⟨_,_,rfl,rfl,(by simp only[List.length_append,List.length_cons,List.length_nil];omega),?_⟩;repeat'((conv=>whnf);refine I6 ?_)
    refine ag (j+1) [] [.same 2] ⟨hjt,trivial⟩ (by simp only[];omega) ?_;rw[hs2];repeat' first|exact trivial|exact rfl|refine And.intro ?_ ?_
   ·have h6:y∈o2:=eI.1 (by simpa using h6);rw[show bz o2 y=o2 from if_pos h6]at hs2;repeat'((conv=>whnf);refine I6 ?_)
    refine ag (j+1) [] [.same 0] ⟨hjt,trivial⟩ (by simp only[];omega) ?_;rw[hs2];repeat' first|exact trivial|exact rfl|refine And.intro ?_ ?_
  ·obtain rfl:j=xs.length:=by omega
   rw[List.take_length];repeat'((conv=>whnf);refine I6 ?_)
   refine ag (i+1) [] [.same 0] ⟨hlt,trivial⟩ (by simp only[];omega) ?_;rw[hst];repeat' first|exact trivial|exact rfl|refine And.intro ?_ ?_
 ·obtain rfl:i=o.parents.length:=by omega
  rw[List.take_length];(conv=>whnf);exact rx [] [.same 0]
theorem Di(L:List Ob)(hL:aj L)(dir:List UInt8)(hd:dir.length≤4000000)(im:List (List Int))(o:Ob)(hpl:o.parents.length≤3)(hk:∀k∈o.parents,0≤k∧k.toNat<im.length)(hi:Fit im):ae Tryz.prog 219 [.c (.ptr 0 0),.st (an o)] [.box [.ptr 1 0,.str dir,.rw 3],.box [.rw 2],.row 6 Ob an L,.row 1 (List Int) (bq 1 encI) im] (Rt (.tup [(false,[.rw 5]),(false,[.int .i64 (bN L dir (cB im o.parents) o).2.1])]) [.box [.ptr 1 0,.str dir,.rw 3],.box [.rw 4],.dead,.row 1 (List Int) (bq 1 encI) im,.row 6 Ob an (bN L dir (cB im o.parents) o).2.2,.row 1 Int encI (bN L dir (cB im o.parents) o).1]):=by
 have p1:=Fh L dir im o hpl hk hi;have hul:=(qX hi o.parents).2.1;have hu:=(qX hi o.parents).2.2;generalize cB im o.parents=up at*;have p2:=AJ L hL o.tree dir hd;refine ao (n:=72) (n0:=4) tabOk Tryz.call219 Tryz.func219 ?_;intro hb;rcases hat:dd L o.tree dir with⟨t,c⟩
 rw[hat]at p2;dsimp only at p2;have e9:c=9→bN L dir up o=(up,0,L):=fun h=>by unfold bN;rw[hat];exact if_pos h
 have ec:c≠9→c≠0→bN L dir up o=([],c,L):=fun h1 h2=>by unfold bN;rw[hat,if_neg h1,if_pos h2]
 have eu:c=0→(up.length=1∧(ai L (up.headD 0)).tree=t)→bN L dir up o=(up,0,L):=fun h1 h2=>by unfold bN;subst h1;rw[hat];exact(if_neg (fun h=>by cases h)).trans ((if_neg (fun h=>h rfl)).trans (if_pos h2))
 have ep:c=0→¬(up.length=1∧(ai L (up.headD 0)).tree=t)→bN L dir up o=([(aA L (eG t up o.text)).1],(aA L (eG t up o.text)).2.1,(aA L (eG t up o.text)).2.2):=fun h1 h2=>by unfold bN;subst h1;rw[hat];exact(if_neg (fun h=>by cases h)).trans ((if_neg (fun h=>h rfl)).trans (if_neg h2))
 have p3:=oB L (eG t up o.text) hL.len;generalize bN L dir up o=R at*;(conv=>whnf);refine cl [] [] (p1) ?_;(conv=>whnf);refine⟨false,.grow,(.l [0,1,2,3,4,5,6,7,8,9,10,11,12,13,14,15]),by kernel_rfl,.inl ?_⟩;(conv=>whnf);refine cl [] [] (p2) ?_;(conv=>whnf);refine dec (fun h1=>?_) (fun h1=>?_)
 ·obtain rfl:=e9 h1;(conv=>whnf);exact rx [] [.same 0,.same 1,.same 2,.same 3,.same 2,.same 5]
 (conv=>whnf);refine av (fun h2=>?_) (fun h2=>?_)
 ·obtain rfl:=ec h1 h2;(conv=>whnf);exact rx [] [.same 0,.same 1,.same 2,.same 3,.same 2,.new]
 have ep:=ep h2;have eu:=eu h2;(conv=>whnf);refine dec (fun h3=>?_) (fun h3=>?_)
 ·obtain⟨x,rfl⟩:=List.length_eq_one_iff.1 (show up.length=1 by have h3:(up.length:Int)=1:=h3;omega);(conv=>whnf);refine⟨false,.grow,(.alt [0,1,2,3,4,5,6] [7,11] fun j=>bif Nat.beq j 7 then(.l [8,9,10,11,12,13])else bif Nat.beq j 11 then(.l [7,8,9,10,12,13])else .l []),by kernel_rfl,.inl ?_⟩;(conv=>whnf);refine⟨0,⟨rfl,Nat.one_pos⟩,?_⟩;(conv=>whnf);refine⟨x,rfl,?_⟩;refine And.intro ?_ ?_
  ·(conv=>whnf);refine cl [] [] (fJ L hL x) ?_;(conv=>whnf);refine dec (fun h4=>?_) (fun h4=>?_)
   ·obtain rfl:=eu ⟨rfl,h4⟩;(conv=>whnf);exact rx [] [.same 0,.same 1,.same 2,.same 3,.same 2,.same 5]
   obtain rfl:=ep (fun h=>h4 h.2);generalize aA L (eG t [x] o.text)=Q at*;(conv=>whnf);refine⟨false,.grow,(.l [0,1,2,3,4,5,6,7,8,9,10,11,12,13,14]),by kernel_rfl,.inl ?_⟩;(conv=>whnf);refine cl [] [1,2] (p3) ?_;(conv=>whnf);refine⟨[Q.1],rfl,?_⟩;(conv=>whnf);exact rx [] [.same 0,.same 1,.same 2,.same 3,.same 7,.same 8]
  ·(conv=>whnf);refine cl [] [] (fJ L hL x) ?_;(conv=>whnf);refine dec (fun h4=>?_) (fun h4=>?_)
   ·obtain rfl:=eu ⟨rfl,h4⟩;(conv=>whnf);exact rx [] [.same 0,.same 1,.same 2,.same 3,.same 2,.same 5]
   obtain rfl:=ep (fun h=>h4 h.2);generalize aA L (eG t [x] o.text)=Q at*;(conv=>whnf);refine⟨false,.grow,(.l [0,1,2,3,4,5,6,7,8,9,10,11,12,13,14]),by kernel_rfl,.inl ?_⟩;(conv=>whnf);refine cl [] [1,2] (p3) ?_;(conv=>whnf);refine⟨[Q.1],rfl,?_⟩;(conv=>whnf);exact rx [] [.same 0,.same 1,.same 2,.same 3,.same 7,.same 8]
 ·obtain rfl:=ep (fun h=>h3 (by show(up.length:Int)=1;omega));generalize aA L (eG t up o.text)=Q at*;(conv=>whnf);refine⟨false,.grow,(.l [0,1,2,3,4,5,6,7,8,9,10,11,12,13,14]),by kernel_rfl,.inl ?_⟩;(conv=>whnf);refine cl [] [1,2] (p3) ?_;(conv=>whnf);refine⟨[Q.1],rfl,?_⟩;(conv=>whnf);exact rx [] [.same 0,.same 1,.same 2,.same 3,.same 6,.same 7]
end Go.Nest
end
section
namespace Go.Nest
open Go Go.AM
def bh(r:Int):Bool:=decide (0≤r)&&decide (r<4)
theorem b5{r:Int}:bh r=true↔∃i:Nat,i<4∧r=i:=by
 unfold bh;rw[Bool.and_eq_true,decide_eq_true_iff,decide_eq_true_iff];constructor
 ·rintro⟨h1,h2⟩;exact⟨r.toNat,by omega,by omega⟩
 ·rintro⟨i,h1,rfl⟩;omega
def gM(b:Nat→List Int):Prop:=∀i,i<4→(b i).length≤4∧∀q∈b i,0≤q∧q<(4:Nat)
def kD(b:Nat→List Int):Nat→List Int→Nat→List Int
 |0,out,_=>out
 |n+1,out,i=>match out[i]? with
  |some q=>kD b n ((b q.toNat).foldl bz out) (i+1)
  |none=>out
def cD(b:Nat→List Int)(r:Int):List Int:=kD b 5 [r] 0
def ew(o:Nat→List Bool)(r id:Int):Bool:=bh r&&(decide (0≤id)&&(decide (id<(o r.toNat).length)&&((o r.toNat)[id.toNat]?).getD false))
def di(d:Dp)(r id:Int):Bool:=bh r&&(cD d.dX r).any fun q=>ew d.own q id
theorem Ea{b:Nat→List Int}:∀{n:Nat} {out:List Int} {i:Nat},out[i]? =none→kD b n out i=out
 |0,out,i,h=>rfl
 |n+1,out,i,h=>by unfold kD;rw[h]
theorem Ay{out:List Int}{x:Int}:out.length≤(bz out x).length:=by unfold bz;split<;>simp
theorem uV:∀{l out:List Int},out.length≤(l.foldl bz out).length
 |[],out=>Nat.le_refl _
 |x::l,out=>Nat.le_trans Ay (uV (l:=l) (out:=bz out x))
structure fN(b:Nat→List Int)(r:Int)(i:Nat)(out:List Int):Prop where
 nd:out.Nodup
 all:∀x∈out,0≤x∧x<(4:Nat)
 le:i≤out.length
 eq:cD b r=kD b (5-i) out i
theorem fN.len{b:Nat→List Int}{r:Int}{i:Nat}{out:List Int}(h:fN b r i out):out.length≤4:=gG 4 h.nd h.all
theorem fN.start{b:Nat→List Int}{r:Int}(h:bh r=true):fN b r 0 [r]:=by
 obtain⟨k,hk,rfl⟩:=b5.1 h;refine⟨by simp,fun x hx=>?_,by simp,rfl⟩;rw[List.mem_singleton]at hx;subst hx;omega
theorem fN.next{b:Nat→List Int}(hb:gM b){r:Int}{i:Nat}{out:List Int}(h:fN b r i out)(hi:i<out.length):fN b r (i+1) ((b out[i].toNat).foldl bz out):=by
 have hx:=h.all _ (List.getElem_mem hi);have hl:=h.len;obtain⟨a,c⟩:=ki (l:=b out[i].toNat) h.nd h.all (hb out[i].toNat (by omega)).2;have hle:out.length≤((b out[i].toNat).foldl bz out).length:=uV;refine⟨a,c,by omega,?_⟩;rw[h.eq];conv=>lhs;rw[show 5-i=(5-(i+1))+1 by omega]
 conv=>lhs;unfold kD
 rw[List.getElem?_eq_getElem hi]
theorem fN.stop{b:Nat→List Int}{r:Int}{i:Nat}{out:List Int}(h:fN b r i out)(hi:¬i<out.length):cD b r=out:=by
 rw[h.eq,Ea (List.getElem?_eq_none (by omega))]
end Go.Nest
end
section
namespace Go.Nest
open Go Go.AM Go.Proofs
open Go.Proofs.YtpechfcbnoggfaaGreatDoor (tab tabOk)
set_option maxRecDepth 4000
theorem lK(r:Int):ae Tryz.prog 105 [.c (.int .i64 r)] [] (Rt (.c (.bool (bh r))) []):=by
 refine ao (n:=9) (n0:=0) tabOk Tryz.call105 Tryz.func105 ?_;intro hb;(conv=>whnf);refine dec (fun h1=>?_) (fun h1=>?_)
 ·(conv=>whnf);exact aC (by unfold bh;rw[decide_eq_true (show 0≤r from h1)];rfl)
 ·(conv=>whnf);exact aC (by unfold bh;rw[decide_eq_false (show¬0≤r from h1)];rfl)
set_option maxHeartbeats 4000000 in
theorem tq(L:List Ob)(o:Nat→List Bool)(b:Nat→List Int)(hb4:gM b)(r:Int)(hr:bh r=true):ae Tryz.prog 107 [.c (.bp [.bp [.bs 6 Ob an L],.bs 1 Bool af (o 0),.bs 1 Bool af (o 1),.bs 1 Bool af (o 2),.bs 1 Bool af (o 3),.bs 1 Int encI (b 0),.bs 1 Int encI (b 1),.bs 1 Int encI (b 2),.bs 1 Int encI (b 3)]),.c (.int .i64 r)] [] (Rt (.c (.rw 0)) [.row 1 Int encI (cD b r)]):=by
 refine ao (n:=41) (n0:=0) tabOk Tryz.call107 Tryz.func107 ?_;intro hb;(conv=>whnf);refine⟨[r],rfl,?_⟩;(conv=>whnf);refine lp (Nat×List Int) (fun p=>⟨[(0,.c (.bp [.bp [.bs 6 Ob an L],.bs 1 Bool af (o 0),.bs 1 Bool af (o 1),.bs 1 Bool af (o 2),.bs 1 Bool af (o 3),.bs 1 Int encI (b 0),.bs 1 Int encI (b 1),.bs 1 Int encI (b 2),.bs 1 Int encI (b 3)])),(5,.c (.rw 0)),(6,.c (.int .i64 p.1))],[.row 1 Int encI p.2]⟩) (fun p=>fN b r p.1 p.2∧True) (fun p=>4-p.1) (0,[r]) [] [.same 0] ?_ ?_ (fun⟨i,out⟩ hx=>?_)
 ·exact⟨fN.start hr,trivial⟩
 ·repeat' first|exact trivial|exact rfl|refine And.intro ?_ ?_
 obtain⟨hx,-⟩:=hx;have hx:fN b r i out:=hx;have hol:=hx.len;(conv=>whnf);refine dec (fun h4=>?_) (fun h4=>?_)
 ·have hlt:i<out.length:=by have h4:(i:Int)<out.length:=h4;omega
  obtain⟨k,hk4,hqe⟩:∃k:Nat,k<4∧out[i]=k:=by
   have:=hx.all _ (List.getElem_mem hlt);exact⟨out[i].toNat,by omega,by omega⟩
  rcases four hk4 with rfl|rfl|rfl|rfl
  ·have hn:=hx.next hb4 hlt;rw[hqe]at hn;have hl4:=(hb4 0 (by decide)).1;(conv=>whnf);refine⟨false,.grow,(.l [0,1,2,3,4,5,6,7,8,9,10]),by kernel_rfl,.inl ?_⟩;(conv=>whnf);refine⟨i,⟨rfl,hlt⟩,?_⟩;(conv=>whnf);refine⟨0,by rw[List.getElem?_eq_getElem hlt,hqe];rfl,?_⟩;(conv=>whnf);refine⟨0,⟨rfl,by decide⟩,?_⟩;(conv=>whnf);refine lp Nat (fun j=>⟨[(0,.c (.bp [.bp [.bs 6 Ob an L],.bs 1 Bool af (o 0),.bs 1 Bool af (o 1),.bs 1 Bool af (o 2),.bs 1 Bool af (o 3),.bs 1 Int encI (b 0),.bs 1 Int encI (b 1),.bs 1 Int encI (b 2),.bs 1 Int encI (b 3)])),(5,.c (.rw 0)),(6,.c (.int .i64 i)),(25,.c (.bs 1 Int encI (b 0))),(26,.c (.int .i64 (b 0).length)),(27,.c (.int .i64 j))],[.row 1 Int encI (((b 0).take j).foldl bz out)]⟩) (fun j=>j≤(b 0).length∧True) (fun j=>(b 0).length-j) 0 [] [.same 0] ?_ ?_ (fun j hj=>?_)
   ·simp
   ·repeat' first|exact trivial|exact rfl|refine And.intro ?_ ?_
   (conv=>whnf);refine dec (fun h5=>?_) (fun h5=>?_)
   ·have hjt:j<(b 0).length:=by omega
    have hs2:=nt (out:=out) hjt;obtain⟨v1,v2⟩:=ki (l:=(b 0).take j) hx.nd hx.all (fun x hx=>(hb4 0 (by decide)).2 x (List.mem_of_mem_take hx));have v3:=gG 4 v1 v2;have hjy:(b 0)[j]? =some (b 0)[j]:=List.getElem?_eq_getElem hjt;generalize ((b 0).take j).foldl bz out=o2 at hs2 v1 v2 v3⊢;generalize (b 0)[j]=y at hjy hs2;(conv=>whnf);refine⟨j,y,rfl,hjy,?_⟩;(conv=>whnf);refine cl [] [] (fl o2 y) ?_;(conv=>whnf);refine aO (fun h6=>?_) (fun h6=>?_)
    ·have h6:y∉o2:=fun h=>by rw[eI.2 h]at h6;cases h6
     rw[show bz o2 y=o2++[y]from if_neg h6]at hs2;(conv=>whnf);refine⟨[y],rfl,?_⟩;(conv=>whnf);refine⟨_,_,rfl,rfl,(by simp only[List.length_append,List.length_cons,List.length_nil];omega),?_⟩;repeat'((conv=>whnf);refine I6 ?_)
     refine ag (j+1) [] [.same 2] ⟨hjt,trivial⟩ (by simp only[];omega) ?_;rw[hs2];repeat' first|exact trivial|exact rfl|refine And.intro ?_ ?_
    ·have h6:y∈o2:=eI.1 (by simpa using h6);rw[show bz o2 y=o2 from if_pos h6]at hs2;repeat'((conv=>whnf);refine I6 ?_)
     refine ag (j+1) [] [.same 0] ⟨hjt,trivial⟩ (by simp only[];omega) ?_;rw[hs2];repeat' first|exact trivial|exact rfl|refine And.intro ?_ ?_
   ·obtain rfl:j=(b 0).length:=by omega
    rw[List.take_length];repeat'((conv=>whnf);refine I6 ?_)
    refine ag (i+1,(b 0).foldl bz out) [] [.same 0] ⟨hn,trivial⟩ (by have:=hn.le;have:=hn.len;simp only[];omega) ?_;repeat' first|exact trivial|exact rfl|refine And.intro ?_ ?_
  ·have hn:=hx.next hb4 hlt;rw[hqe]at hn;have hl4:=(hb4 1 (by decide)).1;(conv=>whnf);refine⟨false,.grow,(.l [0,1,2,3,4,5,6,7,8,9,10]),by kernel_rfl,.inl ?_⟩;(conv=>whnf);refine⟨i,⟨rfl,hlt⟩,?_⟩;(conv=>whnf);refine⟨1,by rw[List.getElem?_eq_getElem hlt,hqe];rfl,?_⟩;(conv=>whnf);refine⟨1,⟨rfl,by decide⟩,?_⟩;(conv=>whnf);refine lp Nat (fun j=>⟨[(0,.c (.bp [.bp [.bs 6 Ob an L],.bs 1 Bool af (o 0),.bs 1 Bool af (o 1),.bs 1 Bool af (o 2),.bs 1 Bool af (o 3),.bs 1 Int encI (b 0),.bs 1 Int encI (b 1),.bs 1 Int encI (b 2),.bs 1 Int encI (b 3)])),(5,.c (.rw 0)),(6,.c (.int .i64 i)),(25,.c (.bs 1 Int encI (b 1))),(26,.c (.int .i64 (b 1).length)),(27,.c (.int .i64 j))],[.row 1 Int encI (((b 1).take j).foldl bz out)]⟩) (fun j=>j≤(b 1).length∧True) (fun j=>(b 1).length-j) 0 [] [.same 0] ?_ ?_ (fun j hj=>?_)
   ·simp
   ·repeat' first|exact trivial|exact rfl|refine And.intro ?_ ?_
   (conv=>whnf);refine dec (fun h5=>?_) (fun h5=>?_)
   ·have hjt:j<(b 1).length:=by omega
    have hs2:=nt (out:=out) hjt;obtain⟨v1,v2⟩:=ki (l:=(b 1).take j) hx.nd hx.all (fun x hx=>(hb4 1 (by decide)).2 x (List.mem_of_mem_take hx));have v3:=gG 4 v1 v2;have hjy:(b 1)[j]? =some (b 1)[j]:=List.getElem?_eq_getElem hjt;generalize ((b 1).take j).foldl bz out=o2 at hs2 v1 v2 v3⊢;generalize (b 1)[j]=y at hjy hs2;(conv=>whnf);refine⟨j,y,rfl,hjy,?_⟩;(conv=>whnf);refine cl [] [] (fl o2 y) ?_;(conv=>whnf);refine aO (fun h6=>?_) (fun h6=>?_)
    ·have h6:y∉o2:=fun h=>by rw[eI.2 h]at h6;cases h6
     rw[show bz o2 y=o2++[y]from if_neg h6]at hs2;(conv=>whnf);refine⟨[y],rfl,?_⟩;(conv=>whnf);refine⟨_,_,rfl,rfl,(by simp only[List.length_append,List.length_cons,List.length_nil];omega),?_⟩;repeat'((conv=>whnf);refine I6 ?_)
     refine ag (j+1) [] [.same 2] ⟨hjt,trivial⟩ (by simp only[];omega) ?_;rw[hs2];repeat' first|exact trivial|exact rfl|refine And.intro ?_ ?_
    ·have h6:y∈o2:=eI.1 (by simpa using h6);rw[show bz o2 y=o2 from if_pos h6]at hs2;repeat'((conv=>whnf);refine I6 ?_)
     refine ag (j+1) [] [.same 0] ⟨hjt,trivial⟩ (by simp only[];omega) ?_;rw[hs2];repeat' first|exact trivial|exact rfl|refine And.intro ?_ ?_
   ·obtain rfl:j=(b 1).length:=by omega
    rw[List.take_length];repeat'((conv=>whnf);refine I6 ?_)
    refine ag (i+1,(b 1).foldl bz out) [] [.same 0] ⟨hn,trivial⟩ (by have:=hn.le;have:=hn.len;simp only[];omega) ?_;repeat' first|exact trivial|exact rfl|refine And.intro ?_ ?_
  ·have hn:=hx.next hb4 hlt;rw[hqe]at hn;have hl4:=(hb4 2 (by decide)).1;(conv=>whnf);refine⟨false,.grow,(.l [0,1,2,3,4,5,6,7,8,9,10]),by kernel_rfl,.inl ?_⟩;(conv=>whnf);refine⟨i,⟨rfl,hlt⟩,?_⟩;(conv=>whnf);refine⟨2,by rw[List.getElem?_eq_getElem hlt,hqe];rfl,?_⟩;(conv=>whnf);refine⟨2,⟨rfl,by decide⟩,?_⟩;(conv=>whnf);refine lp Nat (fun j=>⟨[(0,.c (.bp [.bp [.bs 6 Ob an L],.bs 1 Bool af (o 0),.bs 1 Bool af (o 1),.bs 1 Bool af (o 2),.bs 1 Bool af (o 3),.bs 1 Int encI (b 0),.bs 1 Int encI (b 1),.bs 1 Int encI (b 2),.bs 1 Int encI (b 3)])),(5,.c (.rw 0)),(6,.c (.int .i64 i)),(25,.c (.bs 1 Int encI (b 2))),(26,.c (.int .i64 (b 2).length)),(27,.c (.int .i64 j))],[.row 1 Int encI (((b 2).take j).foldl bz out)]⟩) (fun j=>j≤(b 2).length∧True) (fun j=>(b 2).length-j) 0 [] [.same 0] ?_ ?_ (fun j hj=>?_)
   ·simp
   ·repeat' first|exact trivial|exact rfl|refine And.intro ?_ ?_
   (conv=>whnf);refine dec (fun h5=>?_) (fun h5=>?_)
   ·have hjt:j<(b 2).length:=by omega
    have hs2:=nt (out:=out) hjt;obtain⟨v1,v2⟩:=ki (l:=(b 2).take j) hx.nd hx.all (fun x hx=>(hb4 2 (by decide)).2 x (List.mem_of_mem_take hx));have v3:=gG 4 v1 v2;have hjy:(b 2)[j]? =some (b 2)[j]:=List.getElem?_eq_getElem hjt;generalize ((b 2).take j).foldl bz out=o2 at hs2 v1 v2 v3⊢;generalize (b 2)[j]=y at hjy hs2;(conv=>whnf);refine⟨j,y,rfl,hjy,?_⟩;(conv=>whnf);refine cl [] [] (fl o2 y) ?_;(conv=>whnf);refine aO (fun h6=>?_) (fun h6=>?_)
    ·have h6:y∉o2:=fun h=>by rw[eI.2 h]at h6;cases h6
     rw[show bz o2 y=o2++[y]from if_neg h6]at hs2;(conv=>whnf);refine⟨[y],rfl,?_⟩;(conv=>whnf);refine⟨_,_,rfl,rfl,(by simp only[List.length_append,List.length_cons,List.length_nil];omega),?_⟩;repeat'((conv=>whnf);refine I6 ?_)
     refine ag (j+1) [] [.same 2] ⟨hjt,trivial⟩ (by simp only[];omega) ?_;rw[hs2];repeat' first|exact trivial|exact rfl|refine And.intro ?_ ?_
    ·have h6:y∈o2:=eI.1 (by simpa using h6);rw[show bz o2 y=o2 from if_pos h6]at hs2;repeat'((conv=>whnf);refine I6 ?_)
     refine ag (j+1) [] [.same 0] ⟨hjt,trivial⟩ (by simp only[];omega) ?_;rw[hs2];repeat' first|exact trivial|exact rfl|refine And.intro ?_ ?_
   ·obtain rfl:j=(b 2).length:=by omega
    rw[List.take_length];repeat'((conv=>whnf);refine I6 ?_)
    refine ag (i+1,(b 2).foldl bz out) [] [.same 0] ⟨hn,trivial⟩ (by have:=hn.le;have:=hn.len;simp only[];omega) ?_;repeat' first|exact trivial|exact rfl|refine And.intro ?_ ?_
  ·have hn:=hx.next hb4 hlt;rw[hqe]at hn;have hl4:=(hb4 3 (by decide)).1;(conv=>whnf);refine⟨false,.grow,(.l [0,1,2,3,4,5,6,7,8,9,10]),by kernel_rfl,.inl ?_⟩;(conv=>whnf);refine⟨i,⟨rfl,hlt⟩,?_⟩;(conv=>whnf);refine⟨3,by rw[List.getElem?_eq_getElem hlt,hqe];rfl,?_⟩;(conv=>whnf);refine⟨3,⟨rfl,by decide⟩,?_⟩;(conv=>whnf);refine lp Nat (fun j=>⟨[(0,.c (.bp [.bp [.bs 6 Ob an L],.bs 1 Bool af (o 0),.bs 1 Bool af (o 1),.bs 1 Bool af (o 2),.bs 1 Bool af (o 3),.bs 1 Int encI (b 0),.bs 1 Int encI (b 1),.bs 1 Int encI (b 2),.bs 1 Int encI (b 3)])),(5,.c (.rw 0)),(6,.c (.int .i64 i)),(25,.c (.bs 1 Int encI (b 3))),(26,.c (.int .i64 (b 3).length)),(27,.c (.int .i64 j))],[.row 1 Int encI (((b 3).take j).foldl bz out)]⟩) (fun j=>j≤(b 3).length∧True) (fun j=>(b 3).length-j) 0 [] [.same 0] ?_ ?_ (fun j hj=>?_)
   ·simp
   ·repeat' first|exact trivial|exact rfl|refine And.intro ?_ ?_
   (conv=>whnf);refine dec (fun h5=>?_) (fun h5=>?_)
   ·have hjt:j<(b 3).length:=by omega
    have hs2:=nt (out:=out) hjt;obtain⟨v1,v2⟩:=ki (l:=(b 3).take j) hx.nd hx.all (fun x hx=>(hb4 3 (by decide)).2 x (List.mem_of_mem_take hx));have v3:=gG 4 v1 v2;have hjy:(b 3)[j]? =some (b 3)[j]:=List.getElem?_eq_getElem hjt;generalize ((b 3).take j).foldl bz out=o2 at hs2 v1 v2 v3⊢;generalize (b 3)[j]=y at hjy hs2;(conv=>whnf);refine⟨j,y,rfl,hjy,?_⟩;(conv=>whnf);refine cl [] [] (fl o2 y) ?_;(conv=>whnf);refine aO (fun h6=>?_) (fun h6=>?_)
    ·have h6:y∉o2:=fun h=>by rw[eI.2 h]at h6;cases h6
     rw[show bz o2 y=o2++[y]from if_neg h6]at hs2;(conv=>whnf);refine⟨[y],rfl,?_⟩;(conv=>whnf);refine⟨_,_,rfl,rfl,(by simp only[List.length_append,List.length_cons,List.length_nil];omega),?_⟩;repeat'((conv=>whnf);refine I6 ?_)
     refine ag (j+1) [] [.same 2] ⟨hjt,trivial⟩ (by simp only[];omega) ?_;rw[hs2];repeat' first|exact trivial|exact rfl|refine And.intro ?_ ?_
    ·have h6:y∈o2:=eI.1 (by simpa using h6);rw[show bz o2 y=o2 from if_pos h6]at hs2;repeat'((conv=>whnf);refine I6 ?_)
     refine ag (j+1) [] [.same 0] ⟨hjt,trivial⟩ (by simp only[];omega) ?_;rw[hs2];repeat' first|exact trivial|exact rfl|refine And.intro ?_ ?_
   ·obtain rfl:j=(b 3).length:=by omega
    rw[List.take_length];repeat'((conv=>whnf);refine I6 ?_)
    refine ag (i+1,(b 3).foldl bz out) [] [.same 0] ⟨hn,trivial⟩ (by have:=hn.le;have:=hn.len;simp only[];omega) ?_;repeat' first|exact trivial|exact rfl|refine And.intro ?_ ?_
 ·have e:=hx.stop (by have h4:¬(i:Int)<out.length:=h4;omega);rw[e];(conv=>whnf);exact rx [] [.same 0]
end Go.Nest
end
section
namespace Go.Nest
open Go Go.AM Go.Proofs
open Go.Proofs.YtpechfcbnoggfaaGreatDoor (tab tabOk)
set_option maxRecDepth 4000
theorem ow{o:Nat→List Bool}{k:Nat}{id:Int}(hk:k<4):ew o k id=(decide (0≤id)&&(decide (id<(o k).length)&&((o k)[id.toNat]?).getD false)):=by
 unfold ew;rw[b5.2 ⟨k,hk,rfl⟩,Bool.true_and,Int.toNat_natCast]
set_option maxHeartbeats 4000000 in
theorem yJ(L:List Ob)(o:Nat→List Bool)(b:Nat→List Int)(r id:Int):ae Tryz.prog 72 [.c (.bp [.bp [.bs 6 Ob an L],.bs 1 Bool af (o 0),.bs 1 Bool af (o 1),.bs 1 Bool af (o 2),.bs 1 Bool af (o 3),.bs 1 Int encI (b 0),.bs 1 Int encI (b 1),.bs 1 Int encI (b 2),.bs 1 Int encI (b 3)]),.c (.int .i64 r),.c (.int .i64 id)] [] (Rt (.c (.bool (ew o r id))) []):=by
 have p1:=lK r;refine ao (n:=35) (n0:=0) tabOk Tryz.call72 Tryz.func72 ?_;intro hb;cases hr:bh r with
 |false=>
  rw[hr]at p1;(conv=>whnf);refine cl [] [] (p1) ?_;(conv=>whnf);exact aC (by unfold ew;rw[hr];rfl)
 |true=>
  rw[hr]at p1;obtain⟨k,hk,rfl⟩:=b5.1 hr;(conv=>whnf);refine cl [] [] (p1) ?_;rcases four hk with rfl|rfl|rfl|rfl
  ·have e:=ow (o:=o) (k:=0) (id:=id) (by decide);(conv=>whnf);refine dec (fun h1=>?_) (fun h1=>?_)
   ·(conv=>whnf);refine⟨0,⟨rfl,by decide⟩,?_⟩;(conv=>whnf);refine dec (fun h2=>?_) (fun h2=>?_)
    ·have hlt:id.toNat<(o 0).length:=by have h1:(0:Int)≤id:=h1;have h2:id<((o 0).length:Int):=h2;omega
     have hge:(o 0)[id.toNat]? =some (o 0)[id.toNat]:=List.getElem?_eq_getElem hlt;rw[decide_eq_true h1,decide_eq_true h2,hge]at e;(conv=>whnf);refine⟨0,⟨rfl,by decide⟩,?_⟩;(conv=>whnf);refine⟨id.toNat,_,by have h1:(0:Int)≤id:=h1;omega,hge,?_⟩;(conv=>whnf);exact aC e.symm
    ·rw[decide_eq_false h2]at e;(conv=>whnf);exact aC (by rw[e];simp)
   ·rw[decide_eq_false h1]at e;(conv=>whnf);exact aC (by rw[e];rfl)
  ·have e:=ow (o:=o) (k:=1) (id:=id) (by decide);(conv=>whnf);refine dec (fun h1=>?_) (fun h1=>?_)
   ·(conv=>whnf);refine⟨1,⟨rfl,by decide⟩,?_⟩;(conv=>whnf);refine dec (fun h2=>?_) (fun h2=>?_)
    ·have hlt:id.toNat<(o 1).length:=by have h1:(0:Int)≤id:=h1;have h2:id<((o 1).length:Int):=h2;omega
     have hge:(o 1)[id.toNat]? =some (o 1)[id.toNat]:=List.getElem?_eq_getElem hlt;rw[decide_eq_true h1,decide_eq_true h2,hge]at e;(conv=>whnf);refine⟨1,⟨rfl,by decide⟩,?_⟩;(conv=>whnf);refine⟨id.toNat,_,by have h1:(0:Int)≤id:=h1;omega,hge,?_⟩;(conv=>whnf);exact aC e.symm
    ·rw[decide_eq_false h2]at e;(conv=>whnf);exact aC (by rw[e];simp)
   ·rw[decide_eq_false h1]at e;(conv=>whnf);exact aC (by rw[e];rfl)
  ·have e:=ow (o:=o) (k:=2) (id:=id) (by decide);(conv=>whnf);refine dec (fun h1=>?_) (fun h1=>?_)
   ·(conv=>whnf);refine⟨2,⟨rfl,by decide⟩,?_⟩;(conv=>whnf);refine dec (fun h2=>?_) (fun h2=>?_)
    ·have hlt:id.toNat<(o 2).length:=by have h1:(0:Int)≤id:=h1;have h2:id<((o 2).length:Int):=h2;omega
     have hge:(o 2)[id.toNat]? =some (o 2)[id.toNat]:=List.getElem?_eq_getElem hlt;rw[decide_eq_true h1,decide_eq_true h2,hge]at e;(conv=>whnf);refine⟨2,⟨rfl,by decide⟩,?_⟩;(conv=>whnf);refine⟨id.toNat,_,by have h1:(0:Int)≤id:=h1;omega,hge,?_⟩;(conv=>whnf);exact aC e.symm
    ·rw[decide_eq_false h2]at e;(conv=>whnf);exact aC (by rw[e];simp)
   ·rw[decide_eq_false h1]at e;(conv=>whnf);exact aC (by rw[e];rfl)
  ·have e:=ow (o:=o) (k:=3) (id:=id) (by decide);(conv=>whnf);refine dec (fun h1=>?_) (fun h1=>?_)
   ·(conv=>whnf);refine⟨3,⟨rfl,by decide⟩,?_⟩;(conv=>whnf);refine dec (fun h2=>?_) (fun h2=>?_)
    ·have hlt:id.toNat<(o 3).length:=by have h1:(0:Int)≤id:=h1;have h2:id<((o 3).length:Int):=h2;omega
     have hge:(o 3)[id.toNat]? =some (o 3)[id.toNat]:=List.getElem?_eq_getElem hlt;rw[decide_eq_true h1,decide_eq_true h2,hge]at e;(conv=>whnf);refine⟨3,⟨rfl,by decide⟩,?_⟩;(conv=>whnf);refine⟨id.toNat,_,by have h1:(0:Int)≤id:=h1;omega,hge,?_⟩;(conv=>whnf);exact aC e.symm
    ·rw[decide_eq_false h2]at e;(conv=>whnf);exact aC (by rw[e];simp)
   ·rw[decide_eq_false h1]at e;(conv=>whnf);exact aC (by rw[e];rfl)
theorem C3(L:List Ob)(o:Nat→List Bool)(b:Nat→List Int)(id q:Int):ae Tryz.prog 108 [.c (.int .i64 q),.c (.bp [.bp [.bp [.bs 6 Ob an L],.bs 1 Bool af (o 0),.bs 1 Bool af (o 1),.bs 1 Bool af (o 2),.bs 1 Bool af (o 3),.bs 1 Int encI (b 0),.bs 1 Int encI (b 1),.bs 1 Int encI (b 2),.bs 1 Int encI (b 3)]]),.c (.bp [.int .i64 id])] [] (Rt (.c (.bool (ew o q id))) []):=by
 refine ao (n:=9) (n0:=0) tabOk Tryz.call108 Tryz.func108 ?_;intro hb;(conv=>whnf);refine cl [] [] (yJ L o b q id) ?_;(conv=>whnf);exact aC rfl
theorem Dr(F:Nat)(L:List Ob)(o:Nat→List Bool)(b:Nat→List Int)(k:Int)(p:Int→Bool)(hF:∀x,ae Tryz.prog F [.c (.int .i64 x),.c (.bp [.bp [.bp [.bs 6 Ob an L],.bs 1 Bool af (o 0),.bs 1 Bool af (o 1),.bs 1 Bool af (o 2),.bs 1 Bool af (o 3),.bs 1 Int encI (b 0),.bs 1 Int encI (b 1),.bs 1 Int encI (b 2),.bs 1 Int encI (b 3)]]),.c (.bp [.int .i64 k])] [] (Rt (.c (.bool (p x))) []))(l:List Int):ae Tryz.prog 178 [.c (.bs 1 Int encI l),.c (.fn F [.bp [.bp [.bp [.bs 6 Ob an L],.bs 1 Bool af (o 0),.bs 1 Bool af (o 1),.bs 1 Bool af (o 2),.bs 1 Bool af (o 3),.bs 1 Int encI (b 0),.bs 1 Int encI (b 1),.bs 1 Int encI (b 2),.bs 1 Int encI (b 3)]],.bp [.int .i64 k]])] [] (Rt (.c (.int .i64 (bH p l))) []):=by
 refine ao (n:=19) (n0:=0) tabOk Tryz.call178 Tryz.func178 ?_;intro hb;have hb:l.length≤9223372036854775807:=hb.1.1;(conv=>whnf);refine lp Nat (fun i=>⟨[(0,.c (.bs 1 Int encI l)),(1,.c (.fn F [.bp [.bp [.bp [.bs 6 Ob an L],.bs 1 Bool af (o 0),.bs 1 Bool af (o 1),.bs 1 Bool af (o 2),.bs 1 Bool af (o 3),.bs 1 Int encI (b 0),.bs 1 Int encI (b 1),.bs 1 Int encI (b 2),.bs 1 Int encI (b 3)]],.bp [.int .i64 k]])),(7,.c (.int .i64 l.length)),(8,.c (.int .i64 i))],[]⟩) (fun i=>i≤l.length∧(l.take i).any p=false) (fun i=>l.length-i) 0 [] [] ?_ ?_ (fun i hi=>?_)
 ·simp
 ·repeat' first|exact trivial|exact rfl|refine And.intro ?_ ?_
 (conv=>whnf);refine dec (fun h4=>?_) (fun h4=>?_)
 ·have hlt:i<l.length:=by omega
  repeat'((conv=>whnf);first|refine⟨_,_,rfl,List.getElem?_eq_getElem (by omega),?_⟩|fail)
  (conv=>whnf);refine cl [] [] (hF l[i]) ?_;(conv=>whnf);refine aO (fun h=>?_) (fun h=>?_)
  ·(conv=>whnf);exact aI (jj hlt hi.2 h)
  ·repeat'((conv=>whnf);refine I6 ?_)
   refine ag (i+1) [] [] ⟨hlt,gq hlt hi.2 h⟩ (by simp only[];omega) ?_;repeat' first|exact trivial|exact rfl|refine And.intro ?_ ?_
 ·repeat'((conv=>whnf);first|refine aI ?_|fail)
  have:=hi.2;rw[List.take_of_length_le (by omega)]at this;exact jM this
theorem wh(F:Nat)(L:List Ob)(o:Nat→List Bool)(b:Nat→List Int)(k:Int)(p:Int→Bool)(hF:∀x,ae Tryz.prog F [.c (.int .i64 x),.c (.bp [.bp [.bp [.bs 6 Ob an L],.bs 1 Bool af (o 0),.bs 1 Bool af (o 1),.bs 1 Bool af (o 2),.bs 1 Bool af (o 3),.bs 1 Int encI (b 0),.bs 1 Int encI (b 1),.bs 1 Int encI (b 2),.bs 1 Int encI (b 3)]]),.c (.bp [.int .i64 k])] [] (Rt (.c (.bool (p x))) []))(l:List Int):ae Tryz.prog 106 [.c (.bs 1 Int encI l),.c (.fn F [.bp [.bp [.bp [.bs 6 Ob an L],.bs 1 Bool af (o 0),.bs 1 Bool af (o 1),.bs 1 Bool af (o 2),.bs 1 Bool af (o 3),.bs 1 Int encI (b 0),.bs 1 Int encI (b 1),.bs 1 Int encI (b 2),.bs 1 Int encI (b 3)]],.bp [.int .i64 k]])] [] (Rt (.c (.bool (l.any p))) []):=by
 refine ao (n:=9) (n0:=0) tabOk Tryz.call106 Tryz.func106 ?_;intro hb;(conv=>whnf);refine cl [] [] (Dr F L o b k p hF l) ?_;(conv=>whnf);exact aC (mo ..)
theorem nU(L:List Ob)(o:Nat→List Bool)(b:Nat→List Int)(hb4:gM b)(r id:Int):ae Tryz.prog 41 [.c (.bp [.bp [.bs 6 Ob an L],.bs 1 Bool af (o 0),.bs 1 Bool af (o 1),.bs 1 Bool af (o 2),.bs 1 Bool af (o 3),.bs 1 Int encI (b 0),.bs 1 Int encI (b 1),.bs 1 Int encI (b 2),.bs 1 Int encI (b 3)]),.c (.int .i64 r),.c (.int .i64 id)] [] (Rt (.c (.bool (di ⟨o,b⟩ r id))) []):=by
 have p1:=lK r;refine ao (n:=16) (n0:=0) tabOk Tryz.call41 Tryz.func41 ?_;intro hb;cases hr:bh r with
 |false=>
  rw[hr]at p1;(conv=>whnf);refine cl [] [] (p1) ?_;(conv=>whnf);exact aC (by unfold di;rw[hr];rfl)
 |true=>
  rw[hr]at p1;(conv=>whnf);refine cl [] [] (p1) ?_;(conv=>whnf);refine cl [] [] (tq L o b hb4 r hr) ?_;(conv=>whnf);refine cl [] [] (wh 108 L o b id (fun q=>ew o q id) (C3 L o b id) (cD b r)) ?_;(conv=>whnf);exact aC (by unfold di;rw[hr];rfl)
end Go.Nest
end
section
namespace Go.Nest
open Go Go.AM Go.Proofs
open Go.Proofs.YtpechfcbnoggfaaGreatDoor (tab tabOk)
set_option maxRecDepth 4000
def eN(l:List Bool)(n:Nat):List Bool:=l++List.replicate (n-l.length) false
def cF(o:Nat→List Bool)(b:Nat→List Int)(r:Nat)(x:List Bool)(id:Int):List Bool:=if di ⟨aq o r x,b⟩ r id=true then x else x.set id.toNat true
noncomputable def kh(L:List Ob)(o:Nat→List Bool)(b:Nat→List Int)(r:Nat)(ids:List Int):List Bool:=(ba L ids).foldl (cF o b r) (eN (o r) L.length)
def cI(L:List Ob)(r:Int)(ids:List Int):Int:=if bh r=false then 1 else if(ids.any fun id=>decide (kindOf L id=0))=true then 9 else 0
noncomputable def dn(L:List Ob)(o:Nat→List Bool)(b:Nat→List Int)(r:Int)(ids:List Int):Nat→List Bool:=if cI L r ids≠0 then o else aq o r.toNat (kh L o b r.toNat ids)
theorem lE{o:Nat→List Bool}{b:Nat→List Int}{r:Nat}:∀{l:List Int} {x:List Bool},(l.foldl (cF o b r) x).length=x.length
 |[],x=>rfl
 |id::l,x=>by
  rw[List.foldl_cons,lE];unfold cF;split
  ·rfl
  ·rw[List.length_set]
theorem qd{o:Nat→List Bool}{b:Nat→List Int}{r:Nat}{l:List Int}{x:List Bool}{i:Nat}(h:i<l.length):(l.take (i+1)).foldl (cF o b r) x=cF o b r ((l.take i).foldl (cF o b r) x) l[i]:=by
 rw[List.take_succ_eq_append_getElem h,List.foldl_append];rfl
theorem Fb{l:List Bool}{n:Nat}:n≤(eN l n).length:=by unfold eN;rw[List.length_append,List.length_replicate];omega
theorem qz{l:List Bool}{n:Nat}(h:l.length<n):eN (l++[false]) n=eN l n:=by
 unfold eN;rw[List.length_append,List.length_singleton,List.append_assoc];congr 1
 rw[show n-l.length=(n-(l.length+1))+1 by omega,List.replicate_succ];rfl
theorem qy{l:List Bool}{n:Nat}(h:n≤l.length):eN l n=l:=by
 unfold eN;rw[show n-l.length=0 by omega];simp
theorem oC{L:List Ob}{ids:List Int}{id:Int}(h:id∈ba L ids):0≤id∧id.toNat<L.length:=by
 unfold ba at h;obtain⟨k,hk,rfl⟩:=List.mem_map.1 h;have:=(List.mem_filter.1 hk).1;rw[List.mem_range]at this;omega
set_option maxHeartbeats 8000000 in
theorem ru(L:List Ob)(hL:aj L)(o:Nat→List Bool)(b:Nat→List Int)(hb4:gM b)(ho:∀k,k<4→(o k).length≤1000000)(r:Int)(ids:List Int)(hi:ids.length≤1000000):ae Tryz.prog 204 [.c (.ptr 0 0),.c (.int .i64 r),.c (.bs 1 Int encI ids)] [.box [.ptr 1 0,.rw 3,.rw 4,.rw 5,.rw 6,.rw 7,.rw 8,.rw 9,.rw 10],.box [.rw 2],.row 6 Ob an L,.row 1 Bool af (o 0),.row 1 Bool af (o 1),.row 1 Bool af (o 2),.row 1 Bool af (o 3),.row 1 Int encI (b 0),.row 1 Int encI (b 1),.row 1 Int encI (b 2),.row 1 Int encI (b 3)] (Rt (.c (.int .i64 (cI L r ids))) [.box [.ptr 1 0,.rw 11,.rw 12,.rw 13,.rw 14,.rw 7,.rw 8,.rw 9,.rw 10],.box [.rw 2],.row 6 Ob an L,.dead,.dead,.dead,.dead,.row 1 Int encI (b 0),.row 1 Int encI (b 1),.row 1 Int encI (b 2),.row 1 Int encI (b 3),.row 1 Bool af ((dn L o b r ids) 0),.row 1 Bool af ((dn L o b r ids) 1),.row 1 Bool af ((dn L o b r ids) 2),.row 1 Bool af ((dn L o b r ids) 3)]):=by
 have p1:=lK r;have hlen:=hL.len;refine ao (n:=85) (n0:=11) tabOk Tryz.call204 Tryz.func204 ?_;intro hb;cases hr:bh r with
 |false=>
  rw[hr]at p1;have e:cI L r ids=1:=by unfold cI;rw[hr];rfl
  rw[show dn L o b r ids=o by unfold dn;rw[e];rfl,e];(conv=>whnf);refine cl [] [] (p1) ?_;(conv=>whnf);exact rx [] [.same 0,.same 1,.same 2,.same 3,.same 4,.same 5,.same 6,.same 7,.same 8,.same 9,.same 10,.same 3,.same 4,.same 5,.same 6]
 |true=>
  rw[hr]at p1;have e1:cI L r ids=if(ids.any fun id=>decide (kindOf L id=0))=true then 9 else 0:=by unfold cI;rw[hr];rfl
  (conv=>whnf);refine cl [] [] (p1) ?_;(conv=>whnf);refine lp Nat (fun i=>⟨[(0,.c (.ptr 0 0)),(1,.c (.int .i64 r)),(2,.c (.bs 1 Int encI ids)),(16,.c (.bs 1 Int encI ids)),(17,.c (.int .i64 ids.length)),(18,.c (.int .i64 i))],[.box [.ptr 1 0,.rw 3,.rw 4,.rw 5,.rw 6,.rw 7,.rw 8,.rw 9,.rw 10],.box [.rw 2],.row 6 Ob an L,.row 1 Bool af (o 0),.row 1 Bool af (o 1),.row 1 Bool af (o 2),.row 1 Bool af (o 3),.row 1 Int encI (b 0),.row 1 Int encI (b 1),.row 1 Int encI (b 2),.row 1 Int encI (b 3)]⟩) (fun i=>i≤ids.length∧(ids.take i).any (fun id=>decide (kindOf L id=0))=false) (fun i=>ids.length-i) 0 [] [.same 0,.same 1,.same 2,.same 3,.same 4,.same 5,.same 6,.same 7,.same 8,.same 9,.same 10] ?_ ?_ (fun i hii=>?_)
  ·simp
  ·repeat' first|exact trivial|exact rfl|refine And.intro ?_ ?_
  obtain⟨hii,hno⟩:=hii;(conv=>whnf);refine dec (fun h4=>?_) (fun h4=>?_)
  ·have hlt:i<ids.length:=by have h4:(i:Int)<ids.length:=h4;omega
   have hiy:ids[i]? =some ids[i]:=List.getElem?_eq_getElem hlt;have ha:=fun h=>nv (l:=ids) (p:=fun id=>decide (kindOf L id=0)) hlt h;have ht:=fun h=>gq (p:=fun id=>decide (kindOf L id=0)) hlt hno h;generalize ids[i]=x at hiy ha ht;(conv=>whnf);refine⟨i,x,rfl,hiy,?_⟩;(conv=>whnf);refine cl [] [] (fJ L hL x) ?_;(conv=>whnf);refine av (fun h5=>?_) (fun h5=>?_)
   ·have h5:¬kindOf L x≠0:=h5;have e:cI L r ids=9:=by rw[e1,ha (decide_eq_true (by omega))];rfl
    rw[show dn L o b r ids=o by unfold dn;rw[e];rfl,e];(conv=>whnf);exact rx [] [.same 0,.same 1,.same 2,.same 3,.same 4,.same 5,.same 6,.same 7,.same 8,.same 9,.same 10,.same 3,.same 4,.same 5,.same 6]
   ·have h5:kindOf L x≠0:=h5;repeat'((conv=>whnf);refine I6 ?_)
    refine ag (i+1) [] [.same 0,.same 1,.same 2,.same 3,.same 4,.same 5,.same 6,.same 7,.same 8,.same 9,.same 10] ⟨hlt,ht (decide_eq_false (by omega))⟩ (by simp only[];omega) ?_;repeat' first|exact trivial|exact rfl|refine And.intro ?_ ?_
  ·have h4:¬(i:Int)<ids.length:=h4;rw[List.take_of_length_le (by omega)]at hno;have e:cI L r ids=0:=by rw[e1,hno];rfl
   obtain⟨k,hk,rfl⟩:=b5.1 hr;have eo:dn L o b (k:Int) ids=aq o k (kh L o b k ids):=by unfold dn;rw[e];rfl
   rw[e,eo];(conv=>whnf);rcases four hk with rfl|rfl|rfl|rfl
   ·refine lp (List Bool) (fun x=>⟨[(0,.c (.ptr 0 0)),(1,.c (.int .i64 (0:Nat))),(2,.c (.bs 1 Int encI ids))],[.box [.ptr 1 0,.rw 11,.rw 4,.rw 5,.rw 6,.rw 7,.rw 8,.rw 9,.rw 10],.box [.rw 2],.row 6 Ob an L,.dead,.row 1 Bool af (o 1),.row 1 Bool af (o 2),.row 1 Bool af (o 3),.row 1 Int encI (b 0),.row 1 Int encI (b 1),.row 1 Int encI (b 2),.row 1 Int encI (b 3),.row 1 Bool af x]⟩) (fun x=>(x.length≤max (o 0).length L.length∧eN x L.length=eN (o 0) L.length)∧True) (fun x=>L.length-x.length) (o 0) [] [.same 0,.same 1,.same 2,.same 3,.same 4,.same 5,.same 6,.same 7,.same 8,.same 9,.same 10,.same 3] ?_ ?_ (fun x hx=>?_)
    ·exact⟨⟨by omega,rfl⟩,trivial⟩
    ·repeat' first|exact trivial|exact rfl|refine And.intro ?_ ?_
    obtain⟨⟨hxl,hxp⟩,-⟩:=hx;(conv=>whnf);refine⟨false,.grow,(.l [0,1,2,3,4,5,6,7,8,9,10,11,12]),by kernel_rfl,.inl ?_⟩;(conv=>whnf);refine⟨0,⟨rfl,by decide⟩,?_⟩;(conv=>whnf);refine cl [] [] (mH L) ?_;(conv=>whnf);refine dec (fun h5=>?_) (fun h5=>?_)
    ·have h5:(x.length:Int)<L.length:=h5;(conv=>whnf);refine⟨false,.grow,(.l [0,1,2,3,4,5,6,7,10,11,8,9,12,13]),by kernel_rfl,.inl ?_⟩;(conv=>whnf);refine⟨0,⟨rfl,by decide⟩,?_⟩;(conv=>whnf);refine⟨[false],rfl,?_⟩;(conv=>whnf);refine⟨_,_,rfl,rfl,(by simp only[List.length_append,List.length_cons,List.length_nil];omega),?_⟩;(conv=>whnf);refine⟨0,⟨rfl,by decide⟩,?_⟩;skip;refine ag (x++[false]) [] [.same 0,.same 1,.same 2,.same 3,.same 4,.same 5,.same 6,.same 7,.same 8,.same 9,.same 10,.same 13] ⟨⟨by rw[List.length_append,List.length_singleton];omega,by rw[qz (by omega)];exact hxp⟩,trivial⟩ (by simp only[List.length_append,List.length_singleton];omega) ?_;repeat' first|exact trivial|exact rfl|refine And.intro ?_ ?_
    ·have h5:¬(x.length:Int)<L.length:=h5;rw[qy (by omega)]at hxp;unfold kh;rw[←hxp];have hxn:L.length≤x.length:=by omega
     have hrm:=fun id (h:id∈ba L ids)=>oC h;have hrl:=mQ (l:=L) (ids:=ids);have p3:=mR L hL ids hi;generalize ba L ids=rl at hrm hrl p3⊢;clear hxp hxl;(conv=>whnf);refine cl [] [] (p3) ?_;(conv=>whnf);refine lp Nat (fun i=>⟨[(0,.c (.ptr 0 0)),(1,.c (.int .i64 (0:Nat))),(65,.c (.rw 12)),(66,.c (.int .i64 rl.length)),(67,.c (.int .i64 i))],[.box [.ptr 1 0,.rw 11,.rw 4,.rw 5,.rw 6,.rw 7,.rw 8,.rw 9,.rw 10],.box [.rw 2],.row 6 Ob an L,.dead,.row 1 Bool af (o 1),.row 1 Bool af (o 2),.row 1 Bool af (o 3),.row 1 Int encI (b 0),.row 1 Int encI (b 1),.row 1 Int encI (b 2),.row 1 Int encI (b 3),.row 1 Bool af ((rl.take i).foldl (cF o b 0) x)]++[.row 1 Int encI rl]⟩) (fun i=>i≤rl.length∧True) (fun i=>rl.length-i) 0 [] [.same 0,.same 1,.same 2,.same 3,.same 4,.same 5,.same 6,.same 7,.same 8,.same 9,.same 10,.same 11,.same 12] ?_ ?_ (fun i hii=>?_)
     ·simp
     ·repeat' first|exact trivial|exact rfl|refine And.intro ?_ ?_
     (conv=>whnf);refine dec (fun h6=>?_) (fun h6=>?_)
     ·have hlt:i<rl.length:=by have h6:(i:Int)<rl.length:=h6;omega
      have hiy:rl[i]? =some rl[i]:=List.getElem?_eq_getElem hlt;have hst:=qd (o:=o) (b:=b) (r:=0) (x:=x) hlt;have hml:=lE (o:=o) (b:=b) (r:=0) (x:=x) (l:=rl.take i);have hid:=hrm _ (List.getElem_mem hlt);generalize (rl.take i).foldl (cF o b 0) x=y at hst hml⊢;generalize rl[i]=id at hiy hst hid;have p4:=nU L (aq o 0 y) b hb4 (0:Nat) id;(conv=>whnf);refine⟨i,⟨rfl,hlt⟩,?_⟩;(conv=>whnf);refine⟨id,hiy,?_⟩;(conv=>whnf);refine cl [] [] (p4) ?_;(conv=>whnf);refine aO (fun h7=>?_) (fun h7=>?_)
      ·have h7:di ⟨aq o 0 y,b⟩ (0:Nat) id=false:=by simpa using h7
       rw[show cF o b 0 y id=y.set id.toNat true from if_neg (by rw[h7];decide)]at hst;(conv=>whnf);refine⟨0,⟨rfl,by decide⟩,?_⟩;(conv=>whnf);refine⟨id.toNat,⟨by omega,by omega⟩,?_⟩;(conv=>whnf);refine⟨_,true,List.getElem?_eq_getElem (show id.toNat<y.length by omega),⟨Nat.le_refl 1,rfl⟩,?_⟩;repeat'((conv=>whnf);refine I6 ?_)
       refine ag (i+1) [] [.same 0,.same 1,.same 2,.same 3,.same 4,.same 5,.same 6,.same 7,.same 8,.same 9,.same 10,.same 11,.same 12] ⟨hlt,trivial⟩ (by simp only[];omega) ?_;rw[hst];repeat' first|exact trivial|exact rfl|refine And.intro ?_ ?_
      ·have h7:di ⟨aq o 0 y,b⟩ (0:Nat) id=true:=by simpa using h7
       rw[show cF o b 0 y id=y from if_pos h7]at hst;repeat'((conv=>whnf);refine I6 ?_)
       refine ag (i+1) [] [.same 0,.same 1,.same 2,.same 3,.same 4,.same 5,.same 6,.same 7,.same 8,.same 9,.same 10,.same 11,.same 12] ⟨hlt,trivial⟩ (by simp only[];omega) ?_;rw[hst];repeat' first|exact trivial|exact rfl|refine And.intro ?_ ?_
     ·obtain rfl:i=rl.length:=by have h6:¬(i:Int)<rl.length:=h6;omega
      rw[List.take_length];(conv=>whnf);exact rx [] [.same 0,.same 1,.same 2,.same 3,.same 4,.same 5,.same 6,.same 7,.same 8,.same 9,.same 10,.same 11,.same 4,.same 5,.same 6]
   ·refine lp (List Bool) (fun x=>⟨[(0,.c (.ptr 0 0)),(1,.c (.int .i64 (1:Nat))),(2,.c (.bs 1 Int encI ids))],[.box [.ptr 1 0,.rw 3,.rw 11,.rw 5,.rw 6,.rw 7,.rw 8,.rw 9,.rw 10],.box [.rw 2],.row 6 Ob an L,.row 1 Bool af (o 0),.dead,.row 1 Bool af (o 2),.row 1 Bool af (o 3),.row 1 Int encI (b 0),.row 1 Int encI (b 1),.row 1 Int encI (b 2),.row 1 Int encI (b 3),.row 1 Bool af x]⟩) (fun x=>(x.length≤max (o 1).length L.length∧eN x L.length=eN (o 1) L.length)∧True) (fun x=>L.length-x.length) (o 1) [] [.same 0,.same 1,.same 2,.same 3,.same 4,.same 5,.same 6,.same 7,.same 8,.same 9,.same 10,.same 4] ?_ ?_ (fun x hx=>?_)
    ·exact⟨⟨by omega,rfl⟩,trivial⟩
    ·repeat' first|exact trivial|exact rfl|refine And.intro ?_ ?_
    obtain⟨⟨hxl,hxp⟩,-⟩:=hx;(conv=>whnf);refine⟨false,.grow,(.l [0,1,2,3,4,5,6,7,8,9,10,11,12]),by kernel_rfl,.inl ?_⟩;(conv=>whnf);refine⟨1,⟨rfl,by decide⟩,?_⟩;(conv=>whnf);refine cl [] [] (mH L) ?_;(conv=>whnf);refine dec (fun h5=>?_) (fun h5=>?_)
    ·have h5:(x.length:Int)<L.length:=h5;(conv=>whnf);refine⟨false,.grow,(.l [0,1,2,3,4,5,6,7,10,11,8,9,12,13]),by kernel_rfl,.inl ?_⟩;(conv=>whnf);refine⟨1,⟨rfl,by decide⟩,?_⟩;(conv=>whnf);refine⟨[false],rfl,?_⟩;(conv=>whnf);refine⟨_,_,rfl,rfl,(by simp only[List.length_append,List.length_cons,List.length_nil];omega),?_⟩;(conv=>whnf);refine⟨1,⟨rfl,by decide⟩,?_⟩;skip;refine ag (x++[false]) [] [.same 0,.same 1,.same 2,.same 3,.same 4,.same 5,.same 6,.same 7,.same 8,.same 9,.same 10,.same 13] ⟨⟨by rw[List.length_append,List.length_singleton];omega,by rw[qz (by omega)];exact hxp⟩,trivial⟩ (by simp only[List.length_append,List.length_singleton];omega) ?_;repeat' first|exact trivial|exact rfl|refine And.intro ?_ ?_
    ·have h5:¬(x.length:Int)<L.length:=h5;rw[qy (by omega)]at hxp;unfold kh;rw[←hxp];have hxn:L.length≤x.length:=by omega
     have hrm:=fun id (h:id∈ba L ids)=>oC h;have hrl:=mQ (l:=L) (ids:=ids);have p3:=mR L hL ids hi;generalize ba L ids=rl at hrm hrl p3⊢;clear hxp hxl;(conv=>whnf);refine cl [] [] (p3) ?_;(conv=>whnf);refine lp Nat (fun i=>⟨[(0,.c (.ptr 0 0)),(1,.c (.int .i64 (1:Nat))),(65,.c (.rw 12)),(66,.c (.int .i64 rl.length)),(67,.c (.int .i64 i))],[.box [.ptr 1 0,.rw 3,.rw 11,.rw 5,.rw 6,.rw 7,.rw 8,.rw 9,.rw 10],.box [.rw 2],.row 6 Ob an L,.row 1 Bool af (o 0),.dead,.row 1 Bool af (o 2),.row 1 Bool af (o 3),.row 1 Int encI (b 0),.row 1 Int encI (b 1),.row 1 Int encI (b 2),.row 1 Int encI (b 3),.row 1 Bool af ((rl.take i).foldl (cF o b 1) x)]++[.row 1 Int encI rl]⟩) (fun i=>i≤rl.length∧True) (fun i=>rl.length-i) 0 [] [.same 0,.same 1,.same 2,.same 3,.same 4,.same 5,.same 6,.same 7,.same 8,.same 9,.same 10,.same 11,.same 12] ?_ ?_ (fun i hii=>?_)
     ·simp
     ·repeat' first|exact trivial|exact rfl|refine And.intro ?_ ?_
     (conv=>whnf);refine dec (fun h6=>?_) (fun h6=>?_)
     ·have hlt:i<rl.length:=by have h6:(i:Int)<rl.length:=h6;omega
      have hiy:rl[i]? =some rl[i]:=List.getElem?_eq_getElem hlt;have hst:=qd (o:=o) (b:=b) (r:=1) (x:=x) hlt;have hml:=lE (o:=o) (b:=b) (r:=1) (x:=x) (l:=rl.take i);have hid:=hrm _ (List.getElem_mem hlt);generalize (rl.take i).foldl (cF o b 1) x=y at hst hml⊢;generalize rl[i]=id at hiy hst hid;have p4:=nU L (aq o 1 y) b hb4 (1:Nat) id;(conv=>whnf);refine⟨i,⟨rfl,hlt⟩,?_⟩;(conv=>whnf);refine⟨id,hiy,?_⟩;(conv=>whnf);refine cl [] [] (p4) ?_;(conv=>whnf);refine aO (fun h7=>?_) (fun h7=>?_)
      ·have h7:di ⟨aq o 1 y,b⟩ (1:Nat) id=false:=by simpa using h7
       rw[show cF o b 1 y id=y.set id.toNat true from if_neg (by rw[h7];decide)]at hst;(conv=>whnf);refine⟨1,⟨rfl,by decide⟩,?_⟩;(conv=>whnf);refine⟨id.toNat,⟨by omega,by omega⟩,?_⟩;(conv=>whnf);refine⟨_,true,List.getElem?_eq_getElem (show id.toNat<y.length by omega),⟨Nat.le_refl 1,rfl⟩,?_⟩;repeat'((conv=>whnf);refine I6 ?_)
       refine ag (i+1) [] [.same 0,.same 1,.same 2,.same 3,.same 4,.same 5,.same 6,.same 7,.same 8,.same 9,.same 10,.same 11,.same 12] ⟨hlt,trivial⟩ (by simp only[];omega) ?_;rw[hst];repeat' first|exact trivial|exact rfl|refine And.intro ?_ ?_
      ·have h7:di ⟨aq o 1 y,b⟩ (1:Nat) id=true:=by simpa using h7
       rw[show cF o b 1 y id=y from if_pos h7]at hst;repeat'((conv=>whnf);refine I6 ?_)
       refine ag (i+1) [] [.same 0,.same 1,.same 2,.same 3,.same 4,.same 5,.same 6,.same 7,.same 8,.same 9,.same 10,.same 11,.same 12] ⟨hlt,trivial⟩ (by simp only[];omega) ?_;rw[hst];repeat' first|exact trivial|exact rfl|refine And.intro ?_ ?_
     ·obtain rfl:i=rl.length:=by have h6:¬(i:Int)<rl.length:=h6;omega
      rw[List.take_length];(conv=>whnf);exact rx [] [.same 0,.same 1,.same 2,.same 3,.same 4,.same 5,.same 6,.same 7,.same 8,.same 9,.same 10,.same 3,.same 11,.same 5,.same 6]
   ·refine lp (List Bool) (fun x=>⟨[(0,.c (.ptr 0 0)),(1,.c (.int .i64 (2:Nat))),(2,.c (.bs 1 Int encI ids))],[.box [.ptr 1 0,.rw 3,.rw 4,.rw 11,.rw 6,.rw 7,.rw 8,.rw 9,.rw 10],.box [.rw 2],.row 6 Ob an L,.row 1 Bool af (o 0),.row 1 Bool af (o 1),.dead,.row 1 Bool af (o 3),.row 1 Int encI (b 0),.row 1 Int encI (b 1),.row 1 Int encI (b 2),.row 1 Int encI (b 3),.row 1 Bool af x]⟩) (fun x=>(x.length≤max (o 2).length L.length∧eN x L.length=eN (o 2) L.length)∧True) (fun x=>L.length-x.length) (o 2) [] [.same 0,.same 1,.same 2,.same 3,.same 4,.same 5,.same 6,.same 7,.same 8,.same 9,.same 10,.same 5] ?_ ?_ (fun x hx=>?_)
    ·exact⟨⟨by omega,rfl⟩,trivial⟩
    ·repeat' first|exact trivial|exact rfl|refine And.intro ?_ ?_
    obtain⟨⟨hxl,hxp⟩,-⟩:=hx;(conv=>whnf);refine⟨false,.grow,(.l [0,1,2,3,4,5,6,7,8,9,10,11,12]),by kernel_rfl,.inl ?_⟩;(conv=>whnf);refine⟨2,⟨rfl,by decide⟩,?_⟩;(conv=>whnf);refine cl [] [] (mH L) ?_;(conv=>whnf);refine dec (fun h5=>?_) (fun h5=>?_)
    ·have h5:(x.length:Int)<L.length:=h5;(conv=>whnf);refine⟨false,.grow,(.l [0,1,2,3,4,5,6,7,10,11,8,9,12,13]),by kernel_rfl,.inl ?_⟩;(conv=>whnf);refine⟨2,⟨rfl,by decide⟩,?_⟩;(conv=>whnf);refine⟨[false],rfl,?_⟩;(conv=>whnf);refine⟨_,_,rfl,rfl,(by simp only[List.length_append,List.length_cons,List.length_nil];omega),?_⟩;(conv=>whnf);refine⟨2,⟨rfl,by decide⟩,?_⟩;skip;refine ag (x++[false]) [] [.same 0,.same 1,.same 2,.same 3,.same 4,.same 5,.same 6,.same 7,.same 8,.same 9,.same 10,.same 13] ⟨⟨by rw[List.length_append,List.length_singleton];omega,by rw[qz (by omega)];exact hxp⟩,trivial⟩ (by simp only[List.length_append,List.length_singleton];omega) ?_;repeat' first|exact trivial|exact rfl|refine And.intro ?_ ?_
    ·have h5:¬(x.length:Int)<L.length:=h5;rw[qy (by omega)]at hxp;unfold kh;rw[←hxp];have hxn:L.length≤x.length:=by omega
     have hrm:=fun id (h:id∈ba L ids)=>oC h;have hrl:=mQ (l:=L) (ids:=ids);have p3:=mR L hL ids hi;generalize ba L ids=rl at hrm hrl p3⊢;clear hxp hxl;(conv=>whnf);refine cl [] [] (p3) ?_;(conv=>whnf);refine lp Nat (fun i=>⟨[(0,.c (.ptr 0 0)),(1,.c (.int .i64 (2:Nat))),(65,.c (.rw 12)),(66,.c (.int .i64 rl.length)),(67,.c (.int .i64 i))],[.box [.ptr 1 0,.rw 3,.rw 4,.rw 11,.rw 6,.rw 7,.rw 8,.rw 9,.rw 10],.box [.rw 2],.row 6 Ob an L,.row 1 Bool af (o 0),.row 1 Bool af (o 1),.dead,.row 1 Bool af (o 3),.row 1 Int encI (b 0),.row 1 Int encI (b 1),.row 1 Int encI (b 2),.row 1 Int encI (b 3),.row 1 Bool af ((rl.take i).foldl (cF o b 2) x)]++[.row 1 Int encI rl]⟩) (fun i=>i≤rl.length∧True) (fun i=>rl.length-i) 0 [] [.same 0,.same 1,.same 2,.same 3,.same 4,.same 5,.same 6,.same 7,.same 8,.same 9,.same 10,.same 11,.same 12] ?_ ?_ (fun i hii=>?_)
     ·simp
     ·repeat' first|exact trivial|exact rfl|refine And.intro ?_ ?_
     (conv=>whnf);refine dec (fun h6=>?_) (fun h6=>?_)
     ·have hlt:i<rl.length:=by have h6:(i:Int)<rl.length:=h6;omega
      have hiy:rl[i]? =some rl[i]:=List.getElem?_eq_getElem hlt;have hst:=qd (o:=o) (b:=b) (r:=2) (x:=x) hlt;have hml:=lE (o:=o) (b:=b) (r:=2) (x:=x) (l:=rl.take i);have hid:=hrm _ (List.getElem_mem hlt);generalize (rl.take i).foldl (cF o b 2) x=y at hst hml⊢;generalize rl[i]=id at hiy hst hid;have p4:=nU L (aq o 2 y) b hb4 (2:Nat) id;(conv=>whnf);refine⟨i,⟨rfl,hlt⟩,?_⟩;(conv=>whnf);refine⟨id,hiy,?_⟩;(conv=>whnf);refine cl [] [] (p4) ?_;(conv=>whnf);refine aO (fun h7=>?_) (fun h7=>?_)
      ·have h7:di ⟨aq o 2 y,b⟩ (2:Nat) id=false:=by simpa using h7
       rw[show cF o b 2 y id=y.set id.toNat true from if_neg (by rw[h7];decide)]at hst;(conv=>whnf);refine⟨2,⟨rfl,by decide⟩,?_⟩;(conv=>whnf);refine⟨id.toNat,⟨by omega,by omega⟩,?_⟩;(conv=>whnf);refine⟨_,true,List.getElem?_eq_getElem (show id.toNat<y.length by omega),⟨Nat.le_refl 1,rfl⟩,?_⟩;repeat'((conv=>whnf);refine I6 ?_)
       refine ag (i+1) [] [.same 0,.same 1,.same 2,.same 3,.same 4,.same 5,.same 6,.same 7,.same 8,.same 9,.same 10,.same 11,.same 12] ⟨hlt,trivial⟩ (by simp only[];omega) ?_;rw[hst];repeat' first|exact trivial|exact rfl|refine And.intro ?_ ?_
      ·have h7:di ⟨aq o 2 y,b⟩ (2:Nat) id=true:=by simpa using h7
       rw[show cF o b 2 y id=y from if_pos h7]at hst;repeat'((conv=>whnf);refine I6 ?_)
       refine ag (i+1) [] [.same 0,.same 1,.same 2,.same 3,.same 4,.same 5,.same 6,.same 7,.same 8,.same 9,.same 10,.same 11,.same 12] ⟨hlt,trivial⟩ (by simp only[];omega) ?_;rw[hst];repeat' first|exact trivial|exact rfl|refine And.intro ?_ ?_
     ·obtain rfl:i=rl.length:=by have h6:¬(i:Int)<rl.length:=h6;omega
      rw[List.take_length];(conv=>whnf);exact rx [] [.same 0,.same 1,.same 2,.same 3,.same 4,.same 5,.same 6,.same 7,.same 8,.same 9,.same 10,.same 3,.same 4,.same 11,.same 6]
   ·refine lp (List Bool) (fun x=>⟨[(0,.c (.ptr 0 0)),(1,.c (.int .i64 (3:Nat))),(2,.c (.bs 1 Int encI ids))],[.box [.ptr 1 0,.rw 3,.rw 4,.rw 5,.rw 11,.rw 7,.rw 8,.rw 9,.rw 10],.box [.rw 2],.row 6 Ob an L,.row 1 Bool af (o 0),.row 1 Bool af (o 1),.row 1 Bool af (o 2),.dead,.row 1 Int encI (b 0),.row 1 Int encI (b 1),.row 1 Int encI (b 2),.row 1 Int encI (b 3),.row 1 Bool af x]⟩) (fun x=>(x.length≤max (o 3).length L.length∧eN x L.length=eN (o 3) L.length)∧True) (fun x=>L.length-x.length) (o 3) [] [.same 0,.same 1,.same 2,.same 3,.same 4,.same 5,.same 6,.same 7,.same 8,.same 9,.same 10,.same 6] ?_ ?_ (fun x hx=>?_)
    ·exact⟨⟨by omega,rfl⟩,trivial⟩
    ·repeat' first|exact trivial|exact rfl|refine And.intro ?_ ?_
    obtain⟨⟨hxl,hxp⟩,-⟩:=hx;(conv=>whnf);refine⟨false,.grow,(.l [0,1,2,3,4,5,6,7,8,9,10,11,12]),by kernel_rfl,.inl ?_⟩;(conv=>whnf);refine⟨3,⟨rfl,by decide⟩,?_⟩;(conv=>whnf);refine cl [] [] (mH L) ?_;(conv=>whnf);refine dec (fun h5=>?_) (fun h5=>?_)
    ·have h5:(x.length:Int)<L.length:=h5;(conv=>whnf);refine⟨false,.grow,(.l [0,1,2,3,4,5,6,7,10,11,8,9,12,13]),by kernel_rfl,.inl ?_⟩;(conv=>whnf);refine⟨3,⟨rfl,by decide⟩,?_⟩;(conv=>whnf);refine⟨[false],rfl,?_⟩;(conv=>whnf);refine⟨_,_,rfl,rfl,(by simp only[List.length_append,List.length_cons,List.length_nil];omega),?_⟩;(conv=>whnf);refine⟨3,⟨rfl,by decide⟩,?_⟩;skip;refine ag (x++[false]) [] [.same 0,.same 1,.same 2,.same 3,.same 4,.same 5,.same 6,.same 7,.same 8,.same 9,.same 10,.same 13] ⟨⟨by rw[List.length_append,List.length_singleton];omega,by rw[qz (by omega)];exact hxp⟩,trivial⟩ (by simp only[List.length_append,List.length_singleton];omega) ?_;repeat' first|exact trivial|exact rfl|refine And.intro ?_ ?_
    ·have h5:¬(x.length:Int)<L.length:=h5;rw[qy (by omega)]at hxp;unfold kh;rw[←hxp];have hxn:L.length≤x.length:=by omega
     have hrm:=fun id (h:id∈ba L ids)=>oC h;have hrl:=mQ (l:=L) (ids:=ids);have p3:=mR L hL ids hi;generalize ba L ids=rl at hrm hrl p3⊢;clear hxp hxl;(conv=>whnf);refine cl [] [] (p3) ?_;(conv=>whnf);refine lp Nat (fun i=>⟨[(0,.c (.ptr 0 0)),(1,.c (.int .i64 (3:Nat))),(65,.c (.rw 12)),(66,.c (.int .i64 rl.length)),(67,.c (.int .i64 i))],[.box [.ptr 1 0,.rw 3,.rw 4,.rw 5,.rw 11,.rw 7,.rw 8,.rw 9,.rw 10],.box [.rw 2],.row 6 Ob an L,.row 1 Bool af (o 0),.row 1 Bool af (o 1),.row 1 Bool af (o 2),.dead,.row 1 Int encI (b 0),.row 1 Int encI (b 1),.row 1 Int encI (b 2),.row 1 Int encI (b 3),.row 1 Bool af ((rl.take i).foldl (cF o b 3) x)]++[.row 1 Int encI rl]⟩) (fun i=>i≤rl.length∧True) (fun i=>rl.length-i) 0 [] [.same 0,.same 1,.same 2,.same 3,.same 4,.same 5,.same 6,.same 7,.same 8,.same 9,.same 10,.same 11,.same 12] ?_ ?_ (fun i hii=>?_)
     ·simp
     ·repeat' first|exact trivial|exact rfl|refine And.intro ?_ ?_
     (conv=>whnf);refine dec (fun h6=>?_) (fun h6=>?_)
     ·have hlt:i<rl.length:=by have h6:(i:Int)<rl.length:=h6;omega
      have hiy:rl[i]? =some rl[i]:=List.getElem?_eq_getElem hlt;have hst:=qd (o:=o) (b:=b) (r:=3) (x:=x) hlt;have hml:=lE (o:=o) (b:=b) (r:=3) (x:=x) (l:=rl.take i);have hid:=hrm _ (List.getElem_mem hlt);generalize (rl.take i).foldl (cF o b 3) x=y at hst hml⊢;generalize rl[i]=id at hiy hst hid;have p4:=nU L (aq o 3 y) b hb4 (3:Nat) id;(conv=>whnf);refine⟨i,⟨rfl,hlt⟩,?_⟩;(conv=>whnf);refine⟨id,hiy,?_⟩;(conv=>whnf);refine cl [] [] (p4) ?_;(conv=>whnf);refine aO (fun h7=>?_) (fun h7=>?_)
      ·have h7:di ⟨aq o 3 y,b⟩ (3:Nat) id=false:=by simpa using h7
       rw[show cF o b 3 y id=y.set id.toNat true from if_neg (by rw[h7];decide)]at hst;(conv=>whnf);refine⟨3,⟨rfl,by decide⟩,?_⟩;(conv=>whnf);refine⟨id.toNat,⟨by omega,by omega⟩,?_⟩;(conv=>whnf);refine⟨_,true,List.getElem?_eq_getElem (show id.toNat<y.length by omega),⟨Nat.le_refl 1,rfl⟩,?_⟩;repeat'((conv=>whnf);refine I6 ?_)
       refine ag (i+1) [] [.same 0,.same 1,.same 2,.same 3,.same 4,.same 5,.same 6,.same 7,.same 8,.same 9,.same 10,.same 11,.same 12] ⟨hlt,trivial⟩ (by simp only[];omega) ?_;rw[hst];repeat' first|exact trivial|exact rfl|refine And.intro ?_ ?_
      ·have h7:di ⟨aq o 3 y,b⟩ (3:Nat) id=true:=by simpa using h7
       rw[show cF o b 3 y id=y from if_pos h7]at hst;repeat'((conv=>whnf);refine I6 ?_)
       refine ag (i+1) [] [.same 0,.same 1,.same 2,.same 3,.same 4,.same 5,.same 6,.same 7,.same 8,.same 9,.same 10,.same 11,.same 12] ⟨hlt,trivial⟩ (by simp only[];omega) ?_;rw[hst];repeat' first|exact trivial|exact rfl|refine And.intro ?_ ?_
     ·obtain rfl:i=rl.length:=by have h6:¬(i:Int)<rl.length:=h6;omega
      rw[List.take_length];(conv=>whnf);exact rx [] [.same 0,.same 1,.same 2,.same 3,.same 4,.same 5,.same 6,.same 7,.same 8,.same 9,.same 10,.same 3,.same 4,.same 5,.same 11]
end Go.Nest
end
