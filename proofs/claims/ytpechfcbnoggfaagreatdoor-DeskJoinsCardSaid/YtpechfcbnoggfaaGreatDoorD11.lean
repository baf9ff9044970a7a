import Derived.Test.YtpechfcbnoggfaaGreatDoorQ4
import Derived.Test.YtpechfcbnoggfaaGreatDoorV36
import Derived.Test.YtpechfcbnoggfaaGreatDoorP10
import Derived.Test.YtpechfcbnoggfaaGreatDoorW4
import Derived.Test.YtpechfcbnoggfaaGreatDoorAmH
set_option maxHeartbeats 8000000
set_option linter.unusedVariables false
set_option linter.unusedSimpArgs false
open Bool renaming and_eq_true->bn
open Classical renaming propDecidable->c0
open Decidable renaming not_not->a3,byContradiction->cV
open List renaming getElem?_eq_getElem->ac,length_append->ad,replicate->ah,length_singleton->al,length_cons->am,take_succ_eq_append_getElem->ap,take_length->ar,length_nil->a0,mem_singleton->a1,getElem_mem->a2,mem_of_mem_take->a4,prefix_refl->a5,length_eq_one_iff->a6,foldl_cons->bb,mem_filter->be,mem_append->bh,getElem?_replicate->bj,getElem?_set->bk,take_of_length_le->bl,length_replicate->br,length_set->b0,mem_cons_of_mem->b1,foldl_append->b2,append_assoc->b3,mem_map->b4,append_nil->cd,nodup_nil->cf,length_filter_le->ci,filter_append->cp,nodup_append->cq,filter_cons->cr,length_take->cs,length_map->ct,map_append->cv,mem_range->cy,range->c1
open Nat renaming le_refl->a9,lt_of_lt_of_le->bi,lt_succ_iff_lt_or_eq->cb,zero_le->ce,beq->ch,le_trans->co,not_lt_zero->cx
open Option.some renaming inj->c2
section
namespace Go.Nest
open Go Go.AM
theorem eb.first{L:List Ob}{a b:Int}(h:eb L a b):b=a\/∃p∈(aj L a).parents,eb L p b:=by
 cases h with
 |refl=>exact .inl rfl
 |step c d=>exact .inr ⟨_,c,d⟩
theorem FR{L:List Ob}(a:ak L){id:Int}(hi:kindOf L id=3):0<(bf L id).length/\(bf L id)[(bf L id).length-1]? =some id:=by
 have d:id∈bf L id:=(mj a hi).2 (.refl id);obtain⟨i,b,e⟩:=List.mem_iff_getElem.1 d;refine⟨by omega,?_⟩;rw[ac (by omega)];have f:(bf L id)[(bf L id).length-1]<=id:=((mj a hi).1 (a2 (by omega))).le a;by_cases c:i=(bf L id).length-1
 ·subst c;rw[e]
 ·have:=List.pairwise_iff_getElem.1 (sf (L:=L) (id:=id)) i ((bf L id).length-1) b (by omega) (by omega);omega
def bJ(out:List Int)(id:Int):List Int:=if id∈out then out else out++[id]
def cU(im:List (List Int))(k:Int):List Int:=(im[k.toNat]?).getD []
def cQ(im:List (List Int))(ks:List Int):List Int:=ks.foldl (λout k=>(cU im k).foldl bJ out) []
def bS(L:List Ob)(dir:List UInt8)(up:List Int)(o:Ob):List Int×Int×List Ob:=
 if(cY L o.tree dir).2=9 then(up,0,L)else if(cY L o.tree dir).2≠0 then([],(cY L o.tree dir).2,L)else
 if up.length=1/\(aj L (up.headD 0)).tree=(cY L o.tree dir).1 then(up,0,L)else
 ([(aB L (eN (cY L o.tree dir).1 up o.text)).1],(aB L (eN (cY L o.tree dir).1 up o.text)).2.1,(aB L (eN (cY L o.tree dir).1 up o.text)).2.2)
def eF(L:List Ob)(dir:List UInt8)(im:List (List Int))(id:Int):List Int×Int×List Ob:=bS L dir (cQ im (aj L id).parents) (aj L id)
def bH(dir:List UInt8):List Int->List Ob->List (List Int)->Int×List Ob×List (List Int)
 |[],L,a=>(0,L,a)
 |id::r,L,a=>if(eF L dir a id).2.1≠0 then((eF L dir a id).2.1,(eF L dir a id).2.2,a)else bH dir r (eF L dir a id).2.2 (a.set id.toNat (eF L dir a id).1)
def kC(l:List Int):Int×Int:=if l.length=0 then(0,9)else if l.length=1 then(l.headD 0,0)else(0,5)
def bY(L:List Ob)(id:Int)(dir:List UInt8):Int×Int×List Ob:=
 if(b7 L id).2≠0 then(0,(b7 L id).2,L)else
 if(bH dir (b7 L id).1 L (ah L.length [])).1≠0 then(0,(bH dir (b7 L id).1 L (ah L.length [])).1,(bH dir (b7 L id).1 L (ah L.length [])).2.1)else
 ((kC (cU (bH dir (b7 L id).1 L (ah L.length [])).2.2 id)).1,(kC (cU (bH dir (b7 L id).1 L (ah L.length [])).2.2 id)).2,(bH dir (b7 L id).1 L (ah L.length [])).2.1)
theorem ze{L M:List Ob}(e:ak L)(f:L<+:M){a b:Int}(d:kindOf L a=3):eb M a b↔eb L a b:=by
 constructor
 ·intro h;induction h with
  |refl=>exact .refl _
  |step c _ ih=>
   rw[ext_get f (by omega)]at c;exact .step c (ih (xO e d c))
 ·intro h;induction h with
  |refl=>exact .refl _
  |step c _ ih=>
   refine .step ?_ (ih (xO e d c));rw[ext_get f (by omega)];exact c
theorem FQ{L M:List Ob}(d:ak L)(f:ak M)(e:L<+:M){a:Int}(c:kindOf L a=3):b7 M a=b7 L a:=by
 have b:kindOf M a=3:=by rw[dO e (by omega)];exact c
 unfold b7;rw[if_pos c,if_pos b];have:bf M a=bf L a:=oK sf sf λk=>by rw[mj f b,mj d c,ze d e c]
 rw[this]
theorem qC{L:List Ob}(d:ak L){j:Int}(hj:kindOf L j=3):kindOf L (aj L j).tree=2:=by
 obtain⟨a,b⟩:=dC (l:=L) (id:=j) (by omega);have:=(d.obj (aj L j) (by rw[lZ a b];exact a2 _)).2;have c:=fQ (l:=L) (id:=j);unfold fg at this;rw[bn,bn]at this;have:=this.2.2;rw[c,hj]at this;simpa using this
theorem zD{L M:List Ob}(c:ak L)(b:L<+:M):∀{ds:List (List UInt8)} {t:Int},¬kindOf L t=0->gL M t ds=gL L t ds
 |[],t,h=>rfl
 |d::ds,t,h=>by
  unfold gL;rw[dO b h,ext_get b h];split
  ·rfl
  ·rename_i a;have a:=a3.1 a;cases e:(aj L t).entries.find? (isDir d)with
   |none=>rfl
   |some x=>
    have f:=List.mem_of_find?_eq_some e;have q:=(iM c a).2 x f;have g:=q.m1;have i:=q.kind;exact zD c b (by omega)
theorem qm{L M:List Ob}(a:ak L)(b:L<+:M){t:Int}(h:¬kindOf L t=0)(dir:List UInt8):cY M t dir=cY L t dir:=by
 unfold cY;rw[zD a b h]
def j4(L:List Ob)(l:List Int):Prop:=∀x∈l,kindOf L x=3
theorem j4.mono{L M:List Ob}(b:L<+:M){l:List Int}(h:j4 L l):j4 M l:=λx a=>by
 have:=h x a;rw[dO b (by omega)];exact this
theorem yY{x id:Int}{out:List Int}:x∈bJ out id↔x∈out\/x=id:=by
 unfold bJ;split
 ·rename_i h;constructor
  ·exact .inl
  ·rintro(a|rfl)
   ·exact a
   ·exact h
 ·simp
theorem nY{x:Int}:∀{l out:List Int},x∈l.foldl bJ out↔x∈out\/x∈l
 |[],out=>by simp
 |a::l,out=>by
  rw[bb,nY,yY,List.mem_cons,or_assoc]
theorem Fb{x:Int}{im:List (List Int)}:∀{ks out:List Int},x∈ks.foldl (λout k=>(cU im k).foldl bJ out) out↔x∈out\/∃k∈ks,x∈cU im k
 |[],out=>by simp
 |a::l,out=>by
  rw[bb,Fb,nY,or_assoc];simp
theorem Pv{x:Int}{im:List (List Int)}{ks:List Int}:x∈cQ im ks↔∃k∈ks,x∈cU im k:=by
 unfold cQ;rw[Fb];simp
def dA(P:Int->Prop)(im:List (List Int)):Prop:=∀k,∀x∈cU im k,P x
theorem dA.up{P:Int->Prop}{im:List (List Int)}(h:dA P im){ks:List Int}:∀x∈cQ im ks,P x:=λx b=>by
 obtain⟨k,-,a⟩:=Pv.1 b;exact h k x a
theorem dA.put{P:Int->Prop}{im:List (List Int)}(h:dA P im){n:Nat}{v:List Int}(hv:∀x∈v,P x):dA P (im.set n v):=λk x a=>by
 unfold cU at a;rw[bk]at a;split at a
 ·split at a
  ·exact hv x a
  ·cases a
 ·exact h k x a
theorem dA.start{P:Int->Prop}{n:Nat}:dA P (ah n []):=λk x a=>by
 unfold cU at a;rw[bj]at a;split at a<;>cases a
theorem dA.mono{P Q:Int->Prop}{im:List (List Int)}(h:dA P im)(a:∀x,P x->Q x):dA Q im:=λk x b=>a x (h k x b)
theorem nv{L:List Ob}(a:ak L){dir:List UInt8}{up:List Int}{o:Ob}:ak (bS L dir up o).2.2/\L<+:(bS L dir up o).2.2/\((bS L dir up o).2.1≠0->(bS L dir up o).2.2=L):=by
 unfold bS;split
 ·exact⟨a,a5 _,λ_=>rfl⟩
 split
 ·exact⟨a,a5 _,λ_=>rfl⟩
 split
 ·exact⟨a,a5 _,λ_=>rfl⟩
 ·exact⟨jP a _,jQ _,DX⟩
theorem B0{l:List Int}(h:l.length=1):l.headD 0∈l:=by
 obtain⟨x,rfl⟩:=a6.1 h;simp
theorem JZ{L:List Ob}(i:ak L){dir:List UInt8}{up:List Int}{o:Ob}(q:kindOf L o.tree=2)(j:j4 L up){M:List Ob}(n:ak M)(c:(bS L dir up o).2.2<+:M)(hc:(bS L dir up o).2.1≠0->M=(bS L dir up o).2.2):
  bS M dir up o=((bS L dir up o).1,(bS L dir up o).2.1,M):=by
 have b:L<+:M:=(nv i).2.1.trans c;have k:cY M o.tree dir=cY L o.tree dir:=qm i b (by omega) dir;unfold bS at c hc⊢;rw[k];split
 ·rfl
 rename_i l;rw[if_neg l]at c hc;split
 ·rfl
 rename_i m;rw[if_neg m]at c hc;by_cases a:up.length=1/\(aj L (up.headD 0)).tree=(cY L o.tree dir).1
 ·have p:=j _ (B0 a.1);rw[if_pos a,if_pos ⟨a.1,by rw[ext_get b (by omega)];exact a.2⟩]
 ·have g : ¬ (up.length = 1 /\ (aj M (up.headD 0)).tree = (cY L o.tree dir).1) := λf => a ⟨f.1,by
   have p:=j _ (B0 f.1);rw[ext_get b (by omega)]at f;exact f.2⟩
  rw[if_neg a,if_neg g];rw[if_neg a]at c hc;dsimp only at c hc⊢;by_cases d:(aB L (eN (cY L o.tree dir).1 up o.text)).2.1=0
  ·have:=(DV (λh=>by cases h) d n c).1;rw[this,d]
  ·have e:=DX d;have:=hc d;rw[e]at this;subst this;rw[e]
theorem wS{L:List Ob}(f:ak L){dir:List UInt8}{up:List Int}{o:Ob}(b:j4 L up)(hc:(bS L dir up o).2.1=0):j4 (bS L dir up o).2.2 (bS L dir up o).1:=by
 unfold bS at hc⊢;split
 ·exact b
 rename_i d;rw[if_neg d]at hc;split
 ·rename_i a;rw[if_pos a]at hc;exact absurd hc a
 rename_i a;rw[if_neg a]at hc;split
 ·exact b
 rename_i e;rw[if_neg e]at hc;intro x c;rw[a1]at c;subst c;have:=(nO hc).2;dsimp only;rw[<-fQ,this];rfl
def kN(im im2:List (List Int)):Prop:=∀n:Nat,(im[n]?).getD []=(im2[n]?).getD []
theorem kN.at{im im2:List (List Int)}(h:kN im im2)(k:Int):cU im k=cU im2 k:=h k.toNat
theorem kN.up{im im2:List (List Int)}(h:kN im im2)(ks:List Int):cQ im ks=cQ im2 ks:=by
 unfold cQ;have:(λout k=>(cU im k).foldl bJ out)=(λ(out:List Int) k=>(cU im2 k).foldl bJ out):=by funext out k;rw[h.at]
 rw[this]
theorem kN.put{im im2:List (List Int)}(h:kN im im2){n:Nat}(h1:n<im.length)(h2:n<im2.length)(v:List Int):kN (im.set n v) (im2.set n v):=λk=>by
 rw[bk,bk];by_cases e:n=k
 ·rw[if_pos e,if_pos e,if_pos h1,if_pos h2]
 ·rw[if_neg e,if_neg e];exact h k
theorem B7{L:List Ob}(b:ak L){dir:List UInt8}{im:List (List Int)}{id:Int}(hk:kindOf L id=3)(hi:dA (λx=>kindOf L x=3) im){M:List Ob}(d:ak M)(c:(eF L dir im id).2.2<+:M)
  (hc:(eF L dir im id).2.1≠0->M=(eF L dir im id).2.2){im2:List (List Int)}(he:kN im im2):eF M dir im2 id=((eF L dir im id).1,(eF L dir im id).2.1,M):=by
 have a:L<+:M:=(nv b).2.1.trans c;unfold eF at c hc⊢;rw[ext_get a (by omega),<-he.up];exact JZ b (qC b hk) hi.up d c hc
theorem rL{dir:List UInt8}:∀{l:List Int} {L:List Ob} {im:List (List Int)},ak L->ak (bH dir l L im).2.1/\L<+:(bH dir l L im).2.1
 |[],L,im,h=>⟨h,a5 _⟩
 |id::r,L,im,h=>by
  obtain⟨a,b,-⟩:=nv h (dir:=dir) (up:=cQ im (aj L id).parents) (o:=aj L id);unfold bH;split
  ·exact⟨a,b⟩
  ·obtain⟨c,d⟩:=rL (l:=r) (im:=im.set id.toNat (eF L dir im id).1) a;exact⟨c,b.trans d⟩
theorem EH{dir:List UInt8}:∀{l:List Int} {L:List Ob} {im:List (List Int)},ak L->j4 L l->dA (λx=>kindOf L x=3) im->(∀x∈l,x.toNat<im.length)->
  ∀{M:List Ob} {im2:List (List Int)},ak M->(bH dir l L im).2.1<+:M->((bH dir l L im).1≠0->M=(bH dir l L im).2.1)->kN im im2->(∀x∈l,x.toNat<im2.length)->
  (bH dir l M im2).1=(bH dir l L im).1/\(bH dir l M im2).2.1=M/\((bH dir l L im).1=0->kN (bH dir l L im).2.2 (bH dir l M im2).2.2)
 |[],L,im,g,_,_,_,M,im2,i,a,c,d,_=>⟨rfl,rfl,λ_=>d⟩
 |id::r,L,im,g,k,j,q,M,im2,i,a,c,d,f=>by
  obtain⟨n,p,t⟩:=nv g (dir:=dir) (up:=cQ im (aj L id).parents) (o:=aj L id);unfold bH at a c⊢;by_cases b:(eF L dir im id).2.1≠0
  ·rw[if_pos b]at a c⊢;have e:=B7 g (k id (by simp)) j i a (λ_=>c b) d;rw[e];dsimp only;rw[if_pos b];exact⟨rfl,rfl,λh=>absurd h b⟩
  ·rw[if_neg b]at a c⊢;have m:=(rL (dir:=dir) (l:=r) (im:=im.set id.toNat (eF L dir im id).1) n).2;have e:=B7 g (k id (by simp)) j i (m.trans a) (λh=>absurd h b) d;rw[e];dsimp only;rw[if_neg b];have s:=wS g (dir:=dir) (up:=cQ im (aj L id).parents) (o:=aj L id) j.up (a3.1 b);refine EH n (λx a=>(k.mono p) x (by simp[a])) (dA.put (j.mono λx a=>by rw[dO p (by omega)];exact a) s) (λx a=>by rw[b0];exact q x (by simp[a])) i a c (d.put (q id (by simp)) (f id (by simp)) _) (λx a=>by rw[b0];exact f x (by simp[a]))
def Good(L:List Ob)(line:Int->Prop)(dir:List UInt8)(x:Int):Prop:=kindOf L x=3/\∀y,eb L x y->∃j,line j/\kindOf L j=3/\cY L (aj L j).tree dir=((aj L y).tree,0)
theorem Good.mono{L M:List Ob}(e:ak L)(d:L<+:M){line:Int->Prop}{dir:List UInt8}{x:Int}(h:Good L line dir x):Good M line dir x:=by
 obtain⟨g,i⟩:=h;refine⟨by rw[dO d (by omega)];exact g,λy f=>?_⟩;have f:=(ze e d g).1 f;have k:=f.kind e g;obtain⟨j,a,b,c⟩:=i y f;have l:=qC e b;refine⟨j,a,by rw[dO d (by omega)];exact b,?_⟩;rw[ext_get d (by omega),ext_get d (by omega),qm e d (by omega),c]
theorem JX{L:List Ob}(d:ak L){line:Int->Prop}{dir:List UInt8}{up:List Int}{id:Int}(hid:line id)(hk:kindOf L id=3)(e:∀x∈up,Good L line dir x)(hc:(bS L dir up (aj L id)).2.1=0):
  ∀x∈(bS L dir up (aj L id)).1,Good (bS L dir up (aj L id)).2.2 line dir x:=by
 have m:=qC d hk;unfold bS at hc⊢;split
 ·exact e
 rename_i h;rw[if_neg h]at hc;split
 ·rename_i b;rw[if_pos b]at hc;exact absurd hc b
 rename_i b;rw[if_neg b]at hc;have b:=a3.1 b;split
 ·exact e
 rename_i i;rw[if_neg i]at hc;intro x f;rw[a1]at f;subst f;have c:=(nO hc).2;have a:=jQ (L:=L) (eN (cY L (aj L id).tree dir).1 up (aj L id).text);dsimp only;refine⟨by rw[<-fQ,c];rfl,λy j=>?_⟩;rcases j.first with rfl|⟨p,g,l⟩
 ·refine⟨id,hid,by rw[dO a (by omega)];exact hk,?_⟩;rw[c,ext_get a (k:=id) (by omega),qm d a (by omega)];exact Prod.ext rfl b
 ·rw[c]at g;exact((e p g).mono d a).2 y l
theorem EK{dir:List UInt8}{line:Int->Prop}:∀{l:List Int} {L:List Ob} {im:List (List Int)},ak L->j4 L l->(∀x∈l,line x)->dA (Good L line dir) im->(bH dir l L im).1=0->dA (Good (bH dir l L im).2.1 line dir) (bH dir l L im).2.2
 |[],L,im,d,_,_,c,_=>c
 |id::r,L,im,d,f,g,c,b=>by
  obtain⟨i,e,j⟩:=nv d (dir:=dir) (up:=cQ im (aj L id).parents) (o:=aj L id);unfold bH at b⊢;split at b
  ·exact absurd b ‹_›
  rename_i h;rw[if_neg h];refine EK i (λx a=>(f.mono e) x (by simp[a])) (λx a=>g x (by simp[a])) (dA.put (c.mono λx a=>a.mono d e) ?_) b;exact JX d (g id (by simp)) (f id (by simp)) c.up (a3.1 h)
theorem J0{L:List Ob}{dir:List UInt8}{up:List Int}{o:Ob}{t:Int}(b:cY L o.tree dir=(t,0))(hc:(bS L dir up o).2.1=0):∃x,(bS L dir up o).1=[x]/\(aj (bS L dir up o).2.2 x).tree=t:=by
 unfold bS at hc⊢;rw[b]at hc⊢;rw[if_neg (by simp),if_neg (by simp)]at hc⊢;split
 ·rename_i a;obtain⟨x,rfl⟩:=a6.1 a.1;exact⟨x,rfl,a.2⟩
 ·rename_i a;rw[if_neg a]at hc;refine⟨_,rfl,?_⟩;dsimp only;rw[(nO hc).2];rfl
theorem EL{dir:List UInt8}:∀{l:List Int} {L:List Ob} {im:List (List Int)} (hne:l≠[]),ak L->j4 L l->dA (λx=>kindOf L x=3) im->(∀x∈l,x.toNat<im.length)->(bH dir l L im).1=0->
  ∀t,cY L (aj L (l.getLast hne)).tree dir=(t,0)->∃x,cU (bH dir l L im).2.2 (l.getLast hne)=[x]/\(aj (bH dir l L im).2.1 x).tree=t
 |[id],L,im,hne,c,i,h,k,a,t,g=>by
  unfold bH at a⊢;split at a
  ·exact absurd a ‹_›
  rename_i e;rw[if_neg e];obtain⟨x,q,s⟩:=J0 (up:=cQ im (aj L id).parents) g (a3.1 e);refine⟨x,?_,s⟩;unfold bH cU;rw[List.getLast_singleton,bk,if_pos rfl,if_pos (k id (by simp))];exact q
 |id::b::r,L,im,hne,c,i,h,k,a,t,g=>by
  obtain⟨m,f,u⟩:=nv c (dir:=dir) (up:=cQ im (aj L id).parents) (o:=aj L id);unfold bH at a⊢;split at a
  ·exact absurd a ‹_›
  rename_i e;rw[if_neg e];rw[List.getLast_cons (by simp)]at g⊢;have p:=wS c (dir:=dir) (up:=cQ im (aj L id).parents) (o:=aj L id) h.up (a3.1 e);have j:=i ((b::r).getLast (by simp)) (b1 _ (List.getLast_mem _));have n:=qC c j;refine EL (l:=b::r) (by simp) m (λx d=>(i.mono f) x (b1 _ d)) (dA.put (h.mono λx d=>by rw[dO f (by omega)];exact d) p) (λx d=>by rw[b0];exact k x (b1 _ d)) a t ?_;rw[ext_get f (by omega),qm c f (by omega)];exact g
theorem zd{L:List Ob}(d:ak L){id:Int}(hi:kindOf L id=3):∃h:bf L id≠[],(bf L id).getLast h=id:=by
 obtain⟨b,c⟩:=FR d hi;have a:bf L id≠[]:=λe=>by rw[e]at b;cases b
 refine⟨a,?_⟩;rw[List.getLast_eq_getElem];rw[ac (by omega)]at c;exact c2 c
theorem EM{L:List Ob}(a:ak L){id:Int}{dir:List UInt8}{x c:Int}{M:List Ob}(e:bY L id dir=(x,c,M)):
  ak M/\L<+:M/\(c≠0->x=0)/\bY M id dir=(x,c,M)/\
  (c=0->kindOf M id=3/\kindOf M x=3/\(∀t,cY M (aj M id).tree dir=(t,0)->(aj M x).tree=t)/\∀y∈(b7 M x).1,∃j∈(b7 M id).1,cY M (aj M j).tree dir=((aj M y).tree,0)):=by
 unfold bY at e;by_cases f:kindOf L id=3
 ·have p:b7 L id=(bf L id,0):=if_pos f;rw[p,if_neg (by simp)]at e;have g:j4 L (bf L id):=λy b=>((mj a f).1 b).kind a f
  have k:∀y∈bf L id,y.toNat<(ah L.length ([]:List Int)).length:=λy b=>by
   rw[br];have:=g y b;exact(dC (l:=L) (id:=y) (by omega)).2
  obtain⟨q,m⟩:=rL (dir:=dir) (l:=bf L id) (im:=ah L.length []) a
  have ag:=EH (dir:=dir) a g dA.start k (M:=(bH dir (bf L id) L (ah L.length [])).2.1) (im2:=ah (bH dir (bf L id) L (ah L.length [])).2.1.length []) q (a5 _) (λ_=>rfl)
   (λn=>by
    rw[bj,bj];split <;> split <;> rfl) (λy b=>by
    have v:=k y b;rw[br]at v⊢;exact bi v m.length_le)
  have r:=EK (dir:=dir) (line:=λj=>j∈bf L id) (l:=bf L id) a g (λy b=>b) (im:=ah L.length []) dA.start;have o:=EL (dir:=dir) (l:=bf L id) (im:=ah L.length []) (zd a f).choose a g dA.start k;rw[(zd a f).choose_spec]at o;have w:b7 (bH dir (bf L id) L (ah L.length [])).2.1 id=(bf L id,0):=by rw[FQ a q m f,p]
  generalize Y:bH dir (bf L id) L (ah L.length [])=G at*;obtain⟨H,K,E⟩:=G;dsimp only at q m ag r o w e
  have F:M=K:=by
   split at e
   ·exact(congrArg (·.2.2) e).symm
   ·exact(congrArg (·.2.2) e).symm
  subst F;obtain⟨N,O,P⟩:=ag;have D:kindOf M id=3:=by rw[dO m (by omega)];exact f
  refine⟨q,m,λz=>?_,?_,λz=>?_⟩
  ·split at e
   ·exact(congrArg (·.1) e).symm
   ·unfold kC at e;split at e
    ·exact(congrArg (·.1) e).symm
    split at e
    ·exact absurd (congrArg (·.2.1) e).symm z
    ·exact(congrArg (·.1) e).symm
  ·unfold bY;rw[w,if_neg (by simp)];dsimp only;rw[N,O];by_cases d:H≠0
   ·rw[if_pos d]at e⊢;exact e
   ·rw[if_neg d]at e⊢;rw[<-(P (a3.1 d)).at];exact e
  ·have d:H=0:=by
    refine cV λd=>?_;rw[if_pos d]at e;exact d ((congrArg (·.2.1) e).trans z)
   rw[if_neg (by simpa using d)]at e;have r:=r d
   have i:cU E id=[x]:=by
    unfold kC at e;split at e
    ·have:=congrArg (·.2.1) e;dsimp only at this;omega
    split at e
    ·rename_i v;obtain⟨u,S⟩:=a6.1 v;rw[S]at e⊢;rw[show u=x from congrArg (·.1) e]
    ·have:=congrArg (·.2.1) e;dsimp only at this;omega
   have s:=r id x (by rw[i];simp);refine⟨D,s.1,λt I=>?_,λy b=>?_⟩
   ·have R:=qC a f;rw[ext_get m (by omega),qm a m (by omega)]at I;obtain⟨u,J,W⟩:=o d t I;rw[i]at J;obtain rfl:x=u:=by simpa using J
    exact W
   ·have Q:b7 M x=(bf M x,0):=if_pos s.1;rw[Q]at b;obtain⟨j,T,Z,U⟩:=s.2 y ((mj q s.1).1 b);exact⟨j,by rw[w];exact T,U⟩
 ·have p:b7 L id=([],9):=if_neg f;rw[p,if_pos (by simp)]at e
  obtain⟨rfl,rfl,rfl⟩:x=0/\c=9/\M=L:=by
   refine⟨(congrArg (·.1) e).symm,(congrArg (·.2.1) e).symm,(congrArg (·.2.2) e).symm⟩
  refine⟨a,a5 _,λ_=>rfl,?_,λh=>by cases h⟩;unfold bY;rw[p,if_pos (by simp)]
end Go.Nest
end
section
namespace Go.Nest
open Go Go.AM Go.Proofs
open Go.Proofs.YtpechfcbnoggfaaGreatDoor (tab tabOk)
set_option maxRecDepth 4000
theorem mR{n:Nat}:∀{l out:List Int},out.Nodup->(∀x∈out,0<=x/\x<n)->(∀x∈l,0<=x/\x<n)->(l.foldl bJ out).Nodup/\∀x∈l.foldl bJ out,0<=x/\x<n
 |[],out,c,d,_=>⟨c,d⟩
 |a::l,out,c,d,f=>by
  rw[bb];refine mR ?_ (λx b=>?_) (λx b=>f x (by simp[b]))
  ·unfold bJ;split
   ·exact c
   ·rename_i h;rw[cq];exact⟨c,by simp,λx b y g=>by rw[a1]at g;subst g;exactλe=>h (e▸b)⟩
  ·rcases yY.1 b with b|rfl
   ·exact d x b
   ·exact f x (by simp)
theorem Fc{n:Nat}{im:List (List Int)}(hi:∀k,∀x∈cU im k,0<=x/\x<n):∀{ks out:List Int},out.Nodup->(∀x∈out,0<=x/\x<n)->(ks.foldl (λout k=>(cU im k).foldl bJ out) out).Nodup/\∀x∈ks.foldl (λout k=>(cU im k).foldl bJ out) out,0<=x/\x<n
 |[],out,c,d=>⟨c,d⟩
 |k::ks,out,c,d=>by
  rw[bb];obtain⟨a,b⟩:=mR c d (hi k);exact Fc hi a b
structure Fit(im:List (List Int)):Prop where
 len:∀k,(cU im k).length<=600
 all:∀k,∀x∈cU im k,0<=x/\x<(600:Nat)
theorem uH{im:List (List Int)}(hi:Fit im)(ks:List Int):(cQ im ks).Nodup/\(cQ im ks).length<=600/\∀x∈cQ im ks,0<=x/\x<(600:Nat):=by
 obtain⟨a,b⟩:=Fc (n:=600) hi.all (ks:=ks) (out:=[]) cf (λx h=>by cases h);exact⟨a,jh 600 a b,b⟩
theorem Pw{im:List (List Int)}{ks:List Int}{i:Nat}(h:i<ks.length):cQ im (ks.take (i+1))=(cU im ks[i]).foldl bJ (cQ im (ks.take i)):=by
 unfold cQ;rw[ap h,b2];rfl
theorem qj{l out:List Int}{j:Nat}(h:j<l.length):(l.take (j+1)).foldl bJ out=bJ ((l.take j).foldl bJ out) l[j]:=by
 rw[ap h,b2];rfl
theorem MJ(L:List Ob)(dir:List UInt8)(im:List (List Int))(o:Ob)(z:o.parents.length<=3)(hk:∀k∈o.parents,0<=k/\k.toNat<im.length)(hi:Fit im):aa Tryz.prog 283 [.c (.bp [.bp [.bs 6 Ob an L],.str dir,.bs 1 (List Int) (bM 1 encI) im]),.st (an o)] [] (Rt (.c (.rw 0)) [.row 1 Int encI (cQ im o.parents)]):=by
 refine af (n:=40) (n0:=0) tabOk Tryz.call283 Tryz.func283 ?_;intro hb;refine lp Nat (λi=>⟨[(0,.c (.bp [.bp [.bs 6 Ob an L],.str dir,.bs 1 (List Int) (bM 1 encI) im])),(5,.c (.rw 0)),(11,.c (.bs 1 Int encI o.parents)),(12,.c (.int .i64 o.parents.length)),(13,.c (.int .i64 i))],[.row 1 Int encI (cQ im (o.parents.take i))]⟩) (λi=>i<=o.parents.length/\True) (λi=>o.parents.length-i) 0 [] [.new] ?_ ?_ (λi v=>?_)
 ·simp
 ·repeat' first|exact trivial|exact rfl|refine And.intro ?_ ?_
 refine dec (λt=>?_) (λt=>?_)
 ·have d:i<o.parents.length:=by omega
  have p:=Pw (im:=im) d;obtain⟨w,r⟩:=hk _ (a2 d);obtain⟨E,-,F⟩:=uH hi (o.parents.take i);generalize cQ im (o.parents.take i)=out at*;refine⟨i,o.parents[i],rfl,ac d,?_⟩;generalize o.parents[i]=k at*;have m:im[k.toNat]? =some im[k.toNat]:=ac r;have s:cU im k=im[k.toNat]:=by unfold cU;rw[m];rfl
  have g:=hi.all k;have q:=hi.len k;rw[s]at p g q;generalize im[k.toNat]=a at*;refine⟨k.toNat,a,by omega,m,?_⟩;refine lp Nat (λj=>⟨[(0,.c (.bp [.bp [.bs 6 Ob an L],.str dir,.bs 1 (List Int) (bM 1 encI) im])),(5,.c (.rw 0)),(11,.c (.bs 1 Int encI o.parents)),(12,.c (.int .i64 o.parents.length)),(13,.c (.int .i64 i)),(23,.c (.bs 1 Int encI a)),(24,.c (.int .i64 a.length)),(25,.c (.int .i64 j))],[.row 1 Int encI ((a.take j).foldl bJ out)]⟩) (λj=>j<=a.length/\True) (λj=>a.length-j) 0 [] [.s 0] ?_ ?_ (λj J=>?_)
  ·simp
  ·repeat' first|exact trivial|exact rfl|refine And.intro ?_ ?_
  refine dec (λu=>?_) (λu=>?_)
  ·have b:j<a.length:=by omega
   have e:=qj (out:=out) b;obtain⟨H,I⟩:=mR (l:=a.take j) E F (λx D=>g x (a4 D));have K:=jh 600 H I;generalize (a.take j).foldl bJ out=o2 at*;refine⟨j,a[j],rfl,ac b,?_⟩;generalize a[j]=y at*;refine cl [] [] (gO o2 y) ?_;refine aS (λf=>?_) (λf=>?_)
   ·have f:y∉o2:=λh=>by rw[fR.2 h]at f;cases f
    rw[show bJ o2 y=o2++[y]from if_neg f]at e;refine⟨[y],rfl,?_⟩;refine⟨_,_,rfl,rfl,(by simp only[ad,am,a0];omega),?_⟩;repeat'(refine I6 ?_)
    refine ag (j+1) [] [.s 2] ⟨b,trivial⟩ (by simp only[];omega) ?_;rw[e];repeat' first|exact trivial|exact rfl|refine And.intro ?_ ?_
   ·have f:y∈o2:=fR.1 (by simpa using f);rw[show bJ o2 y=o2 from if_pos f]at e;repeat'(refine I6 ?_)
    refine ag (j+1) [] [.s 0] ⟨b,trivial⟩ (by simp only[];omega) ?_;rw[e];repeat' first|exact trivial|exact rfl|refine And.intro ?_ ?_
  ·obtain rfl:j=a.length:=by omega
   rw[ar];repeat'(refine I6 ?_)
   refine ag (i+1) [] [.s 0] ⟨d,trivial⟩ (by simp only[];omega) ?_;rw[p];repeat' first|exact trivial|exact rfl|refine And.intro ?_ ?_
 ·obtain rfl:i=o.parents.length:=by omega
  rw[ar];exact rx [] [.s 0]
theorem J1(L:List Ob)(m:ak L)(dir:List UInt8)(hd:dir.length<=4000000)(im:List (List Int))(o:Ob)(p:o.parents.length<=3)(hk:∀k∈o.parents,0<=k/\k.toNat<im.length)(hi:Fit im):aa Tryz.prog 219 [.c (.ptr 0 0),.st (an o)] [.box [.ptr 1 0,.str dir,.rw 3],.box [.rw 2],.row 6 Ob an L,.row 1 (List Int) (bM 1 encI) im] (Rt (.ao [(false,[.rw 5]),(false,[.int .i64 (bS L dir (cQ im o.parents) o).2.1])]) [.box [.ptr 1 0,.str dir,.rw 3],.box [.rw 4],.dead,.row 1 (List Int) (bM 1 encI) im,.row 6 Ob an (bS L dir (cQ im o.parents) o).2.2,.row 1 Int encI (bS L dir (cQ im o.parents) o).1]):=by
 have w:=MJ L dir im o p hk hi;have v:=(uH hi o.parents).2.1;have y:=(uH hi o.parents).2.2;generalize cQ im o.parents=up at*;have q:=Gh L m o.tree dir hd;refine af (n:=72) (n0:=4) tabOk Tryz.call219 Tryz.func219 ?_;intro hb;rcases a:cY L o.tree dir with⟨t,c⟩
 rw[a]at q;dsimp only at q;have s:c=9->bS L dir up o=(up,0,L):=λh=>by unfold bS;rw[a];exact if_pos h
 have u:c≠9->c≠0->bS L dir up o=([],c,L):=λd b=>by unfold bS;rw[a,if_neg d,if_pos b]
 have g:c=0->(up.length=1/\(aj L (up.headD 0)).tree=t)->bS L dir up o=(up,0,L):=λd b=>by unfold bS;subst d;rw[a];exact(if_neg (λh=>by cases h)).trans ((if_neg (λh=>h rfl)).trans (if_pos b))
 have f:c=0->¬(up.length=1/\(aj L (up.headD 0)).tree=t)->bS L dir up o=([(aB L (eN t up o.text)).1],(aB L (eN t up o.text)).2.1,(aB L (eN t up o.text)).2.2):=λd b=>by unfold bS;subst d;rw[a];exact(if_neg (λh=>by cases h)).trans ((if_neg (λh=>h rfl)).trans (if_neg b))
 have r:=rC L (eN t up o.text) m.len;generalize bS L dir up o=R at*;refine cl [] [] (w) ?_;refine⟨false,.grow,(.l [0,1,2,3,4,5,6,7,8,9,10,11,12,13,14,15]),by kernel_rfl,.inl ?_⟩;refine cl [] [] (q) ?_;refine dec (λd=>?_) (λd=>?_)
 ·obtain rfl:=s d;exact rx [] [.s 0,.s 1,.s 2,.s 3,.s 2,.s 5]
 refine ay (λb=>?_) (λb=>?_)
 ·obtain rfl:=u d b;exact rx [] [.s 0,.s 1,.s 2,.s 3,.s 2,.new]
 have f:=f b;have g:=g b;refine dec (λi=>?_) (λi=>?_)
 ·obtain⟨x,rfl⟩:=a6.1 (show up.length=1 by have i:(up.length:Int)=1:=i;omega);refine⟨false,.grow,(.alt [0,1,2,3,4,5,6] [7,11] λj=>bif ch j 7 then(.l [8,9,10,11,12,13])else bif ch j 11 then(.l [7,8,9,10,12,13])else .l []),by kernel_rfl,.inl ?_⟩;refine⟨0,⟨rfl,Nat.one_pos⟩,?_⟩;refine⟨x,rfl,?_⟩;refine And.intro ?_ ?_
  ·refine cl [] [] (ft L m x) ?_;refine dec (λe=>?_) (λe=>?_)
   ·obtain rfl:=g ⟨rfl,e⟩;exact rx [] [.s 0,.s 1,.s 2,.s 3,.s 2,.s 5]
   obtain rfl:=f (λh=>e h.2);generalize aB L (eN t [x] o.text)=Q at*;refine⟨false,.grow,(.l [0,1,2,3,4,5,6,7,8,9,10,11,12,13,14]),by kernel_rfl,.inl ?_⟩;refine cl [] [1,2] (r) ?_;refine⟨[Q.1],rfl,?_⟩;exact rx [] [.s 0,.s 1,.s 2,.s 3,.s 7,.s 8]
  ·refine cl [] [] (ft L m x) ?_;refine dec (λe=>?_) (λe=>?_)
   ·obtain rfl:=g ⟨rfl,e⟩;exact rx [] [.s 0,.s 1,.s 2,.s 3,.s 2,.s 5]
   obtain rfl:=f (λh=>e h.2);generalize aB L (eN t [x] o.text)=Q at*;refine⟨false,.grow,(.l [0,1,2,3,4,5,6,7,8,9,10,11,12,13,14]),by kernel_rfl,.inl ?_⟩;refine cl [] [1,2] (r) ?_;refine⟨[Q.1],rfl,?_⟩;exact rx [] [.s 0,.s 1,.s 2,.s 3,.s 7,.s 8]
 ·obtain rfl:=f (λh=>i (by show(up.length:Int)=1;omega));generalize aB L (eN t up o.text)=Q at*;refine⟨false,.grow,(.l [0,1,2,3,4,5,6,7,8,9,10,11,12,13,14]),by kernel_rfl,.inl ?_⟩;refine cl [] [1,2] (r) ?_;refine⟨[Q.1],rfl,?_⟩;exact rx [] [.s 0,.s 1,.s 2,.s 3,.s 6,.s 7]
end Go.Nest
end
section
namespace Go.Nest
open Go Go.AM
def bC(r:Int):Bool:=decide (0<=r)&&decide (r<4)
theorem bW{r:Int}:bC r=true↔∃i:Nat,i<4/\r=i:=by
 unfold bC;rw[bn,decide_eq_true_iff,decide_eq_true_iff];constructor
 ·rintro⟨a,b⟩;exact⟨r.toNat,by omega,by omega⟩
 ·rintro⟨i,a,rfl⟩;omega
def gf(b:Nat->List Int):Prop:=∀i,i<4->(b i).length<=4/\∀q∈b i,0<=q/\q<(4:Nat)
def nC(b:Nat->List Int):Nat->List Int->Nat->List Int
 |0,out,_=>out
 |n+1,out,i=>match out[i]? with
  |some q=>nC b n ((b q.toNat).foldl bJ out) (i+1)
  |none=>out
def cJ(b:Nat->List Int)(r:Int):List Int:=nC b 5 [r] 0
def gw(o:Nat->List Bool)(r id:Int):Bool:=bC r&&(decide (0<=id)&&(decide (id<(o r.toNat).length)&&((o r.toNat)[id.toNat]?).getD false))
def bt(d:Dp)(r id:Int):Bool:=bC r&&(cJ d.ef r).any λq=>gw d.own q id
theorem K2{b:Nat->List Int}:∀{n:Nat} {out:List Int} {i:Nat},out[i]? =none->nC b n out i=out
 |0,out,i,h=>rfl
 |n+1,out,i,h=>by unfold nC;rw[h]
theorem FN{out:List Int}{x:Int}:out.length<=(bJ out x).length:=by unfold bJ;split<;>simp
theorem yW:∀{l out:List Int},out.length<=(l.foldl bJ out).length
 |[],out=>a9 _
 |x::l,out=>co FN (yW (l:=l) (out:=bJ out x))
structure gE(b:Nat->List Int)(r:Int)(i:Nat)(out:List Int):Prop where
 nd:out.Nodup
 all:∀x∈out,0<=x/\x<(4:Nat)
 le:i<=out.length
 eq:cJ b r=nC b (5-i) out i
theorem gE.len{b:Nat->List Int}{r:Int}{i:Nat}{out:List Int}(h:gE b r i out):out.length<=4:=jh 4 h.nd h.all
theorem gE.start{b:Nat->List Int}{r:Int}(h:bC r=true):gE b r 0 [r]:=by
 obtain⟨k,c,rfl⟩:=bW.1 h;refine⟨by simp,λx a=>?_,by simp,rfl⟩;rw[a1]at a;subst a;omega
theorem gE.next{b:Nat->List Int}(hb:gf b){r:Int}{i:Nat}{out:List Int}(h:gE b r i out)(hi:i<out.length):gE b r (i+1) ((b out[i].toNat).foldl bJ out):=by
 have f:=h.all _ (a2 hi);have e:=h.len;obtain⟨a,c⟩:=mR (l:=b out[i].toNat) h.nd h.all (hb out[i].toNat (by omega)).2;have d:out.length<=((b out[i].toNat).foldl bJ out).length:=yW;refine⟨a,c,by omega,?_⟩;rw[h.eq];conv=>lhs;rw[show 5-i=(5-(i+1))+1 by omega]
 conv=>lhs;unfold nC
 rw[ac hi]
theorem gE.stop{b:Nat->List Int}{r:Int}{i:Nat}{out:List Int}(h:gE b r i out)(hi:¬i<out.length):cJ b r=out:=by
 rw[h.eq,K2 (List.getElem?_eq_none (by omega))]
end Go.Nest
end
section
namespace Go.Nest
open Go Go.AM Go.Proofs
open Go.Proofs.YtpechfcbnoggfaaGreatDoor (tab tabOk)
set_option maxRecDepth 4000
theorem oJ(r:Int):aa Tryz.prog 105 [.c (.int .i64 r)] [] (Rt (.c (.bool (bC r))) []):=by
 refine af (n:=9) (n0:=0) tabOk Tryz.call105 Tryz.func105 ?_;intro hb;refine dec (λa=>?_) (λa=>?_)
 ·exact aL (by unfold bC;rw[decide_eq_true (show 0<=r from a)];rfl)
 ·exact aL (by unfold bC;rw[decide_eq_false (show¬0<=r from a)];rfl)
theorem xg(L:List Ob)(o:Nat->List Bool)(b:Nat->List Int)(q:gf b)(r:Int)(hr:bC r=true):aa Tryz.prog 107 [.c (.bp [.bp [.bs 6 Ob an L],.bs 1 Bool ai (o 0),.bs 1 Bool ai (o 1),.bs 1 Bool ai (o 2),.bs 1 Bool ai (o 3),.bs 1 Int encI (b 0),.bs 1 Int encI (b 1),.bs 1 Int encI (b 2),.bs 1 Int encI (b 3)]),.c (.int .i64 r)] [] (Rt (.c (.rw 0)) [.row 1 Int encI (cJ b r)]):=by
 refine af (n:=41) (n0:=0) tabOk Tryz.call107 Tryz.func107 ?_;intro hb;refine⟨[r],rfl,?_⟩;refine lp (Nat×List Int) (λp=>⟨[(0,.c (.bp [.bp [.bs 6 Ob an L],.bs 1 Bool ai (o 0),.bs 1 Bool ai (o 1),.bs 1 Bool ai (o 2),.bs 1 Bool ai (o 3),.bs 1 Int encI (b 0),.bs 1 Int encI (b 1),.bs 1 Int encI (b 2),.bs 1 Int encI (b 3)])),(5,.c (.rw 0)),(6,.c (.int .i64 p.1))],[.row 1 Int encI p.2]⟩) (λp=>gE b r p.1 p.2/\True) (λp=>4-p.1) (0,[r]) [] [.s 0] ?_ ?_ (λ⟨i,out⟩ m=>?_)
 ·exact⟨gE.start hr,trivial⟩
 ·repeat' first|exact trivial|exact rfl|refine And.intro ?_ ?_
 obtain⟨m,-⟩:=m;have m:gE b r i out:=m;have J:=m.len;refine dec (λF=>?_) (λF=>?_)
 ·have g:i<out.length:=by have F:(i:Int)<out.length:=F;omega
  obtain⟨k,I,u⟩:∃k:Nat,k<4/\out[i]=k:=by
   have:=m.all _ (a2 g);exact⟨out[i].toNat,by omega,by omega⟩
  rcases four I with rfl|rfl|rfl|rfl
  ·have t:=m.next q g;rw[u]at t;have D:=(q 0 (by decide)).1;refine⟨false,.grow,(.l [0,1,2,3,4,5,6,7,8,9,10]),by kernel_rfl,.inl ?_⟩;refine⟨i,⟨rfl,g⟩,?_⟩;refine⟨0,by rw[ac g,u];rfl,?_⟩;refine⟨0,⟨rfl,by decide⟩,?_⟩;refine lp Nat (λj=>⟨[(0,.c (.bp [.bp [.bs 6 Ob an L],.bs 1 Bool ai (o 0),.bs 1 Bool ai (o 1),.bs 1 Bool ai (o 2),.bs 1 Bool ai (o 3),.bs 1 Int encI (b 0),.bs 1 Int encI (b 1),.bs 1 Int encI (b 2),.bs 1 Int encI (b 3)])),(5,.c (.rw 0)),(6,.c (.int .i64 i)),(25,.c (.bs 1 Int encI (b 0))),(26,.c (.int .i64 (b 0).length)),(27,.c (.int .i64 j))],[.row 1 Int encI (((b 0).take j).foldl bJ out)]⟩) (λj=>j<=(b 0).length/\True) (λj=>(b 0).length-j) 0 [] [.s 0] ?_ ?_ (λj H=>?_)
   ·simp
   ·repeat' first|exact trivial|exact rfl|refine And.intro ?_ ?_
   refine dec (λz=>?_) (λz=>?_)
   ·have d:j<(b 0).length:=by omega
    have a:=qj (out:=out) d;obtain⟨v,w⟩:=mR (l:=(b 0).take j) m.nd m.all (λx m=>(q 0 (by decide)).2 x (a4 m));have E:=jh 4 v w;have s:(b 0)[j]? =some (b 0)[j]:=ac d;generalize ((b 0).take j).foldl bJ out=o2 at a v w E⊢;generalize (b 0)[j]=y at s a;refine⟨j,y,rfl,s,?_⟩;refine cl [] [] (gO o2 y) ?_;refine aS (λf=>?_) (λf=>?_)
    ·have f:y∉o2:=λh=>by rw[fR.2 h]at f;cases f
     rw[show bJ o2 y=o2++[y]from if_neg f]at a;refine⟨[y],rfl,?_⟩;refine⟨_,_,rfl,rfl,(by simp only[ad,am,a0];omega),?_⟩;repeat'(refine I6 ?_)
     refine ag (j+1) [] [.s 2] ⟨d,trivial⟩ (by simp only[];omega) ?_;rw[a];repeat' first|exact trivial|exact rfl|refine And.intro ?_ ?_
    ·have f:y∈o2:=fR.1 (by simpa using f);rw[show bJ o2 y=o2 from if_pos f]at a;repeat'(refine I6 ?_)
     refine ag (j+1) [] [.s 0] ⟨d,trivial⟩ (by simp only[];omega) ?_;rw[a];repeat' first|exact trivial|exact rfl|refine And.intro ?_ ?_
   ·obtain rfl:j=(b 0).length:=by omega
    rw[ar];repeat'(refine I6 ?_)
    refine ag (i+1,(b 0).foldl bJ out) [] [.s 0] ⟨t,trivial⟩ (by have:=t.le;have:=t.len;simp only[];omega) ?_;repeat' first|exact trivial|exact rfl|refine And.intro ?_ ?_
  ·have t:=m.next q g;rw[u]at t;have D:=(q 1 (by decide)).1;refine⟨false,.grow,(.l [0,1,2,3,4,5,6,7,8,9,10]),by kernel_rfl,.inl ?_⟩;refine⟨i,⟨rfl,g⟩,?_⟩;refine⟨1,by rw[ac g,u];rfl,?_⟩;refine⟨1,⟨rfl,by decide⟩,?_⟩;refine lp Nat (λj=>⟨[(0,.c (.bp [.bp [.bs 6 Ob an L],.bs 1 Bool ai (o 0),.bs 1 Bool ai (o 1),.bs 1 Bool ai (o 2),.bs 1 Bool ai (o 3),.bs 1 Int encI (b 0),.bs 1 Int encI (b 1),.bs 1 Int encI (b 2),.bs 1 Int encI (b 3)])),(5,.c (.rw 0)),(6,.c (.int .i64 i)),(25,.c (.bs 1 Int encI (b 1))),(26,.c (.int .i64 (b 1).length)),(27,.c (.int .i64 j))],[.row 1 Int encI (((b 1).take j).foldl bJ out)]⟩) (λj=>j<=(b 1).length/\True) (λj=>(b 1).length-j) 0 [] [.s 0] ?_ ?_ (λj H=>?_)
   ·simp
   ·repeat' first|exact trivial|exact rfl|refine And.intro ?_ ?_
   refine dec (λz=>?_) (λz=>?_)
   ·have d:j<(b 1).length:=by omega
    have a:=qj (out:=out) d;obtain⟨v,w⟩:=mR (l:=(b 1).take j) m.nd m.all (λx m=>(q 1 (by decide)).2 x (a4 m));have E:=jh 4 v w;have s:(b 1)[j]? =some (b 1)[j]:=ac d;generalize ((b 1).take j).foldl bJ out=o2 at a v w E⊢;generalize (b 1)[j]=y at s a;refine⟨j,y,rfl,s,?_⟩;refine cl [] [] (gO o2 y) ?_;refine aS (λf=>?_) (λf=>?_)
    ·have f:y∉o2:=λh=>by rw[fR.2 h]at f;cases f
     rw[show bJ o2 y=o2++[y]from if_neg f]at a;refine⟨[y],rfl,?_⟩;refine⟨_,_,rfl,rfl,(by simp only[ad,am,a0];omega),?_⟩;repeat'(refine I6 ?_)
     refine ag (j+1) [] [.s 2] ⟨d,trivial⟩ (by simp only[];omega) ?_;rw[a];repeat' first|exact trivial|exact rfl|refine And.intro ?_ ?_
    ·have f:y∈o2:=fR.1 (by simpa using f);rw[show bJ o2 y=o2 from if_pos f]at a;repeat'(refine I6 ?_)
     refine ag (j+1) [] [.s 0] ⟨d,trivial⟩ (by simp only[];omega) ?_;rw[a];repeat' first|exact trivial|exact rfl|refine And.intro ?_ ?_
   ·obtain rfl:j=(b 1).length:=by omega
    rw[ar];repeat'(refine I6 ?_)
    refine ag (i+1,(b 1).foldl bJ out) [] [.s 0] ⟨t,trivial⟩ (by have:=t.le;have:=t.len;simp only[];omega) ?_;repeat' first|exact trivial|exact rfl|refine And.intro ?_ ?_
  ·have t:=m.next q g;rw[u]at t;have D:=(q 2 (by decide)).1;refine⟨false,.grow,(.l [0,1,2,3,4,5,6,7,8,9,10]),by kernel_rfl,.inl ?_⟩;refine⟨i,⟨rfl,g⟩,?_⟩;refine⟨2,by rw[ac g,u];rfl,?_⟩;refine⟨2,⟨rfl,by decide⟩,?_⟩;refine lp Nat (λj=>⟨[(0,.c (.bp [.bp [.bs 6 Ob an L],.bs 1 Bool ai (o 0),.bs 1 Bool ai (o 1),.bs 1 Bool ai (o 2),.bs 1 Bool ai (o 3),.bs 1 Int encI (b 0),.bs 1 Int encI (b 1),.bs 1 Int encI (b 2),.bs 1 Int encI (b 3)])),(5,.c (.rw 0)),(6,.c (.int .i64 i)),(25,.c (.bs 1 Int encI (b 2))),(26,.c (.int .i64 (b 2).length)),(27,.c (.int .i64 j))],[.row 1 Int encI (((b 2).take j).foldl bJ out)]⟩) (λj=>j<=(b 2).length/\True) (λj=>(b 2).length-j) 0 [] [.s 0] ?_ ?_ (λj H=>?_)
   ·simp
   ·repeat' first|exact trivial|exact rfl|refine And.intro ?_ ?_
   refine dec (λz=>?_) (λz=>?_)
   ·have d:j<(b 2).length:=by omega
    have a:=qj (out:=out) d;obtain⟨v,w⟩:=mR (l:=(b 2).take j) m.nd m.all (λx m=>(q 2 (by decide)).2 x (a4 m));have E:=jh 4 v w;have s:(b 2)[j]? =some (b 2)[j]:=ac d;generalize ((b 2).take j).foldl bJ out=o2 at a v w E⊢;generalize (b 2)[j]=y at s a;refine⟨j,y,rfl,s,?_⟩;refine cl [] [] (gO o2 y) ?_;refine aS (λf=>?_) (λf=>?_)
    ·have f:y∉o2:=λh=>by rw[fR.2 h]at f;cases f
     rw[show bJ o2 y=o2++[y]from if_neg f]at a;refine⟨[y],rfl,?_⟩;refine⟨_,_,rfl,rfl,(by simp only[ad,am,a0];omega),?_⟩;repeat'(refine I6 ?_)
     refine ag (j+1) [] [.s 2] ⟨d,trivial⟩ (by simp only[];omega) ?_;rw[a];repeat' first|exact trivial|exact rfl|refine And.intro ?_ ?_
    ·have f:y∈o2:=fR.1 (by simpa using f);rw[show bJ o2 y=o2 from if_pos f]at a;repeat'(refine I6 ?_)
     refine ag (j+1) [] [.s 0] ⟨d,trivial⟩ (by simp only[];omega) ?_;rw[a];repeat' first|exact trivial|exact rfl|refine And.intro ?_ ?_
   ·obtain rfl:j=(b 2).length:=by omega
    rw[ar];repeat'(refine I6 ?_)
    refine ag (i+1,(b 2).foldl bJ out) [] [.s 0] ⟨t,trivial⟩ (by have:=t.le;have:=t.len;simp only[];omega) ?_;repeat' first|exact trivial|exact rfl|refine And.intro ?_ ?_
  ·have t:=m.next q g;rw[u]at t;have D:=(q 3 (by decide)).1;refine⟨false,.grow,(.l [0,1,2,3,4,5,6,7,8,9,10]),by kernel_rfl,.inl ?_⟩;refine⟨i,⟨rfl,g⟩,?_⟩;refine⟨3,by rw[ac g,u];rfl,?_⟩;refine⟨3,⟨rfl,by decide⟩,?_⟩;refine lp Nat (λj=>⟨[(0,.c (.bp [.bp [.bs 6 Ob an L],.bs 1 Bool ai (o 0),.bs 1 Bool ai (o 1),.bs 1 Bool ai (o 2),.bs 1 Bool ai (o 3),.bs 1 Int encI (b 0),.bs 1 Int encI (b 1),.bs 1 Int encI (b 2),.bs 1 Int encI (b 3)])),(5,.c (.rw 0)),(6,.c (.int .i64 i)),(25,.c (.bs 1 Int encI (b 3))),(26,.c (.int .i64 (b 3).length)),(27,.c (.int .i64 j))],[.row 1 Int encI (((b 3).take j).foldl bJ out)]⟩) (λj=>j<=(b 3).length/\True) (λj=>(b 3).length-j) 0 [] [.s 0] ?_ ?_ (λj H=>?_)
   ·simp
   ·repeat' first|exact trivial|exact rfl|refine And.intro ?_ ?_
   refine dec (λz=>?_) (λz=>?_)
   ·have d:j<(b 3).length:=by omega
    have a:=qj (out:=out) d;obtain⟨v,w⟩:=mR (l:=(b 3).take j) m.nd m.all (λx m=>(q 3 (by decide)).2 x (a4 m));have E:=jh 4 v w;have s:(b 3)[j]? =some (b 3)[j]:=ac d;generalize ((b 3).take j).foldl bJ out=o2 at a v w E⊢;generalize (b 3)[j]=y at s a;refine⟨j,y,rfl,s,?_⟩;refine cl [] [] (gO o2 y) ?_;refine aS (λf=>?_) (λf=>?_)
    ·have f:y∉o2:=λh=>by rw[fR.2 h]at f;cases f
     rw[show bJ o2 y=o2++[y]from if_neg f]at a;refine⟨[y],rfl,?_⟩;refine⟨_,_,rfl,rfl,(by simp only[ad,am,a0];omega),?_⟩;repeat'(refine I6 ?_)
     refine ag (j+1) [] [.s 2] ⟨d,trivial⟩ (by simp only[];omega) ?_;rw[a];repeat' first|exact trivial|exact rfl|refine And.intro ?_ ?_
    ·have f:y∈o2:=fR.1 (by simpa using f);rw[show bJ o2 y=o2 from if_pos f]at a;repeat'(refine I6 ?_)
     refine ag (j+1) [] [.s 0] ⟨d,trivial⟩ (by simp only[];omega) ?_;rw[a];repeat' first|exact trivial|exact rfl|refine And.intro ?_ ?_
   ·obtain rfl:j=(b 3).length:=by omega
    rw[ar];repeat'(refine I6 ?_)
    refine ag (i+1,(b 3).foldl bJ out) [] [.s 0] ⟨t,trivial⟩ (by have:=t.le;have:=t.len;simp only[];omega) ?_;repeat' first|exact trivial|exact rfl|refine And.intro ?_ ?_
 ·have e:=m.stop (by have F:¬(i:Int)<out.length:=F;omega);rw[e];exact rx [] [.s 0]
theorem ru{o:Nat->List Bool}{k:Nat}{id:Int}(hk:k<4):gw o k id=(decide (0<=id)&&(decide (id<(o k).length)&&((o k)[id.toNat]?).getD false)):=by
 unfold gw;rw[bW.2 ⟨k,hk,rfl⟩,Bool.true_and,Int.toNat_natCast]
theorem Dz(L:List Ob)(o:Nat->List Bool)(b:Nat->List Int)(r id:Int):aa Tryz.prog 72 [.c (.bp [.bp [.bs 6 Ob an L],.bs 1 Bool ai (o 0),.bs 1 Bool ai (o 1),.bs 1 Bool ai (o 2),.bs 1 Bool ai (o 3),.bs 1 Int encI (b 0),.bs 1 Int encI (b 1),.bs 1 Int encI (b 2),.bs 1 Int encI (b 3)]),.c (.int .i64 r),.c (.int .i64 id)] [] (Rt (.c (.bool (gw o r id))) []):=by
 have i:=oJ r;refine af (n:=35) (n0:=0) tabOk Tryz.call72 Tryz.func72 ?_;intro hb;cases h:bC r with
 |false=>
  rw[h]at i;refine cl [] [] (i) ?_;exact aL (by unfold gw;rw[h];rfl)
 |true=>
  rw[h]at i;obtain⟨k,j,rfl⟩:=bW.1 h;refine cl [] [] (i) ?_;rcases four j with rfl|rfl|rfl|rfl
  ·have e:=ru (o:=o) (k:=0) (id:=id) (by decide);refine dec (λa=>?_) (λa=>?_)
   ·refine⟨0,⟨rfl,by decide⟩,?_⟩;refine dec (λd=>?_) (λd=>?_)
    ·have g:id.toNat<(o 0).length:=by have a:(0:Int)<=id:=a;have d:id<((o 0).length:Int):=d;omega
     have f:(o 0)[id.toNat]? =some (o 0)[id.toNat]:=ac g;rw[decide_eq_true a,decide_eq_true d,f]at e;refine⟨0,⟨rfl,by decide⟩,?_⟩;refine⟨id.toNat,_,by have a:(0:Int)<=id:=a;omega,f,?_⟩;exact aL e.symm
    ·rw[decide_eq_false d]at e;exact aL (by rw[e];simp)
   ·rw[decide_eq_false a]at e;exact aL (by rw[e];rfl)
  ·have e:=ru (o:=o) (k:=1) (id:=id) (by decide);refine dec (λa=>?_) (λa=>?_)
   ·refine⟨1,⟨rfl,by decide⟩,?_⟩;refine dec (λd=>?_) (λd=>?_)
    ·have g:id.toNat<(o 1).length:=by have a:(0:Int)<=id:=a;have d:id<((o 1).length:Int):=d;omega
     have f:(o 1)[id.toNat]? =some (o 1)[id.toNat]:=ac g;rw[decide_eq_true a,decide_eq_true d,f]at e;refine⟨1,⟨rfl,by decide⟩,?_⟩;refine⟨id.toNat,_,by have a:(0:Int)<=id:=a;omega,f,?_⟩;exact aL e.symm
    ·rw[decide_eq_false d]at e;exact aL (by rw[e];simp)
   ·rw[decide_eq_false a]at e;exact aL (by rw[e];rfl)
  ·have e:=ru (o:=o) (k:=2) (id:=id) (by decide);refine dec (λa=>?_) (λa=>?_)
   ·refine⟨2,⟨rfl,by decide⟩,?_⟩;refine dec (λd=>?_) (λd=>?_)
    ·have g:id.toNat<(o 2).length:=by have a:(0:Int)<=id:=a;have d:id<((o 2).length:Int):=d;omega
     have f:(o 2)[id.toNat]? =some (o 2)[id.toNat]:=ac g;rw[decide_eq_true a,decide_eq_true d,f]at e;refine⟨2,⟨rfl,by decide⟩,?_⟩;refine⟨id.toNat,_,by have a:(0:Int)<=id:=a;omega,f,?_⟩;exact aL e.symm
    ·rw[decide_eq_false d]at e;exact aL (by rw[e];simp)
   ·rw[decide_eq_false a]at e;exact aL (by rw[e];rfl)
  ·have e:=ru (o:=o) (k:=3) (id:=id) (by decide);refine dec (λa=>?_) (λa=>?_)
   ·refine⟨3,⟨rfl,by decide⟩,?_⟩;refine dec (λd=>?_) (λd=>?_)
    ·have g:id.toNat<(o 3).length:=by have a:(0:Int)<=id:=a;have d:id<((o 3).length:Int):=d;omega
     have f:(o 3)[id.toNat]? =some (o 3)[id.toNat]:=ac g;rw[decide_eq_true a,decide_eq_true d,f]at e;refine⟨3,⟨rfl,by decide⟩,?_⟩;refine⟨id.toNat,_,by have a:(0:Int)<=id:=a;omega,f,?_⟩;exact aL e.symm
    ·rw[decide_eq_false d]at e;exact aL (by rw[e];simp)
   ·rw[decide_eq_false a]at e;exact aL (by rw[e];rfl)
theorem JI(L:List Ob)(o:Nat->List Bool)(b:Nat->List Int)(id q:Int):aa Tryz.prog 108 [.c (.int .i64 q),.c (.bp [.bp [.bp [.bs 6 Ob an L],.bs 1 Bool ai (o 0),.bs 1 Bool ai (o 1),.bs 1 Bool ai (o 2),.bs 1 Bool ai (o 3),.bs 1 Int encI (b 0),.bs 1 Int encI (b 1),.bs 1 Int encI (b 2),.bs 1 Int encI (b 3)]]),.c (.bp [.int .i64 id])] [] (Rt (.c (.bool (gw o q id))) []):=by
 refine af (n:=9) (n0:=0) tabOk Tryz.call108 Tryz.func108 ?_;intro hb;refine cl [] [] (Dz L o b q id) ?_;exact aL rfl
theorem J8(F:Nat)(L:List Ob)(o:Nat->List Bool)(b:Nat->List Int)(k:Int)(p:Int->Bool)(f:∀x,aa Tryz.prog F [.c (.int .i64 x),.c (.bp [.bp [.bp [.bs 6 Ob an L],.bs 1 Bool ai (o 0),.bs 1 Bool ai (o 1),.bs 1 Bool ai (o 2),.bs 1 Bool ai (o 3),.bs 1 Int encI (b 0),.bs 1 Int encI (b 1),.bs 1 Int encI (b 2),.bs 1 Int encI (b 3)]]),.c (.bp [.int .i64 k])] [] (Rt (.c (.bool (p x))) []))(l:List Int):aa Tryz.prog 178 [.c (.bs 1 Int encI l),.c (.fn F [.bp [.bp [.bp [.bs 6 Ob an L],.bs 1 Bool ai (o 0),.bs 1 Bool ai (o 1),.bs 1 Bool ai (o 2),.bs 1 Bool ai (o 3),.bs 1 Int encI (b 0),.bs 1 Int encI (b 1),.bs 1 Int encI (b 2),.bs 1 Int encI (b 3)]],.bp [.int .i64 k]])] [] (Rt (.c (.int .i64 (bD p l))) []):=by
 refine af (n:=19) (n0:=0) tabOk Tryz.call178 Tryz.func178 ?_;intro hb;have hb:l.length<=9223372036854775807:=hb.1.1;refine lp Nat (λi=>⟨[(0,.c (.bs 1 Int encI l)),(1,.c (.fn F [.bp [.bp [.bp [.bs 6 Ob an L],.bs 1 Bool ai (o 0),.bs 1 Bool ai (o 1),.bs 1 Bool ai (o 2),.bs 1 Bool ai (o 3),.bs 1 Int encI (b 0),.bs 1 Int encI (b 1),.bs 1 Int encI (b 2),.bs 1 Int encI (b 3)]],.bp [.int .i64 k]])),(7,.c (.int .i64 l.length)),(8,.c (.int .i64 i))],[]⟩) (λi=>i<=l.length/\(l.take i).any p=false) (λi=>l.length-i) 0 [] [] ?_ ?_ (λi d=>?_)
 ·simp
 ·repeat' first|exact trivial|exact rfl|refine And.intro ?_ ?_
 refine dec (λe=>?_) (λe=>?_)
 ·have a:i<l.length:=by omega
  repeat'((conv=>whnf);first|refine⟨_,_,rfl,ac (by omega),?_⟩|fail)
  refine cl [] [] (f l[i]) ?_;refine aS (λh=>?_) (λh=>?_)
  ·exact aJ (jG a d.2 h)
  ·repeat'(refine I6 ?_)
   refine ag (i+1) [] [] ⟨a,ij a d.2 h⟩ (by simp only[];omega) ?_;repeat' first|exact trivial|exact rfl|refine And.intro ?_ ?_
 ·repeat'((conv=>whnf);first|refine aJ ?_|fail)
  have:=d.2;rw[bl (by omega)]at this;exact ky this
theorem vU(F:Nat)(L:List Ob)(o:Nat->List Bool)(b:Nat->List Int)(k:Int)(p:Int->Bool)(a:∀x,aa Tryz.prog F [.c (.int .i64 x),.c (.bp [.bp [.bp [.bs 6 Ob an L],.bs 1 Bool ai (o 0),.bs 1 Bool ai (o 1),.bs 1 Bool ai (o 2),.bs 1 Bool ai (o 3),.bs 1 Int encI (b 0),.bs 1 Int encI (b 1),.bs 1 Int encI (b 2),.bs 1 Int encI (b 3)]]),.c (.bp [.int .i64 k])] [] (Rt (.c (.bool (p x))) []))(l:List Int):aa Tryz.prog 106 [.c (.bs 1 Int encI l),.c (.fn F [.bp [.bp [.bp [.bs 6 Ob an L],.bs 1 Bool ai (o 0),.bs 1 Bool ai (o 1),.bs 1 Bool ai (o 2),.bs 1 Bool ai (o 3),.bs 1 Int encI (b 0),.bs 1 Int encI (b 1),.bs 1 Int encI (b 2),.bs 1 Int encI (b 3)]],.bp [.int .i64 k]])] [] (Rt (.c (.bool (l.any p))) []):=by
 refine af (n:=9) (n0:=0) tabOk Tryz.call106 Tryz.func106 ?_;intro hb;refine cl [] [] (J8 F L o b k p a l) ?_;exact aL (pv ..)
theorem oh(L:List Ob)(o:Nat->List Bool)(b:Nat->List Int)(e:gf b)(r id:Int):aa Tryz.prog 41 [.c (.bp [.bp [.bs 6 Ob an L],.bs 1 Bool ai (o 0),.bs 1 Bool ai (o 1),.bs 1 Bool ai (o 2),.bs 1 Bool ai (o 3),.bs 1 Int encI (b 0),.bs 1 Int encI (b 1),.bs 1 Int encI (b 2),.bs 1 Int encI (b 3)]),.c (.int .i64 r),.c (.int .i64 id)] [] (Rt (.c (.bool (bt ⟨o,b⟩ r id))) []):=by
 have d:=oJ r;refine af (n:=16) (n0:=0) tabOk Tryz.call41 Tryz.func41 ?_;intro hb;cases a:bC r with
 |false=>
  rw[a]at d;refine cl [] [] (d) ?_;exact aL (by unfold bt;rw[a];rfl)
 |true=>
  rw[a]at d;refine cl [] [] (d) ?_;refine cl [] [] (xg L o b e r a) ?_;refine cl [] [] (vU 108 L o b id (λq=>gw o q id) (JI L o b id) (cJ b r)) ?_;exact aL (by unfold bt;rw[a];rfl)
def eI(l:List Bool)(n:Nat):List Bool:=l++ah (n-l.length) false
def cP(o:Nat->List Bool)(b:Nat->List Int)(r:Nat)(x:List Bool)(id:Int):List Bool:=if bt ⟨aA o r x,b⟩ r id=true then x else x.set id.toNat true
noncomputable def lM(L:List Ob)(o:Nat->List Bool)(b:Nat->List Int)(r:Nat)(ids:List Int):List Bool:=(bc L ids).foldl (cP o b r) (eI (o r) L.length)
def dd(L:List Ob)(r:Int)(ids:List Int):Int:=if bC r=false then 1 else if(ids.any λid=>decide (kindOf L id=0))=true then 9 else 0
noncomputable def dS(L:List Ob)(o:Nat->List Bool)(b:Nat->List Int)(r:Int)(ids:List Int):Nat->List Bool:=if dd L r ids≠0 then o else aA o r.toNat (lM L o b r.toNat ids)
theorem oz{o:Nat->List Bool}{b:Nat->List Int}{r:Nat}:∀{l:List Int} {x:List Bool},(l.foldl (cP o b r) x).length=x.length
 |[],x=>rfl
 |id::l,x=>by
  rw[bb,oz];unfold cP;split
  ·rfl
  ·rw[b0]
theorem tJ{o:Nat->List Bool}{b:Nat->List Int}{r:Nat}{l:List Int}{x:List Bool}{i:Nat}(h:i<l.length):(l.take (i+1)).foldl (cP o b r) x=cP o b r ((l.take i).foldl (cP o b r) x) l[i]:=by
 rw[ap h,b2];rfl
theorem DF{l:List Bool}{n:Nat}:n<=(eI l n).length:=by unfold eI;rw[ad,br];omega
theorem tZ{l:List Bool}{n:Nat}(h:l.length<n):eI (l++[false]) n=eI l n:=by
 unfold eI;rw[ad,al,b3];congr 1
 rw[show n-l.length=(n-(l.length+1))+1 by omega,List.replicate_succ];rfl
theorem tY{l:List Bool}{n:Nat}(h:n<=l.length):eI l n=l:=by
 unfold eI;rw[show n-l.length=0 by omega];simp
theorem mr{L:List Ob}{ids:List Int}{id:Int}(h:id∈bc L ids):0<=id/\id.toNat<L.length:=by
 unfold bc at h;obtain⟨k,a,rfl⟩:=b4.1 h;have:=(be.1 a).1;rw[cy]at this;omega
theorem u4(L:List Ob)(J:ak L)(o:Nat->List Bool)(b:Nat->List Int)(D:gf b)(ho:∀k,k<4->(o k).length<=1000000)(r:Int)(ids:List Int)(hi:ids.length<=1000000):aa Tryz.prog 204 [.c (.ptr 0 0),.c (.int .i64 r),.c (.bs 1 Int encI ids)] [.box [.ptr 1 0,.rw 3,.rw 4,.rw 5,.rw 6,.rw 7,.rw 8,.rw 9,.rw 10],.box [.rw 2],.row 6 Ob an L,.row 1 Bool ai (o 0),.row 1 Bool ai (o 1),.row 1 Bool ai (o 2),.row 1 Bool ai (o 3),.row 1 Int encI (b 0),.row 1 Int encI (b 1),.row 1 Int encI (b 2),.row 1 Int encI (b 3)] (Rt (.c (.int .i64 (dd L r ids))) [.box [.ptr 1 0,.rw 11,.rw 12,.rw 13,.rw 14,.rw 7,.rw 8,.rw 9,.rw 10],.box [.rw 2],.row 6 Ob an L,.dead,.dead,.dead,.dead,.row 1 Int encI (b 0),.row 1 Int encI (b 1),.row 1 Int encI (b 2),.row 1 Int encI (b 3),.row 1 Bool ai ((dS L o b r ids) 0),.row 1 Bool ai ((dS L o b r ids) 1),.row 1 Bool ai ((dS L o b r ids) 2),.row 1 Bool ai ((dS L o b r ids) 3)]):=by
 have N:=oJ r;have Q:=J.len;refine af (n:=85) (n0:=11) tabOk Tryz.call204 Tryz.func204 ?_;intro hb;cases M:bC r with
 |false=>
  rw[M]at N;have e:dd L r ids=1:=by unfold dd;rw[M];rfl
  rw[show dS L o b r ids=o by unfold dS;rw[e];rfl,e];refine cl [] [] (N) ?_;exact rx [] [.s 0,.s 1,.s 2,.s 3,.s 4,.s 5,.s 6,.s 7,.s 8,.s 9,.s 10,.s 3,.s 4,.s 5,.s 6]
 |true=>
  rw[M]at N;have O:dd L r ids=if(ids.any λid=>decide (kindOf L id=0))=true then 9 else 0:=by unfold dd;rw[M];rfl
  refine cl [] [] (N) ?_;refine lp Nat (λi=>⟨[(0,.c (.ptr 0 0)),(1,.c (.int .i64 r)),(2,.c (.bs 1 Int encI ids)),(16,.c (.bs 1 Int encI ids)),(17,.c (.int .i64 ids.length)),(18,.c (.int .i64 i))],[.box [.ptr 1 0,.rw 3,.rw 4,.rw 5,.rw 6,.rw 7,.rw 8,.rw 9,.rw 10],.box [.rw 2],.row 6 Ob an L,.row 1 Bool ai (o 0),.row 1 Bool ai (o 1),.row 1 Bool ai (o 2),.row 1 Bool ai (o 3),.row 1 Int encI (b 0),.row 1 Int encI (b 1),.row 1 Int encI (b 2),.row 1 Int encI (b 3)]⟩) (λi=>i<=ids.length/\(ids.take i).any (λid=>decide (kindOf L id=0))=false) (λi=>ids.length-i) 0 [] [.s 0,.s 1,.s 2,.s 3,.s 4,.s 5,.s 6,.s 7,.s 8,.s 9,.s 10] ?_ ?_ (λi w=>?_)
  ·simp
  ·repeat' first|exact trivial|exact rfl|refine And.intro ?_ ?_
  obtain⟨w,E⟩:=w;refine dec (λK=>?_) (λK=>?_)
  ·have a:i<ids.length:=by have K:(i:Int)<ids.length:=K;omega
   have m:ids[i]? =some ids[i]:=ac a;have P:=λh=>qk (l:=ids) (p:=λid=>decide (kindOf L id=0)) a h;have R:=λh=>ij (p:=λid=>decide (kindOf L id=0)) a E h;generalize ids[i]=x at m P R;refine⟨i,x,rfl,m,?_⟩;refine cl [] [] (ft L J x) ?_;refine ay (λj=>?_) (λj=>?_)
   ·have j:¬kindOf L x≠0:=j;have e:dd L r ids=9:=by rw[O,P (decide_eq_true (by omega))];rfl
    rw[show dS L o b r ids=o by unfold dS;rw[e];rfl,e];exact rx [] [.s 0,.s 1,.s 2,.s 3,.s 4,.s 5,.s 6,.s 7,.s 8,.s 9,.s 10,.s 3,.s 4,.s 5,.s 6]
   ·have j:kindOf L x≠0:=j;repeat'(refine I6 ?_)
    refine ag (i+1) [] [.s 0,.s 1,.s 2,.s 3,.s 4,.s 5,.s 6,.s 7,.s 8,.s 9,.s 10] ⟨a,R (decide_eq_false (by omega))⟩ (by simp only[];omega) ?_;repeat' first|exact trivial|exact rfl|refine And.intro ?_ ?_
  ·have K:¬(i:Int)<ids.length:=K;rw[bl (by omega)]at E;have e:dd L r ids=0:=by rw[O,E];rfl
   obtain⟨k,S,rfl⟩:=bW.1 M;have eo:dS L o b (k:Int) ids=aA o k (lM L o b k ids):=by unfold dS;rw[e];rfl
   rw[e,eo];(conv=>whnf);rcases four S with rfl|rfl|rfl|rfl
   ·refine lp (List Bool) (λx=>⟨[(0,.c (.ptr 0 0)),(1,.c (.int .i64 (0:Nat))),(2,.c (.bs 1 Int encI ids))],[.box [.ptr 1 0,.rw 11,.rw 4,.rw 5,.rw 6,.rw 7,.rw 8,.rw 9,.rw 10],.box [.rw 2],.row 6 Ob an L,.dead,.row 1 Bool ai (o 1),.row 1 Bool ai (o 2),.row 1 Bool ai (o 3),.row 1 Int encI (b 0),.row 1 Int encI (b 1),.row 1 Int encI (b 2),.row 1 Int encI (b 3),.row 1 Bool ai x]⟩) (λx=>(x.length<=max (o 0).length L.length/\eI x L.length=eI (o 0) L.length)/\True) (λx=>L.length-x.length) (o 0) [] [.s 0,.s 1,.s 2,.s 3,.s 4,.s 5,.s 6,.s 7,.s 8,.s 9,.s 10,.s 3] ?_ ?_ (λx F=>?_)
    ·exact⟨⟨by omega,rfl⟩,trivial⟩
    ·repeat' first|exact trivial|exact rfl|refine And.intro ?_ ?_
    obtain⟨⟨v,f⟩,-⟩:=F;refine⟨false,.grow,(.l [0,1,2,3,4,5,6,7,8,9,10,11,12]),by kernel_rfl,.inl ?_⟩;refine⟨0,⟨rfl,by decide⟩,?_⟩;refine cl [] [] (pD L) ?_;refine dec (λj=>?_) (λj=>?_)
    ·have j:(x.length:Int)<L.length:=j;refine⟨false,.grow,(.l [0,1,2,3,4,5,6,7,10,11,8,9,12,13]),by kernel_rfl,.inl ?_⟩;refine⟨0,⟨rfl,by decide⟩,?_⟩;refine⟨[false],rfl,?_⟩;refine⟨_,_,rfl,rfl,(by simp only[ad,am,a0];omega),?_⟩;refine⟨0,⟨rfl,by decide⟩,?_⟩;skip;refine ag (x++[false]) [] [.s 0,.s 1,.s 2,.s 3,.s 4,.s 5,.s 6,.s 7,.s 8,.s 9,.s 10,.s 13] ⟨⟨by rw[ad,al];omega,by rw[tZ (by omega)];exact f⟩,trivial⟩ (by simp only[ad,al];omega) ?_;repeat' first|exact trivial|exact rfl|refine And.intro ?_ ?_
    ·have j:¬(x.length:Int)<L.length:=j;rw[tY (by omega)]at f;unfold lM;rw[<-f];have H:L.length<=x.length:=by omega
     have s:=λid (h:id∈bc L ids)=>mr h;have u:=pQ (l:=L) (ids:=ids);have z:=oI L J ids hi;generalize bc L ids=rl at s u z⊢;clear f v;refine cl [] [] (z) ?_;refine lp Nat (λi=>⟨[(0,.c (.ptr 0 0)),(1,.c (.int .i64 (0:Nat))),(65,.c (.rw 12)),(66,.c (.int .i64 rl.length)),(67,.c (.int .i64 i))],[.box [.ptr 1 0,.rw 11,.rw 4,.rw 5,.rw 6,.rw 7,.rw 8,.rw 9,.rw 10],.box [.rw 2],.row 6 Ob an L,.dead,.row 1 Bool ai (o 1),.row 1 Bool ai (o 2),.row 1 Bool ai (o 3),.row 1 Int encI (b 0),.row 1 Int encI (b 1),.row 1 Int encI (b 2),.row 1 Int encI (b 3),.row 1 Bool ai ((rl.take i).foldl (cP o b 0) x)]++[.row 1 Int encI rl]⟩) (λi=>i<=rl.length/\True) (λi=>rl.length-i) 0 [] [.s 0,.s 1,.s 2,.s 3,.s 4,.s 5,.s 6,.s 7,.s 8,.s 9,.s 10,.s 11,.s 12] ?_ ?_ (λi w=>?_)
     ·simp
     ·repeat' first|exact trivial|exact rfl|refine And.intro ?_ ?_
     refine dec (λq=>?_) (λq=>?_)
     ·have a:i<rl.length:=by have q:(i:Int)<rl.length:=q;omega
      have m:rl[i]? =some rl[i]:=ac a;have d:=tJ (o:=o) (b:=b) (r:=0) (x:=x) a;have t:=oz (o:=o) (b:=b) (r:=0) (x:=x) (l:=rl.take i);have hid:=s _ (a2 a);generalize (rl.take i).foldl (cP o b 0) x=y at d t⊢;generalize rl[i]=id at m d hid;have I:=oh L (aA o 0 y) b D (0:Nat) id;refine⟨i,⟨rfl,a⟩,?_⟩;refine⟨id,m,?_⟩;refine cl [] [] (I) ?_;refine aS (λg=>?_) (λg=>?_)
      ·have g:bt ⟨aA o 0 y,b⟩ (0:Nat) id=false:=by simpa using g
       rw[show cP o b 0 y id=y.set id.toNat true from if_neg (by rw[g];decide)]at d;refine⟨0,⟨rfl,by decide⟩,?_⟩;refine⟨id.toNat,⟨by omega,by omega⟩,?_⟩;refine⟨_,true,ac (show id.toNat<y.length by omega),⟨a9 1,rfl⟩,?_⟩;repeat'(refine I6 ?_)
       refine ag (i+1) [] [.s 0,.s 1,.s 2,.s 3,.s 4,.s 5,.s 6,.s 7,.s 8,.s 9,.s 10,.s 11,.s 12] ⟨a,trivial⟩ (by simp only[];omega) ?_;rw[d];repeat' first|exact trivial|exact rfl|refine And.intro ?_ ?_
      ·have g:bt ⟨aA o 0 y,b⟩ (0:Nat) id=true:=by simpa using g
       rw[show cP o b 0 y id=y from if_pos g]at d;repeat'(refine I6 ?_)
       refine ag (i+1) [] [.s 0,.s 1,.s 2,.s 3,.s 4,.s 5,.s 6,.s 7,.s 8,.s 9,.s 10,.s 11,.s 12] ⟨a,trivial⟩ (by simp only[];omega) ?_;rw[d];repeat' first|exact trivial|exact rfl|refine And.intro ?_ ?_
     ·obtain rfl:i=rl.length:=by have q:¬(i:Int)<rl.length:=q;omega
      rw[ar];exact rx [] [.s 0,.s 1,.s 2,.s 3,.s 4,.s 5,.s 6,.s 7,.s 8,.s 9,.s 10,.s 11,.s 4,.s 5,.s 6]
   ·refine lp (List Bool) (λx=>⟨[(0,.c (.ptr 0 0)),(1,.c (.int .i64 (1:Nat))),(2,.c (.bs 1 Int encI ids))],[.box [.ptr 1 0,.rw 3,.rw 11,.rw 5,.rw 6,.rw 7,.rw 8,.rw 9,.rw 10],.box [.rw 2],.row 6 Ob an L,.row 1 Bool ai (o 0),.dead,.row 1 Bool ai (o 2),.row 1 Bool ai (o 3),.row 1 Int encI (b 0),.row 1 Int encI (b 1),.row 1 Int encI (b 2),.row 1 Int encI (b 3),.row 1 Bool ai x]⟩) (λx=>(x.length<=max (o 1).length L.length/\eI x L.length=eI (o 1) L.length)/\True) (λx=>L.length-x.length) (o 1) [] [.s 0,.s 1,.s 2,.s 3,.s 4,.s 5,.s 6,.s 7,.s 8,.s 9,.s 10,.s 4] ?_ ?_ (λx F=>?_)
    ·exact⟨⟨by omega,rfl⟩,trivial⟩
    ·repeat' first|exact trivial|exact rfl|refine And.intro ?_ ?_
    obtain⟨⟨v,f⟩,-⟩:=F;refine⟨false,.grow,(.l [0,1,2,3,4,5,6,7,8,9,10,11,12]),by kernel_rfl,.inl ?_⟩;refine⟨1,⟨rfl,by decide⟩,?_⟩;refine cl [] [] (pD L) ?_;refine dec (λj=>?_) (λj=>?_)
    ·have j:(x.length:Int)<L.length:=j;refine⟨false,.grow,(.l [0,1,2,3,4,5,6,7,10,11,8,9,12,13]),by kernel_rfl,.inl ?_⟩;refine⟨1,⟨rfl,by decide⟩,?_⟩;refine⟨[false],rfl,?_⟩;refine⟨_,_,rfl,rfl,(by simp only[ad,am,a0];omega),?_⟩;refine⟨1,⟨rfl,by decide⟩,?_⟩;skip;refine ag (x++[false]) [] [.s 0,.s 1,.s 2,.s 3,.s 4,.s 5,.s 6,.s 7,.s 8,.s 9,.s 10,.s 13] ⟨⟨by rw[ad,al];omega,by rw[tZ (by omega)];exact f⟩,trivial⟩ (by simp only[ad,al];omega) ?_;repeat' first|exact trivial|exact rfl|refine And.intro ?_ ?_
    ·have j:¬(x.length:Int)<L.length:=j;rw[tY (by omega)]at f;unfold lM;rw[<-f];have H:L.length<=x.length:=by omega
     have s:=λid (h:id∈bc L ids)=>mr h;have u:=pQ (l:=L) (ids:=ids);have z:=oI L J ids hi;generalize bc L ids=rl at s u z⊢;clear f v;refine cl [] [] (z) ?_;refine lp Nat (λi=>⟨[(0,.c (.ptr 0 0)),(1,.c (.int .i64 (1:Nat))),(65,.c (.rw 12)),(66,.c (.int .i64 rl.length)),(67,.c (.int .i64 i))],[.box [.ptr 1 0,.rw 3,.rw 11,.rw 5,.rw 6,.rw 7,.rw 8,.rw 9,.rw 10],.box [.rw 2],.row 6 Ob an L,.row 1 Bool ai (o 0),.dead,.row 1 Bool ai (o 2),.row 1 Bool ai (o 3),.row 1 Int encI (b 0),.row 1 Int encI (b 1),.row 1 Int encI (b 2),.row 1 Int encI (b 3),.row 1 Bool ai ((rl.take i).foldl (cP o b 1) x)]++[.row 1 Int encI rl]⟩) (λi=>i<=rl.length/\True) (λi=>rl.length-i) 0 [] [.s 0,.s 1,.s 2,.s 3,.s 4,.s 5,.s 6,.s 7,.s 8,.s 9,.s 10,.s 11,.s 12] ?_ ?_ (λi w=>?_)
     ·simp
     ·repeat' first|exact trivial|exact rfl|refine And.intro ?_ ?_
     refine dec (λq=>?_) (λq=>?_)
     ·have a:i<rl.length:=by have q:(i:Int)<rl.length:=q;omega
      have m:rl[i]? =some rl[i]:=ac a;have d:=tJ (o:=o) (b:=b) (r:=1) (x:=x) a;have t:=oz (o:=o) (b:=b) (r:=1) (x:=x) (l:=rl.take i);have hid:=s _ (a2 a);generalize (rl.take i).foldl (cP o b 1) x=y at d t⊢;generalize rl[i]=id at m d hid;have I:=oh L (aA o 1 y) b D (1:Nat) id;refine⟨i,⟨rfl,a⟩,?_⟩;refine⟨id,m,?_⟩;refine cl [] [] (I) ?_;refine aS (λg=>?_) (λg=>?_)
      ·have g:bt ⟨aA o 1 y,b⟩ (1:Nat) id=false:=by simpa using g
       rw[show cP o b 1 y id=y.set id.toNat true from if_neg (by rw[g];decide)]at d;refine⟨1,⟨rfl,by decide⟩,?_⟩;refine⟨id.toNat,⟨by omega,by omega⟩,?_⟩;refine⟨_,true,ac (show id.toNat<y.length by omega),⟨a9 1,rfl⟩,?_⟩;repeat'(refine I6 ?_)
       refine ag (i+1) [] [.s 0,.s 1,.s 2,.s 3,.s 4,.s 5,.s 6,.s 7,.s 8,.s 9,.s 10,.s 11,.s 12] ⟨a,trivial⟩ (by simp only[];omega) ?_;rw[d];repeat' first|exact trivial|exact rfl|refine And.intro ?_ ?_
      ·have g:bt ⟨aA o 1 y,b⟩ (1:Nat) id=true:=by simpa using g
       rw[show cP o b 1 y id=y from if_pos g]at d;repeat'(refine I6 ?_)
       refine ag (i+1) [] [.s 0,.s 1,.s 2,.s 3,.s 4,.s 5,.s 6,.s 7,.s 8,.s 9,.s 10,.s 11,.s 12] ⟨a,trivial⟩ (by simp only[];omega) ?_;rw[d];repeat' first|exact trivial|exact rfl|refine And.intro ?_ ?_
     ·obtain rfl:i=rl.length:=by have q:¬(i:Int)<rl.length:=q;omega
      rw[ar];exact rx [] [.s 0,.s 1,.s 2,.s 3,.s 4,.s 5,.s 6,.s 7,.s 8,.s 9,.s 10,.s 3,.s 11,.s 5,.s 6]
   ·refine lp (List Bool) (λx=>⟨[(0,.c (.ptr 0 0)),(1,.c (.int .i64 (2:Nat))),(2,.c (.bs 1 Int encI ids))],[.box [.ptr 1 0,.rw 3,.rw 4,.rw 11,.rw 6,.rw 7,.rw 8,.rw 9,.rw 10],.box [.rw 2],.row 6 Ob an L,.row 1 Bool ai (o 0),.row 1 Bool ai (o 1),.dead,.row 1 Bool ai (o 3),.row 1 Int encI (b 0),.row 1 Int encI (b 1),.row 1 Int encI (b 2),.row 1 Int encI (b 3),.row 1 Bool ai x]⟩) (λx=>(x.length<=max (o 2).length L.length/\eI x L.length=eI (o 2) L.length)/\True) (λx=>L.length-x.length) (o 2) [] [.s 0,.s 1,.s 2,.s 3,.s 4,.s 5,.s 6,.s 7,.s 8,.s 9,.s 10,.s 5] ?_ ?_ (λx F=>?_)
    ·exact⟨⟨by omega,rfl⟩,trivial⟩
    ·repeat' first|exact trivial|exact rfl|refine And.intro ?_ ?_
    obtain⟨⟨v,f⟩,-⟩:=F;refine⟨false,.grow,(.l [0,1,2,3,4,5,6,7,8,9,10,11,12]),by kernel_rfl,.inl ?_⟩;refine⟨2,⟨rfl,by decide⟩,?_⟩;refine cl [] [] (pD L) ?_;refine dec (λj=>?_) (λj=>?_)
    ·have j:(x.length:Int)<L.length:=j;refine⟨false,.grow,(.l [0,1,2,3,4,5,6,7,10,11,8,9,12,13]),by kernel_rfl,.inl ?_⟩;refine⟨2,⟨rfl,by decide⟩,?_⟩;refine⟨[false],rfl,?_⟩;refine⟨_,_,rfl,rfl,(by simp only[ad,am,a0];omega),?_⟩;refine⟨2,⟨rfl,by decide⟩,?_⟩;skip;refine ag (x++[false]) [] [.s 0,.s 1,.s 2,.s 3,.s 4,.s 5,.s 6,.s 7,.s 8,.s 9,.s 10,.s 13] ⟨⟨by rw[ad,al];omega,by rw[tZ (by omega)];exact f⟩,trivial⟩ (by simp only[ad,al];omega) ?_;repeat' first|exact trivial|exact rfl|refine And.intro ?_ ?_
    ·have j:¬(x.length:Int)<L.length:=j;rw[tY (by omega)]at f;unfold lM;rw[<-f];have H:L.length<=x.length:=by omega
     have s:=λid (h:id∈bc L ids)=>mr h;have u:=pQ (l:=L) (ids:=ids);have z:=oI L J ids hi;generalize bc L ids=rl at s u z⊢;clear f v;refine cl [] [] (z) ?_;refine lp Nat (λi=>⟨[(0,.c (.ptr 0 0)),(1,.c (.int .i64 (2:Nat))),(65,.c (.rw 12)),(66,.c (.int .i64 rl.length)),(67,.c (.int .i64 i))],[.box [.ptr 1 0,.rw 3,.rw 4,.rw 11,.rw 6,.rw 7,.rw 8,.rw 9,.rw 10],.box [.rw 2],.row 6 Ob an L,.row 1 Bool ai (o 0),.row 1 Bool ai (o 1),.dead,.row 1 Bool ai (o 3),.row 1 Int encI (b 0),.row 1 Int encI (b 1),.row 1 Int encI (b 2),.row 1 Int encI (b 3),.row 1 Bool ai ((rl.take i).foldl (cP o b 2) x)]++[.row 1 Int encI rl]⟩) (λi=>i<=rl.length/\True) (λi=>rl.length-i) 0 [] [.s 0,.s 1,.s 2,.s 3,.s 4,.s 5,.s 6,.s 7,.s 8,.s 9,.s 10,.s 11,.s 12] ?_ ?_ (λi w=>?_)
     ·simp
     ·repeat' first|exact trivial|exact rfl|refine And.intro ?_ ?_
     refine dec (λq=>?_) (λq=>?_)
     ·have a:i<rl.length:=by have q:(i:Int)<rl.length:=q;omega
      have m:rl[i]? =some rl[i]:=ac a;have d:=tJ (o:=o) (b:=b) (r:=2) (x:=x) a;have t:=oz (o:=o) (b:=b) (r:=2) (x:=x) (l:=rl.take i);have hid:=s _ (a2 a);generalize (rl.take i).foldl (cP o b 2) x=y at d t⊢;generalize rl[i]=id at m d hid;have I:=oh L (aA o 2 y) b D (2:Nat) id;refine⟨i,⟨rfl,a⟩,?_⟩;refine⟨id,m,?_⟩;refine cl [] [] (I) ?_;refine aS (λg=>?_) (λg=>?_)
      ·have g:bt ⟨aA o 2 y,b⟩ (2:Nat) id=false:=by simpa using g
       rw[show cP o b 2 y id=y.set id.toNat true from if_neg (by rw[g];decide)]at d;refine⟨2,⟨rfl,by decide⟩,?_⟩;refine⟨id.toNat,⟨by omega,by omega⟩,?_⟩;refine⟨_,true,ac (show id.toNat<y.length by omega),⟨a9 1,rfl⟩,?_⟩;repeat'(refine I6 ?_)
       refine ag (i+1) [] [.s 0,.s 1,.s 2,.s 3,.s 4,.s 5,.s 6,.s 7,.s 8,.s 9,.s 10,.s 11,.s 12] ⟨a,trivial⟩ (by simp only[];omega) ?_;rw[d];repeat' first|exact trivial|exact rfl|refine And.intro ?_ ?_
      ·have g:bt ⟨aA o 2 y,b⟩ (2:Nat) id=true:=by simpa using g
       rw[show cP o b 2 y id=y from if_pos g]at d;repeat'(refine I6 ?_)
       refine ag (i+1) [] [.s 0,.s 1,.s 2,.s 3,.s 4,.s 5,.s 6,.s 7,.s 8,.s 9,.s 10,.s 11,.s 12] ⟨a,trivial⟩ (by simp only[];omega) ?_;rw[d];repeat' first|exact trivial|exact rfl|refine And.intro ?_ ?_
     ·obtain rfl:i=rl.length:=by have q:¬(i:Int)<rl.length:=q;omega
      rw[ar];exact rx [] [.s 0,.s 1,.s 2,.s 3,.s 4,.s 5,.s 6,.s 7,.s 8,.s 9,.s 10,.s 3,.s 4,.s 11,.s 6]
   ·refine lp (List Bool) (λx=>⟨[(0,.c (.ptr 0 0)),(1,.c (.int .i64 (3:Nat))),(2,.c (.bs 1 Int encI ids))],[.box [.ptr 1 0,.rw 3,.rw 4,.rw 5,.rw 11,.rw 7,.rw 8,.rw 9,.rw 10],.box [.rw 2],.row 6 Ob an L,.row 1 Bool ai (o 0),.row 1 Bool ai (o 1),.row 1 Bool ai (o 2),.dead,.row 1 Int encI (b 0),.row 1 Int encI (b 1),.row 1 Int encI (b 2),.row 1 Int encI (b 3),.row 1 Bool ai x]⟩) (λx=>(x.length<=max (o 3).length L.length/\eI x L.length=eI (o 3) L.length)/\True) (λx=>L.length-x.length) (o 3) [] [.s 0,.s 1,.s 2,.s 3,.s 4,.s 5,.s 6,.s 7,.s 8,.s 9,.s 10,.s 6] ?_ ?_ (λx F=>?_)
    ·exact⟨⟨by omega,rfl⟩,trivial⟩
    ·repeat' first|exact trivial|exact rfl|refine And.intro ?_ ?_
    obtain⟨⟨v,f⟩,-⟩:=F;refine⟨false,.grow,(.l [0,1,2,3,4,5,6,7,8,9,10,11,12]),by kernel_rfl,.inl ?_⟩;refine⟨3,⟨rfl,by decide⟩,?_⟩;refine cl [] [] (pD L) ?_;refine dec (λj=>?_) (λj=>?_)
    ·have j:(x.length:Int)<L.length:=j;refine⟨false,.grow,(.l [0,1,2,3,4,5,6,7,10,11,8,9,12,13]),by kernel_rfl,.inl ?_⟩;refine⟨3,⟨rfl,by decide⟩,?_⟩;refine⟨[false],rfl,?_⟩;refine⟨_,_,rfl,rfl,(by simp only[ad,am,a0];omega),?_⟩;refine⟨3,⟨rfl,by decide⟩,?_⟩;skip;refine ag (x++[false]) [] [.s 0,.s 1,.s 2,.s 3,.s 4,.s 5,.s 6,.s 7,.s 8,.s 9,.s 10,.s 13] ⟨⟨by rw[ad,al];omega,by rw[tZ (by omega)];exact f⟩,trivial⟩ (by simp only[ad,al];omega) ?_;repeat' first|exact trivial|exact rfl|refine And.intro ?_ ?_
    ·have j:¬(x.length:Int)<L.length:=j;rw[tY (by omega)]at f;unfold lM;rw[<-f];have H:L.length<=x.length:=by omega
     have s:=λid (h:id∈bc L ids)=>mr h;have u:=pQ (l:=L) (ids:=ids);have z:=oI L J ids hi;generalize bc L ids=rl at s u z⊢;clear f v;refine cl [] [] (z) ?_;refine lp Nat (λi=>⟨[(0,.c (.ptr 0 0)),(1,.c (.int .i64 (3:Nat))),(65,.c (.rw 12)),(66,.c (.int .i64 rl.length)),(67,.c (.int .i64 i))],[.box [.ptr 1 0,.rw 3,.rw 4,.rw 5,.rw 11,.rw 7,.rw 8,.rw 9,.rw 10],.box [.rw 2],.row 6 Ob an L,.row 1 Bool ai (o 0),.row 1 Bool ai (o 1),.row 1 Bool ai (o 2),.dead,.row 1 Int encI (b 0),.row 1 Int encI (b 1),.row 1 Int encI (b 2),.row 1 Int encI (b 3),.row 1 Bool ai ((rl.take i).foldl (cP o b 3) x)]++[.row 1 Int encI rl]⟩) (λi=>i<=rl.length/\True) (λi=>rl.length-i) 0 [] [.s 0,.s 1,.s 2,.s 3,.s 4,.s 5,.s 6,.s 7,.s 8,.s 9,.s 10,.s 11,.s 12] ?_ ?_ (λi w=>?_)
     ·simp
     ·repeat' first|exact trivial|exact rfl|refine And.intro ?_ ?_
     refine dec (λq=>?_) (λq=>?_)
     ·have a:i<rl.length:=by have q:(i:Int)<rl.length:=q;omega
      have m:rl[i]? =some rl[i]:=ac a;have d:=tJ (o:=o) (b:=b) (r:=3) (x:=x) a;have t:=oz (o:=o) (b:=b) (r:=3) (x:=x) (l:=rl.take i);have hid:=s _ (a2 a);generalize (rl.take i).foldl (cP o b 3) x=y at d t⊢;generalize rl[i]=id at m d hid;have I:=oh L (aA o 3 y) b D (3:Nat) id;refine⟨i,⟨rfl,a⟩,?_⟩;refine⟨id,m,?_⟩;refine cl [] [] (I) ?_;refine aS (λg=>?_) (λg=>?_)
      ·have g:bt ⟨aA o 3 y,b⟩ (3:Nat) id=false:=by simpa using g
       rw[show cP o b 3 y id=y.set id.toNat true from if_neg (by rw[g];decide)]at d;refine⟨3,⟨rfl,by decide⟩,?_⟩;refine⟨id.toNat,⟨by omega,by omega⟩,?_⟩;refine⟨_,true,ac (show id.toNat<y.length by omega),⟨a9 1,rfl⟩,?_⟩;repeat'(refine I6 ?_)
       refine ag (i+1) [] [.s 0,.s 1,.s 2,.s 3,.s 4,.s 5,.s 6,.s 7,.s 8,.s 9,.s 10,.s 11,.s 12] ⟨a,trivial⟩ (by simp only[];omega) ?_;rw[d];repeat' first|exact trivial|exact rfl|refine And.intro ?_ ?_
      ·have g:bt ⟨aA o 3 y,b⟩ (3:Nat) id=true:=by simpa using g
       rw[show cP o b 3 y id=y from if_pos g]at d;repeat'(refine I6 ?_)
       refine ag (i+1) [] [.s 0,.s 1,.s 2,.s 3,.s 4,.s 5,.s 6,.s 7,.s 8,.s 9,.s 10,.s 11,.s 12] ⟨a,trivial⟩ (by simp only[];omega) ?_;rw[d];repeat' first|exact trivial|exact rfl|refine And.intro ?_ ?_
     ·obtain rfl:i=rl.length:=by have q:¬(i:Int)<rl.length:=q;omega
      rw[ar];exact rx [] [.s 0,.s 1,.s 2,.s 3,.s 4,.s 5,.s 6,.s 7,.s 8,.s 9,.s 10,.s 3,.s 4,.s 5,.s 11]
def kB(es:List aI):List (Int×Int):=(es.filter λe=>decide (e.mode=3)).map λe=>(e.ax,e.id)
def b8(L:List Ob)(ids:List Int):List (Int×Int):=ids.flatMap λid=>kB (aj L id).entries
theorem CO{es:List aI}:(kB es).length<=es.length:=by
 unfold kB;rw[ct];exact ci _ _
theorem Lf{es:List aI}{j:Nat}(h:j<es.length):kB (es.take (j+1))=kB (es.take j)++(if es[j].mode=3 then[(es[j].ax,es[j].id)]else[]):=by
 unfold kB;rw[ap h,cp,cv,cr];congr 1
 split
 ·rename_i a;rw[if_pos (by simpa using a)];rfl
 ·rename_i a;rw[if_neg (by simpa using a)];rfl
theorem Lj{L:List Ob}{ids:List Int}{i:Nat}(h:i<ids.length):b8 L (ids.take (i+1))=b8 L (ids.take i)++kB (aj L ids[i]).entries:=by
 unfold b8;rw[ap h,List.flatMap_append];simp
theorem xm{L:List Ob}(a:ak L):∀{ids:List Int},(b8 L ids).length<=ids.length*60
 |[]=>ce _
 |id::ids=>by
  have ih:=xm a (ids:=ids)
  have b:(aj L id).entries.length<=60:=by
   by_cases h:kindOf L id=0
   ·rw[a.nw h];exact ce _
   ·exact(a.get h).entries
  have c:=CO (es:=(aj L id).entries);unfold b8 at ih⊢;rw[List.flatMap_cons,ad,am];omega
theorem Li(L:List Ob)(s:ak L)(o:Nat->List Bool)(b:Nat->List Int)(ids:List Int)(hi:ids.length<=1000000):aa Tryz.prog 220 [.c (.bp [.bp [.bs 6 Ob an L],.bs 1 Bool ai (o 0),.bs 1 Bool ai (o 1),.bs 1 Bool ai (o 2),.bs 1 Bool ai (o 3),.bs 1 Int encI (b 0),.bs 1 Int encI (b 1),.bs 1 Int encI (b 2),.bs 1 Int encI (b 3)]),.c (.bs 1 Int encI ids)] [] (Rt (.c (.rw 0)) [.row 2 (Int×Int) kq (b8 L ids)]):=by
 refine af (n:=48) (n0:=0) tabOk Tryz.call220 Tryz.func220 ?_;intro hb;refine lp Nat (λi=>⟨[(0,.c (.bp [.bp [.bs 6 Ob an L],.bs 1 Bool ai (o 0),.bs 1 Bool ai (o 1),.bs 1 Bool ai (o 2),.bs 1 Bool ai (o 3),.bs 1 Int encI (b 0),.bs 1 Int encI (b 1),.bs 1 Int encI (b 2),.bs 1 Int encI (b 3)])),(5,.c (.rw 0)),(12,.c (.bs 1 Int encI ids)),(13,.c (.int .i64 ids.length)),(14,.c (.int .i64 i))],[.row 2 (Int×Int) kq (b8 L (ids.take i))]⟩) (λi=>i<=ids.length/\True) (λi=>ids.length-i) 0 [] [.new] ?_ ?_ (λi v=>?_)
 ·simp
 ·repeat' first|exact trivial|exact rfl|refine And.intro ?_ ?_
 refine dec (λk=>?_) (λk=>?_)
 ·have g:i<ids.length:=by have k:(i:Int)<ids.length:=k;omega
  have m:ids[i]? =some ids[i]:=ac g;have f:=Lj (L:=L) g;have r:=xm s (ids:=ids.take i);rw[cs]at r;generalize b8 L (ids.take i)=out at f r⊢;generalize ids[i]=id at m f
  have u:(aj L id).entries.length<=60:=by
   by_cases h:kindOf L id=0
   ·rw[s.nw h];exact ce _
   ·exact(s.get h).entries
  refine⟨i,id,rfl,m,?_⟩;refine cl [] [] (ft L s id) ?_;generalize aj L id=ob at u f⊢;refine lp Nat (λj=>⟨[(0,.c (.bp [.bp [.bs 6 Ob an L],.bs 1 Bool ai (o 0),.bs 1 Bool ai (o 1),.bs 1 Bool ai (o 2),.bs 1 Bool ai (o 3),.bs 1 Int encI (b 0),.bs 1 Int encI (b 1),.bs 1 Int encI (b 2),.bs 1 Int encI (b 3)])),(5,.c (.rw 0)),(12,.c (.bs 1 Int encI ids)),(13,.c (.int .i64 ids.length)),(14,.c (.int .i64 i)),(28,.c (.bs 4 aI cM ob.entries)),(29,.c (.int .i64 ob.entries.length)),(30,.c (.int .i64 j))],[.row 2 (Int×Int) kq (out++kB (ob.entries.take j))]⟩) (λj=>j<=ob.entries.length/\True) (λj=>ob.entries.length-j) 0 [] [.s 0] ?_ ?_ (λj w=>?_)
  ·simp
  ·rw[List.take_zero,show kB []=[]from rfl,cd];repeat' first|exact trivial|exact rfl|refine And.intro ?_ ?_
  refine dec (λl=>?_) (λl=>?_)
  ·have d:j<ob.entries.length:=by have l:(j:Int)<ob.entries.length:=l;omega
   have p:ob.entries[j]? =some ob.entries[j]:=ac d;have a:=Lf d;have q:=CO (es:=ob.entries.take j);rw[cs]at q;generalize kB (ob.entries.take j)=o2 at a q⊢;generalize ob.entries[j]=e at p a;refine⟨j,e,rfl,p,?_⟩;refine dec (λt=>?_) (λt=>?_)
   ·rw[if_pos t]at a;refine⟨[(e.ax,e.id)],rfl,?_⟩;refine⟨_,_,rfl,rfl,(by simp only[ad,am,a0];omega),?_⟩;repeat'(refine I6 ?_)
    refine ag (j+1) [] [.s 3] ⟨d,trivial⟩ (by simp only[];omega) ?_;rw[a,<-b3];repeat' first|exact trivial|exact rfl|refine And.intro ?_ ?_
   ·rw[if_neg t,cd]at a;repeat'(refine I6 ?_)
    refine ag (j+1) [] [.s 0] ⟨d,trivial⟩ (by simp only[];omega) ?_;rw[a];repeat' first|exact trivial|exact rfl|refine And.intro ?_ ?_
  ·obtain rfl:j=ob.entries.length:=by have l:¬(j:Int)<ob.entries.length:=l;omega
   rw[ar];repeat'(refine I6 ?_)
   refine ag (i+1) [] [.s 0] ⟨g,trivial⟩ (by simp only[];omega) ?_;rw[f];repeat' first|exact trivial|exact rfl|refine And.intro ?_ ?_
 ·obtain rfl:i=ids.length:=by have k:¬(i:Int)<ids.length:=k;omega
  rw[ar];exact rx [] [.s 0]
def jI(o:Nat->List Bool)(r:Int)(n:Nat):List Int:=((c1 n).filter λk:Nat=>gw o r k).map λk:Nat=>(k:Int)
theorem Lm{o:Nat->List Bool}{r:Int}{n:Nat}:jI o r (n+1)=jI o r n++(if gw o r n=true then[(n:Int)]else[]):=by
 unfold jI;rw[List.range_succ,cp,cv,cr];congr 1
 split
 ·rename_i h;rfl
 ·rename_i h;rfl
theorem xn{o:Nat->List Bool}{r:Int}{n:Nat}:(jI o r n).length<=n:=by
 unfold jI;rw[ct];exact co (ci _ _) (by rw[List.length_range];exact a9 _)
theorem Ll(L:List Ob)(i:ak L)(o:Nat->List Bool)(b:Nat->List Int)(r:Int):aa Tryz.prog 28 [.c (.bp [.bp [.bs 6 Ob an L],.bs 1 Bool ai (o 0),.bs 1 Bool ai (o 1),.bs 1 Bool ai (o 2),.bs 1 Bool ai (o 3),.bs 1 Int encI (b 0),.bs 1 Int encI (b 1),.bs 1 Int encI (b 2),.bs 1 Int encI (b 3)]),.c (.int .i64 r)] [] (Rt (.c (.rw 0)) [.row 1 Int encI (jI o r L.length)]):=by
 have h:=i.len;refine af (n:=25) (n0:=0) tabOk Tryz.call28 Tryz.func28 ?_;intro hb;refine cl [] [] (pD L) ?_;refine lp Nat (λk=>⟨[(0,.c (.bp [.bp [.bs 6 Ob an L],.bs 1 Bool ai (o 0),.bs 1 Bool ai (o 1),.bs 1 Bool ai (o 2),.bs 1 Bool ai (o 3),.bs 1 Int encI (b 0),.bs 1 Int encI (b 1),.bs 1 Int encI (b 2),.bs 1 Int encI (b 3)])),(1,.c (.int .i64 r)),(5,.c (.rw 0)),(11,.c (.int .i64 L.length)),(12,.c (.int .i64 k))],[.row 1 Int encI (jI o r k)]⟩) (λk=>k<=L.length/\True) (λk=>L.length-k) 0 [] [.new] ?_ ?_ (λk j=>?_)
 ·simp
 ·repeat' first|exact trivial|exact rfl|refine And.intro ?_ ?_
 refine dec (λd=>?_) (λd=>?_)
 ·have e:k<L.length:=by have d:(k:Int)<L.length:=d;omega
  have a:=Lm (o:=o) (r:=r) (n:=k);have g:=xn (o:=o) (r:=r) (n:=k);generalize jI o r k=out at a g⊢;refine cl [] [] (Dz L o b r k) ?_;refine aS (λf=>?_) (λf=>?_)
  ·rw[if_pos f]at a;refine⟨[(k:Int)],rfl,?_⟩;refine⟨_,_,rfl,rfl,(by simp only[ad,am,a0];omega),?_⟩;repeat'(refine I6 ?_)
   refine ag (k+1) [] [.s 2] ⟨e,trivial⟩ (by simp only[];omega) ?_;rw[a];repeat' first|exact trivial|exact rfl|refine And.intro ?_ ?_
  ·rw[if_neg (by rw[f];decide),cd]at a;repeat'(refine I6 ?_)
   refine ag (k+1) [] [.s 0] ⟨e,trivial⟩ (by simp only[];omega) ?_;rw[a];repeat' first|exact trivial|exact rfl|refine And.intro ?_ ?_
 ·obtain rfl:k=L.length:=by have d:¬(k:Int)<L.length:=d;omega
  exact rx [] [.s 0]
end Go.Nest
end
section
namespace Go.Nest
open Go Go.AM
inductive Nd(L:List Ob)(ro:Nat->List Int):Nat->Int->Prop
 |root {r:Nat} {x k:Int} (hr:r<4) (h:x∈ro r) (hl:cA L [x] k):Nd L ro r k
 |link {r:Nat} {k m:Int} {e:aI} (h:Nd L ro r k) (he:e∈(aj L k).entries) (hm:e.mode=3) (hl:cA L [e.id] m):Nd L ro e.ax.toNat m
noncomputable def gr(L:List Ob)(ro:Nat->List Int)(r:Nat):List Int:=((c1 L.length).filter λk:Nat=> @decide (Nd L ro r (k:Int)) (c0 _)).map λk:Nat=>(k:Int)
structure RS where
 ro:Nat->List Int
 out:Nat->List Int
 more:Bool
def nT(f:Nat->Nat):Nat:=f 0+(f 1+(f 2+f 3))
def fB(L:List Ob)(n:Nat->Nat)(s:RS):Nat:=nT (λr=>600+n r-(s.ro r).length)+nT (λr=>L.length-(s.out r).length)
structure gH(L:List Ob)(r0:Nat->List Int)(s:RS):Prop where
 sub:∀r,r<4->∀x∈r0 r,x∈s.ro r
 nd:∀r,r<4->∀x∈s.ro r,∀k,cA L [x] k->Nd L r0 r k
 ext:∀r,r<4->∃ex,s.ro r=r0 r++ex/\ex.Nodup/\∀x∈ex,0<=x/\x<(600:Nat)
 out:∀r,r<4->∀k∈s.out r,k∈bc L (s.ro r)
 onod:∀r,r<4->(s.out r).Nodup
theorem gH.len{L:List Ob}{r0:Nat->List Int}{s:RS}(h:gH L r0 s){r:Nat}(hr:r<4):(s.ro r).length<=(r0 r).length+600:=by
 obtain⟨ex,e,a,b⟩:=h.ext r hr;rw[e,ad];have:=jh 600 a b;omega
structure r8(L:List Ob)(s:RS):Prop where
 out:∀r,r<4->s.out r=bc L (s.ro r)
 clo:∀r,r<4->∀l∈b8 L (s.out r),l.2∈s.ro l.1.toNat
theorem xf{L:List Ob}{ids:List Int}{k:Int}(h:cA L ids k):∃x∈ids,cA L [x] k:=by
 induction h with
 |base h a=>exact⟨_,h,.base (by simp) a⟩
 |step h a ih=>
  obtain⟨x,b,c⟩:=ih;exact⟨x,b,.step c a⟩
theorem xe{L:List Ob}{ids:List Int}{x k:Int}(b:x∈ids)(h:cA L [x] k):cA L ids k:=by
 induction h with
 |base h a=>rw[a1]at h;subst h;exact .base b a
 |step h a ih=>exact .step ih a
theorem KW{L:List Ob}{ids a:List Int}(d:∀x∈ids,x∈a){k:Int}(h:cA L ids k):cA L a k:=by
 obtain⟨x,b,c⟩:=xf h;exact xe (d x b) c
theorem cA.pos{L:List Ob}(a:ak L){ids:List Int}{k:Int}(h:cA L ids k):0<=k/\k.toNat<L.length:=by
 have b:=dC (h.kind a);omega
theorem tK{L:List Ob}{ids:List Int}{l:Int×Int}:l∈b8 L ids↔∃k∈ids,∃e∈(aj L k).entries,e.mode=3/\l=(e.ax,e.id):=by
 unfold b8 kB;rw[List.mem_flatMap];constructor
 ·rintro⟨k,b,c⟩;obtain⟨e,a,d⟩:=b4.1 c;rw[be]at a;exact⟨k,b,e,a.1,by simpa using a.2,d.symm⟩
 ·rintro⟨k,b,e,c,a,d⟩;refine⟨k,b,b4.2 ⟨e,be.2 ⟨c,by simpa using a⟩,d.symm⟩⟩
theorem qK{L:List Ob}(b:ak L){k:Int}{e:aI}(he:e∈(aj L k).entries):0<=e.ax/\e.ax<4/\kindOf L e.id=e.mode:=by
 have c:¬kindOf L k=0:=λh=>by rw[b.nw h]at he;cases he
 have d:=b.get c;have a:=dC c;have q:=qL d.ents e he;have:=(b.obj (aj L k) (by rw[lZ a.1 a.2];exact a2 _)).2;unfold fg at this;rw[bn,List.all_eq_true]at this;have:=this.1 e he;exact⟨q.2.2.2.1.1,q.2.2.2.1.2,by simpa using this⟩
theorem Nd.lt{L:List Ob}(a:ak L){r0:Nat->List Int}{r:Nat}{k:Int}(h:Nd L r0 r k):r<4:=by
 cases h with
 |root c _ _=>exact c
 |link h b e d=>have:=qK a b;omega
theorem Nd.pos{L:List Ob}(b:ak L){r0:Nat->List Int}{r:Nat}{k:Int}(h:Nd L r0 r k):0<=k/\k.toNat<L.length:=by
 cases h with
 |root e _ a=>exact a.pos b
 |link h c d a=>exact a.pos b
theorem C2{L:List Ob}(b:ak L){r0:Nat->List Int}{r:Nat}{k:Int}:k∈gr L r0 r↔Nd L r0 r k:=by
 unfold gr;rw[b4];constructor
 ·rintro⟨j,c,rfl⟩;have:=(be.1 c).2;simpa using this
 ·intro h;obtain⟨d,a⟩:=h.pos b;have e:((k.toNat:Nat):Int)=k:=by omega
  refine⟨k.toNat,be.2 ⟨cy.2 a,?_⟩,e⟩;rw[e];simpa using h
theorem L4{L:List Ob}{r0:Nat->List Int}{r:Nat}:(gr L r0 r).Pairwise (· < ·):=by
 unfold gr;rw[List.pairwise_map];exact(List.pairwise_lt_range.filter _).imp λh=>by omega
theorem r8.bX{L:List Ob}(a:ak L){r0:Nat->List Int}{s:RS}(hi:gH L r0 s)(b:r8 L s){r:Nat}(hr:r<4):s.out r=gr L r0 r:=by
 have d:∀r k,Nd L r0 r k->k∈s.out r:=λr k h=>by
  induction h with
  | @root r x k hr h c=>
   rw[b.out r hr,jf a];exact xe (hi.sub r hr x h) c
  | @link r k m e h f j c ih=>
   have hr:=h.lt a;have l:=qK a f;have:=b.clo r hr (e.ax,e.id) (tK.2 ⟨k,ih,e,f,j,rfl⟩);rw[b.out _ (by omega),jf a];exact xe this c
 rw[b.out r hr];refine oK pR L4 λk=>?_;rw[C2 a];constructor
 ·intro h;obtain⟨x,g,i⟩:=xf ((jf a).1 h);exact hi.nd r hr x g k i
 ·intro h;have:=d r k h;rwa[b.out r hr]at this
theorem gH.start{L:List Ob}{r0:Nat->List Int}:gH L r0 ⟨r0,λ_=>[],true⟩where
 sub:=λr a x h=>h
 nd:=λr a x h k b=>.root a h b
 ext:=λr a=>⟨[],by simp,cf,λx h=>by cases h⟩;out:=λr a k h=>by cases h
 onod:=λr a=>cf
theorem O6{α:Type}{f:α->Nat}{o:Nat->α}{k:Nat}(hk:k<4){v:α}:nT (λr=>f (aA o k v r))+f (o k)=nT (λr=>f (o r))+f v:=by
 unfold nT;rcases four hk with rfl|rfl|rfl|rfl<;>simp only[aA,ch,cond_true,cond_false]<;>omega
theorem kL{α:Type}{o:Nat->α}{k j:Nat}{v:α}(h:j≠k):aA o k v j=o j:=by
 unfold aA
 have:ch j k=false:=by
  cases a:ch j k with
  |false=>rfl
  |true=>exact absurd (Nat.eq_of_beq_eq_true a) h
 rw[this];rfl
def n0(r0:Nat->List Int):Nat->Nat:=λr=>(r0 r).length
theorem Dg:∀{a b:List Int},a.Nodup->(∀x∈a,x∈b)->a.length<=b.length
 |[],b,_,_=>ce _
 |x::a,b,h,d=>by
  rw[List.nodup_cons]at h;have f:=d x (by simp)
  have i := Dg (b := b.erase x) h.2 (λy g=>by
   have c:y≠x:=λe=>by subst e;exact h.1 g
   exact(List.mem_erase_of_ne c).2 (d y (by simp[g])))
  rw[List.length_erase_of_mem f]at i;have j:=List.length_pos_of_mem f;rw[am];omega
theorem gH.found{L:List Ob}(g:ak L){r0:Nat->List Int}{s:RS}(h:gH L r0 s){r:Nat}(hr:r<4)(m:Bool):
  gH L r0 ⟨s.ro,aA s.out r (bc L (s.ro r)),m⟩/\fB L (n0 r0) ⟨s.ro,aA s.out r (bc L (s.ro r)),m⟩<=fB L (n0 r0) s/\((s.out r).length<(bc L (s.ro r)).length->fB L (n0 r0) ⟨s.ro,aA s.out r (bc L (s.ro r)),m⟩<fB L (n0 r0) s):=by
 have c:(s.out r).length<=(bc L (s.ro r)).length:=Dg (h.onod r hr) (h.out r hr);have d:=pQ (l:=L) (ids:=s.ro r);have e:=O6 (f:=λl:List Int=>L.length-l.length) (o:=s.out) hr (v:=bc L (s.ro r));refine⟨⟨h.sub,h.nd,h.ext,λj b k a=>?_,λj b=>?_⟩,?_,λi=>?_⟩
 ·by_cases e:j=r
  ·subst e;have a:k∈aA s.out j (bc L (s.ro j)) j:=a;rwa[iB]at a
  ·have a:k∈aA s.out r (bc L (s.ro r)) j:=a;rw[kL e]at a;exact h.out j b k a
 ·show(aA s.out r (bc L (s.ro r)) j).Nodup;by_cases e:j=r
  ·subst e;rw[iB];exact pR.imp λh=>by omega
  ·rw[kL e];exact h.onod j b
 ·unfold fB;dsimp only at e⊢;omega
 ·unfold fB;dsimp only at e⊢;omega
theorem gH.root{L:List Ob}(o:ak L){r0:Nat->List Int}{s:RS}(h:gH L r0 s){q:Nat}(hq:q<4){x:Int}(l:x∉s.ro q)(z:∀k,cA L [x] k->Nd L r0 q k)(m:0<=x/\x<(600:Nat)):
  gH L r0 ⟨aA s.ro q (s.ro q++[x]),s.out,true⟩/\fB L (n0 r0) ⟨aA s.ro q (s.ro q++[x]),s.out,true⟩<fB L (n0 r0) s:=by
 have f:∀j y,y∈s.ro j->y∈aA s.ro q (s.ro q++[x]) j:=λj y hy=>by
  by_cases e:j=q
  ·subst e;rw[iB];exact bh.2 (.inl hy)
  ·rw[kL e];exact hy
 have g:gH L r0 ⟨aA s.ro q (s.ro q++[x]),s.out,true⟩:=by
  refine⟨λj d y hy=>f j y (h.sub j d y hy),λj d y hy k i=>?_,λj d=>?_,λj d k w=>?_,h.onod⟩
  ·have hy:y∈aA s.ro q (s.ro q++[x]) j:=hy;by_cases e:j=q
   ·subst e;rw[iB]at hy;rcases bh.1 hy with hy|hy
    ·exact h.nd j d y hy k i
    ·rw[a1]at hy;subst hy;exact z k i
   ·rw[kL e]at hy;exact h.nd j d y hy k i
  ·show∃ex,aA s.ro q (s.ro q++[x]) j=r0 j++ex/\_;by_cases e:j=q
   ·subst e;rw[iB];obtain⟨ex,n,t,u⟩:=h.ext j d;refine⟨ex++[x],by rw[n,b3],?_,λy hy=>?_⟩
    ·rw[cq];exact⟨t,by simp,λa v c p=>by rw[a1]at p;subst p;exactλe=>l (by rw[n];exact bh.2 (.inr (e▸v)))⟩
    ·rcases bh.1 hy with hy|hy
     ·exact u y hy
     ·rw[a1]at hy;subst hy;exact m
   ·rw[kL e];exact h.ext j d
  ·show k∈bc L (aA s.ro q (s.ro q++[x]) j);rw[jf o];exact KW (f j) ((jf o).1 (h.out j d k w))
 refine⟨g,?_⟩;have b:=g.len hq;have b:(aA s.ro q (s.ro q++[x]) q).length<=(r0 q).length+600:=b;rw[iB,ad,al]at b
 have a:nT (λr=>600+n0 r0 r-(aA s.ro q (s.ro q++[x]) r).length)<nT (λr=>600+n0 r0 r-(s.ro r).length):=by
  unfold nT n0;rcases four hq with rfl|rfl|rfl|rfl<;>simp only[aA,ch,cond_true,cond_false,ad,al]<;>omega
 unfold fB;dsimp only at a⊢;omega
structure jt(L:List Ob)(r0:Nat->List Int)(mu:Nat)(r:Nat)(s:RS):Prop where
 inv:gH L r0 s
 le:fB L (n0 r0) s<=mu
 lt:s.more=true->fB L (n0 r0) s<mu
 out:s.more=false->∀j,j<r->s.out j=bc L (s.ro j)
 clo:s.more=false->∀j,j<r->∀l∈b8 L (s.out j),l.2∈s.ro l.1.toNat
structure iP(L:List Ob)(r0:Nat->List Int)(mu:Nat)(r:Nat)(all:List Int)(i:Nat)(s:RS):Prop where
 mid:jt L r0 mu r s
 here:s.out r=all
 out:s.more=false->s.out r=bc L (s.ro r)
 done:s.more=false->∀l∈(b8 L all).take i,l.2∈s.ro l.1.toNat
theorem jt.found{L:List Ob}(i:ak L){r0:Nat->List Int}{mu r:Nat}{s:RS}(h:jt L r0 mu r s)(hr:r<4):
  iP L r0 mu r (bc L (s.ro r)) 0 ⟨s.ro,aA s.out r (bc L (s.ro r)),s.more||decide ((s.out r).length<(bc L (s.ro r)).length)⟩:=by
 obtain⟨a,c,d⟩:=h.inv.found i hr (s.more||decide ((s.out r).length<(bc L (s.ro r)).length))
 have g:(s.more||decide ((s.out r).length<(bc L (s.ro r)).length))=false->s.more=false:=λe=>by
  cases b:s.more with
  |false=>rfl
  |true=>rw[b]at e;cases e
 refine⟨⟨a,co c h.le,λe=>?_,λe j f=>?_,λe j f=>?_⟩,iB,λe=>iB,λe l k=>by simp at k⟩
 ·cases b:s.more with
  |true=>exact Nat.lt_of_le_of_lt c (h.lt b)
  |false=>
   have e:(s.more||decide ((s.out r).length<(bc L (s.ro r)).length))=true:=e;rw[b,Bool.false_or]at e;exact bi (d (of_decide_eq_true e)) h.le
 ·show aA s.out r (bc L (s.ro r)) j=_;rw[kL (by omega)];exact h.out (g e) j f
 ·show∀l∈b8 L (aA s.out r (bc L (s.ro r)) j),_;rw[kL (by omega)];exact h.clo (g e) j f
theorem iP.skip{L:List Ob}{r0:Nat->List Int}{mu r i:Nat}{all:List Int}{s:RS}(h:iP L r0 mu r all i s)(hi:i<(b8 L all).length)(hin:(b8 L all)[i].2∈s.ro (b8 L all)[i].1.toNat):iP L r0 mu r all (i+1) s:=
 ⟨h.mid,h.here,h.out,λe l hl=>by
  rw[ap hi]at hl;rcases bh.1 hl with hl|hl
  ·exact h.done e l hl
  ·rw[a1]at hl;subst hl;exact hin⟩
theorem iP.add{L:List Ob}(b:ak L){r0:Nat->List Int}{mu r i:Nat}{all:List Int}{s:RS}(h:iP L r0 mu r all i s)(p:∀k∈all,Nd L r0 r k){q:Nat}(hq:q<4){x:Int}(hl:((q:Int),x)∈b8 L all)(d:x∉s.ro q):iP L r0 mu r all (i+1) ⟨aA s.ro q (s.ro q++[x]),s.out,true⟩:=by
 obtain⟨k,v,e,j,k3,n⟩:=tK.1 hl;have o:(q:Int)=e.ax:=congrArg (·.1) n;have f:x=e.id:=congrArg (·.2) n;have w:=qK b j;have u:=dC (l:=L) (id:=e.id) (by omega);have g:=b.len
 obtain ⟨a, c⟩ := h.mid.inv.root b hq d (λm t=>by
  have:=Nd.link (p k v) j k3 (f▸t);rw[<-o]at this;exact this) (by rw[f];omega)
 exact⟨⟨a,Nat.le_of_lt (bi c h.mid.le),λ_=>bi c h.mid.le,λe=>(by cases e),λe=>(by cases e)⟩,h.here,λe=>(by cases e),λe=>(by cases e)⟩
theorem iP.stop{L:List Ob}{r0:Nat->List Int}{mu r i:Nat}{all:List Int}{s:RS}(h:iP L r0 mu r all i s)(hi:¬i<(b8 L all).length):jt L r0 mu (r+1) s:=by
 refine⟨h.mid.inv,h.mid.le,h.mid.lt,λe j a=>?_,λe j a l b=>?_⟩
 ·rcases cb.1 a with a|rfl
  ·exact h.mid.out e j a
  ·exact h.out e
 ·rcases cb.1 a with a|rfl
  ·exact h.mid.clo e j a l b
  ·rw[h.here]at b;exact h.done e l (by rw[bl (by omega)];exact b)
theorem jt.start{L:List Ob}{r0:Nat->List Int}{s:RS}(h:gH L r0 s):jt L r0 (fB L (n0 r0) s) 0 ⟨s.ro,s.out,false⟩:=
 ⟨⟨h.sub,h.nd,h.ext,h.out,h.onod⟩,a9 _,λe=>(by cases e),λ_ j a=>absurd a (cx _),λ_ j a=>absurd a (cx _)⟩
theorem jt.fin{L:List Ob}{r0:Nat->List Int}{mu:Nat}{s:RS}(h:jt L r0 mu 4 s)(hm:s.more=false):r8 L s:=⟨λr a=>h.out hm r a,λr a=>h.clo hm r a⟩
end Go.Nest
end
