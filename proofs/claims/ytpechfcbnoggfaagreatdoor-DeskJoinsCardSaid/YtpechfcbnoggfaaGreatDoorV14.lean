import Derived.Test.YtpechfcbnoggfaaGreatDoorV10
import Derived.Test.YtpechfcbnoggfaaGreatDoorV11
import Derived.Test.YtpechfcbnoggfaaGreatDoorV25
import Derived.Test.YtpechfcbnoggfaaGreatDoorV50
set_option maxHeartbeats 4000000
set_option linter.unusedVariables false
set_option linter.unusedSimpArgs false
open Decidable renaming byContradiction->al,not_not->ar
open List renaming length_append->M,eq_nil_of_length_eq_zero->N,length_cons->O,length_singleton->S,length_nil->T,mem_cons->W,mem_singleton->Z,foldl_append->ac,foldl_cons->ad,mem_append->ah
open Nat renaming zero_le->J,mul_le_mul_right->U,le_trans->Y,add_mul->ap
open Prod renaming fst->Q,ext->am
section
namespace Go.Nest
open Go Go.AM
noncomputable def lR(s:FS)(x:ck):FS×List UInt8:=(ko s x,iU (pc s x))
def ET(a:List UInt8)(n:List Int)(w:List (List UInt8)):ck:=
 if a=[114,101,109,111,118,101]then⟨2,n.getD 0 0,0,w.getD 0 [],[],[],[]⟩
 else if a=[108,105,110,107]then⟨3,n.getD 0 0,n.getD 1 0,w.getD 0 [],w.getD 1 [],[],[]⟩
 else if a=[99,111,109,109,105,116]then⟨4,n.getD 0 0,0,[],w.getD 0 [],w.getD 1 [],[]⟩
 else if a=[99,104,101,99,107,111,117,116]then⟨5,n.getD 0 0,0,[],w.getD 0 [],[],[]⟩
 else if a=[109,101,114,103,101]then⟨6,n.getD 0 0,0,[],w.getD 0 [],[],[]⟩
 else if a=[98,114,97,110,99,104]then⟨7,n.getD 0 0,0,[],w.getD 0 [],[],[]⟩
 else if a=[100,101,108,101,116,101]then⟨8,n.getD 0 0,0,[],w.getD 0 [],[],[]⟩
 else if a=[102,101,116,99,104]then⟨9,n.getD 0 0,n.getD 1 0,[],w.getD 0 [],[],[]⟩
 else if a=[98,111,114,114,111,119]then⟨10,n.getD 0 0,n.getD 1 0,[],[],[],[]⟩
 else if a=[115,112,108,105,116]then⟨12,n.getD 0 0,0,w.getD 0 [],w.getD 1 [],[],[]⟩
 else⟨11,0,0,[],[],[],[]⟩
noncomputable def gK(s:FS)(a:List UInt8)(n:List Int)(w:List (List UInt8)):FS×List UInt8:=
 if a=[100,111,99,115]then(s,nh (ff s (n.getD 0 0)))
 else if a=[115,116,97,116,117,115]then(lG s (n.getD 0 0),kI (gz s (n.getD 0 0)))
 else if a=[114,101,102,115]then(s,nP (eU s (n.getD 0 0)) (gn s (n.getD 0 0)))
 else if a=[119,104,111,108,101]then(s,kM s.L (fJ s (n.getD 0 0)))
 else if a=[111,119,110]then(s,bF [fj (gT s (n.getD 0 0))])
 else if a = [119, 114, 105, 116, 101] then (match fA (w.getD 1 [])with
  |none=>(s,fI)
  |some b=>lR s ⟨1,n.getD 0 0,0,w.getD 0 [],[],[],b⟩)
 else lR s (ET a n w)
noncomputable def gq(s:FS)(l:List UInt8):FS×List UInt8:=
 if l=[]then(s,[])else
 if(eJ (b5 32 l).1).2=false\/(fE (eJ (b5 32 l).1).1 (b5 32 l).2.1 [] []).2.2=false\/((eJ (b5 32 l).1).1=[]/\l≠(b5 32 l).1)then(s,fI)else
 gK s (b5 32 l).1 (fE (eJ (b5 32 l).1).1 (b5 32 l).2.1 [] []).1 (fE (eJ (b5 32 l).1).1 (b5 32 l).2.1 [] []).2.1
noncomputable def cF(s:FS)(ls:List (List UInt8)):FS×List UInt8:=ls.foldl (λp l=>((gq p.1 l).1,p.2++(gq p.1 l).2)) (s,[])
theorem CN(s:FS)(a b:List (List UInt8)):(cF s (a++b)).1=(cF (cF s a).1 b).1/\(cF s (a++b)).2=(cF s a).2++(cF (cF s a).1 b).2:=by
 have d:∀(c:List (List UInt8)) (s:FS) (t:List UInt8),c.foldl (λ(p:FS×List UInt8) l=>((gq p.1 l).1,p.2++(gq p.1 l).2)) (s,t)=((cF s c).1,t++(cF s c).2):=by
  intro c;induction c with
  |nil=>intro s t;exact am rfl (List.append_nil t).symm
  |cons l c ih=>
   intro s t;unfold cF;rw[ad,ad,ih,ih];exact am rfl (by simp)
 unfold cF;rw[ac,d b];exact⟨rfl,rfl⟩
theorem cX.of{n:Int}(a: -1<=n)(h1:n<=1000):cX n:=cX.all (by omega) (by omega)
theorem Cd.num{c:Int}(h:Cd c):cX c:= .of (by have:=h.1;omega) (by have:=h.2;omega)
theorem Ir.num{c:Int}(h:Ir c):cX c:= .of (by have:=h.1;omega) (by have:=h.2;omega)
def iL(ws:List (List UInt8)):Nat:=(ws.map λw=>w.length+1).sum
theorem tD(ws:List (List UInt8)):(bF ws).length<=iL ws+1:=by
 unfold bF;rw[M,S];refine Nat.add_le_add_right ?_ 1;cases ws with
 |nil=>exact J _
 |cons x r=>
  rw[Lib.join_cons,M]
  have:∀r:List (List UInt8),(Lib.joinTail [32] r).length=iL r:=λr=>by
   induction r with
   |nil=>rfl
   |cons y r ih=>
    show(([32]++y)++Lib.joinTail [32] r).length=_;rw[M,ih];unfold iL;simp
  rw[this];unfold iL;simp
theorem qO{α:Type}{f:α->List UInt8}{B:Nat}:∀{l:List α},(∀x∈l,(f x).length<=B)->(l.flatMap f).length<=l.length*B
 |[],_=>by simp
 |x::l,h=>by
  have b:=h x (by simp);have c:=qO (l:=l) λy a=>h y (by simp[a]);rw[List.flatMap_cons,M,O,ap];omega
theorem O3(a:List UInt8):iL [a]=a.length+1:=rfl
theorem O4(a b:List UInt8):iL [a,b]=a.length+1+(b.length+1):=rfl
theorem O5(a b c:List UInt8):iL [a,b,c]=a.length+1+(b.length+1+(c.length+1)):=rfl
theorem xo(a:List UInt8):(bF [a]).length<=a.length+2:=by have:=tD [a];rw[O3]at this;omega
theorem xp(a b:List UInt8):(bF [a,b]).length<=a.length+b.length+3:=by have:=tD [a,b];rw[O4]at this;omega
theorem tF(a b c:List UInt8):(bF [a,b,c]).length<=a.length+b.length+c.length+4:=by have:=tD [a,b,c];rw[O5]at this;omega
theorem wg:kr.length<=10:=Y (xo _) (by decide)
theorem Df{c:Int}(h:cX c):(oG c).length<=40:=by
 have a:=xp [110,111] (bE c);have b:=h.l;show(bF _).length<=40;simp only[O,T]at a;omega
variable {L0:List Ob} {s:FS} {n:Nat}
theorem py{r:Int}(h:¬bC r=false):∃i:Nat,i<4/\r=(i:Nat)/\r.toNat=i:=by
 obtain⟨i,a,e⟩:=(bW (r:=r)).1 (by cases q:bC r;exact absurd q h;rfl);exact⟨i,a,e,by omega⟩
theorem A6(g:FI L0 s n)(r:Int):(nh (ff s r)).length<=200000:=by
 have c:(ff s r).length<=60/\∀d∈ff s r,d.path.length<=168/\d.bytes.length<=400:=by
  unfold ff;split
  ·exact⟨J _,λd h=>by cases h⟩
  ·rename_i h;obtain⟨i,j,_,e⟩:=py h;have b:=g.work i j;rw[e,List.length_map];refine⟨b.ok.len,λd a=>?_⟩;obtain⟨y,f,rfl⟩:=List.mem_map.1 a;exact⟨rz (b.ok.path y f),b.kU y f⟩
 have k:((ff s r).flatMap lS).length<=(ff s r).length*1800:=qO λd a=>by
  have q:=tF [100,111,99] d.path (eV d.bytes);have o:=c.2 d a;have p:=uq d.bytes;show(bF _).length<=_;simp only[O,T]at q;omega
 have l:(ff s r).length*1800<=60*1800:=U _ c.1;have m:=wg;show((ff s r).flatMap lS++kr).length<=_;rw[M];omega
theorem Nb{l:List Rf}{m:List Mv}(h:gI l m):∀x∈l,bP x.name=0:=by
 induction h with
 |nil=>intro x b;cases b
 | @snoc l m e a id h c ih=>
  intro x b;rcases yC (l:=l) (name:=e) (old:=a) (id:=id) (x:=x) (by unfold aY;rw[if_pos c];exact b)with d|⟨rfl,_⟩
  ·exact ih x d
  ·exact(o7 c).1
theorem D6(b:FI L0 s n)(k:KA s)(r:Int):∀x∈eU s r,cX x.id:=by
 unfold eU;split
 ·intro x a;cases a
 ·rename_i h;obtain⟨i,c,_,e⟩:=py h;rw[e];exactλx a=>(oo b.pool (k.ref i c x a)).num
theorem B2(a:FI L0 s n)(h:Hd s)(r:Int):cX (gn s r):=by
 unfold gn;split
 ·exact .of (by decide) (by decide)
 ·rename_i c;obtain⟨i,b,_,e⟩:=py c;rw[e];by_cases d:s.h i<0
  ·exact .of (h i b) (by omega)
  ·exact(oo a.pool ((a.work i b).head.k3 (by omega))).num
theorem D5(a:FI L0 s n)(k:KA s)(h:Hd s)(r:Int):(nP (eU s r) (gn s r)).length<=200000:=by
 have c:(eU s r).length<=8/\∀x∈eU s r,x.name.length<=20:=by
  unfold eU;split
  ·exact⟨J _,λd h=>by cases h⟩
  ·rename_i h;obtain⟨i,f,_,e⟩:=py h;rw[e];exact⟨(a.refs i f).inv.len,λx b=>oC (Nb (a.refs i f) x b)⟩
 have j:((eU s r).flatMap mw).length<=(eU s r).length*100:=qO λx b=>by
  have q:=tF [114,101,102] x.name (bE x.id);have p:=c.2 x b;have t:=(D6 a k r x b).l;show(bF _).length<=_;simp only[O,T]at q;omega
 have m:(eU s r).length*100<=8*100:=U _ c.1;have g:=xp [104,101,97,100] (bE (gn s r));have o:=(B2 a h r).l;simp only[O,T]at g;show((eU s r).flatMap mw++bF _).length<=_;rw[M];omega
theorem DD(a:FI L0 s n)(r:Int):∀x∈gT s r,cX x:=λx b=>by
 obtain⟨k,c,_,rfl⟩:=LC.1 b;have:=a.pool.len;exact .of (by omega) (by omega)
theorem DA(a:FI L0 s n)(r:Int):(bF [fj (gT s r)]).length<=200000:=by
 have b:=xo (fj (gT s r));have c:=DC (DD a r);have d:(gT s r).length<=s.L.length:=xn;have e:=a.pool.len
 have f:(fj (gT s r)).length=3+((gT s r).flatMap tj).length:=by
  unfold fj;rw[M];rfl
 omega
theorem Fm{L:List Ob}{has:Int->Int->Bool}{r id:Int}:(dZ L has r id).1.length<=60/\((dZ L has r id).2=0->∀f∈(dZ L has r id).1,f.path.length<=168):=by
 by_cases h:(dZ L has r id).2=0
 ·have e:=PE (L:=L) (has:=has) (r:=r) (id:=id) (all:=(dZ L has r id).1) (am rfl h);refine⟨e.2.2.2.2.2.1,λ_=>?_⟩;unfold dZ at h⊢;split
  ·rename_i b;rw[if_pos b]at h;split
   ·rename_i c;exactλf a=>rz (qy c f a).1
   ·intro f a;cases a
  ·intro f a;cases a
 ·refine⟨?_,λd=>absurd d h⟩;unfold dZ at h⊢;split
  ·rename_i b;rw[if_pos b]at h;split
   ·rename_i c;rw[if_pos c]at h;exact absurd rfl h
   ·exact J _
  ·exact J _
theorem Fo(g:FI L0 s n)(r:Int):(kM s.L (fJ s r)).length<=200000:=by
 unfold kM;obtain⟨d,e⟩:(fJ s r).1.length<=60/\((fJ s r).2=0->∀f∈(fJ s r).1,f.path.length<=168):=Fm;split
 ·have:=Df (c:=(fJ s r).2) (Fk _ _ _ _).num;omega
 ·rename_i a;have a:=e (ar.1 a)
  have h:((fJ s r).1.flatMap (nj s.L)).length<=(fJ s r).1.length*1800:=qO λf b=>by
   have q:=tF [100,111,99] f.path (eV (aj s.L f.id).bytes);have k:=a f b;have l:=uq (aj s.L f.id).bytes;have m:=j6.kU g.pool f.id;show(bF _).length<=_;simp only[O,T]at q;omega
  have i:(fJ s r).1.length*1800<=60*1800:=U _ d;have j:=wg;rw[M];omega
theorem oA:∀(a b:List Fi),∀x∈bT a b,(x.old=du\/x.old∈a)/\(x.new=du\/x.new∈b)/\((∃f∈a,f.path=x.path)\/∃f∈b,f.path=x.path)
 |[],[],x,h=>by unfold bT at h;cases h
 |a::j,[],x,h=>by
  unfold bT at h;rcases W.1 h with rfl|h
  ·exact⟨.inr (by simp),.inl rfl,.inl ⟨a,by simp,rfl⟩⟩
  ·obtain⟨d,g,i⟩:=oA j [] x h;exact⟨d.imp_right λh=>by simp[h],g,i.imp_left λ⟨f,c,e⟩=>⟨f,by simp[c],e⟩⟩
 |[],b::k,x,h=>by
  unfold bT at h;rcases W.1 h with rfl|h
  ·exact⟨.inl rfl,.inr (by simp),.inr ⟨b,by simp,rfl⟩⟩
  ·obtain⟨d,g,i⟩:=oA [] k x h;exact⟨d,g.imp_right λh=>by simp[h],i.imp_right λ⟨f,c,e⟩=>⟨f,by simp[c],e⟩⟩
 |a::j,b::k,x,h=>by
  unfold bT at h;split at h
  ·rcases W.1 h with rfl|h
   ·exact⟨.inr (by simp),.inl rfl,.inl ⟨a,by simp,rfl⟩⟩
   ·obtain⟨d,g,i⟩:=oA j (b::k) x h;exact⟨d.imp_right λh=>by simp[h],g,i.imp_left λ⟨f,c,e⟩=>⟨f,by simp[c],e⟩⟩
  split at h
  ·rcases W.1 h with rfl|h
   ·exact⟨.inl rfl,.inr (by simp),.inr ⟨b,by simp,rfl⟩⟩
   ·obtain⟨d,g,i⟩:=oA (a::j) k x h;exact⟨d,g.imp_right λh=>by simp[h],i.imp_right λ⟨f,c,e⟩=>⟨f,by simp[c],e⟩⟩
  have more:x∈bT j k->(x.old=du\/x.old∈a::j)/\(x.new=du\/x.new∈b::k)/\((∃f∈a::j,f.path=x.path)\/∃f∈b::k,f.path=x.path):=λh=>by
   obtain⟨d,g,i⟩:=oA j k x h;exact⟨d.imp_right λh=>by simp[h],g.imp_right λh=>by simp[h],i.imp (λ⟨f,c,e⟩=>⟨f,by simp[c],e⟩) λ⟨f,c,e⟩=>⟨f,by simp[c],e⟩⟩
  split at h
  ·rcases W.1 h with rfl|h
   ·exact⟨.inr (by simp),.inr (by simp),.inl ⟨a,by simp,rfl⟩⟩
   ·exact more h
  ·exact more h
termination_by a b=>a.length+b.length
def mO(f:Fi):Prop:=f.path.length<=168/\0<=f.mode/\f.mode<4
theorem Jf{L:List Ob}(b:ak L)(t:Int):(bq L t).1.length<=60/\∀f∈(bq L t).1,mO f:=by
 by_cases a:(bq L t).2=0
 ·obtain⟨c,g,i⟩:=qN b a;obtain⟨m,n⟩:=iM b c.1;obtain⟨o,e⟩:=c.2.si b m n;refine⟨g,λf d=>?_⟩;obtain⟨j,p⟩:=e f d;have k:=oR (aG f.path) λs l=>oC (oD j s l);rw[mK]at k;have q:=i f d;exact⟨by omega,by omega,by omega⟩
 ·unfold bq at a⊢;split
  ·rename_i h;rw[if_pos h]at a;exact absurd rfl a
  ·exact⟨J _,λf h=>by cases h⟩
theorem wz:∀(l:List It) (L:List Ob) (out:List Fi),(∀y∈l,y.path.length<=168)->(∀f∈out,mO f)->(aR L l out).1.length<=out.length+l.length/\∀f∈(aR L l out).1,mO f
 |[],L,out,_,b=>by unfold aR;exact⟨Nat.le_refl _,b⟩
 |x::r,L,out,c,b=>by
  have d:∀y∈r,y.path.length<=168:=λy j=>c y (by simp[j]);have e:=c x (by simp)
  have app:∀f,mO f->∀g∈out++[f],mO g:=λf i g hg=>by
   rcases ah.1 hg with hg|hg
   ·exact b g hg
   ·rw[Z.1 hg];exact i
  unfold aR;split
  ·have:=wz r L (out++[jJ x]) d (app _ ⟨e,(by decide:(0:Int)<=3),(by decide:(3:Int)<4)⟩);refine⟨?_,this.2⟩;have a:=this.1;rw[M,S]at a;rw[O];omega
  split
  ·exact⟨J _,λf h=>by cases h⟩
  ·have:=wz r (aB L (dt x.bytes)).2.2 (out++[⟨x.path,1,(aB L (dt x.bytes)).1,0⟩]) d (app _ ⟨e,(by decide:(0:Int)<=1),(by decide:(1:Int)<4)⟩);refine⟨?_,this.2⟩;have a:=this.1;rw[M,S]at a;rw[O];omega
structure mQ(R:List Ch×Int):Prop where
 c:Cd R.2
 len:R.1.length<=120
 md:∀x∈R.1,(0<=x.old.mode/\x.old.mode<4)/\(0<=x.new.mode/\x.new.mode<4)
 p:∀x∈R.1,x.path.length<=168
theorem mQ.code{c:Int}(h:Cd c):mQ ([],c):=⟨h,J _,λx h=>(by cases h),λx h=>(by cases h)⟩
theorem mQ.AY{a b:List Fi}(i:a.length<=60/\∀f∈a,mO f)(hb:b.length<=60/\∀f∈b,mO f):mQ (bT a b,0):=by
 have g:mO du:=⟨J _,(by decide:(0:Int)<=0),(by decide:(0:Int)<4)⟩;refine⟨ba rfl,?_,λx d=>?_,λx d=>?_⟩
 ·have:=pb a b;show(bT a b).length<=120;omega
 ·obtain⟨j,k,_⟩:=oA a b x d;refine⟨?_,?_⟩
  ·rcases j with e|h
   ·rw[e];exact g.2
   ·exact(i.2 _ h).2
  ·rcases k with e|h
   ·rw[e];exact g.2
   ·exact(hb.2 _ h).2
 ·obtain⟨_,_,l⟩:=oA a b x d;rcases l with⟨f,c,e⟩|⟨f,c,e⟩
  ·rw[<-e];exact(i.2 f c).1
  ·rw[<-e];exact(hb.2 f c).1
theorem uz(c:FI L0 s n)(r:Int):mQ (gz s r):=by
 unfold gz;split
 ·exact .code (ba rfl)
 ·rename_i k;obtain⟨i,j,_,e⟩:=py k;rw[e];have d:=c.work i j;have a:=wz (s.w i) s.L [] (λy m=>rz (d.ok.path y m)) (λf h=>by cases h)
  have b:(aR s.L (s.w i) []).1.length<=60:=by
   have:=a.1;have:=d.ok.len;simp only[T]at*;omega
  have g:=(lV (l:=s.w i) (out:=[]) c.pool).1;unfold oO;refine av (P:=mQ) (λ_=>.code (sV _ _ _)) (λ_=>av (P:=mQ) (λ_=>.AY ⟨J _,λf h=>by cases h⟩ ⟨b,a.2⟩) (λ_=>av (P:=mQ) (λ_=>.code (sU _ _)) (λ_=>.AY (Jf g _) ⟨b,a.2⟩)))
theorem EO(b:FI L0 s n)(r:Int):(kI (gz s r)).length<=200000:=by
 have h:=uz b r;generalize gz s r=R at h;unfold kI;split
 ·have:=Df h.c.num;omega
 ·have a:∀m:Int,(iy m).length<=4:=λm=>by
   unfold iy;repeat' split
   all_goals decide
  have d:(R.1.flatMap mW).length<=R.1.length*200:=qO λx c=>by
   have q:=tF (iy x.old.mode) (iy x.new.mode) x.path;have g:=h.p x c;have i:=a x.old.mode;have j:=a x.new.mode;show(bF _).length<=_;omega
  have e:R.1.length*200<=120*200:=U _ h.len;have f:=wg;rw[M];omega
theorem EV{B:Nat}:∀{ws:List (List UInt8)},(∀w∈ws,w.length<=B)->iL ws<=ws.length*(B+1)
 |[],_=>J _
 |w::ws,h=>by
  have b:=h w (by simp);have c:=EV (ws:=ws) λy a=>h y (by simp[a]);rw[show iL (w::ws)=w.length+1+iL ws by simp[iL],O,ap];omega
theorem Bh{e:cz}(h:bQ e):(iU e).length<=200000:=by
 unfold iU;split
 ·have a:=tD ([110,111]::bE e.code::e.cf);rw[show iL ([110,111]::bE e.code::e.cf)=3+((bE e.code).length+1+iL e.cf)by simp[iL]]at a;have b:=h.c.num.l;have c:=EV h.l;have d:e.cf.length*(168+1)<=180*(168+1):=U _ h.n;omega
 ·have a:=xp [111,107] (bE e.id);have b:=h.i.num.l;simp only[O,T]at a;omega
theorem uJ:fI.length<=10:=Y (xo _) (by decide)
structure DI(s:FS)(n:Nat):Prop where
 fi:FI [] s n
 ka:KA s
 hd:Hd s
theorem DI.nil:DI c8 0:=⟨FI.nil,KA.nil,λk a=>(by decide:(-1:Int)≤-1)⟩
theorem DI.do{s:FS}{n:Nat}(h:DI s n)(x:ck):DI (ko s x) (n+1):=⟨h.fi.step x,KX.step h.fi h.ka x,h.hd.step h.fi x⟩
theorem DI.up{s:FS}{n:Nat}(h:DI s n):DI s (n+1):=⟨h.fi.up (Nat.le_succ n),h.ka,h.hd⟩
theorem yo:∀(l:List It) (L:List Ob) (out:List Fi),dz L->ak L->dz (aR L l out).2.2
 |[],L,out,h,_=>by unfold aR;exact h
 |x::r,L,out,h,b=>by
  have a:dz (aB L (dt x.bytes)).2.2:=h.mono (jQ _) (rB (by show(1:Int)≠3;decide));unfold aR;split
  ·exact yo r L _ h b
  split
  ·exact a
  ·exact yo r _ _ a (jP b _)
theorem DI.stat{s:FS}{n:Nat}(h:DI s n)(r:Int):DI (lG s r) (n+1):=by
 unfold lG;split
 ·exact h.up
 ·rename_i j;obtain⟨i,c,_,e⟩:=py j;rw[e];obtain⟨a,b⟩:=lV (l:=s.w i) (out:=[]) h.fi.pool;refine DI.up ⟨h.fi.cC a b ((h.fi.work i c).ext b),?_,h.hd.cC c λh=>h⟩;exact KX.mL h.fi h.ka a b (yo _ _ _ h.ka.ej h.fi.pool) (λy k g=>iV b (h.ka.dD i c y k g)) λf _ d=>(h.ka.hd i c f d).more h.fi.pool a b ((h.fi.work i c).head.k3 d)
theorem DI.ask{s:FS}{n:Nat}(h:DI s n)(w:List UInt8)(ns:List Int)(ws:List (List UInt8)):DI (gK s w ns ws).1 (n+1)/\(gK s w ns ws).2.length<=200000:=by
 have a:∀x,DI (lR s x).1 (n+1)/\(lR s x).2.length<=200000:=λx=>⟨h.do x,Bh (A4 h.fi h.ka x)⟩;unfold gK;refine av (P:=λp:FS×List UInt8=>DI p.1 (n+1)/\p.2.length<=200000) (λ_=>⟨h.up,A6 h.fi _⟩) (λ_=>av (P:=λp:FS×List UInt8=>DI p.1 (n+1)/\p.2.length<=200000) (λ_=>⟨h.stat _,EO h.fi _⟩) (λ_=>av (P:=λp:FS×List UInt8=>DI p.1 (n+1)/\p.2.length<=200000) (λ_=>⟨h.up,D5 h.fi h.ka h.hd _⟩) (λ_=>av (P:=λp:FS×List UInt8=>DI p.1 (n+1)/\p.2.length<=200000) (λ_=>⟨h.up,Fo h.fi _⟩) (λ_=>av (P:=λp:FS×List UInt8=>DI p.1 (n+1)/\p.2.length<=200000) (λ_=>⟨h.up,DA h.fi _⟩) (λ_=>av (P:=λp:FS×List UInt8=>DI p.1 (n+1)/\p.2.length<=200000) (λ_=>?_) (λ_=>a _))))));split
 ·exact⟨h.up,Y uJ (by decide)⟩
 ·exact a _
theorem DI.line{s:FS}{n:Nat}(h:DI s n)(l:List UInt8):DI (gq s l).1 (n+1)/\(gq s l).2.length<=200000:=by
 unfold gq;exact av (P:=λp:FS×List UInt8=>DI p.1 (n+1)/\p.2.length<=200000) (λ_=>⟨h.up,J _⟩) (λ_=>av (P:=λp:FS×List UInt8=>DI p.1 (n+1)/\p.2.length<=200000) (λ_=>⟨h.up,Y uJ (by decide)⟩) (λ_=>h.ask _ _ _))
theorem xl(s:FS)(a:List (List UInt8))(l:List UInt8):cF s (a++[l])=((gq (cF s a).1 l).1,(cF s a).2++(gq (cF s a).1 l).2):=by
 unfold cF;rw[ac];rfl
theorem DI.lines{s:FS}{n:Nat}(h:DI s n)(ls:List (List UInt8)):∀i,i<=ls.length->DI (cF s (ls.take i)).1 (n+i)/\(cF s (ls.take i)).2.length<=200000*i
 |0,_=>⟨h,J _⟩
 |i+1,b=>by
  have ih:=DI.lines h ls i (by omega);have a:=ih.1.line ls[i];rw[List.take_succ_eq_append_getElem b,xl];refine⟨a.1,?_⟩;rw[M];have c:=ih.2;have d:=a.2;rw[Nat.mul_succ];omega
end Go.Nest
end
section
namespace Go.Nest
open Go Go.AM Go.Proofs
open Go.Proofs.YtpechfcbnoggfaaGreatDoor (tab tabOk)
set_option maxRecDepth 100000
def qA:List UInt8->Nat
 |[]=>0
 |s::r=>if s=116 then 0 else if s=119 then qA r else 1+qA r
def qB:List UInt8->Nat
 |[]=>0
 |s::r=>if s=116 then 1 else if s=119 then 1+qB r else qB r
theorem xP:∀(b rest:List UInt8) (ns:List Int) (ws:List (List UInt8)) {n:List Int} {w:List (List UInt8)},fE b rest ns ws=(n,w,true)->n.length=ns.length+qA b/\w.length=ws.length+qB b
 |[],rest,ns,ws,n,w,h=>by
  unfold fE at h;injection h with d a
  injection a with a _
  subst d a;exact⟨rfl,rfl⟩
 |s::b,rest,ns,ws,n,w,h=>by
  unfold fE at h;unfold qA qB;split at h
  ·rename_i e;injection h with d a
   injection a with a _
   subst d a;rw[if_pos e,if_pos e,M];exact⟨rfl,rfl⟩
  rename_i e;rw[if_neg e,if_neg e];split at h
  ·injection h with _ a;injection a with _ a;cases a
  split at h
  ·injection h with _ a;injection a with _ a;cases a
  split at h
  ·rename_i c;rw[if_pos c,if_pos c];have:=xP b _ _ _ h;rw[M,S]at this;omega
  ·rename_i c;rw[if_neg c,if_neg c];split at h
   ·injection h with _ a;injection a with _ a;cases a
   ·have:=xP b _ _ _ h;rw[M,S]at this;omega
theorem AP{l:List UInt8}:(b5 32 l).1.length<=l.length/\(b5 32 l).2.1.length<=l.length:=by
 unfold b5;split
 ·exact⟨by simp;omega,by simp⟩
 ·simp
theorem xQ{B:Nat}:∀(b rest:List UInt8) (ns:List Int) (ws:List (List UInt8)),rest.length<=B->(∀x∈ws,x.length<=B)->∀x∈(fE b rest ns ws).2.1,x.length<=B
 |[],rest,ns,ws,c,a=>by unfold fE;exact a
 |s::b,rest,ns,ws,c,a=>by
  have e:=AP (l:=rest)
  have app:∀y:List UInt8,y.length<=B->∀x∈ws++[y],x.length<=B:=λy d x hx=>by
   rcases ah.1 hx with hx|hx
   ·exact a x hx
   ·rw[Z.1 hx];exact d
  unfold fE;split
  ·exact app rest c
  split
  ·intro x hx;cases hx
  split
  ·intro x hx;cases hx
  split
  ·exact xQ b _ _ _ (by omega) (app _ (by omega))
  split
  ·intro x hx;cases hx
  ·exact xQ b _ _ _ (by omega) a
theorem N5{w a:List UInt8}(h:eJ w=(a,true)):w∈oE:=by
 unfold eJ at h;split at h
 ·injection h with _ h;cases h
 ·rename_i b;unfold kD at b;rcases qU (p:=λx=>decide (x=w)) (l:=oE)with⟨e,_⟩|⟨i,c,_,_,d⟩
  ·rw[e]at b;exact absurd (by decide) b
  ·have:=of_decide_eq_true d;rw[<-this];exact List.getElem_mem c
theorem yg(w:List UInt8):(eJ w).1.length<=4:=by
 unfold eJ;split
 ·exact J _
 ·have a:∀x∈nR,x.length<=4:=by decide
  show(nR.getD _ []).length<=4;rw[List.getD_eq_getElem?_getD];cases e:nR[(kD w).toNat]? with
  |none=>exact J _
  |some x=>exact a x (List.mem_of_getElem? e)
theorem fC{α:Type}{l:List α}(h:l.length=1):∃a,l=[a]:=by
 match l,h with
 |[a],_=>exact⟨a,rfl⟩
theorem oQ{α:Type}{l:List α}(h:l.length=2):∃a b,l=[a,b]:=by
 match l,h with
 |[a,b],_=>exact⟨a,b,rfl⟩
theorem Gb(u:Bool)(s:FS)(t:List UInt8)(r:Int)(a x:List UInt8)(d:x.length<=4000000)(hm:fA x=none)(hl:t.length+fI.length<=100000000):
  aa Tryz.prog 116 [.c (.ptr 11 0),.c (.str [119,114,105,116,101]),.c (.bs 1 Int encI [r]),.c (.bs 1 (List UInt8) encS [a,x])] (aP u s t) (Rt (.ao []) (aT true s (t++fI))):=by
 have q:=C1 x d;rw[hm]at q;have p:=fF u s t [[119,104,97,116]] hl (by decide);refine af (n:=76) (n0:=34) tabOk Tryz.call116 Tryz.func116 ?_;intro hb
 cases b:u<;>(
  rw[b]at p;refine⟨1,x,rfl,rfl,?_⟩;refine cl [] [] (q) ?_;refine⟨[[119,104,97,116]],rfl,?_⟩;refine aE (mD 0) (bK 24 (d22++[.row 1 UInt8 aN [],.row 1 (List UInt8) encS [[119,104,97,116]]]) true s (t++fI)) p ?_;exact aF (rD 24))
def yN(u:Bool)(s:FS)(t a:List UInt8)(ns:List Int)(ws:List (List UInt8))(p:FS×List UInt8):Prop:=
 aa Tryz.prog 116 [.c (.ptr 11 0),.c (.str a),.c (.bs 1 Int encI ns),.c (.bs 1 (List UInt8) encS ws)] (aP u s t) (Rt (.ao []) (aT true p.1 (t++p.2)))
theorem jB(u:Bool){s:FS}{n:Nat}(h:DI s n)(hn:n<=900)(t:List UInt8)(x:ck)(b:x.path.length<=4000000)(d:t.length+200000<=100000000):
  aa Tryz.prog 196 [.c (.ptr 11 0),.st (az x)] (aP u s t) (Rt (.ao []) (aT true (lR s x).1 (t++(lR s x).2))):=by
 have a:=A4 h.fi h.ka x;exact wa u s (ko s x) t x (pc s x) (IN h.fi hn x b) (λ_=>a.c.num) (λ_=>a.i.num) (by have:=a.n;omega) (by rw[M];have:=Bh a;omega)
theorem kc{s:FS}{w:List UInt8}{ns:List Int}{ws:List (List UInt8)}{x:ck}(h1:w≠[100,111,99,115])(h2:w≠[115,116,97,116,117,115])(a:w≠[114,101,102,115])(b:w≠[119,104,111,108,101])(c:w≠[111,119,110])(d:w≠[119,114,105,116,101])(e:ET w ns ws=x):gK s w ns ws=lR s x:=by
 unfold gK;rw[if_neg h1,if_neg h2,if_neg a,if_neg b,if_neg c,if_neg d,e]
theorem FW(u:Bool){s:FS}{n:Nat}(h:DI s n)(hn:n<=900)(t l d:List UInt8)(ns:List Int)(ws:List (List UInt8))(f:eJ l=(d,true))(g:ns.length=qA d)(i:ws.length=qB d)(k:∀w∈ws,w.length<=1000000)(j:t.length+200000<=100000000):yN u s t l ns ws (gK s l ns ws):=by
 have o:=h.fi.wf (by omega);have p:=N5 f;have fin:∀x:List UInt8,x.length<=200000->(t++x).length<=100000000:=λx v=>by rw[M];omega
 unfold yN;simp only[oE,W,List.not_mem_nil,or_false]at p;rcases p with rfl|rfl|rfl|rfl|rfl|rfl|rfl|rfl|rfl|rfl|rfl|rfl|rfl|rfl|rfl|rfl|rfl
 ·obtain rfl:d=[110,119,116]:=(congrArg Q f).symm.trans (by decide+kernel);obtain⟨r,rfl⟩:=fC g;obtain⟨a,x,rfl⟩:=oQ i
  have e:gK s [119,114,105,116,101] [r] [a,x]=match fA x with
   |none=>(s,fI)
   |some b=>lR s ⟨1,r,0,a,[],[],b⟩:=(if_neg (by decide)).trans ((if_neg (by decide)).trans ((if_neg (by decide)).trans ((if_neg (by decide)).trans ((if_neg (by decide)).trans (if_pos rfl)))))
  rw[e];have v:=k x (by simp);have y:=k a (by simp);cases m:fA x with
  |none=>exact Gb u s t r a x (by omega) m (by have:=uJ;omega)
  |some b=>exact zA u s _ t _ r a x b (by omega) m (jB u h hn t ⟨1,r,0,a,[],[],b⟩ (show a.length<=4000000 by omega) j)
 ·obtain rfl:d=[110,119]:=(congrArg Q f).symm.trans (by decide+kernel);obtain⟨r,rfl⟩:=fC g;obtain⟨a,rfl⟩:=fC i;rw[kc (x:=⟨2,r,0,a,[],[],[]⟩) (by decide) (by decide) (by decide) (by decide) (by decide) (by decide) (by kernel_rfl)];exact F8 u s _ t _ [r] [a] ⟨2,r,0,a,[],[],[]⟩ (OR r a) (jB u h hn t ⟨2,r,0,a,[],[],[]⟩ (show a.length<=4000000 by have:=k a (by simp);omega) j)
 ·obtain rfl:d=[110,119,110,119]:=(congrArg Q f).symm.trans (by decide+kernel);obtain⟨r,q,rfl⟩:=oQ g;obtain⟨a,x,rfl⟩:=oQ i;rw[kc (x:=⟨3,r,q,a,x,[],[]⟩) (by decide) (by decide) (by decide) (by decide) (by decide) (by decide) (by kernel_rfl)];exact F5 u s _ t _ [r,q] [a,x] ⟨3,r,q,a,x,[],[]⟩ (OP r q a x) (jB u h hn t ⟨3,r,q,a,x,[],[]⟩ (show a.length<=4000000 by have:=k a (by simp);omega) j)
 ·obtain rfl:d=[110,119,116]:=(congrArg Q f).symm.trans (by decide+kernel);obtain⟨r,rfl⟩:=fC g;obtain⟨a,x,rfl⟩:=oQ i;rw[kc (x:=⟨4,r,0,[],a,x,[]⟩) (by decide) (by decide) (by decide) (by decide) (by decide) (by decide) (by kernel_rfl)];exact zr u s _ t _ [r] [a,x] ⟨4,r,0,[],a,x,[]⟩ (EU r a x) (jB u h hn t ⟨4,r,0,[],a,x,[]⟩ (J _) j)
 ·obtain rfl:d=[110,119]:=(congrArg Q f).symm.trans (by decide+kernel);obtain⟨r,rfl⟩:=fC g;obtain⟨a,rfl⟩:=fC i;rw[kc (x:=⟨5,r,0,[],a,[],[]⟩) (by decide) (by decide) (by decide) (by decide) (by decide) (by decide) (by kernel_rfl)];exact FZ u s _ t _ [r] [a] ⟨5,r,0,[],a,[],[]⟩ (OL r a) (jB u h hn t ⟨5,r,0,[],a,[],[]⟩ (J _) j)
 ·obtain rfl:d=[110,119]:=(congrArg Q f).symm.trans (by decide+kernel);obtain⟨r,rfl⟩:=fC g;obtain⟨a,rfl⟩:=fC i;rw[kc (x:=⟨6,r,0,[],a,[],[]⟩) (by decide) (by decide) (by decide) (by decide) (by decide) (by decide) (by kernel_rfl)];exact F6 u s _ t _ [r] [a] ⟨6,r,0,[],a,[],[]⟩ (OQ r a) (jB u h hn t ⟨6,r,0,[],a,[],[]⟩ (J _) j)
 ·obtain rfl:d=[110,119]:=(congrArg Q f).symm.trans (by decide+kernel);obtain⟨r,rfl⟩:=fC g;obtain⟨a,rfl⟩:=fC i;rw[kc (x:=⟨7,r,0,[],a,[],[]⟩) (by decide) (by decide) (by decide) (by decide) (by decide) (by decide) (by kernel_rfl)];exact FY u s _ t _ [r] [a] ⟨7,r,0,[],a,[],[]⟩ (OK r a) (jB u h hn t ⟨7,r,0,[],a,[],[]⟩ (J _) j)
 ·obtain rfl:d=[110,119]:=(congrArg Q f).symm.trans (by decide+kernel);obtain⟨r,rfl⟩:=fC g;obtain⟨a,rfl⟩:=fC i;rw[kc (x:=⟨8,r,0,[],a,[],[]⟩) (by decide) (by decide) (by decide) (by decide) (by decide) (by decide) (by kernel_rfl)];exact F3 u s _ t _ [r] [a] ⟨8,r,0,[],a,[],[]⟩ (OM r a) (jB u h hn t ⟨8,r,0,[],a,[],[]⟩ (J _) j)
 ·obtain rfl:d=[110,110,119]:=(congrArg Q f).symm.trans (by decide+kernel);obtain⟨r,q,rfl⟩:=oQ g;obtain⟨a,rfl⟩:=fC i;rw[kc (x:=⟨9,r,q,[],a,[],[]⟩) (by decide) (by decide) (by decide) (by decide) (by decide) (by decide) (by kernel_rfl)];exact F4 u s _ t _ [r,q] [a] ⟨9,r,q,[],a,[],[]⟩ (ON r q a) (jB u h hn t ⟨9,r,q,[],a,[],[]⟩ (J _) j)
 ·obtain rfl:d=[110,110]:=(congrArg Q f).symm.trans (by decide+kernel);obtain⟨r,q,rfl⟩:=oQ g;obtain rfl:=N i;rw[kc (x:=⟨10,r,q,[],[],[],[]⟩) (by decide) (by decide) (by decide) (by decide) (by decide) (by decide) (by kernel_rfl)];exact FX u s _ t _ [r,q] [] ⟨10,r,q,[],[],[],[]⟩ (OJ r q) (jB u h hn t ⟨10,r,q,[],[],[],[]⟩ (J _) j)
 ·obtain rfl:d=[]:=(congrArg Q f).symm.trans (by decide+kernel);obtain rfl:=N g;obtain rfl:=N i;rw[kc (x:=⟨11,0,0,[],[],[],[]⟩) (by decide) (by decide) (by decide) (by decide) (by decide) (by decide) (by kernel_rfl)];exact Ga u s _ t _ [] [] ⟨11,0,0,[],[],[],[]⟩ (OT) (jB u h hn t ⟨11,0,0,[],[],[],[]⟩ (J _) j)
 ·obtain rfl:d=[110,119,119]:=(congrArg Q f).symm.trans (by decide+kernel);obtain⟨r,rfl⟩:=fC g;obtain⟨a,x,rfl⟩:=oQ i;rw[kc (x:=⟨12,r,0,a,x,[],[]⟩) (by decide) (by decide) (by decide) (by decide) (by decide) (by decide) (by kernel_rfl)];exact F9 u s _ t _ [r] [a,x] ⟨12,r,0,a,x,[],[]⟩ (OS r a x) (jB u h hn t ⟨12,r,0,a,x,[],[]⟩ (show a.length<=4000000 by have:=k a (by simp);omega) j)
 ·obtain rfl:d=[110]:=(congrArg Q f).symm.trans (by decide+kernel);obtain⟨r,rfl⟩:=fC g;obtain rfl:=N i;rw[show gK s [100,111,99,115] [r] []=(s,nh (ff s r))from if_pos rfl];exact zt u s s t _ r (A5 u s o t r (fin _ (A6 h.fi r)))
 ·obtain rfl:d=[110]:=(congrArg Q f).symm.trans (by decide+kernel);obtain⟨r,rfl⟩:=fC g;obtain rfl:=N i;rw[show gK s [115,116,97,116,117,115] [r] []=(lG s r,kI (gz s r))from(if_neg (by decide)).trans (if_pos rfl)];exact zy u s (lG s r) t _ r (EP u s o t r (by have:=(uz h.fi r).len;omega) (uz h.fi r).md (λ_=>(uz h.fi r).c.num) (fin _ (EO h.fi r)))
 ·obtain rfl:d=[110]:=(congrArg Q f).symm.trans (by decide+kernel);obtain⟨r,rfl⟩:=fC g;obtain rfl:=N i;rw[show gK s [114,101,102,115] [r] []=(s,nP (eU s r) (gn s r))from(if_neg (by decide)).trans ((if_neg (by decide)).trans (if_pos rfl))];exact zw u s s t _ r (D4 u s o t r (D6 h.fi h.ka r) (B2 h.fi h.hd r) (fin _ (D5 h.fi h.ka h.hd r)))
 ·obtain rfl:d=[110]:=(congrArg Q f).symm.trans (by decide+kernel);obtain⟨r,rfl⟩:=fC g;obtain rfl:=N i;rw[show gK s [119,104,111,108,101] [r] []=(s,kM s.L (fJ s r))from(if_neg (by decide)).trans ((if_neg (by decide)).trans ((if_neg (by decide)).trans (if_pos rfl)))];exact zz u s s t _ r (Fl u s o t r (by have:(fJ s r).1.length<=60:=Fm.1;omega) (λ_=>(Fk _ _ _ _).num) (fin _ (Fo h.fi r)))
 ·obtain rfl:d=[110]:=(congrArg Q f).symm.trans (by decide+kernel);obtain⟨r,rfl⟩:=fC g;obtain rfl:=N i;rw[show gK s [111,119,110] [r] []=(s,bF [fj (gT s r)])from(if_neg (by decide)).trans ((if_neg (by decide)).trans ((if_neg (by decide)).trans ((if_neg (by decide)).trans (if_pos rfl))))];exact zu u s s t _ r (DB u s o t r (DD h.fi r) (fin _ (DA h.fi r)))
theorem K8(u:Bool)(s:FS)(t l:List UInt8)(a:l=[]):aa Tryz.prog 47 [.c (.ptr 11 0),.c (.str l)] (aP u s t) (Rt (.ao []) (aT u s t)):=by
 refine af (n:=55) (n0:=34) tabOk Tryz.call47 Tryz.func47 ?_;intro hb
 cases b:u<;>(
  refine dec (λ_=>?_) (λh=>absurd a h);exact aF (rD 0))
theorem Lb(u:Bool)(s:FS)(t l b rest d:List UInt8)(more:Bool)(n:List Int)(w:List (List UInt8))(o:l≠[])(f:b5 32 l=(b,rest,more))(a:eJ b=(d,true))(i:rest.length<=1000000)(e:fE d rest [] []=(n,w,false))(hl:t.length+fI.length<=100000000):
  aa Tryz.prog 47 [.c (.ptr 11 0),.c (.str l)] (aP u s t) (Rt (.ao []) (aT true s (t++fI))):=by
 have g:=yg b;rw[a]at g;have j:=qF 32 l;have k:=uo b;have m:=sS rest d (by dsimp only at g;omega) i _ e;have p:=fF u s t [[119,104,97,116]] hl (by decide);rw[f]at j;rw[a]at k;dsimp only at j k m;refine af (n:=55) (n0:=34) tabOk Tryz.call47 Tryz.func47 ?_;intro hb
 cases q:u<;>(
  rw[q]at p;refine dec (λh=>absurd h o) (λ_=>?_);refine cl [] [] (j) ?_;refine cl [] [] (k) ?_;refine cl [] [] (m) ?_;(conv=>whnf);skip;refine⟨[[119,104,97,116]],rfl,?_⟩;refine aE (mD 0) (bK 25 (d22++[.row 1 Int encI n,.row 1 (List UInt8) encS w,.row 1 (List UInt8) encS [[119,104,97,116]]]) true s (t++fI)) p ?_;exact aF (rD 25))
theorem Lc(u:Bool)(s:FS)(t l a rest b:List UInt8)(more:Bool)(n:List Int)(w:List (List UInt8))(o:l≠[])(f:b5 32 l=(a,rest,more))(d:eJ a=(b,true))(i:rest.length<=1000000)(e:fE b rest [] []=(n,w,true))(hl:t.length+fI.length<=100000000)(q:b=[])(hne:l≠a):
  aa Tryz.prog 47 [.c (.ptr 11 0),.c (.str l)] (aP u s t) (Rt (.ao []) (aT true s (t++fI))):=by
 have g:=yg a;rw[d]at g;have j:=qF 32 l;have k:=uo a;have m:=sS rest b (by dsimp only at g;omega) i _ e;have p:=fF u s t [[119,104,97,116]] hl (by decide);rw[f]at j;rw[d]at k;dsimp only at j k m;refine af (n:=55) (n0:=34) tabOk Tryz.call47 Tryz.func47 ?_;intro hb
 cases r:u<;>(
  rw[r]at p;refine dec (λh=>absurd h o) (λ_=>?_);refine cl [] [] (j) ?_;refine cl [] [] (k) ?_;refine cl [] [] (m) ?_;(conv=>whnf);(refine dec (λ_=>?_) (λh=>absurd q h));(conv=>whnf);(refine ay (λ_=>?_) (λh=>absurd h hne));refine⟨[[119,104,97,116]],rfl,?_⟩;refine aE (mD 0) (bK 25 (d22++[.row 1 Int encI n,.row 1 (List UInt8) encS w,.row 1 (List UInt8) encS [[119,104,97,116]]]) true s (t++fI)) p ?_;exact aF (rD 25))
theorem K7(u:Bool){s:FS}{n:Nat}(h:DI s n)(hn:n<=900)(t l:List UInt8)(q:l≠[])(hl:l.length<=1000000)(F:t.length+200000<=100000000):aa Tryz.prog 47 [.c (.ptr 11 0),.c (.str l)] (aP u s t) (Rt (.ao []) (aT true (gq s l).1 (t++(gq s l).2))):=by
 have H:=uJ;have v:=AP (l:=l);obtain⟨f,rest,more,j⟩:∃a b c,b5 32 l=(a,b,c):=⟨_,_,_,rfl⟩;obtain⟨d,ok,i⟩:∃a b,eJ f=(a,b):=⟨_,_,rfl⟩;obtain⟨m,o,is,k⟩:∃a b c,fE d rest [] []=(a,b,c):=⟨_,_,_,rfl⟩;have z:=yg f;rw[j]at v;rw[i]at z;dsimp only at v z
 have e:gq s l=if ok=false\/is=false\/(d=[]/\l≠f)then(s,fI)else gK s f m o:=by
  unfold gq;rw[if_neg q,j];dsimp only;rw[i];dsimp only;rw[k]
 rw[e];cases ok with
 |false=>
  rw[if_pos (.inl rfl)]
  have w:d=[]:=by
   unfold eJ at i;split at i
   ·injection i with e _;exact e.symm
   ·injection i with _ e;cases e
  subst w;exact CL u s t l f rest more m o is q j i (by omega) k (by omega)
 |true=>
  cases is with
  |false=>
   rw[if_pos (.inr (.inl rfl))];exact Lb u s t l f rest d more m o q j i (by omega) k (by omega)
  |true=>
   by_cases r:d=[]/\l≠f
   ·rw[if_pos (.inr (.inr r))];exact Lc u s t l f rest d more m o q j i (by omega) k (by omega) r.1 r.2
   ·rw[if_neg (λh=>h.elim (λh=>by cases h) λh=>h.elim (λh=>by cases h) r)];obtain⟨D,E⟩:=xP d rest [] [] k;have y:=xQ (B:=1000000) d rest [] [] (by omega) (λx I=>by cases I);rw[k]at y;have p:=FW u h hn t f d m o i (by simpa using D) (by simpa using E) y F
    exact nD u s _ t _ l f rest d more m o q j i (by omega) (by omega) k (by
     by_cases hn:d=[]
     ·exact .inr (al λg=>r ⟨hn,g⟩)
     ·exact .inl hn) p
end Go.Nest
end
section
namespace Go.Nest
open Go Go.AM
set_option maxRecDepth 100000
def n4:List (List UInt8):=[[119,114,105,116,101,32,48,32,97,32,120,92,110],[99,111,109,109,105,116,32,48,32,109,32,111,110,101],[115,116,97,116,117,115,32,48],[100,111,99,115,32,48],[114,101,102,115,32,48],[119,104,111,108,101,32,48],[111,119,110,32,48],[120]]
def vm:List UInt8:=[111,107,32,48,10,111,107,32,50,10,101,110,100,10,100,111,99,32,97,32,120,92,110,10,101,110,100,10,114,101,102,32,109,32,50,10,104,101,97,100,32,50,10,100,111,99,32,97,32,120,92,110,10,101,110,100,10,111,119,110,32,48,32,49,32,50,10,119,104,97,116,10]
def eP:List It:=[⟨[97],[120,10],false,0,0⟩]
def fD:List UInt8:=[111,110,101]
def dL:List Ob:=(bg [] eP (-1) fD []).2.2
theorem pa:ak dL:=(qD (L:=[]) (l:=eP) (h:= -1) (text:=fD) (others:=[]) .nil).1
theorem H5:dL.length=3:=by decide+kernel
def nI:Nat->List Bool:=λ_=>[]
def kS:Nat->List Int:=λ_=>[]
def pL:Nat->List Bool:=aA nI 0 [true,true,true]
def dP:FS:=⟨[],nI,kS,λ_=>[],λ_=>[],aA (λ_=>[]) 0 eP,aA (λ_=> -1) 0 (-1)⟩
def aU:FS:=⟨dL,pL,kS,aA (λ_=>[]) 0 [⟨[109],2⟩],aA (λ_=>[]) 0 [⟨[109],-1,2⟩],aA (aA (λ_=>[]) 0 eP) 0 eP,aA (aA (λ_=> -1) 0 (-1)) 0 2⟩
theorem zQ:iC [] [97] [120,10]=(0,eP):=by decide+kernel
theorem Gv:rY c8 0 [97] [120,10]=dP:=by
 show c8.cC 0 [] (iC [] [97] [120,10]).2 (-1)=_;rw[zQ];rfl
theorem Gu:rX c8 0 [97] [120,10]=⟨0,0,[]⟩:=by
 show bO 0 (iC [] [97] [120,10]).1=_;rw[zQ];rfl
theorem yw{x:Int}(h:0<=x/\x.toNat<dL.length):x=0\/x=1\/x=2:=by
 rw[H5]at h;omega
theorem zY:cA dL [1] 1:= .base (by simp) (by decide+kernel)
theorem zZ:cA dL [2] 2:= .base (by simp) (by decide+kernel)
theorem Hh:bc dL [1]=[0,1]:=by
 refine oK pR (by decide) λx=>⟨λh=>?_,λh=>?_⟩
 ·rcases yw (mr h)with rfl|rfl|rfl
  ·decide
  ·decide
  ·rcases KU pa ((jf pa).1 h)with a|⟨j,a,b⟩
   ·exact absurd a (by decide)
   ·rcases yw (mr a)with rfl|rfl|rfl
    ·exact absurd b (by decide+kernel)
    ·exact absurd b (by decide+kernel)
    ·exact absurd b (by decide+kernel)
 ·rw[jf pa];have:x=0\/x=1:=by simpa using h
  rcases this with rfl|rfl
  ·exact zY.step (by decide+kernel)
  ·exact zY
theorem Hi:bc dL [2]=[0,1,2]:=by
 refine oK pR (by decide) λx=>⟨λh=>?_,λh=>?_⟩
 ·rcases yw (mr h)with rfl|rfl|rfl<;>decide
 ·rw[jf pa];have:x=0\/x=1\/x=2:=by simpa using h
  have a:cA dL [2] 1:=zZ.step (by decide+kernel);rcases this with rfl|rfl|rfl
  ·exact a.step (by decide+kernel)
  ·exact a
  ·exact zZ
theorem qp:(bg [] eP (-1) fD []).2.1=0/\(bg [] eP (-1) fD []).1=2/\l8 [] eP (-1) fD []=2:=by decide+kernel
theorem zT:dW [] [109]=0:=by decide+kernel
theorem zR:dd dL 0 [2]=0:=by decide+kernel
theorem GA:(([0,1,2]:List Int).foldl (cP nI kS 0) (eI [] dL.length))=[true,true,true]:=by decide+kernel
theorem GB:dS dL nI kS 0 [2]=pL:=by
 unfold dS;rw[if_neg (by rw[zR];decide)];unfold lM;rw[Hi];show aA nI 0 (([0,1,2]:List Int).foldl (cP nI kS 0) (eI [] dL.length))=_;rw[GA];rfl
def lW:FS:=⟨dL,nI,kS,λ_=>[],λ_=>[],aA (aA (λ_=>[]) 0 eP) 0 eP,aA (aA (λ_=> -1) 0 (-1)) 0 2⟩
theorem vk:cH dP 0 fD []=lW:=by
 show dP.cC 0 (bg [] eP (-1) fD []).2.2 eP (l8 [] eP (-1) fD [])=_;rw[qp.2.2];rfl
theorem zS:gX lW 0 [109] 2=0:=by decide+kernel
theorem vg:aY [] [109] (-1) 2=[⟨[109],2⟩]/\fZ [] [] [109] (-1) 2=[⟨[109],-1,2⟩]/\cm [] [109]= -1:=by decide+kernel
theorem Gy:eG lW 0 [109] 2=aU:=by
 unfold eG;rw[if_neg (by rw[zS];decide)];show(iA lW 0 [109] 2).dm (dS dL nI kS 0 [2])=_;rw[GB];show(lW.lD 0 (aY [] [109] (cm [] [109]) 2) (fZ [] [] [109] (cm [] [109]) 2)).dm pL=_;rw[vg.2.2,vg.1,vg.2.1];rfl
theorem Gz:gp lW 0 [109] 2=0:=by
 unfold gp;rw[if_neg (by rw[zS];decide)];exact zR
theorem Gx:na dP 0 [109] fD=aU:=by
 unfold na;rw[if_neg (show¬dW (dP.n 0) [109]≠0 fromλh=>h zT),if_neg (show¬(bg dP.L (dP.w 0) (dP.h 0) fD []).2.1≠0 fromλh=>h qp.1),vk];show eG lW 0 [109] (bg [] eP (-1) fD []).1=_;rw[qp.2.1,Gy]
theorem Gw:o8 dP 0 [109] fD=⟨0,2,[]⟩:=by
 unfold o8;rw[if_neg (show¬dW (dP.n 0) [109]≠0 fromλh=>h zT),if_neg (show¬(bg dP.L (dP.w 0) (dP.h 0) fD []).2.1≠0 fromλh=>h qp.1),vk];show bO (bg [] eP (-1) fD []).1 (gp lW 0 [109] (bg [] eP (-1) fD []).1)=_;rw[qp.2.1,Gz];rfl
theorem GF:aR dL eP []=([⟨[97],1,0,0⟩],0,dL):=by decide+kernel
theorem GD:lG aU 0=aU:=by
 show aU.cC 0 (aR dL eP []).2.2 eP 2=aU;rw[GF];unfold FS.cC aU;simp only[Pz]
theorem GC:gz aU 0=([],0):=by
 show oO dL eP 2=_;decide+kernel
theorem GG:ff aU 0=[⟨[97],[120,10]⟩]:=by decide+kernel
theorem zU:eU aU 0=[⟨[109],2⟩]/\gn aU 0=2:=by decide+kernel
theorem GJ:nr dL (bt ⟨pL,kS⟩) 0 2=false:=by
 unfold nr;rw[show(aj dL 2).tree=1 by decide+kernel,Hh];decide+kernel
theorem GI:bq dL (aj dL 2).tree=([⟨[97],1,0,0⟩],0):=by decide+kernel
theorem GH:fJ aU 0=([⟨[97],1,0,0⟩],0):=by
 have h:cS dL (bt ⟨pL,kS⟩) 6 0 2 [] []=([⟨[97],1,0,0⟩],0):=by
  rw[cS,GJ,GI];rfl
 show dZ dL (bt ⟨pL,kS⟩) 0 2=_;unfold dZ;rw[h];decide+kernel
theorem GK:gT aU 0=[0,1,2]:=by decide+kernel
theorem gk{p:Nat->Prop}(b:p 0)(h1:p 1)(h2:p 2)(c:p 3):∀k,k<4->p k:=λk a=>by
 rcases four a with rfl|rfl|rfl|rfl<;>assumption
theorem Jw:bU c8:=⟨.nil,jX.nil.ok,λk a=>J _,λk a=>.nil,λk a x h=>(by cases h),λk a=>J _,λk a=>J _,λk a x h=>(by cases h),λk a=>J _,λk a x h=>(by cases h),λk a=>.inl (show(-1:Int)<0 by decide)⟩
theorem Jx : bU dP := ⟨.nil,jX.nil.ok,λk a=>J _,λk a=>.nil,λk a x h=>(by cases h),λk a=>J _,λk a=>J _,
 gk (by decide) (by decide) (by decide) (by decide),gk (by decide) (by decide) (by decide) (by decide),gk (by decide) (by decide) (by decide) (by decide),gk (.inl (by decide)) (.inl (by decide)) (.inl (by decide)) (.inl (by decide))⟩
theorem l7:iE dL 2:= .inr (by decide+kernel)
theorem Jy : bU lW := ⟨pa,jX.nil.ok,λk a=>J _,λk a=>.nil,λk a x h=>(by cases h),λk a=>J _,λk a=>J _,
 gk (by decide) (by decide) (by decide) (by decide),gk (by decide) (by decide) (by decide) (by decide),gk (by decide) (by decide) (by decide) (by decide),gk l7 (.inl (by decide)) (.inl (by decide)) (.inl (by decide))⟩
theorem NJ:fa [⟨[109],2⟩]:=List.pairwise_singleton _ _
theorem qR : bU aU := ⟨pa,jX.nil.ok,gk (by decide) (by decide) (by decide) (by decide),gk NJ .nil .nil .nil,gk (by decide) (by decide) (by decide) (by decide),gk (by decide) (by decide) (by decide) (by decide),gk (by decide) (by decide) (by decide) (by decide),
 gk (by decide) (by decide) (by decide) (by decide),gk (by decide) (by decide) (by decide) (by decide),gk (by decide) (by decide) (by decide) (by decide),gk l7 (.inl (by decide)) (.inl (by decide)) (.inl (by decide))⟩
end Go.Nest
end
