/- part -/
import Derived.Test.YtpechfcbnoggfaaGreatDoorV47
import Derived.Test.YtpechfcbnoggfaaGreatDoorV41
import Derived.Test.YtpechfcbnoggfaaGreatDoorS3
import Derived.Test.YtpechfcbnoggfaaGreatDoorK13
set_option linter.unusedVariables false
set_option linter.unusedSimpArgs false
section
namespace Go.Nest
open Go Go.AM
variable {L M:List Ob} {s t:FS} {n m r:Nat}
theorem Hu(w:FI [] s n)(hg:FI [] t m)(ks:KA s)(Q:KA t)(F:CI r s)(h:FR r s t)(hr:r<4){id e:Int}(hi:Sx s.L t.L id e)(k3:kindOf s.L id=3)(P:aT s.L id=true)
  (c:(mj s r id).code≠15)(d:(mj t r e).code≠15):SR r (mj s r id) (mj t r e) (jP s r id) (jP t r e):=by
 have j:=w.pool;have v:=hg.pool;have O:kindOf t.L e=3:=hi.kind▸k3;have o:= @AY s t n m r w hg h id e hi k3;unfold mj at c d⊢;unfold jP;rcases h.h with⟨D,E⟩|⟨p,l⟩
 ·rw[if_pos (.inl D)]at c⊢;rw[if_pos (.inl E)]at d⊢;rw[if_pos (.inl D),if_pos (.inl E)];exact o c d
 have R:=p.pos
 have u:(s.h r<0∨(dv s.L (s.h r) id=true∧s.h r≠id))↔(t.h r<0∨(dv t.L (t.h r) e=true∧t.h r≠e)):=by
  rw[ve j v h.tw.ord hi k3 p];have:=Sx.iff j v p hi;exact or_congr (by omega) (and_congr_right fun _=>not_congr this)
 have H:dv s.L id (s.h r)=dv t.L e (t.h r):=ve j v h.tw.ord p l hi;obtain⟨I,J⟩:=Dd j v h.tw.ord p l hi k3;by_cases f:s.h r<0∨(dv s.L (s.h r) id=true∧s.h r≠id)
 ·rw[if_pos f]at c⊢;rw[if_pos (u.1 f)]at d⊢;rw[if_pos f,if_pos (u.1 f)];exact o c d
 rw[if_neg f]at c⊢;rw[if_neg (fun z=>f (u.2 z))]at d⊢;rw[if_neg f,if_neg (fun z=>f (u.2 z))];rw[H]at c⊢;by_cases g:dv t.L e (t.h r)=true
 ·rw[if_pos g,if_pos g,if_pos g,if_pos g];exact⟨rfl,rfl,h⟩
 rw[if_neg g]at c d⊢;rw[if_neg g,if_neg g,if_neg g];rw[I]at c⊢;by_cases i:(dp t.L (t.h r) e).2≠0
 ·rw[if_pos i,if_pos i,if_pos i,if_pos i];exact⟨rfl,rfl,h⟩
 rw[if_neg i]at c d⊢;rw[if_neg i,if_neg i,if_neg i];refine HE w hg ks Q F h hr ?_ hi k3 P R.1 c d
 have N:∀x∈(dp s.L (s.h r) id).1,kindOf s.L x=3:=fun x y=>by
  unfold dp at y;rw[if_neg (fun k=>k l),if_neg (fun k=>k k3)]at y;exact((ft j l).1 (List.mem_filter.1 (List.mem_filter.1 y).1).1).kind j l
 have K:A2 (fun a b=>Sx s.L t.L a b∧kindOf s.L a=3) (dp s.L (s.h r) id).1 (dp t.L (t.h r) e).1:=J.imp fun a M b _ q=>⟨q,N a M⟩;exact GJ K
theorem G6{b:Nat→List Int}(hb:gh b){r:Nat}(hr:r<4):df (cR b (r:Nat)) (r:Nat)=true:=eP.2 ((vv hb (bZ.2 ⟨r,hr,rfl⟩)).2 .refl)
theorem FR.step(o:FI [] s n)(hg:FI [] t m)(ks:KA s)(kt:KA t)(ci:CI r s)(ct:CI r t)(h:FR r s t)(hr:r<4)(x:bL)(e:x.r=r)(ht:x.text.head? =some 114)(h2:x.kind=3∨x.kind=9∨x.kind=10→x.q=r)(c:(fG s x).code≠15)(d:(fG t x).code≠15):SR r (fG s x) (fG t x) (cw s x) (cw t x):=by
 have F:=o.pool;have I:=hg.pool;have pL:=List.prefix_refl s.L;have pM:=List.prefix_refl t.L;have J:=fun name=>G1 h hr ks ci o name;have O:bw (r:Nat)=true:=bZ.2 ⟨r,hr,rfl⟩
 have ha:∀{N:List Ob} {k:Int},kindOf N k=3→cI N (r:Nat) [k]=0:=fun{N k} hk=>by
  unfold cI;rw[if_neg (by rw[O];decide),if_neg (by simp[hk])]
 unfold fG at c d⊢;unfold cw;by_cases Q:x.kind<1∨12<x.kind
 ·rw[if_pos Q,if_pos Q,if_pos Q,if_pos Q];exact⟨rfl,rfl,h⟩
 rw[if_neg Q]at c d⊢;rw[if_neg Q,if_neg Q,if_neg Q];have gr:¬bw x.r=false:=by rw[e,O];decide
 rw[if_neg gr]at c d⊢;rw[if_neg gr,if_neg gr,if_neg gr];have er:x.r.toNat=r:=by omega
 rw[er]at c d⊢;by_cases R:x.kind=1
 ·rw[if_pos R,if_pos R,if_pos R,if_pos R];obtain⟨a,b⟩:=Kz (p:=x.path) (b:=x.bytes) h.w;exact SR.ev a (h.c9 pL pM h.tw b h.h)
 rw[if_neg R]at c d⊢;rw[if_neg R,if_neg R,if_neg R];by_cases S:x.kind=2
 ·rw[if_pos S,if_pos S,if_pos S,if_pos S];obtain⟨a,b⟩:=IS (p:=x.path) h.w;exact SR.ev a (h.c9 pL pM h.tw b h.h)
 rw[if_neg S]at c d⊢;rw[if_neg S,if_neg S,if_neg S];by_cases K:x.kind=3
 ·rw[if_pos K,if_pos K,if_pos K,if_pos K];have eq:=h2 (.inl K);obtain⟨a,b⟩:=J x.name;unfold pP lB;rw[eq,a];by_cases z:(aw t (r:Nat) x.name).2=0
  ·have f:¬(aw t (r:Nat) x.name).2≠0:=fun k=>k z;rw[if_neg f,if_neg f,if_neg f,if_neg f];obtain⟨u,v⟩:=He (p:=x.path) (q:=(r:Nat)) h.w (b (a.trans z)).1;exact SR.ev u (h.c9 pL pM h.tw v h.h)
  ·rw[if_pos z,if_pos z,if_pos z,if_pos z];exact⟨rfl,rfl,h⟩
 rw[if_neg K]at c d⊢;rw[if_neg K,if_neg K,if_neg K];by_cases T:x.kind=4
 ·rw[if_pos T]at c d⊢;rw[if_pos T,if_pos T,if_pos T];have en:=vK o hg h hr x.name;have w:=o.bV hr x.text [];have D:=hg.bV hr x.text [];unfold nT at c d⊢;unfold kh;rw[en]at c⊢;by_cases z:c8 (t.n r) x.name≠0
  ·rw[if_pos z,if_pos z,if_pos z,if_pos z];exact⟨rfl,rfl,h⟩
  rw[if_neg z]at c d⊢;rw[if_neg z,if_neg z,if_neg z];have c0:(aH s.L (s.w r) (s.h r) x.text []).2.1≠15:=fun y=>c (by rw[if_pos (by rw[y];decide)];exact y);have d0:(aH t.L (t.w r) (t.h r) x.text []).2.1≠15:=fun y=>d (by rw[if_pos (by rw[y];decide)];exact y)
  have a1 := fun h0 => yf (b := true) (os := []) (a := s.h r) (l := s.w r) F (.inl ⟨ht, rfl⟩) (fun p hm=>by
   unfold cD at hm;rw[List.append_nil]at hm;split at hm
   ·rename_i y;rw[List.mem_singleton]at hm;subst hm;exact⟨(o.work r hr).head.k3 y,by rw[ci.hd r hr y];exact decide_eq_true rfl⟩
   ·cases hm) h0
  obtain⟨a,b,tw⟩:=yk F I h.tw h.w h.h (.nil) a1 c0 d0;obtain⟨p1,P⟩:=kY (l:=s.w r) (h:=s.h r) (text:=x.text) (others:=[]) F;obtain⟨q1,q2⟩:=kY (l:=t.w r) (h:=t.h r) (text:=x.text) (others:=[]) I
  have E:FR r (bV s r x.text []) (bV t r x.text []):=by
   refine h.c9 P q2 tw (h.w.grow P q2) ?_;unfold jh;rw[a];split
   ·rename_i y;exact .inr ⟨b (a.trans y),mW F (a.trans y)⟩
   ·exact h.h.grow P q2
  by_cases y:(aH s.L (s.w r) (s.h r) x.text []).2.1=0
  ·have H:=a▸y;rw[if_neg (fun k=>k y)]at c⊢;rw[if_neg (fun k=>k H)]at d⊢;rw[if_neg (fun k=>k y),if_neg (fun k=>k H)];have l1:=ou (id:=(aH s.L (s.w r) (s.h r) x.text []).1) w hr (Decidable.not_not.1 (en▸z)) (by have:=mW F y;show kindOf (aH s.L (s.w r) (s.h r) x.text []).2.2 _≠0;omega);have l2:=ou (id:=(aH t.L (t.w r) (t.h r) x.text []).1) D hr (Decidable.not_not.1 z) (by have:=mW I H;show kindOf (aH t.L (t.w r) (t.h r) x.text []).2.2 _≠0;omega);exact SR.ev (l1.trans l2.symm) (FR.lead w D E x.name (b y))
  ·have H:(aH t.L (t.w r) (t.h r) x.text []).2.1≠0:=a▸y;rw[if_pos y,if_pos H,if_pos y,if_pos H];exact⟨a,rfl,E⟩
 rw[if_neg T]at c d⊢;rw[if_neg T,if_neg T,if_neg T];by_cases U:x.kind=5
 ·rw[if_pos U]at c d⊢;rw[if_pos U,if_pos U,if_pos U];obtain⟨a,b⟩:=J x.name;unfold mU at c d⊢;unfold jA;rw[a]at c⊢;by_cases z:(aw t (r:Nat) x.name).2=0
  ·have f:¬(aw t (r:Nat) x.name).2≠0:=fun k=>k z;rw[if_neg f]at c d⊢;rw[if_neg f,if_neg f,if_neg f];exact AY o hg h (b (a.trans z)).1 (b (a.trans z)).2.1 c d
  ·rw[if_pos z,if_pos z,if_pos z,if_pos z];exact⟨rfl,rfl,h⟩
 rw[if_neg U]at c d⊢;rw[if_neg U,if_neg U,if_neg U];by_cases W:x.kind=6
 ·rw[if_pos W]at c d⊢;rw[if_pos W,if_pos W,if_pos W];obtain⟨a,b⟩:=J x.name;unfold pS at c d⊢;unfold kG;rw[a]at c⊢;by_cases z:(aw t (r:Nat) x.name).2=0
  ·have f:¬(aw t (r:Nat) x.name).2≠0:=fun k=>k z;rw[if_neg f]at c d⊢;rw[if_neg f,if_neg f,if_neg f];obtain⟨b1,b2,b3,-⟩:=b (a.trans z);have c0:ie s r≠15:=fun y=>c (by rw[if_pos (by rw[y];decide)];exact y);have d0:ie t r≠15:=fun y=>d (by rw[if_pos (by rw[y];decide)];exact y);have ec:ie s r=ie t r:=x8 F I h.w h.h c0 d0;obtain⟨p1,P⟩:=eV (l:=s.w r) F;obtain⟨q1,q2⟩:=eV (l:=t.w r) I;have al:FR r (cP s r) (cP t r):=h.az P q2 (h.tw.jR F I P q2 jY jY);have cg:CG r r s (cP s r):=CG.lW o ks ci;rw[ec]at c⊢;by_cases y:ie t r=0
   ·have yn:¬ie t r≠0:=fun k=>k y;rw[if_neg yn]at c d⊢;rw[if_neg yn,if_neg yn,if_neg yn];exact Hu o.cP hg.cP (ks.lW o r) (kt.lW hg r) cg.1 al hr (b1.grow P q2) (eG P b2) ((eE F P b2).trans b3) c d
   ·rw[if_pos y,if_pos y,if_pos y,if_pos y];exact⟨rfl,rfl,al⟩
  ·rw[if_pos z,if_pos z,if_pos z,if_pos z];exact⟨rfl,rfl,h⟩
 rw[if_neg W]at c d⊢;rw[if_neg W,if_neg W,if_neg W];by_cases Y:x.kind=7
 ·rw[if_pos Y,if_pos Y,if_pos Y,if_pos Y];unfold pb kW;rcases h.h with⟨z1,z2⟩|⟨sh,a3⟩
  ·rw[if_pos z1,if_pos z2,if_pos z1,if_pos z2];exact⟨rfl,rfl,h⟩
  ·have:=sh.pos;rw[if_neg (by omega),if_neg (by omega),if_neg (by omega),if_neg (by omega)];exact SR.ev (q7 F I h.n x.name (ng h.n x.name) (.inr sh)) (FR.name o hg h x.name (ng h.n x.name) (.inr sh))
 rw[if_neg Y]at c d⊢;rw[if_neg Y,if_neg Y,if_neg Y];by_cases Z:x.kind=8
 ·rw[if_pos Z,if_pos Z,if_pos Z,if_pos Z];obtain⟨a,b⟩:=J x.name;unfold pn kZ;rw[a];by_cases z:(aw t (r:Nat) x.name).2=0
  ·have f:¬(aw t (r:Nat) x.name).2≠0:=fun k=>k z;rw[if_neg f,if_neg f,if_neg f,if_neg f];have b1:=(b (a.trans z)).1;exact SR.ev (q7 F I h.n x.name (.inr b1) (.inl ⟨rfl,rfl⟩)) (FR.name o hg h x.name (.inr b1) (.inl ⟨rfl,rfl⟩))
  ·rw[if_pos z,if_pos z,if_pos z,if_pos z];exact⟨rfl,rfl,h⟩
 rw[if_neg Z]at c d⊢;rw[if_neg Z,if_neg Z,if_neg Z];by_cases M:x.kind=9
 ·rw[if_pos M,if_pos M,if_pos M,if_pos M];have eq:=h2 (.inr (.inl M));obtain⟨a,b⟩:=J x.name;have en:=vK o hg h hr x.name;unfold nX kr;rw[eq,a,en];by_cases z:(aw t (r:Nat) x.name).2=0
  ·have f:¬(aw t (r:Nat) x.name).2≠0:=fun k=>k z;rw[if_neg f,if_neg f,if_neg f,if_neg f];by_cases y:c8 (t.n r) x.name≠0
   ·rw[if_pos y,if_pos y,if_pos y,if_pos y];exact⟨rfl,rfl,h⟩
   rw[if_neg y,if_neg y,if_neg y,if_neg y];obtain⟨b1,b2,b3,b4,b5,yy,hy,b6⟩:=b (a.trans z);have aV:kindOf t.L (aw t (r:Nat) x.name).1=3:=b1.kind▸b2
   have aL:∀{u:FS} {id:Int},ae u.L→fO u.L u.dep (r:Nat) id→kindOf u.L id=3→eH u.L u.dep (r:Nat) (r:Nat) id=0:=fun{u id} hu hh k3=>by
    unfold eH;rw[if_neg (by rw[O];simp),if_neg]
    ·exact ha k3
    ·unfold kF;rw[Bool.or_eq_true];rintro(h1|h1)
     ·rw[List.any_eq_true]at h1;obtain⟨k,hk,h2⟩:=h1;rw[hh k hk]at h2;cases h2
     ·have h3:id∈aZ u.L [id]:=(jk hu).2 (.base (by simp) (by omega));have:=List.length_pos_of_mem h3;have:=of_decide_eq_true h1;omega
   have f1:=aL (u:=s) F (by rw[←b6];exact ks.has r hr yy hy) b2
   have f2 := aL (u := t) (id := (aw t (r : Nat) x.name).1) I (by
    obtain⟨j,hj,e1,_,y2,a2,e2⟩:=ow z;obtain rfl:r=j:=by omega
    rw[←e2];exact kt.has r hr y2 a2) aV
   have z0:¬(0:Int)≠0:=fun k=>k rfl;rw[f1,f2,if_neg z0,if_neg z0,if_neg z0,if_neg z0];have w:=o.bN (nW o (r:Nat) (r:Nat) (aw s (r:Nat) x.name).1);have D:=hg.bN (nW hg (r:Nat) (r:Nat) (aw t (r:Nat) x.name).1);have E:FR r (s.bN (cJ s.L s.o s.b (r:Nat) (r:Nat) (aw s (r:Nat) x.name).1)) (t.bN (cJ t.L t.o t.b (r:Nat) (r:Nat) (aw t (r:Nat) x.name).1)):=h.bN;have l1:=ou (id:=(aw s (r:Nat) x.name).1) w hr (Decidable.not_not.1 (en▸y)) (by show kindOf s.L _≠0;omega);have l2:=ou (id:=(aw t (r:Nat) x.name).1) D hr (Decidable.not_not.1 y) (by show kindOf t.L _≠0;omega);exact SR.ev (l1.trans l2.symm) (FR.lead w D E x.name b1)
  ·rw[if_pos z,if_pos z,if_pos z,if_pos z];exact⟨rfl,rfl,h⟩
 rw[if_neg M]at c d⊢;rw[if_neg M,if_neg M,if_neg M];by_cases g:x.kind=10
 ·rw[if_pos g,if_pos g,if_pos g,if_pos g];have eq:=h2 (.inr (.inr g));unfold o8 o9;rw[eq]
  have hb:∀b:Nat→List Int,gh b→dX b (r:Nat) (r:Nat)=10:=fun b hb=>by
   unfold dX;rw[if_neg (by rw[O];simp),if_pos (G6 hb hr)]
  exact SR.ev ((hb _ o.dW.ok).trans (hb _ hg.dW.ok).symm) ⟨h.w,h.n,h.h,h.tw⟩
 rw[if_neg g]at c d⊢;rw[if_neg g,if_neg g,if_neg g];by_cases i:x.kind=12
 ·rw[if_pos i]at c d⊢;rw[if_pos i,if_pos i,if_pos i];have en:=vK o hg h hr x.name;unfold sT at c d⊢;unfold mD;rcases h.h with⟨z1,z2⟩|⟨sh,a3⟩
  ·rw[if_pos z1,if_pos z2,if_pos z1,if_pos z2];exact⟨rfl,rfl,h⟩
  have pp:=sh.pos;have n1:¬s.h r<0:=by omega
  have n2:¬t.h r<0:=by omega
  rw[if_neg n1]at c⊢;rw[if_neg n2]at d⊢;rw[if_neg n1,if_neg n2];rw[en]at c⊢;by_cases z:c8 (t.n r) x.name≠0
  ·rw[if_pos z,if_pos z,if_pos z,if_pos z];exact⟨rfl,rfl,h⟩
  rw[if_neg z]at c d⊢;rw[if_neg z,if_neg z,if_neg z];have a0:aT s.L (s.h r)=true:=by rw[ci.hd r hr pp.1];exact decide_eq_true rfl
  have c0:(aP s.L (s.h r) x.path).2.1≠15:=fun y=>c (by rw[if_pos (by rw[y];decide)];exact y);have d0:(aP t.L (t.h r) x.path).2.1≠15:=fun y=>d (by rw[if_pos (by rw[y];decide)];exact y);obtain⟨a,tw,b⟩:=JQ F I ci.cc h.tw sh a3 a0 c0 d0;have ac:=nw F (s.h r) x.path;have ad:=nw I (t.h r) x.path;have E:FR r (s.az (aP s.L (s.h r) x.path).2.2) (t.az (aP t.L (t.h r) x.path).2.2):=h.az ac.2 ad.2 tw;have w:=o.az ac.1 ac.2;have D:=hg.az ad.1 ad.2;have am:=(wG (dir:=x.path) (id:=s.h r) F rfl).2.2.2.2;have ap:=(wG (dir:=x.path) (id:=t.h r) I rfl).2.2.2.2;by_cases y:(aP s.L (s.h r) x.path).2.1=0
  ·have H:=a▸y;rw[if_neg (fun k=>k y)]at c⊢;rw[if_neg (fun k=>k H)]at d⊢;rw[if_neg (fun k=>k y),if_neg (fun k=>k H)];have k1:kindOf (aP s.L (s.h r) x.path).2.2 (aP s.L (s.h r) x.path).1=3:=(am y).2.1;have k2:kindOf (aP t.L (t.h r) x.path).2.2 (aP t.L (t.h r) x.path).1=3:=(ap H).2.1;have l1:=ou (id:=(aP s.L (s.h r) x.path).1) w hr (Decidable.not_not.1 (en▸z)) (by show kindOf (aP s.L (s.h r) x.path).2.2 _≠0;rw[k1];decide);have l2:=ou (id:=(aP t.L (t.h r) x.path).1) D hr (Decidable.not_not.1 z) (by show kindOf (aP t.L (t.h r) x.path).2.2 _≠0;rw[k2];decide);exact SR.ev (l1.trans l2.symm) (FR.lead w D E x.name (b y))
  ·have H:(aP t.L (t.h r) x.path).2.1≠0:=a▸y;rw[if_pos y,if_pos H,if_pos y,if_pos H];exact⟨a,rfl,E⟩
 rw[if_neg i]at c d⊢;rw[if_neg i,if_neg i,if_neg i];exact⟨rfl,rfl,h.bN⟩
theorem FR.other(b:FI [] s n)(hg:FI [] t m)(ks:KA s)(c:CI r s)(h:FR r s t)(hr:r<4)(x:bL){i:Nat}(hi:i<4)(e:x.r=i)(hne:i≠r)(o:x.text.head? =some 111)(l:x.kind=9→x.q≠r):FR r (cw s x) t:=by
 obtain⟨_,g⟩:=CI.step b ks c hr x hi e (by rw[if_neg hne];exact o) fun k=>⟨fun z=>absurd z hne,fun z=>absurd z (l k)⟩;rw[decide_eq_false hne]at g;obtain⟨d,f,j⟩:=EM s x e (fun z=>hne z.symm:r≠i);have a:=List.prefix_refl t.L;refine⟨?_,?_,?_,h.tw.other b.pool hg.pool g⟩
 ·rw[d];exact h.w.grow g.pre a
 ·rw[f];exact h.n.grow g.pre a
 ·rw[j];exact h.h.grow g.pre a
theorem Ig(f:FI [] s n)(hg:FI [] t m)(ks:KA s)(b:CI r s)(h:FR r s t)(hr:r<4)(x:bL)(hne:x.r≠(r:Int))(j:x.text.head? =some 111)(c:x.kind=9→x.q≠r):FR r (cw s x) t∧CI r (cw s x):=by
 cases d:bw x.r with
 |true=>
  obtain⟨i,g,e⟩:=bZ.1 d;have a:i≠r:=fun z=>hne (by rw[e,z]);exact⟨FR.other f hg ks b h hr x g e a j c,(CI.step f ks b hr x g e (by rw[if_neg a];exact j) fun k=>⟨fun z=>absurd z a,fun z=>absurd z (c k)⟩).1⟩
 |false=>
  have e:cw s x=s:=by
   unfold cw;exact av (P:=fun t=>t=s) (fun _=>rfl) fun _=>if_pos d
  rw[e];exact⟨h,b⟩
end Go.Nest
end
section
namespace Go.Nest
open Go Go.AM Go.Proofs
open Go.Proofs.YtpechfcbnoggfaaGreatDoor (tab tabOk)
set_option maxRecDepth 100000
def bx(k:Nat)(s:FS):List B:=(bu k [] s).take 11
def gB(k:Nat)(t:FS):List B:=(bx k t).map (fL fun j=>j+32)
def yQ(s t:FS):List B:=aQ s++(gB 0 t++jF t)
def mG:List Nat:=[32,33,34,35,36,37,38,39,40,41,42,43,44,45,46,47,48,49,50,51,52,53,54,55,56,57,58,59,60,61,62,63]
def sO(l:List Rn):List Rn:=l.map fun r=>match r with
 | .same j=>.same (j+32)
 |r=>r
theorem Iz(q:Int):∃r:Nat,r<4∧IntKind.i64.wrap ((IntKind.u64.wrap q).tmod 4)=(r:Int):=by
 have h:=I9 (k:=q) (n:=4) (by decide) (by decide);exact⟨_,h.2,h.1⟩
def tx(b:UInt8)(x:bL):bL:={x with text:=b::x.text}
theorem ways(k a b:Int)(r:Nat):
  (decide (a=r)=true∧(k=3∨k=9∨k=10→b=r)∧((decide (k=3)=true∧decide (k=9)=false∧decide (k=10)=false∧decide (b=r)=true)∨(decide (k=3)=false∧decide (k=9)=true∧decide (k=10)=false∧decide (b=r)=true)∨(decide (k=3)=false∧decide (k=9)=false∧decide (k=10)=true∧decide (b=r)=true)∨(decide (k=3)=false∧decide (k=9)=false∧decide (k=10)=false∧decide (k=3)=false)))∨
  (decide (a=r)=false∧(k=3∨k=9∨k=10→b≠r)∧((decide (k=3)=true∧decide (k=9)=false∧decide (k=10)=false∧decide (b=r)=false)∨(decide (k=3)=false∧decide (k=9)=true∧decide (k=10)=false∧decide (b=r)=false)∨(decide (k=3)=false∧decide (k=9)=false∧decide (k=10)=true∧decide (b=r)=false)∨(decide (k=3)=false∧decide (k=9)=false∧decide (k=10)=false∧decide (k=3)=false)))∨
  (((decide (k=3)=true∧decide (k=9)=false∧decide (k=10)=false)∨(decide (k=3)=false∧decide (k=9)=true∧decide (k=10)=false)∨(decide (k=3)=false∧decide (k=9)=false∧decide (k=10)=true))∧((decide (a=r)=true∧decide (b=r)=false)∨(decide (a=r)=false∧decide (b=r)=true))):=by
 simp only[decide_eq_true_iff,decide_eq_false_iff_not];omega
set_option maxHeartbeats 16000000 in
theorem Fy(l:List bL)(hl:tl l)(q:Int):ai Tryz.prog 5 [.c (.ls 7 bL aI l),.c (.int .i64 q)] [] (Rt (.c (.bool true)) []):=by
 refine an (n:=121) (n0:=0) tabOk Tryz.call5 Tryz.func5 ?_;intro hb;(conv=>whnf);refine cl [] [] (Fz) ?_;(conv=>whnf);refine cl [] [] (FN l hl) ?_;(conv=>whnf);refine aW (fun g=>?_) (fun g=>?_)
 ·(conv=>whnf);exact aG rfl
 obtain⟨aV,I⟩:=FM g;obtain⟨r,w,er⟩:=Iz q;(conv=>whnf);refine⟨by decide,?_⟩;(conv=>whnf);rw[er];refine cl [] [] (uK) ?_;(conv=>whnf);refine bc [] (yQ eb eb) uK ?_;(conv=>whnf);refine lp (Nat×FS×FS) (fun p=>⟨[(0,.c (.bs 7 bL aI l)),(1,.c (.int .i64 (r:Nat))),(5,.c (.ptr 0 0)),(6,.c (.ptr 32 0)),(7,.c (.int .i64 p.1))],yQ p.2.1 p.2.2⟩) (fun p=>(p.1≤l.length∧FI [] p.2.1 p.1∧FI [] p.2.2 p.1∧KA p.2.1∧KA p.2.2∧CI r p.2.1∧CI r p.2.2∧FR r p.2.1 p.2.2)∧True) (fun p=>l.length-p.1) (0,eb,eb) [] (rK 0++sO (rK 0)) ⟨⟨Nat.zero_le _,FI.nil,FI.nil,KA.nil,KA.nil,CI.nil,CI.nil,FR.nil⟩,trivial⟩ ik (fun⟨i,s,t⟩ hi=>?_);obtain⟨⟨hi,u,z,K,O,P,Q,fr⟩,-⟩:=hi;dsimp only at hi u z K O P Q fr;(conv=>whnf);refine dec (fun h4=>?_) (fun h4=>?_)
 ·have v:i<l.length:=by have h4:(i:Int)<l.length:=h4;omega
  obtain⟨x,hx⟩:∃x,l[i]=x:=⟨_,rfl⟩;have am:l[i]? =some x:=by rw[←hx];exact List.getElem?_eq_getElem v
  have E:x∈l:=by rw[←hx];exact List.getElem_mem v
  (conv=>whnf);refine⟨i,x,rfl,am,?_⟩;have F:(1:Nat)+x.text.length≤9223372036854775807:=by have:=(hl x E).2.2.1;omega
  rcases ways x.kind x.r x.q r with⟨er,S,W⟩|⟨er,S,W⟩|⟨W,ap⟩
  ·have R:=of_decide_eq_true er;have p1:=mX u (by omega) (tx 114 x) (I x E);have p2:=mX z (by omega) (tx 114 x) (I x E);have sr:=FR.step u z K O P Q fr w (tx 114 x) R rfl S;have H:=(CI.step u K P w (tx 114 x) w R (by rw[if_pos rfl];rfl) fun T=>⟨fun _=>S (.inr (.inl T)),fun _=>rfl⟩).1;have ac:=(CI.step z O Q w (tx 114 x) w R (by rw[if_pos rfl];rfl) fun T=>⟨fun _=>S (.inr (.inl T)),fun _=>rfl⟩).1;have y:=u.step (tx 114 x);have U:=z.step (tx 114 x);have M:=K.step u (tx 114 x);have aL:=O.step z (tx 114 x);unfold gk at p1 p2;generalize fG s (tx 114 x)=E1 at*;generalize fG t (tx 114 x)=E2 at*;generalize cw s (tx 114 x)=b at*;generalize cw t (tx 114 x)=a at*;obtain⟨d,J,m⟩:=E1;obtain⟨c2,N,f2⟩:=E2;rcases W with⟨e,j,k,eq⟩|⟨e,j,k,eq⟩|⟨e,j,k,eq⟩|⟨e,j,k,eq⟩<;>(
   (conv=>whnf);rw[e];(conv=>whnf);try(rw[j];(conv=>whnf))
   try(rw[k];(conv=>whnf))
   try(rw[er,eq];(conv=>whnf))
   rw[er];(conv=>whnf);refine⟨F,?_⟩;(conv=>whnf);refine bc (mF 0) (bu 54 (d21++(gB 0 t++(jF t++[.box (aI (tx 114 x))]))) b) p1 ?_;(conv=>whnf);rw[show decide ((tx 114 x).r=(r:Int))=true from er];(conv=>whnf);refine bc mG (bu 54 (d21++(gB 44 a++(d21++[.box (aI (tx 114 x))]))) b++(.box (bM ⟨d,J,m⟩)::jF a)) p2 ?_;(conv=>whnf);cases ad:decide (d=15)with
   |true=>
    (conv=>whnf);exact aG rfl
   |false=>
   (conv=>whnf);cases al:decide (c2=15)with
   |true=>
    (conv=>whnf);exact aG rfl
   |false=>
   obtain⟨ec,ef,o⟩:=sr (of_decide_eq_false ad) (of_decide_eq_false al);dsimp only at ec ef;subst ec ef;have Y:=y.wf (by omega);have Z:=U.wf (by omega);have q1:=uq b Y (r:Nat);have q2:=uq a Z (r:Nat);have q3:=wk b Y (r:Nat);have q4:=wk a Z (r:Nat);rw[yE b w,EN o.w]at q1;rw[yE a w]at q2;rw[Bu b w]at q3;rw[Bu a w]at q4;have q5:=o.n.len;generalize (a.w r).map dZ=D at q1 q2;generalize b.n r=n1 at q3 q5;generalize a.n r=n2 at q4 q5;(conv=>whnf);rw[show∀c:Int,decide (c=c)=true from fun c=>decide_eq_true rfl];(conv=>whnf);refine bc [] (bu 54 (d21++(gB 44 a++(d21++[.box (aI (tx 114 x))]))) b++(.box (bM ⟨d,J,m⟩)::(jF a++[.box (bM ⟨d,N,m⟩)]))) (Jx _ _) ?_;(conv=>whnf);rw[show∀f:List (List UInt8),decide (f=f)=true from fun c=>decide_eq_true rfl];(conv=>whnf);refine bc [] ((bu 54 (d21++(gB 44 a++(d21++[.box (aI (tx 114 x))]))) b++(.box (bM ⟨d,J,m⟩)::(jF a++[.box (bM ⟨d,N,m⟩)])))++[.row 2 Dc eY D]) q1 ?_;(conv=>whnf);refine bc [] ((bu 54 (d21++(gB 44 a++(d21++[.box (aI (tx 114 x))]))) b++(.box (bM ⟨d,J,m⟩)::(jF a++[.box (bM ⟨d,N,m⟩)])))++[.row 2 Dc eY D,.row 2 Dc eY D]) q2 ?_;(conv=>whnf);refine bc [] ((bu 54 (d21++(gB 44 a++(d21++[.box (aI (tx 114 x))]))) b++(.box (bM ⟨d,J,m⟩)::(jF a++[.box (bM ⟨d,N,m⟩)])))++[.row 2 Dc eY D,.row 2 Dc eY D]) (Jw D) ?_;(conv=>whnf);refine bc [] ((bu 54 (d21++(gB 44 a++(d21++[.box (aI (tx 114 x))]))) b++(.box (bM ⟨d,J,m⟩)::(jF a++[.box (bM ⟨d,N,m⟩)])))++[.row 2 Dc eY D,.row 2 Dc eY D,.row 2 Rf bH n1]) q3 ?_;(conv=>whnf);refine bc [] ((bu 54 (d21++(gB 44 a++(d21++[.box (aI (tx 114 x))]))) b++(.box (bM ⟨d,J,m⟩)::(jF a++[.box (bM ⟨d,N,m⟩)])))++[.row 2 Dc eY D,.row 2 Dc eY D,.row 2 Rf bH n1,.row 2 Rf bH n2]) q4 ?_;(conv=>whnf);rw[show decide ((n1.length:Int)=n2.length)=true from decide_eq_true (by rw[q5])];repeat'((conv=>whnf);first|(refine dec (fun h=>?_) (fun h=>?_)<;>try contradiction)|(refine ay (fun h=>?_) (fun h=>?_)<;>try contradiction)|refine dV (fun h=>?_) (fun h=>?_)|refine aW (fun h=>?_) (fun h=>?_)|refine⟨i64 (by omega) (by omega),?_⟩|refine⟨_,_,rfl,List.getElem?_eq_getElem (by omega),?_⟩|refine⟨_,⟨rfl,by omega⟩,?_⟩|refine⟨_,List.getElem?_eq_getElem (by omega),?_⟩|refine aG ?_|refine aK ?_|refine eJ ?_ rfl|fail)
   refine ag (i+1,b,a) [] (rK 54++sO (rK 44)) ⟨⟨v,y,U,M,aL,H,ac,o⟩,trivial⟩ (by simp only[];omega) ?_;exact ik)
  ·have R:=of_decide_eq_false er;have p1:=mX u (by omega) (tx 111 x) (I x E);obtain⟨o,H⟩:=Ig u z K P fr w (tx 111 x) R rfl fun T=>S (.inr (.inl T));have y:=u.step (tx 111 x);have M:=K.step u (tx 111 x);unfold gk at p1;generalize fG s (tx 111 x)=E1 at*;generalize cw s (tx 111 x)=b at*;rcases W with⟨e,j,k,eq⟩|⟨e,j,k,eq⟩|⟨e,j,k,eq⟩|⟨e,j,k,eq⟩<;>(
   (conv=>whnf);rw[e];(conv=>whnf);try(rw[j];(conv=>whnf))
   try(rw[k];(conv=>whnf))
   try(rw[er,eq];(conv=>whnf))
   rw[er];(conv=>whnf);refine⟨F,?_⟩;(conv=>whnf);refine bc (mF 0) (bu 54 (d21++(gB 0 t++(jF t++[.box (aI (tx 111 x))]))) b) p1 ?_;(conv=>whnf);rw[show decide ((tx 111 x).r=(r:Int))=false from er];repeat'((conv=>whnf);first|(refine dec (fun h=>?_) (fun h=>?_)<;>try contradiction)|(refine ay (fun h=>?_) (fun h=>?_)<;>try contradiction)|refine dV (fun h=>?_) (fun h=>?_)|refine aW (fun h=>?_) (fun h=>?_)|refine⟨i64 (by omega) (by omega),?_⟩|refine⟨_,_,rfl,List.getElem?_eq_getElem (by omega),?_⟩|refine⟨_,⟨rfl,by omega⟩,?_⟩|refine⟨_,List.getElem?_eq_getElem (by omega),?_⟩|refine aG ?_|refine aK ?_|refine eJ ?_ rfl|fail)
   refine ag (i+1,b,t) [] (rK 54++sO (rK 0)) ⟨⟨v,y,z.up (Nat.le_succ _),M,O,H,Q,o⟩,trivial⟩ (by simp only[];omega) ?_;exact ik)
  ·rcases W with⟨e,j,k⟩|⟨e,j,k⟩|⟨e,j,k⟩<;>rcases ap with⟨er,eq⟩|⟨er,eq⟩<;>(
   (conv=>whnf);rw[e];(conv=>whnf);try(rw[j];(conv=>whnf))
   try(rw[k];(conv=>whnf))
   try(rw[er,eq];(conv=>whnf))
   repeat'((conv=>whnf);first|(refine dec (fun h=>?_) (fun h=>?_)<;>try contradiction)|(refine ay (fun h=>?_) (fun h=>?_)<;>try contradiction)|refine dV (fun h=>?_) (fun h=>?_)|refine aW (fun h=>?_) (fun h=>?_)|refine⟨i64 (by omega) (by omega),?_⟩|refine⟨_,_,rfl,List.getElem?_eq_getElem (by omega),?_⟩|refine⟨_,⟨rfl,by omega⟩,?_⟩|refine⟨_,List.getElem?_eq_getElem (by omega),?_⟩|refine aG ?_|refine aK ?_|refine eJ ?_ rfl|fail)
   refine ag (i+1,s,t) [] (rK 0++sO (rK 0)) ⟨⟨v,u.up (Nat.le_succ _),z.up (Nat.le_succ _),K,O,P,Q,fr⟩,trivial⟩ (by simp only[];omega) ?_;exact ik)
 ·(conv=>whnf);exact aG rfl
end Go.Nest
end
