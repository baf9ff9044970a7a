/- part -/
import Derived.Test.YtpechfcbnoggfaaGreatDoorV41
set_option linter.unusedVariables false
set_option linter.unusedSimpArgs false
section
namespace Go.Nest
open Go Go.AM
variable {L M L' M':List Ob} {k j:Int}
theorem xb{R:Int→Int→Prop}:∀{l m:List Int},l.Pairwise (· < ·)→m.Pairwise (· < ·)→(∀x∈l,∃y∈m,R x y)→(∀y∈m,∃x∈l,R x y)→(∀x y z,R x y→R x z→y=z)→(∀x∈l,∀z∈l,∀y w,R x y→R z w→x<z→y<w)→A2 R l m
 |[],[],_,_,_,_,_,_=>.nil
 |[],b::m,_,_,_,h,_,_=>by obtain⟨x,hx,_⟩:=h b (by simp);cases hx
 |a::l,[],_,_,h,_,_,_=>by obtain⟨x,hx,_⟩:=h a (by simp);cases hx
 |a::l,b::m,k,n,f,g,fn,e=>by
  obtain⟨i,p⟩:=List.pairwise_cons.1 k;obtain⟨j,q⟩:=List.pairwise_cons.1 n;obtain⟨y,hy,d⟩:=f a (by simp)
  have c:R a b:=by
   rcases List.mem_cons.1 hy with rfl|hy
   ·exact d
   ·obtain⟨x,hx,rx⟩:=g b (by simp);rcases List.mem_cons.1 hx with rfl|hx
    ·exact rx
    ·have:=e a (by simp) x (by simp[hx]) _ _ d rx (i x hx);have:=j y hy;omega
  refine .cons c (xb p q (fun x hx=>?_) (fun y hy=>?_) fn fun x hx z o=>e x (by simp[hx]) z (by simp[o]))
  ·obtain⟨y,hy,d⟩:=f x (by simp[hx]);rcases List.mem_cons.1 hy with rfl|hy
   ·have:=e a (by simp) x (by simp[hx]) _ _ c d (i x hx);omega
   ·exact⟨y,hy,d⟩
  ·obtain⟨x,hx,rx⟩:=g y (by simp[hy]);rcases List.mem_cons.1 hx with rfl|hx
   ·have:=fn _ _ _ rx c;have:=j y hy;omega
   ·exact⟨x,hx,rx⟩
theorem A2.GI{α β:Type}{R:α→β→Prop}{l:List α}{m:List β}(h:A2 R l m):∀{d:α} {e:β},R d e→R (l.getLastD d) (m.getLastD e):=by
 induction h with
 |nil=>intro d e h;exact h
 |cons r _ ih=>intro d e _;rw[List.getLastD_cons,List.getLastD_cons];exact ih r
def Ord(L M:List Ob):Prop:=∀k i j m,kindOf L k=3→kindOf L i=3→Sx L M k j→Sx L M i m→k<i→j<m
theorem xn(d:ae L){a x:Int}(h:dK L a x):∀{b:Int},Sx L M a b→kindOf L a=3→∃y,dK M b y∧Sx L M x y:=by
 induction h with
 |refl id=>intro b s _;exact⟨b,.refl _,s⟩
 |step c _ ih=>
  intro b s k;obtain⟨y,e,r⟩:=s.out.2.2.par.left _ c;obtain⟨z,f,q⟩:=ih r (mr d k c);exact⟨z,.step e f,q⟩
theorem qM(e:ae L)(hq:ae M)(ho:Ord L M){a b:Int}(h:Sx L M a b)(k3:kindOf L a=3):A2 (Sx L M) (aO L a) (aO M b):=by
 have d:kindOf M b=3:=h.kind▸k3;have g:∀x∈aO L a,kindOf L x=3:=fun x c=>((ft e k3).1 c).kind e k3;refine xb lT lT (fun x c=>?_) (fun y f=>?_) (fun x y z r s=>Sx.fn e hq r s) (fun x c z i y w r s lt=>ho x z y w (g x c) (g z i) r s lt)
 ·obtain⟨y,f,r⟩:=xn e ((ft e k3).1 c) h k3;exact⟨y,(ft hq d).2 f,r⟩
 ·obtain⟨x,c,r⟩:=xn hq ((ft hq d).1 f) h.symm d;exact⟨x,(ft e k3).2 c,r.symm⟩
theorem uS(c:ae L)(hq:ae M){l m:List Int}(h:A2 (Sx L M) l m){x y:Int}(s:Sx L M x y):df l x=df m y:=h.any fun a _ b _ r=>decide_eq_decide.2 (Sx.iff c hq r s)
theorem ve(c:ae L)(hq:ae M)(ho:Ord L M){a b x y:Int}(h:Sx L M a b)(k3:kindOf L a=3)(g:Sx L M x y):dv L x a=dv M y b:=by
 unfold dv;rw[show b7 L a=(aO L a,0)from if_pos k3,show b7 M b=(aO M b,0)from if_pos (h.kind▸k3)];exact uS c hq (qM c hq ho h k3) g
theorem Dd(c:ae L)(hq:ae M)(ho:Ord L M){a b x y:Int}(h:Sx L M a b)(k3:kindOf L a=3)(g:Sx L M x y)(d:kindOf L x=3):(dp L a x).2=(dp M b y).2∧A2 (Sx L M) (dp L a x).1 (dp M b y).1:=by
 have f:kindOf M b=3:=h.kind▸k3;have e:kindOf M y=3:=g.kind▸d;unfold dp;rw[if_neg (fun k=>k k3),if_neg (fun k=>k d),if_neg (fun k=>k f),if_neg (fun k=>k e)];have hb:A2 (Sx L M) (kf L a x) (kf M b y):=(qM c hq ho h k3).filter fun u _ v _ r=>uS c hq (qM c hq ho g d) r;have l:∀u∈kf L a x,kindOf L u=3:=fun u j=>((ft c k3).1 (List.mem_filter.1 j).1).kind c k3;refine⟨rfl,hb.filter fun u _ v _ r=>?_⟩;rw[hb.any (q:=fun m=>decide (m≠v)&&dv M v m) fun m i n _ s=>by rw[ve c hq ho s (l m i) r,decide_eq_decide.2 (not_congr (Sx.iff c hq s r))]]
theorem GJ{R:Int→Int→Prop}{l m:List Int}(h:A2 R l m):(jN l= -1∧jN m= -1)∨R (jN l) (jN m):=by
 unfold jN;cases h with
 |nil=>exact .inl ⟨rfl,rfl⟩
 |cons r t=>
  rw[if_pos (by simp),if_pos (by simp),List.getLastD_cons,List.getLastD_cons];exact .inr (t.GI r)
def kX(L:List Ob):Nat→Int→Bool
 |0,_=>false
 |n+1,k=>if(ab L k).text.head? =some 114 then true else if(ab L k).text.head? =some 111 then false else match(ab L k).parents with
  |[]=>false
  |p::_=>kX L n p
def aT(L:List Ob)(k:Int):Bool:=kX L (k.toNat+1) k
theorem yh(a:ae L):∀(n m:Nat) (k:Int),k.toNat<n→k.toNat<m→kX L n k=kX L m k
 |0,_,_,h,_=>absurd h (by omega)
 |_+1,0,_,_,h=>absurd h (by omega)
 |n+1,m+1,k,b,c=>by
  unfold kX;cases e:(ab L k).parents with
  |nil=>rfl
  |cons p d=>
   have:=mw a (j:=k) (k:=p) (by rw[e];simp);dsimp only;rw[yh a n m p (by omega) (by omega)]
theorem yi(a:ae L)(b:L<+:M):∀(n:Nat) (k:Int),kindOf L k=3→kX M n k=kX L n k
 |0,_,_=>rfl
 |n+1,k,h=>by
  unfold kX;rw[ext_get b (by omega)];cases e:(ab L k).parents with
  |nil=>rfl
  |cons p c=>
   dsimp only;rw[yi a b n p (mr a h (by rw[e];simp))]
theorem eE(a:ae L)(b:L<+:M){k:Int}(h:kindOf L k=3):aT M k=aT L k:=yi a b _ k h
theorem ud(a:ae L){k:Int}:aT L k=if(ab L k).text.head? =some 114 then true else if(ab L k).text.head? =some 111 then false else match(ab L k).parents with
  |[]=>false
  |p::_=>aT L p:=by
 unfold aT;rw[kX];cases e:(ab L k).parents with
 |nil=>rfl
 |cons p b=>
  have:=mw a (j:=k) (k:=p) (by rw[e];simp);dsimp only;rw[yh a k.toNat (p.toNat+1) p (by omega) (by omega)]
structure CC(L:List Ob):Prop where
 txt:∀k,kindOf L k=3→(ab L k).text.head? =some 114∨(ab L k).text.head? =some 111∨(ab L k).text=bz
 par:∀k,kindOf L k=3→∀p∈(ab L k).parents,aT L p=aT L k
 mer:∀k,kindOf L k=3→(ab L k).text=bz→∀ds,(bR L (ab L k).tree ds).2=0→∃p∈(ab L k).parents,(bR L (ab L p).tree ds).2=0
structure Gr(b:Bool)(L M:List Ob):Prop where
 pool:ae M
 pre:L<+:M
 cc:CC M
 new:∀k,kindOf M k=3→kindOf L k=3∨aT M k=b
theorem nQ(c:ae L)(d:L<+:M)(h:CC L){k:Int}(hk:kindOf L k=3):
  ((ab M k).text.head? =some 114∨(ab M k).text.head? =some 111∨(ab M k).text=bz)∧(∀p∈(ab M k).parents,aT M p=aT M k)∧((ab M k).text=bz→∀ds,(bR M (ab M k).tree ds).2=0→∃p∈(ab M k).parents,(bR M (ab M p).tree ds).2=0):=by
 have a:∀p∈(ab L k).parents,kindOf L p=3:=fun p b=>mr c hk b;rw[ext_get d (by omega)];refine⟨h.txt k hk,fun p b=>?_,fun i ds f=>?_⟩
 ·rw[eE c d hk,eE c d (a p b)];exact h.par k hk p b
 ·rw[mQ c d (by have:=jC c hk;omega)]at f;obtain⟨p,b,e⟩:=h.mer k hk i ds f;refine⟨p,b,?_⟩;have g:=a p b;rw[ext_get d (by omega),mQ c d (by have:=jC c g;omega)];exact e
theorem Gr.jR{b:Bool}(d:ae L)(hc:CC L)(e:ae M)(c:L<+:M)(hn:ey L M):Gr b L M:=
 ⟨e,c,⟨fun k a=>(nQ d c hc (hn k a)).1,fun k a=>(nQ d c hc (hn k a)).2.1,fun k a=>(nQ d c hc (hn k a)).2.2⟩,fun k a=>.inl (hn k a)⟩
theorem Gr.refl{b:Bool}(c:ae L)(hc:CC L):Gr b L L:=⟨c,List.prefix_refl _,hc,fun k a=>.inl a⟩
theorem Gr.trans{b:Bool}{N:List Ob}(h1:Gr b L M)(h2:Gr b M N):Gr b L N:=
 ⟨h2.pool,h1.pre.trans h2.pre,h2.cc,fun k a=>by
  rcases h2.new k a with h|h
  ·rcases h1.new k h with g|g
   ·exact .inl g
   ·exact .inr (by rw[eE h1.pool h2.pre h];exact g)
  ·exact .inr h⟩
structure gX(b:Bool)(L:List Ob)(o:Ob):Prop where
 k3:o.kind=3
 txt:(o.text.head? =some 114∧b=true)∨(o.text.head? =some 111∧b=false)∨o.text=bz
 par:∀p∈o.parents,kindOf L p=3∧aT L p=b
 tr:kindOf L o.tree=2
 mer:o.text=bz→∀ds,(bR L o.tree ds).2=0→∃p∈o.parents,(bR L (ab L p).tree ds).2=0
theorem gX.aT{b:Bool}{o:Ob}(g:ae L)(h:gX b L o)(f:ae M)(i:L<+:M){k:Int}(e:ab M k=o):Go.Nest.aT M k=b:=by
 rw[ud f,e];rcases h.txt with⟨t,rfl⟩|⟨t,rfl⟩|t
 ·rw[if_pos t]
 ·rw[if_neg (by rw[t];decide),if_pos t]
 ·rw[if_neg (by rw[t];decide),if_neg (by rw[t];decide)];obtain⟨p,d,-⟩:=h.mer t [] rfl;cases e:o.parents with
  |nil=>rw[e]at d;cases d
  |cons q j=>
   obtain⟨a,c⟩:=h.par q (by rw[e];simp);dsimp only;rw[eE g i a];exact c
theorem Gr.put{b:Bool}{o:Ob}(f:ae L)(hc:CC L)(h:gX b L o):Gr b L (ao L o).2.2:=by
 have d:=dS (L:=L) o;have n:=fK f o
 have m:∀k,kindOf (ao L o).2.2 k=3→kindOf L k=3∨ab (ao L o).2.2 k=o:=fun k j=>by
  rcases we (L:=L) (o:=o) (id:=k) (by omega)with g|g
  ·exact .inl (by rw[←dy d g];exact j)
  ·exact .inr g
 generalize (ao L o).2.2=M at*;have i:∀k,ab M k=o→aT M k=b:=fun k e=>h.aT f n d e;refine⟨n,d,⟨fun k j=>?_,fun k j=>?_,fun k j=>?_⟩,fun k j=>(m k j).imp id (i k)⟩<;>rcases m k j with g|g
 ·exact(nQ f d hc g).1
 ·rw[g];exact h.txt.imp And.left (Or.imp And.left id)
 ·exact(nQ f d hc g).2.1
 ·intro p l;rw[i k g];rw[g]at l;obtain⟨a,c⟩:=h.par p l;rw[eE f d a];exact c
 ·exact(nQ f d hc g).2.2
 ·rw[g];intro t r q;have:=h.tr;rw[mQ f d (by omega)]at q;obtain⟨p,l,e⟩:=h.mer t r q;obtain⟨a,c⟩:=h.par p l;refine⟨p,l,?_⟩;rw[ext_get d (by omega),mQ f d (by have:=jC f a;omega)];exact e
theorem Sx.down(m:ae L)(hq:ae M)(n:L<+:L')(hy:M<+:M')(h:Sx L' M' k j)(hk:kindOf L k≠0)(l:kindOf M j≠0):Sx L M k j:=
 ⟨fun x y=>Sx L' M' x y∧kindOf L x≠0∧kindOf M y≠0,fun x y ⟨r,a,b⟩=>by
  obtain⟨_,_,c⟩:=r.out;rw[ext_get n a,ext_get hy b]at c;obtain⟨o,p,q⟩:=sub_lt m a;obtain⟨s,t,u⟩:=sub_lt hq b;exact⟨a,b,c.kind,c.bytes,c.text,c.ents.imp fun e g f i r=>⟨r.name,r.mode,r.ar,r.id,(o e g).1,(s f i).1⟩,fun d=>⟨c.tree d,(p d).1,(t (c.kind▸d)).1⟩,c.tre0,c.par.imp fun e g f i r=>⟨r,(q e g).1,(u f i).1⟩⟩,h,hk,l⟩
structure Tw(L M:List Ob):Prop where
 to:∀k,kindOf L k=3→aT L k=true→∃j,Sx L M k j
 fr:∀j,kindOf M j=3→∃k,Sx L M k j
 ord:Ord L M
theorem Tw.jR(g:ae L)(hq:ae M)(h:Tw L M)(f:L<+:L')(hy:M<+:M')(hn:ey L L')(hm:ey M M'):Tw L' M':=by
 refine⟨fun k e l=>?_,fun j o=>?_,fun k i j m e n r s lt=>?_⟩
 ·rw[eE g f (hn k e)]at l;obtain⟨j,r⟩:=h.to k (hn k e) l;exact⟨j,r.grow f hy⟩
 ·obtain⟨k,r⟩:=h.fr j (hm j o);exact⟨k,r.grow f hy⟩
 ·have a:=hn k e;have b:=hn i n;have c:=hm j (r.kind▸e);have d:=hm m (s.kind▸n);exact h.ord k i j m a b (r.down g hq f hy (by omega) (by omega)) (s.down g hq f hy (by omega) (by omega)) lt
theorem Tw.other(q:ae L)(hq:ae M)(h:Tw L M)(hg:Gr false L L'):Tw L' M:=by
 have l:=hg.pre;have n:=List.prefix_refl M
 have d:∀k j,kindOf L' k=3→Sx L' M k j→kindOf L k=3∧Sx L M k j:=fun k j c r=>by
  obtain⟨i,s⟩:=h.fr j (r.kind▸c);have e:=Sx.nf hg.pool hq r (s.grow l n);subst e;have:=s.kind;have:=r.kind;exact⟨by omega,s⟩
 refine⟨fun k c f=>?_,fun j p=>?_,fun k i j m c o r s lt=>?_⟩
 ·rcases hg.new k c with g|g
  ·rw[eE q l g]at f;obtain⟨j,r⟩:=h.to k g f;exact⟨j,r.grow l n⟩
  ·rw[g]at f;cases f
 ·obtain⟨k,r⟩:=h.fr j p;exact⟨k,r.grow l n⟩
 ·obtain⟨a,r⟩:=d k j c r;obtain⟨b,s⟩:=d i m o s;exact h.ord k i j m a b r s lt
theorem Bh{o:Ob}(h:(ao L o).2.1=0):((ao L o).2.2=L∧ab L (ao L o).1=o)∨((ao L o).2.2=L++[o]∧(ao L o).1=L.length∧∀k,kindOf L k≠0→ab L k≠o):=by
 have c:=gG h;unfold ao at h c⊢;split
 ·rename_i d;rw[if_pos d]at h;exact absurd h d
 rename_i d;rw[if_neg d]at h c;split
 ·rename_i g;rw[if_pos g]at h;cases h
 rename_i g;rw[if_neg g]at h c;split
 ·rename_i f;rw[if_pos f]at c;exact .inl ⟨rfl,c.2⟩
 rename_i f;rw[if_neg f]at h c;split
 ·rename_i i;rw[if_pos i]at h;cases h
 ·refine .inr ⟨rfl,rfl,fun k j e=>?_⟩;obtain⟨a,b⟩:=bJ j;have:=zJ f;rw[List.any_eq_false]at this;rw[jg a b]at e;exact this _ (List.getElem_mem b) (decide_eq_true e)
theorem Tw.put(e:ae L)(hq:ae M)(h:Tw L M){o p:Ob}(hc:gX true L o)(r:ez (Sx L M) o p)(c:(ao L o).2.1=0)(d:(ao M p).2.1=0):Tw (ao L o).2.2 (ao M p).2.2:=by
 have s:=(oJ (by rw[hc.k3];decide) r (by rw[c];decide) (by rw[d];decide)).2 c;have w:=dS (L:=L) o;have I:=dS (L:=M) p;have P:=fK e o;have Q:=fK hq p;have O:o.kind=3:=hc.k3;have Y:p.kind=3:=r.kind▸O;have gL:=gG c;have gM:=gG d;rcases Bh c with⟨y,E⟩|⟨y,R,S⟩<;>rcases Bh d with⟨z,K⟩|⟨z,T,U⟩
 ·rw[y,z];exact h
 ·exfalso;have k3:kindOf L (ao L o).1=3:=by rw[←cH,E];exact O
  obtain⟨j,t⟩:=h.to _ k3 (hc.aT e e (List.prefix_refl _) E);have q:=t.out;rw[E]at q;exact U j q.2.1 (ez.eq q.2.2 r (fun _ _ _ _=>Sx.fn e hq) (fun _ _ _=>Sx.fn e hq) fun _ _ _ _=>Sx.fn e hq)
 ·exfalso;have k3:kindOf M (ao M p).1=3:=by rw[←cH,K];exact Y
  obtain⟨k,t⟩:=h.fr _ k3;have q:=t.symm.out;rw[K]at q;have Z:ez (Sx M L) p o:=r.symm.imp fun _ _ s=>s.symm;exact S k q.2.1 (ez.eq q.2.2 Z (fun _ _ _ _=>Sx.fn hq e) (fun _ _ _=>Sx.fn hq e) fun _ _ _ _=>Sx.fn hq e)
 ·rw[R,T]at s;generalize (ao L o).2.2=L' at*;generalize (ao M p).2.2=M' at*
  have D:∀k,kindOf L' k=3→kindOf L k=3∨k=L.length:=fun k f=>by
   obtain⟨a,b⟩:=bJ (l:=L') (id:=k) (by omega);rw[y,List.length_append,List.length_singleton]at b;by_cases n:k<L.length
   ·refine .inl ?_;rw[←cH,←n5 (m:=[o]) n,←y,cH];exact f
   ·exact .inr (by omega)
  have N:∀k,kindOf M' k=3→kindOf M k=3∨k=M.length:=fun k f=>by
   obtain⟨a,b⟩:=bJ (l:=M') (id:=k) (by omega);rw[z,List.length_append,List.length_singleton]at b;by_cases n:k<M.length
   ·refine .inl ?_;rw[←cH,←n5 (m:=[p]) n,←z,cH];exact f
   ·exact .inr (by omega)
  have x:∀k j,kindOf L k=3→Sx L' M' k j→j<M.length∧Sx L M k j:=fun k j f t=>by
   have H:=eG w f;rcases N j (t.kind▸H)with g|g
   ·have:=bJ (l:=M) (id:=j) (by omega);exact⟨by omega,t.down e hq w I (by omega) (by omega)⟩
   ·exfalso;subst g;have:=Sx.nf P Q t s;have:=bJ (l:=L) (id:=k) (by omega);omega
  refine⟨fun k f v=>?_,fun j W=>?_,fun k i j m f J t u lt=>?_⟩
  ·rcases D k f with g|rfl
   ·rw[eE e w g]at v;obtain⟨j,t⟩:=h.to k g v;exact⟨j,t.grow w I⟩
   ·exact⟨_,s⟩
  ·rcases N j W with g|rfl
   ·obtain⟨k,t⟩:=h.fr j g;exact⟨k,t.grow w I⟩
   ·exact⟨_,s⟩
  ·rcases D k f with g|rfl
   ·obtain⟨a,t⟩:=x k j g t;rcases D i J with F|rfl
    ·exact h.ord k i j m g F t (x i m F u).2 lt
    ·have:=Sx.fn P Q u s;omega
   ·rcases D i J with F|rfl
    ·have:=bJ (l:=L) (id:=i) (by omega);omega
    ·omega
end Go.Nest
end
section
namespace Go.Nest
open Go Go.AM
variable {L M L' M':List Ob} {k j:Int}
theorem Kr{a b:Int}{os ps:List Int}(h:gZ L M a b)(ho:A2 (Sx L M) os ps):A2 (Sx L M) (cD a os) (cD b ps):=by
 unfold cD;refine A2.app ?_ ho;rcases h with⟨x,y⟩|⟨s,-⟩
 ·rw[if_neg (by omega),if_neg (by omega)];exact .nil
 ·have:=s.pos;rw[if_pos this.1,if_pos this.2];exact .one s
theorem yk(q:ae L)(hq:ae M)(K:Tw L M){l m:List It}{a b:Int}{os ps:List Int}{text:List UInt8}(h:fE L M l m)(hd:gZ L M a b)(ho:A2 (Sx L M) os ps)
  (hc:(aE L l).2.1=0→gX true (aE L l).2.2 (bE (aE L l).1 (cD a os) text))(c:(aH L l a text os).2.1≠15)(d:(aH M m b text ps).2.1≠15):
  (aH L l a text os).2.1=(aH M m b text ps).2.1∧((aH L l a text os).2.1=0→Sx (aH L l a text os).2.2 (aH M m b text ps).2.2 (aH L l a text os).1 (aH M m b text ps).1)∧Tw (aH L l a text os).2.2 (aH M m b text ps).2.2:=by
 obtain⟨D,t⟩:=eV (l:=l) q;obtain⟨E,u⟩:=eV (l:=m) hq;have o:=K.jR q hq t u (jY (l:=l)) (jY (l:=m));unfold aH at c d⊢;obtain⟨e,f⟩:=Cg q hq h (fun z=>c (by rw[if_pos (by rw[z];decide)];exact z)) (fun z=>d (by rw[if_pos (by rw[z];decide)];exact z));have J:=h.len;have i:=hd.grow t u;have p:A2 (Sx (aE L l).2.2 (aE M m).2.2) os ps:=ho.imp fun _ _ _ _ s=>s.grow t u;generalize aE L l=T at*;generalize aE M m=U at*;by_cases z:T.2.1=0
 ·have v:U.2.1=0:=e▸z
  have g:(0≤a∧jW T.2.2 l a T.1=true∧os.length=0)↔(0≤b∧jW U.2.2 m b U.1=true∧ps.length=0):=by
   rw[BN D E J i (f z),ho.len];have:=hd.neg;constructor
   ·exact fun⟨x,y⟩=>⟨by omega,y⟩
   ·exact fun⟨x,y⟩=>⟨by omega,y⟩
  rw[if_neg (show¬T.2.1≠0 from fun k=>k z)]at c⊢;rw[if_neg (show¬U.2.1≠0 from fun k=>k v)]at d⊢;by_cases w:0≤a∧jW T.2.2 l a T.1=true∧os.length=0
  ·rw[if_pos w,if_pos (g.1 w)];exact⟨rfl,fun h=>absurd (show(17:Int)=0 from h) (by decide),o⟩
  ·rw[if_neg w]at c⊢;rw[if_neg (fun k=>w (g.2 k))]at d⊢;have r:ez (Sx T.2.2 U.2.2) (bE T.1 (cD a os) text) (bE U.1 (cD b ps) text):=⟨rfl,rfl,rfl,.nil,fun _=>f z,fun h=>absurd rfl h,Kr i p⟩;have F:(ao T.2.2 (bE T.1 (cD a os) text)).2.1≠15:=fun y=>c (by rw[if_pos (by rw[y];decide)];exact y);have H:(ao U.2.2 (bE U.1 (cD b ps) text)).2.1≠15:=fun y=>d (by rw[if_pos (by rw[y];decide)];exact y);obtain⟨n,I⟩:=oJ (by show(3:Int)≠0;decide) r F H;by_cases y:(ao T.2.2 (bE T.1 (cD a os) text)).2.1=0
   ·have j:(ao U.2.2 (bE U.1 (cD b ps) text)).2.1=0:=n▸y;rw[if_neg (fun k=>k y),if_neg (fun k=>k j)];exact⟨n,I,o.put D E (hc z) r y j⟩
   ·have j:(ao U.2.2 (bE U.1 (cD b ps) text)).2.1≠0:=n▸y;rw[if_pos y,if_pos j,oK y,oK j];exact⟨n,fun h=>absurd h y,o⟩
 ·have v:U.2.1≠0:=e▸z;rw[if_pos z,if_pos v];exact⟨e,fun h=>absurd h z,o⟩
def gY(L M:List Ob)(f g:Fi):Prop:=(f.mode≠0∧gl (Sx L M) f g)∨(f=la∧g=la)
theorem gY.grow{f g:Fi}(h:gY L M f g)(b:L<+:L')(hy:M<+:M'):gY L' M' f g:=h.imp (fun⟨a,r⟩=>⟨a,r.imp fun _ _ s=>s.grow b hy⟩) id
theorem gY.mode{f g:Fi}(h:gY L M f g):f.mode=g.mode:=by
 rcases h with⟨_,r⟩|⟨rfl,rfl⟩
 ·exact r.mode
 ·rfl
theorem gY.iff(o:ae L)(hq:ae M){f g x y:Fi}(h:gY L M f g)(c:gY L M x y):f=x↔g=y:=by
 rcases h with⟨a,r⟩|⟨rfl,rfl⟩<;>rcases c with⟨b,s⟩|⟨rfl,rfl⟩
 ·have n:=Sx.iff o hq r.id s.id;have d:=r.path;have i:=r.mode;have j:=r.ar;have k:=s.path;have l:=s.mode;have m:=s.ar;obtain⟨p,q,t,u⟩:=f;obtain⟨v,w,z,D⟩:=g;obtain⟨E,F,H,I⟩:=x;obtain⟨J,K,N,O⟩:=y;simp only[Fi.mk.injEq]at*;rw[d,i,j,k,l,m,n]
 ·constructor
  ·intro e;subst e;exact absurd rfl a
  ·intro e;subst e;exact absurd (r.mode.trans rfl) a
 ·constructor
  ·intro e;subst e;exact absurd rfl b
  ·intro e;subst e;exact absurd (s.mode.trans rfl) b
 ·exact⟨fun _=>rfl,fun _=>rfl⟩
theorem uA{l m:List Fi}(h:cV L M l m)(hm:∀f∈l,f.mode≠0)(q:List UInt8):gY L M (bW l q).1 (bW m q).1:=by
 induction h with
 |nil=>exact .inr ⟨rfl,rfl⟩
 | @cons f g l m r _ ih=>
  have ih:=ih fun x a=>hm x (by simp[a]);unfold bW at ih⊢;rw[List.find?_cons,List.find?_cons,r.path];cases decide (g.path=q)with
  |true=>exact .inl ⟨hm f (by simp),r⟩
  |false=>exact ih
theorem tQ{f g:Fi}(h:gY L M f g):ic L f=ic M g:=by
 unfold ic;rw[h.mode];split
 ·rfl
 ·rcases h with⟨_,r⟩|⟨rfl,rfl⟩
  ·exact r.id.out.2.2.bytes
  ·rename_i a;exact absurd rfl a
theorem HD{b x y b' c d:Fi}(hb:gY L M b b')(a:gY L M x c)(hy:gY L M y d):gU L b x y=gU M b' c d:=by
 unfold gU;rw[hb.mode,a.mode,hy.mode,tQ hb,tQ a,tQ hy]
theorem HC{b x y:Fi}{t:List UInt8}(h:gU L b x y=some t):t.length≤400:=by
 unfold gU at h;split at h
 ·cases h
 ·rw[Option.bind_eq_some_iff]at h;obtain⟨l,_,h⟩:=h;split at h
  ·cases h
  ·rename_i a;cases h;omega
theorem Bp{t:List UInt8}(b:t.length≤400):(ao L (ed t)).2.1=0∨(ao L (ed t)).2.1=15:=by
 have a:bQ (ed t)=0:=by
  unfold bQ ed;simp only[show¬400<t.length by omega];rfl
 rcases sE (L:=L) (o:=ed t)with h|h
 ·refine .inl ?_;rw[h,if_neg (fun k=>k a),if_neg];unfold dH ed;simp
 ·exact .inr h
structure qD(L0 M0:List Ob)(s t:BS):Prop where
 pL:ae s.L
 pM:ae t.L
 xL:L0<+:s.L
 xM:M0<+:t.L
 out:cV s.L t.L s.out t.out
 cf:s.cf=t.cf
 c:s.code=0
 d:t.code=0
theorem add_same{f g:Fi}{l m:List Fi}(h:cV L M l m)(r:gY L M f g):cV L M (fP l f) (fP m g):=by
 unfold fP;rw[r.mode];rcases r with⟨a,r⟩|⟨rfl,rfl⟩
 ·split
  ·exact h.app (.one r)
  ·exact h
 ·rw[if_neg (by decide)];exact h
theorem JZ{L0 M0:List Ob}{base x y j I N:List Fi}(hb:cV L0 M0 base j)(hx:cV L0 M0 x I)(hy:cV L0 M0 y N)(mb:∀f∈base,f.mode≠0)(mx:∀f∈x,f.mode≠0)(my:∀f∈y,f.mode≠0){s t:BS}(h:qD L0 M0 s t)(q:List UInt8)(c:(fg base x y s q).code≠15)(d:(fg j I N t q).code≠15):qD L0 M0 (fg base x y s q) (fg j I N t q):=by
 have P:=(uA hb mb q).grow h.xL h.xM;have v:=(uA hx mx q).grow h.xL h.xM;have D:=(uA hy my q).grow h.xL h.xM;unfold fg at c d⊢;dsimp only at c d⊢;generalize (bW base q).1=f at*;generalize (bW j q).1=R at*;generalize (bW x q).1=g at*;generalize (bW I q).1=T at*;generalize (bW y q).1=u at*;generalize (bW N q).1=Y at*;obtain⟨E,so,sc,sk⟩:=s;obtain⟨H,to,tc,tk⟩:=t;obtain⟨n,r,J,K,out,cf,Z,d0⟩:=h;dsimp only at*;subst cf Z d0;have U:(g=u∨u=f)↔(T=Y∨Y=R):=or_congr (v.iff n r D) (D.iff n r P);have W:g=f↔T=R:=v.iff n r P;unfold jT oG lG oH at*;by_cases l:g=u∨u=f
 ·have a:=U.1 l;rw[if_pos l,if_pos l,if_pos l,if_pos l,if_pos a,if_pos a,if_pos a,if_pos a];exact⟨n,r,J,K,add_same out v,rfl,rfl,rfl⟩
 have a:=fun k=>l (U.2 k);rw[if_neg l]at c;rw[if_neg a]at d;rw[if_neg l,if_neg l,if_neg l,if_neg l,if_neg a,if_neg a,if_neg a,if_neg a];by_cases m:g=f
 ·have i:=W.1 m;rw[if_pos m,if_pos m,if_pos m,if_pos m,if_pos i,if_pos i,if_pos i,if_pos i];exact⟨n,r,J,K,add_same out D,rfl,rfl,rfl⟩
 have i:=fun k=>m (W.2 k);rw[if_neg m]at c;rw[if_neg i]at d;rw[if_neg m,if_neg m,if_neg m,if_neg m,if_neg i,if_neg i,if_neg i,if_neg i];have F:=HD P v D;unfold lD il iQ at*;cases e:gU E f g u with
 |none=>
  rw[e]at F;rw[←F];dsimp only;have S:¬(false=true):=by decide
  rw[if_neg S,if_neg S];refine⟨n,r,J,K,add_same out ?_,rfl,rfl,rfl⟩;rw[v.mode];split
  ·exact D
  ·exact v
 |some b=>
  have w:=HC e;rw[e]at F c;rw[←F]at d⊢;dsimp only at c d⊢;have O:(ao E (ed b)).2.1=0:=(Bp w).resolve_right fun z=>c (by rw[if_pos ⟨by rw[z];decide,rfl⟩];exact z);have Q:(ao H (ed b)).2.1=0:=(Bp w).resolve_right fun z=>d (by rw[if_pos ⟨by rw[z];decide,rfl⟩];exact z);have hs:=(oJ (L:=E) (M:=H) (o:=ed b) (p:=ed b) (by show(1:Int)≠0;decide) ⟨rfl,rfl,rfl,.nil,fun h=>absurd h (by show¬(1:Int)=3;decide),fun _=>rfl,.nil⟩ (by rw[O];decide) (by rw[Q];decide)).2 O;rw[if_neg (show¬((ao E (ed b)).2.1≠0∧(0:Int)=0)from fun k=>k.1 O),if_neg (show¬((ao H (ed b)).2.1≠0∧(0:Int)=0)from fun k=>k.1 Q)];exact⟨fK n _,fK r _,J.trans (dS _),K.trans (dS _),add_same (out.grow (dS _) (dS _)) (f:=⟨q,1,(ao E (ed b)).1,0⟩) (g:=⟨q,1,(ao H (ed b)).1,0⟩) (.inl ⟨show(1:Int)≠0 by decide,rfl,rfl,rfl,hs⟩),rfl,rfl,rfl⟩
theorem wB{base x y:List Fi}:∀(a:List (List UInt8)) {s:BS},s.code≠0→(cu base x y s a).code=s.code
 |[],s,h=>rfl
 |q::a,s,h=>by
  have e:(fg base x y s q).code=s.code:=by
   show oG s.L s.code _ _ _=s.code;unfold oG;split
   ·rfl
   split
   ·rfl
   unfold lD;split
   ·rfl
   ·rw[if_neg (fun k=>h k.2)]
  show(cu base x y (fg base x y s q) a).code=s.code;rw[wB a (by rw[e];exact h),e]
theorem BL{L0 M0:List Ob}{base x y a e g:List Fi}(hb:cV L0 M0 base a)(i:cV L0 M0 x e)(hy:cV L0 M0 y g)(j:∀f∈base,f.mode≠0)(mx:∀f∈x,f.mode≠0)(k:∀f∈y,f.mode≠0):∀(b:List (List UInt8)) {s t:BS},qD L0 M0 s t→(cu base x y s b).code≠15→(cu a e g t b).code≠15→qD L0 M0 (cu base x y s b) (cu a e g t b)
 |[],s,t,h,_,_=>h
 |q::b,s,t,h,c,d=>by
  have c:(cu base x y (fg base x y s q) b).code≠15:=c;have d:(cu a e g (fg a e g t q) b).code≠15:=d;have l:(fg base x y s q).code≠15:=fun z=>c (by rw[wB b (by rw[z];decide),z]);have m:(fg a e g t q).code≠15:=fun z=>d (by rw[wB b (by rw[z];decide),z]);exact BL hb i hy j mx k b (JZ hb i hy j mx k h q l m) c d
theorem Ix{R:Int→Int→Prop}{b x y b' i j:List Fi}(hb:A2 (gl R) b b')(o:A2 (gl R) x i)(hy:A2 (gl R) y j):cN [b,x,y]=cN [b',i,j]:=by
 have c:∀l:List (List Fi),jv id (cN l)∧∀q,q∈cN l↔∃f∈l.flatten,f.path=q:=fun l=>by
  obtain⟨m,n⟩:=um (zL l.flatten);refine⟨m,fun q=>(n q).trans ?_⟩;constructor
  ·rintro⟨f,a,e⟩;exact⟨f,(rJ _).mem_iff.1 a,e⟩
  ·rintro⟨f,a,e⟩;exact⟨f,(rJ _).mem_iff.2 a,e⟩
 have a:A2 (gl R) [b,x,y].flatten [b',i,j].flatten:=by
  simp only[List.flatten_cons,List.flatten_nil];exact hb.app (o.app (hy.app .nil))
 refine wv (k:=id) (c _).1 (c _).1 fun q=>?_;rw[(c _).2,(c _).2];constructor
 ·rintro⟨f,h,rfl⟩;obtain⟨g,d,r⟩:=a.left f h;exact⟨g,d,r.path.symm⟩
 ·rintro⟨f,h,rfl⟩;obtain⟨g,d,r⟩:=a.right f h;exact⟨g,d,r.path⟩
theorem tI{base x y:List Fi}:ey L (dh L base x y).L:=by
 have a:=wA (base:=base) (x:=x) (y:=y) (cN [base,x,y]) ⟨L,[],[],0⟩;unfold dh;split
 ·exact .refl _
 dsimp only;generalize (if(cu base x y ⟨L,[],[],0⟩ (cN [base,x,y])).code=0 then cq (cu base x y ⟨L,[],[],0⟩ (cN [base,x,y])).out else(cu base x y ⟨L,[],[],0⟩ (cN [base,x,y])).code)=c;split
 ·exact a
 ·exact a
theorem Dl(r:ae L)(hq:ae M){base x y e i j:List Fi}(hb:cV L M base e)(m:cV L M x i)(hy:cV L M y j)(c:(dh L base x y).code≠15)(d:(dh M e i j).code≠15):
  (dh L base x y).code=(dh M e i j).code∧(dh L base x y).cf=(dh M e i j).cf∧cV (dh L base x y).L (dh M e i j).L (dh L base x y).out (dh M e i j).out:=by
 have p:dQ [base,x,y]=dQ [e,i,j]:=by unfold dQ dQ dQ dQ;rw[pr hb,pr m,pr hy]
 unfold dh at c d⊢;rw[p]at c⊢;by_cases g:dQ [e,i,j]≠0
 ·rw[if_pos g,if_pos g];exact⟨rfl,rfl,.nil⟩
 rw[if_neg g]at c d⊢;rw[if_neg g];have g:=p.trans (Decidable.not_not.1 g)
 have k:∀l∈[base,x,y],∀f∈l,f.mode≠0:=by
  have n:cq base=0∧cq x=0∧cq y=0:=by
   unfold dQ at g;split at g
   ·exact absurd g ‹_›
   rename_i a;unfold dQ at g;split at g
   ·exact absurd g ‹_›
   rename_i b;unfold dQ at g;split at g
   ·exact absurd g ‹_›
   rename_i c;exact⟨Decidable.not_not.1 a,Decidable.not_not.1 b,Decidable.not_not.1 c⟩
  intro l hl f q
  have:cq l=0:=by
   rcases List.mem_cons.1 hl with rfl|hl
   ·exact n.1
   rcases List.mem_cons.1 hl with rfl|hl
   ·exact n.2.1
   rw[List.mem_singleton]at hl;subst hl;exact n.2.2
  have:=((jG this).2 f q).2;omega
 rw[Ix hb m hy]at c⊢;have o:=BL hb m hy (k base (by simp)) (k x (by simp)) (k y (by simp)) (cN [e,i,j]) (s:=⟨L,[],[],0⟩) (t:=⟨M,[],[],0⟩) ⟨r,hq,List.prefix_refl _,List.prefix_refl _,.nil,rfl,rfl,rfl⟩;generalize cu base x y ⟨L,[],[],0⟩ (cN [e,i,j])=s at*;generalize cu e i j ⟨M,[],[],0⟩ (cN [e,i,j])=t at*;dsimp only at c d⊢;have h:=o (fun z=>c (by rw[z];rfl)) (fun z=>d (by rw[z];rfl));rw[if_pos h.c,if_pos h.d,pr h.out];split
 ·exact⟨rfl,rfl,.nil⟩
 ·exact⟨rfl,h.cf,h.out⟩
end Go.Nest
end
section
namespace Go.Nest
open Go Go.AM
variable {L M L0 M0:List Ob} {b:Bool} {dir:List UInt8}
theorem xB(c:ae L):∀(ds:List (List UInt8)) {t:Int},kindOf L t=2→(bR L t ds).2=0→kindOf L (bR L t ds).1=2
 |[],t,a,_=>a
 |d::ds,t,a,h=>by
  unfold bR at h⊢;rw[if_neg (fun k=>k a)]at h⊢;cases e:(ab L t).entries.find? (isDir d)with
  |none=>rw[e]at h;cases h
  |some x=>
   rw[e]at h;dsimp only at h⊢;have b:=List.find?_some e;unfold isDir at b;rw[Bool.and_eq_true,decide_eq_true_iff,decide_eq_true_iff]at b;have f:=((gg c a).2 x (List.mem_of_find?_eq_some e)).kind;exact xB c ds (by omega) h
theorem tE{d:List UInt8}{ds:List (List UInt8)}{t:Int}:bR L t (d::ds)=if kindOf L t≠2 then(0,9)else match(ab L t).entries.find? (isDir d)with
  |some e=>bR L e.id ds
  |none=>(0,9):=rfl
theorem tD:∀(a c:List (List UInt8)) {t:Int},(bR L t a).2=0→bR L t (a++c)=bR L (bR L t a).1 c
 |[],c,t,_=>rfl
 |d::a,c,t,h=>by
  rw[List.cons_append,tE (ds:=a++c),tE (ds:=a)];rw[tE]at h;by_cases b:kindOf L t≠2
  ·rw[if_pos b]at h;cases h
  rw[if_neg b]at h;rw[if_neg b,if_neg b];cases e:(ab L t).entries.find? (isDir d)with
  |none=>rw[e]at h;cases h
  |some x=>
   rw[e]at h;exact tD a c h
theorem xz:∀(a c:List (List UInt8)) {t:Int},(bR L t (a++c)).2=0→(bR L t a).2=0
 |[],c,t,_=>rfl
 |d::a,c,t,h=>by
  rw[List.cons_append]at h;unfold bR at h⊢;by_cases b:kindOf L t≠2
  ·rw[if_pos b]at h;cases h
  rw[if_neg b]at h⊢;cases e:(ab L t).entries.find? (isDir d)with
  |none=>rw[e]at h;cases h
  |some x=>
   rw[e]at h;exact xz a c h
theorem rH{im:List (List Int)}{n:Nat}{v:List Int}(hn:n<im.length)(k:Int):bI (im.set n v) k=if k.toNat=n then v else bI im k:=by
 unfold bI;rw[List.getElem?_set];by_cases h:n=k.toNat
 ·rw[if_pos h,if_pos (by omega),if_pos h.symm];rfl
 ·rw[if_neg h,if_neg (fun e=>h e.symm)]
structure gw(b:Bool)(L0:List Ob)(dir:List UInt8)(d:List Int)(L:List Ob)(im:List (List Int)):Prop where
 pool:ae L
 pre:L0<+:L
 cc:CC L
 len:im.length=L0.length
 aT:∀k,∀x∈bI im k,kindOf L x=3∧aT L x=b
 dk:∀k∈d,0≤k
 prc:∀k∈d,∀t,bt L0 (ab L0 k).tree dir=(t,0)→∃x∈bI im k,(ab L x).tree=t
theorem gw.cm{d:List Int}{im:List (List Int)}(j:ae L0)(o:CC L0)(h:gw b L0 dir d L im){id:Int}(hk:kindOf L0 id=3)(hc:Go.Nest.aT L0 id=b)(hd:∀p∈(ab L0 id).parents,p∈d){t:Int}(l:bt L (ab L id).tree dir=(t,0)):gX b L (bE t (cn im (ab L id).parents) (ab L id).text):=by
 have m:=h.pre;have k3:=eG m hk;have q:ab L id=ab L0 id:=ext_get m (by omega)
 have i:(cj dir).2=0∧bR L (ab L id).tree (cj dir).1=(t,0):=by
  unfold bt at l;split at l
  ·rename_i z;exact absurd (congrArg Prod.snd l) z
  ·rename_i z;exact⟨Decidable.not_not.1 z,l⟩
 refine⟨rfl,?_,fun p s=>?_,?_,fun u g e=>?_⟩
 ·show((ab L id).text.head? =some 114∧b=true)∨((ab L id).text.head? =some 111∧b=false)∨(ab L id).text=bz;rw[q];rcases o.txt id hk with z|z|z
  ·exact .inl ⟨z,by rw[←hc,ud j,if_pos z]⟩
  ·exact .inr (.inl ⟨z,by rw[←hc,ud j,if_neg (by rw[z];decide),if_pos z]⟩)
  ·exact .inr (.inr z)
 ·obtain⟨k,_,f⟩:=qy.1 s;exact h.aT k p f
 ·have:=xB h.pool (cj dir).1 (jC h.pool k3) (by rw[i.2]);rw[i.2]at this;exact this
 ·have u:(ab L id).text=bz:=u;have e:(bR L t g).2=0:=e;have D:=tD (L:=L) (cj dir).1 g (t:=(ab L id).tree) (by rw[i.2]);rw[i.2]at D;obtain⟨p,a,c⟩:=h.cc.mer id k3 u ((cj dir).1++g) (by rw[D];exact e);have w:=xz _ _ c;rw[tD _ _ w]at c;rw[q]at a;have y:=mr j hk a;have r:ab L p=ab L0 p:=ext_get m (by omega);have s:=fun g=>mQ (ds:=g) j m (t:=(ab L0 p).tree) (by have:=jC j y;omega);rw[r,s]at w c
  have n:bt L0 (ab L0 p).tree dir=((bR L0 (ab L0 p).tree (cj dir).1).1,0):=by
   unfold bt;rw[if_neg (fun k=>k i.1)];exact Prod.ext rfl w
  obtain⟨x,v,f⟩:=h.prc p (hd p a) _ n;refine⟨x,qy.2 ⟨p,by rw[q];exact a,v⟩,?_⟩;rw[f];exact c
theorem gw.set{d:List Int}{im:List (List Int)}{L':List Ob}(p:ae L0)(h:gw b L0 dir d L im)(hg:Gr b L L'){id:Int}(hk:kindOf L0 id=3){v:List Int}(hv:∀x∈v,kindOf L' x=3∧Go.Nest.aT L' x=b)(m:∀t,bt L0 (ab L0 id).tree dir=(t,0)→∃x∈v,(ab L' x).tree=t):gw b L0 dir (id::d) L' (im.set id.toNat v):=by
 obtain⟨q,n⟩:=bJ (l:=L0) (id:=id) (by omega);have i:id.toNat<im.length:=by rw[h.len];exact n
 have up:∀x,kindOf L x=3→Go.Nest.aT L x=b→kindOf L' x=3∧Go.Nest.aT L' x=b:=fun x a c=>⟨eG hg.pre a,by rw[eE h.pool hg.pre a];exact c⟩;refine⟨hg.pool,h.pre.trans hg.pre,hg.cc,by rw[List.length_set];exact h.len,fun k x f=>?_,fun k hk2=>?_,fun k hk2 t g=>?_⟩
 ·rw[rH i]at f;split at f
  ·exact hv x f
  ·obtain⟨a,c⟩:=h.aT k x f;exact up x a c
 ·rcases List.mem_cons.1 hk2 with rfl|hk2
  ·omega
  ·exact h.dk k hk2
 ·rw[rH i];split
  ·rename_i e
   have:k=id:=by
    rcases List.mem_cons.1 hk2 with rfl|hk2
    ·rfl
    ·have:=h.dk k hk2;omega
   subst this;exact m t g
  ·rename_i e;obtain⟨x,j,o⟩:=h.prc k ((List.mem_cons.1 hk2).resolve_left fun z=>e (by rw[z])) t g;refine⟨x,j,?_⟩;have:=(h.aT k x j).1;rw[ext_get hg.pre (by omega)];exact o
theorem gw.step{d:List Int}{im:List (List Int)}(i:ae L0)(r:CC L0)(h:gw b L0 dir d L im){id:Int}(hk:kindOf L0 id=3)(hc:Go.Nest.aT L0 id=b)(hd:∀p∈(ab L0 id).parents,p∈d):
  Gr b L (bP L dir im id).2.2∧((bP L dir im id).2.1=0→gw b L0 dir (id::d) (bP L dir im id).2.2 (im.set id.toNat (bP L dir im id).1)):=by
 have a:=fun t c=>h.cm i r hk hc hd (t:=t) c;have j:Gr b L L:= .refl h.pool h.cc
 have l:∀x∈cn im (ab L id).parents,kindOf L x=3∧Go.Nest.aT L x=b:=fun x q=>by
  obtain⟨k,_,s⟩:=qy.1 q;exact h.aT k x s
 have f:bt L (ab L id).tree dir=bt L0 (ab L0 id).tree dir:=by
  rw[ext_get h.pre (by omega),nL i h.pre (by have:=jC i hk;omega)]
 unfold bP bT;generalize cn im (ab L id).parents=up at*;by_cases m:(bt L (ab L id).tree dir).2=9
 ·rw[if_pos m];refine⟨j,fun _=>h.set i j hk l fun t c=>?_⟩;rw[f,c]at m;cases m
 rw[if_neg m];by_cases g:(bt L (ab L id).tree dir).2≠0
 ·rw[if_pos g];exact⟨j,fun e=>absurd e g⟩
 rw[if_neg g];have g:=Decidable.not_not.1 g;have a:=a _ (Prod.ext rfl g);by_cases n:up.length=1∧(ab L (up.headD 0)).tree=(bt L (ab L id).tree dir).1
 ·rw[if_pos n];refine⟨j,fun _=>h.set i j hk l fun t c=>⟨up.headD 0,pE n.1,?_⟩⟩;rw[n.2,f,c]
 rw[if_neg n];have o:=Gr.put h.pool h.cc a;refine⟨o,fun e=>h.set i o hk (fun x q=>?_) fun t c=>?_⟩
 ·rw[List.mem_singleton]at q;subst q;have u:=(gG e).2;exact⟨by rw[←cH,u];rfl,a.aT h.pool o.pool o.pre u⟩
 ·refine⟨_,List.mem_singleton.2 rfl,?_⟩;rw[(gG e).2,f,c];rfl
theorem B4(q:ae L0)(j:CC L0):∀{l:List Int} {L:List Ob} {im:List (List Int)} {d:List Int},gw b L0 dir d L im→(∀i∈l,kindOf L0 i=3∧aT L0 i=b)→l.Pairwise (· < ·)→(∀i∈l,∀p∈(ab L0 i).parents,p∈d∨p∈l)→
  Gr b L (aS dir l L im).2.1∧((aS dir l L im).1=0→∃t,gw b L0 dir t (aS dir l L im).2.1 (aS dir l L im).2.2)
 |[],L,im,d,h,_,_,_=>⟨.refl h.pool h.cc,fun _=>⟨d,h⟩⟩
 |id::r,L,im,d,h,o,u,s=>by
  obtain⟨v,w⟩:=List.pairwise_cons.1 u
  have m:∀p∈(ab L0 id).parents,p∈d:=fun p k=>(s id (by simp) p k).resolve_right fun hr=>by
   have:=(mw q k).2.1;rcases List.mem_cons.1 hr with rfl|hr
   ·omega
   ·have:=v p hr;omega
  obtain⟨a,c⟩:=h.step q j (o id (by simp)).1 (o id (by simp)).2 m;unfold aS;by_cases z:(bP L dir im id).2.1≠0
  ·rw[if_pos z];exact⟨a,fun e=>absurd e z⟩
  ·rw[if_neg z]
   obtain⟨e,f⟩:=B4 q j (c (Decidable.not_not.1 z)) (fun i n=>o i (by simp[n])) w fun i n p k=>by
    rcases s i (by simp[n]) p k with g|g
    ·exact .inl (by simp[g])
    ·rcases List.mem_cons.1 g with rfl|g
     ·exact .inl (by simp)
     ·exact .inr g
   exact⟨a.trans e,f⟩
theorem CV(c:ae L)(hc:CC L){a x:Int}(h:dK L a x):kindOf L a=3→aT L x=aT L a:=by
 induction h with
 |refl=>intro _;rfl
 |step b _ ih=>intro k;rw[ih (mr c k b),hc.par _ k _ b]
theorem gw.start(d:ae L)(hc:CC L):gw b L dir [] L (List.replicate L.length []):=by
 refine⟨d,List.prefix_refl _,hc,List.length_replicate,fun k x a=>?_,fun k c=>(by cases c),fun k c=>(by cases c)⟩;unfold bI at a;cases e:(List.replicate L.length ([]:List Int))[k.toNat]? with
 |none=>rw[e]at a;cases a
 |some v=>
  rw[e]at a;have:=List.eq_of_mem_replicate (List.mem_of_getElem? e);subst this;cases a
theorem xk(a:ae L)(hc:CC L){id:Int}(hk:kindOf L id=3)(hb:aT L id=b):(∀i∈aO L id,kindOf L i=3∧aT L i=b)∧∀i∈aO L id,∀p∈(ab L i).parents,p∈([]:List Int)∨p∈aO L id:=by
 refine⟨fun i c=>?_,fun i c p d=>.inr ?_⟩
 ·have h:=(ft a hk).1 c;exact⟨h.kind a hk,by rw[CV a hc h hk,hb]⟩
 ·exact(ft a hk).2 (((ft a hk).1 c).next d)
theorem JP(a:ae L)(hc:CC L){id:Int}(hk:kindOf L id=3)(hb:aT L id=b):Gr b L (aP L id dir).2.2∧((aP L id dir).2.1=0→aT (aP L id dir).2.2 (aP L id dir).1=b):=by
 obtain⟨d,f⟩:=xk a hc hk hb;obtain⟨g,s⟩:=B4 (dir:=dir) a hc (gw.start a hc) d lT f;unfold aP;rw[show b7 L id=(aO L id,0)from if_pos hk,if_neg (show¬((aO L id,(0:Int)).2≠0)from fun k=>k rfl)];dsimp only;by_cases z:(aS dir (aO L id) L (List.replicate L.length [])).1≠0
 ·rw[if_pos z];exact⟨g,fun e=>absurd e z⟩
 ·rw[if_neg z];refine⟨g,fun e=>?_⟩;obtain⟨i,s⟩:=s (Decidable.not_not.1 z);dsimp only at e⊢;unfold jS at e⊢;split at e
  ·cases e
  rename_i h;split at e
  ·rename_i c;rw[if_neg h,if_pos c];exact(s.aT id _ (pE c)).2
  ·cases e
theorem CT(b:ae L)(hq:ae M){l m:List Int}(h:A2 (Sx L M) l m){x y:Int}(s:Sx L M x y):A2 (Sx L M) (ba l x) (ba m y):=by
 have e:x∈l↔y∈m:=by rw[←eP,←eP,uS b hq h s]
 unfold ba;by_cases a:x∈l
 ·rw[if_pos a,if_pos (e.1 a)];exact h
 ·rw[if_neg a,if_neg (fun k=>a (e.2 k))];exact h.app (.one s)
theorem CQ(b:ae L)(hq:ae M){l m:List Int}(h:A2 (Sx L M) l m):∀{a c:List Int},A2 (Sx L M) a c→A2 (Sx L M) (l.foldl ba a) (m.foldl ba c):=by
 induction h with
 |nil=>intro a c h;exact h
 |cons r _ ih=>intro a c h;rw[List.foldl_cons,List.foldl_cons];exact ih (CT b hq h r)
theorem Kq(b:ae L)(hq:ae M){im im2:List (List Int)}(hi:∀k j,Sx L0 M0 k j→A2 (Sx L M) (bI im k) (bI im2 j)){l m:List Int}(h:A2 (Sx L0 M0) l m):∀{a c:List Int},A2 (Sx L M) a c→A2 (Sx L M) (l.foldl (fun out k=>(bI im k).foldl ba out) a) (m.foldl (fun out k=>(bI im2 k).foldl ba out) c):=by
 induction h with
 |nil=>intro a c h;exact h
 |cons r _ ih=>intro a c h;rw[List.foldl_cons,List.foldl_cons];exact ih (CQ b hq (hi _ _ r) h)
theorem zF{R:Int→Int→Prop}{l m:List Int}(h:A2 R l m)(h1:l.length=1):R (l.headD 0) (m.headD 0):=by
 cases h with
 |nil=>cases h1
 |cons r _=>exact r
structure lP(L0 M0 L M:List Ob)(im im2:List (List Int)):Prop where
 pool:ae M
 pre:M0<+:M
 len:im2.length=M0.length
 im:∀k j,Sx L0 M0 k j→A2 (Sx L M) (bI im k) (bI im2 j)
 tw:Tw L M
theorem lP.step{d:List Int}{im im2:List (List Int)}(P:ae L0)(hq:ae M0)(w:CC L0)(h:gw true L0 dir d L im)(r:lP L0 M0 L M im im2){id a:Int}(s:Sx L0 M0 id a)(hk:kindOf L0 id=3)(hc:aT L0 id=true)(hd:∀p∈(ab L0 id).parents,p∈d)(c:(bP L dir im id).2.1≠15)(e:(bP M dir im2 a).2.1≠15):
  (bP L dir im id).2.1=(bP M dir im2 a).2.1∧Tw (bP L dir im id).2.2 (bP M dir im2 a).2.2∧((bP L dir im id).2.1=0→A2 (Sx (bP L dir im id).2.2 (bP M dir im2 a).2.2) (bP L dir im id).1 (bP M dir im2 a).1):=by
 have i:=fun t O=>h.cm P w hk hc hd (t:=t) O;have H:=s.out;have R:kindOf M0 a=3:=s.kind▸hk;have gi:ab L id=ab L0 id:=ext_get h.pre (by omega);have v:ab M a=ab M0 a:=ext_get r.pre (by omega)
 have b:A2 (Sx L M) (cn im (ab L id).parents) (cn im2 (ab M a).parents):=by
  rw[gi,v];exact Kq h.pool r.pool r.im H.2.2.par .nil
 have D:Sx L M (ab L id).tree (ab M a).tree:=by
  rw[gi,v];exact(H.2.2.tree (by rw[cH];exact hk)).grow h.pre r.pre
 have E:(ab L id).text=(ab M a).text:=by rw[gi,v];exact H.2.2.text
 obtain⟨K,m⟩:=C1 (dir:=dir) D
 have j:∀x∈cn im (ab L id).parents,kindOf L x=3:=fun x Q=>by
  obtain⟨k,_,F⟩:=qy.1 Q;exact(h.aT k x F).1
 have l:=r.tw;unfold bP bT at c e⊢;rw[←E]at e⊢;generalize cn im (ab L id).parents=up at*;generalize cn im2 (ab M a).parents=g at*;rw[←K]at e⊢;by_cases n:(bt L (ab L id).tree dir).2=9
 ·rw[if_pos n,if_pos n];exact⟨rfl,l,fun _=>b⟩
 rw[if_neg n]at c e⊢;rw[if_neg n];by_cases f:(bt L (ab L id).tree dir).2≠0
 ·rw[if_pos f,if_pos f];exact⟨rfl,l,fun e=>absurd e f⟩
 rw[if_neg f]at c e⊢;rw[if_neg f];have f:=Decidable.not_not.1 f;have m:=m f;have i:=i _ (Prod.ext rfl f)
 have I:(up.length=1∧(ab L (up.headD 0)).tree=(bt L (ab L id).tree dir).1)↔(g.length=1∧(ab M (g.headD 0)).tree=(bt M (ab M a).tree dir).1):=by
  rw[b.len];refine and_congr_right fun u=>?_;have u:=b.len.trans u;have S:=zF b u;exact Sx.iff h.pool r.pool (S.out.2.2.tree (by rw[cH];exact j _ (pE u))) m
 by_cases o:up.length=1∧(ab L (up.headD 0)).tree=(bt L (ab L id).tree dir).1
 ·rw[if_pos o,if_pos (I.1 o)];exact⟨rfl,l,fun _=>b⟩
 rw[if_neg o]at c⊢;rw[if_neg (fun k=>o (I.2 k))]at e⊢;have J:ez (Sx L M) (bE (bt L (ab L id).tree dir).1 up (ab L id).text) (bE (bt M (ab M a).tree dir).1 g (ab L id).text):=⟨rfl,rfl,rfl,.nil,fun _=>m,fun h=>absurd rfl h,b⟩;obtain⟨q,N⟩:=oJ (by show(3:Int)≠0;decide) J c e;by_cases y:(ao L (bE (bt L (ab L id).tree dir).1 up (ab L id).text)).2.1=0
 ·exact⟨q,l.put h.pool r.pool i J y (q▸y),fun _=>.one (N y)⟩
 ·dsimp only;have T:(ao M (bE (bt M (ab M a).tree dir).1 g (ab L id).text)).2.1≠0:=q▸y;rw[oK y,oK T];exact⟨q,l,fun z=>absurd z y⟩
theorem lP.set{im im2:List (List Int)}{b a:List Ob}(g:ae L0)(hq:ae M0)(r:lP L0 M0 L M im im2)(hl:im.length=L0.length)(l:L<+:b)(f:ae a)(hy:M<+:a){id c:Int}(s:Sx L0 M0 id c){v v2:List Int}(hv:A2 (Sx b a) v v2)(i:Tw b a):lP L0 M0 b a (im.set id.toNat v) (im2.set c.toNat v2):=by
 have e:=s.out;have m:=bJ e.1;have n:=bJ e.2.1;refine⟨f,r.pre.trans hy,by rw[List.length_set];exact r.len,fun k j t=>?_,i⟩;rw[rH (by omega),rH (by have:=r.len;omega)]
 have d:k.toNat=id.toNat↔j.toNat=c.toNat:=by
  have:=Sx.iff g hq t s;have:=t.pos;have:=s.pos;omega
 by_cases h:k.toNat=id.toNat
 ·rw[if_pos h,if_pos (d.1 h)];exact hv
 ·rw[if_neg h,if_neg (fun z=>h (d.2 z))];exact(r.im k j t).imp fun _ _ _ _ u=>u.grow l hy
theorem B6(n:ae L0)(hq:ae M0)(a:CC L0):∀{l m:List Int} {L M:List Ob} {im im2:List (List Int)} {d:List Int},A2 (Sx L0 M0) l m→gw true L0 dir d L im→lP L0 M0 L M im im2→(∀i∈l,kindOf L0 i=3∧aT L0 i=true)→l.Pairwise (· < ·)→(∀i∈l,∀p∈(ab L0 i).parents,p∈d∨p∈l)→(aS dir l L im).1≠15→(aS dir m M im2).1≠15→
  (aS dir l L im).1=(aS dir m M im2).1∧Tw (aS dir l L im).2.1 (aS dir m M im2).2.1∧((aS dir l L im).1=0→∀k j,Sx L0 M0 k j→A2 (Sx (aS dir l L im).2.1 (aS dir m M im2).2.1) (bI (aS dir l L im).2.2 k) (bI (aS dir m M im2).2.2 j))
 |[],[],L,M,im,im2,d,_,h,r,_,_,_,_,_=>⟨rfl,r.tw,fun _=>r.im⟩
 |[],_::_,L,M,im,im2,d,h,_,_,_,_,_,_,_=>by cases h
 |_::_,[],L,M,im,im2,d,h,_,_,_,_,_,_,_=>by cases h
 |id::l,b::m,L,M,im,im2,d,U,h,r,F,P,E,c,e=>by
  obtain⟨s,t⟩:Sx L0 M0 id b∧A2 (Sx L0 M0) l m:=by
   cases U with
   |cons s t=>exact⟨s,t⟩
  obtain⟨Q,R⟩:=List.pairwise_cons.1 P
  have f:∀p∈(ab L0 id).parents,p∈d:=fun p q=>(E id (by simp) p q).resolve_right fun hr=>by
   have:=(mw n q).2.1;rcases List.mem_cons.1 hr with rfl|hr
   ·omega
   ·have:=Q p hr;omega
  obtain⟨k3,H⟩:=F id (by simp);obtain⟨I,J⟩:=h.step n a k3 H f;unfold aS at c e⊢;have N:(bP L dir im id).2.1≠15:=fun z=>c (by rw[if_pos (by rw[z];decide)];exact z);have O:(bP M dir im2 b).2.1≠15:=fun z=>e (by rw[if_pos (by rw[z];decide)];exact z);obtain⟨u,D,K⟩:=lP.step n hq a h r s k3 H f N O;obtain⟨w,x,-⟩:=lq r.pool (dir:=dir) (up:=cn im2 (ab M b).parents) (o:=ab M b);have w:ae (bP M dir im2 b).2.2:=w;have x:M<+:(bP M dir im2 b).2.2:=x;generalize bP L dir im id=S at*;generalize bP M dir im2 b=T at*;by_cases z:S.2.1=0
  ·have y:T.2.1=0:=u▸z;rw[if_neg (fun k=>k z)]at c⊢;rw[if_neg (fun k=>k y)]at e⊢
   exact B6 n hq a t (J z) (r.set n hq h.len I.pre w x s (K z) D) (fun i v => F i (by simp [v])) R (fun i v p q=>by
    rcases E i (by simp[v]) p q with g|g
    ·exact .inl (by simp[g])
    ·rcases List.mem_cons.1 g with rfl|g
     ·exact .inl (by simp)
     ·exact .inr g) c e
  ·have y:T.2.1≠0:=u▸z;rw[if_pos z,if_pos y];exact⟨u,D,fun k=>absurd k z⟩
theorem JQ(d:ae L)(hq:ae M)(hc:CC L)(p:Tw L M){id a:Int}(s:Sx L M id a)(hk:kindOf L id=3)(hb:aT L id=true)(c:(aP L id dir).2.1≠15)(e:(aP M a dir).2.1≠15):
  (aP L id dir).2.1=(aP M a dir).2.1∧Tw (aP L id dir).2.2 (aP M a dir).2.2∧((aP L id dir).2.1=0→Sx (aP L id dir).2.2 (aP M a dir).2.2 (aP L id dir).1 (aP M a dir).1):=by
 obtain⟨q,r⟩:=xk d hc hk hb;have g:kindOf M a=3:=s.kind▸hk
 have x:lP L M L M (List.replicate L.length []) (List.replicate M.length []):=by
  refine⟨hq,List.prefix_refl _,List.length_replicate,fun k j t=>?_,p⟩
  have m:∀(n:Nat) (k:Int),bI (List.replicate n []) k=[]:=fun n k=>by
   unfold bI;cases e:(List.replicate n ([]:List Int))[k.toNat]? with
   |none=>rfl
   |some v=>exact List.eq_of_mem_replicate (List.mem_of_getElem? e)
  rw[m,m];exact .nil
 have i:=B6 (dir:=dir) d hq hc (qM d hq p.ord s hk) (gw.start d hc) x q lT r;unfold aP at c e⊢;rw[show b7 L id=(aO L id,0)from if_pos hk,if_neg (show¬((aO L id,(0:Int)).2≠0)from fun k=>k rfl)]at c⊢;rw[show b7 M a=(aO M a,0)from if_pos g,if_neg (show¬((aO M a,(0:Int)).2≠0)from fun k=>k rfl)]at e⊢;dsimp only at c e⊢;generalize aS dir (aO L id) L (List.replicate L.length [])=S at*;generalize aS dir (aO M a) M (List.replicate M.length [])=T at*;obtain⟨f,b,w⟩:=i (fun z=>c (by rw[if_pos (by rw[z];decide)];exact z)) (fun z=>e (by rw[if_pos (by rw[z];decide)];exact z));by_cases z:S.1=0
 ·have l:T.1=0:=f▸z;rw[if_neg (fun k=>k z)]at c⊢;rw[if_neg (fun k=>k l)]at e⊢;have o:=w z id a s;generalize bI S.2.2 id=u at*;generalize bI T.2.2 a=v at*;dsimp only at c e⊢;have h:=o.len;unfold jS;rw[←h];split
  ·exact⟨rfl,b,fun k=>by cases k⟩
  split
  ·rename_i y;exact⟨rfl,b,fun _=>zF o y⟩
  ·exact⟨rfl,b,fun k=>by cases k⟩
 ·have l:T.1≠0:=f▸z;rw[if_pos z,if_pos l];exact⟨f,b,fun k=>absurd k z⟩
end Go.Nest
end
section
namespace Go.Nest
open Go Go.AM
variable {L M:List Ob} {b:Bool}
theorem tF(b:ae L):∀(ds:List (List UInt8)) {t:Int},(bR L t ds).2=0→∀d∈ds,bO d=0
 |[],t,_,d,c=>by cases c
 |d::ds,t,h,x,hx=>by
  unfold bR at h;split at h
  ·cases h
  rename_i f;cases e:(ab L t).entries.find? (isDir d)with
  |none=>rw[e]at h;cases h
  |some y=>
   rw[e]at h;rcases List.mem_cons.1 hx with rfl|hx
   ·have a:=List.find?_some e;unfold isDir at a;rw[Bool.and_eq_true,decide_eq_true_iff]at a;rw[←a.1];exact((gg b (Decidable.not_not.1 f)).2 y (List.mem_of_find?_eq_some e)).name
   ·exact tF b ds h x hx
theorem C3(b:ae L){t:Int}{fs:List Fi}(h:Kept L t fs){ds:List (List UInt8)}(hd:ds≠[])(a:(bR L t ds).2=0):∃f∈fs,∃q,f.path=ck ds++47::q:=by
 rcases sW b ds hd (tF b ds a) h.tree with⟨u,-,-,j⟩|⟨e,-⟩
 ·cases e:dw (ck ds) fs with
  |nil=>exact absurd e j
  |cons f r=>
   obtain⟨g,i,c⟩:=Dg (d:=ck ds) (l:=fs) (f:=f) (by rw[e];simp);exact⟨g,i,_,c⟩
 ·rw[e]at a;cases a
theorem zD(c:ae L){t:Int}{fs:List Fi}(h:Kept L t fs){ds:List (List UInt8)}(hd:ds≠[])(hn:∀d∈ds,bO d=0){f:Fi}(b:f∈fs){q:List UInt8}(e:f.path=ck ds++47::q):(bR L t ds).2=0:=by
 rcases sW c ds hd hn h.tree with⟨u,a,-,-⟩|⟨-,a⟩
 ·rw[a]
 ·exfalso
  have:(⟨q,f.mode,f.id,f.ar⟩:Fi)∈dw (ck ds) fs:=by
   unfold dw;refine List.mem_filterMap.2 ⟨f,b,?_⟩;unfold kO;rw[e,mJ];rfl
  rw[a]at this;cases this
theorem yS{l:List Fi}{q:List UInt8}(h:(bW l q).1.mode≠0):∃g∈l,g.path=q:=by
 unfold bW at h;cases e:l.find? fun f=>decide (f.path=q)with
 |none=>rw[e]at h;exact absurd rfl h
 |some f=>exact⟨f,List.mem_of_find?_eq_some e,by simpa using List.find?_some e⟩
theorem JW{base x y:List Fi}{s:BS}{q:List UInt8}:∀f∈(fg base x y s q).out,f∈s.out∨∃g∈x++y,g.path=q∧f.path=q:=by
 intro f hf;have hf:f∈fP s.out (lG s.L (bW base q).1 (bW x q).1 (bW y q).1 q):=hf;unfold fP at hf;split at hf
 ·rename_i j;rcases List.mem_append.1 hf with hf|hf
  ·exact .inl hf
  rw[List.mem_singleton]at hf;refine .inr ?_
  have o:∀{l:List Fi},(bW l q).1.mode≠0→(bW l q).1.path=q:=fun{l} h=>by
   unfold bW at h⊢;cases e:l.find? fun f=>decide (f.path=q)with
   |none=>rw[e]at h;exact absurd rfl h
   |some f=>exact by simpa using List.find?_some e
  have a:(bW x q).1.mode≠0→∃g∈x++y,g.path=q∧(bW x q).1.path=q:=fun h=>by
   obtain⟨g,d,i⟩:=yS h;exact⟨g,List.mem_append_left _ d,i,o h⟩
  have k:(bW y q).1.mode≠0→∃g∈x++y,g.path=q∧(bW y q).1.path=q:=fun h=>by
   obtain⟨g,d,i⟩:=yS h;exact⟨g,List.mem_append_right _ d,i,o h⟩
  subst hf;unfold lG at j⊢;split at j
  ·rename_i m;rw[if_pos m];exact a (by omega)
  rename_i m;rw[if_neg m];split at j
  ·rename_i n;rw[if_pos n];exact k (by omega)
  rename_i n;rw[if_neg n];split at j
  ·rename_i b;rw[if_pos b];unfold il at b⊢;cases e:gU s.L (bW base q).1 (bW x q).1 (bW y q).1 with
   |none=>rw[e]at b;cases b
   |some t=>
    unfold gU at e;split at e
    ·cases e
    rename_i c
    have p:(bW x q).1.mode≠0:=by
     intro z;rw[z]at c;exact c (.inl (by decide))
    obtain⟨g,d,i,-⟩:=a p;exact⟨g,d,i,rfl⟩
  ·rename_i b;rw[if_neg b];split at j
   ·rename_i c;rw[if_pos c];exact k (by omega)
   ·rename_i c;rw[if_neg c];exact a (by omega)
 ·exact .inl hf
theorem BH{base x y:List Fi}:∀(b:List (List UInt8)) {s:BS},∀f∈(cu base x y s b).out,f∈s.out∨∃g∈x++y,g.path=f.path
 |[],s,f,a=>.inl a
 |q::b,s,f,a=>by
  rcases BH b (s:=fg base x y s q) f a with h|h
  ·rcases JW f h with h|⟨g,c,d,e⟩
   ·exact .inl h
   ·exact .inr ⟨g,c,d.trans e.symm⟩
  ·exact .inr h
theorem Dk{base x y:List Fi}:∀f∈(dh L base x y).out,∃g∈x++y,g.path=f.path:=by
 intro f a;unfold dh at a;split at a
 ·cases a
 dsimp only at a;generalize (if(cu base x y ⟨L,[],[],0⟩ (cN [base,x,y])).code=0 then cq (cu base x y ⟨L,[],[],0⟩ (cN [base,x,y])).out else(cu base x y ⟨L,[],[],0⟩ (cN [base,x,y])).code)=c at a;split at a
 ·cases a
 ·exact(BH _ f a).resolve_left fun h=>by cases h
theorem DW(k:ae L)(hc:CC L){l:List It}{a:Int}{text:List UInt8}{os:List Int}(c:(aE L l).2.1=0→gX b (aE L l).2.2 (bE (aE L l).1 (cD a os) text)):
  Gr b L (aH L l a text os).2.2∧((aH L l a text os).2.1=0→aT (aH L l a text os).2.2 (aH L l a text os).1=b):=by
 obtain⟨i,m⟩:=eV (l:=l) k;have d:Gr b L (aE L l).2.2:= .jR k hc i m jY;unfold aH;by_cases f:(aE L l).2.1≠0
 ·rw[if_pos f];exact⟨d,fun e=>absurd e f⟩
 rw[if_neg f];by_cases j:0≤a∧jW (aE L l).2.2 l a (aE L l).1=true∧os.length=0
 ·rw[if_pos j];exact⟨d,fun e=>absurd (show(17:Int)=0 from e) (by decide)⟩
 rw[if_neg j];have c:=c (Decidable.not_not.1 f);have g:=d.trans (.put i d.cc c);by_cases h:(ao (aE L l).2.2 (bE (aE L l).1 (cD a os) text)).2.1≠0
 ·rw[if_pos h];exact⟨g,fun e=>absurd e h⟩
 rw[if_neg h];exact⟨g,fun e=>c.aT i g.pool (dS _) (gG e).2⟩
theorem yf(d:ae L){l:List It}{a:Int}{text:List UInt8}{os:List Int}(ht:(text.head? =some 114∧b=true)∨(text.head? =some 111∧b=false))(c:∀p∈cD a os,kindOf L p=3∧aT L p=b)(h:(aE L l).2.1=0):gX b (aE L l).2.2 (bE (aE L l).1 (cD a os) text):=by
 obtain⟨n,g⟩:=eV (l:=l) d;obtain⟨m,j,-⟩:=Cf d h;refine⟨rfl,?_,fun p k=>?_,j.tree.1,fun e=>?_⟩
 ·rcases ht with ht|ht
  ·exact .inl ht
  ·exact .inr (.inl ht)
 ·obtain⟨f,i⟩:=c p k;exact⟨eG g f,by rw[eE d g f];exact i⟩
 ·exfalso;have e:text=bz:=e;rw[e]at ht;rcases ht with⟨ht,-⟩|⟨ht,-⟩<;>exact absurd ht (by decide)
theorem DP(h:ae L){t a id:Int}{fs fa fi:List Fi}(m:Kept L t fs)(r:Kept L (ab L a).tree fa)(hi:Kept L (ab L id).tree fi)(a3:kindOf L a=3∧aT L a=b)(u:kindOf L id=3∧aT L id=b)(s:∀f∈fs,∃g∈fa++fi,g.path=f.path):gX b L (bE t (cD a [id]) bz):=by
 have k:cD a [id]=[a,id]:=by
  unfold cD;rw[if_pos (by have:=bJ (l:=L) (id:=a) (by omega);omega)];rfl
 rw[k];refine⟨rfl,.inr (.inr rfl),fun p hm=>?_,m.tree.1,fun _ i c=>?_⟩
 ·have hm:p∈[a,id]:=hm;rcases List.mem_cons.1 hm with rfl|hm
  ·exact a3
  ·rw[List.mem_singleton]at hm;subst hm;exact u
 ·have c:(bR L t i).2=0:=c;show∃p∈[a,id],_;by_cases d:i=[]
  ·subst d;exact⟨a,by simp,rfl⟩
  ·obtain⟨f,j,q,o⟩:=C3 h m d c;obtain⟨g,hg,e⟩:=s f j;have n:=tF h i c;rcases List.mem_append.1 hg with hg|hg
   ·exact⟨a,by simp,zD h r d n hg (e.trans o)⟩
   ·exact⟨id,by simp,zD h hi d n hg (e.trans o)⟩
end Go.Nest
end
section
namespace Go.Nest
open Go Go.AM
variable {L M:List Ob} {b:Bool} {s:FS} {n r i:Nat}
structure CI(r:Nat)(s:FS):Prop where
 cc:CC s.L
 ref:∀q,q<4→∀x∈s.n q,aT s.L x.id=decide (q=r)
 hd:∀q,q<4→0≤s.h q→aT s.L (s.h q)=decide (q=r)
theorem CI.nil:CI r eb:=⟨⟨fun k h=>absurd h (by unfold kindOf;split<;>simp[eb]),fun k h=>absurd h (by unfold kindOf;split<;>simp[eb]),fun k h=>absurd h (by unfold kindOf;split<;>simp[eb])⟩,fun q a x b=>(by cases b),fun q a h=>absurd h (by show¬(0:Int)≤-1;decide)⟩
def CG(r i:Nat)(s t:FS):Prop:=CI r t∧Gr (decide (i=r)) s.L t.L
theorem CG.refl(a:FI [] s n)(h:CI r s):CG r i s s:=⟨h,.refl a.pool h.cc⟩
theorem CG.trans{t u:FS}(h1:CG r i s t)(h2:CG r i t u):CG r i s u:=⟨h2.1,h1.2.trans h2.2⟩
theorem CG.iV(c:FI [] s n)(hk:KA s)(h:CI r s){M:List Ob}{l:List It}{a:Int}(g:Gr (decide (i=r)) s.L M)(j:0≤a→aT M a=decide (i=r)):CG r i s (s.c9 i M l a):=
 ⟨⟨g.cc,fun q b x f=>by
  show aT M x.id=_;rw[eE c.pool g.pre (hk.ref q b x f)];exact h.ref q b x f,fun q b=>by
  show 0≤ax s.h i a q→aT M (ax s.h i a q)=_;rw[fC];split
  ·rename_i e;rw[e];exact j
  ·intro d;rw[eE c.pool g.pre ((c.work q b).head.k3 d)];exact h.hd q b d⟩,g⟩
theorem CG.grow(c:FI [] s n)(hk:KA s)(h:CI r s){M:List Ob}(g:Gr (decide (i=r)) s.L M):CG r i s (s.az M):=
 ⟨⟨g.cc,fun q a x d=>by
  show aT M x.id=_;rw[eE c.pool g.pre (hk.ref q a x d)];exact h.ref q a x d,fun q a b=>by
  have b:0≤s.h q:=b;show aT M (s.h q)=_;rw[eE c.pool g.pre ((c.work q a).head.k3 b)];exact h.hd q a b⟩,g⟩
theorem CG.own(a:FI [] s n)(h:CI r s)(o:Nat→List Bool):CG r i s (s.bN o):=⟨⟨h.cc,h.ref,h.hd⟩,.refl a.pool h.cc⟩
theorem CG.name(d:FI [] s n)(h:CI r s){name:List UInt8}{old id:Int}{v:List Mv}(hc:0≤id→aT s.L id=decide (i=r)):CG r i s (s.gH i (az (s.n i) name old id) v):=
 ⟨⟨h.cc,fun q b x=>by
  show x∈ax s.n i _ q→_;rw[fC];split
  ·rename_i e;subst e;intro a;rcases wT a with a|⟨rfl,c⟩
   ·exact h.ref q b x a
   ·exact hc c
  ·exact h.ref q b x,h.hd⟩,.refl d.pool h.cc⟩
theorem CG.lead(b:FI [] s n)(h:CI r s){name:List UInt8}{id:Int}(hc:0≤id→aT s.L id=decide (i=r)):CG r i s (dA s i name id):=by
 have a:CG r i s (gb s i name id):=CG.name b h hc;unfold dA;split
 ·exact a
 ·exact⟨⟨a.1.cc,a.1.ref,a.1.hd⟩,a.2⟩
theorem CG.lay(b:FI [] s n)(hk:KA s)(h:CI r s)(hi:i<4)(l:List Fi):CG r i s (bX s i l):=by
 obtain⟨a,c⟩:=ib b.pool l;refine CG.iV b hk h (.jR b.pool h.cc a c pc) fun d=>?_;rw[eE b.pool c ((b.work i hi).head.k3 d)];exact h.hd i hi d
theorem CG.lW(b:FI [] s n)(hk:KA s)(h:CI r s):CG r i s (cP s i):=by
 obtain⟨a,c⟩:=eV (l:=s.w i) b.pool;exact CG.grow b hk h (.jR b.pool h.cc a c jY)
theorem CG.out(b:FI [] s n)(hk:KA s)(h:CI r s)(hi:i<4){id:Int}(k3:kindOf s.L id=3)(hc:aT s.L id=decide (i=r)):CG r i s (iq s i id):=by
 obtain⟨a,c⟩:=nR (l:=s.w i) (id:=id) b.pool
 have d:ey s.L (eN s.L (s.w i) id):=by
  unfold eN;split
  ·exact .refl _
  ·exact jY
 refine CG.iV b hk h (.jR b.pool h.cc a c d) ?_;unfold ig;split
 ·intro e;rw[eE b.pool c ((b.work i hi).head.k3 e)];exact h.hd i hi e
 ·intro _;rw[eE b.pool c k3];exact hc
theorem CG.ej(c:FI [] s n)(hk:KA s)(h:CI r s)(hi:i<4){text:List UInt8}{os:List Int}(d:(aE s.L (s.w i)).2.1=0→gX (decide (i=r)) (aE s.L (s.w i)).2.2 (bE (aE s.L (s.w i)).1 (cD (s.h i) os) text)):CG r i s (bV s i text os)∧((aH s.L (s.w i) (s.h i) text os).2.1=0→aT (bV s i text os).L (aH s.L (s.w i) (s.h i) text os).1=decide (i=r)):=by
 obtain⟨g,e⟩:=DW (a:=s.h i) c.pool h.cc d;refine⟨CG.iV c hk h g ?_,e⟩;unfold jh;split
 ·rename_i b;exact fun _=>e b
 ·intro b;rw[eE c.pool g.pre ((c.work i hi).head.k3 b)];exact h.hd i hi b
theorem AG(a:FI [] s n)(hk:KA s)(h:CI r s)(hi:i<4)(base:Int){id:Int}(k3:kindOf s.L id=3)(hc:aT s.L id=decide (i=r))(u:0≤s.h i)(hl:eQ (au s i base id).L (au s i base id).out=0):
  ∃E,aE (bX (s.az (au s i base id).L) i (au s i base id).out).L ((bX (s.az (au s i base id).L) i (au s i base id).out).w i)=(E,0,(bX (s.az (au s i base id).L) i (au s i base id).out).L)∧(bX (s.az (au s i base id).L) i (au s i base id).out).h i=s.h i∧
  gX (decide (i=r)) (bX (s.az (au s i base id).L) i (au s i base id).out).L (bE E (cD (s.h i) [id]) bz):=by
 obtain⟨d,o⟩:=lV a.pool (aJ s.L base).1 (aJ s.L (s.h i)).1 (aJ s.L id).1;have d:ae (au s i base id).L:=d;have o:s.L<+:(au s i base id).L:=o;have hl:(bC (au s i base id).L (au s i base id).out).2.1=0:=hl;have m:=(a.work i hi).head.k3 u;obtain⟨e,v⟩:=hk.ej _ m;obtain⟨j,z⟩:=hk.ej _ k3;have c:=Dk (L:=s.L) (base:=(aJ s.L base).1) (x:=(aJ s.L (s.h i)).1) (y:=(aJ s.L id).1);have F:(aJ s.L (s.h i)).1=e:=by unfold aJ;rw[if_neg (by omega),v.files a.pool]
 have H:(aJ s.L id).1=j:=by unfold aJ;rw[if_neg (by have:=bJ (l:=s.L) (id:=id) (by omega);omega),z.files a.pool]
 have c:∀f∈(au s i base id).out,∃g∈e++j,g.path=f.path:=by
  intro f a;rw[←F,←H];exact c f a
 have D:=Kept.of d hl;have p:=ib d (au s i base id).out
 have t:(bX (s.az (au s i base id).L) i (au s i base id).out).w i=(au s i base id).out.map (ca (bC (au s i base id).L (au s i base id).out).2.2):=by
  show ax s.w i _ i=_;rw[ee];exact if_neg (fun k=>k hl)
 have q:(bX (s.az (au s i base id).L) i (au s i base id).out).h i=s.h i:=by
  show ax s.h i _ i=_;rw[ee];rfl
 have tr:=D.sX p.1;refine⟨(bC (au s i base id).L (au s i base id).out).1,by rw[t];exact tr,q,?_⟩;show gX (decide (i=r)) (bC (au s i base id).L (au s i base id).out).2.2 _;have b:s.L<+:(bC (au s i base id).L (au s i base id).out).2.2:=o.trans p.2;refine DP (fa:=e) (fi:=j) p.1 D ?_ ?_ ⟨eG b m,by rw[eE a.pool b m];exact h.hd i hi u⟩ ⟨eG b k3,by rw[eE a.pool b k3];exact hc⟩ c
 ·rw[ext_get b (by omega)];exact v.mono b
 ·rw[ext_get b (by omega)];exact z.mono b
theorem CG.mix(a:FI [] s n)(hk:KA s)(h:CI r s)(hi:i<4)(base:Int){id:Int}(k3:kindOf s.L id=3)(hc:aT s.L id=decide (i=r))(p:0≤s.h i):CG r i s (fW s i base id):=by
 obtain⟨m,o⟩:=lV a.pool (aJ s.L base).1 (aJ s.L (s.h i)).1 (aJ s.L id).1;have c:=a.nN i base id;have e:KA (s.az (au s i base id).L):=hk.grow a m o (xO a.pool hk.ej _ _ _);have j:CG r i s (s.az (au s i base id).L):=CG.grow a hk h (.jR a.pool h.cc m o tI);have d:=c.bX hi (au s i base id).out;have f:=e.lay c hi (au s i base id).out;have k:=j.trans (CG.lay c e j.1 hi (au s i base id).out);unfold fW;refine av (P:=CG r i s) (fun _=>.refl a h) (fun _=>av (P:=CG r i s) (fun _=>.refl a h) (fun _=>av (P:=CG r i s) (fun _=>.refl a h) (fun _=>av (P:=CG r i s) (fun _=>j) (fun _=>av (P:=CG r i s) (fun _=>j) (fun _=>av (P:=CG r i s) (fun _=>k) (fun u=>?_))))));obtain⟨v,tr,q,l⟩:=AG a hk h hi base k3 hc p (Decidable.not_not.1 u);generalize bX (s.az (au s i base id).L) i (au s i base id).out=t at*;obtain⟨b,-⟩:=CG.ej (text:=bz) (os:=[id]) d f k.1 hi fun _=>by rw[tr,q];exact l
 have b:=k.trans b;unfold kI;refine av (P:=CG r i s) (fun g=>?_) (fun g=>?_)
 ·exact b.trans (CG.lay (d.bV hi _ _) (f.ue d hi g) b.1 hi _)
 ·exact⟨⟨b.1.cc,b.1.ref,b.1.hd⟩,b.2⟩
theorem CG.Ht(a:FI [] s n)(hk:KA s)(h:CI r s)(hi:i<4){id:Int}(k3:kindOf s.L id=3)(hc:aT s.L id=decide (i=r)):CG r i s (jP s i id):=by
 unfold jP;refine av (P:=CG r i s) (fun _=>CG.out a hk h hi k3 hc) (fun g=>av (P:=CG r i s) (fun _=>.refl a h) (fun _=>av (P:=CG r i s) (fun _=>.refl a h) (fun _=>CG.mix a hk h hi _ k3 hc ?_)));exact Int.not_lt.1 fun z=>g (.inl z)
theorem CI.step(a:FI [] s n)(hk:KA s)(h:CI r s)(hr:r<4)(x:bL)(hi:i<4)(e:x.r=i)(k:x.text.head? =some (if i=r then 114 else 111))(J:x.kind=9→(i=r↔x.q=r)):CG r i s (cw s x):=by
 unfold cw;have e:x.r.toNat=i:=by omega
 refine av (P:=CG r i s) (fun _=>.refl a h) (fun _=>av (P:=CG r i s) (fun _=>.refl a h) (fun _=>?_));rw[e]
 have c:∀{name:List UInt8},¬(aw s (i:Nat) name).2≠0→kindOf s.L (aw s (i:Nat) name).1=3∧aT s.L (aw s (i:Nat) name).1=decide (i=r):=fun K=>by
  obtain⟨j,D,H,_,y,q,t⟩:=ow (Decidable.not_not.1 K);obtain rfl:i=j:=by omega
  rw[←t];exact⟨hk.ref i hi y q,h.ref i hi y q⟩
 have w:∀l,CG r i s (s.c9 i s.L l (s.h i)):=fun l=>CG.iV a hk h (.refl a.pool h.cc) fun b=>h.hd i hi b;refine av (P:=CG r i s) (fun _=>w _) (fun _=>av (P:=CG r i s) (fun _=>w _) (fun _=>av (P:=CG r i s) (fun _=>?_) (fun _=>av (P:=CG r i s) (fun _=>?_) (fun _=>av (P:=CG r i s) (fun _=>?_) (fun _=>av (P:=CG r i s) (fun _=>?_) (fun _=>av (P:=CG r i s) (fun _=>?_) (fun _=>av (P:=CG r i s) (fun _=>?_) (fun _=>av (P:=CG r i s) (fun M=>?_) (fun _=>av (P:=CG r i s) (fun _=>⟨⟨h.cc,h.ref,h.hd⟩,.refl a.pool h.cc⟩) (fun _=>av (P:=CG r i s) (fun _=>?_) (fun _=>CG.own a h _)))))))))))
 ·unfold lB;exact av (P:=CG r i s) (fun _=>.refl a h) (fun _=>w _)
 ·unfold kh
  have k:(x.text.head? =some 114∧decide (i=r)=true)∨(x.text.head? =some 111∧decide (i=r)=false):=by
   by_cases e:i=r
   ·rw[if_pos e]at k;exact .inl ⟨k,decide_eq_true e⟩
   ·rw[if_neg e]at k;exact .inr ⟨k,decide_eq_false e⟩
  obtain ⟨d, E⟩ := CG.ej (os := []) (text := x.text) a hk h hi fun b => yf a.pool k (fun p f=>by
   unfold cD at f;rw[List.append_nil]at f;split at f
   ·rename_i b;rw[List.mem_singleton]at f;subst f;exact⟨(a.work i hi).head.k3 b,h.hd i hi b⟩
   ·cases f) b
  refine av (P:=CG r i s) (fun _=>.refl a h) (fun _=>av (P:=CG r i s) (fun _=>d) (fun z=>?_));exact d.trans (CG.lead (a.bV hi _ _) d.1 fun _=>E (Decidable.not_not.1 z))
 ·unfold jA;exact av (P:=CG r i s) (fun _=>.refl a h) (fun g=>CG.out a hk h hi (c g).1 (c g).2)
 ·unfold kG;refine av (P:=CG r i s) (fun _=>.refl a h) (fun g=>?_);have d:CG r i s (cP s i):=CG.lW a hk h;refine av (P:=CG r i s) (fun _=>d) (fun _=>d.trans ?_);exact CG.Ht a.cP (hk.lW a i) d.1 hi (eG d.2.pre (c g).1) (by rw[eE a.pool d.2.pre (c g).1];exact(c g).2)
 ·unfold kW;exact av (P:=CG r i s) (fun _=>.refl a h) (fun g=>CG.name a h fun b=>h.hd i hi b)
 ·unfold kZ;exact av (P:=CG r i s) (fun _=>.refl a h) (fun g=>CG.name a h fun b=>absurd b (by decide))
 ·unfold kr;refine av (P:=CG r i s) (fun _=>.refl a h) (fun g=>av (P:=CG r i s) (fun _=>.refl a h) (fun z=>?_));have v:=a.bN (nW a i x.q (aw s x.q x.name).1);have m:CG r i s (s.bN (cJ s.L s.o s.b (i:Nat) x.q (aw s x.q x.name).1)):=CG.own a h _;refine av (P:=CG r i s) (fun _=>m) (fun _=>m.trans (CG.lead v m.1 fun _=>?_));obtain⟨j,D,H,_,y,q,t⟩:=ow (Decidable.not_not.1 g);show aT s.L (aw s x.q x.name).1=_;rw[←t,h.ref j D y q];have:=J M;exact decide_eq_decide.2 (by omega)
 ·unfold mD;refine av (P:=CG r i s) (fun _=>.refl a h) (fun g=>av (P:=CG r i s) (fun _=>.refl a h) (fun _=>?_));have b:0≤s.h i:=Int.not_lt.1 g;obtain⟨m,F⟩:=JP (dir:=x.path) a.pool h.cc ((a.work i hi).head.k3 b) (h.hd i hi b);have o:=nw a.pool (s.h i) x.path;have u:CG r i s (s.az (aP s.L (s.h i) x.path).2.2):=CG.grow a hk h m;exact av (P:=CG r i s) (fun _=>u) (fun I=>u.trans (CG.lead (a.az o.1 o.2) u.1 fun _=>F (Decidable.not_not.1 I)))
theorem EM(s:FS)(x:bL)(e:x.r=i){q:Nat}(hq:q≠i):(cw s x).w q=s.w q∧(cw s x).n q=s.n q∧(cw s x).h q=s.h q:=by
 have e:x.r.toNat=i:=by omega
 let P:FS→Prop:=fun t=>t.w q=s.w q∧t.n q=s.n q∧t.h q=s.h q
 have b:P s:=⟨rfl,rfl,rfl⟩;have d:∀{t:FS} {M:List Ob} {l:List It} {a:Int},P t→P (t.c9 i M l a):=fun{t M l a} h=>⟨(iy hq).trans h.1,h.2.1,(iy hq).trans h.2.2⟩;have k:∀{t:FS} {l:List Rf} {v:List Mv},P t→P (t.gH i l v):=fun{t l v} h=>⟨h.1,(iy hq).trans h.2.1,h.2.2⟩;have g:∀{t:FS} {M:List Ob},P t→P (t.az M):=fun h=>h;have j:∀{t:FS} {o:Nat→List Bool},P t→P (t.bN o):=fun h=>h
 have c:∀{t:FS} {name:List UInt8} {id:Int},P t→P (dA t i name id):=fun{t name id} h=>by
  unfold dA;exact av (P:=P) (fun _=>k h) (fun _=>j (k h))
 show P (cw s x);unfold cw;refine av (P:=P) (fun _=>b) (fun _=>av (P:=P) (fun _=>b) (fun _=>?_));rw[e];refine av (P:=P) (fun _=>d b) (fun _=>av (P:=P) (fun _=>d b) (fun _=>av (P:=P) (fun _=>?_) (fun _=>av (P:=P) (fun _=>?_) (fun _=>av (P:=P) (fun _=>?_) (fun _=>av (P:=P) (fun _=>?_) (fun _=>av (P:=P) (fun _=>?_) (fun _=>av (P:=P) (fun _=>?_) (fun _=>av (P:=P) (fun _=>?_) (fun _=>av (P:=P) (fun _=>b) (fun _=>av (P:=P) (fun _=>?_) (fun _=>j b)))))))))))
 ·unfold lB;exact av (P:=P) (fun _=>b) (fun _=>d b)
 ·unfold kh;exact av (P:=P) (fun _=>b) (fun _=>av (P:=P) (fun _=>d b) (fun _=>c (d b)))
 ·unfold jA;exact av (P:=P) (fun _=>b) (fun _=>d b)
 ·unfold kG;refine av (P:=P) (fun _=>b) (fun _=>av (P:=P) (fun _=>g b) (fun _=>?_));have f:P (cP s i):=g b;unfold jP;refine av (P:=P) (fun _=>d f) (fun _=>av (P:=P) (fun _=>f) (fun _=>av (P:=P) (fun _=>f) (fun _=>?_)));unfold fW;refine av (P:=P) (fun _=>f) (fun _=>av (P:=P) (fun _=>f) (fun _=>av (P:=P) (fun _=>f) (fun _=>av (P:=P) (fun _=>g f) (fun _=>av (P:=P) (fun _=>g f) (fun _=>av (P:=P) (fun _=>d (g f)) (fun _=>?_))))));unfold kI;exact av (P:=P) (fun _=>d (d (d (g f)))) (fun _=>j (d (d (g f))))
 ·unfold kW;exact av (P:=P) (fun _=>b) (fun _=>k b)
 ·unfold kZ;exact av (P:=P) (fun _=>b) (fun _=>k b)
 ·unfold kr;exact av (P:=P) (fun _=>b) (fun _=>av (P:=P) (fun _=>b) (fun _=>av (P:=P) (fun _=>j b) (fun _=>c (j b))))
 ·unfold mD;exact av (P:=P) (fun _=>b) (fun _=>av (P:=P) (fun _=>b) (fun _=>av (P:=P) (fun _=>g b) (fun _=>c (g b))))
end Go.Nest
end
section
namespace Go.Nest
open Go Go.AM
variable {L M:List Ob} {s t:FS} {n m r:Nat}
structure FR(r:Nat)(s t:FS):Prop where
 w:fE s.L t.L (s.w r) (t.w r)
 n:kS s.L t.L (s.n r) (t.n r)
 h:gZ s.L t.L (s.h r) (t.h r)
 tw:Tw s.L t.L
theorem FR.nil:FR r eb eb:=⟨.nil,.nil,.inl ⟨(by decide:(-1:Int)<0),(by decide:(-1:Int)<0)⟩,⟨fun k h=>absurd h (by unfold kindOf;split<;>simp[eb]),fun k h=>absurd h (by unfold kindOf;split<;>simp[eb]),fun k i j m h=>absurd h (by unfold kindOf;split<;>simp[eb])⟩⟩
theorem FR.c9{M N:List Ob}{l k:List It}{a b:Int}(h:FR r s t)(e:s.L<+:M)(hy:t.L<+:N)(c:Tw M N)(d:fE M N l k)(hd:gZ M N a b):FR r (s.c9 r M l a) (t.c9 r N k b):=
 ⟨by
  show fE M N (ax s.w r l r) (ax t.w r k r);rw[ee,ee];exact d,h.n.grow e hy,by
  show gZ M N (ax s.h r a r) (ax t.h r b r);rw[ee,ee];exact hd,c⟩
theorem FR.az{M N:List Ob}(h:FR r s t)(a:s.L<+:M)(hy:t.L<+:N)(b:Tw M N):FR r (s.az M) (t.az N):=⟨h.w.grow a hy,h.n.grow a hy,h.h.grow a hy,b⟩
theorem FR.bN{o p:Nat→List Bool}(h:FR r s t):FR r (s.bN o) (t.bN p):=⟨h.w,h.n,h.h,h.tw⟩
def OR(L M:List Ob)(a b:Int):Prop:=(a= -1∧b= -1)∨Sx L M a b
theorem OR.iff(f:ae L)(hq:ae M){a b c d:Int}(h:OR L M a b)(h':OR L M c d):a=c↔b=d:=by
 rcases h with⟨rfl,rfl⟩|h<;>rcases h' with⟨rfl,rfl⟩|h'
 ·exact⟨fun _=>rfl,fun _=>rfl⟩
 ·have:=h'.pos;constructor<;>intro e<;>omega
 ·have:=h.pos;constructor<;>intro e<;>omega
 ·exact Sx.iff f hq h h'
theorem q7(f:ae L)(hq:ae M){l k:List Rf}(h:kS L M l k)(name:List UInt8){a b c d:Int}(ho:OR L M a b)(hi:OR L M c d):dt l name a c=dt k name b d:=by
 have g:(a≠a6 l name)↔(b≠a6 k name):=not_congr (ho.iff f hq (ng h name));have i:c=a↔d=b:=hi.iff f hq ho
 have e:(0≤c↔0≤d)∧(c< -1↔d< -1):=by
  rcases hi with⟨rfl,rfl⟩|hi
  ·exact⟨Iff.rfl,Iff.rfl⟩
  ·have:=hi.pos;omega
 unfold dt;rw[rE h,h.len];simp only[g,i,e.1,e.2]
theorem JB(m:ae L)(hq:ae M){l k:List Rf}(h:kS L M l k)(name:List UInt8){a b c d:Int}(ho:OR L M a b)(hi:OR L M c d):kS L M (az l name a c) (az k name b d):=by
 unfold az;have e:=q7 m hq h name ho hi;by_cases f:dt l name a c=0
 ·rw[if_pos f,if_pos (e▸f)];refine Kt h name (hi.symm.imp id fun⟨x,y⟩=>⟨by omega,by omega⟩) (fun s=>by have:=s.pos;omega) fun⟨x,y⟩=>?_;obtain⟨-,-,g,-,i⟩:=nS f;cases j:dz l name with
  |true=>rfl
  |false=>
   exfalso;rw[lh j]at g;rcases hi with⟨rfl,rfl⟩|hi
   ·exact i (by omega)
   ·have:=hi.pos;omega
 ·rw[if_neg f,if_neg (fun z=>f (e.trans z))];exact h
theorem FR.name(e:FI [] s n)(hg:FI [] t m)(h:FR r s t)(name:List UInt8){a b c d:Int}(ho:OR s.L t.L a b)(hi:OR s.L t.L c d){u v:List Mv}:FR r (s.gH r (Go.Nest.az (s.n r) name a c) u) (t.gH r (Go.Nest.az (t.n r) name b d) v):=
 ⟨h.w,by
  show kS s.L t.L (ax s.n r _ r) (ax t.n r _ r);rw[ee,ee];exact JB e.pool hg.pool h.n name ho hi,h.h,h.tw⟩
theorem FR.lead(b:FI [] s n)(hg:FI [] t m)(h:FR r s t)(name:List UInt8){c d:Int}(hi:Sx s.L t.L c d):FR r (dA s r name c) (dA t r name d):=by
 have a:FR r (gb s r name c) (gb t r name d):=FR.name b hg h name (ng h.n name) (.inr hi);have e:fy s r name c=fy t r name d:=q7 b.pool hg.pool h.n name (ng h.n name) (.inr hi);unfold dA;rw[e];split
 ·exact a
 ·exact a.bN
theorem vK(c:FI [] s n)(hg:FI [] t m)(h:FR r s t)(hr:r<4)(name:List UInt8):c8 (s.n r) name=c8 (t.n r) name:=by
 unfold c8;rw[ui (c.refs r hr),ui (hg.refs r hr)]
 have hb:(600:Int)≠a6 (s.n r) name∧(600:Int)≠a6 (t.n r) name:=by
  rcases ng h.n name with⟨a,b⟩|k
  ·rw[a,b];exact⟨by decide,by decide⟩
  ·have a:=bJ k.out.1;have b:=bJ k.out.2.1;have:=c.pool.len;have:=hg.pool.len;omega
 unfold dt;rw[rE h.n,h.n.len];simp only[hb.1,hb.2];simp
theorem G1(h:FR r s t)(hr:r<4)(ks:KA s)(l:CI r s)(p:FI [] s n)(name:List UInt8):(aw s (r:Nat) name).2=(aw t (r:Nat) name).2∧((aw s (r:Nat) name).2=0→Sx s.L t.L (aw s (r:Nat) name).1 (aw t (r:Nat) name).1∧kindOf s.L (aw s (r:Nat) name).1=3∧aT s.L (aw s (r:Nat) name).1=true∧(aw s (r:Nat) name).1=a6 (s.n r) name∧(aw t (r:Nat) name).1=a6 (t.n r) name∧∃y∈s.n r,y.id=(aw s (r:Nat) name).1):=by
 have c:=fun m=>ow (s:=s) (r:=(r:Nat)) (name:=name) m
 have e:∀u:FS,aw u (r:Nat) name=if a6 (u.n r) name<0 then(0,9)else(a6 (u.n r) name,0):=fun u=>by
  unfold aw;rw[if_neg (by rw[bZ.2 ⟨r,hr,rfl⟩];decide)];rfl
 rcases ng h.n name with⟨a,b⟩|k
 ·rw[e,e,a,b,if_pos (by decide)];exact⟨rfl,fun h=>absurd h (by decide)⟩
 ·have v:=k.pos;have g:=e s;have i:=e t;rw[if_neg (by omega)]at g i;rw[g]at c⊢;rw[i];obtain⟨j,q,o,_,y,f,d⟩:=c rfl;obtain rfl:r=j:=by omega
  refine⟨rfl,fun _=>⟨k,?_,?_,rfl,rfl,y,f,d⟩⟩
  ·rw[←d];exact ks.ref r hr y f
  ·rw[←d,l.ref r hr y f];exact decide_eq_true rfl
def SR(r:Nat)(a b:cT)(s t:FS):Prop:=a.code=b.code∧a.cf=b.cf∧FR r s t
theorem ux(id c:Int):(b9 id c).code=c∧(b9 id c).cf=[]:=by
 unfold b9;split
 ·exact⟨rfl,rfl⟩
 ·rename_i h;exact⟨(Decidable.not_not.1 h).symm,rfl⟩
theorem SR.ev{id a c d:Int}(e:c=d)(h:FR r s t):SR r (b9 id c) (b9 a d) s t:=by
 obtain⟨b,f⟩:=ux id c;obtain⟨g,i⟩:=ux a d;exact⟨by rw[b,g,e],by rw[f,i],h⟩
theorem AY(b:FI [] s n)(hg:FI [] t m)(h:FR r s t){id a:Int}(hi:Sx s.L t.L id a)(k3:kindOf s.L id=3)(c:(lF s r id).code≠15)(d:(lF t r a).code≠15):SR r (lF s r id) (lF t r a) (iq s r id) (iq t r a):=by
 unfold lF at c d⊢;rw[(ux _ _).1]at c d;obtain⟨e,w,g⟩:=DU b.pool hg.pool h.w h.h hi k3 c d;have p:=nR (l:=s.w r) (id:=id) b.pool;have q:=nR (l:=t.w r) (id:=a) hg.pool
 have f:∀(L:List Ob) (l:List It) (id:Int),ey L (eN L l id):=fun L l id=>by
  unfold eN;split
  ·exact .refl _
  ·exact jY
 exact SR.ev e (h.c9 p.2 q.2 (h.tw.jR b.pool hg.pool p.2 q.2 (f _ _ _) (f _ _ _)) w g)
theorem uB{a b:Int}(h:(a= -1∧b= -1)∨(Sx L M a b∧kindOf L a=3)):(aJ L a).2=(aJ M b).2∧cV L M (aJ L a).1 (aJ M b).1:=by
 unfold aJ;rcases h with⟨rfl,rfl⟩|⟨k,k3⟩
 ·rw[if_pos (by decide),if_pos (by decide)];exact⟨rfl,.nil⟩
 ·have:=k.pos;rw[if_neg (by omega),if_neg (by omega)];exact yT (k.out.2.2.tree (by rw[cH];exact k3))
theorem II{t0 a id:Int}(b:gX true L (bE t0 (cD a [id]) bz))(d:cD a [id]=[a,id]):(ao L (bE t0 (cD a [id]) bz)).2.1=0∨(ao L (bE t0 (cD a [id]) bz)).2.1=15:=by
 rw[d]at b⊢;have e:=(b.par a (by simp[bE])).1;have f:=(b.par id (by simp[bE])).1;have g:kindOf L t0=2:=b.tr;have i:=bJ (l:=L) (id:=a) (by omega);have j:=bJ (l:=L) (id:=id) (by omega);have m:=bJ (l:=L) (id:=t0) (by omega)
 have c:bQ (bE t0 [a,id] bz)=0:=by
  unfold bQ bE;simp[i.1,j.1,m.1];decide
 rcases sE (L:=L) (o:=bE t0 [a,id] bz)with h|h
 ·refine .inl ?_;rw[h,if_neg (fun k=>k c),if_neg];unfold dH bE;simp[e,f,g]
 ·exact .inr h
theorem Hz(j:FI [] s n)(hg:FI [] t m)(h:FR r s t)(hr:r<4){id a w I:Int}(hi:Sx s.L t.L id a)(E:0≤s.h r)(x:aE s.L (s.w r)=(w,0,s.L))(O:aE t.L (t.w r)=(I,0,t.L))(cm:gX true s.L (bE w (cD (s.h r) [id]) bz)){fs D:List Fi}
  (c:(kH s r id).code≠15)(d:(kH t r a).code≠15):SR r (kH s r id) (kH t r a) (kI s r id fs) (kI t r a D):=by
 have g:(aH s.L (s.w r) (s.h r) bz [id]).2.1≠15:=fun z=>c (by unfold kH;rw[if_pos (by rw[z];decide)];exact z);have y:(aH t.L (t.w r) (t.h r) bz [a]).2.1≠15:=fun z=>d (by unfold kH;rw[if_pos (by rw[z];decide)];exact z);obtain⟨e,f,J⟩:=yk (os:=[id]) (ps:=[a]) (text:=bz) j.pool hg.pool h.tw h.w h.h (.one hi) (fun _=>by rw[x];exact cm) g y
 have i:(aH s.L (s.w r) (s.h r) bz [id]).2.1=0:=by
  have H:cD (s.h r) [id]=[s.h r,id]:=by unfold cD;rw[if_pos E];rfl
  unfold aH at g⊢;rw[x]at g⊢;rw[if_neg (fun k=>k rfl),if_neg (fun k=>absurd k.2.2 (by simp))]at g⊢;dsimp only at g⊢;rcases II cm H with z|z
  ·rw[if_neg (fun k=>k z)];exact z
  ·exfalso;exact g (by rw[if_pos (by rw[z];decide)];exact z)
 have f:=f i;have b:=e▸i;obtain⟨K,u⟩:=kY (l:=s.w r) (h:=s.h r) (text:=bz) (others:=[id]) j.pool;obtain⟨M,v⟩:=kY (l:=t.w r) (h:=t.h r) (text:=bz) (others:=[a]) hg.pool;have k3:=mW j.pool i;have p:=mW hg.pool b
 have o:FR r (bV s r bz [id]) (bV t r bz [a]):=by
  refine h.c9 u v J (h.w.grow u v) ?_;rw[show jh s.L (s.w r) (s.h r) bz [id]=_ from if_pos i,show jh t.L (t.w r) (t.h r) bz [a]=_ from if_pos b];exact .inr ⟨f,k3⟩
 have q:∀{N:List Ob} {k:Int},kindOf N k=3→cI N (r:Nat) [k]=0:=fun{N k} F=>by
  unfold cI;rw[if_neg (by rw[bZ.2 ⟨r,hr,rfl⟩];decide),if_neg (by simp[F])]
 unfold kH kI;rw[if_neg (fun k=>k i),if_neg (fun k=>k b),if_neg (fun k=>k i),if_neg (fun k=>k b)];exact SR.ev ((q (N:=(bV s r bz [id]).L) k3).trans (q (N:=(bV t r bz [a]).L) p).symm) o.bN
theorem HE(o:FI [] s n)(hg:FI [] t m)(ks:KA s)(kt:KA t)(ci:CI r s)(h:FR r s t)(hr:r<4){id a b1 b2:Int}(hb:(b1= -1∧b2= -1)∨(Sx s.L t.L b1 b2∧kindOf s.L b1=3))(hi:Sx s.L t.L id a)(k3:kindOf s.L id=3)(kc:aT s.L id=true)(E:0≤s.h r)
  (c:(jm s r b1 id).code≠15)(d:(jm t r b2 a).code≠15):SR r (jm s r b1 id) (jm t r b2 a) (fW s r b1 id) (fW t r b2 a):=by
 have Y:=(o.work r hr).head.k3 E
 have K:Sx s.L t.L (s.h r) (t.h r):=by
  rcases h.h with⟨z,_⟩|⟨z,_⟩
  ·omega
  ·exact z
 have ad:0≤t.h r:=K.pos.2;have ac:kindOf t.L (t.h r)=3:=K.kind▸Y;have al:kindOf t.L a=3:=hi.kind▸k3;obtain⟨x1,y1⟩:=uB hb;obtain⟨x2,y2⟩:=uB (.inr ⟨K,Y⟩);obtain⟨x3,y3⟩:=uB (.inr ⟨hi,k3⟩);have mc:=fun p=>AG o ks ci hr b1 k3 (by rw[kc];exact(decide_eq_true rfl).symm) E p
 have O:eQ (au t r b2 a).L (au t r b2 a).out=0→∃tt,aE (bX (t.az (au t r b2 a).L) r (au t r b2 a).out).L ((bX (t.az (au t r b2 a).L) r (au t r b2 a).out).w r)=(tt,0,(bX (t.az (au t r b2 a).L) r (au t r b2 a).out).L):=fun p=>by
  have p:(bC (au t r b2 a).L (au t r b2 a).out).2.1=0:=p;have Z:=(lV hg.pool (aJ t.L b2).1 (aJ t.L (t.h r)).1 (aJ t.L a).1).1;have bo:=ib Z (au t r b2 a).out
  have N:(bX (t.az (au t r b2 a).L) r (au t r b2 a).out).w r=(au t r b2 a).out.map (ca (bC (au t r b2 a).L (au t r b2 a).out).2.2):=by
   show ax t.w r _ r=_;rw[ee];exact if_neg (fun k=>k p)
  exact⟨_,by rw[N];exact(Kept.of Z p).sX bo.1⟩
 have H:=o.nN r b1 id;have J:=hg.nN r b2 a;unfold jm at c d⊢;unfold fW;rw[x1,x2,x3]at c⊢;by_cases e:(aJ t.L b2).2≠0
 ·rw[if_pos e,if_pos e,if_pos e,if_pos e];exact⟨rfl,rfl,h⟩
 rw[if_neg e]at c d⊢;rw[if_neg e,if_neg e,if_neg e];by_cases f:(aJ t.L (t.h r)).2≠0
 ·rw[if_pos f,if_pos f,if_pos f,if_pos f];exact⟨rfl,rfl,h⟩
 rw[if_neg f]at c d⊢;rw[if_neg f,if_neg f,if_neg f];by_cases g:(aJ t.L a).2≠0
 ·rw[if_pos g,if_pos g,if_pos g,if_pos g];exact⟨rfl,rfl,h⟩
 rw[if_neg g]at c d⊢;rw[if_neg g,if_neg g,if_neg g];have cB:(au s r b1 id).code≠15:=fun z=>c (by rw[if_pos (by rw[z];decide)];exact z);have dB:(au t r b2 a).code≠15:=fun z=>d (by rw[if_pos (by rw[z];decide)];exact z);obtain⟨R,U,W⟩:=Dl o.pool hg.pool y1 y2 y3 cB dB;obtain⟨q,u⟩:=lV o.pool (aJ s.L b1).1 (aJ s.L (s.h r)).1 (aJ s.L id).1;obtain⟨v,x⟩:=lV hg.pool (aJ t.L b2).1 (aJ t.L (t.h r)).1 (aJ t.L a).1;have R:(au s r b1 id).code=(au t r b2 a).code:=R;have U:(au s r b1 id).cf=(au t r b2 a).cf:=U;have W:cV (au s r b1 id).L (au t r b2 a).L (au s r b1 id).out (au t r b2 a).out:=W;have q:ae (au s r b1 id).L:=q;have u:s.L<+:(au s r b1 id).L:=u;have v:ae (au t r b2 a).L:=v;have x:t.L<+:(au t r b2 a).L:=x;have l:FR r (s.az (au s r b1 id).L) (t.az (au t r b2 a).L):=h.az u x (h.tw.jR o.pool hg.pool u x tI tI);generalize au s r b1 id=P at*;generalize au t r b2 a=Q at*;rw[R,U]at c⊢;by_cases i:Q.code≠0
 ·rw[if_pos i,if_pos i,if_pos i,if_pos i];exact⟨rfl,rfl,l⟩
 rw[if_neg i]at c d⊢;rw[if_neg i,if_neg i,if_neg i];by_cases j:0<Q.cf.length
 ·rw[if_pos j,if_pos j,if_pos j,if_pos j];exact⟨rfl,rfl,l⟩
 rw[if_neg j]at c d⊢;rw[if_neg j,if_neg j,if_neg j];have cL:eQ P.L P.out≠15:=fun z=>c (by rw[if_pos (by rw[z];decide)];exact z);have dL:eQ Q.L Q.out≠15:=fun z=>d (by rw[if_pos (by rw[z];decide)];exact z);obtain⟨v1,v2⟩:=GV q v (l.w) W cL dL;have y:=ib q P.out;have D:=ib v Q.out;have hL:FR r (bX (s.az P.L) r P.out) (bX (t.az Q.L) r Q.out):=l.c9 y.2 D.2 (l.tw.jR q v y.2 D.2 pc pc) v2 (l.h.grow y.2 D.2);rw[v1]at c mc⊢;by_cases b:eQ Q.L Q.out≠0
 ·rw[if_pos b,if_pos b,if_pos b,if_pos b];exact⟨rfl,rfl,hL⟩
 rw[if_neg b]at c d⊢;rw[if_neg b,if_neg b,if_neg b];obtain⟨tt,w1,w2,w3⟩:=mc (Decidable.not_not.1 b);obtain⟨t2,w4⟩:=O (Decidable.not_not.1 b);have F:=H.bX hr P.out;have I:=J.bX hr Q.out;have M:Sx (bX (s.az P.L) r P.out).L (bX (t.az Q.L) r Q.out).L id a:=hi.grow (u.trans y.2) (x.trans D.2);generalize bX (s.az P.L) r P.out=S at*;generalize bX (t.az Q.L) r Q.out=T at*;exact Hz F I hL hr M (by rw[w2];exact E) w1 w4 (by rw[w2];rw[decide_eq_true rfl]at w3;exact w3) c d
end Go.Nest
end
