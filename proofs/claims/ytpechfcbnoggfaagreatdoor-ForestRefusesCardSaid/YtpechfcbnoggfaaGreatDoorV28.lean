/- part -/
import Derived.Test.YtpechfcbnoggfaaGreatDoorV21
import Derived.Test.YtpechfcbnoggfaaGreatDoorK13
import Derived.Test.YtpechfcbnoggfaaGreatDoorN6
import Derived.Test.YtpechfcbnoggfaaGreatDoorU3
import Derived.Test.YtpechfcbnoggfaaGreatDoorV12
set_option linter.unusedVariables false
set_option linter.unusedSimpArgs false
section
namespace Go.Nest
open Go Go.AM
variable {L0:List Ob}
structure WI(L:List Ob)(l:List It)(h:Int):Prop where
 ok:fQ l
 la:∀y∈l,y.bytes.length≤400
 lnk:∀y∈l,0≤y.au∧y.au<4
 nb:NB l
 head:fM L h
theorem WI.ext{L M:List Ob}{l:List It}{h:Int}(hw:WI L l h)(hx:L<+:M):WI M l h:=⟨hw.ok,hw.la,hw.lnk,hw.nb,hw.head.ext hx⟩
theorem WI.nil(L:List Ob):WI L [] (-1):=⟨.nil,fun y h=>(by cases h),fun y h=>(by cases h),fun y h=>(by cases h),.inl (by decide)⟩
structure FI(L0:List Ob)(s:FS)(n:Nat):Prop where
 pool:aj s.L
 dX:lS s.b
 own:∀k,k<4→(s.o k).length≤s.L.length
 refs:∀k,k<4→fG (s.n k) (s.m k)
 mov:∀k,k<4→(s.m k).length≤n
 work:∀k,k<4→WI s.L (s.w k) (s.h k)
 pre:L0<+:s.L
theorem FI.wf{s:FS}{n:Nat}(h:FI L0 s n)(hn:n≤990):cg s where
 pool:=h.pool
 dX:=h.dX.ok
 own:=fun k hk=>by have:=h.own k hk;have:=h.pool.len;omega
 sort:=fun k hk=>(h.refs k hk).inv.sort
 ids:=fun k hk=>(h.refs k hk).inv.ids
 few:=fun k hk=>(h.refs k hk).inv.len
 moves:=fun k hk=>by have:=h.mov k hk;omega
 paths:=fun k hk y hy=>by have:=yO ((h.work k hk).ok.path y hy);omega
 items:=fun k hk=>(h.work k hk).ok.len
 bytes:=fun k hk=>(h.work k hk).la
 head:=fun k hk=>(h.work k hk).head
theorem FI.nil:FI [] iE 0:=⟨.nil,.nil,fun k hk=>Nat.zero_le _,fun k hk=>.nil,fun k hk=>Nat.zero_le _,fun k hk=>WI.nil _,List.prefix_refl _⟩
theorem FI.base{s:FS}{n:Nat}(h:FI L0 s n):FI s.L s n:=⟨h.pool,h.dX,h.own,h.refs,h.mov,h.work,List.prefix_refl _⟩
theorem FI.up{s:FS}{n m:Nat}(h:FI L0 s n)(hm:n≤m):FI L0 s m:=⟨h.pool,h.dX,h.own,h.refs,fun k hk=>Nat.le_trans (h.mov k hk) hm,h.work,h.pre⟩
theorem eA{α:Type}{o:Nat→α}{k j:Nat}{v:α}:aq o k v j=if j=k then v else o j:=by
 split
 ·rename_i e;rw[e,fL]
 ·rename_i e;rw[fB e]
theorem FI.dG{s:FS}{n r:Nat}(h:FI L0 s n){M:List Ob}{l:List It}{hd:Int}(hM:aj M)(hx:s.L<+:M)(hw:WI M l hd):FI L0 (s.dG r M l hd) n:=
 ⟨hM,h.dX,fun k hk=>Nat.le_trans (h.own k hk) hx.length_le,h.refs,h.mov,fun k hk=>by
  show WI M (aq s.w r l k) (aq s.h r hd k);rw[eA,eA];split
  ·exact hw
  ·exact(h.work k hk).ext hx,h.pre.trans hx⟩
theorem FI.hU{s:FS}{n r:Nat}(h:FI L0 s n)(name:List UInt8)(old id:Int):FI L0 (s.hU r (aL (s.n r) name old id) (fc (s.n r) (s.m r) name old id)) (n+1):=
 ⟨h.pool,h.dX,h.own,fun k hk=>by
  show fG (aq s.n r _ k) (aq s.m r _ k);rw[eA,eA];have:=h.refs k hk;split
  ·rename_i e;rw[←e];unfold aL fc;split
   ·exact .snoc this ‹_›
   ·exact this
  ·exact this,fun k hk=>by
  show(aq s.m r _ k).length≤_;rw[eA];have:=h.mov k hk;split
  ·rename_i e;rw[←e];unfold fc;split
   ·rw[List.length_append,List.length_singleton];omega
   ·omega
  ·omega,h.work,h.pre⟩
theorem FI.cG{s:FS}{n:Nat}(h:FI L0 s n){o:Nat→List Bool}(ho:∀k,k<4→(o k).length≤s.L.length):FI L0 (s.cG o) n:=⟨h.pool,h.dX,ho,h.refs,h.mov,h.work,h.pre⟩
theorem FI.aL{s:FS}{n:Nat}(h:FI L0 s n){M:List Ob}(hM:aj M)(hx:s.L<+:M):FI L0 (s.aL M) n:=
 ⟨hM,h.dX,fun k hk=>Nat.le_trans (h.own k hk) hx.length_le,h.refs,h.mov,fun k hk=>(h.work k hk).ext hx,h.pre.trans hx⟩
theorem WI.put{L:List Ob}{l:List It}{h:Int}(hw:WI L l h){x:It}(hb:x.bytes.length≤400)(hr:0≤x.au∧x.au<4)(hn:x.link=true→x.bytes=[]):WI L (eO l x).2 h:=by
 obtain⟨a,b⟩:=Fx hw.ok x;refine⟨a,fun y hy=>?_,fun y hy=>?_,fun y hy=>?_,hw.head⟩<;>rcases b y hy with rfl|hy
 ·exact hb
 ·exact hw.la y hy
 ·exact hr
 ·exact hw.lnk y hy
 ·exact hn
 ·exact hw.nb y hy
theorem WI.wr{L:List Ob}{l:List It}{h:Int}(hw:WI L l h)(p b:List UInt8):WI L (gK l p b).2 h:=by
 unfold gK;split
 ·exact hw
 ·exact hw.put (by show b.length≤400;omega) ⟨Int.le_refl 0,(by decide:(0:Int)<4)⟩ fun h=>by cases h
theorem WI.li{L:List Ob}{l:List It}{h:Int}(hw:WI L l h)(p:List UInt8)(q id:Int):WI L (fY L l p q id).2 h:=by
 unfold fY;split
 ·exact hw
 split
 ·exact hw
 ·exact hw.put (Nat.zero_le _) (by show 0≤q∧q<4;omega) fun _=>rfl
theorem WI.rem{L:List Ob}{l:List It}{h:Int}(hw:WI L l h)(p:List UInt8):WI L (gI l p).2 h:=by
 obtain⟨a,b⟩:=FE hw.ok p;exact⟨a,fun y hy=>hw.la y (b y hy),fun y hy=>hw.lnk y (b y hy),fun y hy=>hw.nb y (b y hy),hw.head⟩
theorem b9.au{ne:Bool}{L:List Ob}(hp:aj L){es:List aB}{l:List Fi}(h:b9 ne L es l):(∀e∈es,gN L e)→∀f∈l,0≤f.au∧f.au<4:=by
 induction h with
 |nil=>intro _ f hf;cases hf
 | @file e es l hm h ih=>
  intro he f hf;rcases List.mem_cons.1 hf with rfl|hf
  ·exact(he e (by simp)).au
  ·exact ih (fun x hx=>he x (by simp[hx])) f hf
 | @dir e es m l hm hk hne h1 h ih1 ih=>
  intro he f hf;rcases List.mem_append.1 hf with hf|hf
  ·obtain⟨g,hg,rfl⟩:=List.mem_map.1 hf;exact ih1 (iS hp hk).2 g hg
  ·exact ih (fun x hx=>he x (by simp[hx])) f hf
theorem xT{ne:Bool}{M:List Ob}{fs:List Fi}{t h:Int}(hM:aj M)(ht:fP ne M t fs)(hs:∀f∈fs,(az f.path).length≤8)(hl:fs.length≤60)(hh:fM M h):WI M (fs.map (bW M)) h:=by
 obtain⟨a,b⟩:=G8 hM hM ht hs hl;refine⟨a,b,fun y hy=>?_,DY _ _,hh⟩;obtain⟨f,hf,rfl⟩:=List.mem_map.1 hy;have:=ht.2.au hM (iS hM ht.1).2 f hf;unfold bW;split
 ·exact this
 ·exact⟨Int.le_refl 0,(by decide:(0:Int)<4)⟩
theorem DW{L:List Ob}(hL:aj L){l:List It}{h:Int}(hw:WI L l h)(fs:List Fi):WI (cZ L fs).2.2 (jn L l fs) h:=by
 obtain⟨a,b⟩:=k9 hL fs;by_cases hc:(cZ L fs).2.1=0
 ·obtain⟨b1,b2⟩:=pj hL hc;rw[show jn L l fs=fs.map (bW (cZ L fs).2.2)from if_neg (fun h=>h hc)];exact xT a b2 (fun f hf=>(qR ((kq b1).2 f hf).1).2.1) (kq b1).1 (hw.head.ext b)
 ·rw[show jn L l fs=l from if_pos hc];exact hw.ext b
theorem Bk{L:List Ob}(hL:aj L){l:List It}{h:Int}(hw:WI L l h)(id:Int):WI (jG L l id) (jH L l h id) (jF L l h id):=by
 obtain⟨a,b⟩:=vX (l:=l) (id:=id) hL;by_cases hc:eF L l h id=0
 ·have hk:kindOf L id=3:=by
   by_cases hk:kindOf L id=3
   ·exact hk
   ·rw[(v8 (h:=h) (l:=l) hk).1]at hc;cases hc
  have hcl:fU L l h=0:=by
   by_cases hcl:fU L l h=0
   ·exact hcl
   ·rw[(vY (h:=h) (l:=l) hk hcl).1]at hc;exact absurd hc hcl
  obtain⟨e1,e2,e3,e4⟩:=vZ (h:=h) (l:=l) hk hcl;have hz:(cL (aT L l).2.2 (ai L id).tree).2=0:=e1▸hc;rw[if_neg (fun h=>h hz)]at e3 e4;rw[e2]at a b;obtain⟨f1,f2,f3⟩:=wP a hz;rw[e2,e3,e4];exact xT a f1 f3 f2 (fM.ext (.inr hk) b)
 ·rw[show jH L l h id=l from if_pos hc,show jF L l h id=h from if_pos hc];exact hw.ext b
theorem FI.ti{s:FS}{n r:Nat}(h:FI L0 s n)(name:List UInt8)(id:Int):FI L0 (ga s r name id) (n+1):=h.hU name _ _
theorem Az{L:List Ob}{o:Nat→List Bool}{b:Nat→List Int}{r:Nat}{ids:List Int}(h:(o r).length≤L.length):(kh L o b r ids).length≤L.length:=by
 unfold kh eN;rw[lE,List.length_append,List.length_replicate];omega
theorem uX{L:List Ob}{o:Nat→List Bool}{b:Nat→List Int}(h:∀k,k<4→(o k).length≤L.length)(r:Int)(ids:List Int):∀k,k<4→(dn L o b r ids k).length≤L.length:=fun k hk=>by
 unfold dn;split
 ·exact h k hk
 ·rw[eA];split
  ·rename_i e;rw[←e];exact Az (h k hk)
  ·exact h k hk
theorem FI.iu{s:FS}{n r:Nat}(h:FI L0 s n)(id:Int):FI L0 (iu s r id) n:=h.cG (uX h.own _ _)
theorem FI.ei{s:FS}{n r:Nat}(h:FI L0 s n)(name:List UInt8)(id:Int):FI L0 (ei s r name id) (n+1):=by
 unfold Go.Nest.ei;split
 ·exact h.ti name id
 ·exact(h.ti name id).iu id
theorem FI.cX{s:FS}{n r:Nat}(h:FI L0 s n)(hr:r<4)(text:List UInt8)(others:List Int):FI L0 (cX s r text others) n:=by
 obtain⟨a,b⟩:=pt (l:=s.w r) (h:=s.h r) (text:=text) (others:=others) h.pool;have hw:=h.work r hr;exact h.dG a b ⟨hw.ok,hw.la,hw.lnk,hw.nb,Bm h.pool hw.head _ _⟩
theorem FI.iK{s:FS}{n r:Nat}(h:FI L0 s n)(hr:r<4)(id:Int):FI L0 (iK s r id) n:=by
 obtain⟨a,b⟩:=vX (l:=s.w r) (id:=id) h.pool;exact h.dG a b (Bk h.pool (h.work r hr) id)
theorem FI.cM{s:FS}{n r:Nat}(h:FI L0 s n)(hr:r<4)(l:List Fi):FI L0 (cM s r l) n:=by
 obtain⟨a,b⟩:=k9 h.pool l;exact h.dG a b (DW h.pool (h.work r hr) l)
theorem FI.cw{s:FS}{n r:Nat}(h:FI L0 s n):FI L0 (cw s r) n:=by
 obtain⟨a,b⟩:=kV (l:=s.w r) h.pool;exact h.aL a b
theorem sr{s:FS}{n:Nat}(h:FI L0 s n)(r q id:Int):∀k,k<4→(cq s.L s.o s.b r q id k).length≤s.L.length:=fun k hk=>by
 unfold cq;split
 ·exact h.own k hk
 split
 ·exact h.own k hk
 ·exact uX h.own _ _ k hk
theorem zy{base x y:List Fi}:∀(qs:List (List UInt8)) (s:BS),s.L<+:(ey base x y s qs).L
 |[],s=>List.prefix_refl _
 |q::qs,s=>by
  refine List.IsPrefix.trans ?_ (zy qs (ng base x y s q));show s.L<+:kP s.L _ _ _;unfold kP;split
  ·exact List.prefix_refl _
  split
  ·exact List.prefix_refl _
  unfold iI;split
  ·exact List.prefix_refl _
  ·exact jV _
theorem vF{L:List Ob}(hL:aj L)(base x y:List Fi):aj (gr L base x y).L∧L<+:(gr L base x y).L:=by
 have h:=(uq (base:=base) (x:=x) (y:=y) (eY [base,x,y]) (s:=⟨L,[],[],0⟩) (n:=0) ⟨hL,hL.len,Nat.le_refl _,Nat.le_refl _⟩).L;have h2:=zy (base:=base) (x:=x) (y:=y) (eY [base,x,y]) ⟨L,[],[],0⟩;unfold gr;split
 ·exact⟨hL,List.prefix_refl _⟩
 dsimp only;generalize (if(ey base x y ⟨L,[],[],0⟩ (eY [base,x,y])).code=0 then cR (ey base x y ⟨L,[],[],0⟩ (eY [base,x,y])).out else(ey base x y ⟨L,[],[],0⟩ (eY [base,x,y])).code)=c;split
 ·exact⟨h,h2⟩
 ·exact⟨h,h2⟩
theorem AV{L:List Ob}{base x y:List Fi}(hp:∀l∈[base,x,y],∀f∈l,f.path.length≤4000000):∀f∈(gr L base x y).out,f.path.length≤4000000:=by
 unfold gr;split
 ·intro f hf;cases hf
 dsimp only;generalize (if(ey base x y ⟨L,[],[],0⟩ (eY [base,x,y])).code=0 then cR (ey base x y ⟨L,[],[],0⟩ (eY [base,x,y])).out else(ey base x y ⟨L,[],[],0⟩ (eY [base,x,y])).code)=c;split
 ·intro f hf;cases hf
 ·exact ur (hp x (by simp)) (hp y (by simp)) _ _ (fun q hq=>by
   obtain⟨l,h1,f,h2,rfl⟩:=yQ hq;exact hp l h1 f h2) fun f hf=>by cases hf
theorem Cy{L:List Ob}(hL:aj L)(id:Int):∀f∈(bc L id).1,f.path.length≤4000000:=by
 unfold bc;split
 ·intro f hf;cases hf
 ·exact(CD hL _).2
theorem FI.rH{s:FS}{n:Nat}(h:FI L0 s n)(r:Nat)(base id:Int):FI L0 (s.aL (aJ s r base id).L) n:=by
 obtain⟨a,b⟩:=vF h.pool (bc s.L base).1 (bc s.L (s.h r)).1 (bc s.L id).1;exact h.aL a b
theorem FI.mix{s:FS}{n r:Nat}(h:FI L0 s n)(hr:r<4)(base id:Int):FI L0 (iJ s r base id) n:=by
 have h1:=h.rH r base id;have h2:=h1.cM hr (aJ s r base id).out;unfold iJ;repeat' split
 any_goals first|exact h|exact h1|exact h2
 unfold od;split
 ·exact(h2.cX hr _ _).cM hr _
 ·exact(h2.cX hr _ _).iu _
theorem FI.merge{s:FS}{n r:Nat}(h:FI L0 s n)(hr:r<4)(name:List UInt8):FI L0 (lF s r name) n:=by
 have h1:=h.cw (r:=r);unfold lF oa;repeat' split
 any_goals first|exact h|exact h1
 ·exact h1.iK hr _
 ·exact h1.mix hr _ _
theorem qQ{L:List Ob}(hL:aj L)(id:Int)(dir:List UInt8):aj (bT L id dir).2.2∧L<+:(bT L id dir).2.2:=by
 unfold bT;split
 ·exact⟨hL,List.prefix_refl _⟩
 split
 ·exact oK hL
 ·exact oK hL
theorem eU{α:Type}{P:α→Prop}{c:Prop}{i:Decidable c}{a b:α}(h1:c→P a)(h2:¬c→P b):P (if c then a else b):=by
 by_cases h:c
 ·rw[if_pos h];exact h1 h
 ·rw[if_neg h];exact h2 h
theorem FI.step{s:FS}{n:Nat}(h:FI L0 s n)(x:bG):FI L0 (dh s x) (n+1):=by
 have hup:=h.up (Nat.le_succ n);unfold dh;refine eU (P:=fun t=>FI L0 t (n+1)) (fun _=>hup) (fun _=>eU (P:=fun t=>FI L0 t (n+1)) (fun _=>hup) (fun hr=>?_));obtain⟨i,hi,e⟩:=(b5 (r:=x.r)).1 (by cases q:bh x.r;exact absurd q hr;rfl);have e:x.r.toNat=i:=by omega
 rw[e];have hw:=h.work i hi;have hsp:=qQ h.pool (s.h i) x.path;refine eU (P:=fun t=>FI L0 t (n+1)) (fun _=>?_) (fun _=>eU (P:=fun t=>FI L0 t (n+1)) (fun _=>?_) (fun _=>eU (P:=fun t=>FI L0 t (n+1)) (fun _=>?_) (fun _=>eU (P:=fun t=>FI L0 t (n+1)) (fun _=>?_) (fun _=>eU (P:=fun t=>FI L0 t (n+1)) (fun _=>?_) (fun _=>eU (P:=fun t=>FI L0 t (n+1)) (fun _=>?_) (fun _=>eU (P:=fun t=>FI L0 t (n+1)) (fun _=>?_) (fun _=>eU (P:=fun t=>FI L0 t (n+1)) (fun _=>?_) (fun _=>eU (P:=fun t=>FI L0 t (n+1)) (fun _=>?_) (fun _=>eU (P:=fun t=>FI L0 t (n+1)) (fun _=>?_) (fun _=>eU (P:=fun t=>FI L0 t (n+1)) (fun _=>?_) (fun _=>?_)))))))))))
 ·exact hup.dG h.pool (List.prefix_refl _) (hw.wr _ _)
 ·exact hup.dG h.pool (List.prefix_refl _) (hw.rem _)
 ·unfold mK;split
  ·exact hup
  ·exact hup.dG h.pool (List.prefix_refl _) (hw.li _ _ _)
 ·unfold lh;repeat' split
  ·exact hup
  ·exact hup.cX hi _ _
  ·exact(h.cX hi _ _).ei _ _
 ·unfold kl;split
  ·exact hup
  ·exact hup.iK hi _
 ·exact hup.merge hi _
 ·unfold l4;split
  ·exact hup
  ·exact h.ti _ _
 ·unfold l7;split
  ·exact hup
  ·exact h.hU _ _ _
 ·unfold lj;have h3:=h.cG (sr h i x.q (aD s x.q x.name).1);repeat' split
  ·exact hup
  ·exact hup
  ·exact h3.up (Nat.le_succ n)
  ·exact h3.ei _ _
 ·exact⟨h.pool,h.dX.dX _ _,h.own,h.refs,hup.mov,h.work,h.pre⟩
 ·unfold oL;repeat' split
  ·exact hup
  ·exact hup
  ·exact hup.aL hsp.1 hsp.2
  ·exact(h.aL hsp.1 hsp.2).ei _ _
 ·exact hup.cG fun k hk=>by
   show(lO _ (s.o k)).length≤_;rw[GW];exact h.own k hk
end Go.Nest
end
section
namespace Go.Nest
open Go Go.AM
variable {L0:List Ob}
structure db(s t:FS):Prop where
 doc:∀k,k<4→(t.w k).map cP=(s.w k).map cP
 lnk:∀k,k<4→cA (t.w k)=cA (s.w k)
 head:∀k,k<4→t.h k=s.h k
 n:∀k,k<4→t.n k=s.n k
 m:∀k,k<4→t.m k=s.m k
 o:∀k,k<4→t.o k=s.o k
theorem db.refl(s:FS):db s s:=⟨fun _ _=>rfl,fun _ _=>rfl,fun _ _=>rfl,fun _ _=>rfl,fun _ _=>rfl,fun _ _=>rfl⟩
theorem db.qv(s:FS)(M:List Ob):db s (s.aL M):=⟨fun _ _=>rfl,fun _ _=>rfl,fun _ _=>rfl,fun _ _=>rfl,fun _ _=>rfl,fun _ _=>rfl⟩
theorem db.trans{s t u:FS}(h:db s t)(g:db t u):db s u:=
 ⟨fun k hk=>(g.doc k hk).trans (h.doc k hk),fun k hk=>(g.lnk k hk).trans (h.lnk k hk),fun k hk=>(g.head k hk).trans (h.head k hk),fun k hk=>(g.n k hk).trans (h.n k hk),fun k hk=>(g.m k hk).trans (h.m k hk),fun k hk=>(g.o k hk).trans (h.o k hk)⟩
theorem db.dG{s:FS}{r:Nat}{M:List Ob}{l:List It}{h:Int}(h1:l.map cP=(s.w r).map cP)(h2:cA l=cA (s.w r))(h3:h=s.h r):db s (s.dG r M l h):=
 ⟨fun k hk=>by
  show(aq s.w r l k).map cP=_;rw[eA];split
  ·rename_i e;rw[e];exact h1
  ·rfl,fun k hk=>by
  show cA (aq s.w r l k)=_;rw[eA];split
  ·rename_i e;rw[e];exact h2
  ·rfl,fun k hk=>by
  show aq s.h r h k=_;rw[eA];split
  ·rename_i e;rw[e];exact h3
  ·rfl,fun _ _=>rfl,fun _ _=>rfl,fun _ _=>rfl⟩
theorem db.mX{s:FS}{r:Nat}{M:List Ob}{l:List It}{h:Int}(h1:l=s.w r)(h3:h=s.h r):db s (s.dG r M l h):= .dG (by rw[h1]) (by rw[h1]) h3
theorem db.zE{s:FS}{r:Nat}{name:List UInt8}{old id:Int}(hc:cW (s.n r) name old id≠0):db s (s.hU r (aL (s.n r) name old id) (fc (s.n r) (s.m r) name old id)):=
 ⟨fun _ _=>rfl,fun _ _=>rfl,fun _ _=>rfl,fun k hk=>by
  show aq s.n r _ k=_;rw[eA];split
  ·rename_i e;rw[e];exact if_neg hc
  ·rfl,fun k hk=>by
  show aq s.m r _ k=_;rw[eA];split
  ·rename_i e;rw[e];exact if_neg hc
  ·rfl,fun _ _=>rfl⟩
theorem iC{id c:Int}(h:(bV id c).code≠0):c≠0:=fun e=>by
 rw[wL e]at h;exact h rfl
theorem fG.names{l:List Rf}{m:List Mv}(h:fG l m):∀r∈l,bL r.name=0:=by
 induction h with
 |nil=>intro r hr;cases hr
 | @snoc l m n old id h hc ih=>
  intro r hr;have hn:=(r8 hc).1;unfold j7 at hr;split at hr
  ·rcases nV.1 hr with rfl|hr
   ·exact hn
   ·exact ih r hr
  split at hr
  ·rcases List.mem_append.1 hr with hr|hr
   ·exact ih r (List.mem_of_mem_take hr)
   ·exact ih r (List.mem_of_mem_drop hr)
  ·rcases List.mem_or_eq_of_mem_set hr with hr|rfl
   ·exact ih r hr
   ·exact hn
theorem wm{l:List Rf}(hs:dC l)(hi:∀r∈l,0≤r.id)(hn:∀r∈l,bL r.name=0)(hl:l.length≤8):∀i,i≤l.length→(dy (l.take i)).1=l.take i
 |0,_=>rfl
 |i+1,h=>by
  have hlt:i<l.length:=h;have ih:=wm hs hi hn hl i (Nat.le_of_succ_le h);have hm:=List.getElem_mem hlt
  have lo:∀g∈l.take i,Op.bytesLess g.name l[i].name=true:=fun g hg=>by
   obtain⟨k,hk,e⟩:=List.mem_take_iff_getElem.1 hg;subst e;exact List.pairwise_iff_getElem.1 hs k i (by omega) hlt (by omega)
  have hp:aY (l.take i) l[i].name=(l.take i).length:=ua (Nat.le_refl _) (fun g hg=>lo g (List.mem_of_mem_take hg)) (fun h=>absurd h (Nat.lt_irrefl _))
  have hh:cT (l.take i) l[i].name=false:=by
   unfold cT;rw[hp,List.getElem?_eq_none (Nat.le_refl _)];rfl
  have hg:=ku hh;have hid:=hi _ hm
  have hc:cW (l.take i) l[i].name (-1) l[i].id=0:=by
   unfold cW;rw[if_neg (fun h=>h (hn _ hm)),if_neg (by omega),if_neg (fun h=>h hg.symm),if_neg (by rw[List.length_take];omega),if_neg (by omega)]
  rw[wk hlt];unfold je;dsimp only;rw[ih];unfold aL j7;rw[if_pos hc,if_pos hh];unfold jk;rw[show(⟨l[i].name,l[i].id⟩:Rf)=l[i]from rfl,hp,List.take_length,List.drop_length,List.take_succ_eq_append_getElem hlt]
theorem Bt{l:List Rf}{m:List Mv}(h:fG l m):(dy l).1=l:=by
 have:=wm h.inv.sort h.inv.ids h.names h.inv.len l.length (Nat.le_refl _);rwa[List.take_length]at this
theorem Gp{l:List Rf}{m:List Mv}(h:fG l m){name:List UInt8}(hn:dj l name=0){id:Int}(hid:0≤id):cW l name (bt l name) id=0∨cW l name (bt l name) id=17:=by
 unfold dj at hn;rw[Bt h]at hn;obtain⟨c1,-,-,c4,-⟩:=r8 hn;unfold cW;rw[if_neg (fun h=>h c1),if_neg (by omega),if_neg (fun h=>h rfl),if_neg (fun k=>c4 ⟨k.1,by decide,k.2.2⟩)];split
 ·exact .inr rfl
 ·exact .inl rfl
theorem tj{s:FS}{n r:Nat}(h:FI L0 s n)(hr:r<4){name:List UInt8}{id:Int}(hn:dj (s.n r) name=0)(hk:kindOf s.L id≠0):eJ s r name id=0:=by
 have hid:=c9 hk;unfold eJ;rw[if_neg (fun k=>(Gp (h.refs r hr) hn (by omega)).elim k.1 k.2)];unfold cI;rw[if_neg (by rw[b5.2 ⟨r,hr,rfl⟩];decide),if_neg (by simpa using hk)]
theorem wa{L:List Ob}(hL:aj L){l:List It}{h:Int}{text:List UInt8}{others:List Int}(hc:(bn L l h text others).2.1=0):kindOf (bn L l h text others).2.2 (bn L l h text others).1=3:=by
 unfold bn at hc⊢;split at hc
 ·rename_i h1;exact absurd hc h1
 rename_i h1;rw[if_neg h1];split at hc
 ·cases hc
 rename_i h2;rw[if_neg h2];split at hc
 ·rename_i h3;exact absurd hc h3
 rename_i h3;rw[if_neg h3];have:=(kQ (Decidable.not_not.1 h3)).2;rw[←fp,this];rfl
theorem Bl(s:FS)(r:Nat){text:List UInt8}{others:List Int}(hc:(bn s.L (s.w r) (s.h r) text others).2.1≠0):db s (cX s r text others):= .mX rfl (if_neg hc)
theorem yF(s:FS)(r:Nat){id:Int}(hc:eF s.L (s.w r) (s.h r) id≠0):db s (iK s r id):= .mX (if_pos hc) (if_pos hc)
theorem su:∀{l:List It} {L:List Ob} {out:List Fi},(bK L l out).2.1=0→(bK L l out).1.filter (fun f=>decide (f.mode=3))=out.filter (fun f=>decide (f.mode=3))++cA l
 |[],L,out,_=>by simp[bK,cA]
 |x::r,L,out,h=>by
  unfold bK at h⊢;split at h
  ·rename_i h1;rw[if_pos h1,su h];simp[cA,gW,h1]
  ·rename_i h1;rw[if_neg h1];split at h
   ·rename_i h2;exact absurd h h2
   ·rename_i h2;rw[if_neg h2,su h];simp[cA,h1]
theorem xR(L:List Ob):∀fs:List Fi,cA (fs.map (bW L))=fs.filter fun f=>decide (f.mode=3)
 |[]=>rfl
 |f::r=>by
  have ih:=xR L r;unfold cA at ih⊢;rw[List.map_cons];by_cases hm:f.mode=3
  ·rw[show bW L f=⟨f.path,[],true,f.id,f.au⟩from if_pos hm,List.filter_cons_of_pos rfl,List.filter_cons_of_pos (by simpa using hm),List.map_cons,ih];unfold gW;dsimp only;rw[←hm]
  ·rw[show bW L f=⟨f.path,(ai L f.id).bytes,false,0,0⟩from if_neg hm,List.filter_cons_of_neg (by simp),List.filter_cons_of_neg (by simpa using hm),ih]
theorem FD{L:List Ob}(hp:aj L){l l2:List It}{h:Int}(hh:fM L h)(h0:¬h<0)(hnb:NB l)(hc:fU L l h=0){M:List Ob}(hM:aj M)(hx:(aT L l).2.2<+:M):
  (jn M l2 (bc (aT L l).2.2 h).1).map cP=l.map cP∧cA (jn M l2 (bc (aT L l).2.2 h).1)=cA l:=by
 obtain⟨h1,h2⟩:=Bc hc;obtain⟨fs,k1,k2,k3,k4,k5⟩:=G5 hp h1;have hp2:=(kV (l:=l) hp).1;unfold mV at h2;rw[if_neg h0,decide_eq_true_iff]at h2
 have e:(bc (aT L l).2.2 h).1=fs:=by
  unfold bc;rw[if_neg h0,h2,k1.files hp2]
 rw[e]
 have hx2:(bK L l []).2.2<+:M:=by
  refine List.IsPrefix.trans ?_ hx;unfold aT;split
  ·exact List.prefix_refl _
  ·exact(k9 (ll hp).1 _).2
 have e2:jn M l2 fs=fs.map (bW M):=by
  unfold jn;rw[(k1.mono hx).build hM,if_neg (by simp)]
 rw[e2];refine⟨(k4 M hM hx2).2 hnb,?_⟩;have:=su k3;rw[k2]at this;rw[xR,this];rfl
def bJ(s:FS)(e:ck)(t:FS):Prop:=e.code≠0→db s t
theorem bo{α β:Type}{P:α→β→Prop}{c:Prop}{i:Decidable c}{a b:α}{a' b':β}(h1:c→P a a')(h2:¬c→P b b'):P (if c then a else b) (if c then a' else b'):=by
 by_cases h:c
 ·rw[if_pos h,if_pos h];exact h1 h
 ·rw[if_neg h,if_neg h];exact h2 h
theorem bJ.put{l:List It}{x:It}(hc:(eO l x).1≠0):(eO l x).2=l:=by
 unfold eO at hc⊢;refine eU (P:=fun r:Int×List It=>r.1≠0→r.2=l) (fun _ _=>rfl) (fun _=>eU (P:=fun r:Int×List It=>r.1≠0→r.2=l) (fun _ _=>rfl) (fun _=>eU (P:=fun r:Int×List It=>r.1≠0→r.2=l) (fun _ h=>absurd rfl h) (fun _=>eU (P:=fun r:Int×List It=>r.1≠0→r.2=l) (fun _ _=>rfl) (fun _ h=>absurd rfl h)))) hc
theorem ED{s:FS}{n r:Nat}(h:FI L0 s n)(hr:r<4)(hc:jE s r=0)(h0:¬s.h r<0){base id:Int}:bJ s (jS (cw s r) r base id) (iJ (cw s r) r base id):=by
 have hcl:=h.cw (r:=r);have ht:db s (cw s r):= .qv _ _;have hs0:(cw s r).h r=s.h r:=rfl;have hL0:(cw s r).L=(aT s.L (s.w r)).2.2:=rfl;generalize cw s r=t at*;have hm:=hcl.rH r base id;have hmx:=(vF hcl.pool (bc t.L base).1 (bc t.L (t.h r)).1 (bc t.L id).1).2;have hm1:db s (t.aL (aJ t r base id).L):=ht.trans (.qv _ _);unfold jS iJ;refine bo (P:=bJ s) (fun _ _=>ht) (fun _=>bo (P:=bJ s) (fun _ _=>ht) (fun _=>bo (P:=bJ s) (fun _ _=>ht) (fun _=>bo (P:=bJ s) (fun _ _=>hm1) (fun _=>bo (P:=bJ s) (fun _ _=>hm1) (fun _=>bo (P:=bJ s) (fun g _=>hm1.trans (.mX (if_pos g) rfl)) (fun _=>?_))))));have hly:=hm.cM hr (aJ t r base id).out;have hlx:(aJ t r base id).L<+:(cM (t.aL (aJ t r base id).L) r (aJ t r base id).out).L:=(k9 hm.pool _).2
 have hhd:(cM (t.aL (aJ t r base id).L) r (aJ t r base id).out).h r=s.h r:=by
  show aq _ r _ r=_;rw[fL];exact hs0
 have hoth:∀k,k<4→k≠r→(cM (t.aL (aJ t r base id).L) r (aJ t r base id).out).w k=t.w k∧(cM (t.aL (aJ t r base id).L) r (aJ t r base id).out).h k=t.h k:=fun k hk hne=>⟨fB hne,fB hne⟩;have hnm:(cM (t.aL (aJ t r base id).L) r (aJ t r base id).out).n=t.n∧(cM (t.aL (aJ t r base id).L) r (aJ t r base id).out).m=t.m∧(cM (t.aL (aJ t r base id).L) r (aJ t r base id).out).o=t.o:=⟨rfl,rfl,rfl⟩;have hpre:t.L<+:(cM (t.aL (aJ t r base id).L) r (aJ t r base id).out).L:=hmx.trans hlx;generalize cM (t.aL (aJ t r base id).L) r (aJ t r base id).out=u at*;unfold qg od;refine bo (P:=bJ s) (fun g _=>?_) (fun g hE=>?_)
 ·have hcx:=pt (l:=u.w r) (h:=u.h r) (text:=ft) (others:=[id]) hly.pool;have hw:=h.work r hr;rw[hs0,hL0];rw[hL0]at hpre;obtain⟨r1,r2⟩:=FD (l2:=(cX u r ft [id]).w r) h.pool hw.head h0 hw.nb hc hcx.1 (hpre.trans hcx.2);refine⟨fun k hk=>?_,fun k hk=>?_,fun k hk=>?_,fun k hk=>?_,fun k hk=>?_,fun k hk=>?_⟩
  ·show(aq (aq u.w r _) r _ k).map cP=_;rw[eA];split
   ·rename_i e;rw[e];exact r1
   ·rename_i e;rw[fB e,(hoth k hk e).1];exact ht.doc k hk
  ·show cA (aq (aq u.w r _) r _ k)=_;rw[eA];split
   ·rename_i e;rw[e];exact r2
   ·rename_i e;rw[fB e,(hoth k hk e).1];exact ht.lnk k hk
  ·show aq (aq u.h r _) r _ k=_;rw[eA];split
   ·rename_i e;show aq u.h r _ r=_;rw[e,fL];unfold ky;rw[if_neg g];exact hhd
   ·rename_i e;rw[fB e,(hoth k hk e).2];exact ht.head k hk
  ·show u.n k=_;rw[hnm.1];exact ht.n k hk
  ·show u.m k=_;rw[hnm.2.1];exact ht.m k hk
  ·show u.o k=_;rw[hnm.2.2];exact ht.o k hk
 ·have g:=Decidable.not_not.1 g;refine absurd ?_ (iC hE);unfold cI;rw[if_neg (by rw[b5.2 ⟨r,hr,rfl⟩];decide),if_neg];have:=wa hly.pool g;simp only[List.any_cons,List.any_nil,Bool.or_false,decide_eq_true_iff];exact fun e=>absurd (this.symm.trans e) (by decide)
theorem GB{L:List Ob}(hL:aj L){id:Int}{dir:List UInt8}(hc:(bT L id dir).2.1=0):kindOf (bT L id dir).2.2 (bT L id dir).1≠0:=by
 have:=((GC (dir:=dir) (id:=id) hL rfl).2.2.2.2 hc).2.1;exact fun e=>absurd (this.symm.trans e) (by decide)
theorem Cu{L:List Ob}{o:Nat→List Bool}{b:Nat→List Int}{r q id:Int}(h:dp L ⟨o,b⟩ r q id≠0):cq L o b r q id=o:=by
 unfold dp at h;unfold cq;split
 ·rfl
 split
 ·rfl
 rename_i k1 k2;rw[if_neg k1,if_neg k2]at h;exact if_pos h
theorem Ct{L:List Ob}{o:Nat→List Bool}{b:Nat→List Int}{r q id:Int}(h:dp L ⟨o,b⟩ r q id=0):kindOf L id≠0:=fun e=>by
 unfold dp at h;split at h
 ·cases h
 split at h
 ·cases h
 unfold cI at h;split at h
 ·cases h
 rw[if_pos (by simpa using e)]at h;cases h
theorem refused{s:FS}{n:Nat}(h:FI L0 s n)(x:bG):bJ s (gy s x) (dh s x):=by
 have nil:∀e,bJ s e s:=fun _ _=>.refl s;unfold gy dh;refine bo (P:=bJ s) (fun _=>nil _) (fun _=>bo (P:=bJ s) (fun _=>nil _) (fun hr=>?_));obtain⟨i,hi,e⟩:=(b5 (r:=x.r)).1 (by cases q:bh x.r;exact absurd q hr;rfl);have e:x.r.toNat=i:=by omega
 rw[e];have hw:=h.work i hi;refine bo (P:=bJ s) (fun _=>?_) (fun _=>bo (P:=bJ s) (fun _=>?_) (fun _=>bo (P:=bJ s) (fun _=>?_) (fun _=>bo (P:=bJ s) (fun _=>?_) (fun _=>bo (P:=bJ s) (fun _=>?_) (fun _=>bo (P:=bJ s) (fun _=>?_) (fun _=>bo (P:=bJ s) (fun _=>?_) (fun _=>bo (P:=bJ s) (fun _=>?_) (fun _=>bo (P:=bJ s) (fun _=>?_) (fun _=>bo (P:=bJ s) (fun _=>?_) (fun _=>bo (P:=bJ s) (fun _=>?_) (fun _ hE=>absurd rfl hE)))))))))))
 ·intro hE;have hc:=iC hE;refine .mX ?_ rfl;unfold gK at hc⊢;split
  ·rfl
  ·rename_i k;rw[if_neg k]at hc;exact bJ.put hc
 ·intro hE;have hc:=iC hE;refine .mX ?_ rfl;unfold gI at hc⊢;split
  ·rfl
  ·rename_i k;rw[if_neg k]at hc;exact absurd rfl hc
 ·unfold n4 mK;refine bo (P:=bJ s) (fun _=>nil _) (fun _ hE=>?_);have hc:=iC hE;refine .mX ?_ rfl;unfold fY at hc⊢;split
  ·rfl
  split
  ·rfl
  ·rename_i k1 k2;rw[if_neg k1,if_neg k2]at hc;exact bJ.put hc
 ·unfold l6 lh;refine bo (P:=bJ s) (fun _=>nil _) (fun k=>bo (P:=bJ s) (fun k _=>Bl s i k) (fun k2 hE=>?_));refine absurd (tj (h.cX hi _ _) hi (Decidable.not_not.1 k) ?_) (iC hE);have:=wa h.pool (Decidable.not_not.1 k2);show kindOf (bn s.L (s.w i) (s.h i) x.text []).2.2 _≠0;omega
 ·unfold lf kl;exact bo (P:=bJ s) (fun _=>nil _) (fun _ hE=>yF s i (iC hE))
 ·unfold oc lF;have ht:db s (cw s i):= .qv _ _;refine bo (P:=bJ s) (fun _=>nil _) (fun _=>bo (P:=bJ s) (fun _ _=>ht) (fun k2=>?_));unfold qf oa;refine bo (P:=bJ s) (fun _ hE=>ht.trans (yF _ i (iC hE))) (fun k3=>bo (P:=bJ s) (fun _ _=>ht) (fun _=>bo (P:=bJ s) (fun _ _=>ht) (fun _ hE=>?_)));exact ED h hi (Decidable.not_not.1 k2) (fun h=>k3 (.inl h)) hE
 ·unfold nA l4;exact bo (P:=bJ s) (fun _=>nil _) (fun _ hE=>.zE (iC hE))
 ·unfold nK l7;exact bo (P:=bJ s) (fun _=>nil _) (fun _ hE=>.zE (iC hE))
 ·unfold l9 lj;refine bo (P:=bJ s) (fun _=>nil _) (fun _=>bo (P:=bJ s) (fun _=>nil _) (fun k2=>bo (P:=bJ s) (fun k _=>?_) (fun k3 hE=>?_)))
  ·rw[show cq s.L s.o s.b (i:Nat) x.q (aD s x.q x.name).1=s.o from Cu k];exact .refl s
  ·exact absurd (tj (h.cG (sr h _ _ _)) hi (Decidable.not_not.1 k2) (Ct (Decidable.not_not.1 k3))) (iC hE)
 ·exact fun _=>⟨fun _ _=>rfl,fun _ _=>rfl,fun _ _=>rfl,fun _ _=>rfl,fun _ _=>rfl,fun _ _=>rfl⟩
 ·unfold qP oL;refine bo (P:=bJ s) (fun _=>nil _) (fun _=>bo (P:=bJ s) (fun _=>nil _) (fun k2=>bo (P:=bJ s) (fun _ _=>.qv _ _) (fun k3 hE=>?_)));have hsp:=qQ h.pool (s.h i) x.path;exact absurd (tj (h.aL hsp.1 hsp.2) hi (Decidable.not_not.1 k2) (GB h.pool (Decidable.not_not.1 k3))) (iC hE)
end Go.Nest
end
section
namespace Go.Nest
open Go Go.AM Go.Proofs
open Go.Proofs.YtpechfcbnoggfaaGreatDoor (tab tabOk)
set_option maxRecDepth 100000
def lD(fs:List Fi)(q:Nat):List Int:=(fs.filter fun f=>decide (f.au=(q:Int))).map (·.id)
def e8(s:FS)(r:Nat)(fs:List Fi)(q:Nat):List Int:=fZ s q++(((List.range r).flatMap fun j=>iH (s.w j) q)++lD fs q)
theorem FZ(s:FS)(q:Nat):e8 s 0 [] q=fZ s q:=by unfold e8 lD;simp
theorem zp(s:FS)(q:Nat):e8 s 4 [] q=gJ s q:=by
 unfold e8 lD gJ;rw[show List.range 4=[0,1,2,3]from rfl];simp
theorem F3(s:FS)(r q:Nat):e8 s r (cA (s.w r)) q=e8 s (r+1) [] q:=by
 unfold e8 lD;rw[List.range_succ,List.flatMap_append];simp[iH]
theorem F4(s:FS)(r q:Nat){fs:List Fi}{i:Nat}(h:i<fs.length):e8 s r (fs.take (i+1)) q=e8 s r (fs.take i) q++(if fs[i].au=(q:Int)then[fs[i].id]else[]):=by
 unfold e8 lD;rw[List.take_succ_eq_append_getElem h,List.filter_append,List.map_append,List.append_assoc,List.append_assoc];congr 3
 split
 ·rename_i e;simp[e]
 ·rename_i e;simp[e]
theorem BN{out:List Int}{x:Int}:(gR out x).length≤out.length+1:=by
 unfold gR;split
 ·omega
 ·simp
theorem wx:∀{l out:List Int},(l.foldl gR out).length≤out.length+l.length
 |[],out=>Nat.le_refl _
 |x::l,out=>by
  have h1:=wx (l:=l) (out:=gR out x);have h2:=BN (out:=out) (x:=x);rw[List.foldl_cons,List.length_cons];omega
theorem xw(m:List Mv):(jL m).length≤2*m.length:=by
 have h1:=wx (l:=(m.flatMap jh).mergeSort fun x y=>decide (x≤y)) (out:=[]);have h2:=sS (m:=m) (i:=m.length) (Nat.le_refl _);unfold ji at h2;rw[List.take_length]at h2;rw[List.length_mergeSort,List.length_nil]at h1;unfold jL gu;omega
theorem ya{fs:List Fi}{q:Nat}:(lD fs q).length≤fs.length:=by
 unfold lD;rw[List.length_map];exact List.length_filter_le _ _
theorem yb{l:List It}:(cA l).length≤l.length:=by
 unfold cA;rw[List.length_map];exact List.length_filter_le _ _
theorem FT{s:FS}(hw:cg s){q:Nat}(hq:q<4):(fZ s q).length≤1981:=by
 have h1:=xw (s.m q);have h2:=hw.moves q hq;unfold fZ;rw[List.length_append];split
 ·simp;omega
 ·simp;omega
theorem y7{s:FS}(hw:cg s)(q:Nat):∀r,r≤4→((List.range r).flatMap fun j=>iH (s.w j) q).length≤60*r
 |0,_=>by simp
 |r+1,h=>by
  have ih:=y7 hw q r (by omega);rw[List.range_succ,List.flatMap_append,List.length_append];have h1:(iH (s.w r) q).length≤60:=Nat.le_trans ya (Nat.le_trans yb (hw.items r (by omega)));simp only[List.flatMap_cons,List.flatMap_nil,List.append_nil];omega
theorem zq{s:FS}(hw:cg s){r q:Nat}(hr:r≤4)(hq:q<4){fs:List Fi}(hf:fs.length≤60):(e8 s r fs q).length≤2300:=by
 have h1:=FT hw hq;have h2:=y7 hw q r hr;have h3:=ya (fs:=fs) (q:=q);unfold e8;rw[List.length_append,List.length_append];omega
theorem zj{s:FS}(hw:cg s){q:Nat}(hq:q<4):(gJ s q).length≤2300:=by rw[←zp];exact zq hw (Nat.le_refl _) hq (by simp)
def lL(r a:Nat):List Rn:=(List.range 6).map fun i=>bif Nat.beq i (2+r)then .same a else .same i
set_option maxHeartbeats 4000000 in
theorem zm(s:FS)(hw:cg s)(hl:∀r,r<4→∀y∈s.w r,0≤y.au∧y.au<4):ae Tryz.prog 67 [.c (.bp (ed s))] [] (Rt (.st [.rw 0,.rw 1,.rw 2,.rw 3]) [.row 1 Int encI (gJ s 0),.row 1 Int encI (gJ s 1),.row 1 Int encI (gJ s 2),.row 1 Int encI (gJ s 3)]):=by
 have p1:=fun i (hi:i<4)=>C8 (s.n i) (s.m i) (by have:=hw.moves i hi;omega);have p2:=fun i=>mm s.L (s.w i) (s.h i);have p3:=fun i (hi:i<4)=>Eh s.L (s.w i) (s.h i) (hw.items i hi);have hil:=fun i=>xw (s.m i);have hr1:∀q,fZ s q=jL (s.m q)++(if 0≤s.h q then[s.h q]else[]):=fun _=>rfl;refine ao (n:=75) (n0:=0) tabOk Tryz.call67 Tryz.func67 ?_;intro hb;(conv=>whnf);refine lp (Nat×(Nat→List Int)) (fun p=>⟨[(0,.c (.bp (ed s))),(2,.c (.ptr 0 0)),(3,.c (.ptr 1 0)),(9,.c (.int .i64 p.1))],[.box [.nil,.nil,.nil,.nil],.box [.rw 2,.rw 3,.rw 4,.rw 5],.row 1 Int encI (p.2 0),.row 1 Int encI (p.2 1),.row 1 Int encI (p.2 2),.row 1 Int encI (p.2 3)]⟩) (fun p=>(p.1≤4∧∀q,q<4→p.2 q=if q<p.1 then fZ s q else[])∧True) (fun p=>4-p.1) (0,fun _=>[]) [] [.same 0,.same 1,.new,.new,.new,.new] ⟨⟨Nat.zero_le _,fun q _=>rfl⟩,trivial⟩ ?_ (fun⟨r,k⟩ hk=>?_)
 ·repeat' first|exact trivial|exact rfl|refine And.intro ?_ ?_
 obtain⟨⟨hr4,hk⟩,-⟩:=hk;dsimp only at hr4 hk;(conv=>whnf);refine dec (fun h4=>?_) (fun h4=>?_)
 ·have hr:r<4:=by have h4:(r:Int)<4:=h4;omega
  have hkr:k r=[]:=by rw[hk r hr,if_neg (Nat.lt_irrefl _)]
  have hst:∀q,q<4→aq k r (fZ s r) q=if q<r+1 then fZ s q else[]:=fun q hq=>by
   rw[eA];split
   ·rename_i e;rw[e,if_pos (Nat.lt_succ_self _)]
   ·rename_i e;rw[hk q hq];by_cases h:q<r
    ·rw[if_pos h,if_pos (by omega)]
    ·rw[if_neg h,if_neg (by omega)]
  have hk0:(k r).length=0:=by rw[hkr];rfl
  have q1:=p1 r hr;have q2:=p2 r;have hlr:=hil r;have hmr:=hw.moves r hr
  have hst1:0≤s.h r→∀q,q<4→aq k r ((k r++jL (s.m r))++[s.h r]) q=if q<r+1 then fZ s q else[]:=fun h5=>by
   rw[hkr,List.nil_append,←show fZ s r=jL (s.m r)++[s.h r]by rw[hr1,if_pos h5]];exact hst
  have hst2:¬0≤s.h r→∀q,q<4→aq k r (k r++jL (s.m r)) q=if q<r+1 then fZ s q else[]:=fun h5=>by
   rw[hkr,List.nil_append,←show fZ s r=jL (s.m r)by rw[hr1,if_neg h5,List.append_nil]];exact hst
  have hr1:r+1≤4:=hr;have hQ:Qn r:=trivial
  rcases four hr with rfl|rfl|rfl|rfl<;>(
   (conv=>whnf);refine⟨false,.grow,(.l [0,1,2,3,4,5,6,7,8,9,10,11,12,13,14]),by kernel_rfl,.inl ?_⟩;(conv=>whnf);refine⟨_,⟨rfl,hr⟩,?_⟩;(conv=>whnf);refine⟨_,⟨rfl,hr⟩,?_⟩;(conv=>whnf);refine cl [] [] (q1) ?_;(conv=>whnf);refine⟨_,_,rfl,rfl,(by simp only[List.length_append,List.length_cons,List.length_nil];omega),?_⟩;(conv=>whnf);refine⟨_,⟨rfl,hr⟩,?_⟩;(conv=>whnf);refine⟨_,⟨rfl,hr⟩,?_⟩;(conv=>whnf);refine cl [] [] (q2) ?_;(conv=>whnf);refine dec (fun h5=>?_) (fun h5=>?_)
   ·(conv=>whnf);refine⟨_,⟨rfl,hr⟩,?_⟩;(conv=>whnf);refine⟨[s.h _],rfl,?_⟩;(conv=>whnf);refine⟨_,_,rfl,rfl,(by simp only[List.length_append,List.length_cons,List.length_nil];omega),?_⟩;(conv=>whnf);refine⟨_,⟨rfl,hr⟩,?_⟩;repeat'((conv=>whnf);refine I6 ?_)
    refine nu hQ (_+1,_) [] (fun r=>lL r 9) ⟨⟨hr1,hst1 h5⟩,trivial⟩ (by simp only[];omega) ?_;repeat' first|exact trivial|exact rfl|refine And.intro ?_ ?_
   ·repeat'((conv=>whnf);refine I6 ?_)
    refine nu hQ (_+1,_) [] (fun r=>lL r 7) ⟨⟨hr1,hst2 h5⟩,trivial⟩ (by simp only[];omega) ?_;repeat' first|exact trivial|exact rfl|refine And.intro ?_ ?_)
 ·obtain rfl:r=4:=by have h4:¬(r:Int)<4:=h4;omega
  have hkf:∀q,q<4→k q=e8 s 0 [] q:=fun q hq=>by rw[hk q hq,if_pos hq,FZ]
  have hsr:∀r q,e8 s r [] q=e8 s r [] q:=fun _ _=>rfl;(conv=>whnf);refine lp (Nat×(Nat→List Int)) (fun p=>⟨[(0,.c (.bp (ed s))),(2,.c (.ptr 0 0)),(3,.c (.ptr 1 0)),(45,.c (.int .i64 p.1))],[.box [.nil,.nil,.nil,.nil],.box [.rw 2,.rw 3,.rw 4,.rw 5],.row 1 Int encI (p.2 0),.row 1 Int encI (p.2 1),.row 1 Int encI (p.2 2),.row 1 Int encI (p.2 3)]⟩) (fun p=>(p.1≤4∧∀q,q<4→p.2 q=e8 s p.1 [] q)∧True) (fun p=>4-p.1) (0,k) [] [.same 0,.same 1,.same 2,.same 3,.same 4,.same 5] ⟨⟨Nat.zero_le _,hkf⟩,trivial⟩ ?_ (fun⟨r,k⟩ hk=>?_)
  ·repeat' first|exact trivial|exact rfl|refine And.intro ?_ ?_
  obtain⟨⟨hr4,hk⟩,-⟩:=hk;dsimp only at hr4 hk;(conv=>whnf);refine dec (fun h4=>?_) (fun h4=>?_)
  ·have hr:r<4:=by have h4:(r:Int)<4:=h4;omega
   have hr1:r+1≤4:=hr;have hQ:Qn r:=trivial;have q3:=p3 r hr;have hfl:(cA (s.w r)).length≤60:=Nat.le_trans yb (hw.items r hr)
   have hfr:∀f∈cA (s.w r),0≤f.au∧f.au<4:=fun f hf=>by
    unfold cA at hf;obtain⟨y,hy,rfl⟩:=List.mem_map.1 hf;exact hl r hr y (List.mem_filter.1 hy).1
   have hnx:=F3 s r;have hsp:=fun q i (h:i<(cA (s.w r)).length)=>F4 s r q h;have hln:=fun q (hq:q<4) fs hf=>zq hw (Nat.le_of_lt hr) hq (fs:=fs) hf;generalize cA (s.w r)=fs at q3 hfl hfr hnx hsp;generalize e8 s=rt at hk hnx hsp hln
   rcases four hr with rfl|rfl|rfl|rfl<;>(
    (conv=>whnf);refine⟨_,⟨rfl,hr⟩,?_⟩;(conv=>whnf);refine cl [] [] (q3) ?_;(conv=>whnf);refine mL hQ (Nat×(Nat→List Int)) (fun r p=>⟨[(0,.c (.bp (ed s))),(2,.c (.ptr 0 0)),(3,.c (.ptr 1 0)),(45,.c (.int .i64 r)),(55,.c (.rw 6)),(56,.c (.int .i64 fs.length)),(57,.c (.int .i64 p.1))],[.box [.nil,.nil,.nil,.nil],.box [.rw 2,.rw 3,.rw 4,.rw 5],.row 1 Int encI (p.2 0),.row 1 Int encI (p.2 1),.row 1 Int encI (p.2 2),.row 1 Int encI (p.2 3),.row 4 Fi aw fs]⟩) (fun r p=>(p.1≤fs.length∧∀q,q<4→p.2 q=rt r (fs.take p.1) q)∧True) (fun p=>60-p.1) (0,k) [] [.same 0,.same 1,.same 2,.same 3,.same 4,.same 5,.same 6] ⟨⟨Nat.zero_le _,hk⟩,trivial⟩ ?_ (fun⟨i,k⟩ hi=>?_)
    ·repeat' first|exact trivial|exact rfl|refine And.intro ?_ ?_
    obtain⟨⟨hi,hki⟩,-⟩:=hi;dsimp only at hi hki;(conv=>whnf);refine dec (fun h5=>?_) (fun h5=>?_)
    ·have hlt:i<fs.length:=by have h5:(i:Int)<fs.length:=h5;omega
     obtain⟨ha,hb2⟩:=hfr _ (List.getElem_mem hlt);obtain⟨p,hp⟩:∃p:Nat,fs[i].au=p:=⟨fs[i].au.toNat,by omega⟩;have hp4:p<4:=by omega
     have hkl:(k p).length≤2300:=by rw[hki p hp4];exact hln p hp4 _ (by rw[List.length_take];omega)
     have hst:∀q,q<4→aq k p (k p++[fs[i].id]) q=rt _ (fs.take (i+1)) q:=fun q hq=>by
      rw[hsp q i hlt,hp,eA,←hki q hq];split
      ·rename_i e;rw[e,if_pos rfl]
      ·rename_i e;rw[if_neg (by omega),List.append_nil]
     have hgi:fs[i]? =some fs[i]:=List.getElem?_eq_getElem hlt;generalize fs[i]=f at hp hst hgi;have hP:Qn p:=trivial;(conv=>whnf);refine⟨i,⟨rfl,hlt⟩,?_⟩;(conv=>whnf);refine⟨f,hgi,?_⟩
     rcases four hp4 with rfl|rfl|rfl|rfl<;>(
      (conv=>whnf);refine⟨false,.prot [1,7],(.l [0,1,2,3,4,5,6,7,8,9,10,11]),by kernel_rfl,.inl ?_⟩;(conv=>whnf);refine⟨_,⟨hp,by decide⟩,?_⟩;(conv=>whnf);refine⟨[f.id],rfl,?_⟩;(conv=>whnf);refine⟨_,_,rfl,rfl,(by simp only[List.length_append,List.length_cons,List.length_nil];omega),?_⟩;(conv=>whnf);refine⟨_,⟨hp,by decide⟩,?_⟩;repeat'((conv=>whnf);refine I6 ?_)
      refine nu hP (i+1,_) [] (fun p=>lL p 9++[.same 6]) ⟨⟨hlt,hst⟩,trivial⟩ (by simp only[];omega) ?_;repeat' first|exact trivial|exact rfl|refine And.intro ?_ ?_)
    ·repeat'((conv=>whnf);refine I6 ?_)
     refine ag (_+1,k) [] [.same 0,.same 1,.same 2,.same 3,.same 4,.same 5] ⟨⟨hr1,fun q hq=>?_⟩,trivial⟩ (by simp only[];omega) ?_
     ·exact(hki q hq).trans (by rw[List.take_of_length_le (by omega)];exact hnx q)
     repeat' first|exact trivial|exact rfl|refine And.intro ?_ ?_)
  ·obtain rfl:r=4:=by have h4:¬(r:Int)<4:=h4;omega
   have e:=fun q=>zp s q;rw[←e 0,←e 1,←e 2,←e 3,←hk 0 (by decide),←hk 1 (by decide),←hk 2 (by decide),←hk 3 (by decide)];(conv=>whnf);exact rx [] [.same 2,.same 3,.same 4,.same 5]
def uy(l:List Int):List Int:=gu (l.mergeSort fun x y=>decide (x≤y))
def iO(s:FS)(q:Nat):List Int:=uy (gJ s q)
set_option maxHeartbeats 4000000 in
theorem zi(s:FS)(hw:cg s)(hl:∀r,r<4→∀y∈s.w r,0≤y.au∧y.au<4):ae Tryz.prog 29 [.c (.bp (ed s))] [] (Rt (.st [.rw 0,.rw 1,.rw 2,.rw 3]) [.row 1 Int encI (iO s 0),.row 1 Int encI (iO s 1),.row 1 Int encI (iO s 2),.row 1 Int encI (iO s 3)]):=by
 unfold iO;have p1:=zm s hw hl;have hlen:=fun q (hq:q<4)=>zj hw hq;generalize gJ s=k0 at p1 hlen⊢;refine ao (n:=22) (n0:=0) tabOk Tryz.call29 Tryz.func29 ?_;intro hb;(conv=>whnf);refine cl [] [] (p1) ?_;(conv=>whnf);refine lp (Nat×(Nat→List Int)) (fun p=>⟨[(0,.c (.bp (ed s))),(2,.c (.ptr 0 0)),(3,.c (.ptr 1 0)),(7,.c (.int .i64 p.1))],[.box [.nil,.nil,.nil,.nil],.box [.rw 2,.rw 3,.rw 4,.rw 5],.row 1 Int encI (p.2 0),.row 1 Int encI (p.2 1),.row 1 Int encI (p.2 2),.row 1 Int encI (p.2 3)]⟩) (fun p=>(p.1≤4∧∀q,q<4→p.2 q=if q<p.1 then uy (k0 q)else k0 q)∧True) (fun p=>4-p.1) (0,k0) [] [.same 0,.same 5,.same 1,.same 2,.same 3,.same 4] ⟨⟨Nat.zero_le _,fun q _=>rfl⟩,trivial⟩ ?_ (fun⟨r,k⟩ hk=>?_)
 ·repeat' first|exact trivial|exact rfl|refine And.intro ?_ ?_
 obtain⟨⟨hr4,hk⟩,-⟩:=hk;dsimp only at hr4 hk;(conv=>whnf);refine dec (fun h4=>?_) (fun h4=>?_)
 ·have hr:r<4:=by have h4:(r:Int)<4:=h4;omega
  have hkr:k r=k0 r:=by rw[hk r hr,if_neg (Nat.lt_irrefl _)]
  have hln:(k r).length≤1000000:=by have:=hlen r hr;rw[hkr];omega
  have q1:=zK (k r) hln;have q2:=we ((k r).mergeSort fun x y=>decide (x≤y)) (by rw[List.length_mergeSort];exact hln)
  have hst:∀q,q<4→aq k r (gu ((k r).mergeSort fun x y=>decide (x≤y))) q=if q<r+1 then uy (k0 q)else k0 q:=fun q hq=>by
   rw[eA];split
   ·rename_i e;rw[e,if_pos (Nat.lt_succ_self _),hkr];rfl
   ·rename_i e;rw[hk q hq];by_cases h:q<r
    ·rw[if_pos h,if_pos (by omega)]
    ·rw[if_neg h,if_neg (by omega)]
  have hr1:r+1≤4:=hr;generalize (k r).mergeSort (fun x y=>decide (x≤y))=z at q1 q2 hst;rcases four hr with rfl|rfl|rfl|rfl
  ·(conv=>whnf);refine⟨_,⟨rfl,hr⟩,?_⟩;(conv=>whnf);refine cl [] [2+0] (q1) ?_;(conv=>whnf);refine⟨_,⟨rfl,hr⟩,?_⟩;(conv=>whnf);refine cl [] [2+0] (q2) ?_;(conv=>whnf);refine⟨_,⟨rfl,hr⟩,?_⟩;repeat'((conv=>whnf);refine I6 ?_)
   refine ag (0+1,_) [] (lL 0 6) ⟨⟨hr1,hst⟩,trivial⟩ (by simp only[];omega) ?_;repeat' first|exact trivial|exact rfl|refine And.intro ?_ ?_
  ·(conv=>whnf);refine⟨_,⟨rfl,hr⟩,?_⟩;(conv=>whnf);refine cl [] [2+1] (q1) ?_;(conv=>whnf);refine⟨_,⟨rfl,hr⟩,?_⟩;(conv=>whnf);refine cl [] [2+1] (q2) ?_;(conv=>whnf);refine⟨_,⟨rfl,hr⟩,?_⟩;repeat'((conv=>whnf);refine I6 ?_)
   refine ag (1+1,_) [] (lL 1 6) ⟨⟨hr1,hst⟩,trivial⟩ (by simp only[];omega) ?_;repeat' first|exact trivial|exact rfl|refine And.intro ?_ ?_
  ·(conv=>whnf);refine⟨_,⟨rfl,hr⟩,?_⟩;(conv=>whnf);refine cl [] [2+2] (q1) ?_;(conv=>whnf);refine⟨_,⟨rfl,hr⟩,?_⟩;(conv=>whnf);refine cl [] [2+2] (q2) ?_;(conv=>whnf);refine⟨_,⟨rfl,hr⟩,?_⟩;repeat'((conv=>whnf);refine I6 ?_)
   refine ag (2+1,_) [] (lL 2 6) ⟨⟨hr1,hst⟩,trivial⟩ (by simp only[];omega) ?_;repeat' first|exact trivial|exact rfl|refine And.intro ?_ ?_
  ·(conv=>whnf);refine⟨_,⟨rfl,hr⟩,?_⟩;(conv=>whnf);refine cl [] [2+3] (q1) ?_;(conv=>whnf);refine⟨_,⟨rfl,hr⟩,?_⟩;(conv=>whnf);refine cl [] [2+3] (q2) ?_;(conv=>whnf);refine⟨_,⟨rfl,hr⟩,?_⟩;repeat'((conv=>whnf);refine I6 ?_)
   refine ag (3+1,_) [] (lL 3 6) ⟨⟨hr1,hst⟩,trivial⟩ (by simp only[];omega) ?_;repeat' first|exact trivial|exact rfl|refine And.intro ?_ ?_
 ·obtain rfl:r=4:=by have h4:¬(r:Int)<4:=h4;omega
  have e:=fun q (hq:q<4)=>(hk q hq).trans (if_pos hq);rw[←e 0 (by decide),←e 1 (by decide),←e 2 (by decide),←e 3 (by decide)];(conv=>whnf);exact rx [] [.same 2,.same 3,.same 4,.same 5]
set_option maxHeartbeats 4000000 in
theorem B8(s:FS)(hw:cg s)(hl:∀r,r<4→∀y∈s.w r,0≤y.au∧y.au<4){i:Nat}(hi:i<4)(q:Int)(p n t b:List UInt8):ae Tryz.prog 22 [.c (.ptr 0 0),.st (aF ⟨11,(i:Nat),q,p,n,t,b⟩)] (aH s) (Rt (.st (b8 ⟨0,0,[]⟩)) (aQ (qT s))):=by
 have p0:=eS i;rw[b5.2 ⟨i,hi,rfl⟩]at p0;have p1:=zm s hw hl;have p2:=E3 (s:=s) (GX s.L hw.pool s.o s.b (gJ s) hw.dX hw.own (fun r hr=>by have:=zj hw hr;omega)) Bd;have p2:ae Tryz.prog _ _ (aH s) (Rt (.tup []) (aQ (qT s))):=p2;generalize gJ s=k at p1 p2;generalize qT s=s1 at p2⊢;refine ao (n:=111) (n0:=32) tabOk Tryz.call22 Tryz.func22 ?_;intro hb;(conv=>whnf);refine cl [] [] (p0) ?_;(conv=>whnf);refine⟨false,.grow,(.l [0,1,2,3,4,5,6]),by kernel_rfl,.inl ?_⟩;(conv=>whnf);refine cl [] [] (p1) ?_;(conv=>whnf);refine aP (mF 0) (bD 27 (d21++[.box (aF ⟨11,(i:Nat),q,p,n,t,b⟩),.box [.int .i64 0,.int .i64 0,.nil],.row 1 Int encI (k 0),.row 1 Int encI (k 1),.row 1 Int encI (k 2),.row 1 Int encI (k 3)]) s1) p2 ?_;(conv=>whnf);exact aW (rF 27)
end Go.Nest
end
section
namespace Go.Nest
open Go Go.AM Go.Proofs
open Go.Proofs.YtpechfcbnoggfaaGreatDoor (tab tabOk)
variable {L0:List Ob}
set_option maxRecDepth 100000
def fE(s:FS)(x:bG)(e:ck)(t:FS):Prop:=ae Tryz.prog 22 [.c (.ptr 0 0),.st (aF x)] (aH s) (Rt (.st (b8 e)) (aQ t))
theorem EC{s:FS}{n:Nat}(h:FI L0 s n)(hn:n≤900){i:Nat}(hi:i<4)(x:bG)(hx:x.r=i)(base id:Int):ae Tryz.prog 130 [.c (.ptr 0 0),.st (aF x),.c (.int .i64 base),.c (.int .i64 id)] (aH s) (Rt (.st (b8 (jS s i base id))) (aQ (iJ s i base id))):=by
 have h1:=h.rH i base id
 have hp:∀l∈[(bc s.L base).1,(bc s.L (s.h i)).1,(bc s.L id).1],∀f∈l,f.path.length≤4000000:=fun l hl=>by
  rw[List.mem_cons,List.mem_cons,List.mem_singleton]at hl;rcases hl with e|e|e<;>(rw[e];exact Cy h.pool _)
 exact EB s (h.wf (by omega)) hi x hx base id h.pool.len hp h1.pool (AV hp) ((h1.cM hi _).wf (by omega)) (((h1.cM hi _).cX hi _ _).wf (by omega))
theorem nI{s:FS}{n:Nat}(h:FI L0 s n)(hn:n≤900)(x:bG)(hp:x.path.length≤4000000):fE s x (gy s x) (dh s x):=by
 have hw:=h.wf (by omega);unfold gy dh;refine bo (P:=fE s x) (fun hk=>B2 s x hk) (fun hk=>bo (P:=fE s x) (fun hr=>B5 s x hk hr) (fun hr=>?_));obtain⟨i,hi,e⟩:=(b5 (r:=x.r)).1 (by cases q:bh x.r;exact absurd q hr;rfl);obtain⟨k,r,q,p,nm,t,b⟩:=x;dsimp only at*;subst e;refine bo (P:=fE s _) (fun e=>?_) (fun _=>bo (P:=fE s _) (fun e=>?_) (fun _=>bo (P:=fE s _) (fun e=>?_) (fun _=>bo (P:=fE s _) (fun e=>?_) (fun _=>bo (P:=fE s _) (fun e=>?_) (fun _=>bo (P:=fE s _) (fun e=>?_) (fun _=>bo (P:=fE s _) (fun e=>?_) (fun _=>bo (P:=fE s _) (fun e=>?_) (fun _=>bo (P:=fE s _) (fun e=>?_) (fun _=>bo (P:=fE s _) (fun e=>?_) (fun _=>bo (P:=fE s _) (fun e=>?_) (fun _=>?_)))))))))))
 ·subst e;exact B9 s hw hi rfl q p nm t b hp
 ·subst e;exact B6 s hw hi rfl q p nm t b
 ·subst e;exact B3 s hi q p nm t b _ _ (Ed s hw hi ⟨3,i,q,p,nm,t,b⟩ rfl hp)
 ·subst e;exact BZ s hi q p nm t b _ _ (Bn s hw hi ⟨4,i,q,p,nm,t,b⟩ rfl ((h.cX hi _ _).wf (by omega)))
 ·subst e;exact BY s hi q p nm t b _ _ (Ba s hw hi ⟨5,i,q,p,nm,t,b⟩ rfl)
 ·subst e;exact B4 s hi q p nm t b _ _ (Ey s hw hi ⟨6,i,q,p,nm,t,b⟩ rfl (h.cw.wf (by omega)) (EC h.cw hn hi _ rfl _ _))
 ·subst e;exact BX s hi q p nm t b _ _ (AY s hw hi ⟨7,i,q,p,nm,t,b⟩ rfl)
 ·subst e;exact B0 s hi q p nm t b _ _ (Cb s hw hi ⟨8,i,q,p,nm,t,b⟩ rfl)
 ·subst e;exact B1 s hi q p nm t b _ _ (Cv s hw hi ⟨9,i,q,p,nm,t,b⟩ rfl ((h.cG (sr h _ _ _)).wf (by omega)))
 ·subst e;exact BW s hw hi q p nm t b
 ·subst e;exact B7 s hi q p nm t b _ _ (GA s hw hi ⟨12,i,q,p,nm,t,b⟩ rfl hp (((qQ h.pool (s.h i) p).1|>fun a=>h.aL a (qQ h.pool (s.h i) p).2).wf (by omega)))
 ·obtain rfl:k=11:=by omega
  exact B8 s hw (fun r hr=>(h.work r hr).lnk) hi q p nm t b
end Go.Nest
end
section
namespace Go.Nest
open Go Go.AM
set_option maxRecDepth 100000
theorem xX{b:Nat→List Int}{x:Int}:∀(n:Nat) {out:List Int} {i:Nat},x∈out→x∈kD b n out i
 |0,out,i,h=>h
 |n+1,out,i,h=>by
  unfold kD;split
  ·exact xX n (ry.2 (.inl h))
  ·exact h
theorem D9{b:Nat→List Int}{r:Int}:r∈cD b r:=xX 5 (by simp)
theorem Fa{o o':Nat→List Bool}(h:∀k,k<4→∀j:Nat,(o k)[j]? =some true→(o' k)[j]? =some true)(q z:Int)(hq:ew o q z=true):ew o' q z=true:=by
 have hr:bh q=true:=by unfold ew at hq;rw[Bool.and_eq_true]at hq;exact hq.1
 obtain⟨k,hk,rfl⟩:=b5.1 hr;rw[tS hk]at hq⊢;exact⟨hq.1,h k hk _ hq.2⟩
theorem C5{o o':Nat→List Bool}{b:Nat→List Int}(h:∀k,k<4→∀j:Nat,(o k)[j]? =some true→(o' k)[j]? =some true){r id:Int}(hh:di ⟨o,b⟩ r id=true):di ⟨o',b⟩ r id=true:=by
 unfold di at hh⊢;rw[Bool.and_eq_true,List.any_eq_true]at hh⊢;obtain⟨h1,q,h2,h3⟩:=hh;exact⟨h1,q,h2,Fa h q id h3⟩
theorem Hm{o:Nat→List Bool}{r:Nat}{x y:List Bool}(h:∀j:Nat,x[j]? =some true→y[j]? =some true):∀k,k<4→∀j:Nat,(aq o r x k)[j]? =some true→(aq o r y k)[j]? =some true:=fun k _ j=>by
 rw[eA,eA];split
 ·exact h j
 ·exact id
theorem yp{o:Nat→List Bool}{b:Nat→List Int}{r:Nat}(hr:r<4):∀{l:List Int} {x:List Bool},(∀id∈l,0≤id∧id.toNat<x.length)→
  (∀j:Nat,x[j]? =some true→(l.foldl (cF o b r) x)[j]? =some true)∧∀id∈l,di ⟨aq o r (l.foldl (cF o b r) x),b⟩ r id=true
 |[],x,_=>⟨fun _ h=>h,fun id h=>(by cases h)⟩
 |z::l,x,h=>by
  have hz:=h z (by simp);have hlen:(cF o b r x z).length=x.length:=lE (l:=[z]);obtain⟨i1,i2⟩:=yp hr (l:=l) (x:=cF o b r x z) (o:=o) (b:=b) (fun id hid=>by rw[hlen];exact h id (by simp[hid]))
  have hle:∀j:Nat,x[j]? =some true→(cF o b r x z)[j]? =some true:=fun j hj=>by
   unfold cF;split
   ·exact hj
   ·rw[List.getElem?_set];split
    ·rename_i e;rw[if_pos (by omega)]
    ·exact hj
  have hhas:di ⟨aq o r (cF o b r x z),b⟩ r z=true:=by
   unfold cF;split
   ·assumption
   ·unfold di;rw[Bool.and_eq_true,List.any_eq_true];refine⟨b5.2 ⟨r,hr,rfl⟩,r,D9,?_⟩;show ew (aq o r (x.set z.toNat true)) r z=true;rw[tS hr,fL,List.getElem?_set,if_pos rfl,if_pos hz.2];exact⟨hz.1,rfl⟩
  rw[List.foldl_cons];refine⟨fun j hj=>i1 j (hle j hj),fun id hid=>?_⟩;rcases List.mem_cons.1 hid with rfl|hid
  ·exact C5 (Hm i1) hhas
  ·exact i2 id hid
theorem AA{L:List Ob}{o:Nat→List Bool}{b:Nat→List Int}{r:Nat}(hr:r<4){ids:List Int}(hc:cI L r ids=0){k:Int}(hk:k∈ba L ids):di ⟨dn L o b r ids,b⟩ r k=true:=by
 unfold dn;rw[if_neg (fun h=>h hc)]
 exact (yp hr (l := ba L ids) (x := eN (o r) L.length) (fun id hid=>by
  have h1:=oC hid;have h2:=Fb (l:=o r) (n:=L.length);exact⟨h1.1,by omega⟩)).2 k hk
theorem Eo{L:List Ob}(hL:aj L){o:Nat→List Bool}{b:Nat→List Int}{q id:Int}(hk:kindOf L id≠0)(h:∀k∈ba L [id],di ⟨o,b⟩ q k=true):jQ L ⟨o,b⟩ q id=false:=by
 unfold jQ;rw[Bool.or_eq_false_iff,List.any_eq_false,decide_eq_false_iff_not,FA hL];exact⟨fun k hk=>by rw[h k hk];decide,hk⟩
def ee:List It:=[⟨[97],[120],false,0,0⟩]
def fo:List UInt8:=[111,110,101]
def gL:List Ob:=(bn [] ee (-1) fo []).2.2
theorem CQ:aj gL:=(pt (L:=[]) (l:=ee) (h:= -1) (text:=fo) (others:=[]) .nil).1
def sO:Nat→List Bool:=fun _=>[]
def fX:Nat→List Int:=fun _=>[]
noncomputable def go2:Nat→List Bool:=dn gL sO fX 0 [2]
noncomputable def xo:Nat→List Bool:=dn gL (dn gL go2 fX 1 [2]) fX 1 [2]
def mi:bG:=⟨1,0,0,[97],[],[],[120]⟩
def mj:bG:=⟨4,0,0,[],[109],fo,[]⟩
def ml:bG:=⟨9,1,0,[],[109],[],[]⟩
def gB:bG:=⟨5,1,0,[],[109],[],[]⟩
def eH:FS:=⟨[],sO,fX,fun _=>[],fun _=>[],aq (fun _=>[]) 0 ee,aq (fun _=> -1) 0 (-1)⟩
noncomputable def nT:FS:=⟨gL,sO,fX,fun _=>[],fun _=>[],aq (aq (fun _=>[]) 0 ee) 0 ee,aq (aq (fun _=> -1) 0 (-1)) 0 2⟩
noncomputable def dT:FS:=⟨gL,go2,fX,aq (fun _=>[]) 0 [⟨[109],2⟩],aq (fun _=>[]) 0 [⟨[109],-1,2⟩],aq (aq (fun _=>[]) 0 ee) 0 ee,aq (aq (fun _=> -1) 0 (-1)) 0 2⟩
theorem xg:gK [] [97] [120]=(0,ee):=by decide+kernel
theorem sK:gy iE mi=⟨0,0,[]⟩∧dh iE mi=eH:=by
 have e:gy iE mi=oU iE 0 [97] [120]∧dh iE mi=oV iE 0 [97] [120]:=⟨rfl,rfl⟩;rw[e.1,e.2];refine⟨?_,?_⟩
 ·show bV 0 (gK [] [97] [120]).1=_;rw[xg];rfl
 ·show iE.dG 0 [] (gK [] [97] [120]).2 (-1)=_;rw[xg];rfl
theorem pJ:(bn [] ee (-1) fo []).2.1=0∧(bn [] ee (-1) fo []).1=2∧ky [] ee (-1) fo []=2:=by decide+kernel
theorem pL:dj [] [109]=0:=by decide+kernel
theorem CS:cX eH 0 fo []=nT:=by
 show eH.dG 0 (bn [] ee (-1) fo []).2.2 ee (ky [] ee (-1) fo [])=_;rw[pJ.2.2];rfl
theorem pK:cI gL 0 [2]=0∧cI gL 1 [2]=0:=by decide+kernel
theorem xi:cW [] [109] (bt [] [109]) 2=0:=by decide+kernel
theorem mf:aL [] [109] (-1) 2=[⟨[109],2⟩]∧fc [] [] [109] (-1) 2=[⟨[109],-1,2⟩]∧bt [] [109]= -1:=by decide+kernel
theorem sM:gy eH mj=⟨0,2,[]⟩∧dh eH mj=dT:=by
 have e:gy eH mj=l6 eH 0 [109] fo∧dh eH mj=lh eH 0 [109] fo:=⟨rfl,rfl⟩;rw[e.1,e.2];unfold l6 lh;rw[if_neg (show¬dj (eH.n 0) [109]≠0 from fun h=>h pL),if_neg (show¬dj (eH.n 0) [109]≠0 from fun h=>h pL),if_neg (show¬(bn eH.L (eH.w 0) (eH.h 0) fo []).2.1≠0 from fun h=>h pJ.1),if_neg (show¬(bn eH.L (eH.w 0) (eH.h 0) fo []).2.1≠0 from fun h=>h pJ.1),CS];show bV (bn [] ee (-1) fo []).1 (eJ nT 0 [109] (bn [] ee (-1) fo []).1)=_∧ei nT 0 [109] (bn [] ee (-1) fo []).1=_;have hk:fa nT 0 [109] 2=0:=xi;rw[pJ.2.1];unfold eJ ei;rw[if_neg (by rw[hk];decide),if_neg (by rw[hk];decide)];refine⟨?_,?_⟩
 ·show bV 2 (cI gL 0 [2])=_;rw[pK.1];rfl
 ·show(nT.hU 0 (aL [] [109] (bt [] [109]) 2) (fc [] [] [109] (bt [] [109]) 2)).cG go2=_;rw[mf.2.2,mf.1,mf.2.1];rfl
theorem xj:jQ gL ⟨go2,fX⟩ 0 2=false:=Eo CQ (by decide+kernel) fun k hk=>AA (r:=0) (by decide) pK.1 hk
noncomputable def eT:FS:=(dT.hU 1 [⟨[109],2⟩] [⟨[109],-1,2⟩]).cG xo
theorem xh:bt [⟨[109],2⟩] [109]=2:=by decide+kernel
theorem sN:gy dT ml=⟨0,2,[]⟩∧dh dT ml=eT:=by
 have e:gy dT ml=l9 dT 1 0 [109]∧dh dT ml=lj dT 1 0 [109]:=⟨rfl,rfl⟩;rw[e.1,e.2]
 have hl:aD dT 0 [109]=(2,0):=by
  unfold aD;show(if bh 0=false then _ else if bt [⟨[109],2⟩] [109]<0 then _ else(bt [⟨[109],2⟩] [109],0))=_;rw[xh];rfl
 have hf:dp gL ⟨go2,fX⟩ 1 0 2=0:=by
  unfold dp;rw[if_neg (by decide),if_neg (by rw[xj];decide)];exact pK.2
 have hfo:cq gL go2 fX 1 0 2=dn gL go2 fX 1 [2]:=by
  unfold cq;rw[if_neg (by decide),if_neg (by rw[xj];decide)]
 unfold l9 lj;rw[hl];dsimp only;rw[if_neg (show¬(0:Int)≠0 by decide),if_neg (show¬(0:Int)≠0 by decide),if_neg (show¬dj (dT.n 1) [109]≠0 from fun h=>h pL),if_neg (show¬dj (dT.n 1) [109]≠0 from fun h=>h pL),if_neg (show¬dp dT.L dT.dep ((1:Nat):Int) 0 2≠0 from fun h=>h hf),if_neg (show¬dp dT.L dT.dep ((1:Nat):Int) 0 2≠0 from fun h=>h hf)];show bV 2 (eJ (dT.cG (cq gL go2 fX 1 0 2)) 1 [109] 2)=_∧ei (dT.cG (cq gL go2 fX 1 0 2)) 1 [109] 2=_;rw[hfo];generalize hx:dT.cG (dn gL go2 fX 1 [2])=u;have hk:fa u 1 [109] 2=0:=by rw[←hx];exact xi
 unfold eJ ei;rw[if_neg (by rw[hk];decide),if_neg (by rw[hk];decide)];subst hx;refine⟨?_,?_⟩
 ·show bV 2 (cI gL 1 [2])=_;rw[pK.2];rfl
 ·show((dT.cG (dn gL go2 fX 1 [2])).hU 1 (aL [] [109] (bt [] [109]) 2) (fc [] [] [109] (bt [] [109]) 2)).cG xo=_;rw[mf.2.2,mf.1,mf.2.1];rfl
theorem sJ:eF gL [] (-1) 2=0∧jH gL [] (-1) 2=ee∧jF gL [] (-1) 2=2:=by decide+kernel
theorem CT:gy eT gB=⟨0,2,[]⟩∧(dh eT gB).h 1=2∧(dh eT gB).w 1=ee∧(dh eT gB).n 1=[⟨[109],2⟩]:=by
 have e:gy eT gB=lf eT 1 [109]∧dh eT gB=kl eT 1 [109]:=⟨rfl,rfl⟩;rw[e.1,e.2]
 have hl:aD eT 1 [109]=(2,0):=by
  unfold aD;show(if bh 1=false then _ else if bt [⟨[109],2⟩] [109]<0 then _ else(bt [⟨[109],2⟩] [109],0))=_;rw[xh];rfl
 unfold lf kl;rw[show aD eT ((1:Nat):Int) [109]=(2,0)from hl];dsimp only;rw[if_neg (by decide),if_neg (by decide)];refine⟨?_,sJ.2.2,sJ.2.1,rfl⟩;show bV 2 (eF gL [] (-1) 2)=_;rw[sJ.1];rfl
end Go.Nest
end
section
namespace Go.Nest
open Go Go.AM Go.Proofs
open Go.Proofs.YtpechfcbnoggfaaGreatDoor (tab tabOk)
set_option maxRecDepth 100000
def jy(x:bG):Nat:=x.path.length+x.bytes.length+x.text.length+x.name.length
def fe(l:List bG):Nat:=(l.map jy).sum
theorem GV{l:List bG}{i:Nat}(h:i<l.length):fe (l.take (i+1))=fe (l.take i)+jy l[i]:=by
 unfold fe;rw[List.take_succ_eq_append_getElem h,List.map_append,List.sum_append];simp
theorem zP{n:Nat}:∀{l:List bG},(∀x∈l,jy x≤n)→fe l≤l.length*n
 |[],_=>by simp[fe]
 |x::l,h=>by
  have h1:=h x (by simp);have h2:=zP (l:=l) fun y hy=>h y (by simp[hy]);rw[show fe (x::l)=jy x+fe l by simp[fe],List.length_cons,Nat.add_mul];omega
theorem zR{x:bG}:∀{l:List bG},x∈l→jy x≤fe l
 |y::l,h=>by
  rw[show fe (y::l)=jy y+fe l by simp[fe]];rcases List.mem_cons.1 h with rfl|h
  ·omega
  ·have:=zR h;omega
def nS(l:List bG):Bool:=decide (80<l.length)||decide (8000<fe (l.take 200))
theorem C0{l:List bG}(h:nS l=false):l.length≤80∧∀x∈l,x.path.length≤4000000:=by
 unfold nS at h;rw[Bool.or_eq_false_iff,decide_eq_false_iff_not,decide_eq_false_iff_not]at h;refine⟨by omega,fun x hx=>?_⟩;rw[List.take_of_length_le (by omega)]at h;have:=zR hx;unfold jy at this;omega
def rm(l:List bG):Prop:=∀x∈l,x.path.length≤140737488351232∧x.bytes.length≤140737488351232∧x.text.length≤140737488351232∧x.name.length≤140737488351232
theorem GU{l:List bG}{i n m k:Nat}(h:∀x∈l,jy x≤n)(hi:i≤m)(hk:m*n=k):fe (l.take i)≤k:=by
 have h1:=zP (l:=l.take i) (n:=n) fun x hx=>h x (List.mem_of_mem_take hx);rw[List.length_take]at h1;have h2:min i l.length*n≤m*n:=Nat.mul_le_mul_right _ (by omega);omega
theorem GR{l:List bG}{i:Nat}(hl:rm l)(hi:i≤200):fe (l.take i)≤112589990680985600:=
 GU (n:=562949953404928) (m:=200) (fun x hx=>by obtain⟨a,b,c,d⟩:=hl x hx;unfold jy;omega) hi (by decide)
theorem C1(l:List bG)(hl:rm l):ae Tryz.prog 20 [.c (.bs 7 bG aF l)] [] (Rt (.c (.bool (nS l))) []):=by
 refine ao (n:=51) (n0:=0) tabOk Tryz.call20 Tryz.func20 ?_;intro hb;have hb:l.length≤9223372036854775807:=hb.1.1;(conv=>whnf);refine lp Nat (fun i=>⟨[(0,.c (.bs 7 bG aF l)),(3,.c (.int .i64 (fe (l.take i)))),(4,.c (.int .i64 i))],[]⟩) (fun i=>(i≤l.length∧i≤200)∧True) (fun i=>l.length-i) 0 [] [] ?_ ?_ (fun i hi=>?_)
 ·simp
 ·repeat' first|exact trivial|exact rfl|refine And.intro ?_ ?_
 have hsm:fe (l.take i)≤112589990680985600:=GR hl (by omega)
 have fin:¬(i<l.length∧i<200)→l.take 200=l.take i:=fun h=>by
  by_cases h1:i=200
  ·rw[h1]
  ·rw[List.take_of_length_le (by omega),List.take_of_length_le (by omega)]
 (conv=>whnf);refine dec (fun h4=>?_) (fun h4=>?_)
 ·(conv=>whnf);refine dec (fun h5=>?_) (fun h5=>?_)
  ·have hlt:i<l.length:=by omega
   have hst:=GV hlt;have hiy:l[i]? =some l[i]:=List.getElem?_eq_getElem hlt;obtain⟨b1,b2,b3,b4⟩:=hl _ (List.getElem_mem hlt);generalize l[i]=x at*;unfold jy at hst;(conv=>whnf);refine⟨false,.grow,(.l [0,1,2,3,4,5,6,7,8,9,10,11,12,13,14,15,16,17,18,19,20,21,22,23,24,25,26,27,28,29]),by kernel_rfl,.inl ?_⟩;(conv=>whnf);refine⟨i,x,rfl,hiy,?_⟩;(conv=>whnf);refine⟨i,x,rfl,hiy,?_⟩;(conv=>whnf);refine⟨i64 (by omega) (by omega),?_⟩;(conv=>whnf);refine⟨i,x,rfl,hiy,?_⟩;(conv=>whnf);refine⟨i64 (by omega) (by omega),?_⟩;(conv=>whnf);refine⟨i,x,rfl,hiy,?_⟩;repeat'((conv=>whnf);refine I6 ?_)
   refine ag (i+1) [] [] ⟨⟨hlt,by omega⟩,trivial⟩ (by simp only[];omega) ?_;rw[hst];repeat' first|exact trivial|exact rfl|refine And.intro ?_ ?_
  ·unfold nS;rw[fin (by omega)];(conv=>whnf);refine dec (fun h6=>?_) (fun h6=>?_)
   ·(conv=>whnf);exact aC (by rw[show decide (80<l.length)=true from decide_eq_true (by omega)];rfl)
   ·(conv=>whnf);exact aC (by rw[show decide (80<l.length)=false from decide_eq_false (by omega),Bool.false_or,decide_eq_decide];omega)
 ·unfold nS;rw[fin (by omega)];(conv=>whnf);refine dec (fun h6=>?_) (fun h6=>?_)
  ·(conv=>whnf);exact aC (by rw[show decide (80<l.length)=true from decide_eq_true (by omega)];rfl)
  ·(conv=>whnf);exact aC (by rw[show decide (80<l.length)=false from decide_eq_false (by omega),Bool.false_or,decide_eq_decide];omega)
end Go.Nest
end
section
namespace Go.Nest
open Go Go.AM Go.Proofs
open Go.Proofs.YtpechfcbnoggfaaGreatDoor (tab tabOk)
set_option maxRecDepth 100000
def rK(k:Nat):List Rn:=[.same 0,.same 1,.same 2,.same 3,.same 4,.same 5,.same 6,.same 7,.same 8,.same 9,.same 10,.same (k+11),.same (k+12),.same (k+13),.same (k+14),.same (k+15),.same (k+16),.same (k+17),.same (k+18),.same (k+19),.same (k+20),.same (k+21),.same (k+22),.same (k+23),.same (k+24),.same (k+25),.same (k+26),.same (k+27),.same (k+28),.same (k+29),.same (k+30),.same (k+31)]
set_option maxHeartbeats 4000000 in
theorem CN:ae Tryz.prog 19 [] [] (Rt (.c (.bool true)) []):=by
 have h1:=FI.step FI.nil mi;rw[sK.2]at h1;have h2:=FI.step h1 mj;rw[sM.2]at h2;have h3:=FI.step h2 ml;rw[sN.2]at h3;have h4:=FI.step h3 gB;have p1:=nI FI.nil (by decide) mi (by decide);have p2:=nI h1 (by decide) mj (by decide);have p3:=nI h2 (by decide) ml (by decide);have p4:=nI h3 (by decide) gB (by decide);rw[sK.1,sK.2]at p1;rw[sM.1,sM.2]at p2;rw[sN.1,sN.2]at p3;obtain⟨e4,f1,f2,f3⟩:=CT;rw[e4]at p4;have hw:=h4.wf (by decide);have q1:=sQ _ hw 1;have q2:=sf _ hw 1;have q3:=ui _ hw 1;have e1:pP (dh eT gB) 1=2:=f1
 have e2:pA (dh eT gB) 1=[⟨[97],[120]⟩]:=by
  show((dh eT gB).w 1).map cP=_;rw[f2];rfl
 have e3:qE (dh eT gB) 1=[⟨[109],2⟩]:=f3;rw[e1]at q1;rw[e2]at q2;rw[e3]at q3;generalize dh eT gB=s4 at p4 q1 q2 q3;generalize eT=s3 at p3 p4;generalize dT=s2 at p2 p3;generalize eH=s1 at p1 p2;refine kg (n:=64) (n0:=0) tabOk Tryz.call19 Tryz.func19 ?_;intro hb;refine XM.seq ?_;(conv=>whnf);refine XM.seq ?_;(conv=>whnf);refine aP [] (aH iE) w9 ?_;(conv=>whnf);refine XM.seq ?_;(conv=>whnf);refine XM.seq ?_;(conv=>whnf);refine⟨[120],rfl,?_⟩;(conv=>whnf);refine vQ [32] (mF 0) (bD 22 (d21++[.fro 1 UInt8 bA [120]]) s1) p1 ?_;(conv=>whnf);refine XM.seq ?_;(conv=>whnf);refine aP (mF 22) (bD 44 (d21++[.fro 1 UInt8 bA [120]]++d21++[.box [.int .i64 0,.int .i64 0,.ls 1 (List UInt8) encS []]]) s2) p2 ?_;(conv=>whnf);refine XM.seq ?_;(conv=>whnf);refine aP (mF 44) (bD 66 (d21++[.fro 1 UInt8 bA [120]]++d21++[.box [.int .i64 0,.int .i64 0,.ls 1 (List UInt8) encS []]]++d21++[.box [.int .i64 0,.int .i64 2,.ls 1 (List UInt8) encS []]]) s3) p3 ?_;(conv=>whnf);refine XM.seq ?_;(conv=>whnf);refine aP (mF 66) (bD 88 (d21++[.fro 1 UInt8 bA [120]]++d21++[.box [.int .i64 0,.int .i64 0,.ls 1 (List UInt8) encS []]]++d21++[.box [.int .i64 0,.int .i64 2,.ls 1 (List UInt8) encS []]]++d21++[.box [.int .i64 0,.int .i64 2,.ls 1 (List UInt8) encS []]]) s4) p4 ?_;(conv=>whnf);refine XM.le (t:=⟨[(1,.c (.ptr 0 0)),(2,.c (.ptr 32 0)),(3,.c (.ptr 33 0)),(4,.c (.ptr 34 0)),(5,.c (.ptr 35 0))],aH s4++[.box [.int .i64 0,.int .i64 0,.ls 1 (List UInt8) encS []],.box [.int .i64 0,.int .i64 2,.ls 1 (List UInt8) encS []],.box [.int .i64 0,.int .i64 2,.ls 1 (List UInt8) encS []],.box [.int .i64 0,.int .i64 2,.ls 1 (List UInt8) encS []]]⟩) [] (rK 88++[.same 54,.same 76,.same 98,.same 120]) eV ?_;refine XM.of ?_;(conv=>whnf);refine⟨false,.grow,(.l [0,1,2,3,4,5,6,7,8,9,10,11,12,13,14,15,16,17,18,19,20,21,22,23,25,26,24,27,28,29,30,31,32,33,34,35,36,37,38,39,40,41]),by kernel_rfl,.inl ?_⟩;(conv=>whnf);refine aP [] (aH s4++[.box [.int .i64 0,.int .i64 0,.ls 1 (List UInt8) encS []],.box [.int .i64 0,.int .i64 2,.ls 1 (List UInt8) encS []],.box [.int .i64 0,.int .i64 2,.ls 1 (List UInt8) encS []],.box [.int .i64 0,.int .i64 2,.ls 1 (List UInt8) encS []]]) q1 ?_;(conv=>whnf);refine aP [] (aH s4++[.box [.int .i64 0,.int .i64 0,.ls 1 (List UInt8) encS []],.box [.int .i64 0,.int .i64 2,.ls 1 (List UInt8) encS []],.box [.int .i64 0,.int .i64 2,.ls 1 (List UInt8) encS []],.box [.int .i64 0,.int .i64 2,.ls 1 (List UInt8) encS []],.row 2 Dc cQ [⟨[97],[120]⟩]]) q2 ?_;(conv=>whnf);refine aP [] (aH s4++[.box [.int .i64 0,.int .i64 0,.ls 1 (List UInt8) encS []],.box [.int .i64 0,.int .i64 2,.ls 1 (List UInt8) encS []],.box [.int .i64 0,.int .i64 2,.ls 1 (List UInt8) encS []],.box [.int .i64 0,.int .i64 2,.ls 1 (List UInt8) encS []],.row 2 Dc cQ [⟨[97],[120]⟩],.row 2 Rf bg [⟨[109],2⟩]]) q3 ?_;(conv=>whnf);exact aC rfl
end Go.Nest
end
