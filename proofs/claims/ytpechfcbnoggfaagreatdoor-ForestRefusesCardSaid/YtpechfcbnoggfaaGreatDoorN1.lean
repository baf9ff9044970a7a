/- part -/
import Derived.Test.YtpechfcbnoggfaaGreatDoorG9
import Derived.Lib.Bytealg
import Derived.Test.YtpechfcbnoggfaaGreatDoorAmH
set_option linter.unusedVariables false
set_option linter.unusedSimpArgs false
section
namespace Go.Nest
open Go Go.AM
theorem iZ:∀{a:List UInt8},Op.bytesLess a a=false
 |[]=>rfl
 |x::a=>by simp[Op.bytesLess,iZ (a:=a)]
theorem jC:∀{a b c:List UInt8},Op.bytesLess a b=true→Op.bytesLess b c=true→Op.bytesLess a c=true
 |_,_,[],_,h=>by cases‹List UInt8›<;>simp[Op.bytesLess]at h
 |_,[],_::_,h,_=>by simp[Op.bytesLess]at h
 |[],_::_,_::_,_,_=>rfl
 |x::a,y::b,z::c,h1,h2=>by
  simp only[Op.bytesLess,Bool.or_eq_true,Bool.and_eq_true,decide_eq_true_iff,beq_iff_eq]at h1 h2⊢;rcases h1 with h1|⟨rfl,h1⟩
  ·rcases h2 with h2|⟨rfl,h2⟩
   ·exact .inl (UInt8.lt_trans h1 h2)
   ·exact .inl h1
  ·rcases h2 with h2|⟨rfl,h2⟩
   ·exact .inl h2
   ·exact .inr ⟨rfl,jC h1 h2⟩
theorem rG:∀(a b:List UInt8),Op.bytesLess a b=true∨a=b∨Op.bytesLess b a=true
 |[],[]=>.inr (.inl rfl)
 |[],_::_=>.inl rfl
 |_::_,[]=>.inr (.inr rfl)
 |x::a,y::b=>by
  simp only[Op.bytesLess,Bool.or_eq_true,Bool.and_eq_true,decide_eq_true_iff,beq_iff_eq,List.cons.injEq];rcases Nat.lt_trichotomy x.toNat y.toNat with h|h|h
  ·exact .inl (.inl (UInt8.lt_iff_toNat_lt.2 h))
  ·have:x=y:=UInt8.toNat_inj.1 h;subst this;rcases rG a b with h|h|h
   ·exact .inl (.inr ⟨rfl,h⟩)
   ·exact .inr (.inl ⟨rfl,h⟩)
   ·exact .inr (.inr (.inr ⟨rfl,h⟩))
  ·exact .inr (.inr (.inl (UInt8.lt_iff_toNat_lt.2 h)))
theorem AT{a b:List UInt8}(h:Op.bytesLess a b=true):Op.bytesLess b a=false:=by
 cases h2:Op.bytesLess b a with
 |false=>rfl
 |true=>have:=jC h h2;rw[iZ]at this;cases this
def az:List UInt8→List (List UInt8)
 |[]=>[[]]
 |c::r=>if c=47 then[]::az r else match az r with
  |x::xs=>(c::x)::xs
  |[]=>[[c]]
theorem na:∀l:List UInt8,az l≠[]
 |[]=>by simp[az]
 |c::r=>by
  unfold az;split
  ·simp
  ·split<;>simp
theorem Gz(l:List UInt8):0<(az l).length:=List.length_pos_iff.2 (na l)
theorem uz:∀l:List UInt8,(az l).length=l.count 47+1
 |[]=>rfl
 |c::r=>by
  have h:=uz r;unfold az;rw[List.count_cons];split
  ·rename_i e;subst e;simp[h]
  ·rename_i e;have:(c==47)=false:=by simpa using e
   rw[this];split
   ·rename_i x xs hx;rw[hx]at h;simpa using h
   ·rename_i hx;exact absurd hx (na r)
theorem lM:∀{l:List UInt8},l.count 47=0→az l=[l]
 |[],_=>rfl
 |c::r,h=>by
  rw[List.count_cons]at h;have hr:=lM (l:=r) (by omega);unfold az;rw[if_neg (fun e=>by subst e;simp at h),hr]
theorem sW:∀{l:List UInt8},0<l.count 47→∃m:Nat,Lib.indexByte l 47=m∧m<l.length∧az l=l.take m::az (l.drop (m+1))∧(l.drop (m+1)).count 47+1=l.count 47
 |[],h=>by simp at h
 |c::r,h=>by
  by_cases e:c=47
  ·subst e;exact⟨0,by simp[Lib.indexByte],by simp,by simp[az],by simp⟩
  ·rw[List.count_cons]at h;have hc:(c==47)=false:=by simpa using e
   rw[hc]at h;obtain⟨m,h1,h2,h3,h4⟩:=sW (l:=r) (by simpa using h);refine⟨m+1,?_,by simp;omega,?_,?_⟩
   ·unfold Lib.indexByte;rw[hc,h1];have:((m:Int)== -1)=false:=by simp
    simp[this]
   ·conv=>lhs;unfold az
    rw[if_neg e,h3];simp
   ·rw[List.drop_succ_cons,h4,List.count_cons,hc];rfl
theorem sV:∀{l:List UInt8},l.count 47=0→Lib.indexByte l 47= -1
 |[],_=>rfl
 |c::r,h=>by
  rw[List.count_cons]at h;unfold Lib.indexByte;rw[sV (l:=r) (by omega)]
  have:(c==47)=false:=by
   cases hc:c==47 with
   |false=>rfl
   |true=>rw[hc]at h;simp at h
  rw[this];rfl
theorem qO:∀(a b:List UInt8),az (a++47::b)=az a++az b
 |[],b=>by simp[az]
 |c::a,b=>by
  have h:=qO a b;have e:∀r,az (c::r)=if c=47 then[]::az r else match az r with|x::xs=>(c::x)::xs|[]=>[[c]]:=fun _=>rfl
  rw[List.cons_append,e,e,h];split
  ·rfl
  ·cases ha:az a with
   |nil=>exact absurd ha (na a)
   |cons x xs=>rfl
def cH:List (List UInt8)→List UInt8
 |[]=>[]
 |[x]=>x
 |x::y::r=>x++47::cH (y::r)
theorem oT:∀l:List UInt8,cH (az l)=l
 |[]=>rfl
 |c::r=>by
  have h:=oT r;unfold az;split
  ·rename_i e;subst e;cases hr:az r with
   |nil=>exact absurd hr (na r)
   |cons x xs=>rw[hr]at h;simp[cH,h]
  ·cases hr:az r with
   |nil=>exact absurd hr (na r)
   |cons x xs=>
    rw[hr]at h;cases xs with
    |nil=>simp[cH]at h⊢;exact h
    |cons y ys=>simp[cH]at h⊢;exact h
theorem Gy{a b:List UInt8}(h:az a=az b):a=b:=by rw[←oT a,h,oT]
def cE:List (List UInt8)→List (List UInt8)→Bool
 |[],[]=>false
 |[],_::_=>true
 |_::_,[]=>false
 |x::r,y::q=>if x=y then cE r q else Op.bytesLess x y
def aK(a b:List UInt8):Bool:=cE (az a) (az b)
theorem x3:∀{x:List (List UInt8)},cE x x=false
 |[]=>rfl
 |x::r=>by simp[cE,x3 (x:=r)]
theorem x5:∀{a b c:List (List UInt8)},cE a b=true→cE b c=true→cE a c=true
 |[],[],_,h,_=>by simp[cE]at h
 |[],_::_,[],_,h=>by simp[cE]at h
 |[],_::_,_::_,_,_=>rfl
 |_::_,[],_,h,_=>by simp[cE]at h
 |_::_,_::_,[],_,h=>by simp[cE]at h
 |x::a,y::b,z::c,h1,h2=>by
  unfold cE at h1 h2⊢;split at h1
  ·rename_i e;subst e;split at h2
   ·rename_i e;subst e;rw[if_pos rfl];exact x5 h1 h2
   ·rename_i e;rw[if_neg e];exact h2
  ·rename_i e;split at h2
   ·rename_i e2;subst e2;rw[if_neg e];exact h1
   ·have:=jC h1 h2;rw[if_neg (fun e3=>by subst e3;rw[iZ]at this;cases this)];exact this
theorem x6:∀(a b:List (List UInt8)),cE a b=true∨a=b∨cE b a=true
 |[],[]=>.inr (.inl rfl)
 |[],_::_=>.inl rfl
 |_::_,[]=>.inr (.inr rfl)
 |x::a,y::b=>by
  by_cases e:x=y
  ·subst e;rcases x6 a b with h|h|h
   ·exact .inl (by simp[cE,h])
   ·exact .inr (.inl (by rw[h]))
   ·exact .inr (.inr (by simp[cE,h]))
  ·rcases rG x y with h|h|h
   ·exact .inl (by simp[cE,e,h])
   ·exact absurd h e
   ·exact .inr (.inr (by simp[cE,Ne.symm e,h]))
theorem x4:∀(a:List (List UInt8)) {b:List (List UInt8)},b≠[]→cE a (a++b)=true
 |[],b,h=>by cases b with|nil=>exact absurd rfl h|cons _ _=>rfl
 |x::a,b,h=>by simp[cE,x4 a h]
theorem mI{a:List UInt8}:aK a a=false:=x3
theorem kE{a b c:List UInt8}(h1:aK a b=true)(h2:aK b c=true):aK a c=true:=x5 h1 h2
theorem lB{a b:List UInt8}(h:aK a b=true):aK b a=false:=by
 cases h2:aK b a with
 |false=>rfl
 |true=>have:=kE h h2;rw[mI]at this;cases this
theorem jr(a b:List UInt8):aK a b=true∨a=b∨aK b a=true:=
 (x6 (az a) (az b)).imp id (Or.imp Gy id)
def under(p d:List UInt8):Option (List UInt8):=if(d++[47]).isPrefixOf p=true then some (p.drop (d.length+1))else none
theorem oQ{p d r:List UInt8}(h:under p d=some r):p=d++47::r:=by
 unfold under at h;split at h
 ·rename_i h1;cases h;rw[List.isPrefixOf_iff_prefix]at h1;obtain⟨t,rfl⟩:=h1;simp
 ·cases h
theorem uH{d r:List UInt8}:under (d++47::r) d=some r:=by
 unfold under;rw[if_pos (by rw[List.isPrefixOf_iff_prefix];exact⟨r,by simp⟩)];simp
theorem tt{p d r:List UInt8}(h:under p d=some r):aK d p=true:=by
 rw[oQ h];unfold aK;rw[qO];exact x4 _ (na r)
end Go.Nest
end
section
namespace Go.Nest
open Go Go.AM
def jf:Fi:=⟨[],0,0,0⟩
def eb(l:List Fi)(p:List UInt8):Fi×Bool:=match l.find? fun f=>decide (f.path=p)with
 |some f=>(f,true)
 |none=>(jf,false)
def gQ(l:List Fi)(p:List UInt8):Fi:=(eb l p).1
def iV{α:Type}(k:α→List UInt8)(l:List α):Prop:=l.Pairwise fun x y=>aK (k x) (k y)=true
theorem jt{a b:List UInt8}(h:aK a b=true):a≠b:=fun e=>by rw[e,mI]at h;cases h
theorem zg{α:Type}{k:α→List UInt8}:∀{l m:List α},iV k l→iV k m→(∀x,x∈l↔x∈m)→l=m
 |[],[],_,_,_=>rfl
 |[],y::m,_,_,h=>by have:=(h y).2 (by simp);cases this
 |x::l,[],_,_,h=>by have:=(h x).1 (by simp);cases this
 |x::l,y::m,hl,hm,h=>by
  obtain⟨h1,h2⟩:=List.pairwise_cons.1 hl;obtain⟨h3,h4⟩:=List.pairwise_cons.1 hm
  have e:x=y:=by
   rcases List.mem_cons.1 ((h x).1 (by simp))with e|hx
   ·exact e
   rcases List.mem_cons.1 ((h y).2 (by simp))with e|hy
   ·exact e.symm
   have:=lB (h1 y hy);rw[h3 x hx]at this;cases this
  subst e;congr 1
  refine zg h2 h4 fun z=>⟨fun hz=>?_,fun hz=>?_⟩
  ·rcases List.mem_cons.1 ((h z).1 (by simp[hz]))with rfl|h5
   ·exact absurd rfl (jt (h1 _ hz))
   ·exact h5
  ·rcases List.mem_cons.1 ((h z).2 (by simp[hz]))with rfl|h5
   ·exact absurd rfl (jt (h3 _ hz))
   ·exact h5
theorem fR{x:Fi}{l:List Fi}{p:List UInt8}:gQ (x::l) p=if x.path=p then x else gQ l p:=by
 unfold gQ eb;rw[List.find?_cons];by_cases h:x.path=p<;>simp[h]
theorem rE:∀{l:List Fi} {p:List UInt8},(∀f∈l,f.path≠p)→gQ l p=jf
 |[],_,_=>rfl
 |x::l,p,h=>by rw[fR,if_neg (h x (by simp)),rE fun f hf=>h f (by simp[hf])]
theorem vv:∀{l:List Fi} {p:List UInt8},(∃f∈l,f.path=p)→gQ l p∈l∧(gQ l p).path=p
 |[],_,⟨f,h,_⟩=>by cases h
 |x::l,p,⟨f,h,e⟩=>by
  rw[fR];split
  ·exact⟨by simp,by assumption⟩
  ·rcases List.mem_cons.1 h with rfl|h
   ·contradiction
   ·obtain⟨h1,h2⟩:=vv ⟨f,h,e⟩;exact⟨by simp[h1],h2⟩
theorem AI(l:List Fi)(p:List UInt8):(gQ l p=jf∧∀f∈l,f.path≠p)∨(gQ l p∈l∧(gQ l p).path=p):=by
 by_cases h:∃f∈l,f.path=p
 ·exact .inr (vv h)
 ·have h:∀f∈l,f.path≠p:=fun f hf e=>h ⟨f,hf,e⟩;exact .inl ⟨rE h,h⟩
structure ij(l:List Fi):Prop where
 ris:iV (·.path) l
 md:∀f∈l,f.mode≠0
theorem ij.tail{x:Fi}{l:List Fi}(h:ij (x::l)):ij l:=⟨(List.pairwise_cons.1 h.ris).2,fun f hf=>h.md f (by simp[hf])⟩
theorem ij.head{x:Fi}{l:List Fi}(h:ij (x::l)):∀f∈l,aK x.path f.path=true:=(List.pairwise_cons.1 h.ris).1
theorem ij.ne{l:List Fi}(h:ij l){f:Fi}(hf:f∈l):f≠jf:=fun e=>h.md f hf (by rw[e];rfl)
def Ky(a b:List Fi)(p:List UInt8):Prop:=(∃f∈a,f.path=p)∨∃f∈b,f.path=p
structure Told(a b:List Fi)(c:Ch):Prop where
 key:Ky a b c.path
 old:c.old=gQ a c.path
 new:c.new=gQ b c.path
 ne:c.old≠c.new
theorem Told.snd{b:Fi}{a bs:List Fi}{c:Ch}(hb:ij (b::bs))(ha:∀f∈a,aK b.path f.path=true):Told a (b::bs) c↔c=⟨b.path,jf,b⟩∨Told a bs c:=by
 have hab:gQ a b.path=jf:=rE fun f hf e=>jt (ha f hf) e.symm;constructor
 ·rintro⟨h1,h2,h3,h4⟩;by_cases e:b.path=c.path
  ·left;rw[fR,if_pos e]at h3;rw[←e,hab]at h2;obtain⟨p,o,n⟩:=c;simp only at e h2 h3;rw[e,h2,h3]
  ·right;rw[fR,if_neg e]at h3;refine⟨?_,h2,h3,h4⟩;rcases h1 with h|⟨f,hf,h⟩
   ·exact .inl h
   ·rcases List.mem_cons.1 hf with rfl|hf
    ·exact absurd h e
    ·exact .inr ⟨f,hf,h⟩
 ·rintro(rfl|⟨h1,h2,h3,h4⟩)
  ·exact⟨.inr ⟨b,by simp,rfl⟩,hab.symm,by simp[fR],fun e=>hb.ne (by simp) e.symm⟩
  ·have e:b.path≠c.path:=fun e=>by
    rcases h1 with⟨f,hf,h⟩|⟨f,hf,h⟩
    ·exact jt (ha f hf) (e.trans h.symm)
    ·exact jt (hb.head f hf) (e.trans h.symm)
   refine⟨?_,h2,by rw[fR,if_neg e];exact h3,h4⟩;rcases h1 with h|⟨f,hf,h⟩
   ·exact .inl h
   ·exact .inr ⟨f,by simp[hf],h⟩
theorem Told.both{a b:Fi}{ar bs:List Fi}{c:Ch}(ha:ij (a::ar))(hb:ij (b::bs))(e0:a.path=b.path):Told (a::ar) (b::bs) c↔(a≠b∧c=⟨a.path,a,b⟩)∨Told ar bs c:=by
 constructor
 ·rintro⟨h1,h2,h3,h4⟩;by_cases e:a.path=c.path
  ·left;rw[fR,if_pos e]at h2;rw[fR,if_pos (e0▸e)]at h3;obtain⟨p,o,n⟩:=c;simp only at e h2 h3 h4;subst h2;subst h3;subst e;exact⟨h4,rfl⟩
  ·right;rw[fR,if_neg e]at h2;rw[fR,if_neg (e0▸e)]at h3;refine⟨?_,h2,h3,h4⟩;rcases h1 with⟨f,hf,h⟩|⟨f,hf,h⟩
   ·rcases List.mem_cons.1 hf with rfl|hf
    ·exact absurd h e
    ·exact .inl ⟨f,hf,h⟩
   ·rcases List.mem_cons.1 hf with rfl|hf
    ·exact absurd (e0.trans h) e
    ·exact .inr ⟨f,hf,h⟩
 ·rintro(⟨hne,rfl⟩|⟨h1,h2,h3,h4⟩)
  ·exact⟨.inl ⟨a,by simp,rfl⟩,by simp[fR],by simp[fR,e0],hne⟩
  ·have e:a.path≠c.path:=fun e=>by
    rcases h1 with⟨f,hf,h⟩|⟨f,hf,h⟩
    ·exact jt (ha.head f hf) (e.trans h.symm)
    ·exact jt (hb.head f hf) (e0.symm.trans (e.trans h.symm))
   refine⟨?_,by rw[fR,if_neg e];exact h2,by rw[fR,if_neg (e0▸e)];exact h3,h4⟩;rcases h1 with⟨f,hf,h⟩|⟨f,hf,h⟩
   ·exact .inl ⟨f,by simp[hf],h⟩
   ·exact .inr ⟨f,by simp[hf],h⟩
def gC(f:Fi)(out:List Fi):List Fi:=out.takeWhile (fun g=> !aK f.path g.path)++f::out.dropWhile (fun g=> !aK f.path g.path)
def sY(l:List Fi):List Fi:=l.foldl (fun out f=>gC f out) []
def Wk(l:List Fi):Prop:=l.Pairwise fun x y=>aK y.path x.path=false
theorem xD(f:Fi)(out:List Fi):(gC f out).Perm (f::out):=by
 unfold gC;refine List.perm_middle.trans (.cons f ?_);rw[List.takeWhile_append_dropWhile]
theorem xE{f:Fi}:∀{out:List Fi},Wk out→Wk (gC f out)
 |[],_=>by simp[gC,Wk]
 |g::out,h=>by
  obtain⟨h1,h2⟩:=List.pairwise_cons.1 h;by_cases hg:aK f.path g.path=true
  ·have:gC f (g::out)=f::g::out:=by simp[gC,hg]
   rw[this];refine List.pairwise_cons.2 ⟨fun y hy=>?_,h⟩;rcases List.mem_cons.1 hy with rfl|hy
   ·exact lB hg
   ·have h3:=h1 y hy;rcases jr g.path y.path with h4|h4|h4
    ·exact lB (kE hg h4)
    ·rw[←h4];exact lB hg
    ·rw[h4]at h3;cases h3
  ·rw[Bool.not_eq_true]at hg;have:gC f (g::out)=g::gC f out:=by simp[gC,hg]
   rw[this];refine List.pairwise_cons.2 ⟨fun y hy=>?_,xE h2⟩;rcases List.mem_cons.1 ((xD f out).mem_iff.1 hy)with rfl|hy
   ·exact hg
   ·exact h1 y hy
theorem sZ:∀(l out:List Fi),Wk out→Wk (l.foldl (fun out f=>gC f out) out)∧(l.foldl (fun out f=>gC f out) out).Perm (l++out)
 |[],out,h=>⟨h,.refl _⟩
 |f::l,out,h=>by
  obtain⟨h1,h2⟩:=sZ l (gC f out) (xE h);refine⟨h1,h2.trans ?_⟩;exact((xD f out).append_left l).trans List.perm_middle
theorem Dk(l:List Fi):Wk (sY l):=(sZ l [] .nil).1
theorem xA(l:List Fi):(sY l).Perm l:=by have:=(sZ l [] .nil).2;rwa[List.append_nil]at this
def gw:Option (List UInt8)→List Fi→List (List UInt8)
 |_,[]=>[]
 |prev,f::r=>if prev=some f.path then gw (some f.path) r else f.path::gw (some f.path) r
theorem wz:∀{l:List Fi} {p:List UInt8},Wk l→(∀f∈l,aK f.path p=false)→iV id (gw (some p) l)∧∀q,q∈gw (some p) l↔q≠p∧∃f∈l,f.path=q
 |[],p,_,_=>⟨.nil,fun q=>⟨fun h=>(by cases h),fun⟨_,f,hf,_⟩=>by cases hf⟩⟩
 |f::r,p,h,hp=>by
  obtain⟨h1,h2⟩:=List.pairwise_cons.1 h;obtain⟨h3,h4⟩:=wz (p:=f.path) h2 h1;have hf:=hp f (by simp);unfold gw;split
  ·rename_i e;have e:p=f.path:=by simpa using e
   refine⟨h3,fun q=>?_⟩;rw[h4,e];refine and_congr_right fun hq=>⟨fun⟨g,hg,h7⟩=>⟨g,by simp[hg],h7⟩,fun⟨g,hg,h7⟩=>?_⟩;rcases List.mem_cons.1 hg with e7|hg
   ·rw[e7]at h7;exact absurd h7.symm hq
   ·exact⟨g,hg,h7⟩
  ·rename_i e;have e:p≠f.path:=by simpa using e
   have hpf:aK p f.path=true:=by
    rcases jr p f.path with h|h|h
    ·exact h
    ·exact absurd h e
    ·rw[h]at hf;cases hf
   have gt:∀g∈r,aK p g.path=true:=fun g hg=>by
    have:=h1 g hg;rcases jr f.path g.path with h|h|h
    ·exact kE hpf h
    ·rw[←h];exact hpf
    ·rw[h]at this;cases this
   refine⟨List.pairwise_cons.2 ⟨fun q hq=>?_,h3⟩,fun q=>?_⟩
   ·obtain⟨h5,g,hg,rfl⟩:=(h4 q).1 hq;have:=h1 g hg;rcases jr f.path g.path with h|h|h
    ·exact h
    ·exact absurd h.symm h5
    ·rw[h]at this;cases this
   ·rw[List.mem_cons,h4];constructor
    ·rintro(rfl|⟨h5,g,hg,rfl⟩)
     ·exact⟨Ne.symm e,f,by simp,rfl⟩
     ·exact⟨Ne.symm (jt (gt g hg)),g,by simp[hg],rfl⟩
    ·rintro⟨h5,g,hg,rfl⟩;rcases List.mem_cons.1 hg with rfl|hg
     ·exact .inl rfl
     ·by_cases e2:g.path=f.path
      ·exact .inl e2
      ·exact .inr ⟨e2,g,hg,rfl⟩
theorem wA{l:List Fi}(h:Wk l):iV id (gw none l)∧∀q,q∈gw none l↔∃f∈l,f.path=q:=by
 cases l with
 |nil=>exact⟨.nil,fun q=>⟨fun h=>(by cases h),fun⟨f,hf,_⟩=>by cases hf⟩⟩
 |cons f r=>
  obtain⟨h1,h2⟩:=List.pairwise_cons.1 h;obtain⟨h3,h4⟩:=wz (p:=f.path) h2 h1;have:gw none (f::r)=f.path::gw (some f.path) r:=by rw[gw,if_neg (by simp)]
  rw[this];refine⟨List.pairwise_cons.2 ⟨fun q hq=>?_,h3⟩,fun q=>?_⟩
  ·obtain⟨h5,g,hg,rfl⟩:=(h4 q).1 hq;have:=h1 g hg;rcases jr f.path g.path with h|h|h
   ·exact h
   ·exact absurd h.symm h5
   ·rw[h]at this;cases this
  ·rw[List.mem_cons,h4];constructor
   ·rintro(rfl|⟨h5,g,hg,rfl⟩)
    ·exact⟨f,by simp,rfl⟩
    ·exact⟨g,by simp[hg],rfl⟩
   ·rintro⟨g,hg,rfl⟩;rcases List.mem_cons.1 hg with rfl|hg
    ·exact .inl rfl
    ·by_cases e2:g.path=f.path
     ·exact .inl e2
     ·exact .inr ⟨e2,g,hg,rfl⟩
def eY(l:List (List Fi)):List (List UInt8):=gw none (sY l.flatten)
end Go.Nest
end
section
namespace Go.Nest
open Go Go.AM
def rD(p:List UInt8)(l:List Fi):List Fi:=l.filter fun f=>decide (f.path=p)
def ir(a b:List Fi):Prop:=∀p,rD p a=rD p b
theorem ir.refl(a:List Fi):ir a a:=fun _=>rfl
theorem ir.symm{a b:List Fi}(h:ir a b):ir b a:=fun p=>(h p).symm
theorem ir.trans{a b c:List Fi}(h:ir a b)(g:ir b c):ir a c:=fun p=>(h p).trans (g p)
theorem ir.mem{a b:List Fi}(h:ir a b){f:Fi}(hf:f∈a):f∈b:=by
 have:f∈rD f.path a:=List.mem_filter.2 ⟨hf,by simp⟩;rw[h]at this;exact(List.mem_filter.1 this).1
theorem le_trans'{x y z:List UInt8}(h1:aK y x=false)(h2:aK z y=false):aK z x=false:=by
 cases h:aK z x with
 |false=>rfl
 |true=>
  rcases jr y z with h3|h3|h3
  ·have:=kE h3 h;rw[h1]at this;cases this
  ·rw[←h3,h1]at h;cases h
  ·rw[h2]at h3;cases h3
end Go.Nest
end
section
namespace Go.Nest
open Go Go.AM
def lg(a b:List UInt8):Int:=if Op.bytesLess a b=true then-1 else if a=b then 0 else 1
theorem vW{a b:List UInt8}:lg a b<0↔Op.bytesLess a b=true:=by
 unfold lg;split
 ·rename_i h;simp[h]
 ·rename_i h;split<;>simp[h]
theorem Bh{a b:List UInt8}(h:Op.bytesLess a b=false):lg a b=0↔a=b:=by
 unfold lg;rw[if_neg (by simp[h])];split
 ·rename_i h2;simp[h2]
 ·rename_i h2;simp[h2]
def dC(l:List Rf):Prop:=l.Pairwise fun a b=>Op.bytesLess a.name b.name=true
def aY(l:List Rf)(n:List UInt8):Nat:=(l.takeWhile fun r=>Op.bytesLess r.name n).length
def cT(l:List Rf)(n:List UInt8):Bool:=decide ((l[aY l n]?).map (·.name)=some n)
def bt(l:List Rf)(n:List UInt8):Int:=match l[aY l n]? with|some r=>if r.name=n then r.id else-1|none=> -1
theorem ub{l:List Rf}{n:List UInt8}:aY l n≤l.length:=(List.takeWhile_sublist _).length_le
theorem ua{l:List Rf}{n:List UInt8}{k:Nat}(hk:k≤l.length)(h1:∀g∈l.take k,Op.bytesLess g.name n=true)(h2:∀h:k<l.length,Op.bytesLess l[k].name n=false):aY l n=k:=by
 unfold aY;rw[(uF (p:=fun r:Rf=>Op.bytesLess r.name n) hk h1 h2).1,List.length_take,Nat.min_eq_left hk]
theorem uc{n:List UInt8}:∀{l:List Rf},∀g∈l.take (aY l n),Op.bytesLess g.name n=true
 |[],g,h=>by simp at h
 |x::l,g,h=>by
  unfold aY at h;rw[List.takeWhile_cons]at h;split at h
  ·rename_i hx;rw[List.length_cons,List.take_succ_cons]at h;rcases List.mem_cons.1 h with rfl|h
   ·exact hx
   ·exact uc g h
  ·simp at h
theorem yR{n:List UInt8}:∀{l:List Rf} (h:aY l n<l.length),Op.bytesLess l[aY l n].name n=false
 |[],h=>by simp at h
 |x::l,h=>by
  by_cases hx:Op.bytesLess x.name n=true
  ·have e:aY (x::l) n=aY l n+1:=by unfold aY;rw[List.takeWhile_cons,if_pos hx];rfl
   have h':aY l n<l.length:=by rw[e]at h;simpa using h
   simp only[e,List.getElem_cons_succ];exact yR h'
  ·have e:aY (x::l) n=0:=by unfold aY;rw[List.takeWhile_cons,if_neg hx];rfl
   simp only[e,List.getElem_cons_zero];simpa using hx
theorem sP{l:List Rf}{n:List UInt8}(h:cT l n=true):∃hlt:aY l n<l.length,l[aY l n].name=n:=by
 unfold cT at h;rw[decide_eq_true_iff]at h;by_cases hlt:aY l n<l.length
 ·refine⟨hlt,?_⟩;rw[List.getElem?_eq_getElem hlt]at h;simpa using h
 ·rw[List.getElem?_eq_none (by omega)]at h;cases h
theorem xr{l:List Rf}{n:List UInt8}(h:cT l n=false)(hlt:aY l n<l.length):l[aY l n].name≠n:=fun e=>by
 unfold cT at h;rw[decide_eq_false_iff_not,List.getElem?_eq_getElem hlt]at h;exact h (by simp[e])
theorem mg{l:List Rf}{n:List UInt8}(h:cT l n=true):∃hlt:aY l n<l.length,l[aY l n].name=n∧bt l n=l[aY l n].id:=by
 obtain⟨hlt,e⟩:=sP h;refine⟨hlt,e,?_⟩;unfold bt;rw[List.getElem?_eq_getElem hlt];simp[e]
theorem ku{l:List Rf}{n:List UInt8}(h:cT l n=false):bt l n= -1:=by
 unfold bt;by_cases hlt:aY l n<l.length
 ·rw[List.getElem?_eq_getElem hlt];simp[xr h hlt]
 ·rw[List.getElem?_eq_none (by omega)]
theorem Fp{l:List Rf}(hs:dC l){i:Nat}(hi:i<l.length):aY l l[i].name=i:=by
 refine ua (by omega) (fun g hg=>?_) (fun _=>iZ);obtain⟨k,hk,e⟩:=List.mem_take_iff_getElem.1 hg;subst e;exact List.pairwise_iff_getElem.1 hs k i (by omega) hi (by omega)
theorem pO{l:List Rf}(hs:dC l){r:Rf}(h:r∈l):cT l r.name=true∧bt l r.name=r.id:=by
 obtain⟨i,hi,e⟩:=List.mem_iff_getElem.1 h;subst e;have hp:=Fp hs hi;constructor
 ·unfold cT;rw[hp,List.getElem?_eq_getElem hi];simp
 ·unfold bt;rw[hp,List.getElem?_eq_getElem hi];simp
theorem Eu{l:List Rf}{n:List UInt8}(h:0≤bt l n):⟨n,bt l n⟩∈l:=by
 cases hh:cT l n with
 |false=>rw[ku hh]at h;omega
 |true=>
  obtain⟨hlt,e1,e2⟩:=mg hh;have hm:=List.getElem_mem hlt;rw[e2];generalize l[aY l n]=r at e1 hm⊢;subst e1;exact hm
theorem zo:∀{a b:List Rf},dC a→dC b→(∀x,x∈a↔x∈b)→a=b
 |[],[],_,_,_=>rfl
 |[],y::b,_,_,h=>by have:=(h y).2 (by simp);cases this
 |x::a,[],_,_,h=>by have:=(h x).1 (by simp);cases this
 |x::a,y::b,ha,hb,h=>by
  obtain⟨h1,h2⟩:=List.pairwise_cons.1 ha;obtain⟨h3,h4⟩:=List.pairwise_cons.1 hb
  have e:x=y:=by
   rcases List.mem_cons.1 ((h x).1 (by simp))with e|hx
   ·exact e
   rcases List.mem_cons.1 ((h y).2 (by simp))with e|hy
   ·exact e.symm
   have q1:=h1 y hy;have q2:=h3 x hx;rw[AT q1]at q2;cases q2
  subst e;congr 1
  refine zo h2 h4 fun z=>⟨fun hz=>?_,fun hz=>?_⟩
  ·rcases List.mem_cons.1 ((h z).1 (by simp[hz]))with rfl|h5
   ·have:=h1 _ hz;rw[iZ]at this;cases this
   ·exact h5
  ·rcases List.mem_cons.1 ((h z).2 (by simp[hz]))with rfl|h5
   ·have:=h3 _ hz;rw[iZ]at this;cases this
   ·exact h5
def jk(l:List Rf)(x:Rf):List Rf:=l.take (aY l x.name)++x::l.drop (aY l x.name)
theorem s6{l:List Rf}{x:Rf}(hs:dC l)(hn:cT l x.name=false):dC (jk l x):=by
 unfold jk dC;rw[List.pairwise_append,List.pairwise_cons]
 have hi:∀y∈l.drop (aY l x.name),Op.bytesLess x.name y.name=true:=fun y hy=>by
  by_cases hlt:aY l x.name<l.length
  ·have h0:Op.bytesLess x.name l[aY l x.name].name=true:=by
    rcases rG l[aY l x.name].name x.name with h|h|h
    ·rw[yR hlt]at h;cases h
    ·exact absurd h (xr hn hlt)
    ·exact h
   rw[List.drop_eq_getElem_cons hlt]at hy;rcases List.mem_cons.1 hy with rfl|hy
   ·exact h0
   ·have:=(List.pairwise_cons.1 (by have:=List.Pairwise.drop (i:=aY l x.name) hs;rwa[List.drop_eq_getElem_cons hlt]at this)).1 y hy;exact jC h0 this
  ·rw[List.drop_of_length_le (by omega)]at hy;cases hy
 refine⟨List.Pairwise.take hs,⟨hi,List.Pairwise.drop hs⟩,fun a ha b hb=>?_⟩;have h1:=uc a ha;rcases List.mem_cons.1 hb with rfl|hb
 ·exact h1
 ·exact jC h1 (hi b hb)
theorem nV{l:List Rf}{x y:Rf}:y∈jk l x↔y=x∨y∈l:=by
 unfold jk;rw[List.mem_append,List.mem_cons];constructor
 ·rintro(h|h|h)
  ·exact .inr (List.mem_of_mem_take h)
  ·exact .inl h
  ·exact .inr (List.mem_of_mem_drop h)
 ·rintro(h|h)
  ·exact .inr (.inl h)
  ·rw[←List.take_append_drop (aY l x.name) l,List.mem_append]at h;exact h.imp id .inr
theorem DC{l:List Rf}{x:Rf}:(jk l x).length=l.length+1:=by
 unfold jk;have:=ub (l:=l) (n:=x.name);simp;omega
def getM(m:List Mv)(n:List UInt8):Int:=m.foldl (fun id x=>if x.name=n then x.new else id) (-1)
theorem xl{m:List Mv}{x:Mv}{n:List UInt8}:getM (m++[x]) n=if x.name=n then x.new else getM m n:=by
 unfold getM;rw[List.foldl_append];rfl
theorem CX{m:List Mv}{n:List UInt8}{i:Nat}(h:i<m.length):getM (m.take (i+1)) n=if m[i].name=n then m[i].new else getM (m.take i) n:=by
 rw[List.take_succ_eq_append_getElem h,xl]
theorem xk{m:List Mv}{n:List UInt8}:∀{k:Nat},k≤m.length→getM (m.take k) n≠-1→∃x∈m.take k,x.name=n∧x.new=getM (m.take k) n
 |0,_,h=>absurd rfl h
 |k+1,hk,h=>by
  have hlt:k<m.length:=hk;rw[CX hlt]at h⊢;rw[List.take_succ_eq_append_getElem hlt];split at h
  ·rename_i e;rw[if_pos e];exact⟨_,List.mem_append_right _ (List.mem_singleton.2 rfl),e,rfl⟩
  ·rename_i e;rw[if_neg e];obtain⟨y,h1,h2⟩:=xk (by omega) h;exact⟨y,List.mem_append_left _ h1,h2⟩
theorem CV{m:List Mv}{n:List UInt8}(h:getM m n≠-1):∃x∈m,x.name=n∧x.new=getM m n:=by
 have:=xk (m:=m) (n:=n) (k:=m.length) (Nat.le_refl _);rw[List.take_length]at this;exact this h
def tG(m:List Mv)(i:Nat)(n:List UInt8):Bool:=(m.take i).any fun x=>decide (x.name=n)
def tC(m:List Mv)(out:List Rf)(i:Nat):List Rf:=match m[i]? with
 |some x=>if(decide (getM m x.name<0)||tG m i x.name)=true then out else jk out ⟨x.name,getM m x.name⟩
 |none=>out
def ju(m:List Mv)(k:Nat):List Rf:=(List.range k).foldl (tC m) []
def yc(m:List Mv):List Rf:=ju m m.length
theorem Ei{m:List Mv}{k:Nat}:ju m (k+1)=tC m (ju m k) k:=by
 unfold ju;rw[List.range_succ,List.foldl_append];rfl
theorem yr{m:List Mv}{i:Nat}{n:List UInt8}:tG m i n=true↔∃x∈m.take i,x.name=n:=by
 unfold tG;rw[List.any_eq_true];simp
theorem ye{m:List Mv}:∀{k:Nat},k≤m.length→dC (ju m k)∧∀r,r∈ju m k↔0≤r.id∧r.id=getM m r.name∧∃x∈m.take k,x.name=r.name
 |0,_=>⟨.nil,fun r=>by simp[ju]⟩
 |k+1,hk=>by
  obtain⟨h1,h2⟩:=ye (m:=m) (k:=k) (by omega);have hlt:k<m.length:=hk;rw[Ei];unfold tC;rw[List.getElem?_eq_getElem hlt];dsimp only
  have tk:∀n,(∃x∈m.take (k+1),x.name=n)↔(∃x∈m.take k,x.name=n)∨m[k].name=n:=fun n=>by
   rw[List.take_succ_eq_append_getElem hlt];simp only[List.mem_append,List.mem_singleton];constructor
   ·rintro⟨x,h|rfl,e⟩
    ·exact .inl ⟨x,h,e⟩
    ·exact .inr e
   ·rintro(⟨x,h,e⟩|e)
    ·exact⟨x,.inl h,e⟩
    ·exact⟨_,.inr rfl,e⟩
  split
  ·rename_i hc;refine⟨h1,fun r=>?_⟩;rw[h2,tk];rw[Bool.or_eq_true,decide_eq_true_iff,yr]at hc;refine and_congr_right fun h3=>and_congr_right fun h4=>⟨.inl,?_⟩;rintro(h|e)
   ·exact h
   ·rcases hc with hc|hc
    ·rw[e]at hc;omega
    ·rwa[e]at hc
  ·rename_i hc;rw[Bool.not_eq_true,Bool.or_eq_false_iff,decide_eq_false_iff_not]at hc;have hnm:¬∃x∈m.take k,x.name=m[k].name:=fun h=>by rw[←yr,hc.2]at h;cases h
   have hno:cT (ju m k) m[k].name=false:=by
    cases hh:cT (ju m k) m[k].name with
    |false=>rfl
    |true=>
     obtain⟨hlt,e⟩:=sP hh;have:=((h2 _).1 (List.getElem_mem hlt)).2.2;rw[e]at this;exact absurd this hnm
   refine⟨s6 h1 hno,fun r=>?_⟩;rw[nV,h2,tk];constructor
   ·rintro(rfl|⟨h3,h4,h5⟩)
    ·exact⟨by show 0≤getM m m[k].name;omega,rfl,.inr rfl⟩
    ·exact⟨h3,h4,.inl h5⟩
   ·rintro⟨h3,h4,h5|h5⟩
    ·exact .inr ⟨h3,h4,h5⟩
    ·refine .inl ?_;cases r;simp_all
def j7(l:List Rf)(n:List UInt8)(id:Int):List Rf:=
 if cT l n=false then jk l ⟨n,id⟩else if id<0 then l.take (aY l n)++l.drop (aY l n+1)else l.set (aY l n) ⟨n,id⟩
def cW(l:List Rf)(n:List UInt8)(old id:Int):Int:=
 if bL n≠0 then bL n else if id< -1 then 1 else if old≠bt l n then 12 else if cT l n=false∧0≤id∧l.length=8 then 5 else if id=old then 17 else 0
def wN(m:List Mv)(n:List UInt8)(old id:Int):Int:=
 if bL n≠0 then bL n else if id< -1 then 1 else if getM m n≠old then 12 else if old<0∧0≤id∧8≤(yc m).length then 5 else if old=id then 17 else 0
inductive fG:List Rf→List Mv→Prop
 |nil:fG [] []
 |snoc {l:List Rf} {m:List Mv} {n:List UInt8} {old id:Int} (h:fG l m) (hc:cW l n old id=0):fG (j7 l n id) (m++[⟨n,old,id⟩])
theorem r8{l:List Rf}{n:List UInt8}{old id:Int}(h:cW l n old id=0):bL n=0∧-1≤id∧old=bt l n∧¬(cT l n=false∧0≤id∧l.length=8)∧id≠old:=by
 unfold cW at h;split at h
 ·rename_i h1;exact absurd h h1
 rename_i h1;split at h
 ·cases h
 rename_i h2;split at h
 ·cases h
 rename_i h3;split at h
 ·cases h
 rename_i h4;split at h
 ·cases h
 rename_i h5;exact⟨by omega,by omega,Decidable.not_not.1 h3,h4,h5⟩
structure il(l:List Rf)(m:List Mv):Prop where
 sort:dC l
 ids:∀r∈l,0≤r.id
 len:l.length≤8
 get:∀n,bt l n=getM m n
theorem get_of_mem{l:List Rf}(hs:dC l){n:List UInt8}{k:Int}(h:(⟨n,k⟩:Rf)∈l):bt l n=k:=(pO hs h).2
theorem get_none{l:List Rf}(hs:dC l){n:List UInt8}(h:∀r∈l,r.name≠n):bt l n= -1:=by
 cases hh:cT l n with
 |false=>exact ku hh
 |true=>obtain⟨hlt,e⟩:=sP hh;exact absurd e (h _ (List.getElem_mem hlt))
theorem CY{l k:List Rf}(hl:dC l)(hk:dC k){n:List UInt8}(h:∀r:Rf,r.name=n→(r∈l↔r∈k)):bt l n=bt k n:=by
 cases hh:cT l n with
 |false=>
  rw[ku hh,get_none hk fun r hr e=>?_];have:=(h r e).2 hr;have h2:=(pO hl this).1;rw[e,hh]at h2;cases h2
 |true=>
  obtain⟨hlt,e1,e2⟩:=mg hh;rw[e2];have:=(pO hk ((h _ e1).1 (List.getElem_mem hlt))).2;rw[e1]at this;exact this.symm
theorem Hl{l:List Rf}{m:List Mv}(h:il l m){n:List UInt8}{old id:Int}(hc:cW l n old id=0):il (j7 l n id) (m++[⟨n,old,id⟩]):=by
 obtain⟨c1,c2,c3,c4,c5⟩:=r8 hc
 have fin : ∀ {k : List Rf}, dC k → (∀ r ∈ k, 0 ≤ r.id) → k.length ≤ 8 → (∀ r : Rf, r.name ≠ n → (r ∈ l ↔ r ∈ k)) → bt k n = id → il k (m ++ [⟨n, old, id⟩]) := fun hs hi hl hm hg => ⟨hs,hi,hl,fun q=>by
  rw[xl];show bt _ q=if n=q then id else getM m q
  split
  ·rename_i e;rw[←e];exact hg
  ·rename_i e;rw[←h.get q];exact(CY h.sort hs (fun r hr=>hm r (fun e2=>e (e2.symm.trans hr)))).symm⟩
 unfold j7;split
 ·rename_i hh;have hid:0≤id:=by rw[ku hh]at c3;omega
  refine fin (s6 h.sort hh) (fun r hr=>?_) ?_ (fun r hr=>?_) ?_
  ·rcases nV.1 hr with rfl|hr
   ·exact hid
   ·exact h.ids r hr
  ·rw[DC];have:=h.len;have:¬l.length=8:=fun e=>c4 ⟨hh,hid,e⟩;omega
  ·rw[nV];exact⟨.inr,fun h2=>h2.resolve_left fun e=>hr (by rw[e])⟩
  ·exact get_of_mem (s6 h.sort hh) (nV.2 (.inl rfl))
 ·rename_i hh;rw[Bool.not_eq_false]at hh;obtain⟨hlt,e1,e2⟩:=mg hh;split
  ·rename_i hid
   have hs:dC (l.take (aY l n)++l.drop (aY l n+1)):=by
    refine List.Pairwise.sublist ?_ h.sort;conv=>rhs;rw[←List.take_append_drop (aY l n) l]
    exact List.Sublist.append (List.Sublist.refl _) (by rw[List.drop_eq_getElem_cons hlt];exact List.sublist_cons_self _ _)
   have hm:∀r:Rf,r∈l↔r∈l.take (aY l n)∨r=l[aY l n]∨r∈l.drop (aY l n+1):=fun r=>by
    conv=>lhs;rw[←List.take_append_drop (aY l n) l,List.drop_eq_getElem_cons hlt,List.mem_append,List.mem_cons]
   refine fin hs (fun r hr=>?_) ?_ (fun r hr=>?_) ?_
   ·refine h.ids r ((hm r).2 ?_);rcases List.mem_append.1 hr with hr|hr
    ·exact .inl hr
    ·exact .inr (.inr hr)
   ·have:=h.len;simp;omega
   ·rw[hm,List.mem_append];constructor
    ·rintro(h2|rfl|h2)
     ·exact .inl h2
     ·exact absurd e1 hr
     ·exact .inr h2
    ·rintro(h2|h2)
     ·exact .inl h2
     ·exact .inr (.inr h2)
   ·have hid2:id= -1:=by omega
    rw[hid2];refine get_none hs fun r hr e=>?_;have hi:=List.pairwise_iff_getElem.1 h.sort;rcases List.mem_append.1 hr with hr|hr
    ·have:=uc r hr;rw[e,iZ]at this;cases this
    ·obtain⟨k,hk,e3⟩:=List.mem_iff_getElem.1 hr;rw[List.getElem_drop]at e3;have:=hi (aY l n) (aY l n+1+k) hlt (by rw[List.length_drop]at hk;omega) (by omega);rw[e3,e1,e,iZ]at this;cases this
  ·rename_i hid
   have hs:dC (l.set (aY l n) ⟨n,id⟩):=by
    refine List.pairwise_iff_getElem.2 fun i j hi hj hij=>?_;have key:=List.pairwise_iff_getElem.1 h.sort i j (by simpa using hi) (by simpa using hj) hij;rw[List.getElem_set,List.getElem_set];split
    ·rename_i e3;subst e3;rw[if_neg (by omega)];rw[e1]at key;exact key
    ·split
     ·rename_i e3;subst e3;show Op.bytesLess _ n=true;rw[e1]at key;exact key
     ·exact key
   refine fin hs (fun r hr=>?_) (by rw[List.length_set];exact h.len) (fun r hr=>?_) (get_of_mem hs (List.mem_set hlt _))
   ·rcases List.mem_or_eq_of_mem_set hr with hr|rfl
    ·exact h.ids r hr
    ·show 0≤id;omega
   ·constructor
    ·intro h2;obtain⟨k,hk,e3⟩:=List.mem_iff_getElem.1 h2;refine List.mem_iff_getElem.2 ⟨k,by simpa using hk,?_⟩;rw[List.getElem_set,if_neg (fun e4=>hr (by subst e4;rw[←e3];exact e1))];exact e3
    ·intro h2;exact(List.mem_or_eq_of_mem_set h2).resolve_right fun e=>hr (by rw[e])
theorem fG.inv{l:List Rf}{m:List Mv}(h:fG l m):il l m:=by
 induction h with
 |nil=>exact⟨.nil,fun r h=>(by cases h),by decide,fun n=>rfl⟩
 |snoc _ hc ih=>exact Hl ih hc
theorem il.list{l:List Rf}{m:List Mv}(h:il l m):yc m=l:=by
 obtain⟨h1,h2⟩:=ye (m:=m) (k:=m.length) (Nat.le_refl _);refine zo h1 h.sort fun r=>?_;show r∈ju m m.length↔_;rw[h2,List.take_length];constructor
 ·rintro⟨h3,h4,_⟩;have:=Eu (l:=l) (n:=r.name) (by rw[h.get,←h4];exact h3);rwa[h.get,←h4]at this
 ·intro hr;have h3:=h.ids r hr;have h4:=(pO h.sort hr).2;rw[h.get]at h4;obtain⟨x,hx,e,_⟩:=CV (m:=m) (n:=r.name) (by rw[h4];omega);exact⟨h3,h4.symm,x,hx,e⟩
theorem il.has{l:List Rf}{m:List Mv}(h:il l m){n:List UInt8}:cT l n=false↔bt l n<0:=by
 constructor
 ·intro hh;rw[ku hh];decide
 ·intro hg;cases hh:cT l n with
  |false=>rfl
  |true=>
   obtain⟨hlt,e1,e2⟩:=mg hh;have:=h.ids _ (List.getElem_mem hlt);omega
theorem il.code{l:List Rf}{m:List Mv}(h:il l m){n:List UInt8}{old id:Int}:cW l n old id=wN m n old id:=by
 unfold cW wN;rw[h.list,←h.get n];split
 ·rfl
 split
 ·rfl
 by_cases h3:old=bt l n
 ·rw[if_neg (show¬(old≠bt l n)from fun h=>h h3),if_neg (show¬(bt l n≠old)from fun h=>h h3.symm)]
  have e:(cT l n=false∧0≤id∧l.length=8)↔(old<0∧0≤id∧8≤l.length):=by
   rw[h.has,←h3];have:=h.len;constructor
   ·rintro⟨a,b,c⟩;exact⟨a,b,by omega⟩
   ·rintro⟨a,b,c⟩;exact⟨a,b,by omega⟩
  by_cases h4:old<0∧0≤id∧8≤l.length
  ·rw[if_pos (e.2 h4),if_pos h4]
  ·rw[if_neg (fun h5=>h4 (e.1 h5)),if_neg h4];by_cases h5:id=old
   ·rw[if_pos h5,if_pos h5.symm]
   ·rw[if_neg h5,if_neg (fun e=>h5 e.symm)]
 ·rw[if_pos h3,if_pos (fun e=>h3 e.symm)]
end Go.Nest
end
