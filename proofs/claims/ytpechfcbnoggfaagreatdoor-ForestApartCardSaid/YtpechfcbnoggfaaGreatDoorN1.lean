/- part -/
import Derived.Test.YtpechfcbnoggfaaGreatDoorG10
import Derived.Lib.Bytealg
import Derived.Test.YtpechfcbnoggfaaGreatDoorAmH
set_option linter.unusedVariables false
set_option linter.unusedSimpArgs false
section
namespace Go.Nest
open Go Go.AM
theorem mR:∀{a:List UInt8},Op.bytesLess a a=false
 |[]=>rfl
 |x::a=>by simp[Op.bytesLess,mR (a:=a)]
theorem lU:∀{a b c:List UInt8},Op.bytesLess a b=true→Op.bytesLess b c=true→Op.bytesLess a c=true
 |_,_,[],_,h=>by cases‹List UInt8›<;>simp[Op.bytesLess]at h
 |_,[],_::_,h,_=>by simp[Op.bytesLess]at h
 |[],_::_,_::_,_,_=>rfl
 |x::a,y::b,z::c,e,d=>by
  simp only[Op.bytesLess,Bool.or_eq_true,Bool.and_eq_true,decide_eq_true_iff,beq_iff_eq]at e d⊢;rcases e with e|⟨rfl,e⟩
  ·rcases d with d|⟨rfl,d⟩
   ·exact .inl (UInt8.lt_trans e d)
   ·exact .inl e
  ·rcases d with d|⟨rfl,d⟩
   ·exact .inl d
   ·exact .inr ⟨rfl,lU e d⟩
theorem tH:∀(a b:List UInt8),Op.bytesLess a b=true∨a=b∨Op.bytesLess b a=true
 |[],[]=>.inr (.inl rfl)
 |[],_::_=>.inl rfl
 |_::_,[]=>.inr (.inr rfl)
 |x::a,y::b=>by
  simp only[Op.bytesLess,Bool.or_eq_true,Bool.and_eq_true,decide_eq_true_iff,beq_iff_eq,List.cons.injEq];rcases Nat.lt_trichotomy x.toNat y.toNat with h|h|h
  ·exact .inl (.inl (UInt8.lt_iff_toNat_lt.2 h))
  ·have:x=y:=UInt8.toNat_inj.1 h;subst this;rcases tH a b with h|h|h
   ·exact .inl (.inr ⟨rfl,h⟩)
   ·exact .inr (.inl ⟨rfl,h⟩)
   ·exact .inr (.inr (.inr ⟨rfl,h⟩))
  ·exact .inr (.inr (.inl (UInt8.lt_iff_toNat_lt.2 h)))
def aD:List UInt8→List (List UInt8)
 |[]=>[[]]
 |c::r=>if c=47 then[]::aD r else match aD r with
  |x::a=>(c::x)::a
  |[]=>[[c]]
theorem oS:∀l:List UInt8,aD l≠[]
 |[]=>by simp[aD]
 |c::r=>by
  unfold aD;split
  ·simp
  ·split<;>simp
theorem JM(l:List UInt8):0<(aD l).length:=List.length_pos_iff.2 (oS l)
theorem wF:∀l:List UInt8,(aD l).length=l.count 47+1
 |[]=>rfl
 |c::r=>by
  have h:=wF r;unfold aD;rw[List.count_cons];split
  ·rename_i e;subst e;simp[h]
  ·rename_i e;have:(c==47)=false:=by simpa using e
   rw[this];split
   ·rename_i x b a;rw[a]at h;simpa using h
   ·rename_i a;exact absurd a (oS r)
theorem nv:∀{l:List UInt8},l.count 47=0→aD l=[l]
 |[],_=>rfl
 |c::r,h=>by
  rw[List.count_cons]at h;have a:=nv (l:=r) (by omega);unfold aD;rw[if_neg (fun e=>by subst e;simp at h),a]
theorem u0:∀{l:List UInt8},0<l.count 47→∃m:Nat,Lib.indexByte l 47=m∧m<l.length∧aD l=l.take m::aD (l.drop (m+1))∧(l.drop (m+1)).count 47+1=l.count 47
 |[],h=>by simp at h
 |c::r,h=>by
  by_cases e:c=47
  ·subst e;exact⟨0,by simp[Lib.indexByte],by simp,by simp[aD],by simp⟩
  ·rw[List.count_cons]at h;have a:(c==47)=false:=by simpa using e
   rw[a]at h;obtain⟨m,b,g,d,f⟩:=u0 (l:=r) (by simpa using h);refine⟨m+1,?_,by simp;omega,?_,?_⟩
   ·unfold Lib.indexByte;rw[a,b];have:((m:Int)== -1)=false:=by simp
    simp[this]
   ·conv=>lhs;unfold aD
    rw[if_neg e,d];simp
   ·rw[List.drop_succ_cons,f,List.count_cons,a];rfl
theorem uZ:∀{l:List UInt8},l.count 47=0→Lib.indexByte l 47= -1
 |[],_=>rfl
 |c::r,h=>by
  rw[List.count_cons]at h;unfold Lib.indexByte;rw[uZ (l:=r) (by omega)]
  have:(c==47)=false:=by
   cases a:c==47 with
   |false=>rfl
   |true=>rw[a]at h;simp at h
  rw[this];rfl
theorem qo:∀(a b:List UInt8),aD (a++47::b)=aD a++aD b
 |[],b=>by simp[aD]
 |c::a,b=>by
  have h:=qo a b;have e:∀r,aD (c::r)=if c=47 then[]::aD r else match aD r with|x::d=>(c::x)::d|[]=>[[c]]:=fun _=>rfl
  rw[List.cons_append,e,e,h];split
  ·rfl
  ·cases f:aD a with
   |nil=>exact absurd f (oS a)
   |cons x d=>rfl
def ck:List (List UInt8)→List UInt8
 |[]=>[]
 |[x]=>x
 |x::y::r=>x++47::ck (y::r)
theorem qx:∀l:List UInt8,ck (aD l)=l
 |[]=>rfl
 |c::r=>by
  have h:=qx r;unfold aD;split
  ·rename_i e;subst e;cases a:aD r with
   |nil=>exact absurd a (oS r)
   |cons x b=>rw[a]at h;simp[ck,h]
  ·cases a:aD r with
   |nil=>exact absurd a (oS r)
   |cons x b=>
    rw[a]at h;cases b with
    |nil=>simp[ck]at h⊢;exact h
    |cons y d=>simp[ck]at h⊢;exact h
theorem JL{a b:List UInt8}(h:aD a=aD b):a=b:=by rw[←qx a,h,qx]
def di:List (List UInt8)→List (List UInt8)→Bool
 |[],[]=>false
 |[],_::_=>true
 |_::_,[]=>false
 |x::r,y::q=>if x=y then di r q else Op.bytesLess x y
def aR(a b:List UInt8):Bool:=di (aD a) (aD b)
theorem Am:∀{x:List (List UInt8)},di x x=false
 |[]=>rfl
 |x::r=>by simp[di,Am (x:=r)]
theorem Ao:∀{a b c:List (List UInt8)},di a b=true→di b c=true→di a c=true
 |[],[],_,h,_=>by simp[di]at h
 |[],_::_,[],_,h=>by simp[di]at h
 |[],_::_,_::_,_,_=>rfl
 |_::_,[],_,h,_=>by simp[di]at h
 |_::_,_::_,[],_,h=>by simp[di]at h
 |x::a,y::b,z::c,f,d=>by
  unfold di at f d⊢;split at f
  ·rename_i e;subst e;split at d
   ·rename_i e;subst e;rw[if_pos rfl];exact Ao f d
   ·rename_i e;rw[if_neg e];exact d
  ·rename_i e;split at d
   ·rename_i g;subst g;rw[if_neg e];exact f
   ·have:=lU f d;rw[if_neg (fun i=>by subst i;rw[mR]at this;cases this)];exact this
theorem Ap:∀(a b:List (List UInt8)),di a b=true∨a=b∨di b a=true
 |[],[]=>.inr (.inl rfl)
 |[],_::_=>.inl rfl
 |_::_,[]=>.inr (.inr rfl)
 |x::a,y::b=>by
  by_cases e:x=y
  ·subst e;rcases Ap a b with h|h|h
   ·exact .inl (by simp[di,h])
   ·exact .inr (.inl (by rw[h]))
   ·exact .inr (.inr (by simp[di,h]))
  ·rcases tH x y with h|h|h
   ·exact .inl (by simp[di,e,h])
   ·exact absurd h e
   ·exact .inr (.inr (by simp[di,Ne.symm e,h]))
theorem An:∀(a:List (List UInt8)) {b:List (List UInt8)},b≠[]→di a (a++b)=true
 |[],b,h=>by cases b with|nil=>exact absurd rfl h|cons _ _=>rfl
 |x::a,b,h=>by simp[di,An a h]
theorem oz{a:List UInt8}:aR a a=false:=Am
theorem mg{a b c:List UInt8}(h1:aR a b=true)(h2:aR b c=true):aR a c=true:=Ao h1 h2
theorem nk{a b:List UInt8}(h:aR a b=true):aR b a=false:=by
 cases c:aR b a with
 |false=>rfl
 |true=>have:=mg h c;rw[oz]at this;cases this
theorem kE(a b:List UInt8):aR a b=true∨a=b∨aR b a=true:=
 (Ap (aD a) (aD b)).imp id (Or.imp JL id)
def under(p d:List UInt8):Option (List UInt8):=if(d++[47]).isPrefixOf p=true then some (p.drop (d.length+1))else none
theorem jr{p d r:List UInt8}(h:under p d=some r):p=d++47::r:=by
 unfold under at h;split at h
 ·rename_i a;cases h;rw[List.isPrefixOf_iff_prefix]at a;obtain⟨t,rfl⟩:=a;simp
 ·cases h
theorem mJ{d r:List UInt8}:under (d++47::r) d=some r:=by
 unfold under;rw[if_pos (by rw[List.isPrefixOf_iff_prefix];exact⟨r,by simp⟩)];simp
theorem vy{p d r:List UInt8}(h:under p d=some r):aR d p=true:=by
 rw[jr h];unfold aR;rw[qo];exact An _ (oS r)
end Go.Nest
end
section
namespace Go.Nest
open Go Go.AM
def la:Fi:=⟨[],0,0,0⟩
def bW(l:List Fi)(p:List UInt8):Fi×Bool:=match l.find? fun f=>decide (f.path=p)with
 |some f=>(f,true)
 |none=>(la,false)
def jy(l:List Fi)(p:List UInt8):Fi:=(bW l p).1
def jv{α:Type}(k:α→List UInt8)(l:List α):Prop:=l.Pairwise fun x y=>aR (k x) (k y)=true
theorem pJ{a b:List UInt8}(h:aR a b=true):a≠b:=fun e=>by rw[e,oz]at h;cases h
theorem wv{α:Type}{k:α→List UInt8}:∀{l m:List α},jv k l→jv k m→(∀x,x∈l↔x∈m)→l=m
 |[],[],_,_,_=>rfl
 |[],y::m,_,_,h=>by have:=(h y).2 (by simp);cases this
 |x::l,[],_,_,h=>by have:=(h x).1 (by simp);cases this
 |x::l,y::m,g,i,h=>by
  obtain⟨b,d⟩:=List.pairwise_cons.1 g;obtain⟨c,f⟩:=List.pairwise_cons.1 i
  have e:x=y:=by
   rcases List.mem_cons.1 ((h x).1 (by simp))with e|hx
   ·exact e
   rcases List.mem_cons.1 ((h y).2 (by simp))with e|hy
   ·exact e.symm
   have:=nk (b y hy);rw[c x hx]at this;cases this
  subst e;congr 1
  refine wv d f fun z=>⟨fun a=>?_,fun a=>?_⟩
  ·rcases List.mem_cons.1 ((h z).1 (by simp[a]))with rfl|h5
   ·exact absurd rfl (pJ (b _ a))
   ·exact h5
  ·rcases List.mem_cons.1 ((h z).2 (by simp[a]))with rfl|h5
   ·exact absurd rfl (pJ (c _ a))
   ·exact h5
theorem xC{x:Fi}{l:List Fi}{p:List UInt8}:jy (x::l) p=if x.path=p then x else jy l p:=by
 unfold jy bW;rw[List.find?_cons];by_cases h:x.path=p<;>simp[h]
theorem xE:∀{l:List Fi} {p:List UInt8},(∀f∈l,f.path≠p)→jy l p=la
 |[],_,_=>rfl
 |x::l,p,h=>by rw[xC,if_neg (h x (by simp)),xE fun f a=>h f (by simp[a])]
theorem xD:∀{l:List Fi} {p:List UInt8},(∃f∈l,f.path=p)→jy l p∈l∧(jy l p).path=p
 |[],_,⟨f,h,_⟩=>by cases h
 |x::l,p,⟨f,h,e⟩=>by
  rw[xC];split
  ·exact⟨by simp,by assumption⟩
  ·rcases List.mem_cons.1 h with rfl|h
   ·contradiction
   ·obtain⟨a,b⟩:=xD ⟨f,h,e⟩;exact⟨by simp[a],b⟩
theorem C2(l:List Fi)(p:List UInt8):(jy l p=la∧∀f∈l,f.path≠p)∨(jy l p∈l∧(jy l p).path=p):=by
 by_cases h:∃f∈l,f.path=p
 ·exact .inr (xD h)
 ·have h:∀f∈l,f.path≠p:=fun f a e=>h ⟨f,a,e⟩;exact .inl ⟨xE h,h⟩
structure CD(l:List Fi):Prop where
 ris:jv (·.path) l
 md:∀f∈l,f.mode≠0
def Ky(a b:List Fi)(p:List UInt8):Prop:=(∃f∈a,f.path=p)∨∃f∈b,f.path=p
structure Told(a b:List Fi)(c:Ch):Prop where
 key:Ky a b c.path
 old:c.old=jy a c.path
 new:c.new=jy b c.path
 ne:c.old≠c.new
def iM(f:Fi)(out:List Fi):List Fi:=out.takeWhile (fun g=> !aR f.path g.path)++f::out.dropWhile (fun g=> !aR f.path g.path)
def u5(l:List Fi):List Fi:=l.foldl (fun out f=>iM f out) []
def Wk(l:List Fi):Prop:=l.Pairwise fun x y=>aR y.path x.path=false
theorem zO(f:Fi)(out:List Fi):(iM f out).Perm (f::out):=by
 unfold iM;refine List.perm_middle.trans (.cons f ?_);rw[List.takeWhile_append_dropWhile]
theorem zP{f:Fi}:∀{out:List Fi},Wk out→Wk (iM f out)
 |[],_=>by simp[iM,Wk]
 |g::out,h=>by
  obtain⟨b,d⟩:=List.pairwise_cons.1 h;by_cases a:aR f.path g.path=true
  ·have:iM f (g::out)=f::g::out:=by simp[iM,a]
   rw[this];refine List.pairwise_cons.2 ⟨fun y hy=>?_,h⟩;rcases List.mem_cons.1 hy with rfl|hy
   ·exact nk a
   ·have c:=b y hy;rcases kE g.path y.path with h4|h4|h4
    ·exact nk (mg a h4)
    ·rw[←h4];exact nk a
    ·rw[h4]at c;cases c
  ·rw[Bool.not_eq_true]at a;have:iM f (g::out)=g::iM f out:=by simp[iM,a]
   rw[this];refine List.pairwise_cons.2 ⟨fun y hy=>?_,zP d⟩;rcases List.mem_cons.1 ((zO f out).mem_iff.1 hy)with rfl|hy
   ·exact a
   ·exact b y hy
theorem u6:∀(l out:List Fi),Wk out→Wk (l.foldl (fun out f=>iM f out) out)∧(l.foldl (fun out f=>iM f out) out).Perm (l++out)
 |[],out,h=>⟨h,.refl _⟩
 |f::l,out,h=>by
  obtain⟨a,b⟩:=u6 l (iM f out) (zP h);refine⟨a,b.trans ?_⟩;exact((zO f out).append_left l).trans List.perm_middle
theorem zL(l:List Fi):Wk (u5 l):=(u6 l [] .nil).1
theorem rJ(l:List Fi):(u5 l).Perm l:=by have:=(u6 l [] .nil).2;rwa[List.append_nil]at this
def iI:Option (List UInt8)→List Fi→List (List UInt8)
 |_,[]=>[]
 |a,f::r=>if a=some f.path then iI (some f.path) r else f.path::iI (some f.path) r
theorem yD:∀{l:List Fi} {p:List UInt8},Wk l→(∀f∈l,aR f.path p=false)→jv id (iI (some p) l)∧∀q,q∈iI (some p) l↔q≠p∧∃f∈l,f.path=q
 |[],p,_,_=>⟨.nil,fun q=>⟨fun h=>(by cases h),fun⟨_,f,c,_⟩=>by cases c⟩⟩
 |f::r,p,h,u=>by
  obtain⟨d,t⟩:=List.pairwise_cons.1 h;obtain⟨n,i⟩:=yD (p:=f.path) t d;have c:=u f (by simp);unfold iI;split
  ·rename_i e;have e:p=f.path:=by simpa using e
   refine⟨n,fun q=>?_⟩;rw[i,e];refine and_congr_right fun k=>⟨fun⟨g,hg,a⟩=>⟨g,by simp[hg],a⟩,fun⟨g,hg,a⟩=>?_⟩;rcases List.mem_cons.1 hg with o|hg
   ·rw[o]at a;exact absurd a.symm k
   ·exact⟨g,hg,a⟩
  ·rename_i e;have e:p≠f.path:=by simpa using e
   have b:aR p f.path=true:=by
    rcases kE p f.path with h|h|h
    ·exact h
    ·exact absurd h e
    ·rw[h]at c;cases c
   have s:∀g∈r,aR p g.path=true:=fun g hg=>by
    have:=d g hg;rcases kE f.path g.path with h|h|h
    ·exact mg b h
    ·rw[←h];exact b
    ·rw[h]at this;cases this
   refine⟨List.pairwise_cons.2 ⟨fun q k=>?_,n⟩,fun q=>?_⟩
   ·obtain⟨j,g,hg,rfl⟩:=(i q).1 k;have:=d g hg;rcases kE f.path g.path with h|h|h
    ·exact h
    ·exact absurd h.symm j
    ·rw[h]at this;cases this
   ·rw[List.mem_cons,i];constructor
    ·rintro(rfl|⟨j,g,hg,rfl⟩)
     ·exact⟨Ne.symm e,f,by simp,rfl⟩
     ·exact⟨Ne.symm (pJ (s g hg)),g,by simp[hg],rfl⟩
    ·rintro⟨j,g,hg,rfl⟩;rcases List.mem_cons.1 hg with rfl|hg
     ·exact .inl rfl
     ·by_cases m:g.path=f.path
      ·exact .inl m
      ·exact .inr ⟨m,g,hg,rfl⟩
theorem um{l:List Fi}(h:Wk l):jv id (iI none l)∧∀q,q∈iI none l↔∃f∈l,f.path=q:=by
 cases l with
 |nil=>exact⟨.nil,fun q=>⟨fun h=>(by cases h),fun⟨f,j,_⟩=>by cases j⟩⟩
 |cons f r=>
  obtain⟨b,e⟩:=List.pairwise_cons.1 h;obtain⟨i,c⟩:=yD (p:=f.path) e b;have:iI none (f::r)=f.path::iI (some f.path) r:=by rw[iI,if_neg (by simp)]
  rw[this];refine⟨List.pairwise_cons.2 ⟨fun q k=>?_,i⟩,fun q=>?_⟩
  ·obtain⟨d,g,hg,rfl⟩:=(c q).1 k;have:=b g hg;rcases kE f.path g.path with h|h|h
   ·exact h
   ·exact absurd h.symm d
   ·rw[h]at this;cases this
  ·rw[List.mem_cons,c];constructor
   ·rintro(rfl|⟨d,g,hg,rfl⟩)
    ·exact⟨f,by simp,rfl⟩
    ·exact⟨g,by simp[hg],rfl⟩
   ·rintro⟨g,hg,rfl⟩;rcases List.mem_cons.1 hg with rfl|hg
    ·exact .inl rfl
    ·by_cases a:g.path=f.path
     ·exact .inl a
     ·exact .inr ⟨a,g,hg,rfl⟩
def cN(l:List (List Fi)):List (List UInt8):=iI none (u5 l.flatten)
end Go.Nest
end
section
namespace Go.Nest
open Go Go.AM
theorem le_trans'{x y z:List UInt8}(h1:aR y x=false)(h2:aR z y=false):aR z x=false:=by
 cases h:aR z x with
 |false=>rfl
 |true=>
  rcases kE y z with h3|h3|h3
  ·have:=mg h3 h;rw[h1]at this;cases this
  ·rw[←h3,h1]at h;cases h
  ·rw[h2]at h3;cases h3
end Go.Nest
end
section
namespace Go.Nest
open Go Go.AM
def mV(a b:List UInt8):Int:=if Op.bytesLess a b=true then-1 else if a=b then 0 else 1
theorem yg{a b:List UInt8}:mV a b<0↔Op.bytesLess a b=true:=by
 unfold mV;split
 ·rename_i h;simp[h]
 ·rename_i h;split<;>simp[h]
theorem DQ{a b:List UInt8}(h:Op.bytesLess a b=false):mV a b=0↔a=b:=by
 unfold mV;rw[if_neg (by simp[h])];split
 ·rename_i c;simp[c]
 ·rename_i c;simp[c]
def fh(l:List Rf):Prop:=l.Pairwise fun a b=>Op.bytesLess a.name b.name=true
def aY(l:List Rf)(n:List UInt8):Nat:=(l.takeWhile fun r=>Op.bytesLess r.name n).length
def dz(l:List Rf)(n:List UInt8):Bool:=decide ((l[aY l n]?).map (·.name)=some n)
def a6(l:List Rf)(n:List UInt8):Int:=match l[aY l n]? with|some r=>if r.name=n then r.id else-1|none=> -1
theorem vZ{l:List Rf}{n:List UInt8}:aY l n≤l.length:=(List.takeWhile_sublist _).length_le
theorem vY{l:List Rf}{n:List UInt8}{k:Nat}(hk:k≤l.length)(h1:∀g∈l.take k,Op.bytesLess g.name n=true)(h2:∀h:k<l.length,Op.bytesLess l[k].name n=false):aY l n=k:=by
 unfold aY;rw[(wP (p:=fun r:Rf=>Op.bytesLess r.name n) hk h1 h2).1,List.length_take,Nat.min_eq_left hk]
theorem v8{n:List UInt8}:∀{l:List Rf},∀g∈l.take (aY l n),Op.bytesLess g.name n=true
 |[],g,h=>by simp at h
 |x::l,g,h=>by
  unfold aY at h;rw[List.takeWhile_cons]at h;split at h
  ·rename_i a;rw[List.length_cons,List.take_succ_cons]at h;rcases List.mem_cons.1 h with rfl|h
   ·exact a
   ·exact v8 g h
  ·simp at h
theorem Bc{n:List UInt8}:∀{l:List Rf} (h:aY l n<l.length),Op.bytesLess l[aY l n].name n=false
 |[],h=>by simp at h
 |x::l,h=>by
  by_cases a:Op.bytesLess x.name n=true
  ·have e:aY (x::l) n=aY l n+1:=by unfold aY;rw[List.takeWhile_cons,if_pos a];rfl
   have b:aY l n<l.length:=by rw[e]at h;simpa using h
   simp only[e,List.getElem_cons_succ];exact Bc b
  ·have e:aY (x::l) n=0:=by unfold aY;rw[List.takeWhile_cons,if_neg a];rfl
   simp only[e,List.getElem_cons_zero];simpa using a
theorem zB{l:List Rf}{n:List UInt8}(h:dz l n=true):∃a:aY l n<l.length,l[aY l n].name=n:=by
 unfold dz at h;rw[decide_eq_true_iff]at h;by_cases a:aY l n<l.length
 ·refine⟨a,?_⟩;rw[List.getElem?_eq_getElem a]at h;simpa using h
 ·rw[List.getElem?_eq_none (by omega)]at h;cases h
theorem zC{l:List Rf}{n:List UInt8}(h:dz l n=false)(a:aY l n<l.length):l[aY l n].name≠n:=fun e=>by
 unfold dz at h;rw[decide_eq_false_iff_not,List.getElem?_eq_getElem a]at h;exact h (by simp[e])
theorem py{l:List Rf}{n:List UInt8}(h:dz l n=true):∃a:aY l n<l.length,l[aY l n].name=n∧a6 l n=l[aY l n].id:=by
 obtain⟨a,e⟩:=zB h;refine⟨a,e,?_⟩;unfold a6;rw[List.getElem?_eq_getElem a];simp[e]
theorem lh{l:List Rf}{n:List UInt8}(h:dz l n=false):a6 l n= -1:=by
 unfold a6;by_cases a:aY l n<l.length
 ·rw[List.getElem?_eq_getElem a];simp[zC h a]
 ·rw[List.getElem?_eq_none (by omega)]
theorem ID{l:List Rf}(b:fh l){i:Nat}(hi:i<l.length):aY l l[i].name=i:=by
 refine vY (by omega) (fun g a=>?_) (fun _=>mR);obtain⟨k,c,e⟩:=List.mem_take_iff_getElem.1 a;subst e;exact List.pairwise_iff_getElem.1 b k i (by omega) hi (by omega)
theorem rD{l:List Rf}(c:fh l){r:Rf}(h:r∈l):dz l r.name=true∧a6 l r.name=r.id:=by
 obtain⟨i,a,e⟩:=List.mem_iff_getElem.1 h;subst e;have b:=ID c a;constructor
 ·unfold dz;rw[b,List.getElem?_eq_getElem a];simp
 ·unfold a6;rw[b,List.getElem?_eq_getElem a];simp
def kz(l:List Rf)(x:Rf):List Rf:=l.take (aY l x.name)++x::l.drop (aY l x.name)
theorem zQ{l:List Rf}{x:Rf}(d:fh l)(hn:dz l x.name=false):fh (kz l x):=by
 unfold kz fh;rw[List.pairwise_append,List.pairwise_cons]
 have g:∀y∈l.drop (aY l x.name),Op.bytesLess x.name y.name=true:=fun y hy=>by
  by_cases c:aY l x.name<l.length
  ·have e:Op.bytesLess x.name l[aY l x.name].name=true:=by
    rcases tH l[aY l x.name].name x.name with h|h|h
    ·rw[Bc c]at h;cases h
    ·exact absurd h (zC hn c)
    ·exact h
   rw[List.drop_eq_getElem_cons c]at hy;rcases List.mem_cons.1 hy with rfl|hy
   ·exact e
   ·have:=(List.pairwise_cons.1 (by have:=List.Pairwise.drop (i:=aY l x.name) d;rwa[List.drop_eq_getElem_cons c]at this)).1 y hy;exact lU e this
  ·rw[List.drop_of_length_le (by omega)]at hy;cases hy
 refine⟨List.Pairwise.take d,⟨g,List.Pairwise.drop d⟩,fun a j b hb=>?_⟩;have f:=v8 a j;rcases List.mem_cons.1 hb with rfl|hb
 ·exact f
 ·exact lU f (g b hb)
theorem pF{l:List Rf}{x y:Rf}:y∈kz l x↔y=x∨y∈l:=by
 unfold kz;rw[List.mem_append,List.mem_cons];constructor
 ·rintro(h|h|h)
  ·exact .inr (List.mem_of_mem_take h)
  ·exact .inl h
  ·exact .inr (List.mem_of_mem_drop h)
 ·rintro(h|h)
  ·exact .inr (.inl h)
  ·rw[←List.take_append_drop (aY l x.name) l,List.mem_append]at h;exact h.imp id .inr
theorem Gs{l:List Rf}{x:Rf}:(kz l x).length=l.length+1:=by
 unfold kz;have:=vZ (l:=l) (n:=x.name);simp;omega
def getM(m:List Mv)(n:List UInt8):Int:=m.foldl (fun id x=>if x.name=n then x.new else id) (-1)
theorem zt{m:List Mv}{x:Mv}{n:List UInt8}:getM (m++[x]) n=if x.name=n then x.new else getM m n:=by
 unfold getM;rw[List.foldl_append];rfl
theorem FJ{m:List Mv}{n:List UInt8}{i:Nat}(h:i<m.length):getM (m.take (i+1)) n=if m[i].name=n then m[i].new else getM (m.take i) n:=by
 rw[List.take_succ_eq_append_getElem h,zt]
theorem zr{m:List Mv}{n:List UInt8}:∀{k:Nat},k≤m.length→getM (m.take k) n≠-1→∃x∈m.take k,x.name=n∧x.new=getM (m.take k) n
 |0,_,h=>absurd rfl h
 |k+1,d,h=>by
  have a:k<m.length:=d;rw[FJ a]at h⊢;rw[List.take_succ_eq_append_getElem a];split at h
  ·rename_i e;rw[if_pos e];exact⟨_,List.mem_append_right _ (List.mem_singleton.2 rfl),e,rfl⟩
  ·rename_i e;rw[if_neg e];obtain⟨y,b,c⟩:=zr (by omega) h;exact⟨y,List.mem_append_left _ b,c⟩
theorem FH{m:List Mv}{n:List UInt8}(h:getM m n≠-1):∃x∈m,x.name=n∧x.new=getM m n:=by
 have:=zr (m:=m) (n:=n) (k:=m.length) (Nat.le_refl _);rw[List.take_length]at this;exact this h
def iU(l:List Rf)(n:List UInt8)(id:Int):List Rf:=
 if dz l n=false then kz l ⟨n,id⟩else if id<0 then l.take (aY l n)++l.drop (aY l n+1)else l.set (aY l n) ⟨n,id⟩
def dt(l:List Rf)(n:List UInt8)(old id:Int):Int:=
 if bO n≠0 then bO n else if id< -1 then 1 else if old≠a6 l n then 12 else if dz l n=false∧0≤id∧l.length=8 then 5 else if id=old then 17 else 0
inductive gP:List Rf→List Mv→Prop
 |nil:gP [] []
 |snoc {l:List Rf} {m:List Mv} {n:List UInt8} {old id:Int} (h:gP l m) (hc:dt l n old id=0):gP (iU l n id) (m++[⟨n,old,id⟩])
theorem nS{l:List Rf}{n:List UInt8}{old id:Int}(h:dt l n old id=0):bO n=0∧-1≤id∧old=a6 l n∧¬(dz l n=false∧0≤id∧l.length=8)∧id≠old:=by
 unfold dt at h;split at h
 ·rename_i a;exact absurd h a
 rename_i a;split at h
 ·cases h
 rename_i e;split at h
 ·cases h
 rename_i b;split at h
 ·cases h
 rename_i c;split at h
 ·cases h
 rename_i d;exact⟨by omega,by omega,Decidable.not_not.1 b,c,d⟩
structure nG(l:List Rf)(m:List Mv):Prop where
 sort:fh l
 ids:∀r∈l,0≤r.id
 len:l.length≤8
 get:∀n,a6 l n=getM m n
theorem get_of_mem{l:List Rf}(a:fh l){n:List UInt8}{k:Int}(h:(⟨n,k⟩:Rf)∈l):a6 l n=k:=(rD a h).2
theorem get_none{l:List Rf}(c:fh l){n:List UInt8}(h:∀r∈l,r.name≠n):a6 l n= -1:=by
 cases b:dz l n with
 |false=>exact lh b
 |true=>obtain⟨a,e⟩:=zB b;exact absurd e (h _ (List.getElem_mem a))
theorem FK{l k:List Rf}(hl:fh l)(hk:fh k){n:List UInt8}(h:∀r:Rf,r.name=n→(r∈l↔r∈k)):a6 l n=a6 k n:=by
 cases a:dz l n with
 |false=>
  rw[lh a,get_none hk fun r g e=>?_];have:=(h r e).2 g;have d:=(rD hl this).1;rw[e,a]at d;cases d
 |true=>
  obtain⟨b,c,f⟩:=py a;rw[f];have:=(rD hk ((h _ c).1 (List.getElem_mem b))).2;rw[c]at this;exact this.symm
theorem Ku{l:List Rf}{m:List Mv}(h:nG l m){n:List UInt8}{old id:Int}(hc:dt l n old id=0):nG (iU l n id) (m++[⟨n,old,id⟩]):=by
 obtain⟨F,H,w,x,I⟩:=nS hc
 have fin : ∀ {k : List Rf}, fh k → (∀ r ∈ k, 0 ≤ r.id) → k.length ≤ 8 → (∀ r : Rf, r.name ≠ n → (r ∈ l ↔ r ∈ k)) → a6 k n = id → nG k (m ++ [⟨n, old, id⟩]) := fun d o E s z => ⟨d,o,E,fun q=>by
  rw[zt];show a6 _ q=if n=q then id else getM m q
  split
  ·rename_i e;rw[←e];exact z
  ·rename_i e;rw[←h.get q];exact(FK h.sort d (fun r hr=>s r (fun v=>e (v.symm.trans hr)))).symm⟩
 unfold iU;split
 ·rename_i f;have hid:0≤id:=by rw[lh f]at w;omega
  refine fin (zQ h.sort f) (fun r hr=>?_) ?_ (fun r hr=>?_) ?_
  ·rcases pF.1 hr with rfl|hr
   ·exact hid
   ·exact h.ids r hr
  ·rw[Gs];have:=h.len;have:¬l.length=8:=fun e=>x ⟨f,hid,e⟩;omega
  ·rw[pF];exact⟨.inr,fun h2=>h2.resolve_left fun e=>hr (by rw[e])⟩
  ·exact get_of_mem (zQ h.sort f) (pF.2 (.inl rfl))
 ·rename_i f;rw[Bool.not_eq_false]at f;obtain⟨c,g,v⟩:=py f;split
  ·rename_i hid
   have d:fh (l.take (aY l n)++l.drop (aY l n+1)):=by
    refine List.Pairwise.sublist ?_ h.sort;conv=>rhs;rw[←List.take_append_drop (aY l n) l]
    exact List.Sublist.append (List.Sublist.refl _) (by rw[List.drop_eq_getElem_cons c];exact List.sublist_cons_self _ _)
   have s:∀r:Rf,r∈l↔r∈l.take (aY l n)∨r=l[aY l n]∨r∈l.drop (aY l n+1):=fun r=>by
    conv=>lhs;rw[←List.take_append_drop (aY l n) l,List.drop_eq_getElem_cons c,List.mem_append,List.mem_cons]
   refine fin d (fun r hr=>?_) ?_ (fun r hr=>?_) ?_
   ·refine h.ids r ((s r).2 ?_);rcases List.mem_append.1 hr with hr|hr
    ·exact .inl hr
    ·exact .inr (.inr hr)
   ·have:=h.len;simp;omega
   ·rw[s,List.mem_append];constructor
    ·rintro(h2|rfl|h2)
     ·exact .inl h2
     ·exact absurd g hr
     ·exact .inr h2
    ·rintro(h2|h2)
     ·exact .inl h2
     ·exact .inr (.inr h2)
   ·have p:id= -1:=by omega
    rw[p];refine get_none d fun r hr e=>?_;have o:=List.pairwise_iff_getElem.1 h.sort;rcases List.mem_append.1 hr with hr|hr
    ·have:=v8 r hr;rw[e,mR]at this;cases this
    ·obtain⟨k,u,b⟩:=List.mem_iff_getElem.1 hr;rw[List.getElem_drop]at b;have:=o (aY l n) (aY l n+1+k) c (by rw[List.length_drop]at u;omega) (by omega);rw[b,g,e,mR]at this;cases this
  ·rename_i hid
   have d:fh (l.set (aY l n) ⟨n,id⟩):=by
    refine List.pairwise_iff_getElem.2 fun i j o D t=>?_;have a:=List.pairwise_iff_getElem.1 h.sort i j (by simpa using o) (by simpa using D) t;rw[List.getElem_set,List.getElem_set];split
    ·rename_i b;subst b;rw[if_neg (by omega)];rw[g]at a;exact a
    ·split
     ·rename_i b;subst b;show Op.bytesLess _ n=true;rw[g]at a;exact a
     ·exact a
   refine fin d (fun r hr=>?_) (by rw[List.length_set];exact h.len) (fun r hr=>?_) (get_of_mem d (List.mem_set c _))
   ·rcases List.mem_or_eq_of_mem_set hr with hr|rfl
    ·exact h.ids r hr
    ·show 0≤id;omega
   ·constructor
    ·intro h2;obtain⟨k,u,b⟩:=List.mem_iff_getElem.1 h2;refine List.mem_iff_getElem.2 ⟨k,by simpa using u,?_⟩;rw[List.getElem_set,if_neg (fun y=>hr (by subst y;rw[←b];exact g))];exact b
    ·intro h2;exact(List.mem_or_eq_of_mem_set h2).resolve_right fun e=>hr (by rw[e])
theorem gP.inv{l:List Rf}{m:List Mv}(h:gP l m):nG l m:=by
 induction h with
 |nil=>exact⟨.nil,fun r h=>(by cases h),by decide,fun n=>rfl⟩
 |snoc _ a ih=>exact Ku ih a
end Go.Nest
end
