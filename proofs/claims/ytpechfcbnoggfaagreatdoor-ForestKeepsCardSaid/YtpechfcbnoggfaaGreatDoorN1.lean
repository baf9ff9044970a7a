/- part -/
import Derived.Test.YtpechfcbnoggfaaGreatDoorW1
import Derived.Lib.Bytealg
import Derived.Test.YtpechfcbnoggfaaGreatDoorAmH
set_option linter.unusedVariables false
set_option linter.unusedSimpArgs false
section
namespace Go.Nest
open Go Go.AM
theorem l9:∀{a:List UInt8},Op.bytesLess a a=false
 |[]=>rfl
 |x::a=>by simp[Op.bytesLess,l9 (a:=a)]
theorem kY:∀{a b c:List UInt8},Op.bytesLess a b=true→Op.bytesLess b c=true→Op.bytesLess a c=true
 |_,_,[],_,h=>by cases‹List UInt8›<;>simp[Op.bytesLess]at h
 |_,[],_::_,h,_=>by simp[Op.bytesLess]at h
 |[],_::_,_::_,_,_=>rfl
 |x::a,y::b,z::c,e,d=>by
  simp only[Op.bytesLess,Bool.or_eq_true,Bool.and_eq_true,decide_eq_true_iff,beq_iff_eq]at e d⊢;rcases e with e|⟨rfl,e⟩
  ·rcases d with d|⟨rfl,d⟩
   ·exact .inl (UInt8.lt_trans e d)
   ·exact .inl e
  ·rcases d with d|⟨rfl,d⟩
   ·exact .inl d
   ·exact .inr ⟨rfl,kY e d⟩
theorem sU:∀(a b:List UInt8),Op.bytesLess a b=true∨a=b∨Op.bytesLess b a=true
 |[],[]=>.inr (.inl rfl)
 |[],_::_=>.inl rfl
 |_::_,[]=>.inr (.inr rfl)
 |x::a,y::b=>by
  simp only[Op.bytesLess,Bool.or_eq_true,Bool.and_eq_true,decide_eq_true_iff,beq_iff_eq,List.cons.injEq];rcases Nat.lt_trichotomy x.toNat y.toNat with h|h|h
  ·exact .inl (.inl (UInt8.lt_iff_toNat_lt.2 h))
  ·have:x=y:=UInt8.toNat_inj.1 h;subst this;rcases sU a b with h|h|h
   ·exact .inl (.inr ⟨rfl,h⟩)
   ·exact .inr (.inl ⟨rfl,h⟩)
   ·exact .inr (.inr (.inr ⟨rfl,h⟩))
  ·exact .inr (.inr (.inl (UInt8.lt_iff_toNat_lt.2 h)))
def aA:List UInt8→List (List UInt8)
 |[]=>[[]]
 |c::r=>if c=47 then[]::aA r else match aA r with
  |x::a=>(c::x)::a
  |[]=>[[c]]
theorem oa:∀l:List UInt8,aA l≠[]
 |[]=>by simp[aA]
 |c::r=>by
  unfold aA;split
  ·simp
  ·split<;>simp
theorem IK(l:List UInt8):0<(aA l).length:=List.length_pos_iff.2 (oa l)
theorem vH:∀l:List UInt8,(aA l).length=l.count 47+1
 |[]=>rfl
 |c::r=>by
  have h:=vH r;unfold aA;rw[List.count_cons];split
  ·rename_i e;subst e;simp[h]
  ·rename_i e;have:(c==47)=false:=by simpa using e
   rw[this];split
   ·rename_i x b a;rw[a]at h;simpa using h
   ·rename_i a;exact absurd a (oa r)
theorem mO:∀{l:List UInt8},l.count 47=0→aA l=[l]
 |[],_=>rfl
 |c::r,h=>by
  rw[List.count_cons]at h;have a:=mO (l:=r) (by omega);unfold aA;rw[if_neg (fun e=>by subst e;simp at h),a]
theorem uj:∀{l:List UInt8},0<l.count 47→∃m:Nat,Lib.indexByte l 47=m∧m<l.length∧aA l=l.take m::aA (l.drop (m+1))∧(l.drop (m+1)).count 47+1=l.count 47
 |[],h=>by simp at h
 |c::r,h=>by
  by_cases e:c=47
  ·subst e;exact⟨0,by simp[Lib.indexByte],by simp,by simp[aA],by simp⟩
  ·rw[List.count_cons]at h;have a:(c==47)=false:=by simpa using e
   rw[a]at h;obtain⟨m,b,g,d,f⟩:=uj (l:=r) (by simpa using h);refine⟨m+1,?_,by simp;omega,?_,?_⟩
   ·unfold Lib.indexByte;rw[a,b];have:((m:Int)== -1)=false:=by simp
    simp[this]
   ·conv=>lhs;unfold aA
    rw[if_neg e,d];simp
   ·rw[List.drop_succ_cons,f,List.count_cons,a];rfl
theorem ui:∀{l:List UInt8},l.count 47=0→Lib.indexByte l 47= -1
 |[],_=>rfl
 |c::r,h=>by
  rw[List.count_cons]at h;unfold Lib.indexByte;rw[ui (l:=r) (by omega)]
  have:(c==47)=false:=by
   cases a:c==47 with
   |false=>rfl
   |true=>rw[a]at h;simp at h
  rw[this];rfl
theorem pL:∀(a b:List UInt8),aA (a++47::b)=aA a++aA b
 |[],b=>by simp[aA]
 |c::a,b=>by
  have h:=pL a b;have e:∀r,aA (c::r)=if c=47 then[]::aA r else match aA r with|x::d=>(c::x)::d|[]=>[[c]]:=fun _=>rfl
  rw[List.cons_append,e,e,h];split
  ·rfl
  ·cases f:aA a with
   |nil=>exact absurd f (oa a)
   |cons x d=>rfl
def b5:List (List UInt8)→List UInt8
 |[]=>[]
 |[x]=>x
 |x::y::r=>x++47::b5 (y::r)
theorem og:∀l:List UInt8,b5 (aA l)=l
 |[]=>rfl
 |c::r=>by
  have h:=og r;unfold aA;split
  ·rename_i e;subst e;cases a:aA r with
   |nil=>exact absurd a (oa r)
   |cons x b=>rw[a]at h;simp[b5,h]
  ·cases a:aA r with
   |nil=>exact absurd a (oa r)
   |cons x b=>
    rw[a]at h;cases b with
    |nil=>simp[b5]at h⊢;exact h
    |cons y d=>simp[b5]at h⊢;exact h
theorem IJ{a b:List UInt8}(h:aA a=aA b):a=b:=by rw[←og a,h,og]
def cP:List (List UInt8)→List (List UInt8)→Bool
 |[],[]=>false
 |[],_::_=>true
 |_::_,[]=>false
 |x::r,y::q=>if x=y then cP r q else Op.bytesLess x y
def au(a b:List UInt8):Bool:=cP (aA a) (aA b)
theorem zz:∀{x:List (List UInt8)},cP x x=false
 |[]=>rfl
 |x::r=>by simp[cP,zz (x:=r)]
theorem zB:∀{a b c:List (List UInt8)},cP a b=true→cP b c=true→cP a c=true
 |[],[],_,h,_=>by simp[cP]at h
 |[],_::_,[],_,h=>by simp[cP]at h
 |[],_::_,_::_,_,_=>rfl
 |_::_,[],_,h,_=>by simp[cP]at h
 |_::_,_::_,[],_,h=>by simp[cP]at h
 |x::a,y::b,z::c,f,d=>by
  unfold cP at f d⊢;split at f
  ·rename_i e;subst e;split at d
   ·rename_i e;subst e;rw[if_pos rfl];exact zB f d
   ·rename_i e;rw[if_neg e];exact d
  ·rename_i e;split at d
   ·rename_i g;subst g;rw[if_neg e];exact f
   ·have:=kY f d;rw[if_neg (fun i=>by subst i;rw[l9]at this;cases this)];exact this
theorem zC:∀(a b:List (List UInt8)),cP a b=true∨a=b∨cP b a=true
 |[],[]=>.inr (.inl rfl)
 |[],_::_=>.inl rfl
 |_::_,[]=>.inr (.inr rfl)
 |x::a,y::b=>by
  by_cases e:x=y
  ·subst e;rcases zC a b with h|h|h
   ·exact .inl (by simp[cP,h])
   ·exact .inr (.inl (by rw[h]))
   ·exact .inr (.inr (by simp[cP,h]))
  ·rcases sU x y with h|h|h
   ·exact .inl (by simp[cP,e,h])
   ·exact absurd h e
   ·exact .inr (.inr (by simp[cP,Ne.symm e,h]))
theorem zA:∀(a:List (List UInt8)) {b:List (List UInt8)},b≠[]→cP a (a++b)=true
 |[],b,h=>by cases b with|nil=>exact absurd rfl h|cons _ _=>rfl
 |x::a,b,h=>by simp[cP,zA a h]
theorem lI{a:List UInt8}:au a a=false:=zz
theorem jn{a b c:List UInt8}(h1:au a b=true)(h2:au b c=true):au a c=true:=zB h1 h2
theorem j4{a b:List UInt8}(h:au a b=true):au b a=false:=by
 cases c:au b a with
 |false=>rfl
 |true=>have:=jn h c;rw[lI]at this;cases this
theorem gF(a b:List UInt8):au a b=true∨a=b∨au b a=true:=
 (zC (aA a) (aA b)).imp id (Or.imp IJ id)
def under(p d:List UInt8):Option (List UInt8):=if(d++[47]).isPrefixOf p=true then some (p.drop (d.length+1))else none
theorem jD{p d r:List UInt8}(h:under p d=some r):p=d++47::r:=by
 unfold under at h;split at h
 ·rename_i a;cases h;rw[List.isPrefixOf_iff_prefix]at a;obtain⟨t,rfl⟩:=a;simp
 ·cases h
theorem mU{d r:List UInt8}:under (d++47::r) d=some r:=by
 unfold under;rw[if_pos (by rw[List.isPrefixOf_iff_prefix];exact⟨r,by simp⟩)];simp
theorem uG{p d r:List UInt8}(h:under p d=some r):au d p=true:=by
 rw[jD h];unfold au;rw[pL];exact zA _ (oa r)
end Go.Nest
end
section
namespace Go.Nest
open Go Go.AM
def dJ:Fi:=⟨[],0,0,0⟩
def eN(l:List Fi)(p:List UInt8):Fi×Bool:=match l.find? fun f=>decide (f.path=p)with
 |some f=>(f,true)
 |none=>(dJ,false)
def iZ(l:List Fi)(p:List UInt8):Fi:=(eN l p).1
def jG{α:Type}(k:α→List UInt8)(l:List α):Prop:=l.Pairwise fun x y=>au (k x) (k y)=true
theorem kC{a b:List UInt8}(h:au a b=true):a≠b:=fun e=>by rw[e,lI]at h;cases h
theorem AU{α:Type}{k:α→List UInt8}:∀{l m:List α},jG k l→jG k m→(∀x,x∈l↔x∈m)→l=m
 |[],[],_,_,_=>rfl
 |[],y::m,_,_,h=>by have:=(h y).2 (by simp);cases this
 |x::l,[],_,_,h=>by have:=(h x).1 (by simp);cases this
 |x::l,y::m,g,i,h=>by
  obtain⟨b,d⟩:=List.pairwise_cons.1 g;obtain⟨c,f⟩:=List.pairwise_cons.1 i
  have e:x=y:=by
   rcases List.mem_cons.1 ((h x).1 (by simp))with e|hx
   ·exact e
   rcases List.mem_cons.1 ((h y).2 (by simp))with e|hy
   ·exact e.symm
   have:=j4 (b y hy);rw[c x hx]at this;cases this
  subst e;congr 1
  refine AU d f fun z=>⟨fun a=>?_,fun a=>?_⟩
  ·rcases List.mem_cons.1 ((h z).1 (by simp[a]))with rfl|h5
   ·exact absurd rfl (kC (b _ a))
   ·exact h5
  ·rcases List.mem_cons.1 ((h z).2 (by simp[a]))with rfl|h5
   ·exact absurd rfl (kC (c _ a))
   ·exact h5
theorem wT{x:Fi}{l:List Fi}{p:List UInt8}:iZ (x::l) p=if x.path=p then x else iZ l p:=by
 unfold iZ eN;rw[List.find?_cons];by_cases h:x.path=p<;>simp[h]
theorem wV:∀{l:List Fi} {p:List UInt8},(∀f∈l,f.path≠p)→iZ l p=dJ
 |[],_,_=>rfl
 |x::l,p,h=>by rw[wT,if_neg (h x (by simp)),wV fun f a=>h f (by simp[a])]
theorem wU:∀{l:List Fi} {p:List UInt8},(∃f∈l,f.path=p)→iZ l p∈l∧(iZ l p).path=p
 |[],_,⟨f,h,_⟩=>by cases h
 |x::l,p,⟨f,h,e⟩=>by
  rw[wT];split
  ·exact⟨by simp,by assumption⟩
  ·rcases List.mem_cons.1 h with rfl|h
   ·contradiction
   ·obtain⟨a,b⟩:=wU ⟨f,h,e⟩;exact⟨by simp[a],b⟩
theorem Cm(l:List Fi)(p:List UInt8):(iZ l p=dJ∧∀f∈l,f.path≠p)∨(iZ l p∈l∧(iZ l p).path=p):=by
 by_cases h:∃f∈l,f.path=p
 ·exact .inr (wU h)
 ·have h:∀f∈l,f.path≠p:=fun f a e=>h ⟨f,a,e⟩;exact .inl ⟨wV h,h⟩
def b8:List Fi→List Fi→List Ch
 |[],[]=>[]
 |a::c,[]=>⟨a.path,a,dJ⟩::b8 c []
 |[],b::d=>⟨b.path,dJ,b⟩::b8 [] d
 |a::c,b::d=>if au a.path b.path=true then⟨a.path,a,dJ⟩::b8 c (b::d)else if au b.path a.path=true then⟨b.path,dJ,b⟩::b8 (a::c) d
  else if a≠b then⟨a.path,a,b⟩::b8 c d else b8 c d
termination_by a b=>a.length+b.length
structure B0(l:List Fi):Prop where
 ris:jG (·.path) l
 md:∀f∈l,f.mode≠0
def Ky(a b:List Fi)(p:List UInt8):Prop:=(∃f∈a,f.path=p)∨∃f∈b,f.path=p
structure Told(a b:List Fi)(c:Ch):Prop where
 key:Ky a b c.path
 old:c.old=iZ a c.path
 new:c.new=iZ b c.path
 ne:c.old≠c.new
def eb(f:Fi)(out:List Fi):List Fi:=out.takeWhile (fun g=> !au f.path g.path)++f::out.dropWhile (fun g=> !au f.path g.path)
def aH(l:List Fi):List Fi:=l.foldl (fun out f=>eb f out) []
def Wk(l:List Fi):Prop:=l.Pairwise fun x y=>au y.path x.path=false
theorem yW(f:Fi)(out:List Fi):(eb f out).Perm (f::out):=by
 unfold eb;refine List.perm_middle.trans (.cons f ?_);rw[List.takeWhile_append_dropWhile]
theorem uo{f:Fi}:∀{out:List Fi},Wk out→Wk (eb f out)
 |[],_=>by simp[eb,Wk]
 |g::out,h=>by
  obtain⟨b,d⟩:=List.pairwise_cons.1 h;by_cases a:au f.path g.path=true
  ·have:eb f (g::out)=f::g::out:=by simp[eb,a]
   rw[this];refine List.pairwise_cons.2 ⟨fun y hy=>?_,h⟩;rcases List.mem_cons.1 hy with rfl|hy
   ·exact j4 a
   ·have c:=b y hy;rcases gF g.path y.path with h4|h4|h4
    ·exact j4 (jn a h4)
    ·rw[←h4];exact j4 a
    ·rw[h4]at c;cases c
  ·rw[Bool.not_eq_true]at a;have:eb f (g::out)=g::eb f out:=by simp[eb,a]
   rw[this];refine List.pairwise_cons.2 ⟨fun y hy=>?_,uo d⟩;rcases List.mem_cons.1 ((yW f out).mem_iff.1 hy)with rfl|hy
   ·exact a
   ·exact b y hy
theorem um:∀(l out:List Fi),Wk out→Wk (l.foldl (fun out f=>eb f out) out)∧(l.foldl (fun out f=>eb f out) out).Perm (l++out)
 |[],out,h=>⟨h,.refl _⟩
 |f::l,out,h=>by
  obtain⟨a,b⟩:=um l (eb f out) (uo h);refine⟨a,b.trans ?_⟩;exact((yW f out).append_left l).trans List.perm_middle
theorem jV(l:List Fi):Wk (aH l):=(um l [] .nil).1
theorem lC(l:List Fi):(aH l).Perm l:=by have:=(um l [] .nil).2;rwa[List.append_nil]at this
def gU:Option (List UInt8)→List Fi→List (List UInt8)
 |_,[]=>[]
 |a,f::r=>if a=some f.path then gU (some f.path) r else f.path::gU (some f.path) r
theorem xL:∀{l:List Fi} {p:List UInt8},Wk l→(∀f∈l,au f.path p=false)→jG id (gU (some p) l)∧∀q,q∈gU (some p) l↔q≠p∧∃f∈l,f.path=q
 |[],p,_,_=>⟨.nil,fun q=>⟨fun h=>(by cases h),fun⟨_,f,c,_⟩=>by cases c⟩⟩
 |f::r,p,h,u=>by
  obtain⟨d,t⟩:=List.pairwise_cons.1 h;obtain⟨n,i⟩:=xL (p:=f.path) t d;have c:=u f (by simp);unfold gU;split
  ·rename_i e;have e:p=f.path:=by simpa using e
   refine⟨n,fun q=>?_⟩;rw[i,e];refine and_congr_right fun k=>⟨fun⟨g,hg,a⟩=>⟨g,by simp[hg],a⟩,fun⟨g,hg,a⟩=>?_⟩;rcases List.mem_cons.1 hg with o|hg
   ·rw[o]at a;exact absurd a.symm k
   ·exact⟨g,hg,a⟩
  ·rename_i e;have e:p≠f.path:=by simpa using e
   have b:au p f.path=true:=by
    rcases gF p f.path with h|h|h
    ·exact h
    ·exact absurd h e
    ·rw[h]at c;cases c
   have s:∀g∈r,au p g.path=true:=fun g hg=>by
    have:=d g hg;rcases gF f.path g.path with h|h|h
    ·exact jn b h
    ·rw[←h];exact b
    ·rw[h]at this;cases this
   refine⟨List.pairwise_cons.2 ⟨fun q k=>?_,n⟩,fun q=>?_⟩
   ·obtain⟨j,g,hg,rfl⟩:=(i q).1 k;have:=d g hg;rcases gF f.path g.path with h|h|h
    ·exact h
    ·exact absurd h.symm j
    ·rw[h]at this;cases this
   ·rw[List.mem_cons,i];constructor
    ·rintro(rfl|⟨j,g,hg,rfl⟩)
     ·exact⟨Ne.symm e,f,by simp,rfl⟩
     ·exact⟨Ne.symm (kC (s g hg)),g,by simp[hg],rfl⟩
    ·rintro⟨j,g,hg,rfl⟩;rcases List.mem_cons.1 hg with rfl|hg
     ·exact .inl rfl
     ·by_cases m:g.path=f.path
      ·exact .inl m
      ·exact .inr ⟨m,g,hg,rfl⟩
theorem xM{l:List Fi}(h:Wk l):jG id (gU none l)∧∀q,q∈gU none l↔∃f∈l,f.path=q:=by
 cases l with
 |nil=>exact⟨.nil,fun q=>⟨fun h=>(by cases h),fun⟨f,j,_⟩=>by cases j⟩⟩
 |cons f r=>
  obtain⟨b,e⟩:=List.pairwise_cons.1 h;obtain⟨i,c⟩:=xL (p:=f.path) e b;have:gU none (f::r)=f.path::gU (some f.path) r:=by rw[gU,if_neg (by simp)]
  rw[this];refine⟨List.pairwise_cons.2 ⟨fun q k=>?_,i⟩,fun q=>?_⟩
  ·obtain⟨d,g,hg,rfl⟩:=(c q).1 k;have:=b g hg;rcases gF f.path g.path with h|h|h
   ·exact h
   ·exact absurd h.symm d
   ·rw[h]at this;cases this
  ·rw[List.mem_cons,c];constructor
   ·rintro(rfl|⟨d,g,hg,rfl⟩)
    ·exact⟨f,by simp,rfl⟩
    ·exact⟨g,by simp[hg],rfl⟩
   ·rintro⟨g,hg,rfl⟩;rcases List.mem_cons.1 hg with rfl|hg
    ·exact .inl rfl
    ·by_cases a:g.path=f.path
     ·exact .inl a
     ·exact .inr ⟨a,g,hg,rfl⟩
def ei(l:List (List Fi)):List (List UInt8):=gU none (aH l.flatten)
end Go.Nest
end
section
namespace Go.Nest
open Go Go.AM
def gl(p:List UInt8)(l:List Fi):List Fi:=l.filter fun f=>decide (f.path=p)
theorem l7(p:List UInt8)(a b:List Fi):gl p (a++b)=gl p a++gl p b:=List.filter_append ..
theorem kX(p:List UInt8)(f:Fi)(l:List Fi):gl p (f::l)=(if f.path=p then[f]else[])++gl p l:=by
 unfold gl;rw[List.filter_cons];by_cases h:f.path=p<;>simp[h]
theorem sS{p:List UInt8}{l:List Fi}(h:∀f∈l,f.path≠p):gl p l=[]:=by
 unfold gl;rw[List.filter_eq_nil_iff];intro f a;simpa using h f a
def cT(a b:List Fi):Prop:=∀p,gl p a=gl p b
theorem cT.refl(a:List Fi):cT a a:=fun _=>rfl
theorem cT.symm{a b:List Fi}(h:cT a b):cT b a:=fun p=>(h p).symm
theorem cT.trans{a b c:List Fi}(h:cT a b)(g:cT b c):cT a c:=fun p=>(h p).trans (g p)
theorem cT.app{a b c d:List Fi}(h:cT a b)(g:cT c d):cT (a++c) (b++d):=fun p=>by rw[l7,l7,h p,g p]
theorem cT.mem{a b:List Fi}(h:cT a b){f:Fi}(c:f∈a):f∈b:=by
 have:f∈gl f.path a:=List.mem_filter.2 ⟨c,by simp⟩;rw[h]at this;exact(List.mem_filter.1 this).1
theorem cT.swap{a b:List Fi}(h:∀x∈a,∀y∈b,x.path≠y.path):cT (a++b) (b++a):=fun p=>by
 rw[l7,l7];by_cases d:∃x∈a,x.path=p
 ·obtain⟨x,c,e⟩:=d;rw[sS (l:=b) fun y g f=>h x c y g (e.trans f.symm)];simp
 ·rw[sS (l:=a) fun x c e=>d ⟨x,c,e⟩];simp
theorem we{x:Fi}{l:List Fi}(h:Wk (x::l)):∀y∈l,au y.path x.path=false:=(List.pairwise_cons.1 h).1
theorem Bp:∀{a b:List Fi},Wk a→Wk b→cT a b→a=b
 |[],[],_,_,_=>rfl
 |[],y::b,_,_,h=>by have:=h y.path;rw[kX,if_pos rfl]at this;simp[gl]at this
 |x::a,[],_,_,h=>by have:=h x.path;rw[kX,if_pos rfl]at this;simp[gl]at this
 |x::a,y::b,d,hb,h=>by
  have hx:x∈y::b:=h.mem (by simp);have hy:y∈x::a:=h.symm.mem (by simp)
  have e:x.path=y.path:=by
   rcases gF x.path y.path with h1|h1|h1
   ·exfalso;rcases List.mem_cons.1 hx with e|hx
    ·rw[e,lI]at h1;cases h1
    ·rw[we hb x hx]at h1;cases h1
   ·exact h1
   ·exfalso;rcases List.mem_cons.1 hy with e|hy
    ·rw[e,lI]at h1;cases h1
    ·rw[we d y hy]at h1;cases h1
  have h1:=h x.path;rw[kX,kX,if_pos rfl,if_pos e.symm]at h1;have f:=List.cons.inj h1;obtain rfl:=f.1;congr 1
  refine Bp (List.pairwise_cons.1 d).2 (List.pairwise_cons.1 hb).2 fun p=>?_;have c:=h p;rw[kX,kX]at c;exact List.append_cancel_left c
theorem Ft{f:Fi}:∀{out:List Fi},Wk out→cT (eb f out) (out++[f]):=by
 intro out k p;unfold eb;have a:=List.takeWhile_append_dropWhile (p:=fun g:Fi=> !au f.path g.path) (l:=out)
 have j:∀y∈out.dropWhile (fun g:Fi=> !au f.path g.path),au f.path y.path=true:=by
  cases b:out.dropWhile (fun g:Fi=> !au f.path g.path)with
  |nil=>intro y hy;cases hy
  |cons z r=>
   have d:au f.path z.path=true:=by
    have:=List.head?_dropWhile_not (fun g:Fi=> !au f.path g.path) out;rw[b]at this;simpa using this
   have c:Wk (z::r):=by rw[←b];exact List.Pairwise.sublist (List.dropWhile_sublist _) k
   intro y hy;rcases List.mem_cons.1 hy with rfl|hy
   ·exact d
   ·have h:=we c y hy;rcases gF z.path y.path with h2|h2|h2
    ·exact jn d h2
    ·rw[←h2];exact d
    ·rw[h2]at h;cases h
 conv=>rhs;rw[←a]
 rw[l7,l7,l7,kX,List.append_assoc];congr 1
 have h2:gl p [f]=if f.path=p then[f]else[]:=by rw[kX];simp[gl]
 rw[h2];by_cases e:f.path=p
 ·rw[if_pos e,sS (l:=out.dropWhile _) fun y hy i=>kC (j y hy) (e.trans i.symm)];simp
 ·rw[if_neg e];simp
theorem nI(l:List Fi):cT (aH l) l:=by
 have a:∀(l out:List Fi),Wk out→cT (l.foldl (fun out f=>eb f out) out) (out++l):=by
  intro l;induction l with
  |nil=>intro out _;rw[List.append_nil];exact .refl _
  |cons f l ih=>
   intro out h;refine(ih (eb f out) (uo h)).trans ?_;rw[show out++f::l=(out++[f])++l by simp];exact(Ft h).app (.refl l)
 exact a l [] .nil
theorem o4{a l:List Fi}(h:Wk a)(b:cT a l):a=aH l:=Bp h (jV l) (b.trans (nI l).symm)
theorem qV{a:List Fi}(h:Wk a):aH a=a:=(o4 h (.refl a)).symm
theorem yT(a b:List Fi):aH (aH a++aH b)=aH (a++b):=o4 (jV _) ((nI _).trans ((nI a).app (nI b)))
theorem iG(l:List Fi):(aH l).length=l.length:=(lC l).length_eq
theorem Fb(l:List Fi)(f:Fi):aH (l++[f])=eb f (aH l):=by unfold aH;rw[List.foldl_append];rfl
theorem wc{a b:List Fi}(c:Wk a)(hb:Wk b)(h:∀x∈a,∀y∈b,au y.path x.path=false):Wk (a++b):=List.pairwise_append.2 ⟨c,hb,h⟩
theorem om{a b:List Fi}(h:Wk (a++b)):Wk a∧Wk b∧∀x∈a,∀y∈b,au y.path x.path=false:=List.pairwise_append.1 h
theorem le_trans'{x y z:List UInt8}(h1:au y x=false)(h2:au z y=false):au z x=false:=by
 cases h:au z x with
 |false=>rfl
 |true=>
  rcases gF y z with h3|h3|h3
  ·have:=jn h3 h;rw[h1]at this;cases this
  ·rw[←h3,h1]at h;cases h
  ·rw[h2]at h3;cases h3
theorem uL{x y z:List UInt8}(h1:au x y=true)(h2:au z y=false):au x z=true:=by
 rcases gF y z with h3|h3|h3
 ·exact jn h1 h3
 ·rw[←h3];exact h1
 ·rw[h2]at h3;cases h3
theorem FX{x y z:List UInt8}(h1:au y x=false)(h2:au y z=true):au x z=true:=by
 rcases gF x y with h3|h3|h3
 ·exact jn h3 h2
 ·rw[h3];exact h2
 ·rw[h1]at h3;cases h3
theorem G5{x:Fi}{Y:List Fi}{k:Nat}(d:Wk Y)(h1:∀y∈Y.take k,au y.path x.path=true)(h2:∀y∈Y.drop k,au y.path x.path=false):Y.take k++x::Y.drop k=aH ([x]++Y):=by
 have e:=List.take_append_drop k Y;rw[←e]at d;obtain⟨f,g,h⟩:=om d;refine o4 (wc f (List.pairwise_cons.2 ⟨h2,g⟩) fun a c b hb=>?_) ?_
 ·rcases List.mem_cons.1 hb with rfl|hb
  ·exact j4 (h1 a c)
  ·exact h a c b hb
 ·rw[show Y.take k++x::Y.drop k=(Y.take k++[x])++Y.drop k by simp];conv=>rhs;rw[←e,←List.append_assoc]
  refine cT.app (cT.swap fun a c b hb=>?_) (.refl _);rw[List.mem_singleton]at hb;subst hb;exact kC (h1 a c)
theorem G4{y:Fi}{X:List Fi}{k:Nat}(d:Wk X)(h1:∀x∈X.take k,au y.path x.path=false)(h2:∀x∈X.drop k,au y.path x.path=true):X.take k++y::X.drop k=aH (X++[y]):=by
 have e:=List.take_append_drop k X;rw[←e]at d;obtain⟨f,g,h⟩:=om d;refine o4 (wc f (List.pairwise_cons.2 ⟨fun b hb=>j4 (h2 b hb),g⟩) fun a c b hb=>?_) ?_
 ·rcases List.mem_cons.1 hb with rfl|hb
  ·exact h1 a c
  ·exact h a c b hb
 ·rw[show X.take k++y::X.drop k=X.take k++([y]++X.drop k)by simp];conv=>rhs;rw[←e,List.append_assoc]
  refine cT.app (.refl _) (cT.swap fun a c b hb=>?_);rw[List.mem_singleton]at c;subst c;exact kC (h2 b hb)
theorem Ji{X1 X2 Y1 Y2:List Fi}(e:Wk (X1++X2))(f:Wk (Y1++Y2))(h1:∀x∈X2,∀y∈Y1,au y.path x.path=true)(h2:∀x∈X1,∀y∈Y2,au y.path x.path=false):
  aH (X1++Y1)++aH (X2++Y2)=aH ((X1++X2)++(Y1++Y2)):=by
 obtain⟨h,i,c⟩:=om e;obtain⟨j,k,d⟩:=om f;refine o4 (wc (jV _) (jV _) fun u hu v hv=>?_) ?_
 ·have hu:=(lC _).mem_iff.1 hu;have hv:=(lC _).mem_iff.1 hv;rcases List.mem_append.1 hu with hu|hu<;>rcases List.mem_append.1 hv with hv|hv
  ·exact c u hu v hv
  ·exact h2 u hu v hv
  ·exact j4 (h1 v hv u hu)
  ·exact d u hu v hv
 ·refine((nI _).app (nI _)).trans ?_;rw[show(X1++Y1)++(X2++Y2)=X1++((Y1++X2)++Y2)by simp,show(X1++X2)++(Y1++Y2)=X1++((X2++Y1)++Y2)by simp];exact cT.app (.refl _) (cT.app (cT.swap fun a g b hb=>kC (h1 b hb a g)) (.refl _))
def ct(bs:Nat)(d:List Fi):List Fi:=if h:d.length≤bs∨bs=0 then aH d else aH (d.take bs)++ct bs (d.drop bs)
termination_by d.length
decreasing_by rw[List.length_drop];omega
theorem kN{bs:Nat}{d:List Fi}(h:d.length≤bs):ct bs d=aH d:=by rw[ct,dif_pos (.inl h)]
theorem pN{bs:Nat}{d:List Fi}(hb:0<bs)(h:bs≤d.length):ct bs d=aH (d.take bs)++ct bs (d.drop bs):=by
 by_cases e:d.length≤bs
 ·rw[kN e,List.take_of_length_le e,List.drop_of_length_le e,kN (by simp)];rw[show aH []=[]from rfl,List.append_nil]
 ·conv=>lhs;rw[ct,dif_neg (by omega)]
theorem Bn:∀(n bs:Nat) (d:List Fi),d.length≤n→(ct bs d).length=d.length:=by
 intro n;induction n with
 |zero=>intro bs d h;rw[kN (by omega),iG]
 |succ n ih=>
  intro bs d h;by_cases e:d.length≤bs∨bs=0
  ·rw[ct,dif_pos e,iG]
  ·rw[ct,dif_neg e,List.length_append,iG,ih bs _ (by rw[List.length_drop];omega),List.length_take,List.length_drop];omega
end Go.Nest
end
section
namespace Go.Nest
open Go Go.AM
def me(a b:List UInt8):Int:=if Op.bytesLess a b=true then-1 else if a=b then 0 else 1
theorem xt{a b:List UInt8}:me a b<0↔Op.bytesLess a b=true:=by
 unfold me;split
 ·rename_i h;simp[h]
 ·rename_i h;split<;>simp[h]
theorem C0{a b:List UInt8}(h:Op.bytesLess a b=false):me a b=0↔a=b:=by
 unfold me;rw[if_neg (by simp[h])];split
 ·rename_i c;simp[c]
 ·rename_i c;simp[c]
def eG(l:List Rf):Prop:=l.Pairwise fun a b=>Op.bytesLess a.name b.name=true
def a8(l:List Rf)(n:List UInt8):Nat:=(l.takeWhile fun r=>Op.bytesLess r.name n).length
def dK(l:List Rf)(n:List UInt8):Bool:=decide ((l[a8 l n]?).map (·.name)=some n)
def bD(l:List Rf)(n:List UInt8):Int:=match l[a8 l n]? with|some r=>if r.name=n then r.id else-1|none=> -1
theorem vm{l:List Rf}{n:List UInt8}:a8 l n≤l.length:=(List.takeWhile_sublist _).length_le
theorem vk{l:List Rf}{n:List UInt8}{k:Nat}(hk:k≤l.length)(h1:∀g∈l.take k,Op.bytesLess g.name n=true)(h2:∀h:k<l.length,Op.bytesLess l[k].name n=false):a8 l n=k:=by
 unfold a8;rw[(sf (p:=fun r:Rf=>Op.bytesLess r.name n) hk h1 h2).1,List.length_take,Nat.min_eq_left hk]
theorem vn{n:List UInt8}:∀{l:List Rf},∀g∈l.take (a8 l n),Op.bytesLess g.name n=true
 |[],g,h=>by simp at h
 |x::l,g,h=>by
  unfold a8 at h;rw[List.takeWhile_cons]at h;split at h
  ·rename_i a;rw[List.length_cons,List.take_succ_cons]at h;rcases List.mem_cons.1 h with rfl|h
   ·exact a
   ·exact vn g h
  ·simp at h
theorem Au{n:List UInt8}:∀{l:List Rf} (h:a8 l n<l.length),Op.bytesLess l[a8 l n].name n=false
 |[],h=>by simp at h
 |x::l,h=>by
  by_cases a:Op.bytesLess x.name n=true
  ·have e:a8 (x::l) n=a8 l n+1:=by unfold a8;rw[List.takeWhile_cons,if_pos a];rfl
   have b:a8 l n<l.length:=by rw[e]at h;simpa using h
   simp only[e,List.getElem_cons_succ];exact Au b
  ·have e:a8 (x::l) n=0:=by unfold a8;rw[List.takeWhile_cons,if_neg a];rfl
   simp only[e,List.getElem_cons_zero];simpa using a
theorem yK{l:List Rf}{n:List UInt8}(h:dK l n=true):∃a:a8 l n<l.length,l[a8 l n].name=n:=by
 unfold dK at h;rw[decide_eq_true_iff]at h;by_cases a:a8 l n<l.length
 ·refine⟨a,?_⟩;rw[List.getElem?_eq_getElem a]at h;simpa using h
 ·rw[List.getElem?_eq_none (by omega)]at h;cases h
theorem yL{l:List Rf}{n:List UInt8}(h:dK l n=false)(a:a8 l n<l.length):l[a8 l n].name≠n:=fun e=>by
 unfold dK at h;rw[decide_eq_false_iff_not,List.getElem?_eq_getElem a]at h;exact h (by simp[e])
theorem oV{l:List Rf}{n:List UInt8}(h:dK l n=true):∃a:a8 l n<l.length,l[a8 l n].name=n∧bD l n=l[a8 l n].id:=by
 obtain⟨a,e⟩:=yK h;refine⟨a,e,?_⟩;unfold bD;rw[List.getElem?_eq_getElem a];simp[e]
theorem ln{l:List Rf}{n:List UInt8}(h:dK l n=false):bD l n= -1:=by
 unfold bD;by_cases a:a8 l n<l.length
 ·rw[List.getElem?_eq_getElem a];simp[yL h a]
 ·rw[List.getElem?_eq_none (by omega)]
theorem Hq{l:List Rf}(b:eG l){i:Nat}(hi:i<l.length):a8 l l[i].name=i:=by
 refine vk (by omega) (fun g a=>?_) (fun _=>l9);obtain⟨k,c,e⟩:=List.mem_take_iff_getElem.1 a;subst e;exact List.pairwise_iff_getElem.1 b k i (by omega) hi (by omega)
theorem o3{l:List Rf}(c:eG l){r:Rf}(h:r∈l):dK l r.name=true∧bD l r.name=r.id:=by
 obtain⟨i,a,e⟩:=List.mem_iff_getElem.1 h;subst e;have b:=Hq c a;constructor
 ·unfold dK;rw[b,List.getElem?_eq_getElem a];simp
 ·unfold bD;rw[b,List.getElem?_eq_getElem a];simp
def ky(l:List Rf)(x:Rf):List Rf:=l.take (a8 l x.name)++x::l.drop (a8 l x.name)
theorem yX{l:List Rf}{x:Rf}(d:eG l)(hn:dK l x.name=false):eG (ky l x):=by
 unfold ky eG;rw[List.pairwise_append,List.pairwise_cons]
 have g:∀y∈l.drop (a8 l x.name),Op.bytesLess x.name y.name=true:=fun y hy=>by
  by_cases c:a8 l x.name<l.length
  ·have e:Op.bytesLess x.name l[a8 l x.name].name=true:=by
    rcases sU l[a8 l x.name].name x.name with h|h|h
    ·rw[Au c]at h;cases h
    ·exact absurd h (yL hn c)
    ·exact h
   rw[List.drop_eq_getElem_cons c]at hy;rcases List.mem_cons.1 hy with rfl|hy
   ·exact e
   ·have:=(List.pairwise_cons.1 (by have:=List.Pairwise.drop (i:=a8 l x.name) d;rwa[List.drop_eq_getElem_cons c]at this)).1 y hy;exact kY e this
  ·rw[List.drop_of_length_le (by omega)]at hy;cases hy
 refine⟨List.Pairwise.take d,⟨g,List.Pairwise.drop d⟩,fun a j b hb=>?_⟩;have f:=vn a j;rcases List.mem_cons.1 hb with rfl|hb
 ·exact f
 ·exact kY f (g b hb)
theorem o5{l:List Rf}{x y:Rf}:y∈ky l x↔y=x∨y∈l:=by
 unfold ky;rw[List.mem_append,List.mem_cons];constructor
 ·rintro(h|h|h)
  ·exact .inr (List.mem_of_mem_take h)
  ·exact .inl h
  ·exact .inr (List.mem_of_mem_drop h)
 ·rintro(h|h)
  ·exact .inr (.inl h)
  ·rw[←List.take_append_drop (a8 l x.name) l,List.mem_append]at h;exact h.imp id .inr
theorem Fu{l:List Rf}{x:Rf}:(ky l x).length=l.length+1:=by
 unfold ky;have:=vm (l:=l) (n:=x.name);simp;omega
def getM(m:List Mv)(n:List UInt8):Int:=m.foldl (fun id x=>if x.name=n then x.new else id) (-1)
theorem yD{m:List Mv}{x:Mv}{n:List UInt8}:getM (m++[x]) n=if x.name=n then x.new else getM m n:=by
 unfold getM;rw[List.foldl_append];rfl
theorem EJ{m:List Mv}{n:List UInt8}{i:Nat}(h:i<m.length):getM (m.take (i+1)) n=if m[i].name=n then m[i].new else getM (m.take i) n:=by
 rw[List.take_succ_eq_append_getElem h,yD]
theorem yC{m:List Mv}{n:List UInt8}:∀{k:Nat},k≤m.length→getM (m.take k) n≠-1→∃x∈m.take k,x.name=n∧x.new=getM (m.take k) n
 |0,_,h=>absurd rfl h
 |k+1,d,h=>by
  have a:k<m.length:=d;rw[EJ a]at h⊢;rw[List.take_succ_eq_append_getElem a];split at h
  ·rename_i e;rw[if_pos e];exact⟨_,List.mem_append_right _ (List.mem_singleton.2 rfl),e,rfl⟩
  ·rename_i e;rw[if_neg e];obtain⟨y,b,c⟩:=yC (by omega) h;exact⟨y,List.mem_append_left _ b,c⟩
theorem EI{m:List Mv}{n:List UInt8}(h:getM m n≠-1):∃x∈m,x.name=n∧x.new=getM m n:=by
 have:=yC (m:=m) (n:=n) (k:=m.length) (Nat.le_refl _);rw[List.take_length]at this;exact this h
def kg(l:List Rf)(n:List UInt8)(id:Int):List Rf:=
 if dK l n=false then ky l ⟨n,id⟩else if id<0 then l.take (a8 l n)++l.drop (a8 l n+1)else l.set (a8 l n) ⟨n,id⟩
def dB(l:List Rf)(n:List UInt8)(old id:Int):Int:=
 if bJ n≠0 then bJ n else if id< -1 then 1 else if old≠bD l n then 12 else if dK l n=false∧0≤id∧l.length=8 then 5 else if id=old then 17 else 0
inductive gg:List Rf→List Mv→Prop
 |nil:gg [] []
 |snoc {l:List Rf} {m:List Mv} {n:List UInt8} {old id:Int} (h:gg l m) (hc:dB l n old id=0):gg (kg l n id) (m++[⟨n,old,id⟩])
theorem oH{l:List Rf}{n:List UInt8}{old id:Int}(h:dB l n old id=0):bJ n=0∧-1≤id∧old=bD l n∧¬(dK l n=false∧0≤id∧l.length=8)∧id≠old:=by
 unfold dB at h;split at h
 ·rename_i a;exact absurd h a
 rename_i a;split at h
 ·cases h
 rename_i e;split at h
 ·cases h
 rename_i b;split at h
 ·cases h
 rename_i c;split at h
 ·cases h
 rename_i d;exact⟨by omega,by omega,Decidable.not_not.1 b,c,d⟩
structure mZ(l:List Rf)(m:List Mv):Prop where
 sort:eG l
 ids:∀r∈l,0≤r.id
 len:l.length≤8
 get:∀n,bD l n=getM m n
theorem get_of_mem{l:List Rf}(a:eG l){n:List UInt8}{k:Int}(h:(⟨n,k⟩:Rf)∈l):bD l n=k:=(o3 a h).2
theorem get_none{l:List Rf}(c:eG l){n:List UInt8}(h:∀r∈l,r.name≠n):bD l n= -1:=by
 cases b:dK l n with
 |false=>exact ln b
 |true=>obtain⟨a,e⟩:=yK b;exact absurd e (h _ (List.getElem_mem a))
theorem EK{l k:List Rf}(hl:eG l)(hk:eG k){n:List UInt8}(h:∀r:Rf,r.name=n→(r∈l↔r∈k)):bD l n=bD k n:=by
 cases a:dK l n with
 |false=>
  rw[ln a,get_none hk fun r g e=>?_];have:=(h r e).2 g;have d:=(o3 hl this).1;rw[e,a]at d;cases d
 |true=>
  obtain⟨b,c,f⟩:=oV a;rw[f];have:=(o3 hk ((h _ c).1 (List.getElem_mem b))).2;rw[c]at this;exact this.symm
theorem JA{l:List Rf}{m:List Mv}(h:mZ l m){n:List UInt8}{old id:Int}(hc:dB l n old id=0):mZ (kg l n id) (m++[⟨n,old,id⟩]):=by
 obtain⟨F,H,w,x,I⟩:=oH hc
 have fin : ∀ {k : List Rf}, eG k → (∀ r ∈ k, 0 ≤ r.id) → k.length ≤ 8 → (∀ r : Rf, r.name ≠ n → (r ∈ l ↔ r ∈ k)) → bD k n = id → mZ k (m ++ [⟨n, old, id⟩]) := fun d o E s z => ⟨d,o,E,fun q=>by
  rw[yD];show bD _ q=if n=q then id else getM m q
  split
  ·rename_i e;rw[←e];exact z
  ·rename_i e;rw[←h.get q];exact(EK h.sort d (fun r hr=>s r (fun v=>e (v.symm.trans hr)))).symm⟩
 unfold kg;split
 ·rename_i f;have hid:0≤id:=by rw[ln f]at w;omega
  refine fin (yX h.sort f) (fun r hr=>?_) ?_ (fun r hr=>?_) ?_
  ·rcases o5.1 hr with rfl|hr
   ·exact hid
   ·exact h.ids r hr
  ·rw[Fu];have:=h.len;have:¬l.length=8:=fun e=>x ⟨f,hid,e⟩;omega
  ·rw[o5];exact⟨.inr,fun h2=>h2.resolve_left fun e=>hr (by rw[e])⟩
  ·exact get_of_mem (yX h.sort f) (o5.2 (.inl rfl))
 ·rename_i f;rw[Bool.not_eq_false]at f;obtain⟨c,g,v⟩:=oV f;split
  ·rename_i hid
   have d:eG (l.take (a8 l n)++l.drop (a8 l n+1)):=by
    refine List.Pairwise.sublist ?_ h.sort;conv=>rhs;rw[←List.take_append_drop (a8 l n) l]
    exact List.Sublist.append (List.Sublist.refl _) (by rw[List.drop_eq_getElem_cons c];exact List.sublist_cons_self _ _)
   have s:∀r:Rf,r∈l↔r∈l.take (a8 l n)∨r=l[a8 l n]∨r∈l.drop (a8 l n+1):=fun r=>by
    conv=>lhs;rw[←List.take_append_drop (a8 l n) l,List.drop_eq_getElem_cons c,List.mem_append,List.mem_cons]
   refine fin d (fun r hr=>?_) ?_ (fun r hr=>?_) ?_
   ·refine h.ids r ((s r).2 ?_);rcases List.mem_append.1 hr with hr|hr
    ·exact .inl hr
    ·exact .inr (.inr hr)
   ·have:=h.len;simp;omega
   ·rw[s,List.mem_append];constructor
    ·rintro(h2|rfl|h2)
     ·exact .inl h2
     ·exact absurd g hr
     ·exact .inr h2
    ·rintro(h2|h2)
     ·exact .inl h2
     ·exact .inr (.inr h2)
   ·have p:id= -1:=by omega
    rw[p];refine get_none d fun r hr e=>?_;have o:=List.pairwise_iff_getElem.1 h.sort;rcases List.mem_append.1 hr with hr|hr
    ·have:=vn r hr;rw[e,l9]at this;cases this
    ·obtain⟨k,u,b⟩:=List.mem_iff_getElem.1 hr;rw[List.getElem_drop]at b;have:=o (a8 l n) (a8 l n+1+k) c (by rw[List.length_drop]at u;omega) (by omega);rw[b,g,e,l9]at this;cases this
  ·rename_i hid
   have d:eG (l.set (a8 l n) ⟨n,id⟩):=by
    refine List.pairwise_iff_getElem.2 fun i j o D t=>?_;have a:=List.pairwise_iff_getElem.1 h.sort i j (by simpa using o) (by simpa using D) t;rw[List.getElem_set,List.getElem_set];split
    ·rename_i b;subst b;rw[if_neg (by omega)];rw[g]at a;exact a
    ·split
     ·rename_i b;subst b;show Op.bytesLess _ n=true;rw[g]at a;exact a
     ·exact a
   refine fin d (fun r hr=>?_) (by rw[List.length_set];exact h.len) (fun r hr=>?_) (get_of_mem d (List.mem_set c _))
   ·rcases List.mem_or_eq_of_mem_set hr with hr|rfl
    ·exact h.ids r hr
    ·show 0≤id;omega
   ·constructor
    ·intro h2;obtain⟨k,u,b⟩:=List.mem_iff_getElem.1 h2;refine List.mem_iff_getElem.2 ⟨k,by simpa using u,?_⟩;rw[List.getElem_set,if_neg (fun y=>hr (by subst y;rw[←b];exact g))];exact b
    ·intro h2;exact(List.mem_or_eq_of_mem_set h2).resolve_right fun e=>hr (by rw[e])
theorem gg.inv{l:List Rf}{m:List Mv}(h:gg l m):mZ l m:=by
 induction h with
 |nil=>exact⟨.nil,fun r h=>(by cases h),by decide,fun n=>rfl⟩
 |snoc _ a ih=>exact JA ih a
end Go.Nest
end
