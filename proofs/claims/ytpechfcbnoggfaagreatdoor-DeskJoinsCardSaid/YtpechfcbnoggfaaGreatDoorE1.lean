import Derived.Test.YtpechfcbnoggfaaGreatDoorV36
import Derived.Lib.Bytealg
import Derived.Test.YtpechfcbnoggfaaGreatDoorAmH
set_option maxHeartbeats 2000000
set_option linter.unusedVariables false
set_option linter.unusedSimpArgs false
open BitVec renaming ofInt->bb
open Bool renaming and_eq_true->bl,or_eq_true->br
open Decidable renaming not_not->cb
open Function renaming comp_def->a4
open List renaming pairwise_cons->J,mem_cons->M,getElem?_eq_getElem->N,length_append->O,drop_eq_getElem_cons->P,length_cons->Q,length_nil->R,mem_append->S,take_append_drop->T,pairwise_iff_getElem->U,take_succ_eq_append_getElem->W,mem_iff_getElem->ac,count_cons->ad,drop_of_length_le->ah,length_drop->al,takeWhile_append_dropWhile->am,append_nil->ap,pairwise_append->ar,takeWhile_cons->a0,mem_singleton->a1,isPrefixOf_iff_prefix->a2,append_assoc->a3,mem_or_eq_of_mem_set->a5,length_take->a6,getElem_set->a9,getElem?_eq_none->bi,foldl_append->bj,take_length->bn,getElem_mem->bp,mem_filter->b0
open List.Pairwise renaming sublist->bh
open List.Sublist renaming append->b4,refl->cd
open Nat renaming zero_le->bk,min_eq_left->b1
open Ne renaming symm->b2
open UInt8 renaming toNat_inj->Z,lt_iff_toNat_lt->be,ofNat->b3
section
namespace Go.Nest
open Go Go.AM
theorem mV:∀{a:List UInt8},Op.bytesLess a a=false
 |[]=>rfl
 |x::a=>by simp[Op.bytesLess,mV (a:=a)]
theorem lO:∀{a b c:List UInt8},Op.bytesLess a b=true->Op.bytesLess b c=true->Op.bytesLess a c=true
 |_,_,[],_,h=>by cases‹List UInt8›<;>simp[Op.bytesLess]at h
 |_,[],_::_,h,_=>by simp[Op.bytesLess]at h
 |[],_::_,_::_,_,_=>rfl
 |x::a,y::b,z::c,e,d=>by
  simp only[Op.bytesLess,br,bl,decide_eq_true_iff,beq_iff_eq]at e d⊢;rcases e with e|⟨rfl,e⟩
  ·rcases d with d|⟨rfl,d⟩
   ·exact .inl (UInt8.lt_trans e d)
   ·exact .inl e
  ·rcases d with d|⟨rfl,d⟩
   ·exact .inl d
   ·exact .inr ⟨rfl,lO e d⟩
theorem vq:∀(a b:List UInt8),Op.bytesLess a b=true\/a=b\/Op.bytesLess b a=true
 |[],[]=>.inr (.inl rfl)
 |[],_::_=>.inl rfl
 |_::_,[]=>.inr (.inr rfl)
 |x::a,y::b=>by
  simp only[Op.bytesLess,br,bl,decide_eq_true_iff,beq_iff_eq,List.cons.injEq];rcases Nat.lt_trichotomy x.toNat y.toNat with h|h|h
  ·exact .inl (.inl (be.2 h))
  ·have:x=y:=Z.1 h;subst this;rcases vq a b with h|h|h
   ·exact .inl (.inr ⟨rfl,h⟩)
   ·exact .inr (.inl ⟨rfl,h⟩)
   ·exact .inr (.inr (.inr ⟨rfl,h⟩))
  ·exact .inr (.inr (.inl (be.2 h)))
theorem GZ{a b:List UInt8}(h:Op.bytesLess a b=true):Op.bytesLess b a=false:=by
 cases c:Op.bytesLess b a with
 |false=>rfl
 |true=>have:=lO h c;rw[mV]at this;cases this
def aG:List UInt8->List (List UInt8)
 |[]=>[[]]
 |c::r=>if c=47 then[]::aG r else match aG r with
  |x::a=>(c::x)::a
  |[]=>[[c]]
theorem pY:∀l:List UInt8,aG l≠[]
 |[]=>by simp[aG]
 |c::r=>by
  unfold aG;split
  ·simp
  ·split<;>simp
theorem yk:∀l:List UInt8,(aG l).length=l.count 47+1
 |[]=>rfl
 |c::r=>by
  have h:=yk r;unfold aG;rw[ad];split
  ·rename_i e;subst e;simp[h]
  ·rename_i e;have:(c==47)=false:=by simpa using e
   rw[this];split
   ·rename_i x b a;rw[a]at h;simpa using h
   ·rename_i a;exact absurd a (pY r)
theorem oL:∀{l:List UInt8},l.count 47=0->aG l=[l]
 |[],_=>rfl
 |c::r,h=>by
  rw[ad]at h;have a:=oL (l:=r) (by omega);unfold aG;rw[if_neg (λe=>by subst e;simp at h),a]
theorem wR:∀{l:List UInt8},0<l.count 47->∃m:Nat,Lib.indexByte l 47=m/\m<l.length/\aG l=l.take m::aG (l.drop (m+1))/\(l.drop (m+1)).count 47+1=l.count 47
 |[],h=>by simp at h
 |c::r,h=>by
  by_cases e:c=47
  ·subst e;exact⟨0,by simp[Lib.indexByte],by simp,by simp[aG],by simp⟩
  ·rw[ad]at h;have a:(c==47)=false:=by simpa using e
   rw[a]at h;obtain⟨m,b,g,d,f⟩:=wR (l:=r) (by simpa using h);refine⟨m+1,?_,by simp;omega,?_,?_⟩
   ·unfold Lib.indexByte;rw[a,b];have:((m:Int)== -1)=false:=by simp
    simp[this]
   ·conv=>lhs;unfold aG
    rw[if_neg e,d];simp
   ·rw[List.drop_succ_cons,f,ad,a];rfl
theorem wQ:∀{l:List UInt8},l.count 47=0->Lib.indexByte l 47= -1
 |[],_=>rfl
 |c::r,h=>by
  rw[ad]at h;unfold Lib.indexByte;rw[wQ (l:=r) (by omega)]
  have:(c==47)=false:=by
   cases a:c==47 with
   |false=>rfl
   |true=>rw[a]at h;simp at h
  rw[this];rfl
theorem pX:∀(a b:List UInt8),aG (a++47::b)=aG a++aG b
 |[],b=>by simp[aG]
 |c::a,b=>by
  have h:=pX a b;have e:∀r,aG (c::r)=if c=47 then[]::aG r else match aG r with|x::d=>(c::x)::d|[]=>[[c]]:=λ_=>rfl
  rw[List.cons_append,e,e,h];split
  ·rfl
  ·cases f:aG a with
   |nil=>exact absurd f (pY a)
   |cons x d=>rfl
def bZ:List (List UInt8)->List UInt8
 |[]=>[]
 |[x]=>x
 |x::y::r=>x++47::bZ (y::r)
theorem mK:∀l:List UInt8,bZ (aG l)=l
 |[]=>rfl
 |c::r=>by
  have h:=mK r;unfold aG;split
  ·rename_i e;subst e;cases a:aG r with
   |nil=>exact absurd a (pY r)
   |cons x b=>rw[a]at h;simp[bZ,h]
  ·cases a:aG r with
   |nil=>exact absurd a (pY r)
   |cons x b=>
    rw[a]at h;cases b with
    |nil=>simp[bZ]at h⊢;exact h
    |cons y d=>simp[bZ]at h⊢;exact h
theorem Ou{a b:List UInt8}(h:aG a=aG b):a=b:=by rw[<-mK a,h,mK]
def cw:List (List UInt8)->List (List UInt8)->Bool
 |[],[]=>false
 |[],_::_=>true
 |_::_,[]=>false
 |x::r,y::q=>if x=y then cw r q else Op.bytesLess x y
def aw(a b:List UInt8):Bool:=cw (aG a) (aG b)
theorem CG:∀{x:List (List UInt8)},cw x x=false
 |[]=>rfl
 |x::r=>by simp[cw,CG (x:=r)]
theorem CI:∀{a b c:List (List UInt8)},cw a b=true->cw b c=true->cw a c=true
 |[],[],_,h,_=>by simp[cw]at h
 |[],_::_,[],_,h=>by simp[cw]at h
 |[],_::_,_::_,_,_=>rfl
 |_::_,[],_,h,_=>by simp[cw]at h
 |_::_,_::_,[],_,h=>by simp[cw]at h
 |x::a,y::b,z::c,f,d=>by
  unfold cw at f d⊢;split at f
  ·rename_i e;subst e;split at d
   ·rename_i e;subst e;rw[if_pos rfl];exact CI f d
   ·rename_i e;rw[if_neg e];exact d
  ·rename_i e;split at d
   ·rename_i g;subst g;rw[if_neg e];exact f
   ·have:=lO f d;rw[if_neg (λi=>by subst i;rw[mV]at this;cases this)];exact this
theorem CJ:∀(a b:List (List UInt8)),cw a b=true\/a=b\/cw b a=true
 |[],[]=>.inr (.inl rfl)
 |[],_::_=>.inl rfl
 |_::_,[]=>.inr (.inr rfl)
 |x::a,y::b=>by
  by_cases e:x=y
  ·subst e;rcases CJ a b with h|h|h
   ·exact .inl (by simp[cw,h])
   ·exact .inr (.inl (by rw[h]))
   ·exact .inr (.inr (by simp[cw,h]))
  ·rcases vq x y with h|h|h
   ·exact .inl (by simp[cw,e,h])
   ·exact absurd h e
   ·exact .inr (.inr (by simp[cw,b2 e,h]))
theorem CH:∀(a:List (List UInt8)) {b:List (List UInt8)},b≠[]->cw a (a++b)=true
 |[],b,h=>by cases b with|nil=>exact absurd rfl h|cons _ _=>rfl
 |x::a,b,h=>by simp[cw,CH a h]
theorem mg{a:List UInt8}:aw a a=false:=CG
theorem jc{a b c:List UInt8}(h1:aw a b=true)(h2:aw b c=true):aw a c=true:=CI h1 h2
theorem ll{a b:List UInt8}(h:aw a b=true):aw b a=false:=by
 cases c:aw b a with
 |false=>rfl
 |true=>have:=jc h c;rw[mg]at this;cases this
theorem ix(a b:List UInt8):aw a b=true\/a=b\/aw b a=true:=
 (CJ (aG a) (aG b)).imp id (Or.imp Ou id)
def under(p d:List UInt8):Option (List UInt8):=if(d++[47]).isPrefixOf p=true then some (p.drop (d.length+1))else none
theorem jn{p d r:List UInt8}(h:under p d=some r):p=d++47::r:=by
 unfold under at h;split at h
 ·rename_i a;cases h;rw[a2]at a;obtain⟨t,rfl⟩:=a;simp
 ·cases h
theorem mJ{d r:List UInt8}:under (d++47::r) d=some r:=by
 unfold under;rw[if_pos (by rw[a2];exact⟨r,by simp⟩)];simp
theorem xh{p d r:List UInt8}(h:under p d=some r):aw d p=true:=by
 rw[jn h];unfold aw;rw[pX];exact CH _ (pY r)
def du:Fi:=⟨[],0,0,0⟩
def eC(l:List Fi)(p:List UInt8):Fi×Bool:=match l.find? λf=>decide (f.path=p)with
 |some f=>(f,true)
 |none=>(du,false)
def ke(l:List Fi)(p:List UInt8):Fi:=(eC l p).1
def j7{α:Type}(k:α->List UInt8)(l:List α):Prop:=l.Pairwise λx y=>aw (k x) (k y)=true
theorem jH{a b:List UInt8}(h:aw a b=true):a≠b:=λe=>by rw[e,mg]at h;cases h
theorem yc{α:Type}{k:α->List UInt8}:∀{l m:List α},j7 k l->j7 k m->(∀x,x∈l↔x∈m)->l=m
 |[],[],_,_,_=>rfl
 |[],y::m,_,_,h=>by have:=(h y).2 (by simp);cases this
 |x::l,[],_,_,h=>by have:=(h x).1 (by simp);cases this
 |x::l,y::m,g,i,h=>by
  obtain⟨b,d⟩:=J.1 g;obtain⟨c,f⟩:=J.1 i
  have e:x=y:=by
   rcases M.1 ((h x).1 (by simp))with e|hx
   ·exact e
   rcases M.1 ((h y).2 (by simp))with e|hy
   ·exact e.symm
   have:=ll (b y hy);rw[c x hx]at this;cases this
  subst e;congr 1
  refine yc d f λz=>⟨λa=>?_,λa=>?_⟩
  ·rcases M.1 ((h z).1 (by simp[a]))with rfl|h5
   ·exact absurd rfl (jH (b _ a))
   ·exact h5
  ·rcases M.1 ((h z).2 (by simp[a]))with rfl|h5
   ·exact absurd rfl (jH (c _ a))
   ·exact h5
theorem zE{x:Fi}{l:List Fi}{p:List UInt8}:ke (x::l) p=if x.path=p then x else ke l p:=by
 unfold ke eC;rw[List.find?_cons];by_cases h:x.path=p<;>simp[h]
theorem zG:∀{l:List Fi} {p:List UInt8},(∀f∈l,f.path≠p)->ke l p=du
 |[],_,_=>rfl
 |x::l,p,h=>by rw[zE,if_neg (h x (by simp)),zG λf a=>h f (by simp[a])]
theorem zF:∀{l:List Fi} {p:List UInt8},(∃f∈l,f.path=p)->ke l p∈l/\(ke l p).path=p
 |[],_,⟨f,h,_⟩=>by cases h
 |x::l,p,⟨f,h,e⟩=>by
  rw[zE];split
  ·exact⟨by simp,by assumption⟩
  ·rcases M.1 h with rfl|h
   ·contradiction
   ·obtain⟨a,b⟩:=zF ⟨f,h,e⟩;exact⟨by simp[a],b⟩
theorem Gf(l:List Fi)(p:List UInt8):(ke l p=du/\∀f∈l,f.path≠p)\/(ke l p∈l/\(ke l p).path=p):=by
 by_cases h:∃f∈l,f.path=p
 ·exact .inr (zF h)
 ·have h:∀f∈l,f.path≠p:=λf a e=>h ⟨f,a,e⟩;exact .inl ⟨zG h,h⟩
def bT:List Fi->List Fi->List Ch
 |[],[]=>[]
 |a::c,[]=>⟨a.path,a,du⟩::bT c []
 |[],b::d=>⟨b.path,du,b⟩::bT [] d
 |a::c,b::d=>if aw a.path b.path=true then⟨a.path,a,du⟩::bT c (b::d)else if aw b.path a.path=true then⟨b.path,du,b⟩::bT (a::c) d
  else if a≠b then⟨a.path,a,b⟩::bT c d else bT c d
termination_by a b=>a.length+b.length
structure Fz(l:List Fi):Prop where
 ris:j7 (·.path) l
 md:∀f∈l,f.mode≠0
def Ky(a b:List Fi)(p:List UInt8):Prop:=(∃f∈a,f.path=p)\/∃f∈b,f.path=p
structure Told(a b:List Fi)(c:Ch):Prop where
 key:Ky a b c.path
 old:c.old=ke a c.path
 new:c.new=ke b c.path
 ne:c.old≠c.new
def eQ(f:Fi)(out:List Fi):List Fi:=out.takeWhile (λg=> !aw f.path g.path)++f::out.dropWhile (λg=> !aw f.path g.path)
def aH(l:List Fi):List Fi:=l.foldl (λout f=>eQ f out) []
def Wk(l:List Fi):Prop:=l.Pairwise λx y=>aw y.path x.path=false
theorem Cb(f:Fi)(out:List Fi):(eQ f out).Perm (f::out):=by
 unfold eQ;refine List.perm_middle.trans (.cons f ?_);rw[am]
theorem wV{f:Fi}:∀{out:List Fi},Wk out->Wk (eQ f out)
 |[],_=>by simp[eQ,Wk]
 |g::out,h=>by
  obtain⟨b,d⟩:=J.1 h;by_cases a:aw f.path g.path=true
  ·have:eQ f (g::out)=f::g::out:=by simp[eQ,a]
   rw[this];refine J.2 ⟨λy hy=>?_,h⟩;rcases M.1 hy with rfl|hy
   ·exact ll a
   ·have c:=b y hy;rcases ix g.path y.path with h4|h4|h4
    ·exact ll (jc a h4)
    ·rw[<-h4];exact ll a
    ·rw[h4]at c;cases c
  ·rw[Bool.not_eq_true]at a;have:eQ f (g::out)=g::eQ f out:=by simp[eQ,a]
   rw[this];refine J.2 ⟨λy hy=>?_,wV d⟩;rcases M.1 ((Cb f out).mem_iff.1 hy)with rfl|hy
   ·exact a
   ·exact b y hy
theorem wT:∀(l out:List Fi),Wk out->Wk (l.foldl (λout f=>eQ f out) out)/\(l.foldl (λout f=>eQ f out) out).Perm (l++out)
 |[],out,h=>⟨h,.refl _⟩
 |f::l,out,h=>by
  obtain⟨a,b⟩:=wT l (eQ f out) (wV h);refine⟨a,b.trans ?_⟩;exact((Cb f out).append_left l).trans List.perm_middle
theorem kz(l:List Fi):Wk (aH l):=(wT l [] .nil).1
theorem fS(l:List Fi):(aH l).Perm l:=by have:=(wT l [] .nil).2;rwa[ap]at this
theorem wU{l:List Fi}(h:l.Pairwise λx y=>x.path≠y.path):j7 (·.path) (aH l):=by
 have b:=kz l;have c:(aH l).Pairwise λx y=>x.path≠y.path:=(fS l).symm.pairwise h (λ{x y} h=>b2 h);refine(b.and c).imp λ{x y} ⟨a,d⟩=>?_;rcases ix x.path y.path with h|h|h
 ·exact h
 ·exact absurd h d
 ·rw[h]at a;cases a
def iS:Option (List UInt8)->List Fi->List (List UInt8)
 |_,[]=>[]
 |a,f::r=>if a=some f.path then iS (some f.path) r else f.path::iS (some f.path) r
theorem AV:∀{l:List Fi} {p:List UInt8},Wk l->(∀f∈l,aw f.path p=false)->j7 id (iS (some p) l)/\∀q,q∈iS (some p) l↔q≠p/\∃f∈l,f.path=q
 |[],p,_,_=>⟨.nil,λq=>⟨λh=>(by cases h),λ⟨_,f,c,_⟩=>by cases c⟩⟩
 |f::r,p,h,u=>by
  obtain⟨d,t⟩:=J.1 h;obtain⟨n,i⟩:=AV (p:=f.path) t d;have c:=u f (by simp);unfold iS;split
  ·rename_i e;have e:p=f.path:=by simpa using e
   refine⟨n,λq=>?_⟩;rw[i,e];refine and_congr_right λk=>⟨λ⟨g,hg,a⟩=>⟨g,by simp[hg],a⟩,λ⟨g,hg,a⟩=>?_⟩;rcases M.1 hg with o|hg
   ·rw[o]at a;exact absurd a.symm k
   ·exact⟨g,hg,a⟩
  ·rename_i e;have e:p≠f.path:=by simpa using e
   have b:aw p f.path=true:=by
    rcases ix p f.path with h|h|h
    ·exact h
    ·exact absurd h e
    ·rw[h]at c;cases c
   have s:∀g∈r,aw p g.path=true:=λg hg=>by
    have:=d g hg;rcases ix f.path g.path with h|h|h
    ·exact jc b h
    ·rw[<-h];exact b
    ·rw[h]at this;cases this
   refine⟨J.2 ⟨λq k=>?_,n⟩,λq=>?_⟩
   ·obtain⟨j,g,hg,rfl⟩:=(i q).1 k;have:=d g hg;rcases ix f.path g.path with h|h|h
    ·exact h
    ·exact absurd h.symm j
    ·rw[h]at this;cases this
   ·rw[M,i];constructor
    ·rintro(rfl|⟨j,g,hg,rfl⟩)
     ·exact⟨b2 e,f,by simp,rfl⟩
     ·exact⟨b2 (jH (s g hg)),g,by simp[hg],rfl⟩
    ·rintro⟨j,g,hg,rfl⟩;rcases M.1 hg with rfl|hg
     ·exact .inl rfl
     ·by_cases m:g.path=f.path
      ·exact .inl m
      ·exact .inr ⟨m,g,hg,rfl⟩
theorem AW{l:List Fi}(h:Wk l):j7 id (iS none l)/\∀q,q∈iS none l↔∃f∈l,f.path=q:=by
 cases l with
 |nil=>exact⟨.nil,λq=>⟨λh=>(by cases h),λ⟨f,j,_⟩=>by cases j⟩⟩
 |cons f r=>
  obtain⟨b,e⟩:=J.1 h;obtain⟨i,c⟩:=AV (p:=f.path) e b;have:iS none (f::r)=f.path::iS (some f.path) r:=by rw[iS,if_neg (by simp)]
  rw[this];refine⟨J.2 ⟨λq k=>?_,i⟩,λq=>?_⟩
  ·obtain⟨d,g,hg,rfl⟩:=(c q).1 k;have:=b g hg;rcases ix f.path g.path with h|h|h
   ·exact h
   ·exact absurd h.symm d
   ·rw[h]at this;cases this
  ·rw[M,c];constructor
   ·rintro(rfl|⟨d,g,hg,rfl⟩)
    ·exact⟨f,by simp,rfl⟩
    ·exact⟨g,by simp[hg],rfl⟩
   ·rintro⟨g,hg,rfl⟩;rcases M.1 hg with rfl|hg
    ·exact .inl rfl
    ·by_cases a:g.path=f.path
     ·exact .inl a
     ·exact .inr ⟨a,g,hg,rfl⟩
def dE(l:List (List Fi)):List (List UInt8):=iS none (aH l.flatten)
def ik(p:List UInt8)(l:List Fi):List Fi:=l.filter λf=>decide (f.path=p)
theorem nZ(p:List UInt8)(a b:List Fi):ik p (a++b)=ik p a++ik p b:=List.filter_append ..
theorem mS(p:List UInt8)(f:Fi)(l:List Fi):ik p (f::l)=(if f.path=p then[f]else[])++ik p l:=by
 unfold ik;rw[List.filter_cons];by_cases h:f.path=p<;>simp[h]
theorem vf{p:List UInt8}{l:List Fi}(h:∀f∈l,f.path≠p):ik p l=[]:=by
 unfold ik;rw[List.filter_eq_nil_iff];intro f a;simpa using h f a
def db(a b:List Fi):Prop:=∀p,ik p a=ik p b
theorem db.refl(a:List Fi):db a a:=λ_=>rfl
theorem db.symm{a b:List Fi}(h:db a b):db b a:=λp=>(h p).symm
theorem db.trans{a b c:List Fi}(h:db a b)(g:db b c):db a c:=λp=>(h p).trans (g p)
theorem db.app{a b c d:List Fi}(h:db a b)(g:db c d):db (a++c) (b++d):=λp=>by rw[nZ,nZ,h p,g p]
theorem db.mem{a b:List Fi}(h:db a b){f:Fi}(c:f∈a):f∈b:=by
 have:f∈ik f.path a:=b0.2 ⟨c,by simp⟩;rw[h]at this;exact(b0.1 this).1
theorem db.swap{a b:List Fi}(h:∀x∈a,∀y∈b,x.path≠y.path):db (a++b) (b++a):=λp=>by
 rw[nZ,nZ];by_cases d:∃x∈a,x.path=p
 ·obtain⟨x,c,e⟩:=d;rw[vf (l:=b) λy g f=>h x c y g (e.trans f.symm)];simp
 ·rw[vf (l:=a) λx c e=>d ⟨x,c,e⟩];simp
theorem yK{x:Fi}{l:List Fi}(h:Wk (x::l)):∀y∈l,aw y.path x.path=false:=(J.1 h).1
theorem ES:∀{a b:List Fi},Wk a->Wk b->db a b->a=b
 |[],[],_,_,_=>rfl
 |[],y::b,_,_,h=>by have:=h y.path;rw[mS,if_pos rfl]at this;simp[ik]at this
 |x::a,[],_,_,h=>by have:=h x.path;rw[mS,if_pos rfl]at this;simp[ik]at this
 |x::a,y::b,d,hb,h=>by
  have hx:x∈y::b:=h.mem (by simp);have hy:y∈x::a:=h.symm.mem (by simp)
  have e:x.path=y.path:=by
   rcases ix x.path y.path with h1|h1|h1
   ·exfalso;rcases M.1 hx with e|hx
    ·rw[e,mg]at h1;cases h1
    ·rw[yK hb x hx]at h1;cases h1
   ·exact h1
   ·exfalso;rcases M.1 hy with e|hy
    ·rw[e,mg]at h1;cases h1
    ·rw[yK d y hy]at h1;cases h1
  have h1:=h x.path;rw[mS,mS,if_pos rfl,if_pos e.symm]at h1;have f:=List.cons.inj h1;obtain rfl:=f.1;congr 1
  refine ES (J.1 d).2 (J.1 hb).2 λp=>?_;have c:=h p;rw[mS,mS]at c;exact List.append_cancel_left c
theorem Kk{f:Fi}:∀{out:List Fi},Wk out->db (eQ f out) (out++[f]):=by
 intro out k p;unfold eQ;have a:=am (p:=λg:Fi=> !aw f.path g.path) (l:=out)
 have j:∀y∈out.dropWhile (λg:Fi=> !aw f.path g.path),aw f.path y.path=true:=by
  cases b:out.dropWhile (λg:Fi=> !aw f.path g.path)with
  |nil=>intro y hy;cases hy
  |cons z r=>
   have d:aw f.path z.path=true:=by
    have:=List.head?_dropWhile_not (λg:Fi=> !aw f.path g.path) out;rw[b]at this;simpa using this
   have c:Wk (z::r):=by rw[<-b];exact bh (List.dropWhile_sublist _) k
   intro y hy;rcases M.1 hy with rfl|hy
   ·exact d
   ·have h:=yK c y hy;rcases ix z.path y.path with h2|h2|h2
    ·exact jc d h2
    ·rw[<-h2];exact d
    ·rw[h2]at h;cases h
 conv=>rhs;rw[<-a]
 rw[nZ,nZ,nZ,mS,a3];congr 1
 have h2:ik p [f]=if f.path=p then[f]else[]:=by rw[mS];simp[ik]
 rw[h2];by_cases e:f.path=p
 ·rw[if_pos e,vf (l:=out.dropWhile _) λy hy i=>jH (j y hy) (e.trans i.symm)];simp
 ·rw[if_neg e];simp
theorem pw(l:List Fi):db (aH l) l:=by
 have a:∀(l out:List Fi),Wk out->db (l.foldl (λout f=>eQ f out) out) (out++l):=by
  intro l;induction l with
  |nil=>intro out _;rw[ap];exact .refl _
  |cons f l ih=>
   intro out h;refine(ih (eQ f out) (wV h)).trans ?_;rw[show out++f::l=(out++[f])++l by simp];exact(Kk h).app (.refl l)
 exact a l [] .nil
theorem qV{a l:List Fi}(h:Wk a)(b:db a l):a=aH l:=ES h (kz l) (b.trans (pw l).symm)
theorem tl{a:List Fi}(h:Wk a):aH a=a:=(qV h (.refl a)).symm
theorem B8(a b:List Fi):aH (aH a++aH b)=aH (a++b):=qV (kz _) ((pw _).trans ((pw a).app (pw b)))
theorem iY(l:List Fi):(aH l).length=l.length:=(fS l).length_eq
theorem J4(l:List Fi)(f:Fi):aH (l++[f])=eQ f (aH l):=by unfold aH;rw[bj];rfl
theorem yJ{a b:List Fi}(c:Wk a)(hb:Wk b)(h:∀x∈a,∀y∈b,aw y.path x.path=false):Wk (a++b):=ar.2 ⟨c,hb,h⟩
theorem qc{a b:List Fi}(h:Wk (a++b)):Wk a/\Wk b/\∀x∈a,∀y∈b,aw y.path x.path=false:=ar.1 h
theorem le_trans'{x y z:List UInt8}(h1:aw y x=false)(h2:aw z y=false):aw z x=false:=by
 cases h:aw z x with
 |false=>rfl
 |true=>
  rcases ix y z with h3|h3|h3
  ·have:=jc h3 h;rw[h1]at this;cases this
  ·rw[<-h3,h1]at h;cases h
  ·rw[h2]at h3;cases h3
theorem xr{x y z:List UInt8}(h1:aw x y=true)(h2:aw z y=false):aw x z=true:=by
 rcases ix y z with h3|h3|h3
 ·exact jc h1 h3
 ·rw[<-h3];exact h1
 ·rw[h2]at h3;cases h3
theorem KR{x y z:List UInt8}(h1:aw y x=false)(h2:aw y z=true):aw x z=true:=by
 rcases ix x y with h3|h3|h3
 ·exact jc h3 h2
 ·rw[h3];exact h2
 ·rw[h1]at h3;cases h3
theorem MA{x:Fi}{Y:List Fi}{k:Nat}(d:Wk Y)(h1:∀y∈Y.take k,aw y.path x.path=true)(h2:∀y∈Y.drop k,aw y.path x.path=false):Y.take k++x::Y.drop k=aH ([x]++Y):=by
 have e:=T k Y;rw[<-e]at d;obtain⟨f,g,h⟩:=qc d;refine qV (yJ f (J.2 ⟨h2,g⟩) λa c b hb=>?_) ?_
 ·rcases M.1 hb with rfl|hb
  ·exact ll (h1 a c)
  ·exact h a c b hb
 ·rw[show Y.take k++x::Y.drop k=(Y.take k++[x])++Y.drop k by simp];conv=>rhs;rw[<-e,<-a3]
  refine db.app (db.swap λa c b hb=>?_) (.refl _);rw[a1]at hb;subst hb;exact jH (h1 a c)
theorem Mz{y:Fi}{X:List Fi}{k:Nat}(d:Wk X)(h1:∀x∈X.take k,aw y.path x.path=false)(h2:∀x∈X.drop k,aw y.path x.path=true):X.take k++y::X.drop k=aH (X++[y]):=by
 have e:=T k X;rw[<-e]at d;obtain⟨f,g,h⟩:=qc d;refine qV (yJ f (J.2 ⟨λb hb=>ll (h2 b hb),g⟩) λa c b hb=>?_) ?_
 ·rcases M.1 hb with rfl|hb
  ·exact h1 a c
  ·exact h a c b hb
 ·rw[show X.take k++y::X.drop k=X.take k++([y]++X.drop k)by simp];conv=>rhs;rw[<-e,a3]
  refine db.app (.refl _) (db.swap λa c b hb=>?_);rw[a1]at c;subst c;exact jH (h2 b hb)
theorem Pe{X1 X2 Y1 Y2:List Fi}(e:Wk (X1++X2))(f:Wk (Y1++Y2))(h1:∀x∈X2,∀y∈Y1,aw y.path x.path=true)(h2:∀x∈X1,∀y∈Y2,aw y.path x.path=false):
  aH (X1++Y1)++aH (X2++Y2)=aH ((X1++X2)++(Y1++Y2)):=by
 obtain⟨h,i,c⟩:=qc e;obtain⟨j,k,d⟩:=qc f;refine qV (yJ (kz _) (kz _) λu hu v hv=>?_) ?_
 ·have hu:=(fS _).mem_iff.1 hu;have hv:=(fS _).mem_iff.1 hv;rcases S.1 hu with hu|hu<;>rcases S.1 hv with hv|hv
  ·exact c u hu v hv
  ·exact h2 u hu v hv
  ·exact ll (h1 v hv u hu)
  ·exact d u hu v hv
 ·refine((pw _).app (pw _)).trans ?_;rw[show(X1++Y1)++(X2++Y2)=X1++((Y1++X2)++Y2)by simp,show(X1++X2)++(Y1++Y2)=X1++((X2++Y1)++Y2)by simp];exact db.app (.refl _) (db.app (db.swap λa g b hb=>jH (h1 b hb a g)) (.refl _))
def cK(bs:Nat)(d:List Fi):List Fi:=if h:d.length<=bs\/bs=0 then aH d else aH (d.take bs)++cK bs (d.drop bs)
termination_by d.length
decreasing_by rw[al];omega
theorem mI{bs:Nat}{d:List Fi}(h:d.length<=bs):cK bs d=aH d:=by rw[cK,dif_pos (.inl h)]
theorem rN{bs:Nat}{d:List Fi}(hb:0<bs)(h:bs<=d.length):cK bs d=aH (d.take bs)++cK bs (d.drop bs):=by
 by_cases e:d.length<=bs
 ·rw[mI e,List.take_of_length_le e,ah e,mI (by simp)];rw[show aH []=[]from rfl,ap]
 ·conv=>lhs;rw[cK,dif_neg (by omega)]
theorem EN:∀(n bs:Nat) (d:List Fi),d.length<=n->(cK bs d).length=d.length:=by
 intro n;induction n with
 |zero=>intro bs d h;rw[mI (by omega),iY]
 |succ n ih=>
  intro bs d h;by_cases e:d.length<=bs\/bs=0
  ·rw[cK,dif_pos e,iY]
  ·rw[cK,dif_neg e,O,iY,ih bs _ (by rw[al];omega),a6,al];omega
def oc(a b:List UInt8):Int:=if Op.bytesLess a b=true then-1 else if a=b then 0 else 1
theorem Aw{a b:List UInt8}:oc a b<0↔Op.bytesLess a b=true:=by
 unfold oc;split
 ·rename_i h;simp[h]
 ·rename_i h;split<;>simp[h]
theorem HD{a b:List UInt8}(h:Op.bytesLess a b=false):oc a b=0↔a=b:=by
 unfold oc;rw[if_neg (by simp[h])];split
 ·rename_i c;simp[c]
 ·rename_i c;simp[c]
def fa(l:List Rf):Prop:=l.Pairwise λa b=>Op.bytesLess a.name b.name=true
def bw(l:List Rf)(n:List UInt8):Nat:=(l.takeWhile λr=>Op.bytesLess r.name n).length
def ey(l:List Rf)(n:List UInt8):Bool:=decide ((l[bw l n]?).map (·.name)=some n)
def cm(l:List Rf)(n:List UInt8):Int:=match l[bw l n]? with|some r=>if r.name=n then r.id else-1|none=> -1
theorem xU{l:List Rf}{n:List UInt8}:bw l n<=l.length:=(List.takeWhile_sublist _).length_le
theorem xT{l:List Rf}{n:List UInt8}{k:Nat}(hk:k<=l.length)(h1:∀g∈l.take k,Op.bytesLess g.name n=true)(h2:∀h:k<l.length,Op.bytesLess l[k].name n=false):bw l n=k:=by
 unfold bw;rw[(uF (p:=λr:Rf=>Op.bytesLess r.name n) hk h1 h2).1,a6,b1 hk]
theorem xV{n:List UInt8}:∀{l:List Rf},∀g∈l.take (bw l n),Op.bytesLess g.name n=true
 |[],g,h=>by simp at h
 |x::l,g,h=>by
  unfold bw at h;rw[a0]at h;split at h
  ·rename_i a;rw[Q,List.take_succ_cons]at h;rcases M.1 h with rfl|h
   ·exact a
   ·exact xV g h
  ·simp at h
theorem DO{n:List UInt8}:∀{l:List Rf} (h:bw l n<l.length),Op.bytesLess l[bw l n].name n=false
 |[],h=>by simp at h
 |x::l,h=>by
  by_cases a:Op.bytesLess x.name n=true
  ·have e:bw (x::l) n=bw l n+1:=by unfold bw;rw[a0,if_pos a];rfl
   have b:bw l n<l.length:=by rw[e]at h;simpa using h
   simp only[e,List.getElem_cons_succ];exact DO b
  ·have e:bw (x::l) n=0:=by unfold bw;rw[a0,if_neg a];rfl
   simp only[e,List.getElem_cons_zero];simpa using a
theorem BX{l:List Rf}{n:List UInt8}(h:ey l n=true):∃a:bw l n<l.length,l[bw l n].name=n:=by
 unfold ey at h;rw[decide_eq_true_iff]at h;by_cases a:bw l n<l.length
 ·refine⟨a,?_⟩;rw[N a]at h;simpa using h
 ·rw[bi (by omega)]at h;cases h
theorem BY{l:List Rf}{n:List UInt8}(h:ey l n=false)(a:bw l n<l.length):l[bw l n].name≠n:=λe=>by
 unfold ey at h;rw[decide_eq_false_iff_not,N a]at h;exact h (by simp[e])
theorem qS{l:List Rf}{n:List UInt8}(h:ey l n=true):∃a:bw l n<l.length,l[bw l n].name=n/\cm l n=l[bw l n].id:=by
 obtain⟨a,e⟩:=BX h;refine⟨a,e,?_⟩;unfold cm;rw[N a];simp[e]
theorem np{l:List Rf}{n:List UInt8}(h:ey l n=false):cm l n= -1:=by
 unfold cm;by_cases a:bw l n<l.length
 ·rw[N a];simp[BY h a]
 ·rw[bi (by omega)]
theorem MR{l:List Rf}(b:fa l){i:Nat}(hi:i<l.length):bw l l[i].name=i:=by
 refine xT (by omega) (λg a=>?_) (λ_=>mV);obtain⟨k,c,e⟩:=List.mem_take_iff_getElem.1 a;subst e;exact U.1 b k i (by omega) hi (by omega)
theorem tg{l:List Rf}(c:fa l){r:Rf}(h:r∈l):ey l r.name=true/\cm l r.name=r.id:=by
 obtain⟨i,a,e⟩:=ac.1 h;subst e;have b:=MR c a;constructor
 ·unfold ey;rw[b,N a];simp
 ·unfold cm;rw[b,N a];simp
def ma(l:List Rf)(x:Rf):List Rf:=l.take (bw l x.name)++x::l.drop (bw l x.name)
theorem Cc{l:List Rf}{x:Rf}(d:fa l)(hn:ey l x.name=false):fa (ma l x):=by
 unfold ma fa;rw[ar,J]
 have g:∀y∈l.drop (bw l x.name),Op.bytesLess x.name y.name=true:=λy hy=>by
  by_cases c:bw l x.name<l.length
  ·have e:Op.bytesLess x.name l[bw l x.name].name=true:=by
    rcases vq l[bw l x.name].name x.name with h|h|h
    ·rw[DO c]at h;cases h
    ·exact absurd h (BY hn c)
    ·exact h
   rw[P c]at hy;rcases M.1 hy with rfl|hy
   ·exact e
   ·have:=(J.1 (by have:=List.Pairwise.drop (i:=bw l x.name) d;rwa[P c]at this)).1 y hy;exact lO e this
  ·rw[ah (by omega)]at hy;cases hy
 refine⟨List.Pairwise.take d,⟨g,List.Pairwise.drop d⟩,λa j b hb=>?_⟩;have f:=xV a j;rcases M.1 hb with rfl|hb
 ·exact f
 ·exact lO f (g b hb)
theorem qW{l:List Rf}{x y:Rf}:y∈ma l x↔y=x\/y∈l:=by
 unfold ma;rw[S,M];constructor
 ·rintro(h|h|h)
  ·exact .inr (List.mem_of_mem_take h)
  ·exact .inl h
  ·exact .inr (List.mem_of_mem_drop h)
 ·rintro(h|h)
  ·exact .inr (.inl h)
  ·rw[<-T (bw l x.name) l,S]at h;exact h.imp id .inr
theorem Kl{l:List Rf}{x:Rf}:(ma l x).length=l.length+1:=by
 unfold ma;have:=xU (l:=l) (n:=x.name);simp;omega
def getM(m:List Mv)(n:List UInt8):Int:=m.foldl (λid x=>if x.name=n then x.new else id) (-1)
theorem BO{m:List Mv}{x:Mv}{n:List UInt8}:getM (m++[x]) n=if x.name=n then x.new else getM m n:=by
 unfold getM;rw[bj];rfl
theorem JE{m:List Mv}{n:List UInt8}{i:Nat}(h:i<m.length):getM (m.take (i+1)) n=if m[i].name=n then m[i].new else getM (m.take i) n:=by
 rw[W h,BO]
theorem BN{m:List Mv}{n:List UInt8}:∀{k:Nat},k<=m.length->getM (m.take k) n≠-1->∃x∈m.take k,x.name=n/\x.new=getM (m.take k) n
 |0,_,h=>absurd rfl h
 |k+1,d,h=>by
  have a:k<m.length:=d;rw[JE a]at h⊢;rw[W a];split at h
  ·rename_i e;rw[if_pos e];exact⟨_,List.mem_append_right _ (a1.2 rfl),e,rfl⟩
  ·rename_i e;rw[if_neg e];obtain⟨y,b,c⟩:=BN (by omega) h;exact⟨y,List.mem_append_left _ b,c⟩
theorem JD{m:List Mv}{n:List UInt8}(h:getM m n≠-1):∃x∈m,x.name=n/\x.new=getM m n:=by
 have:=BN (m:=m) (n:=n) (k:=m.length) (Nat.le_refl _);rw[bn]at this;exact this h
def lI(l:List Rf)(n:List UInt8)(id:Int):List Rf:=
 if ey l n=false then ma l ⟨n,id⟩else if id<0 then l.take (bw l n)++l.drop (bw l n+1)else l.set (bw l n) ⟨n,id⟩
def dN(l:List Rf)(n:List UInt8)(old id:Int):Int:=
 if bP n≠0 then bP n else if id< -1 then 1 else if old≠cm l n then 12 else if ey l n=false/\0<=id/\l.length=8 then 5 else if id=old then 17 else 0
inductive gI:List Rf->List Mv->Prop
 |nil:gI [] []
 |snoc {l:List Rf} {m:List Mv} {n:List UInt8} {old id:Int} (h:gI l m) (hc:dN l n old id=0):gI (lI l n id) (m++[⟨n,old,id⟩])
theorem o7{l:List Rf}{n:List UInt8}{old id:Int}(h:dN l n old id=0):bP n=0∧-1<=id/\old=cm l n/\¬(ey l n=false/\0<=id/\l.length=8)/\id≠old:=by
 unfold dN at h;split at h
 ·rename_i a;exact absurd h a
 rename_i a;split at h
 ·cases h
 rename_i e;split at h
 ·cases h
 rename_i b;split at h
 ·cases h
 rename_i c;split at h
 ·cases h
 rename_i d;exact⟨by omega,by omega,cb.1 b,c,d⟩
structure oV(l:List Rf)(m:List Mv):Prop where
 sort:fa l
 ids:∀r∈l,0<=r.id
 len:l.length<=8
 get:∀n,cm l n=getM m n
theorem get_of_mem{l:List Rf}(a:fa l){n:List UInt8}{k:Int}(h:(⟨n,k⟩:Rf)∈l):cm l n=k:=(tg a h).2
theorem get_none{l:List Rf}(c:fa l){n:List UInt8}(h:∀r∈l,r.name≠n):cm l n= -1:=by
 cases b:ey l n with
 |false=>exact np b
 |true=>obtain⟨a,e⟩:=BX b;exact absurd e (h _ (bp a))
theorem JF{l k:List Rf}(hl:fa l)(hk:fa k){n:List UInt8}(h:∀r:Rf,r.name=n->(r∈l↔r∈k)):cm l n=cm k n:=by
 cases a:ey l n with
 |false=>
  rw[np a,get_none hk λr g e=>?_];have:=(h r e).2 g;have d:=(tg hl this).1;rw[e,a]at d;cases d
 |true=>
  obtain⟨b,c,f⟩:=qS a;rw[f];have:=(tg hk ((h _ c).1 (bp b))).2;rw[c]at this;exact this.symm
theorem Px{l:List Rf}{m:List Mv}(h:oV l m){n:List UInt8}{old id:Int}(hc:dN l n old id=0):oV (lI l n id) (m++[⟨n,old,id⟩]):=by
 obtain⟨F,H,w,x,I⟩:=o7 hc
 have fin : ∀ {k : List Rf}, fa k -> (∀ r ∈ k, 0 <= r.id) -> k.length <= 8 -> (∀ r : Rf, r.name ≠ n -> (r ∈ l ↔ r ∈ k)) -> cm k n = id -> oV k (m ++ [⟨n, old, id⟩]) := λd o E s z => ⟨d,o,E,λq=>by
  rw[BO];show cm _ q=if n=q then id else getM m q
  split
  ·rename_i e;rw[<-e];exact z
  ·rename_i e;rw[<-h.get q];exact(JF h.sort d (λr hr=>s r (λv=>e (v.symm.trans hr)))).symm⟩
 unfold lI;split
 ·rename_i f;have hid:0<=id:=by rw[np f]at w;omega
  refine fin (Cc h.sort f) (λr hr=>?_) ?_ (λr hr=>?_) ?_
  ·rcases qW.1 hr with rfl|hr
   ·exact hid
   ·exact h.ids r hr
  ·rw[Kl];have:=h.len;have:¬l.length=8:=λe=>x ⟨f,hid,e⟩;omega
  ·rw[qW];exact⟨.inr,λh2=>h2.resolve_left λe=>hr (by rw[e])⟩
  ·exact get_of_mem (Cc h.sort f) (qW.2 (.inl rfl))
 ·rename_i f;rw[Bool.not_eq_false]at f;obtain⟨c,g,v⟩:=qS f;split
  ·rename_i hid
   have d:fa (l.take (bw l n)++l.drop (bw l n+1)):=by
    refine bh ?_ h.sort;conv=>rhs;rw[<-T (bw l n) l]
    exact b4 (cd _) (by rw[P c];exact List.sublist_cons_self _ _)
   have s:∀r:Rf,r∈l↔r∈l.take (bw l n)\/r=l[bw l n]\/r∈l.drop (bw l n+1):=λr=>by
    conv=>lhs;rw[<-T (bw l n) l,P c,S,M]
   refine fin d (λr hr=>?_) ?_ (λr hr=>?_) ?_
   ·refine h.ids r ((s r).2 ?_);rcases S.1 hr with hr|hr
    ·exact .inl hr
    ·exact .inr (.inr hr)
   ·have:=h.len;simp;omega
   ·rw[s,S];constructor
    ·rintro(h2|rfl|h2)
     ·exact .inl h2
     ·exact absurd g hr
     ·exact .inr h2
    ·rintro(h2|h2)
     ·exact .inl h2
     ·exact .inr (.inr h2)
   ·have p:id= -1:=by omega
    rw[p];refine get_none d λr hr e=>?_;have o:=U.1 h.sort;rcases S.1 hr with hr|hr
    ·have:=xV r hr;rw[e,mV]at this;cases this
    ·obtain⟨k,u,b⟩:=ac.1 hr;rw[List.getElem_drop]at b;have:=o (bw l n) (bw l n+1+k) c (by rw[al]at u;omega) (by omega);rw[b,g,e,mV]at this;cases this
  ·rename_i hid
   have d:fa (l.set (bw l n) ⟨n,id⟩):=by
    refine U.2 λi j o D t=>?_;have a:=U.1 h.sort i j (by simpa using o) (by simpa using D) t;rw[a9,a9];split
    ·rename_i b;subst b;rw[if_neg (by omega)];rw[g]at a;exact a
    ·split
     ·rename_i b;subst b;show Op.bytesLess _ n=true;rw[g]at a;exact a
     ·exact a
   refine fin d (λr hr=>?_) (by rw[List.length_set];exact h.len) (λr hr=>?_) (get_of_mem d (List.mem_set c _))
   ·rcases a5 hr with hr|rfl
    ·exact h.ids r hr
    ·show 0<=id;omega
   ·constructor
    ·intro h2;obtain⟨k,u,b⟩:=ac.1 h2;refine ac.2 ⟨k,by simpa using u,?_⟩;rw[a9,if_neg (λy=>hr (by subst y;rw[<-b];exact g))];exact b
    ·intro h2;exact(a5 h2).resolve_right λe=>hr (by rw[e])
theorem gI.inv{l:List Rf}{m:List Mv}(h:gI l m):oV l m:=by
 induction h with
 |nil=>exact⟨.nil,λr h=>(by cases h),by decide,λn=>rfl⟩
 |snoc _ a ih=>exact Px ih a
end Go.Nest
end
section
namespace Go.Nest
open Go
def gQ(n:Nat):UInt8:=if n<10 then b3 (48+n)else b3 (87+n)
def pV(c:UInt8):List UInt8:=if c=10 then[92,110]else if c=92 then[92,92]else if c.toNat<32\/126<c.toNat then[92,120,gQ (c.toNat/16),gQ (c.toNat%16)]else[c]
def eV(l:List UInt8):List UInt8:=l.flatMap pV
def lr:Bool->List UInt8->Option (List UInt8)
 |false,[]=>some []
 |true,[]=>none
 |false,c::r=>if c=92 then lr true r else(lr false r).map (c:: ·)
 |true,d::r=>if d=110 then(lr false r).map (10:: ·)else if d=92 then(lr false r).map (92:: ·)else none
def fA(l:List UInt8):Option (List UInt8):=lr false l
theorem LA{s:List UInt8}{i:Nat}(h:i<s.length)(h1:s[i]≠92):fA (s.drop i)=(fA (s.drop (i+1))).map (s[i]:: ·):=by
 unfold fA;rw[P h,lr,if_neg h1]
theorem Lz{s:List UInt8}{i:Nat}(h:i+1<s.length)(h1:s[i]=92):fA (s.drop i)=if s[i+1]=110 then(fA (s.drop (i+2))).map (10:: ·)else if s[i+1]=92 then(fA (s.drop (i+2))).map (92:: ·)else none:=by
 unfold fA;rw[P (by omega),P h,lr,if_pos h1,lr]
theorem Ly{s:List UInt8}{i:Nat}(h:i<s.length)(h1:s[i]=92)(h2:i+1=s.length):fA (s.drop i)=none:=by
 unfold fA;rw[P h,ah (by omega),lr,if_pos h1,lr]
theorem N7{l:List UInt8}{i:Nat}(h:i<l.length):eV (l.take (i+1))=eV (l.take i)++pV l[i]:=by
 unfold eV;rw[W h,List.flatMap_append];simp
theorem N6(c:UInt8):(pV c).length<=4:=by
 unfold pV;split
 ·simp
 split
 ·simp
 split
 ·simp
 ·simp
theorem uq:∀l:List UInt8,(eV l).length<=4*l.length
 |[]=>by simp[eV]
 |c::l=>by
  have:=uq l;have:=N6 c;show(pV c++eV l).length<=_;rw[O,Q];omega
end Go.Nest
end
section
namespace Go.Nest
open Go Go.AM Go.Proofs
open Go.Proofs.YtpechfcbnoggfaaGreatDoor (tab tabOk)
set_option maxRecDepth 4000
theorem C1(s:List UInt8)(F:s.length<=4000000):aa Tryz.prog 15 [.c (.str s)] [] (Rt (.ao [(false,[.rw 0]),(false,[.bool (fA s).isSome])]) [.row 1 UInt8 aN ((fA s).getD [])]):=by
 refine af (n:=53) (n0:=0) tabOk Tryz.call15 Tryz.func15 ?_;intro hb;refine lp (Nat×List UInt8) (λp=>⟨[(0,.c (.str s)),(4,.c (.rw 0)),(5,.c (.int .i64 p.1))],[.row 1 UInt8 aN p.2]⟩) (λp=>p.1<=s.length/\p.2.length<=p.1/\fA s=(fA (s.drop p.1)).map (p.2++ ·)) (λp=>s.length-p.1) (0,[]) [] [.new] ⟨bk _,bk _,by simp⟩ ?_ (λp D=>?_)
 ·repeat' first|exact trivial|exact rfl|refine And.intro ?_ ?_
 obtain⟨i,out⟩:=p;obtain⟨y,z,a⟩:=D;dsimp only at y z a;refine dec (λq=>?_) (λq=>?_)
 ·have f:i<s.length:=by have q:(i:Int)<s.length:=q;omega
  refine⟨_,_,rfl,N f,?_⟩;have u:=LA f;have b:=λh=>Lz (s:=s) (i:=i) h;have t:=Ly f;have w:s[i]? =some s[i]:=N f;generalize E:s[i]=c at u t w;refine ay (λl=>?_) (λl=>?_)
  ·have l:¬(c.toNat:Int)=92:=l;have x:c≠92:=λe=>l (by rw[e];rfl);rw[u x]at a;refine⟨_,_,rfl,w,?_⟩;refine⟨[c],rfl,?_⟩;refine⟨_,_,rfl,rfl,(by simp only[O,Q,R];omega),?_⟩;refine⟨i64 (by simp only[];omega) (by simp only[];omega),?_⟩;refine ag (i+1,out++[c]) [] [.s 2] ⟨f,by simp;omega,by rw[a];simp[a4]⟩ (by simp only[];omega) ?_;repeat' first|exact trivial|exact rfl|refine And.intro ?_ ?_
  have l:(c.toNat:Int)=92:=l;have r:c=92:=Z.1 (by show c.toNat=92;omega);refine⟨i64 (by simp only[];omega) (by simp only[];omega),?_⟩;refine dec (λj=>?_) (λj=>?_)
  ·have j:((i:Int)+1)<s.length:=j;have g:i+1<s.length:=by omega
   have b:=b g (E.trans r);have v:s[i+1]? =some s[i+1]:=N g;generalize s[i+1]=d at*;refine⟨i+1,d,rfl,v,?_⟩;refine dec (λm=>?_) (λm=>?_)
   ·have m:(d.toNat:Int)=110:=m;have k:d=110:=Z.1 (by show d.toNat=110;omega);rw[b,if_pos k]at a;refine⟨[10],rfl,?_⟩;refine⟨_,_,rfl,rfl,(by simp only[O,Q,R];omega),?_⟩;refine⟨i64 (by simp only[];omega) (by simp only[];omega),?_⟩;refine ag (i+2,out++[10]) [] [.s 2] ⟨g,by simp;omega,by rw[a];simp[a4]⟩ (by simp only[];omega) ?_;repeat' first|exact trivial|exact rfl|refine And.intro ?_ ?_
   have m:¬(d.toNat:Int)=110:=m;have k:¬d=110:=λe=>m (by rw[e];rfl);rw[if_neg k]at b;refine dec (λ_=>?_) (λh=>absurd j h);refine⟨i+1,d,rfl,v,?_⟩;refine dec (λo=>?_) (λo=>?_)
   ·have o:(d.toNat:Int)=92:=o;have k:d=92:=Z.1 (by show d.toNat=92;omega);rw[b,if_pos k]at a;refine⟨[92],rfl,?_⟩;refine⟨_,_,rfl,rfl,(by simp only[O,Q,R];omega),?_⟩;refine⟨i64 (by simp only[];omega) (by simp only[];omega),?_⟩;refine ag (i+2,out++[92]) [] [.s 2] ⟨g,by simp;omega,by rw[a];simp[a4]⟩ (by simp only[];omega) ?_;repeat' first|exact trivial|exact rfl|refine And.intro ?_ ?_
   ·have o:¬(d.toNat:Int)=92:=o;have k:¬d=92:=λe=>o (by rw[e];rfl);rw[b,if_neg k]at a;rw[a];exact rx [] [.new]
  ·have j:¬((i:Int)+1)<s.length:=j;rw[t r (by omega)]at a;rw[a];refine dec (λh=>absurd h j) (λ_=>?_);exact rx [] [.new]
 obtain rfl:i=s.length:=by have q:¬(i:Int)<s.length:=q;omega
 rw[List.drop_length]at a;have a:fA s=some out:=by rw[a];show some (out++[])=_;rw[ap]
 rw[a];exact rx [] [.s 0]
theorem JM:∀n:Fin 16,([48,49,50,51,52,53,54,55,56,57,97,98,99,100,101,102]:List UInt8)[n.val]? =some (gQ n.val):=by decide
theorem th{n:Nat}(h:n<16):([48,49,50,51,52,53,54,55,56,57,97,98,99,100,101,102]:List UInt8)[n]? =some (gQ n):=JM ⟨n,h⟩
theorem wL(c:UInt8):(c.toNat:Int).fdiv (2^min (Int.toNat 4) IntKind.u8.bits)=((c.toNat/16:Nat):Int):=by
 show(c.toNat:Int).fdiv 16=_;rw[Int.fdiv_eq_ediv_of_nonneg _ (by decide)];omega
theorem Ln:∀n:Fin 256,IntKind.u8.wrap (bb IntKind.u8.bits (n.val:Int)&&&bb IntKind.u8.bits 15).toNat=((n.val%16:Nat):Int):=by decide+kernel
theorem CS(c:UInt8):IntKind.u8.wrap (bb IntKind.u8.bits (c.toNat:Int)&&&bb IntKind.u8.bits 15).toNat=((c.toNat%16:Nat):Int):=Ln ⟨c.toNat,c.toNat_lt⟩
theorem EA(l:List UInt8)(hl:l.length<=4000000):aa Tryz.prog 14 [.c (.bs 1 UInt8 aN l)] [] (Rt (.c (.str (eV l))) []):=by
 refine af (n:=47) (n0:=0) tabOk Tryz.call14 Tryz.func14 ?_;intro hb;refine lp Nat (λi=>⟨[(0,.c (.bs 1 UInt8 aN l)),(3,.c (.rw 0)),(6,.c (.bs 1 UInt8 aN l)),(7,.c (.int .i64 l.length)),(8,.c (.int .i64 i))],[.row 1 UInt8 aN (eV (l.take i))]⟩) (λi=>i<=l.length/\True) (λi=>l.length-i) 0 [] [.new] ⟨bk _,trivial⟩ ?_ (λi k=>?_)
 ·repeat' first|exact trivial|exact rfl|refine And.intro ?_ ?_
 obtain⟨k,-⟩:=k;have o:=uq (l.take i);rw[a6,b1 k]at o;refine dec (λg=>?_) (λg=>?_)
 ·have b:i<l.length:=by have g:(i:Int)<l.length:=g;omega
  have m:l[i]? =some l[i]:=N b;have a:=N7 b;generalize l[i]=c at*;refine⟨i,c,rfl,m,?_⟩;unfold pV at a;generalize eV (l.take i)=out at*;refine dec (λd=>?_) (λd=>?_)
  ·have d:(c.toNat:Int)=10:=d;rw[if_pos (Z.1 (by show c.toNat=10;omega))]at a;refine⟨_,_,rfl,rfl,(by simp only[O,Q,R];omega),?_⟩;refine⟨i64 (by omega) (by omega),?_⟩;refine ag (i+1) [] [.s 1] ⟨b,trivial⟩ (by simp only[];omega) ?_;rw[a];repeat' first|exact trivial|exact rfl|refine And.intro ?_ ?_
  have d:¬(c.toNat:Int)=10:=d;rw[if_neg (λe=>d (by rw[e];rfl))]at a;refine dec (λf=>?_) (λf=>?_)
  ·have f:(c.toNat:Int)=92:=f;rw[if_pos (Z.1 (by show c.toNat=92;omega))]at a;refine⟨_,_,rfl,rfl,(by simp only[O,Q,R];omega),?_⟩;refine⟨i64 (by omega) (by omega),?_⟩;refine ag (i+1) [] [.s 1] ⟨b,trivial⟩ (by simp only[];omega) ?_;rw[a];repeat' first|exact trivial|exact rfl|refine And.intro ?_ ?_
  have f:¬(c.toNat:Int)=92:=f;rw[if_neg (λe=>f (by rw[e];rfl))]at a;refine dec (λh=>?_) (λh=>?_)
  ·have h:(c.toNat:Int)<32:=h;rw[if_pos (.inl (by omega))]at a;refine⟨_,_,rfl,rfl,(by simp only[O,Q,R];omega),?_⟩;refine⟨false,.grow,(.l [0,1,2,3,4,5,6,7,8,9]),by kernel_rfl,.inl ?_⟩;refine⟨by decide,?_⟩;refine⟨c.toNat/16,_,wL c,th (by have:=c.toNat_lt;omega),?_⟩;refine⟨c.toNat%16,_,CS c,th (by omega),?_⟩;refine⟨[gQ (c.toNat/16),gQ (c.toNat%16)],rfl,?_⟩;refine⟨_,_,rfl,rfl,(by simp only[O,Q,R];omega),?_⟩;refine⟨i64 (by omega) (by omega),?_⟩;refine ag (i+1) [] [.s 3] ⟨b,trivial⟩ (by simp only[];omega) ?_;rw[a,show out++[92,120,gQ (c.toNat/16),gQ (c.toNat%16)]=(out++[92,120])++[gQ (c.toNat/16),gQ (c.toNat%16)]by simp];repeat' first|exact trivial|exact rfl|refine And.intro ?_ ?_
  have h:¬(c.toNat:Int)<32:=h;refine dec (λj=>?_) (λj=>?_)
  ·have j:(126:Int)<c.toNat:=j;rw[if_pos (.inr (by omega))]at a;refine⟨_,_,rfl,rfl,(by simp only[O,Q,R];omega),?_⟩;refine⟨false,.grow,(.l [0,1,2,3,4,5,6,7,8,9]),by kernel_rfl,.inl ?_⟩;refine⟨by decide,?_⟩;refine⟨c.toNat/16,_,wL c,th (by have:=c.toNat_lt;omega),?_⟩;refine⟨c.toNat%16,_,CS c,th (by omega),?_⟩;refine⟨[gQ (c.toNat/16),gQ (c.toNat%16)],rfl,?_⟩;refine⟨_,_,rfl,rfl,(by simp only[O,Q,R];omega),?_⟩;refine⟨i64 (by omega) (by omega),?_⟩;refine ag (i+1) [] [.s 3] ⟨b,trivial⟩ (by simp only[];omega) ?_;rw[a,show out++[92,120,gQ (c.toNat/16),gQ (c.toNat%16)]=(out++[92,120])++[gQ (c.toNat/16),gQ (c.toNat%16)]by simp];repeat' first|exact trivial|exact rfl|refine And.intro ?_ ?_
  have j:¬(126:Int)<c.toNat:=j;rw[if_neg (by omega)]at a;refine⟨[c],rfl,?_⟩;refine⟨_,_,rfl,rfl,(by simp only[O,Q,R];omega),?_⟩;refine⟨i64 (by omega) (by omega),?_⟩;refine ag (i+1) [] [.s 2] ⟨b,trivial⟩ (by simp only[];omega) ?_;rw[a];repeat' first|exact trivial|exact rfl|refine And.intro ?_ ?_
 obtain rfl:i=l.length:=by have g:¬(i:Int)<l.length:=g;omega
 rw[bn];refine⟨_,rfl,?_⟩;exact rx [] []
end Go.Nest
end
