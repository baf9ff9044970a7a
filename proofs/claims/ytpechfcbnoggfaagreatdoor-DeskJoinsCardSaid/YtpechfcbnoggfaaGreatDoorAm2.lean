import Derived.Test.YtpechfcbnoggfaaGreatDoorAm1
import Derived.Laws.StructEq
set_option linter.unusedVariables false
set_option linter.unusedSimpArgs false
open BitVec renaming ofInt->ah
open Bool renaming and_eq_true->am
open ByteArray renaming ext->a0
open Int renaming not_lt->ap
open List renaming length_append->ac,cons_append->ad,append_assoc->al,toArray->ao
open Nat renaming ble->ar
section
namespace Go.AM
open Go Go.NB
def K6:C->C->Bool
 | .int .i64 _,.int .i64 _=>true
 | .str _,.str _=>true
 | .bool _,.bool _=>true
 |_,_=>false
def fh:List C->List C->Bool
 |[],[]=>true
 |x::r,y::q=>K6 x y&&fh r q
 |_,_=>false
def nW:C->C->Prop
 | .int _ a,.int _ b=>a=b
 | .str a,.str b=>a=b
 | .bool a,.bool b=>a=b
 |_,_=>False
def e8:List C->List C->Prop
 |[],[]=>True
 |[x],[y]=>nW x y
 |x::r,y::q=>nW x y/\e8 r q
 |_,_=>False
theorem yP{x y:C}{r q:List C}:e8 (x::r) (y::q)↔nW x y/\e8 r q:=by
 cases r with
 |nil=>cases q<;>simp[e8]
 |cons a r=>cases q<;>simp[e8]
theorem q8:∀{z cs:List C},fh z cs=true->z.length=cs.length
 |[],[],_=>rfl
 |_::_,_::_,h=>by simp only[fh,am]at h;simp[q8 h.2]
theorem xj:∀{a z2 cs:List C},fh (a++z2) cs=true->∃c1 c2,cs=c1++c2/\fh a c1=true/\fh z2 c2=true
 |[],z2,cs,h=>⟨[],cs,rfl,rfl,h⟩
 |x::a,z2,[],h=>by cases h
 |x::a,z2,y::cs,h=>by
  simp only[ad,fh,am]at h;obtain⟨c1,c2,rfl,b,c⟩:=xj h.2;exact⟨y::c1,c2,rfl,by simp[fh,h.1,b],c⟩
theorem yO:∀{c1 c2 a b:List C},c1.length=a.length->(e8 (c1++c2) (a++b)↔e8 c1 a/\e8 c2 b)
 |[],c2,[],b,_=>by simp[e8]
 |x::c1,c2,y::a,b,h=>by
  rw[ad,ad,yP,yP,yO (by simpa using h),and_assoc]
def cW(P:Program)(d:Nat)(t:TypeId)(g:Bool)(z:List C):Prop:=
 ∀(F:Nat->Prop) (H:ae) (m:Md) (a b:List C) (e c:List Value),fh z a=true->fh z b=true->RL F H m a e->RL F H m b c->
  ∀w:World,∃r:Bool,(Op.equalIn d t (jF g e) (jF g c)).run P w= .ok r w/\(r=true↔e8 a b)
section
variable {P:Program} {t:TypeId} {d:Nat}
theorem cW.int(j:P.underlying t=some (.int .i64)):cW P (d+1) t false [.int .i64 0]:=λF H m h i o l c e f g w=>by
 obtain⟨a,rfl⟩:∃a,h=[.int .i64 a]:=by
  rcases h with _|⟨x,_|⟨y,r⟩⟩
  ·cases c
  ·cases x<;>first|(rename_i k n;cases k<;>first|exact⟨_,rfl⟩|cases c)|cases c
  ·simp[fh]at c
 obtain⟨b,rfl⟩:∃a,i=[.int .i64 a]:=by
  rcases i with _|⟨x,_|⟨y,r⟩⟩
  ·cases e
  ·cases x<;>first|(rename_i k n;cases k<;>first|exact⟨_,rfl⟩|cases e)|cases e
  ·simp[fh]at e
 cases f with
 |int f=>
  cases f;cases g with
  |int g=>cases g;exact⟨a==b,run_equalIn_int w d t _ _ a b j,by simp[e8,nW]⟩
theorem cW.str(j:P.underlying t=some .string):cW P (d+1) t false [.str []]:=λF H m h i l k c e f g w=>by
 obtain⟨a,rfl⟩:∃a,h=[.str a]:=by
  rcases h with _|⟨x,_|⟨y,r⟩⟩
  ·cases c
  ·cases x<;>first|exact⟨_,rfl⟩|cases c
  ·simp[fh]at c
 obtain⟨b,rfl⟩:∃a,i=[.str a]:=by
  rcases i with _|⟨x,_|⟨y,r⟩⟩
  ·cases e
  ·cases x<;>first|exact⟨_,rfl⟩|cases e
  ·simp[fh]at e
 cases f with
 |str _ f=>
  cases f;cases g with
  |str _ g=>
   cases g;refine⟨_,run_equalIn_string w d t _ _ j,?_⟩;rw[beq_iff_eq];simp[e8,nW,ByteArray.toList_eq]
def uN(P:Program)(d:Nat):Nat->List Field->List C->Prop
 |_,[],z=>z=[]
 |a,f::e,z=>∃g b c,z=b++c/\f.name≠ "_" /\f.offset=a/\(∀w,(isAgg f.type).run P w= .ok g w)/\(∀w,(sizeOf f.type).run P w= .ok b.length w)/\(g=false->b.length=1)/\
   cW P d f.type g b/\uN P d (a+b.length) e c
theorem DJ{g:Bool}{n:Nat}{e:TypeId}{w:World}{pre a v2:List Value}(hg:∀w,(isAgg e).run P w= .ok g w)(hz:∀w,(sizeOf e).run P w= .ok n w)(hn:a.length=n)(h1:g=false->n=1):
  (part e (pre++(a++v2)).toArray pre.length).run P w= .ok (jF g a) w:=by
 cases g with
 |true=>
  simp[part,hg,hz,jF];rw[<-hn,List.take_left]
 |false=>
  have:=h1 rfl;subst hn;obtain⟨v,rfl⟩:=List.length_eq_one_iff.1 this;simp[part,hg,jF]
theorem Bl{F:Nat->Prop}{H:ae}{m:Md}:∀{fs:List Field} {z:List C} {pre pre':List Value} {cs ds:List C} {vs us:List Value},uN P d pre.length fs z->pre.length=pre'.length->fh z cs=true->fh z ds=true->RL F H m cs vs->RL F H m ds us->
  ∀w:World,∃r:Bool,(Op.eqFields d (pre++vs).toArray (pre'++us).toArray fs).run P w= .ok r w/\(r=true↔e8 cs ds)
 |[],z,pre,pre',cs,ds,vs,us,h,_,e,i,_,_,w=>by
  cases h;cases cs with
  |nil=>cases ds with
   |nil=>exact⟨true,by simp[Op.eqFields],by simp[e8]⟩
   |cons y q=>cases i
  |cons x r=>cases e
 |f::fs,z,pre,pre',cs,ds,vs,us,Q,E,e,i,r1,r2,w=>by
  obtain⟨g,O,z2,rfl,U,W,D,J,v,R,S⟩:=Q;obtain⟨s,c2,rfl,k,Y⟩:=xj e;obtain⟨t,d2,rfl,l,Z⟩:=xj i;obtain⟨o,p,rfl,M,r4⟩:=r1.split;obtain⟨n,u2,rfl,N,s4⟩:=r2.split;have c:o.length=O.length:=M.length.symm.trans (q8 k).symm;have u:n.length=O.length:=N.length.symm.trans (q8 l).symm;obtain⟨b,hb,a⟩:=R F H m s t o n k l M N w;have p1:=DJ (w:=w) (pre:=pre) (v2:=p) D J c v;have K:=DJ (w:=w) (pre:=pre') (v2:=u2) D J u v;rw[<-E]at K;have T:s.length=t.length:=(q8 k).symm.trans (q8 l);rw[yO T];simp only[Op.eqFields,if_pos U,W,Sem.run_bind,p1,K,hb,Result.andThen_ok];cases b with
  |false=>exact⟨false,by simp,by simp[<-a]⟩
  |true=>
   obtain⟨r,I,j⟩:=Bl (pre:=pre++o) (pre':=pre'++n) (fs:=fs) (z:=z2) (by rw[ac,c];exact S) (by rw[ac,ac,c,u,E]) Y Z r4 s4 w;refine⟨r,?_,by simp[<-a,j]⟩;rw[al,al]at I;simpa using I
theorem cW.struct{z:List C}(g:P.underlying t=some (.struct (P.fieldsOf t)))(f:P.stoodInHeld t=false)(h:uN P d 0 (P.fieldsOf t).toList z):cW P (d+1) t true z:=λF H m k l o n a b i j w=>by
 obtain⟨r,c,e⟩:=Bl (pre:=[]) (pre':=[]) h rfl a b i j w;exact⟨r,(run_equalIn_agg w d t _ _ g f).trans c,e⟩
end
theorem fG{P:Program}{t:TypeId}{i:TypeInfo}{n:Nat}(h:∀w,(typeInfo t).run P w= .ok i w)(a:i.size=n):∀w,(sizeOf t).run P w= .ok n w:=λw=>by simp[sizeOf,h,a]
theorem qM{P:Program}{t:TypeId}{fs:Array Field}(h:P.underlying t=some (.struct fs)):(P.fieldsOf t).toList=fs.toList:=by simp[Program.fieldsOf,h]
def uM(P:Program)(t:TypeId)(z:List C):Prop:=P.eqGuardType P.depth t=false/\cW P 10000 t true z
inductive TK where
 |int (k:IntKind)|str|bool|sl (e:Nat)|struct (offs:List (Nat×Nat))|arr (n e:Nat)|ptr|la|other
structure TD:Type 1 where
 size:Nat
 agg:Bool
 bytes:Nat
 kind:TK
 zero:List C
 cmp:Bool
 α:Type
 enc:α->List C
def uQ(P:Program)(tab:Nat->Option TD)(t:TypeId):TK->Prop
 | .int k=>P.underlying t=some (.int k)
 | .str=>P.underlying t=some .string
 | .bool=>P.underlying t=some .bool
 | .sl e=>P.underlying t=some (.slice e)
 | .struct a=>∃b:Array Field,P.underlying t=some (.struct b)/\b.toList.map (λf=>(f.type,f.offset))=a/\(a.all λp=>(tab p.1).isSome)=true
 | .arr n e=>P.underlying t=some (.array n e)
 | .ptr=>∃e,P.underlying t=some (.pointer e)
 | .la=>∃c,P.underlying t=some (.interface c)
 | .other=>True
structure bI(P:Program)(tab:Nat->Option TD):Prop where
 info:∀t d,tab t=some d->∃i z zs,(∀w,(typeInfo t).run P w= .ok i w)/\i.size=d.size/\i.bytes=d.bytes/\i.zero=some z/\z.cells=ao zs/\∀F H m,RL F H m d.zero zs
 agg:∀t d,tab t=some d->∀w,(isAgg t).run P w= .ok d.agg w
 one:∀t d,tab t=some d->d.agg=false->d.size=1
 zl:∀t d,tab t=some d->d.zero.length=d.size
 kind:∀t d,tab t=some d->uQ P tab t d.kind
 cmp:∀t d,tab t=some d->d.cmp=true->uM P t d.zero
section
variable {P:Program} {tab:Nat->Option TD}
theorem bI.size(h:bI P tab){t:Nat}{d:TD}(c:tab t=some d)(w:World):(sizeOf t).run P w= .ok d.size w:=by
 obtain⟨i,z,e,a,b,_⟩:=h.info t d c;simp[sizeOf,a,b]
theorem bI.zero(h:bI P tab){t:Nat}{d:TD}(f:tab t=some d):∃z zs,(∀w,(zeroValue t).run P w= .ok z w)/\z.cells=ao zs/\∀F H m,RL F H m d.zero zs:=by
 obtain⟨i,z,zs,a,g,j,b,c,e⟩:=h.info t d f;exact⟨z,zs,λw=>by simp[zeroValue,a,b],c,e⟩
end
def aN(b:UInt8):List C:=[.int .u8 b.toNat]
def vS:Value->A
 | .int k n=>.c (.int k n)
 | .bool b=>.c (.bool b)
 | .string s=>bif ar s.data.toList.length 9223372036854775807 then .c (.str s.data.toList)else .undef
 | .slice none 0 0=>.c .nil
 | .pointer none=>.c (.raw (.pointer none))
 | .nilIface=>.c (.raw .nilIface)
 | .nilFunc=>.c (.raw .nilFunc)
 |_=>.undef
def aW(s:St):Operand->A
 | .tmp t=>(lk s.env t).getD .undef
 | .const v=>vS v
 | .func f=>.c (.fn f [])
 | .global _=>.undef
def qx:A->Option (List C)
 | .c x=>some [x]
 | .st a=>some a
 |_=>none
def rd(d:TD)(cs:List C)(k:A->Prop):Prop:=
 bif ar d.size cs.length then(bif d.agg then k (.st (cs.take d.size))else match cs with|x::_=>k (.c x)|[]=>False)else False
def dH:IntKind->IntKind->Bool
 | .i64,.i64=>true
 | .u8,.u8=>true
 | .i32,.i32=>true
 | .u64,.u64=>true
 |_,_=>false
theorem ny{i j:IntKind}(h:dH i j=true):i=j:=by
 cases i<;>cases j<;>first|rfl|(simp[dH]at h;done)
def arith(d:BinOp)(x y:C)(k:A->Prop):Prop:=
 match d,x,y with
 | .add,.int .i64 a,.int .i64 b=>cD (a+b)/\k (.c (.int .i64 (a+b)))
 | .add,.int .u8 a,.int .u8 b=>k (.c (.int .u8 (IntKind.u8.wrap (a+b))))
 | .sub,.int .i64 a,.int .i64 b=>cD (a-b)/\k (.c (.int .i64 (a-b)))
 | .mul,.int .i64 a,.int .i64 b=>cD (a*b)/\k (.c (.int .i64 (a*b)))
 | .quo,.int .i64 a,.int .i64 b=>(b≠0/\cD (a.tdiv b))/\k (.c (.int .i64 (a.tdiv b)))
 | .rem,.int .i64 a,.int .i64 b=>b≠0/\k (.c (.int .i64 (a.tmod b)))
 | .quo,.int .u8 a,.int .u8 b=>b≠0/\k (.c (.int .u8 (IntKind.u8.wrap (a.tdiv b))))
 | .rem,.int .u8 a,.int .u8 b=>b≠0/\k (.c (.int .u8 (a.tmod b)))
 | .rem,.int .u64 a,.int .u64 b=>b≠0/\k (.c (.int .u64 (a.tmod b)))
 | .shr,.int j a,.int _ b=>0<=b/\k (.c (.int j (a.fdiv (2^min b.toNat j.bits))))
 | .shl,.int .i64 a,.int _ b=>(0<=b/\cD (a*2^min b.toNat 64))/\k (.c (.int .i64 (a*2^min b.toNat 64)))
 | .and,.int i a,.int j b=>bif dH i j then k (.c (.int i (i.wrap (ah i.bits a&&&ah i.bits b).toNat)))else False
 | .or,.int i a,.int j b=>bif dH i j then k (.c (.int i (i.wrap (ah i.bits a|||ah i.bits b).toNat)))else False
 | .lss,.int i a,.int j b=>bif dH i j then k (.c (.bool (decide (a<b))))else False
 | .leq,.int i a,.int j b=>bif dH i j then k (.c (.bool (decide (a<=b))))else False
 | .gtr,.int i a,.int j b=>bif dH i j then k (.c (.bool (decide (b<a))))else False
 | .geq,.int i a,.int j b=>bif dH i j then k (.c (.bool (decide (b<=a))))else False
 | .eql,.int i a,.int j b=>bif dH i j then k (.c (.bool (decide (a=b))))else False
 | .neq,.int i a,.int j b=>bif dH i j then k (.c (.bool (!decide (a=b))))else False
 | .add,.str a,.str b=>a.length+b.length<=9223372036854775807/\k (.c (.str (a++b)))
 | .eql,.str a,.str b=>k (.c (.bool (decide (a=b))))
 | .neq,.str a,.str b=>k (.c (.bool (!decide (a=b))))
 | .lss,.str a,.str b=>k (.c (.bool (Op.bytesLess a b)))
 | .leq,.str a,.str b=>k (.c (.bool (Op.bytesLess a b||decide (a=b))))
 | .gtr,.str a,.str b=>k (.c (.bool (!(Op.bytesLess a b||decide (a=b)))))
 | .geq,.str a,.str b=>k (.c (.bool (!Op.bytesLess a b)))
 |_,_,_=>False
section
variable {P:Program} {tab:Nat->Option TD} {F:Nat->Prop} {H:ae} {m:Md}
theorem FV{f:BinOp}{x y:C}{u v:Value}{k:A->Prop}{t:TypeId}{ox oy:Operand}(h:arith f x y k)(d:RL F H m [x] [u])(hy:RL F H m [y] [v]):
  ∃r a,k a/\RA F H m a r/\(∀w,(binOp f t u v).run P w= .ok r w)/\∀w,(eqGuard f t ox oy u v).run P w= .ok () w:=by
 unfold arith at h;split at h
 ·cases d;cases hy;exact⟨_,_,h.2,.int .nl,λw=>by rw[binOp_add];simp[Op.intArith,IntWalk.i64_in _ h.1],λw=>rfl⟩
 ·cases d;cases hy;exact⟨_,_,h,.int .nl,λw=>by rw[binOp_add];simp[Op.intArith],λw=>rfl⟩
 ·cases d;cases hy;exact⟨_,_,h.2,.int .nl,λw=>by rw[binOp_sub];simp[Op.intArith,IntWalk.i64_in _ h.1],λw=>rfl⟩
 ·cases d;cases hy;exact⟨_,_,h.2,.int .nl,λw=>by rw[binOp_mul];simp[Op.intArith,IntWalk.i64_in _ h.1],λw=>rfl⟩
 ·cases d;cases hy;exact⟨_,_,h.2,.int .nl,λw=>by simp[binOp,Op.intDiv,h.1.1,IntWalk.i64_in _ h.1.2],λw=>rfl⟩
 ·cases d;cases hy;exact⟨_,_,h.2,.int .nl,λw=>by simp[binOp,Op.intDiv,h.1],λw=>rfl⟩
 ·cases d;cases hy;exact⟨_,_,h.2,.int .nl,λw=>by simp[binOp,Op.intDiv,h.1],λw=>rfl⟩
 ·cases d;cases hy;exact⟨_,_,h.2,.int .nl,λw=>by simp[binOp,Op.intDiv,h.1],λw=>rfl⟩
 ·cases d;cases hy;exact⟨_,_,h.2,.int .nl,λw=>by simp[binOp,Op.intDiv,h.1],λw=>rfl⟩
 ·cases d;cases hy;exact⟨_,_,h.2,.int .nl,λw=>by simp[binOp,Op.shift,ap.2 h.1],λw=>rfl⟩
 ·cases d;cases hy;exact⟨_,_,h.2,.int .nl,λw=>by simp[binOp,Op.shift,ap.2 h.1.1,IntKind.bits];exact IntWalk.i64_in _ h.1.2,λw=>rfl⟩
 ·rename_i i a j b;cases d;cases hy;have c:dH i j=true:=by cases e:dH i j with|true=>rfl|false=>rw[e]at h;exact h.elim
  obtain rfl:=ny c;rw[c]at h;exact⟨_,_,h,.int .nl,λw=>by simp[binOp,Op.intBits],λw=>rfl⟩
 ·rename_i i a j b;cases d;cases hy;have c:dH i j=true:=by cases e:dH i j with|true=>rfl|false=>rw[e]at h;exact h.elim
  obtain rfl:=ny c;rw[c]at h;exact⟨_,_,h,.int .nl,λw=>by simp[binOp,Op.intBits],λw=>rfl⟩
 ·rename_i i a j b;cases d;cases hy;have c:dH i j=true:=by cases e:dH i j with|true=>rfl|false=>rw[e]at h;exact h.elim
  obtain rfl:=ny c;rw[c]at h;exact⟨_,_,h,.bool .nl,λw=>by rw[binOp_lss];rfl,λw=>rfl⟩
 ·rename_i i a j b;cases d;cases hy;have c:dH i j=true:=by cases e:dH i j with|true=>rfl|false=>rw[e]at h;exact h.elim
  obtain rfl:=ny c;rw[c]at h;exact⟨_,_,h,.bool .nl,λw=>by rw[binOp_leq];rfl,λw=>rfl⟩
 ·rename_i i a j b;cases d;cases hy;have c:dH i j=true:=by cases e:dH i j with|true=>rfl|false=>rw[e]at h;exact h.elim
  obtain rfl:=ny c;rw[c]at h;exact⟨_,_,h,.bool .nl,λw=>by rw[binOp_gtr];rfl,λw=>rfl⟩
 ·rename_i i a j b;cases d;cases hy;have c:dH i j=true:=by cases e:dH i j with|true=>rfl|false=>rw[e]at h;exact h.elim
  obtain rfl:=ny c;rw[c]at h;exact⟨_,_,h,.bool .nl,λw=>by rw[binOp_geq];rfl,λw=>rfl⟩
 ·rename_i i a j b;cases d;cases hy;have c:dH i j=true:=by cases e:dH i j with|true=>rfl|false=>rw[e]at h;exact h.elim
  obtain rfl:=ny c;rw[c]at h;exact⟨_,_,h,.bool .nl,λw=>by rw[binOp_eql];rfl,λw=>by rw[eqGuard_at_int];rfl⟩
 ·rename_i i a j b;cases d;cases hy;have c:dH i j=true:=by cases e:dH i j with|true=>rfl|false=>rw[e]at h;exact h.elim
  obtain rfl:=ny c;rw[c]at h;exact⟨_,_,h,.bool .nl,λw=>by rw[binOp_neq];rfl,λw=>by rw[eqGuard_at_int];rfl⟩
 ·rename_i a b;cases d;cases hy;refine⟨_,_,h.2,.str (by rw[ac];exact h.1) .nl,λw=>?_,λw=>rfl⟩;have g:(⟨a.toArray⟩:ByteArray).size=a.length:=rfl;have l:(⟨b.toArray⟩:ByteArray).size=b.length:=rfl;have o:=h.1;have n:¬((9223372036854775807:Int)<(a.length:Int)+(b.length:Int)):=by omega
  simp[NB.str,binOp,Op.stringOp,g,l,n];apply a0;simp
 ·cases d;cases hy;exact⟨_,_,h,.bool .nl,λw=>by simp[NB.str,binOp,Op.stringOp];exact qo _ _,λw=>by unfold NB.str;rw[eqGuard_at_string];rfl⟩
 ·cases d;cases hy;exact⟨_,_,h,.bool .nl,λw=>by simp[NB.str,binOp,Op.stringOp];rw[qo],λw=>by unfold NB.str;rw[eqGuard_at_string];rfl⟩
 ·cases d;cases hy;exact⟨_,_,h,.bool .nl,λw=>by simp[NB.str,binOp,Op.stringOp],λw=>rfl⟩
 ·cases d;cases hy;exact⟨_,_,h,.bool .nl,λw=>by simp[NB.str,binOp,Op.stringOp];rw[qo],λw=>rfl⟩
 ·cases d;cases hy;exact⟨_,_,h,.bool .nl,λw=>by simp[NB.str,binOp,Op.stringOp];rw[qo],λw=>rfl⟩
 ·cases d;cases hy;exact⟨_,_,h,.bool .nl,λw=>by simp[NB.str,binOp,Op.stringOp],λw=>rfl⟩
 ·exact h.elim
end
end Go.AM
end
