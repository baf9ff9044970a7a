/- part -/
import Derived.Test.YtpechfcbnoggfaaGreatDoorAm1
import Derived.Laws.StructEq
set_option linter.unusedVariables false
set_option linter.unusedSimpArgs false
section
namespace Go.AM
open Go Go.NB
def Eb:C→C→Bool
 | .int .i64 _,.int .i64 _=>true
 | .str _,.str _=>true
 | .bool _,.bool _=>true
 |_,_=>false
def dF:List C→List C→Bool
 |[],[]=>true
 |x::r,y::q=>Eb x y&&dF r q
 |_,_=>false
def kc:C→C→Prop
 | .int _ a,.int _ b=>a=b
 | .str a,.str b=>a=b
 | .bool a,.bool b=>a=b
 |_,_=>False
def dI:List C→List C→Prop
 |[],[]=>True
 |[x],[y]=>kc x y
 |x::r,y::q=>kc x y∧dI r q
 |_,_=>False
theorem uO{x y:C}{r q:List C}:dI (x::r) (y::q)↔kc x y∧dI r q:=by
 cases r with
 |nil=>cases q<;>simp[dI]
 |cons a r=>cases q<;>simp[dI]
theorem nZ:∀{z cs:List C},dF z cs=true→z.length=cs.length
 |[],[],_=>rfl
 |_::_,_::_,h=>by simp only[dF,Bool.and_eq_true]at h;simp[nZ h.2]
theorem tv:∀{z1 z2 cs:List C},dF (z1++z2) cs=true→∃c1 c2,cs=c1++c2∧dF z1 c1=true∧dF z2 c2=true
 |[],z2,cs,h=>⟨[],cs,rfl,rfl,h⟩
 |x::z1,z2,[],h=>by cases h
 |x::z1,z2,y::cs,h=>by
  simp only[List.cons_append,dF,Bool.and_eq_true]at h;obtain⟨c1,c2,rfl,h1,h2⟩:=tv h.2;exact⟨y::c1,c2,rfl,by simp[dF,h.1,h1],h2⟩
theorem uN:∀{c1 c2 d1 d2:List C},c1.length=d1.length→(dI (c1++c2) (d1++d2)↔dI c1 d1∧dI c2 d2)
 |[],c2,[],d2,_=>by simp[dI]
 |x::c1,c2,y::d1,d2,h=>by
  rw[List.cons_append,List.cons_append,uO,uO,uN (by simpa using h),and_assoc]
def cj(P:Program)(d:Nat)(t:TypeId)(g:Bool)(z:List C):Prop:=
 ∀(F:Nat→Prop) (H:ab) (m:Md) (cs ds:List C) (vs us:List Value),dF z cs=true→dF z ds=true→RL F H m cs vs→RL F H m ds us→
  ∀w:World,∃r:Bool,(Op.equalIn d t (gV g vs) (gV g us)).run P w= .ok r w∧(r=true↔dI cs ds)
section
variable {P:Program} {t:TypeId} {d:Nat}
theorem cj.int(ht:P.underlying t=some (.int .i64)):cj P (d+1) t false [.int .i64 0]:=fun F H m cs ds vs us h1 h2 r1 r2 w=>by
 obtain⟨a,rfl⟩:∃a,cs=[.int .i64 a]:=by
  rcases cs with _|⟨x,_|⟨y,r⟩⟩
  ·cases h1
  ·cases x<;>first|(rename_i k n;cases k<;>first|exact⟨_,rfl⟩|cases h1)|cases h1
  ·simp[dF]at h1
 obtain⟨b,rfl⟩:∃a,ds=[.int .i64 a]:=by
  rcases ds with _|⟨x,_|⟨y,r⟩⟩
  ·cases h2
  ·cases x<;>first|(rename_i k n;cases k<;>first|exact⟨_,rfl⟩|cases h2)|cases h2
  ·simp[dF]at h2
 cases r1 with
 |int r1=>
  cases r1;cases r2 with
  |int r2=>cases r2;exact⟨a==b,run_equalIn_int w d t _ _ a b ht,by simp[dI,kc]⟩
theorem cj.str(ht:P.underlying t=some .string):cj P (d+1) t false [.str []]:=fun F H m cs ds vs us h1 h2 r1 r2 w=>by
 obtain⟨a,rfl⟩:∃a,cs=[.str a]:=by
  rcases cs with _|⟨x,_|⟨y,r⟩⟩
  ·cases h1
  ·cases x<;>first|exact⟨_,rfl⟩|cases h1
  ·simp[dF]at h1
 obtain⟨b,rfl⟩:∃a,ds=[.str a]:=by
  rcases ds with _|⟨x,_|⟨y,r⟩⟩
  ·cases h2
  ·cases x<;>first|exact⟨_,rfl⟩|cases h2
  ·simp[dF]at h2
 cases r1 with
 |str _ r1=>
  cases r1;cases r2 with
  |str _ r2=>
   cases r2;refine⟨_,run_equalIn_string w d t _ _ ht,?_⟩;rw[beq_iff_eq];simp[dI,kc,ByteArray.toList_eq]
theorem cj.bool(ht:P.underlying t=some .bool):cj P (d+1) t false [.bool false]:=fun F H m cs ds vs us h1 h2 r1 r2 w=>by
 obtain⟨a,rfl⟩:∃a,cs=[.bool a]:=by
  rcases cs with _|⟨x,_|⟨y,r⟩⟩
  ·cases h1
  ·cases x<;>first|exact⟨_,rfl⟩|cases h1
  ·simp[dF]at h1
 obtain⟨b,rfl⟩:∃a,ds=[.bool a]:=by
  rcases ds with _|⟨x,_|⟨y,r⟩⟩
  ·cases h2
  ·cases x<;>first|exact⟨_,rfl⟩|cases h2
  ·simp[dF]at h2
 cases r1 with
 |bool r1=>
  cases r1;cases r2 with
  |bool r2=>cases r2;exact⟨a==b,run_equalIn_bool' w d t a b ht,by simp[dI,kc]⟩
def q9(P:Program)(d:Nat):Nat→List Field→List C→Prop
 |_,[],z=>z=[]
 |off,f::fs,z=>∃g z1 z2,z=z1++z2∧f.name≠ "_" ∧f.offset=off∧(∀w,(isAgg f.type).run P w= .ok g w)∧(∀w,(sizeOf f.type).run P w= .ok z1.length w)∧(g=false→z1.length=1)∧
   cj P d f.type g z1∧q9 P d (off+z1.length) fs z2
theorem yL{g:Bool}{n:Nat}{e:TypeId}{w:World}{pre v1 v2:List Value}(hg:∀w,(isAgg e).run P w= .ok g w)(hz:∀w,(sizeOf e).run P w= .ok n w)(hn:v1.length=n)(h1:g=false→n=1):
  (part e (pre++(v1++v2)).toArray pre.length).run P w= .ok (gV g v1) w:=by
 cases g with
 |true=>
  simp[part,hg,hz,gV];rw[←hn,List.take_left]
 |false=>
  have:=h1 rfl;subst hn;obtain⟨v,rfl⟩:=List.length_eq_one_iff.1 this;simp[part,hg,gV]
theorem wO{F:Nat→Prop}{H:ab}{m:Md}:∀{fs:List Field} {z:List C} {pre pre':List Value} {cs ds:List C} {vs us:List Value},q9 P d pre.length fs z→pre.length=pre'.length→dF z cs=true→dF z ds=true→RL F H m cs vs→RL F H m ds us→
  ∀w:World,∃r:Bool,(Op.eqFields d (pre++vs).toArray (pre'++us).toArray fs).run P w= .ok r w∧(r=true↔dI cs ds)
 |[],z,pre,pre',cs,ds,vs,us,h,_,h1,h2,_,_,w=>by
  cases h;cases cs with
  |nil=>cases ds with
   |nil=>exact⟨true,by simp[Op.eqFields],by simp[dI]⟩
   |cons y q=>cases h2
  |cons x r=>cases h1
 |f::fs,z,pre,pre',cs,ds,vs,us,hF,hp,h1,h2,r1,r2,w=>by
  obtain⟨g,z1,z2,rfl,hn,ho,hg,hz,h3,hc,hf⟩:=hF;obtain⟨c1,c2,rfl,k1,k2⟩:=tv h1;obtain⟨d1,d2,rfl,l1,l2⟩:=tv h2;obtain⟨v1,v2,rfl,r3,r4⟩:=r1.split;obtain⟨u1,u2,rfl,s3,s4⟩:=r2.split;have e1:v1.length=z1.length:=r3.length.symm.trans (nZ k1).symm;have e2:u1.length=z1.length:=s3.length.symm.trans (nZ l1).symm;obtain⟨b,hb,hbi⟩:=hc F H m c1 d1 v1 u1 k1 l1 r3 s3 w;have p1:=yL (w:=w) (pre:=pre) (v2:=v2) hg hz e1 h3;have p2:=yL (w:=w) (pre:=pre') (v2:=u2) hg hz e2 h3;rw[←hp]at p2;have hl:c1.length=d1.length:=(nZ k1).symm.trans (nZ l1);rw[uN hl];simp only[Op.eqFields,if_pos hn,ho,Sem.run_bind,p1,p2,hb,Result.andThen_ok];cases b with
  |false=>exact⟨false,by simp,by simp[←hbi]⟩
  |true=>
   obtain⟨r,hr,hri⟩:=wO (pre:=pre++v1) (pre':=pre'++u1) (fs:=fs) (z:=z2) (by rw[List.length_append,e1];exact hf) (by rw[List.length_append,List.length_append,e1,e2,hp]) k2 l2 r4 s4 w;refine⟨r,?_,by simp[←hbi,hri]⟩;rw[List.append_assoc,List.append_assoc]at hr;simpa using hr
theorem cj.struct{z:List C}(ht:P.underlying t=some (.struct (P.fieldsOf t)))(hp:P.stoodInHeld t=false)(h:q9 P d 0 (P.fieldsOf t).toList z):cj P (d+1) t true z:=fun F H m cs ds vs us h1 h2 r1 r2 w=>by
 obtain⟨r,h3,h4⟩:=wO (pre:=[]) (pre':=[]) h rfl h1 h2 r1 r2 w;exact⟨r,(run_equalIn_agg w d t _ _ ht hp).trans h3,h4⟩
end
theorem ez{P:Program}{t:TypeId}{i:TypeInfo}{n:Nat}(h:∀w,(typeInfo t).run P w= .ok i w)(hs:i.size=n):∀w,(sizeOf t).run P w= .ok n w:=fun w=>by simp[sizeOf,h,hs]
theorem nM{P:Program}{t:TypeId}{fs:Array Field}(h:P.underlying t=some (.struct fs)):(P.fieldsOf t).toList=fs.toList:=by simp[Program.fieldsOf,h]
def q8(P:Program)(t:TypeId)(z:List C):Prop:=P.eqGuardType P.depth t=false∧cj P 10000 t true z
end Go.AM
end
section
namespace Go.AM
open Go Go.NB
inductive TK where
 |int (k:IntKind)|str|bool|sl (e:Nat)|struct (offs:List (Nat×Nat))|arr (n e:Nat)|ptr|ifc|other
structure TD:Type 1 where
 size:Nat
 agg:Bool
 bytes:Nat
 kind:TK
 zero:List C
 cmp:Bool
 α:Type
 enc:α→List C
def re(P:Program)(tab:Nat→Option TD)(t:TypeId):TK→Prop
 | .int k=>P.underlying t=some (.int k)
 | .str=>P.underlying t=some .string
 | .bool=>P.underlying t=some .bool
 | .sl e=>P.underlying t=some (.slice e)
 | .struct offs=>∃fs:Array Field,P.underlying t=some (.struct fs)∧fs.toList.map (fun f=>(f.type,f.offset))=offs∧(offs.all fun p=>(tab p.1).isSome)=true
 | .arr n e=>P.underlying t=some (.array n e)
 | .ptr=>∃e,P.underlying t=some (.pointer e)
 | .ifc=>∃ms,P.underlying t=some (.interface ms)
 | .other=>True
structure bm(P:Program)(tab:Nat→Option TD):Prop where
 info:∀t d,tab t=some d→∃i z zs,(∀w,(typeInfo t).run P w= .ok i w)∧i.size=d.size∧i.bytes=d.bytes∧i.zero=some z∧z.cells=List.toArray zs∧∀F H m,RL F H m d.zero zs
 agg:∀t d,tab t=some d→∀w,(isAgg t).run P w= .ok d.agg w
 one:∀t d,tab t=some d→d.agg=false→d.size=1
 zl:∀t d,tab t=some d→d.zero.length=d.size
 kind:∀t d,tab t=some d→re P tab t d.kind
 cmp:∀t d,tab t=some d→d.cmp=true→q8 P t d.zero
section
variable {P:Program} {tab:Nat→Option TD}
theorem bm.size(h:bm P tab){t:Nat}{d:TD}(ht:tab t=some d)(w:World):(sizeOf t).run P w= .ok d.size w:=by
 obtain⟨i,z,zs,h1,h2,_⟩:=h.info t d ht;simp[sizeOf,h1,h2]
theorem bm.zero(h:bm P tab){t:Nat}{d:TD}(ht:tab t=some d):∃z zs,(∀w,(zeroValue t).run P w= .ok z w)∧z.cells=List.toArray zs∧∀F H m,RL F H m d.zero zs:=by
 obtain⟨i,z,zs,h1,h2,h3,h4,h5,h6⟩:=h.info t d ht;exact⟨z,zs,fun w=>by simp[zeroValue,h1,h4],h5,h6⟩
end
def bA(b:UInt8):List C:=[.int .u8 b.toNat]
def r9:Value→A
 | .int k n=>.c (.int k n)
 | .bool b=>.c (.bool b)
 | .string s=>bif Nat.ble s.data.toList.length 9223372036854775807 then .c (.str s.data.toList)else .undef
 | .slice none 0 0=>.c .nil
 | .pointer none=>.c (.raw (.pointer none))
 | .nilIface=>.c (.raw .nilIface)
 | .nilFunc=>.c (.raw .nilFunc)
 |_=>.undef
def aM(s:St):Operand→A
 | .tmp t=>(lk s.env t).getD .undef
 | .const v=>r9 v
 | .func f=>.c (.fn f [])
 | .global _=>.undef
def nC:A→Option (List C)
 | .c x=>some [x]
 | .st cs=>some cs
 |_=>none
def rd(d:TD)(cs:List C)(k:A→Prop):Prop:=
 bif Nat.ble d.size cs.length then(bif d.agg then k (.st (cs.take d.size))else match cs with|x::_=>k (.c x)|[]=>False)else False
def c8:IntKind→IntKind→Bool
 | .i64,.i64=>true
 | .u8,.u8=>true
 | .i32,.i32=>true
 | .u64,.u64=>true
 |_,_=>false
theorem kA{i j:IntKind}(h:c8 i j=true):i=j:=by
 cases i<;>cases j<;>first|rfl|(simp[c8]at h;done)
def arith(op:BinOp)(x y:C)(k:A→Prop):Prop:=
 match op,x,y with
 | .add,.int .i64 a,.int .i64 b=>aE (a+b)∧k (.c (.int .i64 (a+b)))
 | .add,.int .u8 a,.int .u8 b=>k (.c (.int .u8 (IntKind.u8.wrap (a+b))))
 | .sub,.int .i64 a,.int .i64 b=>aE (a-b)∧k (.c (.int .i64 (a-b)))
 | .mul,.int .i64 a,.int .i64 b=>aE (a*b)∧k (.c (.int .i64 (a*b)))
 | .quo,.int .i64 a,.int .i64 b=>(b≠0∧aE (a.tdiv b))∧k (.c (.int .i64 (a.tdiv b)))
 | .rem,.int .i64 a,.int .i64 b=>b≠0∧k (.c (.int .i64 (a.tmod b)))
 | .quo,.int .u8 a,.int .u8 b=>b≠0∧k (.c (.int .u8 (IntKind.u8.wrap (a.tdiv b))))
 | .rem,.int .u8 a,.int .u8 b=>b≠0∧k (.c (.int .u8 (a.tmod b)))
 | .rem,.int .u64 a,.int .u64 b=>b≠0∧k (.c (.int .u64 (a.tmod b)))
 | .shr,.int j a,.int _ b=>0≤b∧k (.c (.int j (a.fdiv (2^min b.toNat j.bits))))
 | .shl,.int .i64 a,.int _ b=>(0≤b∧aE (a*2^min b.toNat 64))∧k (.c (.int .i64 (a*2^min b.toNat 64)))
 | .and,.int i a,.int j b=>bif c8 i j then k (.c (.int i (i.wrap (BitVec.ofInt i.bits a&&&BitVec.ofInt i.bits b).toNat)))else False
 | .or,.int i a,.int j b=>bif c8 i j then k (.c (.int i (i.wrap (BitVec.ofInt i.bits a|||BitVec.ofInt i.bits b).toNat)))else False
 | .lss,.int i a,.int j b=>bif c8 i j then k (.c (.bool (decide (a<b))))else False
 | .leq,.int i a,.int j b=>bif c8 i j then k (.c (.bool (decide (a≤b))))else False
 | .gtr,.int i a,.int j b=>bif c8 i j then k (.c (.bool (decide (b<a))))else False
 | .geq,.int i a,.int j b=>bif c8 i j then k (.c (.bool (decide (b≤a))))else False
 | .eql,.int i a,.int j b=>bif c8 i j then k (.c (.bool (decide (a=b))))else False
 | .neq,.int i a,.int j b=>bif c8 i j then k (.c (.bool (!decide (a=b))))else False
 | .add,.str a,.str b=>a.length+b.length≤9223372036854775807∧k (.c (.str (a++b)))
 | .eql,.str a,.str b=>k (.c (.bool (decide (a=b))))
 | .neq,.str a,.str b=>k (.c (.bool (!decide (a=b))))
 | .lss,.str a,.str b=>k (.c (.bool (Op.bytesLess a b)))
 | .leq,.str a,.str b=>k (.c (.bool (Op.bytesLess a b||decide (a=b))))
 | .gtr,.str a,.str b=>k (.c (.bool (!(Op.bytesLess a b||decide (a=b)))))
 | .geq,.str a,.str b=>k (.c (.bool (!Op.bytesLess a b)))
 |_,_,_=>False
section
variable {P:Program} {tab:Nat→Option TD} {F:Nat→Prop} {H:ab} {m:Md}
theorem AF{op:BinOp}{x y:C}{u v:Value}{k:A→Prop}{t:TypeId}{ox oy:Operand}(h:arith op x y k)(hx:RL F H m [x] [u])(hy:RL F H m [y] [v]):
  ∃r a,k a∧RA F H m a r∧(∀w,(binOp op t u v).run P w= .ok r w)∧∀w,(eqGuard op t ox oy u v).run P w= .ok () w:=by
 unfold arith at h;split at h
 ·cases hx;cases hy;exact⟨_,_,h.2,.int .nl,fun w=>by rw[binOp_add];simp[Op.intArith,IntWalk.i64_in _ h.1],fun w=>rfl⟩
 ·cases hx;cases hy;exact⟨_,_,h,.int .nl,fun w=>by rw[binOp_add];simp[Op.intArith],fun w=>rfl⟩
 ·cases hx;cases hy;exact⟨_,_,h.2,.int .nl,fun w=>by rw[binOp_sub];simp[Op.intArith,IntWalk.i64_in _ h.1],fun w=>rfl⟩
 ·cases hx;cases hy;exact⟨_,_,h.2,.int .nl,fun w=>by rw[binOp_mul];simp[Op.intArith,IntWalk.i64_in _ h.1],fun w=>rfl⟩
 ·cases hx;cases hy;exact⟨_,_,h.2,.int .nl,fun w=>by simp[binOp,Op.intDiv,h.1.1,IntWalk.i64_in _ h.1.2],fun w=>rfl⟩
 ·cases hx;cases hy;exact⟨_,_,h.2,.int .nl,fun w=>by simp[binOp,Op.intDiv,h.1],fun w=>rfl⟩
 ·cases hx;cases hy;exact⟨_,_,h.2,.int .nl,fun w=>by simp[binOp,Op.intDiv,h.1],fun w=>rfl⟩
 ·cases hx;cases hy;exact⟨_,_,h.2,.int .nl,fun w=>by simp[binOp,Op.intDiv,h.1],fun w=>rfl⟩
 ·cases hx;cases hy;exact⟨_,_,h.2,.int .nl,fun w=>by simp[binOp,Op.intDiv,h.1],fun w=>rfl⟩
 ·cases hx;cases hy;exact⟨_,_,h.2,.int .nl,fun w=>by simp[binOp,Op.shift,Int.not_lt.2 h.1],fun w=>rfl⟩
 ·cases hx;cases hy;exact⟨_,_,h.2,.int .nl,fun w=>by simp[binOp,Op.shift,Int.not_lt.2 h.1.1,IntKind.bits];exact IntWalk.i64_in _ h.1.2,fun w=>rfl⟩
 ·rename_i i a j b;cases hx;cases hy;have hij:c8 i j=true:=by cases e:c8 i j with|true=>rfl|false=>rw[e]at h;exact h.elim
  obtain rfl:=kA hij;rw[hij]at h;exact⟨_,_,h,.int .nl,fun w=>by simp[binOp,Op.intBits],fun w=>rfl⟩
 ·rename_i i a j b;cases hx;cases hy;have hij:c8 i j=true:=by cases e:c8 i j with|true=>rfl|false=>rw[e]at h;exact h.elim
  obtain rfl:=kA hij;rw[hij]at h;exact⟨_,_,h,.int .nl,fun w=>by simp[binOp,Op.intBits],fun w=>rfl⟩
 ·rename_i i a j b;cases hx;cases hy;have hij:c8 i j=true:=by cases e:c8 i j with|true=>rfl|false=>rw[e]at h;exact h.elim
  obtain rfl:=kA hij;rw[hij]at h;exact⟨_,_,h,.bool .nl,fun w=>by rw[binOp_lss];rfl,fun w=>rfl⟩
 ·rename_i i a j b;cases hx;cases hy;have hij:c8 i j=true:=by cases e:c8 i j with|true=>rfl|false=>rw[e]at h;exact h.elim
  obtain rfl:=kA hij;rw[hij]at h;exact⟨_,_,h,.bool .nl,fun w=>by rw[binOp_leq];rfl,fun w=>rfl⟩
 ·rename_i i a j b;cases hx;cases hy;have hij:c8 i j=true:=by cases e:c8 i j with|true=>rfl|false=>rw[e]at h;exact h.elim
  obtain rfl:=kA hij;rw[hij]at h;exact⟨_,_,h,.bool .nl,fun w=>by rw[binOp_gtr];rfl,fun w=>rfl⟩
 ·rename_i i a j b;cases hx;cases hy;have hij:c8 i j=true:=by cases e:c8 i j with|true=>rfl|false=>rw[e]at h;exact h.elim
  obtain rfl:=kA hij;rw[hij]at h;exact⟨_,_,h,.bool .nl,fun w=>by rw[binOp_geq];rfl,fun w=>rfl⟩
 ·rename_i i a j b;cases hx;cases hy;have hij:c8 i j=true:=by cases e:c8 i j with|true=>rfl|false=>rw[e]at h;exact h.elim
  obtain rfl:=kA hij;rw[hij]at h;exact⟨_,_,h,.bool .nl,fun w=>by rw[binOp_eql];rfl,fun w=>by rw[eqGuard_at_int];rfl⟩
 ·rename_i i a j b;cases hx;cases hy;have hij:c8 i j=true:=by cases e:c8 i j with|true=>rfl|false=>rw[e]at h;exact h.elim
  obtain rfl:=kA hij;rw[hij]at h;exact⟨_,_,h,.bool .nl,fun w=>by rw[binOp_neq];rfl,fun w=>by rw[eqGuard_at_int];rfl⟩
 ·rename_i a b;cases hx;cases hy;refine⟨_,_,h.2,.str (by rw[List.length_append];exact h.1) .nl,fun w=>?_,fun w=>rfl⟩;have e1:(⟨a.toArray⟩:ByteArray).size=a.length:=rfl;have e2:(⟨b.toArray⟩:ByteArray).size=b.length:=rfl;have h1:=h.1;have h2:¬((9223372036854775807:Int)<(a.length:Int)+(b.length:Int)):=by omega
  simp[NB.str,binOp,Op.stringOp,e1,e2,h2];apply ByteArray.ext;simp
 ·cases hx;cases hy;exact⟨_,_,h,.bool .nl,fun w=>by simp[NB.str,binOp,Op.stringOp];exact ny _ _,fun w=>by unfold NB.str;rw[eqGuard_at_string];rfl⟩
 ·cases hx;cases hy;exact⟨_,_,h,.bool .nl,fun w=>by simp[NB.str,binOp,Op.stringOp];rw[ny],fun w=>by unfold NB.str;rw[eqGuard_at_string];rfl⟩
 ·cases hx;cases hy;exact⟨_,_,h,.bool .nl,fun w=>by simp[NB.str,binOp,Op.stringOp],fun w=>rfl⟩
 ·cases hx;cases hy;exact⟨_,_,h,.bool .nl,fun w=>by simp[NB.str,binOp,Op.stringOp];rw[ny],fun w=>rfl⟩
 ·cases hx;cases hy;exact⟨_,_,h,.bool .nl,fun w=>by simp[NB.str,binOp,Op.stringOp];rw[ny],fun w=>rfl⟩
 ·cases hx;cases hy;exact⟨_,_,h,.bool .nl,fun w=>by simp[NB.str,binOp,Op.stringOp],fun w=>rfl⟩
 ·exact h.elim
end
end Go.AM
end
