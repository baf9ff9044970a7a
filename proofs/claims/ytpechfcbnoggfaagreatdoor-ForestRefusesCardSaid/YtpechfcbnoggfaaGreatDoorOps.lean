/- part -/
import Derived.Test.YtpechfcbnoggfaaGreatDoorMem
import Derived.Laws.Entries
import Derived.Laws.Strings
import Derived.Laws.BytesString
import Derived.Laws.Cells
namespace Go.NB
def aN(c:Cx)(o:Oper)(env:Env)(S:ab→Prop)(v:Value):Prop:=
 ∀a w,Fr c env a→S w.heap→bd c.W0 w→(execOp a.eval o).run c.P w= .ok (.value v) w
def Is(H:ab):ab→Prop:=fun H'=>H'=H
def Up(H:ab):ab→Prop:=fun H'=>ak [] H H'
def Reach(H:ab)(S:ab→Prop):Prop:=∀H',S H'→ak [] H H'
theorem Reach.is(H:ab):Reach H (Is H):=fun _ h=>by rw[show _=H from h];exact ak.refl _ _
theorem Reach.up(H:ab):Reach H (Up H):=fun _ h=>h
theorem Reach.of{H0 H:ab}{S:ab→Prop}(k:ak [] H0 H)(r:Reach H S):Reach H0 S:=fun H' h=>k.trans (r H' h)
section
variable {c:Cx} {o:Oper} {env:Env} {S:ab→Prop}
theorem V.move{x:Operand}{v:Value}(ho:o.op= .move x)(hx:Ev env x v):aN c o env S v:=fun a w hf _ _=>by
 unfold execOp;rw[ho];simp[hf.eval hx]
theorem V.assign{x:Operand}{v:Value}(ho:o.op= .assign x)(hx:Ev env x v):aN c o env S v:=fun a w hf _ _=>by
 unfold execOp;rw[ho];simp[hf.eval hx]
theorem V.nilCheck{x:Operand}{p:Addr}(ho:o.op= .nilCheck x)(hx:Ev env x (.pointer (some p))):aN c o env S (.pointer (some p)):=fun a w hf _ _=>by
 unfold execOp;rw[ho];simp[hf.eval hx]
theorem V.not{t:TypeId}{x:Operand}{b:Bool}(ho:o.op= .unOp .not t x)(hx:Ev env x (.bool b)):aN c o env S (.bool (!b)):=fun a w hf _ _=>by
 unfold execOp;rw[ho];simp[hf.eval hx,Op.unary]
theorem V.neg{t:TypeId}{x:Operand}{n:Int}(ho:o.op= .unOp .neg t x)(hx:Ev env x (iv n))(h:aE (0-n)):aN c o env S (iv (0-n)):=fun a w hf _ _=>by
 unfold execOp;rw[ho];simp[hf.eval hx,iv,Op.unary,Op.intArith]at*;rw[IntWalk.i64_in _ (by unfold aE at h;omega)]
theorem V.extract{x:Operand}{i:Nat}{vs:List Value}{v:Value}(ho:o.op= .extract x i)(hx:Ev env x (.tuple vs.toArray))(hv:vs[i]? =some v):aN c o env S v:=fun a w hf _ _=>by
 unfold execOp;rw[ho];simp[hf.eval hx,Instr.extract,hv]
theorem V.makeFunc{fn:Fn}{caps:List Operand}{vs:List Value}(ho:o.op= .makeFunc fn #[] caps.toArray)(hx:∀a,Fr c env a→caps.map a.eval=vs):aN c o env S (.func fn #[] vs.toArray):=fun a w hf _ _=>by
 unfold execOp;rw[ho];simp[Instr.makeFunc,hx a hf]
section cmp
variable {t u:TypeId} {x y:Operand} {a b:Int} {k:IntKind}
theorem V.bin{op:BinOp}{p q v:Value}(ho:o.op= .binOp op t x y u)(hx:Ev env x p)(hy:Ev env y q)
  (h:∀w,(binOp op t p q).run c.P w= .ok v w)(hg:∀w,(eqGuard op t x y p q).run c.P w= .ok () w):aN c o env S v:=fun a w hf _ _=>by
 unfold execOp;rw[ho];simp[hf.eval hx,hf.eval hy,h,hg]
theorem V.lss(ho:o.op= .binOp .lss t x y u)(hx:Ev env x (.int k a))(hy:Ev env y (.int k b)):aN c o env S (.bool (decide (a<b))):=
 V.bin ho hx hy (fun w=>by rw[binOp_lss];rfl) (fun w=>rfl)
theorem V.leq(ho:o.op= .binOp .leq t x y u)(hx:Ev env x (.int k a))(hy:Ev env y (.int k b)):aN c o env S (.bool (decide (a≤b))):=
 V.bin ho hx hy (fun w=>by rw[binOp_leq];rfl) (fun w=>rfl)
theorem V.gtr(ho:o.op= .binOp .gtr t x y u)(hx:Ev env x (.int k a))(hy:Ev env y (.int k b)):aN c o env S (.bool (decide (b<a))):=
 V.bin ho hx hy (fun w=>by rw[binOp_gtr];rfl) (fun w=>rfl)
theorem V.geq(ho:o.op= .binOp .geq t x y u)(hx:Ev env x (.int k a))(hy:Ev env y (.int k b)):aN c o env S (.bool (decide (b≤a))):=
 V.bin ho hx hy (fun w=>by rw[binOp_geq];rfl) (fun w=>rfl)
theorem V.eql(ho:o.op= .binOp .eql t x y u)(hx:Ev env x (.int k a))(hy:Ev env y (.int k b)):aN c o env S (.bool (decide (a=b))):=
 V.bin ho hx hy (fun w=>by rw[binOp_eql];rfl) (fun w=>by rw[eqGuard_at_int];rfl)
theorem V.neq(ho:o.op= .binOp .neq t x y u)(hx:Ev env x (.int k a))(hy:Ev env y (.int k b)):aN c o env S (.bool (!decide (a=b))):=
 V.bin ho hx hy (fun w=>by rw[binOp_neq];rfl) (fun w=>by rw[eqGuard_at_int];rfl)
theorem V.add(ho:o.op= .binOp .add t x y u)(hx:Ev env x (.int .i64 a))(hy:Ev env y (.int .i64 b))(h:aE (a+b)):aN c o env S (.int .i64 (a+b)):=
 V.bin ho hx hy (fun w=>by rw[binOp_add];simp[Op.intArith,IntWalk.i64_in _ h]) (fun w=>rfl)
theorem V.sub(ho:o.op= .binOp .sub t x y u)(hx:Ev env x (.int .i64 a))(hy:Ev env y (.int .i64 b))(h:aE (a-b)):aN c o env S (.int .i64 (a-b)):=
 V.bin ho hx hy (fun w=>by rw[binOp_sub];simp[Op.intArith,IntWalk.i64_in _ h]) (fun w=>rfl)
theorem V.mul(ho:o.op= .binOp .mul t x y u)(hx:Ev env x (.int .i64 a))(hy:Ev env y (.int .i64 b))(h:aE (a*b)):aN c o env S (.int .i64 (a*b)):=
 V.bin ho hx hy (fun w=>by rw[binOp_mul];simp[Op.intArith,IntWalk.i64_in _ h]) (fun w=>rfl)
theorem V.max2{ts:Array TypeId}(ho:o.op= .call {callee:= .builtin .max,args:= #[x,y],argTypes:=ts})(hx:Ev env x (.int .i64 a))(hy:Ev env y (.int .i64 b)):aN c o env S (.int .i64 (max a b)):=fun f w hf _ _=>by
 unfold execOp;rw[ho];simp[resolve,invoke,builtin,hf.eval hx,hf.eval hy,Builtin.max_,Builtin.max2];omega
end cmp
theorem ny(a b:List UInt8):(a==b)=decide (a=b):=by
 rw[Bool.eq_iff_iff];simp
theorem V.GL{t u:TypeId}{x y:Operand}{a b:List UInt8}(ho:o.op= .binOp .eql t x y u)(hx:Ev env x (str a))(hy:Ev env y (str b)):aN c o env S (.bool (decide (a=b))):=
 V.bin ho hx hy (fun w=>by simp[str,binOp,Op.stringOp];exact ny _ _) (fun w=>by unfold str;rw[eqGuard_at_string];rfl)
theorem V.pick{x y z:Operand}{b:Bool}{p q v:Value}(ho:o.op= .pick x y z)(hx:Ev env x (.bool b))(hy:b=true→Ev env y p)(hz:b=false→Ev env z q)(hv:(bif b then p else q)=v):aN c o env S v:=fun a w hf _ _=>by
 unfold execOp;rw[ho];cases b with
 |true=>simp[hf.eval hx,asBool,hf.eval (hy rfl)];exact hv
 |false=>simp[hf.eval hx,asBool,hf.eval (hz rfl)];exact hv
theorem V.and{x y:Operand}{b d:Bool}(ho:o.op= .pick x y (.const (.bool false)))(hx:Ev env x (.bool b))(hy:b=true→Ev env y (.bool d)):aN c o env S (.bool (b&&d)):=
 V.pick ho hx hy (fun _=>⟨_,rfl,rfl⟩) (by cases b<;>rfl)
theorem V.or{x y:Operand}{b d:Bool}(ho:o.op= .pick x (.const (.bool true)) y)(hx:Ev env x (.bool b))(hy:b=false→Ev env y (.bool d)):aN c o env S (.bool (b||d)):=
 V.pick ho hx (fun _=>⟨_,rfl,rfl⟩) hy (by cases b<;>rfl)
theorem V.pZ{x:Operand}{t e:TypeId}{p:Option Addr}{n m:Nat}(ho:o.op= .call {callee:= .builtin .len,args:= #[x],argTypes:= #[t]})(ht:c.P.underlying t=some (.slice e))
  (hx:Ev env x (.slice p n m)):aN c o env S (iv n):=fun a w hf _ _=>by
 unfold execOp;rw[ho];simp[resolve,invoke,builtin,hf.eval hx,Builtin.len_,run_underlying ht,goInt,iv]
theorem V.len{α:Type}{T:Ty α}{H:ab}{M:List Nat}{v:Value}{xs:List α}{x:Operand}{t e:TypeId}(ho:o.op= .call {callee:= .builtin .len,args:= #[x],argTypes:= #[t]})
  (ht:c.P.underlying t=some (.slice e))(hx:Ev env x v)(hs:Sl T H M v xs):aN c o env S (iv xs.length):=by
 rcases hs with⟨_,rfl,rfl⟩|⟨b,off,cap,rfl,_⟩
 ·exact V.pZ ho ht hx
 ·exact V.pZ ho ht hx
theorem zw{P:Program}{s:TypeId}{fs:Array Field}{f:Field}{i m:Nat}(hs:P.underlying s=some (.struct fs))(hf:fs[i]? =some f)(hz:∀w,(sizeOf f.type).run P w= .ok m w)(hm:m≠0)(b o:Nat)(w:World):
  (Instr.fieldAt s (.pointer (some ⟨b,o,none⟩)) i).run P w= .ok (.pointer (some ⟨b,o+f.offset,none⟩)) w:=by
 simp[Instr.fieldAt,run_underlying hs,hf,Instr.sureAddr,fieldPlace,hz,hm,Addr.add_lit]
theorem V.fieldAddr{s:TypeId}{fs:Array Field}{f:Field}{x:Operand}{i m b off:Nat}(n:Nat)(ho:o.op= .fieldAddr s x i)(hs:c.P.underlying s=some (.struct fs))(hf:fs[i]? =some f)
  (hz:∀w,(sizeOf f.type).run c.P w= .ok m w)(hm:m≠0)(hx:Ev env x (.pointer (some ⟨b,off,none⟩)))(hk:off+f.offset=n):aN c o env S (.pointer (some ⟨b,n,none⟩)):=fun a w hfr _ _=>by
 subst hk;unfold execOp;rw[ho];simp[hfr.eval hx,zw hs hf hz hm]
theorem V.xC{t e:TypeId}{x y:Operand}{b off n m sz i:Nat}{k:IntKind}(ho:o.op= .indexAddr t x y)(ht:c.P.underlying t=some (.slice e))(hz:∀w,(sizeOf e).run c.P w= .ok sz w)
  (hx:Ev env x (.slice (some ⟨b,off,none⟩) n m))(hy:Ev env y (.int k (i:Int)))(hi:i<n):aN c o env S (.pointer (some ⟨b,off+i*sz,none⟩)):=fun a w hf _ _=>by
 unfold execOp;rw[ho];simp[hf.eval hx,hf.eval hy,Instr.indexAt,run_underlying ht,hz,asIntOf,hi,Addr.add_lit]
theorem V.yi{t:TypeId}{x:Operand}{b off:Nat}{v:Value}(ho:o.op= .load t x)(ha:∀w,(isAgg t).run c.P w= .ok false w)(hx:Ev env x (.pointer (some ⟨b,off,none⟩)))
  (hc:∀H',S H'→cell H' b off=some v):aN c o env S v:=fun a w hf hS _=>by
 unfold execOp;rw[ho];simp[hf.eval hx,Instr.loadAt,Instr.sureAddr,loadVar,ha,dg rfl,hc _ hS]
theorem V.El{t:TypeId}{x:Operand}{b off:Nat}{cs:List Value}(ho:o.op= .load t x)(ha:∀w,(isAgg t).run c.P w= .ok true w)(hz:∀w,(sizeOf t).run c.P w= .ok cs.length w)
  (hx:Ev env x (.pointer (some ⟨b,off,none⟩)))(hc:∀H',S H'→∀j u,cs[j]? =some u→cell H' b (off+j)=some u):aN c o env S (.agg cs.toArray):=fun a w hf hS _=>by
 have:=run_loadCells_list (P:=c.P) (w:=w) ⟨b,off,none⟩ cs (fun j v hj=>by rw[Addr.add_lit,dg rfl];exact hc _ hS j v hj);unfold execOp;rw[ho];simp[hf.eval hx,Instr.loadAt,Instr.sureAddr,loadVar,ha,hz,this]
theorem V.conv{s d:TypeId}{x:Operand}{p v:Value}(ho:o.op= .convert s d x)(hx:Ev env x p)(h:∀w,S w.heap→(convert s d p).run c.P w= .ok v w):aN c o env S v:=fun a w hf hS _=>by
 unfold execOp;rw[ho];simp[hf.eval hx,h w hS]
theorem V.build{t:TypeId}{parts:List (Nat×Operand)}{vs:List (Nat×Value)}{v:Value}(ho:o.op= .build t parts.toArray)(hx:∀a,Fr c env a→parts.map (fun p=>(p.1,a.eval p.2))=vs)
  (h:∀w,(Instr.build t vs.toArray).run c.P w= .ok v w):aN c o env S v:=fun a w hf _ _=>by
 have e:=hx a hf;unfold execOp;rw[ho];simp only[List.map_toArray];rw[show(List.map (fun x:Nat×Operand=>match x with|(i,x)=>(i,a.eval x)) parts)=vs from e];simp[h w]
theorem V.slice{t:TypeId}{x:Operand}{lo hi mx:Option Operand}{p v:Value}{lv hv mv:Option Value}(ho:o.op= .slice t x lo hi mx)(hx:Ev env x p)
  (hl:∀a,Fr c env a→lo.map a.eval=lv)(hh:∀a,Fr c env a→hi.map a.eval=hv)(hm:∀a,Fr c env a→mx.map a.eval=mv)
  (h:∀w,(Instr.sliceAt t p lv hv mv).run c.P w= .ok v w):aN c o env S v:=fun a w hf _ _=>by
 unfold execOp;rw[ho];simp[hf.eval hx,hl a hf,hh a hf,hm a hf,h w]
theorem gi{α:Type}{xs:List α}{i:Nat}(h:i<xs.length):xs[i]? =some xs[i]:=List.getElem?_eq_getElem h
theorem X.idx{α:Type}{T:Ty α}{H:ab}{M:List Nat}{v:Value}{xs:List α}{d:α}{t e:TypeId}{x y:Operand}{k:IntKind}{n:Int}{i:Nat}(ho:o.op= .indexAddr t x y)(ht:c.P.underlying t=some (.slice e))
  (hz:∀w,(sizeOf e).run c.P w= .ok T.size w)(hs:Sl T H M v xs)(hx:Ev env x v)(hy:Ev env y (.int k n))(hn:n=(i:Int))(hi:xs[i]? =some d):∃u,aN c o env S u∧gm T H M u d:=by
 subst hn;obtain⟨hj,rfl⟩:=List.getElem?_eq_some_iff.1 hi;rcases hs with⟨_,rfl,rfl⟩|⟨b,off,cap,rfl,hb,hm,h1,h2,h3,h4⟩
 ·simp at hj
 ·exact⟨_,V.xC ho ht hz hx hy hj,b,_,rfl,h4 i hj⟩
theorem X.load{α:Type}{T:Ty α}{H:ab}{M:List Nat}{v:Value}{d:α}{t:TypeId}{x:Operand}(ho:o.op= .load t x)(ha:∀w,(isAgg t).run c.P w= .ok T.agg w)(hz:∀w,(sizeOf t).run c.P w= .ok T.size w)
  (hp:gm T H M v d)(hx:Ev env x v)(hS:Reach H S):∃u,aN c o env S u∧T.V H M u d:=by
 obtain⟨b,off,rfl,hb,hm,cs,hr,hc⟩:=hp;refine⟨T.val cs,?_,cs,hr,rfl⟩;have hl:=T.len hr;unfold Ty.val;cases hag:T.agg with
 |true=>exact V.El ho (by rw[hag]at ha;exact ha) (by rw[hl];exact hz) hx (fun H' h j u hj=>fj (hc j u hj) (hS H' h) (by simp))
 |false=>
  rw[T.sc hag]at hl;match cs,hl with
  |[u],_=>exact V.yi ho (by rw[hag]at ha;exact ha) hx (fun H' h=>by have:=fj (hc 0 u rfl) (hS H' h) (by simp);simpa using this)
theorem V.tA{H:ab}{M:List Nat}{v:Value}{d:Int}{t:TypeId}{x:Operand}(ho:o.op= .load t x)(ha:∀w,(isAgg t).run c.P w= .ok false w)(hz:∀w,(sizeOf t).run c.P w= .ok 1 w)
  (hp:gm j6 H M v d)(hx:Ev env x v)(hS:Reach H S):aN c o env S (iv d):=by
 obtain⟨u,h1,h2⟩:=X.load (T:=j6) ho ha hz hp hx hS;rw[(GY.1 h2).1]at h1;exact h1
theorem V.yj{H:ab}{M:List Nat}{v:Value}{d:UInt8}{t:TypeId}{x:Operand}(ho:o.op= .load t x)(ha:∀w,(isAgg t).run c.P w= .ok false w)(hz:∀w,(sizeOf t).run c.P w= .ok 1 w)
  (hp:gm aV H M v d)(hx:Ev env x v)(hS:Reach H S):aN c o env S (bv d):=by
 obtain⟨u,h1,h2⟩:=X.load (T:=aV) ho ha hz hp hx hS;rw[zS.1 h2]at h1;exact h1
theorem X.gX{α:Type}{T:Ty α}{H:ab}{M:List Nat}{v:Value}{d:List α}{t:TypeId}{x:Operand}(ho:o.op= .load t x)(ha:∀w,(isAgg t).run c.P w= .ok false w)(hz:∀w,(sizeOf t).run c.P w= .ok 1 w)
  (hp:gm (bO T) H M v d)(hx:Ev env x v)(hS:Reach H S):∃u,aN c o env S u∧Sl T H M u d:=by
 obtain⟨u,h1,h2⟩:=X.load (T:=bO T) ho ha hz hp hx hS;exact⟨u,h1,ib.1 h2⟩
theorem CM(l:List UInt8)(s:ByteArray):(l.map fun b=>(b.toNat:Int)).foldl (fun r n=>r.push (UInt8.ofNat n.toNat)) s=⟨s.data++l.toArray⟩:=by
 induction l generalizing s with
 |nil=>simp
 |cons b l ih=>
  rw[List.map_cons,List.foldl_cons,ih];simp[ByteArray.push]
theorem V.vL{s d e:TypeId}{x:Operand}{v:Value}{l:List UInt8}{H:ab}{M:List Nat}(ho:o.op= .convert s d x)(hs:c.P.underlying s=some (.slice e))(he:c.P.underlying e=some (.int .u8))(hd:c.P.underlying d=some .string)
  (hv:Sl aV H M v l)(hx:Ev env x v)(hS:Reach H S):aN c o env S (str l):=by
 refine V.conv ho hx fun w hw=>?_;rcases hv with⟨p,rfl,rfl⟩|⟨b,off,cap,rfl,hb,hm,h1,h2,h3,h4⟩
 ·rw[run_convert_bytes_string w s d e _ _ _ hs he hd];cases p with
  |none=>rfl
  |some a=>exact run_bytesToString w a 0 0 [] (by simpa using run_loadCells_list (P:=c.P) (w:=w) a [] (by simp))
 ·rw[run_convert_bytes_string w s d e _ _ _ hs he hd]
  have hl:(loadCells ⟨b,off,none⟩ l.length).run c.P w= .ok ((l.map fun b=>(b.toNat:Int)).map (Value.int .u8)).toArray w:=by
   have := run_loadCells_list (P := c.P) (w := w) ⟨b, off, none⟩ ((l.map fun b => (b.toNat : Int)).map (Value.int .u8)) (fun j u hj=>by
    have hjl:j<l.length:=by
     rcases Nat.lt_or_ge j l.length with h|h
     ·exact h
     ·rw[List.getElem?_eq_none (by simpa using h)]at hj;cases hj
    obtain⟨_,_,cs,⟨rfl,_⟩,hc⟩:=h4 j hjl;have hc0:=hc 0 _ rfl;have hk:=fj hc0 (hS _ hw) (by simp);rw[Addr.add_lit,dg rfl];rw[List.getElem?_map,List.getElem?_map,List.getElem?_eq_getElem hjl]at hj;simp at hj;subst hj;have e:aV.size=1:=rfl;rw[e]at hk;simpa[bv]using hk)
   simpa using this
  rw[run_bytesToString w _ _ _ _ hl,CM];simp[ByteArray.empty,ByteArray.emptyWithCapacity,str];rfl
def ra{α β:Type}(T:Ty α)(T':Ty β)(off:Nat)(proj:α→β):Prop:=∀{H M cs x},T.R H M cs x→T'.R H M ((cs.drop off).take T'.size) (proj x)
theorem X.field{α β:Type}{T:Ty α}{T':Ty β}{foff:Nat}{proj:α→β}{H:ab}{M:List Nat}{v:Value}{d:α}{s:TypeId}{fs:Array Field}{f:Field}{x:Operand}{i m:Nat}(ho:o.op= .fieldAddr s x i)(hs:c.P.underlying s=some (.struct fs))(hf:fs[i]? =some f)
  (hz:∀w,(sizeOf f.type).run c.P w= .ok m w)(hm:m≠0)(hF:ra T T' foff proj)(hoff:f.offset=foff)(hp:gm T H M v d)(hx:Ev env x v):∃u,aN c o env S u∧gm T' H M u (proj d):=by
 obtain⟨b,off,rfl,hb,hM,cs,hr,hc⟩:=hp;refine⟨_,V.fieldAddr _ ho hs hf hz hm hx rfl,b,_,rfl,hb,hM,_,hF hr,fun j u hj=>?_⟩;rw[List.getElem?_take]at hj;split at hj
 ·rw[List.getElem?_drop]at hj;have:=hc _ u hj;rw[show off+f.offset+j=off+(foff+j)by omega];exact this
 ·cases hj
theorem G.load{t:TypeId}{x:Operand}{H:ab}{b i:Nat}{v:Value}(ho:o.op= .load t x)(ha:∀w,(isAgg t).run c.P w= .ok false w)(hx:Ev env x (.pointer (some ⟨b,i,none⟩)))(hc:cell H b i=some v)(hS:Reach H S):aN c o env S v:=
 V.yi ho ha hx fun H' h=>fj hc (hS H' h) (by simp)
end
end Go.NB
