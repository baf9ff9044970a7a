import Derived.Test.YtpechfcbnoggfaaGreatDoorMem
import Derived.Laws.Entries
import Derived.Laws.Strings
import Derived.Laws.BytesString
import Derived.Laws.Cells
open List renaming getElem?_eq_getElem->N,getElem?_map->O
namespace Go.NB
def bo(c:Cx)(o:Oper)(env:Env)(S:ae->Prop)(v:Value):Prop:=
 ∀a w,Fr c env a->S w.heap->bA c.W0 w->(execOp a.eval o).run c.P w= .ok (.value v) w
def Is(H:ae):ae->Prop:=λH'=>H'=H
def Reach(H:ae)(S:ae->Prop):Prop:=∀H',S H'->au [] H H'
theorem Reach.is(H:ae):Reach H (Is H):=λ_ h=>by rw[show _=H from h];exact au.refl _ _
section
variable {c:Cx} {o:Oper} {env:Env} {S:ae->Prop}
theorem V.move{x:Operand}{v:Value}(ho:o.op= .move x)(d:Ev env x v):bo c o env S v:=λa w b _ _=>by
 unfold execOp;rw[ho];simp[b.eval d]
theorem V.assign{x:Operand}{v:Value}(ho:o.op= .assign x)(d:Ev env x v):bo c o env S v:=λa w b _ _=>by
 unfold execOp;rw[ho];simp[b.eval d]
theorem V.nilCheck{x:Operand}{p:Addr}(ho:o.op= .nilCheck x)(d:Ev env x (.pointer (some p))):bo c o env S (.pointer (some p)):=λa w b _ _=>by
 unfold execOp;rw[ho];simp[b.eval d]
theorem V.not{t:TypeId}{x:Operand}{b:Bool}(ho:o.op= .unOp .not t x)(e:Ev env x (.bool b)):bo c o env S (.bool (!b)):=λa w d _ _=>by
 unfold execOp;rw[ho];simp[d.eval e,Op.unary]
section cmp
variable {t u:TypeId} {x y:Operand} {a b:Int} {k:IntKind}
theorem V.bin{b:BinOp}{p q v:Value}(ho:o.op= .binOp b t x y u)(e:Ev env x p)(hy:Ev env y q)
  (h:∀w,(binOp b t p q).run c.P w= .ok v w)(hg:∀w,(eqGuard b t x y p q).run c.P w= .ok () w):bo c o env S v:=λa w d _ _=>by
 unfold execOp;rw[ho];simp[d.eval e,d.eval hy,h,hg]
theorem V.lss(ho:o.op= .binOp .lss t x y u)(d:Ev env x (.int k a))(hy:Ev env y (.int k b)):bo c o env S (.bool (decide (a<b))):=
 V.bin ho d hy (λw=>by rw[binOp_lss];rfl) (λw=>rfl)
theorem V.gtr(ho:o.op= .binOp .gtr t x y u)(d:Ev env x (.int k a))(hy:Ev env y (.int k b)):bo c o env S (.bool (decide (b<a))):=
 V.bin ho d hy (λw=>by rw[binOp_gtr];rfl) (λw=>rfl)
theorem V.geq(ho:o.op= .binOp .geq t x y u)(d:Ev env x (.int k a))(hy:Ev env y (.int k b)):bo c o env S (.bool (decide (b<=a))):=
 V.bin ho d hy (λw=>by rw[binOp_geq];rfl) (λw=>rfl)
theorem V.eql(ho:o.op= .binOp .eql t x y u)(d:Ev env x (.int k a))(hy:Ev env y (.int k b)):bo c o env S (.bool (decide (a=b))):=
 V.bin ho d hy (λw=>by rw[binOp_eql];rfl) (λw=>by rw[eqGuard_at_int];rfl)
theorem V.add(ho:o.op= .binOp .add t x y u)(d:Ev env x (.int .i64 a))(hy:Ev env y (.int .i64 b))(h:cD (a+b)):bo c o env S (.int .i64 (a+b)):=
 V.bin ho d hy (λw=>by rw[binOp_add];simp[Op.intArith,IntWalk.i64_in _ h]) (λw=>rfl)
theorem V.sub(ho:o.op= .binOp .sub t x y u)(d:Ev env x (.int .i64 a))(hy:Ev env y (.int .i64 b))(h:cD (a-b)):bo c o env S (.int .i64 (a-b)):=
 V.bin ho d hy (λw=>by rw[binOp_sub];simp[Op.intArith,IntWalk.i64_in _ h]) (λw=>rfl)
theorem V.max2{ts:Array TypeId}(ho:o.op= .call {callee:= .builtin .max,args:= #[x,y],argTypes:=ts})(e:Ev env x (.int .i64 a))(hy:Ev env y (.int .i64 b)):bo c o env S (.int .i64 (max a b)):=λf w d _ _=>by
 unfold execOp;rw[ho];simp[resolve,invoke,builtin,d.eval e,d.eval hy,Builtin.max_,Builtin.max2];omega
end cmp
theorem qo(a b:List UInt8):(a==b)=decide (a=b):=by
 rw[Bool.eq_iff_iff];simp
theorem V.OU{t u:TypeId}{x y:Operand}{a b:List UInt8}(ho:o.op= .binOp .eql t x y u)(d:Ev env x (str a))(hy:Ev env y (str b)):bo c o env S (.bool (decide (a=b))):=
 V.bin ho d hy (λw=>by simp[str,binOp,Op.stringOp];exact qo _ _) (λw=>by unfold str;rw[eqGuard_at_string];rfl)
theorem V.pick{x y z:Operand}{b:Bool}{p q v:Value}(ho:o.op= .pick x y z)(e:Ev env x (.bool b))(hy:b=true->Ev env y p)(hz:b=false->Ev env z q)(hv:(bif b then p else q)=v):bo c o env S v:=λa w d _ _=>by
 unfold execOp;rw[ho];cases b with
 |true=>simp[d.eval e,asBool,d.eval (hy rfl)];exact hv
 |false=>simp[d.eval e,asBool,d.eval (hz rfl)];exact hv
theorem V.and{x y:Operand}{b d:Bool}(ho:o.op= .pick x y (.const (.bool false)))(a:Ev env x (.bool b))(hy:b=true->Ev env y (.bool d)):bo c o env S (.bool (b&&d)):=
 V.pick ho a hy (λ_=>⟨_,rfl,rfl⟩) (by cases b<;>rfl)
theorem V.tA{x:Operand}{t e:TypeId}{p:Option Addr}{n m:Nat}(ho:o.op= .call {callee:= .builtin .len,args:= #[x],argTypes:= #[t]})(d:c.P.underlying t=some (.slice e))
  (f:Ev env x (.slice p n m)):bo c o env S (iv n):=λa w b _ _=>by
 unfold execOp;rw[ho];simp[resolve,invoke,builtin,b.eval f,Builtin.len_,run_underlying d,goInt,iv]
theorem V.len{α:Type}{T:Ty α}{H:ae}{M:List Nat}{v:Value}{xs:List α}{x:Operand}{t e:TypeId}(ho:o.op= .call {callee:= .builtin .len,args:= #[x],argTypes:= #[t]})
  (a:c.P.underlying t=some (.slice e))(d:Ev env x v)(f:Sl T H M v xs):bo c o env S (iv xs.length):=by
 rcases f with⟨_,rfl,rfl⟩|⟨b,off,cap,rfl,_⟩
 ·exact V.tA ho a d
 ·exact V.tA ho a d
theorem Ep{P:Program}{s:TypeId}{fs:Array Field}{f:Field}{i m:Nat}(c:P.underlying s=some (.struct fs))(a:fs[i]? =some f)(hz:∀w,(sizeOf f.type).run P w= .ok m w)(hm:m≠0)(b o:Nat)(w:World):
  (Instr.fieldAt s (.pointer (some ⟨b,o,none⟩)) i).run P w= .ok (.pointer (some ⟨b,o+f.offset,none⟩)) w:=by
 simp[Instr.fieldAt,run_underlying c,a,Instr.sureAddr,fieldPlace,hz,hm,Addr.add_lit]
theorem V.fieldAddr{s:TypeId}{fs:Array Field}{f:Field}{x:Operand}{i m b off:Nat}(n:Nat)(ho:o.op= .fieldAddr s x i)(g:c.P.underlying s=some (.struct fs))(e:fs[i]? =some f)
  (hz:∀w,(sizeOf f.type).run c.P w= .ok m w)(hm:m≠0)(h:Ev env x (.pointer (some ⟨b,off,none⟩)))(hk:off+f.offset=n):bo c o env S (.pointer (some ⟨b,n,none⟩)):=λa w d _ _=>by
 subst hk;unfold execOp;rw[ho];simp[d.eval h,Ep g e hz hm]
theorem V.Ca{t e:TypeId}{x y:Operand}{b off n m sz i:Nat}{k:IntKind}(ho:o.op= .indexAddr t x y)(f:c.P.underlying t=some (.slice e))(hz:∀w,(sizeOf e).run c.P w= .ok sz w)
  (g:Ev env x (.slice (some ⟨b,off,none⟩) n m))(hy:Ev env y (.int k (i:Int)))(hi:i<n):bo c o env S (.pointer (some ⟨b,off+i*sz,none⟩)):=λa w d _ _=>by
 unfold execOp;rw[ho];simp[d.eval g,d.eval hy,Instr.indexAt,run_underlying f,hz,asIntOf,hi,Addr.add_lit]
theorem V.je{t:TypeId}{x:Operand}{b off:Nat}{v:Value}(ho:o.op= .load t x)(e:∀w,(isAgg t).run c.P w= .ok false w)(g:Ev env x (.pointer (some ⟨b,off,none⟩)))
  (hc:∀H',S H'->cell H' b off=some v):bo c o env S v:=λa w f d _=>by
 unfold execOp;rw[ho];simp[f.eval g,Instr.loadAt,Instr.sureAddr,loadVar,e,dG rfl,hc _ d]
theorem V.Lo{t:TypeId}{x:Operand}{b off:Nat}{cs:List Value}(ho:o.op= .load t x)(e:∀w,(isAgg t).run c.P w= .ok true w)(hz:∀w,(sizeOf t).run c.P w= .ok cs.length w)
  (h:Ev env x (.pointer (some ⟨b,off,none⟩)))(hc:∀H',S H'->∀j u,cs[j]? =some u->cell H' b (off+j)=some u):bo c o env S (.agg cs.toArray):=λa w f d _=>by
 have:=run_loadCells_list (P:=c.P) (w:=w) ⟨b,off,none⟩ cs (λj v g=>by rw[Addr.add_lit,dG rfl];exact hc _ d j v g);unfold execOp;rw[ho];simp[f.eval h,Instr.loadAt,Instr.sureAddr,loadVar,e,hz,this]
theorem V.conv{s d:TypeId}{x:Operand}{p v:Value}(ho:o.op= .convert s d x)(f:Ev env x p)(h:∀w,S w.heap->(convert s d p).run c.P w= .ok v w):bo c o env S v:=λa w e b _=>by
 unfold execOp;rw[ho];simp[e.eval f,h w b]
theorem V.build{t:TypeId}{b:List (Nat×Operand)}{vs:List (Nat×Value)}{v:Value}(ho:o.op= .build t b.toArray)(f:∀a,Fr c env a->b.map (λp=>(p.1,a.eval p.2))=vs)
  (h:∀w,(Instr.build t vs.toArray).run c.P w= .ok v w):bo c o env S v:=λa w d _ _=>by
 have e:=f a d;unfold execOp;rw[ho];simp only[List.map_toArray];rw[show(List.map (λx:Nat×Operand=>match x with|(i,x)=>(i,a.eval x)) b)=vs from e];simp[h w]
theorem V.slice{t:TypeId}{x:Operand}{lo hi mx:Option Operand}{p v:Value}{lv hv mv:Option Value}(ho:o.op= .slice t x lo hi mx)(e:Ev env x p)
  (hl:∀a,Fr c env a->lo.map a.eval=lv)(d:∀a,Fr c env a->hi.map a.eval=hv)(hm:∀a,Fr c env a->mx.map a.eval=mv)
  (h:∀w,(Instr.sliceAt t p lv hv mv).run c.P w= .ok v w):bo c o env S v:=λa w b _ _=>by
 unfold execOp;rw[ho];simp[b.eval e,hl a b,d a b,hm a b,h w]
theorem gi{α:Type}{xs:List α}{i:Nat}(h:i<xs.length):xs[i]? =some xs[i]:=N h
theorem X.idx{α:Type}{T:Ty α}{H:ae}{M:List Nat}{v:Value}{xs:List α}{d:α}{t e:TypeId}{x y:Operand}{k:IntKind}{n:Int}{i:Nat}(ho:o.op= .indexAddr t x y)(h:c.P.underlying t=some (.slice e))
  (hz:∀w,(sizeOf e).run c.P w= .ok T.size w)(g:Sl T H M v xs)(j:Ev env x v)(hy:Ev env y (.int k n))(hn:n=(i:Int))(hi:xs[i]? =some d):∃u,bo c o env S u/\r9 T H M u d:=by
 subst hn;obtain⟨a,rfl⟩:=List.getElem?_eq_some_iff.1 hi;rcases g with⟨_,rfl,rfl⟩|⟨b,l,cap,rfl,hb,r,m,p,q,f⟩
 ·simp at a
 ·exact⟨_,V.Ca ho h hz j hy a,b,_,rfl,f i a⟩
theorem X.load{α:Type}{T:Ty α}{H:ae}{M:List Nat}{v:Value}{d:α}{t:TypeId}{x:Operand}(ho:o.op= .load t x)(e:∀w,(isAgg t).run c.P w= .ok T.agg w)(hz:∀w,(sizeOf t).run c.P w= .ok T.size w)
  (p:r9 T H M v d)(m:Ev env x v)(i:Reach H S):∃u,bo c o env S u/\T.V H M u d:=by
 obtain⟨b,q,rfl,hb,r,f,l,k⟩:=p;refine⟨T.val f,?_,f,l,rfl⟩;have g:=T.len l;unfold Ty.val;cases a:T.agg with
 |true=>exact V.Lo ho (by rw[a]at e;exact e) (by rw[g];exact hz) m (λH' h j u n=>gM (k j u n) (i H' h) (by simp))
 |false=>
  rw[T.sc a]at g;match f,g with
  |[u],_=>exact V.je ho (by rw[a]at e;exact e) m (λH' h=>by have:=gM (k 0 u rfl) (i H' h) (by simp);simpa using this)
theorem V.CT{H:ae}{M:List Nat}{v:Value}{d:Int}{t:TypeId}{x:Operand}(ho:o.op= .load t x)(f:∀w,(isAgg t).run c.P w= .ok false w)(hz:∀w,(sizeOf t).run c.P w= .ok 1 w)
  (g:r9 oP H M v d)(h:Ev env x v)(e:Reach H S):bo c o env S (iv d):=by
 obtain⟨u,a,b⟩:=X.load (T:=oP) ho f hz g h e;rw[(Pf.1 b).1]at a;exact a
theorem X.pF{α:Type}{T:Ty α}{H:ae}{M:List Nat}{v:Value}{d:List α}{t:TypeId}{x:Operand}(ho:o.op= .load t x)(f:∀w,(isAgg t).run c.P w= .ok false w)(hz:∀w,(sizeOf t).run c.P w= .ok 1 w)
  (g:r9 (ia T) H M v d)(h:Ev env x v)(e:Reach H S):∃u,bo c o env S u/\Sl T H M u d:=by
 obtain⟨u,a,b⟩:=X.load (T:=ia T) ho f hz g h e;exact⟨u,a,yv.1 b⟩
theorem Jr(l:List UInt8)(s:ByteArray):(l.map λb=>(b.toNat:Int)).foldl (λr n=>r.push (UInt8.ofNat n.toNat)) s=⟨s.data++l.toArray⟩:=by
 induction l generalizing s with
 |nil=>simp
 |cons b l ih=>
  rw[List.map_cons,List.foldl_cons,ih];simp[ByteArray.push]
theorem V.Ag{s d e:TypeId}{x:Operand}{v:Value}{l:List UInt8}{H:ae}{M:List Nat}(ho:o.op= .convert s d x)(n:c.P.underlying s=some (.slice e))(he:c.P.underlying e=some (.int .u8))(hd:c.P.underlying d=some .string)
  (hv:Sl dy H M v l)(D:Ev env x v)(r:Reach H S):bo c o env S (str l):=by
 refine V.conv ho D λw z=>?_;rcases hv with⟨p,rfl,rfl⟩|⟨b,i,cap,rfl,hb,K,F,I,J,q⟩
 ·rw[run_convert_bytes_string w s d e _ _ _ n he hd];cases p with
  |none=>rfl
  |some a=>exact run_bytesToString w a 0 0 [] (by simpa using run_loadCells_list (P:=c.P) (w:=w) a [] (by simp))
 ·rw[run_convert_bytes_string w s d e _ _ _ n he hd]
  have y:(loadCells ⟨b,i,none⟩ l.length).run c.P w= .ok ((l.map λb=>(b.toNat:Int)).map (Value.int .u8)).toArray w:=by
   have := run_loadCells_list (P := c.P) (w := w) ⟨b, i, none⟩ ((l.map λb => (b.toNat : Int)).map (Value.int .u8)) (λj u f=>by
    have g:j<l.length:=by
     rcases Nat.lt_or_ge j l.length with h|h
     ·exact h
     ·rw[List.getElem?_eq_none (by simpa using h)]at f;cases f
    obtain⟨_,_,E,⟨rfl,_⟩,t⟩:=q j g;have k:=t 0 _ rfl;have m:=gM k (r _ z) (by simp);rw[Addr.add_lit,dG rfl];rw[O,O,N g]at f;simp at f;subst f;have e:dy.size=1:=rfl;rw[e]at m;simpa[bv]using m)
   simpa using this
  rw[run_bytesToString w _ _ _ _ y,Jr];simp[ByteArray.empty,ByteArray.emptyWithCapacity,str];rfl
theorem G.load{t:TypeId}{x:Operand}{H:ae}{b i:Nat}{v:Value}(ho:o.op= .load t x)(d:∀w,(isAgg t).run c.P w= .ok false w)(e:Ev env x (.pointer (some ⟨b,i,none⟩)))(hc:cell H b i=some v)(a:Reach H S):bo c o env S v:=
 V.je ho d e λH' h=>gM hc (a H' h) (by simp)
end
end Go.NB
