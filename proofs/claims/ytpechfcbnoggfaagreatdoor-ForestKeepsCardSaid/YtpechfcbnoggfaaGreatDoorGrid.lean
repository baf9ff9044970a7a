/- part -/
import Derived.Test.YtpechfcbnoggfaaGreatDoorAm1
import Derived.Lib.BytesEntry
import Derived.Laws.Externs
import Derived.Lib.SliceRun
section
namespace Go.NB
section
variable {c:Cx} {o:Oper} {env:Env} {S:ab→Prop}
theorem A6{P:Program}{t e:TypeId}{sz:Nat}(c:P.underlying t=some (.slice e))(hz:∀w,(sizeOf e).run P w= .ok sz w)(p:Option Addr)(n cap:Nat)(lo hi:Option Nat)(b:lo.getD 0≤hi.getD n)(a:hi.getD n≤cap)(w:World):
  (Instr.sliceAt t (.slice p n cap) (lo.map fun x=>iv (x:Nat)) (hi.map fun x=>iv (x:Nat)) .none).run P w=
   .ok (.slice (if cap=lo.getD 0 then p else p.map (·.add (lo.getD 0*sz))) (hi.getD n-lo.getD 0) (cap-lo.getD 0)) w:=by
 cases lo with
 |none=>
  cases hi with
  |none=>simp[Instr.sliceAt,Instr.slice,run_underlying c,Instr.sliceBounds,hz]at b a⊢
  |some h=>
   simp at b a;have d:(0:Int)≤(h:Int)∧(h:Int)≤(cap:Int):=⟨by omega,by omega⟩;simp[Instr.sliceAt,Instr.slice,run_underlying c,Instr.sliceBounds,Instr.sliceBound,asIntOf,iv,hz,a]
 |some l=>
  cases hi with
  |none=>
   simp at b a;simp[Instr.sliceAt,Instr.slice,run_underlying c,Instr.sliceBounds,Instr.sliceBound,asIntOf,iv,hz,b]
  |some h=>
   simp at b a;simp[Instr.sliceAt,Instr.slice,run_underlying c,Instr.sliceBounds,Instr.sliceBound,asIntOf,iv,hz,b,a]
theorem Sl.cut{α:Type}{T:Ty α}{H:ab}{M:List Nat}{v:Value}{xs:List α}(h:Sl T H M v xs)(lo hi:Nat)(h1:lo≤hi)(h2:hi≤xs.length):
  ∃p n cap,v= .slice p n cap∧n=xs.length∧hi≤cap∧Sl T H M (.slice (if cap=lo then p else p.map (·.add (lo*T.size))) (hi-lo) (cap-lo)) ((xs.take hi).drop lo):=by
 rcases h with⟨_,rfl,rfl⟩|⟨b,a,cap,rfl,hb,j,l,m,o,k⟩
 ·simp at h2;have c:lo=0:=by omega
  subst h2 c;exact⟨_,_,_,rfl,rfl,Nat.le_refl _,.inl ⟨_,rfl,rfl⟩⟩
 ·refine⟨_,_,_,rfl,rfl,by omega,?_⟩;have c:((xs.take hi).drop lo).length=hi-lo:=by rw[List.length_drop,List.length_take];omega
  by_cases g:cap=lo
  ·rw[if_pos g];have f:hi-lo=0:=by omega
   rw[f];have e:(xs.take hi).drop lo=[]:=List.eq_nil_of_length_eq_zero (by rw[c];exact f);rw[e];exact .inr ⟨b,a,cap-lo,rfl,hb,j,by simp,by omega,by simp,fun i hi=>by simp at hi⟩
  ·rw[if_neg g];refine .inr ⟨b,a+lo*T.size,cap-lo,by rw[c];simp[Addr.add_lit],hb,j,by omega,by omega,by omega,fun i d=>?_⟩;rw[c]at d;have:=k (lo+i) (by omega);rw[show a+lo*T.size+i*T.size=a+(lo+i)*T.size by rw[Nat.add_mul];omega];rw[show((xs.take hi).drop lo)[i]'(by rw[c];exact d)=xs[lo+i]'(by omega)by simp];exact this
theorem X.sliceTo{α:Type}{T:Ty α}{H:ab}{M:List Nat}{v:Value}{xs:List α}{t e:TypeId}{x y:Operand}{n:Int}{hi:Nat}(ho:o.op= .slice t x .none (some y) .none)(i:c.P.underlying t=some (.slice e))
  (hz:∀w,(sizeOf e).run c.P w= .ok T.size w)(h:Sl T H M v xs)(j:Ev env x v)(hy:Ev env y (iv n))(hn:n=(hi:Int))(g:hi≤xs.length):∃u,bB c o env S u∧Sl T H M u (xs.take hi):=by
 subst hn;obtain⟨p,m,cap,rfl,rfl,b,d⟩:=h.cut 0 hi (by omega) g;exact⟨_,V.slice (lv:= .none) (hv:=some (iv hi)) (mv:= .none) ho j (fun _ _=>rfl) (fun a f=>by simp[f.eval hy]) (fun _ _=>rfl) (fun w=>A6 i hz p _ cap .none (some hi) (by simp) (by simpa using b) w),by simpa using d⟩
theorem X.sliceFrom{α:Type}{T:Ty α}{H:ab}{M:List Nat}{v:Value}{xs:List α}{t e:TypeId}{x y:Operand}{n:Int}{lo:Nat}(ho:o.op= .slice t x (some y) .none .none)(i:c.P.underlying t=some (.slice e))
  (hz:∀w,(sizeOf e).run c.P w= .ok T.size w)(h:Sl T H M v xs)(j:Ev env x v)(hy:Ev env y (iv n))(hn:n=(lo:Int))(b:lo≤xs.length):∃u,bB c o env S u∧Sl T H M u (xs.drop lo):=by
 subst hn;obtain⟨p,m,cap,rfl,rfl,d,f⟩:=h.cut lo xs.length b (Nat.le_refl _);refine⟨_,V.slice (lv:=some (iv lo)) (hv:= .none) (mv:= .none) ho j (fun a g=>by simp[g.eval hy]) (fun _ _=>rfl) (fun _ _=>rfl) (fun w=>A6 i hz p _ cap (some lo) .none (by simpa using b) (by simpa using d) w),?_⟩;simpa using f
theorem V.rY{t e u:TypeId}{x:Operand}{p:Option Addr}{n m:Nat}(ho:o.op= .binOp .eql t x (.const (.slice .none 0 0)) u)(a:c.P.underlying t=some (.slice e))(b:Ev env x (.slice p n m)):bB c o env S (.bool p.isNone):=by
 exact V.bin ho b ⟨_,rfl,rfl⟩ (fun w=>Lib.run_eql_slice_nil w t e p n m 0 0 a) (fun w=>by rw[eqGuard_at_slice];rfl)
theorem X.rY{α:Type}{T:Ty α}{H:ab}{M:List Nat}{v:Value}{xs:List α}{t e u:TypeId}{x:Operand}(ho:o.op= .binOp .eql t x (.const (.slice .none 0 0)) u)(a:c.P.underlying t=some (.slice e))(d:Ev env x v)(f:Sl T H M v xs):
  ∃w,bB c o env S w∧∃b,w= .bool b∧(b=true→xs=[]):=by
 rcases f with⟨_,rfl,rfl⟩|⟨b,g,cap,rfl,hb,m,i,j,k,l⟩
 ·exact⟨_,V.rY ho a d,_,rfl,fun _=>rfl⟩
 ·exact⟨_,V.rY ho a d,_,rfl,fun h=>by simp at h⟩
end
structure App(v v':Value)(H H':ab):Prop where
 ca:aq (ob v) H H'
 blocks:∀b∈ob v',b∈ob v∨H.size≤b
theorem App.mv{v v':Value}{H H':ab}(a:App v v' H H')(M:List Nat):Mv H (ob v++M) (ob v'++M):=fun k b=>by
 rcases List.mem_append.1 b with h|h
 ·rcases a.blocks k h with h|h
  ·exact .inl (List.mem_append_left _ h)
  ·exact .inr h
 ·exact .inl (List.mem_append_right _ h)
theorem App.km{v v':Value}{H H':ab}(a:App v v' H H')(M:List Nat):aq (ob v++M) H H':=a.ca.mono fun _ h=>List.mem_append_left _ h
theorem App.new{v v':Value}{H0 H H':ab}(a:App v v' H H')(K:aq [] H0 H)(h:∀i∈ob v,H0.size≤i):∀i∈ob v',H0.size≤i:=fun i b=>by
 rcases a.blocks i b with h1|h1
 ·exact h i h1
 ·exact Nat.le_trans K.1 h1
theorem App.K{v v':Value}{H0 H H':ab}(a:App v v' H H')(K:aq [] H0 H)(h:∀i∈ob v,H0.size≤i):aq [] H0 H':=K.then a.ca fun i b=>.inr (h i b)
theorem App.push{v v':Value}{H c H':ab}(k:aq [] H c)(a:App v v' c H'):App v v' H H':=
 ⟨k.nil.trans a.ca,fun b hb=>(a.blocks b hb).imp id fun h=>Nat.le_trans k.1 h⟩
theorem Sl.app{α:Type}{T:Ty α}{v v' u:Value}{H H':ab}{M:List Nat}{xs:List α}(h:Sl T H (ob v++M) u xs)(a:App v v' H H'):Sl T H' (ob v'++M) u xs:=h.tr (a.km M) (a.mv M)
theorem Mv.own{H:ab}{M:List Nat}{v:Value}(h:∀i∈ob v,H.size≤i):Mv H M (ob v++M):=fun k b=>(List.mem_append.1 b).elim (fun a=>.inr (h k a)) .inl
theorem Sl.in{α:Type}{T:Ty α}{H0 H:ab}{M:List Nat}{u v:Value}{xs:List α}(h:Sl T H0 M u xs)(K:aq [] H0 H)(hv:∀i∈ob v,H0.size≤i):Sl T H (ob v++M) u xs:=h.tr K.nil (Mv.own hv)
theorem cH.qQ{α:Type}{T:Ty α}{H0 H:ab}{M:List Nat}{e:TypeId}{v:Value}{xs:List α}(h:cH T H (ob v++M) e v xs)(hv:∀i∈ob v,H0.size≤i)(b:∀i∈M,i<H0.size):Sl T H M v xs:=
 h.sl (fun k a c=>by have:=hv k a;have:=b k c;omega) (fun _ a=>List.mem_append_right _ a)
theorem cH.lt{α:Type}{T:Ty α}{H:ab}{M:List Nat}{e:TypeId}{v:Value}{xs:List α}(h:cH T H M e v xs):∀i∈ob v,i<H.size:=let ⟨_,_,a,_⟩:=h;a.lt
theorem cH.mlt{α:Type}{T:Ty α}{H0 H:ab}{M N:List Nat}{e:TypeId}{v:Value}{xs:List α}(h:cH T H N e v xs)(K:aq [] H0 H)(a:∀i∈M,i<H0.size):∀i∈ob v++M,i<H.size:=fun i b=>
 (List.mem_append.1 b).elim (h.lt i) (fun h=>Nat.lt_of_lt_of_le (a i h) K.1)
theorem mlt{H0 H:ab}{M:List Nat}(K:aq [] H0 H)(a:∀i∈M,i<H0.size):∀i∈M,i<H.size:=fun i h=>Nat.lt_of_lt_of_le (a i h) K.1
section
variable {c:Cx} {env:Env} {H:ab} {Q:Exit→Act→World→Prop} {ops:Array Oper} {o:Oper} {rest:List Oper} {d:Nat} {α:Type} {T:Ty α} {M:List Nat}
theorem WL.app{t D e:TypeId}{i:TypeInfo}{z v x:Value}{s y:Operand}{xs ys:List α}{u:TypeDesc}(hg:o.guard= .none)(hd:o.dst=some d)(l:Nat.blt d c.n=true)
  (ho:o.op= .call {callee:= .builtin .append,args:= #[s,y],argTypes:= #[t,D]})(F:c.P.underlying t=some (.slice e))(q:c.P.underlying D=some u)(m:∀k,u≠.int k)
  (hi:∀w,(typeInfo e).run c.P w= .ok i w)(p:i.size=T.size)(hz:i.zero=some z)(r:z.cells.size=T.size)
  (E:Ev env s v)(hy:Ev env y x)(hr:cH T H (ob v++M) e v xs)(h:∃news,Src c.P H T.size x ys.length news∧dz T H (ob v++M) news ys)(b:(xs.length+ys.length)*i.bytes≤140737488355328)(hb:0<i.bytes)
  (k:∀v' H',cH T H' (ob v'++M) e v' (xs++ys)→App v v' H H'→WL c ops rest ((d,true,v')::env) H' Q):WL c ops (o::rest) env H Q:=by
 obtain⟨hl,cs,g,he⟩:=hr;obtain⟨news,hn,f⟩:=h;have h1:xs.length+ys.length≤140737488355328:=Nat.le_trans (Nat.le_mul_of_pos_right _ hb) b;refine WL.append hg hd l ho F q m hi p hz r E hy g hn f.one f.length b (by omega) fun v' H' n hk j=>?_;have a:App v v' H H':=⟨hk,j⟩;refine k v' H' ⟨by simp;omega,cs++news,by simpa using n,?_⟩ a;exact(he.tr (a.km M) (a.mv M)).append (f.tr (a.km M) (a.mv M))
theorem WL.sP{o1 o2:Oper}{l D:Nat}{t e:TypeId}{i:TypeInfo}{z v u:Value}{s x:Operand}{xs:List α}{y:α}(J:o1.guard= .none)(F:o1.dst=some l)(o:Nat.blt l c.n=true)(K:o2.guard= .none)(I:o2.dst=some D)(p:Nat.blt D c.n=true)
  (O:o1.op= .buildSlice t 1 #[(0,x)])(P:o2.op= .call {callee:= .builtin .append,args:= #[s,.tmp l],argTypes:= #[t,t]})(R:c.P.underlying t=some (.slice e))
  (N:∀w,(typeInfo e).run c.P w= .ok i w)(q:i.size=T.size)(Y:i.zero=some z)(S:z.cells.size=T.size)(ad:T.size≤1000)
  (hx:Ev env x u)(hu:T.V H (ob v++M) u y)(hs:∀f,Ev ((l,true,f)::env) s v)(hr:cH T H (ob v++M) e v xs)(m:(xs.length+1)*i.bytes≤140737488355328)(hb:0<i.bytes)
  (k:∀j H' f,cH T H' (ob j++M) e j (xs++[y])→App v j H H'→WL c ops rest ((D,true,j)::(l,true,f)::env) H' Q):WL c ops (o1::o2::rest) env H Q:=by
 obtain⟨r,E,rfl⟩:=hu;have b:=Ty.CP E;have d:=T.len E;refine WL.buildSlice (n:=1) (size:=T.size) (z:=z) (xs:=[x]) (vs:=[T.val r]) (css:=r) J F o O R (fun w=>by simp[sizeOf,N,q]) (fun w=>by simp[zeroValue,N,Y]) (.cons hx .nil) rfl (by omega) (fun v W=>by simp at W;subst W;rw[b];simpa using d) (by simp[b]) fun g H1 Z ac U=>?_
 exact WL.app (T:=T) (M:=M) (ys:=[y]) (x:= .slice (some ⟨g,0,none⟩) 1 1) K I p P R R (fun k h=>by cases h) N q Y S (hs _) ⟨true,by unfold ev look;simp,rfl⟩ (hr.at U)
  ⟨r,Src.bx Z (by simp[d]),dz.single (T.tr E U.nil (Mv.refl _ _))⟩ m hb fun j H' hO a=>k j H' _ hO (App.push U a)
end
theorem cH.empty{α:Type}(T:Ty α){H:ab}{M:List Nat}{g:Nat}{e:TypeId}(h:Bx H g e []):cH T H M e (.slice (some ⟨g,0,none⟩) 0 0) []:=
 ⟨by simp,[],⟨by simp,.inr ⟨g,0,#[],rfl,h,Nat.le_refl _,by simp,by simp,by simp⟩⟩,.nil⟩
theorem Fe{P:Program}{f:FuncId}{fn:Func}(h:P.funcs[f]? =some fn)(a:(fn.name== "runtime.NumGoroutine")=false)(hb:fn.body.isNone=true)(hn:Extern.findNext fn=none)(he:Extern.find fn=some Extern.BytealgIndexByte.indexByte)
  {H0:ab}{M:List Nat}{v:Value}{l:List UInt8}(hl:Sl cY H0 M v l)(b:UInt8):cS P f #[v,bv b] H0 (fun u H=>u=iv (Lib.indexByte l b)∧H=H0):=by
 intro w c;rw[run_callFunc_extern h a hb hn he];rcases hl with⟨p,rfl,rfl⟩|⟨g,off,cap,rfl,hb,hm,j,k,m,d⟩
 ·have e:(Extern.BytealgIndexByte.indexByte #[.slice p 0 0,.int .u8 b.toNat]).run P w= .ok (.int .i64 (Lib.indexByte [] b)) w:=by cases p<;>rfl
  rw[bv,e];exact⟨rfl,rfl,c⟩
 ·have := Lib.run_indexByteSlice (P := P) w g off l.length cap (l.map fun b => (b.toNat : Int)) (by simp) (fun i hi=>by
   obtain⟨_,_,cs,⟨rfl,_⟩,hc⟩:=d i hi;have:=hc 0 _ rfl;rw[dA c];simpa[bv,show cY.size=1 from rfl,hi]using this) b.toNat
  rw[bv,this];refine⟨rfl,?_,c⟩;have e:((fun n:Int=>UInt8.ofNat n.toNat)∘fun b:UInt8=>(b.toNat:Int))=id:=by funext x;simp
  simp[iv,Lib.bytesOf,e]
end Go.NB
end
section
namespace Go.NB
section
variable {c:Cx} {o:Oper} {env:Env} {S:ab→Prop}
theorem G.idx{t e:TypeId}{x y:Operand}{g n m i:Nat}{k:IntKind}{z:Int}(ho:o.op= .indexAddr t x y)(a:c.P.underlying t=some (.slice e))(hz:∀w,(sizeOf e).run c.P w= .ok 1 w)
  (b:Ev env x (.slice (some ⟨g,0,none⟩) n m))(hy:Ev env y (.int k z))(hn:z=(i:Int))(hi:i<n):bB c o env S (.pointer (some ⟨g,i,none⟩)):=by
 subst hn;have:=V.yV (S:=S) ho a hz b hy hi;simpa using this
end
def rv(m b:Nat):Value:= .slice (some ⟨b,0,none⟩) m m
def jz(n p r m:Nat)(B:Nat→Nat):List Value:=(List.range n).map fun i=>if p≤i∧i<r then rv m (B i)else .slice none 0 0
def gY(m:Nat)(f:Nat→Int):List Value:=(List.range m).map fun j=>iv (f j)
structure fD(H:ab)(eo er:TypeId)(g n p r m:Nat)(B:Nat→Nat)(F:Nat→Nat→Int):Prop where
 outer:Bx H g eo (jz n p r m B)
 le:r≤n
 row:∀i,p≤i→i<r→Bx H (B i) er (gY m (F i))∧B i≠g
 apart:∀i j,p≤i→i<r→p≤j→j<r→i≠j→B i≠B j
section
variable {H:ab} {eo er:TypeId} {g n p r m:Nat} {B:Nat→Nat} {F:Nat→Nat→Int}
theorem fD.rowAt(h:fD H eo er g n p r m B F){i:Nat}(h1:p≤i)(h2:i<r):cell H g i=some (rv m (B i)):=by
 rw[h.outer.cell];have:=h.le;simp[jz,show i<n by omega,h1,h2]
theorem fD.val(h:fD H eo er g n p r m B F){i j:Nat}(h1:p≤i)(h2:i<r)(a:j<m):cell H (B i) j=some (iv (F i j)):=by
 rw[(h.row i h1 h2).1.cell];simp[gY,a]
theorem FC(m:Nat)(f:Nat→Int)(j:Nat)(x:Int)(h:j<m):(gY m f).take j++[iv x]++(gY m f).drop (j+1)=gY m (fun k=>if k=j then x else f k):=by
 refine List.ext_getElem? fun k=>?_;unfold gY;by_cases c:k<j
 ·rw[List.append_assoc,List.getElem?_append_left (by simp;omega),List.getElem?_take_of_lt c];simp[show k<m by omega,show k≠j by omega]
 ·by_cases a:k=j
  ·subst a;rw[List.append_assoc,List.getElem?_append_right (by simp;omega)];simp[show min k m=k by omega,h]
  ·rw[List.append_assoc,List.getElem?_append_right (by simp;omega),List.getElem?_append_right (by simp;omega)];simp only[List.length_take,List.length_map,List.length_range,List.length_singleton,List.getElem?_drop,List.getElem?_map];rw[show j+1+(k-min j m-1)=k by omega];by_cases b:k<m
   ·simp[b,a]
   ·simp[b]
theorem fD.store{H':ab}{i j:Nat}{x:Int}(h:fD H eo er g n p r m B F)(h1:p≤i)(h2:i<r)(f:j<m)(hb:Bx H' (B i) er ((gY m (F i)).take j++[iv x]++(gY m (F i)).drop (j+1)))(k:aq [B i] H H'):
  fD H' eo er g n p r m B (fun a b=>if a=i∧b=j then x else F a b):=by
 refine⟨h.outer.ca k (by simpa using Ne.symm (h.row i h1 h2).2),h.le,fun a c d=>⟨?_,(h.row a c d).2⟩,h.apart⟩;by_cases e:a=i
 ·subst e;rw[FC m _ j x f]at hb;simpa using hb
 ·have:=(h.row a c d).1.ca k (by simpa using h.apart a i c d h1 h2 e);simpa[e]using this
theorem HU(n p r m:Nat)(B:Nat→Nat)(i b:Nat)(h:i<n)(hi:i=r∧p≤r∨i+1=p∧p≤r):
  (jz n p r m B).take i++[rv m b]++(jz n p r m B).drop (i+1)=jz n (if i=r then p else i) (if i=r then r+1 else r) m (fun k=>if k=i then b else B k):=by
 refine List.ext_getElem? fun k=>?_;unfold jz;by_cases c:k<i
 ·rw[List.append_assoc,List.getElem?_append_left (by simp;omega),List.getElem?_take_of_lt c];simp only[List.getElem?_map,List.getElem?_range (show k<n by omega),Option.map_some];congr 1
  rw[if_neg (show k≠i by omega)];rcases hi with⟨rfl,hi⟩|⟨rfl,hi⟩
  ·simp only[if_pos];by_cases a:p≤k
   ·rw[if_pos ⟨a,c⟩,if_pos ⟨a,by omega⟩]
   ·rw[if_neg (by omega),if_neg (by omega)]
  ·rw[if_neg (by omega),if_neg (by split<;>omega)]
 ·by_cases a:k=i
  ·subst a;rw[List.append_assoc,List.getElem?_append_right (by simp;omega)];simp only[List.length_take,List.length_map,List.length_range,show min k n=k by omega,Nat.sub_self,List.singleton_append,List.getElem?_cons_zero,List.getElem?_map,List.getElem?_range h,Option.map_some];congr 1
   rw[if_pos]
   ·simp
   rcases hi with⟨rfl,hi⟩|⟨rfl,hi⟩
   ·simp only[if_pos];omega
   ·rw[if_neg (by omega),if_neg (by omega)];omega
  ·rw[List.append_assoc,List.getElem?_append_right (by simp;omega),List.getElem?_append_right (by simp;omega)];simp only[List.length_take,List.length_map,List.length_range,List.length_singleton,List.getElem?_drop,List.getElem?_map];rw[show i+1+(k-min i n-1)=k by omega];by_cases d:k<n
   ·simp only[List.getElem?_range d,Option.map_some];congr 1
    rw[if_neg a];rcases hi with⟨rfl,hi⟩|⟨rfl,hi⟩
    ·simp only[if_pos];rw[if_neg (by omega),if_neg (by omega)]
    ·have e:¬i=r:=by omega
     simp only[if_neg e];by_cases f:k<r
     ·rw[if_pos ⟨by omega,f⟩,if_pos ⟨by omega,f⟩]
     ·rw[if_neg (by omega),if_neg (by omega)]
   ·rw[List.getElem?_eq_none (by simpa using d)];rfl
theorem FD(m:Nat):(List.replicate m [iv 0]).flatten=gY m (fun _=>0):=by
 refine List.ext_getElem? fun k=>?_
 have e:(List.replicate m [iv 0]).flatten=List.replicate m (iv 0):=by
  induction m with
  |zero=>rfl
  |succ m ih=>rw[List.replicate_succ,List.flatten_cons,ih];rfl
 rw[e];unfold gY;by_cases h:k<m
 ·simp[h]
 ·simp[h]
theorem HT(n m:Nat)(B:Nat→Nat)(q:Nat):(List.replicate n [Value.slice none 0 0]).flatten=jz n q q m B:=by
 refine List.ext_getElem? fun k=>?_
 have e:(List.replicate n [Value.slice none 0 0]).flatten=List.replicate n (.slice none 0 0):=by
  induction n with
  |zero=>rfl
  |succ m ih=>rw[List.replicate_succ,List.flatten_cons,ih];rfl
 rw[e];unfold jz;by_cases h:k<n
 ·simp[h];intro a b;omega
 ·simp[h]
theorem fD.HS{v H':ab}{i b:Nat}(h:fD H eo er g n p r m B F)(hi:i<n)(q:i=r∧p≤r∨i+1=p∧p≤r)(k1:aq [] H v)(hb:Bx v b er (gY m (fun _=>0)))(E:H.size≤b)
  (ho:Bx H' g eo ((jz n p r m B).take i++[rv m b]++(jz n p r m B).drop (i+1)))(z:aq [g] v H'):
  fD H' eo er g n (if i=r then p else i) (if i=r then r+1 else r) m (fun k=>if k=i then b else B k) (fun a c=>if a=i then 0 else F a c):=by
 have I:g<H.size:=h.outer.lt;have o:∀a,p≤a→a<r→B a<H.size:=fun a f j=>(h.row a f j).1.lt;rw[HU n p r m B i b hi q]at ho;refine⟨ho,?_,fun a f j=>?_,fun a s f j x y w=>?_⟩
 ·have:=h.le;split<;>omega
 ·by_cases e:a=i
  ·subst e;simp only[if_true];exact⟨hb.ca z (by simp;omega),by omega⟩
  ·have t:p≤a∧a<r:=by
    rcases q with⟨rfl,_⟩|⟨rfl,_⟩
    ·simp only[if_pos]at f j;omega
    ·have d:¬i=r:=by omega
     simp only[if_neg d]at f j;omega
   simp only[if_neg e];refine⟨((h.row a t.1 t.2).1.at k1).ca z (by simpa using(h.row a t.1 t.2).2),(h.row a t.1 t.2).2⟩
 ·have l:∀a,(if i=r then p else i)≤a→a<(if i=r then r+1 else r)→a≠i→p≤a∧a<r:=by
   intro a f j e;rcases q with⟨rfl,_⟩|⟨rfl,_⟩
   ·simp only[if_pos]at f j;omega
   ·have d:¬i=r:=by omega
    simp only[if_neg d]at f j;omega
  by_cases u:a=i
  ·by_cases d:s=i
   ·omega
   ·have:=l s x y d;simp only[if_pos u,if_neg d];have:=o s this.1 this.2;omega
  ·by_cases d:s=i
   ·have:=l a f j u;simp only[if_neg u,if_pos d];have:=o a this.1 this.2;omega
   ·have k3:=l a f j u;have D:=l s x y d;simp only[if_neg u,if_neg d];exact h.apart a s k3.1 k3.2 D.1 D.2 w
theorem fD.sl{M:List Nat}(h:fD H eo er g n 0 n m B F)(hn:n≤140737488355328)(hm:m≤140737488355328)(f:∀i j,i<n→j<m→cc (F i j))(hg:g∉M)(e:∀i,i<n→B i∉M):
  Sl (fY mR) H M (.slice (some ⟨g,0,none⟩) n n) ((List.range n).map fun i=>(List.range m).map fun j=>F i j):=by
 refine .inr ⟨g,0,n,by simp,h.outer.lt,hg,by simp,by unfold maxLen;omega,by simp;omega,fun i a=>?_⟩;simp at a;refine⟨h.outer.lt,hg,[rv m (B i)],⟨_,rfl,.inr ⟨B i,0,m,by simp[rv],(h.row i (by omega) a).1.lt,e i a,by simp,by unfold maxLen;omega,by simp;omega,fun j d=>?_⟩⟩,fun j u b=>?_⟩
 ·simp at d;refine⟨(h.row i (by omega) a).1.lt,e i a,[iv (F i j)],⟨by simp,by simpa using f i j a d⟩,fun q u b=>?_⟩;have c:mR.size=1:=rfl;cases q with
  |zero=>
   simp at b;subst b;have:=h.val (by omega) a d;simpa[c]using this
  |succ q=>simp at b
 ·have c:(fY mR).size=1:=rfl;cases j with
  |zero=>
   simp at b;subst b;have:=h.rowAt (by omega) a;simpa[c]using this
  |succ q=>simp at b
theorem Row.bx{cs:List Value}{size:Nat}{e:TypeId}(h:Row H e size (.slice (some ⟨g,0,none⟩) n n) n cs):Bx H g e cs:=by
 obtain⟨l,h⟩:=h;rcases h with⟨h,_⟩|⟨i,cap,c,b,f,j,k,d,a⟩
 ·cases h
 ·simp at b;obtain⟨rfl,rfl⟩:=b;unfold Bx;rw[f];rw[List.take_of_length_le (by simp[d])]at a;rw[←a]
end
theorem WL.zP{c:Cx}{env:Env}{H:ab}{Q:Exit→Act→World→Prop}{ops:Array Oper}{o:Oper}{rest:List Oper}{d:Nat}{t e:TypeId}{i:TypeInfo}{z:Value}{x y:Operand}{size:Nat}{zs:List Value}{p q:Int}(n:Nat)(hg:o.guard= .none)(hd:o.dst=some d)(f:Nat.blt d c.n=true)
  (ho:o.op= .makeSlice t x y)(D:c.P.underlying t=some (.slice e))(hi:∀w,(typeInfo e).run c.P w= .ok i w)(j:i.size=size)(hz:i.zero=some z)(m:z.cells=zs.toArray)(l:zs.length=size)(b:0<size)
  (F:Ev env x (iv p))(hy:Ev env y (iv q))(s:p=(n:Int))(hq:q=(n:Int))(a:(n:Int)*i.bytes≤140737488355328)(hb:0<i.bytes)
  (k:∀g H',Bx H' g e (List.replicate n zs).flatten→H.size≤g→aq [] H H'→WL c ops rest ((d,true,.slice (some ⟨g,0,none⟩) n n)::env) H' Q):WL c ops (o::rest) env H Q:=
 WL.make hg hd f ho D hi j hz m l b F hy s hq a hb fun v H' u r h ⟨g,E⟩=>by
  subst E;exact k g H' u.bx (h g (by simp[ob])) r
end Go.NB
end
