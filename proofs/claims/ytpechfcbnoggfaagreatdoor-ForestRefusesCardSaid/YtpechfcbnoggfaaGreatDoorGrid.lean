/- part -/
import Derived.Test.YtpechfcbnoggfaaGreatDoorAm1
import Derived.Lib.BytesEntry
import Derived.Laws.Externs
import Derived.Lib.SliceRun
section
namespace Go.NB
section
variable {c:Cx} {o:Oper} {env:Env} {S:ab→Prop}
theorem uu{P:Program}{t e:TypeId}{sz:Nat}(ht:P.underlying t=some (.slice e))(hz:∀w,(sizeOf e).run P w= .ok sz w)(p:Option Addr)(n cap:Nat)(lo hi:Option Nat)(hlo:lo.getD 0≤hi.getD n)(hhi:hi.getD n≤cap)(w:World):
  (Instr.sliceAt t (.slice p n cap) (lo.map fun x=>iv (x:Nat)) (hi.map fun x=>iv (x:Nat)) .none).run P w=
   .ok (.slice (if cap=lo.getD 0 then p else p.map (·.add (lo.getD 0*sz))) (hi.getD n-lo.getD 0) (cap-lo.getD 0)) w:=by
 cases lo with
 |none=>
  cases hi with
  |none=>simp[Instr.sliceAt,Instr.slice,run_underlying ht,Instr.sliceBounds,hz]at hlo hhi⊢
  |some h=>
   simp at hlo hhi;have h1:(0:Int)≤(h:Int)∧(h:Int)≤(cap:Int):=⟨by omega,by omega⟩;simp[Instr.sliceAt,Instr.slice,run_underlying ht,Instr.sliceBounds,Instr.sliceBound,asIntOf,iv,hz,hhi]
 |some l=>
  cases hi with
  |none=>
   simp at hlo hhi;simp[Instr.sliceAt,Instr.slice,run_underlying ht,Instr.sliceBounds,Instr.sliceBound,asIntOf,iv,hz,hlo]
  |some h=>
   simp at hlo hhi;simp[Instr.sliceAt,Instr.slice,run_underlying ht,Instr.sliceBounds,Instr.sliceBound,asIntOf,iv,hz,hlo,hhi]
theorem Sl.cut{α:Type}{T:Ty α}{H:ab}{M:List Nat}{v:Value}{xs:List α}(h:Sl T H M v xs)(lo hi:Nat)(h1:lo≤hi)(h2:hi≤xs.length):
  ∃p n cap,v= .slice p n cap∧n=xs.length∧hi≤cap∧Sl T H M (.slice (if cap=lo then p else p.map (·.add (lo*T.size))) (hi-lo) (cap-lo)) ((xs.take hi).drop lo):=by
 rcases h with⟨_,rfl,rfl⟩|⟨b,off,cap,rfl,hb,hm,h3,h4,h5,h6⟩
 ·simp at h2;have hl:lo=0:=by omega
  subst h2 hl;exact⟨_,_,_,rfl,rfl,Nat.le_refl _,.inl ⟨_,rfl,rfl⟩⟩
 ·refine⟨_,_,_,rfl,rfl,by omega,?_⟩;have hl:((xs.take hi).drop lo).length=hi-lo:=by rw[List.length_drop,List.length_take];omega
  by_cases hc:cap=lo
  ·rw[if_pos hc];have e0:hi-lo=0:=by omega
   rw[e0];have e:(xs.take hi).drop lo=[]:=List.eq_nil_of_length_eq_zero (by rw[hl];exact e0);rw[e];exact .inr ⟨b,off,cap-lo,rfl,hb,hm,by simp,by omega,by simp,fun i hi=>by simp at hi⟩
  ·rw[if_neg hc];refine .inr ⟨b,off+lo*T.size,cap-lo,by rw[hl];simp[Addr.add_lit],hb,hm,by omega,by omega,by omega,fun i hi'=>?_⟩;rw[hl]at hi';have:=h6 (lo+i) (by omega);rw[show off+lo*T.size+i*T.size=off+(lo+i)*T.size by rw[Nat.add_mul];omega];rw[show((xs.take hi).drop lo)[i]'(by rw[hl];exact hi')=xs[lo+i]'(by omega)by simp];exact this
theorem X.sliceTo{α:Type}{T:Ty α}{H:ab}{M:List Nat}{v:Value}{xs:List α}{t e:TypeId}{x y:Operand}{n:Int}{hi:Nat}(ho:o.op= .slice t x .none (some y) .none)(ht:c.P.underlying t=some (.slice e))
  (hz:∀w,(sizeOf e).run c.P w= .ok T.size w)(hs:Sl T H M v xs)(hx:Ev env x v)(hy:Ev env y (iv n))(hn:n=(hi:Int))(hh:hi≤xs.length):∃u,aN c o env S u∧Sl T H M u (xs.take hi):=by
 subst hn;obtain⟨p,m,cap,rfl,rfl,h1,h2⟩:=hs.cut 0 hi (by omega) hh;exact⟨_,V.slice (lv:= .none) (hv:=some (iv hi)) (mv:= .none) ho hx (fun _ _=>rfl) (fun a hf=>by simp[hf.eval hy]) (fun _ _=>rfl) (fun w=>uu ht hz p _ cap .none (some hi) (by simp) (by simpa using h1) w),by simpa using h2⟩
theorem X.sliceFrom{α:Type}{T:Ty α}{H:ab}{M:List Nat}{v:Value}{xs:List α}{t e:TypeId}{x y:Operand}{n:Int}{lo:Nat}(ho:o.op= .slice t x (some y) .none .none)(ht:c.P.underlying t=some (.slice e))
  (hz:∀w,(sizeOf e).run c.P w= .ok T.size w)(hs:Sl T H M v xs)(hx:Ev env x v)(hy:Ev env y (iv n))(hn:n=(lo:Int))(hh:lo≤xs.length):∃u,aN c o env S u∧Sl T H M u (xs.drop lo):=by
 subst hn;obtain⟨p,m,cap,rfl,rfl,h1,h2⟩:=hs.cut lo xs.length hh (Nat.le_refl _);refine⟨_,V.slice (lv:=some (iv lo)) (hv:= .none) (mv:= .none) ho hx (fun a hf=>by simp[hf.eval hy]) (fun _ _=>rfl) (fun _ _=>rfl) (fun w=>uu ht hz p _ cap (some lo) .none (by simpa using hh) (by simpa using h1) w),?_⟩;simpa using h2
theorem X.mZ{α:Type}{T:Ty α}{H:ab}{M:List Nat}{v:Value}{xs:List α}{t e:TypeId}{x y z:Operand}{n m:Int}{lo hi:Nat}(ho:o.op= .slice t x (some y) (some z) .none)(ht:c.P.underlying t=some (.slice e))
  (hz:∀w,(sizeOf e).run c.P w= .ok T.size w)(hs:Sl T H M v xs)(hx:Ev env x v)(hy:Ev env y (iv n))(hy2:Ev env z (iv m))(hn:n=(lo:Int))(hm:m=(hi:Int))(h1:lo≤hi)(h2:hi≤xs.length):∃u,aN c o env S u∧Sl T H M u ((xs.take hi).drop lo):=by
 subst hn hm;obtain⟨p,k,cap,rfl,rfl,h3,h4⟩:=hs.cut lo hi h1 h2;exact⟨_,V.slice (lv:=some (iv lo)) (hv:=some (iv hi)) (mv:= .none) ho hx (fun a hf=>by simp[hf.eval hy]) (fun a hf=>by simp[hf.eval hy2]) (fun _ _=>rfl) (fun w=>uu ht hz p _ cap (some lo) (some hi) (by simpa using h1) (by simpa using h3) w),h4⟩
theorem V.qL{t e u:TypeId}{x:Operand}{p:Option Addr}{n m:Nat}(ho:o.op= .binOp .eql t x (.const (.slice .none 0 0)) u)(ht:c.P.underlying t=some (.slice e))(hx:Ev env x (.slice p n m)):aN c o env S (.bool p.isNone):=by
 exact V.bin ho hx ⟨_,rfl,rfl⟩ (fun w=>Lib.run_eql_slice_nil w t e p n m 0 0 ht) (fun w=>by rw[eqGuard_at_slice];rfl)
theorem X.qL{α:Type}{T:Ty α}{H:ab}{M:List Nat}{v:Value}{xs:List α}{t e u:TypeId}{x:Operand}(ho:o.op= .binOp .eql t x (.const (.slice .none 0 0)) u)(ht:c.P.underlying t=some (.slice e))(hx:Ev env x v)(hs:Sl T H M v xs):
  ∃w,aN c o env S w∧∃b,w= .bool b∧(b=true→xs=[]):=by
 rcases hs with⟨_,rfl,rfl⟩|⟨b,off,cap,rfl,hb,hm,h3,h4,h5,h6⟩
 ·exact⟨_,V.qL ho ht hx,_,rfl,fun _=>rfl⟩
 ·exact⟨_,V.qL ho ht hx,_,rfl,fun h=>by simp at h⟩
end
structure App(v v':Value)(H H':ab):Prop where
 bQ:ak (ob v) H H'
 blocks:∀b∈ob v',b∈ob v∨H.size≤b
theorem App.mv{v v':Value}{H H':ab}(a:App v v' H H')(M:List Nat):Mv H (ob v++M) (ob v'++M):=fun k hk=>by
 rcases List.mem_append.1 hk with h|h
 ·rcases a.blocks k h with h|h
  ·exact .inl (List.mem_append_left _ h)
  ·exact .inr h
 ·exact .inl (List.mem_append_right _ h)
theorem App.km{v v':Value}{H H':ab}(a:App v v' H H')(M:List Nat):ak (ob v++M) H H':=a.bQ.mono fun _ h=>List.mem_append_left _ h
theorem App.new{v v':Value}{H0 H H':ab}(a:App v v' H H')(K:ak [] H0 H)(h:∀i∈ob v,H0.size≤i):∀i∈ob v',H0.size≤i:=fun i hi=>by
 rcases a.blocks i hi with h1|h1
 ·exact h i h1
 ·exact Nat.le_trans K.1 h1
theorem App.K{v v':Value}{H0 H H':ab}(a:App v v' H H')(K:ak [] H0 H)(h:∀i∈ob v,H0.size≤i):ak [] H0 H':=K.then a.bQ fun i hi=>.inr (h i hi)
theorem App.push{v v':Value}{H H1 H':ab}(k:ak [] H H1)(a:App v v' H1 H'):App v v' H H':=
 ⟨k.nil.trans a.bQ,fun b hb=>(a.blocks b hb).imp id fun h=>Nat.le_trans k.1 h⟩
theorem Sl.app{α:Type}{T:Ty α}{v v' u:Value}{H H':ab}{M:List Nat}{xs:List α}(h:Sl T H (ob v++M) u xs)(a:App v v' H H'):Sl T H' (ob v'++M) u xs:=h.tr (a.km M) (a.mv M)
theorem Mv.own{H:ab}{M:List Nat}{v:Value}(h:∀i∈ob v,H.size≤i):Mv H M (ob v++M):=fun k hk=>(List.mem_append.1 hk).elim (fun h1=>.inr (h k h1)) .inl
theorem Mv.drop(H:ab)(M N:List Nat):Mv H (N++M) M:=fun _ hk=>.inl (List.mem_append_right _ hk)
theorem Sl.in{α:Type}{T:Ty α}{H0 H:ab}{M:List Nat}{u v:Value}{xs:List α}(h:Sl T H0 M u xs)(K:ak [] H0 H)(hv:∀i∈ob v,H0.size≤i):Sl T H (ob v++M) u xs:=h.tr K.nil (Mv.own hv)
theorem Sl.out{α:Type}{T:Ty α}{H:ab}{M N:List Nat}{u:Value}{xs:List α}(h:Sl T H (N++M) u xs):Sl T H M u xs:=h.tr (ak.refl _ _) (Mv.drop _ _ _)
theorem bf.kv{α:Type}{T:Ty α}{H0 H:ab}{M:List Nat}{e:TypeId}{v:Value}{xs:List α}(h:bf T H (ob v++M) e v xs)(hv:∀i∈ob v,H0.size≤i)(hM:∀i∈M,i<H0.size):Sl T H M v xs:=
 h.sl (fun k hk hm=>by have:=hv k hk;have:=hM k hm;omega) (fun _ hk=>List.mem_append_right _ hk)
theorem bf.lt{α:Type}{T:Ty α}{H:ab}{M:List Nat}{e:TypeId}{v:Value}{xs:List α}(h:bf T H M e v xs):∀i∈ob v,i<H.size:=let ⟨_,_,hr,_⟩:=h;hr.lt
theorem bf.mlt{α:Type}{T:Ty α}{H0 H:ab}{M N:List Nat}{e:TypeId}{v:Value}{xs:List α}(h:bf T H N e v xs)(K:ak [] H0 H)(hM:∀i∈M,i<H0.size):∀i∈ob v++M,i<H.size:=fun i hi=>
 (List.mem_append.1 hi).elim (h.lt i) (fun h=>Nat.lt_of_lt_of_le (hM i h) K.1)
theorem mlt{H0 H:ab}{M:List Nat}(K:ak [] H0 H)(hM:∀i∈M,i<H0.size):∀i∈M,i<H.size:=fun i h=>Nat.lt_of_lt_of_le (hM i h) K.1
theorem bf.any{α:Type}{size:Nat}{agg:Bool}{enc:α→List Value}{ok:α→Prop}{hlen hone pos sc}{H:ab}{M M':List Nat}{e:TypeId}{v:Value}{xs:List α}
  (h:bf (oO size agg enc ok hlen hone pos sc) H M e v xs):bf (oO size agg enc ok hlen hone pos sc) H M' e v xs:=by
 obtain⟨hl,cs,hr,he⟩:=h;refine⟨hl,cs,hr,?_⟩;clear hr hl;induction he with
 |nil=>exact .nil
 |cons h1 _ ih=>exact .cons h1 ih
theorem bf.nh{α:Type}{T:Ty α}{H:ab}{M M':List Nat}{e:TypeId}{v:Value}{xs:List α}(h:bf T H M e v xs)(hs:∀k,k∈M'→k∈M):bf T H M' e v xs:=
 h.bQ (ak.refl [] _) (fun _ h=>by cases h) (fun _ _ h=>by cases h) (Mv.sub hs)
theorem bf.skip{α:Type}{T:Ty α}{H:ab}{M N O:List Nat}{e:TypeId}{v:Value}{xs:List α}(h:bf T H (N++(O++M)) e v xs):bf T H (N++M) e v xs:=
 h.nh fun k hk=>by rcases List.mem_append.1 hk with h|h<;>simp[h]
theorem App.yu{v v':Value}{H H':ab}(a:App v v' H H')(N M:List Nat):Mv H (N++(ob v++M)) (N++(ob v'++M)):=fun k hk=>by
 rcases List.mem_append.1 hk with h|h
 ·exact .inl (List.mem_append_left _ h)
 ·exact(a.mv M k h).imp (List.mem_append_right _) id
theorem App.DO{v v':Value}{H H':ab}(a:App v v' H H')(N M:List Nat):ak (N++(ob v++M)) H H':=a.bQ.mono fun _ h=>List.mem_append_right _ (List.mem_append_left _ h)
theorem Sl.u7{α:Type}{T:Ty α}{v v' u:Value}{H H':ab}{N M:List Nat}{xs:List α}(h:Sl T H (N++(ob v++M)) u xs)(a:App v v' H H'):Sl T H' (N++(ob v'++M)) u xs:=h.tr (a.DO N M) (a.yu N M)
theorem bf.u7{α:Type}{T:Ty α}{v v' u:Value}{H H':ab}{N M:List Nat}{e:TypeId}{xs:List α}(h:bf T H (N++(ob v++M)) e u xs)(a:App v v' H H')(hd:∀i∈ob u,i∉ob v):bf T H' (N++(ob v'++M)) e u xs:=
 h.bQ a.bQ (fun _ h=>List.mem_append_right _ (List.mem_append_left _ h)) hd (a.yu N M)
theorem App.cK{v v':Value}{H H':ab}(a:App v v' H H'){S:List Nat}(h:∀i∈S,i∉ob v)(hl:∀i∈S,i<H.size):∀i∈S,i∉ob v':=fun i hi hv=>by
 rcases a.blocks i hv with h1|h1
 ·exact h i hi h1
 ·have:=hl i hi;omega
section
variable {c:Cx} {env:Env} {H:ab} {Q:Exit→Act→World→Prop} {ops:Array Oper} {o:Oper} {rest:List Oper} {d:Nat} {α:Type} {T:Ty α} {M:List Nat}
theorem WL.app{t t2 e:TypeId}{i:TypeInfo}{z v x:Value}{s y:Operand}{xs ys:List α}{dx:TypeDesc}(hg:o.guard= .none)(hd:o.dst=some d)(hlt:Nat.blt d c.n=true)
  (ho:o.op= .call {callee:= .builtin .append,args:= #[s,y],argTypes:= #[t,t2]})(ht:c.P.underlying t=some (.slice e))(ht2:c.P.underlying t2=some dx)(hnx:∀k,dx≠.int k)
  (hi:∀w,(typeInfo e).run c.P w= .ok i w)(hsz:i.size=T.size)(hz:i.zero=some z)(hzs:z.cells.size=T.size)
  (hs:Ev env s v)(hy:Ev env y x)(hr:bf T H (ob v++M) e v xs)(hsrc:∃news,Src c.P H T.size x ys.length news∧dm T H (ob v++M) news ys)(hfit:(xs.length+ys.length)*i.bytes≤140737488355328)(hb:0<i.bytes)
  (k:∀v' H',bf T H' (ob v'++M) e v' (xs++ys)→App v v' H H'→WL c ops rest ((d,true,v')::env) H' Q):WL c ops (o::rest) env H Q:=by
 obtain⟨hl,cs,hrow,he⟩:=hr;obtain⟨news,hn,hen⟩:=hsrc;have h1:xs.length+ys.length≤140737488355328:=Nat.le_trans (Nat.le_mul_of_pos_right _ hb) hfit;refine WL.append hg hd hlt ho ht ht2 hnx hi hsz hz hzs hs hy hrow hn hen.one hen.length hfit (by omega) fun v' H' hr' hk hbl=>?_;have a:App v v' H H':=⟨hk,hbl⟩;refine k v' H' ⟨by simp;omega,cs++news,by simpa using hr',?_⟩ a;exact(he.tr (a.km M) (a.mv M)).append (hen.tr (a.km M) (a.mv M))
theorem WL.jA{o1 o2:Oper}{d1 d2:Nat}{t e:TypeId}{i:TypeInfo}{z v u:Value}{s x:Operand}{xs:List α}{y:α}(hg1:o1.guard= .none)(hd1:o1.dst=some d1)(hlt1:Nat.blt d1 c.n=true)(hg2:o2.guard= .none)(hd2:o2.dst=some d2)(hlt2:Nat.blt d2 c.n=true)
  (ho1:o1.op= .buildSlice t 1 #[(0,x)])(ho2:o2.op= .call {callee:= .builtin .append,args:= #[s,.tmp d1],argTypes:= #[t,t]})(ht:c.P.underlying t=some (.slice e))
  (hi:∀w,(typeInfo e).run c.P w= .ok i w)(hsz:i.size=T.size)(hz:i.zero=some z)(hzs:z.cells.size=T.size)(hsm:T.size≤1000)
  (hx:Ev env x u)(hu:T.V H (ob v++M) u y)(hs:∀tmp,Ev ((d1,true,tmp)::env) s v)(hr:bf T H (ob v++M) e v xs)(hfit:(xs.length+1)*i.bytes≤140737488355328)(hb:0<i.bytes)
  (k:∀v' H' tmp,bf T H' (ob v'++M) e v' (xs++[y])→App v v' H H'→WL c ops rest ((d2,true,v')::(d1,true,tmp)::env) H' Q):WL c ops (o1::o2::rest) env H Q:=by
 obtain⟨cs,hc,rfl⟩:=hu;have hcells:=Ty.A6 hc;have hlen:=T.len hc;refine WL.buildSlice (n:=1) (size:=T.size) (z:=z) (xs:=[x]) (vs:=[T.val cs]) (css:=cs) hg1 hd1 hlt1 ho1 ht (fun w=>by simp[sizeOf,hi,hsz]) (fun w=>by simp[zeroValue,hi,hz]) (.cons hx .nil) rfl (by omega) (fun v hv=>by simp at hv;subst hv;rw[hcells];simpa using hlen) (by simp[hcells]) fun g H1 hB hgn k1=>?_
 exact WL.app (T:=T) (M:=M) (ys:=[y]) (x:= .slice (some ⟨g,0,none⟩) 1 1) hg2 hd2 hlt2 ho2 ht ht (fun k h=>by cases h) hi hsz hz hzs (hs _) ⟨true,by unfold ev look;simp,rfl⟩ (hr.at k1)
  ⟨cs,Src.bx hB (by simp[hlen]),dm.single (T.tr hc k1.nil (Mv.refl _ _))⟩ hfit hb fun v' H' hO a=>k v' H' _ hO (App.push k1 a)
end
theorem bf.empty{α:Type}(T:Ty α){H:ab}{M:List Nat}{g:Nat}{e:TypeId}(h:Bx H g e []):bf T H M e (.slice (some ⟨g,0,none⟩) 0 0) []:=
 ⟨by simp,[],⟨by simp,.inr ⟨g,0,#[],rfl,h,Nat.le_refl _,by simp,by simp,by simp⟩⟩,.nil⟩
theorem Dm{P:Program}{f:FuncId}{fn:Func}(hf:P.funcs[f]? =some fn)(hname:(fn.name== "runtime.NumGoroutine")=false)(hb:fn.body.isNone=true)(hn:Extern.findNext fn=none)(he:Extern.find fn=some Extern.BytealgIndexByte.indexByte)
  {H0:ab}{M:List Nat}{v:Value}{l:List UInt8}(hl:Sl aV H0 M v l)(b:UInt8):bP P f #[v,bv b] H0 (fun u H=>u=iv (Lib.indexByte l b)∧H=H0):=by
 intro w hw;rw[run_callFunc_extern hf hname hb hn he];rcases hl with⟨p,rfl,rfl⟩|⟨g,off,cap,rfl,hb,hm,h3,h4,h5,h6⟩
 ·have e:(Extern.BytealgIndexByte.indexByte #[.slice p 0 0,.int .u8 b.toNat]).run P w= .ok (.int .i64 (Lib.indexByte [] b)) w:=by cases p<;>rfl
  rw[bv,e];exact⟨rfl,rfl,hw⟩
 ·have := Lib.run_indexByteSlice (P := P) w g off l.length cap (l.map fun b => (b.toNat : Int)) (by simp) (fun i hi=>by
   obtain⟨_,_,cs,⟨rfl,_⟩,hc⟩:=h6 i hi;have:=hc 0 _ rfl;rw[dg hw];simpa[bv,show aV.size=1 from rfl,hi]using this) b.toNat
  rw[bv,this];refine⟨rfl,?_,hw⟩;have e:((fun n:Int=>UInt8.ofNat n.toNat)∘fun b:UInt8=>(b.toNat:Int))=id:=by funext x;simp
  simp[iv,Lib.bytesOf,e]
end Go.NB
end
section
namespace Go.NB
section
variable {c:Cx} {o:Oper} {env:Env} {S:ab→Prop}
theorem G.idx{t e:TypeId}{x y:Operand}{g n m i:Nat}{k:IntKind}{z:Int}(ho:o.op= .indexAddr t x y)(ht:c.P.underlying t=some (.slice e))(hz:∀w,(sizeOf e).run c.P w= .ok 1 w)
  (hx:Ev env x (.slice (some ⟨g,0,none⟩) n m))(hy:Ev env y (.int k z))(hn:z=(i:Int))(hi:i<n):aN c o env S (.pointer (some ⟨g,i,none⟩)):=by
 subst hn;have:=V.xC (S:=S) ho ht hz hx hy hi;simpa using this
end
def rv(m b:Nat):Value:= .slice (some ⟨b,0,none⟩) m m
def iP(n p r m:Nat)(B:Nat→Nat):List Value:=(List.range n).map fun i=>if p≤i∧i<r then rv m (B i)else .slice none 0 0
def gD(m:Nat)(f:Nat→Int):List Value:=(List.range m).map fun j=>iv (f j)
structure dV(H:ab)(eo er:TypeId)(g n p r m:Nat)(B:Nat→Nat)(F:Nat→Nat→Int):Prop where
 outer:Bx H g eo (iP n p r m B)
 le:r≤n
 row:∀i,p≤i→i<r→Bx H (B i) er (gD m (F i))∧B i≠g
 apart:∀i j,p≤i→i<r→p≤j→j<r→i≠j→B i≠B j
section
variable {H:ab} {eo er:TypeId} {g n p r m:Nat} {B:Nat→Nat} {F:Nat→Nat→Int}
theorem dV.at{H':ab}(h:dV H eo er g n p r m B F)(k:ak [] H H'):dV H' eo er g n p r m B F:=
 ⟨h.outer.at k,h.le,fun i h1 h2=>⟨(h.row i h1 h2).1.at k,(h.row i h1 h2).2⟩,h.apart⟩
theorem dV.rowAt(h:dV H eo er g n p r m B F){i:Nat}(h1:p≤i)(h2:i<r):cell H g i=some (rv m (B i)):=by
 rw[h.outer.cell];have:=h.le;simp[iP,show i<n by omega,h1,h2]
theorem dV.val(h:dV H eo er g n p r m B F){i j:Nat}(h1:p≤i)(h2:i<r)(h3:j<m):cell H (B i) j=some (iv (F i j)):=by
 rw[(h.row i h1 h2).1.cell];simp[gD,h3]
theorem DJ(m:Nat)(f:Nat→Int)(j:Nat)(x:Int)(h:j<m):(gD m f).take j++[iv x]++(gD m f).drop (j+1)=gD m (fun k=>if k=j then x else f k):=by
 refine List.ext_getElem? fun k=>?_;unfold gD;by_cases h1:k<j
 ·rw[List.append_assoc,List.getElem?_append_left (by simp;omega),List.getElem?_take_of_lt h1];simp[show k<m by omega,show k≠j by omega]
 ·by_cases h2:k=j
  ·subst h2;rw[List.append_assoc,List.getElem?_append_right (by simp;omega)];simp[show min k m=k by omega,h]
  ·rw[List.append_assoc,List.getElem?_append_right (by simp;omega),List.getElem?_append_right (by simp;omega)];simp only[List.length_take,List.length_map,List.length_range,List.length_singleton,List.getElem?_drop,List.getElem?_map];rw[show j+1+(k-min j m-1)=k by omega];by_cases h3:k<m
   ·simp[h3,h2]
   ·simp[h3]
theorem dV.store{H':ab}{i j:Nat}{x:Int}(h:dV H eo er g n p r m B F)(h1:p≤i)(h2:i<r)(h3:j<m)(hb:Bx H' (B i) er ((gD m (F i)).take j++[iv x]++(gD m (F i)).drop (j+1)))(k:ak [B i] H H'):
  dV H' eo er g n p r m B (fun a b=>if a=i∧b=j then x else F a b):=by
 refine⟨h.outer.bQ k (by simpa using Ne.symm (h.row i h1 h2).2),h.le,fun a h4 h5=>⟨?_,(h.row a h4 h5).2⟩,h.apart⟩;by_cases e:a=i
 ·subst e;rw[DJ m _ j x h3]at hb;simpa using hb
 ·have:=(h.row a h4 h5).1.bQ k (by simpa using h.apart a i h4 h5 h1 h2 e);simpa[e]using this
theorem FW(n p r m:Nat)(B:Nat→Nat)(i b:Nat)(h:i<n)(hi:i=r∧p≤r∨i+1=p∧p≤r):
  (iP n p r m B).take i++[rv m b]++(iP n p r m B).drop (i+1)=iP n (if i=r then p else i) (if i=r then r+1 else r) m (fun k=>if k=i then b else B k):=by
 refine List.ext_getElem? fun k=>?_;unfold iP;by_cases h1:k<i
 ·rw[List.append_assoc,List.getElem?_append_left (by simp;omega),List.getElem?_take_of_lt h1];simp only[List.getElem?_map,List.getElem?_range (show k<n by omega),Option.map_some];congr 1
  rw[if_neg (show k≠i by omega)];rcases hi with⟨rfl,hi⟩|⟨rfl,hi⟩
  ·simp only[if_pos];by_cases h2:p≤k
   ·rw[if_pos ⟨h2,h1⟩,if_pos ⟨h2,by omega⟩]
   ·rw[if_neg (by omega),if_neg (by omega)]
  ·rw[if_neg (by omega),if_neg (by split<;>omega)]
 ·by_cases h2:k=i
  ·subst h2;rw[List.append_assoc,List.getElem?_append_right (by simp;omega)];simp only[List.length_take,List.length_map,List.length_range,show min k n=k by omega,Nat.sub_self,List.singleton_append,List.getElem?_cons_zero,List.getElem?_map,List.getElem?_range h,Option.map_some];congr 1
   rw[if_pos]
   ·simp
   rcases hi with⟨rfl,hi⟩|⟨rfl,hi⟩
   ·simp only[if_pos];omega
   ·rw[if_neg (by omega),if_neg (by omega)];omega
  ·rw[List.append_assoc,List.getElem?_append_right (by simp;omega),List.getElem?_append_right (by simp;omega)];simp only[List.length_take,List.length_map,List.length_range,List.length_singleton,List.getElem?_drop,List.getElem?_map];rw[show i+1+(k-min i n-1)=k by omega];by_cases h3:k<n
   ·simp only[List.getElem?_range h3,Option.map_some];congr 1
    rw[if_neg h2];rcases hi with⟨rfl,hi⟩|⟨rfl,hi⟩
    ·simp only[if_pos];rw[if_neg (by omega),if_neg (by omega)]
    ·have e:¬i=r:=by omega
     simp only[if_neg e];by_cases h4:k<r
     ·rw[if_pos ⟨by omega,h4⟩,if_pos ⟨by omega,h4⟩]
     ·rw[if_neg (by omega),if_neg (by omega)]
   ·rw[List.getElem?_eq_none (by simpa using h3)];rfl
theorem DK(m:Nat):(List.replicate m [iv 0]).flatten=gD m (fun _=>0):=by
 refine List.ext_getElem? fun k=>?_
 have e:(List.replicate m [iv 0]).flatten=List.replicate m (iv 0):=by
  induction m with
  |zero=>rfl
  |succ m ih=>rw[List.replicate_succ,List.flatten_cons,ih];rfl
 rw[e];unfold gD;by_cases h:k<m
 ·simp[h]
 ·simp[h]
theorem FV(n m:Nat)(B:Nat→Nat)(q:Nat):(List.replicate n [Value.slice none 0 0]).flatten=iP n q q m B:=by
 refine List.ext_getElem? fun k=>?_
 have e:(List.replicate n [Value.slice none 0 0]).flatten=List.replicate n (.slice none 0 0):=by
  induction n with
  |zero=>rfl
  |succ m ih=>rw[List.replicate_succ,List.flatten_cons,ih];rfl
 rw[e];unfold iP;by_cases h:k<n
 ·simp[h];intro h1 h2;omega
 ·simp[h]
theorem dV.FU{H1 H':ab}{i b:Nat}(h:dV H eo er g n p r m B F)(hi:i<n)(hir:i=r∧p≤r∨i+1=p∧p≤r)(k1:ak [] H H1)(hb:Bx H1 b er (gD m (fun _=>0)))(hbn:H.size≤b)
  (ho:Bx H' g eo ((iP n p r m B).take i++[rv m b]++(iP n p r m B).drop (i+1)))(k2:ak [g] H1 H'):
  dV H' eo er g n (if i=r then p else i) (if i=r then r+1 else r) m (fun k=>if k=i then b else B k) (fun a c=>if a=i then 0 else F a c):=by
 have hg:g<H.size:=h.outer.lt;have hrow:∀a,p≤a→a<r→B a<H.size:=fun a h1 h2=>(h.row a h1 h2).1.lt;rw[FW n p r m B i b hi hir]at ho;refine⟨ho,?_,fun a h1 h2=>?_,fun a a' h1 h2 h3 h4 hne=>?_⟩
 ·have:=h.le;split<;>omega
 ·by_cases e:a=i
  ·subst e;simp only[if_true];exact⟨hb.bQ k2 (by simp;omega),by omega⟩
  ·have h5:p≤a∧a<r:=by
    rcases hir with⟨rfl,_⟩|⟨rfl,_⟩
    ·simp only[if_pos]at h1 h2;omega
    ·have e2:¬i=r:=by omega
     simp only[if_neg e2]at h1 h2;omega
   simp only[if_neg e];refine⟨((h.row a h5.1 h5.2).1.at k1).bQ k2 (by simpa using(h.row a h5.1 h5.2).2),(h.row a h5.1 h5.2).2⟩
 ·have key:∀a,(if i=r then p else i)≤a→a<(if i=r then r+1 else r)→a≠i→p≤a∧a<r:=by
   intro a h1 h2 e;rcases hir with⟨rfl,_⟩|⟨rfl,_⟩
   ·simp only[if_pos]at h1 h2;omega
   ·have e2:¬i=r:=by omega
    simp only[if_neg e2]at h1 h2;omega
  by_cases e1:a=i
  ·by_cases e2:a'=i
   ·omega
   ·have:=key a' h3 h4 e2;simp only[if_pos e1,if_neg e2];have:=hrow a' this.1 this.2;omega
  ·by_cases e2:a'=i
   ·have:=key a h1 h2 e1;simp only[if_neg e1,if_pos e2];have:=hrow a this.1 this.2;omega
   ·have k3:=key a h1 h2 e1;have k4:=key a' h3 h4 e2;simp only[if_neg e1,if_neg e2];exact h.apart a a' k3.1 k3.2 k4.1 k4.2 hne
theorem dV.sl{M:List Nat}(h:dV H eo er g n 0 n m B F)(hn:n≤140737488355328)(hm:m≤140737488355328)(hI:∀i j,i<n→j<m→aE (F i j))(hg:g∉M)(hB:∀i,i<n→B i∉M):
  Sl (bO j6) H M (.slice (some ⟨g,0,none⟩) n n) ((List.range n).map fun i=>(List.range m).map fun j=>F i j):=by
 refine .inr ⟨g,0,n,by simp,h.outer.lt,hg,by simp,by unfold maxLen;omega,by simp;omega,fun i hi=>?_⟩;simp at hi;refine⟨h.outer.lt,hg,[rv m (B i)],⟨_,rfl,.inr ⟨B i,0,m,by simp[rv],(h.row i (by omega) hi).1.lt,hB i hi,by simp,by unfold maxLen;omega,by simp;omega,fun j hj=>?_⟩⟩,fun j u hu=>?_⟩
 ·simp at hj;refine⟨(h.row i (by omega) hi).1.lt,hB i hi,[iv (F i j)],⟨by simp,by simpa using hI i j hi hj⟩,fun q u hu=>?_⟩;have e1:j6.size=1:=rfl;cases q with
  |zero=>
   simp at hu;subst hu;have:=h.val (by omega) hi hj;simpa[e1]using this
  |succ q=>simp at hu
 ·have e1:(bO j6).size=1:=rfl;cases j with
  |zero=>
   simp at hu;subst hu;have:=h.rowAt (by omega) hi;simpa[e1]using this
  |succ q=>simp at hu
theorem Row.bx{cs:List Value}{size:Nat}{e:TypeId}(h:Row H e size (.slice (some ⟨g,0,none⟩) n n) n cs):Bx H g e cs:=by
 obtain⟨hl,h⟩:=h;rcases h with⟨h,_⟩|⟨g',cap,cur,hv,hg,h1,h2,h3,h4⟩
 ·cases h
 ·simp at hv;obtain⟨rfl,rfl⟩:=hv;unfold Bx;rw[hg];rw[List.take_of_length_le (by simp[h3])]at h4;rw[←h4]
end
theorem WL.yo{c:Cx}{env:Env}{H:ab}{Q:Exit→Act→World→Prop}{ops:Array Oper}{o:Oper}{rest:List Oper}{d:Nat}{t e:TypeId}{i:TypeInfo}{z:Value}{x y:Operand}{size:Nat}{zs:List Value}{p q:Int}(n:Nat)(hg:o.guard= .none)(hd:o.dst=some d)(hlt:Nat.blt d c.n=true)
  (ho:o.op= .makeSlice t x y)(ht:c.P.underlying t=some (.slice e))(hi:∀w,(typeInfo e).run c.P w= .ok i w)(hsz:i.size=size)(hz:i.zero=some z)(hzs:z.cells=zs.toArray)(hzl:zs.length=size)(hpos:0<size)
  (hx:Ev env x (iv p))(hy:Ev env y (iv q))(hp:p=(n:Int))(hq:q=(n:Int))(hfit:(n:Int)*i.bytes≤140737488355328)(hb:0<i.bytes)
  (k:∀g H',Bx H' g e (List.replicate n zs).flatten→H.size≤g→ak [] H H'→WL c ops rest ((d,true,.slice (some ⟨g,0,none⟩) n n)::env) H' Q):WL c ops (o::rest) env H Q:=
 WL.make hg hd hlt ho ht hi hsz hz hzs hzl hpos hx hy hp hq hfit hb fun v H' hr hk hob ⟨g,hv⟩=>by
  subst hv;exact k g H' hr.bx (hob g (by simp[ob])) hk
end Go.NB
end
