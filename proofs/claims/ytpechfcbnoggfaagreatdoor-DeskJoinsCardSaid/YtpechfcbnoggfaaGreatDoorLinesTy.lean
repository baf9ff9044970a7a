import Derived.Test.YtpechfcbnoggfaaGreatDoorAm1
import Derived.Lib.BytesEntry
import Derived.Laws.Externs
import Derived.Lib.SliceRun
import Derived.Test.YtpechfcbnoggfaaGreatDoorLinesMerge
open List renaming getElem?_append_right->ah,append_assoc->al,drop_eq_getElem_cons->am,replicate->ao,range->ap,ext_getElem?->ar,getElem?_map->a0,length_take->a1,getElem?_range->a2,length_range->a3,getElem?_append_left->a4,getElem?_take_of_lt->a5,mem_append->a6,length_map->a9,drop_of_length_le->be,mem_append_right->bh,length_singleton->bi,mem_append_left->bj,replicate_succ->bk,map_congr_left->bl,getElem?_drop->br,flatten_cons->bs,length_drop->b1,mem_range->b3
open Nat renaming le_trans->bn,lt_of_lt_of_le->bp,le_refl->b0,blt->b2
open Option renaming map_some->bb
section
namespace Go.NB
section
variable {c:Cx} {o:Oper} {env:Env} {S:ae->Prop}
theorem Et{P:Program}{t e:TypeId}{sz:Nat}(c:P.underlying t=some (.slice e))(hz:∀w,(sizeOf e).run P w= .ok sz w)(p:Option Addr)(n cap:Nat)(lo hi:Option Nat)(b:lo.getD 0<=hi.getD n)(a:hi.getD n<=cap)(w:World):
  (Instr.sliceAt t (.slice p n cap) (lo.map λx=>iv (x:Nat)) (hi.map λx=>iv (x:Nat)) .none).run P w=
   .ok (.slice (if cap=lo.getD 0 then p else p.map (·.add (lo.getD 0*sz))) (hi.getD n-lo.getD 0) (cap-lo.getD 0)) w:=by
 cases lo with
 |none=>
  cases hi with
  |none=>simp[Instr.sliceAt,Instr.slice,run_underlying c,Instr.sliceBounds,hz]at b a⊢
  |some h=>
   simp at b a;have d:(0:Int)<=(h:Int)/\(h:Int)<=(cap:Int):=⟨by omega,by omega⟩;simp[Instr.sliceAt,Instr.slice,run_underlying c,Instr.sliceBounds,Instr.sliceBound,asIntOf,iv,hz,a]
 |some l=>
  cases hi with
  |none=>
   simp at b a;simp[Instr.sliceAt,Instr.slice,run_underlying c,Instr.sliceBounds,Instr.sliceBound,asIntOf,iv,hz,b]
  |some h=>
   simp at b a;simp[Instr.sliceAt,Instr.slice,run_underlying c,Instr.sliceBounds,Instr.sliceBound,asIntOf,iv,hz,b,a]
theorem Sl.cut{α:Type}{T:Ty α}{H:ae}{M:List Nat}{v:Value}{xs:List α}(h:Sl T H M v xs)(lo hi:Nat)(h1:lo<=hi)(h2:hi<=xs.length):
  ∃p n cap,v= .slice p n cap/\n=xs.length/\hi<=cap/\Sl T H M (.slice (if cap=lo then p else p.map (·.add (lo*T.size))) (hi-lo) (cap-lo)) ((xs.take hi).drop lo):=by
 rcases h with⟨_,rfl,rfl⟩|⟨b,a,cap,rfl,hb,j,l,m,o,k⟩
 ·simp at h2;have c:lo=0:=by omega
  subst h2 c;exact⟨_,_,_,rfl,rfl,b0 _,.inl ⟨_,rfl,rfl⟩⟩
 ·refine⟨_,_,_,rfl,rfl,by omega,?_⟩;have c:((xs.take hi).drop lo).length=hi-lo:=by rw[b1,a1];omega
  by_cases g:cap=lo
  ·rw[if_pos g];have f:hi-lo=0:=by omega
   rw[f];have e:(xs.take hi).drop lo=[]:=List.eq_nil_of_length_eq_zero (by rw[c];exact f);rw[e];exact .inr ⟨b,a,cap-lo,rfl,hb,j,by simp,by omega,by simp,λi hi=>by simp at hi⟩
  ·rw[if_neg g];refine .inr ⟨b,a+lo*T.size,cap-lo,by rw[c];simp[Addr.add_lit],hb,j,by omega,by omega,by omega,λi d=>?_⟩;rw[c]at d;have:=k (lo+i) (by omega);rw[show a+lo*T.size+i*T.size=a+(lo+i)*T.size by rw[Nat.add_mul];omega];rw[show((xs.take hi).drop lo)[i]'(by rw[c];exact d)=xs[lo+i]'(by omega)by simp];exact this
theorem X.sliceTo{α:Type}{T:Ty α}{H:ae}{M:List Nat}{v:Value}{xs:List α}{t e:TypeId}{x y:Operand}{n:Int}{hi:Nat}(ho:o.op= .slice t x .none (some y) .none)(i:c.P.underlying t=some (.slice e))
  (hz:∀w,(sizeOf e).run c.P w= .ok T.size w)(h:Sl T H M v xs)(j:Ev env x v)(hy:Ev env y (iv n))(hn:n=(hi:Int))(g:hi<=xs.length):∃u,bo c o env S u/\Sl T H M u (xs.take hi):=by
 subst hn;obtain⟨p,m,cap,rfl,rfl,b,d⟩:=h.cut 0 hi (by omega) g;exact⟨_,V.slice (lv:= .none) (hv:=some (iv hi)) (mv:= .none) ho j (λ_ _=>rfl) (λa f=>by simp[f.eval hy]) (λ_ _=>rfl) (λw=>Et i hz p _ cap .none (some hi) (by simp) (by simpa using b) w),by simpa using d⟩
theorem X.sliceFrom{α:Type}{T:Ty α}{H:ae}{M:List Nat}{v:Value}{xs:List α}{t e:TypeId}{x y:Operand}{n:Int}{lo:Nat}(ho:o.op= .slice t x (some y) .none .none)(i:c.P.underlying t=some (.slice e))
  (hz:∀w,(sizeOf e).run c.P w= .ok T.size w)(h:Sl T H M v xs)(j:Ev env x v)(hy:Ev env y (iv n))(hn:n=(lo:Int))(b:lo<=xs.length):∃u,bo c o env S u/\Sl T H M u (xs.drop lo):=by
 subst hn;obtain⟨p,m,cap,rfl,rfl,d,f⟩:=h.cut lo xs.length b (b0 _);refine⟨_,V.slice (lv:=some (iv lo)) (hv:= .none) (mv:= .none) ho j (λa g=>by simp[g.eval hy]) (λ_ _=>rfl) (λ_ _=>rfl) (λw=>Et i hz p _ cap (some lo) .none (by simpa using b) (by simpa using d) w),?_⟩;simpa using f
theorem V.ur{t e u:TypeId}{x:Operand}{p:Option Addr}{n m:Nat}(ho:o.op= .binOp .eql t x (.const (.slice .none 0 0)) u)(a:c.P.underlying t=some (.slice e))(b:Ev env x (.slice p n m)):bo c o env S (.bool p.isNone):=by
 exact V.bin ho b ⟨_,rfl,rfl⟩ (λw=>Lib.run_eql_slice_nil w t e p n m 0 0 a) (λw=>by rw[eqGuard_at_slice];rfl)
theorem X.ur{α:Type}{T:Ty α}{H:ae}{M:List Nat}{v:Value}{xs:List α}{t e u:TypeId}{x:Operand}(ho:o.op= .binOp .eql t x (.const (.slice .none 0 0)) u)(a:c.P.underlying t=some (.slice e))(d:Ev env x v)(f:Sl T H M v xs):
  ∃w,bo c o env S w/\∃b,w= .bool b/\(b=true->xs=[]):=by
 rcases f with⟨_,rfl,rfl⟩|⟨b,g,cap,rfl,hb,m,i,j,k,l⟩
 ·exact⟨_,V.ur ho a d,_,rfl,λ_=>rfl⟩
 ·exact⟨_,V.ur ho a d,_,rfl,λh=>by simp at h⟩
end
structure App(v v':Value)(H H':ae):Prop where
 cn:au (ob v) H H'
 blocks:∀b∈ob v',b∈ob v\/H.size<=b
theorem App.mv{v v':Value}{H H':ae}(a:App v v' H H')(M:List Nat):Mv H (ob v++M) (ob v'++M):=λk b=>by
 rcases a6.1 b with h|h
 ·rcases a.blocks k h with h|h
  ·exact .inl (bj _ h)
  ·exact .inr h
 ·exact .inl (bh _ h)
theorem App.km{v v':Value}{H H':ae}(a:App v v' H H')(M:List Nat):au (ob v++M) H H':=a.cn.mono λ_ h=>bj _ h
theorem App.new{v v':Value}{H0 H H':ae}(a:App v v' H H')(K:au [] H0 H)(h:∀i∈ob v,H0.size<=i):∀i∈ob v',H0.size<=i:=λi b=>by
 rcases a.blocks i b with h1|h1
 ·exact h i h1
 ·exact bn K.1 h1
theorem App.K{v v':Value}{H0 H H':ae}(a:App v v' H H')(K:au [] H0 H)(h:∀i∈ob v,H0.size<=i):au [] H0 H':=K.then a.cn λi b=>.inr (h i b)
theorem App.push{v v':Value}{H c H':ae}(k:au [] H c)(a:App v v' c H'):App v v' H H':=
 ⟨k.nil.trans a.cn,λb hb=>(a.blocks b hb).imp id λh=>bn k.1 h⟩
theorem Sl.app{α:Type}{T:Ty α}{v v' u:Value}{H H':ae}{M:List Nat}{xs:List α}(h:Sl T H (ob v++M) u xs)(a:App v v' H H'):Sl T H' (ob v'++M) u xs:=h.tr (a.km M) (a.mv M)
theorem Mv.own{H:ae}{M:List Nat}{v:Value}(h:∀i∈ob v,H.size<=i):Mv H M (ob v++M):=λk b=>(a6.1 b).elim (λa=>.inr (h k a)) .inl
theorem Sl.in{α:Type}{T:Ty α}{H0 H:ae}{M:List Nat}{u v:Value}{xs:List α}(h:Sl T H0 M u xs)(K:au [] H0 H)(hv:∀i∈ob v,H0.size<=i):Sl T H (ob v++M) u xs:=h.tr K.nil (Mv.own hv)
theorem cT.s9{α:Type}{T:Ty α}{H0 H:ae}{M:List Nat}{e:TypeId}{v:Value}{xs:List α}(h:cT T H (ob v++M) e v xs)(hv:∀i∈ob v,H0.size<=i)(b:∀i∈M,i<H0.size):Sl T H M v xs:=
 h.sl (λk a c=>by have:=hv k a;have:=b k c;omega) (λ_ a=>bh _ a)
theorem cT.lt{α:Type}{T:Ty α}{H:ae}{M:List Nat}{e:TypeId}{v:Value}{xs:List α}(h:cT T H M e v xs):∀i∈ob v,i<H.size:=let ⟨_,_,a,_⟩:=h;a.lt
theorem cT.mlt{α:Type}{T:Ty α}{H0 H:ae}{M N:List Nat}{e:TypeId}{v:Value}{xs:List α}(h:cT T H N e v xs)(K:au [] H0 H)(a:∀i∈M,i<H0.size):∀i∈ob v++M,i<H.size:=λi b=>
 (a6.1 b).elim (h.lt i) (λh=>bp (a i h) K.1)
theorem mlt{H0 H:ae}{M:List Nat}(K:au [] H0 H)(a:∀i∈M,i<H0.size):∀i∈M,i<H.size:=λi h=>bp (a i h) K.1
section
variable {c:Cx} {env:Env} {H:ae} {Q:Exit->Act->World->Prop} {ops:Array Oper} {o:Oper} {rest:List Oper} {d:Nat} {α:Type} {T:Ty α} {M:List Nat}
theorem WL.app{t t2 e:TypeId}{i:TypeInfo}{z v x:Value}{s y:Operand}{xs ys:List α}{u:TypeDesc}(hg:o.guard= .none)(hd:o.dst=some d)(l:b2 d c.n=true)
  (ho:o.op= .call {callee:= .builtin .append,args:= #[s,y],argTypes:= #[t,t2]})(E:c.P.underlying t=some (.slice e))(q:c.P.underlying t2=some u)(m:∀k,u≠.int k)
  (hi:∀w,(typeInfo e).run c.P w= .ok i w)(p:i.size=T.size)(hz:i.zero=some z)(r:z.cells.size=T.size)
  (D:Ev env s v)(hy:Ev env y x)(hr:cT T H (ob v++M) e v xs)(h:∃news,Src c.P H T.size x ys.length news/\dR T H (ob v++M) news ys)(b:(xs.length+ys.length)*i.bytes<=140737488355328)(hb:0<i.bytes)
  (k:∀v' H',cT T H' (ob v'++M) e v' (xs++ys)->App v v' H H'->WL c ops rest ((d,true,v')::env) H' Q):WL c ops (o::rest) env H Q:=by
 obtain⟨hl,cs,g,he⟩:=hr;obtain⟨news,hn,f⟩:=h;have h1:xs.length+ys.length<=140737488355328:=bn (Nat.le_mul_of_pos_right _ hb) b;refine WL.append hg hd l ho E q m hi p hz r D hy g hn f.one f.length b (by omega) λv' H' n hk j=>?_;have a:App v v' H H':=⟨hk,j⟩;refine k v' H' ⟨by simp;omega,cs++news,by simpa using n,?_⟩ a;exact(he.tr (a.km M) (a.mv M)).append (f.tr (a.km M) (a.mv M))
theorem WL.u9{o1 o2:Oper}{l D:Nat}{t e:TypeId}{i:TypeInfo}{z v u:Value}{s x:Operand}{xs:List α}{y:α}(I:o1.guard= .none)(F:o1.dst=some l)(o:b2 l c.n=true)(J:o2.guard= .none)(l7:o2.dst=some D)(p:b2 D c.n=true)
  (N:o1.op= .buildSlice t 1 #[(0,x)])(O:o2.op= .call {callee:= .builtin .append,args:= #[s,.tmp l],argTypes:= #[t,t]})(P:c.P.underlying t=some (.slice e))
  (K:∀w,(typeInfo e).run c.P w= .ok i w)(q:i.size=T.size)(W:i.zero=some z)(R:z.cells.size=T.size)(ad:T.size<=1000)
  (hx:Ev env x u)(hu:T.V H (ob v++M) u y)(hs:∀f,Ev ((l,true,f)::env) s v)(hr:cT T H (ob v++M) e v xs)(m:(xs.length+1)*i.bytes<=140737488355328)(hb:0<i.bytes)
  (k:∀j H' f,cT T H' (ob j++M) e j (xs++[y])->App v j H H'->WL c ops rest ((D,true,j)::(l,true,f)::env) H' Q):WL c ops (o1::o2::rest) env H Q:=by
 obtain⟨r,E,rfl⟩:=hu;have b:=Ty.Hs E;have d:=T.len E;refine WL.buildSlice (n:=1) (size:=T.size) (z:=z) (xs:=[x]) (vs:=[T.val r]) (css:=r) I F o N P (λw=>by simp[sizeOf,K,q]) (λw=>by simp[zeroValue,K,W]) (.cons hx .nil) rfl (by omega) (λv U=>by simp at U;subst U;rw[b];simpa using d) (by simp[b]) λg H1 Y ac S=>?_
 exact WL.app (T:=T) (M:=M) (ys:=[y]) (x:= .slice (some ⟨g,0,none⟩) 1 1) J l7 p O P P (λk h=>by cases h) K q W R (hs _) ⟨true,by unfold ev look;simp,rfl⟩ (hr.at S)
  ⟨r,Src.bx Y (by simp[d]),dR.single (T.tr E S.nil (Mv.refl _ _))⟩ m hb λj H' Z a=>k j H' _ Z (App.push S a)
end
theorem cT.empty{α:Type}(T:Ty α){H:ae}{M:List Nat}{g:Nat}{e:TypeId}(h:Bx H g e []):cT T H M e (.slice (some ⟨g,0,none⟩) 0 0) []:=
 ⟨by simp,[],⟨by simp,.inr ⟨g,0,#[],rfl,h,b0 _,by simp,by simp,by simp⟩⟩,.nil⟩
theorem J6{P:Program}{f:FuncId}{fn:Func}(h:P.funcs[f]? =some fn)(a:(fn.name== "runtime.NumGoroutine")=false)(hb:fn.body.isNone=true)(hn:Extern.findNext fn=none)(he:Extern.find fn=some Extern.BytealgIndexByte.indexByte)
  {H0:ae}{M:List Nat}{v:Value}{l:List UInt8}(hl:Sl dy H0 M v l)(b:UInt8):cg P f #[v,bv b] H0 (λu H=>u=iv (Lib.indexByte l b)/\H=H0):=by
 intro w c;rw[run_callFunc_extern h a hb hn he];rcases hl with⟨p,rfl,rfl⟩|⟨g,off,cap,rfl,hb,hm,j,k,m,d⟩
 ·have e:(Extern.BytealgIndexByte.indexByte #[.slice p 0 0,.int .u8 b.toNat]).run P w= .ok (.int .i64 (Lib.indexByte [] b)) w:=by cases p<;>rfl
  rw[bv,e];exact⟨rfl,rfl,c⟩
 ·have := Lib.run_indexByteSlice (P := P) w g off l.length cap (l.map λb => (b.toNat : Int)) (by simp) (λi hi=>by
   obtain⟨_,_,cs,⟨rfl,_⟩,hc⟩:=d i hi;have:=hc 0 _ rfl;rw[dG c];simpa[bv,show dy.size=1 from rfl,hi]using this) b.toNat
  rw[bv,this];refine⟨rfl,?_,c⟩;have e:((λn:Int=>UInt8.ofNat n.toNat)∘λb:UInt8=>(b.toNat:Int))=id:=by funext x;simp
  simp[iv,Lib.bytesOf,e]
section
variable {c:Cx} {o:Oper} {env:Env} {S:ae->Prop}
theorem G.idx{t e:TypeId}{x y:Operand}{g n m i:Nat}{k:IntKind}{z:Int}(ho:o.op= .indexAddr t x y)(a:c.P.underlying t=some (.slice e))(hz:∀w,(sizeOf e).run c.P w= .ok 1 w)
  (b:Ev env x (.slice (some ⟨g,0,none⟩) n m))(hy:Ev env y (.int k z))(hn:z=(i:Int))(hi:i<n):bo c o env S (.pointer (some ⟨g,i,none⟩)):=by
 subst hn;have:=V.Ca (S:=S) ho a hz b hy hi;simpa using this
end
def rv(m b:Nat):Value:= .slice (some ⟨b,0,none⟩) m m
def kG(n p r m:Nat)(B:Nat->Nat):List Value:=(ap n).map λi=>if p<=i/\i<r then rv m (B i)else .slice none 0 0
def iZ(m:Nat)(f:Nat->Int):List Value:=(ap m).map λj=>iv (f j)
structure gB(H:ae)(eo er:TypeId)(g n p r m:Nat)(B:Nat->Nat)(F:Nat->Nat->Int):Prop where
 outer:Bx H g eo (kG n p r m B)
 le:r<=n
 row:∀i,p<=i->i<r->Bx H (B i) er (iZ m (F i))/\B i≠g
 apart:∀i j,p<=i->i<r->p<=j->j<r->i≠j->B i≠B j
section
variable {H:ae} {eo er:TypeId} {g n p r m:Nat} {B:Nat->Nat} {F:Nat->Nat->Int}
theorem gB.rowAt(h:gB H eo er g n p r m B F){i:Nat}(h1:p<=i)(h2:i<r):cell H g i=some (rv m (B i)):=by
 rw[h.outer.cell];have:=h.le;simp[kG,show i<n by omega,h1,h2]
theorem gB.val(h:gB H eo er g n p r m B F){i j:Nat}(h1:p<=i)(h2:i<r)(a:j<m):cell H (B i) j=some (iv (F i j)):=by
 rw[(h.row i h1 h2).1.cell];simp[iZ,a]
theorem Kt(m:Nat)(f:Nat->Int)(j:Nat)(x:Int)(h:j<m):(iZ m f).take j++[iv x]++(iZ m f).drop (j+1)=iZ m (λk=>if k=j then x else f k):=by
 refine ar λk=>?_;unfold iZ;by_cases c:k<j
 ·rw[al,a4 (by simp;omega),a5 c];simp[show k<m by omega,show k≠j by omega]
 ·by_cases a:k=j
  ·subst a;rw[al,ah (by simp;omega)];simp[show min k m=k by omega,h]
  ·rw[al,ah (by simp;omega),ah (by simp;omega)];simp only[a1,a9,a3,bi,br,a0];rw[show j+1+(k-min j m-1)=k by omega];by_cases b:k<m
   ·simp[b,a]
   ·simp[b]
theorem gB.store{H':ae}{i j:Nat}{x:Int}(h:gB H eo er g n p r m B F)(h1:p<=i)(h2:i<r)(f:j<m)(hb:Bx H' (B i) er ((iZ m (F i)).take j++[iv x]++(iZ m (F i)).drop (j+1)))(k:au [B i] H H'):
  gB H' eo er g n p r m B (λa b=>if a=i/\b=j then x else F a b):=by
 refine⟨h.outer.cn k (by simpa using Ne.symm (h.row i h1 h2).2),h.le,λa c d=>⟨?_,(h.row a c d).2⟩,h.apart⟩;by_cases e:a=i
 ·subst e;rw[Kt m _ j x f]at hb;simpa using hb
 ·have:=(h.row a c d).1.cn k (by simpa using h.apart a i c d h1 h2 e);simpa[e]using this
theorem NG(n p r m:Nat)(B:Nat->Nat)(i b:Nat)(h:i<n)(hi:i=r/\p<=r\/i+1=p/\p<=r):
  (kG n p r m B).take i++[rv m b]++(kG n p r m B).drop (i+1)=kG n (if i=r then p else i) (if i=r then r+1 else r) m (λk=>if k=i then b else B k):=by
 refine ar λk=>?_;unfold kG;by_cases c:k<i
 ·rw[al,a4 (by simp;omega),a5 c];simp only[a0,a2 (show k<n by omega),bb];congr 1
  rw[if_neg (show k≠i by omega)];rcases hi with⟨rfl,hi⟩|⟨rfl,hi⟩
  ·simp only[if_pos];by_cases a:p<=k
   ·rw[if_pos ⟨a,c⟩,if_pos ⟨a,by omega⟩]
   ·rw[if_neg (by omega),if_neg (by omega)]
  ·rw[if_neg (by omega),if_neg (by split<;>omega)]
 ·by_cases a:k=i
  ·subst a;rw[al,ah (by simp;omega)];simp only[a1,a9,a3,show min k n=k by omega,Nat.sub_self,List.singleton_append,List.getElem?_cons_zero,a0,a2 h,bb];congr 1
   rw[if_pos]
   ·simp
   rcases hi with⟨rfl,hi⟩|⟨rfl,hi⟩
   ·simp only[if_pos];omega
   ·rw[if_neg (by omega),if_neg (by omega)];omega
  ·rw[al,ah (by simp;omega),ah (by simp;omega)];simp only[a1,a9,a3,bi,br,a0];rw[show i+1+(k-min i n-1)=k by omega];by_cases d:k<n
   ·simp only[a2 d,bb];congr 1
    rw[if_neg a];rcases hi with⟨rfl,hi⟩|⟨rfl,hi⟩
    ·simp only[if_pos];rw[if_neg (by omega),if_neg (by omega)]
    ·have e:¬i=r:=by omega
     simp only[if_neg e];by_cases f:k<r
     ·rw[if_pos ⟨by omega,f⟩,if_pos ⟨by omega,f⟩]
     ·rw[if_neg (by omega),if_neg (by omega)]
   ·rw[List.getElem?_eq_none (by simpa using d)];rfl
theorem Ku(m:Nat):(ao m [iv 0]).flatten=iZ m (λ_=>0):=by
 refine ar λk=>?_
 have e:(ao m [iv 0]).flatten=ao m (iv 0):=by
  induction m with
  |zero=>rfl
  |succ m ih=>rw[bk,bs,ih];rfl
 rw[e];unfold iZ;by_cases h:k<m
 ·simp[h]
 ·simp[h]
theorem NF(n m:Nat)(B:Nat->Nat)(q:Nat):(ao n [Value.slice none 0 0]).flatten=kG n q q m B:=by
 refine ar λk=>?_
 have e:(ao n [Value.slice none 0 0]).flatten=ao n (.slice none 0 0):=by
  induction n with
  |zero=>rfl
  |succ m ih=>rw[bk,bs,ih];rfl
 rw[e];unfold kG;by_cases h:k<n
 ·simp[h];intro a b;omega
 ·simp[h]
theorem gB.ND{v H':ae}{i b:Nat}(h:gB H eo er g n p r m B F)(hi:i<n)(q:i=r/\p<=r\/i+1=p/\p<=r)(k1:au [] H v)(hb:Bx v b er (iZ m (λ_=>0)))(E:H.size<=b)
  (ho:Bx H' g eo ((kG n p r m B).take i++[rv m b]++(kG n p r m B).drop (i+1)))(z:au [g] v H'):
  gB H' eo er g n (if i=r then p else i) (if i=r then r+1 else r) m (λk=>if k=i then b else B k) (λa c=>if a=i then 0 else F a c):=by
 have I:g<H.size:=h.outer.lt;have o:∀a,p<=a->a<r->B a<H.size:=λa f j=>(h.row a f j).1.lt;rw[NG n p r m B i b hi q]at ho;refine⟨ho,?_,λa f j=>?_,λa s f j x y w=>?_⟩
 ·have:=h.le;split<;>omega
 ·by_cases e:a=i
  ·subst e;simp only[if_true];exact⟨hb.cn z (by simp;omega),by omega⟩
  ·have t:p<=a/\a<r:=by
    rcases q with⟨rfl,_⟩|⟨rfl,_⟩
    ·simp only[if_pos]at f j;omega
    ·have d:¬i=r:=by omega
     simp only[if_neg d]at f j;omega
   simp only[if_neg e];refine⟨((h.row a t.1 t.2).1.at k1).cn z (by simpa using(h.row a t.1 t.2).2),(h.row a t.1 t.2).2⟩
 ·have l:∀a,(if i=r then p else i)<=a->a<(if i=r then r+1 else r)->a≠i->p<=a/\a<r:=by
   intro a f j e;rcases q with⟨rfl,_⟩|⟨rfl,_⟩
   ·simp only[if_pos]at f j;omega
   ·have d:¬i=r:=by omega
    simp only[if_neg d]at f j;omega
  by_cases u:a=i
  ·by_cases d:s=i
   ·omega
   ·have:=l s x y d;simp only[if_pos u,if_neg d];have:=o s this.1 this.2;omega
  ·by_cases d:s=i
   ·have:=l a f j u;simp only[if_neg u,if_pos d];have:=o a this.1 this.2;omega
   ·have k3:=l a f j u;have D:=l s x y d;simp only[if_neg u,if_neg d];exact h.apart a s k3.1 k3.2 D.1 D.2 w
theorem gB.sl{M:List Nat}(h:gB H eo er g n 0 n m B F)(hn:n<=140737488355328)(hm:m<=140737488355328)(f:∀i j,i<n->j<m->cD (F i j))(hg:g∉M)(e:∀i,i<n->B i∉M):
  Sl (ia oP) H M (.slice (some ⟨g,0,none⟩) n n) ((ap n).map λi=>(ap m).map λj=>F i j):=by
 refine .inr ⟨g,0,n,by simp,h.outer.lt,hg,by simp,by unfold maxLen;omega,by simp;omega,λi a=>?_⟩;simp at a;refine⟨h.outer.lt,hg,[rv m (B i)],⟨_,rfl,.inr ⟨B i,0,m,by simp[rv],(h.row i (by omega) a).1.lt,e i a,by simp,by unfold maxLen;omega,by simp;omega,λj d=>?_⟩⟩,λj u b=>?_⟩
 ·simp at d;refine⟨(h.row i (by omega) a).1.lt,e i a,[iv (F i j)],⟨by simp,by simpa using f i j a d⟩,λq u b=>?_⟩;have c:oP.size=1:=rfl;cases q with
  |zero=>
   simp at b;subst b;have:=h.val (by omega) a d;simpa[c]using this
  |succ q=>simp at b
 ·have c:(ia oP).size=1:=rfl;cases j with
  |zero=>
   simp at b;subst b;have:=h.rowAt (by omega) a;simpa[c]using this
  |succ q=>simp at b
theorem Row.bx{cs:List Value}{size:Nat}{e:TypeId}(h:Row H e size (.slice (some ⟨g,0,none⟩) n n) n cs):Bx H g e cs:=by
 obtain⟨l,h⟩:=h;rcases h with⟨h,_⟩|⟨i,cap,c,b,f,j,k,d,a⟩
 ·cases h
 ·simp at b;obtain⟨rfl,rfl⟩:=b;unfold Bx;rw[f];rw[List.take_of_length_le (by simp[d])]at a;rw[<-a]
end
theorem WL.C0{c:Cx}{env:Env}{H:ae}{Q:Exit->Act->World->Prop}{ops:Array Oper}{o:Oper}{rest:List Oper}{d:Nat}{t e:TypeId}{i:TypeInfo}{z:Value}{x y:Operand}{size:Nat}{zs:List Value}{p q:Int}(n:Nat)(hg:o.guard= .none)(hd:o.dst=some d)(f:b2 d c.n=true)
  (ho:o.op= .makeSlice t x y)(D:c.P.underlying t=some (.slice e))(hi:∀w,(typeInfo e).run c.P w= .ok i w)(j:i.size=size)(hz:i.zero=some z)(m:z.cells=zs.toArray)(l:zs.length=size)(b:0<size)
  (F:Ev env x (iv p))(hy:Ev env y (iv q))(s:p=(n:Int))(hq:q=(n:Int))(a:(n:Int)*i.bytes<=140737488355328)(hb:0<i.bytes)
  (k:∀g H',Bx H' g e (ao n zs).flatten->H.size<=g->au [] H H'->WL c ops rest ((d,true,.slice (some ⟨g,0,none⟩) n n)::env) H' Q):WL c ops (o::rest) env H Q:=
 WL.make hg hd f ho D hi j hz m l b F hy s hq a hb λv H' u r h ⟨g,E⟩=>by
  subst E;exact k g H' u.bx (h g (by simp[ob])) r
end Go.NB
end
section
namespace Go.NB
def p8:Ty (Nat×Nat):=yu 2 true (λp=>[iv p.1,iv p.2]) (λp=>p.1<=140737488355328/\p.2<=140737488355328) (λ_=>rfl) (λ_ u a=>by simp at a;rcases a with rfl|rfl<;>rfl) (by decide) (λh=>by cases h)
namespace L
def Rows(a b:List (List UInt8))(q:Nat)(F:Nat->Nat->Int):Prop:=
 ∀i j,i<=a.length->j<=b.length->F i j=if q<=i then(lcs (a.drop i) (b.drop j):Nat)else 0
def j8(a b:List (List UInt8))(q s:Nat)(F:Nat->Nat->Int):Prop:=
 ∀i j,i<=a.length->j<=b.length->F i j=if q<=i\/i+1=q/\s<=j then(lcs (a.drop i) (b.drop j):Nat)else 0
theorem Rows.start(a b:List (List UInt8)):Rows a b a.length (λ_ _=>0):=λi j c _=>by
 split
 ·rw[be (by omega),mf];rfl
 ·rfl
theorem Rows.begin{a b:List (List UInt8)}{q:Nat}{F:Nat->Nat->Int}(h:Rows a b q F):j8 a b q b.length F:=λi j e f=>by
 rw[h i j e f];by_cases c:q<=i
 ·rw[if_pos c,if_pos (.inl c)]
 ·rw[if_neg c];by_cases d:i+1=q/\b.length<=j
  ·rw[if_pos (.inr d),be (show b.length<=j from d.2),nz]
  ·rw[if_neg (λh=>h.elim c d)]
theorem j8.done{a b:List (List UInt8)}{q:Nat}{F:Nat->Nat->Int}(h:j8 a b q 0 F)(hq:0<q):Rows a b (q-1) F:=λi j e f=>by
 rw[h i j e f];by_cases c:q<=i
 ·rw[if_pos (.inl c),if_pos (by omega)]
 ·by_cases d:i+1=q
  ·rw[if_pos (.inr ⟨d,by omega⟩),if_pos (by omega)]
  ·rw[if_neg (λh=>h.elim c (λh=>d h.1)),if_neg (by omega)]
theorem j8.set{a b:List (List UInt8)}{q s:Nat}{F:Nat->Nat->Int}{x:Int}(h:j8 a b q s F)(hq:0<q)(n:0<s)(l:x=(lcs (a.drop (q-1)) (b.drop (s-1)):Nat)):
  j8 a b q (s-1) (λi j=>if i=q-1/\j=s-1 then x else F i j):=λi j g k=>by
 show(if i=q-1/\j=s-1 then x else F i j)=_;by_cases e:i=q-1/\j=s-1
 ·rw[if_pos e,if_pos (.inr ⟨by omega,by omega⟩),l,e.1,e.2]
 ·rw[if_neg e,h i j g k];by_cases c:q<=i\/i+1=q/\s<=j
  ·rw[if_pos c,if_pos (c.imp id λh=>⟨h.1,by omega⟩)]
  ·rw[if_neg c,if_neg];intro d;rcases d with d|⟨d,m⟩
   ·exact c (.inl d)
   ·by_cases f:s<=j
    ·exact c (.inr ⟨d,f⟩)
    ·exact e ⟨by omega,by omega⟩
theorem j8.get{a b:List (List UInt8)}{q s i j:Nat}{F:Nat->Nat->Int}(h:j8 a b q s F)(hi:i<=a.length)(hj:j<=b.length)(hc:q<=i\/i+1=q/\s<=j):F i j=(lcs (a.drop i) (b.drop j):Nat):=by
 rw[h i j hi hj,if_pos hc]
theorem j8.i64{a b:List (List UInt8)}{q s:Nat}{F:Nat->Nat->Int}(h:j8 a b q s F)(c:a.length<=1000000){i j:Nat}(hi:i<=a.length)(hj:j<=b.length):0<=F i j/\F i j<=1000000:=by
 rw[h i j hi hj];split
 ·have:=KQ (a.drop i) (b.drop j);have:=b1 (i:=i) (l:=a);omega
 ·omega
theorem Rows.i64{a b:List (List UInt8)}{q:Nat}{F:Nat->Nat->Int}(h:Rows a b q F)(c:a.length<=1000000){i j:Nat}(hi:i<=a.length)(hj:j<=b.length):0<=F i j/\F i j<=1000000:=h.begin.i64 c hi hj
theorem tw{a b:List (List UInt8)}{i j:Nat}(hi:i<a.length)(hj:j<b.length):
  lcs (a.drop i) (b.drop j)=if a[i]=b[j]then lcs (a.drop (i+1)) (b.drop (j+1))+1 else max (lcs (a.drop (i+1)) (b.drop j)) (lcs (a.drop i) (b.drop (j+1))):=by
 rw[am hi,am hj,oq]
theorem xK{a b:List (List UInt8)}{i j:Nat}(hi:i<a.length)(hj:j<b.length):
  pairs (a.drop i) (b.drop j) i j=if a[i]=b[j]then(i,j)::pairs (a.drop (i+1)) (b.drop (j+1)) (i+1) (j+1)
   else if lcs (a.drop i) (b.drop (j+1))<=lcs (a.drop (i+1)) (b.drop j)then pairs (a.drop (i+1)) (b.drop j) (i+1) j else pairs (a.drop i) (b.drop (j+1)) i (j+1):=by
 rw[am hi,am hj,xL]
def tab(a b:List (List UInt8)):List (List Int):=(ap (a.length+1)).map λi=>(ap (b.length+1)).map λj=>((lcs (a.drop i) (b.drop j):Nat):Int)
def uD(a b:List (List UInt8))(i:Nat):List Int:=(ap (b.length+1)).map λj=>((lcs (a.drop i) (b.drop j):Nat):Int)
theorem EZ{a b:List (List UInt8)}{i:Nat}(h:i<=a.length):(tab a b)[i]? =some (uD a b i):=by
 simp[tab,uD,show i<a.length+1 by omega]
theorem EY{a b:List (List UInt8)}{i j:Nat}(h:j<=b.length):(uD a b i)[j]? =some ((lcs (a.drop i) (b.drop j):Nat):Int):=by
 simp[uD,show j<b.length+1 by omega]
theorem Pk{a b:List (List UInt8)}{F:Nat->Nat->Int}(h:Rows a b 0 F):((ap (a.length+1)).map λi=>(ap (b.length+1)).map λj=>F i j)=tab a b:=by
 unfold tab;refine bl λi c=>bl λj d=>?_;have e:=b3.1 c;have f:=b3.1 d;rw[h i j (by omega) (by omega),if_pos (by omega)]
end L
end Go.NB
end
