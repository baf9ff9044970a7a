import Derived.Test.YtpechfcbnoggfaaGreatDoorAmH
import Derived.Lib.Overlaps
import Derived.Laws.Externs
set_option linter.unusedVariables false
set_option linter.unusedSimpArgs false
open Array renaming length_toList->ao
open List renaming length_append->ad,append_assoc->al,length_take->am,take_left'->ap,drop_left'->ar,replicate->a0,mem_of_mem_take->a2,mem_of_mem_drop->a3,size_toArray->a4,mem_append->a5,take_add->a9
open Nat renaming mul_le_mul_right->a1,blt->a6,add_zero->bb
namespace Go.AM
open Go Go.NB
section
variable {P:Program} {c:Cx} {o:Oper} {env:Env} {S:ae->Prop}
theorem NT{t e:TypeId}{sz:Nat}(a:P.underlying t=some (.slice e))(hz:∀w,(sizeOf e).run P w= .ok sz w)(p:Option Addr)(n cap lo:Nat)(h1:lo<=n)(w:World):
  (Instr.sliceAt t (.slice p n cap) (some (iv (lo:Nat))) none none).run P w= .ok (.slice (if cap=lo then p else p.map (·.add (lo*sz))) (n-lo) (cap-lo)) w:=by
 simp[Instr.sliceAt,Instr.slice,run_underlying a,Instr.sliceBounds,Instr.sliceBound,asIntOf,iv,hz,h1]
theorem NS{t e:TypeId}{sz:Nat}(a:P.underlying t=some (.slice e))(hz:∀w,(sizeOf e).run P w= .ok sz w)(g off n cap hi:Nat)(h1:hi<=cap)(w:World):
  (Instr.sliceAt t (.slice (some ⟨g,off,none⟩) n cap) none (some (iv (hi:Nat))) none).run P w= .ok (.slice (some ⟨g,off,none⟩) hi cap) w:=by
 simp[Instr.sliceAt,Instr.slice,run_underlying a,Instr.sliceBounds,Instr.sliceBound,asIntOf,iv,hz,h1,Addr.add_lit]
theorem NR{t e:TypeId}{sz:Nat}(a:P.underlying t=some (.slice e))(hz:∀w,(sizeOf e).run P w= .ok sz w)(p:Option Addr)(n cap lo hi:Nat)(h1:lo<=hi)(h2:hi<=cap)(w:World):
  (Instr.sliceAt t (.slice p n cap) (some (iv (lo:Nat))) (some (iv (hi:Nat))) none).run P w= .ok (.slice (if cap=lo then p else p.map (·.add (lo*sz))) (hi-lo) (cap-lo)) w:=by
 simp[Instr.sliceAt,Instr.slice,run_underlying a,Instr.sliceBounds,Instr.sliceBound,asIntOf,iv,hz,h1,h2]
theorem NU{t e:TypeId}{sz:Nat}(b:P.underlying t=some (.slice e))(hz:∀w,(sizeOf e).run P w= .ok sz w)(p:Option Addr)(n cap lo hi mx:Nat)(h1:lo<=hi)(h2:hi<=mx)(a:mx<=cap)(w:World):
  (Instr.sliceAt t (.slice p n cap) (some (iv (lo:Nat))) (some (iv (hi:Nat))) (some (iv (mx:Nat)))).run P w= .ok (.slice (if mx=lo then p else p.map (·.add (lo*sz))) (hi-lo) (mx-lo)) w:=by
 simp[Instr.sliceAt,Instr.slice,run_underlying b,Instr.sliceBounds,Instr.sliceBound,asIntOf,iv,hz,h1,h2,a]
theorem V.rK{t e:TypeId}{sz:Nat}{x y:Operand}{p:Option Addr}{n cap lo:Nat}{k:Int}(d:c.P.underlying t=some (.slice e))(hz:∀w,(sizeOf e).run c.P w= .ok sz w)(ho:o.op= .slice t x (some y) none none)
  (f:Ev env x (.slice p n cap))(hy:Ev env y (iv k))(hk:k=(lo:Int))(h1:lo<=n):bo c o env S (.slice (if cap=lo then p else p.map (·.add (lo*sz))) (n-lo) (cap-lo)):=by
 subst hk;exact V.slice (lv:=some (iv lo)) (hv:=none) (mv:=none) ho f (λa b=>by simp[b.eval hy]) (λ_ _=>rfl) (λ_ _=>rfl) (λw=>NT d hz p n cap lo h1 w)
theorem V.pW{t e:TypeId}{sz:Nat}{x y:Operand}{g off n cap hi:Nat}{k:Int}(d:c.P.underlying t=some (.slice e))(hz:∀w,(sizeOf e).run c.P w= .ok sz w)(ho:o.op= .slice t x none (some y) none)
  (f:Ev env x (.slice (some ⟨g,off,none⟩) n cap))(hy:Ev env y (iv k))(hk:k=(hi:Int))(h1:hi<=cap):bo c o env S (.slice (some ⟨g,off,none⟩) hi cap):=by
 subst hk;exact V.slice (lv:=none) (hv:=some (iv hi)) (mv:=none) ho f (λ_ _=>rfl) (λa b=>by simp[b.eval hy]) (λ_ _=>rfl) (λw=>NS d hz g off n cap hi h1 w)
theorem V.N9{t e:TypeId}{sz:Nat}{x y z:Operand}{p:Option Addr}{n cap lo hi:Nat}{k m:Int}(f:c.P.underlying t=some (.slice e))(hz:∀w,(sizeOf e).run c.P w= .ok sz w)(ho:o.op= .slice t x (some y) (some z) none)
  (g:Ev env x (.slice p n cap))(hy:Ev env y (iv k))(d:Ev env z (iv m))(hk:k=(lo:Int))(hm:m=(hi:Int))(h1:lo<=hi)(h2:hi<=cap):bo c o env S (.slice (if cap=lo then p else p.map (·.add (lo*sz))) (hi-lo) (cap-lo)):=by
 subst hk hm;exact V.slice (lv:=some (iv lo)) (hv:=some (iv hi)) (mv:=none) ho g (λa b=>by simp[b.eval hy]) (λa b=>by simp[b.eval d]) (λ_ _=>rfl) (λw=>NR f hz p n cap lo hi h1 h2 w)
theorem V.EE{t e:TypeId}{sz:Nat}{x y z u:Operand}{p:Option Addr}{n cap lo hi mx:Nat}{k m q:Int}(h:c.P.underlying t=some (.slice e))(hz:∀w,(sizeOf e).run c.P w= .ok sz w)(ho:o.op= .slice t x (some y) (some z) (some u))
  (i:Ev env x (.slice p n cap))(hy:Ev env y (iv k))(d:Ev env z (iv m))(f:Ev env u (iv q))(hk:k=(lo:Int))(hm:m=(hi:Int))(hq:q=(mx:Int))(h1:lo<=hi)(h2:hi<=mx)(g:mx<=cap):
  bo c o env S (.slice (if mx=lo then p else p.map (·.add (lo*sz))) (hi-lo) (mx-lo)):=by
 subst hk hm hq;exact V.slice (lv:=some (iv lo)) (hv:=some (iv hi)) (mv:=some (iv mx)) ho i (λa b=>by simp[b.eval hy]) (λa b=>by simp[b.eval d]) (λa b=>by simp[b.eval f]) (λw=>NU h hz p n cap lo hi mx h1 h2 g w)
theorem V.iK{t e:TypeId}{sz:Nat}{x y:Operand}{g off n cap lo:Nat}{k:Int}(a:c.P.underlying t=some (.slice e))(hz:∀w,(sizeOf e).run c.P w= .ok sz w)(ho:o.op= .slice t x (some y) none none)
  (b:Ev env x (.slice (some ⟨g,off,none⟩) n cap))(hy:Ev env y (iv k))(hk:k=(lo:Int))(h1:lo<=n)(h2:lo<cap):bo c o env S (.slice (some ⟨g,off+lo*sz,none⟩) (n-lo) (cap-lo)):=by
 have:=V.rK (S:=S) a hz ho b hy hk h1;rw[if_neg (by omega)]at this;simpa[Addr.add_lit]using this
theorem V.ED{t e:TypeId}{sz:Nat}{x y z:Operand}{g off n cap lo hi:Nat}{k m:Int}(b:c.P.underlying t=some (.slice e))(hz:∀w,(sizeOf e).run c.P w= .ok sz w)(ho:o.op= .slice t x (some y) (some z) none)
  (d:Ev env x (.slice (some ⟨g,off,none⟩) n cap))(hy:Ev env y (iv k))(a:Ev env z (iv m))(hk:k=(lo:Int))(hm:m=(hi:Int))(h1:lo<=hi)(h2:hi<=cap)(f:lo<cap):bo c o env S (.slice (some ⟨g,off+lo*sz,none⟩) (hi-lo) (cap-lo)):=by
 have:=V.N9 (S:=S) b hz ho d hy a hk hm h1 h2;rw[if_neg (by omega)]at this;simpa[Addr.add_lit]using this
theorem V.cap{x:Operand}{t e:TypeId}{p:Option Addr}{n m:Nat}(d:c.P.underlying t=some (.slice e))(ho:o.op= .call {callee:= .builtin .cap,args:= #[x],argTypes:= #[t]})
  (f:Ev env x (.slice p n m)):bo c o env S (iv m):=λa w b _ _=>by
 unfold execOp;rw[ho];simp[resolve,invoke,builtin,b.eval f,Builtin.cap_,run_underlying d,goInt,iv]
theorem V.fU{x:Operand}{t e:TypeId}{p:Option Addr}{n m:Nat}(a:c.P.underlying t=some (.slice e))(ho:o.op= .call {callee:= .builtin .len,args:= #[x],argTypes:= #[t]})
  (b:Ev env x (.slice p n m)):bo c o env S (iv n):=V.tA ho a b
def dF(cur:Array Value)(a:Nat)(news:List Value):Array Value:=(cur.toList.take a++news++cur.toList.drop (a+news.length)).toArray
theorem gV{cur:Array Value}{k:Nat}{news:List Value}(h:k+news.length<=cur.size):(dF cur k news).size=cur.size:=by
 unfold dF;simp only[a4,ad,am,List.length_drop,ao];omega
theorem ue{cur:Array Value}{off:Nat}{a us b:List Value}(h:(cur.toList.drop off).take a.length=a)(c:off+(a.length+us.length+b.length)<=cur.size):
  ((dF (dF cur (off+a.length) us) (off+(a.length+us.length)) b).toList.drop off).take (a.length+us.length+b.length)=a++us++b:=by
 have g:cur.toList.take (off+a.length)=cur.toList.take off++a:=by rw[a9,h]
 have d:(cur.toList.take off).length=off:=by rw[am,ao];omega
 unfold dF;rw[g];have e:(cur.toList.take off++a++us++cur.toList.drop (off+a.length+us.length)).take (off+(a.length+us.length))=cur.toList.take off++a++us:=ap (by rw[ad,ad,d,Nat.add_assoc]);have f:∀Z,cur.toList.take off++a++us++b++Z=cur.toList.take off++(a++us++b++Z):=λZ=>by simp[al]
 rw[e,f,ar d];exact ap (by rw[ad,ad])
theorem DS{cur:Array Value}{off:Nat}{a us b:List Value}(h:(cur.toList.drop off).take a.length=a)(c:off+(a.length+us.length+b.length)<=cur.size):
  ((dF (dF cur (off+(a.length+us.length)) b) (off+a.length) us).toList.drop off).take (a.length+us.length+b.length)=a++us++b:=by
 have g:cur.toList.take (off+a.length)=cur.toList.take off++a:=by rw[a9,h]
 have i:(cur.toList.take off).length=off:=by rw[am,ao];omega
 have j:(cur.toList.take (off+(a.length+us.length))).length=off+(a.length+us.length):=by rw[am];have:=cur.length_toList;omega
 unfold dF
 have d:(cur.toList.take (off+(a.length+us.length))++b++cur.toList.drop (off+(a.length+us.length)+b.length)).take (off+a.length)=cur.toList.take off++a:=by
  rw[al,List.take_append_of_le_length (by omega),List.take_take,Nat.min_eq_left (by omega),g]
 have e:(cur.toList.take (off+(a.length+us.length))++b++cur.toList.drop (off+(a.length+us.length)+b.length)).drop (off+a.length+us.length)=b++cur.toList.drop (off+(a.length+us.length)+b.length):=by
  rw[al,ar (by omega)]
 have f:cur.toList.take off++a++us++(b++cur.toList.drop (off+(a.length+us.length)+b.length))=cur.toList.take off++(a++us++b++cur.toList.drop (off+(a.length+us.length)+b.length)):=by simp[al]
 rw[d,e,f,ar i];exact ap (by rw[ad,ad])
theorem NQ{t t' ty e et:TypeId}{sz g off d dc m k:Nat}{cur:Array Value}{src:Value}{news:List Value}{w:World}(f:P.underlying t=some (.slice e))(hz:∀w,(sizeOf e).run P w= .ok sz w)
  (hm:(Builtin.lenOf src).run P w= .ok m w)(hk:Nat.min m d=k)(hc:(Builtin.firstCells sz k src).run P w= .ok news.toArray w)(hg:w.heap[g]? =some (.cells cur et (0,0)))(a:off+news.length<=cur.size)(b:∀u∈news,u.oneCell'=true):
  (Builtin.copy_ #[t,t'] ty #[.slice (some ⟨g,off,none⟩) d dc,src]).run P w= .ok (iv k) (w.setRow g (dF cur off news)):=by
 have c:=run_storeCells_at P g off et news 0 cur w hg (by simpa using a) b;simp only[bb]at c;simp[Builtin.copy_,run_underlying f,hz,hm,hk,hc,c,goInt,iv,dF]
theorem NO{t t2 e:TypeId}{i:TypeInfo}{z:Value}{zs:List Value}{U W:Operand}{a:Act}{w:World}{sz g off n m b:Nat}{cs:List Value}
  (ht:P.underlying t=some (.slice e))(O:P.underlying t2=some (.int .i64))(hi:∀w,(typeInfo e).run P w= .ok i w)(N:i.size=sz)(hz:i.zero=some z)(S:z.cells=zs.toArray)(R:zs.length=sz)(T:0<sz)
  (ho:o.op= .call {callee:= .builtin .append,args:= #[U,W],argTypes:= #[t,t2]})(hs:a.eval U= .slice (some ⟨g,off,none⟩) n b)(hy:a.eval W=iv m)(D:b<n+m)(hm:0<m)
  (k:cs.length=n*sz)(E:∀j v,cs[j]? =some v->NB.cell w.heap g (off+j)=some v)(h:(n+m)*i.bytes<=140737488355328)(I:n+m<=9223372036854775807):
  ∃f cur w',(execOp a.eval o).run P w= .ok (.value (.slice (some ⟨w.heap.size,0,none⟩) (n+m) (f+1))) w'/\bA w w'/\w'.heap=w.heap.push (.cells cur e (0,0))/\n+m<=f+1/\f+1<=maxLen/\(f+1)*sz<=cur.size/\cur.toList.take (n*sz)=cs:=by
 have K:n+m<=maxLen:=I;have Z:=grownCap_ge w (n+m) b e;have Y:grownCap w (n+m) b e<=maxLen:=grownCap_le_maxLen w (n+m) b e K;have F:=growslice_fits D h;have c:∀w,(sizeOf e).run P w= .ok sz w:=λw=>by simp[sizeOf,hi,N]
 have p:∀w,(zeroValue e).run P w= .ok z w:=λw=>by simp[zeroValue,hi,hz]
 have x:∀w':World,w'.heap=w.heap->(Builtin.firstCells sz n (.slice (some ⟨g,off,none⟩) n b)).run P w'= .ok cs.toArray w':=λw' Q=>
  run_firstCells_some w' sz n ⟨g,off,none⟩ _ b cs k (λj v hj=>by rw[Addr.add_lit,dG Q];exact E j v hj)
 obtain⟨f,q⟩:∃f,grownCap w (n+m) b e=f+1:=⟨grownCap w (n+m) b e-1,by omega⟩;refine⟨f,cs.toArray++Builtin.zeroCells z.cells m++Builtin.zeroCells z.cells (grownCap w (n+m) b e-(n+m)),w.drew.alloc (.cells (cs.toArray++Builtin.zeroCells z.cells m++Builtin.zeroCells z.cells (grownCap w (n+m) b e-(n+m))) e),?_,bA.of rfl rfl rfl,rfl,by omega,by omega,?_,?_⟩
 ·have h1:=x w.drew rfl;have u:¬n+m<=b:=by omega
  have r:¬((9223372036854775807:Int)<(n:Int)+(m:Int)):=by omega
  have M:¬281474976710656<Builtin.nextslicecap (n+m) b*i.bytes:=by omega
  have l:IntKind.i64.wrap (m:Int)=m:=IntWalk.i64_in _ ⟨by omega,by omega⟩;have s:¬(m:Int)<0:=by omega
  have ac:m*i.bytes<=140737488355328:=Nat.le_trans (a1 _ (Nat.le_add_left _ _)) h
  have d:¬(281474976710656:Int)<(m:Int)*(i.bytes:Int):=by
   have:((m*i.bytes:Nat):Int)=(m:Int)*(i.bytes:Int):=by simp
   omega
  have H:¬(m=0\/sz=0):=by omega
  unfold execOp;rw[ho];simp[iv,resolve,invoke,builtin,hs,hy,Builtin.append_,run_underlying ht,run_underlying O,c,Go.asInt,Go.asIntOf,l,s,d,u,hi,r,M,p,newRow,H];have y:Question.forced (.appendCap (n+m) b e)=false:=rfl;simp[y];rw[h1];have J:¬m*sz=0:=Nat.mul_ne_zero (by omega) (by omega);simp;rw[if_neg J,<-q];rfl
 ·simp only[Array.size_append,a4,size_zeroCells,S,R,k,<-Nat.add_mul];rw[<-q];refine a1 _ (by omega)
 ·simp only[Array.toList_append,al];rw[<-k];exact List.take_left
variable {H:ae} {Q:Exit->Act->World->Prop} {ops:Array Oper} {rest:List Oper} {d:Nat}
theorem WL.zg{t e:TypeId}{i:TypeInfo}{z v x:Value}{D E:Operand}{size n m:Nat}{cs news:List Value}(y:c.P.underlying t=some (.slice e))(hi:∀w,(typeInfo e).run c.P w= .ok i w)(q:i.size=size)(hz:i.zero=some z)(r:z.cells.size=size)
  (hg:o.guard= .none)(hd:o.dst=some d)(k:a6 d c.n=true)(ho:o.op= .call {callee:= .builtin .append,args:= #[D,E],argTypes:= #[t,t]})(I:Ev env D v)(hy:Ev env E x)(hr:cj H size v n cs)(j:Src c.P H size x m news)(g:∀u∈news,u.oneCell'=true)
  (p:news.length=m*size)(f:(n+m)*i.bytes<=140737488355328)(l:n+m<=9223372036854775807)
  (K:∀v' H',cj H' size v' (n+m) (cs++news)->au (bd v) H H'->(∀b∈bd v',b∈bd v\/H.size<=b)->WL c ops rest ((d,true,v')::env) H' Q):WL c ops (o::rest) env H Q:=by
 refine WL.oF (Φ:=λv' H'=>cj H' size v' (n+m) (cs++news)/\au (bd v) H H'/\(∀b∈bd v',b∈bd v\/H.size<=b)) hg hd k (λa w s F=>?_) (λv' H' h=>K v' H' h.1 h.2.1 h.2.2);subst F;obtain⟨v',w',r1,r2,r3,J,M,_⟩:=El (P:=c.P) ho y y (λ_ h=>by cases h) hi q hz r (s.eval I) (s.eval hy) hr j g p f l;exact⟨v',w',r1,⟨r3,J,M⟩,r2⟩
theorem WL.ew{t t' e et:TypeId}{x y:Operand}{sz g off p dc m k g2 o2 i:Nat}{cur:Array Value}{news:List Value}(r:c.P.underlying t=some (.slice e))(hz:∀w,(sizeOf e).run c.P w= .ok sz w)
  (hg:o.guard= .none)(hd:o.dst=some d)(l:a6 d c.n=true)(ho:o.op= .call {callee:= .builtin .copy,args:= #[x,y],argTypes:= #[t,t']})
  (z:Ev env x (.slice (some ⟨g,off,none⟩) p dc))(hy:Ev env y (.slice (some ⟨g2,o2,none⟩) m i))(hk:Nat.min m p=k)(n:news.length=k*sz)(hc:∀j v,news[j]? =some v->NB.cell H g2 (o2+j)=some v)
  (f:H[g]? =some (.cells cur et (0,0)))(b:off+news.length<=cur.size)(h:∀u∈news,u.oneCell'=true)
  (K:∀H',H'[g]? =some (.cells (dF cur off news) et (0,0))->au [g] H H'->WL c ops rest ((d,true,iv k)::env) H' Q):WL c ops (o::rest) env H Q:=by
 refine WL.oF (Φ:=λv H'=>v=iv k/\H'[g]? =some (.cells (dF cur off news) et (0,0))/\au [g] H H') hg hd l (λa w q s=>?_) (λv H' ⟨hv,h1,h2⟩=>by subst hv;exact K H' h1 h2);subst s;refine⟨iv k,w.setRow g (dF cur off news),?_,⟨rfl,setRow_heap w g cur _ et _ f,mz w g _⟩,bA.of rfl rfl rfl⟩
 have hr:=NQ (P:=c.P) (t':=t') (ty:=o.type) (dc:=dc) (k:=k) (src:= .slice (some ⟨g2,o2,none⟩) m i) r hz (by simp[Builtin.lenOf]) hk
  (run_firstCells_some w sz k ⟨g2,o2,none⟩ m i news n (λj v hj=>by rw[Addr.add_lit,dG rfl];exact hc j v hj)) f b h
 unfold execOp;rw[ho];simp[resolve,invoke,builtin,q.eval z,q.eval hy,hr]
theorem WL.zi{t t2 e:TypeId}{i:TypeInfo}{z:Value}{zs:List Value}{M N:Operand}{sz g off n m I:Nat}{cs:List Value}{q:Int}
  (P:c.P.underlying t=some (.slice e))(D:c.P.underlying t2=some (.int .i64))(hi:∀w,(typeInfo e).run c.P w= .ok i w)(y:i.size=sz)(hz:i.zero=some z)(F:z.cells=zs.toArray)(E:zs.length=sz)(h:0<sz)
  (hg:o.guard= .none)(hd:o.dst=some d)(u:a6 d c.n=true)(ho:o.op= .call {callee:= .builtin .append,args:= #[M,N],argTypes:= #[t,t2]})(S:Ev env M (.slice (some ⟨g,off,none⟩) n I))(hy:Ev env N (iv q))(hq:q=(m:Int))(r:I<n+m)(hm:0<m)
  (p:cs.length=n*sz)(s:∀j v,cs[j]? =some v->NB.cell H g (off+j)=some v)(f:(n+m)*i.bytes<=140737488355328)(x:n+m<=9223372036854775807)
  (K:∀b cur,n+m<=b+1->b+1<=maxLen->(b+1)*sz<=cur.size->cur.toList.take (n*sz)=cs->WL c ops rest ((d,true,.slice (some ⟨H.size,0,none⟩) (n+m) (b+1))::env) (H.push (.cells cur e (0,0))) Q):WL c ops (o::rest) env H Q:=by
 subst hq
 refine WL.oF (Φ:=λv H'=>∃b cur,v= .slice (some ⟨H.size,0,none⟩) (n+m) (b+1)/\H'=H.push (.cells cur e (0,0))/\n+m<=b+1/\b+1<=maxLen/\(b+1)*sz<=cur.size/\cur.toList.take (n*sz)=cs) hg hd u (λa w J R=>?_)
  (λv H' ⟨b,cur,hv,O,h1,h2,k,l⟩=>by subst hv O;exact K b cur h1 h2 k l)
 subst R;obtain⟨b,cur,w',h1,h2,k,l⟩:=NO (w:=w) P D hi y hz F E h ho (J.eval S) (J.eval hy) r hm p s f x;exact⟨_,w',h1,⟨b,cur,rfl,k,l⟩,h2⟩
theorem WL.zh{t e et:TypeId}{x y:Operand}{sz g off n m l g2 o2 b:Nat}{cur:Array Value}{news:List Value}
  (z:c.P.underlying t=some (.slice e))(hz:∀w,(sizeOf e).run c.P w= .ok sz w)(hg:o.guard= .none)(hd:o.dst=some d)(q:a6 d c.n=true)(ho:o.op= .call {callee:= .builtin .append,args:= #[x,y],argTypes:= #[t,t]})
  (E:Ev env x (.slice (some ⟨g,off,none⟩) n l))(hy:Ev env y (.slice (some ⟨g2,o2,none⟩) m b))(p:n+m<=l)(r:news.length=m*sz)(hc:∀j v,news[j]? =some v->NB.cell H g2 (o2+j)=some v)
  (h:H[g]? =some (.cells cur et (0,0)))(f:off+n*sz+news.length<=cur.size)(i:∀u∈news,u.oneCell'=true)
  (K:∀H',H'[g]? =some (.cells (dF cur (off+n*sz) news) et (0,0))->au [g] H H'->WL c ops rest ((d,true,.slice (some ⟨g,off,none⟩) (n+m) l)::env) H' Q):WL c ops (o::rest) env H Q:=by
 refine WL.oF (Φ:=λv H'=>v= .slice (some ⟨g,off,none⟩) (n+m) l/\H'[g]? =some (.cells (dF cur (off+n*sz) news) et (0,0))/\au [g] H H') hg hd q (λa w s D=>?_) (λv H' ⟨hv,h1,h2⟩=>by subst hv;exact K H' h1 h2);subst D;refine⟨_,w.setRow g (dF cur (off+n*sz) news),?_,⟨rfl,setRow_heap w g cur _ et _ h,mz w g _⟩,bA.of rfl rfl rfl⟩;have k:=run_storeCells_at c.P g (off+n*sz) et news 0 cur w h (by simpa using f) i;simp only[bb]at k;have h1:=run_firstCells_some (P:=c.P) w sz m ⟨g2,o2,none⟩ m b news r (λj v hj=>by rw[Addr.add_lit,dG rfl];exact hc j v hj);unfold execOp;rw[ho];simp[resolve,invoke,builtin,s.eval E,s.eval hy,Builtin.append_,run_underlying z,hz,Builtin.lenOf,p,h1,Addr.add_lit,k,dF]
theorem WL.Aq{t e et:TypeId}{x:Operand}{z:Value}{zs:List Value}{sz g off n l:Nat}{cur:Array Value}(q:c.P.underlying t=some (.slice e))(hz:∀w,(zeroValue e).run c.P w= .ok z w)(j:z.cells=zs.toArray)(i:zs.length=sz)(h:0<sz)(f:∀u∈zs,u.oneCell'=true)
  (hg:o.guard= .none)(hd:o.dst= .none)(ho:o.op= .call {callee:= .builtin .clear,args:= #[x],argTypes:= #[t]})(s:Ev env x (.slice (some ⟨g,off,none⟩) n l))(hn:0<n)(d:H[g]? =some (.cells cur et (0,0)))(b:off+n*sz<=cur.size)
  (K:∀H' news,news.length=n*sz->H'[g]? =some (.cells (dF cur off news) et (0,0))->au [g] H H'->WL c ops rest env H' Q):WL c ops (o::rest) env H Q:=by
 intro a w k r m;subst r;have hl:(a0 n zs).flatten.length=n*sz:=by simp[i]
 have hr:=Eo (P:=c.P) (w:=w) ho (k.eval s) hn q hz j i h f d b;refine wpList_plain hg λv p=>?_;unfold Oper.wp;rw[hr];simp only[Oper.upon,hd];refine p _ _ (K _ (a0 n zs).flatten hl ?_ (mz w g _) _ _ (show Fr c env (a.put none (.tuple #[]))from k) rfl (m.trans (bA.of rfl rfl rfl)));have:=setRow_heap w g cur (cur.toList.take off++(a0 n zs).flatten++cur.toList.drop (off+n*sz)).toArray et _ d;rw[this];unfold dF;rw[hl]
end
theorem cg.qa{P:Program}{f:FuncId}{args:Array Value}{H:ae}{R:Value->ae->Prop}(h:cg P f args H R):oU false P f args H λok v H'=>ok=true/\R v H':=by
 intro w g;have:=h w g;unfold oW at this;unfold qi;split at this
 ·rename_i a;rw[a];exact⟨this.1,rfl,this.2⟩
 ·rename_i a;rw[a];exact⟨this.1,this.2.mono λe i ⟨v,b,c,d⟩=>.inl ⟨v,b,⟨rfl,c⟩,.of d⟩⟩
 ·exact this.elim
theorem cj.ptr{H:ae}{sz n k cap:Nat}{p q:Option Addr}{cs:List Value}(h:cj H sz (.slice p k cap) n cs)(hq:cap≠0->q=p):cj H sz (.slice q k cap) n cs/\bd (.slice q k cap)=bd (.slice p k cap):=by
 by_cases e:cap=0
 ·subst e;refine⟨⟨h.1,?_⟩,by cases p<;>cases q<;>rfl⟩;rcases h.2 with⟨i,e,c⟩|⟨g,d,a,b,f,e,_⟩
  ·cases e;exact .inl ⟨q,rfl,c⟩
  ·simp at e
 ·rw[hq e];exact⟨h,rfl⟩
theorem cj.val{H:ae}{sz n:Nat}{v:Value}{cs:List Value}(h:cj H sz v n cs):∃p cap,v= .slice p n cap:=by
 rcases h.2 with⟨p,rfl,rfl⟩|⟨g,b,cap,a,e,rfl,_⟩
 ·exact⟨p,0,rfl⟩
 ·exact⟨_,_,rfl⟩
theorem ve{E:En}{F:Nat->Prop}{γ:List Value}{ah:List B}{H:ae}{j sz:Nat}{α:Type}{enc:α->List C}{l:List α}{v:Value}(h:WR E F γ ah H)(hj:ah[j]? =some (.row sz α enc l))(hv:RL F H ⟨E.B,γ⟩ [.rw j] [v]):
  ∃g cs,γ[j]? =some g/\cj H sz v l.length cs/\RL F H m0 (l.flatMap enc) cs/\(∀x∈l,(enc x).length=sz)/\bd v=aC (.row sz α enc l) g:=by
 cases hv with
 | @rw _ _ p q n cap _ _ a i _=>
  obtain⟨cs,b,c,d⟩:=rG (h.br j _ _ hj a);obtain⟨e,f⟩:=b.ptr i;exact⟨_,cs,a,e,c,d,f.trans (nK _).symm⟩
def FA(P:Program)(f:FuncId)(sz:Nat):Prop:=
 ∀{H:ae} {a e:Value} {n i:Nat} {c d:List Value},cj H sz a n c->cj H sz e 1 d->(∀b∈bd a,b∉bd e)->i<=n->n<=1000000->(∀u∈c,u.oneCell'=true)->(∀u∈d,u.oneCell'=true)->
  cg P f #[a,iv i,e] H λv H'=>cj H' sz v (n+1) (c.take (i*sz)++d++c.drop (i*sz))/\au (bd a) H H'/\∀b∈bd v,b∈bd a\/H.size<=b
def Fy(P:Program)(f:FuncId)(sz:Nat):Prop:=
 ∀{H:ae} {c:Value} {n i:Nat} {a:List Value},cj H sz c n a->i<n->n<=1000000->(∀u∈a,u.oneCell'=true)->
  cg P f #[c,iv i,iv (i+1:Nat)] H λv H'=>cj H' sz v (n-1) (a.take (i*sz)++a.drop ((i+1)*sz))/\au (bd c) H H'/\∀b∈bd v,b∈bd c\/H.size<=b
theorem aa.Dl{P:Program}{f:FuncId}{sz:Nat}(j:FA P f sz){α:Type}{enc:α->List C}(l:List α)(x:α)(i:Nat)(hi:i<=l.length)(hn:l.length<=1000000):
  aa P f [.c (.rw 0),.c (.int .i64 i),.c (.rw 1)] [.row sz α enc l,.row sz α enc [x]] (Rt (.c (.rw 2)) [.dead,.row sz α enc [x],.row sz α enc (l.take i++x::l.drop i)]):=by
 intro F L γ H vs d a;match vs,d with
 |[v0,vi,v1],⟨t,w,u,_⟩=>
  obtain⟨Q,J,g,U,E,k,M⟩:=ve a rfl t;obtain⟨g1,Z,o,Y,K,z1,o1⟩:=ve a rfl u;cases w with
  |int _=>
   refine(cg.qa (j U Y (by rw[M,o1];exactλb hb=>a.disj 0 1 _ _ _ _ (by decide) rfl g rfl o b hb) hi hn E.one K.one)).mono λok v H' ⟨r,N,I,O⟩=>?_;subst r;rw[M]at I O;have ex:=a.ext (γ':=[]) (W:=aC (.row sz α enc l) Q) (λq S=>a.nf 0 _ _ q rfl g S) I;have R:(l.take i++x::l.drop i).length=l.length+1:=by simp;omega
   have s:RL F H m0 ((l.take i++x::l.drop i).flatMap enc) (J.take (i*sz)++Z++J.drop (i*sz)):=by
    have e:(l.take i++x::l.drop i).flatMap enc=(l.flatMap enc).take (i*sz)++[x].flatMap enc++(l.flatMap enc).drop (i*sz):=by
     rw[ph i k,oe i k];simp
    rw[e];exact((E.take _).append K).append (E.drop _)
   have z:∀y∈l.take i++x::l.drop i,(enc y).length=sz:=λy T=>by
    rcases a5.1 T with h|h
    ·exact k y (a2 h)
    ·rcases List.mem_cons.1 h with rfl|h
     ·exact z1 _ (by simp)
     ·exact k y (a3 h)
   have n:BR F H' ⟨L,γ++[v]⟩ (.row sz α enc (l.take i++x::l.drop i)) v:=s8 N R.symm (s.ext ex.m0) z;have m:=a.move (b2:= .row sz α enc (l.take i++x::l.drop i)) (g2:=v) rfl g I (by rw[nK];exact O) n;obtain⟨p,cap,rfl⟩:=N.val;have D:γ.length=2:=a.len;refine⟨.ret (.c (.rw 2)),_,F,γ++[.slice p (l.length+1) cap],⟨rfl,rfl⟩,rfl,rfl,rfl,?_,m⟩;exact .rw (by show(γ++[_])[2]? =_;rw[<-D];simp) (λ_=>rfl) .nl
theorem aa.Dk{P:Program}{f:FuncId}{sz:Nat}(e:Fy P f sz){α:Type}{enc:α->List C}(l:List α)(i:Nat)(hi:i<l.length)(hn:l.length<=1000000):
  aa P f [.c (.rw 0),.c (.int .i64 i),.c (.int .i64 (i+1:Nat))] [.row sz α enc l] (Rt (.c (.rw 1)) [.dead,.row sz α enc (l.take i++l.drop (i+1))]):=by
 intro F L γ H Q a b;match Q,a with
 |[R,S,T],⟨o,r,s,_⟩=>
  obtain⟨I,z,d,O,w,g,N⟩:=ve b rfl o;cases r with
  |int _=>
  cases s with
  |int _=>
   refine(cg.qa (e O hi hn w.one)).mono λok v H' ⟨m,D,x,E⟩=>?_;subst m;rw[N]at x E;have ex:=b.ext (γ':=[]) (W:=aC (.row sz α enc l) I) (λq K=>b.nf 0 _ _ q rfl d K) x;have J:(l.take i++l.drop (i+1)).length=l.length-1:=by simp;omega
   have n:RL F H m0 ((l.take i++l.drop (i+1)).flatMap enc) (z.take (i*sz)++z.drop ((i+1)*sz)):=by
    rw[List.flatMap_append,<-ph i g,<-oe (i+1) g];exact(w.take _).append (w.drop _)
   have t:∀y∈l.take i++l.drop (i+1),(enc y).length=sz:=λy M=>by
    rcases a5.1 M with h|h
    ·exact g y (a2 h)
    ·exact g y (a3 h)
   have k:BR F H' ⟨L,γ++[v]⟩ (.row sz α enc (l.take i++l.drop (i+1))) v:=s8 D J.symm (n.ext ex.m0) t;have j:=b.move (b2:= .row sz α enc (l.take i++l.drop (i+1))) (g2:=v) rfl d x (by rw[nK];exact E) k;obtain⟨p,cap,rfl⟩:=D.val;have u:γ.length=1:=b.len;refine⟨.ret (.c (.rw 1)),_,F,γ++[.slice p (l.length-1) cap],⟨rfl,rfl⟩,rfl,rfl,rfl,?_,j⟩;exact .rw (by show(γ++[_])[1]? =_;rw[<-u];simp) (λ_=>rfl) .nl
end Go.AM
