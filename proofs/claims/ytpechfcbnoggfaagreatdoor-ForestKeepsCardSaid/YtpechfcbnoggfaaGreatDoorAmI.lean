/- part -/
import Derived.Test.YtpechfcbnoggfaaGreatDoorAmH
import Derived.Lib.Overlaps
import Derived.Laws.Externs
set_option linter.unusedVariables false
set_option linter.unusedSimpArgs false
namespace Go.AM
open Go Go.NB
section
variable {P:Program} {c:Cx} {o:Oper} {env:Env} {S:ab→Prop}
theorem Ic{t e:TypeId}{sz:Nat}(a:P.underlying t=some (.slice e))(hz:∀w,(sizeOf e).run P w= .ok sz w)(p:Option Addr)(n cap lo:Nat)(h1:lo≤n)(w:World):
  (Instr.sliceAt t (.slice p n cap) (some (iv (lo:Nat))) none none).run P w= .ok (.slice (if cap=lo then p else p.map (·.add (lo*sz))) (n-lo) (cap-lo)) w:=by
 simp[Instr.sliceAt,Instr.slice,run_underlying a,Instr.sliceBounds,Instr.sliceBound,asIntOf,iv,hz,h1]
theorem Ib{t e:TypeId}{sz:Nat}(a:P.underlying t=some (.slice e))(hz:∀w,(sizeOf e).run P w= .ok sz w)(g off n cap hi:Nat)(h1:hi≤cap)(w:World):
  (Instr.sliceAt t (.slice (some ⟨g,off,none⟩) n cap) none (some (iv (hi:Nat))) none).run P w= .ok (.slice (some ⟨g,off,none⟩) hi cap) w:=by
 simp[Instr.sliceAt,Instr.slice,run_underlying a,Instr.sliceBounds,Instr.sliceBound,asIntOf,iv,hz,h1,Addr.add_lit]
theorem Ia{t e:TypeId}{sz:Nat}(a:P.underlying t=some (.slice e))(hz:∀w,(sizeOf e).run P w= .ok sz w)(p:Option Addr)(n cap lo hi:Nat)(h1:lo≤hi)(h2:hi≤cap)(w:World):
  (Instr.sliceAt t (.slice p n cap) (some (iv (lo:Nat))) (some (iv (hi:Nat))) none).run P w= .ok (.slice (if cap=lo then p else p.map (·.add (lo*sz))) (hi-lo) (cap-lo)) w:=by
 simp[Instr.sliceAt,Instr.slice,run_underlying a,Instr.sliceBounds,Instr.sliceBound,asIntOf,iv,hz,h1,h2]
theorem Ie{t e:TypeId}{sz:Nat}(b:P.underlying t=some (.slice e))(hz:∀w,(sizeOf e).run P w= .ok sz w)(p:Option Addr)(n cap lo hi mx:Nat)(h1:lo≤hi)(h2:hi≤mx)(a:mx≤cap)(w:World):
  (Instr.sliceAt t (.slice p n cap) (some (iv (lo:Nat))) (some (iv (hi:Nat))) (some (iv (mx:Nat)))).run P w= .ok (.slice (if mx=lo then p else p.map (·.add (lo*sz))) (hi-lo) (mx-lo)) w:=by
 simp[Instr.sliceAt,Instr.slice,run_underlying b,Instr.sliceBounds,Instr.sliceBound,asIntOf,iv,hz,h1,h2,a]
theorem V.pJ{t e:TypeId}{sz:Nat}{x y:Operand}{p:Option Addr}{n cap lo:Nat}{k:Int}(d:c.P.underlying t=some (.slice e))(hz:∀w,(sizeOf e).run c.P w= .ok sz w)(ho:o.op= .slice t x (some y) none none)
  (f:Ev env x (.slice p n cap))(hy:Ev env y (iv k))(hk:k=(lo:Int))(h1:lo≤n):bB c o env S (.slice (if cap=lo then p else p.map (·.add (lo*sz))) (n-lo) (cap-lo)):=by
 subst hk;exact V.slice (lv:=some (iv lo)) (hv:=none) (mv:=none) ho f (fun a b=>by simp[b.eval hy]) (fun _ _=>rfl) (fun _ _=>rfl) (fun w=>Ic d hz p n cap lo h1 w)
theorem V.n9{t e:TypeId}{sz:Nat}{x y:Operand}{g off n cap hi:Nat}{k:Int}(d:c.P.underlying t=some (.slice e))(hz:∀w,(sizeOf e).run c.P w= .ok sz w)(ho:o.op= .slice t x none (some y) none)
  (f:Ev env x (.slice (some ⟨g,off,none⟩) n cap))(hy:Ev env y (iv k))(hk:k=(hi:Int))(h1:hi≤cap):bB c o env S (.slice (some ⟨g,off,none⟩) hi cap):=by
 subst hk;exact V.slice (lv:=none) (hv:=some (iv hi)) (mv:=none) ho f (fun _ _=>rfl) (fun a b=>by simp[b.eval hy]) (fun _ _=>rfl) (fun w=>Ib d hz g off n cap hi h1 w)
theorem V.Iw{t e:TypeId}{sz:Nat}{x y z:Operand}{p:Option Addr}{n cap lo hi:Nat}{k m:Int}(f:c.P.underlying t=some (.slice e))(hz:∀w,(sizeOf e).run c.P w= .ok sz w)(ho:o.op= .slice t x (some y) (some z) none)
  (g:Ev env x (.slice p n cap))(hy:Ev env y (iv k))(d:Ev env z (iv m))(hk:k=(lo:Int))(hm:m=(hi:Int))(h1:lo≤hi)(h2:hi≤cap):bB c o env S (.slice (if cap=lo then p else p.map (·.add (lo*sz))) (hi-lo) (cap-lo)):=by
 subst hk hm;exact V.slice (lv:=some (iv lo)) (hv:=some (iv hi)) (mv:=none) ho g (fun a b=>by simp[b.eval hy]) (fun a b=>by simp[b.eval d]) (fun _ _=>rfl) (fun w=>Ia f hz p n cap lo hi h1 h2 w)
theorem V.Bd{t e:TypeId}{sz:Nat}{x y z u:Operand}{p:Option Addr}{n cap lo hi mx:Nat}{k m q:Int}(h:c.P.underlying t=some (.slice e))(hz:∀w,(sizeOf e).run c.P w= .ok sz w)(ho:o.op= .slice t x (some y) (some z) (some u))
  (i:Ev env x (.slice p n cap))(hy:Ev env y (iv k))(d:Ev env z (iv m))(f:Ev env u (iv q))(hk:k=(lo:Int))(hm:m=(hi:Int))(hq:q=(mx:Int))(h1:lo≤hi)(h2:hi≤mx)(g:mx≤cap):
  bB c o env S (.slice (if mx=lo then p else p.map (·.add (lo*sz))) (hi-lo) (mx-lo)):=by
 subst hk hm hq;exact V.slice (lv:=some (iv lo)) (hv:=some (iv hi)) (mv:=some (iv mx)) ho i (fun a b=>by simp[b.eval hy]) (fun a b=>by simp[b.eval d]) (fun a b=>by simp[b.eval f]) (fun w=>Ie h hz p n cap lo hi mx h1 h2 g w)
theorem V.gJ{t e:TypeId}{sz:Nat}{x y:Operand}{g off n cap lo:Nat}{k:Int}(a:c.P.underlying t=some (.slice e))(hz:∀w,(sizeOf e).run c.P w= .ok sz w)(ho:o.op= .slice t x (some y) none none)
  (b:Ev env x (.slice (some ⟨g,off,none⟩) n cap))(hy:Ev env y (iv k))(hk:k=(lo:Int))(h1:lo≤n)(h2:lo<cap):bB c o env S (.slice (some ⟨g,off+lo*sz,none⟩) (n-lo) (cap-lo)):=by
 have:=V.pJ (S:=S) a hz ho b hy hk h1;rw[if_neg (by omega)]at this;simpa[Addr.add_lit]using this
theorem V.Bc{t e:TypeId}{sz:Nat}{x y z:Operand}{g off n cap lo hi:Nat}{k m:Int}(b:c.P.underlying t=some (.slice e))(hz:∀w,(sizeOf e).run c.P w= .ok sz w)(ho:o.op= .slice t x (some y) (some z) none)
  (d:Ev env x (.slice (some ⟨g,off,none⟩) n cap))(hy:Ev env y (iv k))(a:Ev env z (iv m))(hk:k=(lo:Int))(hm:m=(hi:Int))(h1:lo≤hi)(h2:hi≤cap)(f:lo<cap):bB c o env S (.slice (some ⟨g,off+lo*sz,none⟩) (hi-lo) (cap-lo)):=by
 have:=V.Iw (S:=S) b hz ho d hy a hk hm h1 h2;rw[if_neg (by omega)]at this;simpa[Addr.add_lit]using this
theorem V.cap{x:Operand}{t e:TypeId}{p:Option Addr}{n m:Nat}(d:c.P.underlying t=some (.slice e))(ho:o.op= .call {callee:= .builtin .cap,args:= #[x],argTypes:= #[t]})
  (f:Ev env x (.slice p n m)):bB c o env S (iv m):=fun a w b _ _=>by
 unfold execOp;rw[ho];simp[resolve,invoke,builtin,b.eval f,Builtin.cap_,run_underlying d,goInt,iv]
theorem V.jY{x:Operand}{t e:TypeId}{p:Option Addr}{n m:Nat}(a:c.P.underlying t=some (.slice e))(ho:o.op= .call {callee:= .builtin .len,args:= #[x],argTypes:= #[t]})
  (b:Ev env x (.slice p n m)):bB c o env S (iv n):=V.rb ho a b
def da(cur:Array Value)(a:Nat)(news:List Value):Array Value:=(cur.toList.take a++news++cur.toList.drop (a+news.length)).toArray
theorem fS{cur:Array Value}{k:Nat}{news:List Value}(h:k+news.length≤cur.size):(da cur k news).size=cur.size:=by
 unfold da;simp only[List.size_toArray,List.length_append,List.length_take,List.length_drop,Array.length_toList];omega
theorem rO{cur:Array Value}{off:Nat}{a us b:List Value}(h:(cur.toList.drop off).take a.length=a)(c:off+(a.length+us.length+b.length)≤cur.size):
  ((da (da cur (off+a.length) us) (off+(a.length+us.length)) b).toList.drop off).take (a.length+us.length+b.length)=a++us++b:=by
 have g:cur.toList.take (off+a.length)=cur.toList.take off++a:=by rw[List.take_add,h]
 have d:(cur.toList.take off).length=off:=by rw[List.length_take,Array.length_toList];omega
 unfold da;rw[g];have e:(cur.toList.take off++a++us++cur.toList.drop (off+a.length+us.length)).take (off+(a.length+us.length))=cur.toList.take off++a++us:=List.take_left' (by rw[List.length_append,List.length_append,d,Nat.add_assoc]);have f:∀Z,cur.toList.take off++a++us++b++Z=cur.toList.take off++(a++us++b++Z):=fun Z=>by simp[List.append_assoc]
 rw[e,f,List.drop_left' d];exact List.take_left' (by rw[List.length_append,List.length_append])
theorem Ax{cur:Array Value}{off:Nat}{a us b:List Value}(h:(cur.toList.drop off).take a.length=a)(c:off+(a.length+us.length+b.length)≤cur.size):
  ((da (da cur (off+(a.length+us.length)) b) (off+a.length) us).toList.drop off).take (a.length+us.length+b.length)=a++us++b:=by
 have g:cur.toList.take (off+a.length)=cur.toList.take off++a:=by rw[List.take_add,h]
 have i:(cur.toList.take off).length=off:=by rw[List.length_take,Array.length_toList];omega
 have j:(cur.toList.take (off+(a.length+us.length))).length=off+(a.length+us.length):=by rw[List.length_take];have:=cur.length_toList;omega
 unfold da
 have d:(cur.toList.take (off+(a.length+us.length))++b++cur.toList.drop (off+(a.length+us.length)+b.length)).take (off+a.length)=cur.toList.take off++a:=by
  rw[List.append_assoc,List.take_append_of_le_length (by omega),List.take_take,Nat.min_eq_left (by omega),g]
 have e:(cur.toList.take (off+(a.length+us.length))++b++cur.toList.drop (off+(a.length+us.length)+b.length)).drop (off+a.length+us.length)=b++cur.toList.drop (off+(a.length+us.length)+b.length):=by
  rw[List.append_assoc,List.drop_left' (by omega)]
 have f:cur.toList.take off++a++us++(b++cur.toList.drop (off+(a.length+us.length)+b.length))=cur.toList.take off++(a++us++b++cur.toList.drop (off+(a.length+us.length)+b.length)):=by simp[List.append_assoc]
 rw[d,e,f,List.drop_left' i];exact List.take_left' (by rw[List.length_append,List.length_append])
theorem H8{t t' ty e et:TypeId}{sz g off d dc m k:Nat}{cur:Array Value}{src:Value}{news:List Value}{w:World}(f:P.underlying t=some (.slice e))(hz:∀w,(sizeOf e).run P w= .ok sz w)
  (hm:(Builtin.lenOf src).run P w= .ok m w)(hk:Nat.min m d=k)(hc:(Builtin.firstCells sz k src).run P w= .ok news.toArray w)(hg:w.heap[g]? =some (.cells cur et (0,0)))(a:off+news.length≤cur.size)(b:∀u∈news,u.oneCell'=true):
  (Builtin.copy_ #[t,t'] ty #[.slice (some ⟨g,off,none⟩) d dc,src]).run P w= .ok (iv k) (w.setRow g (da cur off news)):=by
 have c:=run_storeCells_at P g off et news 0 cur w hg (by simpa using a) b;simp only[Nat.add_zero]at c;simp[Builtin.copy_,run_underlying f,hz,hm,hk,hc,c,goInt,iv,da]
theorem H6{t Y e:TypeId}{i:TypeInfo}{z:Value}{zs:List Value}{U W:Operand}{a:Act}{w:World}{sz g off n m b:Nat}{cs:List Value}
  (ht:P.underlying t=some (.slice e))(O:P.underlying Y=some (.int .i64))(hi:∀w,(typeInfo e).run P w= .ok i w)(N:i.size=sz)(hz:i.zero=some z)(S:z.cells=zs.toArray)(R:zs.length=sz)(T:0<sz)
  (ho:o.op= .call {callee:= .builtin .append,args:= #[U,W],argTypes:= #[t,Y]})(hs:a.eval U= .slice (some ⟨g,off,none⟩) n b)(hy:a.eval W=iv m)(D:b<n+m)(hm:0<m)
  (k:cs.length=n*sz)(E:∀j v,cs[j]? =some v→NB.cell w.heap g (off+j)=some v)(h:(n+m)*i.bytes≤140737488355328)(I:n+m≤9223372036854775807):
  ∃f cur w',(execOp a.eval o).run P w= .ok (.value (.slice (some ⟨w.heap.size,0,none⟩) (n+m) (f+1))) w'∧bh w w'∧w'.heap=w.heap.push (.cells cur e (0,0))∧n+m≤f+1∧f+1≤maxLen∧(f+1)*sz≤cur.size∧cur.toList.take (n*sz)=cs:=by
 have K:n+m≤maxLen:=I;have ac:=grownCap_ge w (n+m) b e;have Z:grownCap w (n+m) b e≤maxLen:=grownCap_le_maxLen w (n+m) b e K;have F:=growslice_fits D h;have c:∀w,(sizeOf e).run P w= .ok sz w:=fun w=>by simp[sizeOf,hi,N]
 have p:∀w,(zeroValue e).run P w= .ok z w:=fun w=>by simp[zeroValue,hi,hz]
 have x:∀w':World,w'.heap=w.heap→(Builtin.firstCells sz n (.slice (some ⟨g,off,none⟩) n b)).run P w'= .ok cs.toArray w':=fun w' Q=>
  run_firstCells_some w' sz n ⟨g,off,none⟩ _ b cs k (fun j v hj=>by rw[Addr.add_lit,dA Q];exact E j v hj)
 obtain⟨f,q⟩:∃f,grownCap w (n+m) b e=f+1:=⟨grownCap w (n+m) b e-1,by omega⟩;refine⟨f,cs.toArray++Builtin.zeroCells z.cells m++Builtin.zeroCells z.cells (grownCap w (n+m) b e-(n+m)),w.drew.alloc (.cells (cs.toArray++Builtin.zeroCells z.cells m++Builtin.zeroCells z.cells (grownCap w (n+m) b e-(n+m))) e),?_,bh.of rfl rfl rfl,rfl,by omega,by omega,?_,?_⟩
 ·have h1:=x w.drew rfl;have u:¬n+m≤b:=by omega
  have r:¬((9223372036854775807:Int)<(n:Int)+(m:Int)):=by omega
  have M:¬281474976710656<Builtin.nextslicecap (n+m) b*i.bytes:=by omega
  have l:IntKind.i64.wrap (m:Int)=m:=IntWalk.i64_in _ ⟨by omega,by omega⟩;have s:¬(m:Int)<0:=by omega
  have ad:m*i.bytes≤140737488355328:=Nat.le_trans (Nat.mul_le_mul_right _ (Nat.le_add_left _ _)) h
  have d:¬(281474976710656:Int)<(m:Int)*(i.bytes:Int):=by
   have:((m*i.bytes:Nat):Int)=(m:Int)*(i.bytes:Int):=by simp
   omega
  have H:¬(m=0∨sz=0):=by omega
  unfold execOp;rw[ho];simp[iv,resolve,invoke,builtin,hs,hy,Builtin.append_,run_underlying ht,run_underlying O,c,Go.asInt,Go.asIntOf,l,s,d,u,hi,r,M,p,newRow,H];have y:Question.forced (.appendCap (n+m) b e)=false:=rfl;simp[y];rw[h1];have J:¬m*sz=0:=Nat.mul_ne_zero (by omega) (by omega);simp;rw[if_neg J,←q];rfl
 ·simp only[Array.size_append,List.size_toArray,size_zeroCells,S,R,k,←Nat.add_mul];rw[←q];refine Nat.mul_le_mul_right _ (by omega)
 ·simp only[Array.toList_append,List.append_assoc];rw[←k];exact List.take_left
variable {H:ab} {Q:Exit→Act→World→Prop} {ops:Array Oper} {rest:List Oper} {d:Nat}
theorem WL.wJ{t e:TypeId}{i:TypeInfo}{z v x:Value}{D E:Operand}{size n m:Nat}{cs news:List Value}(y:c.P.underlying t=some (.slice e))(hi:∀w,(typeInfo e).run c.P w= .ok i w)(q:i.size=size)(hz:i.zero=some z)(r:z.cells.size=size)
  (hg:o.guard= .none)(hd:o.dst=some d)(k:Nat.blt d c.n=true)(ho:o.op= .call {callee:= .builtin .append,args:= #[D,E],argTypes:= #[t,t]})(I:Ev env D v)(hy:Ev env E x)(hr:bU H size v n cs)(j:Src c.P H size x m news)(g:∀u∈news,u.oneCell'=true)
  (p:news.length=m*size)(f:(n+m)*i.bytes≤140737488355328)(l:n+m≤9223372036854775807)
  (K:∀v' H',bU H' size v' (n+m) (cs++news)→aq (aV v) H H'→(∀b∈aV v',b∈aV v∨H.size≤b)→WL c ops rest ((d,true,v')::env) H' Q):WL c ops (o::rest) env H Q:=by
 refine WL.po (Φ:=fun v' H'=>bU H' size v' (n+m) (cs++news)∧aq (aV v) H H'∧(∀b∈aV v',b∈aV v∨H.size≤b)) hg hd k (fun a w s F=>?_) (fun v' H' h=>K v' H' h.1 h.2.1 h.2.2);subst F;obtain⟨v',w',r1,r2,r3,J,M,_⟩:=A2 (P:=c.P) ho y y (fun _ h=>by cases h) hi q hz r (s.eval I) (s.eval hy) hr j g p f l;exact⟨v',w',r1,⟨r3,J,M⟩,r2⟩
theorem WL.dH{t t' e et:TypeId}{x y:Operand}{sz g off p dc m k g2 o2 i:Nat}{cur:Array Value}{news:List Value}(r:c.P.underlying t=some (.slice e))(hz:∀w,(sizeOf e).run c.P w= .ok sz w)
  (hg:o.guard= .none)(hd:o.dst=some d)(l:Nat.blt d c.n=true)(ho:o.op= .call {callee:= .builtin .copy,args:= #[x,y],argTypes:= #[t,t']})
  (z:Ev env x (.slice (some ⟨g,off,none⟩) p dc))(hy:Ev env y (.slice (some ⟨g2,o2,none⟩) m i))(hk:Nat.min m p=k)(n:news.length=k*sz)(hc:∀j v,news[j]? =some v→NB.cell H g2 (o2+j)=some v)
  (f:H[g]? =some (.cells cur et (0,0)))(b:off+news.length≤cur.size)(h:∀u∈news,u.oneCell'=true)
  (K:∀H',H'[g]? =some (.cells (da cur off news) et (0,0))→aq [g] H H'→WL c ops rest ((d,true,iv k)::env) H' Q):WL c ops (o::rest) env H Q:=by
 refine WL.po (Φ:=fun v H'=>v=iv k∧H'[g]? =some (.cells (da cur off news) et (0,0))∧aq [g] H H') hg hd l (fun a w q s=>?_) (fun v H' ⟨hv,h1,h2⟩=>by subst hv;exact K H' h1 h2);subst s;refine⟨iv k,w.setRow g (da cur off news),?_,⟨rfl,setRow_heap w g cur _ et _ f,kK w g _⟩,bh.of rfl rfl rfl⟩
 have hr:=H8 (P:=c.P) (t':=t') (ty:=o.type) (dc:=dc) (k:=k) (src:= .slice (some ⟨g2,o2,none⟩) m i) r hz (by simp[Builtin.lenOf]) hk
  (run_firstCells_some w sz k ⟨g2,o2,none⟩ m i news n (fun j v hj=>by rw[Addr.add_lit,dA rfl];exact hc j v hj)) f b h
 unfold execOp;rw[ho];simp[resolve,invoke,builtin,q.eval z,q.eval hy,hr]
theorem WL.wL{t O e:TypeId}{i:TypeInfo}{z:Value}{zs:List Value}{M N:Operand}{sz g off n m I:Nat}{cs:List Value}{q:Int}
  (R:c.P.underlying t=some (.slice e))(D:c.P.underlying O=some (.int .i64))(hi:∀w,(typeInfo e).run c.P w= .ok i w)(y:i.size=sz)(hz:i.zero=some z)(F:z.cells=zs.toArray)(E:zs.length=sz)(h:0<sz)
  (hg:o.guard= .none)(hd:o.dst=some d)(u:Nat.blt d c.n=true)(ho:o.op= .call {callee:= .builtin .append,args:= #[M,N],argTypes:= #[t,O]})(T:Ev env M (.slice (some ⟨g,off,none⟩) n I))(hy:Ev env N (iv q))(hq:q=(m:Int))(r:I<n+m)(hm:0<m)
  (p:cs.length=n*sz)(s:∀j v,cs[j]? =some v→NB.cell H g (off+j)=some v)(f:(n+m)*i.bytes≤140737488355328)(x:n+m≤9223372036854775807)
  (K:∀b cur,n+m≤b+1→b+1≤maxLen→(b+1)*sz≤cur.size→cur.toList.take (n*sz)=cs→WL c ops rest ((d,true,.slice (some ⟨H.size,0,none⟩) (n+m) (b+1))::env) (H.push (.cells cur e (0,0))) Q):WL c ops (o::rest) env H Q:=by
 subst hq
 refine WL.po (Φ:=fun v H'=>∃b cur,v= .slice (some ⟨H.size,0,none⟩) (n+m) (b+1)∧H'=H.push (.cells cur e (0,0))∧n+m≤b+1∧b+1≤maxLen∧(b+1)*sz≤cur.size∧cur.toList.take (n*sz)=cs) hg hd u (fun a w J S=>?_)
  (fun v H' ⟨b,cur,hv,P,h1,h2,k,l⟩=>by subst hv P;exact K b cur h1 h2 k l)
 subst S;obtain⟨b,cur,w',h1,h2,k,l⟩:=H6 (w:=w) R D hi y hz F E h ho (J.eval T) (J.eval hy) r hm p s f x;exact⟨_,w',h1,⟨b,cur,rfl,k,l⟩,h2⟩
theorem WL.wK{t e et:TypeId}{x y:Operand}{sz g off n m l g2 o2 b:Nat}{cur:Array Value}{news:List Value}
  (z:c.P.underlying t=some (.slice e))(hz:∀w,(sizeOf e).run c.P w= .ok sz w)(hg:o.guard= .none)(hd:o.dst=some d)(q:Nat.blt d c.n=true)(ho:o.op= .call {callee:= .builtin .append,args:= #[x,y],argTypes:= #[t,t]})
  (E:Ev env x (.slice (some ⟨g,off,none⟩) n l))(hy:Ev env y (.slice (some ⟨g2,o2,none⟩) m b))(p:n+m≤l)(r:news.length=m*sz)(hc:∀j v,news[j]? =some v→NB.cell H g2 (o2+j)=some v)
  (h:H[g]? =some (.cells cur et (0,0)))(f:off+n*sz+news.length≤cur.size)(i:∀u∈news,u.oneCell'=true)
  (K:∀H',H'[g]? =some (.cells (da cur (off+n*sz) news) et (0,0))→aq [g] H H'→WL c ops rest ((d,true,.slice (some ⟨g,off,none⟩) (n+m) l)::env) H' Q):WL c ops (o::rest) env H Q:=by
 refine WL.po (Φ:=fun v H'=>v= .slice (some ⟨g,off,none⟩) (n+m) l∧H'[g]? =some (.cells (da cur (off+n*sz) news) et (0,0))∧aq [g] H H') hg hd q (fun a w s D=>?_) (fun v H' ⟨hv,h1,h2⟩=>by subst hv;exact K H' h1 h2);subst D;refine⟨_,w.setRow g (da cur (off+n*sz) news),?_,⟨rfl,setRow_heap w g cur _ et _ h,kK w g _⟩,bh.of rfl rfl rfl⟩;have k:=run_storeCells_at c.P g (off+n*sz) et news 0 cur w h (by simpa using f) i;simp only[Nat.add_zero]at k;have h1:=run_firstCells_some (P:=c.P) w sz m ⟨g2,o2,none⟩ m b news r (fun j v hj=>by rw[Addr.add_lit,dA rfl];exact hc j v hj);unfold execOp;rw[ho];simp[resolve,invoke,builtin,s.eval E,s.eval hy,Builtin.append_,run_underlying z,hz,Builtin.lenOf,p,h1,Addr.add_lit,k,da]
theorem WL.xn{t e et:TypeId}{x:Operand}{z:Value}{zs:List Value}{sz g off n l:Nat}{cur:Array Value}(q:c.P.underlying t=some (.slice e))(hz:∀w,(zeroValue e).run c.P w= .ok z w)(j:z.cells=zs.toArray)(i:zs.length=sz)(h:0<sz)(f:∀u∈zs,u.oneCell'=true)
  (hg:o.guard= .none)(hd:o.dst= .none)(ho:o.op= .call {callee:= .builtin .clear,args:= #[x],argTypes:= #[t]})(s:Ev env x (.slice (some ⟨g,off,none⟩) n l))(hn:0<n)(d:H[g]? =some (.cells cur et (0,0)))(b:off+n*sz≤cur.size)
  (K:∀H' news,news.length=n*sz→H'[g]? =some (.cells (da cur off news) et (0,0))→aq [g] H H'→WL c ops rest env H' Q):WL c ops (o::rest) env H Q:=by
 intro a w k r m;subst r;have hl:(List.replicate n zs).flatten.length=n*sz:=by simp[i]
 have hr:=A3 (P:=c.P) (w:=w) ho (k.eval s) hn q hz j i h f d b;refine wpList_plain hg fun v p=>?_;unfold Oper.wp;rw[hr];simp only[Oper.upon,hd];refine p _ _ (K _ (List.replicate n zs).flatten hl ?_ (kK w g _) _ _ (show Fr c env (a.put none (.tuple #[]))from k) rfl (m.trans (bh.of rfl rfl rfl)));have:=setRow_heap w g cur (cur.toList.take off++(List.replicate n zs).flatten++cur.toList.drop (off+n*sz)).toArray et _ d;rw[this];unfold da;rw[hl]
end
theorem cS.Bz{P:Program}{f:FuncId}{args:Array Value}{H:ab}{R:Value→ab→Prop}(h:cS P f args H R):mX false P f args H fun ok v H'=>ok=true∧R v H':=by
 intro w g;have:=h w g;unfold na at this;unfold ow;split at this
 ·rename_i a;rw[a];exact⟨this.1,rfl,this.2⟩
 ·rename_i a;rw[a];exact⟨this.1,this.2.mono fun e i ⟨v,b,c,d⟩=>.inl ⟨v,b,⟨rfl,c⟩,.of d⟩⟩
 ·exact this.elim
theorem bU.ptr{H:ab}{sz n k cap:Nat}{p q:Option Addr}{cs:List Value}(h:bU H sz (.slice p k cap) n cs)(hq:cap≠0→q=p):bU H sz (.slice q k cap) n cs∧aV (.slice q k cap)=aV (.slice p k cap):=by
 by_cases e:cap=0
 ·subst e;refine⟨⟨h.1,?_⟩,by cases p<;>cases q<;>rfl⟩;rcases h.2 with⟨i,e,c⟩|⟨g,d,a,b,f,e,_⟩
  ·cases e;exact .inl ⟨q,rfl,c⟩
  ·simp at e
 ·rw[hq e];exact⟨h,rfl⟩
theorem bU.val{H:ab}{sz n:Nat}{v:Value}{cs:List Value}(h:bU H sz v n cs):∃p cap,v= .slice p n cap:=by
 rcases h.2 with⟨p,rfl,rfl⟩|⟨g,b,cap,a,e,rfl,_⟩
 ·exact⟨p,0,rfl⟩
 ·exact⟨_,_,rfl⟩
theorem sR{E:En}{F:Nat→Prop}{γ:List Value}{ah:List B}{H:ab}{j sz:Nat}{α:Type}{enc:α→List C}{l:List α}{v:Value}(h:WR E F γ ah H)(hj:ah[j]? =some (.row sz α enc l))(hv:RL F H ⟨E.B,γ⟩ [.rw j] [v]):
  ∃g cs,γ[j]? =some g∧bU H sz v l.length cs∧RL F H m0 (l.flatMap enc) cs∧(∀x∈l,(enc x).length=sz)∧aV v=az (.row sz α enc l) g:=by
 cases hv with
 | @rw _ _ p q n cap _ _ a i _=>
  obtain⟨cs,b,c,d⟩:=pF (h.br j _ _ hj a);obtain⟨e,f⟩:=b.ptr i;exact⟨_,cs,a,e,c,d,f.trans (lM _).symm⟩
def B1(P:Program)(f:FuncId)(sz:Nat):Prop:=
 ∀{H:ab} {a e:Value} {n i:Nat} {c d:List Value},bU H sz a n c→bU H sz e 1 d→(∀b∈aV a,b∉aV e)→i≤n→n≤1000000→(∀u∈c,u.oneCell'=true)→(∀u∈d,u.oneCell'=true)→
  cS P f #[a,iv i,e] H fun v H'=>bU H' sz v (n+1) (c.take (i*sz)++d++c.drop (i*sz))∧aq (aV a) H H'∧∀b∈aV v,b∈aV a∨H.size≤b
def BZ(P:Program)(f:FuncId)(sz:Nat):Prop:=
 ∀{H:ab} {c:Value} {n i:Nat} {a:List Value},bU H sz c n a→i<n→n≤1000000→(∀u∈a,u.oneCell'=true)→
  cS P f #[c,iv i,iv (i+1:Nat)] H fun v H'=>bU H' sz v (n-1) (a.take (i*sz)++a.drop ((i+1)*sz))∧aq (aV c) H H'∧∀b∈aV v,b∈aV c∨H.size≤b
theorem ae.Ae{P:Program}{f:FuncId}{sz:Nat}(j:B1 P f sz){α:Type}{enc:α→List C}(l:List α)(x:α)(i:Nat)(hi:i≤l.length)(hn:l.length≤1000000):
  ae P f [.c (.rw 0),.c (.int .i64 i),.c (.rw 1)] [.row sz α enc l,.row sz α enc [x]] (Rt (.c (.rw 2)) [.dead,.row sz α enc [x],.row sz α enc (l.take i++x::l.drop i)]):=by
 intro F L γ H vs d a;match vs,d with
 |[v0,vi,v1],⟨t,w,u,_⟩=>
  obtain⟨Q,J,g,U,E,k,M⟩:=sR a rfl t;obtain⟨g1,Z,o,Y,K,z1,o1⟩:=sR a rfl u;cases w with
  |int _=>
   refine(cS.Bz (j U Y (by rw[M,o1];exact fun b hb=>a.disj 0 1 _ _ _ _ (by decide) rfl g rfl o b hb) hi hn E.one K.one)).mono fun ok v H' ⟨r,N,I,O⟩=>?_;subst r;rw[M]at I O;have ex:=a.ext (γ':=[]) (W:=az (.row sz α enc l) Q) (fun q S=>a.nf 0 _ _ q rfl g S) I;have R:(l.take i++x::l.drop i).length=l.length+1:=by simp;omega
   have s:RL F H m0 ((l.take i++x::l.drop i).flatMap enc) (J.take (i*sz)++Z++J.drop (i*sz)):=by
    have e:(l.take i++x::l.drop i).flatMap enc=(l.flatMap enc).take (i*sz)++[x].flatMap enc++(l.flatMap enc).drop (i*sz):=by
     rw[nw i k,ml i k];simp
    rw[e];exact((E.take _).append K).append (E.drop _)
   have z:∀y∈l.take i++x::l.drop i,(enc y).length=sz:=fun y T=>by
    rcases List.mem_append.1 T with h|h
    ·exact k y (List.mem_of_mem_take h)
    ·rcases List.mem_cons.1 h with rfl|h
     ·exact z1 _ (by simp)
     ·exact k y (List.mem_of_mem_drop h)
   have n:BR F H' ⟨L,γ++[v]⟩ (.row sz α enc (l.take i++x::l.drop i)) v:=qM N R.symm (s.ext ex.m0) z;have m:=a.move (b2:= .row sz α enc (l.take i++x::l.drop i)) (g2:=v) rfl g I (by rw[lM];exact O) n;obtain⟨p,cap,rfl⟩:=N.val;have D:γ.length=2:=a.len;refine⟨.ret (.c (.rw 2)),_,F,γ++[.slice p (l.length+1) cap],⟨rfl,rfl⟩,rfl,rfl,rfl,?_,m⟩;exact .rw (by show(γ++[_])[2]? =_;rw[←D];simp) (fun _=>rfl) .nl
theorem ae.Ad{P:Program}{f:FuncId}{sz:Nat}(e:BZ P f sz){α:Type}{enc:α→List C}(l:List α)(i:Nat)(hi:i<l.length)(hn:l.length≤1000000):
  ae P f [.c (.rw 0),.c (.int .i64 i),.c (.int .i64 (i+1:Nat))] [.row sz α enc l] (Rt (.c (.rw 1)) [.dead,.row sz α enc (l.take i++l.drop (i+1))]):=by
 intro F L γ H Q a b;match Q,a with
 |[R,S,T],⟨o,r,s,_⟩=>
  obtain⟨I,z,d,O,w,g,N⟩:=sR b rfl o;cases r with
  |int _=>
  cases s with
  |int _=>
   refine(cS.Bz (e O hi hn w.one)).mono fun ok v H' ⟨m,D,x,E⟩=>?_;subst m;rw[N]at x E;have ex:=b.ext (γ':=[]) (W:=az (.row sz α enc l) I) (fun q K=>b.nf 0 _ _ q rfl d K) x;have J:(l.take i++l.drop (i+1)).length=l.length-1:=by simp;omega
   have n:RL F H m0 ((l.take i++l.drop (i+1)).flatMap enc) (z.take (i*sz)++z.drop ((i+1)*sz)):=by
    rw[List.flatMap_append,←nw i g,←ml (i+1) g];exact(w.take _).append (w.drop _)
   have t:∀y∈l.take i++l.drop (i+1),(enc y).length=sz:=fun y M=>by
    rcases List.mem_append.1 M with h|h
    ·exact g y (List.mem_of_mem_take h)
    ·exact g y (List.mem_of_mem_drop h)
   have k:BR F H' ⟨L,γ++[v]⟩ (.row sz α enc (l.take i++l.drop (i+1))) v:=qM D J.symm (n.ext ex.m0) t;have j:=b.move (b2:= .row sz α enc (l.take i++l.drop (i+1))) (g2:=v) rfl d x (by rw[lM];exact E) k;obtain⟨p,cap,rfl⟩:=D.val;have u:γ.length=1:=b.len;refine⟨.ret (.c (.rw 1)),_,F,γ++[.slice p (l.length-1) cap],⟨rfl,rfl⟩,rfl,rfl,rfl,?_,j⟩;exact .rw (by show(γ++[_])[1]? =_;rw[←u];simp) (fun _=>rfl) .nl
end Go.AM
