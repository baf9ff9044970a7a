/- part -/
import Derived.Test.YtpechfcbnoggfaaGreatDoorAmH
import Derived.Lib.Overlaps
import Derived.Laws.Externs
set_option linter.unusedVariables false
set_option linter.unusedSimpArgs false
namespace Go.AM
open Go Go.NB
section
variable {P:Program} {c:Cx} {o:Oper} {env:Env} {S:ab→Prop}
theorem Gb{t e:TypeId}{sz:Nat}(ht:P.underlying t=some (.slice e))(hz:∀w,(sizeOf e).run P w= .ok sz w)(p:Option Addr)(n cap lo:Nat)(h1:lo≤n)(w:World):
  (Instr.sliceAt t (.slice p n cap) (some (iv (lo:Nat))) none none).run P w= .ok (.slice (if cap=lo then p else p.map (·.add (lo*sz))) (n-lo) (cap-lo)) w:=by
 simp[Instr.sliceAt,Instr.slice,run_underlying ht,Instr.sliceBounds,Instr.sliceBound,asIntOf,iv,hz,h1]
theorem Ga{t e:TypeId}{sz:Nat}(ht:P.underlying t=some (.slice e))(hz:∀w,(sizeOf e).run P w= .ok sz w)(g off n cap hi:Nat)(h1:hi≤cap)(w:World):
  (Instr.sliceAt t (.slice (some ⟨g,off,none⟩) n cap) none (some (iv (hi:Nat))) none).run P w= .ok (.slice (some ⟨g,off,none⟩) hi cap) w:=by
 simp[Instr.sliceAt,Instr.slice,run_underlying ht,Instr.sliceBounds,Instr.sliceBound,asIntOf,iv,hz,h1,Addr.add_lit]
theorem F9{t e:TypeId}{sz:Nat}(ht:P.underlying t=some (.slice e))(hz:∀w,(sizeOf e).run P w= .ok sz w)(p:Option Addr)(n cap lo hi:Nat)(h1:lo≤hi)(h2:hi≤cap)(w:World):
  (Instr.sliceAt t (.slice p n cap) (some (iv (lo:Nat))) (some (iv (hi:Nat))) none).run P w= .ok (.slice (if cap=lo then p else p.map (·.add (lo*sz))) (hi-lo) (cap-lo)) w:=by
 simp[Instr.sliceAt,Instr.slice,run_underlying ht,Instr.sliceBounds,Instr.sliceBound,asIntOf,iv,hz,h1,h2]
theorem Gc{t e:TypeId}{sz:Nat}(ht:P.underlying t=some (.slice e))(hz:∀w,(sizeOf e).run P w= .ok sz w)(p:Option Addr)(n cap lo hi mx:Nat)(h1:lo≤hi)(h2:hi≤mx)(h3:mx≤cap)(w:World):
  (Instr.sliceAt t (.slice p n cap) (some (iv (lo:Nat))) (some (iv (hi:Nat))) (some (iv (mx:Nat)))).run P w= .ok (.slice (if mx=lo then p else p.map (·.add (lo*sz))) (hi-lo) (mx-lo)) w:=by
 simp[Instr.sliceAt,Instr.slice,run_underlying ht,Instr.sliceBounds,Instr.sliceBound,asIntOf,iv,hz,h1,h2,h3]
theorem V.oI{t e:TypeId}{sz:Nat}{x y:Operand}{p:Option Addr}{n cap lo:Nat}{k:Int}(ht:c.P.underlying t=some (.slice e))(hz:∀w,(sizeOf e).run c.P w= .ok sz w)(ho:o.op= .slice t x (some y) none none)
  (hx:Ev env x (.slice p n cap))(hy:Ev env y (iv k))(hk:k=(lo:Int))(h1:lo≤n):aN c o env S (.slice (if cap=lo then p else p.map (·.add (lo*sz))) (n-lo) (cap-lo)):=by
 subst hk;exact V.slice (lv:=some (iv lo)) (hv:=none) (mv:=none) ho hx (fun a hf=>by simp[hf.eval hy]) (fun _ _=>rfl) (fun _ _=>rfl) (fun w=>Gb ht hz p n cap lo h1 w)
theorem V.mY{t e:TypeId}{sz:Nat}{x y:Operand}{g off n cap hi:Nat}{k:Int}(ht:c.P.underlying t=some (.slice e))(hz:∀w,(sizeOf e).run c.P w= .ok sz w)(ho:o.op= .slice t x none (some y) none)
  (hx:Ev env x (.slice (some ⟨g,off,none⟩) n cap))(hy:Ev env y (iv k))(hk:k=(hi:Int))(h1:hi≤cap):aN c o env S (.slice (some ⟨g,off,none⟩) hi cap):=by
 subst hk;exact V.slice (lv:=none) (hv:=some (iv hi)) (mv:=none) ho hx (fun _ _=>rfl) (fun a hf=>by simp[hf.eval hy]) (fun _ _=>rfl) (fun w=>Ga ht hz g off n cap hi h1 w)
theorem V.Gq{t e:TypeId}{sz:Nat}{x y z:Operand}{p:Option Addr}{n cap lo hi:Nat}{k m:Int}(ht:c.P.underlying t=some (.slice e))(hz:∀w,(sizeOf e).run c.P w= .ok sz w)(ho:o.op= .slice t x (some y) (some z) none)
  (hx:Ev env x (.slice p n cap))(hy:Ev env y (iv k))(hy2:Ev env z (iv m))(hk:k=(lo:Int))(hm:m=(hi:Int))(h1:lo≤hi)(h2:hi≤cap):aN c o env S (.slice (if cap=lo then p else p.map (·.add (lo*sz))) (hi-lo) (cap-lo)):=by
 subst hk hm;exact V.slice (lv:=some (iv lo)) (hv:=some (iv hi)) (mv:=none) ho hx (fun a hf=>by simp[hf.eval hy]) (fun a hf=>by simp[hf.eval hy2]) (fun _ _=>rfl) (fun w=>F9 ht hz p n cap lo hi h1 h2 w)
theorem V.zH{t e:TypeId}{sz:Nat}{x y z u:Operand}{p:Option Addr}{n cap lo hi mx:Nat}{k m q:Int}(ht:c.P.underlying t=some (.slice e))(hz:∀w,(sizeOf e).run c.P w= .ok sz w)(ho:o.op= .slice t x (some y) (some z) (some u))
  (hx:Ev env x (.slice p n cap))(hy:Ev env y (iv k))(hy2:Ev env z (iv m))(hy3:Ev env u (iv q))(hk:k=(lo:Int))(hm:m=(hi:Int))(hq:q=(mx:Int))(h1:lo≤hi)(h2:hi≤mx)(h3:mx≤cap):
  aN c o env S (.slice (if mx=lo then p else p.map (·.add (lo*sz))) (hi-lo) (mx-lo)):=by
 subst hk hm hq;exact V.slice (lv:=some (iv lo)) (hv:=some (iv hi)) (mv:=some (iv mx)) ho hx (fun a hf=>by simp[hf.eval hy]) (fun a hf=>by simp[hf.eval hy2]) (fun a hf=>by simp[hf.eval hy3]) (fun w=>Gc ht hz p n cap lo hi mx h1 h2 h3 w)
theorem V.gb{t e:TypeId}{sz:Nat}{x y:Operand}{g off n cap lo:Nat}{k:Int}(ht:c.P.underlying t=some (.slice e))(hz:∀w,(sizeOf e).run c.P w= .ok sz w)(ho:o.op= .slice t x (some y) none none)
  (hx:Ev env x (.slice (some ⟨g,off,none⟩) n cap))(hy:Ev env y (iv k))(hk:k=(lo:Int))(h1:lo≤n)(h2:lo<cap):aN c o env S (.slice (some ⟨g,off+lo*sz,none⟩) (n-lo) (cap-lo)):=by
 have:=V.oI (S:=S) ht hz ho hx hy hk h1;rw[if_neg (by omega)]at this;simpa[Addr.add_lit]using this
theorem V.zG{t e:TypeId}{sz:Nat}{x y z:Operand}{g off n cap lo hi:Nat}{k m:Int}(ht:c.P.underlying t=some (.slice e))(hz:∀w,(sizeOf e).run c.P w= .ok sz w)(ho:o.op= .slice t x (some y) (some z) none)
  (hx:Ev env x (.slice (some ⟨g,off,none⟩) n cap))(hy:Ev env y (iv k))(hy2:Ev env z (iv m))(hk:k=(lo:Int))(hm:m=(hi:Int))(h1:lo≤hi)(h2:hi≤cap)(h3:lo<cap):aN c o env S (.slice (some ⟨g,off+lo*sz,none⟩) (hi-lo) (cap-lo)):=by
 have:=V.Gq (S:=S) ht hz ho hx hy hy2 hk hm h1 h2;rw[if_neg (by omega)]at this;simpa[Addr.add_lit]using this
theorem V.cap{x:Operand}{t e:TypeId}{p:Option Addr}{n m:Nat}(ht:c.P.underlying t=some (.slice e))(ho:o.op= .call {callee:= .builtin .cap,args:= #[x],argTypes:= #[t]})
  (hx:Ev env x (.slice p n m)):aN c o env S (iv m):=fun a w hf _ _=>by
 unfold execOp;rw[ho];simp[resolve,invoke,builtin,hf.eval hx,Builtin.cap_,run_underlying ht,goInt,iv]
theorem V.jo{x:Operand}{t e:TypeId}{p:Option Addr}{n m:Nat}(ht:c.P.underlying t=some (.slice e))(ho:o.op= .call {callee:= .builtin .len,args:= #[x],argTypes:= #[t]})
  (hx:Ev env x (.slice p n m)):aN c o env S (iv n):=V.pZ ho ht hx
def cY(cur:Array Value)(at':Nat)(news:List Value):Array Value:=(cur.toList.take at'++news++cur.toList.drop (at'+news.length)).toArray
theorem fw{cur:Array Value}{k:Nat}{news:List Value}(h:k+news.length≤cur.size):(cY cur k news).size=cur.size:=by
 unfold cY;simp only[List.size_toArray,List.length_append,List.length_take,List.length_drop,Array.length_toList];omega
theorem qD{cur:Array Value}{off:Nat}{a us b:List Value}(h:(cur.toList.drop off).take a.length=a)(hfit:off+(a.length+us.length+b.length)≤cur.size):
  ((cY (cY cur (off+a.length) us) (off+(a.length+us.length)) b).toList.drop off).take (a.length+us.length+b.length)=a++us++b:=by
 have h1:cur.toList.take (off+a.length)=cur.toList.take off++a:=by rw[List.take_add,h]
 have hl:(cur.toList.take off).length=off:=by rw[List.length_take,Array.length_toList];omega
 unfold cY;rw[h1];have e1:(cur.toList.take off++a++us++cur.toList.drop (off+a.length+us.length)).take (off+(a.length+us.length))=cur.toList.take off++a++us:=List.take_left' (by rw[List.length_append,List.length_append,hl,Nat.add_assoc]);have e3:∀Z,cur.toList.take off++a++us++b++Z=cur.toList.take off++(a++us++b++Z):=fun Z=>by simp[List.append_assoc]
 rw[e1,e3,List.drop_left' hl];exact List.take_left' (by rw[List.length_append,List.length_append])
theorem yU{cur:Array Value}{off:Nat}{a us b:List Value}(h:(cur.toList.drop off).take a.length=a)(hfit:off+(a.length+us.length+b.length)≤cur.size):
  ((cY (cY cur (off+(a.length+us.length)) b) (off+a.length) us).toList.drop off).take (a.length+us.length+b.length)=a++us++b:=by
 have h1:cur.toList.take (off+a.length)=cur.toList.take off++a:=by rw[List.take_add,h]
 have hl:(cur.toList.take off).length=off:=by rw[List.length_take,Array.length_toList];omega
 have hl2:(cur.toList.take (off+(a.length+us.length))).length=off+(a.length+us.length):=by rw[List.length_take];have:=cur.length_toList;omega
 unfold cY
 have e1:(cur.toList.take (off+(a.length+us.length))++b++cur.toList.drop (off+(a.length+us.length)+b.length)).take (off+a.length)=cur.toList.take off++a:=by
  rw[List.append_assoc,List.take_append_of_le_length (by omega),List.take_take,Nat.min_eq_left (by omega),h1]
 have e2:(cur.toList.take (off+(a.length+us.length))++b++cur.toList.drop (off+(a.length+us.length)+b.length)).drop (off+a.length+us.length)=b++cur.toList.drop (off+(a.length+us.length)+b.length):=by
  rw[List.append_assoc,List.drop_left' (by omega)]
 have e3:cur.toList.take off++a++us++(b++cur.toList.drop (off+(a.length+us.length)+b.length))=cur.toList.take off++(a++us++b++cur.toList.drop (off+(a.length+us.length)+b.length)):=by simp[List.append_assoc]
 rw[e1,e2,e3,List.drop_left' hl];exact List.take_left' (by rw[List.length_append,List.length_append])
theorem F8{t t' ty e et:TypeId}{sz g off dl dc m k:Nat}{cur:Array Value}{src:Value}{news:List Value}{w:World}(ht:P.underlying t=some (.slice e))(hz:∀w,(sizeOf e).run P w= .ok sz w)
  (hm:(Builtin.lenOf src).run P w= .ok m w)(hk:Nat.min m dl=k)(hc:(Builtin.firstCells sz k src).run P w= .ok news.toArray w)(hg:w.heap[g]? =some (.cells cur et (0,0)))(hfit:off+news.length≤cur.size)(hone:∀u∈news,u.oneCell'=true):
  (Builtin.copy_ #[t,t'] ty #[.slice (some ⟨g,off,none⟩) dl dc,src]).run P w= .ok (iv k) (w.setRow g (cY cur off news)):=by
 have hst:=run_storeCells_at P g off et news 0 cur w hg (by simpa using hfit) hone;simp only[Nat.add_zero]at hst;simp[Builtin.copy_,run_underlying ht,hz,hm,hk,hc,hst,goInt,iv,cY]
theorem F6{t t2 e:TypeId}{i:TypeInfo}{z:Value}{zs:List Value}{sx sy:Operand}{a:Act}{w:World}{sz g off n m cp:Nat}{cs:List Value}
  (ht:P.underlying t=some (.slice e))(ht2:P.underlying t2=some (.int .i64))(hi:∀w,(typeInfo e).run P w= .ok i w)(hsz:i.size=sz)(hz:i.zero=some z)(hzs:z.cells=zs.toArray)(hzl:zs.length=sz)(hpos:0<sz)
  (ho:o.op= .call {callee:= .builtin .append,args:= #[sx,sy],argTypes:= #[t,t2]})(hs:a.eval sx= .slice (some ⟨g,off,none⟩) n cp)(hy:a.eval sy=iv m)(hcp:cp<n+m)(hm:0<m)
  (hcl:cs.length=n*sz)(hcs:∀j v,cs[j]? =some v→NB.cell w.heap g (off+j)=some v)(hfit:(n+m)*i.bytes≤140737488355328)(hml:n+m≤9223372036854775807):
  ∃gc cur w',(execOp a.eval o).run P w= .ok (.value (.slice (some ⟨w.heap.size,0,none⟩) (n+m) (gc+1))) w'∧bd w w'∧w'.heap=w.heap.push (.cells cur e (0,0))∧n+m≤gc+1∧gc+1≤maxLen∧(gc+1)*sz≤cur.size∧cur.toList.take (n*sz)=cs:=by
 have hmx:n+m≤maxLen:=hml;have hge:=grownCap_ge w (n+m) cp e;have hcm:grownCap w (n+m) cp e≤maxLen:=grownCap_le_maxLen w (n+m) cp e hmx;have hfits:=growslice_fits hcp hfit;have hsizeOf:∀w,(sizeOf e).run P w= .ok sz w:=fun w=>by simp[sizeOf,hi,hsz]
 have hzero:∀w,(zeroValue e).run P w= .ok z w:=fun w=>by simp[zeroValue,hi,hz]
 have hold:∀w':World,w'.heap=w.heap→(Builtin.firstCells sz n (.slice (some ⟨g,off,none⟩) n cp)).run P w'= .ok cs.toArray w':=fun w' hw'=>
  run_firstCells_some w' sz n ⟨g,off,none⟩ _ cp cs hcl (fun j v hj=>by rw[Addr.add_lit,dg hw'];exact hcs j v hj)
 obtain⟨gc,hgc⟩:∃gc,grownCap w (n+m) cp e=gc+1:=⟨grownCap w (n+m) cp e-1,by omega⟩;refine⟨gc,cs.toArray++Builtin.zeroCells z.cells m++Builtin.zeroCells z.cells (grownCap w (n+m) cp e-(n+m)),w.drew.alloc (.cells (cs.toArray++Builtin.zeroCells z.cells m++Builtin.zeroCells z.cells (grownCap w (n+m) cp e-(n+m))) e),?_,bd.of rfl rfl rfl,rfl,by omega,by omega,?_,?_⟩
 ·have h1:=hold w.drew rfl;have hnle:¬n+m≤cp:=by omega
  have hn63:¬((9223372036854775807:Int)<(n:Int)+(m:Int)):=by omega
  have hnf:¬281474976710656<Builtin.nextslicecap (n+m) cp*i.bytes:=by omega
  have hwrap:IntKind.i64.wrap (m:Int)=m:=IntWalk.i64_in _ ⟨by omega,by omega⟩;have hneg:¬(m:Int)<0:=by omega
  have hmb:m*i.bytes≤140737488355328:=Nat.le_trans (Nat.mul_le_mul_right _ (Nat.le_add_left _ _)) hfit
  have hlarge:¬(281474976710656:Int)<(m:Int)*(i.bytes:Int):=by
   have:((m*i.bytes:Nat):Int)=(m:Int)*(i.bytes:Int):=by simp
   omega
  have hm0:¬(m=0∨sz=0):=by omega
  unfold execOp;rw[ho];simp[iv,resolve,invoke,builtin,hs,hy,Builtin.append_,run_underlying ht,run_underlying ht2,hsizeOf,Go.asInt,Go.asIntOf,hwrap,hneg,hlarge,hnle,hi,hn63,hnf,hzero,newRow,hm0];have hch:Question.forced (.appendCap (n+m) cp e)=false:=rfl;simp[hch];rw[h1];have hms:¬m*sz=0:=Nat.mul_ne_zero (by omega) (by omega);simp;rw[if_neg hms,←hgc];rfl
 ·simp only[Array.size_append,List.size_toArray,size_zeroCells,hzs,hzl,hcl,←Nat.add_mul];rw[←hgc];refine Nat.mul_le_mul_right _ (by omega)
 ·simp only[Array.toList_append,List.append_assoc];rw[←hcl];exact List.take_left
variable {H:ab} {Q:Exit→Act→World→Prop} {ops:Array Oper} {rest:List Oper} {d:Nat}
theorem WL.u9{t e:TypeId}{i:TypeInfo}{z v x:Value}{sx sy:Operand}{size n m:Nat}{cs news:List Value}(ht:c.P.underlying t=some (.slice e))(hi:∀w,(typeInfo e).run c.P w= .ok i w)(hsz:i.size=size)(hz:i.zero=some z)(hzs:z.cells.size=size)
  (hg:o.guard= .none)(hd:o.dst=some d)(hlt:Nat.blt d c.n=true)(ho:o.op= .call {callee:= .builtin .append,args:= #[sx,sy],argTypes:= #[t,t]})(hx:Ev env sx v)(hy:Ev env sy x)(hr:bU H size v n cs)(hsrc:Src c.P H size x m news)(hone:∀u∈news,u.oneCell'=true)
  (hnl:news.length=m*size)(hfit:(n+m)*i.bytes≤140737488355328)(hml:n+m≤9223372036854775807)
  (K:∀v' H',bU H' size v' (n+m) (cs++news)→ak (aS v) H H'→(∀b∈aS v',b∈aS v∨H.size≤b)→WL c ops rest ((d,true,v')::env) H' Q):WL c ops (o::rest) env H Q:=by
 refine WL.og (Φ:=fun v' H'=>bU H' size v' (n+m) (cs++news)∧ak (aS v) H H'∧(∀b∈aS v',b∈aS v∨H.size≤b)) hg hd hlt (fun a w hf hw=>?_) (fun v' H' h=>K v' H' h.1 h.2.1 h.2.2);subst hw;obtain⟨v',w',r1,r2,r3,r4,r5,_⟩:=zt (P:=c.P) ho ht ht (fun _ h=>by cases h) hi hsz hz hzs (hf.eval hx) (hf.eval hy) hr hsrc hone hnl hfit hml;exact⟨v',w',r1,⟨r3,r4,r5⟩,r2⟩
theorem WL.dy{t t' e et:TypeId}{x y:Operand}{sz g off dl dc m k g2 o2 cp:Nat}{cur:Array Value}{news:List Value}(ht:c.P.underlying t=some (.slice e))(hz:∀w,(sizeOf e).run c.P w= .ok sz w)
  (hg:o.guard= .none)(hd:o.dst=some d)(hlt:Nat.blt d c.n=true)(ho:o.op= .call {callee:= .builtin .copy,args:= #[x,y],argTypes:= #[t,t']})
  (hx:Ev env x (.slice (some ⟨g,off,none⟩) dl dc))(hy:Ev env y (.slice (some ⟨g2,o2,none⟩) m cp))(hk:Nat.min m dl=k)(hnl:news.length=k*sz)(hc:∀j v,news[j]? =some v→NB.cell H g2 (o2+j)=some v)
  (hg':H[g]? =some (.cells cur et (0,0)))(hfit:off+news.length≤cur.size)(hone:∀u∈news,u.oneCell'=true)
  (K:∀H',H'[g]? =some (.cells (cY cur off news) et (0,0))→ak [g] H H'→WL c ops rest ((d,true,iv k)::env) H' Q):WL c ops (o::rest) env H Q:=by
 refine WL.og (Φ:=fun v H'=>v=iv k∧H'[g]? =some (.cells (cY cur off news) et (0,0))∧ak [g] H H') hg hd hlt (fun a w hf hw=>?_) (fun v H' ⟨hv,h1,h2⟩=>by subst hv;exact K H' h1 h2);subst hw;refine⟨iv k,w.setRow g (cY cur off news),?_,⟨rfl,setRow_heap w g cur _ et _ hg',jZ w g _⟩,bd.of rfl rfl rfl⟩
 have hr:=F8 (P:=c.P) (t':=t') (ty:=o.type) (dc:=dc) (k:=k) (src:= .slice (some ⟨g2,o2,none⟩) m cp) ht hz (by simp[Builtin.lenOf]) hk
  (run_firstCells_some w sz k ⟨g2,o2,none⟩ m cp news hnl (fun j v hj=>by rw[Addr.add_lit,dg rfl];exact hc j v hj)) hg' hfit hone
 unfold execOp;rw[ho];simp[resolve,invoke,builtin,hf.eval hx,hf.eval hy,hr]
theorem WL.ve{t t2 e:TypeId}{i:TypeInfo}{z:Value}{zs:List Value}{sx sy:Operand}{sz g off n m cp:Nat}{cs:List Value}{q:Int}
  (ht:c.P.underlying t=some (.slice e))(ht2:c.P.underlying t2=some (.int .i64))(hi:∀w,(typeInfo e).run c.P w= .ok i w)(hsz:i.size=sz)(hz:i.zero=some z)(hzs:z.cells=zs.toArray)(hzl:zs.length=sz)(hpos:0<sz)
  (hg:o.guard= .none)(hd:o.dst=some d)(hlt:Nat.blt d c.n=true)(ho:o.op= .call {callee:= .builtin .append,args:= #[sx,sy],argTypes:= #[t,t2]})(hx:Ev env sx (.slice (some ⟨g,off,none⟩) n cp))(hy:Ev env sy (iv q))(hq:q=(m:Int))(hcp:cp<n+m)(hm:0<m)
  (hcl:cs.length=n*sz)(hcs:∀j v,cs[j]? =some v→NB.cell H g (off+j)=some v)(hfit:(n+m)*i.bytes≤140737488355328)(hml:n+m≤9223372036854775807)
  (K:∀gc cur,n+m≤gc+1→gc+1≤maxLen→(gc+1)*sz≤cur.size→cur.toList.take (n*sz)=cs→WL c ops rest ((d,true,.slice (some ⟨H.size,0,none⟩) (n+m) (gc+1))::env) (H.push (.cells cur e (0,0))) Q):WL c ops (o::rest) env H Q:=by
 subst hq
 refine WL.og (Φ:=fun v H'=>∃gc cur,v= .slice (some ⟨H.size,0,none⟩) (n+m) (gc+1)∧H'=H.push (.cells cur e (0,0))∧n+m≤gc+1∧gc+1≤maxLen∧(gc+1)*sz≤cur.size∧cur.toList.take (n*sz)=cs) hg hd hlt (fun a w hf hw=>?_)
  (fun v H' ⟨gc,cur,hv,hH,h1,h2,h3,h4⟩=>by subst hv hH;exact K gc cur h1 h2 h3 h4)
 subst hw;obtain⟨gc,cur,w',h1,h2,h3,h4⟩:=F6 (w:=w) ht ht2 hi hsz hz hzs hzl hpos ho (hf.eval hx) (hf.eval hy) hcp hm hcl hcs hfit hml;exact⟨_,w',h1,⟨gc,cur,rfl,h3,h4⟩,h2⟩
theorem WL.vd{t e et:TypeId}{sx sy:Operand}{sz g off n m cp g2 o2 cp2:Nat}{cur:Array Value}{news:List Value}
  (ht:c.P.underlying t=some (.slice e))(hz:∀w,(sizeOf e).run c.P w= .ok sz w)(hg:o.guard= .none)(hd:o.dst=some d)(hlt:Nat.blt d c.n=true)(ho:o.op= .call {callee:= .builtin .append,args:= #[sx,sy],argTypes:= #[t,t]})
  (hx:Ev env sx (.slice (some ⟨g,off,none⟩) n cp))(hy:Ev env sy (.slice (some ⟨g2,o2,none⟩) m cp2))(hcp:n+m≤cp)(hnl:news.length=m*sz)(hc:∀j v,news[j]? =some v→NB.cell H g2 (o2+j)=some v)
  (hg':H[g]? =some (.cells cur et (0,0)))(hfit:off+n*sz+news.length≤cur.size)(hone:∀u∈news,u.oneCell'=true)
  (K:∀H',H'[g]? =some (.cells (cY cur (off+n*sz) news) et (0,0))→ak [g] H H'→WL c ops rest ((d,true,.slice (some ⟨g,off,none⟩) (n+m) cp)::env) H' Q):WL c ops (o::rest) env H Q:=by
 refine WL.og (Φ:=fun v H'=>v= .slice (some ⟨g,off,none⟩) (n+m) cp∧H'[g]? =some (.cells (cY cur (off+n*sz) news) et (0,0))∧ak [g] H H') hg hd hlt (fun a w hf hw=>?_) (fun v H' ⟨hv,h1,h2⟩=>by subst hv;exact K H' h1 h2);subst hw;refine⟨_,w.setRow g (cY cur (off+n*sz) news),?_,⟨rfl,setRow_heap w g cur _ et _ hg',jZ w g _⟩,bd.of rfl rfl rfl⟩;have hst:=run_storeCells_at c.P g (off+n*sz) et news 0 cur w hg' (by simpa using hfit) hone;simp only[Nat.add_zero]at hst;have h1:=run_firstCells_some (P:=c.P) w sz m ⟨g2,o2,none⟩ m cp2 news hnl (fun j v hj=>by rw[Addr.add_lit,dg rfl];exact hc j v hj);unfold execOp;rw[ho];simp[resolve,invoke,builtin,hf.eval hx,hf.eval hy,Builtin.append_,run_underlying ht,hz,Builtin.lenOf,hcp,h1,Addr.add_lit,hst,cY]
theorem WL.vS{t e et:TypeId}{x:Operand}{z:Value}{zs:List Value}{sz g off n cp:Nat}{cur:Array Value}(ht:c.P.underlying t=some (.slice e))(hz:∀w,(zeroValue e).run c.P w= .ok z w)(hzs:z.cells=zs.toArray)(hzl:zs.length=sz)(hpos:0<sz)(hone:∀u∈zs,u.oneCell'=true)
  (hg:o.guard= .none)(hd:o.dst= .none)(ho:o.op= .call {callee:= .builtin .clear,args:= #[x],argTypes:= #[t]})(hx:Ev env x (.slice (some ⟨g,off,none⟩) n cp))(hn:0<n)(hg':H[g]? =some (.cells cur et (0,0)))(hfit:off+n*sz≤cur.size)
  (K:∀H' news,news.length=n*sz→H'[g]? =some (.cells (cY cur off news) et (0,0))→ak [g] H H'→WL c ops rest env H' Q):WL c ops (o::rest) env H Q:=by
 intro a w hf hw hA;subst hw;have hl:(List.replicate n zs).flatten.length=n*sz:=by simp[hzl]
 have hr:=zu (P:=c.P) (w:=w) ho (hf.eval hx) hn ht hz hzs hzl hpos hone hg' hfit;refine wpList_plain hg fun K' hK=>?_;unfold Oper.wp;rw[hr];simp only[Oper.upon,hd];refine hK _ _ (K _ (List.replicate n zs).flatten hl ?_ (jZ w g _) _ _ (show Fr c env (a.put none (.tuple #[]))from hf) rfl (hA.trans (bd.of rfl rfl rfl)));have:=setRow_heap w g cur (cur.toList.take off++(List.replicate n zs).flatten++cur.toList.drop (off+n*sz)).toArray et _ hg';rw[this];unfold cY;rw[hl]
end
theorem bP.zW{P:Program}{f:FuncId}{args:Array Value}{H:ab}{R:Value→ab→Prop}(h:bP P f args H R):lU false P f args H fun ok v H'=>ok=true∧R v H':=by
 intro w hw;have:=h w hw;unfold kY at this;unfold lV;split at this
 ·rename_i hr;rw[hr];exact⟨this.1,rfl,this.2⟩
 ·rename_i hr;rw[hr];exact⟨this.1,this.2.mono fun e w' ⟨v,h1,h2,h3⟩=>.inl ⟨v,h1,⟨rfl,h2⟩,.of h3⟩⟩
 ·exact this.elim
theorem bU.ptr{H:ab}{sz n k cap:Nat}{p q:Option Addr}{cs:List Value}(h:bU H sz (.slice p k cap) n cs)(hq:cap≠0→q=p):bU H sz (.slice q k cap) n cs∧aS (.slice q k cap)=aS (.slice p k cap):=by
 by_cases e:cap=0
 ·subst e;refine⟨⟨h.1,?_⟩,by cases p<;>cases q<;>rfl⟩;rcases h.2 with⟨p',e,hn⟩|⟨g,off,cap',cur,et,e,_⟩
  ·cases e;exact .inl ⟨q,rfl,hn⟩
  ·simp at e
 ·rw[hq e];exact⟨h,rfl⟩
theorem bU.val{H:ab}{sz n:Nat}{v:Value}{cs:List Value}(h:bU H sz v n cs):∃p cap,v= .slice p n cap:=by
 rcases h.2 with⟨p,rfl,rfl⟩|⟨g,off,cap,cur,e,rfl,_⟩
 ·exact⟨p,0,rfl⟩
 ·exact⟨_,_,rfl⟩
theorem rC{E:En}{F:Nat→Prop}{γ:List Value}{ah:List B}{H:ab}{j sz:Nat}{α:Type}{enc:α→List C}{l:List α}{v:Value}(hW:WR E F γ ah H)(hj:ah[j]? =some (.row sz α enc l))(hv:RL F H ⟨E.B,γ⟩ [.rw j] [v]):
  ∃g cs,γ[j]? =some g∧bU H sz v l.length cs∧RL F H m0 (l.flatMap enc) cs∧(∀x∈l,(enc x).length=sz)∧aS v=ax (.row sz α enc l) g:=by
 cases hv with
 | @rw _ _ p q n cap _ _ hg hq _=>
  obtain⟨cs,h1,h2,h3⟩:=oE (hW.br j _ _ hj hg);obtain⟨h4,h5⟩:=h1.ptr hq;exact⟨_,cs,hg,h4,h2,h3,h5.trans (kL _).symm⟩
def An(P:Program)(f:FuncId)(sz:Nat):Prop:=
 ∀{H:ab} {v0 v1:Value} {n i:Nat} {cs us:List Value},bU H sz v0 n cs→bU H sz v1 1 us→(∀b∈aS v0,b∉aS v1)→i≤n→n≤1000000→(∀u∈cs,u.oneCell'=true)→(∀u∈us,u.oneCell'=true)→
  bP P f #[v0,iv i,v1] H fun v H'=>bU H' sz v (n+1) (cs.take (i*sz)++us++cs.drop (i*sz))∧ak (aS v0) H H'∧∀b∈aS v,b∈aS v0∨H.size≤b
def Am(P:Program)(f:FuncId)(sz:Nat):Prop:=
 ∀{H:ab} {v0:Value} {n i:Nat} {cs:List Value},bU H sz v0 n cs→i<n→n≤1000000→(∀u∈cs,u.oneCell'=true)→
  bP P f #[v0,iv i,iv (i+1:Nat)] H fun v H'=>bU H' sz v (n-1) (cs.take (i*sz)++cs.drop ((i+1)*sz))∧ak (aS v0) H H'∧∀b∈aS v,b∈aS v0∨H.size≤b
theorem ae.yB{P:Program}{f:FuncId}{sz:Nat}(hraw:An P f sz){α:Type}{enc:α→List C}(l:List α)(x:α)(i:Nat)(hi:i≤l.length)(hn:l.length≤1000000):
  ae P f [.c (.rw 0),.c (.int .i64 i),.c (.rw 1)] [.row sz α enc l,.row sz α enc [x]] (Rt (.c (.rw 2)) [.dead,.row sz α enc [x],.row sz α enc (l.take i++x::l.drop i)]):=by
 intro F L γ H vs hargs hW;match vs,hargs with
 |[v0,vi,v1],⟨hv0,hvi,hv1,_⟩=>
  obtain⟨g0,cs,hg0,r0,l0,z0,o0⟩:=rC hW rfl hv0;obtain⟨g1,us,hg1,r1,l1,z1,o1⟩:=rC hW rfl hv1;cases hvi with
  |int _=>
   refine(bP.zW (hraw r0 r1 (by rw[o0,o1];exact fun b hb=>hW.cK 0 1 _ _ _ _ (by decide) rfl hg0 rfl hg1 b hb) hi hn l0.one l1.one)).mono fun ok v H' ⟨hok,q1,q2,q3⟩=>?_;subst hok;rw[o0]at q2 q3;have ex:=hW.ext (γ':=[]) (W:=ax (.row sz α enc l) g0) (fun q hq=>hW.nf 0 _ _ q rfl hg0 hq) q2;have hl:(l.take i++x::l.drop i).length=l.length+1:=by simp;omega
   have hrl:RL F H m0 ((l.take i++x::l.drop i).flatMap enc) (cs.take (i*sz)++us++cs.drop (i*sz)):=by
    have e:(l.take i++x::l.drop i).flatMap enc=(l.flatMap enc).take (i*sz)++[x].flatMap enc++(l.flatMap enc).drop (i*sz):=by
     rw[mc i z0,ln i z0];simp
    rw[e];exact((l0.take _).append l1).append (l0.drop _)
   have hzz:∀y∈l.take i++x::l.drop i,(enc y).length=sz:=fun y hy=>by
    rcases List.mem_append.1 hy with h|h
    ·exact z0 y (List.mem_of_mem_take h)
    ·rcases List.mem_cons.1 h with rfl|h
     ·exact z1 _ (by simp)
     ·exact z0 y (List.mem_of_mem_drop h)
   have hbr:BR F H' ⟨L,γ++[v]⟩ (.row sz α enc (l.take i++x::l.drop i)) v:=pI q1 hl.symm (hrl.ext ex.m0) hzz;have hW2:=hW.move (b2:= .row sz α enc (l.take i++x::l.drop i)) (g2:=v) rfl hg0 q2 (by rw[kL];exact q3) hbr;obtain⟨p,cap,rfl⟩:=q1.val;have hγ:γ.length=2:=hW.len;refine⟨.ret (.c (.rw 2)),_,F,γ++[.slice p (l.length+1) cap],⟨rfl,rfl⟩,rfl,rfl,rfl,?_,hW2⟩;exact .rw (by show(γ++[_])[2]? =_;rw[←hγ];simp) (fun _=>rfl) .nl
theorem ae.yA{P:Program}{f:FuncId}{sz:Nat}(hraw:Am P f sz){α:Type}{enc:α→List C}(l:List α)(i:Nat)(hi:i<l.length)(hn:l.length≤1000000):
  ae P f [.c (.rw 0),.c (.int .i64 i),.c (.int .i64 (i+1:Nat))] [.row sz α enc l] (Rt (.c (.rw 1)) [.dead,.row sz α enc (l.take i++l.drop (i+1))]):=by
 intro F L γ H vs hargs hW;match vs,hargs with
 |[v0,vi,vj],⟨hv0,hvi,hvj,_⟩=>
  obtain⟨g0,cs,hg0,r0,l0,z0,o0⟩:=rC hW rfl hv0;cases hvi with
  |int _=>
  cases hvj with
  |int _=>
   refine(bP.zW (hraw r0 hi hn l0.one)).mono fun ok v H' ⟨hok,q1,q2,q3⟩=>?_;subst hok;rw[o0]at q2 q3;have ex:=hW.ext (γ':=[]) (W:=ax (.row sz α enc l) g0) (fun q hq=>hW.nf 0 _ _ q rfl hg0 hq) q2;have hl:(l.take i++l.drop (i+1)).length=l.length-1:=by simp;omega
   have hrl:RL F H m0 ((l.take i++l.drop (i+1)).flatMap enc) (cs.take (i*sz)++cs.drop ((i+1)*sz)):=by
    rw[List.flatMap_append,←mc i z0,←ln (i+1) z0];exact(l0.take _).append (l0.drop _)
   have hzz:∀y∈l.take i++l.drop (i+1),(enc y).length=sz:=fun y hy=>by
    rcases List.mem_append.1 hy with h|h
    ·exact z0 y (List.mem_of_mem_take h)
    ·exact z0 y (List.mem_of_mem_drop h)
   have hbr:BR F H' ⟨L,γ++[v]⟩ (.row sz α enc (l.take i++l.drop (i+1))) v:=pI q1 hl.symm (hrl.ext ex.m0) hzz;have hW2:=hW.move (b2:= .row sz α enc (l.take i++l.drop (i+1))) (g2:=v) rfl hg0 q2 (by rw[kL];exact q3) hbr;obtain⟨p,cap,rfl⟩:=q1.val;have hγ:γ.length=1:=hW.len;refine⟨.ret (.c (.rw 1)),_,F,γ++[.slice p (l.length-1) cap],⟨rfl,rfl⟩,rfl,rfl,rfl,?_,hW2⟩;exact .rw (by show(γ++[_])[1]? =_;rw[←hγ];simp) (fun _=>rfl) .nl
end Go.AM
