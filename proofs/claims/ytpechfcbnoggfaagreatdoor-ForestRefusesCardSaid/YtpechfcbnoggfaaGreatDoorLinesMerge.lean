/- part -/
import Derived.Lib.Bytealg
import Derived.Test.YtpechfcbnoggfaaGreatDoorLcs
section
namespace Go.NB.L
def Hn(n:Int):Int:=(n+9223372036854775808)%18446744073709551616-9223372036854775808
def total(l:List (List UInt8)):Int:=l.foldl (fun s x=>Hn (s+(x.length:Nat))) 0
def HS(l:List (List UInt8)):Bool:=decide (60<l.length)||decide (3000<total (l.take 200))
def linesOf:List UInt8→List (List UInt8)
 |[]=>[]
 |b::r=>if b=10 then[b]::linesOf r else
  match linesOf r with
  |[]=>[[b]]
  |l::ls=>(b::l)::ls
def cC:List UInt8→Nat
 |[]=>0
 |b::r=>if b=10 then 1 else cC r+1
theorem CK(l:List UInt8):cC l≤l.length:=by
 induction l with
 |nil=>simp[cC]
 |cons b r ih=>unfold cC;split<;>simp<;>omega
theorem wW(l:List UInt8)(h:l≠[]):0<cC l:=by
 cases l with
 |nil=>exact absurd rfl h
 |cons b r=>unfold cC;split<;>omega
theorem p9(l:List UInt8)(h:l≠[]):linesOf l=l.take (cC l)::linesOf (l.drop (cC l)):=by
 induction l with
 |nil=>exact absurd rfl h
 |cons b r ih=>
  rw[linesOf,cC];by_cases hb:b=10
  ·rw[if_pos hb,if_pos hb];simp
  ·rw[if_neg hb,if_neg hb];by_cases hr:r=[]
   ·subst hr;simp[linesOf,cC]
   ·rw[ih hr];simp
theorem xB(l:List UInt8):(Lib.indexByte l 10= -1→cC l=l.length)∧(Lib.indexByte l 10≠-1→Lib.indexByte l 10+1=(cC l:Int)):=by
 induction l with
 |nil=>simp[Lib.indexByte,cC]
 |cons b r ih=>
  unfold Lib.indexByte cC;by_cases hb:b=10
  ·subst hb;simp
  ·have hb':(b==10)=false:=by simpa using hb
   rw[hb',if_neg hb];simp only[Bool.false_eq_true,if_false,List.length_cons];by_cases hr:Lib.indexByte r 10= -1
   ·have:=ih.1 hr;simp[hr];exact this
   ·have:=ih.2 hr;have hr':(Lib.indexByte r 10== -1)=false:=by simpa using hr
    simp only[hr',Bool.false_eq_true,if_false];have hge:=Lib.indexByte_ge r 10;refine⟨fun h=>by omega,fun _=>by omega⟩
theorem Dq(l:List UInt8)(c:UInt8):Lib.indexByte l c<l.length∨l=[]∧Lib.indexByte l c= -1:=by
 induction l with
 |nil=>exact .inr ⟨rfl,rfl⟩
 |cons b r ih=>
  left;unfold Lib.indexByte;split
  ·simp;try omega
  ·split
   ·simp;try omega
   ·rcases ih with h|⟨h,e⟩
    ·simp;omega
    ·rw[e];simp;try omega
theorem lC(l:List UInt8):(linesOf l).length≤l.length:=by
 induction l with
 |nil=>simp[linesOf]
 |cons b r ih=>
  unfold linesOf;split
  ·simp;omega
  ·split
   ·simp
   ·rename_i h;rw[h]at ih;simp at ih⊢;omega
theorem wV(cur r:List UInt8)(h:(10:UInt8)∉cur):cC (cur++r)=cur.length+cC r:=by
 induction cur with
 |nil=>simp
 |cons b c ih=>
  simp at h;rw[List.cons_append,cC,if_neg (fun e=>h.1 e.symm),ih h.2];simp;omega
theorem x7(cur r:List UInt8)(h:(10:UInt8)∉cur):linesOf (cur++(10:UInt8)::r)=(cur++[10])::linesOf r:=by
 rw[p9 _ (by simp),wV _ _ h];have e:cC ((10:UInt8)::r)=1:=by simp[cC]
 rw[e,show cur++(10:UInt8)::r=(cur++[10])++r by simp,List.take_left' (by simp),List.drop_left' (by simp)]
theorem x8(cur:List UInt8)(x:UInt8)(h:(10:UInt8)∉cur):linesOf (cur++[x])=[cur++[x]]:=by
 have e:cC [x]=1:=by unfold cC;split<;>simp[cC]
 rw[p9 _ (by simp),wV _ _ h,e,List.take_of_length_le (by simp),List.drop_of_length_le (by simp)];rfl
section
variable {α:Type}
def fm(p:α→Bool):List α→Int
 |[]=> -1
 |x::xs=>bif p x then 0 else bif fm p xs== -1 then-1 else fm p xs+1
theorem wS{p:α→Bool}{xs:List α}(h:∀x∈xs,p x=false):fm p xs= -1:=by
 induction xs with
 |nil=>rfl
 |cons x xs ih=>
  rw[fm,h x (by simp),ih (fun y hy=>h y (by simp[hy]))];rfl
theorem wT{p:α→Bool}{xs:List α}{i:Nat}(hi:i<xs.length)(h:p xs[i]=true)(hb:∀j (h:j<i),p xs[j]=false):fm p xs=i:=by
 induction xs generalizing i with
 |nil=>simp at hi
 |cons x xs ih=>
  cases i with
  |zero=>
   rw[fm];simp at h;rw[h];rfl
  |succ i=>
   have h0:=hb 0 (by omega);simp at h0 hi h;rw[fm,h0,ih hi h (fun j hj=>by have:=hb (j+1) (by omega);simpa using this)];have e:((i:Int)== -1)=false:=by simp<;>omega
   simp[e]
theorem sE(p:α→Bool)(xs:List α):fm p xs= -1∧(∀x∈xs,p x=false)∨∃i:Nat,∃h:i<xs.length,fm p xs=i∧p xs[i]=true∧∀j (h:j<i),p xs[j]=false:=by
 induction xs with
 |nil=>exact .inl ⟨rfl,by simp⟩
 |cons x xs ih=>
  by_cases hx:p x=true
  ·exact .inr ⟨0,by simp,by rw[fm,hx];rfl,by simpa using hx,fun j h=>by omega⟩
  ·rw[Bool.not_eq_true]at hx;rcases ih with⟨h1,h2⟩|⟨i,hi,h1,h2,h3⟩
   ·refine .inl ⟨by rw[fm,hx,h1];rfl,fun y hy=>?_⟩;rcases List.mem_cons.1 hy with rfl|hy
    ·exact hx
    ·exact h2 y hy
   ·refine .inr ⟨i+1,by simpa using hi,?_,by simpa using h2,fun j h=>?_⟩
    ·have e:((i:Int)== -1)=false:=by simp<;>omega
     rw[fm,hx,h1];simp[e]
    ·cases j with
     |zero=>simpa using hx
     |succ j=>simpa using h3 j (by omega)
def iB(p:α→α→Bool):List α→List α→Bool
 |[],[]=>true
 |x::xs,y::ys=>p x y&&iB p xs ys
 |_,_=>false
theorem pB{p:α→α→Bool}{a b:List α}(h:a.length≠b.length):iB p a b=false:=by
 induction a generalizing b with
 |nil=>cases b with
  |nil=>simp at h
  |cons=>rfl
 |cons x a ih=>cases b with
  |nil=>rfl
  |cons y b=>rw[iB,ih (by simpa using h),Bool.and_false]
theorem pC{p:α→α→Bool}{a b:List α}{i:Nat}(h1:i<a.length)(h2:i<b.length)(h:p a[i] b[i]=false):iB p a b=false:=by
 induction a generalizing b i with
 |nil=>simp at h1
 |cons x a ih=>cases b with
  |nil=>rfl
  |cons y b=>
   cases i with
   |zero=>simp at h;rw[iB,h,Bool.false_and]
   |succ i=>rw[iB,ih (i:=i) (by simpa using h1) (by simpa using h2) (by simpa using h),Bool.and_false]
theorem pD{p:α→α→Bool}{a b:List α}(hl:a.length=b.length)(h:∀i (h1:i<a.length) (h2:i<b.length),p a[i] b[i]=true):iB p a b=true:=by
 induction a generalizing b with
 |nil=>cases b with
  |nil=>rfl
  |cons=>simp at hl
 |cons x a ih=>cases b with
  |nil=>simp at hl
  |cons y b=>
   have h0:=h 0 (by simp) (by simp);simp at h0;rw[iB,h0,ih (by simpa using hl) (fun i h1 h2=>by have:=h (i+1) (by simpa using h1) (by simpa using h2);simpa using this)];rfl
theorem Cf[DecidableEq α](a b:List α):iB (fun x y=>decide (x=y)) a b=decide (a=b):=by
 by_cases h:a=b
 ·subst h;rw[pD rfl (fun i _ _=>by simp)];simp
 ·rw[decide_eq_false h];by_cases hl:a.length=b.length
  ·rcases Bool.eq_false_or_eq_true (iB (fun x y=>decide (x=y)) a b)with e|e
   ·exfalso;apply h;refine List.ext_getElem hl fun i h1 h2=>?_;rcases Classical.em (a[i]=b[i])with h3|h3
    ·exact h3
    ·rw[pC (i:=i) h1 h2 (by simpa using h3)]at e;cases e
   ·exact e
  ·exact pB hl
def at_(ps:List (Nat×Nat))(k:Nat):Int:=match ps.find? (fun p=>p.1==k)with|some p=>p.2|none=> -1
theorem vA{ps:List (Nat×Nat)}{k:Nat}(h:fm (fun p=>decide ((p.1:Int)=k)) ps<0):at_ ps k= -1:=by
 rcases sE (fun p:Nat×Nat=>decide ((p.1:Int)=k)) ps with⟨_,h2⟩|⟨i,hi,h1,_⟩
 ·unfold at_
  have:ps.find? (fun p=>p.1==k)=none:=List.find?_eq_none.2 fun p hp=>by
   have:=h2 p hp;simp at this⊢;omega
  rw[this]
 ·omega
theorem vB{ps:List (Nat×Nat)}{k i:Nat}(hi:i<ps.length)(h:fm (fun p=>decide ((p.1:Int)=k)) ps=i):at_ ps k=ps[i].2:=by
 rcases sE (fun p:Nat×Nat=>decide ((p.1:Int)=k)) ps with⟨h1,h2⟩|⟨j,hj,h1,h2,h3⟩
 ·omega
 ·obtain rfl:i=j:=by omega
  unfold at_
  have:ps.find? (fun p=>p.1==k)=some ps[i]:=by
   rw[List.find?_eq_some_iff_getElem];refine⟨by simp at h2⊢;omega,i,hi,rfl,fun j hj'=>?_⟩;have:=h3 j hj';simp at this⊢;omega
  rw[this]
end
end Go.NB.L
end
section
namespace Go.NB.L
theorem at_mem{ps:List (Nat×Nat)}{k p:Nat}(h:at_ ps k=p):(k,p)∈ps:=by
 unfold at_ at h;split at h
 ·rename_i u hu;have h1:=List.find?_some hu;have h2:=List.mem_of_find?_eq_some hu;simp at h1;have h3:u.2=p:=by omega
  obtain⟨u1,u2⟩:=u;simp at h1 h3;subst h1 h3;exact h2
 ·omega
def eC(ps:List (Nat×Nat)):Prop:=ps.Pairwise fun p q=>p.1<q.1∧p.2<q.2
theorem eC.lt{ps:List (Nat×Nat)}(h:eC ps){u v:Nat×Nat}(hu:u∈ps)(hv:v∈ps)(hl:u.1<v.1):u.2<v.2:=by
 induction ps with
 |nil=>cases hu
 |cons w ps ih=>
  obtain⟨h1,h2⟩:=List.pairwise_cons.1 h;rcases List.mem_cons.1 hu with e1|hu'<;>rcases List.mem_cons.1 hv with e2|hv'
  ·rw[e1,e2]at hl;omega
  ·rw[e1];exact(h1 v hv').2
  ·have:=(h1 u hu').1;rw[e2]at hl;omega
  ·exact ih h2 hu' hv'
abbrev Ls:=List (List UInt8)
def mix(old one two:Ls):Option Ls:=if old=one∨one=two then some two else if old=two then some one else none
def cut(l:Ls)(i n:Nat):Ls:=(l.take n).drop i
def heldFrom(x y:List (Nat×Nat))(len n:Nat):List (Nat×Nat×Nat):=
 (List.range' n (len-n)).filterMap fun n=>if 0≤at_ x n∧0≤at_ y n then some (n,(at_ x n).toNat,(at_ y n).toNat)else none
def go(base a b:Ls):List (Nat×Nat×Nat)→Nat→Nat→Nat→Option Ls
 |[],i,j,k=>mix (cut base i base.length) (cut a j a.length) (cut b k b.length)
 |(n,p,q)::hs,i,j,k=>
  match mix (cut base i n) (cut a j p) (cut b k q)with
  |none=>none
  |some seg=>(go base a b hs (n+1) (p+1) (q+1)).map fun r=>seg++base[n]?.toList++r
def merge(base a b:Ls):Option Ls:=go base a b (heldFrom (pairs base a 0 0) (pairs base b 0 0) base.length 0) 0 0 0
def rest(base a b:Ls)(n i j k:Nat):Option Ls:=
 if n≤base.length then go base a b (heldFrom (pairs base a 0 0) (pairs base b 0 0) base.length n) i j k else some []
theorem FL(base a b:Ls):rest base a b 0 0 0 0=merge base a b:=by unfold rest;rw[if_pos (by omega)];rfl
theorem xv(x y:List (Nat×Nat))(len n:Nat)(h:n<len):heldFrom x y len n=
  (if 0≤at_ x n∧0≤at_ y n then(n,(at_ x n).toNat,(at_ y n).toNat)::heldFrom x y len (n+1)else heldFrom x y len (n+1)):=by
 unfold heldFrom;rw[show len-n=(len-(n+1))+1 by omega,List.range'_succ,List.filterMap_cons];by_cases hc:0≤at_ x n∧0≤at_ y n
 ·rw[if_pos hc,if_pos hc]
 ·rw[if_neg hc,if_neg hc]
theorem jW{base a b:Ls}{n i j k:Nat}(h:n<base.length)(hc:at_ (pairs base a 0 0) n<0∨at_ (pairs base b 0 0) n<0):rest base a b n i j k=rest base a b (n+1) i j k:=by
 unfold rest;rw[if_pos (by omega),if_pos (by omega),xv _ _ _ _ h,if_neg (by omega)]
theorem zf{base a b:Ls}{n i j k p q:Nat}(h:n<base.length)(hp:at_ (pairs base a 0 0) n=p)(hq:at_ (pairs base b 0 0) n=q):
  rest base a b n i j k=match mix (cut base i n) (cut a j p) (cut b k q)with
   |none=>none
   |some seg=>(rest base a b (n+1) (n+1) (p+1) (q+1)).map fun r=>seg++base[n]?.toList++r:=by
 unfold rest;rw[if_pos (by omega),if_pos (by omega),xv _ _ _ _ h,if_pos ⟨by omega,by omega⟩,go,hp,hq];simp only[Int.toNat_natCast]
theorem rest_end{base a b:Ls}{i j k:Nat}:rest base a b base.length i j k=mix (cut base i base.length) (cut a j a.length) (cut b k b.length):=by
 unfold rest heldFrom;rw[if_pos (by omega),Nat.sub_self];rfl
theorem qJ{base a b:Ls}{i j k:Nat}:rest base a b (base.length+1) i j k=some []:=by
 unfold rest;rw[if_neg (by omega)]
theorem bw(l:Ls)(i n:Nat)(h:n≤l.length):(cut l i n).length=n-i:=by
 unfold cut;rw[List.length_drop,List.length_take];omega
theorem eL{old one two:Ls}(h:old=one∨one=two):mix old one two=some two:=if_pos h
theorem eK{old one two:Ls}(h:¬(old=one∨one=two))(h2:old=two):mix old one two=some one:=by unfold mix;rw[if_neg h,if_pos h2]
theorem mM{old one two:Ls}(h:¬(old=one∨one=two))(h2:¬old=two):mix old one two=none:=by unfold mix;rw[if_neg h,if_neg h2]
theorem eP{base a b out:Ls}{n i j k p q:Nat}{seg:Ls}(hgo:merge base a b=(rest base a b n i j k).map fun r=>out++r)(h:n<base.length)(hp:at_ (pairs base a 0 0) n=p)(hq:at_ (pairs base b 0 0) n=q)
  (hm:mix (cut base i n) (cut a j p) (cut b k q)=some seg):merge base a b=(rest base a b (n+1) (n+1) (p+1) (q+1)).map fun r=>((out++seg)++[base[n]])++r:=by
 rw[hgo,zf h hp hq,hm];simp only[Option.map_map];congr 1
 funext r;simp[h]
theorem step_end{base a b out:Ls}{i j k i' j' k':Nat}{seg:Ls}(hgo:merge base a b=(rest base a b base.length i j k).map fun r=>out++r)
  (hm:mix (cut base i base.length) (cut a j a.length) (cut b k b.length)=some seg):merge base a b=(rest base a b (base.length+1) i' j' k').map fun r=>(out++seg)++r:=by
 rw[hgo,rest_end,hm,qJ];simp
theorem sq{base a b out:Ls}{n i j k p q:Nat}(hgo:merge base a b=(rest base a b n i j k).map fun r=>out++r)(h:n<base.length)(hp:at_ (pairs base a 0 0) n=p)(hq:at_ (pairs base b 0 0) n=q)
  (hm:mix (cut base i n) (cut a j p) (cut b k q)=none):merge base a b=none:=by
 rw[hgo,zf h hp hq,hm];rfl
theorem sn{base a b out:Ls}{i j k:Nat}(hgo:merge base a b=(rest base a b base.length i j k).map fun r=>out++r)
  (hm:mix (cut base i base.length) (cut a j a.length) (cut b k b.length)=none):merge base a b=none:=by
 rw[hgo,rest_end,hm];rfl
end Go.NB.L
end
