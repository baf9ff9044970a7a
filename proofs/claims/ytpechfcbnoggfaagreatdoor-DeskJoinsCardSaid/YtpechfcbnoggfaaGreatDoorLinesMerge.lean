import Derived.Lib.Bytealg
open List renaming mem_cons->m,pairwise_cons->o
open Nat renaming le_succ->t
section
namespace Go.NB.L
def PA(n:Int):Int:=(n+9223372036854775808)%18446744073709551616-9223372036854775808
def total(l:List (List UInt8)):Int:=l.foldl (λs x=>PA (s+(x.length:Nat))) 0
def Qh(l:List (List UInt8)):Bool:=decide (60<l.length)||decide (3000<total (l.take 200))
def linesOf:List UInt8->List (List UInt8)
 |[]=>[]
 |b::r=>if b=10 then[b]::linesOf r else
  match linesOf r with
  |[]=>[[b]]
  |l::a=>(b::l)::a
def eE:List UInt8->Nat
 |[]=>0
 |b::r=>if b=10 then 1 else eE r+1
theorem Jn(l:List UInt8):eE l<=l.length:=by
 induction l with
 |nil=>simp[eE]
 |cons b r ih=>unfold eE;split<;>simp<;>omega
theorem Bw(l:List UInt8)(h:l≠[]):0<eE l:=by
 cases l with
 |nil=>exact absurd rfl h
 |cons b r=>unfold eE;split<;>omega
theorem CM(l:List UInt8)(h:l≠[]):linesOf l=l.take (eE l)::linesOf (l.drop (eE l)):=by
 induction l with
 |nil=>exact absurd rfl h
 |cons b r ih=>
  rw[linesOf,eE];by_cases hb:b=10
  ·rw[if_pos hb,if_pos hb];simp
  ·rw[if_neg hb,if_neg hb];by_cases a:r=[]
   ·subst a;simp[linesOf,eE]
   ·rw[ih a];simp
theorem B9(l:List UInt8):(Lib.indexByte l 10= -1->eE l=l.length)/\(Lib.indexByte l 10≠-1->Lib.indexByte l 10+1=(eE l:Int)):=by
 induction l with
 |nil=>simp[Lib.indexByte,eE]
 |cons b r ih=>
  unfold Lib.indexByte eE;by_cases hb:b=10
  ·subst hb;simp
  ·have c:(b==10)=false:=by simpa using hb
   rw[c,if_neg hb];simp only[Bool.false_eq_true,if_false,List.length_cons];by_cases a:Lib.indexByte r 10= -1
   ·have:=ih.1 a;simp[a];exact this
   ·have:=ih.2 a;have d:(Lib.indexByte r 10== -1)=false:=by simpa using a
    simp only[d,Bool.false_eq_true,if_false];have e:=Lib.indexByte_ge r 10;refine⟨λh=>by omega,λ_=>by omega⟩
theorem J7(l:List UInt8)(c:UInt8):Lib.indexByte l c<l.length\/l=[]/\Lib.indexByte l c= -1:=by
 induction l with
 |nil=>exact .inr ⟨rfl,rfl⟩
 |cons b r ih=>
  left;unfold Lib.indexByte;split
  ·simp;try omega
  ·split
   ·simp;try omega
   ·rcases ih with h|⟨h,e⟩
    ·simp;omega
    ·rw[e];simp;try omega
theorem ot(l:List UInt8):(linesOf l).length<=l.length:=by
 induction l with
 |nil=>simp[linesOf]
 |cons b r ih=>
  unfold linesOf;split
  ·simp;omega
  ·split
   ·simp
   ·rename_i h;rw[h]at ih;simp at ih⊢;omega
section
variable {α:Type}
def at_(a:List (Nat×Nat))(k:Nat):Int:=match a.find? (λp=>p.1==k)with|some p=>p.2|none=> -1
end
section
variable {α:Type} [DecidableEq α]
def lcs:List α->List α->Nat
 |[],_=>0
 |_::_,[]=>0
 |x::c,y::d=>if x=y then lcs c d+1 else max (lcs c (y::d)) (lcs (x::c) d)
termination_by a b=>a.length+b.length
theorem mf(b:List α):lcs [] b=0:=by rw[lcs]
theorem nz(a:List α):lcs a []=0:=by cases a<;>rw[lcs]
theorem oq(x y:α)(xs ys:List α):lcs (x::xs) (y::ys)=if x=y then lcs xs ys+1 else max (lcs xs (y::ys)) (lcs (x::xs) ys):=by rw[lcs]
theorem pC(a b:List α):(∀x,lcs a b<=lcs (x::a) b/\lcs (x::a) b<=lcs a b+1)/\(∀y,lcs a b<=lcs a (y::b)/\lcs a (y::b)<=lcs a b+1):=by
 match a,b with
 |[],[]=>simp[mf,nz]
 |[],z::c=>
  have ih:=pC ([]:List α) c;refine⟨λx=>?_,λy=>by simp[mf]⟩;rw[oq,mf];split
  ·simp[mf]
  ·have:=(ih.1 x).2;simp[mf]at this⊢;exact this
 |w::as,[]=>
  have ih:=pC as ([]:List α);refine⟨λx=>by simp[nz],λy=>?_⟩;rw[oq,nz];split
  ·simp[nz]
  ·have:=(ih.2 y).2;simp[nz]at this⊢;exact this
 |w::as,z::c=>
  have h:=pC as c;have d:=pC as (z::c);have e:=pC (w::as) c;refine⟨λx=>?_,λy=>?_⟩
  ·rw[oq x z];split
   ·refine⟨?_,?_⟩
    ·exact(e.2 z).2
    ·exact Nat.succ_le_succ ((e.2 z).1)
   ·refine⟨Nat.le_max_left _ _,Nat.max_le.2 ⟨t _,?_⟩⟩;have f:=(e.1 x).2;have g:=(e.2 z).1;omega
  ·rw[oq w y];split
   ·refine⟨?_,?_⟩
    ·exact(d.1 w).2
    ·exact Nat.succ_le_succ ((d.1 w).1)
   ·refine⟨Nat.le_max_right _ _,Nat.max_le.2 ⟨?_,t _⟩⟩;have f:=(d.2 y).2;have g:=(d.1 w).1;omega
termination_by a.length+b.length
theorem KQ(a b:List α):lcs a b<=a.length:=by
 induction a with
 |nil=>simp[mf]
 |cons x a ih=>have:=(pC a b).1 x;simp;omega
theorem w9(a b:List α):lcs a b=lcs b a:=by
 match a,b with
 |[],b=>rw[mf,nz]
 |x::c,[]=>rw[nz,mf]
 |x::c,y::d=>
  have f:=w9 c d;have g:=w9 c (y::d);have i:=w9 (x::c) d;rw[oq,oq];by_cases h:x=y
  ·rw[if_pos h,if_pos h.symm,f]
  ·rw[if_neg h,if_neg (λe=>h e.symm),g,i,Nat.max_comm]
termination_by a.length+b.length
def pairs:List α->List α->Nat->Nat->List (Nat×Nat)
 |[],_,_,_=>[]
 |_::_,[],_,_=>[]
 |x::c,y::d,i,j=>
  if x=y then(i,j)::pairs c d (i+1) (j+1)
  else if lcs (x::c) d<=lcs c (y::d)then pairs c (y::d) (i+1) j else pairs (x::c) d i (j+1)
termination_by a b=>a.length+b.length
theorem xM(b:List α)(i j:Nat):pairs [] b i j=[]:=by rw[pairs]
theorem xN(a:List α)(i j:Nat):pairs a [] i j=[]:=by cases a<;>rw[pairs]
theorem xL(x y:α)(xs ys:List α)(i j:Nat):pairs (x::xs) (y::ys) i j=
  if x=y then(i,j)::pairs xs ys (i+1) (j+1)
  else if lcs (x::xs) ys<=lcs xs (y::ys)then pairs xs (y::ys) (i+1) j else pairs (x::xs) ys i (j+1):=by rw[pairs]
theorem ry(a b:List α)(i j:Nat):∀p∈pairs a b i j,i<=p.1/\p.1<i+a.length/\j<=p.2/\p.2<j+b.length/\a[p.1-i]? =b[p.2-j]? :=by
 match a,b with
 |[],b=>rw[xM];intro p h;cases h
 |x::d,[]=>rw[xN];intro p h;cases h
 |x::d,y::g=>
  rw[xL];intro p hp;split at hp
  ·rename_i h;rcases m.1 hp with rfl|hp
   ·simp[h]
   ·obtain⟨k,e,l,f,c⟩:=ry d g (i+1) (j+1) p hp;refine⟨by omega,by simp;omega,by omega,by simp;omega,?_⟩;rw[show p.1-i=(p.1-(i+1))+1 by omega,show p.2-j=(p.2-(j+1))+1 by omega];simpa using c
  ·split at hp
   ·obtain⟨k,e,l,f,c⟩:=ry d (y::g) (i+1) j p hp;refine⟨by omega,by simp;omega,by omega,by simpa using f,?_⟩;rw[show p.1-i=(p.1-(i+1))+1 by omega];simpa using c
   ·obtain⟨k,e,l,f,c⟩:=ry (x::d) g i (j+1) p hp;refine⟨by omega,by simpa using e,by omega,by simp;omega,?_⟩;rw[show p.2-j=(p.2-(j+1))+1 by omega];simpa using c
termination_by a.length+b.length
theorem ub(a b:List α)(i j:Nat):(pairs a b i j).Pairwise λp q=>p.1<q.1/\p.2<q.2:=by
 match a,b with
 |[],b=>rw[xM];exact .nil
 |x::c,[]=>rw[xN];exact .nil
 |x::c,y::d=>
  rw[xL];split
  ·refine o.2 ⟨λq e=>?_,ub c d _ _⟩;have:=ry c d (i+1) (j+1) q e;exact⟨by omega,by omega⟩
  ·split
   ·exact ub c (y::d) _ _
   ·exact ub (x::c) d _ _
termination_by a.length+b.length
end
theorem at_mem{d:List (Nat×Nat)}{k p:Nat}(h:at_ d k=p):(k,p)∈d:=by
 unfold at_ at h;split at h
 ·rename_i u c;have a:=List.find?_some c;have e:=List.mem_of_find?_eq_some c;simp at a;have b:u.2=p:=by omega
  obtain⟨f,g⟩:=u;simp at a b;subst a b;exact e
 ·omega
def fl(a:List (Nat×Nat)):Prop:=a.Pairwise λp q=>p.1<q.1/\p.2<q.2
theorem fl.lt{a:List (Nat×Nat)}(h:fl a){u v:Nat×Nat}(e:u∈a)(hv:v∈a)(hl:u.1<v.1):u.2<v.2:=by
 induction a with
 |nil=>cases e
 |cons w a ih=>
  obtain⟨d,f⟩:=o.1 h;rcases m.1 e with b|hu'<;>rcases m.1 hv with c|hv'
  ·rw[b,c]at hl;omega
  ·rw[b];exact(d v hv').2
  ·have:=(d u hu').1;rw[c]at hl;omega
  ·exact ih f hu' hv'
abbrev Ls:=List (List UInt8)
def mix(old one a:Ls):Option Ls:=if old=one\/one=a then some a else if old=a then some one else none
def cut(l:Ls)(i n:Nat):Ls:=(l.take n).drop i
def heldFrom(x y:List (Nat×Nat))(len n:Nat):List (Nat×Nat×Nat):=
 (List.range' n (len-n)).filterMap λn=>if 0<=at_ x n/\0<=at_ y n then some (n,(at_ x n).toNat,(at_ y n).toNat)else none
def go(base a b:Ls):List (Nat×Nat×Nat)->Nat->Nat->Nat->Option Ls
 |[],i,j,k=>mix (cut base i base.length) (cut a j a.length) (cut b k b.length)
 |(n,p,q)::d,i,j,k=>
  match mix (cut base i n) (cut a j p) (cut b k q)with
  |none=>none
  |some c=>(go base a b d (n+1) (p+1) (q+1)).map λr=>c++base[n]?.toList++r
def merge(base a b:Ls):Option Ls:=go base a b (heldFrom (pairs base a 0 0) (pairs base b 0 0) base.length 0) 0 0 0
def rest(base a b:Ls)(n i j k:Nat):Option Ls:=
 if n<=base.length then go base a b (heldFrom (pairs base a 0 0) (pairs base b 0 0) base.length n) i j k else some []
theorem Nq(base a b:Ls):rest base a b 0 0 0 0=merge base a b:=by unfold rest;rw[if_pos (by omega)];rfl
theorem B3(x y:List (Nat×Nat))(len n:Nat)(h:n<len):heldFrom x y len n=
  (if 0<=at_ x n/\0<=at_ y n then(n,(at_ x n).toNat,(at_ y n).toNat)::heldFrom x y len (n+1)else heldFrom x y len (n+1)):=by
 unfold heldFrom;rw[show len-n=(len-(n+1))+1 by omega,List.range'_succ,List.filterMap_cons];by_cases a:0<=at_ x n/\0<=at_ y n
 ·rw[if_pos a,if_pos a]
 ·rw[if_neg a,if_neg a]
theorem Np{base a b:Ls}{n i j k:Nat}(h:n<base.length)(hc:at_ (pairs base a 0 0) n<0\/at_ (pairs base b 0 0) n<0):rest base a b n i j k=rest base a b (n+1) i j k:=by
 unfold rest;rw[if_pos (by omega),if_pos (by omega),B3 _ _ _ _ h,if_neg (by omega)]
theorem Ee{base a b:Ls}{n i j k p q:Nat}(h:n<base.length)(d:at_ (pairs base a 0 0) n=p)(hq:at_ (pairs base b 0 0) n=q):
  rest base a b n i j k=match mix (cut base i n) (cut a j p) (cut b k q)with
   |none=>none
   |some c=>(rest base a b (n+1) (n+1) (p+1) (q+1)).map λr=>c++base[n]?.toList++r:=by
 unfold rest;rw[if_pos (by omega),if_pos (by omega),B3 _ _ _ _ h,if_pos ⟨by omega,by omega⟩,go,d,hq];simp only[Int.toNat_natCast]
theorem rest_end{base a b:Ls}{i j k:Nat}:rest base a b base.length i j k=mix (cut base i base.length) (cut a j a.length) (cut b k b.length):=by
 unfold rest heldFrom;rw[if_pos (by omega),Nat.sub_self];rfl
theorem Ef{base a b:Ls}{i j k:Nat}:rest base a b (base.length+1) i j k=some []:=by
 unfold rest;rw[if_neg (by omega)]
theorem sM(l:Ls)(i n:Nat)(h:n<=l.length):(cut l i n).length=n-i:=by
 unfold cut;rw[List.length_drop,List.length_take];omega
theorem tN{old one a:Ls}(h:old=one\/one=a):mix old one a=some a:=if_pos h
theorem C6{old one a:Ls}(h:¬(old=one\/one=a))(h2:old=a):mix old one a=some one:=by unfold mix;rw[if_neg h,if_pos h2]
theorem C5{old one a:Ls}(h:¬(old=one\/one=a))(h2:¬old=a):mix old one a=none:=by unfold mix;rw[if_neg h,if_neg h2]
theorem OO{base a b out:Ls}{n i j k p q:Nat}{c:Ls}(d:merge base a b=(rest base a b n i j k).map λr=>out++r)(h:n<base.length)(e:at_ (pairs base a 0 0) n=p)(hq:at_ (pairs base b 0 0) n=q)
  (hm:mix (cut base i n) (cut a j p) (cut b k q)=some c):merge base a b=(rest base a b (n+1) (n+1) (p+1) (q+1)).map λr=>((out++c)++[base[n]])++r:=by
 rw[d,Ee h e hq,hm];simp only[Option.map_map];congr 1
 funext r;simp[h]
theorem step_end{base a b out:Ls}{i j k i' e f:Nat}{c:Ls}(d:merge base a b=(rest base a b base.length i j k).map λr=>out++r)
  (hm:mix (cut base i base.length) (cut a j a.length) (cut b k b.length)=some c):merge base a b=(rest base a b (base.length+1) i' e f).map λr=>(out++c)++r:=by
 rw[d,rest_end,hm,Ef];simp
theorem I8{base a b out:Ls}{n i j k p q:Nat}(c:merge base a b=(rest base a b n i j k).map λr=>out++r)(h:n<base.length)(d:at_ (pairs base a 0 0) n=p)(hq:at_ (pairs base b 0 0) n=q)
  (hm:mix (cut base i n) (cut a j p) (cut b k q)=none):merge base a b=none:=by
 rw[c,Ee h d hq,hm];rfl
theorem I7{base a b out:Ls}{i j k:Nat}(c:merge base a b=(rest base a b base.length i j k).map λr=>out++r)
  (hm:mix (cut base i base.length) (cut a j a.length) (cut b k b.length)=none):merge base a b=none:=by
 rw[c,rest_end,hm];rfl
end Go.NB.L
end
