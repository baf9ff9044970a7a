/- part -/
namespace Go.NB.L
section
variable {α:Type} [DecidableEq α]
def lcs:List α→List α→Nat
 |[],_=>0
 |_::_,[]=>0
 |x::c,y::d=>if x=y then lcs c d+1 else max (lcs c (y::d)) (lcs (x::c) d)
termination_by a b=>a.length+b.length
theorem kB(b:List α):lcs [] b=0:=by rw[lcs]
theorem lF(a:List α):lcs a []=0:=by cases a<;>rw[lcs]
theorem mq(x y:α)(xs ys:List α):lcs (x::xs) (y::ys)=if x=y then lcs xs ys+1 else max (lcs xs (y::ys)) (lcs (x::xs) ys):=by rw[lcs]
theorem nP(a b:List α):(∀x,lcs a b≤lcs (x::a) b∧lcs (x::a) b≤lcs a b+1)∧(∀y,lcs a b≤lcs a (y::b)∧lcs a (y::b)≤lcs a b+1):=by
 match a,b with
 |[],[]=>simp[kB,lF]
 |[],z::c=>
  have ih:=nP ([]:List α) c;refine⟨fun x=>?_,fun y=>by simp[kB]⟩;rw[mq,kB];split
  ·simp[kB]
  ·have:=(ih.1 x).2;simp[kB]at this⊢;exact this
 |w::as,[]=>
  have ih:=nP as ([]:List α);refine⟨fun x=>by simp[lF],fun y=>?_⟩;rw[mq,lF];split
  ·simp[lF]
  ·have:=(ih.2 y).2;simp[lF]at this⊢;exact this
 |w::as,z::c=>
  have h:=nP as c;have d:=nP as (z::c);have e:=nP (w::as) c;refine⟨fun x=>?_,fun y=>?_⟩
  ·rw[mq x z];split
   ·refine⟨?_,?_⟩
    ·exact(e.2 z).2
    ·exact Nat.succ_le_succ ((e.2 z).1)
   ·refine⟨Nat.le_max_left _ _,Nat.max_le.2 ⟨Nat.le_succ _,?_⟩⟩;have f:=(e.1 x).2;have g:=(e.2 z).1;omega
  ·rw[mq w y];split
   ·refine⟨?_,?_⟩
    ·exact(d.1 w).2
    ·exact Nat.succ_le_succ ((d.1 w).1)
   ·refine⟨Nat.le_max_right _ _,Nat.max_le.2 ⟨?_,Nat.le_succ _⟩⟩;have f:=(d.2 y).2;have g:=(d.1 w).1;omega
termination_by a.length+b.length
theorem FW(a b:List α):lcs a b≤a.length:=by
 induction a with
 |nil=>simp[kB]
 |cons x a ih=>have:=(nP a b).1 x;simp;omega
theorem uA(a b:List α):lcs a b=lcs b a:=by
 match a,b with
 |[],b=>rw[kB,lF]
 |x::c,[]=>rw[lF,kB]
 |x::c,y::d=>
  have f:=uA c d;have g:=uA c (y::d);have i:=uA (x::c) d;rw[mq,mq];by_cases h:x=y
  ·rw[if_pos h,if_pos h.symm,f]
  ·rw[if_neg h,if_neg (fun e=>h e.symm),g,i,Nat.max_comm]
termination_by a.length+b.length
def pairs:List α→List α→Nat→Nat→List (Nat×Nat)
 |[],_,_,_=>[]
 |_::_,[],_,_=>[]
 |x::c,y::d,i,j=>
  if x=y then(i,j)::pairs c d (i+1) (j+1)
  else if lcs (x::c) d≤lcs c (y::d)then pairs c (y::d) (i+1) j else pairs (x::c) d i (j+1)
termination_by a b=>a.length+b.length
theorem u9(b:List α)(i j:Nat):pairs [] b i j=[]:=by rw[pairs]
theorem vd(a:List α)(i j:Nat):pairs a [] i j=[]:=by cases a<;>rw[pairs]
theorem u7(x y:α)(xs ys:List α)(i j:Nat):pairs (x::xs) (y::ys) i j=
  if x=y then(i,j)::pairs xs ys (i+1) (j+1)
  else if lcs (x::xs) ys≤lcs xs (y::ys)then pairs xs (y::ys) (i+1) j else pairs (x::xs) ys i (j+1):=by rw[pairs]
theorem pA(a b:List α)(i j:Nat):∀p∈pairs a b i j,i≤p.1∧p.1<i+a.length∧j≤p.2∧p.2<j+b.length∧a[p.1-i]? =b[p.2-j]? :=by
 match a,b with
 |[],b=>rw[u9];intro p h;cases h
 |x::d,[]=>rw[vd];intro p h;cases h
 |x::d,y::g=>
  rw[u7];intro p hp;split at hp
  ·rename_i h;rcases List.mem_cons.1 hp with rfl|hp
   ·simp[h]
   ·obtain⟨k,e,l,f,c⟩:=pA d g (i+1) (j+1) p hp;refine⟨by omega,by simp;omega,by omega,by simp;omega,?_⟩;rw[show p.1-i=(p.1-(i+1))+1 by omega,show p.2-j=(p.2-(j+1))+1 by omega];simpa using c
  ·split at hp
   ·obtain⟨k,e,l,f,c⟩:=pA d (y::g) (i+1) j p hp;refine⟨by omega,by simp;omega,by omega,by simpa using f,?_⟩;rw[show p.1-i=(p.1-(i+1))+1 by omega];simpa using c
   ·obtain⟨k,e,l,f,c⟩:=pA (x::d) g i (j+1) p hp;refine⟨by omega,by simpa using e,by omega,by simp;omega,?_⟩;rw[show p.2-j=(p.2-(j+1))+1 by omega];simpa using c
termination_by a.length+b.length
theorem rL(a b:List α)(i j:Nat):(pairs a b i j).Pairwise fun p q=>p.1<q.1∧p.2<q.2:=by
 match a,b with
 |[],b=>rw[u9];exact .nil
 |x::c,[]=>rw[vd];exact .nil
 |x::c,y::d=>
  rw[u7];split
  ·refine List.pairwise_cons.2 ⟨fun q e=>?_,rL c d _ _⟩;have:=pA c d (i+1) (j+1) q e;exact⟨by omega,by omega⟩
  ·split
   ·exact rL c (y::d) _ _
   ·exact rL (x::c) d _ _
termination_by a.length+b.length
end
end Go.NB.L
