/- part -/
namespace Go.NB.L
section
variable {α:Type} [DecidableEq α]
def lcs:List α→List α→Nat
 |[],_=>0
 |_::_,[]=>0
 |x::xs,y::ys=>if x=y then lcs xs ys+1 else max (lcs xs (y::ys)) (lcs (x::xs) ys)
termination_by a b=>a.length+b.length
theorem jO(b:List α):lcs [] b=0:=by rw[lcs]
theorem kB(a:List α):lcs a []=0:=by cases a<;>rw[lcs]
theorem lA(x y:α)(xs ys:List α):lcs (x::xs) (y::ys)=if x=y then lcs xs ys+1 else max (lcs xs (y::ys)) (lcs (x::xs) ys):=by rw[lcs]
theorem mG(a b:List α):(∀x,lcs a b≤lcs (x::a) b∧lcs (x::a) b≤lcs a b+1)∧(∀y,lcs a b≤lcs a (y::b)∧lcs a (y::b)≤lcs a b+1):=by
 match a,b with
 |[],[]=>simp[jO,kB]
 |[],z::bs=>
  have ih:=mG ([]:List α) bs;refine⟨fun x=>?_,fun y=>by simp[jO]⟩;rw[lA,jO];split
  ·simp[jO]
  ·have:=(ih.1 x).2;simp[jO]at this⊢;exact this
 |w::as,[]=>
  have ih:=mG as ([]:List α);refine⟨fun x=>by simp[kB],fun y=>?_⟩;rw[lA,kB];split
  ·simp[kB]
  ·have:=(ih.2 y).2;simp[kB]at this⊢;exact this
 |w::as,z::bs=>
  have h1:=mG as bs;have h2:=mG as (z::bs);have h3:=mG (w::as) bs;refine⟨fun x=>?_,fun y=>?_⟩
  ·rw[lA x z];split
   ·refine⟨?_,?_⟩
    ·exact(h3.2 z).2
    ·exact Nat.succ_le_succ ((h3.2 z).1)
   ·refine⟨Nat.le_max_left _ _,Nat.max_le.2 ⟨Nat.le_succ _,?_⟩⟩;have e1:=(h3.1 x).2;have e2:=(h3.2 z).1;omega
  ·rw[lA w y];split
   ·refine⟨?_,?_⟩
    ·exact(h2.1 w).2
    ·exact Nat.succ_le_succ ((h2.1 w).1)
   ·refine⟨Nat.le_max_right _ _,Nat.max_le.2 ⟨?_,Nat.le_succ _⟩⟩;have e1:=(h2.2 y).2;have e2:=(h2.1 w).1;omega
termination_by a.length+b.length
theorem D1(a b:List α):lcs a b≤a.length:=by
 induction a with
 |nil=>simp[jO]
 |cons x a ih=>have:=(mG a b).1 x;simp;omega
theorem th(a b:List α):lcs a b=lcs b a:=by
 match a,b with
 |[],b=>rw[jO,kB]
 |x::xs,[]=>rw[kB,jO]
 |x::xs,y::ys=>
  have h1:=th xs ys;have h2:=th xs (y::ys);have h3:=th (x::xs) ys;rw[lA,lA];by_cases h:x=y
  ·rw[if_pos h,if_pos h.symm,h1]
  ·rw[if_neg h,if_neg (fun e=>h e.symm),h2,h3,Nat.max_comm]
termination_by a.length+b.length
def pairs:List α→List α→Nat→Nat→List (Nat×Nat)
 |[],_,_,_=>[]
 |_::_,[],_,_=>[]
 |x::xs,y::ys,i,j=>
  if x=y then(i,j)::pairs xs ys (i+1) (j+1)
  else if lcs (x::xs) ys≤lcs xs (y::ys)then pairs xs (y::ys) (i+1) j else pairs (x::xs) ys i (j+1)
termination_by a b=>a.length+b.length
theorem tV(b:List α)(i j:Nat):pairs [] b i j=[]:=by rw[pairs]
theorem tW(a:List α)(i j:Nat):pairs a [] i j=[]:=by cases a<;>rw[pairs]
theorem tU(x y:α)(xs ys:List α)(i j:Nat):pairs (x::xs) (y::ys) i j=
  if x=y then(i,j)::pairs xs ys (i+1) (j+1)
  else if lcs (x::xs) ys≤lcs xs (y::ys)then pairs xs (y::ys) (i+1) j else pairs (x::xs) ys i (j+1):=by rw[pairs]
theorem oz(a b:List α)(i j:Nat):∀p∈pairs a b i j,i≤p.1∧p.1<i+a.length∧j≤p.2∧p.2<j+b.length∧a[p.1-i]? =b[p.2-j]? :=by
 match a,b with
 |[],b=>rw[tV];intro p h;cases h
 |x::xs,[]=>rw[tW];intro p h;cases h
 |x::xs,y::ys=>
  rw[tU];intro p hp;split at hp
  ·rename_i h;rcases List.mem_cons.1 hp with rfl|hp
   ·simp[h]
   ·obtain⟨h1,h2,h3,h4,h5⟩:=oz xs ys (i+1) (j+1) p hp;refine⟨by omega,by simp;omega,by omega,by simp;omega,?_⟩;rw[show p.1-i=(p.1-(i+1))+1 by omega,show p.2-j=(p.2-(j+1))+1 by omega];simpa using h5
  ·split at hp
   ·obtain⟨h1,h2,h3,h4,h5⟩:=oz xs (y::ys) (i+1) j p hp;refine⟨by omega,by simp;omega,by omega,by simpa using h4,?_⟩;rw[show p.1-i=(p.1-(i+1))+1 by omega];simpa using h5
   ·obtain⟨h1,h2,h3,h4,h5⟩:=oz (x::xs) ys i (j+1) p hp;refine⟨by omega,by simpa using h2,by omega,by simp;omega,?_⟩;rw[show p.2-j=(p.2-(j+1))+1 by omega];simpa using h5
termination_by a.length+b.length
theorem qA(a b:List α)(i j:Nat):(pairs a b i j).Pairwise fun p q=>p.1<q.1∧p.2<q.2:=by
 match a,b with
 |[],b=>rw[tV];exact .nil
 |x::xs,[]=>rw[tW];exact .nil
 |x::xs,y::ys=>
  rw[tU];split
  ·refine List.pairwise_cons.2 ⟨fun q hq=>?_,qA xs ys _ _⟩;have:=oz xs ys (i+1) (j+1) q hq;exact⟨by omega,by omega⟩
  ·split
   ·exact qA xs (y::ys) _ _
   ·exact qA (x::xs) ys _ _
termination_by a.length+b.length
end
end Go.NB.L
