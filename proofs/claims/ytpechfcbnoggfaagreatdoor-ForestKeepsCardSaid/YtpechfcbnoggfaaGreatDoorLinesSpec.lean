/- part -/
import Derived.Lib.Bytealg
namespace Go.NB.L
def JC(n:Int):Int:=(n+9223372036854775808)%18446744073709551616-9223372036854775808
def total(l:List (List UInt8)):Int:=l.foldl (fun s x=>JC (s+(x.length:Nat))) 0
def Kj(l:List (List UInt8)):Bool:=decide (60<l.length)||decide (3000<total (l.take 200))
def linesOf:List UInt8→List (List UInt8)
 |[]=>[]
 |b::r=>if b=10 then[b]::linesOf r else
  match linesOf r with
  |[]=>[[b]]
  |l::a=>(b::l)::a
def dO:List UInt8→Nat
 |[]=>0
 |b::r=>if b=10 then 1 else dO r+1
theorem Eu(l:List UInt8):dO l≤l.length:=by
 induction l with
 |nil=>simp[dO]
 |cons b r ih=>unfold dO;split<;>simp<;>omega
theorem yf(l:List UInt8)(h:l≠[]):0<dO l:=by
 cases l with
 |nil=>exact absurd rfl h
 |cons b r=>unfold dO;split<;>omega
theorem zD(l:List UInt8)(h:l≠[]):linesOf l=l.take (dO l)::linesOf (l.drop (dO l)):=by
 induction l with
 |nil=>exact absurd rfl h
 |cons b r ih=>
  rw[linesOf,dO];by_cases hb:b=10
  ·rw[if_pos hb,if_pos hb];simp
  ·rw[if_neg hb,if_neg hb];by_cases a:r=[]
   ·subst a;simp[linesOf,dO]
   ·rw[ih a];simp
theorem yU(l:List UInt8):(Lib.indexByte l 10= -1→dO l=l.length)∧(Lib.indexByte l 10≠-1→Lib.indexByte l 10+1=(dO l:Int)):=by
 induction l with
 |nil=>simp[Lib.indexByte,dO]
 |cons b r ih=>
  unfold Lib.indexByte dO;by_cases hb:b=10
  ·subst hb;simp
  ·have c:(b==10)=false:=by simpa using hb
   rw[c,if_neg hb];simp only[Bool.false_eq_true,if_false,List.length_cons];by_cases a:Lib.indexByte r 10= -1
   ·have:=ih.1 a;simp[a];exact this
   ·have:=ih.2 a;have d:(Lib.indexByte r 10== -1)=false:=by simpa using a
    simp only[d,Bool.false_eq_true,if_false];have e:=Lib.indexByte_ge r 10;refine⟨fun h=>by omega,fun _=>by omega⟩
theorem Ff(l:List UInt8)(c:UInt8):Lib.indexByte l c<l.length∨l=[]∧Lib.indexByte l c= -1:=by
 induction l with
 |nil=>exact .inr ⟨rfl,rfl⟩
 |cons b r ih=>
  left;unfold Lib.indexByte;split
  ·simp;try omega
  ·split
   ·simp;try omega
   ·rcases ih with h|⟨h,e⟩
    ·simp;omega
    ·rw[e];simp;try omega
theorem mr(l:List UInt8):(linesOf l).length≤l.length:=by
 induction l with
 |nil=>simp[linesOf]
 |cons b r ih=>
  unfold linesOf;split
  ·simp;omega
  ·split
   ·simp
   ·rename_i h;rw[h]at ih;simp at ih⊢;omega
section
variable {α:Type}
def at_(a:List (Nat×Nat))(k:Nat):Int:=match a.find? (fun p=>p.1==k)with|some p=>p.2|none=> -1
end
end Go.NB.L
