/- part -/
import Derived.Test.YtpechfcbnoggfaaGreatDoorGrid
import Derived.Test.YtpechfcbnoggfaaGreatDoorLcs
namespace Go.NB
def iR:Ty (Nat×Nat):=oO 2 true (fun p=>[iv p.1,iv p.2]) (fun p=>p.1≤140737488355328∧p.2≤140737488355328) (fun _=>rfl) (fun _ u hu=>by simp at hu;rcases hu with rfl|rfl<;>rfl) (by decide) (fun h=>by cases h)
theorem HV:ra iR j6 0 (fun p=>(p.1:Int)):=fun⟨h,h1,h2⟩=>by subst h;exact⟨rfl,by dsimp only;unfold aE;omega⟩
theorem Fc:ra iR j6 1 (fun p=>(p.2:Int)):=fun⟨h,h1,h2⟩=>by subst h;exact⟨rfl,by dsimp only;unfold aE;omega⟩
namespace L
def Rows(a b:List (List UInt8))(q:Nat)(F:Nat→Nat→Int):Prop:=
 ∀i j,i≤a.length→j≤b.length→F i j=if q≤i then(lcs (a.drop i) (b.drop j):Nat)else 0
def iq(a b:List (List UInt8))(q s:Nat)(F:Nat→Nat→Int):Prop:=
 ∀i j,i≤a.length→j≤b.length→F i j=if q≤i∨i+1=q∧s≤j then(lcs (a.drop i) (b.drop j):Nat)else 0
theorem Rows.start(a b:List (List UInt8)):Rows a b a.length (fun _ _=>0):=fun i j hi _=>by
 split
 ·rw[List.drop_of_length_le (by omega),jO];rfl
 ·rfl
theorem Rows.begin{a b:List (List UInt8)}{q:Nat}{F:Nat→Nat→Int}(h:Rows a b q F):iq a b q b.length F:=fun i j hi hj=>by
 rw[h i j hi hj];by_cases h1:q≤i
 ·rw[if_pos h1,if_pos (.inl h1)]
 ·rw[if_neg h1];by_cases h2:i+1=q∧b.length≤j
  ·rw[if_pos (.inr h2),List.drop_of_length_le (show b.length≤j from h2.2),kB]
  ·rw[if_neg (fun h=>h.elim h1 h2)]
theorem iq.done{a b:List (List UInt8)}{q:Nat}{F:Nat→Nat→Int}(h:iq a b q 0 F)(hq:0<q):Rows a b (q-1) F:=fun i j hi hj=>by
 rw[h i j hi hj];by_cases h1:q≤i
 ·rw[if_pos (.inl h1),if_pos (by omega)]
 ·by_cases h2:i+1=q
  ·rw[if_pos (.inr ⟨h2,by omega⟩),if_pos (by omega)]
  ·rw[if_neg (fun h=>h.elim h1 (fun h=>h2 h.1)),if_neg (by omega)]
theorem iq.set{a b:List (List UInt8)}{q s:Nat}{F:Nat→Nat→Int}{x:Int}(h:iq a b q s F)(hq:0<q)(hs:0<s)(hx:x=(lcs (a.drop (q-1)) (b.drop (s-1)):Nat)):
  iq a b q (s-1) (fun i j=>if i=q-1∧j=s-1 then x else F i j):=fun i j hi hj=>by
 show(if i=q-1∧j=s-1 then x else F i j)=_;by_cases e:i=q-1∧j=s-1
 ·rw[if_pos e,if_pos (.inr ⟨by omega,by omega⟩),hx,e.1,e.2]
 ·rw[if_neg e,h i j hi hj];by_cases h1:q≤i∨i+1=q∧s≤j
  ·rw[if_pos h1,if_pos (h1.imp id fun h=>⟨h.1,by omega⟩)]
  ·rw[if_neg h1,if_neg];intro h2;rcases h2 with h2|⟨h2,h3⟩
   ·exact h1 (.inl h2)
   ·by_cases h4:s≤j
    ·exact h1 (.inr ⟨h2,h4⟩)
    ·exact e ⟨by omega,by omega⟩
theorem iq.get{a b:List (List UInt8)}{q s i j:Nat}{F:Nat→Nat→Int}(h:iq a b q s F)(hi:i≤a.length)(hj:j≤b.length)(hc:q≤i∨i+1=q∧s≤j):F i j=(lcs (a.drop i) (b.drop j):Nat):=by
 rw[h i j hi hj,if_pos hc]
theorem iq.i64{a b:List (List UInt8)}{q s:Nat}{F:Nat→Nat→Int}(h:iq a b q s F)(ha:a.length≤1000000){i j:Nat}(hi:i≤a.length)(hj:j≤b.length):0≤F i j∧F i j≤1000000:=by
 rw[h i j hi hj];split
 ·have:=D1 (a.drop i) (b.drop j);have:=List.length_drop (i:=i) (l:=a);omega
 ·omega
theorem Rows.i64{a b:List (List UInt8)}{q:Nat}{F:Nat→Nat→Int}(h:Rows a b q F)(ha:a.length≤1000000){i j:Nat}(hi:i≤a.length)(hj:j≤b.length):0≤F i j∧F i j≤1000000:=h.begin.i64 ha hi hj
theorem pX{a b:List (List UInt8)}{i j:Nat}(hi:i<a.length)(hj:j<b.length):
  lcs (a.drop i) (b.drop j)=if a[i]=b[j]then lcs (a.drop (i+1)) (b.drop (j+1))+1 else max (lcs (a.drop (i+1)) (b.drop j)) (lcs (a.drop i) (b.drop (j+1))):=by
 rw[List.drop_eq_getElem_cons hi,List.drop_eq_getElem_cons hj,lA]
theorem tT{a b:List (List UInt8)}{i j:Nat}(hi:i<a.length)(hj:j<b.length):
  pairs (a.drop i) (b.drop j) i j=if a[i]=b[j]then(i,j)::pairs (a.drop (i+1)) (b.drop (j+1)) (i+1) (j+1)
   else if lcs (a.drop i) (b.drop (j+1))≤lcs (a.drop (i+1)) (b.drop j)then pairs (a.drop (i+1)) (b.drop j) (i+1) j else pairs (a.drop i) (b.drop (j+1)) i (j+1):=by
 rw[List.drop_eq_getElem_cons hi,List.drop_eq_getElem_cons hj,tU]
def tab(a b:List (List UInt8)):List (List Int):=(List.range (a.length+1)).map fun i=>(List.range (b.length+1)).map fun j=>((lcs (a.drop i) (b.drop j):Nat):Int)
def qU(a b:List (List UInt8))(i:Nat):List Int:=(List.range (b.length+1)).map fun j=>((lcs (a.drop i) (b.drop j):Nat):Int)
theorem zV{a b:List (List UInt8)}{i:Nat}(h:i≤a.length):(tab a b)[i]? =some (qU a b i):=by
 simp[tab,qU,show i<a.length+1 by omega]
theorem zU{a b:List (List UInt8)}{i j:Nat}(h:j≤b.length):(qU a b i)[j]? =some ((lcs (a.drop i) (b.drop j):Nat):Int):=by
 simp[qU,show j<b.length+1 by omega]
theorem G1{a b:List (List UInt8)}{F:Nat→Nat→Int}(h:Rows a b 0 F):((List.range (a.length+1)).map fun i=>(List.range (b.length+1)).map fun j=>F i j)=tab a b:=by
 unfold tab;refine List.map_congr_left fun i hi=>List.map_congr_left fun j hj=>?_;have h1:=List.mem_range.1 hi;have h2:=List.mem_range.1 hj;rw[h i j (by omega) (by omega),if_pos (by omega)]
end L
end Go.NB
