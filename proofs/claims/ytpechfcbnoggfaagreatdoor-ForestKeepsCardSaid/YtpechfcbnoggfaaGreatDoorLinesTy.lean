/- part -/
import Derived.Test.YtpechfcbnoggfaaGreatDoorGrid
import Derived.Test.YtpechfcbnoggfaaGreatDoorLcs
namespace Go.NB
def oc:Ty (Nat×Nat):=vQ 2 true (fun p=>[iv p.1,iv p.2]) (fun p=>p.1≤140737488355328∧p.2≤140737488355328) (fun _=>rfl) (fun _ u a=>by simp at a;rcases a with rfl|rfl<;>rfl) (by decide) (fun h=>by cases h)
namespace L
def Rows(a b:List (List UInt8))(q:Nat)(F:Nat→Nat→Int):Prop:=
 ∀i j,i≤a.length→j≤b.length→F i j=if q≤i then(lcs (a.drop i) (b.drop j):Nat)else 0
def iW(a b:List (List UInt8))(q s:Nat)(F:Nat→Nat→Int):Prop:=
 ∀i j,i≤a.length→j≤b.length→F i j=if q≤i∨i+1=q∧s≤j then(lcs (a.drop i) (b.drop j):Nat)else 0
theorem Rows.start(a b:List (List UInt8)):Rows a b a.length (fun _ _=>0):=fun i j c _=>by
 split
 ·rw[List.drop_of_length_le (by omega),kB];rfl
 ·rfl
theorem Rows.begin{a b:List (List UInt8)}{q:Nat}{F:Nat→Nat→Int}(h:Rows a b q F):iW a b q b.length F:=fun i j e f=>by
 rw[h i j e f];by_cases c:q≤i
 ·rw[if_pos c,if_pos (.inl c)]
 ·rw[if_neg c];by_cases d:i+1=q∧b.length≤j
  ·rw[if_pos (.inr d),List.drop_of_length_le (show b.length≤j from d.2),lF]
  ·rw[if_neg (fun h=>h.elim c d)]
theorem iW.done{a b:List (List UInt8)}{q:Nat}{F:Nat→Nat→Int}(h:iW a b q 0 F)(hq:0<q):Rows a b (q-1) F:=fun i j e f=>by
 rw[h i j e f];by_cases c:q≤i
 ·rw[if_pos (.inl c),if_pos (by omega)]
 ·by_cases d:i+1=q
  ·rw[if_pos (.inr ⟨d,by omega⟩),if_pos (by omega)]
  ·rw[if_neg (fun h=>h.elim c (fun h=>d h.1)),if_neg (by omega)]
theorem iW.set{a b:List (List UInt8)}{q s:Nat}{F:Nat→Nat→Int}{x:Int}(h:iW a b q s F)(hq:0<q)(n:0<s)(l:x=(lcs (a.drop (q-1)) (b.drop (s-1)):Nat)):
  iW a b q (s-1) (fun i j=>if i=q-1∧j=s-1 then x else F i j):=fun i j g k=>by
 show(if i=q-1∧j=s-1 then x else F i j)=_;by_cases e:i=q-1∧j=s-1
 ·rw[if_pos e,if_pos (.inr ⟨by omega,by omega⟩),l,e.1,e.2]
 ·rw[if_neg e,h i j g k];by_cases c:q≤i∨i+1=q∧s≤j
  ·rw[if_pos c,if_pos (c.imp id fun h=>⟨h.1,by omega⟩)]
  ·rw[if_neg c,if_neg];intro d;rcases d with d|⟨d,m⟩
   ·exact c (.inl d)
   ·by_cases f:s≤j
    ·exact c (.inr ⟨d,f⟩)
    ·exact e ⟨by omega,by omega⟩
theorem iW.get{a b:List (List UInt8)}{q s i j:Nat}{F:Nat→Nat→Int}(h:iW a b q s F)(hi:i≤a.length)(hj:j≤b.length)(hc:q≤i∨i+1=q∧s≤j):F i j=(lcs (a.drop i) (b.drop j):Nat):=by
 rw[h i j hi hj,if_pos hc]
theorem iW.i64{a b:List (List UInt8)}{q s:Nat}{F:Nat→Nat→Int}(h:iW a b q s F)(c:a.length≤1000000){i j:Nat}(hi:i≤a.length)(hj:j≤b.length):0≤F i j∧F i j≤1000000:=by
 rw[h i j hi hj];split
 ·have:=FW (a.drop i) (b.drop j);have:=List.length_drop (i:=i) (l:=a);omega
 ·omega
theorem Rows.i64{a b:List (List UInt8)}{q:Nat}{F:Nat→Nat→Int}(h:Rows a b q F)(c:a.length≤1000000){i j:Nat}(hi:i≤a.length)(hj:j≤b.length):0≤F i j∧F i j≤1000000:=h.begin.i64 c hi hj
theorem q9{a b:List (List UInt8)}{i j:Nat}(hi:i<a.length)(hj:j<b.length):
  lcs (a.drop i) (b.drop j)=if a[i]=b[j]then lcs (a.drop (i+1)) (b.drop (j+1))+1 else max (lcs (a.drop (i+1)) (b.drop j)) (lcs (a.drop i) (b.drop (j+1))):=by
 rw[List.drop_eq_getElem_cons hi,List.drop_eq_getElem_cons hj,mq]
theorem u6{a b:List (List UInt8)}{i j:Nat}(hi:i<a.length)(hj:j<b.length):
  pairs (a.drop i) (b.drop j) i j=if a[i]=b[j]then(i,j)::pairs (a.drop (i+1)) (b.drop (j+1)) (i+1) (j+1)
   else if lcs (a.drop i) (b.drop (j+1))≤lcs (a.drop (i+1)) (b.drop j)then pairs (a.drop (i+1)) (b.drop j) (i+1) j else pairs (a.drop i) (b.drop (j+1)) i (j+1):=by
 rw[List.drop_eq_getElem_cons hi,List.drop_eq_getElem_cons hj,u7]
def tab(a b:List (List UInt8)):List (List Int):=(List.range (a.length+1)).map fun i=>(List.range (b.length+1)).map fun j=>((lcs (a.drop i) (b.drop j):Nat):Int)
def se(a b:List (List UInt8))(i:Nat):List Int:=(List.range (b.length+1)).map fun j=>((lcs (a.drop i) (b.drop j):Nat):Int)
theorem By{a b:List (List UInt8)}{i:Nat}(h:i≤a.length):(tab a b)[i]? =some (se a b i):=by
 simp[tab,se,show i<a.length+1 by omega]
theorem Bw{a b:List (List UInt8)}{i j:Nat}(h:j≤b.length):(se a b i)[j]? =some ((lcs (a.drop i) (b.drop j):Nat):Int):=by
 simp[se,show j<b.length+1 by omega]
theorem Jm{a b:List (List UInt8)}{F:Nat→Nat→Int}(h:Rows a b 0 F):((List.range (a.length+1)).map fun i=>(List.range (b.length+1)).map fun j=>F i j)=tab a b:=by
 unfold tab;refine List.map_congr_left fun i c=>List.map_congr_left fun j d=>?_;have e:=List.mem_range.1 c;have f:=List.mem_range.1 d;rw[h i j (by omega) (by omega),if_pos (by omega)]
end L
end Go.NB
