/- part -/
import Derived.Test.YtpechfcbnoggfaaGreatDoorZ1
import Derived.Test.YtpechfcbnoggfaaGreatDoorAmH
import Derived.Test.YtpechfcbnoggfaaGreatDoorW1
import Derived.Test.YtpechfcbnoggfaaGreatDoorJ3
import Derived.Test.YtpechfcbnoggfaaGreatDoorAmL
set_option linter.unusedVariables false
set_option linter.unusedSimpArgs false
namespace Go.Nest
open Go Go.AM Go.NB Go.Proofs Go.Sort
open Go.Proofs.YtpechfcbnoggfaaGreatDoor (tab tabOk)
set_option maxRecDepth 4000
abbrev Tx:={l:List UInt8//l.length≤4000000}
instance:Inhabited Tx:=⟨⟨[],Nat.zero_le _⟩⟩
def gN(x:Tx):Value:=NB.str x.1
theorem Ah{F:Nat→Prop}{H:ab}{m:Md}:∀(l:List Tx),RL F H m ((l.map (·.1)).flatMap encS) (l.map gN)
 |[]=>.nl
 |x::l=>.str (show x.1.length≤9223372036854775807 by have:=x.2;omega) (Ah l)
theorem grown_of{H0 a:ab}(b:H0.size≤a.size)(hk:∀k,k<H0.size→a[k]? =H0[k]?):∃os,a=H0++os:=by
 refine⟨a.extract H0.size a.size,Array.ext_getElem? fun i=>?_⟩;rw[Array.getElem?_append];split
 ·exact hk i ‹_›
 ·rw[Array.getElem?_extract];split
  ·congr 1;omega
  ·rw[Array.getElem?_eq_none (by omega)]
theorem FV{P:Program}{g:FuncId}(i:∀args w,(callFunc g args).run P w= .ok (.enter g args) w){cf:Tx→Tx→Int}(hg:∀x y:Tx,bA true P g [.c (.str x.1),.c (.str y.1)] [] (Rt (.c (.int .i64 (cf x y))) []))(b off size:Nat)(w:World):CmpLays1 P g #[] gN cf b off size w:=by
 intro m os p z x y;generalize sortWorld gN w b off m p os=W;have h:=hg x y (jj W.heap) (fun _=>False) [] W.heap [NB.str x.1,NB.str y.1] ⟨RL.str (by have:=x.2;omega) .nl,RL.str (by have:=y.2;omega) .nl,trivial⟩ (WR.begin W.heap) W rfl;rw[i]at h;refine h.2.mono fun e w' hq=>?_;rcases hq with⟨v,h1,⟨out,ah',F',γ',⟨a,l⟩,_,_,f,hr,n⟩,d⟩|⟨v,h1,⟨out,ah',F',γ',⟨a,l⟩,_,_,f,hr,n⟩,d⟩
 ·subst a;cases hr with
  |int _=>
   obtain⟨o,t⟩:=grown_of n.size (fun k hk=>n.ca k hk (by rintro⟨j,b',g,hj,_⟩;simp at hj));refine⟨h1,w'.drawn-W.drawn,o,?_⟩;have q:=d.os;have r:=d.tape;have s:=d.output;have u:=d.drawn rfl;cases w';cases W;simp only[grow,World.drewN]at*;subst t q r s;congr 1
   omega
 ·subst a;cases f
theorem ae.GW{P:Program}{f g:FuncId}{l l':List Tx}(hne:l≠[])(hlen:l'.length=l.length)(r:∀args w,(callFunc f args).run P w= .ok (.enter f args) w)
  (h:∀(a off cap:Nat) (w:World),Holds gN w a off l.toArray→a<w.heap.size→Calls P f #[.slice (some ⟨a,off,none⟩) l.length cap,.func (.func g) #[] #[]] w fun e w'=>
   e= .returned (.tuple #[])∧∃n os,w'=grow (putRow gN (Sort.ahead w n) a off l'.toArray) os):
  ae P f [.c (.rw 0),.c (.fn g [])] [.row 1 (List UInt8) encS (l.map (·.1))] (Rt (.aC []) [.row 1 (List UInt8) encS (l'.map (·.1))]):=by
 intro F L γ H vs o U w hw;subst hw;match vs,o with
 |[v,W],⟨hv,N,_⟩=>
  obtain rfl:W= .func (.func g) #[] #[]:=by
   cases N with
   |fn hr _=>cases hr;rfl
  cases hv with
  | @rw _ _ p q n0 s _ _ hg hq _=>
   have K:=U.br 0 _ _ rfl hg;rcases K with⟨p',_,O⟩|⟨k,off,cap,cur,e,css,S,h1,h2,Y,Z,h5,h6,h7⟩
   ·exact absurd (List.map_eq_nil_iff.1 O) hne
   obtain⟨rfl,rfl,rfl⟩:p=some ⟨k,off,none⟩∧n0=l.length∧s=cap+1:=by simpa using S
   obtain rfl:=hq (by omega);have hk:k<w.heap.size:=(Array.getElem?_eq_some_iff.1 h1).1;have h2:l.length≤cap+1:=by rw[List.length_map]at h2;exact h2
   have d:css=l.map gN:=by rw[vN h5,List.map_map];rfl
   have ac:css.length=l.length:=by rw[d,List.length_map]
   have D:∀j,j<l.length→cur[off+j]? =some (gN (l.toArray[j]!)):=fun j hj=>by
    have T:((cur.toList.drop off).take css.length)[j]? =css[j]? :=by rw[h7]
    rw[List.getElem?_take_of_lt (by omega),List.getElem?_drop,d]at T;rw[←Array.getElem?_toList,T,List.getElem?_map,List.getElem?_eq_getElem hj];simp[hj]
   have hH:Holds (gN) w k off l.toArray:=fun j hj=>by
    have hj:j<l.length:=by simpa using hj
    refine⟨?_,?_⟩
    ·unfold World.cell?;simp only[h1,Option.isSome_none];exact D j hj
    ·unfold World.frozen?;simp only[h1];simp
   have z:=h k off (cap+1) w hH hk;rw[r];refine⟨rfl,z.mono fun e' w' ⟨he,n,os,E⟩=>.inl ⟨_,he,?_,?_⟩⟩
   ·subst E;have Q:az (.row 1 (List UInt8) encS (l.map (·.1))) (.slice (some ⟨k,off,none⟩) l.length (cap+1))=[k]:=rfl;obtain⟨m,b⟩:∃m,m=(putRow (gN) (Sort.ahead w n) k off l'.toArray).heap:=⟨_,rfl⟩;have y:m.size=w.heap.size:=by rw[b];unfold putRow mapBlock Sort.ahead;simp
    have u:∀i,i≠k→m[i]? =w.heap[i]? :=fun i hi=>by
     rw[b];unfold putRow mapBlock Sort.ahead;simp only[Array.getElem?_modify,if_neg (Ne.symm hi)]
    have t:m[k]? =some (.cells (putCells (gN) off l'.toArray cur) e (0,0)):=by
     rw[b];unfold putRow mapBlock Sort.ahead;simp only[Array.getElem?_modify,if_true,h1];rfl
    have hK:aq [k] w.heap m:=⟨by rw[y];exact Nat.le_refl _,fun i _ hi=>u i (by simpa using hi)⟩;have M:(putCells (gN) off l'.toArray cur).size=cur.size:=by unfold putCells;simp
    have I:=U.ay (j:=0) (b1:= .row 1 (List UInt8) encS (l'.map (·.1))) rfl hg (by rw[Q];exact hK) (fun q hq=>by simpa[az]using hq) (.inr ⟨k,off,cap,_,e,l'.map (gN),by simp[hlen],t,(by rw[List.length_map];omega),Y,by rw[M];exact Z,Ah l',fun x _=>rfl,?_⟩)
    ·have J:=I.same (H':=m++os) ⟨by simp,fun i hi _=>by rw[Array.getElem?_append_left hi]⟩;refine⟨.ret (.aC []),[.row 1 (List UInt8) encS (l'.map (·.1))],F,γ,⟨rfl,rfl⟩,rfl,rfl,rfl,⟨[],rfl,trivial⟩,?_⟩;show WR _ F γ _ ((putRow (gN) (Sort.ahead w n) k off l'.toArray).heap++os);rw[←b];exact J
    ·refine List.ext_getElem? fun j=>?_;by_cases hj:j<l'.length
     ·rw[List.getElem?_take_of_lt (by simpa using hj),List.getElem?_drop,Array.getElem?_toList];have R:off+j<cur.size:=by omega
      unfold putCells;rw[Array.getElem?_mapIdx,Array.getElem?_eq_getElem R];simp[hj]
     ·rw[List.getElem?_eq_none (by simp;omega),List.getElem?_eq_none (by simp;omega)]
   ·subst E;exact⟨rfl,rfl,rfl,fun h=>by cases h⟩
end Go.Nest
