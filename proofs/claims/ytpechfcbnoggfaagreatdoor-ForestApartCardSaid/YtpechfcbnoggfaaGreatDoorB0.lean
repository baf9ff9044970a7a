/- part -/
import Derived.Test.YtpechfcbnoggfaaGreatDoorZ1
import Derived.Test.YtpechfcbnoggfaaGreatDoorAmH
import Derived.Test.YtpechfcbnoggfaaGreatDoorG10
import Derived.Test.YtpechfcbnoggfaaGreatDoorJ3
import Derived.Test.YtpechfcbnoggfaaGreatDoorAmL
set_option linter.unusedVariables false
set_option linter.unusedSimpArgs false
namespace Go.Nest
open Go Go.AM Go.NB Go.Proofs Go.Sort
open Go.Proofs.YtpechfcbnoggfaaGreatDoor (tab tabOk)
set_option maxRecDepth 4000
abbrev Tx:={l:List UInt8//l.length≤4000000}
instance:Inhabited Tx:=⟨⟨[],Nat.zero_le _⟩⟩
def iz(x:Tx):Value:=NB.str x.1
theorem AX{F:Nat→Prop}{H:af}{m:Md}:∀(l:List Tx),RL F H m ((l.map (·.1)).flatMap encS) (l.map iz)
 |[]=>.nl
 |x::l=>.str (show x.1.length≤9223372036854775807 by have:=x.2;omega) (AX l)
theorem grown_of{H0 a:af}(b:H0.size≤a.size)(hk:∀k,k<H0.size→a[k]? =H0[k]?):∃os,a=H0++os:=by
 refine⟨a.extract H0.size a.size,Array.ext_getElem? fun i=>?_⟩;rw[Array.getElem?_append];split
 ·exact hk i ‹_›
 ·rw[Array.getElem?_extract];split
  ·congr 1;omega
  ·rw[Array.getElem?_eq_none (by omega)]
theorem GW{P:Program}{g:FuncId}(i:∀args w,(callFunc g args).run P w= .ok (.enter g args) w){cf:Tx→Tx→Int}(hg:∀x y:Tx,bU true P g [.c (.str x.1),.c (.str y.1)] [] (Rt (.c (.int .i64 (cf x y))) []))(b off size:Nat)(w:World):CmpLays1 P g #[] iz cf b off size w:=by
 intro m os dk z x y;generalize sortWorld iz w b off m dk os=W;have h:=hg x y (jJ W.heap) (fun _=>False) [] W.heap [NB.str x.1,NB.str y.1] ⟨RL.str (by have:=x.2;omega) .nl,RL.str (by have:=y.2;omega) .nl,trivial⟩ (WR.begin W.heap) W rfl;rw[i]at h;refine h.2.mono fun e w' hq=>?_;rcases hq with⟨v,h1,⟨out,ah',F',γ',⟨a,l⟩,_,_,f,hr,n⟩,d⟩|⟨v,h1,⟨out,ah',F',γ',⟨a,l⟩,_,_,f,hr,n⟩,d⟩
 ·subst a;cases hr with
  |int _=>
   obtain⟨o,s⟩:=grown_of n.size (fun k hk=>n.cM k hk (by rintro⟨j,b',g,t,_⟩;simp at t));refine⟨h1,w'.drawn-W.drawn,o,?_⟩;have p:=d.os;have q:=d.tape;have r:=d.output;have u:=d.drawn rfl;cases w';cases W;simp only[grow,World.drewN]at*;subst s p q r;congr 1
   omega
 ·subst a;cases f
theorem ai.H7{P:Program}{f g:FuncId}{l l':List Tx}(hne:l≠[])(hlen:l'.length=l.length)(s:∀args w,(callFunc f args).run P w= .ok (.enter f args) w)
  (h:∀(a off cap:Nat) (w:World),Holds iz w a off l.toArray→a<w.heap.size→Calls P f #[.slice (some ⟨a,off,none⟩) l.length cap,.func (.func g) #[] #[]] w fun e w'=>
   e= .returned (.tuple #[])∧∃n os,w'=grow (putRow iz (Sort.ahead w n) a off l'.toArray) os):
  ai P f [.c (.rw 0),.c (.fn g [])] [.row 1 (List UInt8) encS (l.map (·.1))] (Rt (.aL []) [.row 1 (List UInt8) encS (l'.map (·.1))]):=by
 intro F L γ H vs r W w hw;subst hw;match vs,r with
 |[v,Y],⟨hv,O,_⟩=>
  obtain rfl:Y= .func (.func g) #[] #[]:=by
   cases O with
   |fn hr _=>cases hr;rfl
  cases hv with
  | @rw _ _ p q n0 t _ _ hg hq _=>
   have M:=W.br 0 _ _ rfl hg;rcases M with⟨p',_,Q⟩|⟨k,off,cap,cur,e,css,T,h1,h2,Z,h4,h5,h6,h7⟩
   ·exact absurd (List.map_eq_nil_iff.1 Q) hne
   obtain⟨rfl,rfl,rfl⟩:p=some ⟨k,off,none⟩∧n0=l.length∧t=cap+1:=by simpa using T
   obtain rfl:=hq (by omega);have hk:k<w.heap.size:=(Array.getElem?_eq_some_iff.1 h1).1;have h2:l.length≤cap+1:=by rw[List.length_map]at h2;exact h2
   have m:css=l.map iz:=by rw[wL h5,List.map_map];rfl
   have ac:css.length=l.length:=by rw[m,List.length_map]
   have E:∀j,j<l.length→cur[off+j]? =some (iz (l.toArray[j]!)):=fun j d=>by
    have U:((cur.toList.drop off).take css.length)[j]? =css[j]? :=by rw[h7]
    rw[List.getElem?_take_of_lt (by omega),List.getElem?_drop,m]at U;rw[←Array.getElem?_toList,U,List.getElem?_map,List.getElem?_eq_getElem d];simp[d]
   have hH:Holds (iz) w k off l.toArray:=fun j d=>by
    have d:j<l.length:=by simpa using d
    refine⟨?_,?_⟩
    ·unfold World.cell?;simp only[h1,Option.isSome_none];exact E j d
    ·unfold World.frozen?;simp only[h1];simp
   have D:=h k off (cap+1) w hH hk;rw[s];refine⟨rfl,D.mono fun e' w' ⟨he,n,os,I⟩=>.inl ⟨_,he,?_,?_⟩⟩
   ·subst I;have R:aB (.row 1 (List UInt8) encS (l.map (·.1))) (.slice (some ⟨k,off,none⟩) l.length (cap+1))=[k]:=rfl;obtain⟨o,b⟩:∃o,o=(putRow (iz) (Sort.ahead w n) k off l'.toArray).heap:=⟨_,rfl⟩;have z:o.size=w.heap.size:=by rw[b];unfold putRow mapBlock Sort.ahead;simp
    have y:∀i,i≠k→o[i]? =w.heap[i]? :=fun i hi=>by
     rw[b];unfold putRow mapBlock Sort.ahead;simp only[Array.getElem?_modify,if_neg (Ne.symm hi)]
    have u:o[k]? =some (.cells (putCells (iz) off l'.toArray cur) e (0,0)):=by
     rw[b];unfold putRow mapBlock Sort.ahead;simp only[Array.getElem?_modify,if_true,h1];rfl
    have hK:aq [k] w.heap o:=⟨by rw[z];exact Nat.le_refl _,fun i _ hi=>y i (by simpa using hi)⟩;have N:(putCells (iz) off l'.toArray cur).size=cur.size:=by unfold putCells;simp
    have J:=W.ax (j:=0) (b1:= .row 1 (List UInt8) encS (l'.map (·.1))) rfl hg (by rw[R];exact hK) (fun q hq=>by simpa[aB]using hq) (.inr ⟨k,off,cap,_,e,l'.map (iz),by simp[hlen],u,(by rw[List.length_map];omega),Z,by rw[N];exact h4,AX l',fun x _=>rfl,?_⟩)
    ·have K:=J.same (H':=o++os) ⟨by simp,fun i hi _=>by rw[Array.getElem?_append_left hi]⟩;refine⟨.ret (.aL []),[.row 1 (List UInt8) encS (l'.map (·.1))],F,γ,⟨rfl,rfl⟩,rfl,rfl,rfl,⟨[],rfl,trivial⟩,?_⟩;show WR _ F γ _ ((putRow (iz) (Sort.ahead w n) k off l'.toArray).heap++os);rw[←b];exact K
    ·refine List.ext_getElem? fun j=>?_;by_cases d:j<l'.length
     ·rw[List.getElem?_take_of_lt (by simpa using d),List.getElem?_drop,Array.getElem?_toList];have S:off+j<cur.size:=by omega
      unfold putCells;rw[Array.getElem?_mapIdx,Array.getElem?_eq_getElem S];simp[d]
     ·rw[List.getElem?_eq_none (by simp;omega),List.getElem?_eq_none (by simp;omega)]
   ·subst I;exact⟨rfl,rfl,rfl,fun h=>by cases h⟩
end Go.Nest
