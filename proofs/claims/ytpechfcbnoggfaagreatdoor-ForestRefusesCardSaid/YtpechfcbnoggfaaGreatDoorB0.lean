/- part -/
import Derived.Test.YtpechfcbnoggfaaGreatDoorZ1
import Derived.Test.YtpechfcbnoggfaaGreatDoorAmH
import Derived.Test.YtpechfcbnoggfaaGreatDoorG9
import Derived.Test.YtpechfcbnoggfaaGreatDoorJ3
import Derived.Test.YtpechfcbnoggfaaGreatDoorAmL
set_option linter.unusedVariables false
set_option linter.unusedSimpArgs false
namespace Go.Nest
open Go Go.AM Go.NB Go.Proofs Go.Sort
open Go.Proofs.YtpechfcbnoggfaaGreatDoor (tab tabOk)
set_option maxRecDepth 4000
abbrev Tx:={l:List UInt8//l.length≤4000000}
instance:Inhabited Tx:=⟨⟨[],Nat.zero_le _⟩⟩
def gf(x:Tx):Value:=NB.str x.1
theorem yE{F:Nat→Prop}{H:ab}{m:Md}:∀(l:List Tx),RL F H m ((l.map (·.1)).flatMap encS) (l.map gf)
 |[]=>.nl
 |x::l=>.str (show x.1.length≤9223372036854775807 by have:=x.2;omega) (yE l)
theorem grown_of{H0 H1:ab}(hs:H0.size≤H1.size)(hk:∀k,k<H0.size→H1[k]? =H0[k]?):∃os,H1=H0++os:=by
 refine⟨H1.extract H0.size H1.size,Array.ext_getElem? fun i=>?_⟩;rw[Array.getElem?_append];split
 ·exact hk i ‹_›
 ·rw[Array.getElem?_extract];split
  ·congr 1;omega
  ·rw[Array.getElem?_eq_none (by omega)]
theorem D0{P:Program}{g:FuncId}(hgc:∀args w,(callFunc g args).run P w= .ok (.enter g args) w){cf:Tx→Tx→Int}(hg:∀x y:Tx,bC true P g [.c (.str x.1),.c (.str y.1)] [] (Rt (.c (.int .i64 (cf x y))) []))(blk off size:Nat)(w:World):CmpLays1 P g #[] gf cf blk off size w:=by
 intro m os dk hs x y;generalize sortWorld gf w blk off m dk os=W;have h:=hg x y (fW W.heap) (fun _=>False) [] W.heap [NB.str x.1,NB.str y.1] ⟨RL.str (by have:=x.2;omega) .nl,RL.str (by have:=y.2;omega) .nl,trivial⟩ (WR.begin W.heap) W rfl;rw[hgc]at h;refine h.2.mono fun e w' hq=>?_;rcases hq with⟨v,h1,⟨out,ah',F',γ',⟨hq1,hq2⟩,_,_,hok,hr,hw⟩,h3⟩|⟨v,h1,⟨out,ah',F',γ',⟨hq1,hq2⟩,_,_,hok,hr,hw⟩,h3⟩
 ·subst hq1;cases hr with
  |int _=>
   obtain⟨os',hh⟩:=grown_of hw.size (fun k hk=>hw.bQ k hk (by rintro⟨j,b',g,hj,_⟩;simp at hj));refine⟨h1,w'.drawn-W.drawn,os',?_⟩;have e1:=h3.os;have e2:=h3.tape;have e3:=h3.output;have e4:=h3.drawn rfl;cases w';cases W;simp only[grow,World.drewN]at*;subst hh e1 e2 e3;congr 1
   omega
 ·subst hq1;cases hok
theorem ae.EY{P:Program}{f g:FuncId}{l l':List Tx}(hne:l≠[])(hlen:l'.length=l.length)(hcall:∀args w,(callFunc f args).run P w= .ok (.enter f args) w)
  (h:∀(blk off cap:Nat) (w:World),Holds gf w blk off l.toArray→blk<w.heap.size→Calls P f #[.slice (some ⟨blk,off,none⟩) l.length cap,.func (.func g) #[] #[]] w fun e w'=>
   e= .returned (.tuple #[])∧∃n os,w'=grow (putRow gf (Sort.ahead w n) blk off l'.toArray) os):
  ae P f [.c (.rw 0),.c (.fn g [])] [.row 1 (List UInt8) encS (l.map (·.1))] (Rt (.tup []) [.row 1 (List UInt8) encS (l'.map (·.1))]):=by
 intro F L γ H vs hargs hW w hw;subst hw;match vs,hargs with
 |[v,fv],⟨hv,hfv,_⟩=>
  obtain rfl:fv= .func (.func g) #[] #[]:=by
   cases hfv with
   |fn hr _=>cases hr;rfl
  cases hv with
  | @rw _ _ p q n0 cap0 _ _ hg hq _=>
   have hbr:=hW.br 0 _ _ rfl hg;rcases hbr with⟨p',_,hl0⟩|⟨k,off,cap,cur,e,css,hpe,h1,h2,h3,h4,h5,h6,h7⟩
   ·exact absurd (List.map_eq_nil_iff.1 hl0) hne
   obtain⟨rfl,rfl,rfl⟩:p=some ⟨k,off,none⟩∧n0=l.length∧cap0=cap+1:=by simpa using hpe
   obtain rfl:=hq (by omega);have hk:k<w.heap.size:=(Array.getElem?_eq_some_iff.1 h1).1;have h2:l.length≤cap+1:=by rw[List.length_map]at h2;exact h2
   have hcss:css=l.map gf:=by rw[uD h5,List.map_map];rfl
   have hcl:css.length=l.length:=by rw[hcss,List.length_map]
   have hget:∀j,j<l.length→cur[off+j]? =some (gf (l.toArray[j]!)):=fun j hj=>by
    have h8:((cur.toList.drop off).take css.length)[j]? =css[j]? :=by rw[h7]
    rw[List.getElem?_take_of_lt (by omega),List.getElem?_drop,hcss]at h8;rw[←Array.getElem?_toList,h8,List.getElem?_map,List.getElem?_eq_getElem hj];simp[hj]
   have hH:Holds (gf) w k off l.toArray:=fun j hj=>by
    have hj:j<l.length:=by simpa using hj
    refine⟨?_,?_⟩
    ·unfold World.cell?;simp only[h1,Option.isSome_none];exact hget j hj
    ·unfold World.frozen?;simp only[h1];simp
   have hcon:=h k off (cap+1) w hH hk;rw[hcall];refine⟨rfl,hcon.mono fun e' w' ⟨he,n,os,hw'⟩=>.inl ⟨_,he,?_,?_⟩⟩
   ·subst hw';have hob:ax (.row 1 (List UInt8) encS (l.map (·.1))) (.slice (some ⟨k,off,none⟩) l.length (cap+1))=[k]:=rfl;obtain⟨H1,hH1⟩:∃H1,H1=(putRow (gf) (Sort.ahead w n) k off l'.toArray).heap:=⟨_,rfl⟩;have hH1s:H1.size=w.heap.size:=by rw[hH1];unfold putRow mapBlock Sort.ahead;simp
    have hH1o:∀i,i≠k→H1[i]? =w.heap[i]? :=fun i hi=>by
     rw[hH1];unfold putRow mapBlock Sort.ahead;simp only[Array.getElem?_modify,if_neg (Ne.symm hi)]
    have hH1k:H1[k]? =some (.cells (putCells (gf) off l'.toArray cur) e (0,0)):=by
     rw[hH1];unfold putRow mapBlock Sort.ahead;simp only[Array.getElem?_modify,if_true,h1];rfl
    have hK:ak [k] w.heap H1:=⟨by rw[hH1s];exact Nat.le_refl _,fun i _ hi=>hH1o i (by simpa using hi)⟩;have hcs:(putCells (gf) off l'.toArray cur).size=cur.size:=by unfold putCells;simp
    have hW1:=hW.aq (j:=0) (b1:= .row 1 (List UInt8) encS (l'.map (·.1))) rfl hg (by rw[hob];exact hK) (fun q hq=>by simpa[ax]using hq) (.inr ⟨k,off,cap,_,e,l'.map (gf),by simp[hlen],hH1k,(by rw[List.length_map];omega),h3,by rw[hcs];exact h4,yE l',fun x _=>rfl,?_⟩)
    ·have hW2:=hW1.same (H':=H1++os) ⟨by simp,fun i hi _=>by rw[Array.getElem?_append_left hi]⟩;refine⟨.ret (.tup []),[.row 1 (List UInt8) encS (l'.map (·.1))],F,γ,⟨rfl,rfl⟩,rfl,rfl,rfl,⟨[],rfl,trivial⟩,?_⟩;show WR _ F γ _ ((putRow (gf) (Sort.ahead w n) k off l'.toArray).heap++os);rw[←hH1];exact hW2
    ·refine List.ext_getElem? fun j=>?_;by_cases hj:j<l'.length
     ·rw[List.getElem?_take_of_lt (by simpa using hj),List.getElem?_drop,Array.getElem?_toList];have hoj:off+j<cur.size:=by omega
      unfold putCells;rw[Array.getElem?_mapIdx,Array.getElem?_eq_getElem hoj];simp[hj]
     ·rw[List.getElem?_eq_none (by simp;omega),List.getElem?_eq_none (by simp;omega)]
   ·subst hw';exact⟨rfl,rfl,rfl,fun h=>by cases h⟩
end Go.Nest
