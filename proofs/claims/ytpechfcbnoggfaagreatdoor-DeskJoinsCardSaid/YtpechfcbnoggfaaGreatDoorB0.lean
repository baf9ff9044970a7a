import Derived.Shelf.SlSortCmp.NoneTotal
import Derived.Test.YtpechfcbnoggfaaGreatDoorProg
import Derived.KernelRfl
import Derived.Test.YtpechfcbnoggfaaGreatDoorZ1
import Derived.Test.YtpechfcbnoggfaaGreatDoorAmH
import Derived.Test.YtpechfcbnoggfaaGreatDoorV36
import Derived.Test.YtpechfcbnoggfaaGreatDoorAmL
set_option linter.unusedVariables false
set_option linter.unusedSimpArgs false
open Array renaming getElem?_modify->ah,getElem?_eq_some_iff->al,getElem?_append_left->am,getElem?_toList->a1
open List renaming getElem?_take_of_lt->ap,length_map->ar,getElem?_eq_none->a2,getElem?_drop->a6
open Nat renaming beq->ad
section
namespace Go.Nest
open Go Go.Proofs Go.Shelf
set_option maxRecDepth 100000
def No:Ren:={f:=λn=>bif ad n 6 then 322 else bif ad n 15 then 141 else bif ad n 14 then 343 else bif ad n 28 then 230 else bif ad n 29 then 231 else bif ad n 20 then 359 else bif ad n 21 then 360 else bif ad n 22 then 361 else bif ad n 23 then 362 else bif ad n 24 then 363 else bif ad n 25 then 364 else bif ad n 26 then 365 else bif ad n 27 then 366 else bif ad n 46 then 376 else bif ad n 47 then 286 else bif ad n 48 then 287 else bif ad n 49 then 377 else bif ad n 50 then 378 else bif ad n 57 then 386 else n,t:=λn=>bif ad n 22 then 22 else bif ad n 24 then 9 else bif ad n 25 then 174 else bif ad n 3 then 3 else bif ad n 39 then 25 else bif ad n 0 then 0 else bif ad n 53 then 279 else bif ad n 55 then 281 else bif ad n 4 then 4 else bif ad n 46 then 273 else bif ad n 45 then 272 else bif ad n 50 then 258 else bif ad n 5 then 5 else bif ad n 9 then 9 else bif ad n 66 then 315 else bif ad n 70 then 319 else bif ad n 76 then 355 else bif ad n 77 then 144 else n,g:=λn=>n}
theorem Cu:SlLaysF.n6 Tryz.prog No:={mixed:=by kernel_rfl,f6:=⟨"slices.SortFunc[[]string,string]",of_decide_eq_true (by kernel_rfl),Tryz.func322.trans (congrArg some (by kernel_rfl))⟩,f14:=⟨"slices.pdqsortCmpFunc[string]",of_decide_eq_true (by kernel_rfl),Tryz.func343.trans (congrArg some (by kernel_rfl))⟩,f15:=Tryz.func141.trans (congrArg some (by kernel_rfl)),f20:=⟨"slices.insertionSortCmpFunc[string]",of_decide_eq_true (by kernel_rfl),Tryz.func359.trans (congrArg some (by kernel_rfl))⟩,f21:=⟨"slices.heapSortCmpFunc[string]",of_decide_eq_true (by kernel_rfl),Tryz.func360.trans (congrArg some (by kernel_rfl))⟩,f22:=⟨"slices.breakPatternsCmpFunc[string]",of_decide_eq_true (by kernel_rfl),Tryz.func361.trans (congrArg some (by kernel_rfl))⟩,f23:=⟨"slices.choosePivotCmpFunc[string]",of_decide_eq_true (by kernel_rfl),Tryz.func362.trans (congrArg some (by kernel_rfl))⟩,f24:=⟨"slices.reverseRangeCmpFunc[string]",of_decide_eq_true (by kernel_rfl),Tryz.func363.trans (congrArg some (by kernel_rfl))⟩,f25:=⟨"slices.partialInsertionSortCmpFunc[string]",of_decide_eq_true (by kernel_rfl),Tryz.func364.trans (congrArg some (by kernel_rfl))⟩,f26:=⟨"slices.partitionEqualCmpFunc[string]",of_decide_eq_true (by kernel_rfl),Tryz.func365.trans (congrArg some (by kernel_rfl))⟩,f27:=⟨"slices.partitionCmpFunc[string]",of_decide_eq_true (by kernel_rfl),Tryz.func366.trans (congrArg some (by kernel_rfl))⟩,f28:=Tryz.func230.trans (congrArg some (by kernel_rfl)),f29:=Tryz.func231.trans (congrArg some (by kernel_rfl)),f46:=⟨"slices.siftDownCmpFunc[string]",of_decide_eq_true (by kernel_rfl),Tryz.func376.trans (congrArg some (by kernel_rfl))⟩,f47:=Tryz.func286.trans (congrArg some (by kernel_rfl)),f48:=Tryz.func287.trans (congrArg some (by kernel_rfl)),f49:=⟨"slices.medianAdjacentCmpFunc[string]",of_decide_eq_true (by kernel_rfl),Tryz.func377.trans (congrArg some (by kernel_rfl))⟩,f50:=⟨"slices.medianCmpFunc[string]",of_decide_eq_true (by kernel_rfl),Tryz.func378.trans (congrArg some (by kernel_rfl))⟩,f57:=⟨"slices.order2CmpFunc[string]",of_decide_eq_true (by kernel_rfl),Tryz.func386.trans (congrArg some (by kernel_rfl))⟩,t0:=Tryz.underlying0,a0:=Tryz.isAgg0,z0:=Tryz.sizeOf0,v0:=Tryz.zeroValue0,t3:=Tryz.underlying3,a3:=Tryz.isAgg3,z3:=Tryz.sizeOf3,v3:=Tryz.zeroValue3,t4:=Tryz.underlying4,a4:=Tryz.isAgg4,z4:=Tryz.sizeOf4,v4:=Tryz.zeroValue4,t5:=Tryz.underlying5,a5:=Tryz.isAgg5,z5:=Tryz.sizeOf5,v5:=Tryz.zeroValue5,t9:=Tryz.underlying9,a9:=Tryz.isAgg9,z9:=Tryz.sizeOf9,v9:=Tryz.zeroValue9,t22:=Tryz.underlying22,a22:=Tryz.isAgg22,z22:=Tryz.sizeOf22,v22:=Tryz.zeroValue22,a24:=Tryz.isAgg9,z24:=Tryz.sizeOf9,t25:=Tryz.underlying174,a25:=Tryz.isAgg174,z25:=Tryz.sizeOf174,v25:=Tryz.zeroValue174,t39:=Tryz.underlying25,a39:=Tryz.isAgg25,z39:=Tryz.sizeOf25,v39:=Tryz.zeroValue25,t45:=Tryz.underlying272,a45:=Tryz.isAgg272,z45:=Tryz.sizeOf272,v45:=Tryz.zeroValue272,t46:=Tryz.underlying273,a46:=Tryz.isAgg273,z46:=Tryz.sizeOf273,v46:=Tryz.zeroValue273,t50:=Tryz.underlying258,a50:=Tryz.isAgg258,z50:=Tryz.sizeOf258,v50:=Tryz.zeroValue258,t53:=Tryz.underlying279,a53:=Tryz.isAgg279,z53:=Tryz.sizeOf279,v53:=Tryz.zeroValue279,t55:=Tryz.underlying281,a55:=Tryz.isAgg281,z55:=Tryz.sizeOf281,v55:=Tryz.zeroValue281,t66:=Tryz.underlying315,a66:=Tryz.isAgg315,z66:=Tryz.sizeOf315,v66:=Tryz.zeroValue315,t70:=Tryz.underlying319,a70:=Tryz.isAgg319,z70:=Tryz.sizeOf319,v70:=Tryz.zeroValue319,t76:=Tryz.underlying355,a76:=Tryz.isAgg355,z76:=Tryz.sizeOf355,v76:=Tryz.zeroValue355,t77:=Tryz.underlying144,a77:=Tryz.isAgg144,z77:=Tryz.sizeOf144,v77:=Tryz.zeroValue144}
end Go.Nest
end
section
namespace Go.Nest
open Go Go.AM Go.NB Go.Proofs Go.Sort
open Go.Proofs.YtpechfcbnoggfaaGreatDoor (tab tabOk)
set_option maxRecDepth 4000
abbrev Tx:={l:List UInt8//l.length<=4000000}
instance:Inhabited Tx:=⟨⟨[],Nat.zero_le _⟩⟩
def ib(x:Tx):Value:=NB.str x.1
theorem Dr{F:Nat->Prop}{H:ae}{m:Md}:∀(l:List Tx),RL F H m ((l.map (·.1)).flatMap encS) (l.map ib)
 |[]=>.nl
 |x::l=>.str (show x.1.length<=9223372036854775807 by have:=x.2;omega) (Dr l)
theorem grown_of{H0 a:ae}(b:H0.size<=a.size)(hk:∀k,k<H0.size->a[k]? =H0[k]?):∃os,a=H0++os:=by
 refine⟨a.extract H0.size a.size,Array.ext_getElem? λi=>?_⟩;rw[Array.getElem?_append];split
 ·exact hk i ‹_›
 ·rw[Array.getElem?_extract];split
  ·congr 1;omega
  ·rw[Array.getElem?_eq_none (by omega)]
theorem KP{P:Program}{g:FuncId}(o:∀args w,(callFunc g args).run P w= .ok (.enter g args) w){cf:Tx->Tx->Int}(hg:∀x y:Tx,bB true P g [.c (.str x.1),.c (.str y.1)] [] (Rt (.c (.int .i64 (cf x y))) []))(a off size:Nat)(w:World)(q:∀p∈iw,p.1≠a/\lK w.heap p):CmpLays1 P g #[] ib cf a off size w:=by
 intro m os n M x y
 have i:∀p∈iw,lK (sortWorld ib w a off m n os).heap p:=λp J=>by
  obtain⟨hne,cs,t,f,h,s⟩:=q p J;refine⟨cs,t,f,?_,s⟩;have r:=(al.1 h).1;show((putRow ib (Sort.ahead w m) a off n).heap++os)[p.1]? =_;unfold putRow mapBlock Sort.ahead;rw[am (by simpa using r),ah,if_neg (Ne.symm hne)];exact h
 generalize sortWorld ib w a off m n os=W at i⊢;have h:=hg x y (kY W.heap) (λ_=>False) [] W.heap [NB.str x.1,NB.str y.1] ⟨RL.str (by have:=x.2;omega) .nl,RL.str (by have:=y.2;omega) .nl,trivial⟩ (WR.begin W.heap i) W rfl;rw[o]at h;refine h.2.mono λe w' hq=>?_;rcases hq with⟨v,h1,⟨out,ah',F',γ',⟨b,u⟩,_,_,l,hr,z⟩,d⟩|⟨v,h1,⟨out,ah',F',γ',⟨b,u⟩,_,_,l,hr,z⟩,d⟩
 ·subst b;cases hr with
  |int _=>
   obtain⟨D,I⟩:=grown_of z.size (λk hk=>z.cn k hk (by rintro⟨j,b',g,hj,_⟩;simp at hj));refine⟨h1,w'.drawn-W.drawn,D,?_⟩;have E:=d.os;have F:=d.tape;have H:=d.output;have K:=d.drawn rfl;cases w';cases W;simp only[grow,World.drewN]at*;subst I E F H;congr 1
   omega
 ·subst b;cases l
theorem aa.Mj{P:Program}{f g:FuncId}{l l':List Tx}(hne:l≠[])(hlen:l'.length=l.length)(r:∀args w,(callFunc f args).run P w= .ok (.enter f args) w)
  (h:∀(a off cap:Nat) (w:World),Holds ib w a off l.toArray->a<w.heap.size->(∀p∈iw,p.1≠a/\lK w.heap p)->Calls P f #[.slice (some ⟨a,off,none⟩) l.length cap,.func (.func g) #[] #[]] w λe w'=>
   e= .returned (.tuple #[])/\∃n os,w'=grow (putRow ib (Sort.ahead w n) a off l'.toArray) os):
  aa P f [.c (.rw 0),.c (.fn g [])] [.row 1 (List UInt8) encS (l.map (·.1))] (Rt (.ao []) [.row 1 (List UInt8) encS (l'.map (·.1))]):=by
 intro F L γ H vs o z w hw;subst hw;match vs,o with
 |[v,Y],⟨hv,O,_⟩=>
  obtain rfl:Y= .func (.func g) #[] #[]:=by
   cases O with
   |fn hr _=>cases hr;rfl
  cases hv with
  | @rw _ _ p q n0 s _ _ hg hq _=>
   have M:=z.br 0 _ _ rfl hg;rcases M with⟨p',_,Q⟩|⟨k,off,cap,cur,e,css,T,h1,h2,Z,h4,h5,h6,h7⟩
   ·exact absurd (List.map_eq_nil_iff.1 Q) hne
   obtain⟨rfl,rfl,rfl⟩:p=some ⟨k,off,none⟩/\n0=l.length/\s=cap+1:=by simpa using T
   obtain rfl:=hq (by omega);have hk:k<w.heap.size:=(al.1 h1).1;have h2:l.length<=cap+1:=by rw[ar]at h2;exact h2
   have d:css=l.map ib:=by rw[uB h5,List.map_map];rfl
   have ac:css.length=l.length:=by rw[d,ar]
   have E:∀j,j<l.length->cur[off+j]? =some (ib (l.toArray[j]!)):=λj hj=>by
    have U:((cur.toList.drop off).take css.length)[j]? =css[j]? :=by rw[h7]
    rw[ap (by omega),a6,d]at U;rw[<-a1,U,List.getElem?_map,List.getElem?_eq_getElem hj];simp[hj]
   have hH:Holds (ib) w k off l.toArray:=λj hj=>by
    have hj:j<l.length:=by simpa using hj
    refine⟨?_,?_⟩
    ·unfold World.cell?;simp only[h1,Option.isSome_none];exact E j hj
    ·unfold World.frozen?;simp only[h1];simp
   have D:=h k off (cap+1) w hH hk (λp W=>⟨λe=>(z.nf 0 _ _ k rfl hg (by simp[aC])).1 (e▸(z.l5 p W).1),(z.l5 p W).2⟩);rw[r];refine⟨rfl,D.mono λe' w' ⟨he,n,os,I⟩=>.inl ⟨_,he,?_,?_⟩⟩
   ·subst I;have R:aC (.row 1 (List UInt8) encS (l.map (·.1))) (.slice (some ⟨k,off,none⟩) l.length (cap+1))=[k]:=rfl;obtain⟨m,b⟩:∃m,m=(putRow (ib) (Sort.ahead w n) k off l'.toArray).heap:=⟨_,rfl⟩;have y:m.size=w.heap.size:=by rw[b];unfold putRow mapBlock Sort.ahead;simp
    have u:∀i,i≠k->m[i]? =w.heap[i]? :=λi hi=>by
     rw[b];unfold putRow mapBlock Sort.ahead;simp only[ah,if_neg (Ne.symm hi)]
    have t:m[k]? =some (.cells (putCells (ib) off l'.toArray cur) e (0,0)):=by
     rw[b];unfold putRow mapBlock Sort.ahead;simp only[ah,if_true,h1];rfl
    have hK:au [k] w.heap m:=⟨by rw[y];exact Nat.le_refl _,λi _ hi=>u i (by simpa using hi)⟩;have N:(putCells (ib) off l'.toArray cur).size=cur.size:=by unfold putCells;simp
    have J:=z.aA (j:=0) (b1:= .row 1 (List UInt8) encS (l'.map (·.1))) rfl hg (by rw[R];exact hK) (λq hq=>by simpa[aC]using hq) (.inr ⟨k,off,cap,_,e,l'.map (ib),by simp[hlen],t,(by rw[ar];omega),Z,by rw[N];exact h4,Dr l',λx _=>rfl,?_⟩)
    ·have K:=J.same (H':=m++os) ⟨by simp,λi hi _=>by rw[am hi]⟩;refine⟨.ret (.ao []),[.row 1 (List UInt8) encS (l'.map (·.1))],F,γ,⟨rfl,rfl⟩,rfl,rfl,rfl,⟨[],rfl,trivial⟩,?_⟩;show WR _ F γ _ ((putRow (ib) (Sort.ahead w n) k off l'.toArray).heap++os);rw[<-b];exact K
    ·refine List.ext_getElem? λj=>?_;by_cases hj:j<l'.length
     ·rw[ap (by simpa using hj),a6,a1];have S:off+j<cur.size:=by omega
      unfold putCells;rw[Array.getElem?_mapIdx,Array.getElem?_eq_getElem S];simp[hj]
     ·rw[a2 (by simp;omega),a2 (by simp;omega)]
   ·subst I;exact⟨rfl,rfl,rfl,λh=>by cases h⟩
end Go.Nest
end
