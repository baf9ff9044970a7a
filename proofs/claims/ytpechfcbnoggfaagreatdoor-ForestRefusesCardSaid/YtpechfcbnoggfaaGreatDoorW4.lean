/- part -/
import Derived.Test.YtpechfcbnoggfaaGreatDoorZ1
import Derived.Test.YtpechfcbnoggfaaGreatDoorAmH
import Derived.Test.YtpechfcbnoggfaaGreatDoorG9
import Derived.Test.YtpechfcbnoggfaaGreatDoorJ2
import Derived.Test.YtpechfcbnoggfaaGreatDoorV1
set_option linter.unusedVariables false
set_option linter.unusedSimpArgs false
section
namespace Go.Nest
open Go Go.AM Go.NB Go.Proofs Go.Sort
open Go.Proofs.YtpechfcbnoggfaaGreatDoor (tab tabOk)
set_option maxRecDepth 4000
theorem xJ{F:Nat→Prop}{H:ab}{m:Md}:∀{l:List Int} {css:List Value},RL F H m (l.flatMap encI) css→css=l.map (Value.int .i64)
 |[],_,h=>by cases h;rfl
 |x::l,css,h=>by
  rw[List.flatMap_cons]at h;cases h with
  |int t=>rw[xJ t];rfl
theorem yC{F:Nat→Prop}{H:ab}{m:Md}:∀(l:List Int),RL F H m (l.flatMap encI) (l.map (Value.int .i64))
 |[]=>.nl
 |x::l=>.int (yC l)
theorem ae.EX{P:Program}{f:FuncId}{l l':List Int}(hne:l≠[])(hlen:l'.length=l.length)(hcall:∀args w,(callFunc f args).run P w= .ok (.enter f args) w)
  (h:∀(blk off cap:Nat) (w:World),Holds (Value.int .i64) w blk off l.toArray→blk<w.heap.size→Calls P f #[.slice (some ⟨blk,off,none⟩) l.length cap] w fun e w'=>
   e= .returned (.tuple #[])∧∃n os,w'=grow (putRow (Value.int .i64) (Sort.ahead w n) blk off l'.toArray) os):
  ae P f [.c (.rw 0)] [.row 1 Int encI l] (Rt (.tup []) [.row 1 Int encI l']):=by
 intro F L γ H vs hargs hW w hw;subst hw;match vs,hargs with
 |[v],⟨hv,_⟩=>
  cases hv with
  | @rw _ _ p q n0 cap0 _ _ hg hq _=>
   have hbr:=hW.br 0 _ _ rfl hg;rcases hbr with⟨p',_,hl0⟩|⟨k,off,cap,cur,e,css,hpe,h1,h2,h3,h4,h5,h6,h7⟩
   ·exact absurd hl0 hne
   obtain⟨rfl,rfl,rfl⟩:p=some ⟨k,off,none⟩∧n0=l.length∧cap0=cap+1:=by simpa using hpe
   obtain rfl:=hq (by omega);have hk:k<w.heap.size:=(Array.getElem?_eq_some_iff.1 h1).1;have hcss:=xJ h5;have hcl:css.length=l.length:=by rw[hcss,List.length_map]
   have hget:∀j,j<l.length→cur[off+j]? =some (Value.int .i64 (l.toArray[j]!)):=fun j hj=>by
    have h8:((cur.toList.drop off).take css.length)[j]? =css[j]? :=by rw[h7]
    rw[List.getElem?_take_of_lt (by omega),List.getElem?_drop,hcss]at h8;rw[←Array.getElem?_toList,h8,List.getElem?_map,List.getElem?_eq_getElem hj];simp[hj]
   have hH:Holds (Value.int .i64) w k off l.toArray:=fun j hj=>by
    have hj:j<l.length:=by simpa using hj
    refine⟨?_,?_⟩
    ·unfold World.cell?;simp only[h1,Option.isSome_none];exact hget j hj
    ·unfold World.frozen?;simp only[h1];simp
   have hcon:=h k off (cap+1) w hH hk;rw[hcall];refine⟨rfl,hcon.mono fun e' w' ⟨he,n,os,hw'⟩=>.inl ⟨_,he,?_,?_⟩⟩
   ·subst hw';have hob:ax (.row 1 Int encI l) (.slice (some ⟨k,off,none⟩) l.length (cap+1))=[k]:=rfl;obtain⟨H1,hH1⟩:∃H1,H1=(putRow (Value.int .i64) (Sort.ahead w n) k off l'.toArray).heap:=⟨_,rfl⟩;have hH1s:H1.size=w.heap.size:=by rw[hH1];unfold putRow mapBlock Sort.ahead;simp
    have hH1o:∀i,i≠k→H1[i]? =w.heap[i]? :=fun i hi=>by
     rw[hH1];unfold putRow mapBlock Sort.ahead;simp only[Array.getElem?_modify,if_neg (Ne.symm hi)]
    have hH1k:H1[k]? =some (.cells (putCells (Value.int .i64) off l'.toArray cur) e (0,0)):=by
     rw[hH1];unfold putRow mapBlock Sort.ahead;simp only[Array.getElem?_modify,if_true,h1];rfl
    have hK:ak [k] w.heap H1:=⟨by rw[hH1s];exact Nat.le_refl _,fun i _ hi=>hH1o i (by simpa using hi)⟩;have hcs:(putCells (Value.int .i64) off l'.toArray cur).size=cur.size:=by unfold putCells;simp
    have hW1:=hW.aq (j:=0) (b1:= .row 1 Int encI l') rfl hg (by rw[hob];exact hK) (fun q hq=>by simpa[ax]using hq) (.inr ⟨k,off,cap,_,e,l'.map (Value.int .i64),by rw[hlen],hH1k,by omega,h3,by rw[hcs];exact h4,yC l',fun x _=>rfl,?_⟩)
    ·have hW2:=hW1.same (H':=H1++os) ⟨by simp,fun i hi _=>by rw[Array.getElem?_append_left hi]⟩;refine⟨.ret (.tup []),[.row 1 Int encI l'],F,γ,⟨rfl,rfl⟩,rfl,rfl,rfl,⟨[],rfl,trivial⟩,?_⟩;show WR _ F γ _ ((putRow (Value.int .i64) (Sort.ahead w n) k off l'.toArray).heap++os);rw[←hH1];exact hW2
    ·refine List.ext_getElem? fun j=>?_;by_cases hj:j<l'.length
     ·rw[List.getElem?_take_of_lt (by simpa using hj),List.getElem?_drop,Array.getElem?_toList];have hoj:off+j<cur.size:=by omega
      unfold putCells;rw[Array.getElem?_mapIdx,Array.getElem?_eq_getElem hoj];simp[hj]
     ·rw[List.getElem?_eq_none (by simp;omega),List.getElem?_eq_none (by simp;omega)]
   ·subst hw';exact⟨rfl,rfl,rfl,fun e=>(by cases e)⟩
theorem zL(l:List Int)(hne:l≠[])(hl:l.length≤1000000):ae Tryz.prog 73 [.c (.rw 0)] [.row 1 Int encI l] (Rt (.tup []) [.row 1 Int encI (l.mergeSort fun x y=>decide (x≤y))]):=
 ae.EX hne (List.length_mergeSort l) Tryz.call73 (fun blk off cap w hH hblk=>Any.slices_Sort_int DS blk off cap l w hH hblk (by omega))
end Go.Nest
end
section
namespace Go.Nest
open Go Go.AM Go.Proofs
open Go.Proofs.YtpechfcbnoggfaaGreatDoor (tab tabOk)
set_option maxRecDepth 4000
theorem DB(l:List Int)(n:Int):ae Tryz.prog 218 [.c (.bs 1 Int encI l),.c (.int .i64 n)] [] (Rt (.c (.int .i64 (bH (fun x=>decide (x=n)) l))) []):=by
 refine ao (n:=19) (n0:=0) tabOk Tryz.call218 Tryz.func218 ?_;intro hb;have hb:l.length≤9223372036854775807:=hb.1.1;(conv=>whnf);refine lp Nat (fun i=>⟨[(0,.c (.bs 1 Int encI l)),(1,.c (.int .i64 n)),(7,.c (.int .i64 l.length)),(8,.c (.int .i64 i))],[]⟩) (fun i=>i≤l.length∧(l.take i).any (fun x=>decide (x=n))=false) (fun i=>l.length-i) 0 [] [] ?_ ?_ (fun i hi=>?_)
 ·simp
 ·repeat' first|exact trivial|exact rfl|refine And.intro ?_ ?_
 (conv=>whnf);refine dec (fun h4=>?_) (fun h4=>?_)
 ·have hlt:i<l.length:=by omega
  repeat'((conv=>whnf);first|(refine dec (fun h=>?_) (fun h=>?_)<;>try contradiction)|refine⟨i64 (by omega) (by omega),?_⟩|refine⟨_,_,rfl,List.getElem?_eq_getElem (by omega),?_⟩|refine aI ?_|fail)
  ·exact jj hlt hi.2 (by simpa using h.symm)
  ·refine ag (i+1) [] [] ⟨hlt,gq hlt hi.2 (by simpa using fun e=>h (Eq.symm e))⟩ (by simp only[];omega) ?_;repeat' first|exact trivial|exact rfl|refine And.intro ?_ ?_
 ·repeat'((conv=>whnf);first|refine aI ?_|fail)
  have:=hi.2;rw[List.take_of_length_le (by omega)]at this;exact jM this
theorem fl(l:List Int)(n:Int):ae Tryz.prog 134 [.c (.bs 1 Int encI l),.c (.int .i64 n)] [] (Rt (.c (.bool (cS l n))) []):=by
 refine ao (n:=9) (n0:=0) tabOk Tryz.call134 Tryz.func134 ?_;intro hb;(conv=>whnf);refine cl [] [] (DB l n) ?_;(conv=>whnf);exact aC (mo ..)
theorem wb(L:List Ob)(hL:aj L)(id:Int):ae Tryz.prog 275 [.c (.bp [.bs 6 Ob an L]),.c (.int .i64 id)] [] (Rt (.tup [(true,an (if kindOf L id=3 then ai L id else kK)),(false,[.int .i64 (if kindOf L id=3 then 0 else 9)])]) []):=by
 refine ao (n:=23) (n0:=0) tabOk Tryz.call275 Tryz.func275 ?_;intro hb;have hk:(ai L id).kind=kindOf L id:=fp;(conv=>whnf);refine cl [] [] (fJ L hL id) ?_;by_cases h3:kindOf L id=3
 ·rw[if_pos h3,if_pos h3,decide_eq_true (show kindOf L id≠0 by omega)];repeat'((conv=>whnf);first|(refine av (fun h=>?_) (fun h=>?_)<;>try contradiction)|fail)
  ·omega
  (conv=>whnf);exact rx [] []
 ·rw[if_neg h3,if_neg h3];by_cases h0:kindOf L id=0
  ·rw[decide_eq_false (show¬kindOf L id≠0 by omega)];skip;(conv=>whnf);exact rx [] []
  ·rw[decide_eq_true (show kindOf L id≠0 by omega)];repeat'((conv=>whnf);first|(refine av (fun h=>?_) (fun h=>?_)<;>try contradiction)|fail)
   ·(conv=>whnf);exact rx [] []
   ·omega
set_option maxHeartbeats 1000000 in
theorem o8(L:List Ob)(hL:aj L)(id:Int):ae Tryz.prog 206 [.c (.bp [.bs 6 Ob an L]),.c (.int .i64 id)] [] (Rt (.tup [(false,[.rw 0]),(false,[.int .i64 (b7 L id).2])]) [.row 1 Int encI (b7 L id).1]):=by
 refine ao (n:=59) (n0:=0) tabOk Tryz.call206 Tryz.func206 ?_;intro hb;have hlen:=hL.len;(conv=>whnf);refine cl [] [] (wb L hL id) ?_;by_cases h3:kindOf L id=3
 ·rw[show b7 L id=(aX L id,0)by unfold b7;rw[if_pos h3],if_pos h3,if_pos h3];(conv=>whnf);refine⟨[id],rfl,?_⟩;(conv=>whnf);refine lp (Nat×List Int) (fun x=>⟨[(0,.c (.bp [.bs 6 Ob an L])),(8,.c (.rw 0)),(9,.c (.int .i64 x.1))],[.row 1 Int encI x.2]⟩) (fun x=>fC L id x.2 x.1∧True) (fun x=>L.length-x.1) (0,[id]) [] [.same 1] ?_ ?_ (fun x hx=>?_)
  ·exact⟨fC.start,trivial⟩
  ·repeat' first|exact trivial|exact rfl|refine And.intro ?_ ?_
  obtain⟨i,out⟩:=x;obtain⟨hx,_⟩:=hx;dsimp only at hx;have hol:=hx.len hL h3;(conv=>whnf);refine dec (fun h4=>?_) (fun h4=>?_)
  ·have hlt:i<out.length:=by have h4:(i:Int)<out.length:=h4;omega
   have hax:=hx.anc _ (List.getElem_mem hlt);have hkx:=hax.kind hL h3;have hpl:=(hL.get (id:=out[i]) (by omega)).parents;repeat'((conv=>whnf);first|refine⟨_,⟨rfl,by omega⟩,?_⟩|refine⟨_,List.getElem?_eq_getElem (by omega),?_⟩|fail)
   (conv=>whnf);refine cl [] [] (wb L hL out[i]) ?_;rw[if_pos hkx];skip;(conv=>whnf)
   refine lp (Nat×List Int) (fun y=>⟨[(0,.c (.bp [.bs 6 Ob an L])),(8,.c (.rw 0)),(9,.c (.int .i64 i)),(41,.c (.bs 1 Int encI (ai L out[i]).parents)),(42,.c (.int .i64 (ai L out[i]).parents.length)),(43,.c (.int .i64 y.1))],[.row 1 Int encI y.2]⟩)
    (fun y=>fC L id y.2 i∧(y.1≤(ai L out[i]).parents.length∧y.2[i]? =some out[i])∧∀k∈(ai L out[i]).parents.take y.1,k∈y.2) (fun y=>(ai L out[i]).parents.length-y.1) (0,out) [] [.same 0] ?_ ?_ (fun y hy=>?_)
   ·exact⟨hx,⟨Nat.zero_le _,List.getElem?_eq_getElem hlt⟩,fun k hk=>by cases hk⟩
   ·repeat' first|exact trivial|exact rfl|refine And.intro ?_ ?_
   obtain⟨d,o2⟩:=y;obtain⟨hy,⟨hd,ho⟩,hk⟩:=hy;dsimp only at hy hd ho hk;have ho2:=hy.len hL h3;(conv=>whnf);refine dec (fun h5=>?_) (fun h5=>?_)
   ·have hdt:d<(ai L out[i]).parents.length:=by omega
    have htk:=List.take_succ_eq_append_getElem hdt;(conv=>whnf);refine⟨d,(ai L out[i]).parents[d],rfl,List.getElem?_eq_getElem hdt,?_⟩;generalize hkk:(ai L out[i]).parents[d]=k at*;have hkm:k∈(ai L out[i]).parents:=by rw[←hkk];exact List.getElem_mem hdt
    (conv=>whnf);refine cl [] [] (fl o2 k) ?_;(conv=>whnf);refine aO (fun h6=>?_) (fun h6=>?_)
    ·have h6:k∉o2:=fun h=>by rw[eI.2 h]at h6;cases h6
     (conv=>whnf);refine⟨[k],rfl,?_⟩;(conv=>whnf);refine⟨_,_,rfl,rfl,(by simp only[List.length_append,List.length_cons,List.length_nil];omega),?_⟩;repeat'((conv=>whnf);refine I6 ?_)
     refine ag (d+1,o2++[k]) [] [.same 2] ⟨hy.add h6 (hax.next hkm),⟨hdt,?_⟩,fun j hj=>?_⟩ (by simp only[];omega) ?_
     ·dsimp only;rw[List.getElem?_append_left (List.getElem?_eq_some_iff.1 ho).1];exact ho
     ·dsimp only at hj⊢;rw[htk,List.mem_append]at hj;exact List.mem_append.2 (hj.imp (hk j) fun h=>h)
     ·repeat' first|exact trivial|exact rfl|refine And.intro ?_ ?_
    ·have h6:k∈o2:=eI.1 (by cases hh:cS o2 k;rw[hh]at h6;cases h6;rfl);repeat'((conv=>whnf);refine I6 ?_)
     refine ag (d+1,o2) [] [.same 0] ⟨hy,⟨hdt,ho⟩,fun j hj=>?_⟩ (by simp only[];omega) ?_
     ·dsimp only at hj⊢;rw[htk,List.mem_append,List.mem_singleton]at hj;rcases hj with hj|rfl
      ·exact hk j hj
      ·exact h6
     ·repeat' first|exact trivial|exact rfl|refine And.intro ?_ ?_
   ·rw[List.take_of_length_le (by omega)]at hk;repeat'((conv=>whnf);refine I6 ?_)
    refine ag (i+1,o2) [] [.same 0] ⟨hy.next ho hk,trivial⟩ (by simp only[];omega) ?_;repeat' first|exact trivial|exact rfl|refine And.intro ?_ ?_
  ·have hm:=hx.stop (by have h4:¬(i:Int)<out.length:=h4;omega);have hne:out≠[]:=fun e=>by have:=hx.mem;rw[e]at this;cases this
   (conv=>whnf);refine cl [] [0] (zL out hne (by omega)) ?_;rw[Gv hL h3 hx.nd hm];(conv=>whnf);exact rx [] [.same 0]
 ·rw[show b7 L id=([],9)by unfold b7;rw[if_neg h3],if_neg h3,if_neg h3];(conv=>whnf);exact rx [] [.new]
theorem tc(L:List Ob)(hL:aj L)(a b:Int):ae Tryz.prog 128 [.c (.bp [.bs 6 Ob an L]),.c (.int .i64 a),.c (.int .i64 b)] [] (Rt (.c (.bool (ef L a b))) []):=by
 refine ao (n:=18) (n0:=0) tabOk Tryz.call128 Tryz.func128 ?_;intro hb;(conv=>whnf);refine cl [] [] (o8 L hL b) ?_;(conv=>whnf);refine cl [] [] (fl (b7 L b).1 a) ?_;(conv=>whnf);exact aC rfl
end Go.Nest
end
section
namespace Go.Nest
open Go Go.AM Go.Proofs
open Go.Proofs.YtpechfcbnoggfaaGreatDoor (tab tabOk)
set_option maxRecDepth 4000
theorem AK(y:List Int)(x:Int):ae Tryz.prog 208 [.c (.int .i64 x),.c (.bp [.bs 1 Int encI y])] [] (Rt (.c (.bool (!cS y x))) []):=by
 refine ao (n:=8) (n0:=0) tabOk Tryz.call208 Tryz.func208 ?_;intro hb;(conv=>whnf);refine cl [] [] (fl y x) ?_;(conv=>whnf);exact aC rfl
theorem AL(L:List Ob)(hL:aj L)(k x:Int):ae Tryz.prog 209 [.c (.int .i64 x),.c (.bp [.int .i64 k]),.c (.bp [.bp [.bs 6 Ob an L]])] [] (Rt (.c (.bool (decide (x≠k)&&ef L k x))) []):=by
 refine ao (n:=14) (n0:=0) tabOk Tryz.call209 Tryz.func209 ?_;intro hb;(conv=>whnf);refine av (fun h=>?_) (fun h=>?_)
 ·rw[decide_eq_true h];(conv=>whnf);refine cl [] [] (tc L hL k x) ?_;(conv=>whnf);exact aC (by simp)
 ·rw[decide_eq_false (by simpa using h)];(conv=>whnf);exact aC rfl
theorem Dv(F:Nat)(y:List Int)(p:Int→Bool)(hF:∀x,ae Tryz.prog F [.c (.int .i64 x),.c (.bp [.bs 1 Int encI y])] [] (Rt (.c (.bool (p x))) []))(l:List Int):ae Tryz.prog 178 [.c (.bs 1 Int encI l),.c (.fn F [.bp [.bs 1 Int encI y]])] [] (Rt (.c (.int .i64 (bH p l))) []):=by
 refine ao (n:=19) (n0:=0) tabOk Tryz.call178 Tryz.func178 ?_;intro hb;have hb:l.length≤9223372036854775807:=hb.1.1;(conv=>whnf);refine lp Nat (fun i=>⟨[(0,.c (.bs 1 Int encI l)),(1,.c (.fn F [.bp [.bs 1 Int encI y]])),(7,.c (.int .i64 l.length)),(8,.c (.int .i64 i))],[]⟩) (fun i=>i≤l.length∧(l.take i).any p=false) (fun i=>l.length-i) 0 [] [] ?_ ?_ (fun i hi=>?_)
 ·simp
 ·repeat' first|exact trivial|exact rfl|refine And.intro ?_ ?_
 (conv=>whnf);refine dec (fun h4=>?_) (fun h4=>?_)
 ·have hlt:i<l.length:=by omega
  repeat'((conv=>whnf);first|refine⟨_,_,rfl,List.getElem?_eq_getElem (by omega),?_⟩|fail)
  (conv=>whnf);refine cl [] [] (hF l[i]) ?_;(conv=>whnf);refine aO (fun h=>?_) (fun h=>?_)
  ·(conv=>whnf);exact aI (jj hlt hi.2 h)
  ·repeat'((conv=>whnf);refine I6 ?_)
   refine ag (i+1) [] [] ⟨hlt,gq hlt hi.2 h⟩ (by simp only[];omega) ?_;repeat' first|exact trivial|exact rfl|refine And.intro ?_ ?_
 ·repeat'((conv=>whnf);first|refine aI ?_|fail)
  have:=hi.2;rw[List.take_of_length_le (by omega)]at this;exact jM this
theorem Dw(F:Nat)(L:List Ob)(k:Int)(p:Int→Bool)(hF:∀x,ae Tryz.prog F [.c (.int .i64 x),.c (.bp [.int .i64 k]),.c (.bp [.bp [.bs 6 Ob an L]])] [] (Rt (.c (.bool (p x))) []))(l:List Int):ae Tryz.prog 178 [.c (.bs 1 Int encI l),.c (.fn F [.bp [.int .i64 k],.bp [.bp [.bs 6 Ob an L]]])] [] (Rt (.c (.int .i64 (bH p l))) []):=by
 refine ao (n:=19) (n0:=0) tabOk Tryz.call178 Tryz.func178 ?_;intro hb;have hb:l.length≤9223372036854775807:=hb.1.1;(conv=>whnf);refine lp Nat (fun i=>⟨[(0,.c (.bs 1 Int encI l)),(1,.c (.fn F [.bp [.int .i64 k],.bp [.bp [.bs 6 Ob an L]]])),(7,.c (.int .i64 l.length)),(8,.c (.int .i64 i))],[]⟩) (fun i=>i≤l.length∧(l.take i).any p=false) (fun i=>l.length-i) 0 [] [] ?_ ?_ (fun i hi=>?_)
 ·simp
 ·repeat' first|exact trivial|exact rfl|refine And.intro ?_ ?_
 (conv=>whnf);refine dec (fun h4=>?_) (fun h4=>?_)
 ·have hlt:i<l.length:=by omega
  repeat'((conv=>whnf);first|refine⟨_,_,rfl,List.getElem?_eq_getElem (by omega),?_⟩|fail)
  (conv=>whnf);refine cl [] [] (hF l[i]) ?_;(conv=>whnf);refine aO (fun h=>?_) (fun h=>?_)
  ·(conv=>whnf);exact aI (jj hlt hi.2 h)
  ·repeat'((conv=>whnf);refine I6 ?_)
   refine ag (i+1) [] [] ⟨hlt,gq hlt hi.2 h⟩ (by simp only[];omega) ?_;repeat' first|exact trivial|exact rfl|refine And.intro ?_ ?_
 ·repeat'((conv=>whnf);first|refine aI ?_|fail)
  have:=hi.2;rw[List.take_of_length_le (by omega)]at this;exact jM this
theorem Bq(L:List Ob)(hL:aj L)(k:Int)(l:List Int):ae Tryz.prog 106 [.c (.bs 1 Int encI l),.c (.fn 209 [.bp [.int .i64 k],.bp [.bp [.bs 6 Ob an L]]])] [] (Rt (.c (.bool (l.any fun x=>decide (x≠k)&&ef L k x))) []):=by
 refine ao (n:=9) (n0:=0) tabOk Tryz.call106 Tryz.func106 ?_;intro hb;(conv=>whnf);refine cl [] [] (Dw 209 L k (fun x=>decide (x≠k)&&ef L k x) (AL L hL k) l) ?_;(conv=>whnf);exact aC (mo ..)
structure fD(p:Int→Bool)(l r:List Int)(i j:Nat):Prop where
 le:i≤j
 jl:j≤l.length
 len:r.length=l.length
 pre:r.take i=(l.take j).filter fun x=> !p x
 suf:r.drop j=l.drop j
theorem filter_none{p:Int→Bool}{l:List Int}(h:l.any p=false):(l.filter fun x=> !p x)=l:=by
 rw[List.any_eq_false]at h;exact List.filter_eq_self.2 fun x hx=>by have:=h x hx;simpa using this
theorem fD.start{p:Int→Bool}{l:List Int}{i:Nat}(h:i<l.length)(h1:(l.take i).any p=false)(h2:p l[i]=true):fD p l l i (i+1):=by
 refine⟨by omega,h,rfl,?_,rfl⟩;rw[List.take_succ_eq_append_getElem h,List.filter_append,filter_none h1];simp[h2]
theorem fD.at{p:Int→Bool}{l r:List Int}{i j:Nat}(h:fD p l r i j)(hj:j<l.length):r[j]? =some l[j]:=by
 have:=congrArg (·[0]?) h.suf;simp only[List.getElem?_drop,Nat.add_zero]at this;rw[this,List.getElem?_eq_getElem hj]
theorem fD.oN{p:Int→Bool}{l r:List Int}{i j:Nat}(h:fD p l r i j):r.drop (j+1)=l.drop (j+1):=by
 rw[←List.drop_drop,h.suf,List.drop_drop]
theorem fD.drop{p:Int→Bool}{l r:List Int}{i j:Nat}(h:fD p l r i j)(hj:j<l.length)(hp:p l[j]=true):fD p l r i (j+1):=by
 have:=h.le;refine⟨by omega,hj,h.len,?_,h.oN⟩;rw[List.take_succ_eq_append_getElem hj,List.filter_append,←h.pre];simp[hp]
theorem fD.bQ{p:Int→Bool}{l r:List Int}{i j:Nat}(h:fD p l r i j)(hj:j<l.length)(hp:p l[j]=false):fD p l (r.set i l[j]) (i+1) (j+1):=by
 have:=h.le;have hi:i<r.length:=by rw[h.len];omega
 refine⟨by omega,hj,by rw[List.length_set];exact h.len,?_,?_⟩
 ·rw[List.take_succ_eq_append_getElem hj,List.filter_append,←h.pre,List.take_succ_eq_append_getElem (by rw[List.length_set];exact hi),List.getElem_set_self,List.take_set_of_le (Nat.le_refl _)];simp[hp]
 ·rw[List.drop_set_of_lt (by omega),h.oN]
theorem fD.stop{p:Int→Bool}{l r:List Int}{i:Nat}(h:fD p l r i l.length):r.take i=l.filter fun x=> !p x:=by
 have:=h.pre;rwa[List.take_length]at this
theorem C9{p:Int→Bool}{l:List Int}:(bH p l= -1∧l.any p=false)∨∃(i:Nat) (h:i<l.length),bH p l=i∧(l.take i).any p=false∧p l[i]=true:=by
 unfold bH;cases h:l.findIdx? p with
 |none=>
  rw[List.findIdx?_eq_none_iff]at h;exact .inl ⟨rfl,by rw[List.any_eq_false];intro x hx;simp[h x hx]⟩
 |some i=>
  rw[List.findIdx?_eq_some_iff_getElem]at h;obtain⟨h1,h2,h3⟩:=h;refine .inr ⟨i,h1,rfl,?_,h2⟩;rw[List.any_eq_false];intro x hx;obtain⟨j,hj,e⟩:=List.mem_take_iff_getElem.1 hx;rw[←e];exact h3 j (by omega)
theorem BO(F:Nat)(y:List Int)(p:Int→Bool)(hF:∀x,ae Tryz.prog F [.c (.int .i64 x),.c (.bp [.bs 1 Int encI y])] [] (Rt (.c (.bool (p x))) []))(l:List Int)(hl:l.length≤1000000):
  ae Tryz.prog 207 [.c (.rw 0),.c (.fn F [.bp [.bs 1 Int encI y]])] [.row 1 Int encI l] (Rt (.c (.rw 1)) [.dead,.row 1 Int encI (l.filter fun x=> !p x)]):=by
 refine ao (n:=42) (n0:=1) tabOk Tryz.call207 Tryz.func207 ?_;intro hb;(conv=>whnf);refine cl [] [] (Dv F y p hF l) ?_;rcases C9 (p:=p) (l:=l)with⟨e,hn⟩|⟨i,hi,e,hn,hp⟩
 ·rw[e,filter_none hn];(conv=>whnf);exact rx [] [.same 0,.same 0]
 rw[e];(conv=>whnf);refine⟨i64 (by omega) (by omega),?_⟩;(conv=>whnf);refine lp (Nat×Nat×List Int) (fun|(i,j,r)=>⟨[(0,.c (.rw 0)),(1,.c (.fn F [.bp [.bs 1 Int encI y]])),(5,.c (.int .i64 i)),(6,.c (.int .i64 j))],[.row 1 Int encI r]⟩) (fun x=>fD p l x.2.2 x.1 x.2.1∧True) (fun x=>l.length-x.2.1) (i,i+1,l) [] [.same 0] ?_ ?_ (fun x hx=>?_)
 ·exact⟨.start hi hn hp,trivial⟩
 ·repeat' first|exact trivial|exact rfl|refine And.intro ?_ ?_
 obtain⟨i,j,r⟩:=x;obtain⟨hx,_⟩:=hx;dsimp only at hx;have h1:=hx.le;have h2:=hx.jl;have h3:=hx.len;(conv=>whnf);refine dec (fun h4=>?_) (fun h4=>?_)
 ·have hj:j<l.length:=by omega
  have ha:=hx.at hj;(conv=>whnf);refine⟨j,⟨rfl,by omega⟩,?_⟩;(conv=>whnf);refine⟨l[j],ha,?_⟩;(conv=>whnf);refine cl [] [] (hF l[j]) ?_;(conv=>whnf);refine aO (fun h=>?_) (fun h=>?_)
  ·have h:p l[j]=false:=by simpa using h
   (conv=>whnf);refine⟨i,⟨rfl,by omega⟩,?_⟩;(conv=>whnf);refine⟨_,l[j],List.getElem?_eq_getElem (by omega),⟨Nat.le_refl _,rfl⟩,?_⟩;repeat'((conv=>whnf);refine I6 ?_)
   refine ag (i+1,j+1,r.set i l[j]) [] [.same 0] ⟨hx.bQ hj h,trivial⟩ (by simp only[];omega) ?_;repeat' first|exact trivial|exact rfl|refine And.intro ?_ ?_
  ·have h:p l[j]=true:=by simpa using h
   repeat'((conv=>whnf);refine I6 ?_)
   refine ag (i,j+1,r) [] [.same 0] ⟨hx.drop hj h,trivial⟩ (by simp only[];omega) ?_;repeat' first|exact trivial|exact rfl|refine And.intro ?_ ?_
 ·obtain rfl:j=l.length:=by omega
  (conv=>whnf);refine⟨i,r.length,rfl,by omega,by omega,?_⟩;(conv=>whnf);have hrl:(r.take i++(List.replicate (r.length-i) (0:Int)++r.drop (i+(r.length-i)))).length=r.length:=by simp;omega
  refine⟨0,rfl,by omega,?_⟩;(conv=>whnf);refine⟨0,i,rfl,rfl,⟨Nat.zero_le _,by rw[hrl];omega⟩,?_⟩;(conv=>whnf)
  have he:((r.take i++(List.replicate (r.length-i) (0:Int)++r.drop (i+(r.length-i)))).drop 0).take (i-0)=l.filter fun x=> !p x:=by
   rw[List.drop_zero,Nat.sub_zero,List.take_append_of_le_length (by rw[List.length_take];omega),List.take_take,Nat.min_self];exact hx.stop
  refine rt [] [.same 0,.cut 1 0 0 (i-0)] ?_ rfl ⟨rfl,rfl⟩;repeat' first|exact trivial|exact rfl|refine And.intro ?_ ?_
  ·omega
  ·rw[he]
end Go.Nest
end
section
namespace Go.Nest
open Go Go.AM Go.Proofs
open Go.Proofs.YtpechfcbnoggfaaGreatDoor (tab tabOk)
set_option maxRecDepth 4000
theorem G4{L:List Ob}{c:List Int}{i:Nat}(h:i<c.length):((c.take (i+1)).filter fun k=> !c.any fun m=>decide (m≠k)&&ef L k m)=((c.take i).filter fun k=> !c.any fun m=>decide (m≠k)&&ef L k m)++(if(c.any fun m=>decide (m≠c[i])&&ef L c[i] m)=true then[]else[c[i]]):=by
 rw[List.take_succ_eq_append_getElem h,List.filter_append];congr 1
 rw[List.filter_cons,List.filter_nil];cases (c.any fun m=>decide (m≠c[i])&&ef L c[i] m)<;>rfl
theorem AO{L:List Ob}{a b:Int}:((aX L a).filter fun x=> !(!cS (aX L b) x))=kZ L a b:=by
 unfold kZ;exact List.filter_congr fun x _=>by rw[Bool.not_not]
theorem AN{L:List Ob}{a b:Int}:(kZ L a b).length≤L.length:=Nat.le_trans (List.length_filter_le _ _) o6
set_option maxHeartbeats 1000000 in
theorem AR(L:List Ob)(hL:aj L)(a b:Int):ae Tryz.prog 129 [.c (.bp [.bs 6 Ob an L]),.c (.int .i64 a),.c (.int .i64 b)] [] (Rt (.tup [(false,[.rw 0]),(false,[.int .i64 (dW L a b).2])]) [.row 1 Int encI (dW L a b).1]):=by
 refine ao (n:=52) (n0:=0) tabOk Tryz.call129 Tryz.func129 ?_;intro hb;have hlen:=hL.len;have hal:(aX L a).length≤L.length:=o6;(conv=>whnf);refine cl [] [] (o8 L hL a) ?_;by_cases ha:kindOf L a=3
 ·rw[show b7 L a=(aX L a,0)by unfold b7;rw[if_pos ha]];(conv=>whnf);refine cl [] [] (o8 L hL b) ?_;by_cases hbk:kindOf L b=3
  ·rw[show b7 L b=(aX L b,0)by unfold b7;rw[if_pos hbk],show dW L a b=(zY L (kZ L a b),0)by unfold dW;rw[if_neg (by simpa using ha),if_neg (by simpa using hbk)]];(conv=>whnf);refine cl [2,3] [1] (BO 208 (aX L b) (fun x=> !cS (aX L b) x) (AK (aX L b)) (aX L a) (by omega)) ?_;rw[AO];have hcl:(kZ L a b).length≤L.length:=AN;generalize kZ L a b=c at*;(conv=>whnf);refine lp Nat (fun i=>⟨[(3,.c (.ptr 0 0)),(11,.c (.ls 1 Int encI c)),(12,.c (.rw 1)),(36,.c (.ls 1 Int encI c)),(37,.c (.int .i64 c.length)),(38,.c (.int .i64 i))],[.box [.bp [.bs 6 Ob an L]],.row 1 Int encI ((c.take i).filter fun k=> !c.any fun m=>decide (m≠k)&&ef L k m)]⟩) (fun i=>i≤c.length∧True) (fun i=>c.length-i) 0 [4] [.same 0,.new] ?_ ?_ (fun i hi=>?_)
   ·exact⟨Nat.zero_le _,trivial⟩
   ·repeat' first|exact trivial|exact rfl|refine And.intro ?_ ?_
   (conv=>whnf);refine dec (fun h4=>?_) (fun h4=>?_)
   ·have hlt:i<c.length:=by omega
    have hst:=G4 (L:=L) hlt;have hsl:=List.length_filter_le (fun k=> !c.any fun m=>decide (m≠k)&&ef L k m) (c.take i);rw[List.length_take]at hsl;(conv=>whnf);refine⟨i,c[i],rfl,List.getElem?_eq_getElem hlt,?_⟩;(conv=>whnf);refine cl [0,2] [] (Bq L hL c[i] c) ?_;(conv=>whnf);refine aO (fun h=>?_) (fun h=>?_)
    ·have h:(c.any fun m=>decide (m≠c[i])&&ef L c[i] m)=false:=by simpa using h
     rw[h,if_neg (by decide)]at hst;(conv=>whnf);refine⟨[c[i]],rfl,?_⟩;(conv=>whnf);refine⟨_,_,rfl,rfl,(by simp only[List.length_append,List.length_cons,List.length_nil];omega),?_⟩;repeat'((conv=>whnf);refine I6 ?_)
     refine ag (i+1) [] [.same 0,.same 4] ⟨hlt,trivial⟩ (by simp only[];omega) ?_;repeat' first|exact trivial|exact rfl|refine And.intro ?_ ?_
     rw[hst];exact rfl
    ·have h:(c.any fun m=>decide (m≠c[i])&&ef L c[i] m)=true:=by simpa using h
     rw[h,if_pos rfl,List.append_nil]at hst;repeat'((conv=>whnf);refine I6 ?_)
     refine ag (i+1) [] [.same 0,.same 1] ⟨hlt,trivial⟩ (by simp only[];omega) ?_;repeat' first|exact trivial|exact rfl|refine And.intro ?_ ?_
     rw[hst];exact rfl
   ·obtain rfl:i=c.length:=by omega
    rw[List.take_length];(conv=>whnf);exact rx [] [.same 1]
  ·rw[show b7 L b=([],9)by unfold b7;rw[if_neg hbk],show dW L a b=([],9)by unfold dW;rw[if_neg (by simpa using ha),if_pos hbk]];(conv=>whnf);exact rx [] [.new]
 ·rw[show b7 L a=([],9)by unfold b7;rw[if_neg ha],show dW L a b=([],9)by unfold dW;rw[if_pos ha]];(conv=>whnf);exact rx [] [.new]
end Go.Nest
end
