/- part -/
import Derived.Test.YtpechfcbnoggfaaGreatDoorZ1
import Derived.Test.YtpechfcbnoggfaaGreatDoorAmH
import Derived.Test.YtpechfcbnoggfaaGreatDoorW1
import Derived.Test.YtpechfcbnoggfaaGreatDoorJ2
import Derived.Test.YtpechfcbnoggfaaGreatDoorV1
set_option linter.unusedVariables false
set_option linter.unusedSimpArgs false
section
namespace Go.Nest
open Go Go.AM Go.NB Go.Proofs Go.Sort
open Go.Proofs.YtpechfcbnoggfaaGreatDoor (tab tabOk)
set_option maxRecDepth 4000
theorem za{F:Nat→Prop}{H:ab}{m:Md}:∀{l:List Int} {css:List Value},RL F H m (l.flatMap encI) css→css=l.map (Value.int .i64)
 |[],_,h=>by cases h;rfl
 |x::l,css,h=>by
  rw[List.flatMap_cons]at h;cases h with
  |int t=>rw[za t];rfl
theorem Af{F:Nat→Prop}{H:ab}{m:Md}:∀(l:List Int),RL F H m (l.flatMap encI) (l.map (Value.int .i64))
 |[]=>.nl
 |x::l=>.int (Af l)
theorem ae.GV{P:Program}{f:FuncId}{l l':List Int}(hne:l≠[])(hlen:l'.length=l.length)(o:∀args w,(callFunc f args).run P w= .ok (.enter f args) w)
  (h:∀(a off cap:Nat) (w:World),Holds (Value.int .i64) w a off l.toArray→a<w.heap.size→Calls P f #[.slice (some ⟨a,off,none⟩) l.length cap] w fun e w'=>
   e= .returned (.tuple #[])∧∃n os,w'=grow (putRow (Value.int .i64) (Sort.ahead w n) a off l'.toArray) os):
  ae P f [.c (.rw 0)] [.row 1 Int encI l] (Rt (.aC []) [.row 1 Int encI l']):=by
 intro F L γ H vs m S w hw;subst hw;match vs,m with
 |[v],⟨hv,_⟩=>
  cases hv with
  | @rw _ _ p q n0 r _ _ hg hq _=>
   have J:=S.br 0 _ _ rfl hg;rcases J with⟨p',_,M⟩|⟨k,off,cap,cur,e,css,Q,h1,h2,T,U,W,h6,Y⟩
   ·exact absurd M hne
   obtain⟨rfl,rfl,rfl⟩:p=some ⟨k,off,none⟩∧n0=l.length∧r=cap+1:=by simpa using Q
   obtain rfl:=hq (by omega);have hk:k<w.heap.size:=(Array.getElem?_eq_some_iff.1 h1).1;have d:=za W;have ac:css.length=l.length:=by rw[d,List.length_map]
   have z:∀j,j<l.length→cur[off+j]? =some (Value.int .i64 (l.toArray[j]!)):=fun j hj=>by
    have R:((cur.toList.drop off).take css.length)[j]? =css[j]? :=by rw[Y]
    rw[List.getElem?_take_of_lt (by omega),List.getElem?_drop,d]at R;rw[←Array.getElem?_toList,R,List.getElem?_map,List.getElem?_eq_getElem hj];simp[hj]
   have Z:Holds (Value.int .i64) w k off l.toArray:=fun j hj=>by
    have hj:j<l.length:=by simpa using hj
    refine⟨?_,?_⟩
    ·unfold World.cell?;simp only[h1,Option.isSome_none];exact z j hj
    ·unfold World.frozen?;simp only[h1];simp
   have y:=h k off (cap+1) w Z hk;rw[o];refine⟨rfl,y.mono fun e' w' ⟨he,n,os,D⟩=>.inl ⟨_,he,?_,?_⟩⟩
   ·subst D;have N:az (.row 1 Int encI l) (.slice (some ⟨k,off,none⟩) l.length (cap+1))=[k]:=rfl;obtain⟨g,b⟩:∃g,g=(putRow (Value.int .i64) (Sort.ahead w n) k off l'.toArray).heap:=⟨_,rfl⟩;have u:g.size=w.heap.size:=by rw[b];unfold putRow mapBlock Sort.ahead;simp
    have t:∀i,i≠k→g[i]? =w.heap[i]? :=fun i hi=>by
     rw[b];unfold putRow mapBlock Sort.ahead;simp only[Array.getElem?_modify,if_neg (Ne.symm hi)]
    have s:g[k]? =some (.cells (putCells (Value.int .i64) off l'.toArray cur) e (0,0)):=by
     rw[b];unfold putRow mapBlock Sort.ahead;simp only[Array.getElem?_modify,if_true,h1];rfl
    have hK:aq [k] w.heap g:=⟨by rw[u];exact Nat.le_refl _,fun i _ hi=>t i (by simpa using hi)⟩;have K:(putCells (Value.int .i64) off l'.toArray cur).size=cur.size:=by unfold putCells;simp
    have E:=S.ay (j:=0) (b1:= .row 1 Int encI l') rfl hg (by rw[N];exact hK) (fun q hq=>by simpa[az]using hq) (.inr ⟨k,off,cap,_,e,l'.map (Value.int .i64),by rw[hlen],s,by omega,T,by rw[K];exact U,Af l',fun x _=>rfl,?_⟩)
    ·have I:=E.same (H':=g++os) ⟨by simp,fun i hi _=>by rw[Array.getElem?_append_left hi]⟩;refine⟨.ret (.aC []),[.row 1 Int encI l'],F,γ,⟨rfl,rfl⟩,rfl,rfl,rfl,⟨[],rfl,trivial⟩,?_⟩;show WR _ F γ _ ((putRow (Value.int .i64) (Sort.ahead w n) k off l'.toArray).heap++os);rw[←b];exact I
    ·refine List.ext_getElem? fun j=>?_;by_cases hj:j<l'.length
     ·rw[List.getElem?_take_of_lt (by simpa using hj),List.getElem?_drop,Array.getElem?_toList];have O:off+j<cur.size:=by omega
      unfold putCells;rw[Array.getElem?_mapIdx,Array.getElem?_eq_getElem O];simp[hj]
     ·rw[List.getElem?_eq_none (by simp;omega),List.getElem?_eq_none (by simp;omega)]
   ·subst D;exact⟨rfl,rfl,rfl,fun e=>(by cases e)⟩
theorem Bh(l:List Int)(hne:l≠[])(hl:l.length≤1000000):ae Tryz.prog 73 [.c (.rw 0)] [.row 1 Int encI l] (Rt (.aC []) [.row 1 Int encI (l.mergeSort fun x y=>decide (x≤y))]):=
 ae.GV hne (List.length_mergeSort l) Tryz.call73 (fun b d cap w e a=>Any.slices_Sort_int FN b d cap l w e a (by omega))
end Go.Nest
end
section
namespace Go.Nest
open Go Go.AM Go.Proofs
open Go.Proofs.YtpechfcbnoggfaaGreatDoor (tab tabOk)
set_option maxRecDepth 4000
theorem Fs(l:List Int)(n:Int):ae Tryz.prog 218 [.c (.bs 1 Int encI l),.c (.int .i64 n)] [] (Rt (.c (.int .i64 (bF (fun x=>decide (x=n)) l))) []):=by
 refine ak (n:=19) (n0:=0) tabOk Tryz.call218 Tryz.func218 ?_;intro hb;have hb:l.length≤9223372036854775807:=hb.1.1;(conv=>whnf);refine lp Nat (fun i=>⟨[(0,.c (.bs 1 Int encI l)),(1,.c (.int .i64 n)),(7,.c (.int .i64 l.length)),(8,.c (.int .i64 i))],[]⟩) (fun i=>i≤l.length∧(l.take i).any (fun x=>decide (x=n))=false) (fun i=>l.length-i) 0 [] [] ?_ ?_ (fun i b=>?_)
 ·simp
 ·repeat' first|exact trivial|exact rfl|refine And.intro ?_ ?_
 (conv=>whnf);refine dec (fun d=>?_) (fun d=>?_)
 ·have a:i<l.length:=by omega
  repeat'((conv=>whnf);first|(refine dec (fun h=>?_) (fun h=>?_)<;>try contradiction)|refine⟨i64 (by omega) (by omega),?_⟩|refine⟨_,_,rfl,List.getElem?_eq_getElem (by omega),?_⟩|refine aG ?_|fail)
  ·exact jk a b.2 (by simpa using h.symm)
  ·refine ag (i+1) [] [] ⟨a,gA a b.2 (by simpa using fun e=>h (Eq.symm e))⟩ (by simp only[];omega) ?_;repeat' first|exact trivial|exact rfl|refine And.intro ?_ ?_
 ·repeat'((conv=>whnf);first|refine aG ?_|fail)
  have:=b.2;rw[List.take_of_length_le (by omega)]at this;exact jT this
theorem fN(l:List Int)(n:Int):ae Tryz.prog 134 [.c (.bs 1 Int encI l),.c (.int .i64 n)] [] (Rt (.c (.bool (cW l n))) []):=by
 refine ak (n:=9) (n0:=0) tabOk Tryz.call134 Tryz.func134 ?_;intro hb;(conv=>whnf);refine cl [] [] (Fs l n) ?_;(conv=>whnf);exact aE (nH ..)
theorem xy(L:List Ob)(b:ai L)(id:Int):ae Tryz.prog 275 [.c (.bp [.bs 6 Ob an L]),.c (.int .i64 id)] [] (Rt (.aC [(true,an (if kindOf L id=3 then aj L id else lL)),(false,[.int .i64 (if kindOf L id=3 then 0 else 9)])]) []):=by
 refine ak (n:=23) (n0:=0) tabOk Tryz.call275 Tryz.func275 ?_;intro hb;have e:(aj L id).kind=kindOf L id:=eP;(conv=>whnf);refine cl [] [] (fc L b id) ?_;by_cases a:kindOf L id=3
 ·rw[if_pos a,if_pos a,decide_eq_true (show kindOf L id≠0 by omega)];repeat'((conv=>whnf);first|(refine aw (fun h=>?_) (fun h=>?_)<;>try contradiction)|fail)
  ·omega
  (conv=>whnf);exact rx [] []
 ·rw[if_neg a,if_neg a];by_cases d:kindOf L id=0
  ·rw[decide_eq_false (show¬kindOf L id≠0 by omega)];skip;(conv=>whnf);exact rx [] []
  ·rw[decide_eq_true (show kindOf L id≠0 by omega)];repeat'((conv=>whnf);first|(refine aw (fun h=>?_) (fun h=>?_)<;>try contradiction)|fail)
   ·(conv=>whnf);exact rx [] []
   ·omega
set_option maxHeartbeats 1000000 in
theorem qd(L:List Ob)(m:ai L)(id:Int):ae Tryz.prog 206 [.c (.bp [.bs 6 Ob an L]),.c (.int .i64 id)] [] (Rt (.aC [(false,[.rw 0]),(false,[.int .i64 (bX L id).2])]) [.row 1 Int encI (bX L id).1]):=by
 refine ak (n:=59) (n0:=0) tabOk Tryz.call206 Tryz.func206 ?_;intro hb;have E:=m.len;(conv=>whnf);refine cl [] [] (xy L m id) ?_;by_cases b:kindOf L id=3
 ·rw[show bX L id=(aW L id,0)by unfold bX;rw[if_pos b],if_pos b,if_pos b];(conv=>whnf);refine⟨[id],rfl,?_⟩;(conv=>whnf);refine lp (Nat×List Int) (fun x=>⟨[(0,.c (.bp [.bs 6 Ob an L])),(8,.c (.rw 0)),(9,.c (.int .i64 x.1))],[.row 1 Int encI x.2]⟩) (fun x=>gb L id x.2 x.1∧True) (fun x=>L.length-x.1) (0,[id]) [] [.same 1] ?_ ?_ (fun x l=>?_)
  ·exact⟨gb.start,trivial⟩
  ·repeat' first|exact trivial|exact rfl|refine And.intro ?_ ?_
  obtain⟨i,out⟩:=x;obtain⟨l,_⟩:=l;dsimp only at l;have M:=l.len m b;(conv=>whnf);refine dec (fun q=>?_) (fun q=>?_)
  ·have s:i<out.length:=by have q:(i:Int)<out.length:=q;omega
   have r:=l.anc _ (List.getElem_mem s);have z:=r.kind m b;have N:=(m.get (id:=out[i]) (by omega)).parents;repeat'((conv=>whnf);first|refine⟨_,⟨rfl,by omega⟩,?_⟩|refine⟨_,List.getElem?_eq_getElem (by omega),?_⟩|fail)
   (conv=>whnf);refine cl [] [] (xy L m out[i]) ?_;rw[if_pos z];skip;(conv=>whnf)
   refine lp (Nat×List Int) (fun y=>⟨[(0,.c (.bp [.bs 6 Ob an L])),(8,.c (.rw 0)),(9,.c (.int .i64 i)),(41,.c (.bs 1 Int encI (aj L out[i]).parents)),(42,.c (.int .i64 (aj L out[i]).parents.length)),(43,.c (.int .i64 y.1))],[.row 1 Int encI y.2]⟩)
    (fun y=>gb L id y.2 i∧(y.1≤(aj L out[i]).parents.length∧y.2[i]? =some out[i])∧∀k∈(aj L out[i]).parents.take y.1,k∈y.2) (fun y=>(aj L out[i]).parents.length-y.1) (0,out) [] [.same 0] ?_ ?_ (fun y p=>?_)
   ·exact⟨l,⟨Nat.zero_le _,List.getElem?_eq_getElem s⟩,fun k o=>by cases o⟩
   ·repeat' first|exact trivial|exact rfl|refine And.intro ?_ ?_
   obtain⟨d,o2⟩:=y;obtain⟨p,⟨H,t⟩,o⟩:=p;dsimp only at p H t o;have K:=p.len m b;(conv=>whnf);refine dec (fun F=>?_) (fun F=>?_)
   ·have a:d<(aj L out[i]).parents.length:=by omega
    have u:=List.take_succ_eq_append_getElem a;(conv=>whnf);refine⟨d,(aj L out[i]).parents[d],rfl,List.getElem?_eq_getElem a,?_⟩;generalize v:(aj L out[i]).parents[d]=k at*;have w:k∈(aj L out[i]).parents:=by rw[←v];exact List.getElem_mem a
    (conv=>whnf);refine cl [] [] (fN o2 k) ?_;(conv=>whnf);refine aL (fun f=>?_) (fun f=>?_)
    ·have f:k∉o2:=fun h=>by rw[ff.2 h]at f;cases f
     (conv=>whnf);refine⟨[k],rfl,?_⟩;(conv=>whnf);refine⟨_,_,rfl,rfl,(by simp only[List.length_append,List.length_cons,List.length_nil];omega),?_⟩;repeat'((conv=>whnf);refine I6 ?_)
     refine ag (d+1,o2++[k]) [] [.same 2] ⟨p.add f (r.next w),⟨a,?_⟩,fun j g=>?_⟩ (by simp only[];omega) ?_
     ·dsimp only;rw[List.getElem?_append_left (List.getElem?_eq_some_iff.1 t).1];exact t
     ·dsimp only at g⊢;rw[u,List.mem_append]at g;exact List.mem_append.2 (g.imp (o j) fun h=>h)
     ·repeat' first|exact trivial|exact rfl|refine And.intro ?_ ?_
    ·have f:k∈o2:=ff.1 (by cases I:cW o2 k;rw[I]at f;cases f;rfl);repeat'((conv=>whnf);refine I6 ?_)
     refine ag (d+1,o2) [] [.same 0] ⟨p,⟨a,t⟩,fun j g=>?_⟩ (by simp only[];omega) ?_
     ·dsimp only at g⊢;rw[u,List.mem_append,List.mem_singleton]at g;rcases g with g|rfl
      ·exact o j g
      ·exact f
     ·repeat' first|exact trivial|exact rfl|refine And.intro ?_ ?_
   ·rw[List.take_of_length_le (by omega)]at o;repeat'((conv=>whnf);refine I6 ?_)
    refine ag (i+1,o2) [] [.same 0] ⟨p.next t o,trivial⟩ (by simp only[];omega) ?_;repeat' first|exact trivial|exact rfl|refine And.intro ?_ ?_
  ·have J:=l.stop (by have q:¬(i:Int)<out.length:=q;omega);have D:out≠[]:=fun e=>by have:=l.mem;rw[e]at this;cases this
   (conv=>whnf);refine cl [] [0] (Bh out D (by omega)) ?_;rw[IF m b l.nd J];(conv=>whnf);exact rx [] [.same 0]
 ·rw[show bX L id=([],9)by unfold bX;rw[if_neg b],if_neg b,if_neg b];(conv=>whnf);exact rx [] [.new]
theorem uw(L:List Ob)(d:ai L)(a b:Int):ae Tryz.prog 128 [.c (.bp [.bs 6 Ob an L]),.c (.int .i64 a),.c (.int .i64 b)] [] (Rt (.c (.bool (eQ L a b))) []):=by
 refine ak (n:=18) (n0:=0) tabOk Tryz.call128 Tryz.func128 ?_;intro hb;(conv=>whnf);refine cl [] [] (qd L d b) ?_;(conv=>whnf);refine cl [] [] (fN (bX L b).1 a) ?_;(conv=>whnf);exact aE rfl
end Go.Nest
end
section
namespace Go.Nest
open Go Go.AM Go.Proofs
open Go.Proofs.YtpechfcbnoggfaaGreatDoor (tab tabOk)
set_option maxRecDepth 4000
theorem Cp(y:List Int)(x:Int):ae Tryz.prog 208 [.c (.int .i64 x),.c (.bp [.bs 1 Int encI y])] [] (Rt (.c (.bool (!cW y x))) []):=by
 refine ak (n:=8) (n0:=0) tabOk Tryz.call208 Tryz.func208 ?_;intro hb;(conv=>whnf);refine cl [] [] (fN y x) ?_;(conv=>whnf);exact aE rfl
theorem Cq(L:List Ob)(a:ai L)(k x:Int):ae Tryz.prog 209 [.c (.int .i64 x),.c (.bp [.int .i64 k]),.c (.bp [.bp [.bs 6 Ob an L]])] [] (Rt (.c (.bool (decide (x≠k)&&eQ L k x))) []):=by
 refine ak (n:=14) (n0:=0) tabOk Tryz.call209 Tryz.func209 ?_;intro hb;(conv=>whnf);refine aw (fun h=>?_) (fun h=>?_)
 ·rw[decide_eq_true h];(conv=>whnf);refine cl [] [] (uw L a k x) ?_;(conv=>whnf);exact aE (by simp)
 ·rw[decide_eq_false (by simpa using h)];(conv=>whnf);exact aE rfl
theorem Fk(F:Nat)(y:List Int)(p:Int→Bool)(e:∀x,ae Tryz.prog F [.c (.int .i64 x),.c (.bp [.bs 1 Int encI y])] [] (Rt (.c (.bool (p x))) []))(l:List Int):ae Tryz.prog 178 [.c (.bs 1 Int encI l),.c (.fn F [.bp [.bs 1 Int encI y]])] [] (Rt (.c (.int .i64 (bF p l))) []):=by
 refine ak (n:=19) (n0:=0) tabOk Tryz.call178 Tryz.func178 ?_;intro hb;have hb:l.length≤9223372036854775807:=hb.1.1;(conv=>whnf);refine lp Nat (fun i=>⟨[(0,.c (.bs 1 Int encI l)),(1,.c (.fn F [.bp [.bs 1 Int encI y]])),(7,.c (.int .i64 l.length)),(8,.c (.int .i64 i))],[]⟩) (fun i=>i≤l.length∧(l.take i).any p=false) (fun i=>l.length-i) 0 [] [] ?_ ?_ (fun i b=>?_)
 ·simp
 ·repeat' first|exact trivial|exact rfl|refine And.intro ?_ ?_
 (conv=>whnf);refine dec (fun d=>?_) (fun d=>?_)
 ·have a:i<l.length:=by omega
  repeat'((conv=>whnf);first|refine⟨_,_,rfl,List.getElem?_eq_getElem (by omega),?_⟩|fail)
  (conv=>whnf);refine cl [] [] (e l[i]) ?_;(conv=>whnf);refine aL (fun h=>?_) (fun h=>?_)
  ·(conv=>whnf);exact aG (jk a b.2 h)
  ·repeat'((conv=>whnf);refine I6 ?_)
   refine ag (i+1) [] [] ⟨a,gA a b.2 h⟩ (by simp only[];omega) ?_;repeat' first|exact trivial|exact rfl|refine And.intro ?_ ?_
 ·repeat'((conv=>whnf);first|refine aG ?_|fail)
  have:=b.2;rw[List.take_of_length_le (by omega)]at this;exact jT this
theorem Fl(F:Nat)(L:List Ob)(k:Int)(p:Int→Bool)(e:∀x,ae Tryz.prog F [.c (.int .i64 x),.c (.bp [.int .i64 k]),.c (.bp [.bp [.bs 6 Ob an L]])] [] (Rt (.c (.bool (p x))) []))(l:List Int):ae Tryz.prog 178 [.c (.bs 1 Int encI l),.c (.fn F [.bp [.int .i64 k],.bp [.bp [.bs 6 Ob an L]]])] [] (Rt (.c (.int .i64 (bF p l))) []):=by
 refine ak (n:=19) (n0:=0) tabOk Tryz.call178 Tryz.func178 ?_;intro hb;have hb:l.length≤9223372036854775807:=hb.1.1;(conv=>whnf);refine lp Nat (fun i=>⟨[(0,.c (.bs 1 Int encI l)),(1,.c (.fn F [.bp [.int .i64 k],.bp [.bp [.bs 6 Ob an L]]])),(7,.c (.int .i64 l.length)),(8,.c (.int .i64 i))],[]⟩) (fun i=>i≤l.length∧(l.take i).any p=false) (fun i=>l.length-i) 0 [] [] ?_ ?_ (fun i b=>?_)
 ·simp
 ·repeat' first|exact trivial|exact rfl|refine And.intro ?_ ?_
 (conv=>whnf);refine dec (fun d=>?_) (fun d=>?_)
 ·have a:i<l.length:=by omega
  repeat'((conv=>whnf);first|refine⟨_,_,rfl,List.getElem?_eq_getElem (by omega),?_⟩|fail)
  (conv=>whnf);refine cl [] [] (e l[i]) ?_;(conv=>whnf);refine aL (fun h=>?_) (fun h=>?_)
  ·(conv=>whnf);exact aG (jk a b.2 h)
  ·repeat'((conv=>whnf);refine I6 ?_)
   refine ag (i+1) [] [] ⟨a,gA a b.2 h⟩ (by simp only[];omega) ?_;repeat' first|exact trivial|exact rfl|refine And.intro ?_ ?_
 ·repeat'((conv=>whnf);first|refine aG ?_|fail)
  have:=b.2;rw[List.take_of_length_le (by omega)]at this;exact jT this
theorem C9(L:List Ob)(a:ai L)(k:Int)(l:List Int):ae Tryz.prog 106 [.c (.bs 1 Int encI l),.c (.fn 209 [.bp [.int .i64 k],.bp [.bp [.bs 6 Ob an L]]])] [] (Rt (.c (.bool (l.any fun x=>decide (x≠k)&&eQ L k x))) []):=by
 refine ak (n:=9) (n0:=0) tabOk Tryz.call106 Tryz.func106 ?_;intro hb;(conv=>whnf);refine cl [] [] (Fl 209 L k (fun x=>decide (x≠k)&&eQ L k x) (Cq L a k) l) ?_;(conv=>whnf);exact aE (nH ..)
structure gf(p:Int→Bool)(l r:List Int)(i j:Nat):Prop where
 le:i≤j
 jl:j≤l.length
 len:r.length=l.length
 pre:r.take i=(l.take j).filter fun x=> !p x
 suf:r.drop j=l.drop j
theorem filter_none{p:Int→Bool}{l:List Int}(h:l.any p=false):(l.filter fun x=> !p x)=l:=by
 rw[List.any_eq_false]at h;exact List.filter_eq_self.2 fun x a=>by have:=h x a;simpa using this
theorem gf.start{p:Int→Bool}{l:List Int}{i:Nat}(h:i<l.length)(h1:(l.take i).any p=false)(h2:p l[i]=true):gf p l l i (i+1):=by
 refine⟨by omega,h,rfl,?_,rfl⟩;rw[List.take_succ_eq_append_getElem h,List.filter_append,filter_none h1];simp[h2]
theorem gf.at{p:Int→Bool}{l r:List Int}{i j:Nat}(h:gf p l r i j)(hj:j<l.length):r[j]? =some l[j]:=by
 have:=congrArg (·[0]?) h.suf;simp only[List.getElem?_drop,Nat.add_zero]at this;rw[this,List.getElem?_eq_getElem hj]
theorem gf.pP{p:Int→Bool}{l r:List Int}{i j:Nat}(h:gf p l r i j):r.drop (j+1)=l.drop (j+1):=by
 rw[←List.drop_drop,h.suf,List.drop_drop]
theorem gf.drop{p:Int→Bool}{l r:List Int}{i j:Nat}(h:gf p l r i j)(hj:j<l.length)(a:p l[j]=true):gf p l r i (j+1):=by
 have:=h.le;refine⟨by omega,hj,h.len,?_,h.pP⟩;rw[List.take_succ_eq_append_getElem hj,List.filter_append,←h.pre];simp[a]
theorem gf.ca{p:Int→Bool}{l r:List Int}{i j:Nat}(h:gf p l r i j)(hj:j<l.length)(b:p l[j]=false):gf p l (r.set i l[j]) (i+1) (j+1):=by
 have:=h.le;have a:i<r.length:=by rw[h.len];omega
 refine⟨by omega,hj,by rw[List.length_set];exact h.len,?_,?_⟩
 ·rw[List.take_succ_eq_append_getElem hj,List.filter_append,←h.pre,List.take_succ_eq_append_getElem (by rw[List.length_set];exact a),List.getElem_set_self,List.take_set_of_le (Nat.le_refl _)];simp[b]
 ·rw[List.drop_set_of_lt (by omega),h.pP]
theorem gf.stop{p:Int→Bool}{l r:List Int}{i:Nat}(h:gf p l r i l.length):r.take i=l.filter fun x=> !p x:=by
 have:=h.pre;rwa[List.take_length]at this
theorem EZ{p:Int→Bool}{l:List Int}:(bF p l= -1∧l.any p=false)∨∃(i:Nat) (h:i<l.length),bF p l=i∧(l.take i).any p=false∧p l[i]=true:=by
 unfold bF;cases h:l.findIdx? p with
 |none=>
  rw[List.findIdx?_eq_none_iff]at h;exact .inl ⟨rfl,by rw[List.any_eq_false];intro x a;simp[h x a]⟩
 |some i=>
  rw[List.findIdx?_eq_some_iff_getElem]at h;obtain⟨b,c,d⟩:=h;refine .inr ⟨i,b,rfl,?_,c⟩;rw[List.any_eq_false];intro x a;obtain⟨j,f,e⟩:=List.mem_take_iff_getElem.1 a;rw[←e];exact d j (by omega)
theorem DB(F:Nat)(y:List Int)(p:Int→Bool)(g:∀x,ae Tryz.prog F [.c (.int .i64 x),.c (.bp [.bs 1 Int encI y])] [] (Rt (.c (.bool (p x))) []))(l:List Int)(hl:l.length≤1000000):
  ae Tryz.prog 207 [.c (.rw 0),.c (.fn F [.bp [.bs 1 Int encI y]])] [.row 1 Int encI l] (Rt (.c (.rw 1)) [.dead,.row 1 Int encI (l.filter fun x=> !p x)]):=by
 refine ak (n:=42) (n0:=1) tabOk Tryz.call207 Tryz.func207 ?_;intro hb;(conv=>whnf);refine cl [] [] (Fk F y p g l) ?_;rcases EZ (p:=p) (l:=l)with⟨e,d⟩|⟨i,q,e,d,s⟩
 ·rw[e,filter_none d];(conv=>whnf);exact rx [] [.same 0,.same 0]
 rw[e];(conv=>whnf);refine⟨i64 (by omega) (by omega),?_⟩;(conv=>whnf);refine lp (Nat×Nat×List Int) (fun|(i,j,r)=>⟨[(0,.c (.rw 0)),(1,.c (.fn F [.bp [.bs 1 Int encI y]])),(5,.c (.int .i64 i)),(6,.c (.int .i64 j))],[.row 1 Int encI r]⟩) (fun x=>gf p l x.2.2 x.1 x.2.1∧True) (fun x=>l.length-x.2.1) (i,i+1,l) [] [.same 0] ?_ ?_ (fun x a=>?_)
 ·exact⟨.start q d s,trivial⟩
 ·repeat' first|exact trivial|exact rfl|refine And.intro ?_ ?_
 obtain⟨i,j,r⟩:=x;obtain⟨a,_⟩:=a;dsimp only at a;have t:=a.le;have u:=a.jl;have v:=a.len;(conv=>whnf);refine dec (fun k=>?_) (fun k=>?_)
 ·have b:j<l.length:=by omega
  have m:=a.at b;(conv=>whnf);refine⟨j,⟨rfl,by omega⟩,?_⟩;(conv=>whnf);refine⟨l[j],m,?_⟩;(conv=>whnf);refine cl [] [] (g l[j]) ?_;(conv=>whnf);refine aL (fun h=>?_) (fun h=>?_)
  ·have h:p l[j]=false:=by simpa using h
   (conv=>whnf);refine⟨i,⟨rfl,by omega⟩,?_⟩;(conv=>whnf);refine⟨_,l[j],List.getElem?_eq_getElem (by omega),⟨Nat.le_refl _,rfl⟩,?_⟩;repeat'((conv=>whnf);refine I6 ?_)
   refine ag (i+1,j+1,r.set i l[j]) [] [.same 0] ⟨a.ca b h,trivial⟩ (by simp only[];omega) ?_;repeat' first|exact trivial|exact rfl|refine And.intro ?_ ?_
  ·have h:p l[j]=true:=by simpa using h
   repeat'((conv=>whnf);refine I6 ?_)
   refine ag (i,j+1,r) [] [.same 0] ⟨a.drop b h,trivial⟩ (by simp only[];omega) ?_;repeat' first|exact trivial|exact rfl|refine And.intro ?_ ?_
 ·obtain rfl:j=l.length:=by omega
  (conv=>whnf);refine⟨i,r.length,rfl,by omega,by omega,?_⟩;(conv=>whnf);have f:(r.take i++(List.replicate (r.length-i) (0:Int)++r.drop (i+(r.length-i)))).length=r.length:=by simp;omega
  refine⟨0,rfl,by omega,?_⟩;(conv=>whnf);refine⟨0,i,rfl,rfl,⟨Nat.zero_le _,by rw[f];omega⟩,?_⟩;(conv=>whnf)
  have o:((r.take i++(List.replicate (r.length-i) (0:Int)++r.drop (i+(r.length-i)))).drop 0).take (i-0)=l.filter fun x=> !p x:=by
   rw[List.drop_zero,Nat.sub_zero,List.take_append_of_le_length (by rw[List.length_take];omega),List.take_take,Nat.min_self];exact a.stop
  refine rt [] [.same 0,.cut 1 0 0 (i-0)] ?_ rfl ⟨rfl,rfl⟩;repeat' first|exact trivial|exact rfl|refine And.intro ?_ ?_
  ·omega
  ·rw[o]
end Go.Nest
end
section
namespace Go.Nest
open Go Go.AM Go.Proofs
open Go.Proofs.YtpechfcbnoggfaaGreatDoor (tab tabOk)
set_option maxRecDepth 4000
theorem Jo{L:List Ob}{c:List Int}{i:Nat}(h:i<c.length):((c.take (i+1)).filter fun k=> !c.any fun m=>decide (m≠k)&&eQ L k m)=((c.take i).filter fun k=> !c.any fun m=>decide (m≠k)&&eQ L k m)++(if(c.any fun m=>decide (m≠c[i])&&eQ L c[i] m)=true then[]else[c[i]]):=by
 rw[List.take_succ_eq_append_getElem h,List.filter_append];congr 1
 rw[List.filter_cons,List.filter_nil];cases (c.any fun m=>decide (m≠c[i])&&eQ L c[i] m)<;>rfl
theorem Cs{L:List Ob}{a b:Int}:((aW L a).filter fun x=> !(!cW (aW L b) x))=l8 L a b:=by
 unfold l8;exact List.filter_congr fun x _=>by rw[Bool.not_not]
theorem Cr{L:List Ob}{a b:Int}:(l8 L a b).length≤L.length:=Nat.le_trans (List.length_filter_le _ _) qb
set_option maxHeartbeats 1000000 in
theorem Cv(L:List Ob)(j:ai L)(a b:Int):ae Tryz.prog 129 [.c (.bp [.bs 6 Ob an L]),.c (.int .i64 a),.c (.int .i64 b)] [] (Rt (.aC [(false,[.rw 0]),(false,[.int .i64 (eJ L a b).2])]) [.row 1 Int encI (eJ L a b).1]):=by
 refine ak (n:=52) (n0:=0) tabOk Tryz.call129 Tryz.func129 ?_;intro hb;have o:=j.len;have q:(aW L a).length≤L.length:=qb;(conv=>whnf);refine cl [] [] (qd L j a) ?_;by_cases g:kindOf L a=3
 ·rw[show bX L a=(aW L a,0)by unfold bX;rw[if_pos g]];(conv=>whnf);refine cl [] [] (qd L j b) ?_;by_cases d:kindOf L b=3
  ·rw[show bX L b=(aW L b,0)by unfold bX;rw[if_pos d],show eJ L a b=(BB L (l8 L a b),0)by unfold eJ;rw[if_neg (by simpa using g),if_neg (by simpa using d)]];(conv=>whnf);refine cl [2,3] [1] (DB 208 (aW L b) (fun x=> !cW (aW L b) x) (Cp (aW L b)) (aW L a) (by omega)) ?_;rw[Cs];have r:(l8 L a b).length≤L.length:=Cr;generalize l8 L a b=c at*;(conv=>whnf);refine lp Nat (fun i=>⟨[(3,.c (.ptr 0 0)),(11,.c (.ls 1 Int encI c)),(12,.c (.rw 1)),(36,.c (.ls 1 Int encI c)),(37,.c (.int .i64 c.length)),(38,.c (.int .i64 i))],[.box [.bp [.bs 6 Ob an L]],.row 1 Int encI ((c.take i).filter fun k=> !c.any fun m=>decide (m≠k)&&eQ L k m)]⟩) (fun i=>i≤c.length∧True) (fun i=>c.length-i) 0 [4] [.same 0,.new] ?_ ?_ (fun i s=>?_)
   ·exact⟨Nat.zero_le _,trivial⟩
   ·repeat' first|exact trivial|exact rfl|refine And.intro ?_ ?_
   (conv=>whnf);refine dec (fun p=>?_) (fun p=>?_)
   ·have e:i<c.length:=by omega
    have f:=Jo (L:=L) e;have l:=List.length_filter_le (fun k=> !c.any fun m=>decide (m≠k)&&eQ L k m) (c.take i);rw[List.length_take]at l;(conv=>whnf);refine⟨i,c[i],rfl,List.getElem?_eq_getElem e,?_⟩;(conv=>whnf);refine cl [0,2] [] (C9 L j c[i] c) ?_;(conv=>whnf);refine aL (fun h=>?_) (fun h=>?_)
    ·have h:(c.any fun m=>decide (m≠c[i])&&eQ L c[i] m)=false:=by simpa using h
     rw[h,if_neg (by decide)]at f;(conv=>whnf);refine⟨[c[i]],rfl,?_⟩;(conv=>whnf);refine⟨_,_,rfl,rfl,(by simp only[List.length_append,List.length_cons,List.length_nil];omega),?_⟩;repeat'((conv=>whnf);refine I6 ?_)
     refine ag (i+1) [] [.same 0,.same 4] ⟨e,trivial⟩ (by simp only[];omega) ?_;repeat' first|exact trivial|exact rfl|refine And.intro ?_ ?_
     rw[f];exact rfl
    ·have h:(c.any fun m=>decide (m≠c[i])&&eQ L c[i] m)=true:=by simpa using h
     rw[h,if_pos rfl,List.append_nil]at f;repeat'((conv=>whnf);refine I6 ?_)
     refine ag (i+1) [] [.same 0,.same 1] ⟨e,trivial⟩ (by simp only[];omega) ?_;repeat' first|exact trivial|exact rfl|refine And.intro ?_ ?_
     rw[f];exact rfl
   ·obtain rfl:i=c.length:=by omega
    rw[List.take_length];(conv=>whnf);exact rx [] [.same 1]
  ·rw[show bX L b=([],9)by unfold bX;rw[if_neg d],show eJ L a b=([],9)by unfold eJ;rw[if_neg (by simpa using g),if_pos d]];(conv=>whnf);exact rx [] [.new]
 ·rw[show bX L a=([],9)by unfold bX;rw[if_neg g],show eJ L a b=([],9)by unfold eJ;rw[if_pos g]];(conv=>whnf);exact rx [] [.new]
end Go.Nest
end
