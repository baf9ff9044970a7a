import Derived.Test.YtpechfcbnoggfaaGreatDoorZ1
import Derived.Test.YtpechfcbnoggfaaGreatDoorAmH
import Derived.Test.YtpechfcbnoggfaaGreatDoorV36
import Derived.Test.YtpechfcbnoggfaaGreatDoorJ2
set_option maxHeartbeats 1000000
set_option linter.unusedVariables false
set_option linter.unusedSimpArgs false
open Array renaming getElem?_toList->a2,getElem?_modify->a3
open List renaming getElem?_eq_getElem->ad,take_succ_eq_append_getElem->ah,take_of_length_le->al,filter_append->am,getElem?_drop->ap,any_eq_false->ar,getElem?_take_of_lt->a0,mem_append->a1,getElem?_eq_none->a4,length_filter_le->a5,length_append->a6,getElem_mem->be,length_cons->bh,take_length->bi,length_take->bj,length_nil->bk,length_set->bl,drop_drop->bn,replicate->b0
open Nat renaming le_refl->a9,zero_le->bb
section
namespace Go.Nest
open Go Go.AM Go.NB Go.Proofs Go.Sort
open Go.Proofs.YtpechfcbnoggfaaGreatDoor (tab tabOk)
set_option maxRecDepth 4000
theorem Ck{F:Nat->Prop}{H:ae}{m:Md}:∀{l:List Int} {css:List Value},RL F H m (l.flatMap encI) css->css=l.map (Value.int .i64)
 |[],_,h=>by cases h;rfl
 |x::l,css,h=>by
  rw[List.flatMap_cons]at h;cases h with
  |int t=>rw[Ck t];rfl
theorem Dm{F:Nat->Prop}{H:ae}{m:Md}:∀(l:List Int),RL F H m (l.flatMap encI) (l.map (Value.int .i64))
 |[]=>.nl
 |x::l=>.int (Dm l)
theorem aa.Mi{P:Program}{f:FuncId}{l l':List Int}(hne:l≠[])(hlen:l'.length=l.length)(o:∀args w,(callFunc f args).run P w= .ok (.enter f args) w)
  (h:∀(a off cap:Nat) (w:World),Holds (Value.int .i64) w a off l.toArray->a<w.heap.size->Calls P f #[.slice (some ⟨a,off,none⟩) l.length cap] w λe w'=>
   e= .returned (.tuple #[])/\∃n os,w'=grow (putRow (Value.int .i64) (Sort.ahead w n) a off l'.toArray) os):
  aa P f [.c (.rw 0)] [.row 1 Int encI l] (Rt (.ao []) [.row 1 Int encI l']):=by
 intro F L γ H vs m S w hw;subst hw;match vs,m with
 |[v],⟨hv,_⟩=>
  cases hv with
  | @rw _ _ p q n0 r _ _ hg hq _=>
   have J:=S.br 0 _ _ rfl hg;rcases J with⟨p',_,M⟩|⟨k,off,cap,cur,e,css,Q,h1,h2,T,U,W,h6,Y⟩
   ·exact absurd M hne
   obtain⟨rfl,rfl,rfl⟩:p=some ⟨k,off,none⟩/\n0=l.length/\r=cap+1:=by simpa using Q
   obtain rfl:=hq (by omega);have hk:k<w.heap.size:=(Array.getElem?_eq_some_iff.1 h1).1;have d:=Ck W;have ac:css.length=l.length:=by rw[d,List.length_map]
   have z:∀j,j<l.length->cur[off+j]? =some (Value.int .i64 (l.toArray[j]!)):=λj hj=>by
    have R:((cur.toList.drop off).take css.length)[j]? =css[j]? :=by rw[Y]
    rw[a0 (by omega),ap,d]at R;rw[<-a2,R,List.getElem?_map,ad hj];simp[hj]
   have Z:Holds (Value.int .i64) w k off l.toArray:=λj hj=>by
    have hj:j<l.length:=by simpa using hj
    refine⟨?_,?_⟩
    ·unfold World.cell?;simp only[h1,Option.isSome_none];exact z j hj
    ·unfold World.frozen?;simp only[h1];simp
   have y:=h k off (cap+1) w Z hk;rw[o];refine⟨rfl,y.mono λe' w' ⟨he,n,os,D⟩=>.inl ⟨_,he,?_,?_⟩⟩
   ·subst D;have N:aC (.row 1 Int encI l) (.slice (some ⟨k,off,none⟩) l.length (cap+1))=[k]:=rfl;obtain⟨g,b⟩:∃g,g=(putRow (Value.int .i64) (Sort.ahead w n) k off l'.toArray).heap:=⟨_,rfl⟩;have u:g.size=w.heap.size:=by rw[b];unfold putRow mapBlock Sort.ahead;simp
    have t:∀i,i≠k->g[i]? =w.heap[i]? :=λi hi=>by
     rw[b];unfold putRow mapBlock Sort.ahead;simp only[a3,if_neg (Ne.symm hi)]
    have s:g[k]? =some (.cells (putCells (Value.int .i64) off l'.toArray cur) e (0,0)):=by
     rw[b];unfold putRow mapBlock Sort.ahead;simp only[a3,if_true,h1];rfl
    have hK:au [k] w.heap g:=⟨by rw[u];exact a9 _,λi _ hi=>t i (by simpa using hi)⟩;have K:(putCells (Value.int .i64) off l'.toArray cur).size=cur.size:=by unfold putCells;simp
    have E:=S.aA (j:=0) (b1:= .row 1 Int encI l') rfl hg (by rw[N];exact hK) (λq hq=>by simpa[aC]using hq) (.inr ⟨k,off,cap,_,e,l'.map (Value.int .i64),by rw[hlen],s,by omega,T,by rw[K];exact U,Dm l',λx _=>rfl,?_⟩)
    ·have I:=E.same (H':=g++os) ⟨by simp,λi hi _=>by rw[Array.getElem?_append_left hi]⟩;refine⟨.ret (.ao []),[.row 1 Int encI l'],F,γ,⟨rfl,rfl⟩,rfl,rfl,rfl,⟨[],rfl,trivial⟩,?_⟩;show WR _ F γ _ ((putRow (Value.int .i64) (Sort.ahead w n) k off l'.toArray).heap++os);rw[<-b];exact I
    ·refine List.ext_getElem? λj=>?_;by_cases hj:j<l'.length
     ·rw[a0 (by simpa using hj),ap,a2];have O:off+j<cur.size:=by omega
      unfold putCells;rw[Array.getElem?_mapIdx,Array.getElem?_eq_getElem O];simp[hj]
     ·rw[a4 (by simp;omega),a4 (by simp;omega)]
   ·subst D;exact⟨rfl,rfl,rfl,λe=>(by cases e)⟩
theorem EG(l:List Int)(hne:l≠[])(hl:l.length<=1000000):aa Tryz.prog 73 [.c (.rw 0)] [.row 1 Int encI l] (Rt (.ao []) [.row 1 Int encI (l.mergeSort λx y=>decide (x<=y))]):=
 aa.Mi hne (List.length_mergeSort l) Tryz.call73 (λb d cap w e a=>Any.slices_Sort_int KG b d cap l w e a (by omega))
end Go.Nest
end
section
namespace Go.Nest
open Go Go.AM Go.Proofs
open Go.Proofs.YtpechfcbnoggfaaGreatDoor (tab tabOk)
set_option maxRecDepth 4000
theorem Kj(l:List Int)(n:Int):aa Tryz.prog 218 [.c (.bs 1 Int encI l),.c (.int .i64 n)] [] (Rt (.c (.int .i64 (bD (λx=>decide (x=n)) l))) []):=by
 refine af (n:=19) (n0:=0) tabOk Tryz.call218 Tryz.func218 ?_;intro hb;have hb:l.length<=9223372036854775807:=hb.1.1;refine lp Nat (λi=>⟨[(0,.c (.bs 1 Int encI l)),(1,.c (.int .i64 n)),(7,.c (.int .i64 l.length)),(8,.c (.int .i64 i))],[]⟩) (λi=>i<=l.length/\(l.take i).any (λx=>decide (x=n))=false) (λi=>l.length-i) 0 [] [] ?_ ?_ (λi b=>?_)
 ·simp
 ·repeat' first|exact trivial|exact rfl|refine And.intro ?_ ?_
 refine dec (λd=>?_) (λd=>?_)
 ·have a:i<l.length:=by omega
  repeat'((conv=>whnf);first|(refine dec (λh=>?_) (λh=>?_)<;>try contradiction)|refine⟨i64 (by omega) (by omega),?_⟩|refine⟨_,_,rfl,ad (by omega),?_⟩|refine aJ ?_|fail)
  ·exact jG a b.2 (by simpa using h.symm)
  ·refine ag (i+1) [] [] ⟨a,ij a b.2 (by simpa usingλe=>h (Eq.symm e))⟩ (by simp only[];omega) ?_;repeat' first|exact trivial|exact rfl|refine And.intro ?_ ?_
 ·repeat'((conv=>whnf);first|refine aJ ?_|fail)
  have:=b.2;rw[al (by omega)]at this;exact ky this
theorem gO(l:List Int)(n:Int):aa Tryz.prog 134 [.c (.bs 1 Int encI l),.c (.int .i64 n)] [] (Rt (.c (.bool (dv l n))) []):=by
 refine af (n:=9) (n0:=0) tabOk Tryz.call134 Tryz.func134 ?_;intro hb;refine cl [] [] (Kj l n) ?_;exact aL (pv ..)
theorem AE(L:List Ob)(b:ak L)(id:Int):aa Tryz.prog 275 [.c (.bp [.bs 6 Ob an L]),.c (.int .i64 id)] [] (Rt (.ao [(true,an (if kindOf L id=3 then aj L id else nJ)),(false,[.int .i64 (if kindOf L id=3 then 0 else 9)])]) []):=by
 refine af (n:=23) (n0:=0) tabOk Tryz.call275 Tryz.func275 ?_;intro hb;have e:(aj L id).kind=kindOf L id:=fQ;refine cl [] [] (ft L b id) ?_;by_cases a:kindOf L id=3
 ·rw[if_pos a,if_pos a,decide_eq_true (show kindOf L id≠0 by omega)];repeat'((conv=>whnf);first|(refine ay (λh=>?_) (λh=>?_)<;>try contradiction)|fail)
  ·omega
  exact rx [] []
 ·rw[if_neg a,if_neg a];by_cases d:kindOf L id=0
  ·rw[decide_eq_false (show¬kindOf L id≠0 by omega)];skip;exact rx [] []
  ·rw[decide_eq_true (show kindOf L id≠0 by omega)];repeat'((conv=>whnf);first|(refine ay (λh=>?_) (λh=>?_)<;>try contradiction)|fail)
   ·exact rx [] []
   ·omega
theorem sg(L:List Ob)(m:ak L)(id:Int):aa Tryz.prog 206 [.c (.bp [.bs 6 Ob an L]),.c (.int .i64 id)] [] (Rt (.ao [(false,[.rw 0]),(false,[.int .i64 (b7 L id).2])]) [.row 1 Int encI (b7 L id).1]):=by
 refine af (n:=59) (n0:=0) tabOk Tryz.call206 Tryz.func206 ?_;intro hb;have E:=m.len;refine cl [] [] (AE L m id) ?_;by_cases b:kindOf L id=3
 ·rw[show b7 L id=(bf L id,0)by unfold b7;rw[if_pos b],if_pos b,if_pos b];refine⟨[id],rfl,?_⟩;refine lp (Nat×List Int) (λx=>⟨[(0,.c (.bp [.bs 6 Ob an L])),(8,.c (.rw 0)),(9,.c (.int .i64 x.1))],[.row 1 Int encI x.2]⟩) (λx=>ic L id x.2 x.1/\True) (λx=>L.length-x.1) (0,[id]) [] [.s 1] ?_ ?_ (λx l=>?_)
  ·exact⟨ic.start,trivial⟩
  ·repeat' first|exact trivial|exact rfl|refine And.intro ?_ ?_
  obtain⟨i,out⟩:=x;obtain⟨l,_⟩:=l;dsimp only at l;have M:=l.len m b;refine dec (λq=>?_) (λq=>?_)
  ·have s:i<out.length:=by have q:(i:Int)<out.length:=q;omega
   have r:=l.anc _ (be s);have z:=r.kind m b;have N:=(m.get (id:=out[i]) (by omega)).parents;repeat'((conv=>whnf);first|refine⟨_,⟨rfl,by omega⟩,?_⟩|refine⟨_,ad (by omega),?_⟩|fail)
   refine cl [] [] (AE L m out[i]) ?_;rw[if_pos z];skip
   refine lp (Nat×List Int) (λy=>⟨[(0,.c (.bp [.bs 6 Ob an L])),(8,.c (.rw 0)),(9,.c (.int .i64 i)),(41,.c (.bs 1 Int encI (aj L out[i]).parents)),(42,.c (.int .i64 (aj L out[i]).parents.length)),(43,.c (.int .i64 y.1))],[.row 1 Int encI y.2]⟩)
    (λy=>ic L id y.2 i/\(y.1<=(aj L out[i]).parents.length/\y.2[i]? =some out[i])/\∀k∈(aj L out[i]).parents.take y.1,k∈y.2) (λy=>(aj L out[i]).parents.length-y.1) (0,out) [] [.s 0] ?_ ?_ (λy p=>?_)
   ·exact⟨l,⟨bb _,ad s⟩,λk o=>by cases o⟩
   ·repeat' first|exact trivial|exact rfl|refine And.intro ?_ ?_
   obtain⟨d,o2⟩:=y;obtain⟨p,⟨H,t⟩,o⟩:=p;dsimp only at p H t o;have K:=p.len m b;refine dec (λF=>?_) (λF=>?_)
   ·have a:d<(aj L out[i]).parents.length:=by omega
    have u:=ah a;refine⟨d,(aj L out[i]).parents[d],rfl,ad a,?_⟩;generalize v:(aj L out[i]).parents[d]=k at*;have w:k∈(aj L out[i]).parents:=by rw[<-v];exact be a
    refine cl [] [] (gO o2 k) ?_;refine aS (λf=>?_) (λf=>?_)
    ·have f:k∉o2:=λh=>by rw[fR.2 h]at f;cases f
     refine⟨[k],rfl,?_⟩;refine⟨_,_,rfl,rfl,(by simp only[a6,bh,bk];omega),?_⟩;repeat'(refine I6 ?_)
     refine ag (d+1,o2++[k]) [] [.s 2] ⟨p.add f (r.next w),⟨a,?_⟩,λj g=>?_⟩ (by simp only[];omega) ?_
     ·dsimp only;rw[List.getElem?_append_left (List.getElem?_eq_some_iff.1 t).1];exact t
     ·dsimp only at g⊢;rw[u,a1]at g;exact a1.2 (g.imp (o j) λh=>h)
     ·repeat' first|exact trivial|exact rfl|refine And.intro ?_ ?_
    ·have f:k∈o2:=fR.1 (by cases I:dv o2 k;rw[I]at f;cases f;rfl);repeat'(refine I6 ?_)
     refine ag (d+1,o2) [] [.s 0] ⟨p,⟨a,t⟩,λj g=>?_⟩ (by simp only[];omega) ?_
     ·dsimp only at g⊢;rw[u,a1,List.mem_singleton]at g;rcases g with g|rfl
      ·exact o j g
      ·exact f
     ·repeat' first|exact trivial|exact rfl|refine And.intro ?_ ?_
   ·rw[al (by omega)]at o;repeat'(refine I6 ?_)
    refine ag (i+1,o2) [] [.s 0] ⟨p.next t o,trivial⟩ (by simp only[];omega) ?_;repeat' first|exact trivial|exact rfl|refine And.intro ?_ ?_
  ·have J:=l.stop (by have q:¬(i:Int)<out.length:=q;omega);have D:out≠[]:=λe=>by have:=l.mem;rw[e]at this;cases this
   refine cl [] [0] (EG out D (by omega)) ?_;rw[On m b l.nd J];exact rx [] [.s 0]
 ·rw[show b7 L id=([],9)by unfold b7;rw[if_neg b],if_neg b,if_neg b];exact rx [] [.new]
theorem w4(L:List Ob)(d:ak L)(a b:Int):aa Tryz.prog 128 [.c (.bp [.bs 6 Ob an L]),.c (.int .i64 a),.c (.int .i64 b)] [] (Rt (.c (.bool (fu L a b))) []):=by
 refine af (n:=18) (n0:=0) tabOk Tryz.call128 Tryz.func128 ?_;intro hb;refine cl [] [] (sg L d b) ?_;refine cl [] [] (gO (b7 L b).1 a) ?_;exact aL rfl
theorem Gj(y:List Int)(x:Int):aa Tryz.prog 208 [.c (.int .i64 x),.c (.bp [.bs 1 Int encI y])] [] (Rt (.c (.bool (!dv y x))) []):=by
 refine af (n:=8) (n0:=0) tabOk Tryz.call208 Tryz.func208 ?_;intro hb;refine cl [] [] (gO y x) ?_;exact aL rfl
theorem Gk(L:List Ob)(a:ak L)(k x:Int):aa Tryz.prog 209 [.c (.int .i64 x),.c (.bp [.int .i64 k]),.c (.bp [.bp [.bs 6 Ob an L]])] [] (Rt (.c (.bool (decide (x≠k)&&fu L k x))) []):=by
 refine af (n:=14) (n0:=0) tabOk Tryz.call209 Tryz.func209 ?_;intro hb;refine ay (λh=>?_) (λh=>?_)
 ·rw[decide_eq_true h];refine cl [] [] (w4 L a k x) ?_;exact aL (by simp)
 ·rw[decide_eq_false (by simpa using h)];exact aL rfl
theorem Kb(F:Nat)(y:List Int)(p:Int->Bool)(e:∀x,aa Tryz.prog F [.c (.int .i64 x),.c (.bp [.bs 1 Int encI y])] [] (Rt (.c (.bool (p x))) []))(l:List Int):aa Tryz.prog 178 [.c (.bs 1 Int encI l),.c (.fn F [.bp [.bs 1 Int encI y]])] [] (Rt (.c (.int .i64 (bD p l))) []):=by
 refine af (n:=19) (n0:=0) tabOk Tryz.call178 Tryz.func178 ?_;intro hb;have hb:l.length<=9223372036854775807:=hb.1.1;refine lp Nat (λi=>⟨[(0,.c (.bs 1 Int encI l)),(1,.c (.fn F [.bp [.bs 1 Int encI y]])),(7,.c (.int .i64 l.length)),(8,.c (.int .i64 i))],[]⟩) (λi=>i<=l.length/\(l.take i).any p=false) (λi=>l.length-i) 0 [] [] ?_ ?_ (λi b=>?_)
 ·simp
 ·repeat' first|exact trivial|exact rfl|refine And.intro ?_ ?_
 refine dec (λd=>?_) (λd=>?_)
 ·have a:i<l.length:=by omega
  repeat'((conv=>whnf);first|refine⟨_,_,rfl,ad (by omega),?_⟩|fail)
  refine cl [] [] (e l[i]) ?_;refine aS (λh=>?_) (λh=>?_)
  ·exact aJ (jG a b.2 h)
  ·repeat'(refine I6 ?_)
   refine ag (i+1) [] [] ⟨a,ij a b.2 h⟩ (by simp only[];omega) ?_;repeat' first|exact trivial|exact rfl|refine And.intro ?_ ?_
 ·repeat'((conv=>whnf);first|refine aJ ?_|fail)
  have:=b.2;rw[al (by omega)]at this;exact ky this
theorem Kc(F:Nat)(L:List Ob)(k:Int)(p:Int->Bool)(e:∀x,aa Tryz.prog F [.c (.int .i64 x),.c (.bp [.int .i64 k]),.c (.bp [.bp [.bs 6 Ob an L]])] [] (Rt (.c (.bool (p x))) []))(l:List Int):aa Tryz.prog 178 [.c (.bs 1 Int encI l),.c (.fn F [.bp [.int .i64 k],.bp [.bp [.bs 6 Ob an L]]])] [] (Rt (.c (.int .i64 (bD p l))) []):=by
 refine af (n:=19) (n0:=0) tabOk Tryz.call178 Tryz.func178 ?_;intro hb;have hb:l.length<=9223372036854775807:=hb.1.1;refine lp Nat (λi=>⟨[(0,.c (.bs 1 Int encI l)),(1,.c (.fn F [.bp [.int .i64 k],.bp [.bp [.bs 6 Ob an L]]])),(7,.c (.int .i64 l.length)),(8,.c (.int .i64 i))],[]⟩) (λi=>i<=l.length/\(l.take i).any p=false) (λi=>l.length-i) 0 [] [] ?_ ?_ (λi b=>?_)
 ·simp
 ·repeat' first|exact trivial|exact rfl|refine And.intro ?_ ?_
 refine dec (λd=>?_) (λd=>?_)
 ·have a:i<l.length:=by omega
  repeat'((conv=>whnf);first|refine⟨_,_,rfl,ad (by omega),?_⟩|fail)
  refine cl [] [] (e l[i]) ?_;refine aS (λh=>?_) (λh=>?_)
  ·exact aJ (jG a b.2 h)
  ·repeat'(refine I6 ?_)
   refine ag (i+1) [] [] ⟨a,ij a b.2 h⟩ (by simp only[];omega) ?_;repeat' first|exact trivial|exact rfl|refine And.intro ?_ ?_
 ·repeat'((conv=>whnf);first|refine aJ ?_|fail)
  have:=b.2;rw[al (by omega)]at this;exact ky this
theorem HM(L:List Ob)(a:ak L)(k:Int)(l:List Int):aa Tryz.prog 106 [.c (.bs 1 Int encI l),.c (.fn 209 [.bp [.int .i64 k],.bp [.bp [.bs 6 Ob an L]]])] [] (Rt (.c (.bool (l.any λx=>decide (x≠k)&&fu L k x))) []):=by
 refine af (n:=9) (n0:=0) tabOk Tryz.call106 Tryz.func106 ?_;intro hb;refine cl [] [] (Kc 209 L k (λx=>decide (x≠k)&&fu L k x) (Gk L a k) l) ?_;exact aL (pv ..)
structure ie(p:Int->Bool)(l r:List Int)(i j:Nat):Prop where
 le:i<=j
 jl:j<=l.length
 len:r.length=l.length
 pre:r.take i=(l.take j).filter λx=> !p x
 suf:r.drop j=l.drop j
theorem filter_none{p:Int->Bool}{l:List Int}(h:l.any p=false):(l.filter λx=> !p x)=l:=by
 rw[ar]at h;exact List.filter_eq_self.2 λx a=>by have:=h x a;simpa using this
theorem ie.start{p:Int->Bool}{l:List Int}{i:Nat}(h:i<l.length)(h1:(l.take i).any p=false)(h2:p l[i]=true):ie p l l i (i+1):=by
 refine⟨by omega,h,rfl,?_,rfl⟩;rw[ah h,am,filter_none h1];simp[h2]
theorem ie.at{p:Int->Bool}{l r:List Int}{i j:Nat}(h:ie p l r i j)(hj:j<l.length):r[j]? =some l[j]:=by
 have:=congrArg (·[0]?) h.suf;simp only[ap,Nat.add_zero]at this;rw[this,ad hj]
theorem ie.rR{p:Int->Bool}{l r:List Int}{i j:Nat}(h:ie p l r i j):r.drop (j+1)=l.drop (j+1):=by
 rw[<-bn,h.suf,bn]
theorem ie.drop{p:Int->Bool}{l r:List Int}{i j:Nat}(h:ie p l r i j)(hj:j<l.length)(a:p l[j]=true):ie p l r i (j+1):=by
 have:=h.le;refine⟨by omega,hj,h.len,?_,h.rR⟩;rw[ah hj,am,<-h.pre];simp[a]
theorem ie.cn{p:Int->Bool}{l r:List Int}{i j:Nat}(h:ie p l r i j)(hj:j<l.length)(b:p l[j]=false):ie p l (r.set i l[j]) (i+1) (j+1):=by
 have:=h.le;have a:i<r.length:=by rw[h.len];omega
 refine⟨by omega,hj,by rw[bl];exact h.len,?_,?_⟩
 ·rw[ah hj,am,<-h.pre,ah (by rw[bl];exact a),List.getElem_set_self,List.take_set_of_le (a9 _)];simp[b]
 ·rw[List.drop_set_of_lt (by omega),h.rR]
theorem ie.stop{p:Int->Bool}{l r:List Int}{i:Nat}(h:ie p l r i l.length):r.take i=l.filter λx=> !p x:=by
 have:=h.pre;rwa[bi]at this
theorem JR{p:Int->Bool}{l:List Int}:(bD p l= -1/\l.any p=false)\/∃(i:Nat) (h:i<l.length),bD p l=i/\(l.take i).any p=false/\p l[i]=true:=by
 unfold bD;cases h:l.findIdx? p with
 |none=>
  rw[List.findIdx?_eq_none_iff]at h;exact .inl ⟨rfl,by rw[ar];intro x a;simp[h x a]⟩
 |some i=>
  rw[List.findIdx?_eq_some_iff_getElem]at h;obtain⟨b,c,d⟩:=h;refine .inr ⟨i,b,rfl,?_,c⟩;rw[ar];intro x a;obtain⟨j,f,e⟩:=List.mem_take_iff_getElem.1 a;rw[<-e];exact d j (by omega)
theorem Il(F:Nat)(y:List Int)(p:Int->Bool)(g:∀x,aa Tryz.prog F [.c (.int .i64 x),.c (.bp [.bs 1 Int encI y])] [] (Rt (.c (.bool (p x))) []))(l:List Int)(hl:l.length<=1000000):
  aa Tryz.prog 207 [.c (.rw 0),.c (.fn F [.bp [.bs 1 Int encI y]])] [.row 1 Int encI l] (Rt (.c (.rw 1)) [.dead,.row 1 Int encI (l.filter λx=> !p x)]):=by
 refine af (n:=42) (n0:=1) tabOk Tryz.call207 Tryz.func207 ?_;intro hb;refine cl [] [] (Kb F y p g l) ?_;rcases JR (p:=p) (l:=l)with⟨e,d⟩|⟨i,q,e,d,s⟩
 ·rw[e,filter_none d];exact rx [] [.s 0,.s 0]
 rw[e];refine⟨i64 (by omega) (by omega),?_⟩;refine lp (Nat×Nat×List Int) (λ|(i,j,r)=>⟨[(0,.c (.rw 0)),(1,.c (.fn F [.bp [.bs 1 Int encI y]])),(5,.c (.int .i64 i)),(6,.c (.int .i64 j))],[.row 1 Int encI r]⟩) (λx=>ie p l x.2.2 x.1 x.2.1/\True) (λx=>l.length-x.2.1) (i,i+1,l) [] [.s 0] ?_ ?_ (λx a=>?_)
 ·exact⟨.start q d s,trivial⟩
 ·repeat' first|exact trivial|exact rfl|refine And.intro ?_ ?_
 obtain⟨i,j,r⟩:=x;obtain⟨a,_⟩:=a;dsimp only at a;have t:=a.le;have u:=a.jl;have v:=a.len;refine dec (λk=>?_) (λk=>?_)
 ·have b:j<l.length:=by omega
  have m:=a.at b;refine⟨j,⟨rfl,by omega⟩,?_⟩;refine⟨l[j],m,?_⟩;refine cl [] [] (g l[j]) ?_;refine aS (λh=>?_) (λh=>?_)
  ·have h:p l[j]=false:=by simpa using h
   refine⟨i,⟨rfl,by omega⟩,?_⟩;refine⟨_,l[j],ad (by omega),⟨a9 _,rfl⟩,?_⟩;repeat'(refine I6 ?_)
   refine ag (i+1,j+1,r.set i l[j]) [] [.s 0] ⟨a.cn b h,trivial⟩ (by simp only[];omega) ?_;repeat' first|exact trivial|exact rfl|refine And.intro ?_ ?_
  ·have h:p l[j]=true:=by simpa using h
   repeat'(refine I6 ?_)
   refine ag (i,j+1,r) [] [.s 0] ⟨a.drop b h,trivial⟩ (by simp only[];omega) ?_;repeat' first|exact trivial|exact rfl|refine And.intro ?_ ?_
 ·obtain rfl:j=l.length:=by omega
  refine⟨i,r.length,rfl,by omega,by omega,?_⟩;(conv=>whnf);have f:(r.take i++(b0 (r.length-i) (0:Int)++r.drop (i+(r.length-i)))).length=r.length:=by simp;omega
  refine⟨0,rfl,by omega,?_⟩;refine⟨0,i,rfl,rfl,⟨bb _,by rw[f];omega⟩,?_⟩;(conv=>whnf)
  have o:((r.take i++(b0 (r.length-i) (0:Int)++r.drop (i+(r.length-i)))).drop 0).take (i-0)=l.filter λx=> !p x:=by
   rw[List.drop_zero,Nat.sub_zero,List.take_append_of_le_length (by rw[bj];omega),List.take_take,Nat.min_self];exact a.stop
  refine rt [] [.s 0,.cut 1 0 0 (i-0)] ?_ rfl ⟨rfl,rfl⟩;repeat' first|exact trivial|exact rfl|refine And.intro ?_ ?_
  ·omega
  ·rw[o]
theorem Pm{L:List Ob}{c:List Int}{i:Nat}(h:i<c.length):((c.take (i+1)).filter λk=> !c.any λm=>decide (m≠k)&&fu L k m)=((c.take i).filter λk=> !c.any λm=>decide (m≠k)&&fu L k m)++(if(c.any λm=>decide (m≠c[i])&&fu L c[i] m)=true then[]else[c[i]]):=by
 rw[ah h,am];congr 1
 rw[List.filter_cons,List.filter_nil];cases (c.any λm=>decide (m≠c[i])&&fu L c[i] m)<;>rfl
theorem Gm{L:List Ob}{a b:Int}:((bf L a).filter λx=> !(!dv (bf L b) x))=n3 L a b:=by
 unfold n3;exact List.filter_congr λx _=>by rw[Bool.not_not]
theorem Gl{L:List Ob}{a b:Int}:(n3 L a b).length<=L.length:=Nat.le_trans (a5 _ _) se
theorem Gr(L:List Ob)(j:ak L)(a b:Int):aa Tryz.prog 129 [.c (.bp [.bs 6 Ob an L]),.c (.int .i64 a),.c (.int .i64 b)] [] (Rt (.ao [(false,[.rw 0]),(false,[.int .i64 (eL L a b).2])]) [.row 1 Int encI (eL L a b).1]):=by
 refine af (n:=52) (n0:=0) tabOk Tryz.call129 Tryz.func129 ?_;intro hb;have o:=j.len;have q:(bf L a).length<=L.length:=se;refine cl [] [] (sg L j a) ?_;by_cases g:kindOf L a=3
 ·rw[show b7 L a=(bf L a,0)by unfold b7;rw[if_pos g]];refine cl [] [] (sg L j b) ?_;by_cases d:kindOf L b=3
  ·rw[show b7 L b=(bf L b,0)by unfold b7;rw[if_pos d],show eL L a b=(E1 L (n3 L a b),0)by unfold eL;rw[if_neg (by simpa using g),if_neg (by simpa using d)]];refine cl [2,3] [1] (Il 208 (bf L b) (λx=> !dv (bf L b) x) (Gj (bf L b)) (bf L a) (by omega)) ?_;rw[Gm];have r:(n3 L a b).length<=L.length:=Gl;generalize n3 L a b=c at*;refine lp Nat (λi=>⟨[(3,.c (.ptr 0 0)),(11,.c (.ls 1 Int encI c)),(12,.c (.rw 1)),(36,.c (.ls 1 Int encI c)),(37,.c (.int .i64 c.length)),(38,.c (.int .i64 i))],[.box [.bp [.bs 6 Ob an L]],.row 1 Int encI ((c.take i).filter λk=> !c.any λm=>decide (m≠k)&&fu L k m)]⟩) (λi=>i<=c.length/\True) (λi=>c.length-i) 0 [4] [.s 0,.new] ?_ ?_ (λi s=>?_)
   ·exact⟨bb _,trivial⟩
   ·repeat' first|exact trivial|exact rfl|refine And.intro ?_ ?_
   refine dec (λp=>?_) (λp=>?_)
   ·have e:i<c.length:=by omega
    have f:=Pm (L:=L) e;have l:=a5 (λk=> !c.any λm=>decide (m≠k)&&fu L k m) (c.take i);rw[bj]at l;refine⟨i,c[i],rfl,ad e,?_⟩;refine cl [0,2] [] (HM L j c[i] c) ?_;refine aS (λh=>?_) (λh=>?_)
    ·have h:(c.any λm=>decide (m≠c[i])&&fu L c[i] m)=false:=by simpa using h
     rw[h,if_neg (by decide)]at f;refine⟨[c[i]],rfl,?_⟩;refine⟨_,_,rfl,rfl,(by simp only[a6,bh,bk];omega),?_⟩;repeat'(refine I6 ?_)
     refine ag (i+1) [] [.s 0,.s 4] ⟨e,trivial⟩ (by simp only[];omega) ?_;repeat' first|exact trivial|exact rfl|refine And.intro ?_ ?_
     rw[f];exact rfl
    ·have h:(c.any λm=>decide (m≠c[i])&&fu L c[i] m)=true:=by simpa using h
     rw[h,if_pos rfl,List.append_nil]at f;repeat'(refine I6 ?_)
     refine ag (i+1) [] [.s 0,.s 1] ⟨e,trivial⟩ (by simp only[];omega) ?_;repeat' first|exact trivial|exact rfl|refine And.intro ?_ ?_
     rw[f];exact rfl
   ·obtain rfl:i=c.length:=by omega
    rw[bi];exact rx [] [.s 1]
  ·rw[show b7 L b=([],9)by unfold b7;rw[if_neg d],show eL L a b=([],9)by unfold eL;rw[if_neg (by simpa using g),if_pos d]];exact rx [] [.new]
 ·rw[show b7 L a=([],9)by unfold b7;rw[if_neg g],show eL L a b=([],9)by unfold eL;rw[if_pos g]];exact rx [] [.new]
end Go.Nest
end
