/- part -/
import Derived.Test.YtpechfcbnoggfaaGreatDoorD4
import Derived.Test.YtpechfcbnoggfaaGreatDoorG9
set_option linter.unusedVariables false
set_option linter.unusedSimpArgs false
section
namespace Go.Nest
open Go Go.AM Go.Proofs
open Go.Proofs.YtpechfcbnoggfaaGreatDoor (tab tabOk)
set_option maxRecDepth 4000
def iG(es:List aB):List (Int×Int):=(es.filter fun e=>decide (e.mode=3)).map fun e=>(e.au,e.id)
def bR(L:List Ob)(ids:List Int):List (Int×Int):=ids.flatMap fun id=>iG (ai L id).entries
theorem x9{es:List aB}:(iG es).length≤es.length:=by
 unfold iG;rw[List.length_map];exact List.length_filter_le _ _
theorem Ec{es:List aB}{j:Nat}(h:j<es.length):iG (es.take (j+1))=iG (es.take j)++(if es[j].mode=3 then[(es[j].au,es[j].id)]else[]):=by
 unfold iG;rw[List.take_succ_eq_append_getElem h,List.filter_append,List.map_append,List.filter_cons];congr 1
 split
 ·rename_i h2;rw[if_pos (by simpa using h2)];rfl
 ·rename_i h2;rw[if_neg (by simpa using h2)];rfl
theorem Eg{L:List Ob}{ids:List Int}{i:Nat}(h:i<ids.length):bR L (ids.take (i+1))=bR L (ids.take i)++iG (ai L ids[i]).entries:=by
 unfold bR;rw[List.take_succ_eq_append_getElem h,List.flatMap_append];simp
theorem tz{L:List Ob}(hL:aj L):∀{ids:List Int},(bR L ids).length≤ids.length*60
 |[]=>Nat.zero_le _
 |id::ids=>by
  have ih:=tz hL (ids:=ids)
  have h1:(ai L id).entries.length≤60:=by
   by_cases h:kindOf L id=0
   ·rw[hL.kz h];exact Nat.zero_le _
   ·exact(hL.get h).entries
  have h2:=x9 (es:=(ai L id).entries);unfold bR at ih⊢;rw[List.flatMap_cons,List.length_append,List.length_cons];omega
set_option maxHeartbeats 2000000 in
theorem Ef(L:List Ob)(hL:aj L)(o:Nat→List Bool)(b:Nat→List Int)(ids:List Int)(hi:ids.length≤1000000):ae Tryz.prog 220 [.c (.bp [.bp [.bs 6 Ob an L],.bs 1 Bool af (o 0),.bs 1 Bool af (o 1),.bs 1 Bool af (o 2),.bs 1 Bool af (o 3),.bs 1 Int encI (b 0),.bs 1 Int encI (b 1),.bs 1 Int encI (b 2),.bs 1 Int encI (b 3)]),.c (.bs 1 Int encI ids)] [] (Rt (.c (.rw 0)) [.row 2 (Int×Int) iA (bR L ids)]):=by
 refine ao (n:=48) (n0:=0) tabOk Tryz.call220 Tryz.func220 ?_;intro hb;(conv=>whnf);refine lp Nat (fun i=>⟨[(0,.c (.bp [.bp [.bs 6 Ob an L],.bs 1 Bool af (o 0),.bs 1 Bool af (o 1),.bs 1 Bool af (o 2),.bs 1 Bool af (o 3),.bs 1 Int encI (b 0),.bs 1 Int encI (b 1),.bs 1 Int encI (b 2),.bs 1 Int encI (b 3)])),(5,.c (.rw 0)),(12,.c (.bs 1 Int encI ids)),(13,.c (.int .i64 ids.length)),(14,.c (.int .i64 i))],[.row 2 (Int×Int) iA (bR L (ids.take i))]⟩) (fun i=>i≤ids.length∧True) (fun i=>ids.length-i) 0 [] [.new] ?_ ?_ (fun i hii=>?_)
 ·simp
 ·repeat' first|exact trivial|exact rfl|refine And.intro ?_ ?_
 (conv=>whnf);refine dec (fun h4=>?_) (fun h4=>?_)
 ·have hlt:i<ids.length:=by have h4:(i:Int)<ids.length:=h4;omega
  have hiy:ids[i]? =some ids[i]:=List.getElem?_eq_getElem hlt;have hst:=Eg (L:=L) hlt;have hol:=tz hL (ids:=ids.take i);rw[List.length_take]at hol;generalize bR L (ids.take i)=out at hst hol⊢;generalize ids[i]=id at hiy hst
  have hel:(ai L id).entries.length≤60:=by
   by_cases h:kindOf L id=0
   ·rw[hL.kz h];exact Nat.zero_le _
   ·exact(hL.get h).entries
  (conv=>whnf);refine⟨i,id,rfl,hiy,?_⟩;(conv=>whnf);refine cl [] [] (fJ L hL id) ?_;generalize ai L id=ob at hel hst⊢;(conv=>whnf);refine lp Nat (fun j=>⟨[(0,.c (.bp [.bp [.bs 6 Ob an L],.bs 1 Bool af (o 0),.bs 1 Bool af (o 1),.bs 1 Bool af (o 2),.bs 1 Bool af (o 3),.bs 1 Int encI (b 0),.bs 1 Int encI (b 1),.bs 1 Int encI (b 2),.bs 1 Int encI (b 3)])),(5,.c (.rw 0)),(12,.c (.bs 1 Int encI ids)),(13,.c (.int .i64 ids.length)),(14,.c (.int .i64 i)),(28,.c (.bs 4 aB cm ob.entries)),(29,.c (.int .i64 ob.entries.length)),(30,.c (.int .i64 j))],[.row 2 (Int×Int) iA (out++iG (ob.entries.take j))]⟩) (fun j=>j≤ob.entries.length∧True) (fun j=>ob.entries.length-j) 0 [] [.same 0] ?_ ?_ (fun j hj=>?_)
  ·simp
  ·rw[List.take_zero,show iG []=[]from rfl,List.append_nil];repeat' first|exact trivial|exact rfl|refine And.intro ?_ ?_
  (conv=>whnf);refine dec (fun h5=>?_) (fun h5=>?_)
  ·have hjt:j<ob.entries.length:=by have h5:(j:Int)<ob.entries.length:=h5;omega
   have hjy:ob.entries[j]? =some ob.entries[j]:=List.getElem?_eq_getElem hjt;have hs2:=Ec hjt;have hl2:=x9 (es:=ob.entries.take j);rw[List.length_take]at hl2;generalize iG (ob.entries.take j)=o2 at hs2 hl2⊢;generalize ob.entries[j]=e at hjy hs2;(conv=>whnf);refine⟨j,e,rfl,hjy,?_⟩;(conv=>whnf);refine dec (fun h6=>?_) (fun h6=>?_)
   ·rw[if_pos h6]at hs2;(conv=>whnf);refine⟨[(e.au,e.id)],rfl,?_⟩;(conv=>whnf);refine⟨_,_,rfl,rfl,(by simp only[List.length_append,List.length_cons,List.length_nil];omega),?_⟩;repeat'((conv=>whnf);refine I6 ?_)
    refine ag (j+1) [] [.same 3] ⟨hjt,trivial⟩ (by simp only[];omega) ?_;rw[hs2,←List.append_assoc];repeat' first|exact trivial|exact rfl|refine And.intro ?_ ?_
   ·rw[if_neg h6,List.append_nil]at hs2;repeat'((conv=>whnf);refine I6 ?_)
    refine ag (j+1) [] [.same 0] ⟨hjt,trivial⟩ (by simp only[];omega) ?_;rw[hs2];repeat' first|exact trivial|exact rfl|refine And.intro ?_ ?_
  ·obtain rfl:j=ob.entries.length:=by have h5:¬(j:Int)<ob.entries.length:=h5;omega
   rw[List.take_length];repeat'((conv=>whnf);refine I6 ?_)
   refine ag (i+1) [] [.same 0] ⟨hlt,trivial⟩ (by simp only[];omega) ?_;rw[hst];repeat' first|exact trivial|exact rfl|refine And.intro ?_ ?_
 ·obtain rfl:i=ids.length:=by have h4:¬(i:Int)<ids.length:=h4;omega
  rw[List.take_length];(conv=>whnf);exact rx [] [.same 0]
def fq(o:Nat→List Bool)(r:Int)(n:Nat):List Int:=((List.range n).filter fun k:Nat=>ew o r k).map fun k:Nat=>(k:Int)
theorem yh{o:Nat→List Bool}{r:Int}{n:Nat}:fq o r (n+1)=fq o r n++(if ew o r n=true then[(n:Int)]else[]):=by
 unfold fq;rw[List.range_succ,List.filter_append,List.map_append,List.filter_cons];congr 1
 split
 ·rename_i h;rfl
 ·rename_i h;rfl
theorem Ek{o:Nat→List Bool}{r:Int}{n:Nat}:(fq o r n).length≤n:=by
 unfold fq;rw[List.length_map];exact Nat.le_trans (List.length_filter_le _ _) (by rw[List.length_range];exact Nat.le_refl _)
theorem yf(L:List Ob)(hL:aj L)(o:Nat→List Bool)(b:Nat→List Int)(r:Int):ae Tryz.prog 28 [.c (.bp [.bp [.bs 6 Ob an L],.bs 1 Bool af (o 0),.bs 1 Bool af (o 1),.bs 1 Bool af (o 2),.bs 1 Bool af (o 3),.bs 1 Int encI (b 0),.bs 1 Int encI (b 1),.bs 1 Int encI (b 2),.bs 1 Int encI (b 3)]),.c (.int .i64 r)] [] (Rt (.c (.rw 0)) [.row 1 Int encI (fq o r L.length)]):=by
 have hlen:=hL.len;refine ao (n:=25) (n0:=0) tabOk Tryz.call28 Tryz.func28 ?_;intro hb;(conv=>whnf);refine cl [] [] (mH L) ?_;(conv=>whnf);refine lp Nat (fun k=>⟨[(0,.c (.bp [.bp [.bs 6 Ob an L],.bs 1 Bool af (o 0),.bs 1 Bool af (o 1),.bs 1 Bool af (o 2),.bs 1 Bool af (o 3),.bs 1 Int encI (b 0),.bs 1 Int encI (b 1),.bs 1 Int encI (b 2),.bs 1 Int encI (b 3)])),(1,.c (.int .i64 r)),(5,.c (.rw 0)),(11,.c (.int .i64 L.length)),(12,.c (.int .i64 k))],[.row 1 Int encI (fq o r k)]⟩) (fun k=>k≤L.length∧True) (fun k=>L.length-k) 0 [] [.new] ?_ ?_ (fun k hk=>?_)
 ·simp
 ·repeat' first|exact trivial|exact rfl|refine And.intro ?_ ?_
 (conv=>whnf);refine dec (fun h4=>?_) (fun h4=>?_)
 ·have hlt:k<L.length:=by have h4:(k:Int)<L.length:=h4;omega
  have hst:=yh (o:=o) (r:=r) (n:=k);have hol:=Ek (o:=o) (r:=r) (n:=k);generalize fq o r k=out at hst hol⊢;(conv=>whnf);refine cl [] [] (yJ L o b r k) ?_;(conv=>whnf);refine aO (fun h5=>?_) (fun h5=>?_)
  ·rw[if_pos h5]at hst;(conv=>whnf);refine⟨[(k:Int)],rfl,?_⟩;(conv=>whnf);refine⟨_,_,rfl,rfl,(by simp only[List.length_append,List.length_cons,List.length_nil];omega),?_⟩;repeat'((conv=>whnf);refine I6 ?_)
   refine ag (k+1) [] [.same 2] ⟨hlt,trivial⟩ (by simp only[];omega) ?_;rw[hst];repeat' first|exact trivial|exact rfl|refine And.intro ?_ ?_
  ·rw[if_neg (by rw[h5];decide),List.append_nil]at hst;repeat'((conv=>whnf);refine I6 ?_)
   refine ag (k+1) [] [.same 0] ⟨hlt,trivial⟩ (by simp only[];omega) ?_;rw[hst];repeat' first|exact trivial|exact rfl|refine And.intro ?_ ?_
 ·obtain rfl:k=L.length:=by have h4:¬(k:Int)<L.length:=h4;omega
  (conv=>whnf);exact rx [] [.same 0]
end Go.Nest
end
section
namespace Go.Nest
open Go Go.AM
inductive Nd(L:List Ob)(ro:Nat→List Int):Nat→Int→Prop
 |root {r:Nat} {x k:Int} (hr:r<4) (h:x∈ro r) (hl:ca L [x] k):Nd L ro r k
 |link {r:Nat} {k m:Int} {e:aB} (h:Nd L ro r k) (he:e∈(ai L k).entries) (hm:e.mode=3) (hl:ca L [e.id] m):Nd L ro e.au.toNat m
noncomputable def fK(L:List Ob)(ro:Nat→List Int)(r:Nat):List Int:=((List.range L.length).filter fun k:Nat=> @decide (Nd L ro r (k:Int)) (Classical.propDecidable _)).map fun k:Nat=>(k:Int)
structure RS where
 ro:Nat→List Int
 out:Nat→List Int
 more:Bool
def kU(f:Nat→Nat):Nat:=f 0+(f 1+(f 2+f 3))
def ej(L:List Ob)(n:Nat→Nat)(s:RS):Nat:=kU (fun r=>600+n r-(s.ro r).length)+kU (fun r=>L.length-(s.out r).length)
structure fg(L:List Ob)(r0:Nat→List Int)(s:RS):Prop where
 sub:∀r,r<4→∀x∈r0 r,x∈s.ro r
 nd:∀r,r<4→∀x∈s.ro r,∀k,ca L [x] k→Nd L r0 r k
 ext:∀r,r<4→∃ex,s.ro r=r0 r++ex∧ex.Nodup∧∀x∈ex,0≤x∧x<(600:Nat)
 out:∀r,r<4→∀k∈s.out r,k∈ba L (s.ro r)
 onod:∀r,r<4→(s.out r).Nodup
theorem fg.len{L:List Ob}{r0:Nat→List Int}{s:RS}(h:fg L r0 s){r:Nat}(hr:r<4):(s.ro r).length≤(r0 r).length+600:=by
 obtain⟨ex,e,h1,h2⟩:=h.ext r hr;rw[e,List.length_append];have:=gG 600 h1 h2;omega
structure o3(L:List Ob)(s:RS):Prop where
 out:∀r,r<4→s.out r=ba L (s.ro r)
 clo:∀r,r<4→∀l∈bR L (s.out r),l.2∈s.ro l.1.toNat
theorem tn{L:List Ob}{ids:List Int}{k:Int}(h:ca L ids k):∃x∈ids,ca L [x] k:=by
 induction h with
 |base h hk=>exact⟨_,h,.base (by simp) hk⟩
 |step h hk ih=>
  obtain⟨x,h1,h2⟩:=ih;exact⟨x,h1,.step h2 hk⟩
theorem tm{L:List Ob}{ids:List Int}{x k:Int}(hx:x∈ids)(h:ca L [x] k):ca L ids k:=by
 induction h with
 |base h hk=>rw[List.mem_singleton]at h;subst h;exact .base hx hk
 |step h hk ih=>exact .step ih hk
theorem D4{L:List Ob}{ids ids':List Int}(hs:∀x∈ids,x∈ids'){k:Int}(h:ca L ids k):ca L ids' k:=by
 obtain⟨x,h1,h2⟩:=tn h;exact tm (hs x h1) h2
theorem ca.pos{L:List Ob}(hL:aj L){ids:List Int}{k:Int}(h:ca L ids k):0≤k∧k.toNat<L.length:=by
 have h1:=c9 (h.kind hL);omega
theorem qe{L:List Ob}{ids:List Int}{l:Int×Int}:l∈bR L ids↔∃k∈ids,∃e∈(ai L k).entries,e.mode=3∧l=(e.au,e.id):=by
 unfold bR iG;rw[List.mem_flatMap];constructor
 ·rintro⟨k,h1,h2⟩;obtain⟨e,h3,h4⟩:=List.mem_map.1 h2;rw[List.mem_filter]at h3;exact⟨k,h1,e,h3.1,by simpa using h3.2,h4.symm⟩
 ·rintro⟨k,h1,e,h2,h3,h4⟩;refine⟨k,h1,List.mem_map.2 ⟨e,List.mem_filter.2 ⟨h2,by simpa using h3⟩,h4.symm⟩⟩
theorem nL{L:List Ob}(hL:aj L){k:Int}{e:aB}(he:e∈(ai L k).entries):0≤e.au∧e.au<4∧kindOf L e.id=e.mode:=by
 have hk:¬kindOf L k=0:=fun h=>by rw[hL.kz h]at he;cases he
 have ho:=hL.get hk;have hpos:=c9 hk;have q:=ko ho.ents e he;have:=(hL.obj (ai L k) (by rw[jg hpos.1 hpos.2];exact List.getElem_mem _)).2;unfold dU at this;rw[Bool.and_eq_true,List.all_eq_true]at this;have:=this.1 e he;exact⟨q.2.2.2.1.1,q.2.2.2.1.2,by simpa using this⟩
theorem Nd.lt{L:List Ob}(hL:aj L){r0:Nat→List Int}{r:Nat}{k:Int}(h:Nd L r0 r k):r<4:=by
 cases h with
 |root hr _ _=>exact hr
 |link h he hm hl=>have:=nL hL he;omega
theorem Nd.pos{L:List Ob}(hL:aj L){r0:Nat→List Int}{r:Nat}{k:Int}(h:Nd L r0 r k):0≤k∧k.toNat<L.length:=by
 cases h with
 |root hr _ hl=>exact hl.pos hL
 |link h he hm hl=>exact hl.pos hL
theorem Es{L:List Ob}(hL:aj L){r0:Nat→List Int}{r:Nat}{k:Int}:k∈fK L r0 r↔Nd L r0 r k:=by
 unfold fK;rw[List.mem_map];constructor
 ·rintro⟨j,hj,rfl⟩;have:=(List.mem_filter.1 hj).2;simpa using this
 ·intro h;obtain⟨h1,h2⟩:=h.pos hL;have e:((k.toNat:Nat):Int)=k:=by omega
  refine⟨k.toNat,List.mem_filter.2 ⟨List.mem_range.2 h2,?_⟩,e⟩;rw[e];simpa using h
theorem EM{L:List Ob}{r0:Nat→List Int}{r:Nat}:(fK L r0 r).Pairwise (· < ·):=by
 unfold fK;rw[List.pairwise_map];exact(List.pairwise_lt_range.filter _).imp fun h=>by omega
theorem o3.bS{L:List Ob}(hL:aj L){r0:Nat→List Int}{s:RS}(hi:fg L r0 s)(hf:o3 L s){r:Nat}(hr:r<4):s.out r=fK L r0 r:=by
 have key:∀r k,Nd L r0 r k→k∈s.out r:=fun r k h=>by
  induction h with
  | @root r x k hr h hl=>
   rw[hf.out r hr,kH hL];exact tm (hi.sub r hr x h) hl
  | @link r k m e h he hm hl ih=>
   have hr:=h.lt hL;have hq:=nL hL he;have:=hf.clo r hr (e.au,e.id) (qe.2 ⟨k,ih,e,he,hm,rfl⟩);rw[hf.out _ (by omega),kH hL];exact tm this hl
 rw[hf.out r hr];refine qK y9 EM fun k=>?_;rw[Es hL];constructor
 ·intro h;obtain⟨x,h1,h2⟩:=tn ((kH hL).1 h);exact hi.nd r hr x h1 k h2
 ·intro h;have:=key r k h;rwa[hf.out r hr]at this
theorem fg.start{L:List Ob}{r0:Nat→List Int}:fg L r0 ⟨r0,fun _=>[],true⟩where
 sub:=fun r hr x h=>h
 nd:=fun r hr x h k hl=>.root hr h hl
 ext:=fun r hr=>⟨[],by simp,List.nodup_nil,fun x h=>by cases h⟩;out:=fun r hr k h=>by cases h
 onod:=fun r hr=>List.nodup_nil
theorem GQ{α:Type}{f:α→Nat}{o:Nat→α}{k:Nat}(hk:k<4){v:α}:kU (fun r=>f (aq o k v r))+f (o k)=kU (fun r=>f (o r))+f v:=by
 unfold kU;rcases four hk with rfl|rfl|rfl|rfl<;>simp only[aq,Nat.beq,cond_true,cond_false]<;>omega
end Go.Nest
end
section
namespace Go.Nest
open Go Go.AM
theorem fB{α:Type}{o:Nat→α}{k j:Nat}{v:α}(h:j≠k):aq o k v j=o j:=by
 unfold aq
 have:Nat.beq j k=false:=by
  cases hbq:Nat.beq j k with
  |false=>rfl
  |true=>exact absurd (Nat.eq_of_beq_eq_true hbq) h
 rw[this];rfl
def n0(r0:Nat→List Int):Nat→Nat:=fun r=>(r0 r).length
theorem yx:∀{a b:List Int},a.Nodup→(∀x∈a,x∈b)→a.length≤b.length
 |[],b,_,_=>Nat.zero_le _
 |x::a,b,h,hs=>by
  rw[List.nodup_cons]at h;have hx:=hs x (by simp)
  have h1 := yx (b := b.erase x) h.2 (fun y hy=>by
   have hne:y≠x:=fun e=>by subst e;exact h.1 hy
   exact(List.mem_erase_of_ne hne).2 (hs y (by simp[hy])))
  rw[List.length_erase_of_mem hx]at h1;have h2:=List.length_pos_of_mem hx;rw[List.length_cons];omega
theorem fg.found{L:List Ob}(hL:aj L){r0:Nat→List Int}{s:RS}(h:fg L r0 s){r:Nat}(hr:r<4)(m:Bool):
  fg L r0 ⟨s.ro,aq s.out r (ba L (s.ro r)),m⟩∧ej L (n0 r0) ⟨s.ro,aq s.out r (ba L (s.ro r)),m⟩≤ej L (n0 r0) s∧((s.out r).length<(ba L (s.ro r)).length→ej L (n0 r0) ⟨s.ro,aq s.out r (ba L (s.ro r)),m⟩<ej L (n0 r0) s):=by
 have hle:(s.out r).length≤(ba L (s.ro r)).length:=yx (h.onod r hr) (h.out r hr);have hlt:=mQ (l:=L) (ids:=s.ro r);have e:=GQ (f:=fun l:List Int=>L.length-l.length) (o:=s.out) hr (v:=ba L (s.ro r));refine⟨⟨h.sub,h.nd,h.ext,fun j hj k hk=>?_,fun j hj=>?_⟩,?_,fun hl=>?_⟩
 ·by_cases e:j=r
  ·subst e;have hk:k∈aq s.out j (ba L (s.ro j)) j:=hk;rwa[fL]at hk
  ·have hk:k∈aq s.out r (ba L (s.ro r)) j:=hk;rw[fB e]at hk;exact h.out j hj k hk
 ·show(aq s.out r (ba L (s.ro r)) j).Nodup;by_cases e:j=r
  ·subst e;rw[fL];exact y9.imp fun h=>by omega
  ·rw[fB e];exact h.onod j hj
 ·unfold ej;dsimp only at e⊢;omega
 ·unfold ej;dsimp only at e⊢;omega
theorem fg.root{L:List Ob}(hL:aj L){r0:Nat→List Int}{s:RS}(h:fg L r0 s){q:Nat}(hq:q<4){x:Int}(hno:x∉s.ro q)(hx:∀k,ca L [x] k→Nd L r0 q k)(hx2:0≤x∧x<(600:Nat)):
  fg L r0 ⟨aq s.ro q (s.ro q++[x]),s.out,true⟩∧ej L (n0 r0) ⟨aq s.ro q (s.ro q++[x]),s.out,true⟩<ej L (n0 r0) s:=by
 have hin:∀j y,y∈s.ro j→y∈aq s.ro q (s.ro q++[x]) j:=fun j y hy=>by
  by_cases e:j=q
  ·subst e;rw[fL];exact List.mem_append.2 (.inl hy)
  ·rw[fB e];exact hy
 have hr1:fg L r0 ⟨aq s.ro q (s.ro q++[x]),s.out,true⟩:=by
  refine⟨fun j hj y hy=>hin j y (h.sub j hj y hy),fun j hj y hy k hl=>?_,fun j hj=>?_,fun j hj k hk=>?_,h.onod⟩
  ·have hy:y∈aq s.ro q (s.ro q++[x]) j:=hy;by_cases e:j=q
   ·subst e;rw[fL]at hy;rcases List.mem_append.1 hy with hy|hy
    ·exact h.nd j hj y hy k hl
    ·rw[List.mem_singleton]at hy;subst hy;exact hx k hl
   ·rw[fB e]at hy;exact h.nd j hj y hy k hl
  ·show∃ex,aq s.ro q (s.ro q++[x]) j=r0 j++ex∧_;by_cases e:j=q
   ·subst e;rw[fL];obtain⟨ex,e1,e2,e3⟩:=h.ext j hj;refine⟨ex++[x],by rw[e1,List.append_assoc],?_,fun y hy=>?_⟩
    ·rw[List.nodup_append];exact⟨e2,by simp,fun a ha c hc=>by rw[List.mem_singleton]at hc;subst hc;exact fun e=>hno (by rw[e1];exact List.mem_append.2 (.inr (e▸ha)))⟩
    ·rcases List.mem_append.1 hy with hy|hy
     ·exact e3 y hy
     ·rw[List.mem_singleton]at hy;subst hy;exact hx2
   ·rw[fB e];exact h.ext j hj
  ·show k∈ba L (aq s.ro q (s.ro q++[x]) j);rw[kH hL];exact D4 (hin j) ((kH hL).1 (h.out j hj k hk))
 refine⟨hr1,?_⟩;have hlen:=hr1.len hq;have hlen:(aq s.ro q (s.ro q++[x]) q).length≤(r0 q).length+600:=hlen;rw[fL,List.length_append,List.length_singleton]at hlen
 have a:kU (fun r=>600+n0 r0 r-(aq s.ro q (s.ro q++[x]) r).length)<kU (fun r=>600+n0 r0 r-(s.ro r).length):=by
  unfold kU n0;rcases four hq with rfl|rfl|rfl|rfl<;>simp only[aq,Nat.beq,cond_true,cond_false,List.length_append,List.length_singleton]<;>omega
 unfold ej;dsimp only at a⊢;omega
structure fF(L:List Ob)(r0:Nat→List Int)(mu:Nat)(r:Nat)(s:RS):Prop where
 inv:fg L r0 s
 le:ej L (n0 r0) s≤mu
 lt:s.more=true→ej L (n0 r0) s<mu
 out:s.more=false→∀j,j<r→s.out j=ba L (s.ro j)
 clo:s.more=false→∀j,j<r→∀l∈bR L (s.out j),l.2∈s.ro l.1.toNat
structure gl(L:List Ob)(r0:Nat→List Int)(mu:Nat)(r:Nat)(all:List Int)(i:Nat)(s:RS):Prop where
 mid:fF L r0 mu r s
 here:s.out r=all
 out:s.more=false→s.out r=ba L (s.ro r)
 done:s.more=false→∀l∈(bR L all).take i,l.2∈s.ro l.1.toNat
theorem fF.found{L:List Ob}(hL:aj L){r0:Nat→List Int}{mu r:Nat}{s:RS}(h:fF L r0 mu r s)(hr:r<4):
  gl L r0 mu r (ba L (s.ro r)) 0 ⟨s.ro,aq s.out r (ba L (s.ro r)),s.more||decide ((s.out r).length<(ba L (s.ro r)).length)⟩:=by
 obtain⟨a,c,d⟩:=h.inv.found hL hr (s.more||decide ((s.out r).length<(ba L (s.ro r)).length))
 have hf:(s.more||decide ((s.out r).length<(ba L (s.ro r)).length))=false→s.more=false:=fun e=>by
  cases hm:s.more with
  |false=>rfl
  |true=>rw[hm]at e;cases e
 refine⟨⟨a,Nat.le_trans c h.le,fun e=>?_,fun e j hj=>?_,fun e j hj=>?_⟩,fL,fun e=>fL,fun e l hl=>by simp at hl⟩
 ·cases hm:s.more with
  |true=>exact Nat.lt_of_le_of_lt c (h.lt hm)
  |false=>
   have e:(s.more||decide ((s.out r).length<(ba L (s.ro r)).length))=true:=e;rw[hm,Bool.false_or]at e;exact Nat.lt_of_lt_of_le (d (of_decide_eq_true e)) h.le
 ·show aq s.out r (ba L (s.ro r)) j=_;rw[fB (by omega)];exact h.out (hf e) j hj
 ·show∀l∈bR L (aq s.out r (ba L (s.ro r)) j),_;rw[fB (by omega)];exact h.clo (hf e) j hj
theorem gl.skip{L:List Ob}{r0:Nat→List Int}{mu r i:Nat}{all:List Int}{s:RS}(h:gl L r0 mu r all i s)(hi:i<(bR L all).length)(hin:(bR L all)[i].2∈s.ro (bR L all)[i].1.toNat):gl L r0 mu r all (i+1) s:=
 ⟨h.mid,h.here,h.out,fun e l hl=>by
  rw[List.take_succ_eq_append_getElem hi]at hl;rcases List.mem_append.1 hl with hl|hl
  ·exact h.done e l hl
  ·rw[List.mem_singleton]at hl;subst hl;exact hin⟩
theorem gl.add{L:List Ob}(hL:aj L){r0:Nat→List Int}{mu r i:Nat}{all:List Int}{s:RS}(h:gl L r0 mu r all i s)(ha:∀k∈all,Nd L r0 r k){q:Nat}(hq:q<4){x:Int}(hl:((q:Int),x)∈bR L all)(hno:x∉s.ro q):gl L r0 mu r all (i+1) ⟨aq s.ro q (s.ro q++[x]),s.out,true⟩:=by
 obtain⟨k,k1,e,k2,k3,k4⟩:=qe.1 hl;have e1:(q:Int)=e.au:=congrArg (·.1) k4;have e2:x=e.id:=congrArg (·.2) k4;have hr:=nL hL k2;have hxp:=c9 (l:=L) (id:=e.id) (by omega);have hlen:=hL.len
 obtain ⟨a, c⟩ := h.mid.inv.root hL hq hno (fun m hm=>by
  have:=Nd.link (ha k k1) k2 k3 (e2▸hm);rw[←e1]at this;exact this) (by rw[e2];omega)
 exact⟨⟨a,Nat.le_of_lt (Nat.lt_of_lt_of_le c h.mid.le),fun _=>Nat.lt_of_lt_of_le c h.mid.le,fun e=>(by cases e),fun e=>(by cases e)⟩,h.here,fun e=>(by cases e),fun e=>(by cases e)⟩
theorem gl.stop{L:List Ob}{r0:Nat→List Int}{mu r i:Nat}{all:List Int}{s:RS}(h:gl L r0 mu r all i s)(hi:¬i<(bR L all).length):fF L r0 mu (r+1) s:=by
 refine⟨h.mid.inv,h.mid.le,h.mid.lt,fun e j hj=>?_,fun e j hj l hl=>?_⟩
 ·rcases Nat.lt_succ_iff_lt_or_eq.1 hj with hj|rfl
  ·exact h.mid.out e j hj
  ·exact h.out e
 ·rcases Nat.lt_succ_iff_lt_or_eq.1 hj with hj|rfl
  ·exact h.mid.clo e j hj l hl
  ·rw[h.here]at hl;exact h.done e l (by rw[List.take_of_length_le (by omega)];exact hl)
theorem fF.start{L:List Ob}{r0:Nat→List Int}{s:RS}(h:fg L r0 s):fF L r0 (ej L (n0 r0) s) 0 ⟨s.ro,s.out,false⟩:=
 ⟨⟨h.sub,h.nd,h.ext,h.out,h.onod⟩,Nat.le_refl _,fun e=>(by cases e),fun _ j hj=>absurd hj (Nat.not_lt_zero _),fun _ j hj=>absurd hj (Nat.not_lt_zero _)⟩
theorem fF.fin{L:List Ob}{r0:Nat→List Int}{mu:Nat}{s:RS}(h:fF L r0 mu 4 s)(hm:s.more=false):o3 L s:=⟨fun r hr=>h.out hm r hr,fun r hr=>h.clo hm r hr⟩
end Go.Nest
end
section
namespace Go.Nest
open Go Go.AM Go.Proofs
open Go.Proofs.YtpechfcbnoggfaaGreatDoor (tab tabOk)
set_option maxRecDepth 4000
theorem mL{n0:Nat}{s0:St}{R:∀(ι:Type) (I:ι→St) (inv:ι→Prop) (m:ι→Nat),ι→Prop}{P:Nat→Prop}{q:Nat}(hQ:P q)(ι:Type)(I:Nat→ι→St)(inv:Nat→ι→Prop)(m:ι→Nat)(y:ι)(js:List Nat)(ρ:List Rn)(h1:inv q y)(h2:le n0 js ρ s0 (I q y))(h3:∀x,inv q x→R ι (I q) (inv q) m x):
  ∃(ι:Type) (I:ι→St) (inv:ι→Prop) (m:ι→Nat),(∃y,inv y∧LE n0 s0 (I y))∧∀x,inv x→R ι I inv m x:=
 ⟨ι,I q,inv q,m,⟨y,h1,js,ρ,h2⟩,h3⟩
theorem nu{ι:Type}{n0:Nat}{I:ι→St}{inv:ι→Prop}{m:ι→Nat}{lt:Nat}{s:St}{P:Nat→Prop}{q:Nat}(hQ:P q)(y:ι)(js:List Nat)(ρ:Nat→List Rn)(h1:inv y)(h2:m y<lt)(h3:le n0 js (ρ q) s (I y)):∃y,(inv y∧m y<lt)∧LE n0 s (I y):=⟨y,⟨h1,h2⟩,js,ρ q,h3⟩
def Qn(_:Nat):Prop:=True
set_option maxHeartbeats 20000000 in
theorem EK(L:List Ob)(hL:aj L)(o:Nat→List Bool)(b r0:Nat→List Int)(hr0:∀r,r<4→(r0 r).length≤100000):ae Tryz.prog 136 [.c (.bp [.bp [.bs 6 Ob an L],.bs 1 Bool af (o 0),.bs 1 Bool af (o 1),.bs 1 Bool af (o 2),.bs 1 Bool af (o 3),.bs 1 Int encI (b 0),.bs 1 Int encI (b 1),.bs 1 Int encI (b 2),.bs 1 Int encI (b 3)]),.st [.bs 1 Int encI (r0 0),.bs 1 Int encI (r0 1),.bs 1 Int encI (r0 2),.bs 1 Int encI (r0 3)]] [] (Rt (.st [.ls 1 Int encI (fK L r0 0),.ls 1 Int encI (fK L r0 1),.ls 1 Int encI (fK L r0 2),.ls 1 Int encI (fK L r0 3)]) []):=by
 have hlen:=hL.len;refine ao (n:=67) (n0:=0) tabOk Tryz.call136 Tryz.func136 ?_;intro hb;(conv=>whnf);refine lp RS (fun s=>⟨[(0,.c (.bp [.bp [.bs 6 Ob an L],.bs 1 Bool af (o 0),.bs 1 Bool af (o 1),.bs 1 Bool af (o 2),.bs 1 Bool af (o 3),.bs 1 Int encI (b 0),.bs 1 Int encI (b 1),.bs 1 Int encI (b 2),.bs 1 Int encI (b 3)])),(3,.c (.ptr 0 0)),(4,.c (.ptr 1 0)),(5,.c (.ptr 2 0)),(6,.c (.bool s.more))],[.box [.bs 1 Int encI (s.ro 0),.bs 1 Int encI (s.ro 1),.bs 1 Int encI (s.ro 2),.bs 1 Int encI (s.ro 3)],.box [.nil,.nil,.nil,.nil],.box [.ls 1 Int encI (s.out 0),.ls 1 Int encI (s.out 1),.ls 1 Int encI (s.out 2),.ls 1 Int encI (s.out 3)]]⟩) (fun s=>(fg L r0 s∧(s.more=false→o3 L s))∧True) (fun s=>2*ej L (n0 r0) s+(if s.more=true then 1 else 0)) ⟨r0,fun _=>[],true⟩ [] [.same 0,.same 1,.same 2] ?_ ?_ (fun s hs=>?_)
 ·exact⟨⟨fg.start,fun h=>by cases h⟩,trivial⟩
 ·repeat' first|exact trivial|exact rfl|refine And.intro ?_ ?_
 obtain⟨⟨hs,hfin⟩,-⟩:=hs;(conv=>whnf);refine aO (fun hm=>?_) (fun hm=>?_)
 ·have hm:s.more=true:=hm;(conv=>whnf);refine lp (Nat×RS) (fun p=>⟨[(0,.c (.bp [.bp [.bs 6 Ob an L],.bs 1 Bool af (o 0),.bs 1 Bool af (o 1),.bs 1 Bool af (o 2),.bs 1 Bool af (o 3),.bs 1 Int encI (b 0),.bs 1 Int encI (b 1),.bs 1 Int encI (b 2),.bs 1 Int encI (b 3)])),(3,.c (.ptr 0 0)),(4,.c (.ptr 1 0)),(5,.c (.ptr 2 0)),(6,.c (.bool p.2.more)),(12,.c (.int .i64 p.1))],[.box [.bs 1 Int encI (p.2.ro 0),.bs 1 Int encI (p.2.ro 1),.bs 1 Int encI (p.2.ro 2),.bs 1 Int encI (p.2.ro 3)],.box [.nil,.nil,.nil,.nil],.box [.ls 1 Int encI (p.2.out 0),.ls 1 Int encI (p.2.out 1),.ls 1 Int encI (p.2.out 2),.ls 1 Int encI (p.2.out 3)]]⟩) (fun p=>(p.1≤4∧fF L r0 (ej L (n0 r0) s) p.1 p.2)∧True) (fun p=>4-p.1) (0,⟨s.ro,s.out,false⟩) [] [.same 0,.same 1,.same 2] ?_ ?_ (fun⟨r,t⟩ ht=>?_)
  ·exact⟨⟨Nat.zero_le _,fF.start hs⟩,trivial⟩
  ·repeat' first|exact trivial|exact rfl|refine And.intro ?_ ?_
  obtain⟨⟨hr4,ht⟩,-⟩:=ht;have ht:fF L r0 (ej L (n0 r0) s) r t:=ht;(conv=>whnf);refine dec (fun h4=>?_) (fun h4=>?_)
  ·have hr:r<4:=by have h4:(r:Int)<4:=h4;omega
   have hml:=ht.found hL hr;have hrl:=ht.inv.len hr;have hn:=hr0 r hr;have p1:=mR L hL (t.ro r) (by omega);have hal:=mQ (l:=L) (ids:=t.ro r)
   have hall:∀k∈ba L (t.ro r),Nd L r0 r k:=fun k hk=>by
    obtain⟨x,h1,h2⟩:=tn ((kH hL).1 hk);exact ht.inv.nd r hr x h1 k h2
   generalize ba L (t.ro r)=all at p1 hml hall hal;have p2:=Ef L hL o b all (by omega);have hll:=tz hL (ids:=all);have hQ:Qn r:=trivial;have hr1:r+1≤4:=hr;have hd:decide (((t.out r).length:Int)<all.length)=decide ((t.out r).length<all.length):=decide_eq_decide.2 (by omega);(conv=>whnf)
   rcases four hr with rfl|rfl|rfl|rfl<;>(
    refine⟨false,.grow,(.l [0,1,2,3,4,5,6,7,8]),by kernel_rfl,.inl ?_⟩;(conv=>whnf);refine⟨_,⟨rfl,hr⟩,?_⟩;(conv=>whnf);refine cl [] [] (p1) ?_;(conv=>whnf);refine aO (fun e1=>?_) (fun e1=>?_)
    ·have e1:t.more=true:=e1;rw[e1,Bool.true_or]at hml;(conv=>whnf);refine⟨_,⟨rfl,hr⟩,?_⟩;(conv=>whnf);refine cl [] [] (p2) ?_;(conv=>whnf);refine mL hQ (Nat×RS) (fun q p=>⟨[(0,.c (.bp [.bp [.bs 6 Ob an L],.bs 1 Bool af (o 0),.bs 1 Bool af (o 1),.bs 1 Bool af (o 2),.bs 1 Bool af (o 3),.bs 1 Int encI (b 0),.bs 1 Int encI (b 1),.bs 1 Int encI (b 2),.bs 1 Int encI (b 3)])),(3,.c (.ptr 0 0)),(4,.c (.ptr 1 0)),(5,.c (.ptr 2 0)),(6,.c (.bool p.2.more)),(12,.c (.int .i64 q)),(38,.c (.rw 3)),(39,.c (.int .i64 (bR L all).length)),(40,.c (.int .i64 p.1))],[.box [.bs 1 Int encI (p.2.ro 0),.bs 1 Int encI (p.2.ro 1),.bs 1 Int encI (p.2.ro 2),.bs 1 Int encI (p.2.ro 3)],.box [.nil,.nil,.nil,.nil],.box [.ls 1 Int encI (p.2.out 0),.ls 1 Int encI (p.2.out 1),.ls 1 Int encI (p.2.out 2),.ls 1 Int encI (p.2.out 3)],.row 2 (Int×Int) iA (bR L all)]⟩) (fun q p=>(p.1≤(bR L all).length∧gl L r0 (ej L (n0 r0) s) q all p.1 p.2)∧True) (fun p=>(bR L all).length-p.1) (0,_) [3] [.same 0,.same 1,.same 2,.same 4] ⟨⟨Nat.zero_le _,hml⟩,trivial⟩ ?_ (fun⟨i,u⟩ hu=>?_)
     ·repeat' first|exact trivial|exact rfl|refine And.intro ?_ ?_
     obtain⟨⟨hi,hu⟩,-⟩:=hu;dsimp only at hi hu;(conv=>whnf);refine dec (fun h5=>?_) (fun h5=>?_)
     ·have hlt:i<(bR L all).length:=by have h5:(i:Int)<(bR L all).length:=h5;omega
      have hiy:(bR L all)[i]? =some (bR L all)[i]:=List.getElem?_eq_getElem hlt
      obtain⟨p,x,hp,hl⟩:∃(p:Nat) (x:Int),p<4∧(bR L all)[i]=((p:Int),x):=by
       obtain⟨k,k1,e,k2,k3,k4⟩:=qe.1 (List.getElem_mem hlt);have:=nL hL k2;exact⟨e.au.toNat,e.id,by omega,by rw[k4,show((e.au.toNat:Nat):Int)=e.au by omega]⟩
      rw[hl]at hiy;have hno:(!cS (u.ro p) x)=false→gl L r0 (ej L (n0 r0) s) _ all (i+1) u:=fun h=>hu.skip hlt (by rw[hl];exact eI.1 (by simpa using h));have hadd:=fun h:(!cS (u.ro p) x)=true=>hu.add hL hall hp (x:=x) (by rw[←hl];exact List.getElem_mem hlt) (fun hm=>by rw[eI.2 hm]at h;cases h);have hrl2:=hu.mid.inv.len hp;have hn2:=hr0 p hp;have p5:=pq (u.ro p) (by omega);have p6:=fl (u.ro p) x;(conv=>whnf);refine⟨i,⟨rfl,hlt⟩,?_⟩;(conv=>whnf);refine⟨((p:Int),x),hiy,?_⟩
      rcases four hp with rfl|rfl|rfl|rfl<;>(
       (conv=>whnf);refine⟨false,.grow,(.l [0,1,2,3,4,5,6,7]),by kernel_rfl,.inl ?_⟩;(conv=>whnf);refine⟨0,⟨rfl,by decide⟩,?_⟩;(conv=>whnf);refine⟨_,⟨rfl,by decide⟩,?_⟩;(conv=>whnf);refine⟨1,⟨rfl,by decide⟩,?_⟩;(conv=>whnf);refine cl [] [] (p6) ?_;(conv=>whnf);refine aO (fun h6=>?_) (fun h6=>?_)
       ·(conv=>whnf);refine⟨false,.prot [0,4],(.alt [0,1,2,3,4,5,7,8] [6,9] fun j=>bif Nat.beq j 6 then(.l [9,10,11,12])else bif Nat.beq j 9 then(.l [6,10,11,12])else .l []),by kernel_rfl,.inl ?_⟩;(conv=>whnf);refine⟨0,⟨rfl,by decide⟩,?_⟩;(conv=>whnf);refine⟨0,⟨rfl,by decide⟩,?_⟩;(conv=>whnf);refine⟨_,⟨rfl,by decide⟩,?_⟩;(conv=>whnf);refine⟨1,⟨rfl,by decide⟩,?_⟩;(conv=>whnf);refine And.intro ?_ ?_
        ·(conv=>whnf);refine cl [] [] (p5) ?_;(conv=>whnf);refine⟨[x],rfl,?_⟩;(conv=>whnf);refine⟨_,_,rfl,rfl,(by simp only[List.length_append,List.length_cons,List.length_nil];omega),?_⟩;(conv=>whnf);refine⟨_,⟨rfl,by decide⟩,?_⟩;repeat'((conv=>whnf);refine I6 ?_)
         refine ag (i+1,_) [7] [.same 0,.same 1,.same 2,.same 3] ⟨⟨hlt,hadd h6⟩,trivial⟩ (by simp only[];omega) ?_;repeat' first|exact trivial|exact rfl|refine And.intro ?_ ?_
        ·(conv=>whnf);refine⟨[x],rfl,?_⟩;(conv=>whnf);refine cl [] [] (p5) ?_;(conv=>whnf);refine⟨_,_,rfl,rfl,(by simp only[List.length_append,List.length_cons,List.length_nil];omega),?_⟩;(conv=>whnf);refine⟨_,⟨rfl,by decide⟩,?_⟩;repeat'((conv=>whnf);refine I6 ?_)
         refine ag (i+1,_) [7] [.same 0,.same 1,.same 2,.same 3] ⟨⟨hlt,hadd h6⟩,trivial⟩ (by simp only[];omega) ?_;repeat' first|exact trivial|exact rfl|refine And.intro ?_ ?_
       ·repeat'((conv=>whnf);refine I6 ?_)
        refine ag (i+1,u) [] [.same 0,.same 1,.same 2,.same 3] ⟨⟨hlt,hno h6⟩,trivial⟩ (by simp only[];omega) ?_;repeat' first|exact trivial|exact rfl|refine And.intro ?_ ?_)
     ·have h5:¬(i:Int)<(bR L all).length:=h5;repeat'((conv=>whnf);refine I6 ?_)
      refine ag (_+1,u) [] [.same 0,.same 1,.same 2] ⟨⟨hr1,hu.stop (by omega)⟩,trivial⟩ (by simp only[];omega) ?_;repeat' first|exact trivial|exact rfl|refine And.intro ?_ ?_
    ·have e1:t.more=false:=e1;rw[e1,Bool.false_or,←hd]at hml;(conv=>whnf);refine⟨_,⟨rfl,hr⟩,?_⟩;(conv=>whnf);refine⟨_,⟨rfl,hr⟩,?_⟩;(conv=>whnf);refine cl [] [] (p2) ?_;(conv=>whnf);refine mL hQ (Nat×RS) (fun q p=>⟨[(0,.c (.bp [.bp [.bs 6 Ob an L],.bs 1 Bool af (o 0),.bs 1 Bool af (o 1),.bs 1 Bool af (o 2),.bs 1 Bool af (o 3),.bs 1 Int encI (b 0),.bs 1 Int encI (b 1),.bs 1 Int encI (b 2),.bs 1 Int encI (b 3)])),(3,.c (.ptr 0 0)),(4,.c (.ptr 1 0)),(5,.c (.ptr 2 0)),(6,.c (.bool p.2.more)),(12,.c (.int .i64 q)),(38,.c (.rw 3)),(39,.c (.int .i64 (bR L all).length)),(40,.c (.int .i64 p.1))],[.box [.bs 1 Int encI (p.2.ro 0),.bs 1 Int encI (p.2.ro 1),.bs 1 Int encI (p.2.ro 2),.bs 1 Int encI (p.2.ro 3)],.box [.nil,.nil,.nil,.nil],.box [.ls 1 Int encI (p.2.out 0),.ls 1 Int encI (p.2.out 1),.ls 1 Int encI (p.2.out 2),.ls 1 Int encI (p.2.out 3)],.row 2 (Int×Int) iA (bR L all)]⟩) (fun q p=>(p.1≤(bR L all).length∧gl L r0 (ej L (n0 r0) s) q all p.1 p.2)∧True) (fun p=>(bR L all).length-p.1) (0,_) [3] [.same 0,.same 1,.same 2,.same 4] ⟨⟨Nat.zero_le _,hml⟩,trivial⟩ ?_ (fun⟨i,u⟩ hu=>?_)
     ·repeat' first|exact trivial|exact rfl|refine And.intro ?_ ?_
     obtain⟨⟨hi,hu⟩,-⟩:=hu;dsimp only at hi hu;(conv=>whnf);refine dec (fun h5=>?_) (fun h5=>?_)
     ·have hlt:i<(bR L all).length:=by have h5:(i:Int)<(bR L all).length:=h5;omega
      have hiy:(bR L all)[i]? =some (bR L all)[i]:=List.getElem?_eq_getElem hlt
      obtain⟨p,x,hp,hl⟩:∃(p:Nat) (x:Int),p<4∧(bR L all)[i]=((p:Int),x):=by
       obtain⟨k,k1,e,k2,k3,k4⟩:=qe.1 (List.getElem_mem hlt);have:=nL hL k2;exact⟨e.au.toNat,e.id,by omega,by rw[k4,show((e.au.toNat:Nat):Int)=e.au by omega]⟩
      rw[hl]at hiy;have hno:(!cS (u.ro p) x)=false→gl L r0 (ej L (n0 r0) s) _ all (i+1) u:=fun h=>hu.skip hlt (by rw[hl];exact eI.1 (by simpa using h));have hadd:=fun h:(!cS (u.ro p) x)=true=>hu.add hL hall hp (x:=x) (by rw[←hl];exact List.getElem_mem hlt) (fun hm=>by rw[eI.2 hm]at h;cases h);have hrl2:=hu.mid.inv.len hp;have hn2:=hr0 p hp;have p5:=pq (u.ro p) (by omega);have p6:=fl (u.ro p) x;(conv=>whnf);refine⟨i,⟨rfl,hlt⟩,?_⟩;(conv=>whnf);refine⟨((p:Int),x),hiy,?_⟩
      rcases four hp with rfl|rfl|rfl|rfl<;>(
       (conv=>whnf);refine⟨false,.grow,(.l [0,1,2,3,4,5,6,7]),by kernel_rfl,.inl ?_⟩;(conv=>whnf);refine⟨0,⟨rfl,by decide⟩,?_⟩;(conv=>whnf);refine⟨_,⟨rfl,by decide⟩,?_⟩;(conv=>whnf);refine⟨1,⟨rfl,by decide⟩,?_⟩;(conv=>whnf);refine cl [] [] (p6) ?_;(conv=>whnf);refine aO (fun h6=>?_) (fun h6=>?_)
       ·(conv=>whnf);refine⟨false,.prot [0,4],(.alt [0,1,2,3,4,5,7,8] [6,9] fun j=>bif Nat.beq j 6 then(.l [9,10,11,12])else bif Nat.beq j 9 then(.l [6,10,11,12])else .l []),by kernel_rfl,.inl ?_⟩;(conv=>whnf);refine⟨0,⟨rfl,by decide⟩,?_⟩;(conv=>whnf);refine⟨0,⟨rfl,by decide⟩,?_⟩;(conv=>whnf);refine⟨_,⟨rfl,by decide⟩,?_⟩;(conv=>whnf);refine⟨1,⟨rfl,by decide⟩,?_⟩;(conv=>whnf);refine And.intro ?_ ?_
        ·(conv=>whnf);refine cl [] [] (p5) ?_;(conv=>whnf);refine⟨[x],rfl,?_⟩;(conv=>whnf);refine⟨_,_,rfl,rfl,(by simp only[List.length_append,List.length_cons,List.length_nil];omega),?_⟩;(conv=>whnf);refine⟨_,⟨rfl,by decide⟩,?_⟩;repeat'((conv=>whnf);refine I6 ?_)
         refine ag (i+1,_) [7] [.same 0,.same 1,.same 2,.same 3] ⟨⟨hlt,hadd h6⟩,trivial⟩ (by simp only[];omega) ?_;repeat' first|exact trivial|exact rfl|refine And.intro ?_ ?_
        ·(conv=>whnf);refine⟨[x],rfl,?_⟩;(conv=>whnf);refine cl [] [] (p5) ?_;(conv=>whnf);refine⟨_,_,rfl,rfl,(by simp only[List.length_append,List.length_cons,List.length_nil];omega),?_⟩;(conv=>whnf);refine⟨_,⟨rfl,by decide⟩,?_⟩;repeat'((conv=>whnf);refine I6 ?_)
         refine ag (i+1,_) [7] [.same 0,.same 1,.same 2,.same 3] ⟨⟨hlt,hadd h6⟩,trivial⟩ (by simp only[];omega) ?_;repeat' first|exact trivial|exact rfl|refine And.intro ?_ ?_
       ·repeat'((conv=>whnf);refine I6 ?_)
        refine ag (i+1,u) [] [.same 0,.same 1,.same 2,.same 3] ⟨⟨hlt,hno h6⟩,trivial⟩ (by simp only[];omega) ?_;repeat' first|exact trivial|exact rfl|refine And.intro ?_ ?_)
     ·have h5:¬(i:Int)<(bR L all).length:=h5;repeat'((conv=>whnf);refine I6 ?_)
      refine ag (_+1,u) [] [.same 0,.same 1,.same 2] ⟨⟨hr1,hu.stop (by omega)⟩,trivial⟩ (by simp only[];omega) ?_;repeat' first|exact trivial|exact rfl|refine And.intro ?_ ?_)
  ·obtain rfl:r=4:=by have h4:¬(r:Int)<4:=h4;omega
   skip;refine ag t [] [.same 0,.same 1,.same 2] ⟨⟨ht.inv,fun h=>ht.fin h⟩,trivial⟩ ?_ ?_
   ·have h1:=ht.le;have h2:=ht.lt;simp only[hm,if_true];split
    ·rename_i h3;have:=h2 h3;omega
    ·omega
   ·repeat' first|exact trivial|exact rfl|refine And.intro ?_ ?_
 ·have hm:s.more=false:=hm;have hf:=hfin hm;rw[←hf.bS hL hs (r:=0) (by decide),←hf.bS hL hs (r:=1) (by decide),←hf.bS hL hs (r:=2) (by decide),←hf.bS hL hs (r:=3) (by decide)];(conv=>whnf);exact rx [] []
end Go.Nest
end
section
namespace Go.Nest
open Go Go.AM
noncomputable def mw(b:Nat→List Int)(bS:Nat→List Int)(q:Nat)(k:Int):Bool:=(List.range 4).any fun r:Nat=>decide ((q:Int)∈cD b r)&&decide (k∈bS r)
def lO(p:Nat→Bool)(l:List Bool):List Bool:=l.mapIdx fun j v=>v&&p j
noncomputable def j5(L:List Ob)(o:Nat→List Bool)(b r0:Nat→List Int):Nat→List Bool:=fun q=>lO (fun k=>mw b (fK L r0) q (k:Int)) (o q)
theorem GW{p:Nat→Bool}{l:List Bool}:(lO p l).length=l.length:=by unfold lO;rw[List.length_mapIdx]
theorem tp{b:Nat→List Int}(hb:gM b){r:Int}(h:bh r=true):(cD b r).Nodup∧(∀x∈cD b r,0≤x∧x<(4:Nat)):=by
 suffices∀n i out,5-i≤n→fN b r i out→(cD b r).Nodup∧(∀x∈cD b r,0≤x∧x<(4:Nat))from this 5 0 [r] (Nat.le_refl _) (fN.start h);intro n;induction n with
 |zero=>
  intro i out hn hi;have:=hi.len;have:=hi.le;omega
 |succ n ih=>
  intro i out hn hi;by_cases hlt:i<out.length
  ·exact ih (i+1) _ (by omega) (hi.next hb hlt)
  ·rw[hi.stop hlt];exact⟨hi.nd,hi.all⟩
theorem D8{b:Nat→List Int}(hb:gM b){r:Int}(h:bh r=true):(cD b r).length≤4:=gG 4 (tp hb h).1 (tp hb h).2
structure KI(b bS:Nat→List Int)(r i:Nat)(k:Nat→List Int):Prop where
 len:∀q,q<4→(k q).length≤600*(4*r+i)
 mem:∀q,q<4→∀x,x∈k q↔(∃r',r'<r∧(q:Int)∈cD b r'∧x∈bS r')∨((q:Int)∈(cD b r).take i∧x∈bS r)
theorem KI.start{b bS:Nat→List Int}:KI b bS 0 0 fun _=>[]:=by
 refine⟨fun q hq=>Nat.zero_le _,fun q hq x=>⟨fun h=>(by cases h),fun h=>?_⟩⟩;rcases h with⟨r',h,_⟩|⟨h,_⟩
 ·omega
 ·rw[List.take_zero]at h;cases h
theorem KI.step{b bS:Nat→List Int}{r i q:Nat}{k:Nat→List Int}(h:KI b bS r i k)(hi:i<(cD b r).length)(hq:(cD b r)[i]=(q:Int))(hq4:q<4)(hn:(bS r).length≤600):KI b bS r (i+1) (aq k q (k q++bS r)):=by
 refine⟨fun j hj=>?_,fun j hj x=>?_⟩
 ·by_cases e:j=q
  ·subst e;rw[fL,List.length_append];have:=h.len j hj;omega
  ·rw[fB e];have:=h.len j hj;omega
 ·rw[List.take_succ_eq_append_getElem hi,hq,List.mem_append,List.mem_singleton];by_cases e:j=q
  ·subst e;rw[fL,List.mem_append,h.mem j hj x];constructor
   ·rintro((h1|h1)|h1)
    ·exact .inl h1
    ·exact .inr ⟨.inl h1.1,h1.2⟩
    ·exact .inr ⟨.inr rfl,h1⟩
   ·rintro(h1|⟨h1|h1,h2⟩)
    ·exact .inl (.inl h1)
    ·exact .inl (.inr ⟨h1,h2⟩)
    ·exact .inr h2
  ·rw[fB e,h.mem j hj x];constructor
   ·rintro(h1|⟨h1,h2⟩)
    ·exact .inl h1
    ·exact .inr ⟨.inl h1,h2⟩
   ·rintro(h1|⟨h1|h1,h2⟩)
    ·exact .inl h1
    ·exact .inr ⟨h1,h2⟩
    ·exact absurd (by omega) e
theorem KI.next{b bS:Nat→List Int}{r i:Nat}{k:Nat→List Int}(h:KI b bS r i k)(hi:¬i<(cD b r).length)(hi4:i≤4):KI b bS (r+1) 0 k:=by
 refine⟨fun q hq=>?_,fun q hq x=>?_⟩
 ·have:=h.len q hq;omega
 ·rw[h.mem q hq x,List.take_zero,List.take_of_length_le (by omega)];constructor
  ·rintro(⟨r',h1,h2⟩|h1)
   ·exact .inl ⟨r',by omega,h2⟩
   ·exact .inl ⟨r,by omega,h1⟩
  ·rintro(⟨r',h1,h2⟩|⟨h1,_⟩)
   ·rcases Nat.lt_succ_iff_lt_or_eq.1 h1 with h1|rfl
    ·exact .inl ⟨r',h1,h2⟩
    ·exact .inr h2
   ·cases h1
theorem KI.fin{b bS:Nat→List Int}{k:Nat→List Int}(h:KI b bS 4 0 k){q:Nat}(hq:q<4)(x:Int):cS (k q) x=mw b bS q x:=by
 rw[Bool.eq_iff_iff,eI,h.mem q hq x];unfold mw;rw[List.any_eq_true,List.take_zero];constructor
 ·rintro(⟨r',h1,h2,h3⟩|⟨h1,_⟩)
  ·exact⟨r',by simpa using h1,by simpa using⟨h2,h3⟩⟩
  ·cases h1
 ·rintro⟨r',h1,h2⟩;exact .inl ⟨r',by simpa using h1,by simpa using h2⟩
structure gO(p:Nat→Bool)(l x:List Bool)(k:Nat):Prop where
 len:x.length=l.length
 ati:∀j,x[j]? =if j<k then(l[j]?).map fun v=>v&&p j else l[j]?
theorem gO.start{p:Nat→Bool}{l:List Bool}:gO p l l 0:=⟨rfl,fun j=>by rw[if_neg (Nat.not_lt_zero _)]⟩
theorem gO.get{p:Nat→Bool}{l x:List Bool}{k:Nat}(h:gO p l x k)(hk:k<l.length):x[k]? =some l[k]:=by
 rw[h.ati k,if_neg (Nat.lt_irrefl _),List.getElem?_eq_getElem hk]
theorem gO.step{p:Nat→Bool}{l x:List Bool}{k:Nat}(h:gO p l x k)(hk:k<l.length):gO p l (x.set k (l[k]&&p k)) (k+1):=by
 refine⟨by rw[List.length_set];exact h.len,fun j=>?_⟩;have hl:=h.len;rw[List.getElem?_set];by_cases e:k=j
 ·subst e;rw[if_pos rfl,if_pos (by omega),if_pos (by omega),List.getElem?_eq_getElem hk];rfl
 ·rw[if_neg e,h.ati j];by_cases h1:j<k
  ·rw[if_pos h1,if_pos (by omega)]
  ·rw[if_neg h1,if_neg (by omega)]
theorem gO.fin{p:Nat→Bool}{l x:List Bool}{k:Nat}(h:gO p l x k)(hk:¬k<l.length):x=lO p l:=by
 refine List.ext_getElem? fun j=>?_;rw[h.ati j];unfold lO;rw[List.getElem?_mapIdx];split
 ·rfl
 ·rw[List.getElem?_eq_none (by omega)];rfl
def OI(L:List Ob)(o:Nat→List Bool)(b r0:Nat→List Int)(r:Nat)(x:Nat→List Bool):Prop:=∀q,q<4→x q=if q<r then j5 L o b r0 q else o q
theorem OI.start{L:List Ob}{o:Nat→List Bool}{b r0:Nat→List Int}:OI L o b r0 0 o:=fun q hq=>by rw[if_neg (Nat.not_lt_zero _)]
theorem OI.here{L:List Ob}{o:Nat→List Bool}{b r0:Nat→List Int}{r:Nat}{x:Nat→List Bool}(h:OI L o b r0 r x)(hr:r<4):x r=o r:=by rw[h r hr,if_neg (Nat.lt_irrefl _)]
theorem OI.next{L:List Ob}{o:Nat→List Bool}{b r0:Nat→List Int}{r:Nat}{x:Nat→List Bool}(h:OI L o b r0 r x)(hr:r<4):OI L o b r0 (r+1) (aq x r (j5 L o b r0 r)):=fun q hq=>by
 by_cases e:q=r
 ·subst e;rw[fL,if_pos (by omega)]
 ·rw[fB e,h q hq];by_cases h1:q<r
  ·rw[if_pos h1,if_pos (by omega)]
  ·rw[if_neg h1,if_neg (by omega)]
theorem OI.fin{L:List Ob}{o:Nat→List Bool}{b r0:Nat→List Int}{x:Nat→List Bool}(h:OI L o b r0 4 x){q:Nat}(hq:q<4):x q=j5 L o b r0 q:=by rw[h q hq,if_pos hq]
theorem EL{L:List Ob}{r0:Nat→List Int}{r:Nat}:(fK L r0 r).length≤L.length:=by
 unfold fK;rw[List.length_map];exact Nat.le_trans (List.length_filter_le _ _) (by rw[List.length_range];exact Nat.le_refl _)
end Go.Nest
end
section
namespace Go.Nest
open Go Go.AM Go.Proofs
open Go.Proofs.YtpechfcbnoggfaaGreatDoor (tab tabOk)
set_option maxRecDepth 4000
def FP(q a:Nat):List Rn:=(List.range 18).map fun i=>bif Nat.beq i (13+q)then .same a else .same i
theorem yv{i n:Nat}(h:(i:Int)<(n:Int)):i<n:=by omega
set_option maxHeartbeats 20000000 in
theorem GX(L:List Ob)(hL:aj L)(o:Nat→List Bool)(b r0:Nat→List Int)(hb4:gM b)(ho:∀k,k<4→(o k).length≤1000000)(hr0:∀r,r<4→(r0 r).length≤100000):ae Tryz.prog 66 [.c (.ptr 0 0),.st [.bs 1 Int encI (r0 0),.bs 1 Int encI (r0 1),.bs 1 Int encI (r0 2),.bs 1 Int encI (r0 3)]] [.box [.ptr 1 0,.rw 3,.rw 4,.rw 5,.rw 6,.rw 7,.rw 8,.rw 9,.rw 10],.box [.rw 2],.row 6 Ob an L,.row 1 Bool af (o 0),.row 1 Bool af (o 1),.row 1 Bool af (o 2),.row 1 Bool af (o 3),.row 1 Int encI (b 0),.row 1 Int encI (b 1),.row 1 Int encI (b 2),.row 1 Int encI (b 3)] (Rt (.tup []) [.box [.ptr 1 0,.rw 3,.rw 4,.rw 5,.rw 6,.rw 7,.rw 8,.rw 9,.rw 10],.box [.rw 2],.row 6 Ob an L,.row 1 Bool af ((j5 L o b r0) 0),.row 1 Bool af ((j5 L o b r0) 1),.row 1 Bool af ((j5 L o b r0) 2),.row 1 Bool af ((j5 L o b r0) 3),.row 1 Int encI (b 0),.row 1 Int encI (b 1),.row 1 Int encI (b 2),.row 1 Int encI (b 3)]):=by
 have hlen:=hL.len;have p1:=EK L hL o b r0 hr0;have hnl:∀r,(fK L r0 r).length≤600:=fun r=>Nat.le_trans EL hL.len;have hOf:=fun x (h:OI L o b r0 4 x) q hq=>OI.fin h (q:=q) hq;have hOI:∀r x,OI L o b r0 r x=OI L o b r0 r x:=fun _ _=>rfl;have hsw:∀q,j5 L o b r0 q=lO (fun k=>mw b (fK L r0) q (k:Int)) (o q):=fun q=>rfl;generalize hneed:fK L r0=bS at p1 hnl hsw;refine ao (n:=75) (n0:=11) tabOk Tryz.call66 Tryz.func66 ?_;intro hb;(conv=>whnf);refine cl [] [] (p1) ?_;(conv=>whnf);refine lp (Nat×(Nat→List Int)) (fun p=>⟨[(0,.c (.ptr 0 0)),(4,.c (.ptr 11 0)),(5,.c (.ptr 12 0)),(14,.c (.int .i64 p.1))],[.box [.ptr 1 0,.rw 3,.rw 4,.rw 5,.rw 6,.rw 7,.rw 8,.rw 9,.rw 10],.box [.rw 2],.row 6 Ob an L,.row 1 Bool af (o 0),.row 1 Bool af (o 1),.row 1 Bool af (o 2),.row 1 Bool af (o 3),.row 1 Int encI (b 0),.row 1 Int encI (b 1),.row 1 Int encI (b 2),.row 1 Int encI (b 3)]++[.box [.ls 1 Int encI (bS 0),.ls 1 Int encI (bS 1),.ls 1 Int encI (bS 2),.ls 1 Int encI (bS 3)],.box [.rw 13,.rw 14,.rw 15,.rw 16],.row 1 Int encI (p.2 0),.row 1 Int encI (p.2 1),.row 1 Int encI (p.2 2),.row 1 Int encI (p.2 3)]⟩) (fun p=>(p.1≤4∧KI b bS p.1 0 p.2)∧True) (fun p=>4-p.1) (0,fun _=>[]) [] [.same 0,.same 1,.same 2,.same 3,.same 4,.same 5,.same 6,.same 7,.same 8,.same 9,.same 10,.same 12,.same 13,.new,.new,.new,.new] ⟨⟨Nat.zero_le _,KI.start⟩,trivial⟩ ?_ (fun⟨r,k⟩ hk=>?_)
 ·repeat' first|exact trivial|exact rfl|refine And.intro ?_ ?_
 obtain⟨⟨hr4,hk⟩,-⟩:=hk;have hk:KI b bS r 0 k:=hk;(conv=>whnf);refine dec (fun h4=>?_) (fun h4=>?_)
 ·have hr:r<4:=by have h4:(r:Int)<4:=h4;omega
  have hQ:Qn r:=trivial;have hr1:r+1≤4:=hr;have hlr:=tp hb4 (r:=(r:Int)) (b5.2 ⟨r,hr,rfl⟩);have hll4:=D8 hb4 (r:=(r:Int)) (b5.2 ⟨r,hr,rfl⟩);have p2:=tq L o b hb4 (r:Int) (b5.2 ⟨r,hr,rfl⟩);have hnr:=hnl r
  have one:∀i k,KI b bS r i k→(i:Int)<(cD b r).length→∃(_:i<(cD b r).length) (p:Nat),p<4∧(cD b r)[i]? =some (p:Int)∧KI b bS r (i+1) (aq k p (k p++bS r)):=fun i k hk h5=>by
   have hlt:=yv h5;have:=hlr.2 _ (List.getElem_mem hlt);have e:(cD b r)[i]=(((cD b r)[i]).toNat:Int):=by omega
   exact⟨hlt,((cD b r)[i]).toNat,by omega,by rw[List.getElem?_eq_getElem hlt,←e],hk.step hlt e (by omega) hnr⟩
  rcases four hr with rfl|rfl|rfl|rfl<;>(
   (conv=>whnf);refine cl [] [] (p2) ?_;(conv=>whnf);refine mL hQ (Nat×(Nat→List Int)) (fun r p=>⟨[(0,.c (.ptr 0 0)),(4,.c (.ptr 11 0)),(5,.c (.ptr 12 0)),(14,.c (.int .i64 r)),(6,.c (.int .i64 r)),(19,.c (.rw 17)),(20,.c (.int .i64 (cD b r).length)),(21,.c (.int .i64 p.1))],[.box [.ptr 1 0,.rw 3,.rw 4,.rw 5,.rw 6,.rw 7,.rw 8,.rw 9,.rw 10],.box [.rw 2],.row 6 Ob an L,.row 1 Bool af (o 0),.row 1 Bool af (o 1),.row 1 Bool af (o 2),.row 1 Bool af (o 3),.row 1 Int encI (b 0),.row 1 Int encI (b 1),.row 1 Int encI (b 2),.row 1 Int encI (b 3)]++[.box [.ls 1 Int encI (bS 0),.ls 1 Int encI (bS 1),.ls 1 Int encI (bS 2),.ls 1 Int encI (bS 3)],.box [.rw 13,.rw 14,.rw 15,.rw 16],.row 1 Int encI (p.2 0),.row 1 Int encI (p.2 1),.row 1 Int encI (p.2 2),.row 1 Int encI (p.2 3)]++[.row 1 Int encI (cD b r)]⟩) (fun r p=>(p.1≤(cD b r).length∧KI b bS r p.1 p.2)∧True) (fun p=>4-p.1) (0,k) [] [.same 0,.same 1,.same 2,.same 3,.same 4,.same 5,.same 6,.same 7,.same 8,.same 9,.same 10,.same 11,.same 12,.same 13,.same 14,.same 15,.same 16,.same 17] ⟨⟨Nat.zero_le _,hk⟩,trivial⟩ ?_ (fun⟨i,k⟩ hk=>?_)
   ·repeat' first|exact trivial|exact rfl|refine And.intro ?_ ?_
   obtain⟨⟨hi,hk⟩,-⟩:=hk;dsimp only at hi hk;(conv=>whnf);refine dec (fun h5=>?_) (fun h5=>?_)
   ·obtain⟨hlt,p,hp,hiy,hst⟩:=one i k hk h5;have hkl:=hk.len p hp;(conv=>whnf);refine⟨i,⟨rfl,hlt⟩,?_⟩;(conv=>whnf);refine⟨(p:Int),hiy,?_⟩;have hP:Qn p:=trivial
    rcases four hp with rfl|rfl|rfl|rfl<;>(
     (conv=>whnf);refine⟨false,.grow,(.l [0,1,2,3,4,5,6,7,8,9]),by kernel_rfl,.inl ?_⟩;(conv=>whnf);refine⟨_,⟨rfl,by decide⟩,?_⟩;(conv=>whnf);refine⟨_,⟨rfl,hr⟩,?_⟩;(conv=>whnf);refine⟨_,_,rfl,rfl,(by simp only[List.length_append,List.length_cons,List.length_nil];omega),?_⟩;(conv=>whnf);refine⟨_,⟨rfl,by decide⟩,?_⟩;repeat'((conv=>whnf);refine I6 ?_)
     refine nu hP (i+1,_) [] (fun p=>FP p 18) ⟨⟨hlt,hst⟩,trivial⟩ (by simp only[];omega) ?_;repeat' first|exact trivial|exact rfl|refine And.intro ?_ ?_)
   ·repeat'((conv=>whnf);refine I6 ?_)
    refine ag (_+1,k) [] [.same 0,.same 1,.same 2,.same 3,.same 4,.same 5,.same 6,.same 7,.same 8,.same 9,.same 10,.same 11,.same 12,.same 13,.same 14,.same 15,.same 16] ⟨⟨hr1,hk.next (fun h=>h5 (by omega)) (by omega)⟩,trivial⟩ (by simp only[];omega) ?_;repeat' first|exact trivial|exact rfl|refine And.intro ?_ ?_)
 ·obtain rfl:r=4:=by have h4:¬(r:Int)<4:=h4;omega
  (conv=>whnf);refine lp (Nat×(Nat→List Bool)) (fun p=>⟨[(0,.c (.ptr 0 0)),(5,.c (.ptr 11 0)),(36,.c (.int .i64 p.1))],[.box [.ptr 1 0,.rw 3,.rw 4,.rw 5,.rw 6,.rw 7,.rw 8,.rw 9,.rw 10],.box [.rw 2],.row 6 Ob an L,.row 1 Bool af (p.2 0),.row 1 Bool af (p.2 1),.row 1 Bool af (p.2 2),.row 1 Bool af (p.2 3),.row 1 Int encI (b 0),.row 1 Int encI (b 1),.row 1 Int encI (b 2),.row 1 Int encI (b 3)]++[.box [.ls 1 Int encI (k 0),.ls 1 Int encI (k 1),.ls 1 Int encI (k 2),.ls 1 Int encI (k 3)]]⟩) (fun p=>(p.1≤4∧OI L o b r0 p.1 p.2)∧True) (fun p=>4-p.1) (0,o) [13,14,15,16] [.same 0,.same 1,.same 2,.same 3,.same 4,.same 5,.same 6,.same 7,.same 8,.same 9,.same 10,.same 12] ⟨⟨Nat.zero_le _,OI.start⟩,trivial⟩ ?_ (fun⟨r,x⟩ hx=>?_)
  ·repeat' first|exact trivial|exact rfl|refine And.intro ?_ ?_
  obtain⟨⟨hr4,hx⟩,-⟩:=hx;have hx:OI L o b r0 r x:=hx;(conv=>whnf);refine dec (fun h4=>?_) (fun h4=>?_)
  ·have hr:r<4:=by have h4:(r:Int)<4:=h4;omega
   have hQ:Qn r:=trivial;have hr1:r+1≤4:=hr;have hq:=ho r hr;have hx0:=hx.here hr;have hkl:=hk.len r hr;have p3:=fun i:Nat=>fl (k r) (i:Int);have hkf:=fun z=>hk.fin hr z;simp only[hkf]at p3
   have hfin:∀i y,gO (fun j=>mw b bS r (j:Int)) (o r) y i→¬(i:Int)<(o r).length→OI L o b r0 (r+1) (aq x r y):=fun i y hy h5=>by
    rw[hy.fin (fun h=>h5 (by omega)),←hsw r];exact hx.next hr
   rcases four hr with rfl|rfl|rfl|rfl<;>(
    (conv=>whnf);refine⟨_,⟨rfl,hr⟩,?_⟩;(conv=>whnf);refine mL hQ (Nat×List Bool) (fun q p=>⟨[(0,.c (.ptr 0 0)),(5,.c (.ptr 11 0)),(36,.c (.int .i64 q)),(9,.c (.int .i64 q)),(45,.c (.int .i64 (o q).length)),(46,.c (.int .i64 p.1))],[.box [.ptr 1 0,.rw 3,.rw 4,.rw 5,.rw 6,.rw 7,.rw 8,.rw 9,.rw 10],.box [.rw 2],.row 6 Ob an L,.row 1 Bool af ((aq x q p.2) 0),.row 1 Bool af ((aq x q p.2) 1),.row 1 Bool af ((aq x q p.2) 2),.row 1 Bool af ((aq x q p.2) 3),.row 1 Int encI (b 0),.row 1 Int encI (b 1),.row 1 Int encI (b 2),.row 1 Int encI (b 3)]++[.box [.ls 1 Int encI (k 0),.ls 1 Int encI (k 1),.ls 1 Int encI (k 2),.ls 1 Int encI (k 3)]]⟩) (fun q p=>(p.1≤(o q).length∧gO (fun j=>mw b bS q (j:Int)) (o q) p.2 p.1)∧True) (fun p=>1000000-p.1) (0,_) [] [.same 0,.same 1,.same 2,.same 3,.same 4,.same 5,.same 6,.same 7,.same 8,.same 9,.same 10,.same 11] ⟨⟨Nat.zero_le _,gO.start⟩,trivial⟩ ?_ (fun⟨i,y⟩ hy=>?_)
    ·rw[←hx0];repeat' first|exact trivial|exact rfl|refine And.intro ?_ ?_
    obtain⟨⟨hi,hy⟩,-⟩:=hy;dsimp only at hi hy;(conv=>whnf);refine dec (fun h5=>?_) (fun h5=>?_)
    ·have hlt:=yv h5;have hyi:=hy.get hlt;have hst:=hy.step hlt;have hyl:=hy.len;obtain⟨v,hv⟩:∃v,v=(o _)[i]:=⟨_,rfl⟩;rw[←hv]at hyi hst;(conv=>whnf);refine⟨false,.grow,(.l [0,1,2,3,4,5,6,7,8,9,10,11,12,13,14,15,16,17,18,19,20,21,22,23,24]),by kernel_rfl,.inl ?_⟩;(conv=>whnf);refine⟨_,⟨rfl,hr⟩,?_⟩;(conv=>whnf);refine⟨_,⟨rfl,hr⟩,?_⟩;(conv=>whnf);refine⟨i,⟨rfl,(show i<y.length by omega)⟩,?_⟩;(conv=>whnf);refine⟨v,hyi,?_⟩;(conv=>whnf);refine aO (fun h6=>?_) (fun h6=>?_)
     ·rw[h6,Bool.true_and]at hst;(conv=>whnf);refine⟨_,⟨rfl,hr⟩,?_⟩;(conv=>whnf);refine cl [] [] (p3 i) ?_;(conv=>whnf);refine⟨i,⟨rfl,(show i<y.length by omega)⟩,?_⟩;(conv=>whnf);refine⟨_,_,hyi,⟨Nat.le_refl 1,rfl⟩,?_⟩;repeat'((conv=>whnf);refine I6 ?_)
      refine ag (i+1,_) [] [.same 0,.same 1,.same 2,.same 3,.same 4,.same 5,.same 6,.same 7,.same 8,.same 9,.same 10,.same 11] ⟨⟨hlt,hst⟩,trivial⟩ (by simp only[];omega) ?_;repeat' first|exact trivial|exact rfl|refine And.intro ?_ ?_
     ·rw[h6,Bool.false_and]at hst;(conv=>whnf);refine⟨i,⟨rfl,(show i<y.length by omega)⟩,?_⟩;(conv=>whnf);refine⟨_,_,hyi,⟨Nat.le_refl 1,rfl⟩,?_⟩;repeat'((conv=>whnf);refine I6 ?_)
      refine ag (i+1,_) [] [.same 0,.same 1,.same 2,.same 3,.same 4,.same 5,.same 6,.same 7,.same 8,.same 9,.same 10,.same 11] ⟨⟨hlt,hst⟩,trivial⟩ (by simp only[];omega) ?_;repeat' first|exact trivial|exact rfl|refine And.intro ?_ ?_
    ·repeat'((conv=>whnf);refine I6 ?_)
     refine ag (_+1,_) [] [.same 0,.same 1,.same 2,.same 3,.same 4,.same 5,.same 6,.same 7,.same 8,.same 9,.same 10,.same 11] ⟨⟨hr1,hfin i y hy h5⟩,trivial⟩ (by simp only[];omega) ?_;repeat' first|exact trivial|exact rfl|refine And.intro ?_ ?_)
  ·obtain rfl:r=4:=by have h4:¬(r:Int)<4:=h4;omega
   rw[←hx.fin (q:=0) (by decide),←hx.fin (q:=1) (by decide),←hx.fin (q:=2) (by decide),←hx.fin (q:=3) (by decide)];(conv=>whnf);exact rx [] [.same 0,.same 1,.same 2,.same 3,.same 4,.same 5,.same 6,.same 7,.same 8,.same 9,.same 10]
end Go.Nest
end
section
namespace Go.Nest
open Go Go.AM Go.Proofs
open Go.Proofs.YtpechfcbnoggfaaGreatDoor (tab tabOk)
set_option maxRecDepth 4000
def dD(b:Nat→List Int)(r q:Int):Int:=if bh r=false∨bh q=false then 1 else if cS (cD b q) r=true then 10 else if cS (b r.toNat) q=true then 11 else 0
def cJ(b:Nat→List Int)(r q:Int):Nat→List Int:=if dD b r q≠0 then b else aq b r.toNat (b r.toNat++[q])
structure lS(b:Nat→List Int):Prop where
 ok:gM b
 nd:∀i,i<4→(b i).Nodup
theorem lS.nil:lS fun _=>[]:=⟨fun i h=>⟨Nat.zero_le _,fun q hq=>by cases hq⟩,fun i h=>List.nodup_nil⟩
theorem lS.dX{b:Nat→List Int}(h:lS b)(r q:Int):lS (cJ b r q):=by
 unfold cJ;split
 ·exact h
 ·rename_i hc;have hc:dD b r q=0:=Decidable.not_not.1 hc;unfold dD at hc;split at hc
  ·cases hc
  rename_i h1;split at hc
  ·cases hc
  split at hc
  ·cases hc
  rename_i h3;have hr:bh r=true:=by cases e:bh r with|true=>rfl|false=>exact absurd (.inl e) h1
  have hq:bh q=true:=by cases e:bh q with|true=>rfl|false=>exact absurd (.inr e) h1
  obtain⟨k,hk,rfl⟩:=b5.1 hr;obtain⟨j,hj,rfl⟩:=b5.1 hq;rw[Int.toNat_natCast]at h3⊢;have hno:(j:Int)∉b k:=fun hm=>h3 (eI.2 hm)
  have hnd:(b k++[(j:Int)]).Nodup:=by
   rw[List.nodup_append];exact⟨h.nd k hk,by simp,fun x hx y hy=>by rw[List.mem_singleton]at hy;subst hy;exact fun e=>hno (e▸hx)⟩
  have hall:∀x∈b k++[(j:Int)],0≤x∧x<(4:Nat):=fun x hx=>by
   rcases List.mem_append.1 hx with hx|hx
   ·exact(h.ok k hk).2 x hx
   ·rw[List.mem_singleton]at hx;subst hx;omega
  have hu:∀i,aq b k (b k++[(j:Int)]) i=if i=k then b k++[(j:Int)]else b i:=fun i=>by
   unfold aq;by_cases e:i=k
   ·subst e;rw[Nat.beq_refl,if_pos rfl];rfl
   ·rw[if_neg e]
    have:Nat.beq i k=false:=by
     cases hbq:Nat.beq i k with
     |false=>rfl
     |true=>exact absurd (Nat.eq_of_beq_eq_true hbq) e
    rw[this];rfl
  refine⟨fun i hi=>?_,fun i hi=>?_⟩
  ·rw[hu];split
   ·exact⟨gG 4 hnd hall,hall⟩
   ·exact h.ok i hi
  ·rw[hu];split
   ·exact hnd
   ·exact h.nd i hi
set_option maxHeartbeats 4000000 in
theorem AX(L:List Ob)(o:Nat→List Bool)(b:Nat→List Int)(hb4:gM b)(r q:Int):ae Tryz.prog 64 [.c (.ptr 0 0),.c (.int .i64 r),.c (.int .i64 q)] [.box [.ptr 1 0,.rw 3,.rw 4,.rw 5,.rw 6,.rw 7,.rw 8,.rw 9,.rw 10],.box [.rw 2],.row 6 Ob an L,.row 1 Bool af (o 0),.row 1 Bool af (o 1),.row 1 Bool af (o 2),.row 1 Bool af (o 3),.row 1 Int encI (b 0),.row 1 Int encI (b 1),.row 1 Int encI (b 2),.row 1 Int encI (b 3)] (Rt (.c (.int .i64 (dD b r q))) [.box [.ptr 1 0,.rw 3,.rw 4,.rw 5,.rw 6,.rw 11,.rw 12,.rw 13,.rw 14],.box [.rw 2],.row 6 Ob an L,.row 1 Bool af (o 0),.row 1 Bool af (o 1),.row 1 Bool af (o 2),.row 1 Bool af (o 3),.dead,.dead,.dead,.dead,.row 1 Int encI ((cJ b r q) 0),.row 1 Int encI ((cJ b r q) 1),.row 1 Int encI ((cJ b r q) 2),.row 1 Int encI ((cJ b r q) 3)]):=by
 have p1:=lK r;have p2:=lK q;refine ao (n:=45) (n0:=11) tabOk Tryz.call64 Tryz.func64 ?_;intro hb;cases hr:bh r with
 |false=>
  rw[hr]at p1;have e:dD b r q=1:=by unfold dD;rw[hr];rfl
  rw[show cJ b r q=b by unfold cJ;rw[e];rfl,e];(conv=>whnf);refine cl [] [] (p1) ?_;(conv=>whnf);exact rx [] [.same 0,.same 1,.same 2,.same 3,.same 4,.same 5,.same 6,.same 7,.same 8,.same 9,.same 10,.same 7,.same 8,.same 9,.same 10]
 |true=>
  rw[hr]at p1;cases hq:bh q with
  |false=>
   rw[hq]at p2;have e:dD b r q=1:=by unfold dD;rw[hr,hq];rfl
   rw[show cJ b r q=b by unfold cJ;rw[e];rfl,e];(conv=>whnf);refine cl [] [] (p1) ?_;(conv=>whnf);refine cl [] [] (p2) ?_;(conv=>whnf);exact rx [] [.same 0,.same 1,.same 2,.same 3,.same 4,.same 5,.same 6,.same 7,.same 8,.same 9,.same 10,.same 7,.same 8,.same 9,.same 10]
  |true=>
   rw[hq]at p2;have e1:dD b r q=if cS (cD b q) r=true then 10 else if cS (b r.toNat) q=true then 11 else 0:=by unfold dD;rw[hr,hq];rfl
   (conv=>whnf);refine cl [] [] (p1) ?_;(conv=>whnf);refine cl [] [] (p2) ?_;(conv=>whnf);refine cl [] [] (tq L o b hb4 q hq) ?_;(conv=>whnf);refine cl [] [] (fl (cD b q) r) ?_;(conv=>whnf);refine aO (fun h1=>?_) (fun h1=>?_)
   ·have e:dD b r q=10:=by rw[e1];exact if_pos h1
    rw[show cJ b r q=b by unfold cJ;rw[e];rfl,e];(conv=>whnf);exact rx [] [.same 0,.same 1,.same 2,.same 3,.same 4,.same 5,.same 6,.same 7,.same 8,.same 9,.same 10,.same 7,.same 8,.same 9,.same 10]
   ·have h1:cS (cD b q) r=false:=h1;have e2:dD b r q=if cS (b r.toNat) q=true then 11 else 0:=by rw[e1];exact if_neg (by rw[h1];decide)
    obtain⟨k,hk,rfl⟩:=b5.1 hr;rcases four hk with rfl|rfl|rfl|rfl
    ·(conv=>whnf);refine⟨0,⟨rfl,by decide⟩,?_⟩;(conv=>whnf);refine cl [] [] (fl (b 0) q) ?_;(conv=>whnf);refine aO (fun h2=>?_) (fun h2=>?_)
     ·have e:dD b (0:Nat) q=11:=by rw[e2];exact if_pos h2
      rw[show cJ b (0:Nat) q=b by unfold cJ;rw[e];rfl,e];(conv=>whnf);exact rx [] [.same 0,.same 1,.same 2,.same 3,.same 4,.same 5,.same 6,.same 7,.same 8,.same 9,.same 10,.same 7,.same 8,.same 9,.same 10]
     ·have h2:cS (b 0) q=false:=h2;have hl4:=(hb4 0 (by decide)).1;have e:dD b (0:Nat) q=0:=by rw[e2];exact if_neg (by show¬cS (b 0) q=true;rw[h2];decide)
      rw[show cJ b (0:Nat) q=aq b 0 (b 0++[q])by unfold cJ;rw[e];rfl,e];(conv=>whnf);refine⟨false,.grow,(.l [0,1,2,3,4,5,6,7,8,11,12,9,10,13,14]),by kernel_rfl,.inl ?_⟩;(conv=>whnf);refine⟨0,⟨rfl,by decide⟩,?_⟩;(conv=>whnf);refine⟨[q],rfl,?_⟩;(conv=>whnf);refine⟨_,_,rfl,rfl,(by simp only[List.length_append,List.length_cons,List.length_nil];omega),?_⟩;(conv=>whnf);refine⟨0,⟨rfl,by decide⟩,?_⟩;(conv=>whnf);exact rx [] [.same 0,.same 1,.same 2,.same 3,.same 4,.same 5,.same 6,.same 7,.same 8,.same 9,.same 10,.same 13,.same 8,.same 9,.same 10]
    ·(conv=>whnf);refine⟨1,⟨rfl,by decide⟩,?_⟩;(conv=>whnf);refine cl [] [] (fl (b 1) q) ?_;(conv=>whnf);refine aO (fun h2=>?_) (fun h2=>?_)
     ·have e:dD b (1:Nat) q=11:=by rw[e2];exact if_pos h2
      rw[show cJ b (1:Nat) q=b by unfold cJ;rw[e];rfl,e];(conv=>whnf);exact rx [] [.same 0,.same 1,.same 2,.same 3,.same 4,.same 5,.same 6,.same 7,.same 8,.same 9,.same 10,.same 7,.same 8,.same 9,.same 10]
     ·have h2:cS (b 1) q=false:=h2;have hl4:=(hb4 1 (by decide)).1;have e:dD b (1:Nat) q=0:=by rw[e2];exact if_neg (by show¬cS (b 1) q=true;rw[h2];decide)
      rw[show cJ b (1:Nat) q=aq b 1 (b 1++[q])by unfold cJ;rw[e];rfl,e];(conv=>whnf);refine⟨false,.grow,(.l [0,1,2,3,4,5,6,7,8,11,12,9,10,13,14]),by kernel_rfl,.inl ?_⟩;(conv=>whnf);refine⟨1,⟨rfl,by decide⟩,?_⟩;(conv=>whnf);refine⟨[q],rfl,?_⟩;(conv=>whnf);refine⟨_,_,rfl,rfl,(by simp only[List.length_append,List.length_cons,List.length_nil];omega),?_⟩;(conv=>whnf);refine⟨1,⟨rfl,by decide⟩,?_⟩;(conv=>whnf);exact rx [] [.same 0,.same 1,.same 2,.same 3,.same 4,.same 5,.same 6,.same 7,.same 8,.same 9,.same 10,.same 7,.same 13,.same 9,.same 10]
    ·(conv=>whnf);refine⟨2,⟨rfl,by decide⟩,?_⟩;(conv=>whnf);refine cl [] [] (fl (b 2) q) ?_;(conv=>whnf);refine aO (fun h2=>?_) (fun h2=>?_)
     ·have e:dD b (2:Nat) q=11:=by rw[e2];exact if_pos h2
      rw[show cJ b (2:Nat) q=b by unfold cJ;rw[e];rfl,e];(conv=>whnf);exact rx [] [.same 0,.same 1,.same 2,.same 3,.same 4,.same 5,.same 6,.same 7,.same 8,.same 9,.same 10,.same 7,.same 8,.same 9,.same 10]
     ·have h2:cS (b 2) q=false:=h2;have hl4:=(hb4 2 (by decide)).1;have e:dD b (2:Nat) q=0:=by rw[e2];exact if_neg (by show¬cS (b 2) q=true;rw[h2];decide)
      rw[show cJ b (2:Nat) q=aq b 2 (b 2++[q])by unfold cJ;rw[e];rfl,e];(conv=>whnf);refine⟨false,.grow,(.l [0,1,2,3,4,5,6,7,8,11,12,9,10,13,14]),by kernel_rfl,.inl ?_⟩;(conv=>whnf);refine⟨2,⟨rfl,by decide⟩,?_⟩;(conv=>whnf);refine⟨[q],rfl,?_⟩;(conv=>whnf);refine⟨_,_,rfl,rfl,(by simp only[List.length_append,List.length_cons,List.length_nil];omega),?_⟩;(conv=>whnf);refine⟨2,⟨rfl,by decide⟩,?_⟩;(conv=>whnf);exact rx [] [.same 0,.same 1,.same 2,.same 3,.same 4,.same 5,.same 6,.same 7,.same 8,.same 9,.same 10,.same 7,.same 8,.same 13,.same 10]
    ·(conv=>whnf);refine⟨3,⟨rfl,by decide⟩,?_⟩;(conv=>whnf);refine cl [] [] (fl (b 3) q) ?_;(conv=>whnf);refine aO (fun h2=>?_) (fun h2=>?_)
     ·have e:dD b (3:Nat) q=11:=by rw[e2];exact if_pos h2
      rw[show cJ b (3:Nat) q=b by unfold cJ;rw[e];rfl,e];(conv=>whnf);exact rx [] [.same 0,.same 1,.same 2,.same 3,.same 4,.same 5,.same 6,.same 7,.same 8,.same 9,.same 10,.same 7,.same 8,.same 9,.same 10]
     ·have h2:cS (b 3) q=false:=h2;have hl4:=(hb4 3 (by decide)).1;have e:dD b (3:Nat) q=0:=by rw[e2];exact if_neg (by show¬cS (b 3) q=true;rw[h2];decide)
      rw[show cJ b (3:Nat) q=aq b 3 (b 3++[q])by unfold cJ;rw[e];rfl,e];(conv=>whnf);refine⟨false,.grow,(.l [0,1,2,3,4,5,6,7,8,11,12,9,10,13,14]),by kernel_rfl,.inl ?_⟩;(conv=>whnf);refine⟨3,⟨rfl,by decide⟩,?_⟩;(conv=>whnf);refine⟨[q],rfl,?_⟩;(conv=>whnf);refine⟨_,_,rfl,rfl,(by simp only[List.length_append,List.length_cons,List.length_nil];omega),?_⟩;(conv=>whnf);refine⟨3,⟨rfl,by decide⟩,?_⟩;(conv=>whnf);exact rx [] [.same 0,.same 1,.same 2,.same 3,.same 4,.same 5,.same 6,.same 7,.same 8,.same 9,.same 10,.same 7,.same 8,.same 9,.same 13]
end Go.Nest
end
section
namespace Go.Nest
open Go Go.AM Go.Proofs
open Go.Proofs.YtpechfcbnoggfaaGreatDoor (tab tabOk)
set_option maxRecDepth 4000
noncomputable def jQ(L:List Ob)(d:Dp)(q id:Int):Bool:=((ba L [id]).any fun k=> !di d q k)||decide ((ba L [id]).length=0)
noncomputable def dp(L:List Ob)(d:Dp)(r q id:Int):Int:=if bh r=false∨bh q=false then 1 else if jQ L d q id=true then 14 else cI L r [id]
noncomputable def cq(L:List Ob)(o:Nat→List Bool)(b:Nat→List Int)(r q id:Int):Nat→List Bool:=if bh r=false∨bh q=false then o else if jQ L ⟨o,b⟩ q id=true then o else dn L o b r [id]
theorem Cr(L:List Ob)(o:Nat→List Bool)(b:Nat→List Int)(hb4:gM b)(q x:Int):ae Tryz.prog 217 [.c (.int .i64 x),.c (.bp [.bp [.bp [.bs 6 Ob an L],.bs 1 Bool af (o 0),.bs 1 Bool af (o 1),.bs 1 Bool af (o 2),.bs 1 Bool af (o 3),.bs 1 Int encI (b 0),.bs 1 Int encI (b 1),.bs 1 Int encI (b 2),.bs 1 Int encI (b 3)]]),.c (.bp [.int .i64 q])] [] (Rt (.c (.bool (!di ⟨o,b⟩ q x))) []):=by
 refine ao (n:=10) (n0:=0) tabOk Tryz.call217 Tryz.func217 ?_;intro hb;(conv=>whnf);refine cl [] [] (nU L o b hb4 q x) ?_;(conv=>whnf);exact aC rfl
set_option maxHeartbeats 4000000 in
theorem Cs(L:List Ob)(hL:aj L)(o:Nat→List Bool)(b:Nat→List Int)(hb4:gM b)(ho:∀k,k<4→(o k).length≤1000000)(r q id:Int):ae Tryz.prog 133 [.c (.ptr 0 0),.c (.int .i64 r),.c (.int .i64 q),.c (.int .i64 id)] [.box [.ptr 1 0,.rw 3,.rw 4,.rw 5,.rw 6,.rw 7,.rw 8,.rw 9,.rw 10],.box [.rw 2],.row 6 Ob an L,.row 1 Bool af (o 0),.row 1 Bool af (o 1),.row 1 Bool af (o 2),.row 1 Bool af (o 3),.row 1 Int encI (b 0),.row 1 Int encI (b 1),.row 1 Int encI (b 2),.row 1 Int encI (b 3)] (Rt (.c (.int .i64 (dp L ⟨o,b⟩ r q id))) [.box [.ptr 1 0,.rw 11,.rw 12,.rw 13,.rw 14,.rw 7,.rw 8,.rw 9,.rw 10],.box [.rw 2],.row 6 Ob an L,.dead,.dead,.dead,.dead,.row 1 Int encI (b 0),.row 1 Int encI (b 1),.row 1 Int encI (b 2),.row 1 Int encI (b 3),.row 1 Bool af ((cq L o b r q id) 0),.row 1 Bool af ((cq L o b r q id) 1),.row 1 Bool af ((cq L o b r q id) 2),.row 1 Bool af ((cq L o b r q id) 3)]):=by
 have p1:=lK r;have p2:=lK q;refine ao (n:=44) (n0:=11) tabOk Tryz.call133 Tryz.func133 ?_;intro hb;cases hr:bh r with
 |false=>
  rw[hr]at p1;rw[show dp L ⟨o,b⟩ r q id=1 by unfold dp;rw[hr];rfl,show cq L o b r q id=o by unfold cq;rw[hr];rfl];(conv=>whnf);refine cl [] [] (p1) ?_;(conv=>whnf);exact rx [] [.same 0,.same 1,.same 2,.same 3,.same 4,.same 5,.same 6,.same 7,.same 8,.same 9,.same 10,.same 3,.same 4,.same 5,.same 6]
 |true=>
  rw[hr]at p1;cases hq:bh q with
  |false=>
   rw[hq]at p2;rw[show dp L ⟨o,b⟩ r q id=1 by unfold dp;rw[hr,hq];rfl,show cq L o b r q id=o by unfold cq;rw[hr,hq];rfl];(conv=>whnf);refine cl [] [] (p1) ?_;(conv=>whnf);refine cl [] [] (p2) ?_;(conv=>whnf);exact rx [] [.same 0,.same 1,.same 2,.same 3,.same 4,.same 5,.same 6,.same 7,.same 8,.same 9,.same 10,.same 3,.same 4,.same 5,.same 6]
  |true=>
   rw[hq]at p2;have e1:dp L ⟨o,b⟩ r q id=if jQ L ⟨o,b⟩ q id=true then 14 else cI L r [id]:=by unfold dp;rw[hr,hq];rfl
   have e2:cq L o b r q id=if jQ L ⟨o,b⟩ q id=true then o else dn L o b r [id]:=by unfold cq;rw[hr,hq];rfl
   have p3:=mR L hL [id] (by simp);have p5:=ru L hL o b hb4 ho r [id] (by simp);have p4:=fun l=>wh 217 L o b q (fun x=> !di ⟨o,b⟩ q x) (Cr L o b hb4 q) l;have el:jQ L ⟨o,b⟩ q id=(((ba L [id]).any fun k=> !di ⟨o,b⟩ q k)||decide ((ba L [id]).length=0)):=rfl;generalize ba L [id]=rl at p3 el;have p4:=p4 rl;generalize (rl.any fun k=> !di ⟨o,b⟩ q k)=a at p4 el;generalize jQ L ⟨o,b⟩ q id=lo at el e1 e2;generalize dp L ⟨o,b⟩ r q id=C at*;generalize cq L o b r q id=O at*;(conv=>whnf);refine cl [] [] (p1) ?_;(conv=>whnf);refine cl [] [] (p2) ?_;(conv=>whnf);refine⟨[id],rfl,?_⟩;(conv=>whnf);refine cl [] [] (p3) ?_;(conv=>whnf);refine cl [] [] (p4) ?_;(conv=>whnf);refine aO (fun h1=>?_) (fun h1=>?_)
   ·have h1:a=true:=h1;rw[h1]at el;rw[el]at e1 e2;obtain rfl:C=14:=e1;obtain rfl:O=o:=e2;(conv=>whnf);exact rx [] [.same 0,.same 1,.same 2,.same 3,.same 4,.same 5,.same 6,.same 7,.same 8,.same 9,.same 10,.same 3,.same 4,.same 5,.same 6]
   ·have h1:a=false:=h1;rw[h1,Bool.false_or]at el;(conv=>whnf);refine⟨[id],rfl,?_⟩;(conv=>whnf);refine cl [] [] (p3) ?_;(conv=>whnf);refine dec (fun h2=>?_) (fun h2=>?_)
    ·have h2:(rl.length:Int)=0:=h2;rw[decide_eq_true (by omega)]at el;rw[el]at e1 e2;obtain rfl:C=14:=e1;obtain rfl:O=o:=e2;(conv=>whnf);exact rx [] [.same 0,.same 1,.same 2,.same 3,.same 4,.same 5,.same 6,.same 7,.same 8,.same 9,.same 10,.same 3,.same 4,.same 5,.same 6]
    ·have h2:¬(rl.length:Int)=0:=h2;rw[decide_eq_false (by omega)]at el;rw[el]at e1 e2;obtain rfl:C=cI L r [id]:=e1;obtain rfl:O=dn L o b r [id]:=e2;(conv=>whnf);refine⟨[id],rfl,?_⟩;(conv=>whnf);refine cl [] [0,1,2,3,4,5,6,7,8,9,10] (p5) ?_;(conv=>whnf);exact rx [] [.same 0,.same 1,.same 2,.same 3,.same 4,.same 5,.same 6,.same 7,.same 8,.same 9,.same 10,.same 18,.same 19,.same 20,.same 21]
end Go.Nest
end
section
namespace Go.Nest
open Go Go.AM
theorem tS{o:Nat→List Bool}{k:Nat}{z:Int}(hk:k<4):ew o k z=true↔0≤z∧(o k)[z.toNat]? =some true:=by
 rw[ow hk,Bool.and_eq_true,Bool.and_eq_true,decide_eq_true_iff,decide_eq_true_iff];constructor
 ·rintro⟨h1,h2,h3⟩;refine⟨h1,?_⟩;cases e:(o k)[z.toNat]? with
  |none=>rw[e]at h3;cases h3
  |some v=>rw[e]at h3;rw[show v=true from h3]
 ·rintro⟨h1,h2⟩;have:=(List.getElem?_eq_some_iff.1 h2).1;exact⟨h1,by omega,by rw[h2];rfl⟩
theorem FA{L:List Ob}(hL:aj L){id:Int}:(ba L [id]).length=0↔kindOf L id=0:=by
 constructor
 ·intro h;refine Decidable.byContradiction fun hk=>?_;have:id∈ba L [id]:=(kH hL).2 (.base (by simp) hk);rw[List.eq_nil_of_length_eq_zero h]at this;cases this
 ·intro h
  have:ba L [id]=[]:=List.eq_nil_iff_forall_not_mem.2 fun x hx=>by
   have hl:=(kH hL).1 hx;clear hx;induction hl with
   |base h1 h2=>rw[List.mem_singleton]at h1;subst h1;exact h2 h
   |step _ _ ih=>exact ih
  rw[this];rfl
end Go.Nest
end
section
namespace Go.Nest
open Go Go.AM Go.Proofs
open Go.Proofs.YtpechfcbnoggfaaGreatDoor (tab tabOk)
set_option maxRecDepth 4000
def ke(im:List (List Int)):Prop:=∀k,(cz im k).length≤600
theorem ke.put{im:List (List Int)}(h:ke im){n:Nat}{v:List Int}(hv:v.length≤600):ke (im.set n v):=fun k=>by
 have:=h k;unfold cz at this⊢;rw[List.getElem?_set];split
 ·split
  ·exact hv
  ·exact Nat.zero_le _
 ·exact this
theorem ke.start{n:Nat}:ke (List.replicate n []):=fun k=>by
 unfold cz;rw[List.getElem?_replicate];split<;>exact Nat.zero_le _
theorem Dj {M : List Ob} (hM : aj M) {im : List (List Int)} (hl : ke im) (h : cV (fun x => kindOf M x = 3) im) : Fit im := ⟨hl,fun k x hx=>by
 have h1:=h k x hx;have h2:=c9 (l:=M) (id:=x) (by omega);have:=hM.len;omega⟩
theorem Df{L:List Ob}{dir:List UInt8}{up:List Int}{o:Ob}(h:up.length≤600):(bN L dir up o).1.length≤600:=by
 unfold bN;split
 ·exact h
 split
 ·exact Nat.zero_le _
 split
 ·exact h
 ·show 1≤600;decide
theorem Gw(dir:List UInt8)(id:Int)(r:List Int)(L:List Ob)(im:List (List Int)):bF dir (id::r) L im=if(dN L dir im id).2.1≠0 then((dN L dir im id).2.1,(dN L dir im id).2.2,im)else bF dir r (dN L dir im id).2.2 (im.set id.toNat (dN L dir im id).1):=rfl
theorem Gx(dir:List UInt8)(L:List Ob)(im:List (List Int)):bF dir [] L im=(0,L,im):=rfl
structure Ar(L:List Ob)(dir:List UInt8)(line:List Int)(i:Nat)(M:List Ob)(im:List (List Int)):Prop where
 le:i≤line.length
 ok:aj M
 pre:L<+:M
 imp:cV (fun x=>kindOf M x=3) im
 len:im.length=L.length
 fit:ke im
 eq:bF dir line L (List.replicate L.length [])=bF dir (line.drop i) M im
set_option maxHeartbeats 1000000 in
theorem GF(L:List Ob)(hL:aj L)(id:Int)(dir:List UInt8)(hd:dir.length≤4000000):ae Tryz.prog 135 [.c (.ptr 0 0),.c (.int .i64 id),.c (.str dir)] [.box [.rw 1],.row 6 Ob an L] (Rt (.tup [(false,[.int .i64 (bT L id dir).1]),(false,[.int .i64 (bT L id dir).2.1])]) [.box [.rw 2],.dead,.row 6 Ob an (bT L id dir).2.2]):=by
 refine ao (n:=76) (n0:=2) tabOk Tryz.call135 Tryz.func135 ?_;intro hb;have hlen:=hL.len;have ha:=o8 L hL id;(conv=>whnf);refine cl [] [] (ha) ?_;by_cases hk:kindOf L id=3
 ·have e0:b7 L id=(aX L id,0):=if_pos hk;have hkl:ie L (aX L id):=fun y hy=>((kG hL hk).1 hy).kind hL hk;have hlc:(aX L id).length≤L.length:=o6
  have hF:bT L id dir=if(bF dir (aX L id) L (List.replicate L.length [])).1≠0 then(0,(bF dir (aX L id) L (List.replicate L.length [])).1,(bF dir (aX L id) L (List.replicate L.length [])).2.1)else
    ((jU (cz (bF dir (aX L id) L (List.replicate L.length [])).2.2 id)).1,(jU (cz (bF dir (aX L id) L (List.replicate L.length [])).2.2 id)).2,(bF dir (aX L id) L (List.replicate L.length [])).2.1):=by
   unfold bT;rw[e0,if_neg (by simp)]
  have hid:=(c9 (l:=L) (id:=id) (by omega));rw[e0];generalize aX L id=line at*;generalize bT L id dir=RR at*;(conv=>whnf);refine cl [] [] (mH L) ?_;(conv=>whnf);refine⟨L.length,[],⟨rfl,rfl⟩,rfl,(show L.length*24≤140737488355328 by omega),?_⟩;(conv=>whnf);refine lp (Nat×List Ob×List (List Int)) (fun p=>⟨[(0,.c (.ptr 0 0)),(1,.c (.int .i64 id)),(10,.c (.ptr 5 0)),(32,.c (.rw 3)),(33,.c (.int .i64 line.length)),(34,.c (.int .i64 p.1))],[.box [.rw 2],.dead,.row 6 Ob an p.2.1,.row 1 Int encI line,.row 1 (List Int) (bq 1 encI) p.2.2,.box [.ptr 0 0,.str dir,.rw 4]]⟩) (fun p=>Ar L dir line p.1 p.2.1 p.2.2∧True) (fun p=>line.length-p.1) (0,L,List.replicate L.length []) [] [.same 0,.same 1,.same 1,.same 2,.same 3,.same 4] ?_ ?_ (fun⟨i,M,im⟩ hi=>?_)
  ·exact⟨⟨Nat.zero_le _,hL,List.prefix_refl _,cV.start,List.length_replicate,ke.start,rfl⟩,trivial⟩
  ·repeat' first|exact trivial|exact rfl|refine And.intro ?_ ?_
  obtain⟨⟨hi,hM,hx,him,hml,hfl,heq⟩,-⟩:=hi;dsimp only at hi hM hx him hml hfl heq;(conv=>whnf);refine dec (fun h4=>?_) (fun h4=>?_)
  ·have hlt:i<line.length:=by have h4:(i:Int)<line.length:=h4;omega
   have hiy:line[i]? =some line[i]:=List.getElem?_eq_getElem hlt;have hkx:=hkl _ (List.getElem_mem hlt);rw[List.drop_eq_getElem_cons hlt]at heq;have hpx:=c9 (l:=L) (id:=line[i]) (by omega);generalize line[i]=x at*;have hkM:kindOf M x=3:=by rw[dE hx (by omega)];exact hkx
   have hpar:∀k∈(ai M x).parents,0≤k∧k.toNat<im.length:=fun k hk=>by
    rw[ext_get hx (by omega)]at hk;have:=qB hL hk;rw[hml];exact⟨this.1,this.2.2⟩
   have hft:=Dj hM hfl him;have hpl:=(hM.get (id:=x) (by omega)).parents;have p1:=Di M hM dir hd im (ai M x) hpl hpar hft;have q5:=Df (L:=M) (dir:=dir) (o:=ai M x) (qX hft (ai M x).parents).2.1;obtain⟨q1,q2,q3⟩:=lr hM (dir:=dir) (up:=cB im (ai M x).parents) (o:=ai M x);have q4:=sX hM (dir:=dir) (up:=cB im (ai M x).parents) (o:=ai M x) him.up;have es:dN M dir im x=bN M dir (cB im (ai M x).parents) (ai M x):=rfl;rw[Gw,es]at heq;generalize bN M dir (cB im (ai M x).parents) (ai M x)=R at*;obtain⟨v,c,M'⟩:=R;dsimp only at p1 q1 q2 q3 q4 q5 heq;have hxi:im[x.toNat]? =some im[x.toNat]:=List.getElem?_eq_getElem (by omega);(conv=>whnf);refine⟨i,⟨rfl,hlt⟩,?_⟩;(conv=>whnf);refine⟨x,hiy,?_⟩;(conv=>whnf);refine cl [] [] (fJ M hM x) ?_;(conv=>whnf);refine⟨true,.any,(.alt [0,1,2,4,5] [3,6] fun j=>bif Nat.beq j 3 then(.l [6,7,8,9,10,11,12,13])else bif Nat.beq j 6 then(.alt [] [3,7] fun j=>bif Nat.beq j 3 then(.l [7,8,9,10,11,12,13])else bif Nat.beq j 7 then(.l [8,9,10,3,11,12,13])else .l [])else .l []),by kernel_rfl,.inl ?_⟩;(conv=>whnf);refine And.intro ?_ ?_
   ·(conv=>whnf);refine cl [] [5,0,2,4] (p1) ?_;(conv=>whnf);refine⟨x.toNat,⟨by omega,by omega⟩,?_⟩;(conv=>whnf);refine⟨_,v,hxi,⟨Nat.le_refl 1,rfl⟩,?_⟩;(conv=>whnf);refine av (fun h5=>?_) (fun h5=>?_)
    ·rw[if_pos h5]at heq;rw[heq,if_pos h5]at hF;subst hF;(conv=>whnf);exact rx [] [.same 0,.same 1,.same 7]
    ·rw[if_neg (fun h=>h h5)]at heq;repeat'((conv=>whnf);refine I6 ?_)
     refine ag (i+1,M',im.set x.toNat v) [] [.same 0,.same 1,.same 7,.same 3,.same 4,.same 5] ⟨⟨hlt,q1,hx.trans q2,cV.put (him.mono fun y hy=>by rw[dE q2 (by omega)];exact hy) (q4 h5),by rw[List.length_set];exact hml,hfl.put q5,heq⟩,trivial⟩ (by simp only[];omega) ?_;repeat' first|exact trivial|exact rfl|refine And.intro ?_ ?_
   (conv=>whnf);refine And.intro ?_ ?_
   ·(conv=>whnf);refine cl [] [5,0,2,4] (p1) ?_;(conv=>whnf);refine⟨x.toNat,⟨by omega,by omega⟩,?_⟩;(conv=>whnf);refine⟨_,v,hxi,⟨Nat.le_refl 1,rfl⟩,?_⟩;(conv=>whnf);refine av (fun h5=>?_) (fun h5=>?_)
    ·rw[if_pos h5]at heq;rw[heq,if_pos h5]at hF;subst hF;(conv=>whnf);exact rx [] [.same 0,.same 1,.same 7]
    ·rw[if_neg (fun h=>h h5)]at heq;repeat'((conv=>whnf);refine I6 ?_)
     refine ag (i+1,M',im.set x.toNat v) [] [.same 0,.same 1,.same 7,.same 3,.same 4,.same 5] ⟨⟨hlt,q1,hx.trans q2,cV.put (him.mono fun y hy=>by rw[dE q2 (by omega)];exact hy) (q4 h5),by rw[List.length_set];exact hml,hfl.put q5,heq⟩,trivial⟩ (by simp only[];omega) ?_;repeat' first|exact trivial|exact rfl|refine And.intro ?_ ?_
   ·(conv=>whnf);refine cl [] [5,0,2,4] (p1) ?_;(conv=>whnf);refine⟨x.toNat,⟨by omega,by omega⟩,?_⟩;(conv=>whnf);refine⟨_,v,hxi,⟨Nat.le_refl 1,rfl⟩,?_⟩;(conv=>whnf);refine av (fun h5=>?_) (fun h5=>?_)
    ·rw[if_pos h5]at heq;rw[heq,if_pos h5]at hF;subst hF;(conv=>whnf);exact rx [] [.same 0,.same 1,.same 7]
    ·rw[if_neg (fun h=>h h5)]at heq;repeat'((conv=>whnf);refine I6 ?_)
     refine ag (i+1,M',im.set x.toNat v) [] [.same 0,.same 1,.same 7,.same 3,.same 4,.same 5] ⟨⟨hlt,q1,hx.trans q2,cV.put (him.mono fun y hy=>by rw[dE q2 (by omega)];exact hy) (q4 h5),by rw[List.length_set];exact hml,hfl.put q5,heq⟩,trivial⟩ (by simp only[];omega) ?_;repeat' first|exact trivial|exact rfl|refine And.intro ?_ ?_
  ·obtain rfl:i=line.length:=by have h4:¬(i:Int)<line.length:=h4;omega
   rw[List.drop_length]at heq;rw[heq,Gx]at hF;rw[if_neg (by simp)]at hF;dsimp only at hF;have hidl:id.toNat<im.length:=by omega
   have hxi:im[id.toNat]? =some im[id.toNat]:=List.getElem?_eq_getElem hidl;have hia:cz im id=im[id.toNat]:=by unfold cz;rw[hxi];rfl
   rw[hia]at hF;generalize im[id.toNat]=out at*;(conv=>whnf);refine⟨id.toNat,⟨by omega,hidl⟩,?_⟩;(conv=>whnf);refine⟨out,hxi,?_⟩;(conv=>whnf);refine dec (fun h5=>?_) (fun h5=>?_)
   ·have h5:(out.length:Int)=0:=h5;rw[show jU out=(0,9)from if_pos (by omega)]at hF;subst hF;(conv=>whnf);exact rx [] [.same 0,.same 1,.same 2]
   have h5:¬(out.length:Int)=0:=h5;(conv=>whnf);refine dec (fun h6=>?_) (fun h6=>?_)
   ·have h6:(out.length:Int)=1:=h6;obtain⟨y,rfl⟩:=List.length_eq_one_iff.1 (show out.length=1 by omega);rw[show jU [y]=(y,0)from rfl]at hF;subst hF;(conv=>whnf);refine⟨0,y,rfl,rfl,?_⟩;(conv=>whnf);exact rx [] [.same 0,.same 1,.same 2]
   ·have h6:¬(out.length:Int)=1:=h6;rw[show jU out=(0,5)from(if_neg (by omega)).trans (if_neg (by omega))]at hF;subst hF;(conv=>whnf);exact rx [] [.same 0,.same 1,.same 2]
 ·have e0:b7 L id=([],9):=if_neg hk;have hF:bT L id dir=(0,9,L):=by unfold bT;rw[e0];rfl
  rw[hF,e0];(conv=>whnf);exact rx [] [.same 0,.same 1,.same 1]
end Go.Nest
end
