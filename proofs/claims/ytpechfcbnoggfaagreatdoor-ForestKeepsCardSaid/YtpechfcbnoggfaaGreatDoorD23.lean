/- part -/
import Derived.Test.YtpechfcbnoggfaaGreatDoorD10
import Derived.Test.YtpechfcbnoggfaaGreatDoorW1
import Derived.Test.YtpechfcbnoggfaaGreatDoorAmH
import Derived.Test.YtpechfcbnoggfaaGreatDoorU6
import Derived.Test.YtpechfcbnoggfaaGreatDoorQ3
import Derived.Test.YtpechfcbnoggfaaGreatDoorP9
set_option linter.unusedVariables false
set_option linter.unusedSimpArgs false
section
namespace Go.Nest
open Go Go.AM
theorem ig{α:Type}{o:Nat→α}{k j:Nat}{v:α}(h:j≠k):ay o k v j=o j:=by
 unfold ay
 have:Nat.beq j k=false:=by
  cases a:Nat.beq j k with
  |false=>rfl
  |true=>exact absurd (Nat.eq_of_beq_eq_true a) h
 rw[this];rfl
def n0(r0:Nat→List Int):Nat→Nat:=fun r=>(r0 r).length
theorem Aa:∀{a b:List Int},a.Nodup→(∀x∈a,x∈b)→a.length≤b.length
 |[],b,_,_=>Nat.zero_le _
 |x::a,b,h,d=>by
  rw[List.nodup_cons]at h;have f:=d x (by simp)
  have i := Aa (b := b.erase x) h.2 (fun y g=>by
   have c:y≠x:=fun e=>by subst e;exact h.1 g
   exact(List.mem_erase_of_ne c).2 (d y (by simp[g])))
  rw[List.length_erase_of_mem f]at i;have j:=List.length_pos_of_mem f;rw[List.length_cons];omega
theorem fI.found{L:List Ob}(g:ai L){r0:Nat→List Int}{s:RS}(h:fI L r0 s){r:Nat}(hr:r<4)(m:Bool):
  fI L r0 ⟨s.ro,ay s.out r (aN L (s.ro r)),m⟩∧eS L (n0 r0) ⟨s.ro,ay s.out r (aN L (s.ro r)),m⟩≤eS L (n0 r0) s∧((s.out r).length<(aN L (s.ro r)).length→eS L (n0 r0) ⟨s.ro,ay s.out r (aN L (s.ro r)),m⟩<eS L (n0 r0) s):=by
 have c:(s.out r).length≤(aN L (s.ro r)).length:=Aa (h.onod r hr) (h.out r hr);have d:=mK (l:=L) (ids:=s.ro r);have e:=I7 (f:=fun l:List Int=>L.length-l.length) (o:=s.out) hr (v:=aN L (s.ro r));refine⟨⟨h.sub,h.nd,h.ext,fun j b k a=>?_,fun j b=>?_⟩,?_,fun i=>?_⟩
 ·by_cases e:j=r
  ·subst e;have a:k∈ay s.out j (aN L (s.ro j)) j:=a;rwa[fB]at a
  ·have a:k∈ay s.out r (aN L (s.ro r)) j:=a;rw[ig e]at a;exact h.out j b k a
 ·show(ay s.out r (aN L (s.ro r)) j).Nodup;by_cases e:j=r
  ·subst e;rw[fB];exact rS.imp fun h=>by omega
  ·rw[ig e];exact h.onod j b
 ·unfold eS;dsimp only at e⊢;omega
 ·unfold eS;dsimp only at e⊢;omega
theorem fI.root{L:List Ob}(o:ai L){r0:Nat→List Int}{s:RS}(h:fI L r0 s){q:Nat}(hq:q<4){x:Int}(l:x∉s.ro q)(z:∀k,bO L [x] k→Nd L r0 q k)(m:0≤x∧x<(600:Nat)):
  fI L r0 ⟨ay s.ro q (s.ro q++[x]),s.out,true⟩∧eS L (n0 r0) ⟨ay s.ro q (s.ro q++[x]),s.out,true⟩<eS L (n0 r0) s:=by
 have f:∀j y,y∈s.ro j→y∈ay s.ro q (s.ro q++[x]) j:=fun j y hy=>by
  by_cases e:j=q
  ·subst e;rw[fB];exact List.mem_append.2 (.inl hy)
  ·rw[ig e];exact hy
 have g:fI L r0 ⟨ay s.ro q (s.ro q++[x]),s.out,true⟩:=by
  refine⟨fun j d y hy=>f j y (h.sub j d y hy),fun j d y hy k i=>?_,fun j d=>?_,fun j d k w=>?_,h.onod⟩
  ·have hy:y∈ay s.ro q (s.ro q++[x]) j:=hy;by_cases e:j=q
   ·subst e;rw[fB]at hy;rcases List.mem_append.1 hy with hy|hy
    ·exact h.nd j d y hy k i
    ·rw[List.mem_singleton]at hy;subst hy;exact z k i
   ·rw[ig e]at hy;exact h.nd j d y hy k i
  ·show∃ex,ay s.ro q (s.ro q++[x]) j=r0 j++ex∧_;by_cases e:j=q
   ·subst e;rw[fB];obtain⟨ex,n,t,u⟩:=h.ext j d;refine⟨ex++[x],by rw[n,List.append_assoc],?_,fun y hy=>?_⟩
    ·rw[List.nodup_append];exact⟨t,by simp,fun a v c p=>by rw[List.mem_singleton]at p;subst p;exact fun e=>l (by rw[n];exact List.mem_append.2 (.inr (e▸v)))⟩
    ·rcases List.mem_append.1 hy with hy|hy
     ·exact u y hy
     ·rw[List.mem_singleton]at hy;subst hy;exact m
   ·rw[ig e];exact h.ext j d
  ·show k∈aN L (ay s.ro q (s.ro q++[x]) j);rw[iI o];exact F4 (f j) ((iI o).1 (h.out j d k w))
 refine⟨g,?_⟩;have b:=g.len hq;have b:(ay s.ro q (s.ro q++[x]) q).length≤(r0 q).length+600:=b;rw[fB,List.length_append,List.length_singleton]at b
 have a:kP (fun r=>600+n0 r0 r-(ay s.ro q (s.ro q++[x]) r).length)<kP (fun r=>600+n0 r0 r-(s.ro r).length):=by
  unfold kP n0;rcases four hq with rfl|rfl|rfl|rfl<;>simp only[ay,Nat.beq,cond_true,cond_false,List.length_append,List.length_singleton]<;>omega
 unfold eS;dsimp only at a⊢;omega
structure iq(L:List Ob)(r0:Nat→List Int)(mu:Nat)(r:Nat)(s:RS):Prop where
 inv:fI L r0 s
 le:eS L (n0 r0) s≤mu
 lt:s.more=true→eS L (n0 r0) s<mu
 out:s.more=false→∀j,j<r→s.out j=aN L (s.ro j)
 clo:s.more=false→∀j,j<r→∀l∈bR L (s.out j),l.2∈s.ro l.1.toNat
structure gQ(L:List Ob)(r0:Nat→List Int)(mu:Nat)(r:Nat)(all:List Int)(i:Nat)(s:RS):Prop where
 mid:iq L r0 mu r s
 here:s.out r=all
 out:s.more=false→s.out r=aN L (s.ro r)
 done:s.more=false→∀l∈(bR L all).take i,l.2∈s.ro l.1.toNat
theorem iq.found{L:List Ob}(i:ai L){r0:Nat→List Int}{mu r:Nat}{s:RS}(h:iq L r0 mu r s)(hr:r<4):
  gQ L r0 mu r (aN L (s.ro r)) 0 ⟨s.ro,ay s.out r (aN L (s.ro r)),s.more||decide ((s.out r).length<(aN L (s.ro r)).length)⟩:=by
 obtain⟨a,c,d⟩:=h.inv.found i hr (s.more||decide ((s.out r).length<(aN L (s.ro r)).length))
 have g:(s.more||decide ((s.out r).length<(aN L (s.ro r)).length))=false→s.more=false:=fun e=>by
  cases b:s.more with
  |false=>rfl
  |true=>rw[b]at e;cases e
 refine⟨⟨a,Nat.le_trans c h.le,fun e=>?_,fun e j f=>?_,fun e j f=>?_⟩,fB,fun e=>fB,fun e l k=>by simp at k⟩
 ·cases b:s.more with
  |true=>exact Nat.lt_of_le_of_lt c (h.lt b)
  |false=>
   have e:(s.more||decide ((s.out r).length<(aN L (s.ro r)).length))=true:=e;rw[b,Bool.false_or]at e;exact Nat.lt_of_lt_of_le (d (of_decide_eq_true e)) h.le
 ·show ay s.out r (aN L (s.ro r)) j=_;rw[ig (by omega)];exact h.out (g e) j f
 ·show∀l∈bR L (ay s.out r (aN L (s.ro r)) j),_;rw[ig (by omega)];exact h.clo (g e) j f
theorem gQ.skip{L:List Ob}{r0:Nat→List Int}{mu r i:Nat}{all:List Int}{s:RS}(h:gQ L r0 mu r all i s)(hi:i<(bR L all).length)(hin:(bR L all)[i].2∈s.ro (bR L all)[i].1.toNat):gQ L r0 mu r all (i+1) s:=
 ⟨h.mid,h.here,h.out,fun e l hl=>by
  rw[List.take_succ_eq_append_getElem hi]at hl;rcases List.mem_append.1 hl with hl|hl
  ·exact h.done e l hl
  ·rw[List.mem_singleton]at hl;subst hl;exact hin⟩
theorem gQ.add{L:List Ob}(b:ai L){r0:Nat→List Int}{mu r i:Nat}{all:List Int}{s:RS}(h:gQ L r0 mu r all i s)(p:∀k∈all,Nd L r0 r k){q:Nat}(hq:q<4){x:Int}(hl:((q:Int),x)∈bR L all)(d:x∉s.ro q):gQ L r0 mu r all (i+1) ⟨ay s.ro q (s.ro q++[x]),s.out,true⟩:=by
 obtain⟨k,v,e,j,k3,n⟩:=rp.1 hl;have o:(q:Int)=e.av:=congrArg (·.1) n;have f:x=e.id:=congrArg (·.2) n;have w:=lh b j;have u:=dh (l:=L) (id:=e.id) (by omega);have g:=b.len
 obtain ⟨a, c⟩ := h.mid.inv.root b hq d (fun m t=>by
  have:=Nd.link (p k v) j k3 (f▸t);rw[←o]at this;exact this) (by rw[f];omega)
 exact⟨⟨a,Nat.le_of_lt (Nat.lt_of_lt_of_le c h.mid.le),fun _=>Nat.lt_of_lt_of_le c h.mid.le,fun e=>(by cases e),fun e=>(by cases e)⟩,h.here,fun e=>(by cases e),fun e=>(by cases e)⟩
theorem gQ.stop{L:List Ob}{r0:Nat→List Int}{mu r i:Nat}{all:List Int}{s:RS}(h:gQ L r0 mu r all i s)(hi:¬i<(bR L all).length):iq L r0 mu (r+1) s:=by
 refine⟨h.mid.inv,h.mid.le,h.mid.lt,fun e j a=>?_,fun e j a l b=>?_⟩
 ·rcases Nat.lt_succ_iff_lt_or_eq.1 a with a|rfl
  ·exact h.mid.out e j a
  ·exact h.out e
 ·rcases Nat.lt_succ_iff_lt_or_eq.1 a with a|rfl
  ·exact h.mid.clo e j a l b
  ·rw[h.here]at b;exact h.done e l (by rw[List.take_of_length_le (by omega)];exact b)
theorem iq.start{L:List Ob}{r0:Nat→List Int}{s:RS}(h:fI L r0 s):iq L r0 (eS L (n0 r0) s) 0 ⟨s.ro,s.out,false⟩:=
 ⟨⟨h.sub,h.nd,h.ext,h.out,h.onod⟩,Nat.le_refl _,fun e=>(by cases e),fun _ j a=>absurd a (Nat.not_lt_zero _),fun _ j a=>absurd a (Nat.not_lt_zero _)⟩
theorem iq.fin{L:List Ob}{r0:Nat→List Int}{mu:Nat}{s:RS}(h:iq L r0 mu 4 s)(hm:s.more=false):pY L s:=⟨fun r a=>h.out hm r a,fun r a=>h.clo hm r a⟩
end Go.Nest
end
section
namespace Go.Nest
open Go Go.AM Go.Proofs
open Go.Proofs.YtpechfcbnoggfaaGreatDoor (tab tabOk)
set_option maxRecDepth 4000
theorem j7{n0:Nat}{a:St}{R:∀(ι:Type) (I:ι→St) (inv:ι→Prop) (m:ι→Nat),ι→Prop}{P:Nat→Prop}{q:Nat}(c:P q)(ι:Type)(I:Nat→ι→St)(inv:Nat→ι→Prop)(m:ι→Nat)(y:ι)(js:List Nat)(ρ:List Rn)(h1:inv q y)(h2:le n0 js ρ a (I q y))(b:∀x,inv q x→R ι (I q) (inv q) m x):
  ∃(ι:Type) (I:ι→St) (inv:ι→Prop) (m:ι→Nat),(∃y,inv y∧LE n0 a (I y))∧∀x,inv x→R ι I inv m x:=
 ⟨ι,I q,inv q,m,⟨y,h1,js,ρ,h2⟩,b⟩
theorem jJ{ι:Type}{n0:Nat}{I:ι→St}{inv:ι→Prop}{m:ι→Nat}{lt:Nat}{s:St}{P:Nat→Prop}{q:Nat}(b:P q)(y:ι)(js:List Nat)(ρ:Nat→List Rn)(h1:inv y)(h2:m y<lt)(a:le n0 js (ρ q) s (I y)):∃y,(inv y∧m y<lt)∧LE n0 s (I y):=⟨y,⟨h1,h2⟩,js,ρ q,a⟩
def Qn(_:Nat):Prop:=True
set_option maxHeartbeats 20000000 in
theorem GI(L:List Ob)(m:ai L)(o:Nat→List Bool)(b r0:Nat→List Int)(N:∀r,r<4→(r0 r).length≤100000):ae Tryz.prog 136 [.c (.bp [.bp [.bs 6 Ob an L],.bs 1 Bool af (o 0),.bs 1 Bool af (o 1),.bs 1 Bool af (o 2),.bs 1 Bool af (o 3),.bs 1 Int encI (b 0),.bs 1 Int encI (b 1),.bs 1 Int encI (b 2),.bs 1 Int encI (b 3)]),.st [.bs 1 Int encI (r0 0),.bs 1 Int encI (r0 1),.bs 1 Int encI (r0 2),.bs 1 Int encI (r0 3)]] [] (Rt (.st [.ls 1 Int encI (fq L r0 0),.ls 1 Int encI (fq L r0 1),.ls 1 Int encI (fq L r0 2),.ls 1 Int encI (fq L r0 3)]) []):=by
 have ad:=m.len;refine ak (n:=67) (n0:=0) tabOk Tryz.call136 Tryz.func136 ?_;intro hb;(conv=>whnf);refine lp RS (fun s=>⟨[(0,.c (.bp [.bp [.bs 6 Ob an L],.bs 1 Bool af (o 0),.bs 1 Bool af (o 1),.bs 1 Bool af (o 2),.bs 1 Bool af (o 3),.bs 1 Int encI (b 0),.bs 1 Int encI (b 1),.bs 1 Int encI (b 2),.bs 1 Int encI (b 3)])),(3,.c (.ptr 0 0)),(4,.c (.ptr 1 0)),(5,.c (.ptr 2 0)),(6,.c (.bool s.more))],[.box [.bs 1 Int encI (s.ro 0),.bs 1 Int encI (s.ro 1),.bs 1 Int encI (s.ro 2),.bs 1 Int encI (s.ro 3)],.box [.nil,.nil,.nil,.nil],.box [.ls 1 Int encI (s.out 0),.ls 1 Int encI (s.out 1),.ls 1 Int encI (s.out 2),.ls 1 Int encI (s.out 3)]]⟩) (fun s=>(fI L r0 s∧(s.more=false→pY L s))∧True) (fun s=>2*eS L (n0 r0) s+(if s.more=true then 1 else 0)) ⟨r0,fun _=>[],true⟩ [] [.same 0,.same 1,.same 2] ?_ ?_ (fun s O=>?_)
 ·exact⟨⟨fI.start,fun h=>by cases h⟩,trivial⟩
 ·repeat' first|exact trivial|exact rfl|refine And.intro ?_ ?_
 obtain⟨⟨O,Q⟩,-⟩:=O;(conv=>whnf);refine aL (fun z=>?_) (fun z=>?_)
 ·have z:s.more=true:=z;(conv=>whnf);refine lp (Nat×RS) (fun p=>⟨[(0,.c (.bp [.bp [.bs 6 Ob an L],.bs 1 Bool af (o 0),.bs 1 Bool af (o 1),.bs 1 Bool af (o 2),.bs 1 Bool af (o 3),.bs 1 Int encI (b 0),.bs 1 Int encI (b 1),.bs 1 Int encI (b 2),.bs 1 Int encI (b 3)])),(3,.c (.ptr 0 0)),(4,.c (.ptr 1 0)),(5,.c (.ptr 2 0)),(6,.c (.bool p.2.more)),(12,.c (.int .i64 p.1))],[.box [.bs 1 Int encI (p.2.ro 0),.bs 1 Int encI (p.2.ro 1),.bs 1 Int encI (p.2.ro 2),.bs 1 Int encI (p.2.ro 3)],.box [.nil,.nil,.nil,.nil],.box [.ls 1 Int encI (p.2.out 0),.ls 1 Int encI (p.2.out 1),.ls 1 Int encI (p.2.out 2),.ls 1 Int encI (p.2.out 3)]]⟩) (fun p=>(p.1≤4∧iq L r0 (eS L (n0 r0) s) p.1 p.2)∧True) (fun p=>4-p.1) (0,⟨s.ro,s.out,false⟩) [] [.same 0,.same 1,.same 2] ?_ ?_ (fun⟨r,t⟩ E=>?_)
  ·exact⟨⟨Nat.zero_le _,iq.start O⟩,trivial⟩
  ·repeat' first|exact trivial|exact rfl|refine And.intro ?_ ?_
  obtain⟨⟨am,E⟩,-⟩:=E;have E:iq L r0 (eS L (n0 r0) s) r t:=E;(conv=>whnf);refine dec (fun P=>?_) (fun P=>?_)
  ·have F:r<4:=by have P:(r:Int)<4:=P;omega
   have D:=E.found m F;have ap:=E.inv.len F;have hn:=N r F;have p1:=lR L m (t.ro r) (by omega);have Y:=mK (l:=L) (ids:=t.ro r)
   have w:∀k∈aN L (t.ro r),Nd L r0 r k:=fun k hk=>by
    obtain⟨x,h1,W⟩:=uE ((iI m).1 hk);exact E.inv.nd r F x h1 k W
   generalize aN L (t.ro r)=a at p1 D w Y;have p2:=Gf L m o b a (by omega);have al:=uJ m (ids:=a);have hQ:Qn r:=trivial;have R:r+1≤4:=F;have hd:decide (((t.out r).length:Int)<a.length)=decide ((t.out r).length<a.length):=decide_eq_decide.2 (by omega);(conv=>whnf)
   rcases four F with rfl|rfl|rfl|rfl<;>(
    refine⟨false,.grow,(.l [0,1,2,3,4,5,6,7,8]),by kernel_rfl,.inl ?_⟩;(conv=>whnf);refine⟨_,⟨rfl,F⟩,?_⟩;(conv=>whnf);refine cl [] [] (p1) ?_;(conv=>whnf);refine aL (fun J=>?_) (fun J=>?_)
    ·have J:t.more=true:=J;rw[J,Bool.true_or]at D;(conv=>whnf);refine⟨_,⟨rfl,F⟩,?_⟩;(conv=>whnf);refine cl [] [] (p2) ?_;(conv=>whnf);refine j7 hQ (Nat×RS) (fun q p=>⟨[(0,.c (.bp [.bp [.bs 6 Ob an L],.bs 1 Bool af (o 0),.bs 1 Bool af (o 1),.bs 1 Bool af (o 2),.bs 1 Bool af (o 3),.bs 1 Int encI (b 0),.bs 1 Int encI (b 1),.bs 1 Int encI (b 2),.bs 1 Int encI (b 3)])),(3,.c (.ptr 0 0)),(4,.c (.ptr 1 0)),(5,.c (.ptr 2 0)),(6,.c (.bool p.2.more)),(12,.c (.int .i64 q)),(38,.c (.rw 3)),(39,.c (.int .i64 (bR L a).length)),(40,.c (.int .i64 p.1))],[.box [.bs 1 Int encI (p.2.ro 0),.bs 1 Int encI (p.2.ro 1),.bs 1 Int encI (p.2.ro 2),.bs 1 Int encI (p.2.ro 3)],.box [.nil,.nil,.nil,.nil],.box [.ls 1 Int encI (p.2.out 0),.ls 1 Int encI (p.2.out 1),.ls 1 Int encI (p.2.out 2),.ls 1 Int encI (p.2.out 3)],.row 2 (Int×Int) jg (bR L a)]⟩) (fun q p=>(p.1≤(bR L a).length∧gQ L r0 (eS L (n0 r0) s) q a p.1 p.2)∧True) (fun p=>(bR L a).length-p.1) (0,_) [3] [.same 0,.same 1,.same 2,.same 4] ⟨⟨Nat.zero_le _,D⟩,trivial⟩ ?_ (fun⟨i,u⟩ g=>?_)
     ·repeat' first|exact trivial|exact rfl|refine And.intro ?_ ?_
     obtain⟨⟨Z,g⟩,-⟩:=g;dsimp only at Z g;(conv=>whnf);refine dec (fun v=>?_) (fun v=>?_)
     ·have d:i<(bR L a).length:=by have v:(i:Int)<(bR L a).length:=v;omega
      have y:(bR L a)[i]? =some (bR L a)[i]:=List.getElem?_eq_getElem d
      obtain⟨p,x,I,K⟩:∃(p:Nat) (x:Int),p<4∧(bR L a)[i]=((p:Int),x):=by
       obtain⟨k,k1,e,k2,k3,k4⟩:=rp.1 (List.getElem_mem d);have:=lh m k2;exact⟨e.av.toNat,e.id,by omega,by rw[k4,show((e.av.toNat:Nat):Int)=e.av by omega]⟩
      rw[K]at y;have M:(!cW (u.ro p) x)=false→gQ L r0 (eS L (n0 r0) s) _ a (i+1) u:=fun h=>g.skip d (by rw[K];exact ff.1 (by simpa using h));have f:=fun h:(!cW (u.ro p) x)=true=>g.add m w I (x:=x) (by rw[←K];exact List.getElem_mem d) (fun z=>by rw[ff.2 z]at h;cases h);have S:=g.mid.inv.len I;have ac:=N p I;have T:=qu (u.ro p) (by omega);have p6:=fN (u.ro p) x;(conv=>whnf);refine⟨i,⟨rfl,d⟩,?_⟩;(conv=>whnf);refine⟨((p:Int),x),y,?_⟩
      rcases four I with rfl|rfl|rfl|rfl<;>(
       (conv=>whnf);refine⟨false,.grow,(.l [0,1,2,3,4,5,6,7]),by kernel_rfl,.inl ?_⟩;(conv=>whnf);refine⟨0,⟨rfl,by decide⟩,?_⟩;(conv=>whnf);refine⟨_,⟨rfl,by decide⟩,?_⟩;(conv=>whnf);refine⟨1,⟨rfl,by decide⟩,?_⟩;(conv=>whnf);refine cl [] [] (p6) ?_;(conv=>whnf);refine aL (fun H=>?_) (fun H=>?_)
       ·(conv=>whnf);refine⟨false,.eF [0,4],(.alt [0,1,2,3,4,5,7,8] [6,9] fun j=>bif Nat.beq j 6 then(.l [9,10,11,12])else bif Nat.beq j 9 then(.l [6,10,11,12])else .l []),by kernel_rfl,.inl ?_⟩;(conv=>whnf);refine⟨0,⟨rfl,by decide⟩,?_⟩;(conv=>whnf);refine⟨0,⟨rfl,by decide⟩,?_⟩;(conv=>whnf);refine⟨_,⟨rfl,by decide⟩,?_⟩;(conv=>whnf);refine⟨1,⟨rfl,by decide⟩,?_⟩;(conv=>whnf);refine And.intro ?_ ?_
        ·(conv=>whnf);refine cl [] [] (T) ?_;(conv=>whnf);refine⟨[x],rfl,?_⟩;(conv=>whnf);refine⟨_,_,rfl,rfl,(by simp only[List.length_append,List.length_cons,List.length_nil];omega),?_⟩;(conv=>whnf);refine⟨_,⟨rfl,by decide⟩,?_⟩;repeat'((conv=>whnf);refine I6 ?_)
         refine ag (i+1,_) [7] [.same 0,.same 1,.same 2,.same 3] ⟨⟨d,f H⟩,trivial⟩ (by simp only[];omega) ?_;repeat' first|exact trivial|exact rfl|refine And.intro ?_ ?_
        ·(conv=>whnf);refine⟨[x],rfl,?_⟩;(conv=>whnf);refine cl [] [] (T) ?_;(conv=>whnf);refine⟨_,_,rfl,rfl,(by simp only[List.length_append,List.length_cons,List.length_nil];omega),?_⟩;(conv=>whnf);refine⟨_,⟨rfl,by decide⟩,?_⟩;repeat'((conv=>whnf);refine I6 ?_)
         refine ag (i+1,_) [7] [.same 0,.same 1,.same 2,.same 3] ⟨⟨d,f H⟩,trivial⟩ (by simp only[];omega) ?_;repeat' first|exact trivial|exact rfl|refine And.intro ?_ ?_
       ·repeat'((conv=>whnf);refine I6 ?_)
        refine ag (i+1,u) [] [.same 0,.same 1,.same 2,.same 3] ⟨⟨d,M H⟩,trivial⟩ (by simp only[];omega) ?_;repeat' first|exact trivial|exact rfl|refine And.intro ?_ ?_)
     ·have v:¬(i:Int)<(bR L a).length:=v;repeat'((conv=>whnf);refine I6 ?_)
      refine ag (_+1,u) [] [.same 0,.same 1,.same 2] ⟨⟨R,g.stop (by omega)⟩,trivial⟩ (by simp only[];omega) ?_;repeat' first|exact trivial|exact rfl|refine And.intro ?_ ?_
    ·have J:t.more=false:=J;rw[J,Bool.false_or,←hd]at D;(conv=>whnf);refine⟨_,⟨rfl,F⟩,?_⟩;(conv=>whnf);refine⟨_,⟨rfl,F⟩,?_⟩;(conv=>whnf);refine cl [] [] (p2) ?_;(conv=>whnf);refine j7 hQ (Nat×RS) (fun q p=>⟨[(0,.c (.bp [.bp [.bs 6 Ob an L],.bs 1 Bool af (o 0),.bs 1 Bool af (o 1),.bs 1 Bool af (o 2),.bs 1 Bool af (o 3),.bs 1 Int encI (b 0),.bs 1 Int encI (b 1),.bs 1 Int encI (b 2),.bs 1 Int encI (b 3)])),(3,.c (.ptr 0 0)),(4,.c (.ptr 1 0)),(5,.c (.ptr 2 0)),(6,.c (.bool p.2.more)),(12,.c (.int .i64 q)),(38,.c (.rw 3)),(39,.c (.int .i64 (bR L a).length)),(40,.c (.int .i64 p.1))],[.box [.bs 1 Int encI (p.2.ro 0),.bs 1 Int encI (p.2.ro 1),.bs 1 Int encI (p.2.ro 2),.bs 1 Int encI (p.2.ro 3)],.box [.nil,.nil,.nil,.nil],.box [.ls 1 Int encI (p.2.out 0),.ls 1 Int encI (p.2.out 1),.ls 1 Int encI (p.2.out 2),.ls 1 Int encI (p.2.out 3)],.row 2 (Int×Int) jg (bR L a)]⟩) (fun q p=>(p.1≤(bR L a).length∧gQ L r0 (eS L (n0 r0) s) q a p.1 p.2)∧True) (fun p=>(bR L a).length-p.1) (0,_) [3] [.same 0,.same 1,.same 2,.same 4] ⟨⟨Nat.zero_le _,D⟩,trivial⟩ ?_ (fun⟨i,u⟩ g=>?_)
     ·repeat' first|exact trivial|exact rfl|refine And.intro ?_ ?_
     obtain⟨⟨Z,g⟩,-⟩:=g;dsimp only at Z g;(conv=>whnf);refine dec (fun v=>?_) (fun v=>?_)
     ·have d:i<(bR L a).length:=by have v:(i:Int)<(bR L a).length:=v;omega
      have y:(bR L a)[i]? =some (bR L a)[i]:=List.getElem?_eq_getElem d
      obtain⟨p,x,I,K⟩:∃(p:Nat) (x:Int),p<4∧(bR L a)[i]=((p:Int),x):=by
       obtain⟨k,k1,e,k2,k3,k4⟩:=rp.1 (List.getElem_mem d);have:=lh m k2;exact⟨e.av.toNat,e.id,by omega,by rw[k4,show((e.av.toNat:Nat):Int)=e.av by omega]⟩
      rw[K]at y;have M:(!cW (u.ro p) x)=false→gQ L r0 (eS L (n0 r0) s) _ a (i+1) u:=fun h=>g.skip d (by rw[K];exact ff.1 (by simpa using h));have f:=fun h:(!cW (u.ro p) x)=true=>g.add m w I (x:=x) (by rw[←K];exact List.getElem_mem d) (fun z=>by rw[ff.2 z]at h;cases h);have S:=g.mid.inv.len I;have ac:=N p I;have T:=qu (u.ro p) (by omega);have p6:=fN (u.ro p) x;(conv=>whnf);refine⟨i,⟨rfl,d⟩,?_⟩;(conv=>whnf);refine⟨((p:Int),x),y,?_⟩
      rcases four I with rfl|rfl|rfl|rfl<;>(
       (conv=>whnf);refine⟨false,.grow,(.l [0,1,2,3,4,5,6,7]),by kernel_rfl,.inl ?_⟩;(conv=>whnf);refine⟨0,⟨rfl,by decide⟩,?_⟩;(conv=>whnf);refine⟨_,⟨rfl,by decide⟩,?_⟩;(conv=>whnf);refine⟨1,⟨rfl,by decide⟩,?_⟩;(conv=>whnf);refine cl [] [] (p6) ?_;(conv=>whnf);refine aL (fun H=>?_) (fun H=>?_)
       ·(conv=>whnf);refine⟨false,.eF [0,4],(.alt [0,1,2,3,4,5,7,8] [6,9] fun j=>bif Nat.beq j 6 then(.l [9,10,11,12])else bif Nat.beq j 9 then(.l [6,10,11,12])else .l []),by kernel_rfl,.inl ?_⟩;(conv=>whnf);refine⟨0,⟨rfl,by decide⟩,?_⟩;(conv=>whnf);refine⟨0,⟨rfl,by decide⟩,?_⟩;(conv=>whnf);refine⟨_,⟨rfl,by decide⟩,?_⟩;(conv=>whnf);refine⟨1,⟨rfl,by decide⟩,?_⟩;(conv=>whnf);refine And.intro ?_ ?_
        ·(conv=>whnf);refine cl [] [] (T) ?_;(conv=>whnf);refine⟨[x],rfl,?_⟩;(conv=>whnf);refine⟨_,_,rfl,rfl,(by simp only[List.length_append,List.length_cons,List.length_nil];omega),?_⟩;(conv=>whnf);refine⟨_,⟨rfl,by decide⟩,?_⟩;repeat'((conv=>whnf);refine I6 ?_)
         refine ag (i+1,_) [7] [.same 0,.same 1,.same 2,.same 3] ⟨⟨d,f H⟩,trivial⟩ (by simp only[];omega) ?_;repeat' first|exact trivial|exact rfl|refine And.intro ?_ ?_
        ·(conv=>whnf);refine⟨[x],rfl,?_⟩;(conv=>whnf);refine cl [] [] (T) ?_;(conv=>whnf);refine⟨_,_,rfl,rfl,(by simp only[List.length_append,List.length_cons,List.length_nil];omega),?_⟩;(conv=>whnf);refine⟨_,⟨rfl,by decide⟩,?_⟩;repeat'((conv=>whnf);refine I6 ?_)
         refine ag (i+1,_) [7] [.same 0,.same 1,.same 2,.same 3] ⟨⟨d,f H⟩,trivial⟩ (by simp only[];omega) ?_;repeat' first|exact trivial|exact rfl|refine And.intro ?_ ?_
       ·repeat'((conv=>whnf);refine I6 ?_)
        refine ag (i+1,u) [] [.same 0,.same 1,.same 2,.same 3] ⟨⟨d,M H⟩,trivial⟩ (by simp only[];omega) ?_;repeat' first|exact trivial|exact rfl|refine And.intro ?_ ?_)
     ·have v:¬(i:Int)<(bR L a).length:=v;repeat'((conv=>whnf);refine I6 ?_)
      refine ag (_+1,u) [] [.same 0,.same 1,.same 2] ⟨⟨R,g.stop (by omega)⟩,trivial⟩ (by simp only[];omega) ?_;repeat' first|exact trivial|exact rfl|refine And.intro ?_ ?_)
  ·obtain rfl:r=4:=by have P:¬(r:Int)<4:=P;omega
   skip;refine ag t [] [.same 0,.same 1,.same 2] ⟨⟨E.inv,fun h=>E.fin h⟩,trivial⟩ ?_ ?_
   ·have h1:=E.le;have W:=E.lt;simp only[z,if_true];split
    ·rename_i h3;have:=W h3;omega
    ·omega
   ·repeat' first|exact trivial|exact rfl|refine And.intro ?_ ?_
 ·have z:s.more=false:=z;have U:=Q z;rw[←U.bN m O (r:=0) (by decide),←U.bN m O (r:=1) (by decide),←U.bN m O (r:=2) (by decide),←U.bN m O (r:=3) (by decide)];(conv=>whnf);exact rx [] []
end Go.Nest
end
section
namespace Go.Nest
open Go Go.AM
noncomputable def jX(b:Nat→List Int)(bN:Nat→List Int)(q:Nat)(k:Int):Bool:=(List.range 4).any fun r:Nat=>decide ((q:Int)∈cm b r)&&decide (k∈bN r)
def lW(p:Nat→Bool)(l:List Bool):List Bool:=l.mapIdx fun j v=>v&&p j
noncomputable def gK(L:List Ob)(o:Nat→List Bool)(b r0:Nat→List Int):Nat→List Bool:=fun q=>lW (fun k=>jX b (fq L r0) q (k:Int)) (o q)
theorem Jc{p:Nat→Bool}{l:List Bool}:(lW p l).length=l.length:=by unfold lW;rw[List.length_mapIdx]
theorem rf{b:Nat→List Int}(hb:fk b){r:Int}(h:bg r=true):(cm b r).Nodup∧(∀x∈cm b r,0≤x∧x<(4:Nat)):=by
 suffices∀n i out,5-i≤n→fF b r i out→(cm b r).Nodup∧(∀x∈cm b r,0≤x∧x<(4:Nat))from this 5 0 [r] (Nat.le_refl _) (fF.start h);intro n;induction n with
 |zero=>
  intro i out d a;have:=a.len;have:=a.le;omega
 |succ n ih=>
  intro i out d a;by_cases c:i<out.length
  ·exact ih (i+1) _ (by omega) (a.next hb c)
  ·rw[a.stop c];exact⟨a.nd,a.all⟩
theorem F7{b:Nat→List Int}(hb:fk b){r:Int}(h:bg r=true):(cm b r).length≤4:=ia 4 (rf hb h).1 (rf hb h).2
structure KI(b bN:Nat→List Int)(r i:Nat)(k:Nat→List Int):Prop where
 len:∀q,q<4→(k q).length≤600*(4*r+i)
 mem:∀q,q<4→∀x,x∈k q↔(∃r',r'<r∧(q:Int)∈cm b r'∧x∈bN r')∨((q:Int)∈(cm b r).take i∧x∈bN r)
theorem KI.start{b bN:Nat→List Int}:KI b bN 0 0 fun _=>[]:=by
 refine⟨fun q a=>Nat.zero_le _,fun q a x=>⟨fun h=>(by cases h),fun h=>?_⟩⟩;rcases h with⟨c,h,_⟩|⟨h,_⟩
 ·omega
 ·rw[List.take_zero]at h;cases h
theorem KI.step{b bN:Nat→List Int}{r i q:Nat}{k:Nat→List Int}(h:KI b bN r i k)(hi:i<(cm b r).length)(hq:(cm b r)[i]=(q:Int))(d:q<4)(hn:(bN r).length≤600):KI b bN r (i+1) (ay k q (k q++bN r)):=by
 refine⟨fun j c=>?_,fun j c x=>?_⟩
 ·by_cases e:j=q
  ·subst e;rw[fB,List.length_append];have:=h.len j c;omega
  ·rw[ig e];have:=h.len j c;omega
 ·rw[List.take_succ_eq_append_getElem hi,hq,List.mem_append,List.mem_singleton];by_cases e:j=q
  ·subst e;rw[fB,List.mem_append,h.mem j c x];constructor
   ·rintro((h1|h1)|h1)
    ·exact .inl h1
    ·exact .inr ⟨.inl h1.1,h1.2⟩
    ·exact .inr ⟨.inr rfl,h1⟩
   ·rintro(h1|⟨h1|h1,a⟩)
    ·exact .inl (.inl h1)
    ·exact .inl (.inr ⟨h1,a⟩)
    ·exact .inr a
  ·rw[ig e,h.mem j c x];constructor
   ·rintro(h1|⟨h1,a⟩)
    ·exact .inl h1
    ·exact .inr ⟨.inl h1,a⟩
   ·rintro(h1|⟨h1|h1,a⟩)
    ·exact .inl h1
    ·exact .inr ⟨h1,a⟩
    ·exact absurd (by omega) e
theorem KI.next{b bN:Nat→List Int}{r i:Nat}{k:Nat→List Int}(h:KI b bN r i k)(hi:¬i<(cm b r).length)(e:i≤4):KI b bN (r+1) 0 k:=by
 refine⟨fun q c=>?_,fun q c x=>?_⟩
 ·have:=h.len q c;omega
 ·rw[h.mem q c x,List.take_zero,List.take_of_length_le (by omega)];constructor
  ·rintro(⟨d,h1,a⟩|h1)
   ·exact .inl ⟨d,by omega,a⟩
   ·exact .inl ⟨r,by omega,h1⟩
  ·rintro(⟨d,h1,a⟩|⟨h1,_⟩)
   ·rcases Nat.lt_succ_iff_lt_or_eq.1 h1 with h1|rfl
    ·exact .inl ⟨d,h1,a⟩
    ·exact .inr a
   ·cases h1
theorem KI.fin{b bN:Nat→List Int}{k:Nat→List Int}(h:KI b bN 4 0 k){q:Nat}(hq:q<4)(x:Int):cW (k q) x=jX b bN q x:=by
 rw[Bool.eq_iff_iff,ff,h.mem q hq x];unfold jX;rw[List.any_eq_true,List.take_zero];constructor
 ·rintro(⟨d,a,c,e⟩|⟨a,_⟩)
  ·exact⟨d,by simpa using a,by simpa using⟨c,e⟩⟩
  ·cases a
 ·rintro⟨d,a,c⟩;exact .inl ⟨d,by simpa using a,by simpa using c⟩
structure ir(p:Nat→Bool)(l x:List Bool)(k:Nat):Prop where
 len:x.length=l.length
 ati:∀j,x[j]? =if j<k then(l[j]?).map fun v=>v&&p j else l[j]?
theorem ir.start{p:Nat→Bool}{l:List Bool}:ir p l l 0:=⟨rfl,fun j=>by rw[if_neg (Nat.not_lt_zero _)]⟩
theorem ir.get{p:Nat→Bool}{l x:List Bool}{k:Nat}(h:ir p l x k)(hk:k<l.length):x[k]? =some l[k]:=by
 rw[h.ati k,if_neg (Nat.lt_irrefl _),List.getElem?_eq_getElem hk]
theorem ir.step{p:Nat→Bool}{l x:List Bool}{k:Nat}(h:ir p l x k)(hk:k<l.length):ir p l (x.set k (l[k]&&p k)) (k+1):=by
 refine⟨by rw[List.length_set];exact h.len,fun j=>?_⟩;have b:=h.len;rw[List.getElem?_set];by_cases e:k=j
 ·subst e;rw[if_pos rfl,if_pos (by omega),if_pos (by omega),List.getElem?_eq_getElem hk];rfl
 ·rw[if_neg e,h.ati j];by_cases a:j<k
  ·rw[if_pos a,if_pos (by omega)]
  ·rw[if_neg a,if_neg (by omega)]
theorem ir.fin{p:Nat→Bool}{l x:List Bool}{k:Nat}(h:ir p l x k)(hk:¬k<l.length):x=lW p l:=by
 refine List.ext_getElem? fun j=>?_;rw[h.ati j];unfold lW;rw[List.getElem?_mapIdx];split
 ·rfl
 ·rw[List.getElem?_eq_none (by omega)];rfl
def OI(L:List Ob)(o:Nat→List Bool)(b r0:Nat→List Int)(r:Nat)(x:Nat→List Bool):Prop:=∀q,q<4→x q=if q<r then gK L o b r0 q else o q
theorem OI.start{L:List Ob}{o:Nat→List Bool}{b r0:Nat→List Int}:OI L o b r0 0 o:=fun q a=>by rw[if_neg (Nat.not_lt_zero _)]
theorem OI.here{L:List Ob}{o:Nat→List Bool}{b r0:Nat→List Int}{r:Nat}{x:Nat→List Bool}(h:OI L o b r0 r x)(hr:r<4):x r=o r:=by rw[h r hr,if_neg (Nat.lt_irrefl _)]
theorem OI.next{L:List Ob}{o:Nat→List Bool}{b r0:Nat→List Int}{r:Nat}{x:Nat→List Bool}(h:OI L o b r0 r x)(hr:r<4):OI L o b r0 (r+1) (ay x r (gK L o b r0 r)):=fun q c=>by
 by_cases e:q=r
 ·subst e;rw[fB,if_pos (by omega)]
 ·rw[ig e,h q c];by_cases a:q<r
  ·rw[if_pos a,if_pos (by omega)]
  ·rw[if_neg a,if_neg (by omega)]
theorem OI.fin{L:List Ob}{o:Nat→List Bool}{b r0:Nat→List Int}{x:Nat→List Bool}(h:OI L o b r0 4 x){q:Nat}(hq:q<4):x q=gK L o b r0 q:=by rw[h q hq,if_pos hq]
theorem GJ{L:List Ob}{r0:Nat→List Int}{r:Nat}:(fq L r0 r).length≤L.length:=by
 unfold fq;rw[List.length_map];exact Nat.le_trans (List.length_filter_le _ _) (by rw[List.length_range];exact Nat.le_refl _)
end Go.Nest
end
section
namespace Go.Nest
open Go Go.AM Go.Proofs
open Go.Proofs.YtpechfcbnoggfaaGreatDoor (tab tabOk)
set_option maxRecDepth 4000
def HN(q a:Nat):List Rn:=(List.range 18).map fun i=>bif Nat.beq i (13+q)then .same a else .same i
theorem z7{i n:Nat}(h:(i:Int)<(n:Int)):i<n:=by omega
set_option maxHeartbeats 20000000 in
theorem Jd(L:List Ob)(K:ai L)(o:Nat→List Bool)(b r0:Nat→List Int)(D:fk b)(ho:∀k,k<4→(o k).length≤1000000)(U:∀r,r<4→(r0 r).length≤100000):ae Tryz.prog 66 [.c (.ptr 0 0),.st [.bs 1 Int encI (r0 0),.bs 1 Int encI (r0 1),.bs 1 Int encI (r0 2),.bs 1 Int encI (r0 3)]] [.box [.ptr 1 0,.rw 3,.rw 4,.rw 5,.rw 6,.rw 7,.rw 8,.rw 9,.rw 10],.box [.rw 2],.row 6 Ob an L,.row 1 Bool af (o 0),.row 1 Bool af (o 1),.row 1 Bool af (o 2),.row 1 Bool af (o 3),.row 1 Int encI (b 0),.row 1 Int encI (b 1),.row 1 Int encI (b 2),.row 1 Int encI (b 3)] (Rt (.aC []) [.box [.ptr 1 0,.rw 3,.rw 4,.rw 5,.rw 6,.rw 7,.rw 8,.rw 9,.rw 10],.box [.rw 2],.row 6 Ob an L,.row 1 Bool af ((gK L o b r0) 0),.row 1 Bool af ((gK L o b r0) 1),.row 1 Bool af ((gK L o b r0) 2),.row 1 Bool af ((gK L o b r0) 3),.row 1 Int encI (b 0),.row 1 Int encI (b 1),.row 1 Int encI (b 2),.row 1 Int encI (b 3)]):=by
 have Z:=K.len;have p1:=GI L K o b r0 U;have H:∀r,(fq L r0 r).length≤600:=fun r=>Nat.le_trans GJ K.len;have al:=fun x (h:OI L o b r0 4 x) q hq=>OI.fin h (q:=q) hq;have ad:∀r x,OI L o b r0 r x=OI L o b r0 r x:=fun _ _=>rfl;have I:∀q,gK L o b r0 q=lW (fun k=>jX b (fq L r0) q (k:Int)) (o q):=fun q=>rfl;generalize S:fq L r0=bN at p1 H I;refine ak (n:=75) (n0:=11) tabOk Tryz.call66 Tryz.func66 ?_;intro hb;(conv=>whnf);refine cl [] [] (p1) ?_;(conv=>whnf);refine lp (Nat×(Nat→List Int)) (fun p=>⟨[(0,.c (.ptr 0 0)),(4,.c (.ptr 11 0)),(5,.c (.ptr 12 0)),(14,.c (.int .i64 p.1))],[.box [.ptr 1 0,.rw 3,.rw 4,.rw 5,.rw 6,.rw 7,.rw 8,.rw 9,.rw 10],.box [.rw 2],.row 6 Ob an L,.row 1 Bool af (o 0),.row 1 Bool af (o 1),.row 1 Bool af (o 2),.row 1 Bool af (o 3),.row 1 Int encI (b 0),.row 1 Int encI (b 1),.row 1 Int encI (b 2),.row 1 Int encI (b 3)]++[.box [.ls 1 Int encI (bN 0),.ls 1 Int encI (bN 1),.ls 1 Int encI (bN 2),.ls 1 Int encI (bN 3)],.box [.rw 13,.rw 14,.rw 15,.rw 16],.row 1 Int encI (p.2 0),.row 1 Int encI (p.2 1),.row 1 Int encI (p.2 2),.row 1 Int encI (p.2 3)]⟩) (fun p=>(p.1≤4∧KI b bN p.1 0 p.2)∧True) (fun p=>4-p.1) (0,fun _=>[]) [] [.same 0,.same 1,.same 2,.same 3,.same 4,.same 5,.same 6,.same 7,.same 8,.same 9,.same 10,.same 12,.same 13,.new,.new,.new,.new] ⟨⟨Nat.zero_le _,KI.start⟩,trivial⟩ ?_ (fun⟨r,k⟩ f=>?_)
 ·repeat' first|exact trivial|exact rfl|refine And.intro ?_ ?_
 obtain⟨⟨W,f⟩,-⟩:=f;have f:KI b bN r 0 k:=f;(conv=>whnf);refine dec (fun m=>?_) (fun m=>?_)
 ·have d:r<4:=by have m:(r:Int)<4:=m;omega
  have M:Qn r:=trivial;have E:r+1≤4:=d;have R:=rf D (r:=(r:Int)) (bQ.2 ⟨r,d,rfl⟩);have ac:=F7 D (r:=(r:Int)) (bQ.2 ⟨r,d,rfl⟩);have p2:=uF L o b D (r:Int) (bQ.2 ⟨r,d,rfl⟩);have T:=H r
  have one:∀i k,KI b bN r i k→(i:Int)<(cm b r).length→∃(_:i<(cm b r).length) (p:Nat),p<4∧(cm b r)[i]? =some (p:Int)∧KI b bN r (i+1) (ay k p (k p++bN r)):=fun i k f s=>by
   have a:=z7 s;have:=R.2 _ (List.getElem_mem a);have e:(cm b r)[i]=(((cm b r)[i]).toNat:Int):=by omega
   exact⟨a,((cm b r)[i]).toNat,by omega,by rw[List.getElem?_eq_getElem a,←e],f.step a e (by omega) T⟩
  rcases four d with rfl|rfl|rfl|rfl<;>(
   (conv=>whnf);refine cl [] [] (p2) ?_;(conv=>whnf);refine j7 M (Nat×(Nat→List Int)) (fun r p=>⟨[(0,.c (.ptr 0 0)),(4,.c (.ptr 11 0)),(5,.c (.ptr 12 0)),(14,.c (.int .i64 r)),(6,.c (.int .i64 r)),(19,.c (.rw 17)),(20,.c (.int .i64 (cm b r).length)),(21,.c (.int .i64 p.1))],[.box [.ptr 1 0,.rw 3,.rw 4,.rw 5,.rw 6,.rw 7,.rw 8,.rw 9,.rw 10],.box [.rw 2],.row 6 Ob an L,.row 1 Bool af (o 0),.row 1 Bool af (o 1),.row 1 Bool af (o 2),.row 1 Bool af (o 3),.row 1 Int encI (b 0),.row 1 Int encI (b 1),.row 1 Int encI (b 2),.row 1 Int encI (b 3)]++[.box [.ls 1 Int encI (bN 0),.ls 1 Int encI (bN 1),.ls 1 Int encI (bN 2),.ls 1 Int encI (bN 3)],.box [.rw 13,.rw 14,.rw 15,.rw 16],.row 1 Int encI (p.2 0),.row 1 Int encI (p.2 1),.row 1 Int encI (p.2 2),.row 1 Int encI (p.2 3)]++[.row 1 Int encI (cm b r)]⟩) (fun r p=>(p.1≤(cm b r).length∧KI b bN r p.1 p.2)∧True) (fun p=>4-p.1) (0,k) [] [.same 0,.same 1,.same 2,.same 3,.same 4,.same 5,.same 6,.same 7,.same 8,.same 9,.same 10,.same 11,.same 12,.same 13,.same 14,.same 15,.same 16,.same 17] ⟨⟨Nat.zero_le _,f⟩,trivial⟩ ?_ (fun⟨i,k⟩ f=>?_)
   ·repeat' first|exact trivial|exact rfl|refine And.intro ?_ ?_
   obtain⟨⟨N,f⟩,-⟩:=f;dsimp only at N f;(conv=>whnf);refine dec (fun s=>?_) (fun s=>?_)
   ·obtain⟨a,p,hp,O,g⟩:=one i k f s;have Q:=f.len p hp;(conv=>whnf);refine⟨i,⟨rfl,a⟩,?_⟩;(conv=>whnf);refine⟨(p:Int),O,?_⟩;have hP:Qn p:=trivial
    rcases four hp with rfl|rfl|rfl|rfl<;>(
     (conv=>whnf);refine⟨false,.grow,(.l [0,1,2,3,4,5,6,7,8,9]),by kernel_rfl,.inl ?_⟩;(conv=>whnf);refine⟨_,⟨rfl,by decide⟩,?_⟩;(conv=>whnf);refine⟨_,⟨rfl,d⟩,?_⟩;(conv=>whnf);refine⟨_,_,rfl,rfl,(by simp only[List.length_append,List.length_cons,List.length_nil];omega),?_⟩;(conv=>whnf);refine⟨_,⟨rfl,by decide⟩,?_⟩;repeat'((conv=>whnf);refine I6 ?_)
     refine jJ hP (i+1,_) [] (fun p=>HN p 18) ⟨⟨a,g⟩,trivial⟩ (by simp only[];omega) ?_;repeat' first|exact trivial|exact rfl|refine And.intro ?_ ?_)
   ·repeat'((conv=>whnf);refine I6 ?_)
    refine ag (_+1,k) [] [.same 0,.same 1,.same 2,.same 3,.same 4,.same 5,.same 6,.same 7,.same 8,.same 9,.same 10,.same 11,.same 12,.same 13,.same 14,.same 15,.same 16] ⟨⟨E,f.next (fun h=>s (by omega)) (by omega)⟩,trivial⟩ (by simp only[];omega) ?_;repeat' first|exact trivial|exact rfl|refine And.intro ?_ ?_)
 ·obtain rfl:r=4:=by have m:¬(r:Int)<4:=m;omega
  (conv=>whnf);refine lp (Nat×(Nat→List Bool)) (fun p=>⟨[(0,.c (.ptr 0 0)),(5,.c (.ptr 11 0)),(36,.c (.int .i64 p.1))],[.box [.ptr 1 0,.rw 3,.rw 4,.rw 5,.rw 6,.rw 7,.rw 8,.rw 9,.rw 10],.box [.rw 2],.row 6 Ob an L,.row 1 Bool af (p.2 0),.row 1 Bool af (p.2 1),.row 1 Bool af (p.2 2),.row 1 Bool af (p.2 3),.row 1 Int encI (b 0),.row 1 Int encI (b 1),.row 1 Int encI (b 2),.row 1 Int encI (b 3)]++[.box [.ls 1 Int encI (k 0),.ls 1 Int encI (k 1),.ls 1 Int encI (k 2),.ls 1 Int encI (k 3)]]⟩) (fun p=>(p.1≤4∧OI L o b r0 p.1 p.2)∧True) (fun p=>4-p.1) (0,o) [13,14,15,16] [.same 0,.same 1,.same 2,.same 3,.same 4,.same 5,.same 6,.same 7,.same 8,.same 9,.same 10,.same 12] ⟨⟨Nat.zero_le _,OI.start⟩,trivial⟩ ?_ (fun⟨r,x⟩ t=>?_)
  ·repeat' first|exact trivial|exact rfl|refine And.intro ?_ ?_
  obtain⟨⟨W,t⟩,-⟩:=t;have t:OI L o b r0 r x:=t;(conv=>whnf);refine dec (fun m=>?_) (fun m=>?_)
  ·have d:r<4:=by have m:(r:Int)<4:=m;omega
   have M:Qn r:=trivial;have E:r+1≤4:=d;have hq:=ho r d;have Y:=t.here d;have Q:=f.len r d;have p3:=fun i:Nat=>fN (k r) (i:Int);have P:=fun z=>f.fin d z;simp only[P]at p3
   have F:∀i y,ir (fun j=>jX b bN r (j:Int)) (o r) y i→¬(i:Int)<(o r).length→OI L o b r0 (r+1) (ay x r y):=fun i y u s=>by
    rw[u.fin (fun h=>s (by omega)),←I r];exact t.next d
   rcases four d with rfl|rfl|rfl|rfl<;>(
    (conv=>whnf);refine⟨_,⟨rfl,d⟩,?_⟩;(conv=>whnf);refine j7 M (Nat×List Bool) (fun q p=>⟨[(0,.c (.ptr 0 0)),(5,.c (.ptr 11 0)),(36,.c (.int .i64 q)),(9,.c (.int .i64 q)),(45,.c (.int .i64 (o q).length)),(46,.c (.int .i64 p.1))],[.box [.ptr 1 0,.rw 3,.rw 4,.rw 5,.rw 6,.rw 7,.rw 8,.rw 9,.rw 10],.box [.rw 2],.row 6 Ob an L,.row 1 Bool af ((ay x q p.2) 0),.row 1 Bool af ((ay x q p.2) 1),.row 1 Bool af ((ay x q p.2) 2),.row 1 Bool af ((ay x q p.2) 3),.row 1 Int encI (b 0),.row 1 Int encI (b 1),.row 1 Int encI (b 2),.row 1 Int encI (b 3)]++[.box [.ls 1 Int encI (k 0),.ls 1 Int encI (k 1),.ls 1 Int encI (k 2),.ls 1 Int encI (k 3)]]⟩) (fun q p=>(p.1≤(o q).length∧ir (fun j=>jX b bN q (j:Int)) (o q) p.2 p.1)∧True) (fun p=>1000000-p.1) (0,_) [] [.same 0,.same 1,.same 2,.same 3,.same 4,.same 5,.same 6,.same 7,.same 8,.same 9,.same 10,.same 11] ⟨⟨Nat.zero_le _,ir.start⟩,trivial⟩ ?_ (fun⟨i,y⟩ u=>?_)
    ·rw[←Y];repeat' first|exact trivial|exact rfl|refine And.intro ?_ ?_
    obtain⟨⟨N,u⟩,-⟩:=u;dsimp only at N u;(conv=>whnf);refine dec (fun s=>?_) (fun s=>?_)
    ·have a:=z7 s;have w:=u.get a;have g:=u.step a;have am:=u.len;obtain⟨v,hv⟩:∃v,v=(o _)[i]:=⟨_,rfl⟩;rw[←hv]at w g;(conv=>whnf);refine⟨false,.grow,(.l [0,1,2,3,4,5,6,7,8,9,10,11,12,13,14,15,16,17,18,19,20,21,22,23,24]),by kernel_rfl,.inl ?_⟩;(conv=>whnf);refine⟨_,⟨rfl,d⟩,?_⟩;(conv=>whnf);refine⟨_,⟨rfl,d⟩,?_⟩;(conv=>whnf);refine⟨i,⟨rfl,(show i<y.length by omega)⟩,?_⟩;(conv=>whnf);refine⟨v,w,?_⟩;(conv=>whnf);refine aL (fun J=>?_) (fun J=>?_)
     ·rw[J,Bool.true_and]at g;(conv=>whnf);refine⟨_,⟨rfl,d⟩,?_⟩;(conv=>whnf);refine cl [] [] (p3 i) ?_;(conv=>whnf);refine⟨i,⟨rfl,(show i<y.length by omega)⟩,?_⟩;(conv=>whnf);refine⟨_,_,w,⟨Nat.le_refl 1,rfl⟩,?_⟩;repeat'((conv=>whnf);refine I6 ?_)
      refine ag (i+1,_) [] [.same 0,.same 1,.same 2,.same 3,.same 4,.same 5,.same 6,.same 7,.same 8,.same 9,.same 10,.same 11] ⟨⟨a,g⟩,trivial⟩ (by simp only[];omega) ?_;repeat' first|exact trivial|exact rfl|refine And.intro ?_ ?_
     ·rw[J,Bool.false_and]at g;(conv=>whnf);refine⟨i,⟨rfl,(show i<y.length by omega)⟩,?_⟩;(conv=>whnf);refine⟨_,_,w,⟨Nat.le_refl 1,rfl⟩,?_⟩;repeat'((conv=>whnf);refine I6 ?_)
      refine ag (i+1,_) [] [.same 0,.same 1,.same 2,.same 3,.same 4,.same 5,.same 6,.same 7,.same 8,.same 9,.same 10,.same 11] ⟨⟨a,g⟩,trivial⟩ (by simp only[];omega) ?_;repeat' first|exact trivial|exact rfl|refine And.intro ?_ ?_
    ·repeat'((conv=>whnf);refine I6 ?_)
     refine ag (_+1,_) [] [.same 0,.same 1,.same 2,.same 3,.same 4,.same 5,.same 6,.same 7,.same 8,.same 9,.same 10,.same 11] ⟨⟨E,F i y u s⟩,trivial⟩ (by simp only[];omega) ?_;repeat' first|exact trivial|exact rfl|refine And.intro ?_ ?_)
  ·obtain rfl:r=4:=by have m:¬(r:Int)<4:=m;omega
   rw[←t.fin (q:=0) (by decide),←t.fin (q:=1) (by decide),←t.fin (q:=2) (by decide),←t.fin (q:=3) (by decide)];(conv=>whnf);exact rx [] [.same 0,.same 1,.same 2,.same 3,.same 4,.same 5,.same 6,.same 7,.same 8,.same 9,.same 10]
end Go.Nest
end
section
namespace Go.Nest
open Go Go.AM Go.Proofs
open Go.Proofs.YtpechfcbnoggfaaGreatDoor (tab tabOk)
set_option maxRecDepth 4000
def dM(b:Nat→List Int)(r q:Int):Int:=if bg r=false∨bg q=false then 1 else if cW (cm b q) r=true then 10 else if cW (b r.toNat) q=true then 11 else 0
def cw(b:Nat→List Int)(r q:Int):Nat→List Int:=if dM b r q≠0 then b else ay b r.toNat (b r.toNat++[q])
structure lY(b:Nat→List Int):Prop where
 ok:fk b
 nd:∀i,i<4→(b i).Nodup
theorem lY.nil:lY fun _=>[]:=⟨fun i h=>⟨Nat.zero_le _,fun q a=>by cases a⟩,fun i h=>List.nodup_nil⟩
theorem lY.df{b:Nat→List Int}(h:lY b)(r q:Int):lY (cw b r q):=by
 unfold cw;split
 ·exact h
 ·rename_i a;have a:dM b r q=0:=Decidable.not_not.1 a;unfold dM at a;split at a
  ·cases a
  rename_i m;split at a
  ·cases a
  split at a
  ·cases a
  rename_i n;have v:bg r=true:=by cases e:bg r with|true=>rfl|false=>exact absurd (.inl e) m
  have u:bg q=true:=by cases e:bg q with|true=>rfl|false=>exact absurd (.inr e) m
  obtain⟨k,o,rfl⟩:=bQ.1 v;obtain⟨j,w,rfl⟩:=bQ.1 u;rw[Int.toNat_natCast]at n⊢;have l:(j:Int)∉b k:=fun t=>n (ff.2 t)
  have d:(b k++[(j:Int)]).Nodup:=by
   rw[List.nodup_append];exact⟨h.nd k o,by simp,fun x hx y s=>by rw[List.mem_singleton]at s;subst s;exact fun e=>l (e▸hx)⟩
  have c:∀x∈b k++[(j:Int)],0≤x∧x<(4:Nat):=fun x hx=>by
   rcases List.mem_append.1 hx with hx|hx
   ·exact(h.ok k o).2 x hx
   ·rw[List.mem_singleton]at hx;subst hx;omega
  have p:∀i,ay b k (b k++[(j:Int)]) i=if i=k then b k++[(j:Int)]else b i:=fun i=>by
   unfold ay;by_cases e:i=k
   ·subst e;rw[Nat.beq_refl,if_pos rfl];rfl
   ·rw[if_neg e]
    have:Nat.beq i k=false:=by
     cases f:Nat.beq i k with
     |false=>rfl
     |true=>exact absurd (Nat.eq_of_beq_eq_true f) e
    rw[this];rfl
  refine⟨fun i g=>?_,fun i g=>?_⟩
  ·rw[p];split
   ·exact⟨ia 4 d c,c⟩
   ·exact h.ok i g
  ·rw[p];split
   ·exact d
   ·exact h.nd i g
set_option maxHeartbeats 4000000 in
theorem CE(L:List Ob)(o:Nat→List Bool)(b:Nat→List Int)(d:fk b)(r q:Int):ae Tryz.prog 64 [.c (.ptr 0 0),.c (.int .i64 r),.c (.int .i64 q)] [.box [.ptr 1 0,.rw 3,.rw 4,.rw 5,.rw 6,.rw 7,.rw 8,.rw 9,.rw 10],.box [.rw 2],.row 6 Ob an L,.row 1 Bool af (o 0),.row 1 Bool af (o 1),.row 1 Bool af (o 2),.row 1 Bool af (o 3),.row 1 Int encI (b 0),.row 1 Int encI (b 1),.row 1 Int encI (b 2),.row 1 Int encI (b 3)] (Rt (.c (.int .i64 (dM b r q))) [.box [.ptr 1 0,.rw 3,.rw 4,.rw 5,.rw 6,.rw 11,.rw 12,.rw 13,.rw 14],.box [.rw 2],.row 6 Ob an L,.row 1 Bool af (o 0),.row 1 Bool af (o 1),.row 1 Bool af (o 2),.row 1 Bool af (o 3),.dead,.dead,.dead,.dead,.row 1 Int encI ((cw b r q) 0),.row 1 Int encI ((cw b r q) 1),.row 1 Int encI ((cw b r q) 2),.row 1 Int encI ((cw b r q) 3)]):=by
 have m:=mL r;have p:=mL q;refine ak (n:=45) (n0:=11) tabOk Tryz.call64 Tryz.func64 ?_;intro hb;cases h:bg r with
 |false=>
  rw[h]at m;have e:dM b r q=1:=by unfold dM;rw[h];rfl
  rw[show cw b r q=b by unfold cw;rw[e];rfl,e];(conv=>whnf);refine cl [] [] (m) ?_;(conv=>whnf);exact rx [] [.same 0,.same 1,.same 2,.same 3,.same 4,.same 5,.same 6,.same 7,.same 8,.same 9,.same 10,.same 7,.same 8,.same 9,.same 10]
 |true=>
  rw[h]at m;cases j:bg q with
  |false=>
   rw[j]at p;have e:dM b r q=1:=by unfold dM;rw[h,j];rfl
   rw[show cw b r q=b by unfold cw;rw[e];rfl,e];(conv=>whnf);refine cl [] [] (m) ?_;(conv=>whnf);refine cl [] [] (p) ?_;(conv=>whnf);exact rx [] [.same 0,.same 1,.same 2,.same 3,.same 4,.same 5,.same 6,.same 7,.same 8,.same 9,.same 10,.same 7,.same 8,.same 9,.same 10]
  |true=>
   rw[j]at p;have s:dM b r q=if cW (cm b q) r=true then 10 else if cW (b r.toNat) q=true then 11 else 0:=by unfold dM;rw[h,j];rfl
   (conv=>whnf);refine cl [] [] (m) ?_;(conv=>whnf);refine cl [] [] (p) ?_;(conv=>whnf);refine cl [] [] (uF L o b d q j) ?_;(conv=>whnf);refine cl [] [] (fN (cm b q) r) ?_;(conv=>whnf);refine aL (fun i=>?_) (fun i=>?_)
   ·have e:dM b r q=10:=by rw[s];exact if_pos i
    rw[show cw b r q=b by unfold cw;rw[e];rfl,e];(conv=>whnf);exact rx [] [.same 0,.same 1,.same 2,.same 3,.same 4,.same 5,.same 6,.same 7,.same 8,.same 9,.same 10,.same 7,.same 8,.same 9,.same 10]
   ·have i:cW (cm b q) r=false:=i;have f:dM b r q=if cW (b r.toNat) q=true then 11 else 0:=by rw[s];exact if_neg (by rw[i];decide)
    obtain⟨k,t,rfl⟩:=bQ.1 h;rcases four t with rfl|rfl|rfl|rfl
    ·(conv=>whnf);refine⟨0,⟨rfl,by decide⟩,?_⟩;(conv=>whnf);refine cl [] [] (fN (b 0) q) ?_;(conv=>whnf);refine aL (fun a=>?_) (fun a=>?_)
     ·have e:dM b (0:Nat) q=11:=by rw[f];exact if_pos a
      rw[show cw b (0:Nat) q=b by unfold cw;rw[e];rfl,e];(conv=>whnf);exact rx [] [.same 0,.same 1,.same 2,.same 3,.same 4,.same 5,.same 6,.same 7,.same 8,.same 9,.same 10,.same 7,.same 8,.same 9,.same 10]
     ·have a:cW (b 0) q=false:=a;have g:=(d 0 (by decide)).1;have e:dM b (0:Nat) q=0:=by rw[f];exact if_neg (by show¬cW (b 0) q=true;rw[a];decide)
      rw[show cw b (0:Nat) q=ay b 0 (b 0++[q])by unfold cw;rw[e];rfl,e];(conv=>whnf);refine⟨false,.grow,(.l [0,1,2,3,4,5,6,7,8,11,12,9,10,13,14]),by kernel_rfl,.inl ?_⟩;(conv=>whnf);refine⟨0,⟨rfl,by decide⟩,?_⟩;(conv=>whnf);refine⟨[q],rfl,?_⟩;(conv=>whnf);refine⟨_,_,rfl,rfl,(by simp only[List.length_append,List.length_cons,List.length_nil];omega),?_⟩;(conv=>whnf);refine⟨0,⟨rfl,by decide⟩,?_⟩;(conv=>whnf);exact rx [] [.same 0,.same 1,.same 2,.same 3,.same 4,.same 5,.same 6,.same 7,.same 8,.same 9,.same 10,.same 13,.same 8,.same 9,.same 10]
    ·(conv=>whnf);refine⟨1,⟨rfl,by decide⟩,?_⟩;(conv=>whnf);refine cl [] [] (fN (b 1) q) ?_;(conv=>whnf);refine aL (fun a=>?_) (fun a=>?_)
     ·have e:dM b (1:Nat) q=11:=by rw[f];exact if_pos a
      rw[show cw b (1:Nat) q=b by unfold cw;rw[e];rfl,e];(conv=>whnf);exact rx [] [.same 0,.same 1,.same 2,.same 3,.same 4,.same 5,.same 6,.same 7,.same 8,.same 9,.same 10,.same 7,.same 8,.same 9,.same 10]
     ·have a:cW (b 1) q=false:=a;have g:=(d 1 (by decide)).1;have e:dM b (1:Nat) q=0:=by rw[f];exact if_neg (by show¬cW (b 1) q=true;rw[a];decide)
      rw[show cw b (1:Nat) q=ay b 1 (b 1++[q])by unfold cw;rw[e];rfl,e];(conv=>whnf);refine⟨false,.grow,(.l [0,1,2,3,4,5,6,7,8,11,12,9,10,13,14]),by kernel_rfl,.inl ?_⟩;(conv=>whnf);refine⟨1,⟨rfl,by decide⟩,?_⟩;(conv=>whnf);refine⟨[q],rfl,?_⟩;(conv=>whnf);refine⟨_,_,rfl,rfl,(by simp only[List.length_append,List.length_cons,List.length_nil];omega),?_⟩;(conv=>whnf);refine⟨1,⟨rfl,by decide⟩,?_⟩;(conv=>whnf);exact rx [] [.same 0,.same 1,.same 2,.same 3,.same 4,.same 5,.same 6,.same 7,.same 8,.same 9,.same 10,.same 7,.same 13,.same 9,.same 10]
    ·(conv=>whnf);refine⟨2,⟨rfl,by decide⟩,?_⟩;(conv=>whnf);refine cl [] [] (fN (b 2) q) ?_;(conv=>whnf);refine aL (fun a=>?_) (fun a=>?_)
     ·have e:dM b (2:Nat) q=11:=by rw[f];exact if_pos a
      rw[show cw b (2:Nat) q=b by unfold cw;rw[e];rfl,e];(conv=>whnf);exact rx [] [.same 0,.same 1,.same 2,.same 3,.same 4,.same 5,.same 6,.same 7,.same 8,.same 9,.same 10,.same 7,.same 8,.same 9,.same 10]
     ·have a:cW (b 2) q=false:=a;have g:=(d 2 (by decide)).1;have e:dM b (2:Nat) q=0:=by rw[f];exact if_neg (by show¬cW (b 2) q=true;rw[a];decide)
      rw[show cw b (2:Nat) q=ay b 2 (b 2++[q])by unfold cw;rw[e];rfl,e];(conv=>whnf);refine⟨false,.grow,(.l [0,1,2,3,4,5,6,7,8,11,12,9,10,13,14]),by kernel_rfl,.inl ?_⟩;(conv=>whnf);refine⟨2,⟨rfl,by decide⟩,?_⟩;(conv=>whnf);refine⟨[q],rfl,?_⟩;(conv=>whnf);refine⟨_,_,rfl,rfl,(by simp only[List.length_append,List.length_cons,List.length_nil];omega),?_⟩;(conv=>whnf);refine⟨2,⟨rfl,by decide⟩,?_⟩;(conv=>whnf);exact rx [] [.same 0,.same 1,.same 2,.same 3,.same 4,.same 5,.same 6,.same 7,.same 8,.same 9,.same 10,.same 7,.same 8,.same 13,.same 10]
    ·(conv=>whnf);refine⟨3,⟨rfl,by decide⟩,?_⟩;(conv=>whnf);refine cl [] [] (fN (b 3) q) ?_;(conv=>whnf);refine aL (fun a=>?_) (fun a=>?_)
     ·have e:dM b (3:Nat) q=11:=by rw[f];exact if_pos a
      rw[show cw b (3:Nat) q=b by unfold cw;rw[e];rfl,e];(conv=>whnf);exact rx [] [.same 0,.same 1,.same 2,.same 3,.same 4,.same 5,.same 6,.same 7,.same 8,.same 9,.same 10,.same 7,.same 8,.same 9,.same 10]
     ·have a:cW (b 3) q=false:=a;have g:=(d 3 (by decide)).1;have e:dM b (3:Nat) q=0:=by rw[f];exact if_neg (by show¬cW (b 3) q=true;rw[a];decide)
      rw[show cw b (3:Nat) q=ay b 3 (b 3++[q])by unfold cw;rw[e];rfl,e];(conv=>whnf);refine⟨false,.grow,(.l [0,1,2,3,4,5,6,7,8,11,12,9,10,13,14]),by kernel_rfl,.inl ?_⟩;(conv=>whnf);refine⟨3,⟨rfl,by decide⟩,?_⟩;(conv=>whnf);refine⟨[q],rfl,?_⟩;(conv=>whnf);refine⟨_,_,rfl,rfl,(by simp only[List.length_append,List.length_cons,List.length_nil];omega),?_⟩;(conv=>whnf);refine⟨3,⟨rfl,by decide⟩,?_⟩;(conv=>whnf);exact rx [] [.same 0,.same 1,.same 2,.same 3,.same 4,.same 5,.same 6,.same 7,.same 8,.same 9,.same 10,.same 7,.same 8,.same 9,.same 13]
end Go.Nest
end
section
namespace Go.Nest
open Go Go.AM Go.Proofs
open Go.Proofs.YtpechfcbnoggfaaGreatDoor (tab tabOk)
set_option maxRecDepth 4000
noncomputable def kE(L:List Ob)(d:Dp)(q id:Int):Bool:=((aN L [id]).any fun k=> !aU d q k)||decide ((aN L [id]).length=0)
noncomputable def ez(L:List Ob)(d:Dp)(r q id:Int):Int:=if bg r=false∨bg q=false then 1 else if kE L d q id=true then 14 else cN L r [id]
noncomputable def cD(L:List Ob)(o:Nat→List Bool)(b:Nat→List Int)(r q id:Int):Nat→List Bool:=if bg r=false∨bg q=false then o else if kE L ⟨o,b⟩ q id=true then o else c8 L o b r [id]
theorem Ef(L:List Ob)(o:Nat→List Bool)(b:Nat→List Int)(a:fk b)(q x:Int):ae Tryz.prog 217 [.c (.int .i64 x),.c (.bp [.bp [.bp [.bs 6 Ob an L],.bs 1 Bool af (o 0),.bs 1 Bool af (o 1),.bs 1 Bool af (o 2),.bs 1 Bool af (o 3),.bs 1 Int encI (b 0),.bs 1 Int encI (b 1),.bs 1 Int encI (b 2),.bs 1 Int encI (b 3)]]),.c (.bp [.int .i64 q])] [] (Rt (.c (.bool (!aU ⟨o,b⟩ q x))) []):=by
 refine ak (n:=10) (n0:=0) tabOk Tryz.call217 Tryz.func217 ?_;intro hb;(conv=>whnf);refine cl [] [] (lr L o b a q x) ?_;(conv=>whnf);exact aE rfl
set_option maxHeartbeats 4000000 in
theorem Eg(L:List Ob)(v:ai L)(o:Nat→List Bool)(b:Nat→List Int)(m:fk b)(ho:∀k,k<4→(o k).length≤1000000)(r q id:Int):ae Tryz.prog 133 [.c (.ptr 0 0),.c (.int .i64 r),.c (.int .i64 q),.c (.int .i64 id)] [.box [.ptr 1 0,.rw 3,.rw 4,.rw 5,.rw 6,.rw 7,.rw 8,.rw 9,.rw 10],.box [.rw 2],.row 6 Ob an L,.row 1 Bool af (o 0),.row 1 Bool af (o 1),.row 1 Bool af (o 2),.row 1 Bool af (o 3),.row 1 Int encI (b 0),.row 1 Int encI (b 1),.row 1 Int encI (b 2),.row 1 Int encI (b 3)] (Rt (.c (.int .i64 (ez L ⟨o,b⟩ r q id))) [.box [.ptr 1 0,.rw 11,.rw 12,.rw 13,.rw 14,.rw 7,.rw 8,.rw 9,.rw 10],.box [.rw 2],.row 6 Ob an L,.dead,.dead,.dead,.dead,.row 1 Int encI (b 0),.row 1 Int encI (b 1),.row 1 Int encI (b 2),.row 1 Int encI (b 3),.row 1 Bool af ((cD L o b r q id) 0),.row 1 Bool af ((cD L o b r q id) 1),.row 1 Bool af ((cD L o b r q id) 2),.row 1 Bool af ((cD L o b r q id) 3)]):=by
 have p:=mL r;have s:=mL q;refine ak (n:=44) (n0:=11) tabOk Tryz.call133 Tryz.func133 ?_;intro hb;cases e:bg r with
 |false=>
  rw[e]at p;rw[show ez L ⟨o,b⟩ r q id=1 by unfold ez;rw[e];rfl,show cD L o b r q id=o by unfold cD;rw[e];rfl];(conv=>whnf);refine cl [] [] (p) ?_;(conv=>whnf);exact rx [] [.same 0,.same 1,.same 2,.same 3,.same 4,.same 5,.same 6,.same 7,.same 8,.same 9,.same 10,.same 3,.same 4,.same 5,.same 6]
 |true=>
  rw[e]at p;cases i:bg q with
  |false=>
   rw[i]at s;rw[show ez L ⟨o,b⟩ r q id=1 by unfold ez;rw[e,i];rfl,show cD L o b r q id=o by unfold cD;rw[e,i];rfl];(conv=>whnf);refine cl [] [] (p) ?_;(conv=>whnf);refine cl [] [] (s) ?_;(conv=>whnf);exact rx [] [.same 0,.same 1,.same 2,.same 3,.same 4,.same 5,.same 6,.same 7,.same 8,.same 9,.same 10,.same 3,.same 4,.same 5,.same 6]
  |true=>
   rw[i]at s;have f:ez L ⟨o,b⟩ r q id=if kE L ⟨o,b⟩ q id=true then 14 else cN L r [id]:=by unfold ez;rw[e,i];rfl
   have g:cD L o b r q id=if kE L ⟨o,b⟩ q id=true then o else c8 L o b r [id]:=by unfold cD;rw[e,i];rfl
   have u:=lR L v [id] (by simp);have w:=sJ L v o b m ho r [id] (by simp);have t:=fun l=>tv 217 L o b q (fun x=> !aU ⟨o,b⟩ q x) (Ef L o b m q) l;have d:kE L ⟨o,b⟩ q id=(((aN L [id]).any fun k=> !aU ⟨o,b⟩ q k)||decide ((aN L [id]).length=0)):=rfl;generalize aN L [id]=rl at u d;have t:=t rl;generalize (rl.any fun k=> !aU ⟨o,b⟩ q k)=a at t d;generalize kE L ⟨o,b⟩ q id=y at d f g;generalize ez L ⟨o,b⟩ r q id=C at*;generalize cD L o b r q id=O at*;(conv=>whnf);refine cl [] [] (p) ?_;(conv=>whnf);refine cl [] [] (s) ?_;(conv=>whnf);refine⟨[id],rfl,?_⟩;(conv=>whnf);refine cl [] [] (u) ?_;(conv=>whnf);refine cl [] [] (t) ?_;(conv=>whnf);refine aL (fun h=>?_) (fun h=>?_)
   ·have h:a=true:=h;rw[h]at d;rw[d]at f g;obtain rfl:C=14:=f;obtain rfl:O=o:=g;(conv=>whnf);exact rx [] [.same 0,.same 1,.same 2,.same 3,.same 4,.same 5,.same 6,.same 7,.same 8,.same 9,.same 10,.same 3,.same 4,.same 5,.same 6]
   ·have h:a=false:=h;rw[h,Bool.false_or]at d;(conv=>whnf);refine⟨[id],rfl,?_⟩;(conv=>whnf);refine cl [] [] (u) ?_;(conv=>whnf);refine dec (fun j=>?_) (fun j=>?_)
    ·have j:(rl.length:Int)=0:=j;rw[decide_eq_true (by omega)]at d;rw[d]at f g;obtain rfl:C=14:=f;obtain rfl:O=o:=g;(conv=>whnf);exact rx [] [.same 0,.same 1,.same 2,.same 3,.same 4,.same 5,.same 6,.same 7,.same 8,.same 9,.same 10,.same 3,.same 4,.same 5,.same 6]
    ·have j:¬(rl.length:Int)=0:=j;rw[decide_eq_false (by omega)]at d;rw[d]at f g;obtain rfl:C=cN L r [id]:=f;obtain rfl:O=c8 L o b r [id]:=g;(conv=>whnf);refine⟨[id],rfl,?_⟩;(conv=>whnf);refine cl [] [0,1,2,3,4,5,6,7,8,9,10] (w) ?_;(conv=>whnf);exact rx [] [.same 0,.same 1,.same 2,.same 3,.same 4,.same 5,.same 6,.same 7,.same 8,.same 9,.same 10,.same 18,.same 19,.same 20,.same 21]
end Go.Nest
end
section
namespace Go.Nest
open Go Go.AM
structure NS where
 out:Nat→List Int
 todo:List (Int×Int)
def GD(L:List Ob)(s:NS):Nat:=s.todo.length+2*kP fun r=>L.length-(s.out r).length
def BY(L:List Ob)(out:Nat→List Int)(r:Nat)(k:Int):Prop:=(∀m∈cL L k,m∈out r)∧∀e∈(aj L k).entries,e.mode=3→e.id∈out e.av.toNat
structure NI(L:List Ob)(r0:Nat→List Int)(ex:Option (Nat×Int))(s:NS):Prop where
 nd:∀r,r<4→∀k∈s.out r,Nd L r0 r k
 nodup:∀r,r<4→(s.out r).Nodup
 todo:∀p∈s.todo,∃r:Nat,r<4∧p.1=(r:Int)∧p.2∈s.out r
 done:∀r,r<4→∀k∈s.out r,((r:Int),k)∈s.todo∨BY L s.out r k∨ex=some (r,k)
 le:GD L s≤8*L.length
theorem Nd.next{L:List Ob}{r0:Nat→List Int}{r:Nat}{k m:Int}(h:Nd L r0 r k)(hm:m∈cL L k):Nd L r0 r m:=by
 cases h with
 |root d h a=>exact .root d h (a.step hm)
 |link h c b a=>exact .link h c b (a.step hm)
theorem Nd.D0{L:List Ob}(b:ai L){r0:Nat→List Int}{r:Nat}{k:Int}{e:aD}(h:Nd L r0 r k)(he:e∈(aj L k).entries)(a:e.mode=3):Nd L r0 e.av.toNat e.id:=by
 have:=lh b he;exact .link h he a (.base (by simp) (by omega))
end Go.Nest
end
section
namespace Go.Nest
open Go Go.AM
set_option maxRecDepth 10000
def fZ(f:Int→Int→List UInt8→List Fi→List Fi×Int)(pre:List UInt8):List Fi→List Fi→List Fi×Int
 |[],out=>(out,0)
 |x::l,out=>
  if x.mode=3 then
   if(f x.av x.id ((pre++x.path)++[47]) out).2=0 then fZ f pre l (f x.av x.id ((pre++x.path)++[47]) out).1 else f x.av x.id ((pre++x.path)++[47]) out
  else if out.length=60 then(out,5)else fZ f pre l (out++[⟨pre++x.path,x.mode,x.id,x.av⟩])
noncomputable def iD(L:List Ob)(has:Int→Int→Bool)(r id:Int):Bool:= !decide (kindOf L id=3)||(!has r id||(aN L [(aj L id).tree]).any fun k=> !has r k)
noncomputable def dy(L:List Ob)(has:Int→Int→Bool):Nat→Int→Int→List UInt8→List Fi→List Fi×Int
 |0,_,_,_,out=>(out,3)
 |n+1,r,id,pre,out=>
  if iD L has r id=true then(out,14)
  else if(bw L (aj L id).tree).2=0 then fZ (dy L has n) pre (bw L (aj L id).tree).1 out else(out,(bw L (aj L id).tree).2)
noncomputable def ga(L:List Ob)(has:Int→Int→Bool)(r id:Int):List Fi×Int:=
 if(dy L has 6 r id [] []).2=0 then
  if gp none (aH (dy L has 6 r id [] []).1)=0 then(aH (dy L has 6 r id [] []).1,0)else([],gp none (aH (dy L has 6 r id [] []).1))
 else([],(dy L has 6 r id [] []).2)
structure fl(k:Nat)(l:List Fi):Prop where
 len:l.length≤60
 path:∀f∈l,f.path.length≤k
theorem fl.snoc{k:Nat}{l:List Fi}(h:fl k l)(hl:¬l.length=60){f:Fi}(a:f.path.length≤k):fl k (l++[f]):=by
 have:=h.len;refine⟨by rw[List.length_append,List.length_singleton];omega,fun g hg=>?_⟩;rcases List.mem_append.1 hg with hg|hg
 ·exact h.path g hg
 ·rw[List.mem_singleton]at hg;subst hg;exact a
theorem wa{f:Int→Int→List UInt8→List Fi→List Fi×Int}{pre:List UInt8}{k:Nat}(b:∀r id p out,p.length≤pre.length+4001→fl k out→fl k (f r id p out).1)(hk:pre.length+4001≤k):∀{l out:List Fi},(∀x∈l,x.path.length≤4000)→fl k out→fl k (fZ f pre l out).1
 |[],out,_,h=>h
 |x::l,out,d,h=>by
  have i:=d x (by simp);have a:∀x∈l,x.path.length≤4000:=fun y g=>d y (List.mem_cons_of_mem _ g);unfold fZ;have c:=b x.av x.id ((pre++x.path)++[47]) out (by simp only[List.length_append,List.length_singleton];omega) h;split
  ·split
   ·exact wa b hk a c
   ·exact c
  ·split
   ·exact h
   ·rename_i e;exact wa b hk a (h.snoc e (by simp only[List.length_append];omega))
theorem BN{L:List Ob}(c:ai L){has:Int→Int→Bool}{k:Nat}:∀{n:Nat} {r id:Int} {pre:List UInt8} {out:List Fi},pre.length+4001*n≤k→fl k out→fl k (dy L has n r id pre out).1:=by
 intro n;induction n with
 |zero=>intro r id pre out a h;exact h
 |succ n ih=>
  intro r id pre out a h;unfold dy;split
  ·exact h
  ·split
   ·refine wa (fun r id p out d b=>ih ?_ b) ?_ (ya c _).2 h
    ·rw[Nat.mul_succ]at a;omega
    ·rw[Nat.mul_succ]at a;omega
   ·exact h
theorem Fa{k:Nat}{l:List Fi}(h:fl k l):fl k (aH l):=
 ⟨by rw[iG];exact h.len,fun f a=>h.path f ((lC l).mem_iff.1 a)⟩
end Go.Nest
end
section
namespace Go.Nest
open Go Go.AM Go.Proofs
open Go.Proofs.YtpechfcbnoggfaaGreatDoor (tab tabOk)
set_option maxRecDepth 4000
theorem JF(L:List Ob)(o:Nat→List Bool)(b:Nat→List Int)(a:fk b)(q x:Int):ae Tryz.prog 171 [.c (.int .i64 x),.c (.bp [.bp [.bp [.bs 6 Ob an L],.bs 1 Bool af (o 0),.bs 1 Bool af (o 1),.bs 1 Bool af (o 2),.bs 1 Bool af (o 3),.bs 1 Int encI (b 0),.bs 1 Int encI (b 1),.bs 1 Int encI (b 2),.bs 1 Int encI (b 3)]]),.c (.bp [.int .i64 q])] [] (Rt (.c (.bool (!aU ⟨o,b⟩ q x))) []):=by
 refine ak (n:=10) (n0:=0) tabOk Tryz.call171 Tryz.func171 ?_;intro hb;(conv=>whnf);refine cl [] [] (lr L o b a q x) ?_;(conv=>whnf);exact aE rfl
set_option maxHeartbeats 8000000 in
theorem JH(L:List Ob)(D:ai L)(o:Nat→List Bool)(b:Nat→List Int)(I:fk b):∀(n:Nat) (a r id:Int) (pre:List UInt8) (out:List Fi),a+n=6→pre.length+4001*n≤40000→fl 40000 out→ae Tryz.prog 99 [.c (.bp [.bp [.bs 6 Ob an L],.bs 1 Bool af (o 0),.bs 1 Bool af (o 1),.bs 1 Bool af (o 2),.bs 1 Bool af (o 3),.bs 1 Int encI (b 0),.bs 1 Int encI (b 1),.bs 1 Int encI (b 2),.bs 1 Int encI (b 3)]),.c (.int .i64 r),.c (.int .i64 id),.c (.str pre),.c (.int .i64 a),.c (.ptr 0 0)] [.box [.rw 1],.row 4 Fi ao out] (Rt (.c (.int .i64 (dy L (aU ⟨o,b⟩) n r id pre out).2)) [.box [.rw 2],.dead,.row 4 Fi ao (dy L (aU ⟨o,b⟩) n r id pre out).1]):=by
 intro n;induction n with
 |zero=>
  intro a r id pre out Y hp Z;obtain rfl:a=6:=by simpa using Y
  refine ak (n:=112) (n0:=2) tabOk Tryz.call99 Tryz.func99 ?_;intro hb;unfold dy;(conv=>whnf);refine cl [] [] (fc L D id) ?_;(conv=>whnf);(conv=>whnf);exact rx [] [.same 0,.same 1,.same 1]
 |succ n ih=>
  intro a r id pre out Y hp Z;have e:dy L (aU ⟨o,b⟩) (n+1) r id pre out=if iD L (aU ⟨o,b⟩) r id=true then(out,14)else if(bw L (aj L id).tree).2=0 then fZ (dy L (aU ⟨o,b⟩) n) pre (bw L (aj L id).tree).1 out else(out,(bw L (aj L id).tree).2):=rfl
  have g:iD L (aU ⟨o,b⟩) r id=(!decide (kindOf L id=3)||(!aU ⟨o,b⟩ r id||(aN L [(aj L id).tree]).any fun k=> !aU ⟨o,b⟩ r k)):=rfl;rw[←eP]at g;generalize iD L (aU ⟨o,b⟩) r id=G at e g;have J:∀r id p out,p.length≤pre.length+4001→fl 40000 out→fl 40000 (dy L (aU ⟨o,b⟩) n r id p out).1:=fun r id p out t s=>BN D (by omega) s;generalize dy L (aU ⟨o,b⟩) (n+1) r id pre out=W at e⊢;generalize dy L (aU ⟨o,b⟩) n=F at e ih J;have p1:=fc L D id;have p2:=lr L o b I r id;generalize aj L id=ob at e g p1;have p3:=lR L D [ob.tree] (by simp);have N:=fun l=>tv 171 L o b r (fun x=> !aU ⟨o,b⟩ r x) (JF L o b I r) l;have S:=qI L D ob.tree;obtain⟨K,z⟩:=ya D ob.tree;generalize aU ⟨o,b⟩ r id=hs at g p2;generalize aN L [ob.tree]=rl at p3 g;have N:=N rl;generalize (rl.any fun k=> !aU ⟨o,b⟩ r k)=lo at N g;generalize bw L ob.tree=fs at e S K z;obtain⟨l,c⟩:=fs;dsimp only at e S K z;have ac:a≤5:=by omega
  refine ak (n:=112) (n0:=2) tabOk Tryz.call99 Tryz.func99 ?_;intro hb;(conv=>whnf);refine cl [] [] (p1) ?_;(conv=>whnf);refine dec (fun h=>absurd (show(5:Int)<a from h) (by omega)) (fun _=>?_);(conv=>whnf);refine aw (fun t=>?_) (fun t=>?_)
  ·have t:¬ob.kind=3:=t;rw[decide_eq_false t]at g;rw[g]at e;obtain rfl:W=(out,14):=e;(conv=>whnf);exact rx [] [.same 0,.same 1,.same 1]
  have t:ob.kind=3:=t;rw[decide_eq_true t]at g;(conv=>whnf);refine cl [] [] (p2) ?_;(conv=>whnf);refine cO (fun s=>?_) (fun s=>?_)
  ·have s:hs=false:=s;rw[s]at g;rw[g]at e;obtain rfl:W=(out,14):=e;(conv=>whnf);exact rx [] [.same 0,.same 1,.same 1]
  have s:hs=true:=s;rw[s]at g;have g:G=lo:=g;subst g;(conv=>whnf);refine⟨false,.grow,(.l [0,1,2,3,4,5,8,6,7,9,10]),by kernel_rfl,.inl ?_⟩;(conv=>whnf);refine⟨[ob.tree],rfl,?_⟩;(conv=>whnf);refine cl [] [] (p3) ?_;(conv=>whnf);refine cl [] [] (N) ?_;(conv=>whnf);refine aL (fun v=>?_) (fun v=>?_)
  ·have v:G=true:=v;rw[v]at e;obtain rfl:W=(out,14):=e;(conv=>whnf);exact rx [] [.same 0,.same 1,.same 1]
  have v:G=false:=v;rw[v]at e;(conv=>whnf);refine⟨false,.grow,(.l [0,1,2,3,4,5,6,7,8,9,10,11]),by kernel_rfl,.inl ?_⟩;(conv=>whnf);refine cl [] [] (S) ?_;(conv=>whnf);refine aw (fun E=>?_) (fun E=>?_)
  ·have E:¬c=0:=E;obtain rfl:W=(out,c):=e.trans (if_neg E);(conv=>whnf);exact rx [] [.same 0,.same 1,.same 1]
  obtain rfl:c=0:=E;have e:W=fZ F pre l out:=e;(conv=>whnf);refine lp (Nat×List Fi) (fun p=>⟨[(3,.c (.str pre)),(4,.c (.int .i64 a)),(5,.c (.ptr 0 0)),(6,.c (.ptr 3 0)),(16,.c (.int .i64 0)),(67,.c (.rw 4)),(68,.c (.int .i64 l.length)),(69,.c (.int .i64 p.1))],[.box [.rw 2],.dead,.row 4 Fi ao p.2,.box [.bp [.bp [.bs 6 Ob an L],.bs 1 Bool af (o 0),.bs 1 Bool af (o 1),.bs 1 Bool af (o 2),.bs 1 Bool af (o 3),.bs 1 Int encI (b 0),.bs 1 Int encI (b 1),.bs 1 Int encI (b 2),.bs 1 Int encI (b 3)]],.row 4 Fi ao l]⟩) (fun p=>((p.1≤l.length∧fl 40000 p.2)∧fZ F pre (l.drop p.1) p.2=W)∧True) (fun p=>l.length-p.1) (0,out) [] [.same 0,.same 1,.same 1,.same 2,.same 7] ⟨⟨⟨Nat.zero_le _,Z⟩,by rw[List.drop_zero];exact e.symm⟩,trivial⟩ ?_ (fun⟨i,q⟩ u=>?_)
  ·repeat' first|exact trivial|exact rfl|refine And.intro ?_ ?_
  obtain⟨⟨⟨hi,u⟩,d⟩,-⟩:=u;have u:fl 40000 q:=u;have d:fZ F pre (l.drop i) q=W:=d;have ad:=u.len;(conv=>whnf);refine dec (fun H=>?_) (fun H=>?_)
  ·have j:i<l.length:=by have H:(i:Int)<l.length:=H;omega
   have M:l[i]? =some l[i]:=List.getElem?_eq_getElem j;have Q:=z _ (List.getElem_mem j);rw[List.drop_eq_getElem_cons j]at d;generalize l[i]=x at M Q d;unfold fZ at d;(conv=>whnf);refine⟨i,⟨rfl,j⟩,?_⟩;(conv=>whnf);refine⟨x,M,?_⟩;(conv=>whnf);refine⟨(show pre.length+x.path.length≤9223372036854775807 by omega),?_⟩;(conv=>whnf);refine dec (fun w=>?_) (fun w=>?_)
   ·have w:x.mode=3:=w;rw[if_pos w]at d;have O:((pre++x.path)++[47]).length≤pre.length+4001:=by simp only[List.length_append,List.length_singleton];omega
    have T:=ih (a+1) x.av x.id ((pre++x.path)++[47]) q (by omega) (by omega) u;have y:=J x.av x.id ((pre++x.path)++[47]) q O u;generalize F x.av x.id ((pre++x.path)++[47]) q=R at T y d;obtain⟨o',U⟩:=R;dsimp only at T y d;(conv=>whnf);refine⟨(show(pre++x.path).length+1≤9223372036854775807 by rw[List.length_append];omega),?_⟩;(conv=>whnf);refine⟨i64 (by omega) (by omega),?_⟩;(conv=>whnf);refine cl [] [0,2] (T) ?_;(conv=>whnf);refine aw (fun m=>?_) (fun m=>?_)
    ·have m:¬U=0:=m;rw[if_neg m]at d;subst d;(conv=>whnf);exact rx [] [.same 0,.same 1,.same 6]
    ·obtain rfl:U=0:=m;repeat'((conv=>whnf);refine I6 ?_)
     refine ag (i+1,o') [] [.same 0,.same 1,.same 6,.same 3,.same 4] ⟨⟨⟨j,y⟩,d⟩,trivial⟩ (by simp only[];omega) ?_;repeat' first|exact trivial|exact rfl|refine And.intro ?_ ?_
   ·have w:¬x.mode=3:=w;rw[if_neg w]at d;(conv=>whnf);refine dec (fun m=>?_) (fun m=>?_)
    ·have m:(q.length:Int)=60:=m;rw[if_pos (by omega)]at d;subst d;(conv=>whnf);exact rx [] [.same 0,.same 1,.same 2]
    ·have m:¬(q.length:Int)=60:=m;rw[if_neg (by omega)]at d;have P:=u.snoc (by omega) (f:=⟨pre++x.path,x.mode,x.id,x.av⟩) (by simp only[List.length_append];omega);(conv=>whnf);refine⟨false,.grow,(.l [0,1,2,3,4,5,6,7,8]),by kernel_rfl,.inl ?_⟩;(conv=>whnf);refine⟨[⟨pre++x.path,x.mode,x.id,x.av⟩],rfl,?_⟩;(conv=>whnf);refine⟨_,_,rfl,rfl,(by simp only[List.length_append,List.length_cons,List.length_nil];omega),?_⟩;repeat'((conv=>whnf);refine I6 ?_)
     refine ag (i+1,q++[⟨pre++x.path,x.mode,x.id,x.av⟩]) [] [.same 0,.same 1,.same 7,.same 3,.same 4] ⟨⟨⟨j,P⟩,d⟩,trivial⟩ (by simp only[];omega) ?_;repeat' first|exact trivial|exact rfl|refine And.intro ?_ ?_
  ·have H:¬(i:Int)<l.length:=H;rw[List.drop_of_length_le (by omega)]at d;obtain rfl:(q,0)=W:=d;(conv=>whnf);exact rx [] [.same 0,.same 1,.same 2]
end Go.Nest
end
section
namespace Go.Nest
open Go Go.AM
theorem rG{o:Nat→List Bool}{k:Nat}{z:Int}(hk:k<4):gy o k z=true↔0≤z∧(o k)[z.toNat]? =some true:=by
 rw[pz hk,Bool.and_eq_true,Bool.and_eq_true,decide_eq_true_iff,decide_eq_true_iff];constructor
 ·rintro⟨b,c,a⟩;refine⟨b,?_⟩;cases e:(o k)[z.toNat]? with
  |none=>rw[e]at a;cases a
  |some v=>rw[e]at a;rw[show v=true from a]
 ·rintro⟨b,c⟩;have:=(List.getElem?_eq_some_iff.1 c).1;exact⟨b,by omega,by rw[c];rfl⟩
theorem HA{L:List Ob}(b:ai L){id:Int}:(aN L [id]).length=0↔kindOf L id=0:=by
 constructor
 ·intro h;refine Decidable.byContradiction fun e=>?_;have:id∈aN L [id]:=(iI b).2 (.base (by simp) e);rw[List.eq_nil_of_length_eq_zero h]at this;cases this
 ·intro h
  have:aN L [id]=[]:=List.eq_nil_iff_forall_not_mem.2 fun x c=>by
   have f:=(iI b).1 c;clear c;induction f with
   |base a d=>rw[List.mem_singleton]at a;subst a;exact d h
   |step _ _ ih=>exact ih
  rw[this];rfl
end Go.Nest
end
section
namespace Go.Nest
open Go Go.AM
structure Sm(L:List Ob)(o:Nat→List Bool)(w:Nat→List Int):Prop where
 len:∀k,k<4→(o k).length≤L.length
 eq:∀k,k<4→w k=Gi o (k:Int) L.length
theorem Je{L:List Ob}{o:Nat→List Bool}{b r0:Nat→List Int}{q:Nat}(hq:q<4){z:Int}:gy (gK L o b r0) q z=(gy o q z&&jX b (fq L r0) q z):=by
 rw[Bool.eq_iff_iff,Bool.and_eq_true,rG hq,rG hq,and_assoc];refine and_congr_right fun a=>?_;have e:((z.toNat:Nat):Int)=z:=by omega
 unfold gK lW;rw[List.getElem?_mapIdx];show Option.map (fun v=>v&&jX b (fq L r0) q ((z.toNat:Nat):Int)) (o q)[z.toNat]? =some true↔_;rw[e];cases (o q)[z.toNat]? with
 |none=>simp
 |some v=>simp
end Go.Nest
end
section
namespace Go.Nest
open Go Go.AM Go.Proofs
open Go.Proofs.YtpechfcbnoggfaaGreatDoor (tab tabOk)
set_option maxRecDepth 4000
theorem yg{l:List Fi}(h:fl 40000 l):∀f∈l,f.path.length≤4000000:=fun f a=>by have:=h.path f a;omega
set_option maxHeartbeats 1000000 in
theorem JG(L:List Ob)(g:ai L)(o:Nat→List Bool)(b:Nat→List Int)(e:fk b)(r id:Int):ae Tryz.prog 38 [.c (.bp [.bp [.bs 6 Ob an L],.bs 1 Bool af (o 0),.bs 1 Bool af (o 1),.bs 1 Bool af (o 2),.bs 1 Bool af (o 3),.bs 1 Int encI (b 0),.bs 1 Int encI (b 1),.bs 1 Int encI (b 2),.bs 1 Int encI (b 3)]),.c (.int .i64 r),.c (.int .i64 id)] [] (Rt (.aC [(false,[.rw 0]),(false,[.int .i64 (ga L (aU ⟨o,b⟩) r id).2])]) [.row 4 Fi ao (ga L (aU ⟨o,b⟩) r id).1]):=by
 refine iX (n:=26) (n0:=0) tabOk Tryz.call38 Tryz.func38 ?_;intro hb;have j:=JH L g o b e 6 0 r id [] [] (by decide) (by decide) ⟨by simp,fun f h=>by cases h⟩;have a:=BN g (has:=aU ⟨o,b⟩) (k:=40000) (n:=6) (r:=r) (id:=id) (pre:=[]) (out:=[]) (by decide) ⟨by simp,fun f h=>by cases h⟩;unfold ga;generalize dy L (aU ⟨o,b⟩) 6 r id [] []=R at*;obtain⟨l,c⟩:=R;dsimp only at j a⊢;have i:=Fa a;have p:=IG l (by have:=a.len;omega) (yg a);have q:=xj (aH l) i.len (yg i);generalize gp none (aH l)=d at*;generalize aH l=m at*;refine XM.seq ?_;(conv=>whnf);refine XM.seq ?_;(conv=>whnf);refine XM.le (t:=⟨[(0,.c (.bp [.bp [.bs 6 Ob an L],.bs 1 Bool af (o 0),.bs 1 Bool af (o 1),.bs 1 Bool af (o 2),.bs 1 Bool af (o 3),.bs 1 Int encI (b 0),.bs 1 Int encI (b 1),.bs 1 Int encI (b 2),.bs 1 Int encI (b 3)])),(1,.c (.int .i64 r)),(2,.c (.int .i64 id)),(8,.c (.ptr 0 0))],[.box [.rw 1],.row 4 Fi ao []]⟩) [] [.same 0,.new] (by repeat' first|exact trivial|exact rfl|refine And.intro ?_ ?_) ?_;refine XM.of ?_;(conv=>whnf);refine cl [] [0,1] (j) ?_;(conv=>whnf);refine aw (fun h=>?_) (fun h=>?_)
 ·have h:¬c=0:=h;rw[if_neg h];(conv=>whnf);exact rx [] [.new]
 ·obtain rfl:c=0:=h;rw[if_pos rfl];(conv=>whnf);refine cl [] [] (p) ?_;(conv=>whnf);refine cl [] [] (q) ?_;(conv=>whnf);refine aw (fun h=>?_) (fun h=>?_)
  ·have h:¬d=0:=h;rw[if_neg h];(conv=>whnf);exact rx [] [.new]
  ·obtain rfl:d=0:=h;rw[if_pos rfl];(conv=>whnf);exact rx [] [.same 3]
end Go.Nest
end
section
namespace Go.Nest
open Go Go.AM Go.Proofs
open Go.Proofs.YtpechfcbnoggfaaGreatDoor (tab tabOk)
set_option maxRecDepth 4000
def kU(im:List (List Int)):Prop:=∀k,(cJ im k).length≤600
theorem kU.put{im:List (List Int)}(h:kU im){n:Nat}{v:List Int}(hv:v.length≤600):kU (im.set n v):=fun k=>by
 have:=h k;unfold cJ at this⊢;rw[List.getElem?_set];split
 ·split
  ·exact hv
  ·exact Nat.zero_le _
 ·exact this
theorem kU.start{n:Nat}:kU (List.replicate n []):=fun k=>by
 unfold cJ;rw[List.getElem?_replicate];split<;>exact Nat.zero_le _
theorem E9 {M : List Ob} (a : ai M) {im : List (List Int)} (hl : kU im) (h : cZ (fun x => kindOf M x = 3) im) : Fit im := ⟨hl,fun k x b=>by
 have c:=h k x b;have d:=dh (l:=M) (id:=x) (by omega);have:=a.len;omega⟩
theorem E5{L:List Ob}{dir:List UInt8}{up:List Int}{o:Ob}(h:up.length≤600):(bL L dir up o).1.length≤600:=by
 unfold bL;split
 ·exact h
 split
 ·exact Nat.zero_le _
 split
 ·exact h
 ·show 1≤600;decide
theorem IH(dir:List UInt8)(id:Int)(r:List Int)(L:List Ob)(im:List (List Int)):bH dir (id::r) L im=if(dP L dir im id).2.1≠0 then((dP L dir im id).2.1,(dP L dir im id).2.2,im)else bH dir r (dP L dir im id).2.2 (im.set id.toNat (dP L dir im id).1):=rfl
theorem II(dir:List UInt8)(L:List Ob)(im:List (List Int)):bH dir [] L im=(0,L,im):=rfl
structure B7(L:List Ob)(dir:List UInt8)(line:List Int)(i:Nat)(M:List Ob)(im:List (List Int)):Prop where
 le:i≤line.length
 ok:ai M
 pre:L<+:M
 imp:cZ (fun x=>kindOf M x=3) im
 len:im.length=L.length
 fit:kU im
 eq:bH dir line L (List.replicate L.length [])=bH dir (line.drop i) M im
set_option maxHeartbeats 1000000 in
theorem IP(L:List Ob)(E:ai L)(id:Int)(dir:List UInt8)(hd:dir.length≤4000000):ae Tryz.prog 135 [.c (.ptr 0 0),.c (.int .i64 id),.c (.str dir)] [.box [.rw 1],.row 6 Ob an L] (Rt (.aC [(false,[.int .i64 (bT L id dir).1]),(false,[.int .i64 (bT L id dir).2.1])]) [.box [.rw 2],.dead,.row 6 Ob an (bT L id dir).2.2]):=by
 refine ak (n:=76) (n0:=2) tabOk Tryz.call135 Tryz.func135 ?_;intro hb;have al:=E.len;have ha:=qd L E id;(conv=>whnf);refine cl [] [] (ha) ?_;by_cases w:kindOf L id=3
 ·have H:bX L id=(aW L id,0):=if_pos w;have Z:iU L (aW L id):=fun y z=>((kG E w).1 z).kind E w;have ap:(aW L id).length≤L.length:=qb
  have e:bT L id dir=if(bH dir (aW L id) L (List.replicate L.length [])).1≠0 then(0,(bH dir (aW L id) L (List.replicate L.length [])).1,(bH dir (aW L id) L (List.replicate L.length [])).2.1)else
    ((kI (cJ (bH dir (aW L id) L (List.replicate L.length [])).2.2 id)).1,(kI (cJ (bH dir (aW L id) L (List.replicate L.length [])).2.2 id)).2,(bH dir (aW L id) L (List.replicate L.length [])).2.1):=by
   unfold bT;rw[H,if_neg (by simp)]
  have hid:=(dh (l:=L) (id:=id) (by omega));rw[H];generalize aW L id=a at*;generalize bT L id dir=RR at*;(conv=>whnf);refine cl [] [] (o9 L) ?_;(conv=>whnf);refine⟨L.length,[],⟨rfl,rfl⟩,rfl,(show L.length*24≤140737488355328 by omega),?_⟩;(conv=>whnf);refine lp (Nat×List Ob×List (List Int)) (fun p=>⟨[(0,.c (.ptr 0 0)),(1,.c (.int .i64 id)),(10,.c (.ptr 5 0)),(32,.c (.rw 3)),(33,.c (.int .i64 a.length)),(34,.c (.int .i64 p.1))],[.box [.rw 2],.dead,.row 6 Ob an p.2.1,.row 1 Int encI a,.row 1 (List Int) (bf 1 encI) p.2.2,.box [.ptr 0 0,.str dir,.rw 4]]⟩) (fun p=>B7 L dir a p.1 p.2.1 p.2.2∧True) (fun p=>a.length-p.1) (0,L,List.replicate L.length []) [] [.same 0,.same 1,.same 1,.same 2,.same 3,.same 4] ?_ ?_ (fun⟨i,M,f⟩ U=>?_)
  ·exact⟨⟨Nat.zero_le _,E,List.prefix_refl _,cZ.start,List.length_replicate,kU.start,rfl⟩,trivial⟩
  ·repeat' first|exact trivial|exact rfl|refine And.intro ?_ ?_
  obtain⟨⟨U,u,F,m,s,r,b⟩,-⟩:=U;dsimp only at U u F m s r b;(conv=>whnf);refine dec (fun I=>?_) (fun I=>?_)
  ·have g:i<a.length:=by have I:(i:Int)<a.length:=I;omega
   have Y:a[i]? =some a[i]:=List.getElem?_eq_getElem g;have ac:=Z _ (List.getElem_mem g);rw[List.drop_eq_getElem_cons g]at b;have ar:=dh (l:=L) (id:=a[i]) (by omega);generalize a[i]=x at*;have am:kindOf M x=3:=by rw[c9 F (by omega)];exact ac
   have N:∀k∈(aj M x).parents,0≤k∧k.toNat<f.length:=fun k w=>by
    rw[ext_get F (by omega)]at w;have:=rM E w;rw[s];exact⟨this.1,this.2.2⟩
   have K:=E9 u r m;have ad:=(u.get (id:=x) (by omega)).parents;have O:=E8 M u dir hd f (aj M x) ad N K;have S:=E5 (L:=M) (dir:=dir) (o:=aj M x) (sh K (aj M x).parents).2.1;obtain⟨P,D,q3⟩:=lB u (dir:=dir) (up:=cE f (aj M x).parents) (o:=aj M x);have Q:=uk u (dir:=dir) (up:=cE f (aj M x).parents) (o:=aj M x) m.up;have es:dP M dir f x=bL M dir (cE f (aj M x).parents) (aj M x):=rfl;rw[IH,es]at b;generalize bL M dir (cE f (aj M x).parents) (aj M x)=R at*;obtain⟨v,c,T⟩:=R;dsimp only at O P D q3 Q S b;have q:f[x.toNat]? =some f[x.toNat]:=List.getElem?_eq_getElem (by omega);(conv=>whnf);refine⟨i,⟨rfl,g⟩,?_⟩;(conv=>whnf);refine⟨x,Y,?_⟩;(conv=>whnf);refine cl [] [] (fc M u x) ?_;(conv=>whnf);refine⟨true,.any,(.alt [0,1,2,4,5] [3,6] fun j=>bif Nat.beq j 3 then(.l [6,7,8,9,10,11,12,13])else bif Nat.beq j 6 then(.alt [] [3,7] fun j=>bif Nat.beq j 3 then(.l [7,8,9,10,11,12,13])else bif Nat.beq j 7 then(.l [8,9,10,3,11,12,13])else .l [])else .l []),by kernel_rfl,.inl ?_⟩;(conv=>whnf);refine And.intro ?_ ?_
   ·(conv=>whnf);refine cl [] [5,0,2,4] (O) ?_;(conv=>whnf);refine⟨x.toNat,⟨by omega,by omega⟩,?_⟩;(conv=>whnf);refine⟨_,v,q,⟨Nat.le_refl 1,rfl⟩,?_⟩;(conv=>whnf);refine aw (fun d=>?_) (fun d=>?_)
    ·rw[if_pos d]at b;rw[b,if_pos d]at e;subst e;(conv=>whnf);exact rx [] [.same 0,.same 1,.same 7]
    ·rw[if_neg (fun h=>h d)]at b;repeat'((conv=>whnf);refine I6 ?_)
     refine ag (i+1,T,f.set x.toNat v) [] [.same 0,.same 1,.same 7,.same 3,.same 4,.same 5] ⟨⟨g,P,F.trans D,cZ.put (m.mono fun y z=>by rw[c9 D (by omega)];exact z) (Q d),by rw[List.length_set];exact s,r.put S,b⟩,trivial⟩ (by simp only[];omega) ?_;repeat' first|exact trivial|exact rfl|refine And.intro ?_ ?_
   (conv=>whnf);refine And.intro ?_ ?_
   ·(conv=>whnf);refine cl [] [5,0,2,4] (O) ?_;(conv=>whnf);refine⟨x.toNat,⟨by omega,by omega⟩,?_⟩;(conv=>whnf);refine⟨_,v,q,⟨Nat.le_refl 1,rfl⟩,?_⟩;(conv=>whnf);refine aw (fun d=>?_) (fun d=>?_)
    ·rw[if_pos d]at b;rw[b,if_pos d]at e;subst e;(conv=>whnf);exact rx [] [.same 0,.same 1,.same 7]
    ·rw[if_neg (fun h=>h d)]at b;repeat'((conv=>whnf);refine I6 ?_)
     refine ag (i+1,T,f.set x.toNat v) [] [.same 0,.same 1,.same 7,.same 3,.same 4,.same 5] ⟨⟨g,P,F.trans D,cZ.put (m.mono fun y z=>by rw[c9 D (by omega)];exact z) (Q d),by rw[List.length_set];exact s,r.put S,b⟩,trivial⟩ (by simp only[];omega) ?_;repeat' first|exact trivial|exact rfl|refine And.intro ?_ ?_
   ·(conv=>whnf);refine cl [] [5,0,2,4] (O) ?_;(conv=>whnf);refine⟨x.toNat,⟨by omega,by omega⟩,?_⟩;(conv=>whnf);refine⟨_,v,q,⟨Nat.le_refl 1,rfl⟩,?_⟩;(conv=>whnf);refine aw (fun d=>?_) (fun d=>?_)
    ·rw[if_pos d]at b;rw[b,if_pos d]at e;subst e;(conv=>whnf);exact rx [] [.same 0,.same 1,.same 7]
    ·rw[if_neg (fun h=>h d)]at b;repeat'((conv=>whnf);refine I6 ?_)
     refine ag (i+1,T,f.set x.toNat v) [] [.same 0,.same 1,.same 7,.same 3,.same 4,.same 5] ⟨⟨g,P,F.trans D,cZ.put (m.mono fun y z=>by rw[c9 D (by omega)];exact z) (Q d),by rw[List.length_set];exact s,r.put S,b⟩,trivial⟩ (by simp only[];omega) ?_;repeat' first|exact trivial|exact rfl|refine And.intro ?_ ?_
  ·obtain rfl:i=a.length:=by have I:¬(i:Int)<a.length:=I;omega
   rw[List.drop_length]at b;rw[b,II]at e;rw[if_neg (by simp)]at e;dsimp only at e;have t:id.toNat<f.length:=by omega
   have q:f[id.toNat]? =some f[id.toNat]:=List.getElem?_eq_getElem t;have W:cJ f id=f[id.toNat]:=by unfold cJ;rw[q];rfl
   rw[W]at e;generalize f[id.toNat]=out at*;(conv=>whnf);refine⟨id.toNat,⟨by omega,t⟩,?_⟩;(conv=>whnf);refine⟨out,q,?_⟩;(conv=>whnf);refine dec (fun d=>?_) (fun d=>?_)
   ·have d:(out.length:Int)=0:=d;rw[show kI out=(0,9)from if_pos (by omega)]at e;subst e;(conv=>whnf);exact rx [] [.same 0,.same 1,.same 2]
   have d:¬(out.length:Int)=0:=d;(conv=>whnf);refine dec (fun J=>?_) (fun J=>?_)
   ·have J:(out.length:Int)=1:=J;obtain⟨y,rfl⟩:=List.length_eq_one_iff.1 (show out.length=1 by omega);rw[show kI [y]=(y,0)from rfl]at e;subst e;(conv=>whnf);refine⟨0,y,rfl,rfl,?_⟩;(conv=>whnf);exact rx [] [.same 0,.same 1,.same 2]
   ·have J:¬(out.length:Int)=1:=J;rw[show kI out=(0,5)from(if_neg (by omega)).trans (if_neg (by omega))]at e;subst e;(conv=>whnf);exact rx [] [.same 0,.same 1,.same 2]
 ·have H:bX L id=([],9):=if_neg w;have e:bT L id dir=(0,9,L):=by unfold bT;rw[H];rfl
  rw[e,H];(conv=>whnf);exact rx [] [.same 0,.same 1,.same 1]
end Go.Nest
end
section
namespace Go.Nest
open Go Go.AM
theorem zq{L:List Ob}{ids:List Int}{j k:Int}(h:bO L ids j)(g:bO L [j] k):bO L ids k:=by
 induction g with
 |base a b=>rw[List.mem_singleton]at a;subst a;exact h
 |step _ b ih=>exact ih.step b
theorem xV{L:List Ob}{j:Int}{e:aD}(h:e∈(aj L j).entries)(hm:e.mode≠3):e.id∈cL L j:=by
 unfold cL;exact List.mem_append.2 (.inl (List.mem_map.2 ⟨e,List.mem_filter.2 ⟨h,decide_eq_true hm⟩,rfl⟩))
theorem BE{L:List Ob}{j:Int}(h:kindOf L j=3):(aj L j).tree∈cL L j:=by
 unfold cL;rw[eP,if_pos h];exact List.mem_append.2 (.inr (List.mem_append.2 (.inl (by simp))))
def sA(L:List Ob)(f:Fi)(e:aD):Prop:=e.mode=3∧e.id=f.id∧e.av=f.av
theorem cu.link{ne:Bool}{L:List Ob}{es:List aD}{l:List Fi}(h:cu ne L es l):∀f∈l,f.mode=3→(∃e∈es,sA L f e)∨∃d∈es,d.mode=2∧∃k,bO L [d.id] k∧∃e∈(aj L k).entries,sA L f e:=by
 induction h with
 |nil=>intro f hf;cases hf
 | @file e es l o h ih=>
  intro f hf a;rcases List.mem_cons.1 hf with rfl|hf
  ·exact .inl ⟨e,by simp,a,rfl,rfl⟩
  ·rcases ih f hf a with⟨x,b,c⟩|⟨d,b,c⟩
   ·exact .inl ⟨x,List.mem_cons_of_mem _ b,c⟩
   ·exact .inr ⟨d,List.mem_cons_of_mem _ b,c⟩
 | @dir e es m l o r s b c i j=>
  intro f hf a;rcases List.mem_append.1 hf with hf|hf
  ·obtain⟨g,q,rfl⟩:=List.mem_map.1 hf;have hb:bO L [e.id] e.id:= .base (by simp) (by rw[r];decide);refine .inr ⟨e,by simp,o,?_⟩;rcases i g q a with⟨x,n,p⟩|⟨d,n,p,k,k3,t⟩
   ·exact⟨e.id,hb,x,n,p⟩
   ·exact⟨k,zq (hb.step (xV n (by omega))) k3,t⟩
  ·rcases j f hf a with⟨x,b,c⟩|⟨d,b,c⟩
   ·exact .inl ⟨x,List.mem_cons_of_mem _ b,c⟩
   ·exact .inr ⟨d,List.mem_cons_of_mem _ b,c⟩
theorem x7{L:List Ob}(j:ai L){t:Int}{f:Fi}(h:f∈(bw L t).1)(hm:f.mode=3):∃k,bO L [t] k∧∃e∈(aj L k).entries,sA L f e:=by
 have a:(bw L t).2=0:=Decidable.byContradiction fun a=>by rw[tP a]at h;cases h
 obtain⟨⟨g,i⟩,-⟩:=oQ j a;have hb:bO L [t] t:= .base (by simp) (by rw[g];decide);rcases i.link f h hm with⟨x,b,c⟩|⟨d,b,c,k,k3,l⟩
 ·exact⟨t,hb,x,b,c⟩
 ·exact⟨k,zq (hb.step (xV b (by omega))) k3,l⟩
theorem Nd.o8{L:List Ob}{r0:Nat→List Int}{r:Nat}{k m:Int}(h:Nd L r0 r k)(hl:bO L [k] m):Nd L r0 r m:=by
 induction hl with
 |base a b=>rw[List.mem_singleton]at a;subst a;exact h
 |step _ b ih=>exact ih.next b
theorem sO{α:Type}{p q:α→Bool}:∀{l:List α},(∀x∈l,p x=q x)→l.any p=l.any q
 |[],_=>rfl
 |x::l,h=>by rw[List.any_cons,List.any_cons,h x (by simp),sO fun y a=>h y (List.mem_cons_of_mem _ a)]
theorem wb{f g:Int→Int→List UInt8→List Fi→List Fi×Int}{pre:List UInt8}:∀{l out:List Fi},(∀x∈l,x.mode=3→∀p out,f x.av x.id p out=g x.av x.id p out)→fZ f pre l out=fZ g pre l out
 |[],out,_=>rfl
 |x::l,out,h=>by
  have a:∀out,fZ f pre l out=fZ g pre l out:=fun out=>wb fun y c=>h y (List.mem_cons_of_mem _ c);rw[fZ,fZ,a,a];split
  ·rename_i b;rw[h x (by simp) b]
  ·rfl
theorem JE{L:List Ob}(b:ai L){r0:Nat→List Int}{h1 h2:Int→Int→Bool}(f:∀(r:Nat) (k:Int),Nd L r0 r k→h1 r k=h2 r k):∀(n r:Nat) (id:Int) (pre:List UInt8) (out:List Fi),(¬kindOf L id=0→Nd L r0 r id)→dy L h1 n r id pre out=dy L h2 n r id pre out:=by
 intro n;induction n with
 |zero=>intro r id pre out hid;rfl
 |succ n ih=>
  intro r id pre out hid
  have i:iD L h1 r id=iD L h2 r id:=by
   unfold iD;by_cases a:kindOf L id=3
   ·have c:=hid (by omega);rw[f r id c,sO (p:=fun k=> !h1 r k) (q:=fun k=> !h2 r k) fun k d=>by rw[f r k ((c.next (BE a)).o8 ((iI b).1 d))]]
   ·rw[decide_eq_false a];rfl
  rw[dy,dy,i];split
  ·rfl
  ·rename_i h;split
   ·refine wb fun x l j p out=>?_;have a:kindOf L id=3:=Decidable.byContradiction fun a=>h (by unfold iD;rw[decide_eq_false a];rfl);have c:=(hid (by omega)).next (BE a);obtain⟨k,m,e,g,k3,o,s⟩:=x7 b l j;have t:=lh b g
    have:=ih x.av.toNat x.id p out fun _=>by
     have:=(c.o8 m).D0 b g k3;rwa[o,s]at this
    rwa[show((x.av.toNat:Nat):Int)=x.av by omega]at this
   ·rfl
theorem JJ{L:List Ob}(a:ai L){r0:Nat→List Int}{h1 h2:Int→Int→Bool}(b:∀(r:Nat) (k:Int),Nd L r0 r k→h1 r k=h2 r k){r:Nat}{id:Int}(hr:r<4)(hid:id∈r0 r):ga L h1 r id=ga L h2 r id:=by
 unfold ga;rw[JE a b 6 r id [] [] fun c=>.root hr hid (.base (by simp) c)]
theorem FH{b bN:Nat→List Int}{q:Nat}{r:Nat}{k:Int}(hr:r<4)(h1:(q:Int)∈cm b r)(h2:k∈bN r):jX b bN q k=true:=by
 unfold jX;rw[List.any_eq_true];exact⟨r,List.mem_range.2 hr,by rw[Bool.and_eq_true,decide_eq_true_iff,decide_eq_true_iff];exact⟨h1,h2⟩⟩
theorem yN{L:List Ob}(a:ai L){o:Nat→List Bool}{b r0:Nat→List Int}(hb:fk b)(r:Nat)(k:Int)(h:Nd L r0 r k):aU ⟨gK L o b r0,b⟩ r k=aU ⟨o,b⟩ r k:=by
 have d:=h.lt a;unfold aU;congr 1
 refine sO fun q c=>?_;have f:=(rf hb (bQ.2 ⟨r,d,rfl⟩)).2 q c;have e:((q.toNat:Nat):Int)=q:=by omega
 dsimp only;have:=Je (L:=L) (o:=o) (b:=b) (r0:=r0) (q:=q.toNat) (by omega) (z:=k);rw[e]at this;rw[this,FH d (by rw[e];exact c) ((zT a).2 h),Bool.and_true]
end Go.Nest
end
section
namespace Go.Nest
open Go Go.AM
theorem zZ:∀{l:List (List UInt8)},(∀x∈l,bJ x=0)→eT l=0
 |[],_=>rfl
 |x::l,h=>by
  unfold eT;rw[if_pos (h x (by simp))];exact zZ fun y a=>h y (List.mem_cons_of_mem _ a)
theorem DH{dir p:List UInt8}(h:(bZ (dir++47::p)).2=0):(bZ p).2=0:=by
 obtain⟨a,b,-⟩:=lT h;rw[pL]at a b;rw[List.length_append]at b;exact vJ (zZ fun x c=>nT a x (List.mem_append.2 (.inr c))) (by omega)
end Go.Nest
end
