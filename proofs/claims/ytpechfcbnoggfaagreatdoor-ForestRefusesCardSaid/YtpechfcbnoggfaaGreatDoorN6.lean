/- part -/
import Derived.Test.YtpechfcbnoggfaaGreatDoorV12
import Derived.Test.YtpechfcbnoggfaaGreatDoorW4
import Derived.Test.YtpechfcbnoggfaaGreatDoorAmH
import Derived.Test.YtpechfcbnoggfaaGreatDoorG9
set_option linter.unusedVariables false
set_option linter.unusedSimpArgs false
section
namespace Go.Nest
open Go Go.AM Go.Proofs
open Go.Proofs.YtpechfcbnoggfaaGreatDoor (tab tabOk)
set_option maxRecDepth 4000
def gR(out:List Int)(x:Int):List Int:=if out.getLast? =some x then out else out++[x]
def gu(l:List Int):List Int:=l.foldl gR []
theorem nH{l:List Int}{i:Nat}(h:i<l.length):gu (l.take (i+1))=gR (gu (l.take i)) l[i]:=by
 unfold gu;rw[List.take_succ_eq_append_getElem h,List.foldl_append];rfl
theorem BM{out:List Int}{x:Int}:(gR out x).getLast? =some x:=by
 unfold gR;split
 ·assumption
 ·simp
theorem px{l:List Int}{i:Nat}(h0:0<i)(h:i≤l.length):(gu (l.take i)).getLast? =some (l[i-1]'(by omega)):=by
 obtain⟨j,rfl⟩:∃j,i=j+1:=⟨i-1,by omega⟩;rw[nH (by omega)];exact BM
structure ig(l r:List Int)(k j:Nat):Prop where
 kj:k<j
 jl:j≤l.length
 len:r.length=l.length
 pre:r.take k=gu (l.take j)
 suf:r.drop (j-1)=l.drop (j-1)
theorem ig.at{l r:List Int}{k j:Nat}(h:ig l r k j){i:Nat}(hj:j-1≤i)(hi:i<l.length):r[i]? =some l[i]:=by
 have:=congrArg (·[i-(j-1)]?) h.suf;simp only[List.getElem?_drop]at this;rw[show j-1+(i-(j-1))=i by omega]at this;rw[this,List.getElem?_eq_getElem hi]
theorem ig.oN{l r:List Int}{k j:Nat}(h:ig l r k j):r.drop j=l.drop j:=by
 have h0:=h.kj;have:=congrArg (List.drop 1) h.suf;rwa[List.drop_drop,List.drop_drop,show j-1+1=j by omega]at this
theorem ig.skip{l r:List Int}{k j:Nat}(h:ig l r k j)(hj:j<l.length)(he:l[j]=l[j-1]'(by omega)):ig l r k (j+1):=by
 have h0:=h.kj;refine⟨by omega,hj,h.len,?_,h.oN⟩;rw[nH hj,h.pre];unfold gR;rw[if_pos (by rw[px (by omega) (by omega),he])]
theorem ig.bQ{l r:List Int}{k j:Nat}(h:ig l r k j)(hj:j<l.length)(he:l[j]≠l[j-1]'(by omega)):ig l (r.set k l[j]) (k+1) (j+1):=by
 have h0:=h.kj;have hi:k<r.length:=by rw[h.len];omega
 refine⟨by omega,hj,by rw[List.length_set];exact h.len,?_,?_⟩
 ·rw[nH hj,←h.pre,List.take_succ_eq_append_getElem (by rw[List.length_set];exact hi),List.getElem_set_self,List.take_set_of_le (Nat.le_refl _)];unfold gR;rw[if_neg];rw[h.pre,px (by omega) (by omega)];intro e;exact he (Option.some.inj e).symm
 ·rw[Nat.add_sub_cancel,List.drop_set_of_lt (by omega),h.oN]
theorem we(l:List Int)(hl:l.length≤1000000):ae Tryz.prog 74 [.c (.rw 0)] [.row 1 Int encI l] (Rt (.c (.rw 1)) [.dead,.row 1 Int encI (gu l)]):=by
 refine ao (n:=61) (n0:=1) tabOk Tryz.call74 Tryz.func74 ?_;intro hb;(conv=>whnf);refine dec (fun h=>?_) (fun h=>?_)
 ·have e:gu l=l:=by
   match l,h with
   |[],_=>rfl
   |[x],_=>rfl
   |_::_::_,h=>simp only[List.length_cons]at h;omega
  rw[e];(conv=>whnf);exact rx [] [.same 0,.same 0]
 have h:2≤l.length:=by omega
 (conv=>whnf);refine lp Nat (fun k=>⟨[(0,.c (.rw 0)),(3,.c (.int .i64 k))],[.row 1 Int encI l]⟩) (fun k=>(1≤k∧k≤l.length)∧gu (l.take k)=l.take k) (fun k=>l.length-k) 1 [] [.same 0] ?_ ?_ (fun k hk=>?_)
 ·refine⟨⟨Nat.le_refl _,by omega⟩,?_⟩;match l,h with
  |x::l,_=>rfl
 ·repeat' first|exact trivial|exact rfl|refine And.intro ?_ ?_
 obtain⟨⟨h1,h2⟩,h3⟩:=hk;(conv=>whnf);refine dec (fun h4=>?_) (fun h4=>?_)
 ·have hlt:k<l.length:=by omega
  (conv=>whnf);refine⟨false,.grow,(.l [0,1,2,3,4,5,6,7,8,9]),by kernel_rfl,.inl ?_⟩;(conv=>whnf);refine⟨k,⟨rfl,hlt⟩,?_⟩;(conv=>whnf);refine⟨l[k],List.getElem?_eq_getElem hlt,?_⟩;(conv=>whnf);refine⟨i64 (by omega) (by omega),?_⟩;(conv=>whnf);refine⟨k-1,⟨by omega,by omega⟩,?_⟩;(conv=>whnf);refine⟨l[k-1],List.getElem?_eq_getElem (by omega),?_⟩;(conv=>whnf);refine dec (fun h5=>?_) (fun h5=>?_)
  ·(conv=>whnf);refine⟨k,l.length,rfl,rfl,⟨h2,Nat.le_refl _⟩,?_⟩;(conv=>whnf);refine lp (Nat×Nat×List Int) (fun|(i,j,r)=>⟨[(0,.c (.rw 0)),(3,.c (.int .i64 i)),(4,.c (.sw 1 0 k (l.length-k))),(5,.c (.int .i64 ((j:Int)-k)))],[.row 1 Int encI r]⟩) (fun x=>ig l x.2.2 x.1 x.2.1∧k≤x.1) (fun x=>l.length-x.2.1) (k,k+1,l) [] [.same 0] ?_ ?_ (fun x hx=>?_)
   ·refine⟨⟨Nat.lt_succ_self _,hlt,rfl,?_,rfl⟩,Nat.le_refl _⟩;rw[nH hlt,h3];unfold gR;rw[if_pos];rw[←h3,px (by omega) (by omega),h5]
   ·repeat' first|exact trivial|exact rfl|refine And.intro ?_ ?_
    show C.int IntKind.i64 _=C.int IntKind.i64 _;congr 1;omega
   obtain⟨i,j,r⟩:=x;obtain⟨hx,hki⟩:=hx;dsimp only at hx hki;have g1:=hx.kj;have g2:=hx.jl;have g3:=hx.len;(conv=>whnf);refine dec (fun h6=>?_) (fun h6=>?_)
   ·have h6:(j:Int)-k<((l.length-k:Nat):Int):=by
     have e:((List.drop k r).take (l.length-k)).length=l.length-k:=by simp;omega
     rw[←e];exact h6
    have hj:j<l.length:=by omega
    (conv=>whnf);refine⟨false,.grow,(.l [0,1,2,3,4,5,6,7,8,9]),by kernel_rfl,.inl ?_⟩;(conv=>whnf);refine⟨j-k,⟨by omega,by omega⟩,?_⟩;(conv=>whnf);refine⟨l[j],?_,?_⟩
    ·have:=hx.at (i:=j) (by omega) hj;first|exact this|(rw[show k+(j-k)=j by omega];exact this)
    (conv=>whnf);refine⟨i64 (by omega) (by omega),?_⟩;(conv=>whnf);refine⟨j-k-1,⟨by omega,by omega⟩,?_⟩;(conv=>whnf);refine⟨l[j-1],?_,?_⟩
    ·have:=hx.at (i:=j-1) (by omega) (by omega);first|exact this|(rw[show k+(j-k-1)=j-1 by omega];exact this)
    (conv=>whnf);refine av (fun h7=>?_) (fun h7=>?_)
    ·(conv=>whnf);refine⟨j-k,⟨by omega,by omega⟩,?_⟩;(conv=>whnf);refine⟨l[j],?_,?_⟩
     ·have:=hx.at (i:=j) (by omega) hj;first|exact this|(rw[show k+(j-k)=j by omega];exact this)
     (conv=>whnf);refine⟨i,⟨rfl,by omega⟩,?_⟩;(conv=>whnf);refine⟨_,l[j],List.getElem?_eq_getElem (by omega),⟨Nat.le_refl _,rfl⟩,?_⟩;repeat'((conv=>whnf);refine I6 ?_)
     refine ag (i+1,j+1,r.set i l[j]) [] [.same 0] ⟨hx.bQ hj h7,by omega⟩ (by simp only[];omega) ?_;repeat' first|exact trivial|exact rfl|refine And.intro ?_ ?_
     show C.int IntKind.i64 _=C.int IntKind.i64 _;congr 1;omega
    ·repeat'((conv=>whnf);refine I6 ?_)
     refine ag (i,j+1,r) [] [.same 0] ⟨hx.skip hj h7,hki⟩ (by simp only[];omega) ?_;repeat' first|exact trivial|exact rfl|refine And.intro ?_ ?_
     show C.int IntKind.i64 _=C.int IntKind.i64 _;congr 1;omega
   ·have h6:¬(j:Int)-k<((l.length-k:Nat):Int):=by
     have e:((List.drop k r).take (l.length-k)).length=l.length-k:=by simp;omega
     rw[←e];exact h6
    obtain rfl:j=l.length:=by omega
    have hp:=hx.pre;rw[List.take_length]at hp;(conv=>whnf);refine⟨i,r.length,rfl,by omega,by omega,?_⟩;(conv=>whnf);have hrl:(r.take i++(List.replicate (r.length-i) (0:Int)++r.drop (i+(r.length-i)))).length=r.length:=by simp;omega
    refine⟨0,rfl,by omega,?_⟩;(conv=>whnf);refine⟨0,i,rfl,rfl,⟨Nat.zero_le _,by rw[hrl];omega⟩,?_⟩;(conv=>whnf)
    have he:((r.take i++(List.replicate (r.length-i) (0:Int)++r.drop (i+(r.length-i)))).drop 0).take (i-0)=gu l:=by
     rw[List.drop_zero,Nat.sub_zero,List.take_append_of_le_length (by rw[List.length_take];omega),List.take_take,Nat.min_self];exact hp
    refine rt [] [.same 0,.cut 1 0 0 (i-0)] ?_ rfl ⟨rfl,rfl⟩;repeat' first|exact trivial|exact rfl|refine And.intro ?_ ?_
    ·omega
    ·rw[he]
  ·repeat'((conv=>whnf);refine I6 ?_)
   refine ag (k+1) [] [.same 0] ⟨⟨by omega,hlt⟩,?_⟩ (by simp only[];omega) ?_
   ·rw[nH hlt];unfold gR;rw[if_neg (by rw[px (by omega) (by omega)];intro e;exact h5 (Option.some.inj e).symm),h3,List.take_succ_eq_append_getElem hlt]
   ·repeat' first|exact trivial|exact rfl|refine And.intro ?_ ?_
 ·obtain rfl:k=l.length:=by omega
  rw[List.take_length]at h3;rw[h3];(conv=>whnf);exact rx [] [.same 0,.same 0]
end Go.Nest
end
section
namespace Go.Nest
open Go Go.AM Go.Proofs
open Go.Proofs.YtpechfcbnoggfaaGreatDoor (tab tabOk)
set_option maxRecDepth 4000
theorem D6:ae Tryz.prog 231 [.c (.int .u64 0)] [] (Rt (.c (.int .i64 0)) []):=by
 refine ao (n:=25) (n0:=0) tabOk Tryz.call231 Tryz.func231 ?_;intro hb;(conv=>whnf);refine⟨0,0,rfl,rfl,?_⟩;(conv=>whnf);refine⟨⟨by decide,by decide⟩,?_⟩;repeat'((conv=>whnf);first|refine aI ?_|fail)
 rfl
theorem D7:ae Tryz.prog 141 [.c (.int .u64 0)] [] (Rt (.c (.int .i64 0)) []):=by
 refine ao (n:=8) (n0:=0) tabOk Tryz.call141 Tryz.func141 ?_;intro hb;(conv=>whnf);refine cl [] [] (D6) ?_;repeat'((conv=>whnf);first|refine aI ?_|fail)
 rfl
theorem DD:ae Tryz.prog 221 [.c (.rw 0),.c (.int .i64 0),.c (.int .i64 0)] [.row 1 Int encI []] (Rt (.tup []) [.row 1 Int encI []]):=by
 refine ao (n:=49) (n0:=1) tabOk Tryz.call221 Tryz.func221 ?_;intro hb;(conv=>whnf);refine⟨i64 (by decide) (by decide),?_⟩;(conv=>whnf);refine lp Unit (fun _=>⟨[(2,.c (.int .i64 0)),(6,.c (.int .i64 1))],[.row 1 Int encI []]⟩) (fun _=>True) (fun _=>0) () [] [.same 0] trivial ?_ (fun x hx=>?_)
 ·repeat' first|exact trivial|exact rfl|refine And.intro ?_ ?_
 (conv=>whnf);exact rx [] [.same 0]
theorem Fm:ae Tryz.prog 140 [.c (.rw 0),.c (.int .i64 0),.c (.int .i64 0),.c (.int .i64 0)] [.row 1 Int encI []] (Rt (.tup []) [.row 1 Int encI []]):=by
 refine ao (n:=134) (n0:=1) tabOk Tryz.call140 Tryz.func140 ?_;intro hb;(conv=>whnf);refine lp Unit (fun _=>⟨[(0,.c (.rw 0)),(1,.c (.int .i64 0)),(2,.c (.int .i64 0))],[.row 1 Int encI []]⟩) (fun _=>True) (fun _=>0) () [] [.same 0] trivial ?_ (fun x hx=>?_)
 ·repeat' first|exact trivial|exact rfl|refine And.intro ?_ ?_
 (conv=>whnf);refine⟨i64 (by decide) (by decide),?_⟩;(conv=>whnf);refine cl [] [0] (DD) ?_;(conv=>whnf);exact rx [] [.same 0]
theorem Gu:ae Tryz.prog 73 [.c (.rw 0)] [.row 1 Int encI []] (Rt (.tup []) [.row 1 Int encI []]):=by
 refine ao (n:=11) (n0:=1) tabOk Tryz.call73 Tryz.func73 ?_;intro hb;(conv=>whnf);refine cl [] [] (D7) ?_;(conv=>whnf);refine cl [] [0] (Fm) ?_;(conv=>whnf);exact rx [] [.same 0]
theorem zK(l:List Int)(hl:l.length≤1000000):ae Tryz.prog 73 [.c (.rw 0)] [.row 1 Int encI l] (Rt (.tup []) [.row 1 Int encI (l.mergeSort fun x y=>decide (x≤y))]):=by
 by_cases h:l=[]
 ·subst h;rw[show(([]:List Int).mergeSort fun x y=>decide (x≤y))=[]from List.eq_nil_of_length_eq_zero (List.length_mergeSort [])];exact Gu
 ·exact zL l h hl
def jh(x:Mv):List Int:=[x.old,x.new].filter fun y=>decide (0≤y)
def ji(m:List Mv)(i:Nat):List Int:=(m.take i).flatMap jh
def jL(m:List Mv):List Int:=gu ((m.flatMap jh).mergeSort fun x y=>decide (x≤y))
theorem xx{m:List Mv}{i:Nat}(h:i<m.length):ji m (i+1)=ji m i++jh m[i]:=by
 unfold ji;rw[List.take_succ_eq_append_getElem h,List.flatMap_append];simp
theorem C7{x:Mv}:(jh x).length≤2:=by unfold jh;exact List.length_filter_le ..
theorem sS{m:List Mv}{i:Nat}(h:i≤m.length):(ji m i).length≤2*i:=by
 induction i with
 |zero=>simp[ji]
 |succ i ih=>rw[xx (by omega),List.length_append];have:=ih (by omega);have:=C7 (x:=m[i]);omega
def kO(x:Mv)(k:Nat):List Int:=([x.old,x.new].take k).filter fun y=>decide (0≤y)
theorem Ff{x:Mv}{k:Nat}(h:k<2):kO x (k+1)=kO x k++(if 0≤([x.old,x.new][k]'(by simpa using h))then[[x.old,x.new][k]'(by simpa using h)]else[]):=by
 unfold kO;rw[List.take_succ_eq_append_getElem (by simpa using h),List.filter_append];congr 1
 by_cases h2:0≤[x.old,x.new][k]'(by simpa using h)
 ·rw[if_pos h2];simp[h2]
 ·rw[if_neg h2];simp[h2]
theorem Fe{x:Mv}{k:Nat}:(kO x k).length≤2:=Nat.le_trans (List.length_filter_le ..) (by rw[List.length_take];simp;omega)
theorem EG{l:List Int}:(l.mergeSort fun x y=>decide (x≤y)).length=l.length:=List.length_mergeSort l
set_option maxHeartbeats 1000000 in
theorem C8(l:List Rf)(m:List Mv)(hm:m.length≤1000):ae Tryz.prog 137 [.c (.bp [.bs 2 Rf bg l,.bs 3 Mv cn m])] [] (Rt (.c (.rw 0)) [.row 1 Int encI (jL m)]):=by
 refine ao (n:=39) (n0:=0) tabOk Tryz.call137 Tryz.func137 ?_;intro hb;(conv=>whnf);refine lp Nat (fun i=>⟨[(3,.c (.rw 0)),(11,.c (.bs 3 Mv cn m)),(12,.c (.int .i64 m.length)),(13,.c (.int .i64 i))],[.row 1 Int encI (ji m i)]⟩) (fun i=>i≤m.length∧True) (fun i=>m.length-i) 0 [] [.new] ?_ ?_ (fun i hi=>?_)
 ·simp
 ·repeat' first|exact trivial|exact rfl|refine And.intro ?_ ?_
 (conv=>whnf);refine dec (fun h4=>?_) (fun h4=>?_)
 ·have hlt:i<m.length:=by omega
  have hul:=sS (m:=m) (i:=i) (by omega);(conv=>whnf);refine⟨i,m[i],rfl,List.getElem?_eq_getElem hlt,?_⟩;(conv=>whnf);refine⟨[m[i].old,m[i].new],rfl,?_⟩;have hus:=xx hlt;generalize m[i]=x at*;generalize ji m i=out at*;(conv=>whnf);refine lp Nat (fun k=>⟨[(3,.c (.rw 0)),(11,.c (.bs 3 Mv cn m)),(12,.c (.int .i64 m.length)),(13,.c (.int .i64 i)),(21,.c (.rw 1)),(22,.c (.int .i64 2)),(23,.c (.int .i64 k))],[.row 1 Int encI (out++kO x k),.row 1 Int encI [x.old,x.new]]⟩) (fun k=>k≤2∧True) (fun k=>2-k) 0 [] [.same 0,.same 2] ?_ ?_ (fun k hk=>?_)
  ·simp
  ·rw[show kO x 0=[]from rfl,List.append_nil];repeat' first|exact trivial|exact rfl|refine And.intro ?_ ?_
  have hpl:=Fe (x:=x) (k:=k);(conv=>whnf);refine dec (fun h5=>?_) (fun h5=>?_)
  ·have hkl:k<2:=by omega
   have hps:=Ff (x:=x) hkl;generalize kO x k=pk at*;have hpk:k<[x.old,x.new].length:=by simpa using hkl
   (conv=>whnf);refine⟨k,⟨rfl,hpk⟩,?_⟩;(conv=>whnf);refine⟨[x.old,x.new][k],List.getElem?_eq_getElem hpk,?_⟩;(conv=>whnf);refine dec (fun h6=>?_) (fun h6=>?_)
   ·rw[if_pos h6]at hps;(conv=>whnf);refine⟨[[x.old,x.new][k]],rfl,?_⟩;(conv=>whnf);refine⟨_,_,rfl,rfl,(by simp only[List.length_append,List.length_cons,List.length_nil];omega),?_⟩;repeat'((conv=>whnf);refine I6 ?_)
    refine ag (k+1) [] [.same 3,.same 1] ⟨hkl,trivial⟩ (by simp only[];omega) ?_;rw[hps,←List.append_assoc];repeat' first|exact trivial|exact rfl|refine And.intro ?_ ?_
   ·rw[if_neg h6,List.append_nil]at hps;repeat'((conv=>whnf);refine I6 ?_)
    refine ag (k+1) [] [.same 0,.same 1] ⟨hkl,trivial⟩ (by simp only[];omega) ?_;rw[hps];repeat' first|exact trivial|exact rfl|refine And.intro ?_ ?_
  ·obtain rfl:k=2:=by omega
   rw[show kO x 2=jh x from rfl,←hus];repeat'((conv=>whnf);refine I6 ?_)
   refine ag (i+1) [] [.same 0] ⟨hlt,trivial⟩ (by simp only[];omega) ?_;repeat' first|exact trivial|exact rfl|refine And.intro ?_ ?_
 ·obtain rfl:i=m.length:=by omega
  have hul:=sS (m:=m) (i:=m.length) (Nat.le_refl _);have e:ji m m.length=m.flatMap jh:=by unfold ji;rw[List.take_length]
  rw[e]at hul⊢;(conv=>whnf);refine cl [] [0] (zK (m.flatMap jh) (by omega)) ?_;(conv=>whnf);refine cl [] [0] (we ((m.flatMap jh).mergeSort fun x y=>decide (x≤y)) (by rw[EG];omega)) ?_;(conv=>whnf);exact rx [] [.same 1]
end Go.Nest
end
