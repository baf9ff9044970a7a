import Derived.Test.YtpechfcbnoggfaaGreatDoorV12
import Derived.Test.YtpechfcbnoggfaaGreatDoorW4
import Derived.Test.YtpechfcbnoggfaaGreatDoorAmH
import Derived.Test.YtpechfcbnoggfaaGreatDoorV36
set_option maxHeartbeats 1000000
set_option linter.unusedVariables false
set_option linter.unusedSimpArgs false
open List renaming take_succ_eq_append_getElem->F,getElem?_eq_getElem->H,take_length->J,length_mergeSort->M,length_filter_le->N,length_append->O,length_cons->P,length_take->Q,length_set->R,append_nil->T,drop_drop->U,replicate->W,drop->Y
open Nat renaming le_refl->I
open Option.some renaming inj->S
section
namespace Go.Nest
open Go Go.AM Go.Proofs
open Go.Proofs.YtpechfcbnoggfaaGreatDoor (tab tabOk)
set_option maxRecDepth 4000
def ir(out:List Int)(x:Int):List Int:=if out.getLast? =some x then out else out++[x]
def jA(l:List Int):List Int:=l.foldl ir []
theorem qH{l:List Int}{i:Nat}(h:i<l.length):jA (l.take (i+1))=ir (jA (l.take i)) l[i]:=by
 unfold jA;rw[F h,List.foldl_append];rfl
theorem Ii{out:List Int}{x:Int}:(ir out x).getLast? =some x:=by
 unfold ir;split
 ·assumption
 ·simp
theorem Ik{out:List Int}{x y:Int}:y∈ir out x↔y∈out\/y=x:=by
 unfold ir;split
 ·rename_i h;exact⟨.inl,λa=>a.elim id λe=>by rw[e];exact List.mem_of_getLast? h⟩
 ·simp
theorem sO{l:List Int}{i:Nat}(a:0<i)(h:i<=l.length):(jA (l.take i)).getLast? =some (l[i-1]'(by omega)):=by
 obtain⟨j,rfl⟩:∃j,i=j+1:=⟨i-1,by omega⟩;rw[qH (by omega)];exact Ii
theorem AT{y:Int}:∀{l out:List Int},y∈l.foldl ir out↔y∈out\/y∈l
 |[],out=>by simp
 |x::l,out=>by rw[List.foldl_cons,AT (l:=l),Ik,List.mem_cons,or_assoc]
structure j5(l r:List Int)(k j:Nat):Prop where
 kj:k<j
 jl:j<=l.length
 len:r.length=l.length
 pre:r.take k=jA (l.take j)
 suf:r.drop (j-1)=l.drop (j-1)
theorem j5.at{l r:List Int}{k j:Nat}(h:j5 l r k j){i:Nat}(hj:j-1<=i)(hi:i<l.length):r[i]? =some l[i]:=by
 have:=congrArg (·[i-(j-1)]?) h.suf;simp only[List.getElem?_drop]at this;rw[show j-1+(i-(j-1))=i by omega]at this;rw[this,H hi]
theorem j5.rR{l r:List Int}{k j:Nat}(h:j5 l r k j):r.drop j=l.drop j:=by
 have a:=h.kj;have:=congrArg (Y 1) h.suf;rwa[U,U,show j-1+1=j by omega]at this
theorem j5.skip{l r:List Int}{k j:Nat}(h:j5 l r k j)(hj:j<l.length)(he:l[j]=l[j-1]'(by omega)):j5 l r k (j+1):=by
 have a:=h.kj;refine⟨by omega,hj,h.len,?_,h.rR⟩;rw[qH hj,h.pre];unfold ir;rw[if_pos (by rw[sO (by omega) (by omega),he])]
theorem j5.cn{l r:List Int}{k j:Nat}(h:j5 l r k j)(hj:j<l.length)(he:l[j]≠l[j-1]'(by omega)):j5 l (r.set k l[j]) (k+1) (j+1):=by
 have b:=h.kj;have a:k<r.length:=by rw[h.len];omega
 refine⟨by omega,hj,by rw[R];exact h.len,?_,?_⟩
 ·rw[qH hj,<-h.pre,F (by rw[R];exact a),List.getElem_set_self,List.take_set_of_le (I _)];unfold ir;rw[if_neg];rw[h.pre,sO (by omega) (by omega)];intro e;exact he (S e).symm
 ·rw[Nat.add_sub_cancel,List.drop_set_of_lt (by omega),h.rR]
theorem HJ(l:List Int)(hl:l.length<=1000000):aa Tryz.prog 74 [.c (.rw 0)] [.row 1 Int encI l] (Rt (.c (.rw 1)) [.dead,.row 1 Int encI (jA l)]):=by
 refine af (n:=61) (n0:=1) tabOk Tryz.call74 Tryz.func74 ?_;intro hb;refine dec (λh=>?_) (λh=>?_)
 ·have e:jA l=l:=by
   match l,h with
   |[],_=>rfl
   |[x],_=>rfl
   |_::_::_,h=>simp only[P]at h;omega
  rw[e];exact rx [] [.s 0,.s 0]
 have h:2<=l.length:=by omega
 refine lp Nat (λk=>⟨[(0,.c (.rw 0)),(3,.c (.int .i64 k))],[.row 1 Int encI l]⟩) (λk=>(1<=k/\k<=l.length)/\jA (l.take k)=l.take k) (λk=>l.length-k) 1 [] [.s 0] ?_ ?_ (λk w=>?_)
 ·refine⟨⟨I _,by omega⟩,?_⟩;match l,h with
  |x::l,_=>rfl
 ·repeat' first|exact trivial|exact rfl|refine And.intro ?_ ?_
 obtain⟨⟨E,t⟩,d⟩:=w;refine dec (λu=>?_) (λu=>?_)
 ·have a:k<l.length:=by omega
  refine⟨false,.grow,(.l [0,1,2,3,4,5,6,7,8,9]),by kernel_rfl,.inl ?_⟩;refine⟨k,⟨rfl,a⟩,?_⟩;refine⟨l[k],H a,?_⟩;refine⟨i64 (by omega) (by omega),?_⟩;refine⟨k-1,⟨by omega,by omega⟩,?_⟩;refine⟨l[k-1],H (by omega),?_⟩;refine dec (λo=>?_) (λo=>?_)
  ·refine⟨k,l.length,rfl,rfl,⟨t,I _⟩,?_⟩;refine lp (Nat×Nat×List Int) (λ|(i,j,r)=>⟨[(0,.c (.rw 0)),(3,.c (.int .i64 i)),(4,.c (.sw 1 0 k (l.length-k))),(5,.c (.int .i64 ((j:Int)-k)))],[.row 1 Int encI r]⟩) (λx=>j5 l x.2.2 x.1 x.2.1/\k<=x.1) (λx=>l.length-x.2.1) (k,k+1,l) [] [.s 0] ?_ ?_ (λx b=>?_)
   ·refine⟨⟨Nat.lt_succ_self _,a,rfl,?_,rfl⟩,I _⟩;rw[qH a,d];unfold ir;rw[if_pos];rw[<-d,sO (by omega) (by omega),o]
   ·repeat' first|exact trivial|exact rfl|refine And.intro ?_ ?_
    show C.int IntKind.i64 _=C.int IntKind.i64 _;congr 1;omega
   obtain⟨i,j,r⟩:=x;obtain⟨b,g⟩:=b;dsimp only at b g;have y:=b.kj;have z:=b.jl;have D:=b.len;refine dec (λf=>?_) (λf=>?_)
   ·have f:(j:Int)-k<((l.length-k:Nat):Int):=by
     have e:((Y k r).take (l.length-k)).length=l.length-k:=by simp;omega
     rw[<-e];exact f
    have m:j<l.length:=by omega
    refine⟨false,.grow,(.l [0,1,2,3,4,5,6,7,8,9]),by kernel_rfl,.inl ?_⟩;refine⟨j-k,⟨by omega,by omega⟩,?_⟩;refine⟨l[j],?_,?_⟩
    ·have:=b.at (i:=j) (by omega) m;first|exact this|(rw[show k+(j-k)=j by omega];exact this)
    refine⟨i64 (by omega) (by omega),?_⟩;refine⟨j-k-1,⟨by omega,by omega⟩,?_⟩;refine⟨l[j-1],?_,?_⟩
    ·have:=b.at (i:=j-1) (by omega) (by omega);first|exact this|(rw[show k+(j-k-1)=j-1 by omega];exact this)
    refine ay (λp=>?_) (λp=>?_)
    ·refine⟨j-k,⟨by omega,by omega⟩,?_⟩;refine⟨l[j],?_,?_⟩
     ·have:=b.at (i:=j) (by omega) m;first|exact this|(rw[show k+(j-k)=j by omega];exact this)
     refine⟨i,⟨rfl,by omega⟩,?_⟩;refine⟨_,l[j],H (by omega),⟨I _,rfl⟩,?_⟩;repeat'(refine I6 ?_)
     refine ag (i+1,j+1,r.set i l[j]) [] [.s 0] ⟨b.cn m p,by omega⟩ (by simp only[];omega) ?_;repeat' first|exact trivial|exact rfl|refine And.intro ?_ ?_
     show C.int IntKind.i64 _=C.int IntKind.i64 _;congr 1;omega
    ·repeat'(refine I6 ?_)
     refine ag (i,j+1,r) [] [.s 0] ⟨b.skip m p,g⟩ (by simp only[];omega) ?_;repeat' first|exact trivial|exact rfl|refine And.intro ?_ ?_
     show C.int IntKind.i64 _=C.int IntKind.i64 _;congr 1;omega
   ·have f:¬(j:Int)-k<((l.length-k:Nat):Int):=by
     have e:((Y k r).take (l.length-k)).length=l.length-k:=by simp;omega
     rw[<-e];exact f
    obtain rfl:j=l.length:=by omega
    have s:=b.pre;rw[J]at s;refine⟨i,r.length,rfl,by omega,by omega,?_⟩;(conv=>whnf);have q:(r.take i++(W (r.length-i) (0:Int)++r.drop (i+(r.length-i)))).length=r.length:=by simp;omega
    refine⟨0,rfl,by omega,?_⟩;refine⟨0,i,rfl,rfl,⟨Nat.zero_le _,by rw[q];omega⟩,?_⟩;(conv=>whnf)
    have v:((r.take i++(W (r.length-i) (0:Int)++r.drop (i+(r.length-i)))).drop 0).take (i-0)=jA l:=by
     rw[List.drop_zero,Nat.sub_zero,List.take_append_of_le_length (by rw[Q];omega),List.take_take,Nat.min_self];exact s
    refine rt [] [.s 0,.cut 1 0 0 (i-0)] ?_ rfl ⟨rfl,rfl⟩;repeat' first|exact trivial|exact rfl|refine And.intro ?_ ?_
    ·omega
    ·rw[v]
  ·repeat'(refine I6 ?_)
   refine ag (k+1) [] [.s 0] ⟨⟨by omega,a⟩,?_⟩ (by simp only[];omega) ?_
   ·rw[qH a];unfold ir;rw[if_neg (by rw[sO (by omega) (by omega)];intro e;exact o (S e).symm),d,F a]
   ·repeat' first|exact trivial|exact rfl|refine And.intro ?_ ?_
 ·obtain rfl:k=l.length:=by omega
  rw[J]at d;rw[d];exact rx [] [.s 0,.s 0]
theorem KY:aa Tryz.prog 231 [.c (.int .u64 0)] [] (Rt (.c (.int .i64 0)) []):=by
 refine af (n:=25) (n0:=0) tabOk Tryz.call231 Tryz.func231 ?_;intro hb;refine⟨0,0,rfl,rfl,?_⟩;refine⟨⟨by decide,by decide⟩,?_⟩;repeat'((conv=>whnf);first|refine aJ ?_|fail)
 rfl
theorem KZ:aa Tryz.prog 141 [.c (.int .u64 0)] [] (Rt (.c (.int .i64 0)) []):=by
 refine af (n:=8) (n0:=0) tabOk Tryz.call141 Tryz.func141 ?_;intro hb;refine cl [] [] (KY) ?_;repeat'((conv=>whnf);first|refine aJ ?_|fail)
 rfl
theorem Km:aa Tryz.prog 221 [.c (.rw 0),.c (.int .i64 0),.c (.int .i64 0)] [.row 1 Int encI []] (Rt (.ao []) [.row 1 Int encI []]):=by
 refine af (n:=49) (n0:=1) tabOk Tryz.call221 Tryz.func221 ?_;intro hb;refine⟨i64 (by decide) (by decide),?_⟩;refine lp Unit (λ_=>⟨[(2,.c (.int .i64 0)),(6,.c (.int .i64 1))],[.row 1 Int encI []]⟩) (λ_=>True) (λ_=>0) () [] [.s 0] trivial ?_ (λx a=>?_)
 ·repeat' first|exact trivial|exact rfl|refine And.intro ?_ ?_
 exact rx [] [.s 0]
theorem MO:aa Tryz.prog 140 [.c (.rw 0),.c (.int .i64 0),.c (.int .i64 0),.c (.int .i64 0)] [.row 1 Int encI []] (Rt (.ao []) [.row 1 Int encI []]):=by
 refine af (n:=134) (n0:=1) tabOk Tryz.call140 Tryz.func140 ?_;intro hb;refine lp Unit (λ_=>⟨[(0,.c (.rw 0)),(1,.c (.int .i64 0)),(2,.c (.int .i64 0))],[.row 1 Int encI []]⟩) (λ_=>True) (λ_=>0) () [] [.s 0] trivial ?_ (λx a=>?_)
 ·repeat' first|exact trivial|exact rfl|refine And.intro ?_ ?_
 refine⟨i64 (by decide) (by decide),?_⟩;refine cl [] [0] (Km) ?_;exact rx [] [.s 0]
theorem Om:aa Tryz.prog 73 [.c (.rw 0)] [.row 1 Int encI []] (Rt (.ao []) [.row 1 Int encI []]):=by
 refine af (n:=11) (n0:=1) tabOk Tryz.call73 Tryz.func73 ?_;intro hb;refine cl [] [] (KZ) ?_;refine cl [] [0] (MO) ?_;exact rx [] [.s 0]
theorem Oh(l:List Int)(hl:l.length<=1000000):aa Tryz.prog 73 [.c (.rw 0)] [.row 1 Int encI l] (Rt (.ao []) [.row 1 Int encI (l.mergeSort λx y=>decide (x<=y))]):=by
 by_cases h:l=[]
 ·subst h;rw[show(([]:List Int).mergeSort λx y=>decide (x<=y))=[]from List.eq_nil_of_length_eq_zero (M [])];exact Om
 ·exact EG l h hl
def kv(x:Mv):List Int:=[x.old,x.new].filter λy=>decide (0<=y)
def k9(m:List Mv)(i:Nat):List Int:=(m.take i).flatMap kv
def kx(m:List Mv):List Int:=jA ((m.flatMap kv).mergeSort λx y=>decide (x<=y))
theorem B6{m:List Mv}{i:Nat}(h:i<m.length):k9 m (i+1)=k9 m i++kv m[i]:=by
 unfold k9;rw[F h,List.flatMap_append];simp
theorem JO{x:Mv}:(kv x).length<=2:=by unfold kv;exact N ..
theorem wN{m:List Mv}{i:Nat}(h:i<=m.length):(k9 m i).length<=2*i:=by
 induction i with
 |zero=>simp[k9]
 |succ i ih=>rw[B6 (by omega),O];have:=ih (by omega);have:=JO (x:=m[i]);omega
def nN(x:Mv)(k:Nat):List Int:=([x.old,x.new].take k).filter λy=>decide (0<=y)
theorem MH{x:Mv}{k:Nat}(h:k<2):nN x (k+1)=nN x k++(if 0<=([x.old,x.new][k]'(by simpa using h))then[[x.old,x.new][k]'(by simpa using h)]else[]):=by
 unfold nN;rw[F (by simpa using h),List.filter_append];congr 1
 by_cases a:0<=[x.old,x.new][k]'(by simpa using h)
 ·rw[if_pos a];simp[a]
 ·rw[if_neg a];simp[a]
theorem MG{x:Mv}{k:Nat}:(nN x k).length<=2:=Nat.le_trans (N ..) (by rw[Q];simp;omega)
theorem LU{l:List Int}:(l.mergeSort λx y=>decide (x<=y)).length=l.length:=M l
theorem JP(l:List Rf)(m:List Mv)(hm:m.length<=1000):aa Tryz.prog 137 [.c (.bp [.bs 2 Rf bL l,.bs 3 Mv cN m])] [] (Rt (.c (.rw 0)) [.row 1 Int encI (kx m)]):=by
 refine af (n:=39) (n0:=0) tabOk Tryz.call137 Tryz.func137 ?_;intro hb;refine lp Nat (λi=>⟨[(3,.c (.rw 0)),(11,.c (.bs 3 Mv cN m)),(12,.c (.int .i64 m.length)),(13,.c (.int .i64 i))],[.row 1 Int encI (k9 m i)]⟩) (λi=>i<=m.length/\True) (λi=>m.length-i) 0 [] [.new] ?_ ?_ (λi r=>?_)
 ·simp
 ·repeat' first|exact trivial|exact rfl|refine And.intro ?_ ?_
 refine dec (λo=>?_) (λo=>?_)
 ·have d:i<m.length:=by omega
  have g:=wN (m:=m) (i:=i) (by omega);refine⟨i,m[i],rfl,H d,?_⟩;refine⟨[m[i].old,m[i].new],rfl,?_⟩;have j:=B6 d;generalize m[i]=x at*;generalize k9 m i=out at*;refine lp Nat (λk=>⟨[(3,.c (.rw 0)),(11,.c (.bs 3 Mv cN m)),(12,.c (.int .i64 m.length)),(13,.c (.int .i64 i)),(21,.c (.rw 1)),(22,.c (.int .i64 2)),(23,.c (.int .i64 k))],[.row 1 Int encI (out++nN x k),.row 1 Int encI [x.old,x.new]]⟩) (λk=>k<=2/\True) (λk=>2-k) 0 [] [.s 0,.s 2] ?_ ?_ (λk s=>?_)
  ·simp
  ·rw[show nN x 0=[]from rfl,T];repeat' first|exact trivial|exact rfl|refine And.intro ?_ ?_
  have q:=MG (x:=x) (k:=k);refine dec (λp=>?_) (λp=>?_)
  ·have a:k<2:=by omega
   have b:=MH (x:=x) a;generalize nN x k=t at*;have f:k<[x.old,x.new].length:=by simpa using a
   refine⟨k,⟨rfl,f⟩,?_⟩;refine⟨[x.old,x.new][k],H f,?_⟩;refine dec (λh=>?_) (λh=>?_)
   ·rw[if_pos h]at b;refine⟨[[x.old,x.new][k]],rfl,?_⟩;refine⟨_,_,rfl,rfl,(by simp only[O,P,List.length_nil];omega),?_⟩;repeat'(refine I6 ?_)
    refine ag (k+1) [] [.s 3,.s 1] ⟨a,trivial⟩ (by simp only[];omega) ?_;rw[b,<-List.append_assoc];repeat' first|exact trivial|exact rfl|refine And.intro ?_ ?_
   ·rw[if_neg h,T]at b;repeat'(refine I6 ?_)
    refine ag (k+1) [] [.s 0,.s 1] ⟨a,trivial⟩ (by simp only[];omega) ?_;rw[b];repeat' first|exact trivial|exact rfl|refine And.intro ?_ ?_
  ·obtain rfl:k=2:=by omega
   rw[show nN x 2=kv x from rfl,<-j];repeat'(refine I6 ?_)
   refine ag (i+1) [] [.s 0] ⟨d,trivial⟩ (by simp only[];omega) ?_;repeat' first|exact trivial|exact rfl|refine And.intro ?_ ?_
 ·obtain rfl:i=m.length:=by omega
  have g:=wN (m:=m) (i:=m.length) (I _);have e:k9 m m.length=m.flatMap kv:=by unfold k9;rw[J]
  rw[e]at g⊢;refine cl [] [0] (Oh (m.flatMap kv) (by omega)) ?_;refine cl [] [0] (HJ ((m.flatMap kv).mergeSort λx y=>decide (x<=y)) (by rw[LU];omega)) ?_;exact rx [] [.s 1]
structure Rs where
 name:List UInt8
 old:Int
 id:Int
 right:Bool
theorem JQ{l:List Rf}{m:List Mv}(h:oV l m){r:Rf}(hr:r∈l):r.id∈kx m:=by
 have c:=h.ids r hr;have a:=(tg h.sort hr).2;rw[h.get]at a;obtain⟨x,d,_,b⟩:=JD (m:=m) (n:=r.name) (by rw[a];omega);unfold kx jA;rw[AT];refine .inr ?_;rw[List.mem_mergeSort,List.mem_flatMap];refine⟨x,d,?_⟩;unfold kv;rw[List.mem_filter];exact⟨by simp[<-a,<-b],by simpa using c⟩
end Go.Nest
end
