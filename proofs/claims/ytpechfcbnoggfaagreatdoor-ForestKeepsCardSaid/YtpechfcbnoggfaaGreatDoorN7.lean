/- part -/
import Derived.Test.YtpechfcbnoggfaaGreatDoorV12
import Derived.Test.YtpechfcbnoggfaaGreatDoorW4
import Derived.Test.YtpechfcbnoggfaaGreatDoorAmH
import Derived.Test.YtpechfcbnoggfaaGreatDoorW1
set_option linter.unusedVariables false
set_option linter.unusedSimpArgs false
section
namespace Go.Nest
open Go Go.AM Go.Proofs
open Go.Proofs.YtpechfcbnoggfaaGreatDoor (tab tabOk)
set_option maxRecDepth 4000
def gr(out:List Int)(x:Int):List Int:=if out.getLast? =some x then out else out++[x]
def fo(l:List Int):List Int:=l.foldl gr []
theorem oM{l:List Int}{i:Nat}(h:i<l.length):fo (l.take (i+1))=gr (fo (l.take i)) l[i]:=by
 unfold fo;rw[List.take_succ_eq_append_getElem h,List.foldl_append];rfl
theorem Dy{out:List Int}{x:Int}:(gr out x).getLast? =some x:=by
 unfold gr;split
 ·assumption
 ·simp
theorem DA{out:List Int}{x y:Int}:y∈gr out x↔y∈out∨y=x:=by
 unfold gr;split
 ·rename_i h;exact⟨.inl,fun a=>a.elim id fun e=>by rw[e];exact List.mem_of_getLast? h⟩
 ·simp
theorem qz{l:List Int}{i:Nat}(a:0<i)(h:i≤l.length):(fo (l.take i)).getLast? =some (l[i-1]'(by omega)):=by
 obtain⟨j,rfl⟩:∃j,i=j+1:=⟨i-1,by omega⟩;rw[oM (by omega)];exact Dy
theorem qA{y:Int}:∀{l out:List Int},y∈l.foldl gr out↔y∈out∨y∈l
 |[],out=>by simp
 |x::l,out=>by rw[List.foldl_cons,qA (l:=l),DA,List.mem_cons,or_assoc]
structure iV(l r:List Int)(k j:Nat):Prop where
 kj:k<j
 jl:j≤l.length
 len:r.length=l.length
 pre:r.take k=fo (l.take j)
 suf:r.drop (j-1)=l.drop (j-1)
theorem iV.at{l r:List Int}{k j:Nat}(h:iV l r k j){i:Nat}(hj:j-1≤i)(hi:i<l.length):r[i]? =some l[i]:=by
 have:=congrArg (·[i-(j-1)]?) h.suf;simp only[List.getElem?_drop]at this;rw[show j-1+(i-(j-1))=i by omega]at this;rw[this,List.getElem?_eq_getElem hi]
theorem iV.pP{l r:List Int}{k j:Nat}(h:iV l r k j):r.drop j=l.drop j:=by
 have a:=h.kj;have:=congrArg (List.drop 1) h.suf;rwa[List.drop_drop,List.drop_drop,show j-1+1=j by omega]at this
theorem iV.skip{l r:List Int}{k j:Nat}(h:iV l r k j)(hj:j<l.length)(he:l[j]=l[j-1]'(by omega)):iV l r k (j+1):=by
 have a:=h.kj;refine⟨by omega,hj,h.len,?_,h.pP⟩;rw[oM hj,h.pre];unfold gr;rw[if_pos (by rw[qz (by omega) (by omega),he])]
theorem iV.ca{l r:List Int}{k j:Nat}(h:iV l r k j)(hj:j<l.length)(he:l[j]≠l[j-1]'(by omega)):iV l (r.set k l[j]) (k+1) (j+1):=by
 have b:=h.kj;have a:k<r.length:=by rw[h.len];omega
 refine⟨by omega,hj,by rw[List.length_set];exact h.len,?_,?_⟩
 ·rw[oM hj,←h.pre,List.take_succ_eq_append_getElem (by rw[List.length_set];exact a),List.getElem_set_self,List.take_set_of_le (Nat.le_refl _)];unfold gr;rw[if_neg];rw[h.pre,qz (by omega) (by omega)];intro e;exact he (Option.some.inj e).symm
 ·rw[Nat.add_sub_cancel,List.drop_set_of_lt (by omega),h.pP]
theorem xB(l:List Int)(hl:l.length≤1000000):ae Tryz.prog 74 [.c (.rw 0)] [.row 1 Int encI l] (Rt (.c (.rw 1)) [.dead,.row 1 Int encI (fo l)]):=by
 refine ak (n:=61) (n0:=1) tabOk Tryz.call74 Tryz.func74 ?_;intro hb;(conv=>whnf);refine dec (fun h=>?_) (fun h=>?_)
 ·have e:fo l=l:=by
   match l,h with
   |[],_=>rfl
   |[x],_=>rfl
   |_::_::_,h=>simp only[List.length_cons]at h;omega
  rw[e];(conv=>whnf);exact rx [] [.same 0,.same 0]
 have h:2≤l.length:=by omega
 (conv=>whnf);refine lp Nat (fun k=>⟨[(0,.c (.rw 0)),(3,.c (.int .i64 k))],[.row 1 Int encI l]⟩) (fun k=>(1≤k∧k≤l.length)∧fo (l.take k)=l.take k) (fun k=>l.length-k) 1 [] [.same 0] ?_ ?_ (fun k w=>?_)
 ·refine⟨⟨Nat.le_refl _,by omega⟩,?_⟩;match l,h with
  |x::l,_=>rfl
 ·repeat' first|exact trivial|exact rfl|refine And.intro ?_ ?_
 obtain⟨⟨E,t⟩,d⟩:=w;(conv=>whnf);refine dec (fun u=>?_) (fun u=>?_)
 ·have a:k<l.length:=by omega
  (conv=>whnf);refine⟨false,.grow,(.l [0,1,2,3,4,5,6,7,8,9]),by kernel_rfl,.inl ?_⟩;(conv=>whnf);refine⟨k,⟨rfl,a⟩,?_⟩;(conv=>whnf);refine⟨l[k],List.getElem?_eq_getElem a,?_⟩;(conv=>whnf);refine⟨i64 (by omega) (by omega),?_⟩;(conv=>whnf);refine⟨k-1,⟨by omega,by omega⟩,?_⟩;(conv=>whnf);refine⟨l[k-1],List.getElem?_eq_getElem (by omega),?_⟩;(conv=>whnf);refine dec (fun o=>?_) (fun o=>?_)
  ·(conv=>whnf);refine⟨k,l.length,rfl,rfl,⟨t,Nat.le_refl _⟩,?_⟩;(conv=>whnf);refine lp (Nat×Nat×List Int) (fun|(i,j,r)=>⟨[(0,.c (.rw 0)),(3,.c (.int .i64 i)),(4,.c (.sw 1 0 k (l.length-k))),(5,.c (.int .i64 ((j:Int)-k)))],[.row 1 Int encI r]⟩) (fun x=>iV l x.2.2 x.1 x.2.1∧k≤x.1) (fun x=>l.length-x.2.1) (k,k+1,l) [] [.same 0] ?_ ?_ (fun x b=>?_)
   ·refine⟨⟨Nat.lt_succ_self _,a,rfl,?_,rfl⟩,Nat.le_refl _⟩;rw[oM a,d];unfold gr;rw[if_pos];rw[←d,qz (by omega) (by omega),o]
   ·repeat' first|exact trivial|exact rfl|refine And.intro ?_ ?_
    show C.int IntKind.i64 _=C.int IntKind.i64 _;congr 1;omega
   obtain⟨i,j,r⟩:=x;obtain⟨b,g⟩:=b;dsimp only at b g;have y:=b.kj;have z:=b.jl;have D:=b.len;(conv=>whnf);refine dec (fun f=>?_) (fun f=>?_)
   ·have f:(j:Int)-k<((l.length-k:Nat):Int):=by
     have e:((List.drop k r).take (l.length-k)).length=l.length-k:=by simp;omega
     rw[←e];exact f
    have m:j<l.length:=by omega
    (conv=>whnf);refine⟨false,.grow,(.l [0,1,2,3,4,5,6,7,8,9]),by kernel_rfl,.inl ?_⟩;(conv=>whnf);refine⟨j-k,⟨by omega,by omega⟩,?_⟩;(conv=>whnf);refine⟨l[j],?_,?_⟩
    ·have:=b.at (i:=j) (by omega) m;first|exact this|(rw[show k+(j-k)=j by omega];exact this)
    (conv=>whnf);refine⟨i64 (by omega) (by omega),?_⟩;(conv=>whnf);refine⟨j-k-1,⟨by omega,by omega⟩,?_⟩;(conv=>whnf);refine⟨l[j-1],?_,?_⟩
    ·have:=b.at (i:=j-1) (by omega) (by omega);first|exact this|(rw[show k+(j-k-1)=j-1 by omega];exact this)
    (conv=>whnf);refine aw (fun p=>?_) (fun p=>?_)
    ·(conv=>whnf);refine⟨j-k,⟨by omega,by omega⟩,?_⟩;(conv=>whnf);refine⟨l[j],?_,?_⟩
     ·have:=b.at (i:=j) (by omega) m;first|exact this|(rw[show k+(j-k)=j by omega];exact this)
     (conv=>whnf);refine⟨i,⟨rfl,by omega⟩,?_⟩;(conv=>whnf);refine⟨_,l[j],List.getElem?_eq_getElem (by omega),⟨Nat.le_refl _,rfl⟩,?_⟩;repeat'((conv=>whnf);refine I6 ?_)
     refine ag (i+1,j+1,r.set i l[j]) [] [.same 0] ⟨b.ca m p,by omega⟩ (by simp only[];omega) ?_;repeat' first|exact trivial|exact rfl|refine And.intro ?_ ?_
     show C.int IntKind.i64 _=C.int IntKind.i64 _;congr 1;omega
    ·repeat'((conv=>whnf);refine I6 ?_)
     refine ag (i,j+1,r) [] [.same 0] ⟨b.skip m p,g⟩ (by simp only[];omega) ?_;repeat' first|exact trivial|exact rfl|refine And.intro ?_ ?_
     show C.int IntKind.i64 _=C.int IntKind.i64 _;congr 1;omega
   ·have f:¬(j:Int)-k<((l.length-k:Nat):Int):=by
     have e:((List.drop k r).take (l.length-k)).length=l.length-k:=by simp;omega
     rw[←e];exact f
    obtain rfl:j=l.length:=by omega
    have s:=b.pre;rw[List.take_length]at s;(conv=>whnf);refine⟨i,r.length,rfl,by omega,by omega,?_⟩;(conv=>whnf);have q:(r.take i++(List.replicate (r.length-i) (0:Int)++r.drop (i+(r.length-i)))).length=r.length:=by simp;omega
    refine⟨0,rfl,by omega,?_⟩;(conv=>whnf);refine⟨0,i,rfl,rfl,⟨Nat.zero_le _,by rw[q];omega⟩,?_⟩;(conv=>whnf)
    have v:((r.take i++(List.replicate (r.length-i) (0:Int)++r.drop (i+(r.length-i)))).drop 0).take (i-0)=fo l:=by
     rw[List.drop_zero,Nat.sub_zero,List.take_append_of_le_length (by rw[List.length_take];omega),List.take_take,Nat.min_self];exact s
    refine rt [] [.same 0,.cut 1 0 0 (i-0)] ?_ rfl ⟨rfl,rfl⟩;repeat' first|exact trivial|exact rfl|refine And.intro ?_ ?_
    ·omega
    ·rw[v]
  ·repeat'((conv=>whnf);refine I6 ?_)
   refine ag (k+1) [] [.same 0] ⟨⟨by omega,a⟩,?_⟩ (by simp only[];omega) ?_
   ·rw[oM a];unfold gr;rw[if_neg (by rw[qz (by omega) (by omega)];intro e;exact o (Option.some.inj e).symm),d,List.take_succ_eq_append_getElem a]
   ·repeat' first|exact trivial|exact rfl|refine And.intro ?_ ?_
 ·obtain rfl:k=l.length:=by omega
  rw[List.take_length]at d;rw[d];(conv=>whnf);exact rx [] [.same 0,.same 0]
end Go.Nest
end
section
namespace Go.Nest
open Go Go.AM Go.Proofs
open Go.Proofs.YtpechfcbnoggfaaGreatDoor (tab tabOk)
set_option maxRecDepth 4000
theorem F5:ae Tryz.prog 231 [.c (.int .u64 0)] [] (Rt (.c (.int .i64 0)) []):=by
 refine ak (n:=25) (n0:=0) tabOk Tryz.call231 Tryz.func231 ?_;intro hb;(conv=>whnf);refine⟨0,0,rfl,rfl,?_⟩;(conv=>whnf);refine⟨⟨by decide,by decide⟩,?_⟩;repeat'((conv=>whnf);first|refine aG ?_|fail)
 rfl
theorem F6:ae Tryz.prog 141 [.c (.int .u64 0)] [] (Rt (.c (.int .i64 0)) []):=by
 refine ak (n:=8) (n0:=0) tabOk Tryz.call141 Tryz.func141 ?_;intro hb;(conv=>whnf);refine cl [] [] (F5) ?_;repeat'((conv=>whnf);first|refine aG ?_|fail)
 rfl
theorem Fv:ae Tryz.prog 221 [.c (.rw 0),.c (.int .i64 0),.c (.int .i64 0)] [.row 1 Int encI []] (Rt (.aC []) [.row 1 Int encI []]):=by
 refine ak (n:=49) (n0:=1) tabOk Tryz.call221 Tryz.func221 ?_;intro hb;(conv=>whnf);refine⟨i64 (by decide) (by decide),?_⟩;(conv=>whnf);refine lp Unit (fun _=>⟨[(2,.c (.int .i64 0)),(6,.c (.int .i64 1))],[.row 1 Int encI []]⟩) (fun _=>True) (fun _=>0) () [] [.same 0] trivial ?_ (fun x a=>?_)
 ·repeat' first|exact trivial|exact rfl|refine And.intro ?_ ?_
 (conv=>whnf);exact rx [] [.same 0]
theorem Ho:ae Tryz.prog 140 [.c (.rw 0),.c (.int .i64 0),.c (.int .i64 0),.c (.int .i64 0)] [.row 1 Int encI []] (Rt (.aC []) [.row 1 Int encI []]):=by
 refine ak (n:=134) (n0:=1) tabOk Tryz.call140 Tryz.func140 ?_;intro hb;(conv=>whnf);refine lp Unit (fun _=>⟨[(0,.c (.rw 0)),(1,.c (.int .i64 0)),(2,.c (.int .i64 0))],[.row 1 Int encI []]⟩) (fun _=>True) (fun _=>0) () [] [.same 0] trivial ?_ (fun x a=>?_)
 ·repeat' first|exact trivial|exact rfl|refine And.intro ?_ ?_
 (conv=>whnf);refine⟨i64 (by decide) (by decide),?_⟩;(conv=>whnf);refine cl [] [0] (Fv) ?_;(conv=>whnf);exact rx [] [.same 0]
theorem IE:ae Tryz.prog 73 [.c (.rw 0)] [.row 1 Int encI []] (Rt (.aC []) [.row 1 Int encI []]):=by
 refine ak (n:=11) (n0:=1) tabOk Tryz.call73 Tryz.func73 ?_;intro hb;(conv=>whnf);refine cl [] [] (F6) ?_;(conv=>whnf);refine cl [] [0] (Ho) ?_;(conv=>whnf);exact rx [] [.same 0]
theorem Bg(l:List Int)(hl:l.length≤1000000):ae Tryz.prog 73 [.c (.rw 0)] [.row 1 Int encI l] (Rt (.aC []) [.row 1 Int encI (l.mergeSort fun x y=>decide (x≤y))]):=by
 by_cases h:l=[]
 ·subst h;rw[show(([]:List Int).mergeSort fun x y=>decide (x≤y))=[]from List.eq_nil_of_length_eq_zero (List.length_mergeSort [])];exact IE
 ·exact Bh l h hl
def iE(x:Mv):List Int:=[x.old,x.new].filter fun y=>decide (0≤y)
def jS(m:List Mv)(i:Nat):List Int:=(m.take i).flatMap iE
def iF(m:List Mv):List Int:=fo ((m.flatMap iE).mergeSort fun x y=>decide (x≤y))
theorem yR{m:List Mv}{i:Nat}(h:i<m.length):jS m (i+1)=jS m i++iE m[i]:=by
 unfold jS;rw[List.take_succ_eq_append_getElem h,List.flatMap_append];simp
theorem EW{x:Mv}:(iE x).length≤2:=by unfold iE;exact List.length_filter_le ..
theorem ue{m:List Mv}{i:Nat}(h:i≤m.length):(jS m i).length≤2*i:=by
 induction i with
 |zero=>simp[jS]
 |succ i ih=>rw[yR (by omega),List.length_append];have:=ih (by omega);have:=EW (x:=m[i]);omega
def lP(x:Mv)(k:Nat):List Int:=([x.old,x.new].take k).filter fun y=>decide (0≤y)
theorem Hg{x:Mv}{k:Nat}(h:k<2):lP x (k+1)=lP x k++(if 0≤([x.old,x.new][k]'(by simpa using h))then[[x.old,x.new][k]'(by simpa using h)]else[]):=by
 unfold lP;rw[List.take_succ_eq_append_getElem (by simpa using h),List.filter_append];congr 1
 by_cases a:0≤[x.old,x.new][k]'(by simpa using h)
 ·rw[if_pos a];simp[a]
 ·rw[if_neg a];simp[a]
theorem Hf{x:Mv}{k:Nat}:(lP x k).length≤2:=Nat.le_trans (List.length_filter_le ..) (by rw[List.length_take];simp;omega)
theorem GC{l:List Int}:(l.mergeSort fun x y=>decide (x≤y)).length=l.length:=List.length_mergeSort l
set_option maxHeartbeats 1000000 in
theorem EX(l:List Rf)(m:List Mv)(hm:m.length≤1000):ae Tryz.prog 137 [.c (.bp [.bs 2 Rf bd l,.bs 3 Mv cC m])] [] (Rt (.c (.rw 0)) [.row 1 Int encI (iF m)]):=by
 refine ak (n:=39) (n0:=0) tabOk Tryz.call137 Tryz.func137 ?_;intro hb;(conv=>whnf);refine lp Nat (fun i=>⟨[(3,.c (.rw 0)),(11,.c (.bs 3 Mv cC m)),(12,.c (.int .i64 m.length)),(13,.c (.int .i64 i))],[.row 1 Int encI (jS m i)]⟩) (fun i=>i≤m.length∧True) (fun i=>m.length-i) 0 [] [.new] ?_ ?_ (fun i r=>?_)
 ·simp
 ·repeat' first|exact trivial|exact rfl|refine And.intro ?_ ?_
 (conv=>whnf);refine dec (fun o=>?_) (fun o=>?_)
 ·have d:i<m.length:=by omega
  have g:=ue (m:=m) (i:=i) (by omega);(conv=>whnf);refine⟨i,m[i],rfl,List.getElem?_eq_getElem d,?_⟩;(conv=>whnf);refine⟨[m[i].old,m[i].new],rfl,?_⟩;have j:=yR d;generalize m[i]=x at*;generalize jS m i=out at*;(conv=>whnf);refine lp Nat (fun k=>⟨[(3,.c (.rw 0)),(11,.c (.bs 3 Mv cC m)),(12,.c (.int .i64 m.length)),(13,.c (.int .i64 i)),(21,.c (.rw 1)),(22,.c (.int .i64 2)),(23,.c (.int .i64 k))],[.row 1 Int encI (out++lP x k),.row 1 Int encI [x.old,x.new]]⟩) (fun k=>k≤2∧True) (fun k=>2-k) 0 [] [.same 0,.same 2] ?_ ?_ (fun k s=>?_)
  ·simp
  ·rw[show lP x 0=[]from rfl,List.append_nil];repeat' first|exact trivial|exact rfl|refine And.intro ?_ ?_
  have q:=Hf (x:=x) (k:=k);(conv=>whnf);refine dec (fun p=>?_) (fun p=>?_)
  ·have a:k<2:=by omega
   have b:=Hg (x:=x) a;generalize lP x k=t at*;have f:k<[x.old,x.new].length:=by simpa using a
   (conv=>whnf);refine⟨k,⟨rfl,f⟩,?_⟩;(conv=>whnf);refine⟨[x.old,x.new][k],List.getElem?_eq_getElem f,?_⟩;(conv=>whnf);refine dec (fun h=>?_) (fun h=>?_)
   ·rw[if_pos h]at b;(conv=>whnf);refine⟨[[x.old,x.new][k]],rfl,?_⟩;(conv=>whnf);refine⟨_,_,rfl,rfl,(by simp only[List.length_append,List.length_cons,List.length_nil];omega),?_⟩;repeat'((conv=>whnf);refine I6 ?_)
    refine ag (k+1) [] [.same 3,.same 1] ⟨a,trivial⟩ (by simp only[];omega) ?_;rw[b,←List.append_assoc];repeat' first|exact trivial|exact rfl|refine And.intro ?_ ?_
   ·rw[if_neg h,List.append_nil]at b;repeat'((conv=>whnf);refine I6 ?_)
    refine ag (k+1) [] [.same 0,.same 1] ⟨a,trivial⟩ (by simp only[];omega) ?_;rw[b];repeat' first|exact trivial|exact rfl|refine And.intro ?_ ?_
  ·obtain rfl:k=2:=by omega
   rw[show lP x 2=iE x from rfl,←j];repeat'((conv=>whnf);refine I6 ?_)
   refine ag (i+1) [] [.same 0] ⟨d,trivial⟩ (by simp only[];omega) ?_;repeat' first|exact trivial|exact rfl|refine And.intro ?_ ?_
 ·obtain rfl:i=m.length:=by omega
  have g:=ue (m:=m) (i:=m.length) (Nat.le_refl _);have e:jS m m.length=m.flatMap iE:=by unfold jS;rw[List.take_length]
  rw[e]at g⊢;(conv=>whnf);refine cl [] [0] (Bg (m.flatMap iE) (by omega)) ?_;(conv=>whnf);refine cl [] [0] (xB ((m.flatMap iE).mergeSort fun x y=>decide (x≤y)) (by rw[GC];omega)) ?_;(conv=>whnf);exact rx [] [.same 1]
end Go.Nest
end
section
namespace Go.Nest
open Go Go.AM Go.Proofs
open Go.Proofs.YtpechfcbnoggfaaGreatDoor (tab tabOk)
set_option maxRecDepth 4000
structure Rs where
 name:List UInt8
 old:Int
 id:Int
 right:Bool
theorem EY{l:List Rf}{m:List Mv}(h:mZ l m){r:Rf}(hr:r∈l):r.id∈iF m:=by
 have c:=h.ids r hr;have a:=(o3 h.sort hr).2;rw[h.get]at a;obtain⟨x,d,_,b⟩:=EI (m:=m) (n:=r.name) (by rw[a];omega);unfold iF fo;rw[qA];refine .inr ?_;rw[List.mem_mergeSort,List.mem_flatMap];refine⟨x,d,?_⟩;unfold iE;rw[List.mem_filter];exact⟨by simp[←a,←b],by simpa using c⟩
end Go.Nest
end
