/- part -/
import Derived.Test.YtpechfcbnoggfaaGreatDoorN1
import Derived.Test.YtpechfcbnoggfaaGreatDoorZ1
import Derived.Test.YtpechfcbnoggfaaGreatDoorW1
set_option linter.unusedVariables false
set_option linter.unusedSimpArgs false
section
namespace Go.Nest
open Go Go.AM Go.Proofs
open Go.Proofs.YtpechfcbnoggfaaGreatDoor (tab tabOk)
set_option maxRecDepth 4000
theorem De{dr:Bool}(l:List UInt8):bA dr Tryz.prog 352 [.c (.str l),.c (.int .u8 47)] [] (Rt (.c (.int .i64 (l.count 47))) []):=by
 refine x5 (e:=Extern.BytealgCount.count) Tryz.func352 (by decide) rfl rfl rfl rfl (fun F H m d w h=>?_);match d,h with
 |[f,g],⟨a,b,_⟩=>
  cases a with
  |str _ _=>
   cases b with
   |int _=>exact⟨_,Lib.run_countString ⟨l.toArray⟩ 47 w,fun F H m=>.int .nl⟩
theorem E2{dr:Bool}(l:List UInt8):bA dr Tryz.prog 310 [.c (.str l),.c (.int .u8 47)] [] (Rt (.c (.int .i64 (Lib.indexByte l 47))) []):=by
 refine x5 (e:=Extern.BytealgIndexByte.indexByte) Tryz.func310 (by decide) rfl rfl rfl rfl (fun F H m d w h=>?_);match d,h with
 |[f,g],⟨a,b,_⟩=>
  cases a with
  |str _ _=>
   cases b with
   |int _=>exact⟨_,Lib.run_indexByteString ⟨l.toArray⟩ 47 w,fun F H m=>.int .nl⟩
theorem I2{dr:Bool}(l:List UInt8):bA dr Tryz.prog 335 [.c (.str l),.c (.str [47])] [] (Rt (.c (.int .i64 (l.count 47))) []):=by
 refine ak (n:=34) (n0:=0) tabOk Tryz.call335 Tryz.func335 ?_;intro hb;skip;(conv=>whnf);refine⟨0,47,rfl,rfl,?_⟩;(conv=>whnf);refine cl [] [] (De l) ?_;(conv=>whnf);exact aG rfl
theorem I3{dr:Bool}(l:List UInt8):bA dr Tryz.prog 260 [.c (.str l),.c (.int .u8 47)] [] (Rt (.c (.int .i64 (Lib.indexByte l 47))) []):=by
 refine ak (n:=8) (n0:=0) tabOk Tryz.call260 Tryz.func260 ?_;intro hb;(conv=>whnf);refine cl [] [] (E2 l) ?_;(conv=>whnf);exact aG rfl
theorem Be{dr:Bool}(l:List UInt8):bA dr Tryz.prog 185 [.c (.str l),.c (.str [47])] [] (Rt (.c (.int .i64 (Lib.indexByte l 47))) []):=by
 refine ak (n:=143) (n0:=0) tabOk Tryz.call185 Tryz.func185 ?_;intro hb;repeat'((conv=>whnf);first|(refine dec (fun h=>?_) (fun h=>?_)<;>try contradiction)|refine aG ?_|fail)
 ·obtain rfl:l=[47]:=h.symm;rfl
 ·(conv=>whnf);refine⟨0,47,rfl,rfl,?_⟩;(conv=>whnf);refine cl [] [] (I3 l) ?_;(conv=>whnf);exact aG rfl
theorem I4{dr:Bool}(l:List UInt8):bA dr Tryz.prog 111 [.c (.str l),.c (.str [47])] [] (Rt (.c (.int .i64 (Lib.indexByte l 47))) []):=by
 refine ak (n:=8) (n0:=0) tabOk Tryz.call111 Tryz.func111 ?_;intro hb;(conv=>whnf);refine cl [] [] (Be l) ?_;(conv=>whnf);exact aG rfl
structure GS(l:List UInt8)(a:List (List UInt8))(s:List UInt8)(i:Nat):Prop where
 len:a.length=l.count 47+1
 cnt:i+s.count 47=l.count 47
 aA:aA l=a.take i++aA s
 sl:s.length≤l.length
theorem Dd(l:List UInt8):l.count 47≤l.length:=List.count_le_length
set_option maxHeartbeats 1000000 in
theorem EH{dr:Bool}(l:List UInt8)(hl:l.length≤4000000):bA dr Tryz.prog 301 [.c (.str l),.c (.str [47]),.c (.int .i64 0),.c (.int .i64 (-1))] [] (Rt (.c (.rw 0)) [.row 1 (List UInt8) encS (aA l)]):=by
 refine iX (n:=66) (n0:=0) tabOk Tryz.call301 Tryz.func301 ?_;intro hb;have r:=Dd l;refine XM.seq ?_;skip;refine XM.seq ?_;skip;refine XM.seq ?_;skip;refine XM.seq ?_;skip;(conv=>whnf);refine cl [] [] (I2 l) ?_;repeat'((conv=>whnf);refine I6 ?_)
 refine XM.seq ?_;repeat'((conv=>whnf);refine I6 ?_)
 (conv=>whnf);rw[show min ((l.count 47:Int)+1) ((l.length:Int)+1)=((l.count 47+1:Nat):Int)by omega];refine XM.seq ?_;(conv=>whnf);refine⟨l.count 47+1,[],⟨rfl,rfl⟩,rfl,by simp only[];omega,?_⟩;skip;refine XM.seq ?_;repeat'((conv=>whnf);refine I6 ?_)
 refine XM.seq ?_;skip;refine XM.join (ι:=List (List UInt8)×List UInt8) (fun|(a,s)=>⟨[(0,.c (.str s)),(9,.c (.rw 0)),(10,.c (.int .i64 (l.count 47:Nat)))],[.row 1 (List UInt8) encS a]⟩) (fun x=>GS l x.1 x.2 (l.count 47)) ?_ (fun x d=>?_)
 ·(conv=>whnf)
  refine lp (Nat×List (List UInt8)×List UInt8) (fun|(i,a,s)=>⟨[(0,.c (.str s)),(1,.c (.str [47])),(2,.c (.int .i64 0)),(3,.c (.int .i64 (((l.count 47+1:Nat):Int)-1))),(9,.c (.rw 0)),(10,.c (.int .i64 i))],[.row 1 (List UInt8) encS a]⟩)
   (fun x=>GS l x.2.1 x.2.2 x.1∧True) (fun x=>l.count 47-x.1) (0,List.replicate (l.count 47+1) [],l) [] [.same 0] ?_ ?_ (fun x d=>?_)
  ·exact⟨⟨by simp,by simp,by simp,Nat.le_refl _⟩,trivial⟩
  ·repeat' first|exact trivial|exact rfl|refine And.intro ?_ ?_
  obtain⟨i,a,s⟩:=x;obtain⟨b,_⟩:=d;dsimp only at b;have e:=b.len;have h:=b.cnt;have q:=b.sl;(conv=>whnf);refine dec (fun j=>?_) (fun j=>?_)
  ·obtain⟨m,o,t,p,u⟩:=uj (l:=s) (by omega);have g:=I4 (dr:=dr) s;rw[o]at g;(conv=>whnf);refine cl [] [] (g) ?_;repeat'((conv=>whnf);refine I6 ?_)
   (conv=>whnf);refine⟨0,m,rfl,by omega,by omega,?_⟩;(conv=>whnf);refine⟨i,⟨rfl,by omega⟩,?_⟩;(conv=>whnf);refine⟨_,(s.take m).drop 0,List.getElem?_eq_getElem (by omega),⟨Nat.le_refl _,rfl⟩,?_⟩;skip;refine⟨i64 (by simp;omega) (by simp;omega),?_⟩;(conv=>whnf);refine⟨m+1,s.length,rfl,rfl,by omega,?_⟩;repeat'((conv=>whnf);refine I6 ?_)
   refine ag (i+1,a.set i ((s.take m).drop 0),(s.take s.length).drop (m+1)) [] [.same 0] ⟨⟨?_,?_,?_,?_⟩,trivial⟩ (by simp only[];omega) ?_
   ·dsimp only;rw[List.length_set];exact e
   ·dsimp only;rw[List.take_length];omega
   ·dsimp only;rw[List.take_length,b.aA,p,List.drop_zero,List.take_succ_eq_append_getElem (by rw[List.length_set];omega),List.getElem_set_self,List.take_set_of_le (Nat.le_refl _)];simp
   ·dsimp only;rw[List.take_length,List.length_drop];omega
   ·repeat' first|exact trivial|exact rfl|refine And.intro ?_ ?_
  ·obtain rfl:i=l.count 47:=by omega
   (conv=>whnf);refine⟨(a,s),b,[],[.same 0],?_⟩;repeat' first|exact trivial|exact rfl|refine And.intro ?_ ?_
 obtain⟨a,s⟩:=x;dsimp only at d;have e:=d.len;have h:=d.cnt;have f:=d.aA;rw[mO (l:=s) (by omega)]at f;refine XM.seq ?_;(conv=>whnf);refine⟨l.count 47,⟨rfl,by omega⟩,?_⟩;(conv=>whnf);refine⟨_,s,List.getElem?_eq_getElem (by omega),⟨Nat.le_refl _,rfl⟩,?_⟩;skip;refine XM.of ?_;(conv=>whnf);refine⟨i64 (by omega) (by omega),?_⟩;(conv=>whnf);refine⟨0,l.count 47+1,rfl,by omega,by rw[List.length_set];omega,?_⟩;(conv=>whnf)
 have k:(((a.set (l.count 47) s).drop 0).take (l.count 47+1-0))=aA l:=by
  rw[f,List.drop_zero,Nat.sub_zero,List.take_succ_eq_append_getElem (by rw[List.length_set];omega),List.getElem_set_self,List.take_set_of_le (Nat.le_refl _)]
 refine rt [] [.cut 1 0 0 (l.count 47+1-0)] ?_ rfl ⟨rfl,rfl⟩;repeat' first|exact trivial|exact rfl|refine And.intro ?_ ?_
 ·rw[List.length_set];omega
 ·rw[k]
end Go.Nest
end
section
namespace Go.Nest
open Go Go.AM Go.Proofs
open Go.Proofs.YtpechfcbnoggfaaGreatDoor (tab tabOk)
set_option maxRecDepth 4000
theorem vM{dr:Bool}(l:List UInt8)(hl:l.length≤4000000):bA dr Tryz.prog 252 [.c (.str l),.c (.str [47])] [] (Rt (.c (.rw 0)) [.row 1 (List UInt8) encS (aA l)]):=by
 refine ak (n:=8) (n0:=0) tabOk Tryz.call252 Tryz.func252 ?_;intro hb;(conv=>whnf);refine cl [] [] (EH l hl) ?_;(conv=>whnf);exact rx [] [.same 0]
def eT:List (List UInt8)→Int
 |[]=>0
 |x::r=>if bJ x=0 then eT r else bJ x
def bZ(l:List UInt8):List (List UInt8)×Int:=if eT (aA l)=0 then(if 8<(aA l).length then([],3)else(aA l,0))else([],eT (aA l))
theorem GH{x:List (List UInt8)}{i:Nat}(h:i<x.length)(hi:eT x=eT (x.drop i)):eT x=if bJ x[i]=0 then eT (x.drop (i+1))else bJ x[i]:=by
 rw[hi,List.drop_eq_getElem_cons h];rfl
theorem vf(l:List UInt8)(hl:l.length≤4000000):ae Tryz.prog 176 [.c (.str l)] [] (Rt (.aC [(false,[.rw 0]),(false,[.int .i64 (bZ l).2])]) [.row 1 (List UInt8) encS (bZ l).1]):=by
 refine iX (n:=26) (n0:=0) tabOk Tryz.call176 Tryz.func176 ?_;intro hb;have j:(aA l).length≤l.length+1:=by rw[vH];have:=List.count_le_length (a:=47) (l:=l);omega
 refine XM.seq ?_;skip;refine XM.seq ?_;(conv=>whnf);refine cl [] [] (vM l hl) ?_;skip;refine XM.join (ι:=Unit) (fun _=>⟨[(4,.c (.rw 0))],[.row 1 (List UInt8) encS (aA l)]⟩) (fun _=>eT (aA l)=0) ?_ (fun _ e=>?_)
 ·(conv=>whnf);refine lp Nat (fun i=>⟨[(4,.c (.rw 0)),(10,.c (.rw 0)),(11,.c (.int .i64 (aA l).length)),(12,.c (.int .i64 i))],[.row 1 (List UInt8) encS (aA l)]⟩) (fun i=>i≤(aA l).length∧eT (aA l)=eT ((aA l).drop i)) (fun i=>(aA l).length-i) 0 [] [.same 0] ?_ ?_ (fun i f=>?_)
  ·simp
  ·repeat' first|exact trivial|exact rfl|refine And.intro ?_ ?_
  (conv=>whnf);refine dec (fun g=>?_) (fun g=>?_)
  ·have d:i<(aA l).length:=by omega
   have b:=GH d f.2;repeat'((conv=>whnf);first|refine⟨_,⟨rfl,by omega⟩,?_⟩|refine⟨_,List.getElem?_eq_getElem (by omega),?_⟩|fail)
   (conv=>whnf);refine cl [] [] (ry (aA l)[i]) ?_;repeat'((conv=>whnf);first|(refine aw (fun h=>?_) (fun h=>?_)<;>try contradiction)|refine⟨i64 (by omega) (by omega),?_⟩|fail)
   ·rw[if_neg h]at b;have:bZ l=([],bJ (aA l)[i]):=by unfold bZ;rw[if_neg (by rw[b];exact h),b]
    rw[this];(conv=>whnf);exact rx [] [.new]
   ·rw[if_pos h]at b;refine ag (i+1) [] [.same 0] ⟨d,b⟩ (by simp only[];omega) ?_;repeat' first|exact trivial|exact rfl|refine And.intro ?_ ?_
  ·have:=f.2;rw[List.drop_of_length_le (by omega)]at this;(conv=>whnf);refine⟨(),this,[],[.same 0],?_⟩;repeat' first|exact trivial|exact rfl|refine And.intro ?_ ?_
 refine XM.of ?_;repeat'((conv=>whnf);first|(refine dec (fun h=>?_) (fun h=>?_)<;>try contradiction)|fail)
 ·have:bZ l=([],3):=by unfold bZ;rw[if_pos e,if_pos (by omega)]
  rw[this];(conv=>whnf);exact rx [] [.new]
 ·have:bZ l=(aA l,0):=by unfold bZ;rw[if_pos e,if_neg (by omega)]
  rw[this];(conv=>whnf);exact rx [] [.same 0]
theorem zw:∀{x y:List (List UInt8)} {i:Nat} (d:i<x.length) (hy:i<y.length),x.take i=y.take i→¬x[i]=y[i]→cP x y=Op.bytesLess x[i] y[i]
 |a::x,b::y,0,_,_,_,h=>by simp at h;simp[cP,h]
 |a::x,b::y,i+1,d,hy,c,h=>by
  simp at c h;obtain⟨rfl,c⟩:=c;have:=zw (x:=x) (y:=y) (i:=i) (by simpa using d) (by simpa using hy) c h;simp[cP,this]
theorem zy:∀{x y:List (List UInt8)} {i:Nat},x.take i=y.take i→¬(i<x.length∧i<y.length)→i≤x.length→i≤y.length→cP x y=decide (x.length<y.length)
 |[],[],_,_,_,_,_=>rfl
 |[],_::_,_,_,_,_,_=>by simp[cP]
 |_::_,[],_,_,_,_,_=>by simp[cP]
 |a::x,b::y,0,_,h,_,_=>by simp at h
 |a::x,b::y,i+1,c,h,d,e=>by
  simp at c h d e;obtain⟨rfl,c⟩:=c;have:=zy (x:=x) (y:=y) (i:=i) c (by omega) d e;simp[cP,this]
set_option maxHeartbeats 1000000 in
theorem kD{dr:Bool}(a b:List UInt8)(m:a.length≤4000000)(g:b.length≤4000000):bA dr Tryz.prog 175 [.c (.str a),.c (.str b)] [] (Rt (.c (.bool (au a b))) []):=by
 refine ak (n:=47) (n0:=0) tabOk Tryz.call175 Tryz.func175 ?_;intro hb;have o:(aA a).length≤a.length+1:=by rw[vH];have:=List.count_le_length (a:=47) (l:=a);omega
 (conv=>whnf);refine cl [] [] (vM a m) ?_;(conv=>whnf);refine cl [] [] (vM b g) ?_;(conv=>whnf);unfold au;refine lp Nat (fun i=>⟨[(5,.c (.rw 0)),(6,.c (.rw 1)),(7,.c (.int .i64 i))],[.row 1 (List UInt8) encS (aA a),.row 1 (List UInt8) encS (aA b)]⟩) (fun i=>(i≤(aA a).length∧i≤(aA b).length)∧(aA a).take i=(aA b).take i) (fun i=>(aA a).length-i) 0 [] [.same 0,.same 1] ?_ ?_ (fun i f=>?_)
 ·simp
 ·repeat' first|exact trivial|exact rfl|refine And.intro ?_ ?_
 have fin:¬(i<(aA a).length∧i<(aA b).length)→decide (((aA a).length:Int)<(aA b).length)=cP (aA a) (aA b):=fun h=>by
  rw[zy f.2 h f.1.1 f.1.2,decide_eq_decide];omega
 (conv=>whnf);refine dec (fun j=>?_) (fun j=>?_)
 ·(conv=>whnf);refine dec (fun k=>?_) (fun k=>?_)
  ·have e:i<(aA a).length:=by omega
   have d:i<(aA b).length:=by omega
   (conv=>whnf);refine⟨false,.grow,(.l [0,1,2,3,4,5,6,7,8]),by kernel_rfl,.inl ?_⟩;repeat'((conv=>whnf);first|(refine aw (fun h=>?_) (fun h=>?_)<;>try contradiction)|refine⟨i64 (by omega) (by omega),?_⟩|refine⟨_,⟨rfl,by omega⟩,?_⟩|refine⟨_,List.getElem?_eq_getElem (by omega),?_⟩|fail)
   ·(conv=>whnf);refine⟨false,.grow,(.l [0,1,2,3,4,5,6,7,8,9]),by kernel_rfl,.inl ?_⟩;repeat'((conv=>whnf);first|refine⟨_,⟨rfl,by omega⟩,?_⟩|refine⟨_,List.getElem?_eq_getElem (by omega),?_⟩|refine aE ?_|fail)
    exact(zw e d f.2 h).symm
   ·refine ag (i+1) [] [.same 0,.same 1] ⟨⟨e,d⟩,od e d f.2 h⟩ (by simp only[];omega) ?_;repeat' first|exact trivial|exact rfl|refine And.intro ?_ ?_
  ·repeat'((conv=>whnf);first|refine aE ?_|fail)
   exact fin (by omega)
 ·repeat'((conv=>whnf);first|refine aE ?_|fail)
  exact fin (by omega)
theorem ET{dr:Bool}(p q:List UInt8):bA dr Tryz.prog 336 [.c (.str p),.c (.str q)] [] (Rt (.c (.bool (q.isPrefixOf p))) []):=by
 refine ak (n:=18) (n0:=0) tabOk Tryz.call336 Tryz.func336 ?_;intro hb
 have a:q.isPrefixOf p=true↔p.take q.length=q:=by
  rw[List.isPrefixOf_iff_prefix,List.prefix_iff_eq_take];exact eq_comm
 (conv=>whnf);refine dec (fun h=>?_) (fun h=>?_)
 ·(conv=>whnf);refine⟨0,q.length,rfl,rfl,by omega,?_⟩;(conv=>whnf);refine aE ?_;rw[List.drop_zero,Bool.eq_iff_iff,a,decide_eq_true_iff]
 ·(conv=>whnf);refine aE ?_;symm;rw[Bool.eq_false_iff,Ne,a];intro e;have:=congrArg List.length e;rw[List.length_take]at this;omega
def fh(p d:List UInt8):List UInt8×Bool:=match under p d with
 |some r=>(r,true)
 |none=>(p,false)
theorem Dh{dr:Bool}(p q:List UInt8):bA dr Tryz.prog 302 [.c (.str p),.c (.str q)] [] (Rt (.aC [(false,[.str (if q.isPrefixOf p=true then p.drop q.length else p)]),(false,[.bool (q.isPrefixOf p)])]) []):=by
 refine ak (n:=15) (n0:=0) tabOk Tryz.call302 Tryz.func302 ?_;intro hb;(conv=>whnf);refine cl [] [] (ET p q) ?_;repeat'((conv=>whnf);first|refine cO (fun h=>?_) (fun h=>?_)|fail)
 ·rw[if_neg (by simp[h]),h];(conv=>whnf);exact rx [] []
 ·rw[if_pos h,h];rw[List.isPrefixOf_iff_prefix]at h;have:=h.length_le;(conv=>whnf);refine⟨q.length,p.length,rfl,rfl,by omega,?_⟩;(conv=>whnf);rw[List.take_length];exact rx [] []
theorem Ij{dr:Bool}(p q:List UInt8):bA dr Tryz.prog 253 [.c (.str p),.c (.str q)] [] (Rt (.aC [(false,[.str (if q.isPrefixOf p=true then p.drop q.length else p)]),(false,[.bool (q.isPrefixOf p)])]) []):=by
 refine ak (n:=11) (n0:=0) tabOk Tryz.call253 Tryz.func253 ?_;intro hb;(conv=>whnf);refine cl [] [] (Dh p q) ?_;(conv=>whnf);exact rx [] []
theorem pS{dr:Bool}(p d:List UInt8)(hd:d.length≤4000000):bA dr Tryz.prog 177 [.c (.str p),.c (.str d)] [] (Rt (.aC [(false,[.str (fh p d).1]),(false,[.bool (fh p d).2])]) []):=by
 have a:fh p d=(if(d++[47]).isPrefixOf p=true then p.drop (d++[47]).length else p,(d++[47]).isPrefixOf p):=by
  unfold fh under;cases h:(d++[47]).isPrefixOf p<;>simp
 rw[a];refine ak (n:=12) (n0:=0) tabOk Tryz.call177 Tryz.func177 ?_;intro hb;(conv=>whnf);refine⟨by simp;omega,?_⟩;(conv=>whnf);refine cl [] [] (Ij p (d++[47])) ?_;(conv=>whnf);exact rx [] []
end Go.Nest
end
section
namespace Go.Nest
open Go Go.AM
def cU(s:List UInt8):List UInt8×List UInt8×Bool:=if 0≤Lib.indexByte s 47 then(s.take (Lib.indexByte s 47).toNat,s.drop ((Lib.indexByte s 47).toNat+1),true)else(s,[],false)
theorem Di{s:List UInt8}(h:s.count 47=0):cU s=(s,[],false):=by
 unfold cU;rw[ui h,if_neg (by decide)]
theorem xH:∀{a b:List UInt8},a.count 47=0→cU (a++47::b)=(a,b,true):=by
 intro a b h
 have e:Lib.indexByte (a++47::b) 47=a.length:=by
  induction a with
  |nil=>simp[Lib.indexByte]
  |cons c a ih=>
   rw[List.count_cons]at h
   have d:(c==47)=false:=by
    cases d:c==47 with
    |false=>rfl
    |true=>rw[d]at h;simp at h
   rw[List.cons_append];unfold Lib.indexByte;rw[d,ih (by omega)];have:((a.length:Int)== -1)=false:=by simp
   simp[this]
 unfold cU;rw[e,if_pos (by omega)];simp
theorem xI{s:List UInt8}(h:¬s.count 47=0):∃a b,cU s=(a,b,true)∧s=a++47::b∧a.count 47=0:=by
 have g:∀{s:List UInt8},¬s.count 47=0→∃a b,s=a++47::b∧a.count 47=0:=by
  intro s;induction s with
  |nil=>intro h;simp at h
  |cons c s ih=>
   intro h;by_cases e:c=47
   ·exact⟨[],s,by rw[e];rfl,rfl⟩
   ·have i:(c==47)=false:=by simpa using e
    rw[List.count_cons,i]at h;obtain⟨a,b,d,f⟩:=ih (by simpa using h);exact⟨c::a,b,by rw[d];rfl,by rw[List.count_cons,i,f];rfl⟩
 obtain⟨a,b,d,f⟩:=g h;exact⟨a,b,by rw[d];exact xH f,d,f⟩
theorem jr{n:List UInt8}(h:bJ n=0):n.count 47=0:=by
 rw[List.count_eq_zero];intro a;unfold bJ at h;rw[if_pos]at h
 ·cases h
 ·refine .inr (.inr (.inr ?_));rw[List.any_eq_true];exact⟨47,a,by decide⟩
def cX(a:Int→List (List UInt8)→List Fi→Int×List Fi)(ins:List (List UInt8)):List aD→List Fi→Int×List Fi
 |[],out=>(0,out)
 |e::r,out=>if e.mode=2 then(if(a e.id (ins++[e.name]) out).1≠0 then a e.id (ins++[e.name]) out else cX a ins r (a e.id (ins++[e.name]) out).2)
  else if out.length=60 then(5,out)else cX a ins r (out++[⟨b5 (ins++[e.name]),e.mode,e.id,e.av⟩])
def bV(L:List Ob):Nat→Int→List (List UInt8)→List Fi→Int×List Fi
 |0,_,_,out=>(0,out)
 |n+1,t,a,out=>if kindOf L t≠2 then(9,out)else if 8≤a.length∧0<(aj L t).entries.length then(3,out)else cX (bV L n) a (aj L t).entries out
def bw(L:List Ob)(t:Int):List Fi×Int:=if(bV L 9 t [] []).1=0 then((bV L 9 t [] []).2,0)else([],(bV L 9 t [] []).1)
def bG(name:List UInt8):List Fi→List Fi×List Fi
 |[]=>([],[])
 |f::r=>match under f.path name with
  |none=>([],f::r)
  |some p=>(⟨p,f.mode,f.id,f.av⟩::(bG name r).1,(bG name r).2)
def di(es:List aD):Ob:=⟨2,[],es,0,[],[]⟩
def aR:Nat→List Ob→List aD→List Fi→Int×Int×List Ob
 |0,L,_,_=>(0,0,L)
 |n+1,L,a,[]=>ax L (di a)
 |n+1,L,a,f::r=>if f.path.count 47=0 then aR n L (a++[⟨f.path,f.mode,f.id,f.av⟩]) r
  else if(aR n L [] (bG (cU f.path).1 (f::r)).1).2.1≠0 then(0,(aR n L [] (bG (cU f.path).1 (f::r)).1).2.1,(aR n L [] (bG (cU f.path).1 (f::r)).1).2.2)
   else aR n (aR n L [] (bG (cU f.path).1 (f::r)).1).2.2 (a++[⟨(cU f.path).1,2,(aR n L [] (bG (cU f.path).1 (f::r)).1).1,0⟩]) (bG (cU f.path).1 (f::r)).2
def mu(l:List Fi):Nat:=(l.map fun f=>f.path.length+1).sum
theorem lK{f:Fi}{l:List Fi}:mu (f::l)=f.path.length+1+mu l:=by unfold mu;rw[List.map_cons,List.sum_cons]
theorem zY{l m:List Fi}:mu (l++m)=mu l+mu m:=by unfold mu;rw[List.map_append,List.sum_append]
def ey(p:Option Fi)(f:Fi):Int:=match p with
 |none=>0
 |some g=>if au g.path f.path=false then 8 else if(under f.path g.path).isSome=true then 10 else 0
def gp:Option Fi→List Fi→Int
 |_,[]=>0
 |p,f::r=>if(bZ f.path).2≠0 then(bZ f.path).2 else if f.mode≠1∧f.mode≠3 then 6 else if ey p f≠0 then ey p f else gp (some f) r
def cI(l:List Fi):Int:=if 60<l.length then 5 else gp none l
def cg(L:List Ob)(l:List Fi):Int×Int×List Ob:=if cI l≠0 then(0,cI l,L)else aR (mu l+1) L [] l
def pre(n:List UInt8)(f:Fi):Fi:=⟨n++47::f.path,f.mode,f.id,f.av⟩
inductive cu(ne:Bool)(L:List Ob):List aD→List Fi→Prop
 |nil:cu ne L [] []
 |file {e:aD} {es:List aD} {l:List Fi} (hm:e.mode≠2) (h:cu ne L es l):cu ne L (e::es) (⟨e.name,e.mode,e.id,e.av⟩::l)
 |dir {e:aD} {es:List aD} {m l:List Fi} (hm:e.mode=2) (hk:kindOf L e.id=2) (hne:ne=true→m≠[]) (h1:cu ne L (aj L e.id).entries m) (h:cu ne L es l):cu ne L (e::es) (m.map (pre e.name)++l)
def eI(ne:Bool)(L:List Ob)(t:Int)(l:List Fi):Prop:=kindOf L t=2∧cu ne L (aj L t).entries l
theorem c9{L M:List Ob}(h:L<+:M){k:Int}(hk:¬kindOf L k=0):kindOf M k=kindOf L k:=by
 obtain⟨t,rfl⟩:=h;exact nM hk
theorem ext_get{L M:List Ob}(h:L<+:M){k:Int}(hk:¬kindOf L k=0):aj M k=aj L k:=by
 obtain⟨t,rfl⟩:=h;have:=dh hk;exact yE (by omega)
theorem cu.mono{ne:Bool}{L M:List Ob}(d:L<+:M){es:List aD}{l:List Fi}(h:cu ne L es l):cu ne M es l:=by
 induction h with
 |nil=>exact .nil
 |file a _ ih=>exact .file a ih
 | @dir e es m l a f b g h c ih=>
  refine .dir a (by rw[c9 d (by omega)];exact f) b ?_ ih;rw[ext_get d (by omega)];exact c
theorem ai.tree{L:List Ob}(m:ai L){t:Int}(hk:kindOf L t=2):aj L t=di (aj L t).entries∧eM none (aj L t).entries=0∧(aj L t).entries.length≤60∧(∀e∈(aj L t).entries,kindOf L e.id=e.mode):=by
 have h:=m.get (id:=t) (by omega);have i:=eP (l:=L) (id:=t);rw[hk]at i;have k:=h.nb (by omega);have j:=h.nc (by omega);refine⟨?_,h.ents,h.entries,?_⟩
 ·generalize aj L t=o at*;obtain⟨a,b,c,d,e,f⟩:=o;simp only at i k j;rw[i,k,j.1,j.2.1,j.2.2];rfl
 ·have g:=dh (l:=L) (id:=t) (by omega);have:=(m.obj (aj L t) (by rw[ku g.1 g.2];exact List.getElem_mem _)).2;unfold dR at this;rw[Bool.and_eq_true,List.all_eq_true]at this;intro e n;simpa using this.1 e n
def eH:Option (List UInt8)→List aD→Prop
 |_,[]=>True
 |p,e::r=>(∀q,p=some q→Op.bytesLess q e.name=true)∧eH (some e.name) r
theorem xW:∀{es:List aD} {p:Option (List UInt8)},eM p es=0→eH p es
 |[],_,_=>trivial
 |e::r,p,h=>by
  unfold eM at h;split at h
  ·rename_i a;refine⟨fun q b=>?_,xW h⟩;subst b;unfold gD at a;split at a
   ·exact absurd a ‹_›
   split at a
   ·cases a
   split at a
   ·cases a
   split at a
   ·cases a
   simp only at a;split at a
   ·assumption
   ·cases a
  ·exact absurd h ‹_›
theorem AV:∀{es:List aD} {q:List UInt8},eH (some q) es→∀e∈es,Op.bytesLess q e.name=true
 |e::r,q,⟨a,b⟩,x,hx=>by
  rcases List.mem_cons.1 hx with rfl|hx
  ·exact a q rfl
  ·exact kY (a q rfl) (AV b x hx)
theorem HP:∀{es:List aD} {p:Option (List UInt8)},eH p es→eH none es
 |[],_,_=>trivial
 |_::_,_,⟨_,h⟩=>⟨fun _ a=>(by cases a),h⟩
theorem HO:∀{es:List aD} {q r:List UInt8},Op.bytesLess q r=true→eH (some r) es→eH (some q) es
 |[],_,_,_,_=>trivial
 |_::_,_,_,h,⟨a,b⟩=>⟨fun s c=>(by cases c;exact kY h (a _ rfl)),b⟩
structure ik(L:List Ob)(e:aD):Prop where
 name:bJ e.name=0
 m1:1≤e.mode
 m3:e.mode≤3
 id:0≤e.id
 av:0≤e.av∧e.av<4
 link:e.mode=3∨e.av=0
 kind:kindOf L e.id=e.mode
theorem ik.mono{L M:List Ob}(a:L<+:M){e:aD}(h:ik L e):ik M e:=
 ⟨h.name,h.m1,h.m3,h.id,h.av,h.link,by have:=h.kind;have:=h.m1;rw[c9 a (by omega)];exact h.kind⟩
theorem gM{L:List Ob}(j:ai L){t:Int}(hk:kindOf L t=2):eH none (aj L t).entries∧∀e∈(aj L t).entries,ik L e:=by
 obtain⟨k,b,l,i⟩:=j.tree hk;refine⟨xW b,fun e c=>?_⟩;obtain⟨d,a,f,g,h⟩:=mh b e c;exact⟨d,a.1,a.2,f,g,h,i e c⟩
theorem xX{L:List Ob}:∀{es:List aD} {p:Option (List UInt8)},eH p es→(∀e∈es,ik L e)→eM p es=0
 |[],_,_,_=>rfl
 |e::r,p,⟨d,f⟩,h=>by
  have a:=h e (by simp)
  have c:gD p e=0:=by
   unfold gD;have b:=a.name;have i:=a.m1;have j:=a.m3;have k:=a.id;have l:=a.av;have m:=a.link;rw[if_neg (by simpa using b),if_neg (by omega),if_neg (by omega)];cases p with
   |none=>simp;try omega
   |some q=>simp[d q rfl];try omega
  unfold eM;rw[if_pos c];exact xX f fun x g=>h x (by simp[g])
theorem AF{L:List Ob}(f:ai L){es:List aD}(h1:eH none es)(h2:∀e∈es,ik L e)(d:es.length≤60):(ax L (di es)).2.1=0∨(ax L (di es)).2.1=15:=by
 have b:bW (di es)=0:=by
  unfold bW di mS;simp[xX h1 h2];omega
 have c:dR L (di es)=true:=by
  unfold dR di;simp;intro e a;exact(h2 e a).kind
 unfold ax;rw[if_neg (by simpa using b),if_neg (by simp[c])];split
 ·exact .inl rfl
 split
 ·exact .inr rfl
 ·exact .inl rfl
theorem jw{L:List Ob}(o:Ob):L<+:(ax L o).2.2:=by
 unfold ax;split
 ·exact List.prefix_refl _
 split
 ·exact List.prefix_refl _
 split
 ·exact List.prefix_refl _
 split
 ·exact List.prefix_refl _
 ·exact List.prefix_append _ _
theorem lQ{L:List Ob}{o:Ob}(h:(ax L o).2.1=0):0≤(ax L o).1∧aj (ax L o).2.2 (ax L o).1=o:=by
 unfold ax at h⊢;split at h
 ·exact absurd h ‹_›
 split at h
 ·cases h
 split at h
 ·rename_i b c a;rw[if_neg b,if_neg c,if_pos a];refine⟨a,?_⟩;show aj L (bF (fun x=>decide (x=o)) L)=o;unfold bF at a⊢;cases e:L.findIdx? (fun x=>decide (x=o))with
  |none=>rw[e]at a;simp at a
  |some i=>
   rw[List.findIdx?_eq_some_iff_getElem]at e;obtain⟨d,f,_⟩:=e;rw[ku (by simp) (by simpa using d)];simpa using f
 split at h
 ·cases h
 ·rename_i b c a d;rw[if_neg b,if_neg c,if_neg a,if_neg d];exact⟨by simp,ua⟩
theorem AE{L:List Ob}(c:ai L){t:Int}(hk:kindOf L t=2):ax L (aj L t)=(t,0,L):=by
 obtain⟨b,a⟩:=dh (l:=L) (id:=t) (by omega);rw[ku b a,Aw c a];simp;omega
theorem o6(name:List UInt8):∀l:List Fi,l=(bG name l).1.map (pre name)++(bG name l).2
 |[]=>rfl
 |f::r=>by
  have ih:=o6 name r;unfold bG;cases h:under f.path name with
  |none=>rfl
  |some p=>
   simp only[List.map_cons,List.cons_append];rw[←ih];congr 1
   obtain⟨a,b,c,d⟩:=f;have:=jD h;simp only at this;rw[pre,this]
theorem qW{name:List UInt8}{f:Fi}{r:List Fi}{b:List UInt8}(h:f.path=name++47::b):(bG name (f::r)).1≠[]:=by
 unfold bG;rw[h,mU];simp
theorem uU(n:List UInt8):∀m:List Fi,mu m+(n.length+1)*m.length=mu (m.map (pre n))
 |[]=>rfl
 |f::m=>by
  have:=uU n m;rw[List.map_cons,lK,lK,List.length_cons,Nat.mul_succ,←this];simp[pre];omega
theorem uq{name:List UInt8}{f:Fi}{r:List Fi}{b:List UInt8}(h:f.path=name++47::b):mu (bG name (f::r)).1<mu (f::r)∧mu (bG name (f::r)).2<mu (f::r):=by
 have a:=qW (r:=r) h;have c:=o6 name (f::r);have d:=uU name (bG name (f::r)).1;have e:mu (f::r)=mu ((bG name (f::r)).1.map (pre name))+mu (bG name (f::r)).2:=by rw[←zY,←c]
 have g:0<(bG name (f::r)).1.length:=List.length_pos_iff.2 a;have i:(bG name (f::r)).1.length≤(name.length+1)*(bG name (f::r)).1.length:=Nat.le_mul_of_pos_left _ (by omega);omega
theorem y8{name:List UInt8}:∀{m l:List Fi},(∀f∈l,under f.path name=none)→bG name (m.map (pre name)++l)=(m,l)
 |[],[],_=>rfl
 |[],f::l,h=>by
  show bG name (f::l)=_;unfold bG;rw[h f (by simp)]
 |f::m,l,h=>by
  show bG name (pre name f::(m.map (pre name)++l))=_;unfold bG;rw[show(pre name f).path=name++47::f.path from rfl,mU,y8 h];rfl
theorem kL{n:List UInt8}(h:n.count 47=0)(p:List UInt8):aA (n++47::p)=n::aA p:=by rw[pL,mO h];rfl
theorem cu.fst{ne:Bool}{L:List Ob}{es:List aD}{l:List Fi}(h:cu ne L es l):(∀e∈es,bJ e.name=0)→∀f∈l,∃e∈es,∃r,aA f.path=e.name::r:=by
 induction h with
 |nil=>intro _ f hf;cases hf
 | @file e es l j _ ih=>
  intro a f hf;rcases List.mem_cons.1 hf with rfl|hf
  ·exact⟨e,by simp,[],mO (jr (a e (by simp)))⟩
  ·obtain⟨b,c,d⟩:=ih (fun x i=>a x (by simp[i])) f hf;exact⟨b,by simp[c],d⟩
 | @dir e es m l j q k o h n ih=>
  intro a f hf;rcases List.mem_append.1 hf with hf|hf
  ·obtain⟨g,p,rfl⟩:=List.mem_map.1 hf;exact⟨e,by simp,aA g.path,kL (jr (a e (by simp))) _⟩
  ·obtain⟨b,c,d⟩:=ih (fun x i=>a x (by simp[i])) f hf;exact⟨b,by simp[c],d⟩
theorem vV{p n:List UInt8}(hn:n.count 47=0){x:List UInt8}{r:List (List UInt8)}(h:aA p=x::r)(b:x≠n):under p n=none:=by
 cases a:under p n with
 |none=>rfl
 |some q=>
  have:=jD a;rw[this,kL hn]at h;cases h;exact absurd rfl b
theorem sT{a b:List UInt8}(h:Op.bytesLess a b=true):b≠a:=fun e=>by rw[e,l9]at h;cases h
theorem cu.apart{ne:Bool}{L:List Ob}{e:aD}{es:List aD}{l:List Fi}{p:Option (List UInt8)}(h:cu ne L es l)(hn:∀x∈e::es,bJ x.name=0)(hr:eH p (e::es)):∀f∈l,∃x r,aA f.path=x::r∧Op.bytesLess e.name x=true:=fun f d=>by
 obtain⟨a,b,r,c⟩:=h.fst (fun x g=>hn x (by simp[g])) f d;exact⟨a.name,r,c,AV hr.2 a b⟩
def Made(ne:Bool)(L0 L:List Ob)(c es:List aD)(p:Option (List UInt8))(r:Int×Int×List Ob):Prop:=
 ∃b,L<+:b∧ai b∧((r.2.1=15∧ne=false)∨∃a,r=ax b (di (c++a))∧eH p a∧(∀e∈a,ik b e)∧a.length≤es.length∧(ne=true→a=es∧b=L))
theorem cu.HB{ne:Bool}{L0:List Ob}(Z:ai L0){es:List aD}{l:List Fi}(h:cu ne L0 es l):∀(n:Nat) (L:List Ob) (g:List aD) (p:Option (List UInt8)),L0<+:L→ai L→eH p es→(∀e∈es,ik L0 e)→es.length≤60→mu l<n→Made ne L0 L g es p (aR n L g l):=by
 induction h with
 |nil=>
  intro n L g p k E y w j U;obtain⟨n,rfl⟩:∃m,n=m+1:=⟨n-1,by omega⟩;refine⟨L,List.prefix_refl _,E,.inr ⟨[],?_,trivial,fun e w=>(by cases w),Nat.le_refl _,fun _=>⟨rfl,rfl⟩⟩⟩;rw[List.append_nil];rfl
 | @file e es l hm h ih=>
  intro n L g p k E y w j U;obtain⟨n,rfl⟩:∃m,n=m+1:=⟨n-1,by omega⟩;rw[lK]at U;have N:=w e (by simp);unfold aR;rw[if_pos (jr N.name)];obtain⟨P,J,K,D⟩:=ih n L (g++[e]) (some e.name) k E y.2 (fun x k=>w x (by simp[k])) (by simp at j;omega) (by omega);refine⟨P,J,K,D.imp id ?_⟩;rintro⟨o,O,W,k3,k4,Y⟩;refine⟨e::o,?_,⟨y.1,W⟩,fun x hx2=>?_,by simp;omega,fun h=>⟨by rw[(Y h).1],(Y h).2⟩⟩
  ·rw[show g++e::o=(g++[e])++o by simp];exact O
  ·rcases List.mem_cons.1 hx2 with rfl|hx2
   ·exact N.mono (k.trans J)
   ·exact k3 x hx2
 | @dir e es m l hm S am h1 h ap ih=>
  intro n L g p k E y w j U;have N:=w e (by simp);have hs:=jr N.name;by_cases T:m=[]
  ·subst T;have t:ne=false:=by cases ne with|false=>rfl|true=>exact absurd rfl (am rfl)
   obtain ⟨P, J, K, D⟩ := ih n L g p k E (by
    cases p with
    |none=>exact HP y.2
    |some q=>exact HO (y.1 q rfl) y.2) (fun x k=>w x (by simp[k])) (by simp at j;omega) (by simpa using U)
   refine⟨P,J,K,D.imp id ?_⟩;rintro⟨o,O,W,k3,k4,Y⟩;exact⟨o,O,W,k3,by simp;omega,fun h=>by rw[t]at h;cases h⟩
  obtain⟨n,rfl⟩:∃m,n=m+1:=⟨n-1,by omega⟩;obtain⟨v,m0,rfl⟩:∃v m0,m=v::m0:=by cases m with|nil=>exact absurd rfl T|cons a b=>exact⟨a,b,rfl⟩
  have R:cU (pre e.name v).path=(e.name,v.path,true):=xH hs
  have ac:bG e.name (pre e.name v::(m0.map (pre e.name)++l))=(v::m0,l):=y8 (m:=v::m0) fun f hf=>by
   obtain⟨x,r,e1,e2⟩:=h.apart (fun x k=>(w x k).name) y f hf;exact vV hs e1 (sT e2)
  have Q:¬(pre e.name v).path.count 47=0:=by
   show¬(e.name++47::v.path).count 47=0;rw[List.count_append,List.count_cons_self];omega
  have al:=uU e.name (v::m0);rw[zY]at U;rw[List.length_cons]at al;have ar:0<(e.name.length+1)*(m0.length+1):=Nat.mul_pos (by omega) (by omega);rw[List.map_cons,List.cons_append];unfold aR;rw[if_neg Q,R,ac];dsimp only;obtain⟨q1,q2⟩:=gM Z S;obtain⟨z,J,K,D⟩:=ap n L [] none k E q1 q2 (Z.tree S).2.2.1 (by omega);have s:ne=false→∀{a:Int} {M:List Ob},Made ne L0 L g (e::es) p (a,15,M):=fun h a M=>⟨L,List.prefix_refl _,E,.inl ⟨rfl,h⟩⟩;rcases D with⟨D,g4⟩|⟨i,O,W,k3,k4,Y⟩
  ·rw[if_pos (by rw[D];decide),D];exact s g4
  rw[List.nil_append]at O;rw[O];have H:i.length≤60:=by have:=(Z.tree S).2.2.1;omega
  have u:ne=true→ax z (di i)=(e.id,0,L):=fun h=>by
   obtain⟨e1,e2⟩:=Y h;rw[e1,e2];have ad:kindOf L e.id=2:=by rw[c9 k (by omega)];exact S
   have hg:aj L e.id=aj L0 e.id:=ext_get k (by omega);have:=AE E ad;rw[hg,(Z.tree S).1]at this;exact this
  rcases AF K W k3 H with hz|hz
  ·rw[if_neg (by rw[hz];simp)];obtain⟨z1,z2⟩:=lQ hz;have zx:L<+:(ax z (di i)).2.2:=J.trans (jw _);have zk:kindOf (ax z (di i)).2.2 (ax z (di i)).1=2:=by rw[←eP,z2];rfl
   have I:ik (ax z (di i)).2.2 ⟨e.name,2,(ax z (di i)).1,0⟩:=⟨N.name,by simp,by simp,z1,by simp,.inr rfl,zk⟩;obtain⟨P,j1,j2,j3⟩:=ih n (ax z (di i)).2.2 (g++[⟨e.name,2,(ax z (di i)).1,0⟩]) (some e.name) (k.trans zx) (jv K _) y.2 (fun x k=>w x (by simp[k])) (by simp at j;omega) (by omega);refine⟨P,zx.trans j1,j2,j3.imp id ?_⟩;rintro⟨o,t1,t2,t3,t4,t5⟩;refine⟨⟨e.name,2,(ax z (di i)).1,0⟩::o,?_,⟨y.1,t2⟩,fun x hx2=>?_,by simp;omega,fun h=>?_⟩
   ·rw[t1];simp
   ·rcases List.mem_cons.1 hx2 with rfl|hx2
    ·exact I.mono j1
    ·exact t3 x hx2
   ·rw[u h]at t5⊢;refine⟨?_,(t5 h).2⟩;rw[(t5 h).1];congr 1
    have F:e.av=0:=by have:=N.link;omega
    obtain⟨a,b,c,d⟩:=e;simp only at hm F;rw[hm,F]
  ·cases t:ne with
   |true=>rw[u t]at hz;cases hz
   |false=>
    rw[if_pos (by rw[hz];decide),hz];rw[t]at s;exact s rfl
theorem Jq{ne:Bool}{L:List Ob}(a:ai L){t:Int}{l:List Fi}(h:eI ne L t l){n:Nat}(hn:mu l<n):((aR n L [] l).2.1=0∨(aR n L [] l).2.1=15)∧(ne=true→aR n L [] l=(t,0,L)):=by
 obtain⟨o,p⟩:=gM a h.1;have q:=(a.tree h.1).2.2.1;obtain⟨r,s,g,b⟩:=h.2.HB a n L [] none (List.prefix_refl _) a o p q hn;rcases b with⟨b,i⟩|⟨f,c,k,k3,u,m⟩
 ·exact⟨.inr b,fun h=>by rw[i]at h;cases h⟩
 ·rw[List.nil_append]at c;rw[c];refine⟨AF g k k3 (by omega),fun j=>?_⟩;obtain⟨d,e⟩:=m j;rw[d,e,←(a.tree h.1).1];exact AE a h.1
end Go.Nest
end
section
namespace Go.Nest
open Go Go.AM
theorem lq:∀(n:Nat) (L:List Ob) (a:List aD) (l:List Fi),ai L→ai (aR n L a l).2.2∧L<+:(aR n L a l).2.2
 |0,L,_,_,h=>⟨h,List.prefix_refl _⟩
 |n+1,L,a,[],h=>⟨jv h _,jw _⟩
 |n+1,L,a,f::r,h=>by
  unfold aR;split
  ·exact lq n L _ r h
  obtain⟨b,c⟩:=lq n L [] (bG (cU f.path).1 (f::r)).1 h;split
  ·exact⟨b,c⟩
  obtain⟨d,e⟩:=lq n _ (a++[⟨(cU f.path).1,2,(aR n L [] (bG (cU f.path).1 (f::r)).1).1,0⟩]) (bG (cU f.path).1 (f::r)).2 b;exact⟨d,c.trans e⟩
theorem qS:∀(n:Nat) (L:List Ob) (c:List aD) (l:List Fi),ai L→mu l<n→(∀f∈l,f.mode≠2)→(aR n L c l).2.1=0→∃es,cu true (aR n L c l).2.2 es l∧aj (aR n L c l).2.2 (aR n L c l).1=di (c++es)
 |0,_,_,_,_,h,_,_=>absurd h (by omega)
 |n+1,L,c,[],q,H,k,h=>by
  unfold aR at h⊢;obtain⟨F,t⟩:=lQ h;exact⟨[],.nil,by rw[List.append_nil];exact t⟩
 |n+1,L,c,f::r,q,H,k,h=>by
  rw[lK]at H;unfold aR at h⊢;split at h
  ·rename_i p;rw[if_pos p];obtain⟨es,F,t⟩:=qS n L (c++[⟨f.path,f.mode,f.id,f.av⟩]) r q (by omega) (fun x P=>k x (by simp[P])) h;refine⟨⟨f.path,f.mode,f.id,f.av⟩::es,.file (e:=⟨f.path,f.mode,f.id,f.av⟩) (k f (by simp)) F,?_⟩;rw[t];simp
  ·rename_i p;rw[if_neg p];obtain⟨a,b,j,i,S⟩:=xI p;have y:=uq (r:=r) i;rw[lK]at y;have z:=qW (r:=r) i;have d:=o6 a (f::r);rw[j]at h⊢;dsimp only at h⊢;generalize N:bG a (f::r)=I at*;obtain⟨m,D⟩:=I;dsimp only at*;split at h
   ·exact absurd h ‹_›
   rename_i o;rw[if_neg o];have o:(aR n L [] m).2.1=0:=Classical.not_not.1 o;have w:∀g∈m,g.mode≠2:=fun g u=>k (pre a g) (by rw[d];exact List.mem_append.2 (.inl (List.mem_map.2 ⟨g,u,rfl⟩)));have v:∀g∈D,g.mode≠2:=fun g u=>k g (by rw[d];exact List.mem_append.2 (.inr u));obtain⟨M,Q,J⟩:=qS n L [] m q (by omega) w o;obtain⟨K,T⟩:=lq n L [] m q;obtain⟨U,E⟩:=lq n (aR n L [] m).2.2 (c++[⟨a,2,(aR n L [] m).1,0⟩]) D K;obtain⟨s,k3,R⟩:=qS n (aR n L [] m).2.2 (c++[⟨a,2,(aR n L [] m).1,0⟩]) D K (by omega) v h;have O:kindOf (aR n L [] m).2.2 (aR n L [] m).1=2:=by rw[←eP,J];rfl
   refine⟨⟨a,2,(aR n L [] m).1,0⟩::s,?_,by rw[R];simp⟩;rw[d];refine .dir (e:=⟨a,2,(aR n L [] m).1,0⟩) rfl (by rw[c9 E (by simp only[];omega)];exact O) (fun _=>z) ?_ k3;simp only[];rw[ext_get E (by omega),J];rw[List.nil_append];exact Q.mono E
theorem xh:∀{l:List Fi} {p:Option Fi},gp p l=0→∀f∈l,(bZ f.path).2=0∧(f.mode=1∨f.mode=3)
 |f::r,p,h,g,hg=>by
  unfold gp at h;split at h
  ·exact absurd h ‹_›
  split at h
  ·cases h
  split at h
  ·exact absurd h ‹_›
  rcases List.mem_cons.1 hg with rfl|hg
  ·exact⟨by simpa using‹¬(bZ _).2≠0›,by omega⟩
  ·exact xh h g hg
theorem jh{l:List Fi}(h:cI l=0):l.length≤60∧∀f∈l,(bZ f.path).2=0∧(f.mode=1∨f.mode=3):=by
 unfold cI at h;split at h
 ·cases h
 ·exact⟨by omega,xh h⟩
theorem lT{s:List UInt8}(h:(bZ s).2=0):eT (aA s)=0∧(aA s).length≤8∧(bZ s).1=aA s:=by
 unfold bZ at h⊢;split at h
 ·rename_i a;split at h
  ·cases h
  ·rename_i b;rw[if_pos a,if_neg b];exact⟨a,by omega,rfl⟩
 ·exact absurd h ‹_›
theorem vJ{s:List UInt8}(h1:eT (aA s)=0)(h2:(aA s).length≤8):(bZ s).2=0:=by
 unfold bZ;rw[if_pos h1,if_neg (by omega)]
theorem ma{L:List Ob}(a:ai L)(l:List Fi):ai (cg L l).2.2∧L<+:(cg L l).2.2:=by
 unfold cg;split
 ·exact⟨a,List.prefix_refl _⟩
 ·exact lq _ _ _ _ a
theorem oF{L:List Ob}(e:ai L){l:List Fi}(h:(cg L l).2.1=0):cI l=0∧eI true (cg L l).2.2 (cg L l).1 l:=by
 unfold cg at h⊢;split at h
 ·exact absurd h ‹_›
 rename_i a;rw[if_neg a];have a:cI l=0:=by simpa using a
 obtain⟨g,c,b⟩:=qS _ L [] l e (Nat.lt_succ_self _) (fun f d=>by have:=(jh a).2 f d;omega) h;refine⟨a,by rw[←eP,b];rfl,?_⟩;rw[b];rw[List.nil_append];exact c
def full(ins:List (List UInt8))(f:Fi):Fi:=⟨b5 (ins++[f.path]),f.mode,f.id,f.av⟩
theorem BI:∀(ins:List (List UInt8)) (a b:List UInt8),b5 (ins++[a++47::b])=b5 (ins++[a]++[b])
 |[],a,b=>rfl
 |[x],a,b=>by simp[b5]
 |x::y::r,a,b=>by
  have:=BI (y::r) a b;simp[b5]at this⊢;exact this
theorem yu(ins:List (List UInt8))(n:List UInt8)(f:Fi):full ins (pre n f)=full (ins++[n]) f:=by
 unfold full pre;rw[BI]
theorem yt:full []=id:=by funext f;rfl
theorem cu.told{L:List Ob}(w:ai L){es:List aD}{l:List Fi}(h:cu true L es l):∀(n:Nat) (ins:List (List UInt8)) (out:List Fi),ins.length+n=8→(∀e∈es,bJ e.name=0)→(∀f∈l,(aA f.path).length+ins.length≤8)→out.length+l.length≤60→cX (bV L n) ins es out=(0,out++l.map (full ins)):=by
 induction h with
 |nil=>intro n ins out _ _ _ _;simp[cX]
 | @file e es l o _ ih=>
  intro n ins out q d j c;rw[List.length_cons]at c;unfold cX;rw[if_neg o,if_neg (by omega),ih n ins _ q (fun x i=>d x (by simp[i])) (fun f h=>j f (by simp[h])) (by rw[List.length_append,List.length_singleton];omega)];simp[full]
 | @dir e es m l o u r z h s ih=>
  intro n ins out q d j c;have y:=jr (d e (by simp));have p:=r rfl;obtain⟨g,m0,rfl⟩:∃g m0,m=g::m0:=by cases m with|nil=>exact absurd rfl p|cons a b=>exact⟨a,b,rfl⟩
  have t:∀f∈g::m0,(aA f.path).length+1+ins.length≤8:=fun f h=>by
   have:=j (pre e.name f) (List.mem_append.2 (.inl (List.mem_map.2 ⟨f,h,rfl⟩)));rw[show(pre e.name f).path=e.name++47::f.path from rfl,kL y,List.length_cons]at this;exact this
  have D:=t g (by simp);have E:=IK g.path;obtain⟨n,rfl⟩:∃m,n=m+1:=⟨n-1,by omega⟩;rw[List.length_append,List.length_map]at c
  have k:bV L (n+1) e.id (ins++[e.name]) out=(0,out++(g::m0).map (full (ins++[e.name]))):=by
   unfold bV;rw[if_neg (by simpa using u),if_neg (by rw[List.length_append,List.length_singleton];omega)];exact s n (ins++[e.name]) out (by rw[List.length_append,List.length_singleton];omega) (fun x i=>(mh (w.tree u).2.1 x i).1) (fun f h=>by rw[List.length_append,List.length_singleton];have:=t f h;omega) (by omega)
  unfold cX;rw[if_pos o,k];rw[if_neg (by simp)];rw[ih (n+1) ins _ q (fun x i=>d x (by simp[i])) (fun f h=>j f (List.mem_append.2 (.inr h))) (by rw[List.length_append,List.length_map];omega)];have v:full ins∘pre e.name=full (ins++[e.name]):=funext fun f=>yu ins e.name f;rw[List.map_append,List.map_map,v,List.append_assoc]
theorem Jr{L:List Ob}(b:ai L){t:Int}{l:List Fi}(h:eI true L t l)(h1:l.length≤60)(h2:∀f∈l,(aA f.path).length≤8):bw L t=(l,0):=by
 have a:bV L 9 t [] []=(0,l):=by
  unfold bV;rw[if_neg (by simpa using h.1),if_neg (by simp)];rw[h.2.told b 8 [] [] rfl (fun x d=>(mh (b.tree h.1).2.1 x d).1) (fun f c=>by simpa using h2 f c) (by simpa using h1)];simp[yt]
 unfold bw;rw[a];simp
theorem vL{L:List Ob}{n:Nat}{ins:List (List UInt8)}(hn:ins.length+n=8)(d:∀(t:Int) (y:List UInt8) (out a:List Fi),ins.length<8→out.length≤60→bV L n t (ins++[y]) out=(0,a)→∃l,eI false L t l∧a=out++l.map (full (ins++[y]))∧a.length≤60∧∀f∈l,(aA f.path).length+(ins.length+1)≤8):∀(es:List aD) (out a:List Fi),(∀e∈es,bJ e.name=0)→(es≠[]→ins.length<8)→out.length≤60→cX (bV L n) ins es out=(0,a)→∃l,cu false L es l∧a=out++l.map (full ins)∧a.length≤60∧∀f∈l,(aA f.path).length+ins.length≤8
 |[],out,a,_,_,b,h=>by
  unfold cX at h;cases h;exact⟨[],.nil,by simp,b,fun f hf=>by cases hf⟩
 |e::r,out,a,c,E,b,h=>by
  have v:=jr (c e (by simp));have j:=E (by simp);unfold cX at h;split at h
  ·rename_i k;split at h
   ·rename_i i;exact absurd (by rw[h]) i
   ·rename_i i;obtain⟨I,w,F,k3,H⟩:=d e.id e.name out (bV L n e.id (ins++[e.name]) out).2 j b (Prod.ext (Classical.not_not.1 i) rfl);obtain⟨u,o,p,q,s⟩:=vL hn d r _ a (fun x m=>c x (by simp[m])) (fun _=>j) k3 h;refine⟨I.map (pre e.name)++u,.dir k w.1 (fun h=>by cases h) w.2 o,?_,q,fun f hf=>?_⟩
    ·have z:full ins∘pre e.name=full (ins++[e.name]):=funext fun f=>yu ins e.name f;rw[p,F,List.map_append,List.map_map,z,List.append_assoc]
    ·rcases List.mem_append.1 hf with hf|hf
     ·obtain⟨g,D,rfl⟩:=List.mem_map.1 hf;have:=H g D;rw[show(pre e.name g).path=e.name++47::g.path from rfl,kL v,List.length_cons];omega
     ·exact s f hf
  ·rename_i k;split at h
   ·cases h
   ·rename_i i;obtain⟨u,o,p,q,s⟩:=vL hn d r _ a (fun x m=>c x (by simp[m])) (fun _=>j) (by rw[List.length_append,List.length_singleton];omega) h;refine⟨⟨e.name,e.mode,e.id,e.av⟩::u,.file k o,?_,q,fun f hf=>?_⟩
    ·rw[p];simp[full]
    ·rcases List.mem_cons.1 hf with rfl|hf
     ·rw[mO v];simp;omega
     ·exact s f hf
theorem EL{L:List Ob}(q:ai L):∀(n:Nat) (t:Int) (ins:List (List UInt8)) (out a:List Fi),ins.length+n=8→out.length≤60→bV L (n+1) t ins out=(0,a)→∃l,eI false L t l∧a=out++l.map (full ins)∧a.length≤60∧∀f∈l,(aA f.path).length+ins.length≤8:=by
 intro n;induction n with
 |zero=>
  intro t ins out a p b h;unfold bV at h;split at h
  ·cases h
  split at h
  ·cases h
  rename_i c k;have c:kindOf L t=2:=Classical.not_not.1 c;have j:(aj L t).entries=[]:=List.eq_nil_of_length_eq_zero (by omega);rw[j]at h;unfold cX at h;cases h;exact⟨[],⟨c,by rw[j];exact .nil⟩,by simp,b,fun f d=>by cases d⟩
 |succ n ih=>
  intro t ins out a p b h;rw[bV]at h;split at h
  ·cases h
  split at h
  ·cases h
  rename_i c k;have c:kindOf L t=2:=Classical.not_not.1 c
  obtain ⟨l, e, g, k3, i⟩ := vL (L := L) (n := n + 1) (ins := ins) (by omega) (fun t s out a u o m=>by
   obtain⟨l,e,g,k3,i⟩:=ih t (ins++[s]) out a (by rw[List.length_append,List.length_singleton];omega) o m;exact⟨l,e,g,k3,fun f d=>by have:=i f d;rw[List.length_append,List.length_singleton]at this;exact this⟩) _ out a (fun x r=>(mh (q.tree c).2.1 x r).1) (fun _=>by omega) b h
  exact⟨l,⟨c,e⟩,g,k3,i⟩
theorem oQ{L:List Ob}(d:ai L){t:Int}(h:(bw L t).2=0):eI false L t (bw L t).1∧(bw L t).1.length≤60∧∀f∈(bw L t).1,(aA f.path).length≤8:=by
 unfold bw at h⊢;split at h
 ·rename_i a;rw[if_pos a];obtain⟨l,e,b,k3,g⟩:=EL d 8 t [] [] (bV L 9 t [] []).2 rfl (by simp) (Prod.ext a rfl);rw[List.nil_append,yt,List.map_id]at b;rw[b]at k3⊢;exact⟨e,k3,fun f c=>by simpa using g f c⟩
 ·exact absurd h ‹_›
theorem tP{L:List Ob}{t:Int}(h:(bw L t).2≠0):(bw L t).1=[]:=by
 unfold bw at h⊢;split
 ·rename_i a;rw[if_pos a]at h;exact absurd rfl h
 ·rfl
def lX(f g:Fi):Prop:=au f.path g.path=true∧under g.path f.path=none
theorem wM{f g:Fi}{a b:List UInt8}{r s:List (List UInt8)}(c:aA f.path=a::r)(hg:aA g.path=b::s)(h:Op.bytesLess a b=true):lX f g:=by
 refine⟨?_,?_⟩
 ·unfold au;rw[c,hg,cP,if_neg (fun e=>sT h e.symm)];exact h
 ·cases d:under g.path f.path with
  |none=>rfl
  |some q=>
   have:=jD d;rw[this,pL,c]at hg;cases hg;rw[l9]at h;cases h
theorem Ci{n:List UInt8}(hn:n.count 47=0){f g:Fi}(h:lX f g):lX (pre n f) (pre n g):=by
 refine⟨?_,?_⟩
 ·unfold au;rw[show(pre n f).path=n++47::f.path from rfl,show(pre n g).path=n++47::g.path from rfl,kL hn,kL hn,cP,if_pos rfl];exact h.1
 ·cases e:under (pre n g).path (pre n f).path with
  |none=>rfl
  |some q=>
   have c:=jD e;have a:n++47::g.path=(n++47::f.path)++47::q:=c;rw[List.append_assoc,List.append_cancel_left_eq]at a;have d:g.path=f.path++47::q:=by simpa using a
   have b:=h.2;rw[d,mU]at b;cases b
theorem cu.sQ{ne:Bool}{L:List Ob}(E:ai L){es:List aD}{l:List Fi}(h:cu ne L es l):∀{p:Option (List UInt8)},eH p es→(∀e∈es,ik L e)→l.Pairwise lX∧(∀f∈l,eT (aA f.path)=0∧(f.mode=1∨f.mode=3)):=by
 induction h with
 |nil=>intro p _ _;exact⟨.nil,fun f hf=>by cases hf⟩
 | @file e es l z h ih=>
  intro p j b;have a:=b e (by simp);have i:=jr a.name;obtain⟨s,w⟩:=ih j.2 (fun x c=>b x (by simp[c]));refine⟨List.pairwise_cons.2 ⟨fun g d=>?_,s⟩,fun f hf=>?_⟩
  ·obtain⟨x,r,k,n⟩:=h.apart (fun x c=>(b x c).name) j g d;exact wM (mO i) k n
  ·rcases List.mem_cons.1 hf with rfl|hf
   ·refine⟨?_,?_⟩
    ·rw[mO i];simp[eT,a.name]
    ·have:=a.m1;have:=a.m3;show e.mode=1∨e.mode=3;omega
   ·exact w f hf
 | @dir e es m l z y D s h o ih=>
  intro p j b;have a:=b e (by simp);have i:=jr a.name;obtain⟨F,H⟩:=gM E y;obtain⟨t,q⟩:=o F H;obtain⟨u,v⟩:=ih j.2 (fun x c=>b x (by simp[c]));refine⟨List.pairwise_append.2 ⟨?_,u,fun f hf g d=>?_⟩,fun f hf=>?_⟩
  ·rw[List.pairwise_map];exact t.imp fun h=>Ci i h
  ·obtain⟨f,hf,rfl⟩:=List.mem_map.1 hf;obtain⟨x,r,k,n⟩:=h.apart (fun x c=>(b x c).name) j g d;exact wM (kL i f.path) k n
  ·rcases List.mem_append.1 hf with hf|hf
   ·obtain⟨g,d,rfl⟩:=List.mem_map.1 hf;refine⟨?_,(q g d).2⟩;rw[show(pre e.name g).path=e.name++47::g.path from rfl,kL i];unfold eT;rw[if_pos a.name];exact(q g d).1
   ·exact v f hf
theorem xi:∀{l:List Fi} {p:Option Fi},(∀g,p=some g→∀f∈l,lX g f)→l.Pairwise lX→(∀f∈l,(bZ f.path).2=0∧(f.mode=1∨f.mode=3))→gp p l=0
 |[],_,_,_,_=>rfl
 |f::r,p,k,h,b=>by
  obtain⟨c,d⟩:=List.pairwise_cons.1 h
  have i:ey p f=0:=by
   cases p with
   |none=>rfl
   |some g=>
    have:=k g rfl f (by simp);unfold ey;simp[this.1,this.2]
  have e:=b f (by simp);unfold gp;rw[if_neg (by simpa using e.1),if_neg (by omega),if_neg (by simpa using i)];exact xi (fun g j x a=>by cases j;exact c x a) d fun x a=>b x (by simp[a])
theorem BC{ne:Bool}{L:List Ob}(c:ai L){t:Int}{l:List Fi}(h:eI ne L t l)(h1:l.length≤60)(h2:∀f∈l,(aA f.path).length≤8):cI l=0:=by
 obtain⟨i,j⟩:=gM c h.1;obtain⟨d,b⟩:=h.2.sQ c i j;unfold cI;rw[if_neg (by omega)];exact xi (fun g e=>by cases e) d fun f a=>⟨vJ (b f a).1 (h2 f a),(b f a).2⟩
theorem eI.mono{ne:Bool}{L M:List Ob}(a:L<+:M){t:Int}{l:List Fi}(h:eI ne L t l):eI ne M t l:=by
 have b:=h.1;exact⟨by rw[c9 a (by omega)];exact b,by rw[ext_get a (by omega)];exact h.2.mono a⟩
def isDir(d:List UInt8)(e:aD):Bool:=decide (e.name=d)&&decide (e.mode=2)
def gT(L:List Ob):Int→List (List UInt8)→Int×Int
 |t,[]=>(t,0)
 |t,d::a=>if kindOf L t≠2 then(0,9)else match(aj L t).entries.find? (isDir d)with
  |some e=>gT L e.id a
  |none=>(0,9)
def cV(L:List Ob)(t:Int)(dir:List UInt8):Int×Int:=if(bZ dir).2≠0 then(0,(bZ dir).2)else gT L t (bZ dir).1
def lV(d:List UInt8)(f:Fi):Option Fi:=(under f.path d).map fun p=>⟨p,f.mode,f.id,f.av⟩
def dE(d:List UInt8)(l:List Fi):List Fi:=l.filterMap (lV d)
theorem Cw{d:List UInt8}{l m:List Fi}:dE d (l++m)=dE d l++dE d m:=List.filterMap_append
theorem w4{d:List UInt8}:∀m:List Fi,dE d (m.map (pre d))=m
 |[]=>rfl
 |f::m=>by
  have:=w4 (d:=d) m;unfold dE at this⊢;rw[List.map_cons,List.filterMap_cons,show lV d (pre d f)=some f from ?_]
  ·simp only[];rw[this]
  ·unfold lV;rw[show(pre d f).path=d++47::f.path from rfl,mU];rfl
theorem wZ{d:List UInt8}{l:List Fi}(h:∀f∈l,under f.path d=none):dE d l=[]:=by
 unfold dE;rw[List.filterMap_eq_nil_iff];intro f a;unfold lV;rw[h f a];rfl
theorem Cy(d e:List UInt8)(l:List Fi):dE e (dE d l)=dE (d++47::e) l:=by
 unfold dE;rw[List.filterMap_filterMap];congr 1
 funext f;unfold lV;cases h:under f.path d with
 |none=>
  cases a:under f.path (d++47::e)with
  |none=>rfl
  |some q=>
   have:=jD a;rw[List.append_assoc,List.cons_append]at this;rw[this,mU]at h;cases h
 |some p=>
  have b:=jD h;show Option.map _ (under p e)=_;cases a:under p e with
  |none=>
   cases c:under f.path (d++47::e)with
   |none=>rfl
   |some q=>
    have:=jD c;rw[b,List.append_assoc,List.append_cancel_left_eq]at this;have:p=e++47::q:=by simpa using this
    rw[this,mU]at a;cases a
  |some q=>
   have:=jD a;rw[b,this,show d++47::(e++47::q)=(d++47::e)++47::q by simp,mU]
theorem cu.down{L:List Ob}{d:List UInt8}(hd:d.count 47=0){es:List aD}{l:List Fi}(h:cu true L es l):∀{p:Option (List UInt8)},eH p es→(∀e∈es,bJ e.name=0)→
  (∃e,es.find? (isDir d)=some e∧eI true L e.id (dE d l)∧dE d l≠[])∨(es.find? (isDir d)=none∧dE d l=[]):=by
 induction h with
 |nil=>intro p _ _;exact .inr ⟨rfl,rfl⟩
 | @file e es l k h ih=>
  intro p b a;have c:=jr (a e (by simp))
  have u:under e.name d=none:=by
   cases y:under e.name d with
   |none=>rfl
   |some q=>
    have:=jD y;rw[this,List.count_append,List.count_cons_self]at c;omega
  have hb:dE d (⟨e.name,e.mode,e.id,e.av⟩::l)=dE d l:=by
   unfold dE;rw[List.filterMap_cons,show lV d ⟨e.name,e.mode,e.id,e.av⟩=none by unfold lV;rw[u];rfl]
  rw[hb,List.find?_cons,show isDir d e=false by simp[isDir,k]];exact ih b.2 (fun x o=>a x (by simp[o]))
 | @dir e es m l k w n v h z ih=>
  intro p b a;have c:=jr (a e (by simp));rw[List.find?_cons,Cw];by_cases i:e.name=d
  ·subst i;rw[show isDir e.name e=true by simp[isDir,k]]
   have:dE e.name l=[]:=wZ fun f j=>by
    obtain⟨x,r,s,t⟩:=h.apart a b f j;exact vV c s (sT t)
   rw[this,List.append_nil,w4];exact .inl ⟨e,rfl,⟨w,v⟩,n rfl⟩
  ·rw[show isDir d e=false by simp[isDir,i]]
   have:dE d (m.map (pre e.name))=[]:=wZ fun f j=>by
    obtain⟨g,D,rfl⟩:=List.mem_map.1 j;exact vV hd (kL c g.path) i
   rw[this,List.nil_append];exact ih b.2 (fun x o=>a x (by simp[o]))
theorem BD{L:List Ob}(k:ai L):∀(ds:List (List UInt8)) {t:Int} {l:List Fi},ds≠[]→(∀d∈ds,bJ d=0)→eI true L t l→
  (∃u,gT L t ds=(u,0)∧eI true L u (dE (b5 ds) l)∧dE (b5 ds) l≠[])∨(gT L t ds=(0,9)∧dE (b5 ds) l=[])
 |[],_,_,h,_,_=>absurd rfl h
 |d::ds,t,l,_,j,h=>by
  have m:=jr (j d (by simp));obtain⟨p,q⟩:=gM k h.1;have a:=h.2.down m p (fun x g=>(q x g).name);have n:=h.1;unfold gT;rw[if_neg (by simpa using n)];cases ds with
  |nil=>
   rcases a with⟨e,b,c,i⟩|⟨b,c⟩
   ·rw[b];exact .inl ⟨e.id,rfl,c,i⟩
   ·rw[b];exact .inr ⟨rfl,c⟩
  |cons f ds=>
   have o:b5 (d::f::ds)=d++47::b5 (f::ds):=rfl;rw[o,←Cy];rcases a with⟨e,b,c,i⟩|⟨b,c⟩
   ·rw[b];exact BD k (f::ds) (by simp) (fun x g=>j x (by simp[g])) c
   ·rw[b,c];exact .inr ⟨rfl,rfl⟩
theorem nT:∀{l:List (List UInt8)},eT l=0→∀d∈l,bJ d=0
 |x::r,h,d,hd=>by
  unfold eT at h;split at h
  ·rcases List.mem_cons.1 hd with rfl|hd
   ·assumption
   ·exact nT h d hd
  ·exact absurd h ‹_›
end Go.Nest
end
