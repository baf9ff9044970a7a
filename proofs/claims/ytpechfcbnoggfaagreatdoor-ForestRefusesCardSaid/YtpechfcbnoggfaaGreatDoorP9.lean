/- part -/
import Derived.Test.YtpechfcbnoggfaaGreatDoorN1
import Derived.Test.YtpechfcbnoggfaaGreatDoorZ1
import Derived.Test.YtpechfcbnoggfaaGreatDoorG9
set_option linter.unusedVariables false
set_option linter.unusedSimpArgs false
section
namespace Go.Nest
open Go Go.AM Go.Proofs
open Go.Proofs.YtpechfcbnoggfaaGreatDoor (tab tabOk)
set_option maxRecDepth 4000
theorem Bv{dr:Bool}(l:List UInt8):bC dr Tryz.prog 352 [.c (.str l),.c (.int .u8 47)] [] (Rt (.c (.int .i64 (l.count 47))) []):=by
 refine wM (e:=Extern.BytealgCount.count) Tryz.func352 (by decide) rfl rfl rfl rfl (fun F H m vs w h=>?_);match vs,h with
 |[v1,v2],⟨h1,h2,_⟩=>
  cases h1 with
  |str _ _=>
   cases h2 with
   |int _=>exact⟨_,Lib.run_countString ⟨l.toArray⟩ 47 w,fun F H m=>.int .nl⟩
theorem Dd{dr:Bool}(l:List UInt8):bC dr Tryz.prog 310 [.c (.str l),.c (.int .u8 47)] [] (Rt (.c (.int .i64 (Lib.indexByte l 47))) []):=by
 refine wM (e:=Extern.BytealgIndexByte.indexByte) Tryz.func310 (by decide) rfl rfl rfl rfl (fun F H m vs w h=>?_);match vs,h with
 |[v1,v2],⟨h1,h2,_⟩=>
  cases h1 with
  |str _ _=>
   cases h2 with
   |int _=>exact⟨_,Lib.run_indexByteString ⟨l.toArray⟩ 47 w,fun F H m=>.int .nl⟩
theorem GM{dr:Bool}(l:List UInt8):bC dr Tryz.prog 335 [.c (.str l),.c (.str [47])] [] (Rt (.c (.int .i64 (l.count 47))) []):=by
 refine ao (n:=34) (n0:=0) tabOk Tryz.call335 Tryz.func335 ?_;intro hb;skip;(conv=>whnf);refine⟨0,47,rfl,rfl,?_⟩;(conv=>whnf);refine cl [] [] (Bv l) ?_;(conv=>whnf);exact aI rfl
theorem GN{dr:Bool}(l:List UInt8):bC dr Tryz.prog 260 [.c (.str l),.c (.int .u8 47)] [] (Rt (.c (.int .i64 (Lib.indexByte l 47))) []):=by
 refine ao (n:=8) (n0:=0) tabOk Tryz.call260 Tryz.func260 ?_;intro hb;(conv=>whnf);refine cl [] [] (Dd l) ?_;(conv=>whnf);exact aI rfl
theorem zI{dr:Bool}(l:List UInt8):bC dr Tryz.prog 185 [.c (.str l),.c (.str [47])] [] (Rt (.c (.int .i64 (Lib.indexByte l 47))) []):=by
 refine ao (n:=143) (n0:=0) tabOk Tryz.call185 Tryz.func185 ?_;intro hb;repeat'((conv=>whnf);first|(refine dec (fun h=>?_) (fun h=>?_)<;>try contradiction)|refine aI ?_|fail)
 ·obtain rfl:l=[47]:=h.symm;rfl
 ·(conv=>whnf);refine⟨0,47,rfl,rfl,?_⟩;(conv=>whnf);refine cl [] [] (GN l) ?_;(conv=>whnf);exact aI rfl
theorem GO{dr:Bool}(l:List UInt8):bC dr Tryz.prog 111 [.c (.str l),.c (.str [47])] [] (Rt (.c (.int .i64 (Lib.indexByte l 47))) []):=by
 refine ao (n:=8) (n0:=0) tabOk Tryz.call111 Tryz.func111 ?_;intro hb;(conv=>whnf);refine cl [] [] (zI l) ?_;(conv=>whnf);exact aI rfl
structure GS(l:List UInt8)(a:List (List UInt8))(s:List UInt8)(i:Nat):Prop where
 len:a.length=l.count 47+1
 cnt:i+s.count 47=l.count 47
 az:az l=a.take i++az s
 sl:s.length≤l.length
theorem Bu(l:List UInt8):l.count 47≤l.length:=List.count_le_length
set_option maxHeartbeats 1000000 in
theorem CU{dr:Bool}(l:List UInt8)(hl:l.length≤4000000):bC dr Tryz.prog 301 [.c (.str l),.c (.str [47]),.c (.int .i64 0),.c (.int .i64 (-1))] [] (Rt (.c (.rw 0)) [.row 1 (List UInt8) encS (az l)]):=by
 refine kg (n:=66) (n0:=0) tabOk Tryz.call301 Tryz.func301 ?_;intro hb;have hc:=Bu l;refine XM.seq ?_;skip;refine XM.seq ?_;skip;refine XM.seq ?_;skip;refine XM.seq ?_;skip;(conv=>whnf);refine cl [] [] (GM l) ?_;repeat'((conv=>whnf);refine I6 ?_)
 refine XM.seq ?_;repeat'((conv=>whnf);refine I6 ?_)
 (conv=>whnf);rw[show min ((l.count 47:Int)+1) ((l.length:Int)+1)=((l.count 47+1:Nat):Int)by omega];refine XM.seq ?_;(conv=>whnf);refine⟨l.count 47+1,[],⟨rfl,rfl⟩,rfl,by simp only[];omega,?_⟩;skip;refine XM.seq ?_;repeat'((conv=>whnf);refine I6 ?_)
 refine XM.seq ?_;skip;refine XM.join (ι:=List (List UInt8)×List UInt8) (fun|(a,s)=>⟨[(0,.c (.str s)),(9,.c (.rw 0)),(10,.c (.int .i64 (l.count 47:Nat)))],[.row 1 (List UInt8) encS a]⟩) (fun x=>GS l x.1 x.2 (l.count 47)) ?_ (fun x hx=>?_)
 ·(conv=>whnf)
  refine lp (Nat×List (List UInt8)×List UInt8) (fun|(i,a,s)=>⟨[(0,.c (.str s)),(1,.c (.str [47])),(2,.c (.int .i64 0)),(3,.c (.int .i64 (((l.count 47+1:Nat):Int)-1))),(9,.c (.rw 0)),(10,.c (.int .i64 i))],[.row 1 (List UInt8) encS a]⟩)
   (fun x=>GS l x.2.1 x.2.2 x.1∧True) (fun x=>l.count 47-x.1) (0,List.replicate (l.count 47+1) [],l) [] [.same 0] ?_ ?_ (fun x hx=>?_)
  ·exact⟨⟨by simp,by simp,by simp,Nat.le_refl _⟩,trivial⟩
  ·repeat' first|exact trivial|exact rfl|refine And.intro ?_ ?_
  obtain⟨i,a,s⟩:=x;obtain⟨hg,_⟩:=hx;dsimp only at hg;have g1:=hg.len;have g2:=hg.cnt;have g4:=hg.sl;(conv=>whnf);refine dec (fun h4=>?_) (fun h4=>?_)
  ·obtain⟨m,m1,m2,m3,m4⟩:=sW (l:=s) (by omega);have hs:=GO (dr:=dr) s;rw[m1]at hs;(conv=>whnf);refine cl [] [] (hs) ?_;repeat'((conv=>whnf);refine I6 ?_)
   (conv=>whnf);refine⟨0,m,rfl,by omega,by omega,?_⟩;(conv=>whnf);refine⟨i,⟨rfl,by omega⟩,?_⟩;(conv=>whnf);refine⟨_,(s.take m).drop 0,List.getElem?_eq_getElem (by omega),⟨Nat.le_refl _,rfl⟩,?_⟩;skip;refine⟨i64 (by simp;omega) (by simp;omega),?_⟩;(conv=>whnf);refine⟨m+1,s.length,rfl,rfl,by omega,?_⟩;repeat'((conv=>whnf);refine I6 ?_)
   refine ag (i+1,a.set i ((s.take m).drop 0),(s.take s.length).drop (m+1)) [] [.same 0] ⟨⟨?_,?_,?_,?_⟩,trivial⟩ (by simp only[];omega) ?_
   ·dsimp only;rw[List.length_set];exact g1
   ·dsimp only;rw[List.take_length];omega
   ·dsimp only;rw[List.take_length,hg.az,m3,List.drop_zero,List.take_succ_eq_append_getElem (by rw[List.length_set];omega),List.getElem_set_self,List.take_set_of_le (Nat.le_refl _)];simp
   ·dsimp only;rw[List.take_length,List.length_drop];omega
   ·repeat' first|exact trivial|exact rfl|refine And.intro ?_ ?_
  ·obtain rfl:i=l.count 47:=by omega
   (conv=>whnf);refine⟨(a,s),hg,[],[.same 0],?_⟩;repeat' first|exact trivial|exact rfl|refine And.intro ?_ ?_
 obtain⟨a,s⟩:=x;dsimp only at hx;have g1:=hx.len;have g2:=hx.cnt;have g3:=hx.az;rw[lM (l:=s) (by omega)]at g3;refine XM.seq ?_;(conv=>whnf);refine⟨l.count 47,⟨rfl,by omega⟩,?_⟩;(conv=>whnf);refine⟨_,s,List.getElem?_eq_getElem (by omega),⟨Nat.le_refl _,rfl⟩,?_⟩;skip;refine XM.of ?_;(conv=>whnf);refine⟨i64 (by omega) (by omega),?_⟩;(conv=>whnf);refine⟨0,l.count 47+1,rfl,by omega,by rw[List.length_set];omega,?_⟩;(conv=>whnf)
 have he:(((a.set (l.count 47) s).drop 0).take (l.count 47+1-0))=az l:=by
  rw[g3,List.drop_zero,Nat.sub_zero,List.take_succ_eq_append_getElem (by rw[List.length_set];omega),List.getElem_set_self,List.take_set_of_le (Nat.le_refl _)]
 refine rt [] [.cut 1 0 0 (l.count 47+1-0)] ?_ rfl ⟨rfl,rfl⟩;repeat' first|exact trivial|exact rfl|refine And.intro ?_ ?_
 ·rw[List.length_set];omega
 ·rw[he]
end Go.Nest
end
section
namespace Go.Nest
open Go Go.AM Go.Proofs
open Go.Proofs.YtpechfcbnoggfaaGreatDoor (tab tabOk)
set_option maxRecDepth 4000
theorem uC{dr:Bool}(l:List UInt8)(hl:l.length≤4000000):bC dr Tryz.prog 252 [.c (.str l),.c (.str [47])] [] (Rt (.c (.rw 0)) [.row 1 (List UInt8) encS (az l)]):=by
 refine ao (n:=8) (n0:=0) tabOk Tryz.call252 Tryz.func252 ?_;intro hb;(conv=>whnf);refine cl [] [] (CU l hl) ?_;(conv=>whnf);exact rx [] [.same 0]
def eW:List (List UInt8)→Int
 |[]=>0
 |x::r=>if bL x=0 then eW r else bL x
def ct(l:List UInt8):List (List UInt8)×Int:=if eW (az l)=0 then(if 8<(az l).length then([],3)else(az l,0))else([],eW (az l))
theorem EJ{x:List (List UInt8)}{i:Nat}(h:i<x.length)(hi:eW x=eW (x.drop i)):eW x=if bL x[i]=0 then eW (x.drop (i+1))else bL x[i]:=by
 rw[hi,List.drop_eq_getElem_cons h];rfl
theorem tY(l:List UInt8)(hl:l.length≤4000000):ae Tryz.prog 176 [.c (.str l)] [] (Rt (.tup [(false,[.rw 0]),(false,[.int .i64 (ct l).2])]) [.row 1 (List UInt8) encS (ct l).1]):=by
 refine kg (n:=26) (n0:=0) tabOk Tryz.call176 Tryz.func176 ?_;intro hb;have hsl:(az l).length≤l.length+1:=by rw[uz];have:=List.count_le_length (a:=47) (l:=l);omega
 refine XM.seq ?_;skip;refine XM.seq ?_;(conv=>whnf);refine cl [] [] (uC l hl) ?_;skip;refine XM.join (ι:=Unit) (fun _=>⟨[(4,.c (.rw 0))],[.row 1 (List UInt8) encS (az l)]⟩) (fun _=>eW (az l)=0) ?_ (fun _ h1=>?_)
 ·(conv=>whnf);refine lp Nat (fun i=>⟨[(4,.c (.rw 0)),(10,.c (.rw 0)),(11,.c (.int .i64 (az l).length)),(12,.c (.int .i64 i))],[.row 1 (List UInt8) encS (az l)]⟩) (fun i=>i≤(az l).length∧eW (az l)=eW ((az l).drop i)) (fun i=>(az l).length-i) 0 [] [.same 0] ?_ ?_ (fun i hi=>?_)
  ·simp
  ·repeat' first|exact trivial|exact rfl|refine And.intro ?_ ?_
  (conv=>whnf);refine dec (fun h4=>?_) (fun h4=>?_)
  ·have hlt:i<(az l).length:=by omega
   have hat:=EJ hlt hi.2;repeat'((conv=>whnf);first|refine⟨_,⟨rfl,by omega⟩,?_⟩|refine⟨_,List.getElem?_eq_getElem (by omega),?_⟩|fail)
   (conv=>whnf);refine cl [] [] (qi (az l)[i]) ?_;repeat'((conv=>whnf);first|(refine av (fun h=>?_) (fun h=>?_)<;>try contradiction)|refine⟨i64 (by omega) (by omega),?_⟩|fail)
   ·rw[if_neg h]at hat;have:ct l=([],bL (az l)[i]):=by unfold ct;rw[if_neg (by rw[hat];exact h),hat]
    rw[this];(conv=>whnf);exact rx [] [.new]
   ·rw[if_pos h]at hat;refine ag (i+1) [] [.same 0] ⟨hlt,hat⟩ (by simp only[];omega) ?_;repeat' first|exact trivial|exact rfl|refine And.intro ?_ ?_
  ·have:=hi.2;rw[List.drop_of_length_le (by omega)]at this;(conv=>whnf);refine⟨(),this,[],[.same 0],?_⟩;repeat' first|exact trivial|exact rfl|refine And.intro ?_ ?_
 refine XM.of ?_;repeat'((conv=>whnf);first|(refine dec (fun h=>?_) (fun h=>?_)<;>try contradiction)|fail)
 ·have:ct l=([],3):=by unfold ct;rw[if_pos h1,if_pos (by omega)]
  rw[this];(conv=>whnf);exact rx [] [.new]
 ·have:ct l=(az l,0):=by unfold ct;rw[if_pos h1,if_neg (by omega)]
  rw[this];(conv=>whnf);exact rx [] [.same 0]
theorem xY:∀{x y:List (List UInt8)} {i:Nat} (hx:i<x.length) (hy:i<y.length),x.take i=y.take i→¬x[i]=y[i]→cE x y=Op.bytesLess x[i] y[i]
 |a::x,b::y,0,_,_,_,h=>by simp at h;simp[cE,h]
 |a::x,b::y,i+1,hx,hy,ht,h=>by
  simp at ht h;obtain⟨rfl,ht⟩:=ht;have:=xY (x:=x) (y:=y) (i:=i) (by simpa using hx) (by simpa using hy) ht h;simp[cE,this]
theorem xZ:∀{x y:List (List UInt8)} {i:Nat},x.take i=y.take i→¬(i<x.length∧i<y.length)→i≤x.length→i≤y.length→cE x y=decide (x.length<y.length)
 |[],[],_,_,_,_,_=>rfl
 |[],_::_,_,_,_,_,_=>by simp[cE]
 |_::_,[],_,_,_,_,_=>by simp[cE]
 |a::x,b::y,0,_,h,_,_=>by simp at h
 |a::x,b::y,i+1,ht,h,h1,h2=>by
  simp at ht h h1 h2;obtain⟨rfl,ht⟩:=ht;have:=xZ (x:=x) (y:=y) (i:=i) ht (by omega) h1 h2;simp[cE,this]
set_option maxHeartbeats 1000000 in
theorem nY{dr:Bool}(a b:List UInt8)(ha:a.length≤4000000)(hb':b.length≤4000000):bC dr Tryz.prog 175 [.c (.str a),.c (.str b)] [] (Rt (.c (.bool (aK a b))) []):=by
 refine ao (n:=47) (n0:=0) tabOk Tryz.call175 Tryz.func175 ?_;intro hb;have hsl:(az a).length≤a.length+1:=by rw[uz];have:=List.count_le_length (a:=47) (l:=a);omega
 (conv=>whnf);refine cl [] [] (uC a ha) ?_;(conv=>whnf);refine cl [] [] (uC b hb') ?_;(conv=>whnf);unfold aK;refine lp Nat (fun i=>⟨[(5,.c (.rw 0)),(6,.c (.rw 1)),(7,.c (.int .i64 i))],[.row 1 (List UInt8) encS (az a),.row 1 (List UInt8) encS (az b)]⟩) (fun i=>(i≤(az a).length∧i≤(az b).length)∧(az a).take i=(az b).take i) (fun i=>(az a).length-i) 0 [] [.same 0,.same 1] ?_ ?_ (fun i hi=>?_)
 ·simp
 ·repeat' first|exact trivial|exact rfl|refine And.intro ?_ ?_
 have fin:¬(i<(az a).length∧i<(az b).length)→decide (((az a).length:Int)<(az b).length)=cE (az a) (az b):=fun h=>by
  rw[xZ hi.2 h hi.1.1 hi.1.2,decide_eq_decide];omega
 (conv=>whnf);refine dec (fun h4=>?_) (fun h4=>?_)
 ·(conv=>whnf);refine dec (fun h5=>?_) (fun h5=>?_)
  ·have hlt:i<(az a).length:=by omega
   have hlt':i<(az b).length:=by omega
   (conv=>whnf);refine⟨false,.grow,(.l [0,1,2,3,4,5,6,7,8]),by kernel_rfl,.inl ?_⟩;repeat'((conv=>whnf);first|(refine av (fun h=>?_) (fun h=>?_)<;>try contradiction)|refine⟨i64 (by omega) (by omega),?_⟩|refine⟨_,⟨rfl,by omega⟩,?_⟩|refine⟨_,List.getElem?_eq_getElem (by omega),?_⟩|fail)
   ·(conv=>whnf);refine⟨false,.grow,(.l [0,1,2,3,4,5,6,7,8,9]),by kernel_rfl,.inl ?_⟩;repeat'((conv=>whnf);first|refine⟨_,⟨rfl,by omega⟩,?_⟩|refine⟨_,List.getElem?_eq_getElem (by omega),?_⟩|refine aC ?_|fail)
    exact(xY hlt hlt' hi.2 h).symm
   ·refine ag (i+1) [] [.same 0,.same 1] ⟨⟨hlt,hlt'⟩,oP hlt hlt' hi.2 h⟩ (by simp only[];omega) ?_;repeat' first|exact trivial|exact rfl|refine And.intro ?_ ?_
  ·repeat'((conv=>whnf);first|refine aC ?_|fail)
   exact fin (by omega)
 ·repeat'((conv=>whnf);first|refine aC ?_|fail)
  exact fin (by omega)
theorem C4{dr:Bool}(p q:List UInt8):bC dr Tryz.prog 336 [.c (.str p),.c (.str q)] [] (Rt (.c (.bool (q.isPrefixOf p))) []):=by
 refine ao (n:=18) (n0:=0) tabOk Tryz.call336 Tryz.func336 ?_;intro hb
 have he:q.isPrefixOf p=true↔p.take q.length=q:=by
  rw[List.isPrefixOf_iff_prefix,List.prefix_iff_eq_take];exact eq_comm
 (conv=>whnf);refine dec (fun h=>?_) (fun h=>?_)
 ·(conv=>whnf);refine⟨0,q.length,rfl,rfl,by omega,?_⟩;(conv=>whnf);refine aC ?_;rw[List.drop_zero,Bool.eq_iff_iff,he,decide_eq_true_iff]
 ·(conv=>whnf);refine aC ?_;symm;rw[Bool.eq_false_iff,Ne,he];intro e;have:=congrArg List.length e;rw[List.length_take]at this;omega
def eQ(p d:List UInt8):List UInt8×Bool:=match under p d with
 |some r=>(r,true)
 |none=>(p,false)
theorem Bz{dr:Bool}(p q:List UInt8):bC dr Tryz.prog 302 [.c (.str p),.c (.str q)] [] (Rt (.tup [(false,[.str (if q.isPrefixOf p=true then p.drop q.length else p)]),(false,[.bool (q.isPrefixOf p)])]) []):=by
 refine ao (n:=15) (n0:=0) tabOk Tryz.call302 Tryz.func302 ?_;intro hb;(conv=>whnf);refine cl [] [] (C4 p q) ?_;repeat'((conv=>whnf);first|refine df (fun h=>?_) (fun h=>?_)|fail)
 ·rw[if_neg (by simp[h]),h];(conv=>whnf);exact rx [] []
 ·rw[if_pos h,h];rw[List.isPrefixOf_iff_prefix]at h;have:=h.length_le;(conv=>whnf);refine⟨q.length,p.length,rfl,rfl,by omega,?_⟩;(conv=>whnf);rw[List.take_length];exact rx [] []
theorem Gh{dr:Bool}(p q:List UInt8):bC dr Tryz.prog 253 [.c (.str p),.c (.str q)] [] (Rt (.tup [(false,[.str (if q.isPrefixOf p=true then p.drop q.length else p)]),(false,[.bool (q.isPrefixOf p)])]) []):=by
 refine ao (n:=11) (n0:=0) tabOk Tryz.call253 Tryz.func253 ?_;intro hb;(conv=>whnf);refine cl [] [] (Bz p q) ?_;(conv=>whnf);exact rx [] []
theorem oR{dr:Bool}(p d:List UInt8)(hd:d.length≤4000000):bC dr Tryz.prog 177 [.c (.str p),.c (.str d)] [] (Rt (.tup [(false,[.str (eQ p d).1]),(false,[.bool (eQ p d).2])]) []):=by
 have he:eQ p d=(if(d++[47]).isPrefixOf p=true then p.drop (d++[47]).length else p,(d++[47]).isPrefixOf p):=by
  unfold eQ under;cases h:(d++[47]).isPrefixOf p<;>simp
 rw[he];refine ao (n:=12) (n0:=0) tabOk Tryz.call177 Tryz.func177 ?_;intro hb;(conv=>whnf);refine⟨by simp;omega,?_⟩;(conv=>whnf);refine cl [] [] (Gh p (d++[47])) ?_;(conv=>whnf);exact rx [] []
end Go.Nest
end
section
namespace Go.Nest
open Go Go.AM
def cO(s:List UInt8):List UInt8×List UInt8×Bool:=if 0≤Lib.indexByte s 47 then(s.take (Lib.indexByte s 47).toNat,s.drop ((Lib.indexByte s 47).toNat+1),true)else(s,[],false)
theorem BA{s:List UInt8}(h:s.count 47=0):cO s=(s,[],false):=by
 unfold cO;rw[sV h,if_neg (by decide)]
theorem wo:∀{a b:List UInt8},a.count 47=0→cO (a++47::b)=(a,b,true):=by
 intro a b h
 have key:Lib.indexByte (a++47::b) 47=a.length:=by
  induction a with
  |nil=>simp[Lib.indexByte]
  |cons c a ih=>
   rw[List.count_cons]at h
   have hc:(c==47)=false:=by
    cases hc:c==47 with
    |false=>rfl
    |true=>rw[hc]at h;simp at h
   rw[List.cons_append];unfold Lib.indexByte;rw[hc,ih (by omega)];have:((a.length:Int)== -1)=false:=by simp
   simp[this]
 unfold cO;rw[key,if_pos (by omega)];simp
theorem wq{s:List UInt8}(h:¬s.count 47=0):∃a b,cO s=(a,b,true)∧s=a++47::b∧a.count 47=0:=by
 have key:∀{s:List UInt8},¬s.count 47=0→∃a b,s=a++47::b∧a.count 47=0:=by
  intro s;induction s with
  |nil=>intro h;simp at h
  |cons c s ih=>
   intro h;by_cases e:c=47
   ·exact⟨[],s,by rw[e];rfl,rfl⟩
   ·have hc:(c==47)=false:=by simpa using e
    rw[List.count_cons,hc]at h;obtain⟨a,b,h1,h2⟩:=ih (by simpa using h);exact⟨c::a,b,by rw[h1];rfl,by rw[List.count_cons,hc,h2];rfl⟩
 obtain⟨a,b,h1,h2⟩:=key h;exact⟨a,b,by rw[h1];exact wo h2,h1,h2⟩
theorem kJ{n:List UInt8}(h:bL n=0):n.count 47=0:=by
 rw[List.count_eq_zero];intro hm;unfold bL at h;rw[if_pos]at h
 ·cases h
 ·refine .inr (.inr (.inr ?_));rw[List.any_eq_true];exact⟨47,hm,by decide⟩
def dH(rec:Int→List (List UInt8)→List Fi→Int×List Fi)(ins:List (List UInt8)):List aB→List Fi→Int×List Fi
 |[],out=>(0,out)
 |e::r,out=>if e.mode=2 then(if(rec e.id (ins++[e.name]) out).1≠0 then rec e.id (ins++[e.name]) out else dH rec ins r (rec e.id (ins++[e.name]) out).2)
  else if out.length=60 then(5,out)else dH rec ins r (out++[⟨cH (ins++[e.name]),e.mode,e.id,e.au⟩])
def cd(L:List Ob):Nat→Int→List (List UInt8)→List Fi→Int×List Fi
 |0,_,_,out=>(0,out)
 |n+1,t,ins,out=>if kindOf L t≠2 then(9,out)else if 8≤ins.length∧0<(ai L t).entries.length then(3,out)else dH (cd L n) ins (ai L t).entries out
def cL(L:List Ob)(t:Int):List Fi×Int:=if(cd L 9 t [] []).1=0 then((cd L 9 t [] []).2,0)else([],(cd L 9 t [] []).1)
def bB(name:List UInt8):List Fi→List Fi×List Fi
 |[]=>([],[])
 |f::r=>match under f.path name with
  |none=>([],f::r)
  |some p=>(⟨p,f.mode,f.id,f.au⟩::(bB name r).1,(bB name r).2)
def dQ(es:List aB):Ob:=⟨2,[],es,0,[],[]⟩
def aR:Nat→List Ob→List aB→List Fi→Int×Int×List Ob
 |0,L,_,_=>(0,0,L)
 |n+1,L,es,[]=>aA L (dQ es)
 |n+1,L,es,f::r=>if f.path.count 47=0 then aR n L (es++[⟨f.path,f.mode,f.id,f.au⟩]) r
  else if(aR n L [] (bB (cO f.path).1 (f::r)).1).2.1≠0 then(0,(aR n L [] (bB (cO f.path).1 (f::r)).1).2.1,(aR n L [] (bB (cO f.path).1 (f::r)).1).2.2)
   else aR n (aR n L [] (bB (cO f.path).1 (f::r)).1).2.2 (es++[⟨(cO f.path).1,2,(aR n L [] (bB (cO f.path).1 (f::r)).1).1,0⟩]) (bB (cO f.path).1 (f::r)).2
def mu(l:List Fi):Nat:=(l.map fun f=>f.path.length+1).sum
theorem kI{f:Fi}{l:List Fi}:mu (f::l)=f.path.length+1+mu l:=by unfold mu;rw[List.map_cons,List.sum_cons]
theorem yt{l m:List Fi}:mu (l++m)=mu l+mu m:=by unfold mu;rw[List.map_append,List.sum_append]
def eD(p:Option Fi)(f:Fi):Int:=match p with
 |none=>0
 |some g=>if aK g.path f.path=false then 8 else if(under f.path g.path).isSome=true then 10 else 0
def jd:Option Fi→List Fi→Int
 |_,[]=>0
 |p,f::r=>if(ct f.path).2≠0 then(ct f.path).2 else if f.mode≠1∧f.mode≠3 then 6 else if eD p f≠0 then eD p f else jd (some f) r
def cR(l:List Fi):Int:=if 60<l.length then 5 else jd none l
def cZ(L:List Ob)(l:List Fi):Int×Int×List Ob:=if cR l≠0 then(0,cR l,L)else aR (mu l+1) L [] l
def pre(n:List UInt8)(f:Fi):Fi:=⟨n++47::f.path,f.mode,f.id,f.au⟩
inductive b9(ne:Bool)(L:List Ob):List aB→List Fi→Prop
 |nil:b9 ne L [] []
 |file {e:aB} {es:List aB} {l:List Fi} (hm:e.mode≠2) (h:b9 ne L es l):b9 ne L (e::es) (⟨e.name,e.mode,e.id,e.au⟩::l)
 |dir {e:aB} {es:List aB} {m l:List Fi} (hm:e.mode=2) (hk:kindOf L e.id=2) (hne:ne=true→m≠[]) (h1:b9 ne L (ai L e.id).entries m) (h:b9 ne L es l):b9 ne L (e::es) (m.map (pre e.name)++l)
def fP(ne:Bool)(L:List Ob)(t:Int)(l:List Fi):Prop:=kindOf L t=2∧b9 ne L (ai L t).entries l
theorem dE{L M:List Ob}(h:L<+:M){k:Int}(hk:¬kindOf L k=0):kindOf M k=kindOf L k:=by
 obtain⟨t,rfl⟩:=h;exact my hk
theorem ext_get{L M:List Ob}(h:L<+:M){k:Int}(hk:¬kindOf L k=0):ai M k=ai L k:=by
 obtain⟨t,rfl⟩:=h;have:=c9 hk;exact xm (by omega)
theorem b9.mono{ne:Bool}{L M:List Ob}(hx:L<+:M){es:List aB}{l:List Fi}(h:b9 ne L es l):b9 ne M es l:=by
 induction h with
 |nil=>exact .nil
 |file hm _ ih=>exact .file hm ih
 | @dir e es m l hm hk hne h1 h ih1 ih=>
  refine .dir hm (by rw[dE hx (by omega)];exact hk) hne ?_ ih;rw[ext_get hx (by omega)];exact ih1
theorem b9.nh{ne:Bool}{L:List Ob}{es:List aB}{l:List Fi}(h:b9 ne L es l):b9 false L es l:=by
 induction h with
 |nil=>exact .nil
 |file hm _ ih=>exact .file hm ih
 |dir hm hk hne h1 h ih1 ih=>exact .dir hm hk (fun h=>by cases h) ih1 ih
theorem aj.tree{L:List Ob}(hp:aj L){t:Int}(hk:kindOf L t=2):ai L t=dQ (ai L t).entries∧dZ none (ai L t).entries=0∧(ai L t).entries.length≤60∧(∀e∈(ai L t).entries,kindOf L e.id=e.mode):=by
 have h:=hp.get (id:=t) (by omega);have hk2:=fp (l:=L) (id:=t);rw[hk]at hk2;have h1:=h.nb (by omega);have h2:=h.nc (by omega);refine⟨?_,h.ents,h.entries,?_⟩
 ·generalize ai L t=o at*;obtain⟨a,b,c,d,e,f⟩:=o;simp only at hk2 h1 h2;rw[hk2,h1,h2.1,h2.2.1,h2.2.2];rfl
 ·have hpos:=c9 (l:=L) (id:=t) (by omega);have:=(hp.obj (ai L t) (by rw[jg hpos.1 hpos.2];exact List.getElem_mem _)).2;unfold dU at this;rw[Bool.and_eq_true,List.all_eq_true]at this;intro e he;simpa using this.1 e he
def eC:Option (List UInt8)→List aB→Prop
 |_,[]=>True
 |p,e::r=>(∀q,p=some q→Op.bytesLess q e.name=true)∧eC (some e.name) r
theorem wG:∀{es:List aB} {p:Option (List UInt8)},dZ p es=0→eC p es
 |[],_,_=>trivial
 |e::r,p,h=>by
  unfold dZ at h;split at h
  ·rename_i h0;refine⟨fun q hq=>?_,wG h⟩;subst hq;unfold fV at h0;split at h0
   ·exact absurd h0 ‹_›
   split at h0
   ·cases h0
   split at h0
   ·cases h0
   split at h0
   ·cases h0
   simp only at h0;split at h0
   ·assumption
   ·cases h0
  ·exact absurd h ‹_›
theorem zh:∀{es:List aB} {q:List UInt8},eC (some q) es→∀e∈es,Op.bytesLess q e.name=true
 |e::r,q,⟨h1,h2⟩,x,hx=>by
  rcases List.mem_cons.1 hx with rfl|hx
  ·exact h1 q rfl
  ·exact jC (h1 q rfl) (zh h2 x hx)
theorem FR:∀{es:List aB} {p:Option (List UInt8)},eC p es→eC none es
 |[],_,_=>trivial
 |_::_,_,⟨_,h⟩=>⟨fun _ hq=>(by cases hq),h⟩
theorem FQ:∀{es:List aB} {q r:List UInt8},Op.bytesLess q r=true→eC (some r) es→eC (some q) es
 |[],_,_,_,_=>trivial
 |_::_,_,_,h,⟨h1,h2⟩=>⟨fun s hs=>(by cases hs;exact jC h (h1 _ rfl)),h2⟩
structure gN(L:List Ob)(e:aB):Prop where
 name:bL e.name=0
 m1:1≤e.mode
 m3:e.mode≤3
 id:0≤e.id
 au:0≤e.au∧e.au<4
 link:e.mode=3∨e.au=0
 kind:kindOf L e.id=e.mode
theorem gN.mono{L M:List Ob}(hx:L<+:M){e:aB}(h:gN L e):gN M e:=
 ⟨h.name,h.m1,h.m3,h.id,h.au,h.link,by have:=h.kind;have:=h.m1;rw[dE hx (by omega)];exact h.kind⟩
theorem iS{L:List Ob}(hp:aj L){t:Int}(hk:kindOf L t=2):eC none (ai L t).entries∧∀e∈(ai L t).entries,gN L e:=by
 obtain⟨h1,h2,h3,h4⟩:=hp.tree hk;refine⟨wG h2,fun e he=>?_⟩;obtain⟨g1,g2,g3,g4,g5⟩:=ko h2 e he;exact⟨g1,g2.1,g2.2,g3,g4,g5,h4 e he⟩
theorem wH{L:List Ob}:∀{es:List aB} {p:Option (List UInt8)},eC p es→(∀e∈es,gN L e)→dZ p es=0
 |[],_,_,_=>rfl
 |e::r,p,⟨h1,h2⟩,h=>by
  have he:=h e (by simp)
  have h0:fV p e=0:=by
   unfold fV;have g1:=he.name;have g2:=he.m1;have g3:=he.m3;have g4:=he.id;have g5:=he.au;have g6:=he.link;rw[if_neg (by simpa using g1),if_neg (by omega),if_neg (by omega)];cases p with
   |none=>simp;try omega
   |some q=>simp[h1 q rfl];try omega
  unfold dZ;rw[if_pos h0];exact wH h2 fun x hx=>h x (by simp[hx])
theorem yY{L:List Ob}(hp:aj L){es:List aB}(h1:eC none es)(h2:∀e∈es,gN L e)(h3:es.length≤60):(aA L (dQ es)).2.1=0∨(aA L (dQ es)).2.1=15:=by
 have hf:bZ (dQ es)=0:=by
  unfold bZ dQ lP;simp[wH h1 h2];omega
 have hl:dU L (dQ es)=true:=by
  unfold dU dQ;simp;intro e he;exact(h2 e he).kind
 unfold aA;rw[if_neg (by simpa using hf),if_neg (by simp[hl])];split
 ·exact .inl rfl
 split
 ·exact .inr rfl
 ·exact .inl rfl
theorem jV{L:List Ob}(o:Ob):L<+:(aA L o).2.2:=by
 unfold aA;split
 ·exact List.prefix_refl _
 split
 ·exact List.prefix_refl _
 split
 ·exact List.prefix_refl _
 split
 ·exact List.prefix_refl _
 ·exact List.prefix_append _ _
theorem kQ{L:List Ob}{o:Ob}(h:(aA L o).2.1=0):0≤(aA L o).1∧ai (aA L o).2.2 (aA L o).1=o:=by
 unfold aA at h⊢;split at h
 ·exact absurd h ‹_›
 split at h
 ·cases h
 split at h
 ·rename_i h1 h2 h3;rw[if_neg h1,if_neg h2,if_pos h3];refine⟨h3,?_⟩;show ai L (bH (fun x=>decide (x=o)) L)=o;unfold bH at h3⊢;cases hi:L.findIdx? (fun x=>decide (x=o))with
  |none=>rw[hi]at h3;simp at h3
  |some i=>
   rw[List.findIdx?_eq_some_iff_getElem]at hi;obtain⟨h4,h5,_⟩:=hi;rw[jg (by simp) (by simpa using h4)];simpa using h5
 split at h
 ·cases h
 ·rename_i h1 h2 h3 h4;rw[if_neg h1,if_neg h2,if_neg h3,if_neg h4];exact⟨by simp,xn⟩
theorem yX{L:List Ob}(hp:aj L){t:Int}(hk:kindOf L t=2):aA L (ai L t)=(t,0,L):=by
 obtain⟨h1,h2⟩:=c9 (l:=L) (id:=t) (by omega);rw[jg h1 h2,yT hp h2];simp;omega
theorem nW(name:List UInt8):∀l:List Fi,l=(bB name l).1.map (pre name)++(bB name l).2
 |[]=>rfl
 |f::r=>by
  have ih:=nW name r;unfold bB;cases h:under f.path name with
  |none=>rfl
  |some p=>
   simp only[List.map_cons,List.cons_append];rw[←ih];congr 1
   obtain⟨a,b,c,d⟩:=f;have:=oQ h;simp only at this;rw[pre,this]
theorem pS{name:List UInt8}{f:Fi}{r:List Fi}{b:List UInt8}(h:f.path=name++47::b):(bB name (f::r)).1≠[]:=by
 unfold bB;rw[h,uH];simp
theorem tJ(n:List UInt8):∀m:List Fi,mu m+(n.length+1)*m.length=mu (m.map (pre n))
 |[]=>rfl
 |f::m=>by
  have:=tJ n m;rw[List.map_cons,kI,kI,List.length_cons,Nat.mul_succ,←this];simp[pre];omega
theorem s7{name:List UInt8}{f:Fi}{r:List Fi}{b:List UInt8}(h:f.path=name++47::b):mu (bB name (f::r)).1<mu (f::r)∧mu (bB name (f::r)).2<mu (f::r):=by
 have h1:=pS (r:=r) h;have h2:=nW name (f::r);have h3:=tJ name (bB name (f::r)).1;have h4:mu (f::r)=mu ((bB name (f::r)).1.map (pre name))+mu (bB name (f::r)).2:=by rw[←yt,←h2]
 have h5:0<(bB name (f::r)).1.length:=List.length_pos_iff.2 h1;have h6:(bB name (f::r)).1.length≤(name.length+1)*(bB name (f::r)).1.length:=Nat.le_mul_of_pos_left _ (by omega);omega
theorem xH{name:List UInt8}:∀{m l:List Fi},(∀f∈l,under f.path name=none)→bB name (m.map (pre name)++l)=(m,l)
 |[],[],_=>rfl
 |[],f::l,h=>by
  show bB name (f::l)=_;unfold bB;rw[h f (by simp)]
 |f::m,l,h=>by
  show bB name (pre name f::(m.map (pre name)++l))=_;unfold bB;rw[show(pre name f).path=name++47::f.path from rfl,uH,xH h];rfl
theorem kT{n:List UInt8}(h:n.count 47=0)(p:List UInt8):az (n++47::p)=n::az p:=by rw[qO,lM h];rfl
theorem b9.fst{ne:Bool}{L:List Ob}{es:List aB}{l:List Fi}(h:b9 ne L es l):(∀e∈es,bL e.name=0)→∀f∈l,∃e∈es,∃r,az f.path=e.name::r:=by
 induction h with
 |nil=>intro _ f hf;cases hf
 | @file e es l hm _ ih=>
  intro hn f hf;rcases List.mem_cons.1 hf with rfl|hf
  ·exact⟨e,by simp,[],lM (kJ (hn e (by simp)))⟩
  ·obtain⟨e2,h2,h3⟩:=ih (fun x hx=>hn x (by simp[hx])) f hf;exact⟨e2,by simp[h2],h3⟩
 | @dir e es m l hm hk hne h1 h ih1 ih=>
  intro hn f hf;rcases List.mem_append.1 hf with hf|hf
  ·obtain⟨g,hg,rfl⟩:=List.mem_map.1 hf;exact⟨e,by simp,az g.path,kT (kJ (hn e (by simp))) _⟩
  ·obtain⟨e2,h2,h3⟩:=ih (fun x hx=>hn x (by simp[hx])) f hf;exact⟨e2,by simp[h2],h3⟩
theorem Hg{p n:List UInt8}(hn:n.count 47=0){x:List UInt8}{r:List (List UInt8)}(h:az p=x::r)(hx:x≠n):under p n=none:=by
 cases hu:under p n with
 |none=>rfl
 |some q=>
  have:=oQ hu;rw[this,kT hn]at h;cases h;exact absurd rfl hx
theorem vE{a b:List UInt8}(h:Op.bytesLess a b=true):b≠a:=fun e=>by rw[e,iZ]at h;cases h
theorem b9.apart{ne:Bool}{L:List Ob}{e:aB}{es:List aB}{l:List Fi}{p:Option (List UInt8)}(h:b9 ne L es l)(hn:∀x∈e::es,bL x.name=0)(hr:eC p (e::es)):∀f∈l,∃x r,az f.path=x::r∧Op.bytesLess e.name x=true:=fun f hf=>by
 obtain⟨e2,h2,r,h3⟩:=h.fst (fun x hx=>hn x (by simp[hx])) f hf;exact⟨e2.name,r,h3,zh hr.2 e2 h2⟩
def Made(ne:Bool)(L0 L:List Ob)(acc es:List aB)(p:Option (List UInt8))(r:Int×Int×List Ob):Prop:=
 ∃L',L<+:L'∧aj L'∧((r.2.1=15∧ne=false)∨∃es',r=aA L' (dQ (acc++es'))∧eC p es'∧(∀e∈es',gN L' e)∧es'.length≤es.length∧(ne=true→es'=es∧L'=L))
theorem b9.FB{ne:Bool}{L0:List Ob}(h0:aj L0){es:List aB}{l:List Fi}(h:b9 ne L0 es l):∀(n:Nat) (L:List Ob) (acc:List aB) (p:Option (List UInt8)),L0<+:L→aj L→eC p es→(∀e∈es,gN L0 e)→es.length≤60→mu l<n→Made ne L0 L acc es p (aR n L acc l):=by
 induction h with
 |nil=>
  intro n L acc p hx hp hr he hlen hn;obtain⟨n,rfl⟩:∃m,n=m+1:=⟨n-1,by omega⟩;refine⟨L,List.prefix_refl _,hp,.inr ⟨[],?_,trivial,fun e he=>(by cases he),Nat.le_refl _,fun _=>⟨rfl,rfl⟩⟩⟩;rw[List.append_nil];rfl
 | @file e es l hm h ih=>
  intro n L acc p hx hp hr he hlen hn;obtain⟨n,rfl⟩:∃m,n=m+1:=⟨n-1,by omega⟩;rw[kI]at hn;have hE:=he e (by simp);unfold aR;rw[if_pos (kJ hE.name)];obtain⟨L',g1,g2,g3⟩:=ih n L (acc++[e]) (some e.name) hx hp hr.2 (fun x hx=>he x (by simp[hx])) (by simp at hlen;omega) (by omega);refine⟨L',g1,g2,g3.imp id ?_⟩;rintro⟨es',k1,k2,k3,k4,k5⟩;refine⟨e::es',?_,⟨hr.1,k2⟩,fun x hx2=>?_,by simp;omega,fun h=>⟨by rw[(k5 h).1],(k5 h).2⟩⟩
  ·rw[show acc++e::es'=(acc++[e])++es' by simp];exact k1
  ·rcases List.mem_cons.1 hx2 with rfl|hx2
   ·exact hE.mono (hx.trans g1)
   ·exact k3 x hx2
 | @dir e es m l hm hk hne h1 h ih1 ih=>
  intro n L acc p hx hp hr he hlen hn;have hE:=he e (by simp);have hs:=kJ hE.name;by_cases hm0:m=[]
  ·subst hm0;have hne2:ne=false:=by cases ne with|false=>rfl|true=>exact absurd rfl (hne rfl)
   obtain ⟨L', g1, g2, g3⟩ := ih n L acc p hx hp (by
    cases p with
    |none=>exact FR hr.2
    |some q=>exact FQ (hr.1 q rfl) hr.2) (fun x hx=>he x (by simp[hx])) (by simp at hlen;omega) (by simpa using hn)
   refine⟨L',g1,g2,g3.imp id ?_⟩;rintro⟨es',k1,k2,k3,k4,k5⟩;exact⟨es',k1,k2,k3,by simp;omega,fun h=>by rw[hne2]at h;cases h⟩
  obtain⟨n,rfl⟩:∃m,n=m+1:=⟨n-1,by omega⟩;obtain⟨f0,m0,rfl⟩:∃f0 m0,m=f0::m0:=by cases m with|nil=>exact absurd rfl hm0|cons a b=>exact⟨a,b,rfl⟩
  have hcut:cO (pre e.name f0).path=(e.name,f0.path,true):=wo hs
  have hin:bB e.name (pre e.name f0::(m0.map (pre e.name)++l))=(f0::m0,l):=xH (m:=f0::m0) fun f hf=>by
   obtain⟨x,r,e1,e2⟩:=h.apart (fun x hx=>(he x hx).name) hr f hf;exact Hg hs e1 (vE e2)
  have hcnt:¬(pre e.name f0).path.count 47=0:=by
   show¬(e.name++47::f0.path).count 47=0;rw[List.count_append,List.count_cons_self];omega
  have hmu:=tJ e.name (f0::m0);rw[yt]at hn;rw[List.length_cons]at hmu;have hmu2:0<(e.name.length+1)*(m0.length+1):=Nat.mul_pos (by omega) (by omega);rw[List.map_cons,List.cons_append];unfold aR;rw[if_neg hcnt,hcut,hin];dsimp only;obtain⟨q1,q2⟩:=iS h0 hk;obtain⟨L1,g1,g2,g3⟩:=ih1 n L [] none hx hp q1 q2 (h0.tree hk).2.2.1 (by omega);have fin15:ne=false→∀{a:Int} {M:List Ob},Made ne L0 L acc (e::es) p (a,15,M):=fun h a M=>⟨L,List.prefix_refl _,hp,.inl ⟨rfl,h⟩⟩;rcases g3 with⟨g3,g4⟩|⟨es1,k1,k2,k3,k4,k5⟩
  ·rw[if_pos (by rw[g3];decide),g3];exact fin15 g4
  rw[List.nil_append]at k1;rw[k1];have hlen1:es1.length≤60:=by have:=(h0.tree hk).2.2.1;omega
  have htrue:ne=true→aA L1 (dQ es1)=(e.id,0,L):=fun h=>by
   obtain⟨e1,e2⟩:=k5 h;rw[e1,e2];have hk':kindOf L e.id=2:=by rw[dE hx (by omega)];exact hk
   have hg:ai L e.id=ai L0 e.id:=ext_get hx (by omega);have:=yX hp hk';rw[hg,(h0.tree hk).1]at this;exact this
  rcases yY g2 k2 k3 hlen1 with hz|hz
  ·rw[if_neg (by rw[hz];simp)];obtain⟨z1,z2⟩:=kQ hz;have zx:L<+:(aA L1 (dQ es1)).2.2:=g1.trans (jV _);have zk:kindOf (aA L1 (dQ es1)).2.2 (aA L1 (dQ es1)).1=2:=by rw[←fp,z2];rfl
   have newOk:gN (aA L1 (dQ es1)).2.2 ⟨e.name,2,(aA L1 (dQ es1)).1,0⟩:=⟨hE.name,by simp,by simp,z1,by simp,.inr rfl,zk⟩;obtain⟨L',j1,j2,j3⟩:=ih n (aA L1 (dQ es1)).2.2 (acc++[⟨e.name,2,(aA L1 (dQ es1)).1,0⟩]) (some e.name) (hx.trans zx) (iM g2 _) hr.2 (fun x hx=>he x (by simp[hx])) (by simp at hlen;omega) (by omega);refine⟨L',zx.trans j1,j2,j3.imp id ?_⟩;rintro⟨es',t1,t2,t3,t4,t5⟩;refine⟨⟨e.name,2,(aA L1 (dQ es1)).1,0⟩::es',?_,⟨hr.1,t2⟩,fun x hx2=>?_,by simp;omega,fun h=>?_⟩
   ·rw[t1];simp
   ·rcases List.mem_cons.1 hx2 with rfl|hx2
    ·exact newOk.mono j1
    ·exact t3 x hx2
   ·rw[htrue h]at t5⊢;refine⟨?_,(t5 h).2⟩;rw[(t5 h).1];congr 1
    have hrep:e.au=0:=by have:=hE.link;omega
    obtain⟨a,b,c,d⟩:=e;simp only at hm hrep;rw[hm,hrep]
  ·cases hne2:ne with
   |true=>rw[htrue hne2]at hz;cases hz
   |false=>
    rw[if_pos (by rw[hz];decide),hz];rw[hne2]at fin15;exact fin15 rfl
theorem G6{ne:Bool}{L:List Ob}(hp:aj L){t:Int}{l:List Fi}(h:fP ne L t l){n:Nat}(hn:mu l<n):((aR n L [] l).2.1=0∨(aR n L [] l).2.1=15)∧(ne=true→aR n L [] l=(t,0,L)):=by
 obtain⟨q1,q2⟩:=iS hp h.1;have q3:=(hp.tree h.1).2.2.1;obtain⟨L',g1,g2,g3⟩:=h.2.FB hp n L [] none (List.prefix_refl _) hp q1 q2 q3 hn;rcases g3 with⟨g3,g4⟩|⟨es',k1,k2,k3,k4,k5⟩
 ·exact⟨.inr g3,fun h=>by rw[g4]at h;cases h⟩
 ·rw[List.nil_append]at k1;rw[k1];refine⟨yY g2 k2 k3 (by omega),fun h2=>?_⟩;obtain⟨e1,e2⟩:=k5 h2;rw[e1,e2,←(hp.tree h.1).1];exact yX hp h.1
end Go.Nest
end
section
namespace Go.Nest
open Go Go.AM
theorem kx:∀(n:Nat) (L:List Ob) (acc:List aB) (l:List Fi),aj L→aj (aR n L acc l).2.2∧L<+:(aR n L acc l).2.2
 |0,L,_,_,h=>⟨h,List.prefix_refl _⟩
 |n+1,L,acc,[],h=>⟨iM h _,jV _⟩
 |n+1,L,acc,f::r,h=>by
  unfold aR;split
  ·exact kx n L _ r h
  obtain⟨h1,h2⟩:=kx n L [] (bB (cO f.path).1 (f::r)).1 h;split
  ·exact⟨h1,h2⟩
  obtain⟨h3,h4⟩:=kx n _ (acc++[⟨(cO f.path).1,2,(aR n L [] (bB (cO f.path).1 (f::r)).1).1,0⟩]) (bB (cO f.path).1 (f::r)).2 h1;exact⟨h3,h2.trans h4⟩
theorem pN:∀(n:Nat) (L:List Ob) (acc:List aB) (l:List Fi),aj L→mu l<n→(∀f∈l,f.mode≠2)→(aR n L acc l).2.1=0→∃es,b9 true (aR n L acc l).2.2 es l∧ai (aR n L acc l).2.2 (aR n L acc l).1=dQ (acc++es)
 |0,_,_,_,_,h,_,_=>absurd h (by omega)
 |n+1,L,acc,[],hp,hn,hm,h=>by
  unfold aR at h⊢;obtain⟨h1,h2⟩:=kQ h;exact⟨[],.nil,by rw[List.append_nil];exact h2⟩
 |n+1,L,acc,f::r,hp,hn,hm,h=>by
  rw[kI]at hn;unfold aR at h⊢;split at h
  ·rename_i hc;rw[if_pos hc];obtain⟨es,h1,h2⟩:=pN n L (acc++[⟨f.path,f.mode,f.id,f.au⟩]) r hp (by omega) (fun x hx=>hm x (by simp[hx])) h;refine⟨⟨f.path,f.mode,f.id,f.au⟩::es,.file (e:=⟨f.path,f.mode,f.id,f.au⟩) (hm f (by simp)) h1,?_⟩;rw[h2];simp
  ·rename_i hc;rw[if_neg hc];obtain⟨a,b,hcut,hab,ha⟩:=wq hc;have hmu:=s7 (r:=r) hab;rw[kI]at hmu;have hps:=pS (r:=r) hab;have heq:=nW a (f::r);rw[hcut]at h⊢;dsimp only at h⊢;generalize hin:bB a (f::r)=I at*;obtain⟨m,l'⟩:=I;dsimp only at*;split at h
   ·exact absurd h ‹_›
   rename_i h0;rw[if_neg h0];have h0:(aR n L [] m).2.1=0:=Classical.not_not.1 h0;have hmm:∀g∈m,g.mode≠2:=fun g hg=>hm (pre a g) (by rw[heq];exact List.mem_append.2 (.inl (List.mem_map.2 ⟨g,hg,rfl⟩)));have hml:∀g∈l',g.mode≠2:=fun g hg=>hm g (by rw[heq];exact List.mem_append.2 (.inr hg));obtain⟨es1,k1,k2⟩:=pN n L [] m hp (by omega) hmm h0;obtain⟨p1,p2⟩:=kx n L [] m hp;obtain⟨p3,p4⟩:=kx n (aR n L [] m).2.2 (acc++[⟨a,2,(aR n L [] m).1,0⟩]) l' p1;obtain⟨es2,k3,k4⟩:=pN n (aR n L [] m).2.2 (acc++[⟨a,2,(aR n L [] m).1,0⟩]) l' p1 (by omega) hml h;have hk:kindOf (aR n L [] m).2.2 (aR n L [] m).1=2:=by rw[←fp,k2];rfl
   refine⟨⟨a,2,(aR n L [] m).1,0⟩::es2,?_,by rw[k4];simp⟩;rw[heq];refine .dir (e:=⟨a,2,(aR n L [] m).1,0⟩) rfl (by rw[dE p4 (by simp only[];omega)];exact hk) (fun _=>hps) ?_ k3;simp only[];rw[ext_get p4 (by omega),k2];rw[List.nil_append];exact k1.mono p4
theorem vO:∀{l:List Fi} {p:Option Fi},jd p l=0→∀f∈l,(ct f.path).2=0∧(f.mode=1∨f.mode=3)
 |f::r,p,h,g,hg=>by
  unfold jd at h;split at h
  ·exact absurd h ‹_›
  split at h
  ·cases h
  split at h
  ·exact absurd h ‹_›
  rcases List.mem_cons.1 hg with rfl|hg
  ·exact⟨by simpa using‹¬(ct _).2≠0›,by omega⟩
  ·exact vO h g hg
theorem kq{l:List Fi}(h:cR l=0):l.length≤60∧∀f∈l,(ct f.path).2=0∧(f.mode=1∨f.mode=3):=by
 unfold cR at h;split at h
 ·cases h
 ·exact⟨by omega,vO h⟩
theorem qR{s:List UInt8}(h:(ct s).2=0):eW (az s)=0∧(az s).length≤8∧(ct s).1=az s:=by
 unfold ct at h⊢;split at h
 ·rename_i h1;split at h
  ·cases h
  ·rename_i h2;rw[if_pos h1,if_neg h2];exact⟨h1,by omega,rfl⟩
 ·exact absurd h ‹_›
theorem GD{s:List UInt8}(h1:eW (az s)=0)(h2:(az s).length≤8):(ct s).2=0:=by
 unfold ct;rw[if_pos h1,if_neg (by omega)]
theorem k9{L:List Ob}(hp:aj L)(l:List Fi):aj (cZ L l).2.2∧L<+:(cZ L l).2.2:=by
 unfold cZ;split
 ·exact⟨hp,List.prefix_refl _⟩
 ·exact kx _ _ _ _ hp
theorem pj{L:List Ob}(hp:aj L){l:List Fi}(h:(cZ L l).2.1=0):cR l=0∧fP true (cZ L l).2.2 (cZ L l).1 l:=by
 unfold cZ at h⊢;split at h
 ·exact absurd h ‹_›
 rename_i h1;rw[if_neg h1];have h1:cR l=0:=by simpa using h1
 obtain⟨es,h2,h3⟩:=pN _ L [] l hp (Nat.lt_succ_self _) (fun f hf=>by have:=(kq h1).2 f hf;omega) h;refine⟨h1,by rw[←fp,h3];rfl,?_⟩;rw[h3];rw[List.nil_append];exact h2
def full(ins:List (List UInt8))(f:Fi):Fi:=⟨cH (ins++[f.path]),f.mode,f.id,f.au⟩
theorem Aa:∀(ins:List (List UInt8)) (a b:List UInt8),cH (ins++[a++47::b])=cH (ins++[a]++[b])
 |[],a,b=>rfl
 |[x],a,b=>by simp[cH]
 |x::y::r,a,b=>by
  have:=Aa (y::r) a b;simp[cH]at this⊢;exact this
theorem xd(ins:List (List UInt8))(n:List UInt8)(f:Fi):full ins (pre n f)=full (ins++[n]) f:=by
 unfold full pre;rw[Aa]
theorem xc:full []=id:=by funext f;rfl
theorem b9.told{L:List Ob}(hp:aj L){es:List aB}{l:List Fi}(h:b9 true L es l):∀(n:Nat) (ins:List (List UInt8)) (out:List Fi),ins.length+n=8→(∀e∈es,bL e.name=0)→(∀f∈l,(az f.path).length+ins.length≤8)→out.length+l.length≤60→dH (cd L n) ins es out=(0,out++l.map (full ins)):=by
 induction h with
 |nil=>intro n ins out _ _ _ _;simp[dH]
 | @file e es l hm _ ih=>
  intro n ins out hn hnm hf hlen;rw[List.length_cons]at hlen;unfold dH;rw[if_neg hm,if_neg (by omega),ih n ins _ hn (fun x hx=>hnm x (by simp[hx])) (fun f h=>hf f (by simp[h])) (by rw[List.length_append,List.length_singleton];omega)];simp[full]
 | @dir e es m l hm hk hne h1 h ih1 ih=>
  intro n ins out hn hnm hf hlen;have hs:=kJ (hnm e (by simp));have hm0:=hne rfl;obtain⟨f0,m0,rfl⟩:∃f0 m0,m=f0::m0:=by cases m with|nil=>exact absurd rfl hm0|cons a b=>exact⟨a,b,rfl⟩
  have hd:∀f∈f0::m0,(az f.path).length+1+ins.length≤8:=fun f h=>by
   have:=hf (pre e.name f) (List.mem_append.2 (.inl (List.mem_map.2 ⟨f,h,rfl⟩)));rw[show(pre e.name f).path=e.name++47::f.path from rfl,kT hs,List.length_cons]at this;exact this
  have h8:=hd f0 (by simp);have h9:=Gz f0.path;obtain⟨n,rfl⟩:∃m,n=m+1:=⟨n-1,by omega⟩;rw[List.length_append,List.length_map]at hlen
  have hin:cd L (n+1) e.id (ins++[e.name]) out=(0,out++(f0::m0).map (full (ins++[e.name]))):=by
   unfold cd;rw[if_neg (by simpa using hk),if_neg (by rw[List.length_append,List.length_singleton];omega)];exact ih1 n (ins++[e.name]) out (by rw[List.length_append,List.length_singleton];omega) (fun x hx=>(ko (hp.tree hk).2.1 x hx).1) (fun f h=>by rw[List.length_append,List.length_singleton];have:=hd f h;omega) (by omega)
  unfold dH;rw[if_pos hm,hin];rw[if_neg (by simp)];rw[ih (n+1) ins _ hn (fun x hx=>hnm x (by simp[hx])) (fun f h=>hf f (List.mem_append.2 (.inr h))) (by rw[List.length_append,List.length_map];omega)];have hc:full ins∘pre e.name=full (ins++[e.name]):=funext fun f=>xd ins e.name f;rw[List.map_append,List.map_map,hc,List.append_assoc]
theorem G7{L:List Ob}(hp:aj L){t:Int}{l:List Fi}(h:fP true L t l)(h1:l.length≤60)(h2:∀f∈l,(az f.path).length≤8):cL L t=(l,0):=by
 have key:cd L 9 t [] []=(0,l):=by
  unfold cd;rw[if_neg (by simpa using h.1),if_neg (by simp)];rw[h.2.told hp 8 [] [] rfl (fun x hx=>(ko (hp.tree h.1).2.1 x hx).1) (fun f hf=>by simpa using h2 f hf) (by simpa using h1)];simp[xc]
 unfold cL;rw[key];simp
theorem uB{L:List Ob}{n:Nat}{ins:List (List UInt8)}(hn:ins.length+n=8)(rec:∀(t:Int) (nm:List UInt8) (out out':List Fi),ins.length<8→out.length≤60→cd L n t (ins++[nm]) out=(0,out')→∃l,fP false L t l∧out'=out++l.map (full (ins++[nm]))∧out'.length≤60∧∀f∈l,(az f.path).length+(ins.length+1)≤8):∀(es:List aB) (out out':List Fi),(∀e∈es,bL e.name=0)→(es≠[]→ins.length<8)→out.length≤60→dH (cd L n) ins es out=(0,out')→∃l,b9 false L es l∧out'=out++l.map (full ins)∧out'.length≤60∧∀f∈l,(az f.path).length+ins.length≤8
 |[],out,out',_,_,hlen,h=>by
  unfold dH at h;cases h;exact⟨[],.nil,by simp,hlen,fun f hf=>by cases hf⟩
 |e::r,out,out',hnm,hi,hlen,h=>by
  have hs:=kJ (hnm e (by simp));have h8:=hi (by simp);unfold dH at h;split at h
  ·rename_i hm;split at h
   ·rename_i h1;exact absurd (by rw[h]) h1
   ·rename_i h1;obtain⟨l1,k1,k2,k3,k4⟩:=rec e.id e.name out (cd L n e.id (ins++[e.name]) out).2 h8 hlen (Prod.ext (Classical.not_not.1 h1) rfl);obtain⟨l2,k5,k6,k7,k8⟩:=uB hn rec r _ out' (fun x hx=>hnm x (by simp[hx])) (fun _=>h8) k3 h;refine⟨l1.map (pre e.name)++l2,.dir hm k1.1 (fun h=>by cases h) k1.2 k5,?_,k7,fun f hf=>?_⟩
    ·have hc:full ins∘pre e.name=full (ins++[e.name]):=funext fun f=>xd ins e.name f;rw[k6,k2,List.map_append,List.map_map,hc,List.append_assoc]
    ·rcases List.mem_append.1 hf with hf|hf
     ·obtain⟨g,hg,rfl⟩:=List.mem_map.1 hf;have:=k4 g hg;rw[show(pre e.name g).path=e.name++47::g.path from rfl,kT hs,List.length_cons];omega
     ·exact k8 f hf
  ·rename_i hm;split at h
   ·cases h
   ·rename_i h1;obtain⟨l2,k5,k6,k7,k8⟩:=uB hn rec r _ out' (fun x hx=>hnm x (by simp[hx])) (fun _=>h8) (by rw[List.length_append,List.length_singleton];omega) h;refine⟨⟨e.name,e.mode,e.id,e.au⟩::l2,.file hm k5,?_,k7,fun f hf=>?_⟩
    ·rw[k6];simp[full]
    ·rcases List.mem_cons.1 hf with rfl|hf
     ·rw[lM hs];simp;omega
     ·exact k8 f hf
theorem CZ{L:List Ob}(hp:aj L):∀(n:Nat) (t:Int) (ins:List (List UInt8)) (out out':List Fi),ins.length+n=8→out.length≤60→cd L (n+1) t ins out=(0,out')→∃l,fP false L t l∧out'=out++l.map (full ins)∧out'.length≤60∧∀f∈l,(az f.path).length+ins.length≤8:=by
 intro n;induction n with
 |zero=>
  intro t ins out out' hn hlen h;unfold cd at h;split at h
  ·cases h
  split at h
  ·cases h
  rename_i h1 h2;have h1:kindOf L t=2:=Classical.not_not.1 h1;have he:(ai L t).entries=[]:=List.eq_nil_of_length_eq_zero (by omega);rw[he]at h;unfold dH at h;cases h;exact⟨[],⟨h1,by rw[he];exact .nil⟩,by simp,hlen,fun f hf=>by cases hf⟩
 |succ n ih=>
  intro t ins out out' hn hlen h;rw[cd]at h;split at h
  ·cases h
  split at h
  ·cases h
  rename_i h1 h2;have h1:kindOf L t=2:=Classical.not_not.1 h1
  obtain ⟨l, k1, k2, k3, k4⟩ := uB (L := L) (n := n + 1) (ins := ins) (by omega) (fun t nm out out' h8 hl hg=>by
   obtain⟨l,k1,k2,k3,k4⟩:=ih t (ins++[nm]) out out' (by rw[List.length_append,List.length_singleton];omega) hl hg;exact⟨l,k1,k2,k3,fun f hf=>by have:=k4 f hf;rw[List.length_append,List.length_singleton]at this;exact this⟩) _ out out' (fun x hx=>(ko (hp.tree h1).2.1 x hx).1) (fun _=>by omega) hlen h
  exact⟨l,⟨h1,k1⟩,k2,k3,k4⟩
theorem wP{L:List Ob}(hp:aj L){t:Int}(h:(cL L t).2=0):fP false L t (cL L t).1∧(cL L t).1.length≤60∧∀f∈(cL L t).1,(az f.path).length≤8:=by
 unfold cL at h⊢;split at h
 ·rename_i h1;rw[if_pos h1];obtain⟨l,k1,k2,k3,k4⟩:=CZ hp 8 t [] [] (cd L 9 t [] []).2 rfl (by simp) (Prod.ext h1 rfl);rw[List.nil_append,xc,List.map_id]at k2;rw[k2]at k3⊢;exact⟨k1,k3,fun f hf=>by simpa using k4 f hf⟩
 ·exact absurd h ‹_›
theorem CE{L:List Ob}{t:Int}(h:(cL L t).2≠0):(cL L t).1=[]:=by
 unfold cL at h⊢;split
 ·rename_i h1;rw[if_pos h1]at h;exact absurd rfl h
 ·rfl
def ni(f g:Fi):Prop:=aK f.path g.path=true∧under g.path f.path=none
theorem vg{f g:Fi}{a b:List UInt8}{r s:List (List UInt8)}(hf:az f.path=a::r)(hg:az g.path=b::s)(h:Op.bytesLess a b=true):ni f g:=by
 refine⟨?_,?_⟩
 ·unfold aK;rw[hf,hg,cE,if_neg (fun e=>vE h e.symm)];exact h
 ·cases hu:under g.path f.path with
  |none=>rfl
  |some q=>
   have:=oQ hu;rw[this,qO,hf]at hg;cases hg;rw[iZ]at h;cases h
theorem AE{n:List UInt8}(hn:n.count 47=0){f g:Fi}(h:ni f g):ni (pre n f) (pre n g):=by
 refine⟨?_,?_⟩
 ·unfold aK;rw[show(pre n f).path=n++47::f.path from rfl,show(pre n g).path=n++47::g.path from rfl,kT hn,kT hn,cE,if_pos rfl];exact h.1
 ·cases hu:under (pre n g).path (pre n f).path with
  |none=>rfl
  |some q=>
   have h1:=oQ hu;have h2:n++47::g.path=(n++47::f.path)++47::q:=h1;rw[List.append_assoc,List.append_cancel_left_eq]at h2;have h3:g.path=f.path++47::q:=by simpa using h2
   have h4:=h.2;rw[h3,uH]at h4;cases h4
theorem b9.vf{ne:Bool}{L:List Ob}(hp:aj L){es:List aB}{l:List Fi}(h:b9 ne L es l):∀{p:Option (List UInt8)},eC p es→(∀e∈es,gN L e)→l.Pairwise ni∧(∀f∈l,eW (az f.path)=0∧(f.mode=1∨f.mode=3)):=by
 induction h with
 |nil=>intro p _ _;exact⟨.nil,fun f hf=>by cases hf⟩
 | @file e es l hm h ih=>
  intro p hr he;have hE:=he e (by simp);have hs:=kJ hE.name;obtain⟨h1,h2⟩:=ih hr.2 (fun x hx=>he x (by simp[hx]));refine⟨List.pairwise_cons.2 ⟨fun g hg=>?_,h1⟩,fun f hf=>?_⟩
  ·obtain⟨x,r,e1,e2⟩:=h.apart (fun x hx=>(he x hx).name) hr g hg;exact vg (lM hs) e1 e2
  ·rcases List.mem_cons.1 hf with rfl|hf
   ·refine⟨?_,?_⟩
    ·rw[lM hs];simp[eW,hE.name]
    ·have:=hE.m1;have:=hE.m3;show e.mode=1∨e.mode=3;omega
   ·exact h2 f hf
 | @dir e es m l hm hk hne h1 h ih1 ih=>
  intro p hr he;have hE:=he e (by simp);have hs:=kJ hE.name;obtain⟨q1,q2⟩:=iS hp hk;obtain⟨g1,g2⟩:=ih1 q1 q2;obtain⟨g3,g4⟩:=ih hr.2 (fun x hx=>he x (by simp[hx]));refine⟨List.pairwise_append.2 ⟨?_,g3,fun f hf g hg=>?_⟩,fun f hf=>?_⟩
  ·rw[List.pairwise_map];exact g1.imp fun h=>AE hs h
  ·obtain⟨f,hf,rfl⟩:=List.mem_map.1 hf;obtain⟨x,r,e1,e2⟩:=h.apart (fun x hx=>(he x hx).name) hr g hg;exact vg (kT hs f.path) e1 e2
  ·rcases List.mem_append.1 hf with hf|hf
   ·obtain⟨g,hg,rfl⟩:=List.mem_map.1 hf;refine⟨?_,(g2 g hg).2⟩;rw[show(pre e.name g).path=e.name++47::g.path from rfl,kT hs];unfold eW;rw[if_pos hE.name];exact(g2 g hg).1
   ·exact g4 f hf
def oY(L:List Ob)(k:Int):Prop:=kindOf L k=2∧(ai L k).entries=[]
theorem D5{L:List Ob}{i j k:Int}(h1:ca L [i] j)(h2:ca L [j] k):ca L [i] k:=by
 induction h2 with
 |base h hk=>rw[List.mem_singleton]at h;subst h;exact h1
 |step _ hk ih=>exact .step ih hk
theorem b9.bare{L:List Ob}{es:List aB}{l:List Fi}(h:b9 false L es l):b9 true L es l∨∃e∈es,e.mode=2∧∃k,ca L [e.id] k∧oY L k:=by
 induction h with
 |nil=>exact .inl .nil
 | @file e es l hm _ ih=>
  rcases ih with h|⟨e2,h2,h3⟩
  ·exact .inl (.file hm h)
  ·exact .inr ⟨e2,by simp[h2],h3⟩
 | @dir e es m l hm hk hne h1 h ih1 ih=>
  have lb:ca L [e.id] e.id:= .base (by simp) (by omega);rcases ih1 with g|⟨e2,h2,h3,k,h4,h5⟩
  ·by_cases hm0:m=[]
   ·subst hm0;refine .inr ⟨e,by simp,hm,e.id,lb,hk,?_⟩;cases hg:(ai L e.id).entries with
    |nil=>rfl
    |cons x r=>
     rw[hg]at g;generalize hq:([]:List Fi)=q at g;cases g with
     |file _ _=>cases hq
     |dir _ _ hn _ _=>
      have:=(List.append_eq_nil_iff.1 hq.symm).1;rw[List.map_eq_nil_iff]at this;exact absurd this (hn rfl)
   ·rcases ih with h|⟨e2,h2,h3⟩
    ·exact .inl (.dir hm hk (fun _=>hm0) g h)
    ·exact .inr ⟨e2,by simp[h2],h3⟩
  ·refine .inr ⟨e,by simp,hm,k,?_,h5⟩;refine D5 (.step lb ?_) h4;unfold dz;rw[List.mem_append,List.mem_map];exact .inl ⟨e2,List.mem_filter.2 ⟨h2,by simp[h3]⟩,rfl⟩
theorem fP.mono{ne:Bool}{L M:List Ob}(hx:L<+:M){t:Int}{l:List Fi}(h:fP ne L t l):fP ne M t l:=by
 have hk:=h.1;exact⟨by rw[dE hx (by omega)];exact hk,by rw[ext_get hx (by omega)];exact h.2.mono hx⟩
theorem oY.mono{L M:List Ob}(hx:L<+:M){k:Int}(h:oY L k):oY M k:=by
 have hk:=h.1;exact⟨by rw[dE hx (by omega)];exact hk,by rw[ext_get hx (by omega)];exact h.2⟩
def isDir(d:List UInt8)(e:aB):Bool:=decide (e.name=d)&&decide (e.mode=2)
def jB(L:List Ob):Int→List (List UInt8)→Int×Int
 |t,[]=>(t,0)
 |t,d::ds=>if kindOf L t≠2 then(0,9)else match(ai L t).entries.find? (isDir d)with
  |some e=>jB L e.id ds
  |none=>(0,9)
def dd(L:List Ob)(t:Int)(dir:List UInt8):Int×Int:=if(ct dir).2≠0 then(0,(ct dir).2)else jB L t (ct dir).1
theorem tL:∀{l:List (List UInt8)},eW l=0→∀d∈l,bL d=0
 |x::r,h,d,hd=>by
  unfold eW at h;split at h
  ·rcases List.mem_cons.1 hd with rfl|hd
   ·assumption
   ·exact tL h d hd
  ·exact absurd h ‹_›
end Go.Nest
end
