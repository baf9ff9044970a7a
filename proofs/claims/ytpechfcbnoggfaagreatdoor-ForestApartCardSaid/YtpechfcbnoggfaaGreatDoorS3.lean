/- part -/
import Derived.Test.YtpechfcbnoggfaaGreatDoorN1
import Derived.Test.YtpechfcbnoggfaaGreatDoorZ1
import Derived.Test.YtpechfcbnoggfaaGreatDoorG10
set_option linter.unusedVariables false
set_option linter.unusedSimpArgs false
section
namespace Go.Nest
open Go Go.AM Go.Proofs
open Go.Proofs.YtpechfcbnoggfaaGreatDoor (tab tabOk)
set_option maxRecDepth 4000
theorem D5{dr:Bool}(l:List UInt8):bU dr Tryz.prog 352 [.c (.str l),.c (.int .u8 47)] [] (Rt (.c (.int .i64 (l.count 47))) []):=by
 refine yP (e:=Extern.BytealgCount.count) Tryz.func352 (by decide) rfl rfl rfl rfl (fun F H m d w h=>?_);match d,h with
 |[f,g],⟨a,b,_⟩=>
  cases a with
  |str _ _=>
   cases b with
   |int _=>exact⟨_,Lib.run_countString ⟨l.toArray⟩ 47 w,fun F H m=>.int .nl⟩
theorem F4{dr:Bool}(l:List UInt8):bU dr Tryz.prog 310 [.c (.str l),.c (.int .u8 47)] [] (Rt (.c (.int .i64 (Lib.indexByte l 47))) []):=by
 refine yP (e:=Extern.BytealgIndexByte.indexByte) Tryz.func310 (by decide) rfl rfl rfl rfl (fun F H m d w h=>?_);match d,h with
 |[f,g],⟨a,b,_⟩=>
  cases a with
  |str _ _=>
   cases b with
   |int _=>exact⟨_,Lib.run_indexByteString ⟨l.toArray⟩ 47 w,fun F H m=>.int .nl⟩
theorem J1{dr:Bool}(l:List UInt8):bU dr Tryz.prog 335 [.c (.str l),.c (.str [47])] [] (Rt (.c (.int .i64 (l.count 47))) []):=by
 refine an (n:=34) (n0:=0) tabOk Tryz.call335 Tryz.func335 ?_;intro hb;skip;(conv=>whnf);refine⟨0,47,rfl,rfl,?_⟩;(conv=>whnf);refine cl [] [] (D5 l) ?_;(conv=>whnf);exact aK rfl
theorem J2{dr:Bool}(l:List UInt8):bU dr Tryz.prog 260 [.c (.str l),.c (.int .u8 47)] [] (Rt (.c (.int .i64 (Lib.indexByte l 47))) []):=by
 refine an (n:=8) (n0:=0) tabOk Tryz.call260 Tryz.func260 ?_;intro hb;(conv=>whnf);refine cl [] [] (F4 l) ?_;(conv=>whnf);exact aK rfl
theorem BY{dr:Bool}(l:List UInt8):bU dr Tryz.prog 185 [.c (.str l),.c (.str [47])] [] (Rt (.c (.int .i64 (Lib.indexByte l 47))) []):=by
 refine an (n:=143) (n0:=0) tabOk Tryz.call185 Tryz.func185 ?_;intro hb;repeat'((conv=>whnf);first|(refine dec (fun h=>?_) (fun h=>?_)<;>try contradiction)|refine aK ?_|fail)
 ·obtain rfl:l=[47]:=h.symm;rfl
 ·(conv=>whnf);refine⟨0,47,rfl,rfl,?_⟩;(conv=>whnf);refine cl [] [] (J2 l) ?_;(conv=>whnf);exact aK rfl
theorem J3{dr:Bool}(l:List UInt8):bU dr Tryz.prog 111 [.c (.str l),.c (.str [47])] [] (Rt (.c (.int .i64 (Lib.indexByte l 47))) []):=by
 refine an (n:=8) (n0:=0) tabOk Tryz.call111 Tryz.func111 ?_;intro hb;(conv=>whnf);refine cl [] [] (BY l) ?_;(conv=>whnf);exact aK rfl
structure GS(l:List UInt8)(a:List (List UInt8))(s:List UInt8)(i:Nat):Prop where
 len:a.length=l.count 47+1
 cnt:i+s.count 47=l.count 47
 aD:aD l=a.take i++aD s
 sl:s.length≤l.length
theorem D4(l:List UInt8):l.count 47≤l.length:=List.count_le_length
set_option maxHeartbeats 1000000 in
theorem FG{dr:Bool}(l:List UInt8)(hl:l.length≤4000000):bU dr Tryz.prog 301 [.c (.str l),.c (.str [47]),.c (.int .i64 0),.c (.int .i64 (-1))] [] (Rt (.c (.rw 0)) [.row 1 (List UInt8) encS (aD l)]):=by
 refine lQ (n:=66) (n0:=0) tabOk Tryz.call301 Tryz.func301 ?_;intro hb;have r:=D4 l;refine XM.seq ?_;skip;refine XM.seq ?_;skip;refine XM.seq ?_;skip;refine XM.seq ?_;skip;(conv=>whnf);refine cl [] [] (J1 l) ?_;repeat'((conv=>whnf);refine I6 ?_)
 refine XM.seq ?_;repeat'((conv=>whnf);refine I6 ?_)
 (conv=>whnf);rw[show min ((l.count 47:Int)+1) ((l.length:Int)+1)=((l.count 47+1:Nat):Int)by omega];refine XM.seq ?_;(conv=>whnf);refine⟨l.count 47+1,[],⟨rfl,rfl⟩,rfl,by simp only[];omega,?_⟩;skip;refine XM.seq ?_;repeat'((conv=>whnf);refine I6 ?_)
 refine XM.seq ?_;skip;refine XM.join (ι:=List (List UInt8)×List UInt8) (fun|(a,s)=>⟨[(0,.c (.str s)),(9,.c (.rw 0)),(10,.c (.int .i64 (l.count 47:Nat)))],[.row 1 (List UInt8) encS a]⟩) (fun x=>GS l x.1 x.2 (l.count 47)) ?_ (fun x d=>?_)
 ·(conv=>whnf)
  refine lp (Nat×List (List UInt8)×List UInt8) (fun|(i,a,s)=>⟨[(0,.c (.str s)),(1,.c (.str [47])),(2,.c (.int .i64 0)),(3,.c (.int .i64 (((l.count 47+1:Nat):Int)-1))),(9,.c (.rw 0)),(10,.c (.int .i64 i))],[.row 1 (List UInt8) encS a]⟩)
   (fun x=>GS l x.2.1 x.2.2 x.1∧True) (fun x=>l.count 47-x.1) (0,List.replicate (l.count 47+1) [],l) [] [.same 0] ?_ ?_ (fun x d=>?_)
  ·exact⟨⟨by simp,by simp,by simp,Nat.le_refl _⟩,trivial⟩
  ·repeat' first|exact trivial|exact rfl|refine And.intro ?_ ?_
  obtain⟨i,a,s⟩:=x;obtain⟨b,_⟩:=d;dsimp only at b;have e:=b.len;have h:=b.cnt;have q:=b.sl;(conv=>whnf);refine dec (fun j=>?_) (fun j=>?_)
  ·obtain⟨m,o,t,p,u⟩:=u0 (l:=s) (by omega);have g:=J3 (dr:=dr) s;rw[o]at g;(conv=>whnf);refine cl [] [] (g) ?_;repeat'((conv=>whnf);refine I6 ?_)
   (conv=>whnf);refine⟨0,m,rfl,by omega,by omega,?_⟩;(conv=>whnf);refine⟨i,⟨rfl,by omega⟩,?_⟩;(conv=>whnf);refine⟨_,(s.take m).drop 0,List.getElem?_eq_getElem (by omega),⟨Nat.le_refl _,rfl⟩,?_⟩;skip;refine⟨i64 (by simp;omega) (by simp;omega),?_⟩;(conv=>whnf);refine⟨m+1,s.length,rfl,rfl,by omega,?_⟩;repeat'((conv=>whnf);refine I6 ?_)
   refine ag (i+1,a.set i ((s.take m).drop 0),(s.take s.length).drop (m+1)) [] [.same 0] ⟨⟨?_,?_,?_,?_⟩,trivial⟩ (by simp only[];omega) ?_
   ·dsimp only;rw[List.length_set];exact e
   ·dsimp only;rw[List.take_length];omega
   ·dsimp only;rw[List.take_length,b.aD,p,List.drop_zero,List.take_succ_eq_append_getElem (by rw[List.length_set];omega),List.getElem_set_self,List.take_set_of_le (Nat.le_refl _)];simp
   ·dsimp only;rw[List.take_length,List.length_drop];omega
   ·repeat' first|exact trivial|exact rfl|refine And.intro ?_ ?_
  ·obtain rfl:i=l.count 47:=by omega
   (conv=>whnf);refine⟨(a,s),b,[],[.same 0],?_⟩;repeat' first|exact trivial|exact rfl|refine And.intro ?_ ?_
 obtain⟨a,s⟩:=x;dsimp only at d;have e:=d.len;have h:=d.cnt;have f:=d.aD;rw[nv (l:=s) (by omega)]at f;refine XM.seq ?_;(conv=>whnf);refine⟨l.count 47,⟨rfl,by omega⟩,?_⟩;(conv=>whnf);refine⟨_,s,List.getElem?_eq_getElem (by omega),⟨Nat.le_refl _,rfl⟩,?_⟩;skip;refine XM.of ?_;(conv=>whnf);refine⟨i64 (by omega) (by omega),?_⟩;(conv=>whnf);refine⟨0,l.count 47+1,rfl,by omega,by rw[List.length_set];omega,?_⟩;(conv=>whnf)
 have k:(((a.set (l.count 47) s).drop 0).take (l.count 47+1-0))=aD l:=by
  rw[f,List.drop_zero,Nat.sub_zero,List.take_succ_eq_append_getElem (by rw[List.length_set];omega),List.getElem_set_self,List.take_set_of_le (Nat.le_refl _)]
 refine rt [] [.cut 1 0 0 (l.count 47+1-0)] ?_ rfl ⟨rfl,rfl⟩;repeat' first|exact trivial|exact rfl|refine And.intro ?_ ?_
 ·rw[List.length_set];omega
 ·rw[k]
end Go.Nest
end
section
namespace Go.Nest
open Go Go.AM Go.Proofs
open Go.Proofs.YtpechfcbnoggfaaGreatDoor (tab tabOk)
set_option maxRecDepth 4000
theorem wK{dr:Bool}(l:List UInt8)(hl:l.length≤4000000):bU dr Tryz.prog 252 [.c (.str l),.c (.str [47])] [] (Rt (.c (.rw 0)) [.row 1 (List UInt8) encS (aD l)]):=by
 refine an (n:=8) (n0:=0) tabOk Tryz.call252 Tryz.func252 ?_;intro hb;(conv=>whnf);refine cl [] [] (FG l hl) ?_;(conv=>whnf);exact rx [] [.same 0]
def fw:List (List UInt8)→Int
 |[]=>0
 |x::r=>if bO x=0 then fw r else bO x
def cj(l:List UInt8):List (List UInt8)×Int:=if fw (aD l)=0 then(if 8<(aD l).length then([],3)else(aD l,0))else([],fw (aD l))
theorem HO{x:List (List UInt8)}{i:Nat}(h:i<x.length)(hi:fw x=fw (x.drop i)):fw x=if bO x[i]=0 then fw (x.drop (i+1))else bO x[i]:=by
 rw[hi,List.drop_eq_getElem_cons h];rfl
theorem vX(l:List UInt8)(hl:l.length≤4000000):ai Tryz.prog 176 [.c (.str l)] [] (Rt (.aL [(false,[.rw 0]),(false,[.int .i64 (cj l).2])]) [.row 1 (List UInt8) encS (cj l).1]):=by
 refine lQ (n:=26) (n0:=0) tabOk Tryz.call176 Tryz.func176 ?_;intro hb;have j:(aD l).length≤l.length+1:=by rw[wF];have:=List.count_le_length (a:=47) (l:=l);omega
 refine XM.seq ?_;skip;refine XM.seq ?_;(conv=>whnf);refine cl [] [] (wK l hl) ?_;skip;refine XM.join (ι:=Unit) (fun _=>⟨[(4,.c (.rw 0))],[.row 1 (List UInt8) encS (aD l)]⟩) (fun _=>fw (aD l)=0) ?_ (fun _ e=>?_)
 ·(conv=>whnf);refine lp Nat (fun i=>⟨[(4,.c (.rw 0)),(10,.c (.rw 0)),(11,.c (.int .i64 (aD l).length)),(12,.c (.int .i64 i))],[.row 1 (List UInt8) encS (aD l)]⟩) (fun i=>i≤(aD l).length∧fw (aD l)=fw ((aD l).drop i)) (fun i=>(aD l).length-i) 0 [] [.same 0] ?_ ?_ (fun i f=>?_)
  ·simp
  ·repeat' first|exact trivial|exact rfl|refine And.intro ?_ ?_
  (conv=>whnf);refine dec (fun g=>?_) (fun g=>?_)
  ·have d:i<(aD l).length:=by omega
   have b:=HO d f.2;repeat'((conv=>whnf);first|refine⟨_,⟨rfl,by omega⟩,?_⟩|refine⟨_,List.getElem?_eq_getElem (by omega),?_⟩|fail)
   (conv=>whnf);refine cl [] [] (se (aD l)[i]) ?_;repeat'((conv=>whnf);first|(refine ay (fun h=>?_) (fun h=>?_)<;>try contradiction)|refine⟨i64 (by omega) (by omega),?_⟩|fail)
   ·rw[if_neg h]at b;have:cj l=([],bO (aD l)[i]):=by unfold cj;rw[if_neg (by rw[b];exact h),b]
    rw[this];(conv=>whnf);exact rx [] [.new]
   ·rw[if_pos h]at b;refine ag (i+1) [] [.same 0] ⟨d,b⟩ (by simp only[];omega) ?_;repeat' first|exact trivial|exact rfl|refine And.intro ?_ ?_
  ·have:=f.2;rw[List.drop_of_length_le (by omega)]at this;(conv=>whnf);refine⟨(),this,[],[.same 0],?_⟩;repeat' first|exact trivial|exact rfl|refine And.intro ?_ ?_
 refine XM.of ?_;repeat'((conv=>whnf);first|(refine dec (fun h=>?_) (fun h=>?_)<;>try contradiction)|fail)
 ·have:cj l=([],3):=by unfold cj;rw[if_pos e,if_pos (by omega)]
  rw[this];(conv=>whnf);exact rx [] [.new]
 ·have:cj l=(aD l,0):=by unfold cj;rw[if_pos e,if_neg (by omega)]
  rw[this];(conv=>whnf);exact rx [] [.same 0]
theorem Ak:∀{x y:List (List UInt8)} {i:Nat} (d:i<x.length) (hy:i<y.length),x.take i=y.take i→¬x[i]=y[i]→di x y=Op.bytesLess x[i] y[i]
 |a::x,b::y,0,_,_,_,h=>by simp at h;simp[di,h]
 |a::x,b::y,i+1,d,hy,c,h=>by
  simp at c h;obtain⟨rfl,c⟩:=c;have:=Ak (x:=x) (y:=y) (i:=i) (by simpa using d) (by simpa using hy) c h;simp[di,this]
theorem Al:∀{x y:List (List UInt8)} {i:Nat},x.take i=y.take i→¬(i<x.length∧i<y.length)→i≤x.length→i≤y.length→di x y=decide (x.length<y.length)
 |[],[],_,_,_,_,_=>rfl
 |[],_::_,_,_,_,_,_=>by simp[di]
 |_::_,[],_,_,_,_,_=>by simp[di]
 |a::x,b::y,0,_,h,_,_=>by simp at h
 |a::x,b::y,i+1,c,h,d,e=>by
  simp at c h d e;obtain⟨rfl,c⟩:=c;have:=Al (x:=x) (y:=y) (i:=i) c (by omega) d e;simp[di,this]
set_option maxHeartbeats 1000000 in
theorem pK{dr:Bool}(a b:List UInt8)(m:a.length≤4000000)(g:b.length≤4000000):bU dr Tryz.prog 175 [.c (.str a),.c (.str b)] [] (Rt (.c (.bool (aR a b))) []):=by
 refine an (n:=47) (n0:=0) tabOk Tryz.call175 Tryz.func175 ?_;intro hb;have o:(aD a).length≤a.length+1:=by rw[wF];have:=List.count_le_length (a:=47) (l:=a);omega
 (conv=>whnf);refine cl [] [] (wK a m) ?_;(conv=>whnf);refine cl [] [] (wK b g) ?_;(conv=>whnf);unfold aR;refine lp Nat (fun i=>⟨[(5,.c (.rw 0)),(6,.c (.rw 1)),(7,.c (.int .i64 i))],[.row 1 (List UInt8) encS (aD a),.row 1 (List UInt8) encS (aD b)]⟩) (fun i=>(i≤(aD a).length∧i≤(aD b).length)∧(aD a).take i=(aD b).take i) (fun i=>(aD a).length-i) 0 [] [.same 0,.same 1] ?_ ?_ (fun i f=>?_)
 ·simp
 ·repeat' first|exact trivial|exact rfl|refine And.intro ?_ ?_
 have fin:¬(i<(aD a).length∧i<(aD b).length)→decide (((aD a).length:Int)<(aD b).length)=di (aD a) (aD b):=fun h=>by
  rw[Al f.2 h f.1.1 f.1.2,decide_eq_decide];omega
 (conv=>whnf);refine dec (fun j=>?_) (fun j=>?_)
 ·(conv=>whnf);refine dec (fun k=>?_) (fun k=>?_)
  ·have e:i<(aD a).length:=by omega
   have d:i<(aD b).length:=by omega
   (conv=>whnf);refine⟨false,.grow,(.l [0,1,2,3,4,5,6,7,8]),by kernel_rfl,.inl ?_⟩;repeat'((conv=>whnf);first|(refine ay (fun h=>?_) (fun h=>?_)<;>try contradiction)|refine⟨i64 (by omega) (by omega),?_⟩|refine⟨_,⟨rfl,by omega⟩,?_⟩|refine⟨_,List.getElem?_eq_getElem (by omega),?_⟩|fail)
   ·(conv=>whnf);refine⟨false,.grow,(.l [0,1,2,3,4,5,6,7,8,9]),by kernel_rfl,.inl ?_⟩;repeat'((conv=>whnf);first|refine⟨_,⟨rfl,by omega⟩,?_⟩|refine⟨_,List.getElem?_eq_getElem (by omega),?_⟩|refine aG ?_|fail)
    exact(Ak e d f.2 h).symm
   ·refine ag (i+1) [] [.same 0,.same 1] ⟨⟨e,d⟩,oU e d f.2 h⟩ (by simp only[];omega) ?_;repeat' first|exact trivial|exact rfl|refine And.intro ?_ ?_
  ·repeat'((conv=>whnf);first|refine aG ?_|fail)
   exact fin (by omega)
 ·repeat'((conv=>whnf);first|refine aG ?_|fail)
  exact fin (by omega)
theorem FQ{dr:Bool}(p q:List UInt8):bU dr Tryz.prog 336 [.c (.str p),.c (.str q)] [] (Rt (.c (.bool (q.isPrefixOf p))) []):=by
 refine an (n:=18) (n0:=0) tabOk Tryz.call336 Tryz.func336 ?_;intro hb
 have a:q.isPrefixOf p=true↔p.take q.length=q:=by
  rw[List.isPrefixOf_iff_prefix,List.prefix_iff_eq_take];exact eq_comm
 (conv=>whnf);refine dec (fun h=>?_) (fun h=>?_)
 ·(conv=>whnf);refine⟨0,q.length,rfl,rfl,by omega,?_⟩;(conv=>whnf);refine aG ?_;rw[List.drop_zero,Bool.eq_iff_iff,a,decide_eq_true_iff]
 ·(conv=>whnf);refine aG ?_;symm;rw[Bool.eq_false_iff,Ne,a];intro e;have:=congrArg List.length e;rw[List.length_take]at this;omega
def fM(p d:List UInt8):List UInt8×Bool:=match under p d with
 |some r=>(r,true)
 |none=>(p,false)
theorem D8{dr:Bool}(p q:List UInt8):bU dr Tryz.prog 302 [.c (.str p),.c (.str q)] [] (Rt (.aL [(false,[.str (if q.isPrefixOf p=true then p.drop q.length else p)]),(false,[.bool (q.isPrefixOf p)])]) []):=by
 refine an (n:=15) (n0:=0) tabOk Tryz.call302 Tryz.func302 ?_;intro hb;(conv=>whnf);refine cl [] [] (FQ p q) ?_;repeat'((conv=>whnf);first|refine dV (fun h=>?_) (fun h=>?_)|fail)
 ·rw[if_neg (by simp[h]),h];(conv=>whnf);exact rx [] []
 ·rw[if_pos h,h];rw[List.isPrefixOf_iff_prefix]at h;have:=h.length_le;(conv=>whnf);refine⟨q.length,p.length,rfl,rfl,by omega,?_⟩;(conv=>whnf);rw[List.take_length];exact rx [] []
theorem Ju{dr:Bool}(p q:List UInt8):bU dr Tryz.prog 253 [.c (.str p),.c (.str q)] [] (Rt (.aL [(false,[.str (if q.isPrefixOf p=true then p.drop q.length else p)]),(false,[.bool (q.isPrefixOf p)])]) []):=by
 refine an (n:=11) (n0:=0) tabOk Tryz.call253 Tryz.func253 ?_;intro hb;(conv=>whnf);refine cl [] [] (D8 p q) ?_;(conv=>whnf);exact rx [] []
theorem qv{dr:Bool}(p d:List UInt8)(hd:d.length≤4000000):bU dr Tryz.prog 177 [.c (.str p),.c (.str d)] [] (Rt (.aL [(false,[.str (fM p d).1]),(false,[.bool (fM p d).2])]) []):=by
 have a:fM p d=(if(d++[47]).isPrefixOf p=true then p.drop (d++[47]).length else p,(d++[47]).isPrefixOf p):=by
  unfold fM under;cases h:(d++[47]).isPrefixOf p<;>simp
 rw[a];refine an (n:=12) (n0:=0) tabOk Tryz.call177 Tryz.func177 ?_;intro hb;(conv=>whnf);refine⟨by simp;omega,?_⟩;(conv=>whnf);refine cl [] [] (Ju p (d++[47])) ?_;(conv=>whnf);exact rx [] []
end Go.Nest
end
section
namespace Go.Nest
open Go Go.AM
def du(s:List UInt8):List UInt8×List UInt8×Bool:=if 0≤Lib.indexByte s 47 then(s.take (Lib.indexByte s 47).toNat,s.drop ((Lib.indexByte s 47).toNat+1),true)else(s,[],false)
theorem D9{s:List UInt8}(h:s.count 47=0):du s=(s,[],false):=by
 unfold du;rw[uZ h,if_neg (by decide)]
theorem yx:∀{a b:List UInt8},a.count 47=0→du (a++47::b)=(a,b,true):=by
 intro a b h
 have e:Lib.indexByte (a++47::b) 47=a.length:=by
  induction a with
  |nil=>simp[Lib.indexByte]
  |cons c a ih=>
   rw[List.count_cons]at h
   have d:(c==47)=false:=by
    cases d:c==47 with
    |false=>rfl
    |true=>rw[d]at h;simp at h
   rw[List.cons_append];unfold Lib.indexByte;rw[d,ih (by omega)];have:((a.length:Int)== -1)=false:=by simp
   simp[this]
 unfold du;rw[e,if_pos (by omega)];simp
theorem uj{s:List UInt8}(h:¬s.count 47=0):∃a b,du s=(a,b,true)∧s=a++47::b∧a.count 47=0:=by
 have g:∀{s:List UInt8},¬s.count 47=0→∃a b,s=a++47::b∧a.count 47=0:=by
  intro s;induction s with
  |nil=>intro h;simp at h
  |cons c s ih=>
   intro h;by_cases e:c=47
   ·exact⟨[],s,by rw[e];rfl,rfl⟩
   ·have i:(c==47)=false:=by simpa using e
    rw[List.count_cons,i]at h;obtain⟨a,b,d,f⟩:=ih (by simpa using h);exact⟨c::a,b,by rw[d];rfl,by rw[List.count_cons,i,f];rfl⟩
 obtain⟨a,b,d,f⟩:=g h;exact⟨a,b,by rw[d];exact yx f,d,f⟩
theorem jQ{n:List UInt8}(h:bO n=0):n.count 47=0:=by
 rw[List.count_eq_zero];intro a;unfold bO at h;rw[if_pos]at h
 ·cases h
 ·refine .inr (.inr (.inr ?_));rw[List.any_eq_true];exact⟨47,a,by decide⟩
def dJ(a:Int→List (List UInt8)→List Fi→Int×List Fi)(ins:List (List UInt8)):List aF→List Fi→Int×List Fi
 |[],out=>(0,out)
 |e::r,out=>if e.mode=2 then(if(a e.id (ins++[e.name]) out).1≠0 then a e.id (ins++[e.name]) out else dJ a ins r (a e.id (ins++[e.name]) out).2)
  else if out.length=60 then(5,out)else dJ a ins r (out++[⟨ck (ins++[e.name]),e.mode,e.id,e.ar⟩])
def cz(L:List Ob):Nat→Int→List (List UInt8)→List Fi→Int×List Fi
 |0,_,_,out=>(0,out)
 |n+1,t,a,out=>if kindOf L t≠2 then(9,out)else if 8≤a.length∧0<(ab L t).entries.length then(3,out)else dJ (cz L n) a (ab L t).entries out
def cK(L:List Ob)(t:Int):List Fi×Int:=if(cz L 9 t [] []).1=0 then((cz L 9 t [] []).2,0)else([],(cz L 9 t [] []).1)
def bm(name:List UInt8):List Fi→List Fi×List Fi
 |[]=>([],[])
 |f::r=>match under f.path name with
  |none=>([],f::r)
  |some p=>(⟨p,f.mode,f.id,f.ar⟩::(bm name r).1,(bm name r).2)
def ew(es:List aF):Ob:=⟨2,[],es,0,[],[]⟩
def aN:Nat→List Ob→List aF→List Fi→Int×Int×List Ob
 |0,L,_,_=>(0,0,L)
 |n+1,L,a,[]=>ao L (ew a)
 |n+1,L,a,f::r=>if f.path.count 47=0 then aN n L (a++[⟨f.path,f.mode,f.id,f.ar⟩]) r
  else if(aN n L [] (bm (du f.path).1 (f::r)).1).2.1≠0 then(0,(aN n L [] (bm (du f.path).1 (f::r)).1).2.1,(aN n L [] (bm (du f.path).1 (f::r)).1).2.2)
   else aN n (aN n L [] (bm (du f.path).1 (f::r)).1).2.2 (a++[⟨(du f.path).1,2,(aN n L [] (bm (du f.path).1 (f::r)).1).1,0⟩]) (bm (du f.path).1 (f::r)).2
def mu(l:List Fi):Nat:=(l.map fun f=>f.path.length+1).sum
theorem kJ{f:Fi}{l:List Fi}:mu (f::l)=f.path.length+1+mu l:=by unfold mu;rw[List.map_cons,List.sum_cons]
theorem AL{l m:List Fi}:mu (l++m)=mu l+mu m:=by unfold mu;rw[List.map_append,List.sum_append]
def eg(p:Option Fi)(f:Fi):Int:=match p with
 |none=>0
 |some g=>if aR g.path f.path=false then 8 else if(under f.path g.path).isSome=true then 10 else 0
def fQ:Option Fi→List Fi→Int
 |_,[]=>0
 |p,f::r=>if(cj f.path).2≠0 then(cj f.path).2 else if f.mode≠1∧f.mode≠3 then 6 else if eg p f≠0 then eg p f else fQ (some f) r
def cq(l:List Fi):Int:=if 60<l.length then 5 else fQ none l
def bC(L:List Ob)(l:List Fi):Int×Int×List Ob:=if cq l≠0 then(0,cq l,L)else aN (mu l+1) L [] l
def pre(n:List UInt8)(f:Fi):Fi:=⟨n++47::f.path,f.mode,f.id,f.ar⟩
inductive cS(ne:Bool)(L:List Ob):List aF→List Fi→Prop
 |nil:cS ne L [] []
 |file {e:aF} {es:List aF} {l:List Fi} (hm:e.mode≠2) (h:cS ne L es l):cS ne L (e::es) (⟨e.name,e.mode,e.id,e.ar⟩::l)
 |dir {e:aF} {es:List aF} {m l:List Fi} (hm:e.mode=2) (hk:kindOf L e.id=2) (hne:ne=true→m≠[]) (h1:cS ne L (ab L e.id).entries m) (h:cS ne L es l):cS ne L (e::es) (m.map (pre e.name)++l)
def fk(ne:Bool)(L:List Ob)(t:Int)(l:List Fi):Prop:=kindOf L t=2∧cS ne L (ab L t).entries l
theorem dy{L M:List Ob}(h:L<+:M){k:Int}(hk:¬kindOf L k=0):kindOf M k=kindOf L k:=by
 obtain⟨t,rfl⟩:=h;exact ni hk
theorem ext_get{L M:List Ob}(h:L<+:M){k:Int}(hk:¬kindOf L k=0):ab M k=ab L k:=by
 obtain⟨t,rfl⟩:=h;have:=bJ hk;exact n5 (by omega)
theorem cS.mono{ne:Bool}{L M:List Ob}(d:L<+:M){es:List aF}{l:List Fi}(h:cS ne L es l):cS ne M es l:=by
 induction h with
 |nil=>exact .nil
 |file a _ ih=>exact .file a ih
 | @dir e es m l a f b g h c ih=>
  refine .dir a (by rw[dy d (by omega)];exact f) b ?_ ih;rw[ext_get d (by omega)];exact c
theorem ae.tree{L:List Ob}(m:ae L){t:Int}(hk:kindOf L t=2):ab L t=ew (ab L t).entries∧eF none (ab L t).entries=0∧(ab L t).entries.length≤60∧(∀e∈(ab L t).entries,kindOf L e.id=e.mode):=by
 have h:=m.get (id:=t) (by omega);have i:=cH (l:=L) (id:=t);rw[hk]at i;have k:=h.nb (by omega);have j:=h.nc (by omega);refine⟨?_,h.ents,h.entries,?_⟩
 ·generalize ab L t=o at*;obtain⟨a,b,c,d,e,f⟩:=o;simp only at i k j;rw[i,k,j.1,j.2.1,j.2.2];rfl
 ·have g:=bJ (l:=L) (id:=t) (by omega);have:=(m.obj (ab L t) (by rw[jg g.1 g.2];exact List.getElem_mem _)).2;unfold dH at this;rw[Bool.and_eq_true,List.all_eq_true]at this;intro e n;simpa using this.1 e n
def fj:Option (List UInt8)→List aF→Prop
 |_,[]=>True
 |p,e::r=>(∀q,p=some q→Op.bytesLess q e.name=true)∧fj (some e.name) r
theorem yJ:∀{es:List aF} {p:Option (List UInt8)},eF p es=0→fj p es
 |[],_,_=>trivial
 |e::r,p,h=>by
  unfold eF at h;split at h
  ·rename_i a;refine⟨fun q b=>?_,yJ h⟩;subst b;unfold fS at a;split at a
   ·exact absurd a ‹_›
   split at a
   ·cases a
   split at a
   ·cases a
   split at a
   ·cases a
   simp only at a;split at a
   ·assumption
   ·cases a
  ·exact absurd h ‹_›
theorem BD:∀{es:List aF} {q:List UInt8},fj (some q) es→∀e∈es,Op.bytesLess q e.name=true
 |e::r,q,⟨a,b⟩,x,hx=>by
  rcases List.mem_cons.1 hx with rfl|hx
  ·exact a q rfl
  ·exact lU (a q rfl) (BD b x hx)
theorem I4:∀{es:List aF} {p:Option (List UInt8)},fj p es→fj none es
 |[],_,_=>trivial
 |_::_,_,⟨_,h⟩=>⟨fun _ a=>(by cases a),h⟩
theorem I3:∀{es:List aF} {q r:List UInt8},Op.bytesLess q r=true→fj (some r) es→fj (some q) es
 |[],_,_,_,_=>trivial
 |_::_,_,_,h,⟨a,b⟩=>⟨fun s c=>(by cases c;exact lU h (a _ rfl)),b⟩
structure iC(L:List Ob)(e:aF):Prop where
 name:bO e.name=0
 m1:1≤e.mode
 m3:e.mode≤3
 id:0≤e.id
 ar:0≤e.ar∧e.ar<4
 link:e.mode=3∨e.ar=0
 kind:kindOf L e.id=e.mode
theorem iC.mono{L M:List Ob}(a:L<+:M){e:aF}(h:iC L e):iC M e:=
 ⟨h.name,h.m1,h.m3,h.id,h.ar,h.link,by have:=h.kind;have:=h.m1;rw[dy a (by omega)];exact h.kind⟩
theorem gg{L:List Ob}(j:ae L){t:Int}(hk:kindOf L t=2):fj none (ab L t).entries∧∀e∈(ab L t).entries,iC L e:=by
 obtain⟨k,b,l,i⟩:=j.tree hk;refine⟨yJ b,fun e c=>?_⟩;obtain⟨d,a,f,g,h⟩:=mY b e c;exact⟨d,a.1,a.2,f,g,h,i e c⟩
theorem yK{L:List Ob}:∀{es:List aF} {p:Option (List UInt8)},fj p es→(∀e∈es,iC L e)→eF p es=0
 |[],_,_,_=>rfl
 |e::r,p,⟨d,f⟩,h=>by
  have a:=h e (by simp)
  have c:fS p e=0:=by
   unfold fS;have b:=a.name;have i:=a.m1;have j:=a.m3;have k:=a.id;have l:=a.ar;have m:=a.link;rw[if_neg (by simpa using b),if_neg (by omega),if_neg (by omega)];cases p with
   |none=>simp;try omega
   |some q=>simp[d q rfl];try omega
  unfold eF;rw[if_pos c];exact yK f fun x g=>h x (by simp[g])
theorem Bo{L:List Ob}(f:ae L){es:List aF}(h1:fj none es)(h2:∀e∈es,iC L e)(d:es.length≤60):(ao L (ew es)).2.1=0∨(ao L (ew es)).2.1=15:=by
 have b:bQ (ew es)=0:=by
  unfold bQ ew kP;simp[yK h1 h2];omega
 have c:dH L (ew es)=true:=by
  unfold dH ew;simp;intro e a;exact(h2 e a).kind
 unfold ao;rw[if_neg (by simpa using b),if_neg (by simp[c])];split
 ·exact .inl rfl
 split
 ·exact .inr rfl
 ·exact .inl rfl
theorem dS{L:List Ob}(o:Ob):L<+:(ao L o).2.2:=by
 unfold ao;split
 ·exact List.prefix_refl _
 split
 ·exact List.prefix_refl _
 split
 ·exact List.prefix_refl _
 split
 ·exact List.prefix_refl _
 ·exact List.prefix_append _ _
theorem gG{L:List Ob}{o:Ob}(h:(ao L o).2.1=0):0≤(ao L o).1∧ab (ao L o).2.2 (ao L o).1=o:=by
 unfold ao at h⊢;split at h
 ·exact absurd h ‹_›
 split at h
 ·cases h
 split at h
 ·rename_i b c a;rw[if_neg b,if_neg c,if_pos a];refine⟨a,?_⟩;show ab L (bh (fun x=>decide (x=o)) L)=o;unfold bh at a⊢;cases e:L.findIdx? (fun x=>decide (x=o))with
  |none=>rw[e]at a;simp at a
  |some i=>
   rw[List.findIdx?_eq_some_iff_getElem]at e;obtain⟨d,f,_⟩:=e;rw[jg (by simp) (by simpa using d)];simpa using f
 split at h
 ·cases h
 ·rename_i b c a d;rw[if_neg b,if_neg c,if_neg a,if_neg d];exact⟨by simp,ru⟩
theorem Bn{L:List Ob}(c:ae L){t:Int}(hk:kindOf L t=2):ao L (ab L t)=(t,0,L):=by
 obtain⟨b,a⟩:=bJ (l:=L) (id:=t) (by omega);rw[jg b a,Be c a];simp;omega
theorem pG(name:List UInt8):∀l:List Fi,l=(bm name l).1.map (pre name)++(bm name l).2
 |[]=>rfl
 |f::r=>by
  have ih:=pG name r;unfold bm;cases h:under f.path name with
  |none=>rfl
  |some p=>
   simp only[List.map_cons,List.cons_append];rw[←ih];congr 1
   obtain⟨a,b,c,d⟩:=f;have:=jr h;simp only at this;rw[pre,this]
theorem rM{name:List UInt8}{f:Fi}{r:List Fi}{b:List UInt8}(h:f.path=name++47::b):(bm name (f::r)).1≠[]:=by
 unfold bm;rw[h,mJ];simp
theorem vJ(n:List UInt8):∀m:List Fi,mu m+(n.length+1)*m.length=mu (m.map (pre n))
 |[]=>rfl
 |f::m=>by
  have:=vJ n m;rw[List.map_cons,kJ,kJ,List.length_cons,Nat.mul_succ,←this];simp[pre];omega
theorem rL{name:List UInt8}{f:Fi}{r:List Fi}{b:List UInt8}(h:f.path=name++47::b):mu (bm name (f::r)).1<mu (f::r)∧mu (bm name (f::r)).2<mu (f::r):=by
 have a:=rM (r:=r) h;have c:=pG name (f::r);have d:=vJ name (bm name (f::r)).1;have e:mu (f::r)=mu ((bm name (f::r)).1.map (pre name))+mu (bm name (f::r)).2:=by rw[←AL,←c]
 have g:0<(bm name (f::r)).1.length:=List.length_pos_iff.2 a;have i:(bm name (f::r)).1.length≤(name.length+1)*(bm name (f::r)).1.length:=Nat.le_mul_of_pos_left _ (by omega);omega
theorem zT{name:List UInt8}:∀{m l:List Fi},(∀f∈l,under f.path name=none)→bm name (m.map (pre name)++l)=(m,l)
 |[],[],_=>rfl
 |[],f::l,h=>by
  show bm name (f::l)=_;unfold bm;rw[h f (by simp)]
 |f::m,l,h=>by
  show bm name (pre name f::(m.map (pre name)++l))=_;unfold bm;rw[show(pre name f).path=name++47::f.path from rfl,mJ,zT h];rfl
theorem lJ{n:List UInt8}(h:n.count 47=0)(p:List UInt8):aD (n++47::p)=n::aD p:=by rw[qo,nv h];rfl
theorem cS.fst{ne:Bool}{L:List Ob}{es:List aF}{l:List Fi}(h:cS ne L es l):(∀e∈es,bO e.name=0)→∀f∈l,∃e∈es,∃r,aD f.path=e.name::r:=by
 induction h with
 |nil=>intro _ f hf;cases hf
 | @file e es l j _ ih=>
  intro a f hf;rcases List.mem_cons.1 hf with rfl|hf
  ·exact⟨e,by simp,[],nv (jQ (a e (by simp)))⟩
  ·obtain⟨b,c,d⟩:=ih (fun x i=>a x (by simp[i])) f hf;exact⟨b,by simp[c],d⟩
 | @dir e es m l j q k o h n ih=>
  intro a f hf;rcases List.mem_append.1 hf with hf|hf
  ·obtain⟨g,p,rfl⟩:=List.mem_map.1 hf;exact⟨e,by simp,aD g.path,lJ (jQ (a e (by simp))) _⟩
  ·obtain⟨b,c,d⟩:=ih (fun x i=>a x (by simp[i])) f hf;exact⟨b,by simp[c],d⟩
theorem wR{p n:List UInt8}(hn:n.count 47=0){x:List UInt8}{r:List (List UInt8)}(h:aD p=x::r)(b:x≠n):under p n=none:=by
 cases a:under p n with
 |none=>rfl
 |some q=>
  have:=jr a;rw[this,lJ hn]at h;cases h;exact absurd rfl b
theorem tG{a b:List UInt8}(h:Op.bytesLess a b=true):b≠a:=fun e=>by rw[e,mR]at h;cases h
theorem cS.apart{ne:Bool}{L:List Ob}{e:aF}{es:List aF}{l:List Fi}{p:Option (List UInt8)}(h:cS ne L es l)(hn:∀x∈e::es,bO x.name=0)(hr:fj p (e::es)):∀f∈l,∃x r,aD f.path=x::r∧Op.bytesLess e.name x=true:=fun f d=>by
 obtain⟨a,b,r,c⟩:=h.fst (fun x g=>hn x (by simp[g])) f d;exact⟨a.name,r,c,BD hr.2 a b⟩
def Made(ne:Bool)(L0 L:List Ob)(b es:List aF)(p:Option (List UInt8))(r:Int×Int×List Ob):Prop:=
 ∃L',L<+:L'∧ae L'∧((r.2.1=15∧ne=false)∨∃a,r=ao L' (ew (b++a))∧fj p a∧(∀e∈a,iC L' e)∧a.length≤es.length∧(ne=true→a=es∧L'=L))
theorem cS.IP{ne:Bool}{L0:List Ob}(Y:ae L0){es:List aF}{l:List Fi}(h:cS ne L0 es l):∀(n:Nat) (L:List Ob) (g:List aF) (p:Option (List UInt8)),L0<+:L→ae L→fj p es→(∀e∈es,iC L0 e)→es.length≤60→mu l<n→Made ne L0 L g es p (aN n L g l):=by
 induction h with
 |nil=>
  intro n L g p k E y w j T;obtain⟨n,rfl⟩:∃m,n=m+1:=⟨n-1,by omega⟩;refine⟨L,List.prefix_refl _,E,.inr ⟨[],?_,trivial,fun e w=>(by cases w),Nat.le_refl _,fun _=>⟨rfl,rfl⟩⟩⟩;rw[List.append_nil];rfl
 | @file e es l hm h ih=>
  intro n L g p k E y w j T;obtain⟨n,rfl⟩:∃m,n=m+1:=⟨n-1,by omega⟩;rw[kJ]at T;have N:=w e (by simp);unfold aN;rw[if_pos (jQ N.name)];obtain⟨L',J,K,D⟩:=ih n L (g++[e]) (some e.name) k E y.2 (fun x k=>w x (by simp[k])) (by simp at j;omega) (by omega);refine⟨L',J,K,D.imp id ?_⟩;rintro⟨o,O,U,k3,k4,W⟩;refine⟨e::o,?_,⟨y.1,U⟩,fun x hx2=>?_,by simp;omega,fun h=>⟨by rw[(W h).1],(W h).2⟩⟩
  ·rw[show g++e::o=(g++[e])++o by simp];exact O
  ·rcases List.mem_cons.1 hx2 with rfl|hx2
   ·exact N.mono (k.trans J)
   ·exact k3 x hx2
 | @dir e es m l hm R am h1 h ap ih=>
  intro n L g p k E y w j T;have N:=w e (by simp);have hs:=jQ N.name;by_cases S:m=[]
  ·subst S;have t:ne=false:=by cases ne with|false=>rfl|true=>exact absurd rfl (am rfl)
   obtain ⟨L', J, K, D⟩ := ih n L g p k E (by
    cases p with
    |none=>exact I4 y.2
    |some q=>exact I3 (y.1 q rfl) y.2) (fun x k=>w x (by simp[k])) (by simp at j;omega) (by simpa using T)
   refine⟨L',J,K,D.imp id ?_⟩;rintro⟨o,O,U,k3,k4,W⟩;exact⟨o,O,U,k3,by simp;omega,fun h=>by rw[t]at h;cases h⟩
  obtain⟨n,rfl⟩:∃m,n=m+1:=⟨n-1,by omega⟩;obtain⟨v,m0,rfl⟩:∃v m0,m=v::m0:=by cases m with|nil=>exact absurd rfl S|cons a b=>exact⟨a,b,rfl⟩
  have Q:du (pre e.name v).path=(e.name,v.path,true):=yx hs
  have ac:bm e.name (pre e.name v::(m0.map (pre e.name)++l))=(v::m0,l):=zT (m:=v::m0) fun f hf=>by
   obtain⟨x,r,Z,e2⟩:=h.apart (fun x k=>(w x k).name) y f hf;exact wR hs Z (tG e2)
  have P:¬(pre e.name v).path.count 47=0:=by
   show¬(e.name++47::v.path).count 47=0;rw[List.count_append,List.count_cons_self];omega
  have al:=vJ e.name (v::m0);rw[AL]at T;rw[List.length_cons]at al;have aL:0<(e.name.length+1)*(m0.length+1):=Nat.mul_pos (by omega) (by omega);rw[List.map_cons,List.cons_append];unfold aN;rw[if_neg P,Q,ac];dsimp only;obtain⟨q1,q2⟩:=gg Y R;obtain⟨z,J,K,D⟩:=ap n L [] none k E q1 q2 (Y.tree R).2.2.1 (by omega);have s:ne=false→∀{a:Int} {M:List Ob},Made ne L0 L g (e::es) p (a,15,M):=fun h a M=>⟨L,List.prefix_refl _,E,.inl ⟨rfl,h⟩⟩;rcases D with⟨D,g4⟩|⟨i,O,U,k3,k4,W⟩
  ·rw[if_pos (by rw[D];decide),D];exact s g4
  rw[List.nil_append]at O;rw[O];have H:i.length≤60:=by have:=(Y.tree R).2.2.1;omega
  have u:ne=true→ao z (ew i)=(e.id,0,L):=fun h=>by
   obtain⟨Z,e2⟩:=W h;rw[Z,e2];have ad:kindOf L e.id=2:=by rw[dy k (by omega)];exact R
   have hg:ab L e.id=ab L0 e.id:=ext_get k (by omega);have:=Bn E ad;rw[hg,(Y.tree R).1]at this;exact this
  rcases Bo K U k3 H with hz|hz
  ·rw[if_neg (by rw[hz];simp)];obtain⟨z1,z2⟩:=gG hz;have zx:L<+:(ao z (ew i)).2.2:=J.trans (dS _);have zk:kindOf (ao z (ew i)).2.2 (ao z (ew i)).1=2:=by rw[←cH,z2];rfl
   have I:iC (ao z (ew i)).2.2 ⟨e.name,2,(ao z (ew i)).1,0⟩:=⟨N.name,by simp,by simp,z1,by simp,.inr rfl,zk⟩;obtain⟨L',j1,j2,j3⟩:=ih n (ao z (ew i)).2.2 (g++[⟨e.name,2,(ao z (ew i)).1,0⟩]) (some e.name) (k.trans zx) (fK K _) y.2 (fun x k=>w x (by simp[k])) (by simp at j;omega) (by omega);refine⟨L',zx.trans j1,j2,j3.imp id ?_⟩;rintro⟨o,t1,t2,t3,t4,t5⟩;refine⟨⟨e.name,2,(ao z (ew i)).1,0⟩::o,?_,⟨y.1,t2⟩,fun x hx2=>?_,by simp;omega,fun h=>?_⟩
   ·rw[t1];simp
   ·rcases List.mem_cons.1 hx2 with rfl|hx2
    ·exact I.mono j1
    ·exact t3 x hx2
   ·rw[u h]at t5⊢;refine⟨?_,(t5 h).2⟩;rw[(t5 h).1];congr 1
    have F:e.ar=0:=by have:=N.link;omega
    obtain⟨a,b,c,d⟩:=e;simp only at hm F;rw[hm,F]
  ·cases t:ne with
   |true=>rw[u t]at hz;cases hz
   |false=>
    rw[if_pos (by rw[hz];decide),hz];rw[t]at s;exact s rfl
theorem Kj{ne:Bool}{L:List Ob}(a:ae L){t:Int}{l:List Fi}(h:fk ne L t l){n:Nat}(hn:mu l<n):((aN n L [] l).2.1=0∨(aN n L [] l).2.1=15)∧(ne=true→aN n L [] l=(t,0,L)):=by
 obtain⟨o,p⟩:=gg a h.1;have q:=(a.tree h.1).2.2.1;obtain⟨L',r,g,b⟩:=h.2.IP a n L [] none (List.prefix_refl _) a o p q hn;rcases b with⟨b,i⟩|⟨f,c,k,k3,s,m⟩
 ·exact⟨.inr b,fun h=>by rw[i]at h;cases h⟩
 ·rw[List.nil_append]at c;rw[c];refine⟨Bo g k k3 (by omega),fun j=>?_⟩;obtain⟨d,e⟩:=m j;rw[d,e,←(a.tree h.1).1];exact Bn a h.1
end Go.Nest
end
section
namespace Go.Nest
open Go Go.AM
theorem ku:∀(n:Nat) (L:List Ob) (a:List aF) (l:List Fi),ae L→ae (aN n L a l).2.2∧L<+:(aN n L a l).2.2
 |0,L,_,_,h=>⟨h,List.prefix_refl _⟩
 |n+1,L,a,[],h=>⟨fK h _,dS _⟩
 |n+1,L,a,f::r,h=>by
  unfold aN;split
  ·exact ku n L _ r h
  obtain⟨b,c⟩:=ku n L [] (bm (du f.path).1 (f::r)).1 h;split
  ·exact⟨b,c⟩
  obtain⟨d,e⟩:=ku n _ (a++[⟨(du f.path).1,2,(aN n L [] (bm (du f.path).1 (f::r)).1).1,0⟩]) (bm (du f.path).1 (f::r)).2 b;exact⟨d,c.trans e⟩
theorem rC:∀(n:Nat) (L:List Ob) (c:List aF) (l:List Fi),ae L→mu l<n→(∀f∈l,f.mode≠2)→(aN n L c l).2.1=0→∃es,cS true (aN n L c l).2.2 es l∧ab (aN n L c l).2.2 (aN n L c l).1=ew (c++es)
 |0,_,_,_,_,h,_,_=>absurd h (by omega)
 |n+1,L,c,[],q,H,k,h=>by
  unfold aN at h⊢;obtain⟨F,t⟩:=gG h;exact⟨[],.nil,by rw[List.append_nil];exact t⟩
 |n+1,L,c,f::r,q,H,k,h=>by
  rw[kJ]at H;unfold aN at h⊢;split at h
  ·rename_i p;rw[if_pos p];obtain⟨es,F,t⟩:=rC n L (c++[⟨f.path,f.mode,f.id,f.ar⟩]) r q (by omega) (fun x P=>k x (by simp[P])) h;refine⟨⟨f.path,f.mode,f.id,f.ar⟩::es,.file (e:=⟨f.path,f.mode,f.id,f.ar⟩) (k f (by simp)) F,?_⟩;rw[t];simp
  ·rename_i p;rw[if_neg p];obtain⟨a,b,j,i,S⟩:=uj p;have y:=rL (r:=r) i;rw[kJ]at y;have z:=rM (r:=r) i;have d:=pG a (f::r);rw[j]at h⊢;dsimp only at h⊢;generalize N:bm a (f::r)=I at*;obtain⟨m,D⟩:=I;dsimp only at*;split at h
   ·exact absurd h ‹_›
   rename_i o;rw[if_neg o];have o:(aN n L [] m).2.1=0:=Classical.not_not.1 o;have w:∀g∈m,g.mode≠2:=fun g u=>k (pre a g) (by rw[d];exact List.mem_append.2 (.inl (List.mem_map.2 ⟨g,u,rfl⟩)));have v:∀g∈D,g.mode≠2:=fun g u=>k g (by rw[d];exact List.mem_append.2 (.inr u));obtain⟨M,Q,J⟩:=rC n L [] m q (by omega) w o;obtain⟨K,T⟩:=ku n L [] m q;obtain⟨U,E⟩:=ku n (aN n L [] m).2.2 (c++[⟨a,2,(aN n L [] m).1,0⟩]) D K;obtain⟨s,k3,R⟩:=rC n (aN n L [] m).2.2 (c++[⟨a,2,(aN n L [] m).1,0⟩]) D K (by omega) v h;have O:kindOf (aN n L [] m).2.2 (aN n L [] m).1=2:=by rw[←cH,J];rfl
   refine⟨⟨a,2,(aN n L [] m).1,0⟩::s,?_,by rw[R];simp⟩;rw[d];refine .dir (e:=⟨a,2,(aN n L [] m).1,0⟩) rfl (by rw[dy E (by simp only[];omega)];exact O) (fun _=>z) ?_ k3;simp only[];rw[ext_get E (by omega),J];rw[List.nil_append];exact Q.mono E
theorem xZ:∀{l:List Fi} {p:Option Fi},fQ p l=0→∀f∈l,(cj f.path).2=0∧(f.mode=1∨f.mode=3)
 |f::r,p,h,g,hg=>by
  unfold fQ at h;split at h
  ·exact absurd h ‹_›
  split at h
  ·cases h
  split at h
  ·exact absurd h ‹_›
  rcases List.mem_cons.1 hg with rfl|hg
  ·exact⟨by simpa using‹¬(cj _).2≠0›,by omega⟩
  ·exact xZ h g hg
theorem jG{l:List Fi}(h:cq l=0):l.length≤60∧∀f∈l,(cj f.path).2=0∧(f.mode=1∨f.mode=3):=by
 unfold cq at h;split at h
 ·cases h
 ·exact⟨by omega,xZ h⟩
theorem ny{s:List UInt8}(h:(cj s).2=0):fw (aD s)=0∧(aD s).length≤8∧(cj s).1=aD s:=by
 unfold cj at h⊢;split at h
 ·rename_i a;split at h
  ·cases h
  ·rename_i b;rw[if_pos a,if_neg b];exact⟨a,by omega,rfl⟩
 ·exact absurd h ‹_›
theorem wH{s:List UInt8}(h1:fw (aD s)=0)(h2:(aD s).length≤8):(cj s).2=0:=by
 unfold cj;rw[if_pos h1,if_neg (by omega)]
theorem ib{L:List Ob}(a:ae L)(l:List Fi):ae (bC L l).2.2∧L<+:(bC L l).2.2:=by
 unfold bC;split
 ·exact⟨a,List.prefix_refl _⟩
 ·exact ku _ _ _ _ a
theorem pd{L:List Ob}(e:ae L){l:List Fi}(h:(bC L l).2.1=0):cq l=0∧fk true (bC L l).2.2 (bC L l).1 l:=by
 unfold bC at h⊢;split at h
 ·exact absurd h ‹_›
 rename_i a;rw[if_neg a];have a:cq l=0:=by simpa using a
 obtain⟨g,c,b⟩:=rC _ L [] l e (Nat.lt_succ_self _) (fun f d=>by have:=(jG a).2 f d;omega) h;refine⟨a,by rw[←cH,b];rfl,?_⟩;rw[b];rw[List.nil_append];exact c
def full(ins:List (List UInt8))(f:Fi):Fi:=⟨ck (ins++[f.path]),f.mode,f.id,f.ar⟩
theorem Cm:∀(ins:List (List UInt8)) (a b:List UInt8),ck (ins++[a++47::b])=ck (ins++[a]++[b])
 |[],a,b=>rfl
 |[x],a,b=>by simp[ck]
 |x::y::r,a,b=>by
  have:=Cm (y::r) a b;simp[ck]at this⊢;exact this
theorem zh(ins:List (List UInt8))(n:List UInt8)(f:Fi):full ins (pre n f)=full (ins++[n]) f:=by
 unfold full pre;rw[Cm]
theorem zg:full []=id:=by funext f;rfl
theorem cS.told{L:List Ob}(w:ae L){es:List aF}{l:List Fi}(h:cS true L es l):∀(n:Nat) (ins:List (List UInt8)) (out:List Fi),ins.length+n=8→(∀e∈es,bO e.name=0)→(∀f∈l,(aD f.path).length+ins.length≤8)→out.length+l.length≤60→dJ (cz L n) ins es out=(0,out++l.map (full ins)):=by
 induction h with
 |nil=>intro n ins out _ _ _ _;simp[dJ]
 | @file e es l o _ ih=>
  intro n ins out q d j c;rw[List.length_cons]at c;unfold dJ;rw[if_neg o,if_neg (by omega),ih n ins _ q (fun x i=>d x (by simp[i])) (fun f h=>j f (by simp[h])) (by rw[List.length_append,List.length_singleton];omega)];simp[full]
 | @dir e es m l o u r z h s ih=>
  intro n ins out q d j c;have y:=jQ (d e (by simp));have p:=r rfl;obtain⟨g,m0,rfl⟩:∃g m0,m=g::m0:=by cases m with|nil=>exact absurd rfl p|cons a b=>exact⟨a,b,rfl⟩
  have t:∀f∈g::m0,(aD f.path).length+1+ins.length≤8:=fun f h=>by
   have:=j (pre e.name f) (List.mem_append.2 (.inl (List.mem_map.2 ⟨f,h,rfl⟩)));rw[show(pre e.name f).path=e.name++47::f.path from rfl,lJ y,List.length_cons]at this;exact this
  have D:=t g (by simp);have E:=JM g.path;obtain⟨n,rfl⟩:∃m,n=m+1:=⟨n-1,by omega⟩;rw[List.length_append,List.length_map]at c
  have k:cz L (n+1) e.id (ins++[e.name]) out=(0,out++(g::m0).map (full (ins++[e.name]))):=by
   unfold cz;rw[if_neg (by simpa using u),if_neg (by rw[List.length_append,List.length_singleton];omega)];exact s n (ins++[e.name]) out (by rw[List.length_append,List.length_singleton];omega) (fun x i=>(mY (w.tree u).2.1 x i).1) (fun f h=>by rw[List.length_append,List.length_singleton];have:=t f h;omega) (by omega)
  unfold dJ;rw[if_pos o,k];rw[if_neg (by simp)];rw[ih (n+1) ins _ q (fun x i=>d x (by simp[i])) (fun f h=>j f (List.mem_append.2 (.inr h))) (by rw[List.length_append,List.length_map];omega)];have v:full ins∘pre e.name=full (ins++[e.name]):=funext fun f=>zh ins e.name f;rw[List.map_append,List.map_map,v,List.append_assoc]
theorem Kl{L:List Ob}(b:ae L){t:Int}{l:List Fi}(h:fk true L t l)(h1:l.length≤60)(h2:∀f∈l,(aD f.path).length≤8):cK L t=(l,0):=by
 have a:cz L 9 t [] []=(0,l):=by
  unfold cz;rw[if_neg (by simpa using h.1),if_neg (by simp)];rw[h.2.told b 8 [] [] rfl (fun x d=>(mY (b.tree h.1).2.1 x d).1) (fun f c=>by simpa using h2 f c) (by simpa using h1)];simp[zg]
 unfold cK;rw[a];simp
theorem wJ{L:List Ob}{n:Nat}{ins:List (List UInt8)}(hn:ins.length+n=8)(d:∀(t:Int) (y:List UInt8) (out a:List Fi),ins.length<8→out.length≤60→cz L n t (ins++[y]) out=(0,a)→∃l,fk false L t l∧a=out++l.map (full (ins++[y]))∧a.length≤60∧∀f∈l,(aD f.path).length+(ins.length+1)≤8):∀(es:List aF) (out a:List Fi),(∀e∈es,bO e.name=0)→(es≠[]→ins.length<8)→out.length≤60→dJ (cz L n) ins es out=(0,a)→∃l,cS false L es l∧a=out++l.map (full ins)∧a.length≤60∧∀f∈l,(aD f.path).length+ins.length≤8
 |[],out,a,_,_,b,h=>by
  unfold dJ at h;cases h;exact⟨[],.nil,by simp,b,fun f hf=>by cases hf⟩
 |e::r,out,a,c,E,b,h=>by
  have v:=jQ (c e (by simp));have j:=E (by simp);unfold dJ at h;split at h
  ·rename_i k;split at h
   ·rename_i i;exact absurd (by rw[h]) i
   ·rename_i i;obtain⟨I,w,F,k3,H⟩:=d e.id e.name out (cz L n e.id (ins++[e.name]) out).2 j b (Prod.ext (Classical.not_not.1 i) rfl);obtain⟨u,o,p,q,s⟩:=wJ hn d r _ a (fun x m=>c x (by simp[m])) (fun _=>j) k3 h;refine⟨I.map (pre e.name)++u,.dir k w.1 (fun h=>by cases h) w.2 o,?_,q,fun f hf=>?_⟩
    ·have z:full ins∘pre e.name=full (ins++[e.name]):=funext fun f=>zh ins e.name f;rw[p,F,List.map_append,List.map_map,z,List.append_assoc]
    ·rcases List.mem_append.1 hf with hf|hf
     ·obtain⟨g,D,rfl⟩:=List.mem_map.1 hf;have:=H g D;rw[show(pre e.name g).path=e.name++47::g.path from rfl,lJ v,List.length_cons];omega
     ·exact s f hf
  ·rename_i k;split at h
   ·cases h
   ·rename_i i;obtain⟨u,o,p,q,s⟩:=wJ hn d r _ a (fun x m=>c x (by simp[m])) (fun _=>j) (by rw[List.length_append,List.length_singleton];omega) h;refine⟨⟨e.name,e.mode,e.id,e.ar⟩::u,.file k o,?_,q,fun f hf=>?_⟩
    ·rw[p];simp[full]
    ·rcases List.mem_cons.1 hf with rfl|hf
     ·rw[nv v];simp;omega
     ·exact s f hf
theorem FL{L:List Ob}(q:ae L):∀(n:Nat) (t:Int) (ins:List (List UInt8)) (out a:List Fi),ins.length+n=8→out.length≤60→cz L (n+1) t ins out=(0,a)→∃l,fk false L t l∧a=out++l.map (full ins)∧a.length≤60∧∀f∈l,(aD f.path).length+ins.length≤8:=by
 intro n;induction n with
 |zero=>
  intro t ins out a p b h;unfold cz at h;split at h
  ·cases h
  split at h
  ·cases h
  rename_i c k;have c:kindOf L t=2:=Classical.not_not.1 c;have j:(ab L t).entries=[]:=List.eq_nil_of_length_eq_zero (by omega);rw[j]at h;unfold dJ at h;cases h;exact⟨[],⟨c,by rw[j];exact .nil⟩,by simp,b,fun f d=>by cases d⟩
 |succ n ih=>
  intro t ins out a p b h;rw[cz]at h;split at h
  ·cases h
  split at h
  ·cases h
  rename_i c k;have c:kindOf L t=2:=Classical.not_not.1 c
  obtain ⟨l, e, g, k3, i⟩ := wJ (L := L) (n := n + 1) (ins := ins) (by omega) (fun t s out a u o m=>by
   obtain⟨l,e,g,k3,i⟩:=ih t (ins++[s]) out a (by rw[List.length_append,List.length_singleton];omega) o m;exact⟨l,e,g,k3,fun f d=>by have:=i f d;rw[List.length_append,List.length_singleton]at this;exact this⟩) _ out a (fun x r=>(mY (q.tree c).2.1 x r).1) (fun _=>by omega) b h
  exact⟨l,⟨c,e⟩,g,k3,i⟩
theorem uG{L:List Ob}(d:ae L){t:Int}(h:(cK L t).2=0):fk false L t (cK L t).1∧(cK L t).1.length≤60∧∀f∈(cK L t).1,(aD f.path).length≤8:=by
 unfold cK at h⊢;split at h
 ·rename_i a;rw[if_pos a];obtain⟨l,e,b,k3,g⟩:=FL d 8 t [] [] (cz L 9 t [] []).2 rfl (by simp) (Prod.ext a rfl);rw[List.nil_append,zg,List.map_id]at b;rw[b]at k3⊢;exact⟨e,k3,fun f c=>by simpa using g f c⟩
 ·exact absurd h ‹_›
theorem Fm{L:List Ob}{t:Int}(h:(cK L t).2≠0):(cK L t).1=[]:=by
 unfold cK at h⊢;split
 ·rename_i a;rw[if_pos a]at h;exact absurd rfl h
 ·rfl
def mK(f g:Fi):Prop:=aR f.path g.path=true∧under g.path f.path=none
theorem xt{f g:Fi}{a b:List UInt8}{r s:List (List UInt8)}(c:aD f.path=a::r)(hg:aD g.path=b::s)(h:Op.bytesLess a b=true):mK f g:=by
 refine⟨?_,?_⟩
 ·unfold aR;rw[c,hg,di,if_neg (fun e=>tG h e.symm)];exact h
 ·cases d:under g.path f.path with
  |none=>rfl
  |some q=>
   have:=jr d;rw[this,qo,c]at hg;cases hg;rw[mR]at h;cases h
theorem CY{n:List UInt8}(hn:n.count 47=0){f g:Fi}(h:mK f g):mK (pre n f) (pre n g):=by
 refine⟨?_,?_⟩
 ·unfold aR;rw[show(pre n f).path=n++47::f.path from rfl,show(pre n g).path=n++47::g.path from rfl,lJ hn,lJ hn,di,if_pos rfl];exact h.1
 ·cases e:under (pre n g).path (pre n f).path with
  |none=>rfl
  |some q=>
   have c:=jr e;have a:n++47::g.path=(n++47::f.path)++47::q:=c;rw[List.append_assoc,List.append_cancel_left_eq]at a;have d:g.path=f.path++47::q:=by simpa using a
   have b:=h.2;rw[d,mJ]at b;cases b
theorem cS.tB{ne:Bool}{L:List Ob}(E:ae L){es:List aF}{l:List Fi}(h:cS ne L es l):∀{p:Option (List UInt8)},fj p es→(∀e∈es,iC L e)→l.Pairwise mK∧(∀f∈l,fw (aD f.path)=0∧(f.mode=1∨f.mode=3)):=by
 induction h with
 |nil=>intro p _ _;exact⟨.nil,fun f hf=>by cases hf⟩
 | @file e es l z h ih=>
  intro p j b;have a:=b e (by simp);have i:=jQ a.name;obtain⟨s,w⟩:=ih j.2 (fun x c=>b x (by simp[c]));refine⟨List.pairwise_cons.2 ⟨fun g d=>?_,s⟩,fun f hf=>?_⟩
  ·obtain⟨x,r,k,n⟩:=h.apart (fun x c=>(b x c).name) j g d;exact xt (nv i) k n
  ·rcases List.mem_cons.1 hf with rfl|hf
   ·refine⟨?_,?_⟩
    ·rw[nv i];simp[fw,a.name]
    ·have:=a.m1;have:=a.m3;show e.mode=1∨e.mode=3;omega
   ·exact w f hf
 | @dir e es m l z y D s h o ih=>
  intro p j b;have a:=b e (by simp);have i:=jQ a.name;obtain⟨F,H⟩:=gg E y;obtain⟨t,q⟩:=o F H;obtain⟨u,v⟩:=ih j.2 (fun x c=>b x (by simp[c]));refine⟨List.pairwise_append.2 ⟨?_,u,fun f hf g d=>?_⟩,fun f hf=>?_⟩
  ·rw[List.pairwise_map];exact t.imp fun h=>CY i h
  ·obtain⟨f,hf,rfl⟩:=List.mem_map.1 hf;obtain⟨x,r,k,n⟩:=h.apart (fun x c=>(b x c).name) j g d;exact xt (lJ i f.path) k n
  ·rcases List.mem_append.1 hf with hf|hf
   ·obtain⟨g,d,rfl⟩:=List.mem_map.1 hf;refine⟨?_,(q g d).2⟩;rw[show(pre e.name g).path=e.name++47::g.path from rfl,lJ i];unfold fw;rw[if_pos a.name];exact(q g d).1
   ·exact v f hf
theorem x5:∀{l:List Fi} {p:Option Fi},(∀g,p=some g→∀f∈l,mK g f)→l.Pairwise mK→(∀f∈l,(cj f.path).2=0∧(f.mode=1∨f.mode=3))→fQ p l=0
 |[],_,_,_,_=>rfl
 |f::r,p,k,h,b=>by
  obtain⟨c,d⟩:=List.pairwise_cons.1 h
  have i:eg p f=0:=by
   cases p with
   |none=>rfl
   |some g=>
    have:=k g rfl f (by simp);unfold eg;simp[this.1,this.2]
  have e:=b f (by simp);unfold fQ;rw[if_neg (by simpa using e.1),if_neg (by omega),if_neg (by simpa using i)];exact x5 (fun g j x a=>by cases j;exact c x a) d fun x a=>b x (by simp[a])
theorem Kk{ne:Bool}{L:List Ob}(c:ae L){t:Int}{l:List Fi}(h:fk ne L t l)(h1:l.length≤60)(h2:∀f∈l,(aD f.path).length≤8):cq l=0:=by
 obtain⟨i,j⟩:=gg c h.1;obtain⟨d,b⟩:=h.2.tB c i j;unfold cq;rw[if_neg (by omega)];exact x5 (fun g e=>by cases e) d fun f a=>⟨wH (b f a).1 (h2 f a),(b f a).2⟩
theorem fk.mono{ne:Bool}{L M:List Ob}(a:L<+:M){t:Int}{l:List Fi}(h:fk ne L t l):fk ne M t l:=by
 have b:=h.1;exact⟨by rw[dy a (by omega)];exact b,by rw[ext_get a (by omega)];exact h.2.mono a⟩
def isDir(d:List UInt8)(e:aF):Bool:=decide (e.name=d)&&decide (e.mode=2)
def bR(L:List Ob):Int→List (List UInt8)→Int×Int
 |t,[]=>(t,0)
 |t,d::a=>if kindOf L t≠2 then(0,9)else match(ab L t).entries.find? (isDir d)with
  |some e=>bR L e.id a
  |none=>(0,9)
def bt(L:List Ob)(t:Int)(dir:List UInt8):Int×Int:=if(cj dir).2≠0 then(0,(cj dir).2)else bR L t (cj dir).1
def kO(d:List UInt8)(f:Fi):Option Fi:=(under f.path d).map fun p=>⟨p,f.mode,f.id,f.ar⟩
def dw(d:List UInt8)(l:List Fi):List Fi:=l.filterMap (kO d)
theorem Df{d:List UInt8}{l m:List Fi}:dw d (l++m)=dw d l++dw d m:=List.filterMap_append
theorem xJ{d:List UInt8}:∀m:List Fi,dw d (m.map (pre d))=m
 |[]=>rfl
 |f::m=>by
  have:=xJ (d:=d) m;unfold dw at this⊢;rw[List.map_cons,List.filterMap_cons,show kO d (pre d f)=some f from ?_]
  ·simp only[];rw[this]
  ·unfold kO;rw[show(pre d f).path=d++47::f.path from rfl,mJ];rfl
theorem xI{d:List UInt8}{l:List Fi}(h:∀f∈l,under f.path d=none):dw d l=[]:=by
 unfold dw;rw[List.filterMap_eq_nil_iff];intro f a;unfold kO;rw[h f a];rfl
theorem Dh(d e:List UInt8)(l:List Fi):dw e (dw d l)=dw (d++47::e) l:=by
 unfold dw;rw[List.filterMap_filterMap];congr 1
 funext f;unfold kO;cases h:under f.path d with
 |none=>
  cases a:under f.path (d++47::e)with
  |none=>rfl
  |some q=>
   have:=jr a;rw[List.append_assoc,List.cons_append]at this;rw[this,mJ]at h;cases h
 |some p=>
  have b:=jr h;show Option.map _ (under p e)=_;cases a:under p e with
  |none=>
   cases c:under f.path (d++47::e)with
   |none=>rfl
   |some q=>
    have:=jr c;rw[b,List.append_assoc,List.append_cancel_left_eq]at this;have:p=e++47::q:=by simpa using this
    rw[this,mJ]at a;cases a
  |some q=>
   have:=jr a;rw[b,this,show d++47::(e++47::q)=(d++47::e)++47::q by simp,mJ]
theorem cS.down{L:List Ob}{d:List UInt8}(hd:d.count 47=0){es:List aF}{l:List Fi}(h:cS true L es l):∀{p:Option (List UInt8)},fj p es→(∀e∈es,bO e.name=0)→
  (∃e,es.find? (isDir d)=some e∧fk true L e.id (dw d l)∧dw d l≠[])∨(es.find? (isDir d)=none∧dw d l=[]):=by
 induction h with
 |nil=>intro p _ _;exact .inr ⟨rfl,rfl⟩
 | @file e es l k h ih=>
  intro p b a;have c:=jQ (a e (by simp))
  have u:under e.name d=none:=by
   cases y:under e.name d with
   |none=>rfl
   |some q=>
    have:=jr y;rw[this,List.count_append,List.count_cons_self]at c;omega
  have hb:dw d (⟨e.name,e.mode,e.id,e.ar⟩::l)=dw d l:=by
   unfold dw;rw[List.filterMap_cons,show kO d ⟨e.name,e.mode,e.id,e.ar⟩=none by unfold kO;rw[u];rfl]
  rw[hb,List.find?_cons,show isDir d e=false by simp[isDir,k]];exact ih b.2 (fun x o=>a x (by simp[o]))
 | @dir e es m l k w n v h z ih=>
  intro p b a;have c:=jQ (a e (by simp));rw[List.find?_cons,Df];by_cases i:e.name=d
  ·subst i;rw[show isDir e.name e=true by simp[isDir,k]]
   have:dw e.name l=[]:=xI fun f j=>by
    obtain⟨x,r,s,t⟩:=h.apart a b f j;exact wR c s (tG t)
   rw[this,List.append_nil,xJ];exact .inl ⟨e,rfl,⟨w,v⟩,n rfl⟩
  ·rw[show isDir d e=false by simp[isDir,i]]
   have:dw d (m.map (pre e.name))=[]:=xI fun f j=>by
    obtain⟨g,D,rfl⟩:=List.mem_map.1 j;exact wR hd (lJ c g.path) i
   rw[this,List.nil_append];exact ih b.2 (fun x o=>a x (by simp[o]))
theorem sW{L:List Ob}(k:ae L):∀(ds:List (List UInt8)) {t:Int} {l:List Fi},ds≠[]→(∀d∈ds,bO d=0)→fk true L t l→
  (∃u,bR L t ds=(u,0)∧fk true L u (dw (ck ds) l)∧dw (ck ds) l≠[])∨(bR L t ds=(0,9)∧dw (ck ds) l=[])
 |[],_,_,h,_,_=>absurd rfl h
 |d::ds,t,l,_,j,h=>by
  have m:=jQ (j d (by simp));obtain⟨p,q⟩:=gg k h.1;have a:=h.2.down m p (fun x g=>(q x g).name);have n:=h.1;unfold bR;rw[if_neg (by simpa using n)];cases ds with
  |nil=>
   rcases a with⟨e,b,c,i⟩|⟨b,c⟩
   ·rw[b];exact .inl ⟨e.id,rfl,c,i⟩
   ·rw[b];exact .inr ⟨rfl,c⟩
  |cons f ds=>
   have o:ck (d::f::ds)=d++47::ck (f::ds):=rfl;rw[o,←Dh];rcases a with⟨e,b,c,i⟩|⟨b,c⟩
   ·rw[b];exact sW k (f::ds) (by simp) (fun x g=>j x (by simp[g])) c
   ·rw[b,c];exact .inr ⟨rfl,rfl⟩
theorem pU:∀{l:List (List UInt8)},fw l=0→∀d∈l,bO d=0
 |x::r,h,d,hd=>by
  unfold fw at h;split at h
  ·rcases List.mem_cons.1 hd with rfl|hd
   ·assumption
   ·exact pU h d hd
  ·exact absurd h ‹_›
theorem Dg{d:List UInt8}{l:List Fi}{f:Fi}(h:f∈dw d l):∃g∈l,g.path=d++47::f.path:=by
 unfold dw at h;obtain⟨g,c,a⟩:=List.mem_filterMap.1 h;unfold kO at a;cases b:under g.path d with
 |none=>rw[b]at a;cases a
 |some q=>
  rw[b]at a;cases a;exact⟨g,c,jr b⟩
end Go.Nest
end
section
namespace Go.Nest
open Go Go.AM Go.Proofs
open Go.Proofs.YtpechfcbnoggfaaGreatDoor (tab tabOk)
set_option maxRecDepth 4000
theorem Jx(a b:List (List UInt8)):ai Tryz.prog 23 [.c (.bs 1 (List UInt8) encS a),.c (.bs 1 (List UInt8) encS b)] [] (Rt (.c (.bool (decide (a=b)))) []):=by
 refine an (n:=26) (n0:=0) tabOk Tryz.call23 Tryz.func23 ?_;intro hb;have hb:a.length≤9223372036854775807:=hb.1.1;repeat'((conv=>whnf);first|(refine ay (fun h=>?_) (fun h=>?_)<;>try contradiction)|refine aG ?_|fail)
 ·exact pW h
 (conv=>whnf);have j:a.length=b.length:=by omega
 refine lp Nat (fun i=>⟨[(0,.c (.bs 1 (List UInt8) encS a)),(1,.c (.bs 1 (List UInt8) encS b)),(5,.c (.int .i64 i))],[]⟩) (fun i=>i≤a.length∧a.take i=b.take i) (fun i=>a.length-i) 0 [] [] ?_ ?_ (fun i f=>?_)
 ·simp
 ·repeat' first|exact trivial|exact rfl|refine And.intro ?_ ?_
 (conv=>whnf);refine dec (fun g=>?_) (fun g=>?_)
 ·have e:i<a.length:=by omega
  have d:i<b.length:=by omega
  (conv=>whnf);refine⟨false,.grow,(.l [0,1,2,3,4,5,6,7,8]),by kernel_rfl,.inl ?_⟩;repeat'((conv=>whnf);first|(refine ay (fun h=>?_) (fun h=>?_)<;>try contradiction)|refine⟨i64 (by omega) (by omega),?_⟩|refine⟨_,_,rfl,List.getElem?_eq_getElem (by omega),?_⟩|refine aG ?_|fail)
  ·exact pV e d h
  ·refine ag (i+1) [] [] ⟨e,oU e d f.2 h⟩ (by simp only[];omega) ?_;repeat' first|exact trivial|exact rfl|refine And.intro ?_ ?_
 ·repeat'((conv=>whnf);first|refine aG ?_|fail)
  exact qu (by omega) j f.2
end Go.Nest
end
