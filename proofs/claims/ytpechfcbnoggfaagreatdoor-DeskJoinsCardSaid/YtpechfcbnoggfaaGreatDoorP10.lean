import Derived.Test.YtpechfcbnoggfaaGreatDoorE1
import Derived.Test.YtpechfcbnoggfaaGreatDoorZ1
import Derived.Test.YtpechfcbnoggfaaGreatDoorV36
set_option maxHeartbeats 1000000
set_option linter.unusedVariables false
set_option linter.unusedSimpArgs false
open Classical renaming not_not->a2
open List renaming prefix_refl->ah,getElem?_eq_getElem->ar,mem_cons->a0,nil_append->a1,cons_append->a3,length_set->a4,mem_append->a5,mem_map->a6,append_assoc->a9,map_cons->be,take_length->bh,take_succ_eq_append_getElem->bi,length_singleton->bj,count_le_length->bk,length_append->bl,pairwise_cons->bn,isPrefixOf_iff_prefix->bp,append_cancel_left_eq->br,length_cons->bs,count_cons->b0,append_nil->b1,drop_zero->b2,getElem_set_self->b3,count_cons_self->b4,take_set_of_le->cb,filterMap_cons->cd,map_append->ce,find?_cons->cf
open Nat renaming le_refl->bb
open Prod renaming ext->ch
section
namespace Go.Nest
open Go Go.AM Go.Proofs
open Go.Proofs.YtpechfcbnoggfaaGreatDoor (tab tabOk)
set_option maxRecDepth 4000
theorem HS{dr:Bool}(l:List UInt8):bB dr Tryz.prog 352 [.c (.str l),.c (.int .u8 47)] [] (Rt (.c (.int .i64 (l.count 47))) []):=by
 refine wk (e:=Extern.BytealgCount.count) Tryz.func352 (by decide) rfl rfl rfl rfl (λF H m d w h=>?_);match d,h with
 |[f,g],⟨a,b,_⟩=>
  cases a with
  |str _ _=>
   cases b with
   |int _=>exact⟨_,Lib.run_countString ⟨l.toArray⟩ 47 w,λF H m=>.int .nl⟩
theorem JU{dr:Bool}(l:List UInt8):bB dr Tryz.prog 310 [.c (.str l),.c (.int .u8 47)] [] (Rt (.c (.int .i64 (Lib.indexByte l 47))) []):=by
 refine wk (e:=Extern.BytealgIndexByte.indexByte) Tryz.func310 (by decide) rfl rfl rfl rfl (λF H m d w h=>?_);match d,h with
 |[f,g],⟨a,b,_⟩=>
  cases a with
  |str _ _=>
   cases b with
   |int _=>exact⟨_,Lib.run_indexByteString ⟨l.toArray⟩ 47 w,λF H m=>.int .nl⟩
theorem OZ{dr:Bool}(l:List UInt8):bB dr Tryz.prog 335 [.c (.str l),.c (.str [47])] [] (Rt (.c (.int .i64 (l.count 47))) []):=by
 refine af (n:=34) (n0:=0) tabOk Tryz.call335 Tryz.func335 ?_;intro hb;skip;refine⟨0,47,rfl,rfl,?_⟩;refine cl [] [] (HS l) ?_;exact aJ rfl
theorem O0{dr:Bool}(l:List UInt8):bB dr Tryz.prog 260 [.c (.str l),.c (.int .u8 47)] [] (Rt (.c (.int .i64 (Lib.indexByte l 47))) []):=by
 refine af (n:=8) (n0:=0) tabOk Tryz.call260 Tryz.func260 ?_;intro hb;refine cl [] [] (JU l) ?_;exact aJ rfl
theorem EF{dr:Bool}(l:List UInt8):bB dr Tryz.prog 185 [.c (.str l),.c (.str [47])] [] (Rt (.c (.int .i64 (Lib.indexByte l 47))) []):=by
 refine af (n:=143) (n0:=0) tabOk Tryz.call185 Tryz.func185 ?_;intro hb;repeat'((conv=>whnf);first|(refine dec (λh=>?_) (λh=>?_)<;>try contradiction)|refine aJ ?_|fail)
 ·obtain rfl:l=[47]:=h.symm;rfl
 ·refine⟨0,47,rfl,rfl,?_⟩;refine cl [] [] (O0 l) ?_;exact aJ rfl
theorem O1{dr:Bool}(l:List UInt8):bB dr Tryz.prog 111 [.c (.str l),.c (.str [47])] [] (Rt (.c (.int .i64 (Lib.indexByte l 47))) []):=by
 refine af (n:=8) (n0:=0) tabOk Tryz.call111 Tryz.func111 ?_;intro hb;refine cl [] [] (EF l) ?_;exact aJ rfl
structure GS(l:List UInt8)(a:List (List UInt8))(s:List UInt8)(i:Nat):Prop where
 len:a.length=l.count 47+1
 cnt:i+s.count 47=l.count 47
 aG:aG l=a.take i++aG s
 sl:s.length<=l.length
theorem HR(l:List UInt8):l.count 47<=l.length:=bk
theorem JC{dr:Bool}(l:List UInt8)(hl:l.length<=4000000):bB dr Tryz.prog 301 [.c (.str l),.c (.str [47]),.c (.int .i64 0),.c (.int .i64 (-1))] [] (Rt (.c (.rw 0)) [.row 1 (List UInt8) encS (aG l)]):=by
 refine kQ (n:=66) (n0:=0) tabOk Tryz.call301 Tryz.func301 ?_;intro hb;have r:=HR l;refine XM.seq ?_;skip;refine XM.seq ?_;skip;refine XM.seq ?_;skip;refine XM.seq ?_;skip;refine cl [] [] (OZ l) ?_;repeat'(refine I6 ?_)
 refine XM.seq ?_;repeat'(refine I6 ?_)
 (conv=>whnf);rw[show min ((l.count 47:Int)+1) ((l.length:Int)+1)=((l.count 47+1:Nat):Int)by omega];refine XM.seq ?_;refine⟨l.count 47+1,[],⟨rfl,rfl⟩,rfl,by simp only[];omega,?_⟩;skip;refine XM.seq ?_;repeat'(refine I6 ?_)
 refine XM.seq ?_;skip;refine XM.join (ι:=List (List UInt8)×List UInt8) (λ|(a,s)=>⟨[(0,.c (.str s)),(9,.c (.rw 0)),(10,.c (.int .i64 (l.count 47:Nat)))],[.row 1 (List UInt8) encS a]⟩) (λx=>GS l x.1 x.2 (l.count 47)) ?_ (λx d=>?_)
 ·refine lp (Nat×List (List UInt8)×List UInt8) (λ|(i,a,s)=>⟨[(0,.c (.str s)),(1,.c (.str [47])),(2,.c (.int .i64 0)),(3,.c (.int .i64 (((l.count 47+1:Nat):Int)-1))),(9,.c (.rw 0)),(10,.c (.int .i64 i))],[.row 1 (List UInt8) encS a]⟩)
   (λx=>GS l x.2.1 x.2.2 x.1/\True) (λx=>l.count 47-x.1) (0,List.replicate (l.count 47+1) [],l) [] [.s 0] ?_ ?_ (λx d=>?_)
  ·exact⟨⟨by simp,by simp,by simp,bb _⟩,trivial⟩
  ·repeat' first|exact trivial|exact rfl|refine And.intro ?_ ?_
  obtain⟨i,a,s⟩:=x;obtain⟨b,_⟩:=d;dsimp only at b;have e:=b.len;have h:=b.cnt;have q:=b.sl;refine dec (λj=>?_) (λj=>?_)
  ·obtain⟨m,o,t,p,u⟩:=wR (l:=s) (by omega);have g:=O1 (dr:=dr) s;rw[o]at g;refine cl [] [] (g) ?_;repeat'(refine I6 ?_)
   refine⟨0,m,rfl,by omega,by omega,?_⟩;refine⟨i,⟨rfl,by omega⟩,?_⟩;refine⟨_,(s.take m).drop 0,ar (by omega),⟨bb _,rfl⟩,?_⟩;skip;refine⟨i64 (by simp;omega) (by simp;omega),?_⟩;refine⟨m+1,s.length,rfl,rfl,by omega,?_⟩;repeat'(refine I6 ?_)
   refine ag (i+1,a.set i ((s.take m).drop 0),(s.take s.length).drop (m+1)) [] [.s 0] ⟨⟨?_,?_,?_,?_⟩,trivial⟩ (by simp only[];omega) ?_
   ·dsimp only;rw[a4];exact e
   ·dsimp only;rw[bh];omega
   ·dsimp only;rw[bh,b.aG,p,b2,bi (by rw[a4];omega),b3,cb (bb _)];simp
   ·dsimp only;rw[bh,List.length_drop];omega
   ·repeat' first|exact trivial|exact rfl|refine And.intro ?_ ?_
  ·obtain rfl:i=l.count 47:=by omega
   refine⟨(a,s),b,[],[.s 0],?_⟩;repeat' first|exact trivial|exact rfl|refine And.intro ?_ ?_
 obtain⟨a,s⟩:=x;dsimp only at d;have e:=d.len;have h:=d.cnt;have f:=d.aG;rw[oL (l:=s) (by omega)]at f;refine XM.seq ?_;refine⟨l.count 47,⟨rfl,by omega⟩,?_⟩;refine⟨_,s,ar (by omega),⟨bb _,rfl⟩,?_⟩;skip;refine XM.of ?_;refine⟨i64 (by omega) (by omega),?_⟩;refine⟨0,l.count 47+1,rfl,by omega,by rw[a4];omega,?_⟩;(conv=>whnf)
 have k:(((a.set (l.count 47) s).drop 0).take (l.count 47+1-0))=aG l:=by
  rw[f,b2,Nat.sub_zero,bi (by rw[a4];omega),b3,cb (bb _)]
 refine rt [] [.cut 1 0 0 (l.count 47+1-0)] ?_ rfl ⟨rfl,rfl⟩;repeat' first|exact trivial|exact rfl|refine And.intro ?_ ?_
 ·rw[a4];omega
 ·rw[k]
theorem yr{dr:Bool}(l:List UInt8)(hl:l.length<=4000000):bB dr Tryz.prog 252 [.c (.str l),.c (.str [47])] [] (Rt (.c (.rw 0)) [.row 1 (List UInt8) encS (aG l)]):=by
 refine af (n:=8) (n0:=0) tabOk Tryz.call252 Tryz.func252 ?_;intro hb;refine cl [] [] (JC l hl) ?_;exact rx [] [.s 0]
def eR:List (List UInt8)->Int
 |[]=>0
 |x::r=>if bP x=0 then eR r else bP x
def cc(l:List UInt8):List (List UInt8)×Int:=if eR (aG l)=0 then(if 8<(aG l).length then([],3)else(aG l,0))else([],eR (aG l))
theorem LX{x:List (List UInt8)}{i:Nat}(h:i<x.length)(hi:eR x=eR (x.drop i)):eR x=if bP x[i]=0 then eR (x.drop (i+1))else bP x[i]:=by
 rw[hi,List.drop_eq_getElem_cons h];rfl
theorem xR(l:List UInt8)(hl:l.length<=4000000):aa Tryz.prog 176 [.c (.str l)] [] (Rt (.ao [(false,[.rw 0]),(false,[.int .i64 (cc l).2])]) [.row 1 (List UInt8) encS (cc l).1]):=by
 refine kQ (n:=26) (n0:=0) tabOk Tryz.call176 Tryz.func176 ?_;intro hb;have j:(aG l).length<=l.length+1:=by rw[yk];have:=bk (a:=47) (l:=l);omega
 refine XM.seq ?_;skip;refine XM.seq ?_;refine cl [] [] (yr l hl) ?_;skip;refine XM.join (ι:=Unit) (λ_=>⟨[(4,.c (.rw 0))],[.row 1 (List UInt8) encS (aG l)]⟩) (λ_=>eR (aG l)=0) ?_ (λ_ e=>?_)
 ·refine lp Nat (λi=>⟨[(4,.c (.rw 0)),(10,.c (.rw 0)),(11,.c (.int .i64 (aG l).length)),(12,.c (.int .i64 i))],[.row 1 (List UInt8) encS (aG l)]⟩) (λi=>i<=(aG l).length/\eR (aG l)=eR ((aG l).drop i)) (λi=>(aG l).length-i) 0 [] [.s 0] ?_ ?_ (λi f=>?_)
  ·simp
  ·repeat' first|exact trivial|exact rfl|refine And.intro ?_ ?_
  refine dec (λg=>?_) (λg=>?_)
  ·have d:i<(aG l).length:=by omega
   have b:=LX d f.2;repeat'((conv=>whnf);first|refine⟨_,⟨rfl,by omega⟩,?_⟩|refine⟨_,ar (by omega),?_⟩|fail)
   refine cl [] [] (tO (aG l)[i]) ?_;repeat'((conv=>whnf);first|(refine ay (λh=>?_) (λh=>?_)<;>try contradiction)|refine⟨i64 (by omega) (by omega),?_⟩|fail)
   ·rw[if_neg h]at b;have:cc l=([],bP (aG l)[i]):=by unfold cc;rw[if_neg (by rw[b];exact h),b]
    rw[this];exact rx [] [.new]
   ·rw[if_pos h]at b;refine ag (i+1) [] [.s 0] ⟨d,b⟩ (by simp only[];omega) ?_;repeat' first|exact trivial|exact rfl|refine And.intro ?_ ?_
  ·have:=f.2;rw[List.drop_of_length_le (by omega)]at this;refine⟨(),this,[],[.s 0],?_⟩;repeat' first|exact trivial|exact rfl|refine And.intro ?_ ?_
 refine XM.of ?_;repeat'((conv=>whnf);first|(refine dec (λh=>?_) (λh=>?_)<;>try contradiction)|fail)
 ·have:cc l=([],3):=by unfold cc;rw[if_pos e,if_pos (by omega)]
  rw[this];exact rx [] [.new]
 ·have:cc l=(aG l,0):=by unfold cc;rw[if_pos e,if_neg (by omega)]
  rw[this];exact rx [] [.s 0]
theorem CE:∀{x y:List (List UInt8)} {i:Nat} (d:i<x.length) (hy:i<y.length),x.take i=y.take i->¬x[i]=y[i]->cw x y=Op.bytesLess x[i] y[i]
 |a::x,b::y,0,_,_,_,h=>by simp at h;simp[cw,h]
 |a::x,b::y,i+1,d,hy,c,h=>by
  simp at c h;obtain⟨rfl,c⟩:=c;have:=CE (x:=x) (y:=y) (i:=i) (by simpa using d) (by simpa using hy) c h;simp[cw,this]
theorem CF:∀{x y:List (List UInt8)} {i:Nat},x.take i=y.take i->¬(i<x.length/\i<y.length)->i<=x.length->i<=y.length->cw x y=decide (x.length<y.length)
 |[],[],_,_,_,_,_=>rfl
 |[],_::_,_,_,_,_,_=>by simp[cw]
 |_::_,[],_,_,_,_,_=>by simp[cw]
 |a::x,b::y,0,_,h,_,_=>by simp at h
 |a::x,b::y,i+1,c,h,d,e=>by
  simp at c h d e;obtain⟨rfl,c⟩:=c;have:=CF (x:=x) (y:=y) (i:=i) c (by omega) d e;simp[cw,this]
theorem mh{dr:Bool}(a b:List UInt8)(m:a.length<=4000000)(g:b.length<=4000000):bB dr Tryz.prog 175 [.c (.str a),.c (.str b)] [] (Rt (.c (.bool (aw a b))) []):=by
 refine af (n:=47) (n0:=0) tabOk Tryz.call175 Tryz.func175 ?_;intro hb;have o:(aG a).length<=a.length+1:=by rw[yk];have:=bk (a:=47) (l:=a);omega
 refine cl [] [] (yr a m) ?_;refine cl [] [] (yr b g) ?_;(conv=>whnf);unfold aw;refine lp Nat (λi=>⟨[(5,.c (.rw 0)),(6,.c (.rw 1)),(7,.c (.int .i64 i))],[.row 1 (List UInt8) encS (aG a),.row 1 (List UInt8) encS (aG b)]⟩) (λi=>(i<=(aG a).length/\i<=(aG b).length)/\(aG a).take i=(aG b).take i) (λi=>(aG a).length-i) 0 [] [.s 0,.s 1] ?_ ?_ (λi f=>?_)
 ·simp
 ·repeat' first|exact trivial|exact rfl|refine And.intro ?_ ?_
 have fin:¬(i<(aG a).length/\i<(aG b).length)->decide (((aG a).length:Int)<(aG b).length)=cw (aG a) (aG b):=λh=>by
  rw[CF f.2 h f.1.1 f.1.2,decide_eq_decide];omega
 refine dec (λj=>?_) (λj=>?_)
 ·refine dec (λk=>?_) (λk=>?_)
  ·have e:i<(aG a).length:=by omega
   have d:i<(aG b).length:=by omega
   refine⟨false,.grow,(.l [0,1,2,3,4,5,6,7,8]),by kernel_rfl,.inl ?_⟩;repeat'((conv=>whnf);first|(refine ay (λh=>?_) (λh=>?_)<;>try contradiction)|refine⟨i64 (by omega) (by omega),?_⟩|refine⟨_,⟨rfl,by omega⟩,?_⟩|refine⟨_,ar (by omega),?_⟩|fail)
   ·refine⟨false,.grow,(.l [0,1,2,3,4,5,6,7,8,9]),by kernel_rfl,.inl ?_⟩;repeat'((conv=>whnf);first|refine⟨_,⟨rfl,by omega⟩,?_⟩|refine⟨_,ar (by omega),?_⟩|refine aL ?_|fail)
    exact(CE e d f.2 h).symm
   ·refine ag (i+1) [] [.s 0,.s 1] ⟨⟨e,d⟩,rU e d f.2 h⟩ (by simp only[];omega) ?_;repeat' first|exact trivial|exact rfl|refine And.intro ?_ ?_
  ·repeat'((conv=>whnf);first|refine aL ?_|fail)
   exact fin (by omega)
 ·repeat'((conv=>whnf);first|refine aL ?_|fail)
  exact fin (by omega)
theorem JJ{dr:Bool}(p q:List UInt8):bB dr Tryz.prog 336 [.c (.str p),.c (.str q)] [] (Rt (.c (.bool (q.isPrefixOf p))) []):=by
 refine af (n:=18) (n0:=0) tabOk Tryz.call336 Tryz.func336 ?_;intro hb
 have a:q.isPrefixOf p=true↔p.take q.length=q:=by
  rw[bp,List.prefix_iff_eq_take];exact eq_comm
 refine dec (λh=>?_) (λh=>?_)
 ·refine⟨0,q.length,rfl,rfl,by omega,?_⟩;refine aL ?_;rw[b2,Bool.eq_iff_iff,a,decide_eq_true_iff]
 ·refine aL ?_;symm;rw[Bool.eq_false_iff,Ne,a];intro e;have:=congrArg List.length e;rw[List.length_take]at this;omega
def ga(p d:List UInt8):List UInt8×Bool:=match under p d with
 |some r=>(r,true)
 |none=>(p,false)
theorem HW{dr:Bool}(p q:List UInt8):bB dr Tryz.prog 302 [.c (.str p),.c (.str q)] [] (Rt (.ao [(false,[.str (if q.isPrefixOf p=true then p.drop q.length else p)]),(false,[.bool (q.isPrefixOf p)])]) []):=by
 refine af (n:=15) (n0:=0) tabOk Tryz.call302 Tryz.func302 ?_;intro hb;refine cl [] [] (JJ p q) ?_;repeat'((conv=>whnf);first|refine dB (λh=>?_) (λh=>?_)|fail)
 ·rw[if_neg (by simp[h]),h];exact rx [] []
 ·rw[if_pos h,h];rw[bp]at h;have:=h.length_le;refine⟨q.length,p.length,rfl,rfl,by omega,?_⟩;(conv=>whnf);rw[bh];exact rx [] []
theorem NZ{dr:Bool}(p q:List UInt8):bB dr Tryz.prog 253 [.c (.str p),.c (.str q)] [] (Rt (.ao [(false,[.str (if q.isPrefixOf p=true then p.drop q.length else p)]),(false,[.bool (q.isPrefixOf p)])]) []):=by
 refine af (n:=11) (n0:=0) tabOk Tryz.call253 Tryz.func253 ?_;intro hb;refine cl [] [] (HW p q) ?_;exact rx [] []
theorem rV{dr:Bool}(p d:List UInt8)(hd:d.length<=4000000):bB dr Tryz.prog 177 [.c (.str p),.c (.str d)] [] (Rt (.ao [(false,[.str (ga p d).1]),(false,[.bool (ga p d).2])]) []):=by
 have a:ga p d=(if(d++[47]).isPrefixOf p=true then p.drop (d++[47]).length else p,(d++[47]).isPrefixOf p):=by
  unfold ga under;cases h:(d++[47]).isPrefixOf p<;>simp
 rw[a];refine af (n:=12) (n0:=0) tabOk Tryz.call177 Tryz.func177 ?_;intro hb;refine⟨by simp;omega,?_⟩;refine cl [] [] (NZ p (d++[47])) ?_;exact rx [] []
end Go.Nest
end
section
namespace Go.Nest
open Go Go.AM
def df(s:List UInt8):List UInt8×List UInt8×Bool:=if 0<=Lib.indexByte s 47 then(s.take (Lib.indexByte s 47).toNat,s.drop ((Lib.indexByte s 47).toNat+1),true)else(s,[],false)
theorem HX{s:List UInt8}(h:s.count 47=0):df s=(s,[],false):=by
 unfold df;rw[wQ h,if_neg (by decide)]
theorem AQ:∀{a b:List UInt8},a.count 47=0->df (a++47::b)=(a,b,true):=by
 intro a b h
 have e:Lib.indexByte (a++47::b) 47=a.length:=by
  induction a with
  |nil=>simp[Lib.indexByte]
  |cons c a ih=>
   rw[b0]at h
   have d:(c==47)=false:=by
    cases d:c==47 with
    |false=>rfl
    |true=>rw[d]at h;simp at h
   rw[a3];unfold Lib.indexByte;rw[d,ih (by omega)];have:((a.length:Int)== -1)=false:=by simp
   simp[this]
 unfold df;rw[e,if_pos (by omega)];simp
theorem vX{s:List UInt8}(h:¬s.count 47=0):∃a b,df s=(a,b,true)/\s=a++47::b/\a.count 47=0:=by
 have g:∀{s:List UInt8},¬s.count 47=0->∃a b,s=a++47::b/\a.count 47=0:=by
  intro s;induction s with
  |nil=>intro h;simp at h
  |cons c s ih=>
   intro h;by_cases e:c=47
   ·exact⟨[],s,by rw[e];rfl,rfl⟩
   ·have i:(c==47)=false:=by simpa using e
    rw[b0,i]at h;obtain⟨a,b,d,f⟩:=ih (by simpa using h);exact⟨c::a,b,by rw[d];rfl,by rw[b0,i,f];rfl⟩
 obtain⟨a,b,d,f⟩:=g h;exact⟨a,b,by rw[d];exact AQ f,d,f⟩
theorem lu{n:List UInt8}(h:bP n=0):n.count 47=0:=by
 rw[List.count_eq_zero];intro a;unfold bP at h;rw[if_pos]at h
 ·cases h
 ·refine .inr (.inr (.inr ?_));rw[List.any_eq_true];exact⟨47,a,by decide⟩
def eW(a:Int->List (List UInt8)->List Fi->Int×List Fi)(ins:List (List UInt8)):List aI->List Fi->Int×List Fi
 |[],out=>(0,out)
 |e::r,out=>if e.mode=2 then(if(a e.id (ins++[e.name]) out).1≠0 then a e.id (ins++[e.name]) out else eW a ins r (a e.id (ins++[e.name]) out).2)
  else if out.length=60 then(5,out)else eW a ins r (out++[⟨bZ (ins++[e.name]),e.mode,e.id,e.ax⟩])
def cO(L:List Ob):Nat->Int->List (List UInt8)->List Fi->Int×List Fi
 |0,_,_,out=>(0,out)
 |n+1,t,a,out=>if kindOf L t≠2 then(9,out)else if 8<=a.length/\0<(aj L t).entries.length then(3,out)else eW (cO L n) a (aj L t).entries out
def bq(L:List Ob)(t:Int):List Fi×Int:=if(cO L 9 t [] []).1=0 then((cO L 9 t [] []).2,0)else([],(cO L 9 t [] []).1)
def bN(name:List UInt8):List Fi->List Fi×List Fi
 |[]=>([],[])
 |f::r=>match under f.path name with
  |none=>([],f::r)
  |some p=>(⟨p,f.mode,f.id,f.ax⟩::(bN name r).1,(bN name r).2)
def eT(es:List aI):Ob:=⟨2,[],es,0,[],[]⟩
def aV:Nat->List Ob->List aI->List Fi->Int×Int×List Ob
 |0,L,_,_=>(0,0,L)
 |n+1,L,a,[]=>aB L (eT a)
 |n+1,L,a,f::r=>if f.path.count 47=0 then aV n L (a++[⟨f.path,f.mode,f.id,f.ax⟩]) r
  else if(aV n L [] (bN (df f.path).1 (f::r)).1).2.1≠0 then(0,(aV n L [] (bN (df f.path).1 (f::r)).1).2.1,(aV n L [] (bN (df f.path).1 (f::r)).1).2.2)
   else aV n (aV n L [] (bN (df f.path).1 (f::r)).1).2.2 (a++[⟨(df f.path).1,2,(aV n L [] (bN (df f.path).1 (f::r)).1).1,0⟩]) (bN (df f.path).1 (f::r)).2
def mu(l:List Fi):Nat:=(l.map λf=>f.path.length+1).sum
theorem nH{f:Fi}{l:List Fi}:mu (f::l)=f.path.length+1+mu l:=by unfold mu;rw[be,List.sum_cons]
theorem C8{l m:List Fi}:mu (l++m)=mu l+mu m:=by unfold mu;rw[ce,List.sum_append]
def dU(p:Option Fi)(f:Fi):Int:=match p with
 |none=>0
 |some g=>if aw g.path f.path=false then 8 else if(under f.path g.path).isSome=true then 10 else 0
def ez:Option Fi->List Fi->Int
 |_,[]=>0
 |p,f::r=>if(cc f.path).2≠0 then(cc f.path).2 else if f.mode≠1/\f.mode≠3 then 6 else if dU p f≠0 then dU p f else ez (some f) r
def cu(l:List Fi):Int:=if 60<l.length then 5 else ez none l
def cG(L:List Ob)(l:List Fi):Int×Int×List Ob:=if cu l≠0 then(0,cu l,L)else aV (mu l+1) L [] l
def pre(n:List UInt8)(f:Fi):Fi:=⟨n++47::f.path,f.mode,f.id,f.ax⟩
inductive dn(ne:Bool)(L:List Ob):List aI->List Fi->Prop
 |nil:dn ne L [] []
 |file {e:aI} {es:List aI} {l:List Fi} (hm:e.mode≠2) (h:dn ne L es l):dn ne L (e::es) (⟨e.name,e.mode,e.id,e.ax⟩::l)
 |dir {e:aI} {es:List aI} {m l:List Fi} (hm:e.mode=2) (hk:kindOf L e.id=2) (hne:ne=true->m≠[]) (h1:dn ne L (aj L e.id).entries m) (h:dn ne L es l):dn ne L (e::es) (m.map (pre e.name)++l)
def fM(ne:Bool)(L:List Ob)(t:Int)(l:List Fi):Prop:=kindOf L t=2/\dn ne L (aj L t).entries l
theorem dO{L M:List Ob}(h:L<+:M){k:Int}(hk:¬kindOf L k=0):kindOf M k=kindOf L k:=by
 obtain⟨t,rfl⟩:=h;exact pz hk
theorem ext_get{L M:List Ob}(h:L<+:M){k:Int}(hk:¬kindOf L k=0):aj M k=aj L k:=by
 obtain⟨t,rfl⟩:=h;have:=dC hk;exact BP (by omega)
theorem dn.mono{ne:Bool}{L M:List Ob}(d:L<+:M){es:List aI}{l:List Fi}(h:dn ne L es l):dn ne M es l:=by
 induction h with
 |nil=>exact .nil
 |file a _ ih=>exact .file a ih
 | @dir e es m l a f b g h c ih=>
  refine .dir a (by rw[dO d (by omega)];exact f) b ?_ ih;rw[ext_get d (by omega)];exact c
theorem ak.tree{L:List Ob}(m:ak L){t:Int}(hk:kindOf L t=2):aj L t=eT (aj L t).entries/\eA none (aj L t).entries=0/\(aj L t).entries.length<=60/\(∀e∈(aj L t).entries,kindOf L e.id=e.mode):=by
 have h:=m.get (id:=t) (by omega);have i:=fQ (l:=L) (id:=t);rw[hk]at i;have k:=h.nb (by omega);have j:=h.nc (by omega);refine⟨?_,h.ents,h.entries,?_⟩
 ·generalize aj L t=o at*;obtain⟨a,b,c,d,e,f⟩:=o;simp only at i k j;rw[i,k,j.1,j.2.1,j.2.2];rfl
 ·have g:=dC (l:=L) (id:=t) (by omega);have:=(m.obj (aj L t) (by rw[lZ g.1 g.2];exact List.getElem_mem _)).2;unfold fg at this;rw[Bool.and_eq_true,List.all_eq_true]at this;intro e n;simpa using this.1 e n
def fl:Option (List UInt8)->List aI->Prop
 |_,[]=>True
 |p,e::r=>(∀q,p=some q->Op.bytesLess q e.name=true)/\fl (some e.name) r
theorem Bc:∀{es:List aI} {p:Option (List UInt8)},eA p es=0->fl p es
 |[],_,_=>trivial
 |e::r,p,h=>by
  unfold eA at h;split at h
  ·rename_i a;refine⟨λq b=>?_,Bc h⟩;subst b;unfold gP at a;split at a
   ·exact absurd a ‹_›
   split at a
   ·cases a
   split at a
   ·cases a
   split at a
   ·cases a
   simp only at a;split at a
   ·assumption
   ·cases a
  ·exact absurd h ‹_›
theorem Eg:∀{es:List aI} {q:List UInt8},fl (some q) es->∀e∈es,Op.bytesLess q e.name=true
 |e::r,q,⟨a,b⟩,x,hx=>by
  rcases a0.1 hx with rfl|hx
  ·exact a q rfl
  ·exact lO (a q rfl) (Eg b x hx)
theorem Nv:∀{es:List aI} {p:Option (List UInt8)},fl p es->fl none es
 |[],_,_=>trivial
 |_::_,_,⟨_,h⟩=>⟨λ_ a=>(by cases a),h⟩
theorem Nu:∀{es:List aI} {q r:List UInt8},Op.bytesLess q r=true->fl (some r) es->fl (some q) es
 |[],_,_,_,_=>trivial
 |_::_,_,_,h,⟨a,b⟩=>⟨λs c=>(by cases c;exact lO h (a _ rfl)),b⟩
structure jo(L:List Ob)(e:aI):Prop where
 name:bP e.name=0
 m1:1<=e.mode
 m3:e.mode<=3
 id:0<=e.id
 ax:0<=e.ax/\e.ax<4
 link:e.mode=3\/e.ax=0
 kind:kindOf L e.id=e.mode
theorem jo.mono{L M:List Ob}(a:L<+:M){e:aI}(h:jo L e):jo M e:=
 ⟨h.name,h.m1,h.m3,h.id,h.ax,h.link,by have:=h.kind;have:=h.m1;rw[dO a (by omega)];exact h.kind⟩
theorem iM{L:List Ob}(j:ak L){t:Int}(hk:kindOf L t=2):fl none (aj L t).entries/\∀e∈(aj L t).entries,jo L e:=by
 obtain⟨k,b,l,i⟩:=j.tree hk;refine⟨Bc b,λe c=>?_⟩;obtain⟨d,a,f,g,h⟩:=qL b e c;exact⟨d,a.1,a.2,f,g,h,i e c⟩
theorem Bd{L:List Ob}:∀{es:List aI} {p:Option (List UInt8)},fl p es->(∀e∈es,jo L e)->eA p es=0
 |[],_,_,_=>rfl
 |e::r,p,⟨d,f⟩,h=>by
  have a:=h e (by simp)
  have c:gP p e=0:=by
   unfold gP;have b:=a.name;have i:=a.m1;have j:=a.m3;have k:=a.id;have l:=a.ax;have m:=a.link;rw[if_neg (by simpa using b),if_neg (by omega),if_neg (by omega)];cases p with
   |none=>simp;try omega
   |some q=>simp[d q rfl];try omega
  unfold eA;rw[if_pos c];exact Bd f λx g=>h x (by simp[g])
theorem D0{L:List Ob}(f:ak L){es:List aI}(h1:fl none es)(h2:∀e∈es,jo L e)(d:es.length<=60):(aB L (eT es)).2.1=0\/(aB L (eT es)).2.1=15:=by
 have b:ca (eT es)=0:=by
  unfold ca eT nV;simp[Bd h1 h2];omega
 have c:fg L (eT es)=true:=by
  unfold fg eT;simp;intro e a;exact(h2 e a).kind
 unfold aB;rw[if_neg (by simpa using b),if_neg (by simp[c])];split
 ·exact .inl rfl
 split
 ·exact .inr rfl
 ·exact .inl rfl
theorem jQ{L:List Ob}(o:Ob):L<+:(aB L o).2.2:=by
 unfold aB;split
 ·exact ah _
 split
 ·exact ah _
 split
 ·exact ah _
 split
 ·exact ah _
 ·exact List.prefix_append _ _
theorem nO{L:List Ob}{o:Ob}(h:(aB L o).2.1=0):0<=(aB L o).1/\aj (aB L o).2.2 (aB L o).1=o:=by
 unfold aB at h⊢;split at h
 ·exact absurd h ‹_›
 split at h
 ·cases h
 split at h
 ·rename_i b c a;rw[if_neg b,if_neg c,if_pos a];refine⟨a,?_⟩;show aj L (bD (λx=>decide (x=o)) L)=o;unfold bD at a⊢;cases e:L.findIdx? (λx=>decide (x=o))with
  |none=>rw[e]at a;simp at a
  |some i=>
   rw[List.findIdx?_eq_some_iff_getElem]at e;obtain⟨d,f,_⟩:=e;rw[lZ (by simp) (by simpa using d)];simpa using f
 split at h
 ·cases h
 ·rename_i b c a d;rw[if_neg b,if_neg c,if_neg a,if_neg d];exact⟨by simp,wI⟩
theorem DZ{L:List Ob}(c:ak L){t:Int}(hk:kindOf L t=2):aB L (aj L t)=(t,0,L):=by
 obtain⟨b,a⟩:=dC (l:=L) (id:=t) (by omega);rw[lZ b a,DQ c a];simp;omega
theorem qX(name:List UInt8):∀l:List Fi,l=(bN name l).1.map (pre name)++(bN name l).2
 |[]=>rfl
 |f::r=>by
  have ih:=qX name r;unfold bN;cases h:under f.path name with
  |none=>rfl
  |some p=>
   simp only[be,a3];rw[<-ih];congr 1
   obtain⟨a,b,c,d⟩:=f;have:=jn h;simp only at this;rw[pre,this]
theorem tm{name:List UInt8}{f:Fi}{r:List Fi}{b:List UInt8}(h:f.path=name++47::b):(bN name (f::r)).1≠[]:=by
 unfold bN;rw[h,mJ];simp
theorem xz(n:List UInt8):∀m:List Fi,mu m+(n.length+1)*m.length=mu (m.map (pre n))
 |[]=>rfl
 |f::m=>by
  have:=xz n m;rw[be,nH,nH,bs,Nat.mul_succ,<-this];simp[pre];omega
theorem wW{name:List UInt8}{f:Fi}{r:List Fi}{b:List UInt8}(h:f.path=name++47::b):mu (bN name (f::r)).1<mu (f::r)/\mu (bN name (f::r)).2<mu (f::r):=by
 have a:=tm (r:=r) h;have c:=qX name (f::r);have d:=xz name (bN name (f::r)).1;have e:mu (f::r)=mu ((bN name (f::r)).1.map (pre name))+mu (bN name (f::r)).2:=by rw[<-C8,<-c]
 have g:0<(bN name (f::r)).1.length:=List.length_pos_iff.2 a;have i:(bN name (f::r)).1.length<=(name.length+1)*(bN name (f::r)).1.length:=Nat.le_mul_of_pos_left _ (by omega);omega
theorem Ci{name:List UInt8}:∀{m l:List Fi},(∀f∈l,under f.path name=none)->bN name (m.map (pre name)++l)=(m,l)
 |[],[],_=>rfl
 |[],f::l,h=>by
  show bN name (f::l)=_;unfold bN;rw[h f (by simp)]
 |f::m,l,h=>by
  show bN name (pre name f::(m.map (pre name)++l))=_;unfold bN;rw[show(pre name f).path=name++47::f.path from rfl,mJ,Ci h];rfl
theorem lF{n:List UInt8}(h:n.count 47=0)(p:List UInt8):aG (n++47::p)=n::aG p:=by rw[pX,oL h];rfl
theorem dn.fst{ne:Bool}{L:List Ob}{es:List aI}{l:List Fi}(h:dn ne L es l):(∀e∈es,bP e.name=0)->∀f∈l,∃e∈es,∃r,aG f.path=e.name::r:=by
 induction h with
 |nil=>intro _ f hf;cases hf
 | @file e es l j _ ih=>
  intro a f hf;rcases a0.1 hf with rfl|hf
  ·exact⟨e,by simp,[],oL (lu (a e (by simp)))⟩
  ·obtain⟨b,c,d⟩:=ih (λx i=>a x (by simp[i])) f hf;exact⟨b,by simp[c],d⟩
 | @dir e es m l j q k o h n ih=>
  intro a f hf;rcases a5.1 hf with hf|hf
  ·obtain⟨g,p,rfl⟩:=a6.1 hf;exact⟨e,by simp,aG g.path,lF (lu (a e (by simp))) _⟩
  ·obtain⟨b,c,d⟩:=ih (λx i=>a x (by simp[i])) f hf;exact⟨b,by simp[c],d⟩
theorem yA{p n:List UInt8}(hn:n.count 47=0){x:List UInt8}{r:List (List UInt8)}(h:aG p=x::r)(b:x≠n):under p n=none:=by
 cases a:under p n with
 |none=>rfl
 |some q=>
  have:=jn a;rw[this,lF hn]at h;cases h;exact absurd rfl b
theorem vp{a b:List UInt8}(h:Op.bytesLess a b=true):b≠a:=λe=>by rw[e,mV]at h;cases h
theorem dn.apart{ne:Bool}{L:List Ob}{e:aI}{es:List aI}{l:List Fi}{p:Option (List UInt8)}(h:dn ne L es l)(hn:∀x∈e::es,bP x.name=0)(hr:fl p (e::es)):∀f∈l,∃x r,aG f.path=x::r/\Op.bytesLess e.name x=true:=λf d=>by
 obtain⟨a,b,r,c⟩:=h.fst (λx g=>hn x (by simp[g])) f d;exact⟨a.name,r,c,Eg hr.2 a b⟩
def Made(ne:Bool)(L0 L:List Ob)(c es:List aI)(p:Option (List UInt8))(r:Int×Int×List Ob):Prop:=
 ∃b,L<+:b/\ak b/\((r.2.1=15/\ne=false)\/∃a,r=aB b (eT (c++a))/\fl p a/\(∀e∈a,jo b e)/\a.length<=es.length/\(ne=true->a=es/\b=L))
theorem dn.Na{ne:Bool}{L0:List Ob}(Z:ak L0){es:List aI}{l:List Fi}(h:dn ne L0 es l):∀(n:Nat) (L:List Ob) (g:List aI) (p:Option (List UInt8)),L0<+:L->ak L->fl p es->(∀e∈es,jo L0 e)->es.length<=60->mu l<n->Made ne L0 L g es p (aV n L g l):=by
 induction h with
 |nil=>
  intro n L g p k E y w j U;obtain⟨n,rfl⟩:∃m,n=m+1:=⟨n-1,by omega⟩;refine⟨L,ah _,E,.inr ⟨[],?_,trivial,λe w=>(by cases w),bb _,λ_=>⟨rfl,rfl⟩⟩⟩;rw[b1];rfl
 | @file e es l hm h ih=>
  intro n L g p k E y w j U;obtain⟨n,rfl⟩:∃m,n=m+1:=⟨n-1,by omega⟩;rw[nH]at U;have N:=w e (by simp);unfold aV;rw[if_pos (lu N.name)];obtain⟨P,J,K,D⟩:=ih n L (g++[e]) (some e.name) k E y.2 (λx k=>w x (by simp[k])) (by simp at j;omega) (by omega);refine⟨P,J,K,D.imp id ?_⟩;rintro⟨o,O,W,k3,k4,Y⟩;refine⟨e::o,?_,⟨y.1,W⟩,λx hx2=>?_,by simp;omega,λh=>⟨by rw[(Y h).1],(Y h).2⟩⟩
  ·rw[show g++e::o=(g++[e])++o by simp];exact O
  ·rcases a0.1 hx2 with rfl|hx2
   ·exact N.mono (k.trans J)
   ·exact k3 x hx2
 | @dir e es m l hm S am h1 h ao ih=>
  intro n L g p k E y w j U;have N:=w e (by simp);have hs:=lu N.name;by_cases T:m=[]
  ·subst T;have t:ne=false:=by cases ne with|false=>rfl|true=>exact absurd rfl (am rfl)
   obtain ⟨P, J, K, D⟩ := ih n L g p k E (by
    cases p with
    |none=>exact Nv y.2
    |some q=>exact Nu (y.1 q rfl) y.2) (λx k=>w x (by simp[k])) (by simp at j;omega) (by simpa using U)
   refine⟨P,J,K,D.imp id ?_⟩;rintro⟨o,O,W,k3,k4,Y⟩;exact⟨o,O,W,k3,by simp;omega,λh=>by rw[t]at h;cases h⟩
  obtain⟨n,rfl⟩:∃m,n=m+1:=⟨n-1,by omega⟩;obtain⟨v,m0,rfl⟩:∃v m0,m=v::m0:=by cases m with|nil=>exact absurd rfl T|cons a b=>exact⟨a,b,rfl⟩
  have R:df (pre e.name v).path=(e.name,v.path,true):=AQ hs
  have ac:bN e.name (pre e.name v::(m0.map (pre e.name)++l))=(v::m0,l):=Ci (m:=v::m0) λf hf=>by
   obtain⟨x,r,e1,e2⟩:=h.apart (λx k=>(w x k).name) y f hf;exact yA hs e1 (vp e2)
  have Q:¬(pre e.name v).path.count 47=0:=by
   show¬(e.name++47::v.path).count 47=0;rw[List.count_append,b4];omega
  have al:=xz e.name (v::m0);rw[C8]at U;rw[bs]at al;have ap:0<(e.name.length+1)*(m0.length+1):=Nat.mul_pos (by omega) (by omega);rw[be,a3];unfold aV;rw[if_neg Q,R,ac];dsimp only;obtain⟨q1,q2⟩:=iM Z S;obtain⟨z,J,K,D⟩:=ao n L [] none k E q1 q2 (Z.tree S).2.2.1 (by omega);have s:ne=false->∀{a:Int} {M:List Ob},Made ne L0 L g (e::es) p (a,15,M):=λh a M=>⟨L,ah _,E,.inl ⟨rfl,h⟩⟩;rcases D with⟨D,g4⟩|⟨i,O,W,k3,k4,Y⟩
  ·rw[if_pos (by rw[D];decide),D];exact s g4
  rw[a1]at O;rw[O];have H:i.length<=60:=by have:=(Z.tree S).2.2.1;omega
  have u:ne=true->aB z (eT i)=(e.id,0,L):=λh=>by
   obtain⟨e1,e2⟩:=Y h;rw[e1,e2];have ad:kindOf L e.id=2:=by rw[dO k (by omega)];exact S
   have hg:aj L e.id=aj L0 e.id:=ext_get k (by omega);have:=DZ E ad;rw[hg,(Z.tree S).1]at this;exact this
  rcases D0 K W k3 H with hz|hz
  ·rw[if_neg (by rw[hz];simp)];obtain⟨z1,z2⟩:=nO hz;have zx:L<+:(aB z (eT i)).2.2:=J.trans (jQ _);have zk:kindOf (aB z (eT i)).2.2 (aB z (eT i)).1=2:=by rw[<-fQ,z2];rfl
   have I:jo (aB z (eT i)).2.2 ⟨e.name,2,(aB z (eT i)).1,0⟩:=⟨N.name,by simp,by simp,z1,by simp,.inr rfl,zk⟩;obtain⟨P,j1,j2,j3⟩:=ih n (aB z (eT i)).2.2 (g++[⟨e.name,2,(aB z (eT i)).1,0⟩]) (some e.name) (k.trans zx) (jP K _) y.2 (λx k=>w x (by simp[k])) (by simp at j;omega) (by omega);refine⟨P,zx.trans j1,j2,j3.imp id ?_⟩;rintro⟨o,t1,t2,t3,t4,t5⟩;refine⟨⟨e.name,2,(aB z (eT i)).1,0⟩::o,?_,⟨y.1,t2⟩,λx hx2=>?_,by simp;omega,λh=>?_⟩
   ·rw[t1];simp
   ·rcases a0.1 hx2 with rfl|hx2
    ·exact I.mono j1
    ·exact t3 x hx2
   ·rw[u h]at t5⊢;refine⟨?_,(t5 h).2⟩;rw[(t5 h).1];congr 1
    have F:e.ax=0:=by have:=N.link;omega
    obtain⟨a,b,c,d⟩:=e;simp only at hm F;rw[hm,F]
  ·cases t:ne with
   |true=>rw[u t]at hz;cases hz
   |false=>
    rw[if_pos (by rw[hz];decide),hz];rw[t]at s;exact s rfl
theorem Po{ne:Bool}{L:List Ob}(a:ak L){t:Int}{l:List Fi}(h:fM ne L t l){n:Nat}(hn:mu l<n):((aV n L [] l).2.1=0\/(aV n L [] l).2.1=15)/\(ne=true->aV n L [] l=(t,0,L)):=by
 obtain⟨o,p⟩:=iM a h.1;have q:=(a.tree h.1).2.2.1;obtain⟨r,s,g,b⟩:=h.2.Na a n L [] none (ah _) a o p q hn;rcases b with⟨b,i⟩|⟨f,c,k,k3,u,m⟩
 ·exact⟨.inr b,λh=>by rw[i]at h;cases h⟩
 ·rw[a1]at c;rw[c];refine⟨D0 g k k3 (by omega),λj=>?_⟩;obtain⟨d,e⟩:=m j;rw[d,e,<-(a.tree h.1).1];exact DZ a h.1
theorem nq:∀(n:Nat) (L:List Ob) (a:List aI) (l:List Fi),ak L->ak (aV n L a l).2.2/\L<+:(aV n L a l).2.2
 |0,L,_,_,h=>⟨h,ah _⟩
 |n+1,L,a,[],h=>⟨jP h _,jQ _⟩
 |n+1,L,a,f::r,h=>by
  unfold aV;split
  ·exact nq n L _ r h
  obtain⟨b,c⟩:=nq n L [] (bN (df f.path).1 (f::r)).1 h;split
  ·exact⟨b,c⟩
  obtain⟨d,e⟩:=nq n _ (a++[⟨(df f.path).1,2,(aV n L [] (bN (df f.path).1 (f::r)).1).1,0⟩]) (bN (df f.path).1 (f::r)).2 b;exact⟨d,c.trans e⟩
theorem tf:∀(n:Nat) (L:List Ob) (c:List aI) (l:List Fi),ak L->mu l<n->(∀f∈l,f.mode≠2)->(aV n L c l).2.1=0->∃es,dn true (aV n L c l).2.2 es l/\aj (aV n L c l).2.2 (aV n L c l).1=eT (c++es)
 |0,_,_,_,_,h,_,_=>absurd h (by omega)
 |n+1,L,c,[],q,H,k,h=>by
  unfold aV at h⊢;obtain⟨F,t⟩:=nO h;exact⟨[],.nil,by rw[b1];exact t⟩
 |n+1,L,c,f::r,q,H,k,h=>by
  rw[nH]at H;unfold aV at h⊢;split at h
  ·rename_i p;rw[if_pos p];obtain⟨es,F,t⟩:=tf n L (c++[⟨f.path,f.mode,f.id,f.ax⟩]) r q (by omega) (λx P=>k x (by simp[P])) h;refine⟨⟨f.path,f.mode,f.id,f.ax⟩::es,.file (e:=⟨f.path,f.mode,f.id,f.ax⟩) (k f (by simp)) F,?_⟩;rw[t];simp
  ·rename_i p;rw[if_neg p];obtain⟨a,b,j,i,S⟩:=vX p;have y:=wW (r:=r) i;rw[nH]at y;have z:=tm (r:=r) i;have d:=qX a (f::r);rw[j]at h⊢;dsimp only at h⊢;generalize N:bN a (f::r)=I at*;obtain⟨m,D⟩:=I;dsimp only at*;split at h
   ·exact absurd h ‹_›
   rename_i o;rw[if_neg o];have o:(aV n L [] m).2.1=0:=a2.1 o;have w:∀g∈m,g.mode≠2:=λg u=>k (pre a g) (by rw[d];exact a5.2 (.inl (a6.2 ⟨g,u,rfl⟩)));have v:∀g∈D,g.mode≠2:=λg u=>k g (by rw[d];exact a5.2 (.inr u));obtain⟨M,Q,J⟩:=tf n L [] m q (by omega) w o;obtain⟨K,T⟩:=nq n L [] m q;obtain⟨U,E⟩:=nq n (aV n L [] m).2.2 (c++[⟨a,2,(aV n L [] m).1,0⟩]) D K;obtain⟨s,k3,R⟩:=tf n (aV n L [] m).2.2 (c++[⟨a,2,(aV n L [] m).1,0⟩]) D K (by omega) v h;have O:kindOf (aV n L [] m).2.2 (aV n L [] m).1=2:=by rw[<-fQ,J];rfl
   refine⟨⟨a,2,(aV n L [] m).1,0⟩::s,?_,by rw[R];simp⟩;rw[d];refine .dir (e:=⟨a,2,(aV n L [] m).1,0⟩) rfl (by rw[dO E (by simp only[];omega)];exact O) (λ_=>z) ?_ k3;simp only[];rw[ext_get E (by omega),J];rw[a1];exact Q.mono E
theorem qy:∀{l:List Fi} {p:Option Fi},ez p l=0->∀f∈l,(cc f.path).2=0/\(f.mode=1\/f.mode=3)
 |f::r,p,h,g,hg=>by
  unfold ez at h;split at h
  ·exact absurd h ‹_›
  split at h
  ·cases h
  split at h
  ·exact absurd h ‹_›
  rcases a0.1 hg with rfl|hg
  ·exact⟨by simpa using‹¬(cc _).2≠0›,by omega⟩
  ·exact qy h g hg
theorem iW{l:List Fi}(h:cu l=0):l.length<=60/\∀f∈l,(cc f.path).2=0/\(f.mode=1\/f.mode=3):=by
 unfold cu at h;split at h
 ·cases h
 ·exact⟨by omega,qy h⟩
theorem oM{s:List UInt8}(h:(cc s).2=0):eR (aG s)=0/\(aG s).length<=8/\(cc s).1=aG s:=by
 unfold cc at h⊢;split at h
 ·rename_i a;split at h
  ·cases h
  ·rename_i b;rw[if_pos a,if_neg b];exact⟨a,by omega,rfl⟩
 ·exact absurd h ‹_›
theorem ym{s:List UInt8}(h1:eR (aG s)=0)(h2:(aG s).length<=8):(cc s).2=0:=by
 unfold cc;rw[if_pos h1,if_neg (by omega)]
theorem n9{L:List Ob}(a:ak L)(l:List Fi):ak (cG L l).2.2/\L<+:(cG L l).2.2:=by
 unfold cG;split
 ·exact⟨a,ah _⟩
 ·exact nq _ _ _ _ a
theorem qw{L:List Ob}(e:ak L){l:List Fi}(h:(cG L l).2.1=0):cu l=0/\fM true (cG L l).2.2 (cG L l).1 l:=by
 unfold cG at h⊢;split at h
 ·exact absurd h ‹_›
 rename_i a;rw[if_neg a];have a:cu l=0:=by simpa using a
 obtain⟨g,c,b⟩:=tf _ L [] l e (Nat.lt_succ_self _) (λf d=>by have:=(iW a).2 f d;omega) h;refine⟨a,by rw[<-fQ,b];rfl,?_⟩;rw[b];rw[a1];exact c
def full(ins:List (List UInt8))(f:Fi):Fi:=⟨bZ (ins++[f.path]),f.mode,f.id,f.ax⟩
theorem E9:∀(ins:List (List UInt8)) (a b:List UInt8),bZ (ins++[a++47::b])=bZ (ins++[a]++[b])
 |[],a,b=>rfl
 |[x],a,b=>by simp[bZ]
 |x::y::r,a,b=>by
  have:=E9 (y::r) a b;simp[bZ]at this⊢;exact this
theorem Jv(ins:List (List UInt8))(n:List UInt8)(f:Fi):full ins (pre n f)=full (ins++[n]) f:=by
 unfold full pre;rw[E9]
theorem Ju:full []=id:=by funext f;rfl
theorem yq{L:List Ob}{n:Nat}{ins:List (List UInt8)}(hn:ins.length+n=8)(d:∀(t:Int) (y:List UInt8) (out a:List Fi),ins.length<8->out.length<=60->cO L n t (ins++[y]) out=(0,a)->∃l,fM false L t l/\a=out++l.map (full (ins++[y]))/\a.length<=60/\∀f∈l,(aG f.path).length+(ins.length+1)<=8):∀(es:List aI) (out a:List Fi),(∀e∈es,bP e.name=0)->(es≠[]->ins.length<8)->out.length<=60->eW (cO L n) ins es out=(0,a)->∃l,dn false L es l/\a=out++l.map (full ins)/\a.length<=60/\∀f∈l,(aG f.path).length+ins.length<=8
 |[],out,a,_,_,b,h=>by
  unfold eW at h;cases h;exact⟨[],.nil,by simp,b,λf hf=>by cases hf⟩
 |e::r,out,a,c,E,b,h=>by
  have v:=lu (c e (by simp));have j:=E (by simp);unfold eW at h;split at h
  ·rename_i k;split at h
   ·rename_i i;exact absurd (by rw[h]) i
   ·rename_i i;obtain⟨I,w,F,k3,H⟩:=d e.id e.name out (cO L n e.id (ins++[e.name]) out).2 j b (ch (a2.1 i) rfl);obtain⟨u,o,p,q,s⟩:=yq hn d r _ a (λx m=>c x (by simp[m])) (λ_=>j) k3 h;refine⟨I.map (pre e.name)++u,.dir k w.1 (λh=>by cases h) w.2 o,?_,q,λf hf=>?_⟩
    ·have z:full ins∘pre e.name=full (ins++[e.name]):=funext λf=>Jv ins e.name f;rw[p,F,ce,List.map_map,z,a9]
    ·rcases a5.1 hf with hf|hf
     ·obtain⟨g,D,rfl⟩:=a6.1 hf;have:=H g D;rw[show(pre e.name g).path=e.name++47::g.path from rfl,lF v,bs];omega
     ·exact s f hf
  ·rename_i k;split at h
   ·cases h
   ·rename_i i;obtain⟨u,o,p,q,s⟩:=yq hn d r _ a (λx m=>c x (by simp[m])) (λ_=>j) (by rw[bl,bj];omega) h;refine⟨⟨e.name,e.mode,e.id,e.ax⟩::u,.file k o,?_,q,λf hf=>?_⟩
    ·rw[p];simp[full]
    ·rcases a0.1 hf with rfl|hf
     ·rw[oL v];simp;omega
     ·exact s f hf
theorem JG{L:List Ob}(q:ak L):∀(n:Nat) (t:Int) (ins:List (List UInt8)) (out a:List Fi),ins.length+n=8->out.length<=60->cO L (n+1) t ins out=(0,a)->∃l,fM false L t l/\a=out++l.map (full ins)/\a.length<=60/\∀f∈l,(aG f.path).length+ins.length<=8:=by
 intro n;induction n with
 |zero=>
  intro t ins out a p b h;unfold cO at h;split at h
  ·cases h
  split at h
  ·cases h
  rename_i c k;have c:kindOf L t=2:=a2.1 c;have j:(aj L t).entries=[]:=List.eq_nil_of_length_eq_zero (by omega);rw[j]at h;unfold eW at h;cases h;exact⟨[],⟨c,by rw[j];exact .nil⟩,by simp,b,λf d=>by cases d⟩
 |succ n ih=>
  intro t ins out a p b h;rw[cO]at h;split at h
  ·cases h
  split at h
  ·cases h
  rename_i c k;have c:kindOf L t=2:=a2.1 c
  obtain ⟨l, e, g, k3, i⟩ := yq (L := L) (n := n + 1) (ins := ins) (by omega) (λt s out a u o m=>by
   obtain⟨l,e,g,k3,i⟩:=ih t (ins++[s]) out a (by rw[bl,bj];omega) o m;exact⟨l,e,g,k3,λf d=>by have:=i f d;rw[bl,bj]at this;exact this⟩) _ out a (λx r=>(qL (q.tree c).2.1 x r).1) (λ_=>by omega) b h
  exact⟨l,⟨c,e⟩,g,k3,i⟩
theorem qN{L:List Ob}(d:ak L){t:Int}(h:(bq L t).2=0):fM false L t (bq L t).1/\(bq L t).1.length<=60/\∀f∈(bq L t).1,(aG f.path).length<=8:=by
 unfold bq at h⊢;split at h
 ·rename_i a;rw[if_pos a];obtain⟨l,e,b,k3,g⟩:=JG d 8 t [] [] (cO L 9 t [] []).2 rfl (by simp) (ch a rfl);rw[a1,Ju,List.map_id]at b;rw[b]at k3⊢;exact⟨e,k3,λf c=>by simpa using g f c⟩
 ·exact absurd h ‹_›
theorem Bo{L:List Ob}{t:Int}(h:(bq L t).2≠0):(bq L t).1=[]:=by
 unfold bq at h⊢;split
 ·rename_i a;rw[if_pos a]at h;exact absurd rfl h
 ·rfl
def gA(f g:Fi):Prop:=aw f.path g.path=true/\under g.path f.path=none
theorem zj{f g:Fi}{a b:List UInt8}{r s:List (List UInt8)}(c:aG f.path=a::r)(hg:aG g.path=b::s)(h:Op.bytesLess a b=true):gA f g:=by
 refine⟨?_,?_⟩
 ·unfold aw;rw[c,hg,cw,if_neg (λe=>vp h e.symm)];exact h
 ·cases d:under g.path f.path with
  |none=>rfl
  |some q=>
   have:=jn d;rw[this,pX,c]at hg;cases hg;rw[mV]at h;cases h
theorem FU{n:List UInt8}(hn:n.count 47=0){f g:Fi}(h:gA f g):gA (pre n f) (pre n g):=by
 refine⟨?_,?_⟩
 ·unfold aw;rw[show(pre n f).path=n++47::f.path from rfl,show(pre n g).path=n++47::g.path from rfl,lF hn,lF hn,cw,if_pos rfl];exact h.1
 ·cases e:under (pre n g).path (pre n f).path with
  |none=>rfl
  |some q=>
   have c:=jn e;have a:n++47::g.path=(n++47::f.path)++47::q:=c;rw[a9,br]at a;have d:g.path=f.path++47::q:=by simpa using a
   have b:=h.2;rw[d,mJ]at b;cases b
theorem dn.si{ne:Bool}{L:List Ob}(E:ak L){es:List aI}{l:List Fi}(h:dn ne L es l):∀{p:Option (List UInt8)},fl p es->(∀e∈es,jo L e)->l.Pairwise gA/\(∀f∈l,eR (aG f.path)=0/\(f.mode=1\/f.mode=3)):=by
 induction h with
 |nil=>intro p _ _;exact⟨.nil,λf hf=>by cases hf⟩
 | @file e es l z h ih=>
  intro p j b;have a:=b e (by simp);have i:=lu a.name;obtain⟨s,w⟩:=ih j.2 (λx c=>b x (by simp[c]));refine⟨bn.2 ⟨λg d=>?_,s⟩,λf hf=>?_⟩
  ·obtain⟨x,r,k,n⟩:=h.apart (λx c=>(b x c).name) j g d;exact zj (oL i) k n
  ·rcases a0.1 hf with rfl|hf
   ·refine⟨?_,?_⟩
    ·rw[oL i];simp[eR,a.name]
    ·have:=a.m1;have:=a.m3;show e.mode=1\/e.mode=3;omega
   ·exact w f hf
 | @dir e es m l z y D s h o ih=>
  intro p j b;have a:=b e (by simp);have i:=lu a.name;obtain⟨F,H⟩:=iM E y;obtain⟨t,q⟩:=o F H;obtain⟨u,v⟩:=ih j.2 (λx c=>b x (by simp[c]));refine⟨List.pairwise_append.2 ⟨?_,u,λf hf g d=>?_⟩,λf hf=>?_⟩
  ·rw[List.pairwise_map];exact t.imp λh=>FU i h
  ·obtain⟨f,hf,rfl⟩:=a6.1 hf;obtain⟨x,r,k,n⟩:=h.apart (λx c=>(b x c).name) j g d;exact zj (lF i f.path) k n
  ·rcases a5.1 hf with hf|hf
   ·obtain⟨g,d,rfl⟩:=a6.1 hf;refine⟨?_,(q g d).2⟩;rw[show(pre e.name g).path=e.name++47::g.path from rfl,lF i];unfold eR;rw[if_pos a.name];exact(q g d).1
   ·exact v f hf
theorem vH:∀{l:List Fi} {p:Option Fi},(∀g,p=some g->∀f∈l,gA g f)->l.Pairwise gA->(∀f∈l,(cc f.path).2=0/\(f.mode=1\/f.mode=3))->ez p l=0
 |[],_,_,_,_=>rfl
 |f::r,p,k,h,b=>by
  obtain⟨c,d⟩:=bn.1 h
  have i:dU p f=0:=by
   cases p with
   |none=>rfl
   |some g=>
    have:=k g rfl f (by simp);unfold dU;simp[this.1,this.2]
  have e:=b f (by simp);unfold ez;rw[if_neg (by simpa using e.1),if_neg (by omega),if_neg (by simpa using i)];exact vH (λg j x a=>by cases j;exact c x a) d λx a=>b x (by simp[a])
theorem E3{ne:Bool}{L:List Ob}(c:ak L){t:Int}{l:List Fi}(h:fM ne L t l)(h1:l.length<=60)(h2:∀f∈l,(aG f.path).length<=8):cu l=0:=by
 obtain⟨i,j⟩:=iM c h.1;obtain⟨d,b⟩:=h.2.si c i j;unfold cu;rw[if_neg (by omega)];exact vH (λg e=>by cases e) d λf a=>⟨ym (b f a).1 (h2 f a),(b f a).2⟩
theorem fM.mono{ne:Bool}{L M:List Ob}(a:L<+:M){t:Int}{l:List Fi}(h:fM ne L t l):fM ne M t l:=by
 have b:=h.1;exact⟨by rw[dO a (by omega)];exact b,by rw[ext_get a (by omega)];exact h.2.mono a⟩
def isDir(d:List UInt8)(e:aI):Bool:=decide (e.name=d)&&decide (e.mode=2)
def gL(L:List Ob):Int->List (List UInt8)->Int×Int
 |t,[]=>(t,0)
 |t,d::a=>if kindOf L t≠2 then(0,9)else match(aj L t).entries.find? (isDir d)with
  |some e=>gL L e.id a
  |none=>(0,9)
def cY(L:List Ob)(t:Int)(dir:List UInt8):Int×Int:=if(cc dir).2≠0 then(0,(cc dir).2)else gL L t (cc dir).1
def nS(d:List UInt8)(f:Fi):Option Fi:=(under f.path d).map λp=>⟨p,f.mode,f.id,f.ax⟩
def ee(d:List UInt8)(l:List Fi):List Fi:=l.filterMap (nS d)
theorem Gs{d:List UInt8}{l m:List Fi}:ee d (l++m)=ee d l++ee d m:=List.filterMap_append
theorem zN{d:List UInt8}:∀m:List Fi,ee d (m.map (pre d))=m
 |[]=>rfl
 |f::m=>by
  have:=zN (d:=d) m;unfold ee at this⊢;rw[be,cd,show nS d (pre d f)=some f from ?_]
  ·simp only[];rw[this]
  ·unfold nS;rw[show(pre d f).path=d++47::f.path from rfl,mJ];rfl
theorem zM{d:List UInt8}{l:List Fi}(h:∀f∈l,under f.path d=none):ee d l=[]:=by
 unfold ee;rw[List.filterMap_eq_nil_iff];intro f a;unfold nS;rw[h f a];rfl
theorem Gt(d e:List UInt8)(l:List Fi):ee e (ee d l)=ee (d++47::e) l:=by
 unfold ee;rw[List.filterMap_filterMap];congr 1
 funext f;unfold nS;cases h:under f.path d with
 |none=>
  cases a:under f.path (d++47::e)with
  |none=>rfl
  |some q=>
   have:=jn a;rw[a9,a3]at this;rw[this,mJ]at h;cases h
 |some p=>
  have b:=jn h;show Option.map _ (under p e)=_;cases a:under p e with
  |none=>
   cases c:under f.path (d++47::e)with
   |none=>rfl
   |some q=>
    have:=jn c;rw[b,a9,br]at this;have:p=e++47::q:=by simpa using this
    rw[this,mJ]at a;cases a
  |some q=>
   have:=jn a;rw[b,this,show d++47::(e++47::q)=(d++47::e)++47::q by simp,mJ]
theorem dn.down{L:List Ob}{d:List UInt8}(hd:d.count 47=0){es:List aI}{l:List Fi}(h:dn true L es l):∀{p:Option (List UInt8)},fl p es->(∀e∈es,bP e.name=0)->
  (∃e,es.find? (isDir d)=some e/\fM true L e.id (ee d l)/\ee d l≠[])\/(es.find? (isDir d)=none/\ee d l=[]):=by
 induction h with
 |nil=>intro p _ _;exact .inr ⟨rfl,rfl⟩
 | @file e es l k h ih=>
  intro p b a;have c:=lu (a e (by simp))
  have u:under e.name d=none:=by
   cases y:under e.name d with
   |none=>rfl
   |some q=>
    have:=jn y;rw[this,List.count_append,b4]at c;omega
  have hb:ee d (⟨e.name,e.mode,e.id,e.ax⟩::l)=ee d l:=by
   unfold ee;rw[cd,show nS d ⟨e.name,e.mode,e.id,e.ax⟩=none by unfold nS;rw[u];rfl]
  rw[hb,cf,show isDir d e=false by simp[isDir,k]];exact ih b.2 (λx o=>a x (by simp[o]))
 | @dir e es m l k w n v h z ih=>
  intro p b a;have c:=lu (a e (by simp));rw[cf,Gs];by_cases i:e.name=d
  ·subst i;rw[show isDir e.name e=true by simp[isDir,k]]
   have:ee e.name l=[]:=zM λf j=>by
    obtain⟨x,r,s,t⟩:=h.apart a b f j;exact yA c s (vp t)
   rw[this,b1,zN];exact .inl ⟨e,rfl,⟨w,v⟩,n rfl⟩
  ·rw[show isDir d e=false by simp[isDir,i]]
   have:ee d (m.map (pre e.name))=[]:=zM λf j=>by
    obtain⟨g,D,rfl⟩:=a6.1 j;exact yA hd (lF c g.path) i
   rw[this,a1];exact ih b.2 (λx o=>a x (by simp[o]))
theorem E4{L:List Ob}(k:ak L):∀(ds:List (List UInt8)) {t:Int} {l:List Fi},ds≠[]->(∀d∈ds,bP d=0)->fM true L t l->
  (∃u,gL L t ds=(u,0)/\fM true L u (ee (bZ ds) l)/\ee (bZ ds) l≠[])\/(gL L t ds=(0,9)/\ee (bZ ds) l=[])
 |[],_,_,h,_,_=>absurd rfl h
 |d::ds,t,l,_,j,h=>by
  have m:=lu (j d (by simp));obtain⟨p,q⟩:=iM k h.1;have a:=h.2.down m p (λx g=>(q x g).name);have n:=h.1;unfold gL;rw[if_neg (by simpa using n)];cases ds with
  |nil=>
   rcases a with⟨e,b,c,i⟩|⟨b,c⟩
   ·rw[b];exact .inl ⟨e.id,rfl,c,i⟩
   ·rw[b];exact .inr ⟨rfl,c⟩
  |cons f ds=>
   have o:bZ (d::f::ds)=d++47::bZ (f::ds):=rfl;rw[o,<-Gt];rcases a with⟨e,b,c,i⟩|⟨b,c⟩
   ·rw[b];exact E4 k (f::ds) (by simp) (λx g=>j x (by simp[g])) c
   ·rw[b,c];exact .inr ⟨rfl,rfl⟩
theorem oD:∀{l:List (List UInt8)},eR l=0->∀d∈l,bP d=0
 |x::r,h,d,hd=>by
  unfold eR at h;split at h
  ·rcases a0.1 hd with rfl|hd
   ·assumption
   ·exact oD h d hd
  ·exact absurd h ‹_›
theorem zP:∀{x y z:List (List UInt8)},cw x y=true->cw y (x++z)=true->∃w,w≠[]/\y=x++w
 |[],[],_,h,_=>by simp[cw]at h
 |[],b::y,_,_,_=>⟨b::y,by simp,rfl⟩
 |a::x,[],_,h,_=>by simp[cw]at h
 |a::x,b::y,z,d,c=>by
  rw[a3]at c;unfold cw at d c;by_cases e:a=b
  ·subst e;rw[if_pos rfl]at d c;obtain⟨w,f,e⟩:=zP d c;exact⟨w,f,by rw[e];rfl⟩
  ·rw[if_neg e]at d;rw[if_neg (Ne.symm e)]at c;have:=GZ d;rw[c]at this;cases this
theorem E8:∀{x w:List (List UInt8)},x≠[]->w≠[]->bZ (x++w)=bZ x++47::bZ w
 |[],_,h,_=>absurd rfl h
 |[a],b::w,_,_=>by simp[bZ]
 |a::c::x,w,_,d=>by
  have:=E8 (x:=c::x) (w:=w) (by simp) d;simp[bZ]at this⊢;exact this
 |[a],[],_,h=>absurd rfl h
theorem FT{f g h:Fi}(h1:gA f g)(h2:aw g.path h.path=true):gA f h:=by
 refine⟨jc h1.1 h2,?_⟩;cases d:under h.path f.path with
 |none=>rfl
 |some q=>
  exfalso;have e:=jn d;have a:=h2;unfold aw at a;rw[e,pX]at a;obtain⟨w,i,b⟩:=zP h1.1 a
  have c:g.path=f.path++47::bZ w:=by
   rw[<-mK g.path,b,E8 (pY _) i,mK]
  have:=h1.2;rw[c,mJ]at this;cases this
theorem vG:∀{l:List Fi} {p:Option Fi},ez p l=0->l.Pairwise gA/\∀g,p=some g->∀f∈l,gA g f
 |[],_,_=>⟨.nil,λg _ f j=>by cases j⟩
 |f::r,p,h=>by
  unfold ez at h;split at h
  ·exact absurd h ‹_›
  split at h
  ·cases h
  split at h
  ·exact absurd h ‹_›
  rename_i a;obtain⟨e,i⟩:=vG h;have c:=i f rfl;refine⟨bn.2 ⟨c,e⟩,λg k x hx=>?_⟩;subst k
  have b:gA g f:=by
   have a:dU (some g) f=0:=a2.1 a;unfold dU at a;simp only at a;split at a
   ·cases a
   split at a
   ·cases a
   ·rename_i n d;refine⟨by simpa using n,?_⟩;cases m:under f.path g.path with
    |none=>rfl
    |some _=>rw[m]at d;simp at d
  rcases a0.1 hx with rfl|hx
  ·exact b
  ·exact FT b (c x hx).1
theorem vd{n:List UInt8}(hn:n.count 47=0){f g:Fi}(h:gA (pre n f) (pre n g)):gA f g:=by
 have a:=h.1;unfold aw at a;rw[show(pre n f).path=n++47::f.path from rfl,show(pre n g).path=n++47::g.path from rfl,lF hn,lF hn,cw,if_pos rfl]at a;refine⟨a,?_⟩;cases c:under g.path f.path with
 |none=>rfl
 |some q=>
  have e:=jn c;have b:=h.2;rw[show(pre n g).path=(pre n f).path++47::q by show n++47::g.path=_;rw[e];simp[pre],mJ]at b;cases b
end Go.Nest
end
