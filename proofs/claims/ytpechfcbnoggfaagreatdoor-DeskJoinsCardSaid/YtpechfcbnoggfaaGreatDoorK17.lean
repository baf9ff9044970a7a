import Derived.Test.YtpechfcbnoggfaaGreatDoorQ4
import Derived.Test.YtpechfcbnoggfaaGreatDoorI1
import Derived.Test.YtpechfcbnoggfaaGreatDoorV36
set_option maxHeartbeats 4000000
set_option linter.unusedVariables false
set_option linter.unusedSimpArgs false
open Decidable renaming not_not->ac
open List renaming length_cons->Q,getElem?_eq_getElem->S,length_append->U,length_nil->W,take_succ_eq_append_getElem->Y,pairwise_iff_getElem->Z,length_take->ah,map_cons->al,mem_map->am,take_length->ap,length_map->ar,mem_iff_getElem->a0,getElem_mem->a1,mem_append->a2,map_append->a3,take_of_length_le->a4,mem_cons->a6,getElem_set->bb,append_nil->be
open List.Sublist renaming refl->a9,append->bi
open Nat renaming beq->ad,zero_le->a5,le_trans->bh
section
namespace Go.Nest
open Go Go.AM Go.Proofs
open Go.Proofs.YtpechfcbnoggfaaGreatDoor (tab tabOk)
set_option maxRecDepth 4000
theorem Jm(x:It)(p:List UInt8):aa Tryz.prog 200 [.st (aM x),.c (.bp [.str p])] [] (Rt (.c (.bool (eK p x))) []):=by
 refine af (n:=8) (n0:=0) tabOk Tryz.call200 Tryz.func200 ?_;intro hb;repeat'((conv=>whnf);first|refine aL ?_|fail)
 rfl
theorem Ke(l:List It)(p:List UInt8):aa Tryz.prog 199 [.c (.bs 5 It aM l),.c (.fn 200 [.bp [.str p]])] [] (Rt (.c (.int .i64 (bD (eK p) l))) []):=by
 refine af (n:=19) (n0:=0) tabOk Tryz.call199 Tryz.func199 ?_;intro hb;have hb:l.length<=9223372036854775807:=hb.1.1;refine lp Nat (λi=>⟨[(0,.c (.bs 5 It aM l)),(1,.c (.fn 200 [.bp [.str p]])),(7,.c (.int .i64 l.length)),(8,.c (.int .i64 i))],[]⟩) (λi=>i<=l.length/\(l.take i).any (eK p)=false) (λi=>l.length-i) 0 [] [] ?_ ?_ (λi b=>?_)
 ·simp
 ·repeat' first|exact trivial|exact rfl|refine And.intro ?_ ?_
 refine dec (λd=>?_) (λd=>?_)
 ·have a:i<l.length:=by omega
  repeat'((conv=>whnf);first|refine⟨_,_,rfl,S (by omega),?_⟩|fail)
  refine cl [] [] (Jm l[i] p) ?_;refine aS (λh=>?_) (λh=>?_)
  ·exact aJ (jG a b.2 h)
  ·repeat'(refine I6 ?_)
   refine ag (i+1) [] [] ⟨a,ij a b.2 h⟩ (by simp only[];omega) ?_;repeat' first|exact trivial|exact rfl|refine And.intro ?_ ?_
 ·repeat'((conv=>whnf);first|refine aJ ?_|fail)
  have:=b.2;rw[a4 (by omega)]at this;exact ky this
theorem Bu(L:List Ob)(l:List It)(h:Int)(p:List UInt8):aa Tryz.prog 119 [.c (.bp [.bp [.bs 6 Ob an L],.bs 5 It aM l,.int .i64 h]),.c (.str p)] [] (Rt (.c (.int .i64 (bD (eK p) l))) []):=by
 refine af (n:=11) (n0:=0) tabOk Tryz.call119 Tryz.func119 ?_;intro hb;refine cl [] [] (Ke l p) ?_;exact rx [] []
theorem pos_at{l:List It}{p:List UInt8}{k:Nat}(hk:k<=l.length)(h1:∀g∈l.take k,aw g.path p=true)(h2:∀h:k<l.length,aw l[k].path p=false):kE l p=k:=by
 unfold kE;rw[(uF (p:=λy:It=>aw y.path p) hk h1 h2).1,ah,Nat.min_eq_left hk]
theorem D1(L:List Ob)(l:List It)(h:Int)(x:It)(F:x.path.length<=4000000)(J:∀y∈l,y.path.length<=4000000)(hl:l.length<=60):aa Tryz.prog 117 [.c (.ptr 0 0),.st (aM x)] [.box [.ptr 1 0,.rw 3,.int .i64 h],.box [.rw 2],.row 6 Ob an L,.row 5 It aM l] (Rt (.c (.int .i64 (fW l x).1)) [.box [.ptr 1 0,.rw 5,.int .i64 h],.box [.rw 4],.dead,.dead,.row 6 Ob an L,.row 5 It aM (fW l x).2]):=by
 refine af (n:=106) (n0:=4) tabOk Tryz.call117 Tryz.func117 ?_;intro hb;refine cl [] [] (xR x.path F) ?_;refine ay (λz=>?_) (λz=>?_)
 ·rw[show fW l x=_ from if_pos z];exact rx [] [.s 0,.s 1,.s 2,.s 3,.s 2,.s 3]
 have w:fW l x=_:=if_neg (λh=>h z);refine lp Nat (λi=>⟨[(0,.c (.ptr 0 0)),(3,.c (.ptr 4 0)),(27,.c (.rw 3)),(28,.c (.int .i64 l.length)),(29,.c (.int .i64 i))],[.box [.ptr 1 0,.rw 3,.int .i64 h],.box [.rw 2],.row 6 Ob an L,.row 5 It aM l]++[.box (aM x)]⟩) (λi=>i<=l.length/\(l.take i).any (pr x.path)=false) (λi=>l.length-i) 0 [] [.s 0,.s 1,.s 2,.s 3,.s 4] ?_ ?_ (λi v=>?_)
 ·simp
 ·repeat' first|exact trivial|exact rfl|refine And.intro ?_ ?_
 refine dec (λK=>?_) (λK=>?_)
 ·have a:i<l.length:=by omega
  have m:=J _ (a1 a);refine⟨i,⟨rfl,a⟩,?_⟩;refine⟨l[i],S a,?_⟩;have t:pr x.path l[i]=((ga x.path l[i].path).2||(ga l[i].path x.path).2):=rfl;have s:=λh=>qk (l:=l) (p:=pr x.path) a h;have E:=λh=>ij (p:=pr x.path) a v.2 h;generalize l[i]=y at*;refine cl [] [] (rV x.path y.path m) ?_;refine cl [] [] (rV y.path x.path F) ?_;refine aS (λo=>?_) (λo=>?_)
  ·rw[o,Bool.true_or]at t;have e:fW l x=(10,l):=w.trans (if_pos (s t));rw[e];exact rx [] [.s 0,.s 1,.s 2,.s 3,.s 2,.s 3]
  ·rw[o,Bool.false_or]at t;refine aS (λf=>?_) (λf=>?_)
   ·have e:fW l x=(10,l):=w.trans (if_pos (s (t.trans f)));rw[e];exact rx [] [.s 0,.s 1,.s 2,.s 3,.s 2,.s 3]
   ·repeat'(refine I6 ?_)
    refine ag (i+1) [] [.s 0,.s 1,.s 2,.s 3,.s 4] ⟨a,E (t.trans f)⟩ (by simp only[];omega) ?_;repeat' first|exact trivial|exact rfl|refine And.intro ?_ ?_
 ·have b:=v.2;rw[a4 (by omega)]at b;have H:=w.trans (if_neg (by rw[b];decide));refine cl [] [] (Bu L l h x.path) ?_;refine dec (λo=>?_) (λo=>?_)
  ·have e:fW l x=_:=H.trans (if_pos o);rw[e];obtain⟨y,O,m⟩:=wP.1 o
   have a:(bD (eK x.path) l).toNat<l.length:=by
    rcases qU (p:=eK x.path) (l:=l)with⟨q,_⟩|⟨k,N,q,_⟩
    ·omega
    ·omega
   refine⟨false,.grow,(.l [0,1,2,3,4,5,6,7]),by kernel_rfl,.inl ?_⟩;refine⟨(bD (eK x.path) l).toNat,⟨by omega,a⟩,?_⟩;refine⟨_,x,S a,⟨Nat.le_refl 5,rfl⟩,?_⟩;exact rx [] [.s 0,.s 1,.s 2,.s 3,.s 2,.s 3]
  ·have I:=H.trans (if_neg o);refine dec (λf=>?_) (λf=>?_)
   ·have f:(l.length:Int)=60:=f;have e:fW l x=_:=I.trans (if_pos (by omega));rw[e];exact rx [] [.s 0,.s 1,.s 2,.s 3,.s 2,.s 3]
   ·have f:¬(l.length:Int)=60:=f;have e:fW l x=_:=I.trans (if_neg (by omega));rw[e];refine lp Nat (λi=>⟨[(0,.c (.ptr 0 0)),(3,.c (.ptr 4 0)),(14,.c (.int .i64 i))],[.box [.ptr 1 0,.rw 3,.int .i64 h],.box [.rw 2],.row 6 Ob an L,.row 5 It aM l]++[.box (aM x)]⟩) (λi=>(i<=l.length/\True)/\∀g∈l.take i,aw g.path x.path=true) (λi=>l.length-i) 0 [] [.s 0,.s 1,.s 2,.s 3,.s 4] ?_ ?_ (λi v=>?_)
    ·simp
    ·repeat' first|exact trivial|exact rfl|refine And.intro ?_ ?_
    obtain⟨⟨j,_⟩,r⟩:=v;refine⟨false,.grow,(.l [0,1,2,3,4,5,6,7,8,9,10,11,12,13,14,15,16,17,18,19]),by kernel_rfl,.inl ?_⟩;refine dec (λM=>?_) (λM=>?_)
    ·have a:i<l.length:=by omega
     have m:=J _ (a1 a);refine⟨i,⟨rfl,a⟩,?_⟩;refine⟨l[i],S a,?_⟩;refine cl [] [] (mh l[i].path x.path m F) ?_;refine aS (λD=>?_) (λD=>?_)
     ·repeat'(refine I6 ?_)
      refine ag (i+1) [] [.s 0,.s 1,.s 2,.s 3,.s 4] ⟨⟨a,trivial⟩,λg u=>?_⟩ (by simp only[];omega) ?_
      ·rw[Y a,a2,List.mem_singleton]at u;rcases u with u|rfl
       ·exact r g u
       ·exact D
      ·repeat' first|exact trivial|exact rfl|refine And.intro ?_ ?_
     ·have b:∀h:i<l.length,aw l[i].path x.path=false:=λ_=>D;have d:kE l x.path=i:=pos_at j r b;refine⟨false,.grow,(.l [0,1,2,3,4,5,6,7,8,9,10,11]),by kernel_rfl,.inl ?_⟩;refine⟨[x],rfl,?_⟩;refine cl [] [3,5] (Ce l x i j (by omega)) ?_;(conv=>whnf);rw[d];exact rx [] [.s 0,.s 1,.s 2,.s 3,.s 2,.s 6]
    ·have b:∀h:i<l.length,aw l[i].path x.path=false:=λh=>absurd h (by omega);have d:kE l x.path=i:=pos_at j r b;refine⟨false,.grow,(.l [0,1,2,3,4,5,6,7,8,9,10,11]),by kernel_rfl,.inl ?_⟩;refine⟨[x],rfl,?_⟩;refine cl [] [3,5] (Ce l x i j (by omega)) ?_;(conv=>whnf);rw[d];exact rx [] [.s 0,.s 1,.s 2,.s 3,.s 2,.s 6]
def iC(l:List It)(p:List UInt8)(b:List UInt8):Int×List It:=if 400<b.length then(4,l)else fW l ⟨p,b,false,0,0⟩
def gS(L:List Ob)(l:List It)(p:List UInt8)(ax id:Int):Int×List It:=if ax<0\/4<=ax then(1,l)else if kindOf L id≠3 then(9,l)else fW l ⟨p,[],true,id,ax⟩
theorem PK(L:List Ob)(l:List It)(h:Int)(p b:List UInt8)(e:p.length<=4000000)(d:∀y∈l,y.path.length<=4000000)(hl:l.length<=60):aa Tryz.prog 55 [.c (.ptr 0 0),.c (.str p),.c (.bs 1 UInt8 aN b)] [.box [.ptr 1 0,.rw 3,.int .i64 h],.box [.rw 2],.row 6 Ob an L,.row 5 It aM l] (Rt (.c (.int .i64 (iC l p b).1)) [.box [.ptr 1 0,.rw 5,.int .i64 h],.box [.rw 4],.dead,.dead,.row 6 Ob an L,.row 5 It aM (iC l p b).2]):=by
 refine af (n:=16) (n0:=4) tabOk Tryz.call55 Tryz.func55 ?_;intro hb;refine dec (λa=>?_) (λa=>?_)
 ·rw[show iC l p b=_ from if_pos (by have a:(400:Int)<b.length:=a;omega)];exact rx [] [.s 0,.s 1,.s 2,.s 3,.s 2,.s 3]
 have a:¬(400:Int)<b.length:=a;rw[show iC l p b=_ from if_neg (by omega)];refine cl [] [] (vL b (by omega)) ?_;refine cl [4] [0,1,2,3] (D1 L l h ⟨p,b,false,0,0⟩ e d hl) ?_;exact rx [] [.s 0,.s 1,.s 2,.s 3,.s 5,.s 6]
theorem Lh(L:List Ob)(g:ak L)(l:List It)(h:Int)(p:List UInt8)(ax id:Int)(j:p.length<=4000000)(i:∀y∈l,y.path.length<=4000000)(hl:l.length<=60):aa Tryz.prog 122 [.c (.ptr 0 0),.c (.str p),.c (.int .i64 ax),.c (.int .i64 id)] [.box [.ptr 1 0,.rw 3,.int .i64 h],.box [.rw 2],.row 6 Ob an L,.row 5 It aM l] (Rt (.c (.int .i64 (gS L l p ax id).1)) [.box [.ptr 1 0,.rw 5,.int .i64 h],.box [.rw 4],.dead,.dead,.row 6 Ob an L,.row 5 It aM (gS L l p ax id).2]):=by
 refine af (n:=37) (n0:=4) tabOk Tryz.call122 Tryz.func122 ?_;intro hb;refine cl [] [] (ft L g id) ?_;have f:=fQ (l:=L) (id:=id);refine dec (λa=>?_) (λa=>?_)
 ·rw[show gS L l p ax id=_ from if_pos (.inl a)];exact rx [] [.s 0,.s 1,.s 2,.s 3,.s 2,.s 3]
 refine dec (λb=>?_) (λb=>?_)
 ·rw[show gS L l p ax id=_ from if_pos (.inr b)];exact rx [] [.s 0,.s 1,.s 2,.s 3,.s 2,.s 3]
 have e:gS L l p ax id=_:=if_neg (λh=>h.elim a b);refine ay (λd=>?_) (λd=>?_)
 ·rw[show gS L l p ax id=_ from e.trans (if_pos (by rw[<-f];exact d))];exact rx [] [.s 0,.s 1,.s 2,.s 3,.s 2,.s 3]
 rw[show gS L l p ax id=_ from e.trans (if_neg (by rw[<-f];exactλh=>h d))];refine cl [] [0,1,2,3] (D1 L l h ⟨p,[],true,id,ax⟩ j i hl) ?_;exact rx [] [.s 0,.s 1,.s 2,.s 3,.s 5,.s 6]
theorem Nh(L:List Ob)(l:List It)(h:Int)(p:List UInt8)(hl:l.length<=60):aa Tryz.prog 56 [.c (.ptr 0 0),.c (.str p)] [.box [.ptr 1 0,.rw 3,.int .i64 h],.box [.rw 2],.row 6 Ob an L,.row 5 It aM l] (Rt (.c (.int .i64 (iI l p).1)) [.box [.ptr 1 0,.rw 5,.int .i64 h],.box [.rw 4],.dead,.dead,.row 6 Ob an L,.row 5 It aM (iI l p).2]):=by
 refine af (n:=22) (n0:=4) tabOk Tryz.call56 Tryz.func56 ?_;intro hb;refine cl [] [] (Bu L l h p) ?_;refine dec (λb=>?_) (λb=>?_)
 ·rw[show iI l p=_ from if_pos b];exact rx [] [.s 0,.s 1,.s 2,.s 3,.s 2,.s 3]
 have a:(bD (eK p) l).toNat<l.length:=by
  rcases qU (p:=eK p) (l:=l)with⟨q,_⟩|⟨k,d,q,_⟩
  ·omega
  ·omega
 rw[show iI l p=_ from if_neg b];obtain⟨k,d⟩:∃k:Nat,bD (eK p) l=k:=⟨(bD (eK p) l).toNat,by omega⟩;rw[d]at a⊢;have a:k<l.length:=a;refine⟨i64 (by omega) (by omega),?_⟩;refine cl [] [3] (Io l k a (by omega)) ?_;exact rx [] [.s 0,.s 1,.s 2,.s 3,.s 2,.s 4]
theorem Bt{α:Type}{p:α->Bool}{l:List α}{i:Nat}(h:i<l.length):(l.take (i+1)).filter p=(l.take i).filter p++if p l[i]=true then[l[i]]else[]:=by
 rw[Y h,List.filter_append];congr 1
 by_cases a:p l[i]=true
 ·rw[if_pos a,List.filter_cons_of_pos a];rfl
 ·rw[if_neg a,List.filter_cons_of_neg a];rfl
theorem filter_le{α:Type}{p:α->Bool}{l:List α}{i:Nat}(h:i<=l.length):((l.take i).filter p).length<=i:=bh (List.length_filter_le ..) (by rw[ah];omega)
theorem Qm(L:List Ob)(l:List It)(h:Int)(p:List UInt8)(hl:l.length<=60):aa Tryz.prog 78 [.c (.ptr 0 0),.c (.str p)] [.box [.ptr 1 0,.rw 3,.int .i64 h],.box [.rw 2],.row 6 Ob an L,.row 5 It aM l] (Rt (.c (.int .i64 (uh l p).1)) [.box [.ptr 1 0,.rw 5,.int .i64 h],.box [.rw 4],.dead,.dead,.row 6 Ob an L,.row 5 It aM (uh l p).2]):=by
 refine af (n:=48) (n0:=4) tabOk Tryz.call78 Tryz.func78 ?_;intro hb;refine lp Nat (λi=>⟨[(0,.c (.ptr 0 0)),(1,.c (.str p)),(5,.c (.rw 4)),(6,.c (.int .i64 i))],[.box [.ptr 1 0,.rw 3,.int .i64 h],.box [.rw 2],.row 6 Ob an L,.row 5 It aM l]++[.row 5 It aM ((l.take i).filter λy=>decide (y.path≠p))]⟩) (λi=>i<=l.length/\True) (λi=>l.length-i) 0 [] [.s 0,.s 1,.s 2,.s 3,.new] ?_ ?_ (λi m=>?_)
 ·simp
 ·repeat' first|exact trivial|exact rfl|refine And.intro ?_ ?_
 refine dec (λj=>?_) (λj=>?_)
 ·have a:i<l.length:=by omega
  have d:=Bt (p:=λy:It=>decide (y.path≠p)) a;have k:=filter_le (p:=λy:It=>decide (y.path≠p)) m.1;have b:l[i]? =some l[i]:=S a;refine⟨i,⟨rfl,a⟩,?_⟩;refine⟨l[i],b,?_⟩;generalize (l.take i).filter (λy=>decide (y.path≠p))=out at*;generalize l[i]=y at*;refine ay (λg=>?_) (λg=>?_)
  ·rw[if_pos (by simpa using g)]at d;refine⟨i,⟨rfl,a⟩,?_⟩;refine⟨y,b,?_⟩;refine⟨[y],rfl,?_⟩;refine⟨_,_,rfl,rfl,(by simp only[U,Q,W];omega),?_⟩;repeat'(refine I6 ?_)
   refine ag (i+1) [] [.s 0,.s 1,.s 2,.s 3,.s 6] ⟨a,trivial⟩ (by simp only[];omega) ?_;rw[d];repeat' first|exact trivial|exact rfl|refine And.intro ?_ ?_
  ·rw[if_neg (by simpa using g),be]at d;repeat'(refine I6 ?_)
   refine ag (i+1) [] [.s 0,.s 1,.s 2,.s 3,.s 4] ⟨a,trivial⟩ (by simp only[];omega) ?_;rw[d];repeat' first|exact trivial|exact rfl|refine And.intro ?_ ?_
 ·obtain rfl:i=l.length:=by omega
  rw[ap];refine dec (λf=>?_) (λf=>?_)
  ·rw[show uh l p=_ from if_pos (Int.ofNat_inj.1 f)];exact rx [] [.s 0,.s 1,.s 2,.s 3,.s 2,.s 3]
  ·rw[show uh l p=_ from if_neg (λe=>f (congrArg Int.ofNat e))];exact rx [] [.s 0,.s 1,.s 2,.s 3,.s 2,.s 4]
theorem IQ(L:List Ob)(l:List It)(h:Int)(hl:l.length<=60)(b:∀x∈l,x.bytes.length<=400):aa Tryz.prog 68 [.c (.bp [.bp [.bs 6 Ob an L],.bs 5 It aM l,.int .i64 h])] [] (Rt (.c (.rw 0)) [.row 2 Dc lT (l.map fN)]):=by
 refine af (n:=26) (n0:=0) tabOk Tryz.call68 Tryz.func68 ?_;intro hb;refine lp Nat (λi=>⟨[(3,.c (.rw 0)),(9,.c (.bs 5 It aM l)),(10,.c (.int .i64 l.length)),(11,.c (.int .i64 i))],[.row 2 Dc lT ((l.take i).map fN)]⟩) (λi=>i<=l.length/\True) (λi=>l.length-i) 0 [] [.new] ?_ ?_ (λi j=>?_)
 ·simp
 ·repeat' first|exact trivial|exact rfl|refine And.intro ?_ ?_
 refine dec (λd=>?_) (λd=>?_)
 ·have a:i<l.length:=by omega
  have f:((l.take i).map fN).length<=i:=by rw[ar,ah];omega
  have g:(l.take (i+1)).map fN=(l.take i).map fN++[fN l[i]]:=by rw[Y a,a3];rfl
  have e:=b _ (a1 a);generalize (l.take i).map fN=out at*;refine⟨i,l[i],rfl,S a,?_⟩;generalize l[i]=x at*;refine⟨false,.grow,(.l [0,1,2,3,4,5,6,7,8,9]),by kernel_rfl,.inl ?_⟩;refine cl [] [] (vL x.bytes (by omega)) ?_;refine⟨[⟨x.path,x.bytes⟩],rfl,?_⟩;refine⟨_,_,rfl,rfl,(by simp only[U,Q,W];omega),?_⟩;repeat'(refine I6 ?_)
  refine ag (i+1) [] [.s 4] ⟨a,trivial⟩ (by simp only[];omega) ?_;rw[g];repeat' first|exact trivial|exact rfl|refine And.intro ?_ ?_
 ·obtain rfl:i=l.length:=by omega
  rw[ap];exact rx [] [.s 0]
theorem Lk(L:List Ob)(l:List It)(h:Int)(hl:l.length<=60):aa Tryz.prog 138 [.c (.bp [.bp [.bs 6 Ob an L],.bs 5 It aM l,.int .i64 h])] [] (Rt (.c (.rw 0)) [.row 4 Fi aq (fy l)]):=by
 refine af (n:=29) (n0:=0) tabOk Tryz.call138 Tryz.func138 ?_;intro hb;refine lp Nat (λi=>⟨[(3,.c (.rw 0)),(9,.c (.bs 5 It aM l)),(10,.c (.int .i64 l.length)),(11,.c (.int .i64 i))],[.row 4 Fi aq (fy (l.take i))]⟩) (λi=>i<=l.length/\True) (λi=>l.length-i) 0 [] [.new] ?_ ?_ (λi g=>?_)
 ·simp
 ·repeat' first|exact trivial|exact rfl|refine And.intro ?_ ?_
 refine dec (λe=>?_) (λe=>?_)
 ·have a:i<l.length:=by omega
  have f:(fy (l.take i)).length<=i:=by unfold fy;rw[ar];exact filter_le (by omega)
  have b:fy (l.take (i+1))=fy (l.take i)++if l[i].link=true then[jJ l[i]]else[]:=by
   unfold fy;rw[Bt a,a3];congr 1
   split<;>rfl
  generalize fy (l.take i)=out at*;refine⟨i,l[i],rfl,S a,?_⟩;generalize l[i]=x at*;refine aS (λd=>?_) (λd=>?_)
  ·rw[if_pos d]at b;refine⟨[jJ x],rfl,?_⟩;refine⟨_,_,rfl,rfl,(by simp only[U,Q,W];omega),?_⟩;repeat'(refine I6 ?_)
   refine ag (i+1) [] [.s 3] ⟨a,trivial⟩ (by simp only[];omega) ?_;rw[b];repeat' first|exact trivial|exact rfl|refine And.intro ?_ ?_
  ·rw[if_neg (by rw[d];decide),be]at b;repeat'(refine I6 ?_)
   refine ag (i+1) [] [.s 0] ⟨a,trivial⟩ (by simp only[];omega) ?_;rw[b];repeat' first|exact trivial|exact rfl|refine And.intro ?_ ?_
 ·obtain rfl:i=l.length:=by omega
  rw[ap];exact rx [] [.s 0]
theorem pq(L:List Ob)(l:List It)(h:Int):aa Tryz.prog 70 [.c (.bp [.bp [.bs 6 Ob an L],.bs 5 It aM l,.int .i64 h])] [] (Rt (.c (.int .i64 h)) []):=by
 refine af (n:=7) (n0:=0) tabOk Tryz.call70 Tryz.func70 ?_;intro hb;repeat'((conv=>whnf);first|refine aJ ?_|fail)
 rfl
theorem Jg{L:List Ob}{x:It}{r:List It}{out:List Fi}(h:x.link=true):aR L (x::r) out=aR L r (out++[jJ x]):=by
 rw[aR,if_pos h]
theorem Jh{L:List Ob}{x:It}{r:List It}{out:List Fi}(h:x.link=false)(h2:(aB L (dt x.bytes)).2.1≠0):aR L (x::r) out=([],(aB L (dt x.bytes)).2.1,(aB L (dt x.bytes)).2.2):=by
 rw[aR,if_neg (by rw[h];decide),if_pos h2]
theorem Ji{L:List Ob}{x:It}{r:List It}{out:List Fi}(h:x.link=false)(h2:¬(aB L (dt x.bytes)).2.1≠0):aR L (x::r) out=aR (aB L (dt x.bytes)).2.2 r (out++[⟨x.path,1,(aB L (dt x.bytes)).1,0⟩]):=by
 rw[aR,if_neg (by rw[h];decide),if_neg h2]
theorem Bq(L:List Ob)(r:ak L)(l:List It)(h:Int)(hl:l.length<=60):aa Tryz.prog 164 [.c (.ptr 0 0)] [.box [.ptr 1 0,.rw 3,.int .i64 h],.box [.rw 2],.row 6 Ob an L,.row 5 It aM l] (Rt (.ao [(false,[.rw 6]),(false,[.int .i64 (aR L l []).2.1])]) ([.box [.ptr 1 0,.rw 5,.int .i64 h],.box [.rw 4],.dead,.dead,.row 6 Ob an (aR L l []).2.2,.row 5 It aM l]++[.row 4 Fi aq (aR L l []).1])):=by
 refine af (n:=53) (n0:=4) tabOk Tryz.call164 Tryz.func164 ?_;intro hb;refine lp (Nat×List Ob×List Fi) (λ|(i,M,out)=>⟨[(0,.c (.ptr 0 0)),(4,.c (.rw 5)),(13,.c (.rw 3)),(14,.c (.int .i64 l.length)),(15,.c (.int .i64 i))],[.box [.ptr 1 0,.rw 3,.int .i64 h],.box [.rw 4],.dead,.row 5 It aM l,.row 6 Ob an M]++[.row 4 Fi aq out]⟩) (λx=>(x.1<=l.length/\x.2.2.length<=x.1)/\ak x.2.1/\aR L l []=aR x.2.1 (l.drop x.1) x.2.2) (λx=>l.length-x.1) (0,L,[]) [] [.s 0,.s 1,.s 2,.s 3,.s 2,.new] ?_ ?_ (λx s=>?_)
 ·exact⟨⟨a5 _,a5 _⟩,r,rfl⟩
 ·repeat' first|exact trivial|exact rfl|refine And.intro ?_ ?_
 obtain⟨i,M,out⟩:=x;obtain⟨⟨o,p⟩,e,b⟩:=s;dsimp only at o p e b;refine dec (λq=>?_) (λq=>?_)
 ·have a:i<l.length:=by omega
  have k:l.drop i=l[i]::l.drop (i+1):=List.drop_eq_getElem_cons a;rw[k]at b;refine⟨i,⟨rfl,a⟩,?_⟩;refine⟨l[i],S a,?_⟩;generalize l[i]=x at*;refine dB (λd=>?_) (λd=>?_)
  ·have t:=rC M (dt x.bytes) e.len;have j:=jP e (dt x.bytes);refine⟨false,.grow,(.l [0,1,2,3,4,5,6,7,8,9,10,11,12]),by kernel_rfl,.inl ?_⟩;refine cl [] [1,4] (t) ?_;refine ay (λf=>?_) (λf=>?_)
   ·rw[b,Jh d f];exact rx [] [.s 0,.s 1,.s 2,.s 3,.s 8,.s 3,.new]
   ·have g:¬(aB M (dt x.bytes)).2.1≠0:=λh=>h f;rw[Ji d g]at b;generalize (aB M (dt x.bytes)).2.2=m at*;generalize (aB M (dt x.bytes)).1=id at*;refine⟨[⟨x.path,1,id,0⟩],rfl,?_⟩;refine⟨_,_,rfl,rfl,(by simp only[U,Q,W];omega),?_⟩;repeat'(refine I6 ?_)
    refine ag (i+1,m,out++[⟨x.path,1,id,0⟩]) [] [.s 0,.s 1,.s 2,.s 3,.s 8,.s 10] ⟨⟨a,by simp only[U,Q,W];omega⟩,j,b⟩ (by simp only[];omega) ?_;repeat' first|exact trivial|exact rfl|refine And.intro ?_ ?_
  ·rw[Jg d]at b;refine⟨[jJ x],rfl,?_⟩;refine⟨_,_,rfl,rfl,(by simp only[U,Q,W];omega),?_⟩;repeat'(refine I6 ?_)
   refine ag (i+1,M,out++[jJ x]) [] [.s 0,.s 1,.s 2,.s 3,.s 4,.s 9] ⟨⟨a,by simp only[U,Q,W];omega⟩,e,b⟩ (by simp only[];omega) ?_;repeat' first|exact trivial|exact rfl|refine And.intro ?_ ?_
 ·obtain rfl:i=l.length:=by omega
  rw[List.drop_length]at b;rw[b];exact rx [] [.s 0,.s 1,.s 2,.s 3,.s 4,.s 3,.s 5]
theorem E5(L:List Ob)(e:ak L)(l:List It)(h:Int)(j:∀y∈l,y.path.length<=4000000)(hl:l.length<=60):aa Tryz.prog 201 [.c (.ptr 0 0)] [.box [.ptr 1 0,.rw 3,.int .i64 h],.box [.rw 2],.row 6 Ob an L,.row 5 It aM l] (Rt (.ao [(false,[.int .i64 (bz L l).1]),(false,[.int .i64 (bz L l).2.1])]) [.box [.ptr 1 0,.rw 5,.int .i64 h],.box [.rw 4],.dead,.dead,.row 6 Ob an (bz L l).2.2,.row 5 It aM l]):=by
 refine af (n:=22) (n0:=4) tabOk Tryz.call201 Tryz.func201 ?_;intro hb;have b:=sX (n:=4000000) (L:=L) (out:=[]) (λf i=>(by cases i)) j;have a:=(lV (l:=l) (out:=[]) e).1;unfold bz;refine cl [] [0,1,2,3] (Bq L e l h hl) ?_;generalize aR L l []=F at*;obtain⟨g,c,M⟩:=F;dsimp only at b a;refine ay (λd=>?_) (λd=>?_)
 ·rw[if_pos d];exact rx [] [.s 0,.s 1,.s 2,.s 3,.s 4,.s 5]
 ·rw[if_neg (λh=>h d)];refine cl [] [1,4] (Bz M g a b) ?_;exact rx [] [.s 0,.s 1,.s 2,.s 3,.s 7,.s 5]
theorem Ew(L:List Ob)(b:ak L)(l:List It)(h t:Int):aa Tryz.prog 202 [.c (.bp [.bp [.bs 6 Ob an L],.bs 5 It aM l,.int .i64 h]),.c (.int .i64 t)] [] (Rt (.c (.bool (um L l h t))) []):=by
 refine af (n:=34) (n0:=0) tabOk Tryz.call202 Tryz.func202 ?_;intro hb;unfold um;refine dec (λa=>?_) (λa=>?_)
 ·rw[if_pos a];exact aL (by rw[decide_eq_decide];omega)
 ·rw[if_neg a];refine⟨false,.grow,(.alt [0,1,2,3,4,5,6,7] [8,12] λj=>bif ad j 8 then(.l [9,10,11,12,13,14])else bif ad j 12 then(.l [8,9,10,11,13,14])else .l []),by kernel_rfl,.inl ?_⟩;refine And.intro ?_ ?_
  all_goals
   refine cl [] [] (ft L b h) ?_;exact aL rfl
theorem Ap(L:List Ob)(e:ak L)(l:List It)(h:Int)(f:∀y∈l,y.path.length<=4000000)(hl:l.length<=60):aa Tryz.prog 127 [.c (.ptr 0 0)] [.box [.ptr 1 0,.rw 3,.int .i64 h],.box [.rw 2],.row 6 Ob an L,.row 5 It aM l] (Rt (.c (.int .i64 (il L l h))) [.box [.ptr 1 0,.rw 5,.int .i64 h],.box [.rw 4],.dead,.dead,.row 6 Ob an (bz L l).2.2,.row 5 It aM l]):=by
 refine af (n:=19) (n0:=4) tabOk Tryz.call127 Tryz.func127 ?_;intro hb;have a:=(kJ (l:=l) e).1;unfold il;refine cl [] [0,1,2,3] (E5 L e l h f hl) ?_;generalize bz L l=T at*;obtain⟨t,c,M⟩:=T;dsimp only at a;refine dec (λb=>?_) (λb=>?_)
 ·rw[if_neg (λh=>h b)];refine cl [] [] (Ew M a l h t) ?_;refine dB (λd=>?_) (λd=>?_)
  ·rw[if_neg (by rw[d];decide)];exact rx [] [.s 0,.s 1,.s 2,.s 3,.s 4,.s 5]
  ·rw[if_pos d];(conv=>whnf);rw[b];exact rx [] [.s 0,.s 1,.s 2,.s 3,.s 4,.s 5]
 ·rw[if_pos b];exact rx [] [.s 0,.s 1,.s 2,.s 3,.s 4,.s 5]
def iE(L:List Ob)(h:Int):Prop:=h<0\/kindOf L h=3
theorem iE.ext{L M:List Ob}{h:Int}(a:iE L h)(c:L<+:M):iE M h:=a.imp id λb=>by rw[dO c (by omega)];exact b
theorem Bm{L:List Ob}{t:Int}:(bq L t).1.length<=60:=by
 unfold bq;have:=po L 9 t [] [] (by decide);split
 ·exact this
 ·simp
theorem Bn{M:List Ob}(b:ak M)(t:Int):Fz (bq M t).1/\∀f∈(bq M t).1,f.path.length<=4000000:=by
 by_cases g:(bq M t).2=0
 ·obtain⟨d,p,j⟩:=qN b g;obtain⟨n,o⟩:=iM b d.1;obtain⟨i,c⟩:=d.2.si b n o;refine⟨⟨i.imp λh=>h.1,λf a e=>?_⟩,λf a=>?_⟩
  ·have:=(c f a).2;omega
  ·have k:=(c f a).1;have l:=oR (aG f.path) λs m=>oC (oD k s m);rw[mK]at l;have:=j f a;omega
 ·rw[Bo g];exact⟨⟨.nil,λf a=>by cases a⟩,λf a=>by cases a⟩
theorem OG(L:List Ob)(p:ak L)(l:List It)(h:Int)(r:∀y∈l,y.path.length<=4000000)(hl:l.length<=60):aa Tryz.prog 95 [.c (.ptr 0 0)] [.box [.ptr 1 0,.rw 3,.int .i64 h],.box [.rw 2],.row 6 Ob an L,.row 5 It aM l] (Rt (.ao [(false,[.rw 6]),(false,[.int .i64 (oO L l h).2])]) ([.box [.ptr 1 0,.rw 5,.int .i64 h],.box [.rw 4],.dead,.dead,.row 6 Ob an (aR L l []).2.2,.row 5 It aM l]++[.row 9 Ch iT (oO L l h).1])):=by
 refine af (n:=52) (n0:=4) tabOk Tryz.call95 Tryz.func95 ?_;intro hb;have a:=(lV (l:=l) (out:=[]) p).1;have b:=wA (l:=l) (L:=L) (out:=[]);have d:=sX (n:=4000000) (L:=L) (out:=[]) (λf m=>(by cases m)) r;unfold oO;refine cl [] [0,1,2,3] (Bq L p l h hl) ?_;generalize aR L l []=F at*;obtain⟨e,c,M⟩:=F;dsimp only at a b d;have b:e.length<=60:=by simp at b;omega
 refine ay (λg=>?_) (λg=>?_)
 ·rw[if_pos g];exact rx [] [.s 0,.s 1,.s 2,.s 3,.s 4,.s 5,.new]
 rw[if_neg (λh=>h g)];refine dec (λi=>?_) (λi=>?_)
 ·rw[if_pos i];refine cl [] [] (AZ [] e (by decide) (by omega) (λf m=>by cases m) d) ?_;exact rx [] [.s 0,.s 1,.s 2,.s 3,.s 4,.s 5,.s 7]
 ·rw[if_neg i];refine⟨false,.grow,(.alt [0,1,2,3,4,5,6,7] [8,12] λj=>bif ad j 8 then(.l [9,10,11,12,13,14])else bif ad j 12 then(.l [8,9,10,11,13,14])else .l []),by kernel_rfl,.inl ?_⟩;have o:=Bn a (aj M h).tree;have q:=Bm (L:=M) (t:=(aj M h).tree);refine And.intro ?_ ?_
  all_goals
   refine cl [] [] (ft M a h) ?_;refine⟨false,.grow,(.l [0,1,2,3,4,5,6,7,8,9,10,11]),by kernel_rfl,.inl ?_⟩;refine cl [] [] (sY M a (aj M h).tree) ?_;refine ay (λk=>?_) (λk=>?_)
   ·rw[if_pos k];exact rx [] [.s 0,.s 1,.s 2,.s 3,.s 4,.s 5,.new]
   ·rw[if_neg (λh=>h k)];refine cl [] [] (AZ (bq M (aj M h).tree).1 e (by omega) (by omega) o.2 d) ?_;exact rx [] [.s 0,.s 1,.s 2,.s 3,.s 4,.s 5,.s 9]
theorem AF(L:List Ob)(r:ak L)(l:List It)(h:Int)(w:∀y∈l,y.path.length<=4000000)(hl:l.length<=60)(text:List UInt8)(others:List Int)(ho:others.length<=1000)(s:iE L h):aa Tryz.prog 124 [.c (.ptr 0 0),.c (.str text),.c (.bs 1 Int encI others)] [.box [.ptr 1 0,.rw 3,.int .i64 h],.box [.rw 2],.row 6 Ob an L,.row 5 It aM l] (Rt (.ao [(false,[.int .i64 (bg L l h text others).1]),(false,[.int .i64 (bg L l h text others).2.1])]) [.box [.ptr 1 0,.rw 5,.int .i64 (l8 L l h text others)],.box [.rw 4],.dead,.dead,.row 6 Ob an (bg L l h text others).2.2,.row 5 It aM l]):=by
 have e:=(kJ (l:=l) r).1;have s:=s.ext (kJ (l:=l) r).2;have u:l8 L l h text others=if(bg L l h text others).2.1=0 then(bg L l h text others).1 else h:=rfl
 rw[u];have i:bg L l h text others=_:=rfl;conv at i=>rhs;unfold bg
 have v:=E5 L r l h w hl;generalize bg L l h text others=R at*;generalize bz L l=T at*;obtain⟨t,c,M⟩:=T;dsimp only at e s i;have g:=rC M (eN t (lH h others) text) e.len;generalize z:aB M (eN t (lH h others) text)=P at*;obtain⟨id,o,x⟩:=P;dsimp only at g i;refine af (n:=69) (n0:=4) tabOk Tryz.call124 Tryz.func124 ?_;intro hb;refine cl [] [0,1,2,3] (v) ?_;refine ay (λm=>?_) (λm=>?_)
 ·rw[i.trans (if_pos m),if_neg m];exact rx [] [.s 0,.s 1,.s 2,.s 3,.s 4,.s 5]
 have k:=i.trans (if_neg (λh=>h m));refine dec (λb=>?_) (λb=>?_)
 ·have b:0<=h:=b;have f:lH h others=[h]++others:=by unfold lH;rw[if_pos b]
  rw[f]at g;refine cl [] [] (Ew M e l h t) ?_;refine aS (λp=>?_) (λp=>?_)
  ·refine dec (λq=>?_) (λq=>?_)
   ·rw[k.trans (if_pos ⟨b,p,Int.ofNat_inj.1 q⟩),if_neg (show¬(17:Int)=0 by decide)];exact rx [] [.s 0,.s 1,.s 2,.s 3,.s 4,.s 5]
   ·have d:=k.trans (if_neg (λh=>q (congrArg Int.ofNat h.2.2)));refine dec (λ_=>?_) (λh=>absurd b h);refine⟨[h],rfl,?_⟩;refine⟨[],_,rfl,rfl,(by simp only[W,Q];omega),?_⟩;refine⟨true,.any,(.alt [0,1,2,4,5,6,8] [3,7] λj=>bif ad j 3 then(.l [7,9,10,11,12,13,14,15])else bif ad j 7 then(.l [9,3,10,11,12,13,14,15])else .l []),by kernel_rfl,.inl ?_⟩;refine And.intro ?_ ?_
    all_goals
     refine⟨_,_,rfl,rfl,(by simp only[U,W,Q];omega),?_⟩;refine cl [] [1,4] (g) ?_;refine ay (λa=>?_) (λa=>?_)
     ·rw[d.trans (if_pos a),if_neg a];exact rx [] [.s 0,.s 1,.s 2,.s 3,.s 9,.s 5]
     ·rw[d.trans (if_neg (λh=>h a)),if_pos a];have a:o=0:=a;subst a;exact rx [] [.s 0,.s 1,.s 2,.s 3,.s 9,.s 5]
  ·have d:=k.trans (if_neg (λh=>by have:=h.2.1;rw[p]at this;cases this));refine dec (λ_=>?_) (λh=>absurd b h);refine⟨[h],rfl,?_⟩;refine⟨[],_,rfl,rfl,(by simp only[W,Q];omega),?_⟩;refine⟨true,.any,(.alt [0,1,2,4,5,6,8] [3,7] λj=>bif ad j 3 then(.l [7,9,10,11,12,13,14,15])else bif ad j 7 then(.l [9,3,10,11,12,13,14,15])else .l []),by kernel_rfl,.inl ?_⟩;refine And.intro ?_ ?_
   all_goals
    refine⟨_,_,rfl,rfl,(by simp only[U,W,Q];omega),?_⟩;refine cl [] [1,4] (g) ?_;refine ay (λa=>?_) (λa=>?_)
    ·rw[d.trans (if_pos a),if_neg a];exact rx [] [.s 0,.s 1,.s 2,.s 3,.s 9,.s 5]
    ·rw[d.trans (if_neg (λh=>h a)),if_pos a];have a:o=0:=a;subst a;exact rx [] [.s 0,.s 1,.s 2,.s 3,.s 9,.s 5]
 ·have b:¬0<=h:=b;have f:lH h others=[]++others:=by unfold lH;rw[if_neg b]
  rw[f]at g;have d:=k.trans (if_neg (λh=>b h.1));refine dec (λh=>absurd h b) (λ_=>?_);refine⟨true,.any,(.alt [0,1,2,4,5,6,8] [3,7] λj=>bif ad j 3 then(.l [7,9,10,11,12,13,14,15])else bif ad j 7 then(.l [9,3,10,11,12,13,14,15])else .l []),by kernel_rfl,.inl ?_⟩;refine And.intro ?_ ?_
  all_goals
   refine⟨[],_,rfl,rfl,(by simp only[W];omega),?_⟩;refine cl [] [1,4] (g) ?_;refine ay (λa=>?_) (λa=>?_)
   ·rw[d.trans (if_pos a),if_neg a];exact rx [] [.s 0,.s 1,.s 2,.s 3,.s 7,.s 5]
   ·rw[d.trans (if_neg (λh=>h a)),if_pos a];have a:o=0:=a;subst a;exact rx [] [.s 0,.s 1,.s 2,.s 3,.s 7,.s 5]
theorem KJ{L:List Ob}{f:Fi}(h:f.mode=3):cI L f=⟨f.path,[],decide (f.mode=3),f.id,f.ax⟩:=(if_pos h).trans (by rw[decide_eq_true h])
theorem KH{L:List Ob}{f:Fi}(h:¬f.mode=3):cI L f=⟨f.path,(aj L f.id).bytes,false,0,0⟩:=if_neg h
theorem Cz(L:List Ob)(g:ak L)(l:List It)(h:Int)(fs:List Fi)(m:fs.length<=60):aa Tryz.prog 205 [.c (.ptr 0 0),.c (.bs 4 Fi aq fs)] [.box [.ptr 1 0,.rw 3,.int .i64 h],.box [.rw 2],.row 6 Ob an L,.row 5 It aM l] (Rt (.ao []) [.box [.ptr 1 0,.rw 5,.int .i64 h],.box [.rw 4],.dead,.dead,.row 6 Ob an L,.row 5 It aM (fs.map (cI L))]):=by
 refine af (n:=57) (n0:=4) tabOk Tryz.call205 Tryz.func205 ?_;intro hb;refine lp Nat (λi=>⟨[(0,.c (.ptr 0 0)),(12,.c (.bs 4 Fi aq fs)),(13,.c (.int .i64 fs.length)),(14,.c (.int .i64 i))],[.box [.ptr 1 0,.rw 4,.int .i64 h],.box [.rw 2],.row 6 Ob an L,.dead,.row 5 It aM ((fs.take i).map (cI L))]⟩) (λi=>i<=fs.length/\True) (λi=>fs.length-i) 0 [] [.s 0,.s 1,.s 2,.s 3,.new] ?_ ?_ (λi o=>?_)
 ·simp
 ·repeat' first|exact trivial|exact rfl|refine And.intro ?_ ?_
 refine dec (λe=>?_) (λe=>?_)
 ·have a:i<fs.length:=by omega
  have k:((fs.take i).map (cI L)).length<=i:=by rw[ar,ah];omega
  have b:(fs.take (i+1)).map (cI L)=(fs.take i).map (cI L)++[cI L fs[i]]:=by rw[Y a,a3];rfl
  generalize (fs.take i).map (cI L)=out at*;refine⟨i,fs[i],rfl,S a,?_⟩;generalize fs[i]=f at*;refine ay (λd=>?_) (λd=>?_)
  ·rw[KH d]at b;refine⟨false,.grow,(.alt [0,1,2,3,4,5] [6,10] λj=>bif ad j 6 then(.l [7,8,9,10,11,12])else bif ad j 10 then(.l [6,7,8,9,11,12])else .l []),by kernel_rfl,.inl ?_⟩;refine And.intro ?_ ?_
   all_goals
    refine cl [] [] (ft L g f.id) ?_;refine⟨false,.grow,(.l [0,1,2,3,4,5,6,7,8,9,10]),by kernel_rfl,.inl ?_⟩;refine⟨[⟨f.path,(aj L f.id).bytes,false,0,0⟩],rfl,?_⟩;refine⟨_,_,rfl,rfl,(by simp only[U,Q,W];omega),?_⟩;repeat'(refine I6 ?_)
    refine ag (i+1) [] [.s 0,.s 1,.s 2,.s 3,.s 9] ⟨a,trivial⟩ (by simp only[];omega) ?_;rw[b];repeat' first|exact trivial|exact rfl|refine And.intro ?_ ?_
  ·rw[KJ d]at b;refine⟨false,.grow,(.l [0,1,2,3,4,5,6,7,8,9,10]),by kernel_rfl,.inl ?_⟩;refine⟨[⟨f.path,[],decide (f.mode=3),f.id,f.ax⟩],rfl,?_⟩;refine⟨_,_,rfl,rfl,(by simp only[U,Q,W];omega),?_⟩;repeat'(refine I6 ?_)
   refine ag (i+1) [] [.s 0,.s 1,.s 2,.s 3,.s 8] ⟨a,trivial⟩ (by simp only[];omega) ?_;rw[b];repeat' first|exact trivial|exact rfl|refine And.intro ?_ ?_
 ·obtain rfl:i=fs.length:=by omega
  rw[ap];exact rx [] [.s 0,.s 1,.s 2,.s 3,.s 2,.s 4]
theorem dn.ids{ne:Bool}{L:List Ob}(d:ak L){es:List aI}{l:List Fi}(h:dn ne L es l):(∀e∈es,kindOf L e.id=e.mode)->∀f∈l,kindOf L f.id=f.mode:=by
 induction h with
 |nil=>intro _ f hf;cases hf
 |file k h ih=>
  intro a f hf;rcases a6.1 hf with rfl|hf
  ·exact a _ (by simp)
  ·exact ih (λe h=>a e (by simp[h])) f hf
 | @dir e es m l k j n o h b c=>
  intro a f hf;rcases a2.1 hf with hf|hf
  ·obtain⟨g,i,rfl⟩:=am.1 hf;exact b (d.tree j).2.2.2 g i
  ·exact c (λe h=>a e (by simp[h])) f hf
theorem fM.ids{ne:Bool}{L:List Ob}(a:ak L){t:Int}{l:List Fi}(h:fM ne L t l):∀f∈l,kindOf L f.id=f.mode:=h.2.ids a (a.tree h.1).2.2.2
theorem Jd{l:List Fi}(h:cu l=0):∀f∈l,¬f.mode=0:=λf a=>by have:=((iW h).2 f a).2;omega
def kA(L:List Ob)(fs:List Fi):Int:=(cG L fs).2.1
theorem Cw(L:List Ob)(e:ak L)(l:List It)(h:Int)(fs:List Fi)(o:∀f∈fs,f.path.length<=4000000):aa Tryz.prog 212 [.c (.ptr 0 0),.c (.bs 4 Fi aq fs)] [.box [.ptr 1 0,.rw 3,.int .i64 h],.box [.rw 2],.row 6 Ob an L,.row 5 It aM l] (Rt (.c (.int .i64 (kA L fs))) [.box [.ptr 1 0,.rw 5,.int .i64 h],.box [.rw 4],.dead,.dead,.row 6 Ob an (cG L fs).2.2,.row 5 It aM (me L l fs)]):=by
 refine af (n:=22) (n0:=4) tabOk Tryz.call212 Tryz.func212 ?_;intro hb;have b:=(n9 e fs).1;have d:=qw (L:=L) (l:=fs) e;unfold me kA;refine cl [] [1,2] (Bz L fs e o) ?_;generalize cG L fs=B at*;obtain⟨t,c,M⟩:=B;dsimp only at b d;refine ay (λa=>?_) (λa=>?_)
 ·rw[if_pos a];exact rx [] [.s 0,.s 1,.s 2,.s 3,.s 4,.s 3]
 ·rw[if_neg (λh=>h a)];obtain⟨i,k⟩:=d a;have g:=(iW i).1;have p:∀f∈fs,¬f.mode=3->¬kindOf M f.id=0:=λf j _=>by rw[k.ids b f j];exact Jd i f j
  have m:=Cz M b l h fs g;have a:c=0:=a;subst a;refine cl [] [0,1,4,3] (m) ?_;exact rx [] [.s 0,.s 1,.s 2,.s 3,.s 5,.s 6]
theorem vQ{L:List Ob}{l:List It}{h id:Int}(hk:¬kindOf L id=3):fe L l h id=9/\kl L l id=L/\lQ L l h id=l/\kV L l h id=h:=by
 have e:fe L l h id=9:=if_pos hk;exact⟨e,if_pos hk,if_pos (by rw[e];decide),if_pos (by rw[e];decide)⟩
theorem vO{L:List Ob}{l:List It}{h id:Int}(hk:kindOf L id=3)(hc:¬il L l h=0):fe L l h id=il L l h/\kl L l id=(bz L l).2.2/\lQ L l h id=l/\kV L l h id=h:=by
 have e:fe L l h id=il L l h:=(if_neg (λh=>h hk)).trans (if_pos hc);exact⟨e,if_neg (λh=>h hk),if_pos (by rw[e];exact hc),if_pos (by rw[e];exact hc)⟩
theorem vP{L:List Ob}{l:List It}{h id:Int}(hk:kindOf L id=3)(hc:il L l h=0):fe L l h id=(bq (bz L l).2.2 (aj L id).tree).2/\kl L l id=(bz L l).2.2/\
  lQ L l h id=(if(bq (bz L l).2.2 (aj L id).tree).2≠0 then l else(bq (bz L l).2.2 (aj L id).tree).1.map (cI (bz L l).2.2))/\kV L l h id=if(bq (bz L l).2.2 (aj L id).tree).2≠0 then h else id:=by
 have e:fe L l h id=(bq (bz L l).2.2 (aj L id).tree).2:=(if_neg (λh=>h hk)).trans (if_neg (λh=>h hc));refine⟨e,if_neg (λh=>h hk),?_,?_⟩
 ·unfold lQ;rw[e]
 ·unfold kV;rw[e]
theorem Al(L:List Ob)(m:ak L)(l:List It)(h:Int)(w:∀y∈l,y.path.length<=4000000)(hl:l.length<=60)(id:Int):aa Tryz.prog 126 [.c (.ptr 0 0),.c (.int .i64 id)] [.box [.ptr 1 0,.rw 3,.int .i64 h],.box [.rw 2],.row 6 Ob an L,.row 5 It aM l] (Rt (.c (.int .i64 (fe L l h id))) [.box [.ptr 1 0,.rw 5,.int .i64 (kV L l h id)],.box [.rw 4],.dead,.dead,.row 6 Ob an (kl L l id),.row 5 It aM (lQ L l h id)]):=by
 have d:=(kJ (l:=l) m).1;have o:=Ap L m l h w hl;have p:=fQ (l:=L) (id:=id);have x:=vQ (L:=L) (l:=l) (h:=h) (id:=id);have q:=vO (L:=L) (l:=l) (h:=h) (id:=id);have r:=vP (L:=L) (l:=l) (h:=h) (id:=id);refine af (n:=47) (n0:=4) tabOk Tryz.call126 Tryz.func126 ?_;intro hb;refine cl [] [] (ft L m id) ?_;refine ay (λa=>?_) (λa=>?_)
 ·have a:¬kindOf L id=3:=by rw[<-p];exact a
  obtain⟨e,f,g,i⟩:=x a;rw[e,f,g,i];exact rx [] [.s 0,.s 1,.s 2,.s 3,.s 2,.s 3]
 have a:kindOf L id=3:=by rw[<-p];exact a
 generalize bz L l=T at*;obtain⟨t,c,M⟩:=T;dsimp only at d o q r;refine cl [] [0,1,2,3] (o) ?_;refine ay (λk=>?_) (λk=>?_)
 ·obtain⟨e,f,g,i⟩:=q a k;rw[e,f,g,i];exact rx [] [.s 0,.s 1,.s 2,.s 3,.s 5,.s 6]
 obtain⟨e,f,g,i⟩:=r a k;rw[e,f,g,i];have j:=Bm (L:=M) (t:=(aj L id).tree);have v:=sY M d (aj L id).tree;generalize bq M (aj L id).tree=F at*;obtain⟨u,s⟩:=F;dsimp only at j;refine⟨false,.grow,(.l [0,1,2,3,4,5,6,7,8,9,10,11]),by kernel_rfl,.inl ?_⟩;refine cl [] [] (v) ?_;refine ay (λb=>?_) (λb=>?_)
 ·rw[if_pos b,if_pos b];exact rx [] [.s 0,.s 1,.s 2,.s 3,.s 5,.s 6]
 ·rw[if_neg (λh=>h b),if_neg (λh=>h b)];have b:s=0:=b;subst b;refine cl [] [0,1,5,6] (Cz M d l h u j) ?_;exact rx [] [.s 0,.s 1,.s 2,.s 3,.s 8,.s 9]
end Go.Nest
end
section
namespace Go.Nest
open Go Go.AM
structure Ws where
 what:Int
 k:Int
 ax:Int
 path:List UInt8
 text:List UInt8
 bytes:List UInt8
 gu:Bool
structure WS where
 L:List Ob
 l:List It
 h:Int
 made:List Int
structure Qf(s:WS):Prop where
 pool:ak s.L
 ok:ig s.l
 bytes:∀x∈s.l,x.bytes.length<=400
 head:iE s.L s.h
theorem rz{p:List UInt8}(h:(cc p).2=0):p.length<=168:=by
 obtain⟨a,d,_⟩:=oM h;have b:=oR (aG p) λs c=>oC (oD a s c);rw[mK]at b;omega
theorem j6.kU{L:List Ob}(a:ak L)(id:Int):(aj L id).bytes.length<=400:=by
 by_cases h:kindOf L id=0
 ·rw[a.nw h];exact a5 _
 ·exact(a.get h).bytes
theorem DY{l:List It}(h:ig l)(x:It):ig (fW l x).2/\∀y∈(fW l x).2,y=x\/y∈l:=by
 unfold fW;split
 ·exact⟨h,λy hy=>.inr hy⟩
 rename_i t;split
 ·exact⟨h,λy hy=>.inr hy⟩
 rename_i D;have t:(cc x.path).2=0:=ac.1 t
 have n:∀y∈l,(ga x.path y.path).2=false/\(ga y.path x.path).2=false:=λy hy=>by
  have:=List.any_eq_false.1 (Bool.not_eq_true _▸D) y hy;unfold pr at this;simpa using this
 have f:(ga x.path x.path).2=false:=by
  rw[uG];cases e:under x.path x.path with
  |none=>rfl
  |some r=>have:=xh e;rw[mg]at this;cases this
 have fin:∀{o:List It},j7 (·.path) o->o.length<=60->(∀y∈o,y=x\/y∈l)->ig o/\∀y∈o,y=x\/y∈l:=λJ H m=>by
  refine⟨⟨J,H,λy hy=>?_,λa ha b hb=>?_⟩,m⟩
  ·rcases m y hy with rfl|hy
   ·exact t
   ·exact h.path y hy
  ·rcases m a ha with rfl|ha<;>rcases m b hb with rfl|hb
   ·exact f
   ·exact(n b hb).1
   ·exact(n a ha).2
   ·exact h.apart a ha b hb
 split
 ·rename_i u;obtain⟨y,hy,c⟩:=wP.1 u;obtain⟨k,F,e⟩:=a0.1 hy;subst e;have c:=sr.1 c;have q:=JT h.ris F;rw[c]at q;rw[q];refine fin ?_ (by rw[List.length_set];exact h.len) λy hy=>(List.mem_or_eq_of_mem_set hy).symm.imp id id;refine Z.2 λi j q E v=>?_;have d:=Z.1 h.ris i j (by simpa using q) (by simpa using E) v;simp only[Int.toNat_natCast];rw[bb,bb];split
  ·rename_i s;subst s;rw[if_neg (by omega)];simp only[c]at d;exact d
  ·split
   ·rename_i s;subst s;simp only[c]at d;exact d
   ·exact d
 ·rename_i u;split
  ·exact⟨h,λy hy=>.inr hy⟩
  rename_i K;have I:=MS (l:=l) (p:=x.path);refine fin ?_ ?_ λy hy=>?_
  ·unfold j7;rw[Pl,IT,List.pairwise_append,List.pairwise_cons]
   have w:∀y∈l.dropWhile (λy=>aw y.path x.path),aw x.path y.path=true:=λy hy=>by
    have z:=A8 h.ris y hy;have m:y∈l:=(List.dropWhile_suffix _).subset hy;rcases ix y.path x.path with g|g|g
    ·rw[z]at g;cases g
    ·exact absurd (wP.2 ⟨y,m,sr.2 g⟩) u
    ·exact g
   refine⟨h.ris.sublist (List.takeWhile_sublist _),⟨w,h.ris.sublist (List.dropWhile_sublist _)⟩,λa ha b hb=>?_⟩;have ha:=(C3 ha).1;rcases a6.1 hb with rfl|hb
   ·exact ha
   ·exact jc ha (w b hb)
  ·have:=h.len;rw[U,Q,ah,List.length_drop];omega
  ·rcases a2.1 hy with hy|hy
   ·exact .inr (List.mem_of_mem_take hy)
   ·rcases a6.1 hy with rfl|hy
    ·exact .inl rfl
    ·exact .inr (List.mem_of_mem_drop hy)
theorem ig.sub{l l':List It}(h:ig l)(a:l'.Sublist l):ig l':=
 ⟨h.ris.sublist a,bh a.length_le h.len,λx b=>h.path x (a.subset b),λx b y c=>h.apart x (a.subset b) y (a.subset c)⟩
theorem D7{l:List It}(h:ig l)(p:List UInt8):ig (iI l p).2/\∀y∈(iI l p).2,y∈l:=by
 have a:(iI l p).2.Sublist l:=by
  unfold iI;split
  ·exact a9 _
  ·conv=>rhs;rw[<-List.take_append_drop (bD (eK p) l).toNat l]
   refine bi (a9 _) ?_;exact List.drop_sublist_drop_left l (Nat.le_succ _)
 exact⟨h.sub a,λy b=>a.subset b⟩
theorem KO{M N:List Ob}{fs:List Fi}(n:ak N)(h1:fs.Pairwise gA)(h2:∀f∈fs,(cc f.path).2=0)(m:fs.length<=60):ig (fs.map (cI N))/\∀x∈fs.map (cI N),x.bytes.length<=400:=by
 have c:∀f:Fi,(cI N f).path=f.path:=λf=>by unfold cI;split<;>rfl
 refine⟨⟨?_,by rw[ar];exact m,λx a=>?_,λx a y p=>?_⟩,λx a=>?_⟩
 ·exact List.pairwise_map.2 (h1.imp λh=>by simp only[c];exact h.1)
 ·obtain⟨f,b,rfl⟩:=am.1 a;rw[c];exact h2 f b
 ·obtain⟨f,b,rfl⟩:=am.1 a;obtain⟨g,o,rfl⟩:=am.1 p;rw[c,c,uG];obtain⟨i,k,rfl⟩:=a0.1 b;obtain⟨j,l,rfl⟩:=a0.1 o;cases e:under fs[i].path fs[j].path with
  |none=>rfl
  |some r=>
   exfalso;rcases Nat.lt_trichotomy i j with hlt|rfl|hlt
   ·have d:=(Z.1 h1 i j k l hlt).1;rw[ll (xh e)]at d;cases d
   ·have:=xh e;rw[mg]at this;cases this
   ·rw[(Z.1 h1 j i l k hlt).2]at e;cases e
 ·obtain⟨f,b,rfl⟩:=am.1 a;unfold cI;split
  ·exact a5 _
  ·exact j6.kU n _
theorem Pp{ne:Bool}{M N:List Ob}{fs:List Fi}{t:Int}(a:ak M)(g:ak N)(c:fM ne M t fs)(h:∀f∈fs,(aG f.path).length<=8)(hl:fs.length<=60):ig (fs.map (cI N))/\∀x∈fs.map (cI N),x.bytes.length<=400:=by
 obtain⟨i,j⟩:=iM a c.1;obtain⟨d,e⟩:=c.2.si a i j;exact KO (M:=M) g d (λf b=>ym (e f b).1 (h f b)) hl
theorem HI{L:List Ob}(e:ak L){l:List It}{h:Int}(f:iE L h)(text:List UInt8)(others:List Int):iE (bg L l h text others).2.2 (l8 L l h text others):=by
 have g:=(qD (l:=l) (h:=h) (text:=text) (others:=others) e).2;unfold l8;split
 ·rename_i a;right;unfold bg at a⊢;split at a
  ·rename_i c;exact absurd a c
  rename_i c;rw[if_neg c];split at a
  ·cases a
  rename_i d;rw[if_neg d];split at a
  ·rename_i b;exact absurd a b
  rename_i b;rw[if_neg b];have:=(nO (ac.1 b)).2;rw[<-fQ,this];rfl
 ·exact f.ext g
def gF(L M:List Ob):Prop:=∀id,kindOf M id=3->kindOf L id=3
theorem gF.refl(L:List Ob):gF L L:=λ_ h=>h
theorem gF.trans{L M N:List Ob}(h1:gF L M)(h2:gF M N):gF L N:=λid h=>h1 id (h2 id h)
theorem rB{L:List Ob}{o:Ob}(ho:o.kind≠3):gF L (aB L o).2.2:=λid h=>by
 rcases DW (L:=L) (o:=o) (id:=id) (by omega)with h1|h1
 ·rw[<-dO (jQ o) h1];exact h
 ·rw[<-fQ,h1]at h;exact absurd h ho
theorem tc:∀(n:Nat) (L:List Ob) (a:List aI) (l:List Fi),gF L (aV n L a l).2.2
 |0,L,_,_=>.refl L
 |n+1,L,a,[]=>rB (λh=>by cases h)
 |n+1,L,a,f::r=>by
  unfold aV;split
  ·exact tc n L _ r
  have b:=tc n L [] (bN (df f.path).1 (f::r)).1;split
  ·exact b
  ·exact b.trans (tc n _ _ _)
theorem Ac{L:List Ob}{l:List Fi}:gF L (cG L l).2.2:=by
 unfold cG;split
 ·exact .refl L
 ·exact tc _ _ _ _
theorem sW:∀{l:List It} {L:List Ob} {out:List Fi},gF L (aR L l out).2.2
 |[],L,out=>.refl L
 |x::r,L,out=>by
  unfold aR;split
  ·exact sW
  split
  ·exact rB (λh=>by cases h)
  ·exact(rB (λh=>by cases h)).trans sW
theorem yx{L:List Ob}{l:List It}:gF L (bz L l).2.2:=by
 unfold bz;split
 ·exact sW
 ·exact sW.trans Ac
def NB(l:List It):Prop:=∀x∈l,x.link=true->x.bytes=[]
theorem wB:∀{l:List It} {L:List Ob} {out:List Fi},ak L->(aR L l out).2.1=0->∃a,(aR L l out).1=out++a/\
  (∀M,ak M->(aR L l out).2.2<+:M->(∀o2,aR M l o2=(o2++a,0,M))/\(NB l->(a.map (cI M)).map fN=l.map fN))
 |[],L,out,i,h=>⟨[],by simp[aR],λM c d=>⟨λo2=>by simp[aR],λ_=>rfl⟩⟩
 |x::r,L,out,i,h=>by
  unfold aR at h⊢;split
  ·rename_i f;rw[if_pos f]at h;obtain⟨a,j,k⟩:=wB i h;refine⟨jJ x::a,by rw[j];simp,λM c d=>?_⟩;obtain⟨m,n⟩:=k M c d;refine⟨λo2=>?_,λg=>?_⟩
   ·rw[m];simp
   ·rw[al,al,al,n λy p=>g y (by simp[p])];have:=g x (by simp) f;show fN (cI M (jJ x))::_=_;unfold cI jJ fN;rw[if_pos rfl,this]
  ·rename_i f;rw[if_neg f]at h;split
   ·rename_i b;rw[if_pos b]at h;exact absurd h b
   ·rename_i b;rw[if_neg b]at h;have b:=ac.1 b;obtain⟨a,j,k⟩:=wB (jP i (dt x.bytes)) h;refine⟨⟨x.path,1,(aB L (dt x.bytes)).1,0⟩::a,by rw[j];simp,λM c d=>?_⟩;obtain⟨m,n⟩:=k M c d;have o:=(lV (l:=r) (out:=out++[⟨x.path,1,(aB L (dt x.bytes)).1,0⟩]) (jP i (dt x.bytes))).2.trans d;obtain⟨q,s⟩:=DV (λh=>by cases h) b c o;refine⟨λo2=>?_,λg=>?_⟩
    ·rw[q,if_neg (by simp),m];simp
    ·rw[al,al,al,n λy p=>g y (by simp[p])]
     have e:fN (cI M ⟨x.path,1,(aB L (dt x.bytes)).1,0⟩)=fN x:=by
      unfold cI;dsimp only;rw[if_neg (by decide),s];rfl
     rw[e]
theorem KN(L:List Ob)(fs:List Fi):NB (fs.map (cI L)):=λx b a=>by
 obtain⟨f,c,rfl⟩:=am.1 b;unfold cI at a⊢;split
 ·rfl
 ·rename_i h;rw[if_neg h]at a;cases a
def dz(L:List Ob):Prop:=∀id,kindOf L id=3->∃a,Kept L (aj L id).tree a
theorem dz.mono{L M:List Ob}(h:dz L)(a:L<+:M)(hn:gF L M):dz M:=λid e=>by
 have c:=hn id e;obtain⟨b,d⟩:=h id c;refine⟨b,?_⟩;rw[ext_get a (by omega)];exact d.mono a
theorem Pn{L:List Ob}(n:ak L){l:List It}(h:(bz L l).2.1=0):∃fs,Kept (bz L l).2.2 (bz L l).1 fs/\(aR L l []).1=fs/\(aR L l []).2.1=0/\
  (∀M,ak M->(aR L l []).2.2<+:M->aR M l []=(fs,0,M)/\(NB l->(fs.map (cI M)).map fN=l.map fN))/\(∀M,ak M->(bz L l).2.2<+:M->bz M l=((bz L l).1,0,M)):=by
 unfold bz at h⊢;split at h
 ·exact absurd h ‹_›
 rename_i a;rw[if_neg a];have a:=ac.1 a;obtain⟨k,g,i⟩:=wB n a;obtain⟨f,o⟩:=lV (l:=l) (out:=[]) n;rw[List.nil_append]at g;rw[g]at h⊢;have m:=Kept.of f h;have e:=(n9 f k).2;refine⟨k,m,rfl,a,λM b c=>?_,λM b c=>?_⟩
 ·obtain⟨d,j⟩:=i M b c;exact⟨by rw[d];rfl,j⟩
 ·obtain⟨d,j⟩:=i M b (e.trans c);rw[d,if_neg (by simp)];exact(m.mono c).build b
structure Qe(L:List Ob)(l:List It):Prop where
 nb:NB l
 ej:dz L
theorem dz.nil:dz []:=λid h=>by
 have:=dC (l:=[]) (id:=id) (by omega);exact absurd this.2 (Nat.not_lt_zero _)
theorem vJ{M:List Ob}{t:Int}{fs:List Fi}{up:List Int}{text:List UInt8}(hc:dz M)(hk:Kept M t fs):dz (aB M (eN t up text)).2.2:=λid b=>by
 have a:=jQ (L:=M) (eN t up text);rcases DW (L:=M) (o:=eN t up text) (id:=id) (by omega)with h|h
 ·rw[dO a h]at b;obtain⟨c,d⟩:=hc id b;exact⟨c,by rw[ext_get a h];exact d.mono a⟩
 ·rw[h];exact⟨fs,hk.mono a⟩
theorem AA{L:List Ob}(c:ak L)(hc:dz L){l:List It}{h:Int}{text:List UInt8}{others:List Int}:dz (bg L l h text others).2.2:=by
 have a:=hc.mono (kJ (l:=l) c).2 yx;unfold bg;split
 ·exact a
 rename_i d;obtain⟨e,b,-⟩:=Pn c (ac.1 d);split
 ·exact a
 split
 ·exact vJ a b
 ·exact vJ a b
end Go.Nest
end
