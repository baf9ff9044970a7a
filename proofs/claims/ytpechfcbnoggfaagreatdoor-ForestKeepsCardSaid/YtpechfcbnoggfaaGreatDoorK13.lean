/- part -/
import Derived.Test.YtpechfcbnoggfaaGreatDoorQ3
import Derived.Test.YtpechfcbnoggfaaGreatDoorI1
import Derived.Test.YtpechfcbnoggfaaGreatDoorW1
set_option linter.unusedVariables false
set_option linter.unusedSimpArgs false
section
namespace Go.Nest
open Go Go.AM Go.Proofs
open Go.Proofs.YtpechfcbnoggfaaGreatDoor (tab tabOk)
set_option maxRecDepth 4000
theorem Et(x:It)(p:List UInt8):ae Tryz.prog 200 [.st (aJ x),.c (.bp [.str p])] [] (Rt (.c (.bool (dV p x))) []):=by
 refine ak (n:=8) (n0:=0) tabOk Tryz.call200 Tryz.func200 ?_;intro hb;repeat'((conv=>whnf);first|refine aE ?_|fail)
 rfl
theorem Fo(l:List It)(p:List UInt8):ae Tryz.prog 199 [.c (.bs 5 It aJ l),.c (.fn 200 [.bp [.str p]])] [] (Rt (.c (.int .i64 (bF (dV p) l))) []):=by
 refine ak (n:=19) (n0:=0) tabOk Tryz.call199 Tryz.func199 ?_;intro hb;have hb:l.length≤9223372036854775807:=hb.1.1;(conv=>whnf);refine lp Nat (fun i=>⟨[(0,.c (.bs 5 It aJ l)),(1,.c (.fn 200 [.bp [.str p]])),(7,.c (.int .i64 l.length)),(8,.c (.int .i64 i))],[]⟩) (fun i=>i≤l.length∧(l.take i).any (dV p)=false) (fun i=>l.length-i) 0 [] [] ?_ ?_ (fun i b=>?_)
 ·simp
 ·repeat' first|exact trivial|exact rfl|refine And.intro ?_ ?_
 (conv=>whnf);refine dec (fun d=>?_) (fun d=>?_)
 ·have a:i<l.length:=by omega
  repeat'((conv=>whnf);first|refine⟨_,_,rfl,List.getElem?_eq_getElem (by omega),?_⟩|fail)
  (conv=>whnf);refine cl [] [] (Et l[i] p) ?_;(conv=>whnf);refine aL (fun h=>?_) (fun h=>?_)
  ·(conv=>whnf);exact aG (jk a b.2 h)
  ·repeat'((conv=>whnf);refine I6 ?_)
   refine ag (i+1) [] [] ⟨a,gA a b.2 h⟩ (by simp only[];omega) ?_;repeat' first|exact trivial|exact rfl|refine And.intro ?_ ?_
 ·repeat'((conv=>whnf);first|refine aG ?_|fail)
  have:=b.2;rw[List.take_of_length_le (by omega)]at this;exact jT this
theorem ye(L:List Ob)(l:List It)(h:Int)(p:List UInt8):ae Tryz.prog 119 [.c (.bp [.bp [.bs 6 Ob an L],.bs 5 It aJ l,.int .i64 h]),.c (.str p)] [] (Rt (.c (.int .i64 (bF (dV p) l))) []):=by
 refine ak (n:=11) (n0:=0) tabOk Tryz.call119 Tryz.func119 ?_;intro hb;(conv=>whnf);refine cl [] [] (Fo l p) ?_;(conv=>whnf);exact rx [] []
theorem pos_at{l:List It}{p:List UInt8}{k:Nat}(hk:k≤l.length)(h1:∀g∈l.take k,au g.path p=true)(h2:∀h:k<l.length,au l[k].path p=false):ju l p=k:=by
 unfold ju;rw[(sf (p:=fun y:It=>au y.path p) hk h1 h2).1,List.length_take,Nat.min_eq_left hk]
set_option maxHeartbeats 4000000 in
theorem AG(L:List Ob)(l:List It)(h:Int)(x:It)(F:x.path.length≤4000000)(J:∀y∈l,y.path.length≤4000000)(hl:l.length≤60):ae Tryz.prog 117 [.c (.ptr 0 0),.st (aJ x)] [.box [.ptr 1 0,.rw 3,.int .i64 h],.box [.rw 2],.row 6 Ob an L,.row 5 It aJ l] (Rt (.c (.int .i64 (fU l x).1)) [.box [.ptr 1 0,.rw 5,.int .i64 h],.box [.rw 4],.dead,.dead,.row 6 Ob an L,.row 5 It aJ (fU l x).2]):=by
 refine ak (n:=106) (n0:=4) tabOk Tryz.call117 Tryz.func117 ?_;intro hb;(conv=>whnf);refine cl [] [] (vf x.path F) ?_;(conv=>whnf);refine aw (fun z=>?_) (fun z=>?_)
 ·rw[show fU l x=_ from if_pos z];(conv=>whnf);exact rx [] [.same 0,.same 1,.same 2,.same 3,.same 2,.same 3]
 have w:fU l x=_:=if_neg (fun h=>h z);(conv=>whnf);refine lp Nat (fun i=>⟨[(0,.c (.ptr 0 0)),(3,.c (.ptr 4 0)),(27,.c (.rw 3)),(28,.c (.int .i64 l.length)),(29,.c (.int .i64 i))],[.box [.ptr 1 0,.rw 3,.int .i64 h],.box [.rw 2],.row 6 Ob an L,.row 5 It aJ l]++[.box (aJ x)]⟩) (fun i=>i≤l.length∧(l.take i).any (nG x.path)=false) (fun i=>l.length-i) 0 [] [.same 0,.same 1,.same 2,.same 3,.same 4] ?_ ?_ (fun i v=>?_)
 ·simp
 ·repeat' first|exact trivial|exact rfl|refine And.intro ?_ ?_
 (conv=>whnf);refine dec (fun K=>?_) (fun K=>?_)
 ·have a:i<l.length:=by omega
  have m:=J _ (List.getElem_mem a);(conv=>whnf);refine⟨i,⟨rfl,a⟩,?_⟩;(conv=>whnf);refine⟨l[i],List.getElem?_eq_getElem a,?_⟩;have t:nG x.path l[i]=((fh x.path l[i].path).2||(fh l[i].path x.path).2):=rfl;have s:=fun h=>oA (l:=l) (p:=nG x.path) a h;have E:=fun h=>gA (p:=nG x.path) a v.2 h;generalize l[i]=y at*;(conv=>whnf);refine cl [] [] (pS x.path y.path m) ?_;(conv=>whnf);refine cl [] [] (pS y.path x.path F) ?_;(conv=>whnf);refine aL (fun o=>?_) (fun o=>?_)
  ·rw[o,Bool.true_or]at t;have e:fU l x=(10,l):=w.trans (if_pos (s t));rw[e];(conv=>whnf);exact rx [] [.same 0,.same 1,.same 2,.same 3,.same 2,.same 3]
  ·rw[o,Bool.false_or]at t;(conv=>whnf);refine aL (fun f=>?_) (fun f=>?_)
   ·have e:fU l x=(10,l):=w.trans (if_pos (s (t.trans f)));rw[e];(conv=>whnf);exact rx [] [.same 0,.same 1,.same 2,.same 3,.same 2,.same 3]
   ·repeat'((conv=>whnf);refine I6 ?_)
    refine ag (i+1) [] [.same 0,.same 1,.same 2,.same 3,.same 4] ⟨a,E (t.trans f)⟩ (by simp only[];omega) ?_;repeat' first|exact trivial|exact rfl|refine And.intro ?_ ?_
 ·have b:=v.2;rw[List.take_of_length_le (by omega)]at b;have H:=w.trans (if_neg (by rw[b];decide));(conv=>whnf);refine cl [] [] (ye L l h x.path) ?_;(conv=>whnf);refine dec (fun o=>?_) (fun o=>?_)
  ·have e:fU l x=_:=H.trans (if_pos o);rw[e];obtain⟨y,O,m⟩:=ug.1 o
   have a:(bF (dV x.path) l).toNat<l.length:=by
    rcases uh (p:=dV x.path) (l:=l)with⟨q,_⟩|⟨k,N,q,_⟩
    ·omega
    ·omega
   (conv=>whnf);refine⟨false,.grow,(.l [0,1,2,3,4,5,6,7]),by kernel_rfl,.inl ?_⟩;(conv=>whnf);refine⟨(bF (dV x.path) l).toNat,⟨by omega,a⟩,?_⟩;(conv=>whnf);refine⟨_,x,List.getElem?_eq_getElem a,⟨Nat.le_refl 5,rfl⟩,?_⟩;(conv=>whnf);exact rx [] [.same 0,.same 1,.same 2,.same 3,.same 2,.same 3]
  ·have I:=H.trans (if_neg o);(conv=>whnf);refine dec (fun f=>?_) (fun f=>?_)
   ·have f:(l.length:Int)=60:=f;have e:fU l x=_:=I.trans (if_pos (by omega));rw[e];(conv=>whnf);exact rx [] [.same 0,.same 1,.same 2,.same 3,.same 2,.same 3]
   ·have f:¬(l.length:Int)=60:=f;have e:fU l x=_:=I.trans (if_neg (by omega));rw[e];(conv=>whnf);refine lp Nat (fun i=>⟨[(0,.c (.ptr 0 0)),(3,.c (.ptr 4 0)),(14,.c (.int .i64 i))],[.box [.ptr 1 0,.rw 3,.int .i64 h],.box [.rw 2],.row 6 Ob an L,.row 5 It aJ l]++[.box (aJ x)]⟩) (fun i=>(i≤l.length∧True)∧∀g∈l.take i,au g.path x.path=true) (fun i=>l.length-i) 0 [] [.same 0,.same 1,.same 2,.same 3,.same 4] ?_ ?_ (fun i v=>?_)
    ·simp
    ·repeat' first|exact trivial|exact rfl|refine And.intro ?_ ?_
    obtain⟨⟨j,_⟩,r⟩:=v;(conv=>whnf);refine⟨false,.grow,(.l [0,1,2,3,4,5,6,7,8,9,10,11,12,13,14,15,16,17,18,19]),by kernel_rfl,.inl ?_⟩;(conv=>whnf);refine dec (fun M=>?_) (fun M=>?_)
    ·have a:i<l.length:=by omega
     have m:=J _ (List.getElem_mem a);(conv=>whnf);refine⟨i,⟨rfl,a⟩,?_⟩;(conv=>whnf);refine⟨l[i],List.getElem?_eq_getElem a,?_⟩;(conv=>whnf);refine cl [] [] (kD l[i].path x.path m F) ?_;(conv=>whnf);refine aL (fun D=>?_) (fun D=>?_)
     ·repeat'((conv=>whnf);refine I6 ?_)
      refine ag (i+1) [] [.same 0,.same 1,.same 2,.same 3,.same 4] ⟨⟨a,trivial⟩,fun g u=>?_⟩ (by simp only[];omega) ?_
      ·rw[List.take_succ_eq_append_getElem a,List.mem_append,List.mem_singleton]at u;rcases u with u|rfl
       ·exact r g u
       ·exact D
      ·repeat' first|exact trivial|exact rfl|refine And.intro ?_ ?_
     ·have b:∀h:i<l.length,au l[i].path x.path=false:=fun _=>D;have d:ju l x.path=i:=pos_at j r b;(conv=>whnf);refine⟨false,.grow,(.l [0,1,2,3,4,5,6,7,8,9,10,11]),by kernel_rfl,.inl ?_⟩;(conv=>whnf);refine⟨[x],rfl,?_⟩;(conv=>whnf);refine cl [] [3,5] (yY l x i j (by omega)) ?_;(conv=>whnf);rw[d];exact rx [] [.same 0,.same 1,.same 2,.same 3,.same 2,.same 6]
    ·have b:∀h:i<l.length,au l[i].path x.path=false:=fun h=>absurd h (by omega);have d:ju l x.path=i:=pos_at j r b;(conv=>whnf);refine⟨false,.grow,(.l [0,1,2,3,4,5,6,7,8,9,10,11]),by kernel_rfl,.inl ?_⟩;(conv=>whnf);refine⟨[x],rfl,?_⟩;(conv=>whnf);refine cl [] [3,5] (yY l x i j (by omega)) ?_;(conv=>whnf);rw[d];exact rx [] [.same 0,.same 1,.same 2,.same 3,.same 2,.same 6]
end Go.Nest
end
section
namespace Go.Nest
open Go Go.AM Go.Proofs
open Go.Proofs.YtpechfcbnoggfaaGreatDoor (tab tabOk)
set_option maxRecDepth 4000
def ij(l:List It)(p:List UInt8)(b:List UInt8):Int×List It:=if 400<b.length then(4,l)else fU l ⟨p,b,false,0,0⟩
def gG(L:List Ob)(l:List It)(p:List UInt8)(av id:Int):Int×List It:=if av<0∨4≤av then(1,l)else if kindOf L id≠3 then(9,l)else fU l ⟨p,[],true,id,av⟩
theorem JM(L:List Ob)(l:List It)(h:Int)(p b:List UInt8)(e:p.length≤4000000)(d:∀y∈l,y.path.length≤4000000)(hl:l.length≤60):ae Tryz.prog 55 [.c (.ptr 0 0),.c (.str p),.c (.bs 1 UInt8 bt b)] [.box [.ptr 1 0,.rw 3,.int .i64 h],.box [.rw 2],.row 6 Ob an L,.row 5 It aJ l] (Rt (.c (.int .i64 (ij l p b).1)) [.box [.ptr 1 0,.rw 5,.int .i64 h],.box [.rw 4],.dead,.dead,.row 6 Ob an L,.row 5 It aJ (ij l p b).2]):=by
 refine ak (n:=16) (n0:=4) tabOk Tryz.call55 Tryz.func55 ?_;intro hb;(conv=>whnf);refine dec (fun a=>?_) (fun a=>?_)
 ·rw[show ij l p b=_ from if_pos (by have a:(400:Int)<b.length:=a;omega)];(conv=>whnf);exact rx [] [.same 0,.same 1,.same 2,.same 3,.same 2,.same 3]
 have a:¬(400:Int)<b.length:=a;rw[show ij l p b=_ from if_neg (by omega)];(conv=>whnf);refine cl [] [] (th b (by omega)) ?_;(conv=>whnf);refine cl [4] [0,1,2,3] (AG L l h ⟨p,b,false,0,0⟩ e d hl) ?_;(conv=>whnf);exact rx [] [.same 0,.same 1,.same 2,.same 3,.same 5,.same 6]
theorem Ge(L:List Ob)(g:ai L)(l:List It)(h:Int)(p:List UInt8)(av id:Int)(j:p.length≤4000000)(i:∀y∈l,y.path.length≤4000000)(hl:l.length≤60):ae Tryz.prog 122 [.c (.ptr 0 0),.c (.str p),.c (.int .i64 av),.c (.int .i64 id)] [.box [.ptr 1 0,.rw 3,.int .i64 h],.box [.rw 2],.row 6 Ob an L,.row 5 It aJ l] (Rt (.c (.int .i64 (gG L l p av id).1)) [.box [.ptr 1 0,.rw 5,.int .i64 h],.box [.rw 4],.dead,.dead,.row 6 Ob an L,.row 5 It aJ (gG L l p av id).2]):=by
 refine ak (n:=37) (n0:=4) tabOk Tryz.call122 Tryz.func122 ?_;intro hb;(conv=>whnf);refine cl [] [] (fc L g id) ?_;have f:=eP (l:=L) (id:=id);(conv=>whnf);refine dec (fun a=>?_) (fun a=>?_)
 ·rw[show gG L l p av id=_ from if_pos (.inl a)];(conv=>whnf);exact rx [] [.same 0,.same 1,.same 2,.same 3,.same 2,.same 3]
 (conv=>whnf);refine dec (fun b=>?_) (fun b=>?_)
 ·rw[show gG L l p av id=_ from if_pos (.inr b)];(conv=>whnf);exact rx [] [.same 0,.same 1,.same 2,.same 3,.same 2,.same 3]
 have e:gG L l p av id=_:=if_neg (fun h=>h.elim a b);(conv=>whnf);refine aw (fun d=>?_) (fun d=>?_)
 ·rw[show gG L l p av id=_ from e.trans (if_pos (by rw[←f];exact d))];(conv=>whnf);exact rx [] [.same 0,.same 1,.same 2,.same 3,.same 2,.same 3]
 rw[show gG L l p av id=_ from e.trans (if_neg (by rw[←f];exact fun h=>h d))];(conv=>whnf);refine cl [] [0,1,2,3] (AG L l h ⟨p,[],true,id,av⟩ j i hl) ?_;(conv=>whnf);exact rx [] [.same 0,.same 1,.same 2,.same 3,.same 5,.same 6]
theorem HE(L:List Ob)(l:List It)(h:Int)(p:List UInt8)(hl:l.length≤60):ae Tryz.prog 56 [.c (.ptr 0 0),.c (.str p)] [.box [.ptr 1 0,.rw 3,.int .i64 h],.box [.rw 2],.row 6 Ob an L,.row 5 It aJ l] (Rt (.c (.int .i64 (iM l p).1)) [.box [.ptr 1 0,.rw 5,.int .i64 h],.box [.rw 4],.dead,.dead,.row 6 Ob an L,.row 5 It aJ (iM l p).2]):=by
 refine ak (n:=22) (n0:=4) tabOk Tryz.call56 Tryz.func56 ?_;intro hb;(conv=>whnf);refine cl [] [] (ye L l h p) ?_;(conv=>whnf);refine dec (fun b=>?_) (fun b=>?_)
 ·rw[show iM l p=_ from if_pos b];(conv=>whnf);exact rx [] [.same 0,.same 1,.same 2,.same 3,.same 2,.same 3]
 have a:(bF (dV p) l).toNat<l.length:=by
  rcases uh (p:=dV p) (l:=l)with⟨q,_⟩|⟨k,d,q,_⟩
  ·omega
  ·omega
 rw[show iM l p=_ from if_neg b];obtain⟨k,d⟩:∃k:Nat,bF (dV p) l=k:=⟨(bF (dV p) l).toNat,by omega⟩;rw[d]at a⊢;have a:k<l.length:=a;(conv=>whnf);refine⟨i64 (by omega) (by omega),?_⟩;(conv=>whnf);refine cl [] [3] (DD l k a (by omega)) ?_;(conv=>whnf);exact rx [] [.same 0,.same 1,.same 2,.same 3,.same 2,.same 4]
theorem yd{α:Type}{p:α→Bool}{l:List α}{i:Nat}(h:i<l.length):(l.take (i+1)).filter p=(l.take i).filter p++if p l[i]=true then[l[i]]else[]:=by
 rw[List.take_succ_eq_append_getElem h,List.filter_append];congr 1
 by_cases a:p l[i]=true
 ·rw[if_pos a,List.filter_cons_of_pos a];rfl
 ·rw[if_neg a,List.filter_cons_of_neg a];rfl
theorem filter_le{α:Type}{p:α→Bool}{l:List α}{i:Nat}(h:i≤l.length):((l.take i).filter p).length≤i:=Nat.le_trans (List.length_filter_le ..) (by rw[List.length_take];omega)
theorem Km(L:List Ob)(l:List It)(h:Int)(p:List UInt8)(hl:l.length≤60):ae Tryz.prog 78 [.c (.ptr 0 0),.c (.str p)] [.box [.ptr 1 0,.rw 3,.int .i64 h],.box [.rw 2],.row 6 Ob an L,.row 5 It aJ l] (Rt (.c (.int .i64 (rU l p).1)) [.box [.ptr 1 0,.rw 5,.int .i64 h],.box [.rw 4],.dead,.dead,.row 6 Ob an L,.row 5 It aJ (rU l p).2]):=by
 refine ak (n:=48) (n0:=4) tabOk Tryz.call78 Tryz.func78 ?_;intro hb;(conv=>whnf);refine lp Nat (fun i=>⟨[(0,.c (.ptr 0 0)),(1,.c (.str p)),(5,.c (.rw 4)),(6,.c (.int .i64 i))],[.box [.ptr 1 0,.rw 3,.int .i64 h],.box [.rw 2],.row 6 Ob an L,.row 5 It aJ l]++[.row 5 It aJ ((l.take i).filter fun y=>decide (y.path≠p))]⟩) (fun i=>i≤l.length∧True) (fun i=>l.length-i) 0 [] [.same 0,.same 1,.same 2,.same 3,.new] ?_ ?_ (fun i m=>?_)
 ·simp
 ·repeat' first|exact trivial|exact rfl|refine And.intro ?_ ?_
 (conv=>whnf);refine dec (fun j=>?_) (fun j=>?_)
 ·have a:i<l.length:=by omega
  have d:=yd (p:=fun y:It=>decide (y.path≠p)) a;have k:=filter_le (p:=fun y:It=>decide (y.path≠p)) m.1;have b:l[i]? =some l[i]:=List.getElem?_eq_getElem a;(conv=>whnf);refine⟨i,⟨rfl,a⟩,?_⟩;(conv=>whnf);refine⟨l[i],b,?_⟩;generalize (l.take i).filter (fun y=>decide (y.path≠p))=out at*;generalize l[i]=y at*;(conv=>whnf);refine aw (fun g=>?_) (fun g=>?_)
  ·rw[if_pos (by simpa using g)]at d;(conv=>whnf);refine⟨i,⟨rfl,a⟩,?_⟩;(conv=>whnf);refine⟨y,b,?_⟩;(conv=>whnf);refine⟨[y],rfl,?_⟩;(conv=>whnf);refine⟨_,_,rfl,rfl,(by simp only[List.length_append,List.length_cons,List.length_nil];omega),?_⟩;repeat'((conv=>whnf);refine I6 ?_)
   refine ag (i+1) [] [.same 0,.same 1,.same 2,.same 3,.same 6] ⟨a,trivial⟩ (by simp only[];omega) ?_;rw[d];repeat' first|exact trivial|exact rfl|refine And.intro ?_ ?_
  ·rw[if_neg (by simpa using g),List.append_nil]at d;repeat'((conv=>whnf);refine I6 ?_)
   refine ag (i+1) [] [.same 0,.same 1,.same 2,.same 3,.same 4] ⟨a,trivial⟩ (by simp only[];omega) ?_;rw[d];repeat' first|exact trivial|exact rfl|refine And.intro ?_ ?_
 ·obtain rfl:i=l.length:=by omega
  rw[List.take_length];(conv=>whnf);refine dec (fun f=>?_) (fun f=>?_)
  ·rw[show rU l p=_ from if_pos (Int.ofNat_inj.1 f)];(conv=>whnf);exact rx [] [.same 0,.same 1,.same 2,.same 3,.same 2,.same 3]
  ·rw[show rU l p=_ from if_neg (fun e=>f (congrArg Int.ofNat e))];(conv=>whnf);exact rx [] [.same 0,.same 1,.same 2,.same 3,.same 2,.same 4]
theorem DX(L:List Ob)(l:List It)(h:Int)(hl:l.length≤60)(b:∀x∈l,x.bytes.length≤400):ae Tryz.prog 68 [.c (.bp [.bp [.bs 6 Ob an L],.bs 5 It aJ l,.int .i64 h])] [] (Rt (.c (.rw 0)) [.row 2 Dc dZ (l.map dI)]):=by
 refine ak (n:=26) (n0:=0) tabOk Tryz.call68 Tryz.func68 ?_;intro hb;(conv=>whnf);refine lp Nat (fun i=>⟨[(3,.c (.rw 0)),(9,.c (.bs 5 It aJ l)),(10,.c (.int .i64 l.length)),(11,.c (.int .i64 i))],[.row 2 Dc dZ ((l.take i).map dI)]⟩) (fun i=>i≤l.length∧True) (fun i=>l.length-i) 0 [] [.new] ?_ ?_ (fun i j=>?_)
 ·simp
 ·repeat' first|exact trivial|exact rfl|refine And.intro ?_ ?_
 (conv=>whnf);refine dec (fun d=>?_) (fun d=>?_)
 ·have a:i<l.length:=by omega
  have f:((l.take i).map dI).length≤i:=by rw[List.length_map,List.length_take];omega
  have g:(l.take (i+1)).map dI=(l.take i).map dI++[dI l[i]]:=by rw[List.take_succ_eq_append_getElem a,List.map_append];rfl
  have e:=b _ (List.getElem_mem a);generalize (l.take i).map dI=out at*;(conv=>whnf);refine⟨i,l[i],rfl,List.getElem?_eq_getElem a,?_⟩;generalize l[i]=x at*;(conv=>whnf);refine⟨false,.grow,(.l [0,1,2,3,4,5,6,7,8,9]),by kernel_rfl,.inl ?_⟩;(conv=>whnf);refine cl [] [] (th x.bytes (by omega)) ?_;(conv=>whnf);refine⟨[⟨x.path,x.bytes⟩],rfl,?_⟩;(conv=>whnf);refine⟨_,_,rfl,rfl,(by simp only[List.length_append,List.length_cons,List.length_nil];omega),?_⟩;repeat'((conv=>whnf);refine I6 ?_)
  refine ag (i+1) [] [.same 4] ⟨a,trivial⟩ (by simp only[];omega) ?_;rw[g];repeat' first|exact trivial|exact rfl|refine And.intro ?_ ?_
 ·obtain rfl:i=l.length:=by omega
  rw[List.take_length];(conv=>whnf);exact rx [] [.same 0]
theorem Gh(L:List Ob)(l:List It)(h:Int)(hl:l.length≤60):ae Tryz.prog 138 [.c (.bp [.bp [.bs 6 Ob an L],.bs 5 It aJ l,.int .i64 h])] [] (Rt (.c (.rw 0)) [.row 4 Fi ao (eD l)]):=by
 refine ak (n:=29) (n0:=0) tabOk Tryz.call138 Tryz.func138 ?_;intro hb;(conv=>whnf);refine lp Nat (fun i=>⟨[(3,.c (.rw 0)),(9,.c (.bs 5 It aJ l)),(10,.c (.int .i64 l.length)),(11,.c (.int .i64 i))],[.row 4 Fi ao (eD (l.take i))]⟩) (fun i=>i≤l.length∧True) (fun i=>l.length-i) 0 [] [.new] ?_ ?_ (fun i g=>?_)
 ·simp
 ·repeat' first|exact trivial|exact rfl|refine And.intro ?_ ?_
 (conv=>whnf);refine dec (fun e=>?_) (fun e=>?_)
 ·have a:i<l.length:=by omega
  have f:(eD (l.take i)).length≤i:=by unfold eD;rw[List.length_map];exact filter_le (by omega)
  have b:eD (l.take (i+1))=eD (l.take i)++if l[i].link=true then[iH l[i]]else[]:=by
   unfold eD;rw[yd a,List.map_append];congr 1
   split<;>rfl
  generalize eD (l.take i)=out at*;(conv=>whnf);refine⟨i,l[i],rfl,List.getElem?_eq_getElem a,?_⟩;generalize l[i]=x at*;(conv=>whnf);refine aL (fun d=>?_) (fun d=>?_)
  ·rw[if_pos d]at b;(conv=>whnf);refine⟨[iH x],rfl,?_⟩;(conv=>whnf);refine⟨_,_,rfl,rfl,(by simp only[List.length_append,List.length_cons,List.length_nil];omega),?_⟩;repeat'((conv=>whnf);refine I6 ?_)
   refine ag (i+1) [] [.same 3] ⟨a,trivial⟩ (by simp only[];omega) ?_;rw[b];repeat' first|exact trivial|exact rfl|refine And.intro ?_ ?_
  ·rw[if_neg (by rw[d];decide),List.append_nil]at b;repeat'((conv=>whnf);refine I6 ?_)
   refine ag (i+1) [] [.same 0] ⟨a,trivial⟩ (by simp only[];omega) ?_;rw[b];repeat' first|exact trivial|exact rfl|refine And.intro ?_ ?_
 ·obtain rfl:i=l.length:=by omega
  rw[List.take_length];(conv=>whnf);exact rx [] [.same 0]
theorem nF(L:List Ob)(l:List It)(h:Int):ae Tryz.prog 70 [.c (.bp [.bp [.bs 6 Ob an L],.bs 5 It aJ l,.int .i64 h])] [] (Rt (.c (.int .i64 h)) []):=by
 refine ak (n:=7) (n0:=0) tabOk Tryz.call70 Tryz.func70 ?_;intro hb;repeat'((conv=>whnf);first|refine aG ?_|fail)
 rfl
end Go.Nest
end
section
namespace Go.Nest
open Go Go.AM Go.Proofs
open Go.Proofs.YtpechfcbnoggfaaGreatDoor (tab tabOk)
set_option maxRecDepth 4000
theorem El{L:List Ob}{x:It}{r:List It}{out:List Fi}(h:x.link=true):aM L (x::r) out=aM L r (out++[iH x]):=by
 rw[aM,if_pos h]
theorem Em{L:List Ob}{x:It}{r:List It}{out:List Fi}(h:x.link=false)(h2:(ax L (du x.bytes)).2.1≠0):aM L (x::r) out=([],(ax L (du x.bytes)).2.1,(ax L (du x.bytes)).2.2):=by
 rw[aM,if_neg (by rw[h];decide),if_pos h2]
theorem Eo{L:List Ob}{x:It}{r:List It}{out:List Fi}(h:x.link=false)(h2:¬(ax L (du x.bytes)).2.1≠0):aM L (x::r) out=aM (ax L (du x.bytes)).2.2 r (out++[⟨x.path,1,(ax L (du x.bytes)).1,0⟩]):=by
 rw[aM,if_neg (by rw[h];decide),if_neg h2]
set_option maxHeartbeats 4000000 in
theorem yb(L:List Ob)(r:ai L)(l:List It)(h:Int)(hl:l.length≤60):ae Tryz.prog 164 [.c (.ptr 0 0)] [.box [.ptr 1 0,.rw 3,.int .i64 h],.box [.rw 2],.row 6 Ob an L,.row 5 It aJ l] (Rt (.aC [(false,[.rw 6]),(false,[.int .i64 (aM L l []).2.1])]) ([.box [.ptr 1 0,.rw 5,.int .i64 h],.box [.rw 4],.dead,.dead,.row 6 Ob an (aM L l []).2.2,.row 5 It aJ l]++[.row 4 Fi ao (aM L l []).1])):=by
 refine ak (n:=53) (n0:=4) tabOk Tryz.call164 Tryz.func164 ?_;intro hb;(conv=>whnf);refine lp (Nat×List Ob×List Fi) (fun|(i,M,out)=>⟨[(0,.c (.ptr 0 0)),(4,.c (.rw 5)),(13,.c (.rw 3)),(14,.c (.int .i64 l.length)),(15,.c (.int .i64 i))],[.box [.ptr 1 0,.rw 3,.int .i64 h],.box [.rw 4],.dead,.row 5 It aJ l,.row 6 Ob an M]++[.row 4 Fi ao out]⟩) (fun x=>(x.1≤l.length∧x.2.2.length≤x.1)∧ai x.2.1∧aM L l []=aM x.2.1 (l.drop x.1) x.2.2) (fun x=>l.length-x.1) (0,L,[]) [] [.same 0,.same 1,.same 2,.same 3,.same 2,.new] ?_ ?_ (fun x s=>?_)
 ·exact⟨⟨Nat.zero_le _,Nat.zero_le _⟩,r,rfl⟩
 ·repeat' first|exact trivial|exact rfl|refine And.intro ?_ ?_
 obtain⟨i,M,out⟩:=x;obtain⟨⟨o,p⟩,e,b⟩:=s;dsimp only at o p e b;(conv=>whnf);refine dec (fun q=>?_) (fun q=>?_)
 ·have a:i<l.length:=by omega
  have k:l.drop i=l[i]::l.drop (i+1):=List.drop_eq_getElem_cons a;rw[k]at b;(conv=>whnf);refine⟨i,⟨rfl,a⟩,?_⟩;(conv=>whnf);refine⟨l[i],List.getElem?_eq_getElem a,?_⟩;generalize l[i]=x at*;(conv=>whnf);refine cO (fun d=>?_) (fun d=>?_)
  ·have t:=pC M (du x.bytes) e.len;have j:=jv e (du x.bytes);(conv=>whnf);refine⟨false,.grow,(.l [0,1,2,3,4,5,6,7,8,9,10,11,12]),by kernel_rfl,.inl ?_⟩;(conv=>whnf);refine cl [] [1,4] (t) ?_;(conv=>whnf);refine aw (fun f=>?_) (fun f=>?_)
   ·rw[b,Em d f];(conv=>whnf);exact rx [] [.same 0,.same 1,.same 2,.same 3,.same 8,.same 3,.new]
   ·have g:¬(ax M (du x.bytes)).2.1≠0:=fun h=>h f;rw[Eo d g]at b;generalize (ax M (du x.bytes)).2.2=m at*;generalize (ax M (du x.bytes)).1=id at*;(conv=>whnf);refine⟨[⟨x.path,1,id,0⟩],rfl,?_⟩;(conv=>whnf);refine⟨_,_,rfl,rfl,(by simp only[List.length_append,List.length_cons,List.length_nil];omega),?_⟩;repeat'((conv=>whnf);refine I6 ?_)
    refine ag (i+1,m,out++[⟨x.path,1,id,0⟩]) [] [.same 0,.same 1,.same 2,.same 3,.same 8,.same 10] ⟨⟨a,by simp only[List.length_append,List.length_cons,List.length_nil];omega⟩,j,b⟩ (by simp only[];omega) ?_;repeat' first|exact trivial|exact rfl|refine And.intro ?_ ?_
  ·rw[El d]at b;(conv=>whnf);refine⟨[iH x],rfl,?_⟩;(conv=>whnf);refine⟨_,_,rfl,rfl,(by simp only[List.length_append,List.length_cons,List.length_nil];omega),?_⟩;repeat'((conv=>whnf);refine I6 ?_)
   refine ag (i+1,M,out++[iH x]) [] [.same 0,.same 1,.same 2,.same 3,.same 4,.same 9] ⟨⟨a,by simp only[List.length_append,List.length_cons,List.length_nil];omega⟩,e,b⟩ (by simp only[];omega) ?_;repeat' first|exact trivial|exact rfl|refine And.intro ?_ ?_
 ·obtain rfl:i=l.length:=by omega
  rw[List.drop_length]at b;rw[b];(conv=>whnf);exact rx [] [.same 0,.same 1,.same 2,.same 3,.same 4,.same 3,.same 5]
theorem BF(L:List Ob)(e:ai L)(l:List It)(h:Int)(j:∀y∈l,y.path.length≤4000000)(hl:l.length≤60):ae Tryz.prog 201 [.c (.ptr 0 0)] [.box [.ptr 1 0,.rw 3,.int .i64 h],.box [.rw 2],.row 6 Ob an L,.row 5 It aJ l] (Rt (.aC [(false,[.int .i64 (ba L l).1]),(false,[.int .i64 (ba L l).2.1])]) [.box [.ptr 1 0,.rw 5,.int .i64 h],.box [.rw 4],.dead,.dead,.row 6 Ob an (ba L l).2.2,.row 5 It aJ l]):=by
 refine ak (n:=22) (n0:=4) tabOk Tryz.call201 Tryz.func201 ?_;intro hb;have b:=qG (n:=4000000) (L:=L) (out:=[]) (fun f i=>(by cases i)) j;have a:=(kq (l:=l) (out:=[]) e).1;unfold ba;(conv=>whnf);refine cl [] [0,1,2,3] (yb L e l h hl) ?_;generalize aM L l []=F at*;obtain⟨g,c,M⟩:=F;dsimp only at b a;(conv=>whnf);refine aw (fun d=>?_) (fun d=>?_)
 ·rw[if_pos d];(conv=>whnf);exact rx [] [.same 0,.same 1,.same 2,.same 3,.same 4,.same 5]
 ·rw[if_neg (fun h=>h d)];(conv=>whnf);refine cl [] [1,4] (yh M g a b) ?_;(conv=>whnf);exact rx [] [.same 0,.same 1,.same 2,.same 3,.same 7,.same 5]
theorem A7(L:List Ob)(b:ai L)(l:List It)(h t:Int):ae Tryz.prog 202 [.c (.bp [.bp [.bs 6 Ob an L],.bs 5 It aJ l,.int .i64 h]),.c (.int .i64 t)] [] (Rt (.c (.bool (n4 L l h t))) []):=by
 refine ak (n:=34) (n0:=0) tabOk Tryz.call202 Tryz.func202 ?_;intro hb;unfold n4;(conv=>whnf);refine dec (fun a=>?_) (fun a=>?_)
 ·rw[if_pos a];(conv=>whnf);exact aE (by rw[decide_eq_decide];omega)
 ·rw[if_neg a];(conv=>whnf);refine⟨false,.grow,(.alt [0,1,2,3,4,5,6,7] [8,12] fun j=>bif Nat.beq j 8 then(.l [9,10,11,12,13,14])else bif Nat.beq j 12 then(.l [8,9,10,11,13,14])else .l []),by kernel_rfl,.inl ?_⟩;(conv=>whnf);refine And.intro ?_ ?_
  all_goals
   (conv=>whnf);refine cl [] [] (fc L b h) ?_;(conv=>whnf);exact aE rfl
theorem xm(L:List Ob)(e:ai L)(l:List It)(h:Int)(f:∀y∈l,y.path.length≤4000000)(hl:l.length≤60):ae Tryz.prog 127 [.c (.ptr 0 0)] [.box [.ptr 1 0,.rw 3,.int .i64 h],.box [.rw 2],.row 6 Ob an L,.row 5 It aJ l] (Rt (.c (.int .i64 (fm L l h))) [.box [.ptr 1 0,.rw 5,.int .i64 h],.box [.rw 4],.dead,.dead,.row 6 Ob an (ba L l).2.2,.row 5 It aJ l]):=by
 refine ak (n:=19) (n0:=4) tabOk Tryz.call127 Tryz.func127 ?_;intro hb;have a:=(iT (l:=l) e).1;unfold fm;(conv=>whnf);refine cl [] [0,1,2,3] (BF L e l h f hl) ?_;generalize ba L l=T at*;obtain⟨t,c,M⟩:=T;dsimp only at a;(conv=>whnf);refine dec (fun b=>?_) (fun b=>?_)
 ·rw[if_neg (fun h=>h b)];(conv=>whnf);refine cl [] [] (A7 M a l h t) ?_;(conv=>whnf);refine cO (fun d=>?_) (fun d=>?_)
  ·rw[if_neg (by rw[d];decide)];(conv=>whnf);exact rx [] [.same 0,.same 1,.same 2,.same 3,.same 4,.same 5]
  ·rw[if_pos d];(conv=>whnf);rw[b];exact rx [] [.same 0,.same 1,.same 2,.same 3,.same 4,.same 5]
 ·rw[if_pos b];(conv=>whnf);exact rx [] [.same 0,.same 1,.same 2,.same 3,.same 4,.same 5]
end Go.Nest
end
section
namespace Go.Nest
open Go Go.AM Go.Proofs
open Go.Proofs.YtpechfcbnoggfaaGreatDoor (tab tabOk)
set_option maxRecDepth 4000
def gz(L:List Ob)(h:Int):Prop:=h<0∨kindOf L h=3
theorem gz.ext{L M:List Ob}{h:Int}(a:gz L h)(c:L<+:M):gz M h:=a.imp id fun b=>by rw[c9 c (by omega)];exact b
theorem x8{L:List Ob}{t:Int}:(bw L t).1.length≤60:=by
 unfold bw;have:=nA L 9 t [] [] (by decide);split
 ·exact this
 ·simp
theorem x9{M:List Ob}(b:ai M)(t:Int):B0 (bw M t).1∧∀f∈(bw M t).1,f.path.length≤4000000:=by
 by_cases g:(bw M t).2=0
 ·obtain⟨d,p,j⟩:=oQ b g;obtain⟨n,o⟩:=gM b d.1;obtain⟨i,c⟩:=d.2.sQ b n o;refine⟨⟨i.imp fun h=>h.1,fun f a e=>?_⟩,fun f a=>?_⟩
  ·have:=(c f a).2;omega
  ·have k:=(c f a).1;have l:=oe (aA f.path) fun s m=>ph (nT k s m);rw[og]at l;have:=j f a;omega
 ·rw[tP g];exact⟨⟨.nil,fun f a=>by cases a⟩,fun f a=>by cases a⟩
theorem tN:∀{l:List It} {L:List Ob} {out:List Fi},(aM L l out).2.1=0→(aM L l out).1.map (·.path)=out.map (·.path)++l.map (·.path)∧((∀f∈out,f.mode≠0)→∀f∈(aM L l out).1,f.mode≠0)
 |[],L,out,_=>⟨by simp[aM],fun h=>h⟩
 |x::r,L,out,h=>by
  unfold aM at h⊢;split at h
  ·rename_i c;rw[if_pos c];obtain⟨a,b⟩:=tN h;refine⟨by rw[a];simp[iH],fun e=>b fun f hf=>?_⟩;rcases List.mem_append.1 hf with hf|hf
   ·exact e f hf
   ·rw[List.mem_singleton]at hf;subst hf;exact(by decide:(3:Int)≠0)
  ·rename_i c;rw[if_neg c];split at h
   ·rename_i d;exact absurd h d
   ·rename_i d;rw[if_neg d];obtain⟨a,b⟩:=tN h;refine⟨by rw[a];simp,fun e=>b fun f hf=>?_⟩;rcases List.mem_append.1 hf with hf|hf
    ·exact e f hf
    ·rw[List.mem_singleton]at hf;subst hf;exact(by decide:(1:Int)≠0)
set_option maxHeartbeats 1000000 in
theorem IY(L:List Ob)(p:ai L)(l:List It)(h:Int)(r:∀y∈l,y.path.length≤4000000)(hl:l.length≤60):ae Tryz.prog 95 [.c (.ptr 0 0)] [.box [.ptr 1 0,.rw 3,.int .i64 h],.box [.rw 2],.row 6 Ob an L,.row 5 It aJ l] (Rt (.aC [(false,[.rw 6]),(false,[.int .i64 (lU L l h).2])]) ([.box [.ptr 1 0,.rw 5,.int .i64 h],.box [.rw 4],.dead,.dead,.row 6 Ob an (aM L l []).2.2,.row 5 It aJ l]++[.row 9 Ch jP (lU L l h).1])):=by
 refine ak (n:=52) (n0:=4) tabOk Tryz.call95 Tryz.func95 ?_;intro hb;have a:=(kq (l:=l) (out:=[]) p).1;have b:=tM (l:=l) (L:=L) (out:=[]);have d:=qG (n:=4000000) (L:=L) (out:=[]) (fun f m=>(by cases m)) r;unfold lU;(conv=>whnf);refine cl [] [0,1,2,3] (yb L p l h hl) ?_;generalize aM L l []=F at*;obtain⟨e,c,M⟩:=F;dsimp only at a b d;have b:e.length≤60:=by simp at b;omega
 (conv=>whnf);refine aw (fun g=>?_) (fun g=>?_)
 ·rw[if_pos g];(conv=>whnf);exact rx [] [.same 0,.same 1,.same 2,.same 3,.same 4,.same 5,.new]
 rw[if_neg (fun h=>h g)];(conv=>whnf);refine dec (fun i=>?_) (fun i=>?_)
 ·rw[if_pos i];(conv=>whnf);refine cl [] [] (xN [] e (by decide) (by omega) (fun f m=>by cases m) d) ?_;(conv=>whnf);exact rx [] [.same 0,.same 1,.same 2,.same 3,.same 4,.same 5,.same 7]
 ·rw[if_neg i];(conv=>whnf);refine⟨false,.grow,(.alt [0,1,2,3,4,5,6,7] [8,12] fun j=>bif Nat.beq j 8 then(.l [9,10,11,12,13,14])else bif Nat.beq j 12 then(.l [8,9,10,11,13,14])else .l []),by kernel_rfl,.inl ?_⟩;have o:=x9 a (aj M h).tree;have q:=x8 (L:=M) (t:=(aj M h).tree);(conv=>whnf);refine And.intro ?_ ?_
  all_goals
   (conv=>whnf);refine cl [] [] (fc M a h) ?_;(conv=>whnf);refine⟨false,.grow,(.l [0,1,2,3,4,5,6,7,8,9,10,11]),by kernel_rfl,.inl ?_⟩;(conv=>whnf);refine cl [] [] (qI M a (aj M h).tree) ?_;(conv=>whnf);refine aw (fun k=>?_) (fun k=>?_)
   ·rw[if_pos k];(conv=>whnf);exact rx [] [.same 0,.same 1,.same 2,.same 3,.same 4,.same 5,.new]
   ·rw[if_neg (fun h=>h k)];(conv=>whnf);refine cl [] [] (xN (bw M (aj M h).tree).1 e (by omega) (by omega) o.2 d) ?_;(conv=>whnf);exact rx [] [.same 0,.same 1,.same 2,.same 3,.same 4,.same 5,.same 9]
end Go.Nest
end
section
namespace Go.Nest
open Go Go.AM Go.Proofs
open Go.Proofs.YtpechfcbnoggfaaGreatDoor (tab tabOk)
set_option maxRecDepth 4000
set_option maxHeartbeats 1000000 in
theorem xz(L:List Ob)(r:ai L)(l:List It)(h:Int)(w:∀y∈l,y.path.length≤4000000)(hl:l.length≤60)(text:List UInt8)(others:List Int)(ho:others.length≤1000)(s:gz L h):ae Tryz.prog 124 [.c (.ptr 0 0),.c (.str text),.c (.bs 1 Int encI others)] [.box [.ptr 1 0,.rw 3,.int .i64 h],.box [.rw 2],.row 6 Ob an L,.row 5 It aJ l] (Rt (.aC [(false,[.int .i64 (bc L l h text others).1]),(false,[.int .i64 (bc L l h text others).2.1])]) [.box [.ptr 1 0,.rw 5,.int .i64 (lA L l h text others)],.box [.rw 4],.dead,.dead,.row 6 Ob an (bc L l h text others).2.2,.row 5 It aJ l]):=by
 have e:=(iT (l:=l) r).1;have s:=s.ext (iT (l:=l) r).2;have u:lA L l h text others=if(bc L l h text others).2.1=0 then(bc L l h text others).1 else h:=rfl
 rw[u];have i:bc L l h text others=_:=rfl;conv at i=>rhs;unfold bc
 have v:=BF L r l h w hl;generalize bc L l h text others=R at*;generalize ba L l=T at*;obtain⟨t,c,M⟩:=T;dsimp only at e s i;have g:=pC M (dX t (kf h others) text) e.len;generalize z:ax M (dX t (kf h others) text)=P at*;obtain⟨id,o,x⟩:=P;dsimp only at g i;refine ak (n:=69) (n0:=4) tabOk Tryz.call124 Tryz.func124 ?_;intro hb;(conv=>whnf);refine cl [] [0,1,2,3] (v) ?_;(conv=>whnf);refine aw (fun m=>?_) (fun m=>?_)
 ·rw[i.trans (if_pos m),if_neg m];(conv=>whnf);exact rx [] [.same 0,.same 1,.same 2,.same 3,.same 4,.same 5]
 have k:=i.trans (if_neg (fun h=>h m));(conv=>whnf);refine dec (fun b=>?_) (fun b=>?_)
 ·have b:0≤h:=b;have f:kf h others=[h]++others:=by unfold kf;rw[if_pos b]
  rw[f]at g;(conv=>whnf);refine cl [] [] (A7 M e l h t) ?_;(conv=>whnf);refine aL (fun p=>?_) (fun p=>?_)
  ·(conv=>whnf);refine dec (fun q=>?_) (fun q=>?_)
   ·rw[k.trans (if_pos ⟨b,p,Int.ofNat_inj.1 q⟩),if_neg (show¬(17:Int)=0 by decide)];(conv=>whnf);exact rx [] [.same 0,.same 1,.same 2,.same 3,.same 4,.same 5]
   ·have d:=k.trans (if_neg (fun h=>q (congrArg Int.ofNat h.2.2)));(conv=>whnf);refine dec (fun _=>?_) (fun h=>absurd b h);(conv=>whnf);refine⟨[h],rfl,?_⟩;(conv=>whnf);refine⟨[],_,rfl,rfl,(by simp only[List.length_nil,List.length_cons];omega),?_⟩;(conv=>whnf);refine⟨true,.any,(.alt [0,1,2,4,5,6,8] [3,7] fun j=>bif Nat.beq j 3 then(.l [7,9,10,11,12,13,14,15])else bif Nat.beq j 7 then(.l [9,3,10,11,12,13,14,15])else .l []),by kernel_rfl,.inl ?_⟩;(conv=>whnf);refine And.intro ?_ ?_
    all_goals
     (conv=>whnf);refine⟨_,_,rfl,rfl,(by simp only[List.length_append,List.length_nil,List.length_cons];omega),?_⟩;(conv=>whnf);refine cl [] [1,4] (g) ?_;(conv=>whnf);refine aw (fun a=>?_) (fun a=>?_)
     ·rw[d.trans (if_pos a),if_neg a];(conv=>whnf);exact rx [] [.same 0,.same 1,.same 2,.same 3,.same 9,.same 5]
     ·rw[d.trans (if_neg (fun h=>h a)),if_pos a];have a:o=0:=a;subst a;(conv=>whnf);exact rx [] [.same 0,.same 1,.same 2,.same 3,.same 9,.same 5]
  ·have d:=k.trans (if_neg (fun h=>by have:=h.2.1;rw[p]at this;cases this));(conv=>whnf);refine dec (fun _=>?_) (fun h=>absurd b h);(conv=>whnf);refine⟨[h],rfl,?_⟩;(conv=>whnf);refine⟨[],_,rfl,rfl,(by simp only[List.length_nil,List.length_cons];omega),?_⟩;(conv=>whnf);refine⟨true,.any,(.alt [0,1,2,4,5,6,8] [3,7] fun j=>bif Nat.beq j 3 then(.l [7,9,10,11,12,13,14,15])else bif Nat.beq j 7 then(.l [9,3,10,11,12,13,14,15])else .l []),by kernel_rfl,.inl ?_⟩;(conv=>whnf);refine And.intro ?_ ?_
   all_goals
    (conv=>whnf);refine⟨_,_,rfl,rfl,(by simp only[List.length_append,List.length_nil,List.length_cons];omega),?_⟩;(conv=>whnf);refine cl [] [1,4] (g) ?_;(conv=>whnf);refine aw (fun a=>?_) (fun a=>?_)
    ·rw[d.trans (if_pos a),if_neg a];(conv=>whnf);exact rx [] [.same 0,.same 1,.same 2,.same 3,.same 9,.same 5]
    ·rw[d.trans (if_neg (fun h=>h a)),if_pos a];have a:o=0:=a;subst a;(conv=>whnf);exact rx [] [.same 0,.same 1,.same 2,.same 3,.same 9,.same 5]
 ·have b:¬0≤h:=b;have f:kf h others=[]++others:=by unfold kf;rw[if_neg b]
  rw[f]at g;have d:=k.trans (if_neg (fun h=>b h.1));(conv=>whnf);refine dec (fun h=>absurd h b) (fun _=>?_);(conv=>whnf);refine⟨true,.any,(.alt [0,1,2,4,5,6,8] [3,7] fun j=>bif Nat.beq j 3 then(.l [7,9,10,11,12,13,14,15])else bif Nat.beq j 7 then(.l [9,3,10,11,12,13,14,15])else .l []),by kernel_rfl,.inl ?_⟩;(conv=>whnf);refine And.intro ?_ ?_
  all_goals
   (conv=>whnf);refine⟨[],_,rfl,rfl,(by simp only[List.length_nil];omega),?_⟩;(conv=>whnf);refine cl [] [1,4] (g) ?_;(conv=>whnf);refine aw (fun a=>?_) (fun a=>?_)
   ·rw[d.trans (if_pos a),if_neg a];(conv=>whnf);exact rx [] [.same 0,.same 1,.same 2,.same 3,.same 7,.same 5]
   ·rw[d.trans (if_neg (fun h=>h a)),if_pos a];have a:o=0:=a;subst a;(conv=>whnf);exact rx [] [.same 0,.same 1,.same 2,.same 3,.same 7,.same 5]
end Go.Nest
end
section
namespace Go.Nest
open Go Go.AM Go.Proofs
open Go.Proofs.YtpechfcbnoggfaaGreatDoor (tab tabOk)
set_option maxRecDepth 4000
theorem FP{L:List Ob}{f:Fi}(h:f.mode=3):ck L f=⟨f.path,[],decide (f.mode=3),f.id,f.av⟩:=(if_pos h).trans (by rw[decide_eq_true h])
theorem FO{L:List Ob}{f:Fi}(h:¬f.mode=3):ck L f=⟨f.path,(aj L f.id).bytes,false,0,0⟩:=if_neg h
set_option maxHeartbeats 1000000 in
theorem zn(L:List Ob)(g:ai L)(l:List It)(h:Int)(fs:List Fi)(m:fs.length≤60):ae Tryz.prog 205 [.c (.ptr 0 0),.c (.bs 4 Fi ao fs)] [.box [.ptr 1 0,.rw 3,.int .i64 h],.box [.rw 2],.row 6 Ob an L,.row 5 It aJ l] (Rt (.aC []) [.box [.ptr 1 0,.rw 5,.int .i64 h],.box [.rw 4],.dead,.dead,.row 6 Ob an L,.row 5 It aJ (fs.map (ck L))]):=by
 refine ak (n:=57) (n0:=4) tabOk Tryz.call205 Tryz.func205 ?_;intro hb;(conv=>whnf);refine lp Nat (fun i=>⟨[(0,.c (.ptr 0 0)),(12,.c (.bs 4 Fi ao fs)),(13,.c (.int .i64 fs.length)),(14,.c (.int .i64 i))],[.box [.ptr 1 0,.rw 4,.int .i64 h],.box [.rw 2],.row 6 Ob an L,.dead,.row 5 It aJ ((fs.take i).map (ck L))]⟩) (fun i=>i≤fs.length∧True) (fun i=>fs.length-i) 0 [] [.same 0,.same 1,.same 2,.same 3,.new] ?_ ?_ (fun i o=>?_)
 ·simp
 ·repeat' first|exact trivial|exact rfl|refine And.intro ?_ ?_
 (conv=>whnf);refine dec (fun e=>?_) (fun e=>?_)
 ·have a:i<fs.length:=by omega
  have k:((fs.take i).map (ck L)).length≤i:=by rw[List.length_map,List.length_take];omega
  have b:(fs.take (i+1)).map (ck L)=(fs.take i).map (ck L)++[ck L fs[i]]:=by rw[List.take_succ_eq_append_getElem a,List.map_append];rfl
  generalize (fs.take i).map (ck L)=out at*;(conv=>whnf);refine⟨i,fs[i],rfl,List.getElem?_eq_getElem a,?_⟩;generalize fs[i]=f at*;(conv=>whnf);refine aw (fun d=>?_) (fun d=>?_)
  ·rw[FO d]at b;(conv=>whnf);refine⟨false,.grow,(.alt [0,1,2,3,4,5] [6,10] fun j=>bif Nat.beq j 6 then(.l [7,8,9,10,11,12])else bif Nat.beq j 10 then(.l [6,7,8,9,11,12])else .l []),by kernel_rfl,.inl ?_⟩;(conv=>whnf);refine And.intro ?_ ?_
   all_goals
    (conv=>whnf);refine cl [] [] (fc L g f.id) ?_;(conv=>whnf);refine⟨false,.grow,(.l [0,1,2,3,4,5,6,7,8,9,10]),by kernel_rfl,.inl ?_⟩;(conv=>whnf);refine⟨[⟨f.path,(aj L f.id).bytes,false,0,0⟩],rfl,?_⟩;(conv=>whnf);refine⟨_,_,rfl,rfl,(by simp only[List.length_append,List.length_cons,List.length_nil];omega),?_⟩;repeat'((conv=>whnf);refine I6 ?_)
    refine ag (i+1) [] [.same 0,.same 1,.same 2,.same 3,.same 9] ⟨a,trivial⟩ (by simp only[];omega) ?_;rw[b];repeat' first|exact trivial|exact rfl|refine And.intro ?_ ?_
  ·rw[FP d]at b;(conv=>whnf);refine⟨false,.grow,(.l [0,1,2,3,4,5,6,7,8,9,10]),by kernel_rfl,.inl ?_⟩;(conv=>whnf);refine⟨[⟨f.path,[],decide (f.mode=3),f.id,f.av⟩],rfl,?_⟩;(conv=>whnf);refine⟨_,_,rfl,rfl,(by simp only[List.length_append,List.length_cons,List.length_nil];omega),?_⟩;repeat'((conv=>whnf);refine I6 ?_)
   refine ag (i+1) [] [.same 0,.same 1,.same 2,.same 3,.same 8] ⟨a,trivial⟩ (by simp only[];omega) ?_;rw[b];repeat' first|exact trivial|exact rfl|refine And.intro ?_ ?_
 ·obtain rfl:i=fs.length:=by omega
  rw[List.take_length];(conv=>whnf);exact rx [] [.same 0,.same 1,.same 2,.same 3,.same 2,.same 4]
theorem cu.ids{ne:Bool}{L:List Ob}(d:ai L){es:List aD}{l:List Fi}(h:cu ne L es l):(∀e∈es,kindOf L e.id=e.mode)→∀f∈l,kindOf L f.id=f.mode:=by
 induction h with
 |nil=>intro _ f hf;cases hf
 |file k h ih=>
  intro a f hf;rcases List.mem_cons.1 hf with rfl|hf
  ·exact a _ (by simp)
  ·exact ih (fun e h=>a e (by simp[h])) f hf
 | @dir e es m l k j n o h b c=>
  intro a f hf;rcases List.mem_append.1 hf with hf|hf
  ·obtain⟨g,i,rfl⟩:=List.mem_map.1 hf;exact b (d.tree j).2.2.2 g i
  ·exact c (fun e h=>a e (by simp[h])) f hf
theorem eI.ids{ne:Bool}{L:List Ob}(a:ai L){t:Int}{l:List Fi}(h:eI ne L t l):∀f∈l,kindOf L f.id=f.mode:=h.2.ids a (a.tree h.1).2.2.2
theorem Ei{l:List Fi}(h:cI l=0):∀f∈l,¬f.mode=0:=fun f a=>by have:=((jh h).2 f a).2;omega
def jm(L:List Ob)(fs:List Fi):Int:=(cg L fs).2.1
theorem zj(L:List Ob)(e:ai L)(l:List It)(h:Int)(fs:List Fi)(o:∀f∈fs,f.path.length≤4000000):ae Tryz.prog 212 [.c (.ptr 0 0),.c (.bs 4 Fi ao fs)] [.box [.ptr 1 0,.rw 3,.int .i64 h],.box [.rw 2],.row 6 Ob an L,.row 5 It aJ l] (Rt (.c (.int .i64 (jm L fs))) [.box [.ptr 1 0,.rw 5,.int .i64 h],.box [.rw 4],.dead,.dead,.row 6 Ob an (cg L fs).2.2,.row 5 It aJ (kA L l fs)]):=by
 refine ak (n:=22) (n0:=4) tabOk Tryz.call212 Tryz.func212 ?_;intro hb;have b:=(ma e fs).1;have d:=oF (L:=L) (l:=fs) e;unfold kA jm;(conv=>whnf);refine cl [] [1,2] (yh L fs e o) ?_;generalize cg L fs=B at*;obtain⟨t,c,M⟩:=B;dsimp only at b d;(conv=>whnf);refine aw (fun a=>?_) (fun a=>?_)
 ·rw[if_pos a];(conv=>whnf);exact rx [] [.same 0,.same 1,.same 2,.same 3,.same 4,.same 3]
 ·rw[if_neg (fun h=>h a)];obtain⟨i,k⟩:=d a;have g:=(jh i).1;have p:∀f∈fs,¬f.mode=3→¬kindOf M f.id=0:=fun f j _=>by rw[k.ids b f j];exact Ei i f j
  have m:=zn M b l h fs g;have a:c=0:=a;subst a;(conv=>whnf);refine cl [] [0,1,4,3] (m) ?_;(conv=>whnf);exact rx [] [.same 0,.same 1,.same 2,.same 3,.same 5,.same 6]
end Go.Nest
end
section
namespace Go.Nest
open Go Go.AM Go.Proofs
open Go.Proofs.YtpechfcbnoggfaaGreatDoor (tab tabOk)
set_option maxRecDepth 4000
theorem tt{L:List Ob}{l:List It}{h id:Int}(hk:¬kindOf L id=3):dG L l h id=9∧je L l id=L∧jN L l h id=l∧jM L l h id=h:=by
 have e:dG L l h id=9:=if_pos hk;exact⟨e,if_pos hk,if_pos (by rw[e];decide),if_pos (by rw[e];decide)⟩
theorem tk{L:List Ob}{l:List It}{h id:Int}(hk:kindOf L id=3)(hc:¬fm L l h=0):dG L l h id=fm L l h∧je L l id=(ba L l).2.2∧jN L l h id=l∧jM L l h id=h:=by
 have e:dG L l h id=fm L l h:=(if_neg (fun h=>h hk)).trans (if_pos hc);exact⟨e,if_neg (fun h=>h hk),if_pos (by rw[e];exact hc),if_pos (by rw[e];exact hc)⟩
theorem tm{L:List Ob}{l:List It}{h id:Int}(hk:kindOf L id=3)(hc:fm L l h=0):dG L l h id=(bw (ba L l).2.2 (aj L id).tree).2∧je L l id=(ba L l).2.2∧
  jN L l h id=(if(bw (ba L l).2.2 (aj L id).tree).2≠0 then l else(bw (ba L l).2.2 (aj L id).tree).1.map (ck (ba L l).2.2))∧jM L l h id=if(bw (ba L l).2.2 (aj L id).tree).2≠0 then h else id:=by
 have e:dG L l h id=(bw (ba L l).2.2 (aj L id).tree).2:=(if_neg (fun h=>h hk)).trans (if_neg (fun h=>h hc));refine⟨e,if_neg (fun h=>h hk),?_,?_⟩
 ·unfold jN;rw[e]
 ·unfold jM;rw[e]
set_option maxHeartbeats 1000000 in
theorem xk(L:List Ob)(m:ai L)(l:List It)(h:Int)(w:∀y∈l,y.path.length≤4000000)(hl:l.length≤60)(id:Int):ae Tryz.prog 126 [.c (.ptr 0 0),.c (.int .i64 id)] [.box [.ptr 1 0,.rw 3,.int .i64 h],.box [.rw 2],.row 6 Ob an L,.row 5 It aJ l] (Rt (.c (.int .i64 (dG L l h id))) [.box [.ptr 1 0,.rw 5,.int .i64 (jM L l h id)],.box [.rw 4],.dead,.dead,.row 6 Ob an (je L l id),.row 5 It aJ (jN L l h id)]):=by
 have d:=(iT (l:=l) m).1;have o:=xm L m l h w hl;have p:=eP (l:=L) (id:=id);have x:=tt (L:=L) (l:=l) (h:=h) (id:=id);have q:=tk (L:=L) (l:=l) (h:=h) (id:=id);have r:=tm (L:=L) (l:=l) (h:=h) (id:=id);refine ak (n:=47) (n0:=4) tabOk Tryz.call126 Tryz.func126 ?_;intro hb;(conv=>whnf);refine cl [] [] (fc L m id) ?_;(conv=>whnf);refine aw (fun a=>?_) (fun a=>?_)
 ·have a:¬kindOf L id=3:=by rw[←p];exact a
  obtain⟨e,f,g,i⟩:=x a;rw[e,f,g,i];(conv=>whnf);exact rx [] [.same 0,.same 1,.same 2,.same 3,.same 2,.same 3]
 have a:kindOf L id=3:=by rw[←p];exact a
 generalize ba L l=T at*;obtain⟨t,c,M⟩:=T;dsimp only at d o q r;(conv=>whnf);refine cl [] [0,1,2,3] (o) ?_;(conv=>whnf);refine aw (fun k=>?_) (fun k=>?_)
 ·obtain⟨e,f,g,i⟩:=q a k;rw[e,f,g,i];(conv=>whnf);exact rx [] [.same 0,.same 1,.same 2,.same 3,.same 5,.same 6]
 obtain⟨e,f,g,i⟩:=r a k;rw[e,f,g,i];have j:=x8 (L:=M) (t:=(aj L id).tree);have v:=qI M d (aj L id).tree;generalize bw M (aj L id).tree=F at*;obtain⟨u,s⟩:=F;dsimp only at j;(conv=>whnf);refine⟨false,.grow,(.l [0,1,2,3,4,5,6,7,8,9,10,11]),by kernel_rfl,.inl ?_⟩;(conv=>whnf);refine cl [] [] (v) ?_;(conv=>whnf);refine aw (fun b=>?_) (fun b=>?_)
 ·rw[if_pos b,if_pos b];(conv=>whnf);exact rx [] [.same 0,.same 1,.same 2,.same 3,.same 5,.same 6]
 ·rw[if_neg (fun h=>h b),if_neg (fun h=>h b)];have b:s=0:=b;subst b;(conv=>whnf);refine cl [] [0,1,5,6] (zn M d l h u j) ?_;(conv=>whnf);exact rx [] [.same 0,.same 1,.same 2,.same 3,.same 8,.same 9]
end Go.Nest
end
section
namespace Go.Nest
open Go Go.AM
structure Ws where
 what:Int
 k:Int
 av:Int
 path:List UInt8
 text:List UInt8
 bytes:List UInt8
 ft:Bool
structure WS where
 L:List Ob
 l:List It
 h:Int
 made:List Int
structure Kh(s:WS):Prop where
 pool:ai s.L
 ok:gh s.l
 bytes:∀x∈s.l,x.bytes.length≤400
 head:gz s.L s.h
theorem Hl{p:List UInt8}(h:(bZ p).2=0):p.length≤168:=by
 obtain⟨a,d,_⟩:=lT h;have b:=oe (aA p) fun s c=>ph (nT a s c);rw[og]at b;omega
end Go.Nest
end
section
namespace Go.Nest
open Go Go.AM
theorem kl.mc{L:List Ob}(a:ai L)(id:Int):(aj L id).bytes.length≤400:=by
 by_cases h:kindOf L id=0
 ·rw[a.lD h];exact Nat.zero_le _
 ·exact(a.get h).bytes
theorem AD{l:List It}(h:gh l)(x:It):gh (fU l x).2∧∀y∈(fU l x).2,y=x∨y∈l:=by
 unfold fU;split
 ·exact⟨h,fun y hy=>.inr hy⟩
 rename_i t;split
 ·exact⟨h,fun y hy=>.inr hy⟩
 rename_i D;have t:(bZ x.path).2=0:=Decidable.not_not.1 t
 have n:∀y∈l,(fh x.path y.path).2=false∧(fh y.path x.path).2=false:=fun y hy=>by
  have:=List.any_eq_false.1 (Bool.not_eq_true _▸D) y hy;unfold nG at this;simpa using this
 have f:(fh x.path x.path).2=false:=by
  rw[sg];cases e:under x.path x.path with
  |none=>rfl
  |some r=>have:=uG e;rw[lI]at this;cases this
 have fin:∀{o:List It},jG (·.path) o→o.length≤60→(∀y∈o,y=x∨y∈l)→gh o∧∀y∈o,y=x∨y∈l:=fun J H m=>by
  refine⟨⟨J,H,fun y hy=>?_,fun a ha b hb=>?_⟩,m⟩
  ·rcases m y hy with rfl|hy
   ·exact t
   ·exact h.path y hy
  ·rcases m a ha with rfl|ha<;>rcases m b hb with rfl|hb
   ·exact f
   ·exact(n b hb).1
   ·exact(n a ha).2
   ·exact h.apart a ha b hb
 split
 ·rename_i u;obtain⟨y,hy,c⟩:=ug.1 u;obtain⟨k,F,e⟩:=List.mem_iff_getElem.1 hy;subst e;have c:=qh.1 c;have q:=E1 h.ris F;rw[c]at q;rw[q];refine fin ?_ (by rw[List.length_set];exact h.len) fun y hy=>(List.mem_or_eq_of_mem_set hy).symm.imp id id;refine List.pairwise_iff_getElem.2 fun i j q E v=>?_;have d:=List.pairwise_iff_getElem.1 h.ris i j (by simpa using q) (by simpa using E) v;simp only[Int.toNat_natCast];rw[List.getElem_set,List.getElem_set];split
  ·rename_i s;subst s;rw[if_neg (by omega)];simp only[c]at d;exact d
  ·split
   ·rename_i s;subst s;simp only[c]at d;exact d
   ·exact d
 ·rename_i u;split
  ·exact⟨h,fun y hy=>.inr hy⟩
  rename_i K;have I:=Hr (l:=l) (p:=x.path);refine fin ?_ ?_ fun y hy=>?_
  ·unfold jG;rw[Jn,DZ,List.pairwise_append,List.pairwise_cons]
   have w:∀y∈l.dropWhile (fun y=>au y.path x.path),au x.path y.path=true:=fun y hy=>by
    have z:=xT h.ris y hy;have m:y∈l:=(List.dropWhile_suffix _).subset hy;rcases gF y.path x.path with g|g|g
    ·rw[z]at g;cases g
    ·exact absurd (ug.2 ⟨y,m,qh.2 g⟩) u
    ·exact g
   refine⟨h.ris.sublist (List.takeWhile_sublist _),⟨w,h.ris.sublist (List.dropWhile_sublist _)⟩,fun a ha b hb=>?_⟩;have ha:=(zU ha).1;rcases List.mem_cons.1 hb with rfl|hb
   ·exact ha
   ·exact jn ha (w b hb)
  ·have:=h.len;rw[List.length_append,List.length_cons,List.length_take,List.length_drop];omega
  ·rcases List.mem_append.1 hy with hy|hy
   ·exact .inr (List.mem_of_mem_take hy)
   ·rcases List.mem_cons.1 hy with rfl|hy
    ·exact .inl rfl
    ·exact .inr (List.mem_of_mem_drop hy)
theorem gh.sub{l l':List It}(h:gh l)(a:l'.Sublist l):gh l':=
 ⟨h.ris.sublist a,Nat.le_trans a.length_le h.len,fun x b=>h.path x (a.subset b),fun x b y c=>h.apart x (a.subset b) y (a.subset c)⟩
theorem AN{l:List It}(h:gh l)(p:List UInt8):gh (iM l p).2∧∀y∈(iM l p).2,y∈l:=by
 have a:(iM l p).2.Sublist l:=by
  unfold iM;split
  ·exact List.Sublist.refl _
  ·conv=>rhs;rw[←List.take_append_drop (bF (dV p) l).toNat l]
   refine List.Sublist.append (List.Sublist.refl _) ?_;exact List.drop_sublist_drop_left l (Nat.le_succ _)
 exact⟨h.sub a,fun y b=>a.subset b⟩
theorem FU{M N:List Ob}{fs:List Fi}(n:ai N)(h1:fs.Pairwise lX)(h2:∀f∈fs,(bZ f.path).2=0)(m:fs.length≤60):gh (fs.map (ck N))∧∀x∈fs.map (ck N),x.bytes.length≤400:=by
 have c:∀f:Fi,(ck N f).path=f.path:=fun f=>by unfold ck;split<;>rfl
 refine⟨⟨?_,by rw[List.length_map];exact m,fun x a=>?_,fun x a y p=>?_⟩,fun x a=>?_⟩
 ·exact List.pairwise_map.2 (h1.imp fun h=>by simp only[c];exact h.1)
 ·obtain⟨f,b,rfl⟩:=List.mem_map.1 a;rw[c];exact h2 f b
 ·obtain⟨f,b,rfl⟩:=List.mem_map.1 a;obtain⟨g,o,rfl⟩:=List.mem_map.1 p;rw[c,c,sg];obtain⟨i,k,rfl⟩:=List.mem_iff_getElem.1 b;obtain⟨j,l,rfl⟩:=List.mem_iff_getElem.1 o;cases e:under fs[i].path fs[j].path with
  |none=>rfl
  |some r=>
   exfalso;rcases Nat.lt_trichotomy i j with hlt|rfl|hlt
   ·have d:=(List.pairwise_iff_getElem.1 h1 i j k l hlt).1;rw[j4 (uG e)]at d;cases d
   ·have:=uG e;rw[lI]at this;cases this
   ·rw[(List.pairwise_iff_getElem.1 h1 j i l k hlt).2]at e;cases e
 ·obtain⟨f,b,rfl⟩:=List.mem_map.1 a;unfold ck;split
  ·exact Nat.zero_le _
  ·exact kl.mc n _
theorem Js{ne:Bool}{M N:List Ob}{fs:List Fi}{t:Int}(a:ai M)(g:ai N)(c:eI ne M t fs)(h:∀f∈fs,(aA f.path).length≤8)(hl:fs.length≤60):gh (fs.map (ck N))∧∀x∈fs.map (ck N),x.bytes.length≤400:=by
 obtain⟨i,j⟩:=gM a c.1;obtain⟨d,e⟩:=c.2.sQ a i j;exact FU (M:=M) g d (fun f b=>vJ (e f b).1 (h f b)) hl
theorem C5{L:List Ob}(e:ai L){l:List It}{h:Int}(f:gz L h)(text:List UInt8)(others:List Int):gz (bc L l h text others).2.2 (lA L l h text others):=by
 have g:=(oI (l:=l) (h:=h) (text:=text) (others:=others) e).2;unfold lA;split
 ·rename_i a;right;unfold bc at a⊢;split at a
  ·rename_i c;exact absurd a c
  rename_i c;rw[if_neg c];split at a
  ·cases a
  rename_i d;rw[if_neg d];split at a
  ·rename_i b;exact absurd a b
  rename_i b;rw[if_neg b];have:=(lQ (Decidable.not_not.1 b)).2;rw[←eP,this];rfl
 ·exact f.ext g
end Go.Nest
end
section
namespace Go.Nest
open Go Go.AM
def fG(L M:List Ob):Prop:=∀id,kindOf M id=3→kindOf L id=3
theorem fG.refl(L:List Ob):fG L L:=fun _ h=>h
theorem fG.trans{L M N:List Ob}(h1:fG L M)(h2:fG M N):fG L N:=fun id h=>h1 id (h2 id h)
theorem rR{L:List Ob}{o:Ob}(ho:o.kind≠3):fG L (ax L o).2.2:=fun id h=>by
 rcases AA (L:=L) (o:=o) (id:=id) (by omega)with h1|h1
 ·rw[←c9 (jw o) h1];exact h
 ·rw[←eP,h1]at h;exact absurd h ho
theorem qR:∀(n:Nat) (L:List Ob) (a:List aD) (l:List Fi),fG L (aR n L a l).2.2
 |0,L,_,_=>.refl L
 |n+1,L,a,[]=>rR (fun h=>by cases h)
 |n+1,L,a,f::r=>by
  unfold aR;split
  ·exact qR n L _ r
  have b:=qR n L [] (bG (cU f.path).1 (f::r)).1;split
  ·exact b
  ·exact b.trans (qR n _ _ _)
theorem xa{L:List Ob}{l:List Fi}:fG L (cg L l).2.2:=by
 unfold cg;split
 ·exact .refl L
 ·exact qR _ _ _ _
theorem nu:∀{l:List It} {L:List Ob} {out:List Fi},fG L (aM L l out).2.2
 |[],L,out=>.refl L
 |x::r,L,out=>by
  unfold aM;split
  ·exact nu
  split
  ·exact rR (fun h=>by cases h)
  ·exact(rR (fun h=>by cases h)).trans nu
theorem vS{L:List Ob}{l:List It}:fG L (ba L l).2.2:=by
 unfold ba;split
 ·exact nu
 ·exact nu.trans xa
def NB(l:List It):Prop:=∀x∈l,x.link=true→x.bytes=[]
theorem qF:∀{l:List It} {L:List Ob} {out:List Fi},ai L→(aM L l out).2.1=0→∃a,(aM L l out).1=out++a∧
  (∀M,ai M→(aM L l out).2.2<+:M→(∀o2,aM M l o2=(o2++a,0,M))∧(NB l→(a.map (ck M)).map dI=l.map dI))
 |[],L,out,i,h=>⟨[],by simp[aM],fun M c d=>⟨fun o2=>by simp[aM],fun _=>rfl⟩⟩
 |x::r,L,out,i,h=>by
  unfold aM at h⊢;split
  ·rename_i f;rw[if_pos f]at h;obtain⟨a,j,k⟩:=qF i h;refine⟨iH x::a,by rw[j];simp,fun M c d=>?_⟩;obtain⟨m,n⟩:=k M c d;refine⟨fun o2=>?_,fun g=>?_⟩
   ·rw[m];simp
   ·rw[List.map_cons,List.map_cons,List.map_cons,n fun y p=>g y (by simp[p])];have:=g x (by simp) f;show dI (ck M (iH x))::_=_;unfold ck iH dI;rw[if_pos rfl,this]
  ·rename_i f;rw[if_neg f]at h;split
   ·rename_i b;rw[if_pos b]at h;exact absurd h b
   ·rename_i b;rw[if_neg b]at h;have b:=Decidable.not_not.1 b;obtain⟨a,j,k⟩:=qF (jv i (du x.bytes)) h;refine⟨⟨x.path,1,(ax L (du x.bytes)).1,0⟩::a,by rw[j];simp,fun M c d=>?_⟩;obtain⟨m,n⟩:=k M c d;have o:=(kq (l:=r) (out:=out++[⟨x.path,1,(ax L (du x.bytes)).1,0⟩]) (jv i (du x.bytes))).2.trans d;obtain⟨q,s⟩:=Az (fun h=>by cases h) b c o;refine⟨fun o2=>?_,fun g=>?_⟩
    ·rw[q,if_neg (by simp),m];simp
    ·rw[List.map_cons,List.map_cons,List.map_cons,n fun y p=>g y (by simp[p])]
     have e:dI (ck M ⟨x.path,1,(ax L (du x.bytes)).1,0⟩)=dI x:=by
      unfold ck;dsimp only;rw[if_neg (by decide),s];rfl
     rw[e]
theorem FT(L:List Ob)(fs:List Fi):NB (fs.map (ck L)):=fun x b a=>by
 obtain⟨f,c,rfl⟩:=List.mem_map.1 b;unfold ck at a⊢;split
 ·rfl
 ·rename_i h;rw[if_neg h]at a;cases a
def dm(L:List Ob):Prop:=∀id,kindOf L id=3→∃a,Kept L (aj L id).tree a
theorem dm.mono{L M:List Ob}(h:dm L)(a:L<+:M)(hn:fG L M):dm M:=fun id e=>by
 have c:=hn id e;obtain⟨b,d⟩:=h id c;refine⟨b,?_⟩;rw[ext_get a (by omega)];exact d.mono a
theorem Jp{L:List Ob}(n:ai L){l:List It}(h:(ba L l).2.1=0):∃fs,Kept (ba L l).2.2 (ba L l).1 fs∧(aM L l []).1=fs∧(aM L l []).2.1=0∧
  (∀M,ai M→(aM L l []).2.2<+:M→aM M l []=(fs,0,M)∧(NB l→(fs.map (ck M)).map dI=l.map dI))∧(∀M,ai M→(ba L l).2.2<+:M→ba M l=((ba L l).1,0,M)):=by
 unfold ba at h⊢;split at h
 ·exact absurd h ‹_›
 rename_i a;rw[if_neg a];have a:=Decidable.not_not.1 a;obtain⟨k,g,i⟩:=qF n a;obtain⟨f,o⟩:=kq (l:=l) (out:=[]) n;rw[List.nil_append]at g;rw[g]at h⊢;have m:=Kept.of f h;have e:=(ma f k).2;refine⟨k,m,rfl,a,fun M b c=>?_,fun M b c=>?_⟩
 ·obtain⟨d,j⟩:=i M b c;exact⟨by rw[d];rfl,j⟩
 ·obtain⟨d,j⟩:=i M b (e.trans c);rw[d,if_neg (by simp)];exact(m.mono c).build b
end Go.Nest
end
section
namespace Go.Nest
open Go Go.AM
structure Kg(L:List Ob)(l:List It):Prop where
 nb:NB l
 com:dm L
theorem dm.nil:dm []:=fun id h=>by
 have:=dh (l:=[]) (id:=id) (by omega);exact absurd this.2 (Nat.not_lt_zero _)
theorem tf{M:List Ob}{t:Int}{fs:List Fi}{up:List Int}{text:List UInt8}(hc:dm M)(hk:Kept M t fs):dm (ax M (dX t up text)).2.2:=fun id b=>by
 have a:=jw (L:=M) (dX t up text);rcases AA (L:=M) (o:=dX t up text) (id:=id) (by omega)with h|h
 ·rw[c9 a h]at b;obtain⟨c,d⟩:=hc id b;exact⟨c,by rw[ext_get a h];exact d.mono a⟩
 ·rw[h];exact⟨fs,hk.mono a⟩
theorem xw{L:List Ob}(c:ai L)(hc:dm L){l:List It}{h:Int}{text:List UInt8}{others:List Int}:dm (bc L l h text others).2.2:=by
 have a:=hc.mono (iT (l:=l) c).2 vS;unfold bc;split
 ·exact a
 rename_i d;obtain⟨e,b,-⟩:=Jp c (Decidable.not_not.1 d);split
 ·exact a
 split
 ·exact tf a b
 ·exact tf a b
end Go.Nest
end
section
namespace Go.Nest
open Go Go.AM Go.Proofs
open Go.Proofs.YtpechfcbnoggfaaGreatDoor (tab tabOk)
set_option maxRecDepth 4000
theorem Il(a:List Dc):ae Tryz.prog 24 [.c (.bs 2 Dc dZ a),.c (.bs 2 Dc dZ a)] [] (Rt (.c (.bool true)) []):=by
 refine ak (n:=42) (n0:=0) tabOk Tryz.call24 Tryz.func24 ?_;intro hb;have hb:a.length≤9223372036854775807:=hb.1.1;(conv=>whnf);refine aw (fun h=>absurd rfl h) (fun _=>?_);(conv=>whnf);refine lp Nat (fun i=>⟨[(0,.c (.bs 2 Dc dZ a)),(1,.c (.bs 2 Dc dZ a)),(5,.c (.int .i64 i))],[]⟩) (fun i=>i≤a.length∧True) (fun i=>a.length-i) 0 [] [] ?_ ?_ (fun i g=>?_)
 ·simp
 ·repeat' first|exact trivial|exact rfl|refine And.intro ?_ ?_
 (conv=>whnf);refine dec (fun f=>?_) (fun f=>?_)
 ·have d:i<a.length:=by omega
  have b:a[i]? =some a[i]:=List.getElem?_eq_getElem d;have e:=Ik a[i].bytes a[i].bytes;rw[show decide (a[i].bytes=a[i].bytes)=true from decide_eq_true rfl]at e;(conv=>whnf);refine⟨false,.grow,(.l [0,1,2,3,4,5,6,7,8,9,10,11,12,13,14,15,16,17,18,19,20,21,22,23,24]),by kernel_rfl,.inl ?_⟩;(conv=>whnf);refine⟨i,a[i],rfl,b,?_⟩;(conv=>whnf);refine⟨i,a[i],rfl,b,?_⟩;(conv=>whnf);refine aw (fun h=>absurd rfl h) (fun _=>?_);(conv=>whnf);refine⟨i,a[i],rfl,b,?_⟩;(conv=>whnf);refine⟨i,a[i],rfl,b,?_⟩;(conv=>whnf);refine cl [] [] (e) ?_;repeat'((conv=>whnf);refine I6 ?_)
  refine ag (i+1) [] [] ⟨d,trivial⟩ (by simp only[];omega) ?_;repeat' first|exact trivial|exact rfl|refine And.intro ?_ ?_
 ·repeat'((conv=>whnf);first|refine aE ?_|fail)
  rfl
end Go.Nest
end
