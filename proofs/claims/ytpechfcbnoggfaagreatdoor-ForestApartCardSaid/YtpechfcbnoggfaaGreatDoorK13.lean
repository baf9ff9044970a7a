/- part -/
import Derived.Test.YtpechfcbnoggfaaGreatDoorU0
import Derived.Test.YtpechfcbnoggfaaGreatDoorI1
import Derived.Test.YtpechfcbnoggfaaGreatDoorG10
import Derived.Test.YtpechfcbnoggfaaGreatDoorAmH
set_option linter.unusedVariables false
set_option linter.unusedSimpArgs false
section
namespace Go.Nest
open Go Go.AM Go.Proofs
open Go.Proofs.YtpechfcbnoggfaaGreatDoor (tab tabOk)
set_option maxRecDepth 4000
theorem Ft(x:It)(p:List UInt8):ai Tryz.prog 200 [.st (aM x),.c (.bp [.str p])] [] (Rt (.c (.bool (dF p x))) []):=by
 refine an (n:=8) (n0:=0) tabOk Tryz.call200 Tryz.func200 ?_;intro hb;repeat'((conv=>whnf);first|refine aG ?_|fail)
 rfl
theorem Gm(l:List It)(p:List UInt8):ai Tryz.prog 199 [.c (.bs 5 It aM l),.c (.fn 200 [.bp [.str p]])] [] (Rt (.c (.int .i64 (bh (dF p) l))) []):=by
 refine an (n:=19) (n0:=0) tabOk Tryz.call199 Tryz.func199 ?_;intro hb;have hb:l.length≤9223372036854775807:=hb.1.1;(conv=>whnf);refine lp Nat (fun i=>⟨[(0,.c (.bs 5 It aM l)),(1,.c (.fn 200 [.bp [.str p]])),(7,.c (.int .i64 l.length)),(8,.c (.int .i64 i))],[]⟩) (fun i=>i≤l.length∧(l.take i).any (dF p)=false) (fun i=>l.length-i) 0 [] [] ?_ ?_ (fun i b=>?_)
 ·simp
 ·repeat' first|exact trivial|exact rfl|refine And.intro ?_ ?_
 (conv=>whnf);refine dec (fun d=>?_) (fun d=>?_)
 ·have a:i<l.length:=by omega
  repeat'((conv=>whnf);first|refine⟨_,_,rfl,List.getElem?_eq_getElem (by omega),?_⟩|fail)
  (conv=>whnf);refine cl [] [] (Ft l[i] p) ?_;(conv=>whnf);refine aW (fun h=>?_) (fun h=>?_)
  ·(conv=>whnf);exact aK (jM a b.2 h)
  ·repeat'((conv=>whnf);refine I6 ?_)
   refine ag (i+1) [] [] ⟨a,hU a b.2 h⟩ (by simp only[];omega) ?_;repeat' first|exact trivial|exact rfl|refine And.intro ?_ ?_
 ·repeat'((conv=>whnf);first|refine aK ?_|fail)
  have:=b.2;rw[List.take_of_length_le (by omega)]at this;exact kx this
theorem yW(L:List Ob)(l:List It)(h:Int)(p:List UInt8):ai Tryz.prog 119 [.c (.bp [.bp [.bs 6 Ob ak L],.bs 5 It aM l,.int .i64 h]),.c (.str p)] [] (Rt (.c (.int .i64 (bh (dF p) l))) []):=by
 refine an (n:=11) (n0:=0) tabOk Tryz.call119 Tryz.func119 ?_;intro hb;(conv=>whnf);refine cl [] [] (Gm l p) ?_;(conv=>whnf);exact rx [] []
theorem pos_at{l:List It}{p:List UInt8}{k:Nat}(hk:k≤l.length)(h1:∀g∈l.take k,aR g.path p=true)(h2:∀h:k<l.length,aR l[k].path p=false):ir l p=k:=by
 unfold ir;rw[(wP (p:=fun y:It=>aR y.path p) hk h1 h2).1,List.length_take,Nat.min_eq_left hk]
set_option maxHeartbeats 4000000 in
theorem Bq(L:List Ob)(l:List It)(h:Int)(x:It)(F:x.path.length≤4000000)(J:∀y∈l,y.path.length≤4000000)(hl:l.length≤60):ai Tryz.prog 117 [.c (.ptr 0 0),.st (aM x)] [.box [.ptr 1 0,.rw 3,.int .i64 h],.box [.rw 2],.row 6 Ob ak L,.row 5 It aM l] (Rt (.c (.int .i64 (eT l x).1)) [.box [.ptr 1 0,.rw 5,.int .i64 h],.box [.rw 4],.dead,.dead,.row 6 Ob ak L,.row 5 It aM (eT l x).2]):=by
 refine an (n:=106) (n0:=4) tabOk Tryz.call117 Tryz.func117 ?_;intro hb;(conv=>whnf);refine cl [] [] (vX x.path F) ?_;(conv=>whnf);refine ay (fun z=>?_) (fun z=>?_)
 ·rw[show eT l x=_ from if_pos z];(conv=>whnf);exact rx [] [.same 0,.same 1,.same 2,.same 3,.same 2,.same 3]
 have w:eT l x=_:=if_neg (fun h=>h z);(conv=>whnf);refine lp Nat (fun i=>⟨[(0,.c (.ptr 0 0)),(3,.c (.ptr 4 0)),(27,.c (.rw 3)),(28,.c (.int .i64 l.length)),(29,.c (.int .i64 i))],[.box [.ptr 1 0,.rw 3,.int .i64 h],.box [.rw 2],.row 6 Ob ak L,.row 5 It aM l]++[.box (aM x)]⟩) (fun i=>i≤l.length∧(l.take i).any (ll x.path)=false) (fun i=>l.length-i) 0 [] [.same 0,.same 1,.same 2,.same 3,.same 4] ?_ ?_ (fun i v=>?_)
 ·simp
 ·repeat' first|exact trivial|exact rfl|refine And.intro ?_ ?_
 (conv=>whnf);refine dec (fun K=>?_) (fun K=>?_)
 ·have a:i<l.length:=by omega
  have m:=J _ (List.getElem_mem a);(conv=>whnf);refine⟨i,⟨rfl,a⟩,?_⟩;(conv=>whnf);refine⟨l[i],List.getElem?_eq_getElem a,?_⟩;have t:ll x.path l[i]=((fM x.path l[i].path).2||(fM l[i].path x.path).2):=rfl;have s:=fun h=>o4 (l:=l) (p:=ll x.path) a h;have E:=fun h=>hU (p:=ll x.path) a v.2 h;generalize l[i]=y at*;(conv=>whnf);refine cl [] [] (qv x.path y.path m) ?_;(conv=>whnf);refine cl [] [] (qv y.path x.path F) ?_;(conv=>whnf);refine aW (fun o=>?_) (fun o=>?_)
  ·rw[o,Bool.true_or]at t;have e:eT l x=(10,l):=w.trans (if_pos (s t));rw[e];(conv=>whnf);exact rx [] [.same 0,.same 1,.same 2,.same 3,.same 2,.same 3]
  ·rw[o,Bool.false_or]at t;(conv=>whnf);refine aW (fun f=>?_) (fun f=>?_)
   ·have e:eT l x=(10,l):=w.trans (if_pos (s (t.trans f)));rw[e];(conv=>whnf);exact rx [] [.same 0,.same 1,.same 2,.same 3,.same 2,.same 3]
   ·repeat'((conv=>whnf);refine I6 ?_)
    refine ag (i+1) [] [.same 0,.same 1,.same 2,.same 3,.same 4] ⟨a,E (t.trans f)⟩ (by simp only[];omega) ?_;repeat' first|exact trivial|exact rfl|refine And.intro ?_ ?_
 ·have b:=v.2;rw[List.take_of_length_le (by omega)]at b;have H:=w.trans (if_neg (by rw[b];decide));(conv=>whnf);refine cl [] [] (yW L l h x.path) ?_;(conv=>whnf);refine dec (fun o=>?_) (fun o=>?_)
  ·have e:eT l x=_:=H.trans (if_pos o);rw[e];obtain⟨y,O,m⟩:=uX.1 o
   have a:(bh (dF x.path) l).toNat<l.length:=by
    rcases uY (p:=dF x.path) (l:=l)with⟨q,_⟩|⟨k,N,q,_⟩
    ·omega
    ·omega
   (conv=>whnf);refine⟨false,.grow,(.l [0,1,2,3,4,5,6,7]),by kernel_rfl,.inl ?_⟩;(conv=>whnf);refine⟨(bh (dF x.path) l).toNat,⟨by omega,a⟩,?_⟩;(conv=>whnf);refine⟨_,x,List.getElem?_eq_getElem a,⟨Nat.le_refl 5,rfl⟩,?_⟩;(conv=>whnf);exact rx [] [.same 0,.same 1,.same 2,.same 3,.same 2,.same 3]
  ·have I:=H.trans (if_neg o);(conv=>whnf);refine dec (fun f=>?_) (fun f=>?_)
   ·have f:(l.length:Int)=60:=f;have e:eT l x=_:=I.trans (if_pos (by omega));rw[e];(conv=>whnf);exact rx [] [.same 0,.same 1,.same 2,.same 3,.same 2,.same 3]
   ·have f:¬(l.length:Int)=60:=f;have e:eT l x=_:=I.trans (if_neg (by omega));rw[e];(conv=>whnf);refine lp Nat (fun i=>⟨[(0,.c (.ptr 0 0)),(3,.c (.ptr 4 0)),(14,.c (.int .i64 i))],[.box [.ptr 1 0,.rw 3,.int .i64 h],.box [.rw 2],.row 6 Ob ak L,.row 5 It aM l]++[.box (aM x)]⟩) (fun i=>(i≤l.length∧True)∧∀g∈l.take i,aR g.path x.path=true) (fun i=>l.length-i) 0 [] [.same 0,.same 1,.same 2,.same 3,.same 4] ?_ ?_ (fun i v=>?_)
    ·simp
    ·repeat' first|exact trivial|exact rfl|refine And.intro ?_ ?_
    obtain⟨⟨j,_⟩,r⟩:=v;(conv=>whnf);refine⟨false,.grow,(.l [0,1,2,3,4,5,6,7,8,9,10,11,12,13,14,15,16,17,18,19]),by kernel_rfl,.inl ?_⟩;(conv=>whnf);refine dec (fun M=>?_) (fun M=>?_)
    ·have a:i<l.length:=by omega
     have m:=J _ (List.getElem_mem a);(conv=>whnf);refine⟨i,⟨rfl,a⟩,?_⟩;(conv=>whnf);refine⟨l[i],List.getElem?_eq_getElem a,?_⟩;(conv=>whnf);refine cl [] [] (pK l[i].path x.path m F) ?_;(conv=>whnf);refine aW (fun D=>?_) (fun D=>?_)
     ·repeat'((conv=>whnf);refine I6 ?_)
      refine ag (i+1) [] [.same 0,.same 1,.same 2,.same 3,.same 4] ⟨⟨a,trivial⟩,fun g u=>?_⟩ (by simp only[];omega) ?_
      ·rw[List.take_succ_eq_append_getElem a,List.mem_append,List.mem_singleton]at u;rcases u with u|rfl
       ·exact r g u
       ·exact D
      ·repeat' first|exact trivial|exact rfl|refine And.intro ?_ ?_
     ·have b:∀h:i<l.length,aR l[i].path x.path=false:=fun _=>D;have d:ir l x.path=i:=pos_at j r b;(conv=>whnf);refine⟨false,.grow,(.l [0,1,2,3,4,5,6,7,8,9,10,11]),by kernel_rfl,.inl ?_⟩;(conv=>whnf);refine⟨[x],rfl,?_⟩;(conv=>whnf);refine cl [] [3,5] (zR l x i j (by omega)) ?_;(conv=>whnf);rw[d];exact rx [] [.same 0,.same 1,.same 2,.same 3,.same 2,.same 6]
    ·have b:∀h:i<l.length,aR l[i].path x.path=false:=fun h=>absurd h (by omega);have d:ir l x.path=i:=pos_at j r b;(conv=>whnf);refine⟨false,.grow,(.l [0,1,2,3,4,5,6,7,8,9,10,11]),by kernel_rfl,.inl ?_⟩;(conv=>whnf);refine⟨[x],rfl,?_⟩;(conv=>whnf);refine cl [] [3,5] (zR l x i j (by omega)) ?_;(conv=>whnf);rw[d];exact rx [] [.same 0,.same 1,.same 2,.same 3,.same 2,.same 6]
end Go.Nest
end
section
namespace Go.Nest
open Go Go.AM Go.Proofs
open Go.Proofs.YtpechfcbnoggfaaGreatDoor (tab tabOk)
set_option maxRecDepth 4000
def fN(l:List It)(p:List UInt8)(b:List UInt8):Int×List It:=if 400<b.length then(4,l)else eT l ⟨p,b,false,0,0⟩
def fp(L:List Ob)(l:List It)(p:List UInt8)(ar id:Int):Int×List It:=if ar<0∨4≤ar then(1,l)else if kindOf L id≠3 then(9,l)else eT l ⟨p,[],true,id,ar⟩
theorem KC(L:List Ob)(l:List It)(h:Int)(p b:List UInt8)(e:p.length≤4000000)(d:∀y∈l,y.path.length≤4000000)(hl:l.length≤60):ai Tryz.prog 55 [.c (.ptr 0 0),.c (.str p),.c (.bs 1 UInt8 bD b)] [.box [.ptr 1 0,.rw 3,.int .i64 h],.box [.rw 2],.row 6 Ob ak L,.row 5 It aM l] (Rt (.c (.int .i64 (fN l p b).1)) [.box [.ptr 1 0,.rw 5,.int .i64 h],.box [.rw 4],.dead,.dead,.row 6 Ob ak L,.row 5 It aM (fN l p b).2]):=by
 refine an (n:=16) (n0:=4) tabOk Tryz.call55 Tryz.func55 ?_;intro hb;(conv=>whnf);refine dec (fun a=>?_) (fun a=>?_)
 ·rw[show fN l p b=_ from if_pos (by have a:(400:Int)<b.length:=a;omega)];(conv=>whnf);exact rx [] [.same 0,.same 1,.same 2,.same 3,.same 2,.same 3]
 have a:¬(400:Int)<b.length:=a;rw[show fN l p b=_ from if_neg (by omega)];(conv=>whnf);refine cl [] [] (tY b (by omega)) ?_;(conv=>whnf);refine cl [4] [0,1,2,3] (Bq L l h ⟨p,b,false,0,0⟩ e d hl) ?_;(conv=>whnf);exact rx [] [.same 0,.same 1,.same 2,.same 3,.same 5,.same 6]
theorem Hi(L:List Ob)(g:ae L)(l:List It)(h:Int)(p:List UInt8)(ar id:Int)(j:p.length≤4000000)(i:∀y∈l,y.path.length≤4000000)(hl:l.length≤60):ai Tryz.prog 122 [.c (.ptr 0 0),.c (.str p),.c (.int .i64 ar),.c (.int .i64 id)] [.box [.ptr 1 0,.rw 3,.int .i64 h],.box [.rw 2],.row 6 Ob ak L,.row 5 It aM l] (Rt (.c (.int .i64 (fp L l p ar id).1)) [.box [.ptr 1 0,.rw 5,.int .i64 h],.box [.rw 4],.dead,.dead,.row 6 Ob ak L,.row 5 It aM (fp L l p ar id).2]):=by
 refine an (n:=37) (n0:=4) tabOk Tryz.call122 Tryz.func122 ?_;intro hb;(conv=>whnf);refine cl [] [] (gT L g id) ?_;have f:=cH (l:=L) (id:=id);(conv=>whnf);refine dec (fun a=>?_) (fun a=>?_)
 ·rw[show fp L l p ar id=_ from if_pos (.inl a)];(conv=>whnf);exact rx [] [.same 0,.same 1,.same 2,.same 3,.same 2,.same 3]
 (conv=>whnf);refine dec (fun b=>?_) (fun b=>?_)
 ·rw[show fp L l p ar id=_ from if_pos (.inr b)];(conv=>whnf);exact rx [] [.same 0,.same 1,.same 2,.same 3,.same 2,.same 3]
 have e:fp L l p ar id=_:=if_neg (fun h=>h.elim a b);(conv=>whnf);refine ay (fun d=>?_) (fun d=>?_)
 ·rw[show fp L l p ar id=_ from e.trans (if_pos (by rw[←f];exact d))];(conv=>whnf);exact rx [] [.same 0,.same 1,.same 2,.same 3,.same 2,.same 3]
 rw[show fp L l p ar id=_ from e.trans (if_neg (by rw[←f];exact fun h=>h d))];(conv=>whnf);refine cl [] [0,1,2,3] (Bq L l h ⟨p,[],true,id,ar⟩ j i hl) ?_;(conv=>whnf);exact rx [] [.same 0,.same 1,.same 2,.same 3,.same 5,.same 6]
theorem IT(L:List Ob)(l:List It)(h:Int)(p:List UInt8)(hl:l.length≤60):ai Tryz.prog 56 [.c (.ptr 0 0),.c (.str p)] [.box [.ptr 1 0,.rw 3,.int .i64 h],.box [.rw 2],.row 6 Ob ak L,.row 5 It aM l] (Rt (.c (.int .i64 (fZ l p).1)) [.box [.ptr 1 0,.rw 5,.int .i64 h],.box [.rw 4],.dead,.dead,.row 6 Ob ak L,.row 5 It aM (fZ l p).2]):=by
 refine an (n:=22) (n0:=4) tabOk Tryz.call56 Tryz.func56 ?_;intro hb;(conv=>whnf);refine cl [] [] (yW L l h p) ?_;(conv=>whnf);refine dec (fun b=>?_) (fun b=>?_)
 ·rw[show fZ l p=_ from if_pos b];(conv=>whnf);exact rx [] [.same 0,.same 1,.same 2,.same 3,.same 2,.same 3]
 have a:(bh (dF p) l).toNat<l.length:=by
  rcases uY (p:=dF p) (l:=l)with⟨q,_⟩|⟨k,d,q,_⟩
  ·omega
  ·omega
 rw[show fZ l p=_ from if_neg b];obtain⟨k,d⟩:∃k:Nat,bh (dF p) l=k:=⟨(bh (dF p) l).toNat,by omega⟩;rw[d]at a⊢;have a:k<l.length:=a;(conv=>whnf);refine⟨i64 (by omega) (by omega),?_⟩;(conv=>whnf);refine cl [] [3] (Es l k a (by omega)) ?_;(conv=>whnf);exact rx [] [.same 0,.same 1,.same 2,.same 3,.same 2,.same 4]
theorem yV{α:Type}{p:α→Bool}{l:List α}{i:Nat}(h:i<l.length):(l.take (i+1)).filter p=(l.take i).filter p++if p l[i]=true then[l[i]]else[]:=by
 rw[List.take_succ_eq_append_getElem h,List.filter_append];congr 1
 by_cases a:p l[i]=true
 ·rw[if_pos a,List.filter_cons_of_pos a];rfl
 ·rw[if_neg a,List.filter_cons_of_neg a];rfl
theorem filter_le{α:Type}{p:α→Bool}{l:List α}{i:Nat}(h:i≤l.length):((l.take i).filter p).length≤i:=Nat.le_trans (List.length_filter_le ..) (by rw[List.length_take];omega)
theorem Le(L:List Ob)(l:List It)(h:Int)(p:List UInt8)(hl:l.length≤60):ai Tryz.prog 78 [.c (.ptr 0 0),.c (.str p)] [.box [.ptr 1 0,.rw 3,.int .i64 h],.box [.rw 2],.row 6 Ob ak L,.row 5 It aM l] (Rt (.c (.int .i64 (sJ l p).1)) [.box [.ptr 1 0,.rw 5,.int .i64 h],.box [.rw 4],.dead,.dead,.row 6 Ob ak L,.row 5 It aM (sJ l p).2]):=by
 refine an (n:=48) (n0:=4) tabOk Tryz.call78 Tryz.func78 ?_;intro hb;(conv=>whnf);refine lp Nat (fun i=>⟨[(0,.c (.ptr 0 0)),(1,.c (.str p)),(5,.c (.rw 4)),(6,.c (.int .i64 i))],[.box [.ptr 1 0,.rw 3,.int .i64 h],.box [.rw 2],.row 6 Ob ak L,.row 5 It aM l]++[.row 5 It aM ((l.take i).filter fun y=>decide (y.path≠p))]⟩) (fun i=>i≤l.length∧True) (fun i=>l.length-i) 0 [] [.same 0,.same 1,.same 2,.same 3,.new] ?_ ?_ (fun i m=>?_)
 ·simp
 ·repeat' first|exact trivial|exact rfl|refine And.intro ?_ ?_
 (conv=>whnf);refine dec (fun j=>?_) (fun j=>?_)
 ·have a:i<l.length:=by omega
  have d:=yV (p:=fun y:It=>decide (y.path≠p)) a;have k:=filter_le (p:=fun y:It=>decide (y.path≠p)) m.1;have b:l[i]? =some l[i]:=List.getElem?_eq_getElem a;(conv=>whnf);refine⟨i,⟨rfl,a⟩,?_⟩;(conv=>whnf);refine⟨l[i],b,?_⟩;generalize (l.take i).filter (fun y=>decide (y.path≠p))=out at*;generalize l[i]=y at*;(conv=>whnf);refine ay (fun g=>?_) (fun g=>?_)
  ·rw[if_pos (by simpa using g)]at d;(conv=>whnf);refine⟨i,⟨rfl,a⟩,?_⟩;(conv=>whnf);refine⟨y,b,?_⟩;(conv=>whnf);refine⟨[y],rfl,?_⟩;(conv=>whnf);refine⟨_,_,rfl,rfl,(by simp only[List.length_append,List.length_cons,List.length_nil];omega),?_⟩;repeat'((conv=>whnf);refine I6 ?_)
   refine ag (i+1) [] [.same 0,.same 1,.same 2,.same 3,.same 6] ⟨a,trivial⟩ (by simp only[];omega) ?_;rw[d];repeat' first|exact trivial|exact rfl|refine And.intro ?_ ?_
  ·rw[if_neg (by simpa using g),List.append_nil]at d;repeat'((conv=>whnf);refine I6 ?_)
   refine ag (i+1) [] [.same 0,.same 1,.same 2,.same 3,.same 4] ⟨a,trivial⟩ (by simp only[];omega) ?_;rw[d];repeat' first|exact trivial|exact rfl|refine And.intro ?_ ?_
 ·obtain rfl:i=l.length:=by omega
  rw[List.take_length];(conv=>whnf);refine dec (fun f=>?_) (fun f=>?_)
  ·rw[show sJ l p=_ from if_pos (Int.ofNat_inj.1 f)];(conv=>whnf);exact rx [] [.same 0,.same 1,.same 2,.same 3,.same 2,.same 3]
  ·rw[show sJ l p=_ from if_neg (fun e=>f (congrArg Int.ofNat e))];(conv=>whnf);exact rx [] [.same 0,.same 1,.same 2,.same 3,.same 2,.same 4]
theorem EO(L:List Ob)(l:List It)(h:Int)(hl:l.length≤60)(b:∀x∈l,x.bytes.length≤400):ai Tryz.prog 68 [.c (.bp [.bp [.bs 6 Ob ak L],.bs 5 It aM l,.int .i64 h])] [] (Rt (.c (.rw 0)) [.row 2 Dc eY (l.map dZ)]):=by
 refine an (n:=26) (n0:=0) tabOk Tryz.call68 Tryz.func68 ?_;intro hb;(conv=>whnf);refine lp Nat (fun i=>⟨[(3,.c (.rw 0)),(9,.c (.bs 5 It aM l)),(10,.c (.int .i64 l.length)),(11,.c (.int .i64 i))],[.row 2 Dc eY ((l.take i).map dZ)]⟩) (fun i=>i≤l.length∧True) (fun i=>l.length-i) 0 [] [.new] ?_ ?_ (fun i j=>?_)
 ·simp
 ·repeat' first|exact trivial|exact rfl|refine And.intro ?_ ?_
 (conv=>whnf);refine dec (fun d=>?_) (fun d=>?_)
 ·have a:i<l.length:=by omega
  have f:((l.take i).map dZ).length≤i:=by rw[List.length_map,List.length_take];omega
  have g:(l.take (i+1)).map dZ=(l.take i).map dZ++[dZ l[i]]:=by rw[List.take_succ_eq_append_getElem a,List.map_append];rfl
  have e:=b _ (List.getElem_mem a);generalize (l.take i).map dZ=out at*;(conv=>whnf);refine⟨i,l[i],rfl,List.getElem?_eq_getElem a,?_⟩;generalize l[i]=x at*;(conv=>whnf);refine⟨false,.grow,(.l [0,1,2,3,4,5,6,7,8,9]),by kernel_rfl,.inl ?_⟩;(conv=>whnf);refine cl [] [] (tY x.bytes (by omega)) ?_;(conv=>whnf);refine⟨[⟨x.path,x.bytes⟩],rfl,?_⟩;(conv=>whnf);refine⟨_,_,rfl,rfl,(by simp only[List.length_append,List.length_cons,List.length_nil];omega),?_⟩;repeat'((conv=>whnf);refine I6 ?_)
  refine ag (i+1) [] [.same 4] ⟨a,trivial⟩ (by simp only[];omega) ?_;rw[g];repeat' first|exact trivial|exact rfl|refine And.intro ?_ ?_
 ·obtain rfl:i=l.length:=by omega
  rw[List.take_length];(conv=>whnf);exact rx [] [.same 0]
theorem Hl(L:List Ob)(l:List It)(h:Int)(hl:l.length≤60):ai Tryz.prog 138 [.c (.bp [.bp [.bs 6 Ob ak L],.bs 5 It aM l,.int .i64 h])] [] (Rt (.c (.rw 0)) [.row 4 Fi aA (fq l)]):=by
 refine an (n:=29) (n0:=0) tabOk Tryz.call138 Tryz.func138 ?_;intro hb;(conv=>whnf);refine lp Nat (fun i=>⟨[(3,.c (.rw 0)),(9,.c (.bs 5 It aM l)),(10,.c (.int .i64 l.length)),(11,.c (.int .i64 i))],[.row 4 Fi aA (fq (l.take i))]⟩) (fun i=>i≤l.length∧True) (fun i=>l.length-i) 0 [] [.new] ?_ ?_ (fun i g=>?_)
 ·simp
 ·repeat' first|exact trivial|exact rfl|refine And.intro ?_ ?_
 (conv=>whnf);refine dec (fun e=>?_) (fun e=>?_)
 ·have a:i<l.length:=by omega
  have f:(fq (l.take i)).length≤i:=by unfold fq;rw[List.length_map];exact filter_le (by omega)
  have b:fq (l.take (i+1))=fq (l.take i)++if l[i].link=true then[jj l[i]]else[]:=by
   unfold fq;rw[yV a,List.map_append];congr 1
   split<;>rfl
  generalize fq (l.take i)=out at*;(conv=>whnf);refine⟨i,l[i],rfl,List.getElem?_eq_getElem a,?_⟩;generalize l[i]=x at*;(conv=>whnf);refine aW (fun d=>?_) (fun d=>?_)
  ·rw[if_pos d]at b;(conv=>whnf);refine⟨[jj x],rfl,?_⟩;(conv=>whnf);refine⟨_,_,rfl,rfl,(by simp only[List.length_append,List.length_cons,List.length_nil];omega),?_⟩;repeat'((conv=>whnf);refine I6 ?_)
   refine ag (i+1) [] [.same 3] ⟨a,trivial⟩ (by simp only[];omega) ?_;rw[b];repeat' first|exact trivial|exact rfl|refine And.intro ?_ ?_
  ·rw[if_neg (by rw[d];decide),List.append_nil]at b;repeat'((conv=>whnf);refine I6 ?_)
   refine ag (i+1) [] [.same 0] ⟨a,trivial⟩ (by simp only[];omega) ?_;rw[b];repeat' first|exact trivial|exact rfl|refine And.intro ?_ ?_
 ·obtain rfl:i=l.length:=by omega
  rw[List.take_length];(conv=>whnf);exact rx [] [.same 0]
theorem og(L:List Ob)(l:List It)(h:Int):ai Tryz.prog 70 [.c (.bp [.bp [.bs 6 Ob ak L],.bs 5 It aM l,.int .i64 h])] [] (Rt (.c (.int .i64 h)) []):=by
 refine an (n:=7) (n0:=0) tabOk Tryz.call70 Tryz.func70 ?_;intro hb;repeat'((conv=>whnf);first|refine aK ?_|fail)
 rfl
end Go.Nest
end
section
namespace Go.Nest
open Go Go.AM Go.Proofs
open Go.Proofs.YtpechfcbnoggfaaGreatDoor (tab tabOk)
set_option maxRecDepth 4000
theorem Fh{L:List Ob}{x:It}{r:List It}{out:List Fi}(h:x.link=true):bf L (x::r) out=bf L r (out++[jj x]):=by
 rw[bf,if_pos h]
theorem Fj{L:List Ob}{x:It}{r:List It}{out:List Fi}(h:x.link=false)(h2:(ao L (dq x.bytes)).2.1≠0):bf L (x::r) out=([],(ao L (dq x.bytes)).2.1,(ao L (dq x.bytes)).2.2):=by
 rw[bf,if_neg (by rw[h];decide),if_pos h2]
theorem Fk{L:List Ob}{x:It}{r:List It}{out:List Fi}(h:x.link=false)(h2:¬(ao L (dq x.bytes)).2.1≠0):bf L (x::r) out=bf (ao L (dq x.bytes)).2.2 r (out++[⟨x.path,1,(ao L (dq x.bytes)).1,0⟩]):=by
 rw[bf,if_neg (by rw[h];decide),if_neg h2]
set_option maxHeartbeats 4000000 in
theorem Fp(L:List Ob)(q:ae L)(l:List It)(h:Int)(hl:l.length≤60):ai Tryz.prog 164 [.c (.ptr 0 0)] [.box [.ptr 1 0,.rw 3,.int .i64 h],.box [.rw 2],.row 6 Ob ak L,.row 5 It aM l] (Rt (.aL [(false,[.rw 6]),(false,[.int .i64 (bf L l []).2.1])]) ([.box [.ptr 1 0,.rw 5,.int .i64 h],.box [.rw 4],.dead,.dead,.row 6 Ob ak (bf L l []).2.2,.row 5 It aM l]++[.row 4 Fi aA (bf L l []).1])):=by
 refine an (n:=53) (n0:=4) tabOk Tryz.call164 Tryz.func164 ?_;intro hb;(conv=>whnf);refine lp (Nat×List Ob×List Fi) (fun|(i,M,out)=>⟨[(0,.c (.ptr 0 0)),(4,.c (.rw 5)),(13,.c (.rw 3)),(14,.c (.int .i64 l.length)),(15,.c (.int .i64 i))],[.box [.ptr 1 0,.rw 3,.int .i64 h],.box [.rw 4],.dead,.row 5 It aM l,.row 6 Ob ak M]++[.row 4 Fi aA out]⟩) (fun x=>(x.1≤l.length∧x.2.2.length≤x.1)∧ae x.2.1∧bf L l []=bf x.2.1 (l.drop x.1) x.2.2) (fun x=>l.length-x.1) (0,L,[]) [] [.same 0,.same 1,.same 2,.same 3,.same 2,.new] ?_ ?_ (fun x r=>?_)
 ·exact⟨⟨Nat.zero_le _,Nat.zero_le _⟩,q,rfl⟩
 ·repeat' first|exact trivial|exact rfl|refine And.intro ?_ ?_
 obtain⟨i,M,out⟩:=x;obtain⟨⟨m,o⟩,e,b⟩:=r;dsimp only at m o e b;(conv=>whnf);refine dec (fun p=>?_) (fun p=>?_)
 ·have a:i<l.length:=by omega
  have k:l.drop i=l[i]::l.drop (i+1):=List.drop_eq_getElem_cons a;rw[k]at b;(conv=>whnf);refine⟨i,⟨rfl,a⟩,?_⟩;(conv=>whnf);refine⟨l[i],List.getElem?_eq_getElem a,?_⟩;generalize l[i]=x at*;(conv=>whnf);refine dV (fun d=>?_) (fun d=>?_)
  ·have s:=qd M (dq x.bytes) e.len;have j:=fK e (dq x.bytes);(conv=>whnf);refine⟨false,.grow,(.l [0,1,2,3,4,5,6,7,8,9,10,11,12]),by kernel_rfl,.inl ?_⟩;(conv=>whnf);refine cl [] [1,4] (s) ?_;(conv=>whnf);refine ay (fun f=>?_) (fun f=>?_)
   ·rw[b,Fj d f];(conv=>whnf);exact rx [] [.same 0,.same 1,.same 2,.same 3,.same 8,.same 3,.new]
   ·have g:¬(ao M (dq x.bytes)).2.1≠0:=fun h=>h f;rw[Fk d g]at b;generalize (ao M (dq x.bytes)).2.2=M' at*;generalize (ao M (dq x.bytes)).1=id at*;(conv=>whnf);refine⟨[⟨x.path,1,id,0⟩],rfl,?_⟩;(conv=>whnf);refine⟨_,_,rfl,rfl,(by simp only[List.length_append,List.length_cons,List.length_nil];omega),?_⟩;repeat'((conv=>whnf);refine I6 ?_)
    refine ag (i+1,M',out++[⟨x.path,1,id,0⟩]) [] [.same 0,.same 1,.same 2,.same 3,.same 8,.same 10] ⟨⟨a,by simp only[List.length_append,List.length_cons,List.length_nil];omega⟩,j,b⟩ (by simp only[];omega) ?_;repeat' first|exact trivial|exact rfl|refine And.intro ?_ ?_
  ·rw[Fh d]at b;(conv=>whnf);refine⟨[jj x],rfl,?_⟩;(conv=>whnf);refine⟨_,_,rfl,rfl,(by simp only[List.length_append,List.length_cons,List.length_nil];omega),?_⟩;repeat'((conv=>whnf);refine I6 ?_)
   refine ag (i+1,M,out++[jj x]) [] [.same 0,.same 1,.same 2,.same 3,.same 4,.same 9] ⟨⟨a,by simp only[List.length_append,List.length_cons,List.length_nil];omega⟩,e,b⟩ (by simp only[];omega) ?_;repeat' first|exact trivial|exact rfl|refine And.intro ?_ ?_
 ·obtain rfl:i=l.length:=by omega
  rw[List.drop_length]at b;rw[b];(conv=>whnf);exact rx [] [.same 0,.same 1,.same 2,.same 3,.same 4,.same 3,.same 5]
theorem Ci(L:List Ob)(e:ae L)(l:List It)(h:Int)(j:∀y∈l,y.path.length≤4000000)(hl:l.length≤60):ai Tryz.prog 201 [.c (.ptr 0 0)] [.box [.ptr 1 0,.rw 3,.int .i64 h],.box [.rw 2],.row 6 Ob ak L,.row 5 It aM l] (Rt (.aL [(false,[.int .i64 (aE L l).1]),(false,[.int .i64 (aE L l).2.1])]) [.box [.ptr 1 0,.rw 5,.int .i64 h],.box [.rw 4],.dead,.dead,.row 6 Ob ak (aE L l).2.2,.row 5 It aM l]):=by
 refine an (n:=22) (n0:=4) tabOk Tryz.call201 Tryz.func201 ?_;intro hb;have b:=uD (n:=4000000) (L:=L) (out:=[]) (fun f i=>(by cases i)) j;have a:=(lZ (l:=l) (out:=[]) e).1;unfold aE;(conv=>whnf);refine cl [] [0,1,2,3] (Fp L e l h hl) ?_;generalize bf L l []=F at*;obtain⟨g,c,M⟩:=F;dsimp only at b a;(conv=>whnf);refine ay (fun d=>?_) (fun d=>?_)
 ·rw[if_pos d];(conv=>whnf);exact rx [] [.same 0,.same 1,.same 2,.same 3,.same 4,.same 5]
 ·rw[if_neg (fun h=>h d)];(conv=>whnf);refine cl [] [1,4] (yY M g a b) ?_;(conv=>whnf);exact rx [] [.same 0,.same 1,.same 2,.same 3,.same 7,.same 5]
theorem BO(L:List Ob)(b:ae L)(l:List It)(h t:Int):ai Tryz.prog 202 [.c (.bp [.bp [.bs 6 Ob ak L],.bs 5 It aM l,.int .i64 h]),.c (.int .i64 t)] [] (Rt (.c (.bool (jW L l h t))) []):=by
 refine an (n:=34) (n0:=0) tabOk Tryz.call202 Tryz.func202 ?_;intro hb;unfold jW;(conv=>whnf);refine dec (fun a=>?_) (fun a=>?_)
 ·rw[if_pos a];(conv=>whnf);exact aG (by rw[decide_eq_decide];omega)
 ·rw[if_neg a];(conv=>whnf);refine⟨false,.grow,(.alt [0,1,2,3,4,5,6,7] [8,12] fun j=>bif Nat.beq j 8 then(.l [9,10,11,12,13,14])else bif Nat.beq j 12 then(.l [8,9,10,11,13,14])else .l []),by kernel_rfl,.inl ?_⟩;(conv=>whnf);refine And.intro ?_ ?_
  all_goals
   (conv=>whnf);refine cl [] [] (gT L b h) ?_;(conv=>whnf);exact aG rfl
theorem ya(L:List Ob)(e:ae L)(l:List It)(h:Int)(f:∀y∈l,y.path.length≤4000000)(hl:l.length≤60):ai Tryz.prog 127 [.c (.ptr 0 0)] [.box [.ptr 1 0,.rw 3,.int .i64 h],.box [.rw 2],.row 6 Ob ak L,.row 5 It aM l] (Rt (.c (.int .i64 (eD L l h))) [.box [.ptr 1 0,.rw 5,.int .i64 h],.box [.rw 4],.dead,.dead,.row 6 Ob ak (aE L l).2.2,.row 5 It aM l]):=by
 refine an (n:=19) (n0:=4) tabOk Tryz.call127 Tryz.func127 ?_;intro hb;have a:=(eV (l:=l) e).1;unfold eD;(conv=>whnf);refine cl [] [0,1,2,3] (Ci L e l h f hl) ?_;generalize aE L l=T at*;obtain⟨t,c,M⟩:=T;dsimp only at a;(conv=>whnf);refine dec (fun b=>?_) (fun b=>?_)
 ·rw[if_neg (fun h=>h b)];(conv=>whnf);refine cl [] [] (BO M a l h t) ?_;(conv=>whnf);refine dV (fun d=>?_) (fun d=>?_)
  ·rw[if_neg (by rw[d];decide)];(conv=>whnf);exact rx [] [.same 0,.same 1,.same 2,.same 3,.same 4,.same 5]
  ·rw[if_pos d];(conv=>whnf);rw[b];exact rx [] [.same 0,.same 1,.same 2,.same 3,.same 4,.same 5]
 ·rw[if_pos b];(conv=>whnf);exact rx [] [.same 0,.same 1,.same 2,.same 3,.same 4,.same 5]
end Go.Nest
end
section
namespace Go.Nest
open Go Go.AM Go.Proofs
open Go.Proofs.YtpechfcbnoggfaaGreatDoor (tab tabOk)
set_option maxRecDepth 4000
def iD(L:List Ob)(h:Int):Prop:=h<0∨kindOf L h=3
theorem iD.ext{L M:List Ob}{h:Int}(a:iD L h)(c:L<+:M):iD M h:=a.imp id fun b=>by rw[dy c (by omega)];exact b
theorem Fg{L:List Ob}{t:Int}:(cK L t).1.length≤60:=by
 unfold cK;have:=n9 L 9 t [] [] (by decide);split
 ·exact this
 ·simp
theorem Fl{M:List Ob}(b:ae M)(t:Int):CD (cK M t).1∧∀f∈(cK M t).1,f.path.length≤4000000:=by
 by_cases g:(cK M t).2=0
 ·obtain⟨d,p,j⟩:=uG b g;obtain⟨n,o⟩:=gg b d.1;obtain⟨i,c⟩:=d.2.tB b n o;refine⟨⟨i.imp fun h=>h.1,fun f a e=>?_⟩,fun f a=>?_⟩
  ·have:=(c f a).2;omega
  ·have k:=(c f a).1;have l:=qw (aD f.path) fun s m=>sd (pU k s m);rw[qx]at l;have:=j f a;omega
 ·rw[Fm g];exact⟨⟨.nil,fun f a=>by cases a⟩,fun f a=>by cases a⟩
end Go.Nest
end
section
namespace Go.Nest
open Go Go.AM Go.Proofs
open Go.Proofs.YtpechfcbnoggfaaGreatDoor (tab tabOk)
set_option maxRecDepth 4000
set_option maxHeartbeats 1000000 in
theorem yo(L:List Ob)(r:ae L)(l:List It)(h:Int)(w:∀y∈l,y.path.length≤4000000)(hl:l.length≤60)(text:List UInt8)(others:List Int)(ho:others.length≤1000)(s:iD L h):ai Tryz.prog 124 [.c (.ptr 0 0),.c (.str text),.c (.bs 1 Int encI others)] [.box [.ptr 1 0,.rw 3,.int .i64 h],.box [.rw 2],.row 6 Ob ak L,.row 5 It aM l] (Rt (.aL [(false,[.int .i64 (aH L l h text others).1]),(false,[.int .i64 (aH L l h text others).2.1])]) [.box [.ptr 1 0,.rw 5,.int .i64 (jh L l h text others)],.box [.rw 4],.dead,.dead,.row 6 Ob ak (aH L l h text others).2.2,.row 5 It aM l]):=by
 have e:=(eV (l:=l) r).1;have s:=s.ext (eV (l:=l) r).2;have u:jh L l h text others=if(aH L l h text others).2.1=0 then(aH L l h text others).1 else h:=rfl
 rw[u];have i:aH L l h text others=_:=rfl;conv at i=>rhs;unfold aH
 have v:=Ci L r l h w hl;generalize aH L l h text others=R at*;generalize aE L l=T at*;obtain⟨t,c,M⟩:=T;dsimp only at e s i;have g:=qd M (bE t (cD h others) text) e.len;generalize x:ao M (bE t (cD h others) text)=P at*;obtain⟨id,o,M'⟩:=P;dsimp only at g i;refine an (n:=69) (n0:=4) tabOk Tryz.call124 Tryz.func124 ?_;intro hb;(conv=>whnf);refine cl [] [0,1,2,3] (v) ?_;(conv=>whnf);refine ay (fun m=>?_) (fun m=>?_)
 ·rw[i.trans (if_pos m),if_neg m];(conv=>whnf);exact rx [] [.same 0,.same 1,.same 2,.same 3,.same 4,.same 5]
 have k:=i.trans (if_neg (fun h=>h m));(conv=>whnf);refine dec (fun b=>?_) (fun b=>?_)
 ·have b:0≤h:=b;have f:cD h others=[h]++others:=by unfold cD;rw[if_pos b]
  rw[f]at g;(conv=>whnf);refine cl [] [] (BO M e l h t) ?_;(conv=>whnf);refine aW (fun p=>?_) (fun p=>?_)
  ·(conv=>whnf);refine dec (fun q=>?_) (fun q=>?_)
   ·rw[k.trans (if_pos ⟨b,p,Int.ofNat_inj.1 q⟩),if_neg (show¬(17:Int)=0 by decide)];(conv=>whnf);exact rx [] [.same 0,.same 1,.same 2,.same 3,.same 4,.same 5]
   ·have d:=k.trans (if_neg (fun h=>q (congrArg Int.ofNat h.2.2)));(conv=>whnf);refine dec (fun _=>?_) (fun h=>absurd b h);(conv=>whnf);refine⟨[h],rfl,?_⟩;(conv=>whnf);refine⟨[],_,rfl,rfl,(by simp only[List.length_nil,List.length_cons];omega),?_⟩;(conv=>whnf);refine⟨true,.any,(.alt [0,1,2,4,5,6,8] [3,7] fun j=>bif Nat.beq j 3 then(.l [7,9,10,11,12,13,14,15])else bif Nat.beq j 7 then(.l [9,3,10,11,12,13,14,15])else .l []),by kernel_rfl,.inl ?_⟩;(conv=>whnf);refine And.intro ?_ ?_
    all_goals
     (conv=>whnf);refine⟨_,_,rfl,rfl,(by simp only[List.length_append,List.length_nil,List.length_cons];omega),?_⟩;(conv=>whnf);refine cl [] [1,4] (g) ?_;(conv=>whnf);refine ay (fun a=>?_) (fun a=>?_)
     ·rw[d.trans (if_pos a),if_neg a];(conv=>whnf);exact rx [] [.same 0,.same 1,.same 2,.same 3,.same 9,.same 5]
     ·rw[d.trans (if_neg (fun h=>h a)),if_pos a];have a:o=0:=a;subst a;(conv=>whnf);exact rx [] [.same 0,.same 1,.same 2,.same 3,.same 9,.same 5]
  ·have d:=k.trans (if_neg (fun h=>by have:=h.2.1;rw[p]at this;cases this));(conv=>whnf);refine dec (fun _=>?_) (fun h=>absurd b h);(conv=>whnf);refine⟨[h],rfl,?_⟩;(conv=>whnf);refine⟨[],_,rfl,rfl,(by simp only[List.length_nil,List.length_cons];omega),?_⟩;(conv=>whnf);refine⟨true,.any,(.alt [0,1,2,4,5,6,8] [3,7] fun j=>bif Nat.beq j 3 then(.l [7,9,10,11,12,13,14,15])else bif Nat.beq j 7 then(.l [9,3,10,11,12,13,14,15])else .l []),by kernel_rfl,.inl ?_⟩;(conv=>whnf);refine And.intro ?_ ?_
   all_goals
    (conv=>whnf);refine⟨_,_,rfl,rfl,(by simp only[List.length_append,List.length_nil,List.length_cons];omega),?_⟩;(conv=>whnf);refine cl [] [1,4] (g) ?_;(conv=>whnf);refine ay (fun a=>?_) (fun a=>?_)
    ·rw[d.trans (if_pos a),if_neg a];(conv=>whnf);exact rx [] [.same 0,.same 1,.same 2,.same 3,.same 9,.same 5]
    ·rw[d.trans (if_neg (fun h=>h a)),if_pos a];have a:o=0:=a;subst a;(conv=>whnf);exact rx [] [.same 0,.same 1,.same 2,.same 3,.same 9,.same 5]
 ·have b:¬0≤h:=b;have f:cD h others=[]++others:=by unfold cD;rw[if_neg b]
  rw[f]at g;have d:=k.trans (if_neg (fun h=>b h.1));(conv=>whnf);refine dec (fun h=>absurd h b) (fun _=>?_);(conv=>whnf);refine⟨true,.any,(.alt [0,1,2,4,5,6,8] [3,7] fun j=>bif Nat.beq j 3 then(.l [7,9,10,11,12,13,14,15])else bif Nat.beq j 7 then(.l [9,3,10,11,12,13,14,15])else .l []),by kernel_rfl,.inl ?_⟩;(conv=>whnf);refine And.intro ?_ ?_
  all_goals
   (conv=>whnf);refine⟨[],_,rfl,rfl,(by simp only[List.length_nil];omega),?_⟩;(conv=>whnf);refine cl [] [1,4] (g) ?_;(conv=>whnf);refine ay (fun a=>?_) (fun a=>?_)
   ·rw[d.trans (if_pos a),if_neg a];(conv=>whnf);exact rx [] [.same 0,.same 1,.same 2,.same 3,.same 7,.same 5]
   ·rw[d.trans (if_neg (fun h=>h a)),if_pos a];have a:o=0:=a;subst a;(conv=>whnf);exact rx [] [.same 0,.same 1,.same 2,.same 3,.same 7,.same 5]
end Go.Nest
end
section
namespace Go.Nest
open Go Go.AM Go.Proofs
open Go.Proofs.YtpechfcbnoggfaaGreatDoor (tab tabOk)
set_option maxRecDepth 4000
theorem GO{L:List Ob}{f:Fi}(h:f.mode=3):ca L f=⟨f.path,[],decide (f.mode=3),f.id,f.ar⟩:=(if_pos h).trans (by rw[decide_eq_true h])
theorem GN{L:List Ob}{f:Fi}(h:¬f.mode=3):ca L f=⟨f.path,(ab L f.id).bytes,false,0,0⟩:=if_neg h
set_option maxHeartbeats 1000000 in
theorem Ag(L:List Ob)(g:ae L)(l:List It)(h:Int)(fs:List Fi)(m:fs.length≤60):ai Tryz.prog 205 [.c (.ptr 0 0),.c (.bs 4 Fi aA fs)] [.box [.ptr 1 0,.rw 3,.int .i64 h],.box [.rw 2],.row 6 Ob ak L,.row 5 It aM l] (Rt (.aL []) [.box [.ptr 1 0,.rw 5,.int .i64 h],.box [.rw 4],.dead,.dead,.row 6 Ob ak L,.row 5 It aM (fs.map (ca L))]):=by
 refine an (n:=57) (n0:=4) tabOk Tryz.call205 Tryz.func205 ?_;intro hb;(conv=>whnf);refine lp Nat (fun i=>⟨[(0,.c (.ptr 0 0)),(12,.c (.bs 4 Fi aA fs)),(13,.c (.int .i64 fs.length)),(14,.c (.int .i64 i))],[.box [.ptr 1 0,.rw 4,.int .i64 h],.box [.rw 2],.row 6 Ob ak L,.dead,.row 5 It aM ((fs.take i).map (ca L))]⟩) (fun i=>i≤fs.length∧True) (fun i=>fs.length-i) 0 [] [.same 0,.same 1,.same 2,.same 3,.new] ?_ ?_ (fun i o=>?_)
 ·simp
 ·repeat' first|exact trivial|exact rfl|refine And.intro ?_ ?_
 (conv=>whnf);refine dec (fun e=>?_) (fun e=>?_)
 ·have a:i<fs.length:=by omega
  have k:((fs.take i).map (ca L)).length≤i:=by rw[List.length_map,List.length_take];omega
  have b:(fs.take (i+1)).map (ca L)=(fs.take i).map (ca L)++[ca L fs[i]]:=by rw[List.take_succ_eq_append_getElem a,List.map_append];rfl
  generalize (fs.take i).map (ca L)=out at*;(conv=>whnf);refine⟨i,fs[i],rfl,List.getElem?_eq_getElem a,?_⟩;generalize fs[i]=f at*;(conv=>whnf);refine ay (fun d=>?_) (fun d=>?_)
  ·rw[GN d]at b;(conv=>whnf);refine⟨false,.grow,(.alt [0,1,2,3,4,5] [6,10] fun j=>bif Nat.beq j 6 then(.l [7,8,9,10,11,12])else bif Nat.beq j 10 then(.l [6,7,8,9,11,12])else .l []),by kernel_rfl,.inl ?_⟩;(conv=>whnf);refine And.intro ?_ ?_
   all_goals
    (conv=>whnf);refine cl [] [] (gT L g f.id) ?_;(conv=>whnf);refine⟨false,.grow,(.l [0,1,2,3,4,5,6,7,8,9,10]),by kernel_rfl,.inl ?_⟩;(conv=>whnf);refine⟨[⟨f.path,(ab L f.id).bytes,false,0,0⟩],rfl,?_⟩;(conv=>whnf);refine⟨_,_,rfl,rfl,(by simp only[List.length_append,List.length_cons,List.length_nil];omega),?_⟩;repeat'((conv=>whnf);refine I6 ?_)
    refine ag (i+1) [] [.same 0,.same 1,.same 2,.same 3,.same 9] ⟨a,trivial⟩ (by simp only[];omega) ?_;rw[b];repeat' first|exact trivial|exact rfl|refine And.intro ?_ ?_
  ·rw[GO d]at b;(conv=>whnf);refine⟨false,.grow,(.l [0,1,2,3,4,5,6,7,8,9,10]),by kernel_rfl,.inl ?_⟩;(conv=>whnf);refine⟨[⟨f.path,[],decide (f.mode=3),f.id,f.ar⟩],rfl,?_⟩;(conv=>whnf);refine⟨_,_,rfl,rfl,(by simp only[List.length_append,List.length_cons,List.length_nil];omega),?_⟩;repeat'((conv=>whnf);refine I6 ?_)
   refine ag (i+1) [] [.same 0,.same 1,.same 2,.same 3,.same 8] ⟨a,trivial⟩ (by simp only[];omega) ?_;rw[b];repeat' first|exact trivial|exact rfl|refine And.intro ?_ ?_
 ·obtain rfl:i=fs.length:=by omega
  rw[List.take_length];(conv=>whnf);exact rx [] [.same 0,.same 1,.same 2,.same 3,.same 2,.same 4]
theorem cS.ids{ne:Bool}{L:List Ob}(d:ae L){es:List aF}{l:List Fi}(h:cS ne L es l):(∀e∈es,kindOf L e.id=e.mode)→∀f∈l,kindOf L f.id=f.mode:=by
 induction h with
 |nil=>intro _ f hf;cases hf
 |file k h ih=>
  intro a f hf;rcases List.mem_cons.1 hf with rfl|hf
  ·exact a _ (by simp)
  ·exact ih (fun e h=>a e (by simp[h])) f hf
 | @dir e es m l k j n o h b c=>
  intro a f hf;rcases List.mem_append.1 hf with hf|hf
  ·obtain⟨g,i,rfl⟩:=List.mem_map.1 hf;exact b (d.tree j).2.2.2 g i
  ·exact c (fun e h=>a e (by simp[h])) f hf
theorem fk.ids{ne:Bool}{L:List Ob}(a:ae L){t:Int}{l:List Fi}(h:fk ne L t l):∀f∈l,kindOf L f.id=f.mode:=h.2.ids a (a.tree h.1).2.2.2
theorem Fe{l:List Fi}(h:cq l=0):∀f∈l,¬f.mode=0:=fun f a=>by have:=((jG h).2 f a).2;omega
def eQ(L:List Ob)(fs:List Fi):Int:=(bC L fs).2.1
theorem Ae(L:List Ob)(e:ae L)(l:List It)(h:Int)(fs:List Fi)(o:∀f∈fs,f.path.length≤4000000):ai Tryz.prog 212 [.c (.ptr 0 0),.c (.bs 4 Fi aA fs)] [.box [.ptr 1 0,.rw 3,.int .i64 h],.box [.rw 2],.row 6 Ob ak L,.row 5 It aM l] (Rt (.c (.int .i64 (eQ L fs))) [.box [.ptr 1 0,.rw 5,.int .i64 h],.box [.rw 4],.dead,.dead,.row 6 Ob ak (bC L fs).2.2,.row 5 It aM (ji L l fs)]):=by
 refine an (n:=22) (n0:=4) tabOk Tryz.call212 Tryz.func212 ?_;intro hb;have b:=(ib e fs).1;have d:=pd (L:=L) (l:=fs) e;unfold ji eQ;(conv=>whnf);refine cl [] [1,2] (yY L fs e o) ?_;generalize bC L fs=B at*;obtain⟨t,c,M⟩:=B;dsimp only at b d;(conv=>whnf);refine ay (fun a=>?_) (fun a=>?_)
 ·rw[if_pos a];(conv=>whnf);exact rx [] [.same 0,.same 1,.same 2,.same 3,.same 4,.same 3]
 ·rw[if_neg (fun h=>h a)];obtain⟨i,k⟩:=d a;have g:=(jG i).1;have p:∀f∈fs,¬f.mode=3→¬kindOf M f.id=0:=fun f j _=>by rw[k.ids b f j];exact Fe i f j
  have m:=Ag M b l h fs g;have a:c=0:=a;subst a;(conv=>whnf);refine cl [] [0,1,4,3] (m) ?_;(conv=>whnf);exact rx [] [.same 0,.same 1,.same 2,.same 3,.same 5,.same 6]
end Go.Nest
end
section
namespace Go.Nest
open Go Go.AM Go.Proofs
open Go.Proofs.YtpechfcbnoggfaaGreatDoor (tab tabOk)
set_option maxRecDepth 4000
theorem uc{L:List Ob}{l:List It}{h id:Int}(hk:¬kindOf L id=3):dG L l h id=9∧eN L l id=L∧iH L l h id=l∧ig L l h id=h:=by
 have e:dG L l h id=9:=if_pos hk;exact⟨e,if_pos hk,if_pos (by rw[e];decide),if_pos (by rw[e];decide)⟩
theorem ua{L:List Ob}{l:List It}{h id:Int}(hk:kindOf L id=3)(hc:¬eD L l h=0):dG L l h id=eD L l h∧eN L l id=(aE L l).2.2∧iH L l h id=l∧ig L l h id=h:=by
 have e:dG L l h id=eD L l h:=(if_neg (fun h=>h hk)).trans (if_pos hc);exact⟨e,if_neg (fun h=>h hk),if_pos (by rw[e];exact hc),if_pos (by rw[e];exact hc)⟩
theorem ub{L:List Ob}{l:List It}{h id:Int}(hk:kindOf L id=3)(hc:eD L l h=0):dG L l h id=(cK (aE L l).2.2 (ab L id).tree).2∧eN L l id=(aE L l).2.2∧
  iH L l h id=(if(cK (aE L l).2.2 (ab L id).tree).2≠0 then l else(cK (aE L l).2.2 (ab L id).tree).1.map (ca (aE L l).2.2))∧ig L l h id=if(cK (aE L l).2.2 (ab L id).tree).2≠0 then h else id:=by
 have e:dG L l h id=(cK (aE L l).2.2 (ab L id).tree).2:=(if_neg (fun h=>h hk)).trans (if_neg (fun h=>h hc));refine⟨e,if_neg (fun h=>h hk),?_,?_⟩
 ·unfold iH;rw[e]
 ·unfold ig;rw[e]
set_option maxHeartbeats 1000000 in
theorem x6(L:List Ob)(m:ae L)(l:List It)(h:Int)(w:∀y∈l,y.path.length≤4000000)(hl:l.length≤60)(id:Int):ai Tryz.prog 126 [.c (.ptr 0 0),.c (.int .i64 id)] [.box [.ptr 1 0,.rw 3,.int .i64 h],.box [.rw 2],.row 6 Ob ak L,.row 5 It aM l] (Rt (.c (.int .i64 (dG L l h id))) [.box [.ptr 1 0,.rw 5,.int .i64 (ig L l h id)],.box [.rw 4],.dead,.dead,.row 6 Ob ak (eN L l id),.row 5 It aM (iH L l h id)]):=by
 have d:=(eV (l:=l) m).1;have o:=ya L m l h w hl;have p:=cH (l:=L) (id:=id);have x:=uc (L:=L) (l:=l) (h:=h) (id:=id);have q:=ua (L:=L) (l:=l) (h:=h) (id:=id);have r:=ub (L:=L) (l:=l) (h:=h) (id:=id);refine an (n:=47) (n0:=4) tabOk Tryz.call126 Tryz.func126 ?_;intro hb;(conv=>whnf);refine cl [] [] (gT L m id) ?_;(conv=>whnf);refine ay (fun a=>?_) (fun a=>?_)
 ·have a:¬kindOf L id=3:=by rw[←p];exact a
  obtain⟨e,f,g,i⟩:=x a;rw[e,f,g,i];(conv=>whnf);exact rx [] [.same 0,.same 1,.same 2,.same 3,.same 2,.same 3]
 have a:kindOf L id=3:=by rw[←p];exact a
 generalize aE L l=T at*;obtain⟨t,c,M⟩:=T;dsimp only at d o q r;(conv=>whnf);refine cl [] [0,1,2,3] (o) ?_;(conv=>whnf);refine ay (fun k=>?_) (fun k=>?_)
 ·obtain⟨e,f,g,i⟩:=q a k;rw[e,f,g,i];(conv=>whnf);exact rx [] [.same 0,.same 1,.same 2,.same 3,.same 5,.same 6]
 obtain⟨e,f,g,i⟩:=r a k;rw[e,f,g,i];have j:=Fg (L:=M) (t:=(ab L id).tree);have v:=yZ M d (ab L id).tree;generalize cK M (ab L id).tree=F at*;obtain⟨u,s⟩:=F;dsimp only at j;(conv=>whnf);refine⟨false,.grow,(.l [0,1,2,3,4,5,6,7,8,9,10,11]),by kernel_rfl,.inl ?_⟩;(conv=>whnf);refine cl [] [] (v) ?_;(conv=>whnf);refine ay (fun b=>?_) (fun b=>?_)
 ·rw[if_pos b,if_pos b];(conv=>whnf);exact rx [] [.same 0,.same 1,.same 2,.same 3,.same 5,.same 6]
 ·rw[if_neg (fun h=>h b),if_neg (fun h=>h b)];have b:s=0:=b;subst b;(conv=>whnf);refine cl [] [0,1,5,6] (Ag M d l h u j) ?_;(conv=>whnf);exact rx [] [.same 0,.same 1,.same 2,.same 3,.same 8,.same 9]
end Go.Nest
end
section
namespace Go.Nest
open Go Go.AM
structure Ws where
 what:Int
 k:Int
 ar:Int
 path:List UInt8
 text:List UInt8
 bytes:List UInt8
 fY:Bool
structure WS where
 L:List Ob
 l:List It
 h:Int
 made:List Int
structure K9(s:WS):Prop where
 pool:ae s.L
 ok:gQ s.l
 bytes:∀x∈s.l,x.bytes.length≤400
 head:iD s.L s.h
theorem Iv{p:List UInt8}(h:(cj p).2=0):p.length≤168:=by
 obtain⟨a,d,_⟩:=ny h;have b:=qw (aD p) fun s c=>sd (pU a s c);rw[qx]at b;omega
end Go.Nest
end
section
namespace Go.Nest
open Go Go.AM
theorem kT.mS{L:List Ob}(a:ae L)(id:Int):(ab L id).bytes.length≤400:=by
 by_cases h:kindOf L id=0
 ·rw[a.l8 h];exact Nat.zero_le _
 ·exact(a.get h).bytes
theorem Bm{l:List It}(h:gQ l)(x:It):gQ (eT l x).2∧∀y∈(eT l x).2,y=x∨y∈l:=by
 unfold eT;split
 ·exact⟨h,fun y hy=>.inr hy⟩
 rename_i t;split
 ·exact⟨h,fun y hy=>.inr hy⟩
 rename_i D;have t:(cj x.path).2=0:=Decidable.not_not.1 t
 have n:∀y∈l,(fM x.path y.path).2=false∧(fM y.path x.path).2=false:=fun y hy=>by
  have:=List.any_eq_false.1 (Bool.not_eq_true _▸D) y hy;unfold ll at this;simpa using this
 have f:(fM x.path x.path).2=false:=by
  rw[sY];cases e:under x.path x.path with
  |none=>rfl
  |some r=>have:=vy e;rw[oz]at this;cases this
 have fin:∀{o:List It},jv (·.path) o→o.length≤60→(∀y∈o,y=x∨y∈l)→gQ o∧∀y∈o,y=x∨y∈l:=fun J H m=>by
  refine⟨⟨J,H,fun y hy=>?_,fun a ha b hb=>?_⟩,m⟩
  ·rcases m y hy with rfl|hy
   ·exact t
   ·exact h.path y hy
  ·rcases m a ha with rfl|ha<;>rcases m b hb with rfl|hb
   ·exact f
   ·exact(n b hb).1
   ·exact(n a ha).2
   ·exact h.apart a ha b hb
 split
 ·rename_i u;obtain⟨y,hy,c⟩:=uX.1 u;obtain⟨k,F,e⟩:=List.mem_iff_getElem.1 hy;subst e;have c:=qR.1 c;have q:=F3 h.ris F;rw[c]at q;rw[q];refine fin ?_ (by rw[List.length_set];exact h.len) fun y hy=>(List.mem_or_eq_of_mem_set hy).symm.imp id id;refine List.pairwise_iff_getElem.2 fun i j q E v=>?_;have d:=List.pairwise_iff_getElem.1 h.ris i j (by simpa using q) (by simpa using E) v;simp only[Int.toNat_natCast];rw[List.getElem_set,List.getElem_set];split
  ·rename_i s;subst s;rw[if_neg (by omega)];simp only[c]at d;exact d
  ·split
   ·rename_i s;subst s;simp only[c]at d;exact d
   ·exact d
 ·rename_i u;split
  ·exact⟨h,fun y hy=>.inr hy⟩
  rename_i K;have I:=IE (l:=l) (p:=x.path);refine fin ?_ ?_ fun y hy=>?_
  ·unfold jv;rw[Kh,ES,List.pairwise_append,List.pairwise_cons]
   have w:∀y∈l.dropWhile (fun y=>aR y.path x.path),aR x.path y.path=true:=fun y hy=>by
    have z:=yG h.ris y hy;have m:y∈l:=(List.dropWhile_suffix _).subset hy;rcases kE y.path x.path with g|g|g
    ·rw[z]at g;cases g
    ·exact absurd (uX.2 ⟨y,m,qR.2 g⟩) u
    ·exact g
   refine⟨h.ris.sublist (List.takeWhile_sublist _),⟨w,h.ris.sublist (List.dropWhile_sublist _)⟩,fun a ha b hb=>?_⟩;have ha:=(AF ha).1;rcases List.mem_cons.1 hb with rfl|hb
   ·exact ha
   ·exact mg ha (w b hb)
  ·have:=h.len;rw[List.length_append,List.length_cons,List.length_take,List.length_drop];omega
  ·rcases List.mem_append.1 hy with hy|hy
   ·exact .inr (List.mem_of_mem_take hy)
   ·rcases List.mem_cons.1 hy with rfl|hy
    ·exact .inl rfl
    ·exact .inr (List.mem_of_mem_drop hy)
theorem gQ.sub{l l':List It}(h:gQ l)(a:l'.Sublist l):gQ l':=
 ⟨h.ris.sublist a,Nat.le_trans a.length_le h.len,fun x b=>h.path x (a.subset b),fun x b y c=>h.apart x (a.subset b) y (a.subset c)⟩
theorem Bv{l:List It}(h:gQ l)(p:List UInt8):gQ (fZ l p).2∧∀y∈(fZ l p).2,y∈l:=by
 have a:(fZ l p).2.Sublist l:=by
  unfold fZ;split
  ·exact List.Sublist.refl _
  ·conv=>rhs;rw[←List.take_append_drop (bh (dF p) l).toNat l]
   refine List.Sublist.append (List.Sublist.refl _) ?_;exact List.drop_sublist_drop_left l (Nat.le_succ _)
 exact⟨h.sub a,fun y b=>a.subset b⟩
theorem GU{M N:List Ob}{fs:List Fi}(n:ae N)(h1:fs.Pairwise mK)(h2:∀f∈fs,(cj f.path).2=0)(m:fs.length≤60):gQ (fs.map (ca N))∧∀x∈fs.map (ca N),x.bytes.length≤400:=by
 have c:∀f:Fi,(ca N f).path=f.path:=fun f=>by unfold ca;split<;>rfl
 refine⟨⟨?_,by rw[List.length_map];exact m,fun x a=>?_,fun x a y p=>?_⟩,fun x a=>?_⟩
 ·exact List.pairwise_map.2 (h1.imp fun h=>by simp only[c];exact h.1)
 ·obtain⟨f,b,rfl⟩:=List.mem_map.1 a;rw[c];exact h2 f b
 ·obtain⟨f,b,rfl⟩:=List.mem_map.1 a;obtain⟨g,o,rfl⟩:=List.mem_map.1 p;rw[c,c,sY];obtain⟨i,k,rfl⟩:=List.mem_iff_getElem.1 b;obtain⟨j,l,rfl⟩:=List.mem_iff_getElem.1 o;cases e:under fs[i].path fs[j].path with
  |none=>rfl
  |some r=>
   exfalso;rcases Nat.lt_trichotomy i j with hlt|rfl|hlt
   ·have d:=(List.pairwise_iff_getElem.1 h1 i j k l hlt).1;rw[nk (vy e)]at d;cases d
   ·have:=vy e;rw[oz]at this;cases this
   ·rw[(List.pairwise_iff_getElem.1 h1 j i l k hlt).2]at e;cases e
 ·obtain⟨f,b,rfl⟩:=List.mem_map.1 a;unfold ca;split
  ·exact Nat.zero_le _
  ·exact kT.mS n _
theorem sX{ne:Bool}{M N:List Ob}{fs:List Fi}{t:Int}(a:ae M)(g:ae N)(c:fk ne M t fs)(h:∀f∈fs,(aD f.path).length≤8)(hl:fs.length≤60):gQ (fs.map (ca N))∧∀x∈fs.map (ca N),x.bytes.length≤400:=by
 obtain⟨i,j⟩:=gg a c.1;obtain⟨d,e⟩:=c.2.tB a i j;exact GU (M:=M) g d (fun f b=>wH (e f b).1 (h f b)) hl
theorem DX{L:List Ob}(e:ae L){l:List It}{h:Int}(f:iD L h)(text:List UInt8)(others:List Int):iD (aH L l h text others).2.2 (jh L l h text others):=by
 have g:=(kY (l:=l) (h:=h) (text:=text) (others:=others) e).2;unfold jh;split
 ·rename_i a;right;unfold aH at a⊢;split at a
  ·rename_i c;exact absurd a c
  rename_i c;rw[if_neg c];split at a
  ·cases a
  rename_i d;rw[if_neg d];split at a
  ·rename_i b;exact absurd a b
  rename_i b;rw[if_neg b];have:=(gG (Decidable.not_not.1 b)).2;rw[←cH,this];rfl
 ·exact f.ext g
end Go.Nest
end
section
namespace Go.Nest
open Go Go.AM
def ey(L M:List Ob):Prop:=∀id,kindOf M id=3→kindOf L id=3
theorem ey.refl(L:List Ob):ey L L:=fun _ h=>h
theorem ey.trans{L M N:List Ob}(h1:ey L M)(h2:ey M N):ey L N:=fun id h=>h1 id (h2 id h)
theorem sG{L:List Ob}{o:Ob}(ho:o.kind≠3):ey L (ao L o).2.2:=fun id h=>by
 rcases we (L:=L) (o:=o) (id:=id) (by omega)with h1|h1
 ·rw[←dy (dS o) h1];exact h
 ·rw[←cH,h1]at h;exact absurd h ho
theorem rA:∀(n:Nat) (L:List Ob) (a:List aF) (l:List Fi),ey L (aN n L a l).2.2
 |0,L,_,_=>.refl L
 |n+1,L,a,[]=>sG (fun h=>by cases h)
 |n+1,L,a,f::r=>by
  unfold aN;split
  ·exact rA n L _ r
  have b:=rA n L [] (bm (du f.path).1 (f::r)).1;split
  ·exact b
  ·exact b.trans (rA n _ _ _)
theorem pc{L:List Ob}{l:List Fi}:ey L (bC L l).2.2:=by
 unfold bC;split
 ·exact .refl L
 ·exact rA _ _ _ _
theorem rh:∀{l:List It} {L:List Ob} {out:List Fi},ey L (bf L l out).2.2
 |[],L,out=>.refl L
 |x::r,L,out=>by
  unfold bf;split
  ·exact rh
  split
  ·exact sG (fun h=>by cases h)
  ·exact(sG (fun h=>by cases h)).trans rh
theorem jY{L:List Ob}{l:List It}:ey L (aE L l).2.2:=by
 unfold aE;split
 ·exact rh
 ·exact rh.trans pc
def NB(l:List It):Prop:=∀x∈l,x.link=true→x.bytes=[]
theorem uC:∀{l:List It} {L:List Ob} {out:List Fi},ae L→(bf L l out).2.1=0→∃a,(bf L l out).1=out++a∧
  (∀M,ae M→(bf L l out).2.2<+:M→(∀o2,bf M l o2=(o2++a,0,M))∧(NB l→(a.map (ca M)).map dZ=l.map dZ))
 |[],L,out,i,h=>⟨[],by simp[bf],fun M c d=>⟨fun o2=>by simp[bf],fun _=>rfl⟩⟩
 |x::r,L,out,i,h=>by
  unfold bf at h⊢;split
  ·rename_i f;rw[if_pos f]at h;obtain⟨a,j,k⟩:=uC i h;refine⟨jj x::a,by rw[j];simp,fun M c d=>?_⟩;obtain⟨m,n⟩:=k M c d;refine⟨fun o2=>?_,fun g=>?_⟩
   ·rw[m];simp
   ·rw[List.map_cons,List.map_cons,List.map_cons,n fun y p=>g y (by simp[p])];have:=g x (by simp) f;show dZ (ca M (jj x))::_=_;unfold ca jj dZ;rw[if_pos rfl,this]
  ·rename_i f;rw[if_neg f]at h;split
   ·rename_i b;rw[if_pos b]at h;exact absurd h b
   ·rename_i b;rw[if_neg b]at h;have b:=Decidable.not_not.1 b;obtain⟨a,j,k⟩:=uC (fK i (dq x.bytes)) h;refine⟨⟨x.path,1,(ao L (dq x.bytes)).1,0⟩::a,by rw[j];simp,fun M c d=>?_⟩;obtain⟨m,n⟩:=k M c d;have o:=(lZ (l:=r) (out:=out++[⟨x.path,1,(ao L (dq x.bytes)).1,0⟩]) (fK i (dq x.bytes))).2.trans d;obtain⟨q,s⟩:=Bl (fun h=>by cases h) b c o;refine⟨fun o2=>?_,fun g=>?_⟩
    ·rw[q,if_neg (by simp),m];simp
    ·rw[List.map_cons,List.map_cons,List.map_cons,n fun y p=>g y (by simp[p])]
     have e:dZ (ca M ⟨x.path,1,(ao L (dq x.bytes)).1,0⟩)=dZ x:=by
      unfold ca;dsimp only;rw[if_neg (by decide),s];rfl
     rw[e]
theorem cS.tJ{ne:Bool}{L:List Ob}(o:ae L){es:List aF}{l:List Fi}(h:cS ne L es l):(∀e∈es,iC L e)→∀f∈l,f.mode≠3→f.mode=1∧kindOf L f.id=1∧f.ar=0:=by
 induction h with
 |nil=>intro _ f hf;cases hf
 | @file e es l n h ih=>
  intro b f hf a;rcases List.mem_cons.1 hf with rfl|hf
  ·have q:=b e (by simp);have r:=q.m1;have s:=q.m3;have t:=q.kind;have u:=q.link;dsimp only at a⊢;exact⟨by omega,by omega,by omega⟩
  ·exact ih (fun x c=>b x (by simp[c])) f hf a
 | @dir e es m l n k a p h d ih=>
  intro b f hf i;rcases List.mem_append.1 hf with hf|hf
  ·obtain⟨g,j,rfl⟩:=List.mem_map.1 hf;exact d (gg o k).2 g j i
  ·exact ih (fun x c=>b x (by simp[c])) f hf i
theorem Kept.tJ{L:List Ob}{t:Int}{fs:List Fi}(h:Kept L t fs)(a:ae L):∀f∈fs,f.mode≠3→f.mode=1∧kindOf L f.id=1∧f.ar=0:=
 h.tree.2.tJ a (gg a h.tree.1).2
theorem Ac{L:List Ob}(b:ae L):∀{fs:List Fi},(∀f∈fs,f.mode≠3→f.mode=1∧kindOf L f.id=1∧f.ar=0)→∀out,bf L (fs.map (ca L)) out=(out++fs,0,L)
 |[],_,out=>by simp[bf]
 |f::r,h,out=>by
  have ih:=Ac b (fs:=r) (fun g c=>h g (by simp[c]));rw[List.map_cons];by_cases a:f.mode=3
  ·unfold bf;have e:ca L f=⟨f.path,[],true,f.id,f.ar⟩:=if_pos a;rw[e,if_pos rfl,ih]
   have:jj ⟨f.path,[],true,f.id,f.ar⟩=f:=by
    unfold jj;dsimp only;rw[←a]
   rw[this];simp
  ·unfold bf;have e:ca L f=⟨f.path,(ab L f.id).bytes,false,0,0⟩:=if_neg a;obtain⟨d,i,j⟩:=h f (by simp) a;rw[e,if_neg (by simp)];dsimp only;rw[←Dq b i,Bg b (by omega),if_neg (by simp),ih];have:(⟨f.path,1,f.id,0⟩:Fi)=f:=by rw[←d,←j]
   rw[this];simp
theorem GR(L:List Ob)(fs:List Fi):NB (fs.map (ca L)):=fun x b a=>by
 obtain⟨f,c,rfl⟩:=List.mem_map.1 b;unfold ca at a⊢;split
 ·rfl
 ·rename_i h;rw[if_neg h]at a;cases a
theorem Kept.sX{L:List Ob}{t:Int}{fs:List Fi}(h:Kept L t fs)(a:ae L):aE L (fs.map (ca L))=(t,0,L):=by
 unfold aE;rw[Ac a (h.tJ a),if_neg (by simp)];exact h.build a
def dT(L:List Ob):Prop:=∀id,kindOf L id=3→∃a,Kept L (ab L id).tree a
theorem dT.mono{L M:List Ob}(h:dT L)(a:L<+:M)(hn:ey L M):dT M:=fun id e=>by
 have c:=hn id e;obtain⟨b,d⟩:=h id c;refine⟨b,?_⟩;rw[ext_get a (by omega)];exact d.mono a
theorem Cf{L:List Ob}(n:ae L){l:List It}(h:(aE L l).2.1=0):∃fs,Kept (aE L l).2.2 (aE L l).1 fs∧(bf L l []).1=fs∧(bf L l []).2.1=0∧
  (∀M,ae M→(bf L l []).2.2<+:M→bf M l []=(fs,0,M)∧(NB l→(fs.map (ca M)).map dZ=l.map dZ))∧(∀M,ae M→(aE L l).2.2<+:M→aE M l=((aE L l).1,0,M)):=by
 unfold aE at h⊢;split at h
 ·exact absurd h ‹_›
 rename_i a;rw[if_neg a];have a:=Decidable.not_not.1 a;obtain⟨k,g,i⟩:=uC n a;obtain⟨f,o⟩:=lZ (l:=l) (out:=[]) n;rw[List.nil_append]at g;rw[g]at h⊢;have m:=Kept.of f h;have e:=(ib f k).2;refine⟨k,m,rfl,a,fun M b c=>?_,fun M b c=>?_⟩
 ·obtain⟨d,j⟩:=i M b c;exact⟨by rw[d];rfl,j⟩
 ·obtain⟨d,j⟩:=i M b (e.trans c);rw[d,if_neg (by simp)];exact(m.mono c).build b
end Go.Nest
end
section
namespace Go.Nest
open Go Go.AM
structure K8(L:List Ob)(l:List It):Prop where
 nb:NB l
 ej:dT L
theorem dT.nil:dT []:=fun id h=>by
 have:=bJ (l:=[]) (id:=id) (by omega);exact absurd this.2 (Nat.not_lt_zero _)
theorem tW{M:List Ob}{t:Int}{fs:List Fi}{up:List Int}{text:List UInt8}(hc:dT M)(hk:Kept M t fs):dT (ao M (bE t up text)).2.2:=fun id b=>by
 have a:=dS (L:=M) (bE t up text);rcases we (L:=M) (o:=bE t up text) (id:=id) (by omega)with h|h
 ·rw[dy a h]at b;obtain⟨c,d⟩:=hc id b;exact⟨c,by rw[ext_get a h];exact d.mono a⟩
 ·rw[h];exact⟨fs,hk.mono a⟩
theorem yl{L:List Ob}(c:ae L)(hc:dT L){l:List It}{h:Int}{text:List UInt8}{others:List Int}:dT (aH L l h text others).2.2:=by
 have a:=hc.mono (eV (l:=l) c).2 jY;unfold aH;split
 ·exact a
 rename_i d;obtain⟨e,b,-⟩:=Cf c (Decidable.not_not.1 d);split
 ·exact a
 split
 ·exact tW a b
 ·exact tW a b
end Go.Nest
end
section
namespace Go.Nest
open Go Go.AM Go.Proofs
open Go.Proofs.YtpechfcbnoggfaaGreatDoor (tab tabOk)
set_option maxRecDepth 4000
theorem Jw(a:List Dc):ai Tryz.prog 24 [.c (.bs 2 Dc eY a),.c (.bs 2 Dc eY a)] [] (Rt (.c (.bool true)) []):=by
 refine an (n:=42) (n0:=0) tabOk Tryz.call24 Tryz.func24 ?_;intro hb;have hb:a.length≤9223372036854775807:=hb.1.1;(conv=>whnf);refine ay (fun h=>absurd rfl h) (fun _=>?_);(conv=>whnf);refine lp Nat (fun i=>⟨[(0,.c (.bs 2 Dc eY a)),(1,.c (.bs 2 Dc eY a)),(5,.c (.int .i64 i))],[]⟩) (fun i=>i≤a.length∧True) (fun i=>a.length-i) 0 [] [] ?_ ?_ (fun i g=>?_)
 ·simp
 ·repeat' first|exact trivial|exact rfl|refine And.intro ?_ ?_
 (conv=>whnf);refine dec (fun f=>?_) (fun f=>?_)
 ·have d:i<a.length:=by omega
  have b:a[i]? =some a[i]:=List.getElem?_eq_getElem d;have e:=Jv a[i].bytes a[i].bytes;rw[show decide (a[i].bytes=a[i].bytes)=true from decide_eq_true rfl]at e;(conv=>whnf);refine⟨false,.grow,(.l [0,1,2,3,4,5,6,7,8,9,10,11,12,13,14,15,16,17,18,19,20,21,22,23,24]),by kernel_rfl,.inl ?_⟩;(conv=>whnf);refine⟨i,a[i],rfl,b,?_⟩;(conv=>whnf);refine⟨i,a[i],rfl,b,?_⟩;(conv=>whnf);refine ay (fun h=>absurd rfl h) (fun _=>?_);(conv=>whnf);refine⟨i,a[i],rfl,b,?_⟩;(conv=>whnf);refine⟨i,a[i],rfl,b,?_⟩;(conv=>whnf);refine cl [] [] (e) ?_;repeat'((conv=>whnf);refine I6 ?_)
  refine ag (i+1) [] [] ⟨d,trivial⟩ (by simp only[];omega) ?_;repeat' first|exact trivial|exact rfl|refine And.intro ?_ ?_
 ·repeat'((conv=>whnf);first|refine aG ?_|fail)
  rfl
end Go.Nest
end
