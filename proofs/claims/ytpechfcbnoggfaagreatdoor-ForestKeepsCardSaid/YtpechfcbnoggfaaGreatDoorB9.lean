/- part -/
import Derived.Test.YtpechfcbnoggfaaGreatDoorB4
import Derived.Test.YtpechfcbnoggfaaGreatDoorLines2
import Derived.Test.YtpechfcbnoggfaaGreatDoorZ3
import Derived.Test.YtpechfcbnoggfaaGreatDoorLinesMerge
import Derived.Test.YtpechfcbnoggfaaGreatDoorQ3
set_option linter.unusedVariables false
set_option linter.unusedSimpArgs false
section
namespace Go.Nest
open Go Go.AM Go.Proofs
open Go.NB.L (linesOf merge go mix cut heldFrom pairs Ls)
open Go.Proofs.YtpechfcbnoggfaaGreatDoor (tab tabOk)
set_option maxRecDepth 4000
theorem ri:∀b:List UInt8,(linesOf b).flatten=b
 |[]=>rfl
 |x::r=>by
  have ih:=ri r;unfold linesOf;split
  ·rw[List.flatten_cons,ih,‹x=10›];rfl
  ·split
   ·rename_i h;rw[h]at ih;rw[←ih];rfl
   ·rename_i h;rw[h]at ih;rw[←ih];simp
theorem qJ:∀{ls:List (List UInt8)} {x:List UInt8},x∈ls→x.length≤ls.flatten.length
 |y::r,x,h=>by
  rw[List.flatten_cons,List.length_append];rcases List.mem_cons.1 h with rfl|h
  ·omega
  ·have:=qJ h;omega
theorem yk{B:Nat}:∀{ls:List (List UInt8)},(∀x∈ls,x.length≤B)→ls.flatten.length≤ls.length*B
 |[],_=>by simp
 |y::r,h=>by
  rw[List.flatten_cons,List.length_append,List.length_cons,Nat.succ_mul];have b:=h y (by simp);have c:=yk (ls:=r) fun x a=>h x (by simp[a]);omega
theorem qy{l:Ls}{i n:Nat}{x:List UInt8}(h:x∈cut l i n):x∈l:=List.mem_of_mem_take (List.mem_of_mem_drop h)
theorem uS{old one b a:Ls}(h:mix old one b=some a):a=one∨a=b:=by
 unfold mix at h;split at h
 ·exact .inr (Option.some.inj h).symm
 ·split at h
  ·exact .inl (Option.some.inj h).symm
  ·cases h
theorem yI{base a b:Ls}{N:Nat}(g:a.length≤N)(hb:b.length≤N):∀(c:List (Nat×Nat×Nat)) (i j k:Nat) (l:Ls),go base a b c i j k=some l→l.length≤(c.length+1)*(N+1)∧∀x∈l,x∈base∨x∈a∨x∈b
 |[],i,j,k,l,h=>by
  rcases uS h with rfl|rfl
  ·exact⟨by have:=lg a j a.length;simp only[List.length_nil];omega,fun x hx=>.inr (.inl (qy hx))⟩
  ·exact⟨by have:=lg b k b.length;simp only[List.length_nil];omega,fun x hx=>.inr (.inr (qy hx))⟩
 |(n,p,q)::c,i,j,k,l,h=>by
  unfold go at h;split at h
  ·cases h
  ·rename_i d e;obtain⟨r,o,rfl⟩:=Option.map_eq_some_iff.1 h;obtain⟨t,f⟩:=yI g hb c _ _ _ r o
   have s:d.length≤N:=by
    rcases uS e with rfl|rfl
    ·have:=lg a j p;omega
    ·have:=lg b k q;omega
   have m:(base[n]?.toList).length≤1:=by cases base[n]? <;>simp
   refine⟨?_,fun x hx=>?_⟩
   ·rw[List.length_append,List.length_append,List.length_cons,Nat.succ_mul];omega
   ·rcases List.mem_append.1 hx with hx|hx
    ·rcases List.mem_append.1 hx with hx|hx
     ·rcases uS e with rfl|rfl
      ·exact .inr (.inl (qy hx))
      ·exact .inr (.inr (qy hx))
     ·refine .inl ?_;rw[Option.mem_toList]at hx;exact List.mem_of_getElem? hx
    ·exact f x hx
theorem EV(x y:List (Nat×Nat))(len:Nat):(heldFrom x y len 0).length≤len:=by
 unfold heldFrom;refine Nat.le_trans (List.length_filterMap_le _ _) ?_;rw[List.length_range'];omega
theorem Gs{x y z:List UInt8}(i:x.length≤400)(hy:y.length≤400)(hz:z.length≤400){l:Ls}(h:merge (linesOf x) (linesOf y) (linesOf z)=some l):l.length≤160801∧l.flatten.length≤64320400:=by
 have j:=Go.NB.L.mr x;have k:=Go.NB.L.mr y;have m:=Go.NB.L.mr z;obtain⟨a,b⟩:=yI (N:=400) (by omega) (by omega) _ _ _ _ _ h;have e:=EV (pairs (linesOf x) (linesOf y) 0 0) (pairs (linesOf x) (linesOf z) 0 0) (linesOf x).length;have f:l.length≤401*401:=Nat.le_trans a (Nat.mul_le_mul (by omega) (Nat.le_refl _))
 have c:∀u∈l,u.length≤400:=fun u d=>by
  rcases b u d with h|h|h
  ·have:=qJ h;rw[ri]at this;omega
  ·have:=qJ h;rw[ri]at this;omega
  ·have:=qJ h;rw[ri]at this;omega
 have g:=yk c;omega
theorem uI(b:List UInt8)(hn:b.length≤1000000):ae Tryz.prog 345 [.c (.ls 1 UInt8 bt b)] [] (Rt (.c (bS (linesOf b))) []):=
 ae.lines fun hb a=>Go.Proofs.YtpechfcbnoggfaaGreatDoor.lines hb a hn
theorem Gr(x y z:Ls)(a:x.length≤1000)(hy:y.length≤1000)(hz:z.length≤1000):ae Tryz.prog 344 [.c (bS x),.c (bS y),.c (bS z)] [] (fun o ah=>ah=[]∧((∃l,merge x y z=some l∧o= .ret (.aC [(false,[bS l]),(false,[.bool true])]))∨(merge x y z=none∧o= .ret (.aC [(false,[bS []]),(false,[.bool false])])))):=
 Gu x y z a hy hz
end Go.Nest
end
section
namespace Go.Nest
open Go Go.AM Go.Proofs
open Go.NB.L (linesOf merge)
open Go.Proofs.YtpechfcbnoggfaaGreatDoor (tab tabOk)
set_option maxRecDepth 4000
def mH(L:List Ob)(base x y:Fi):Option (List UInt8):=
 if x.mode≠1∨y.mode≠1∨base.mode=3 then none
 else(merge (linesOf (jb L base)) (linesOf (jb L x)) (linesOf (jb L y))).bind fun l=>if 400<l.flatten.length then none else some l.flatten
def j8(b:List UInt8):Ob:=⟨1,b,[],0,[],[]⟩
def iJ(L:List Ob)(base x y:Fi)(p:List UInt8):Fi×Bool:=match mH L base x y with
 |none=>(dJ,false)
 |some b=>(⟨p,1,(ax L (j8 b)).1,0⟩,true)
def iK(L:List Ob)(base x y:Fi):List Ob:=match mH L base x y with
 |none=>L
 |some b=>(ax L (j8 b)).2.2
def mD(L:List Ob)(code:Int)(base x y:Fi):Int:=match mH L base x y with
 |none=>code
 |some b=>if(ax L (j8 b)).2.1≠0∧code=0 then(ax L (j8 b)).2.1 else code
theorem s7{L:List Ob}(a:ai L)(f:Fi):(jb L f).length≤400:=by
 unfold jb;split
 ·simp
 ·by_cases h:kindOf L f.id=0
  ·rw[a.lD h];show 0≤400;omega
  ·have:=(a.get h).bytes;omega
theorem pg{L:List Ob}{base x y:Fi}{p:List UInt8}{code:Int}(e:mH L base x y=none):iJ L base x y p=(dJ,false)∧iK L base x y=L∧mD L code base x y=code:=by
 unfold iJ iK mD;rw[e];exact⟨rfl,rfl,rfl⟩
theorem Gz{L:List Ob}{base x y:Fi}{p b:List UInt8}{code:Int}(e:mH L base x y=some b):iJ L base x y p=(⟨p,1,(ax L (j8 b)).1,0⟩,true)∧iK L base x y=(ax L (j8 b)).2.2∧mD L code base x y=if(ax L (j8 b)).2.1≠0∧code=0 then(ax L (j8 b)).2.1 else code:=by
 unfold iJ iK mD;rw[e];exact⟨rfl,rfl,rfl⟩
theorem GA(L:List Ob)(g:ai L)(hn:L.length≤600)(out:List Fi)(cf:List (List UInt8))(code:Int)(base x y:Fi)(p:List UInt8)(Z:p.length≤4000000):
  ae Tryz.prog 327 [.c (.ptr 0 0),.c (.str p),.st (ao base),.st (ao x),.st (ao y)] [.box [.ptr 1 0,.rw 3,.rw 4,.int .i64 code],.box [.rw 2],.row 6 Ob an L,.row 4 Fi ao out,.row 1 (List UInt8) encS cf] (Rt (.aC [(true,ao (iJ L base x y p).1),(false,[.bool (iJ L base x y p).2])]) [.box [.ptr 1 0,.rw 6,.rw 7,.int .i64 (mD L code base x y)],.box [.rw 5],.dead,.dead,.dead,.row 6 Ob an (iK L base x y),.row 4 Fi ao out,.row 1 (List UInt8) encS cf]):=by
 refine ak (n:=83) (n0:=5) tabOk Tryz.call327 Tryz.func327 ?_;intro hb;(conv=>whnf);refine aw (fun v=>?_) (fun v=>?_)
 ·(conv=>whnf);obtain⟨a,b,d⟩:=pg (L:=L) (base:=base) (x:=x) (y:=y) (p:=p) (code:=code) (if_pos (.inl v));rw[a,b,d];(conv=>whnf);exact rx [] [.same 0,.same 1,.same 2,.same 3,.same 4,.same 2,.same 3,.same 4]
 (conv=>whnf);refine aw (fun w=>?_) (fun w=>?_)
 ·(conv=>whnf);obtain⟨a,b,d⟩:=pg (L:=L) (base:=base) (x:=x) (y:=y) (p:=p) (code:=code) (if_pos (.inr (.inl w)));rw[a,b,d];(conv=>whnf);exact rx [] [.same 0,.same 1,.same 2,.same 3,.same 4,.same 2,.same 3,.same 4]
 (conv=>whnf);refine dec (fun z=>?_) (fun z=>?_)
 ·(conv=>whnf);obtain⟨a,b,d⟩:=pg (L:=L) (base:=base) (x:=x) (y:=y) (p:=p) (code:=code) (if_pos (.inr (.inr z)));rw[a,b,d];(conv=>whnf);exact rx [] [.same 0,.same 1,.same 2,.same 3,.same 4,.same 2,.same 3,.same 4]
 have e:mH L base x y=_:=if_neg (fun h=>h.elim (fun h=>h v) (fun h=>h.elim (fun h=>h w) z));have K:=s7 g base;have M:=s7 g x;have N:=s7 g y;have P:=s8 L g out cf code base;have Q:=s8 L g out cf code x;have S:=s8 L g out cf code y;generalize jb L base=i at*;generalize jb L x=j at*;generalize jb L y=k at*;have T:=uI i (by omega);have U:=uI j (by omega);have W:=uI k (by omega);have lx:=Go.NB.L.mr i;have ly:=Go.NB.L.mr j;have lz:=Go.NB.L.mr k;have O:=fun l=>Gs (l:=l) K M N;have J:=Gr (linesOf i) (linesOf j) (linesOf k) (by omega) (by omega) (by omega);(conv=>whnf);refine⟨false,.grow,(.l [0,1,4,5,8,9,2,3,6,7,10,11,12,13,14,15,16,17]),by kernel_rfl,.inl ?_⟩;(conv=>whnf);refine cl [] [] (P) ?_;(conv=>whnf);refine cl [] [] (T) ?_;(conv=>whnf);refine cl [] [] (Q) ?_;(conv=>whnf);refine cl [] [] (U) ?_;(conv=>whnf);refine cl [] [] (S) ?_;(conv=>whnf);refine cl [] [] (W) ?_;(conv=>whnf);cases s:merge (linesOf i) (linesOf j) (linesOf k)with
 |none=>
  have F:ae Tryz.prog 344 [.c (bS (linesOf i)),.c (bS (linesOf j)),.c (bS (linesOf k))] [] (Rt (.aC [(false,[bS []]),(false,[.bool false])]) []):=J.mono fun o ah ⟨u,m⟩=>by
   rw[s]at m;rcases m with⟨l,f,q⟩|⟨f,q⟩
   ·cases f
   ·exact⟨q,u⟩
  rw[s]at e;have H:=xd [] (by simp) (by simp);refine cl [] [] (F) ?_;(conv=>whnf);refine cl [] [] (H) ?_;(conv=>whnf);obtain⟨a,b,d⟩:=pg (L:=L) (base:=base) (x:=x) (y:=y) (p:=p) (code:=code) (e);rw[a,b,d];(conv=>whnf);exact rx [] [.same 0,.same 1,.same 2,.same 3,.same 4,.same 2,.same 3,.same 4]
 |some l=>
  have F:ae Tryz.prog 344 [.c (bS (linesOf i)),.c (bS (linesOf j)),.c (bS (linesOf k))] [] (Rt (.aC [(false,[bS l]),(false,[.bool true])]) []):=J.mono fun o ah ⟨u,m⟩=>by
   rw[s]at m;rcases m with⟨l',f,q⟩|⟨f,q⟩
   ·cases f;exact⟨q,u⟩
   ·cases f
  obtain⟨n1,n2⟩:=O l s;rw[s]at e;have H:=xd l (by omega) (by omega);have e:mH L base x y=if 400<l.flatten.length then none else some l.flatten:=e
  generalize l.flatten=t at*;refine cl [] [] (F) ?_;(conv=>whnf);refine cl [] [] (H) ?_;(conv=>whnf);refine dec (fun r=>?_) (fun r=>?_)
  ·have r:(400:Int)<t.length:=r;(conv=>whnf);obtain⟨a,b,d⟩:=pg (L:=L) (base:=base) (x:=x) (y:=y) (p:=p) (code:=code) (e.trans (if_pos (by omega)));rw[a,b,d];(conv=>whnf);exact rx [] [.same 0,.same 1,.same 2,.same 3,.same 4,.same 2,.same 3,.same 4]
  have r:¬(400:Int)<t.length:=r;obtain⟨a,b,d⟩:=Gz (L:=L) (base:=base) (x:=x) (y:=y) (p:=p) (code:=code) (e.trans (if_neg (by omega)));rw[a,b,d];have I:=pC L (j8 t) hn;generalize ax L (j8 t)=R at*;obtain⟨id,c,Y⟩:=R;dsimp only at I⊢;(conv=>whnf);refine cl [] [1,2] (I) ?_;(conv=>whnf);refine aw (fun D=>?_) (fun D=>?_)
  ·(conv=>whnf);refine dec (fun E=>?_) (fun E=>?_)
   ·rw[if_pos ⟨D,E⟩];(conv=>whnf);exact rx [] [.same 0,.same 1,.same 2,.same 3,.same 4,.same 9,.same 3,.same 4]
   ·rw[if_neg (fun h=>E h.2)];(conv=>whnf);exact rx [] [.same 0,.same 1,.same 2,.same 3,.same 4,.same 9,.same 3,.same 4]
  ·rw[if_neg (fun h=>h.1 D)];(conv=>whnf);exact rx [] [.same 0,.same 1,.same 2,.same 3,.same 4,.same 9,.same 3,.same 4]
end Go.Nest
end
section
namespace Go.Nest
open Go Go.AM Go.Proofs
open Go.Proofs.YtpechfcbnoggfaaGreatDoor (tab tabOk)
set_option maxRecDepth 4000
def nW(L:List Ob)(base x y:Fi)(p:List UInt8):Fi:=if x=y∨y=base then x else if x=base then y else if(iJ L base x y p).2=true then(iJ L base x y p).1 else if x.mode=0 then y else x
def kc(L:List Ob)(base x y:Fi):List Ob:=if x=y∨y=base then L else if x=base then L else iK L base x y
def vg(L:List Ob)(code:Int)(base x y:Fi):Int:=if x=y∨y=base then code else if x=base then code else mD L code base x y
def pB(L:List Ob)(cf:List (List UInt8))(base x y:Fi)(p:List UInt8):List (List UInt8):=if x=y∨y=base then cf else if x=base then cf else if(iJ L base x y p).2=true then cf else cf++[p]
def iu(out:List Fi)(f:Fi):List Fi:=if 0<f.mode then out++[f]else out
theorem Hk(L:List Ob)(q:ai L)(hn:L.length≤600)(out:List Fi)(ho:out.length≤1000)(cf:List (List UInt8))(hc:cf.length≤1000)(code:Int)(base x y:Fi)(p:List UInt8)(r:p.length≤4000000):
  ae Tryz.prog 278 [.c (.ptr 0 0),.c (.str p),.st (ao base),.st (ao x),.st (ao y)] [.box [.ptr 1 0,.rw 3,.rw 4,.int .i64 code],.box [.rw 2],.row 6 Ob an L,.row 4 Fi ao out,.row 1 (List UInt8) encS cf] (Rt (.aC []) [.box [.ptr 1 0,.rw 6,.rw 7,.int .i64 (vg L code base x y)],.box [.rw 5],.dead,.dead,.dead,.row 6 Ob an (kc L base x y),.row 4 Fi ao (iu out (nW L base x y p)),.row 1 (List UInt8) encS (pB L cf base x y p)]):=by
 have o:=GA L q hn out cf code base x y p r;unfold nW kc pB vg;refine ak (n:=66) (n0:=5) tabOk Tryz.call278 Tryz.func278 ?_;intro hb;(conv=>whnf);refine dec (fun g=>?_) (fun g=>?_)
 ·have b:x=y∨y=base:= .inl (jR.1 g);rw[if_pos b,if_pos b,if_pos b,if_pos b];(conv=>whnf);unfold iu;refine dec (fun a=>?_) (fun a=>?_)
  ·rw[if_pos a];(conv=>whnf);refine⟨false,.grow,(.l [0,1,2,3,4,5,6,7,8,9,10]),by kernel_rfl,.inl ?_⟩;(conv=>whnf);refine⟨[x],rfl,?_⟩;(conv=>whnf);refine⟨_,_,rfl,rfl,(by simp only[List.length_append,List.length_cons,List.length_nil];omega),?_⟩;(conv=>whnf);exact rx [] [.same 0,.same 1,.same 2,.same 3,.same 4,.same 2,.same 10,.same 4]
  ·rw[if_neg a];(conv=>whnf);exact rx [] [.same 0,.same 1,.same 2,.same 3,.same 4,.same 2,.same 3,.same 4]
 (conv=>whnf);refine dec (fun i=>?_) (fun i=>?_)
 ·have b:x=y∨y=base:= .inr (jR.1 i);rw[if_pos b,if_pos b,if_pos b,if_pos b];(conv=>whnf);unfold iu;refine dec (fun a=>?_) (fun a=>?_)
  ·rw[if_pos a];(conv=>whnf);refine⟨false,.grow,(.l [0,1,2,3,4,5,6,7,8,9,10]),by kernel_rfl,.inl ?_⟩;(conv=>whnf);refine⟨[x],rfl,?_⟩;(conv=>whnf);refine⟨_,_,rfl,rfl,(by simp only[List.length_append,List.length_cons,List.length_nil];omega),?_⟩;(conv=>whnf);exact rx [] [.same 0,.same 1,.same 2,.same 3,.same 4,.same 2,.same 10,.same 4]
  ·rw[if_neg a];(conv=>whnf);exact rx [] [.same 0,.same 1,.same 2,.same 3,.same 4,.same 2,.same 3,.same 4]
 have b:¬(x=y∨y=base):=fun h=>h.elim (fun h=>g (jR.2 h)) (fun h=>i (jR.2 h));rw[if_neg b,if_neg b,if_neg b,if_neg b];(conv=>whnf);refine dec (fun j=>?_) (fun j=>?_)
 ·have d:x=base:=jR.1 j;rw[if_pos d,if_pos d,if_pos d,if_pos d];(conv=>whnf);unfold iu;refine dec (fun a=>?_) (fun a=>?_)
  ·rw[if_pos a];(conv=>whnf);refine⟨false,.grow,(.l [0,1,2,3,4,5,6,7,8,9,10]),by kernel_rfl,.inl ?_⟩;(conv=>whnf);refine⟨[y],rfl,?_⟩;(conv=>whnf);refine⟨_,_,rfl,rfl,(by simp only[List.length_append,List.length_cons,List.length_nil];omega),?_⟩;(conv=>whnf);exact rx [] [.same 0,.same 1,.same 2,.same 3,.same 4,.same 2,.same 10,.same 4]
  ·rw[if_neg a];(conv=>whnf);exact rx [] [.same 0,.same 1,.same 2,.same 3,.same 4,.same 2,.same 3,.same 4]
 have d:¬x=base:=fun h=>j (jR.2 h);rw[if_neg d,if_neg d,if_neg d,if_neg d];generalize iJ L base x y p=R at*;generalize iK L base x y=s at*;generalize mD L code base x y=e at*;obtain⟨f,ok⟩:=R;dsimp only at o⊢;(conv=>whnf);refine cl [] [0,1,2,3,4] (o) ?_;(conv=>whnf);refine aL (fun k=>?_) (fun k=>?_)
 ·subst k;rw[if_pos rfl,if_pos rfl];(conv=>whnf);unfold iu;refine dec (fun a=>?_) (fun a=>?_)
  ·rw[if_pos a];(conv=>whnf);refine⟨false,.grow,(.l [0,1,2,3,4,5,6,7,8,9,10]),by kernel_rfl,.inl ?_⟩;(conv=>whnf);refine⟨[f],rfl,?_⟩;(conv=>whnf);refine⟨_,_,rfl,rfl,(by simp only[List.length_append,List.length_cons,List.length_nil];omega),?_⟩;(conv=>whnf);exact rx [] [.same 0,.same 1,.same 2,.same 3,.same 4,.same 9,.same 14,.same 11]
  ·rw[if_neg a];(conv=>whnf);exact rx [] [.same 0,.same 1,.same 2,.same 3,.same 4,.same 9,.same 10,.same 11]
 ·subst k;rw[if_neg Bool.false_ne_true,if_neg Bool.false_ne_true];(conv=>whnf);refine⟨[p],rfl,?_⟩;(conv=>whnf);refine⟨_,_,rfl,rfl,(by simp only[List.length_append,List.length_cons,List.length_nil];omega),?_⟩;(conv=>whnf);refine dec (fun m=>?_) (fun m=>?_)
  ·rw[if_pos m];(conv=>whnf);unfold iu;refine dec (fun a=>?_) (fun a=>?_)
   ·rw[if_pos a];(conv=>whnf);refine⟨false,.grow,(.l [0,1,2,3,4,5,6,7,8,9,10]),by kernel_rfl,.inl ?_⟩;(conv=>whnf);refine⟨[y],rfl,?_⟩;(conv=>whnf);refine⟨_,_,rfl,rfl,(by simp only[List.length_append,List.length_cons,List.length_nil];omega),?_⟩;(conv=>whnf);exact rx [] [.same 0,.same 1,.same 2,.same 3,.same 4,.same 9,.same 16,.same 14]
   ·rw[if_neg a];(conv=>whnf);exact rx [] [.same 0,.same 1,.same 2,.same 3,.same 4,.same 9,.same 10,.same 14]
  ·rw[if_neg m];(conv=>whnf);unfold iu;refine dec (fun a=>?_) (fun a=>?_)
   ·rw[if_pos a];(conv=>whnf);refine⟨false,.grow,(.l [0,1,2,3,4,5,6,7,8,9,10]),by kernel_rfl,.inl ?_⟩;(conv=>whnf);refine⟨[x],rfl,?_⟩;(conv=>whnf);refine⟨_,_,rfl,rfl,(by simp only[List.length_append,List.length_cons,List.length_nil];omega),?_⟩;(conv=>whnf);exact rx [] [.same 0,.same 1,.same 2,.same 3,.same 4,.same 9,.same 16,.same 14]
   ·rw[if_neg a];(conv=>whnf);exact rx [] [.same 0,.same 1,.same 2,.same 3,.same 4,.same 9,.same 10,.same 14]
end Go.Nest
end
section
namespace Go.Nest
open Go Go.AM Go.Proofs
open Go.Proofs.YtpechfcbnoggfaaGreatDoor (tab tabOk)
set_option maxRecDepth 4000
theorem Hu{L:List Ob}{o:Ob}(h:L.length≤600):(ax L o).2.2.length≤600:=by
 unfold ax;split
 ·exact h
 split
 ·exact h
 split
 ·exact h
 split
 ·exact h
 ·simp only[List.length_append,List.length_singleton];omega
theorem Gw{L:List Ob}(a:ai L)(hn:L.length≤600)(base x y:Fi):ai (iK L base x y)∧(iK L base x y).length≤600:=by
 unfold iK;split
 ·exact⟨a,hn⟩
 ·exact⟨jv a _,Hu hn⟩
structure BS where
 L:List Ob
 out:List Fi
 cf:List (List UInt8)
 code:Int
def mQ(base x y:List Fi)(s:BS)(q:List UInt8):BS:=
 let f:=(eN base q).1
 let g:=(eN x q).1
 let h:=(eN y q).1
 ⟨kc s.L f g h,iu s.out (nW s.L f g h q),pB s.L s.cf f g h q,vg s.L s.code f g h⟩
structure oo(s:BS)(n:Nat):Prop where
 L:ai s.L
 sz:s.L.length≤600
 out:s.out.length≤n
 cf:s.cf.length≤n
theorem IZ{base x y:List Fi}{s:BS}{n:Nat}(h:oo s n)(q:List UInt8):oo (mQ base x y s q) (n+1):=by
 have a:∀f g k,ai (kc s.L f g k)∧(kc s.L f g k).length≤600:=fun f g k=>by
  unfold kc;split
  ·exact⟨h.L,h.sz⟩
  split
  ·exact⟨h.L,h.sz⟩
  exact Gw h.L h.sz _ _ _
 have b:∀f,(iu s.out f).length≤n+1:=fun f=>by
  have:=h.out;unfold iu;split
  ·simp only[List.length_append,List.length_singleton];omega
  ·omega
 have c:∀f g k q,(pB s.L s.cf f g k q).length≤n+1:=fun f g k q=>by
  have:=h.cf;unfold pB;split
  ·omega
  split
  ·omega
  split
  ·omega
  ·simp only[List.length_append,List.length_singleton];omega
 exact⟨(a _ _ _).1,(a _ _ _).2,b _,c _ _ _ _⟩
def dL(base x y:List Fi)(s:BS)(a:List (List UInt8)):BS:=a.foldl (mQ base x y) s
theorem vC{base x y:List Fi}:∀(a:List (List UInt8)) {s:BS} {n:Nat},oo s n→oo (dL base x y s a) (n+a.length)
 |[],s,n,h=>h
 |q::a,s,n,h=>by
  have:=vC (base:=base) (x:=x) (y:=y) a (IZ (base:=base) (x:=x) (y:=y) h q);rw[List.length_cons,show n+(a.length+1)=n+1+a.length by omega];exact this
theorem H5{base x y:List Fi}{s:BS}{a:List (List UInt8)}{i:Nat}(h:i<a.length):dL base x y s (a.take (i+1))=mQ base x y (dL base x y s (a.take i)) a[i]:=by
 unfold dL;rw[List.take_succ_eq_append_getElem h,List.foldl_append];rfl
def gw:List (List Fi)→Int
 |[]=>0
 |l::r=>if cI l≠0 then cI l else gw r
def gm(L:List Ob)(base x y:List Fi):BS:=
 if gw [base,x,y]≠0 then⟨L,[],[],gw [base,x,y]⟩
 else
  let s:=dL base x y ⟨L,[],[],0⟩ (ei [base,x,y])
  let c:=if s.code=0 then cI s.out else s.code
  if c≠0 then⟨s.L,[],[],c⟩else⟨s.L,s.out,s.cf,0⟩
end Go.Nest
end
section
namespace Go.Nest
open Go Go.AM Go.Proofs
open Go.Proofs.YtpechfcbnoggfaaGreatDoor (tab tabOk)
set_option maxRecDepth 4000
theorem qC:∀(l:List (List UInt8)) (p:Option (List UInt8)),(dY p l).Sublist l
 |[],p=>.slnil
 |x::l,p=>by
  rw[dY];split
  ·exact(qC l _).cons _
  ·exact(qC l _).cons_cons _
theorem Hn(ls:List (List Fi)):(ei ls).length≤ls.flatten.length:=by
 rw[←vW];refine Nat.le_trans (qC _ _).length_le ?_;unfold iP;rw[List.length_mergeSort,List.length_map];exact Nat.le_refl _
theorem As{ls:List (List Fi)}{q:List UInt8}(h:q∈ei ls):∃l∈ls,∃f∈l,f.path=q:=by
 rw[←vW]at h;have h:=(qC _ _).mem h;unfold iP at h;rw[(List.mergeSort_perm _ _).mem_iff]at h;obtain⟨f,c,rfl⟩:=List.mem_map.1 h;obtain⟨l,a,b⟩:=List.mem_flatten.1 c;exact⟨l,a,f,b,rfl⟩
theorem wX{l:List Fi}{p:List UInt8}(h:∀f∈l,f.path.length≤4000000):(eN l p).1.path.length≤4000000:=by
 rcases Cm l p with⟨e,_⟩|⟨e,_⟩
 ·rw[show(eN l p).1=dJ from e];exact Nat.zero_le _
 ·exact h _ e
theorem Gv{L:List Ob}{b x y:Fi}{q:List UInt8}(hq:q.length≤4000000):(iJ L b x y q).1.path.length≤4000000:=by
 unfold iJ;split
 ·exact Nat.zero_le _
 ·exact hq
theorem Hp{L:List Ob}{b x y:Fi}{q:List UInt8}(a:x.path.length≤4000000)(hy:y.path.length≤4000000)(hq:q.length≤4000000):(nW L b x y q).path.length≤4000000:=by
 unfold nW;repeat' split
 all_goals first|exact a|exact hy|exact Gv hq
theorem vD{base x y:List Fi}(c:∀f∈x,f.path.length≤4000000)(hy:∀f∈y,f.path.length≤4000000):∀(a:List (List UInt8)) (s:BS),(∀q∈a,q.length≤4000000)→(∀f∈s.out,f.path.length≤4000000)→∀f∈(dL base x y s a).out,f.path.length≤4000000
 |[],s,_,h=>h
 | q :: a, s, b, h => vD c hy a (mQ base x y s q) (fun r d => b r (by simp [d])) (fun f hf=>by
  have hf:f∈iu s.out (nW s.L (eN base q).1 (eN x q).1 (eN y q).1 q):=hf;unfold iu at hf;split at hf
  ·rcases List.mem_append.1 hf with hf|hf
   ·exact h f hf
   ·rw[List.mem_singleton]at hf;rw[hf];exact Hp (wX c) (wX hy) (b q (by simp))
  ·exact h f hf)
set_option maxHeartbeats 2000000 in
theorem CA(L:List Ob)(Z:ai L)(hn:L.length≤600)(base x y:List Fi)(o:∀l∈[base,x,y],∀f∈l,f.path.length≤4000000):
  ae Tryz.prog 211 [.c (.ptr 0 0),.c (.ls 4 Fi ao base),.c (.ls 4 Fi ao x),.c (.ls 4 Fi ao y)] [.box [.rw 1],.row 6 Ob an L] (Rt (.aC [(false,[.rw 3]),(false,[.rw 4]),(false,[.int .i64 (gm L base x y).code])]) [.box [.rw 2],.dead,.row 6 Ob an (gm L base x y).L,.row 4 Fi ao (gm L base x y).out,.row 1 (List UInt8) encS (gm L base x y).cf]):=by
 have c1:=nv base (o _ (by simp));have c2:=nv x (o _ (by simp));have c3:=nv y (o _ (by simp));refine ak (n:=106) (n0:=2) tabOk Tryz.call211 Tryz.func211 ?_;intro hb;(conv=>whnf);refine⟨[base,x,y],rfl,?_⟩;(conv=>whnf);refine lp Nat (fun i=>⟨[(0,.c (.ptr 0 0)),(1,.c (.ls 4 Fi ao base)),(2,.c (.ls 4 Fi ao x)),(3,.c (.ls 4 Fi ao y)),(26,.c (.rw 2)),(27,.c (.int .i64 3)),(28,.c (.int .i64 i))],[.box [.rw 1],.row 6 Ob an L,.row 1 (List Fi) (bf 4 ao) [base,x,y]]⟩) (fun i=>i≤3∧gw [base,x,y]=gw ([base,x,y].drop i)) (fun i=>3-i) 0 [] [.same 0,.same 1,.same 2] ⟨Nat.zero_le _,rfl⟩ ?_ (fun i v=>?_)
 ·repeat' first|exact trivial|exact rfl|refine And.intro ?_ ?_
 obtain⟨v,d⟩:=v;(conv=>whnf);refine dec (fun p=>?_) (fun p=>?_)
 ·have a:i<[base,x,y].length:=by show i<3;omega
  have j:[base,x,y][i]? =some [base,x,y][i]:=List.getElem?_eq_getElem a;have O:=List.drop_eq_getElem_cons a;have w:=o [base,x,y][i] (List.getElem_mem a);generalize [base,x,y][i]=l at j O w;rw[O]at d;have d:gw [base,x,y]=if cI l≠0 then cI l else gw ([base,x,y].drop (i+1)):=d
  (conv=>whnf);refine⟨i,⟨rfl,a⟩,?_⟩;(conv=>whnf);refine⟨l,j,?_⟩;(conv=>whnf);refine cl [] [] (nv l w) ?_;(conv=>whnf);refine aw (fun m=>?_) (fun m=>?_)
  ·rw[if_pos m]at d;have e:gm L base x y=⟨L,[],[],cI l⟩:=by unfold gm;rw[d,if_pos m]
   rw[e];(conv=>whnf);exact rx [] [.same 0,.same 1,.same 1,.new,.new]
  ·rw[if_neg (fun h=>h m)]at d;repeat'((conv=>whnf);refine I6 ?_)
   refine ag (i+1) [] [.same 0,.same 1,.same 2] ⟨a,d⟩ (by simp only[];omega) ?_;repeat' first|exact trivial|exact rfl|refine And.intro ?_ ?_
 have Y:i=3:=by omega
 subst Y;have U:gw [base,x,y]=0:=d
 have u:[base,x,y].flatten.length≤1000:=by
  have z:∀l,cI l=0→l.length≤60:=fun l h=>by
   refine Classical.byContradiction fun N=>?_;unfold cI at h;rw[if_pos (by omega)]at h;exact absurd h (by decide)
  have K:cI base=0:=Classical.byContradiction fun h=>by
   have:gw [base,x,y]=cI base:=if_pos h;omega
  have e1:gw [base,x,y]=gw [x,y]:=if_neg (fun h=>h K)
  have M:cI x=0:=Classical.byContradiction fun h=>by
   have:gw [x,y]=cI x:=if_pos h;omega
  have e2:gw [x,y]=gw [y]:=if_neg (fun h=>h M)
  have S:cI y=0:=Classical.byContradiction fun h=>by
   have:gw [y]=cI y:=if_pos h;omega
  have z1:=z _ K;have z2:=z _ M;have z3:=z _ S;simp only[List.flatten_cons,List.flatten_nil,List.length_append,List.length_nil];omega
 have u1:=Jw [base,x,y] u o;(conv=>whnf);refine⟨[base,x,y],rfl,?_⟩;(conv=>whnf);refine cl [] [] (u1) ?_;(conv=>whnf)
 have D:∀q∈ei [base,x,y],q.length≤4000000:=fun q E=>by
  obtain⟨l,W,f,N,rfl⟩:=As E;exact o l W f N
 have ac:(ei [base,x,y]).length≤1000:=Nat.le_trans (Hn _) u;have H:oo ⟨L,[],[],0⟩ 0:=⟨Z,hn,Nat.le_refl _,Nat.le_refl _⟩;have T:gm L base x y=_:=if_neg (fun h=>h U);rw[T];generalize ei [base,x,y]=b at*
 refine lp Nat (fun i => ⟨[(1,.c (.ls 4 Fi ao base)),(2,.c (.ls 4 Fi ao x)),(3,.c (.ls 4 Fi ao y)),(14,.c (.ptr 2 0)),(45,.c (.rw 3)),(46,.c (.int .i64 b.length)),(47,.c (.int .i64 i))],
  [.box [.rw 6],.dead,.box [.ptr 0 0,.rw 4,.rw 5,.int .i64 (dL base x y ⟨L,[],[],0⟩ (b.take i)).code],.row 1 (List UInt8) encS b,.row 4 Fi ao (dL base x y ⟨L,[],[],0⟩ (b.take i)).out,.row 1 (List UInt8) encS (dL base x y ⟨L,[],[],0⟩ (b.take i)).cf,.row 6 Ob an (dL base x y ⟨L,[],[],0⟩ (b.take i)).L]⟩) (fun i=>i≤b.length∧True) (fun i=>b.length-i) 0 [] [.same 0,.same 1,.same 3,.same 5,.new,.new,.same 1] ⟨Nat.zero_le _,trivial⟩ ?_ (fun i v=>?_)
 ·repeat' first|exact trivial|exact rfl|refine And.intro ?_ ?_
 obtain⟨v,-⟩:=v;(conv=>whnf);refine dec (fun p=>?_) (fun p=>?_)
 ·have a:i<b.length:=by have p:(i:Int)<b.length:=p;omega
  have j:b[i]? =some b[i]:=List.getElem?_eq_getElem a;have E:=D _ (List.getElem_mem a);have t:=H5 (base:=base) (x:=x) (y:=y) (s:=⟨L,[],[],0⟩) a;have g:=vC (base:=base) (x:=x) (y:=y) (b.take i) H;rw[List.length_take,Nat.min_eq_left (by omega)]at g;generalize b[i]=q at j E t;generalize dL base x y ⟨L,[],[],0⟩ (b.take i)=s at t g⊢;obtain⟨P,F,Q,R⟩:=s;(conv=>whnf);refine⟨i,⟨rfl,a⟩,?_⟩;(conv=>whnf);refine⟨q,j,?_⟩;(conv=>whnf);refine cl [] [] (find_spec base q) ?_;(conv=>whnf);refine cl [] [] (find_spec x q) ?_;(conv=>whnf);refine cl [] [] (find_spec y q) ?_;(conv=>whnf);have J:=g.out;have I:=g.cf;refine cl [] [2,0,6,4,5] (Hk P g.L g.sz F (by simp only[]at J;omega) Q (by simp only[]at I;omega) R (eN base q).1 (eN x q).1 (eN y q).1 q E) ?_;repeat'((conv=>whnf);refine I6 ?_)
  refine ag (i+1) [] [.same 0,.same 1,.same 2,.same 3,.same 11,.same 12,.same 10] ⟨a,trivial⟩ (by simp only[];omega) ?_;rw[t];unfold mQ;dsimp only;repeat' first|exact trivial|exact rfl|refine And.intro ?_ ?_
 obtain rfl:i=b.length:=by have p:¬(i:Int)<b.length:=p;omega
 rw[List.take_length];have k:=vD (base:=base) (o x (by simp)) (o y (by simp)) b ⟨L,[],[],0⟩ D (fun f hf=>by cases hf);generalize dL base x y ⟨L,[],[],0⟩ b=s at*;obtain⟨P,F,Q,R⟩:=s;have k:∀f∈F,f.path.length≤4000000:=k;dsimp only;(conv=>whnf);refine dec (fun m=>?_) (fun m=>?_)
 ·rw[if_pos m];(conv=>whnf);refine cl [] [] (nv F k) ?_;(conv=>whnf);refine aw (fun r=>?_) (fun r=>?_)
  ·rw[if_pos r];(conv=>whnf);refine⟨false,.grow,(.l [0,1,2,3,4,5,6]),by kernel_rfl,.inl ?_⟩;(conv=>whnf);exact rx [] [.same 0,.same 1,.same 6,.new,.new]
  ·rw[if_neg (fun h=>h r)];(conv=>whnf);refine⟨false,.grow,(.l [0,1,2,3,4,5,6,7,8,9,10]),by kernel_rfl,.inl ?_⟩;(conv=>whnf);exact rx [] [.same 0,.same 1,.same 6,.same 4,.same 5]
 ·rw[if_neg m];(conv=>whnf);refine aw (fun r=>?_) (fun r=>absurd r m);rw[if_pos r];(conv=>whnf);refine⟨false,.grow,(.l [0,1,2,3,4,5,6]),by kernel_rfl,.inl ?_⟩;(conv=>whnf);exact rx [] [.same 0,.same 1,.same 6,.new,.new]
end Go.Nest
end
