/- part -/
import Derived.Test.YtpechfcbnoggfaaGreatDoorB4
import Derived.Test.YtpechfcbnoggfaaGreatDoorLines2
import Derived.Test.YtpechfcbnoggfaaGreatDoorZ3
import Derived.Test.YtpechfcbnoggfaaGreatDoorLinesMerge
import Derived.Test.YtpechfcbnoggfaaGreatDoorU0
set_option linter.unusedVariables false
set_option linter.unusedSimpArgs false
section
namespace Go.Nest
open Go Go.AM Go.Proofs
open Go.NB.L (linesOf merge go mix cut heldFrom pairs Ls)
open Go.Proofs.YtpechfcbnoggfaaGreatDoor (tab tabOk)
set_option maxRecDepth 4000
theorem rY:∀b:List UInt8,(linesOf b).flatten=b
 |[]=>rfl
 |x::r=>by
  have ih:=rY r;unfold linesOf;split
  ·rw[List.flatten_cons,ih,‹x=10›];rfl
  ·split
   ·rename_i h;rw[h]at ih;rw[←ih];rfl
   ·rename_i h;rw[h]at ih;rw[←ih];simp
theorem ri:∀{ls:List (List UInt8)} {x:List UInt8},x∈ls→x.length≤ls.flatten.length
 |y::r,x,h=>by
  rw[List.flatten_cons,List.length_append];rcases List.mem_cons.1 h with rfl|h
  ·omega
  ·have:=ri h;omega
theorem y9{B:Nat}:∀{ls:List (List UInt8)},(∀x∈ls,x.length≤B)→ls.flatten.length≤ls.length*B
 |[],_=>by simp
 |y::r,h=>by
  rw[List.flatten_cons,List.length_append,List.length_cons,Nat.succ_mul];have b:=h y (by simp);have c:=y9 (ls:=r) fun x a=>h x (by simp[a]);omega
theorem q9{l:Ls}{i n:Nat}{x:List UInt8}(h:x∈cut l i n):x∈l:=List.mem_of_mem_take (List.mem_of_mem_drop h)
theorem vI{old one b a:Ls}(h:mix old one b=some a):a=one∨a=b:=by
 unfold mix at h;split at h
 ·exact .inr (Option.some.inj h).symm
 ·split at h
  ·exact .inl (Option.some.inj h).symm
  ·cases h
theorem zz{base a b:Ls}{N:Nat}(g:a.length≤N)(hb:b.length≤N):∀(c:List (Nat×Nat×Nat)) (i j k:Nat) (l:Ls),go base a b c i j k=some l→l.length≤(c.length+1)*(N+1)∧∀x∈l,x∈base∨x∈a∨x∈b
 |[],i,j,k,l,h=>by
  rcases vI h with rfl|rfl
  ·exact⟨by have:=lY a j a.length;simp only[List.length_nil];omega,fun x hx=>.inr (.inl (q9 hx))⟩
  ·exact⟨by have:=lY b k b.length;simp only[List.length_nil];omega,fun x hx=>.inr (.inr (q9 hx))⟩
 |(n,p,q)::c,i,j,k,l,h=>by
  unfold go at h;split at h
  ·cases h
  ·rename_i d e;obtain⟨r,o,rfl⟩:=Option.map_eq_some_iff.1 h;obtain⟨t,f⟩:=zz g hb c _ _ _ r o
   have s:d.length≤N:=by
    rcases vI e with rfl|rfl
    ·have:=lY a j p;omega
    ·have:=lY b k q;omega
   have m:(base[n]?.toList).length≤1:=by cases base[n]? <;>simp
   refine⟨?_,fun x hx=>?_⟩
   ·rw[List.length_append,List.length_append,List.length_cons,Nat.succ_mul];omega
   ·rcases List.mem_append.1 hx with hx|hx
    ·rcases List.mem_append.1 hx with hx|hx
     ·rcases vI e with rfl|rfl
      ·exact .inr (.inl (q9 hx))
      ·exact .inr (.inr (q9 hx))
     ·refine .inl ?_;rw[Option.mem_toList]at hx;exact List.mem_of_getElem? hx
    ·exact f x hx
theorem FV(x y:List (Nat×Nat))(len:Nat):(heldFrom x y len 0).length≤len:=by
 unfold heldFrom;refine Nat.le_trans (List.length_filterMap_le _ _) ?_;rw[List.length_range'];omega
theorem Hw{x y z:List UInt8}(i:x.length≤400)(hy:y.length≤400)(hz:z.length≤400){l:Ls}(h:merge (linesOf x) (linesOf y) (linesOf z)=some l):l.length≤160801∧l.flatten.length≤64320400:=by
 have j:=Go.NB.L.np x;have k:=Go.NB.L.np y;have m:=Go.NB.L.np z;obtain⟨a,b⟩:=zz (N:=400) (by omega) (by omega) _ _ _ _ _ h;have e:=FV (pairs (linesOf x) (linesOf y) 0 0) (pairs (linesOf x) (linesOf z) 0 0) (linesOf x).length;have f:l.length≤401*401:=Nat.le_trans a (Nat.mul_le_mul (by omega) (Nat.le_refl _))
 have c:∀u∈l,u.length≤400:=fun u d=>by
  rcases b u d with h|h|h
  ·have:=ri h;rw[rY]at this;omega
  ·have:=ri h;rw[rY]at this;omega
  ·have:=ri h;rw[rY]at this;omega
 have g:=y9 c;omega
theorem vB(b:List UInt8)(hn:b.length≤1000000):ai Tryz.prog 345 [.c (.ls 1 UInt8 bD b)] [] (Rt (.c (cC (linesOf b))) []):=
 ai.lines fun hb a=>Go.Proofs.YtpechfcbnoggfaaGreatDoor.lines hb a hn
theorem Hv(x y z:Ls)(a:x.length≤1000)(hy:y.length≤1000)(hz:z.length≤1000):ai Tryz.prog 344 [.c (cC x),.c (cC y),.c (cC z)] [] (fun o ah=>ah=[]∧((∃l,merge x y z=some l∧o= .ret (.aL [(false,[cC l]),(false,[.bool true])]))∨(merge x y z=none∧o= .ret (.aL [(false,[cC []]),(false,[.bool false])])))):=
 Hy x y z a hy hz
end Go.Nest
end
section
namespace Go.Nest
open Go Go.AM Go.Proofs
open Go.NB.L (linesOf merge)
open Go.Proofs.YtpechfcbnoggfaaGreatDoor (tab tabOk)
set_option maxRecDepth 4000
def gU(L:List Ob)(base x y:Fi):Option (List UInt8):=
 if x.mode≠1∨y.mode≠1∨base.mode=3 then none
 else(merge (linesOf (ic L base)) (linesOf (ic L x)) (linesOf (ic L y))).bind fun l=>if 400<l.flatten.length then none else some l.flatten
def ed(b:List UInt8):Ob:=⟨1,b,[],0,[],[]⟩
def il(L:List Ob)(base x y:Fi)(p:List UInt8):Fi×Bool:=match gU L base x y with
 |none=>(la,false)
 |some b=>(⟨p,1,(ao L (ed b)).1,0⟩,true)
def iQ(L:List Ob)(base x y:Fi):List Ob:=match gU L base x y with
 |none=>L
 |some b=>(ao L (ed b)).2.2
def lD(L:List Ob)(code:Int)(base x y:Fi):Int:=match gU L base x y with
 |none=>code
 |some b=>if(ao L (ed b)).2.1≠0∧code=0 then(ao L (ed b)).2.1 else code
theorem tP{L:List Ob}(a:ae L)(f:Fi):(ic L f).length≤400:=by
 unfold ic;split
 ·simp
 ·by_cases h:kindOf L f.id=0
  ·rw[a.l8 h];show 0≤400;omega
  ·have:=(a.get h).bytes;omega
theorem pT{L:List Ob}{base x y:Fi}{p:List UInt8}{code:Int}(e:gU L base x y=none):il L base x y p=(la,false)∧iQ L base x y=L∧lD L code base x y=code:=by
 unfold il iQ lD;rw[e];exact⟨rfl,rfl,rfl⟩
theorem HH{L:List Ob}{base x y:Fi}{p b:List UInt8}{code:Int}(e:gU L base x y=some b):il L base x y p=(⟨p,1,(ao L (ed b)).1,0⟩,true)∧iQ L base x y=(ao L (ed b)).2.2∧lD L code base x y=if(ao L (ed b)).2.1≠0∧code=0 then(ao L (ed b)).2.1 else code:=by
 unfold il iQ lD;rw[e];exact⟨rfl,rfl,rfl⟩
theorem HI(L:List Ob)(g:ae L)(hn:L.length≤600)(out:List Fi)(cf:List (List UInt8))(code:Int)(base x y:Fi)(p:List UInt8)(Y:p.length≤4000000):
  ai Tryz.prog 327 [.c (.ptr 0 0),.c (.str p),.st (aA base),.st (aA x),.st (aA y)] [.box [.ptr 1 0,.rw 3,.rw 4,.int .i64 code],.box [.rw 2],.row 6 Ob ak L,.row 4 Fi aA out,.row 1 (List UInt8) encS cf] (Rt (.aL [(true,aA (il L base x y p).1),(false,[.bool (il L base x y p).2])]) [.box [.ptr 1 0,.rw 6,.rw 7,.int .i64 (lD L code base x y)],.box [.rw 5],.dead,.dead,.dead,.row 6 Ob ak (iQ L base x y),.row 4 Fi aA out,.row 1 (List UInt8) encS cf]):=by
 refine an (n:=83) (n0:=5) tabOk Tryz.call327 Tryz.func327 ?_;intro hb;(conv=>whnf);refine ay (fun u=>?_) (fun u=>?_)
 ·(conv=>whnf);obtain⟨a,b,d⟩:=pT (L:=L) (base:=base) (x:=x) (y:=y) (p:=p) (code:=code) (if_pos (.inl u));rw[a,b,d];(conv=>whnf);exact rx [] [.same 0,.same 1,.same 2,.same 3,.same 4,.same 2,.same 3,.same 4]
 (conv=>whnf);refine ay (fun v=>?_) (fun v=>?_)
 ·(conv=>whnf);obtain⟨a,b,d⟩:=pT (L:=L) (base:=base) (x:=x) (y:=y) (p:=p) (code:=code) (if_pos (.inr (.inl v)));rw[a,b,d];(conv=>whnf);exact rx [] [.same 0,.same 1,.same 2,.same 3,.same 4,.same 2,.same 3,.same 4]
 (conv=>whnf);refine dec (fun w=>?_) (fun w=>?_)
 ·(conv=>whnf);obtain⟨a,b,d⟩:=pT (L:=L) (base:=base) (x:=x) (y:=y) (p:=p) (code:=code) (if_pos (.inr (.inr w)));rw[a,b,d];(conv=>whnf);exact rx [] [.same 0,.same 1,.same 2,.same 3,.same 4,.same 2,.same 3,.same 4]
 have e:gU L base x y=_:=if_neg (fun h=>h.elim (fun h=>h u) (fun h=>h.elim (fun h=>h v) w));have J:=tP g base;have K:=tP g x;have M:=tP g y;have O:=tR L g out cf code base;have P:=tR L g out cf code x;have Q:=tR L g out cf code y;generalize ic L base=i at*;generalize ic L x=tx at*;generalize ic L y=j at*;have S:=vB i (by omega);have T:=vB tx (by omega);have U:=vB j (by omega);have lx:=Go.NB.L.np i;have ly:=Go.NB.L.np tx;have lz:=Go.NB.L.np j;have N:=fun l=>Hw (l:=l) J K M;have I:=Hv (linesOf i) (linesOf tx) (linesOf j) (by omega) (by omega) (by omega);(conv=>whnf);refine⟨false,.grow,(.l [0,1,4,5,8,9,2,3,6,7,10,11,12,13,14,15,16,17]),by kernel_rfl,.inl ?_⟩;(conv=>whnf);refine cl [] [] (O) ?_;(conv=>whnf);refine cl [] [] (S) ?_;(conv=>whnf);refine cl [] [] (P) ?_;(conv=>whnf);refine cl [] [] (T) ?_;(conv=>whnf);refine cl [] [] (Q) ?_;(conv=>whnf);refine cl [] [] (U) ?_;(conv=>whnf);cases r:merge (linesOf i) (linesOf tx) (linesOf j)with
 |none=>
  have E:ai Tryz.prog 344 [.c (cC (linesOf i)),.c (cC (linesOf tx)),.c (cC (linesOf j))] [] (Rt (.aL [(false,[cC []]),(false,[.bool false])]) []):=I.mono fun o ah ⟨t,k⟩=>by
   rw[r]at k;rcases k with⟨l,f,m⟩|⟨f,m⟩
   ·cases f
   ·exact⟨m,t⟩
  rw[r]at e;have F:=xV [] (by simp) (by simp);refine cl [] [] (E) ?_;(conv=>whnf);refine cl [] [] (F) ?_;(conv=>whnf);obtain⟨a,b,d⟩:=pT (L:=L) (base:=base) (x:=x) (y:=y) (p:=p) (code:=code) (e);rw[a,b,d];(conv=>whnf);exact rx [] [.same 0,.same 1,.same 2,.same 3,.same 4,.same 2,.same 3,.same 4]
 |some l=>
  have E:ai Tryz.prog 344 [.c (cC (linesOf i)),.c (cC (linesOf tx)),.c (cC (linesOf j))] [] (Rt (.aL [(false,[cC l]),(false,[.bool true])]) []):=I.mono fun o ah ⟨t,k⟩=>by
   rw[r]at k;rcases k with⟨Z,f,m⟩|⟨f,m⟩
   ·cases f;exact⟨m,t⟩
   ·cases f
  obtain⟨n1,n2⟩:=N l r;rw[r]at e;have F:=xV l (by omega) (by omega);have e:gU L base x y=if 400<l.flatten.length then none else some l.flatten:=e
  generalize l.flatten=s at*;refine cl [] [] (E) ?_;(conv=>whnf);refine cl [] [] (F) ?_;(conv=>whnf);refine dec (fun q=>?_) (fun q=>?_)
  ·have q:(400:Int)<s.length:=q;(conv=>whnf);obtain⟨a,b,d⟩:=pT (L:=L) (base:=base) (x:=x) (y:=y) (p:=p) (code:=code) (e.trans (if_pos (by omega)));rw[a,b,d];(conv=>whnf);exact rx [] [.same 0,.same 1,.same 2,.same 3,.same 4,.same 2,.same 3,.same 4]
  have q:¬(400:Int)<s.length:=q;obtain⟨a,b,d⟩:=HH (L:=L) (base:=base) (x:=x) (y:=y) (p:=p) (code:=code) (e.trans (if_neg (by omega)));rw[a,b,d];have H:=qd L (ed s) hn;generalize ao L (ed s)=R at*;obtain⟨id,c,W⟩:=R;dsimp only at H⊢;(conv=>whnf);refine cl [] [1,2] (H) ?_;(conv=>whnf);refine ay (fun z=>?_) (fun z=>?_)
  ·(conv=>whnf);refine dec (fun D=>?_) (fun D=>?_)
   ·rw[if_pos ⟨z,D⟩];(conv=>whnf);exact rx [] [.same 0,.same 1,.same 2,.same 3,.same 4,.same 9,.same 3,.same 4]
   ·rw[if_neg (fun h=>D h.2)];(conv=>whnf);exact rx [] [.same 0,.same 1,.same 2,.same 3,.same 4,.same 9,.same 3,.same 4]
  ·rw[if_neg (fun h=>h.1 z)];(conv=>whnf);exact rx [] [.same 0,.same 1,.same 2,.same 3,.same 4,.same 9,.same 3,.same 4]
end Go.Nest
end
section
namespace Go.Nest
open Go Go.AM Go.Proofs
open Go.Proofs.YtpechfcbnoggfaaGreatDoor (tab tabOk)
set_option maxRecDepth 4000
def lG(L:List Ob)(base x y:Fi)(p:List UInt8):Fi:=if x=y∨y=base then x else if x=base then y else if(il L base x y p).2=true then(il L base x y p).1 else if x.mode=0 then y else x
def jT(L:List Ob)(base x y:Fi):List Ob:=if x=y∨y=base then L else if x=base then L else iQ L base x y
def oG(L:List Ob)(code:Int)(base x y:Fi):Int:=if x=y∨y=base then code else if x=base then code else lD L code base x y
def oH(L:List Ob)(cf:List (List UInt8))(base x y:Fi)(p:List UInt8):List (List UInt8):=if x=y∨y=base then cf else if x=base then cf else if(il L base x y p).2=true then cf else cf++[p]
def fP(out:List Fi)(f:Fi):List Fi:=if 0<f.mode then out++[f]else out
theorem Iu(L:List Ob)(q:ae L)(hn:L.length≤600)(out:List Fi)(ho:out.length≤1000)(cf:List (List UInt8))(hc:cf.length≤1000)(code:Int)(base x y:Fi)(p:List UInt8)(r:p.length≤4000000):
  ai Tryz.prog 278 [.c (.ptr 0 0),.c (.str p),.st (aA base),.st (aA x),.st (aA y)] [.box [.ptr 1 0,.rw 3,.rw 4,.int .i64 code],.box [.rw 2],.row 6 Ob ak L,.row 4 Fi aA out,.row 1 (List UInt8) encS cf] (Rt (.aL []) [.box [.ptr 1 0,.rw 6,.rw 7,.int .i64 (oG L code base x y)],.box [.rw 5],.dead,.dead,.dead,.row 6 Ob ak (jT L base x y),.row 4 Fi aA (fP out (lG L base x y p)),.row 1 (List UInt8) encS (oH L cf base x y p)]):=by
 have o:=HI L q hn out cf code base x y p r;unfold lG jT oH oG;refine an (n:=66) (n0:=5) tabOk Tryz.call278 Tryz.func278 ?_;intro hb;(conv=>whnf);refine dec (fun g=>?_) (fun g=>?_)
 ·have b:x=y∨y=base:= .inl (nV.1 g);rw[if_pos b,if_pos b,if_pos b,if_pos b];(conv=>whnf);unfold fP;refine dec (fun a=>?_) (fun a=>?_)
  ·rw[if_pos a];(conv=>whnf);refine⟨false,.grow,(.l [0,1,2,3,4,5,6,7,8,9,10]),by kernel_rfl,.inl ?_⟩;(conv=>whnf);refine⟨[x],rfl,?_⟩;(conv=>whnf);refine⟨_,_,rfl,rfl,(by simp only[List.length_append,List.length_cons,List.length_nil];omega),?_⟩;(conv=>whnf);exact rx [] [.same 0,.same 1,.same 2,.same 3,.same 4,.same 2,.same 10,.same 4]
  ·rw[if_neg a];(conv=>whnf);exact rx [] [.same 0,.same 1,.same 2,.same 3,.same 4,.same 2,.same 3,.same 4]
 (conv=>whnf);refine dec (fun i=>?_) (fun i=>?_)
 ·have b:x=y∨y=base:= .inr (nV.1 i);rw[if_pos b,if_pos b,if_pos b,if_pos b];(conv=>whnf);unfold fP;refine dec (fun a=>?_) (fun a=>?_)
  ·rw[if_pos a];(conv=>whnf);refine⟨false,.grow,(.l [0,1,2,3,4,5,6,7,8,9,10]),by kernel_rfl,.inl ?_⟩;(conv=>whnf);refine⟨[x],rfl,?_⟩;(conv=>whnf);refine⟨_,_,rfl,rfl,(by simp only[List.length_append,List.length_cons,List.length_nil];omega),?_⟩;(conv=>whnf);exact rx [] [.same 0,.same 1,.same 2,.same 3,.same 4,.same 2,.same 10,.same 4]
  ·rw[if_neg a];(conv=>whnf);exact rx [] [.same 0,.same 1,.same 2,.same 3,.same 4,.same 2,.same 3,.same 4]
 have b:¬(x=y∨y=base):=fun h=>h.elim (fun h=>g (nV.2 h)) (fun h=>i (nV.2 h));rw[if_neg b,if_neg b,if_neg b,if_neg b];(conv=>whnf);refine dec (fun j=>?_) (fun j=>?_)
 ·have d:x=base:=nV.1 j;rw[if_pos d,if_pos d,if_pos d,if_pos d];(conv=>whnf);unfold fP;refine dec (fun a=>?_) (fun a=>?_)
  ·rw[if_pos a];(conv=>whnf);refine⟨false,.grow,(.l [0,1,2,3,4,5,6,7,8,9,10]),by kernel_rfl,.inl ?_⟩;(conv=>whnf);refine⟨[y],rfl,?_⟩;(conv=>whnf);refine⟨_,_,rfl,rfl,(by simp only[List.length_append,List.length_cons,List.length_nil];omega),?_⟩;(conv=>whnf);exact rx [] [.same 0,.same 1,.same 2,.same 3,.same 4,.same 2,.same 10,.same 4]
  ·rw[if_neg a];(conv=>whnf);exact rx [] [.same 0,.same 1,.same 2,.same 3,.same 4,.same 2,.same 3,.same 4]
 have d:¬x=base:=fun h=>j (nV.2 h);rw[if_neg d,if_neg d,if_neg d,if_neg d];generalize il L base x y p=R at*;generalize iQ L base x y=s at*;generalize lD L code base x y=e at*;obtain⟨f,ok⟩:=R;dsimp only at o⊢;(conv=>whnf);refine cl [] [0,1,2,3,4] (o) ?_;(conv=>whnf);refine aW (fun k=>?_) (fun k=>?_)
 ·subst k;rw[if_pos rfl,if_pos rfl];(conv=>whnf);unfold fP;refine dec (fun a=>?_) (fun a=>?_)
  ·rw[if_pos a];(conv=>whnf);refine⟨false,.grow,(.l [0,1,2,3,4,5,6,7,8,9,10]),by kernel_rfl,.inl ?_⟩;(conv=>whnf);refine⟨[f],rfl,?_⟩;(conv=>whnf);refine⟨_,_,rfl,rfl,(by simp only[List.length_append,List.length_cons,List.length_nil];omega),?_⟩;(conv=>whnf);exact rx [] [.same 0,.same 1,.same 2,.same 3,.same 4,.same 9,.same 14,.same 11]
  ·rw[if_neg a];(conv=>whnf);exact rx [] [.same 0,.same 1,.same 2,.same 3,.same 4,.same 9,.same 10,.same 11]
 ·subst k;rw[if_neg Bool.false_ne_true,if_neg Bool.false_ne_true];(conv=>whnf);refine⟨[p],rfl,?_⟩;(conv=>whnf);refine⟨_,_,rfl,rfl,(by simp only[List.length_append,List.length_cons,List.length_nil];omega),?_⟩;(conv=>whnf);refine dec (fun m=>?_) (fun m=>?_)
  ·rw[if_pos m];(conv=>whnf);unfold fP;refine dec (fun a=>?_) (fun a=>?_)
   ·rw[if_pos a];(conv=>whnf);refine⟨false,.grow,(.l [0,1,2,3,4,5,6,7,8,9,10]),by kernel_rfl,.inl ?_⟩;(conv=>whnf);refine⟨[y],rfl,?_⟩;(conv=>whnf);refine⟨_,_,rfl,rfl,(by simp only[List.length_append,List.length_cons,List.length_nil];omega),?_⟩;(conv=>whnf);exact rx [] [.same 0,.same 1,.same 2,.same 3,.same 4,.same 9,.same 16,.same 14]
   ·rw[if_neg a];(conv=>whnf);exact rx [] [.same 0,.same 1,.same 2,.same 3,.same 4,.same 9,.same 10,.same 14]
  ·rw[if_neg m];(conv=>whnf);unfold fP;refine dec (fun a=>?_) (fun a=>?_)
   ·rw[if_pos a];(conv=>whnf);refine⟨false,.grow,(.l [0,1,2,3,4,5,6,7,8,9,10]),by kernel_rfl,.inl ?_⟩;(conv=>whnf);refine⟨[x],rfl,?_⟩;(conv=>whnf);refine⟨_,_,rfl,rfl,(by simp only[List.length_append,List.length_cons,List.length_nil];omega),?_⟩;(conv=>whnf);exact rx [] [.same 0,.same 1,.same 2,.same 3,.same 4,.same 9,.same 16,.same 14]
   ·rw[if_neg a];(conv=>whnf);exact rx [] [.same 0,.same 1,.same 2,.same 3,.same 4,.same 9,.same 10,.same 14]
end Go.Nest
end
section
namespace Go.Nest
open Go Go.AM Go.Proofs
open Go.Proofs.YtpechfcbnoggfaaGreatDoor (tab tabOk)
set_option maxRecDepth 4000
theorem IH{L:List Ob}{o:Ob}(h:L.length≤600):(ao L o).2.2.length≤600:=by
 unfold ao;split
 ·exact h
 split
 ·exact h
 split
 ·exact h
 split
 ·exact h
 ·simp only[List.length_append,List.length_singleton];omega
theorem HB{L:List Ob}(a:ae L)(hn:L.length≤600)(base x y:Fi):ae (iQ L base x y)∧(iQ L base x y).length≤600:=by
 unfold iQ;split
 ·exact⟨a,hn⟩
 ·exact⟨fK a _,IH hn⟩
structure BS where
 L:List Ob
 out:List Fi
 cf:List (List UInt8)
 code:Int
def fg(base x y:List Fi)(s:BS)(q:List UInt8):BS:=
 let f:=(bW base q).1
 let g:=(bW x q).1
 let h:=(bW y q).1
 ⟨jT s.L f g h,fP s.out (lG s.L f g h q),oH s.L s.cf f g h q,oG s.L s.code f g h⟩
structure oV(s:BS)(n:Nat):Prop where
 L:ae s.L
 sz:s.L.length≤600
 out:s.out.length≤n
 cf:s.cf.length≤n
theorem JV{base x y:List Fi}{s:BS}{n:Nat}(h:oV s n)(q:List UInt8):oV (fg base x y s q) (n+1):=by
 have a:∀f g k,ae (jT s.L f g k)∧(jT s.L f g k).length≤600:=fun f g k=>by
  unfold jT;split
  ·exact⟨h.L,h.sz⟩
  split
  ·exact⟨h.L,h.sz⟩
  exact HB h.L h.sz _ _ _
 have b:∀f,(fP s.out f).length≤n+1:=fun f=>by
  have:=h.out;unfold fP;split
  ·simp only[List.length_append,List.length_singleton];omega
  ·omega
 have c:∀f g k q,(oH s.L s.cf f g k q).length≤n+1:=fun f g k q=>by
  have:=h.cf;unfold oH;split
  ·omega
  split
  ·omega
  split
  ·omega
  ·simp only[List.length_append,List.length_singleton];omega
 exact⟨(a _ _ _).1,(a _ _ _).2,b _,c _ _ _ _⟩
def cu(base x y:List Fi)(s:BS)(a:List (List UInt8)):BS:=a.foldl (fg base x y) s
theorem wy{base x y:List Fi}:∀(a:List (List UInt8)) {s:BS} {n:Nat},oV s n→oV (cu base x y s a) (n+a.length)
 |[],s,n,h=>h
 |q::a,s,n,h=>by
  have:=wy (base:=base) (x:=x) (y:=y) a (JV (base:=base) (x:=x) (y:=y) h q);rw[List.length_cons,show n+(a.length+1)=n+1+a.length by omega];exact this
theorem Ji{base x y:List Fi}{s:BS}{a:List (List UInt8)}{i:Nat}(h:i<a.length):cu base x y s (a.take (i+1))=fg base x y (cu base x y s (a.take i)) a[i]:=by
 unfold cu;rw[List.take_succ_eq_append_getElem h,List.foldl_append];rfl
def dQ:List (List Fi)→Int
 |[]=>0
 |l::r=>if cq l≠0 then cq l else dQ r
def dh(L:List Ob)(base x y:List Fi):BS:=
 if dQ [base,x,y]≠0 then⟨L,[],[],dQ [base,x,y]⟩
 else
  let s:=cu base x y ⟨L,[],[],0⟩ (cN [base,x,y])
  let c:=if s.code=0 then cq s.out else s.code
  if c≠0 then⟨s.L,[],[],c⟩else⟨s.L,s.out,s.cf,0⟩
end Go.Nest
end
section
namespace Go.Nest
open Go Go.AM Go.Proofs
open Go.Proofs.YtpechfcbnoggfaaGreatDoor (tab tabOk)
set_option maxRecDepth 4000
theorem re:∀(l:List (List UInt8)) (p:Option (List UInt8)),(eO p l).Sublist l
 |[],p=>.slnil
 |x::l,p=>by
  rw[eO];split
  ·exact(re l _).cons _
  ·exact(re l _).cons_cons _
theorem Iw(ls:List (List Fi)):(cN ls).length≤ls.flatten.length:=by
 rw[←wS];refine Nat.le_trans (re _ _).length_le ?_;unfold jq;rw[List.length_mergeSort,List.length_map];exact Nat.le_refl _
theorem Bb{ls:List (List Fi)}{q:List UInt8}(h:q∈cN ls):∃l∈ls,∃f∈l,f.path=q:=by
 rw[←wS]at h;have h:=(re _ _).mem h;unfold jq at h;rw[(List.mergeSort_perm _ _).mem_iff]at h;obtain⟨f,c,rfl⟩:=List.mem_map.1 h;obtain⟨l,a,b⟩:=List.mem_flatten.1 c;exact⟨l,a,f,b,rfl⟩
theorem xG{l:List Fi}{p:List UInt8}(h:∀f∈l,f.path.length≤4000000):(bW l p).1.path.length≤4000000:=by
 rcases C2 l p with⟨e,_⟩|⟨e,_⟩
 ·rw[show(bW l p).1=la from e];exact Nat.zero_le _
 ·exact h _ e
theorem HA{L:List Ob}{b x y:Fi}{q:List UInt8}(hq:q.length≤4000000):(il L b x y q).1.path.length≤4000000:=by
 unfold il;split
 ·exact Nat.zero_le _
 ·exact hq
theorem IC{L:List Ob}{b x y:Fi}{q:List UInt8}(a:x.path.length≤4000000)(hy:y.path.length≤4000000)(hq:q.length≤4000000):(lG L b x y q).path.length≤4000000:=by
 unfold lG;repeat' split
 all_goals first|exact a|exact hy|exact HA hq
theorem wz{base x y:List Fi}(c:∀f∈x,f.path.length≤4000000)(hy:∀f∈y,f.path.length≤4000000):∀(a:List (List UInt8)) (s:BS),(∀q∈a,q.length≤4000000)→(∀f∈s.out,f.path.length≤4000000)→∀f∈(cu base x y s a).out,f.path.length≤4000000
 |[],s,_,h=>h
 | q :: a, s, b, h => wz c hy a (fg base x y s q) (fun r d => b r (by simp [d])) (fun f hf=>by
  have hf:f∈fP s.out (lG s.L (bW base q).1 (bW x q).1 (bW y q).1 q):=hf;unfold fP at hf;split at hf
  ·rcases List.mem_append.1 hf with hf|hf
   ·exact h f hf
   ·rw[List.mem_singleton]at hf;rw[hf];exact IC (xG c) (xG hy) (b q (by simp))
  ·exact h f hf)
set_option maxHeartbeats 2000000 in
theorem Dj(L:List Ob)(Z:ae L)(hn:L.length≤600)(base x y:List Fi)(o:∀l∈[base,x,y],∀f∈l,f.path.length≤4000000):
  ai Tryz.prog 211 [.c (.ptr 0 0),.c (.ls 4 Fi aA base),.c (.ls 4 Fi aA x),.c (.ls 4 Fi aA y)] [.box [.rw 1],.row 6 Ob ak L] (Rt (.aL [(false,[.rw 3]),(false,[.rw 4]),(false,[.int .i64 (dh L base x y).code])]) [.box [.rw 2],.dead,.row 6 Ob ak (dh L base x y).L,.row 4 Fi aA (dh L base x y).out,.row 1 (List UInt8) encS (dh L base x y).cf]):=by
 have c1:=nY base (o _ (by simp));have c2:=nY x (o _ (by simp));have c3:=nY y (o _ (by simp));refine an (n:=106) (n0:=2) tabOk Tryz.call211 Tryz.func211 ?_;intro hb;(conv=>whnf);refine⟨[base,x,y],rfl,?_⟩;(conv=>whnf);refine lp Nat (fun i=>⟨[(0,.c (.ptr 0 0)),(1,.c (.ls 4 Fi aA base)),(2,.c (.ls 4 Fi aA x)),(3,.c (.ls 4 Fi aA y)),(26,.c (.rw 2)),(27,.c (.int .i64 3)),(28,.c (.int .i64 i))],[.box [.rw 1],.row 6 Ob ak L,.row 1 (List Fi) (bG 4 aA) [base,x,y]]⟩) (fun i=>i≤3∧dQ [base,x,y]=dQ ([base,x,y].drop i)) (fun i=>3-i) 0 [] [.same 0,.same 1,.same 2] ⟨Nat.zero_le _,rfl⟩ ?_ (fun i v=>?_)
 ·repeat' first|exact trivial|exact rfl|refine And.intro ?_ ?_
 obtain⟨v,d⟩:=v;(conv=>whnf);refine dec (fun p=>?_) (fun p=>?_)
 ·have a:i<[base,x,y].length:=by show i<3;omega
  have j:[base,x,y][i]? =some [base,x,y][i]:=List.getElem?_eq_getElem a;have O:=List.drop_eq_getElem_cons a;have w:=o [base,x,y][i] (List.getElem_mem a);generalize [base,x,y][i]=l at j O w;rw[O]at d;have d:dQ [base,x,y]=if cq l≠0 then cq l else dQ ([base,x,y].drop (i+1)):=d
  (conv=>whnf);refine⟨i,⟨rfl,a⟩,?_⟩;(conv=>whnf);refine⟨l,j,?_⟩;(conv=>whnf);refine cl [] [] (nY l w) ?_;(conv=>whnf);refine ay (fun m=>?_) (fun m=>?_)
  ·rw[if_pos m]at d;have e:dh L base x y=⟨L,[],[],cq l⟩:=by unfold dh;rw[d,if_pos m]
   rw[e];(conv=>whnf);exact rx [] [.same 0,.same 1,.same 1,.new,.new]
  ·rw[if_neg (fun h=>h m)]at d;repeat'((conv=>whnf);refine I6 ?_)
   refine ag (i+1) [] [.same 0,.same 1,.same 2] ⟨a,d⟩ (by simp only[];omega) ?_;repeat' first|exact trivial|exact rfl|refine And.intro ?_ ?_
 have Y:i=3:=by omega
 subst Y;have U:dQ [base,x,y]=0:=d
 have u:[base,x,y].flatten.length≤1000:=by
  have z:∀l,cq l=0→l.length≤60:=fun l h=>by
   refine Classical.byContradiction fun N=>?_;unfold cq at h;rw[if_pos (by omega)]at h;exact absurd h (by decide)
  have K:cq base=0:=Classical.byContradiction fun h=>by
   have:dQ [base,x,y]=cq base:=if_pos h;omega
  have e1:dQ [base,x,y]=dQ [x,y]:=if_neg (fun h=>h K)
  have M:cq x=0:=Classical.byContradiction fun h=>by
   have:dQ [x,y]=cq x:=if_pos h;omega
  have e2:dQ [x,y]=dQ [y]:=if_neg (fun h=>h M)
  have S:cq y=0:=Classical.byContradiction fun h=>by
   have:dQ [y]=cq y:=if_pos h;omega
  have z1:=z _ K;have z2:=z _ M;have z3:=z _ S;simp only[List.flatten_cons,List.flatten_nil,List.length_append,List.length_nil];omega
 have u1:=Kp [base,x,y] u o;(conv=>whnf);refine⟨[base,x,y],rfl,?_⟩;(conv=>whnf);refine cl [] [] (u1) ?_;(conv=>whnf)
 have D:∀q∈cN [base,x,y],q.length≤4000000:=fun q E=>by
  obtain⟨l,W,f,N,rfl⟩:=Bb E;exact o l W f N
 have ac:(cN [base,x,y]).length≤1000:=Nat.le_trans (Iw _) u;have H:oV ⟨L,[],[],0⟩ 0:=⟨Z,hn,Nat.le_refl _,Nat.le_refl _⟩;have T:dh L base x y=_:=if_neg (fun h=>h U);rw[T];generalize cN [base,x,y]=b at*
 refine lp Nat (fun i => ⟨[(1,.c (.ls 4 Fi aA base)),(2,.c (.ls 4 Fi aA x)),(3,.c (.ls 4 Fi aA y)),(14,.c (.ptr 2 0)),(45,.c (.rw 3)),(46,.c (.int .i64 b.length)),(47,.c (.int .i64 i))],
  [.box [.rw 6],.dead,.box [.ptr 0 0,.rw 4,.rw 5,.int .i64 (cu base x y ⟨L,[],[],0⟩ (b.take i)).code],.row 1 (List UInt8) encS b,.row 4 Fi aA (cu base x y ⟨L,[],[],0⟩ (b.take i)).out,.row 1 (List UInt8) encS (cu base x y ⟨L,[],[],0⟩ (b.take i)).cf,.row 6 Ob ak (cu base x y ⟨L,[],[],0⟩ (b.take i)).L]⟩) (fun i=>i≤b.length∧True) (fun i=>b.length-i) 0 [] [.same 0,.same 1,.same 3,.same 5,.new,.new,.same 1] ⟨Nat.zero_le _,trivial⟩ ?_ (fun i v=>?_)
 ·repeat' first|exact trivial|exact rfl|refine And.intro ?_ ?_
 obtain⟨v,-⟩:=v;(conv=>whnf);refine dec (fun p=>?_) (fun p=>?_)
 ·have a:i<b.length:=by have p:(i:Int)<b.length:=p;omega
  have j:b[i]? =some b[i]:=List.getElem?_eq_getElem a;have E:=D _ (List.getElem_mem a);have t:=Ji (base:=base) (x:=x) (y:=y) (s:=⟨L,[],[],0⟩) a;have g:=wy (base:=base) (x:=x) (y:=y) (b.take i) H;rw[List.length_take,Nat.min_eq_left (by omega)]at g;generalize b[i]=q at j E t;generalize cu base x y ⟨L,[],[],0⟩ (b.take i)=s at t g⊢;obtain⟨P,F,Q,R⟩:=s;(conv=>whnf);refine⟨i,⟨rfl,a⟩,?_⟩;(conv=>whnf);refine⟨q,j,?_⟩;(conv=>whnf);refine cl [] [] (find_spec base q) ?_;(conv=>whnf);refine cl [] [] (find_spec x q) ?_;(conv=>whnf);refine cl [] [] (find_spec y q) ?_;(conv=>whnf);have J:=g.out;have I:=g.cf;refine cl [] [2,0,6,4,5] (Iu P g.L g.sz F (by simp only[]at J;omega) Q (by simp only[]at I;omega) R (bW base q).1 (bW x q).1 (bW y q).1 q E) ?_;repeat'((conv=>whnf);refine I6 ?_)
  refine ag (i+1) [] [.same 0,.same 1,.same 2,.same 3,.same 11,.same 12,.same 10] ⟨a,trivial⟩ (by simp only[];omega) ?_;rw[t];unfold fg;dsimp only;repeat' first|exact trivial|exact rfl|refine And.intro ?_ ?_
 obtain rfl:i=b.length:=by have p:¬(i:Int)<b.length:=p;omega
 rw[List.take_length];have k:=wz (base:=base) (o x (by simp)) (o y (by simp)) b ⟨L,[],[],0⟩ D (fun f hf=>by cases hf);generalize cu base x y ⟨L,[],[],0⟩ b=s at*;obtain⟨P,F,Q,R⟩:=s;have k:∀f∈F,f.path.length≤4000000:=k;dsimp only;(conv=>whnf);refine dec (fun m=>?_) (fun m=>?_)
 ·rw[if_pos m];(conv=>whnf);refine cl [] [] (nY F k) ?_;(conv=>whnf);refine ay (fun r=>?_) (fun r=>?_)
  ·rw[if_pos r];(conv=>whnf);refine⟨false,.grow,(.l [0,1,2,3,4,5,6]),by kernel_rfl,.inl ?_⟩;(conv=>whnf);exact rx [] [.same 0,.same 1,.same 6,.new,.new]
  ·rw[if_neg (fun h=>h r)];(conv=>whnf);refine⟨false,.grow,(.l [0,1,2,3,4,5,6,7,8,9,10]),by kernel_rfl,.inl ?_⟩;(conv=>whnf);exact rx [] [.same 0,.same 1,.same 6,.same 4,.same 5]
 ·rw[if_neg m];(conv=>whnf);refine ay (fun r=>?_) (fun r=>absurd r m);rw[if_pos r];(conv=>whnf);refine⟨false,.grow,(.l [0,1,2,3,4,5,6]),by kernel_rfl,.inl ?_⟩;(conv=>whnf);exact rx [] [.same 0,.same 1,.same 6,.new,.new]
end Go.Nest
end
