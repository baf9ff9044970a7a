import Derived.Test.YtpechfcbnoggfaaGreatDoorB4
import Derived.Test.YtpechfcbnoggfaaGreatDoorLines2
import Derived.Test.YtpechfcbnoggfaaGreatDoorZ3
import Derived.Test.YtpechfcbnoggfaaGreatDoorLinesMerge
import Derived.Test.YtpechfcbnoggfaaGreatDoorQ4
set_option maxHeartbeats 2000000
set_option linter.unusedVariables false
set_option linter.unusedSimpArgs false
open Classical renaming byContradiction->ap
open List renaming length_append->ad,length_cons->al,length_nil->am,flatten_cons->ar,length_singleton->a0,getElem?_eq_getElem->a2,getElem_mem->a5,mem_append->a9
open Nat renaming le_trans->a1,le_refl->a3,zero_le->a4,succ_mul->bb
open Option.some renaming inj->a6
section
namespace Go.Nest
open Go Go.AM Go.Proofs
open Go.NB.L (linesOf merge go mix cut heldFrom pairs Ls)
open Go.Proofs.YtpechfcbnoggfaaGreatDoor (tab tabOk)
set_option maxRecDepth 4000
theorem tE:∀b:List UInt8,(linesOf b).flatten=b
 |[]=>rfl
 |x::r=>by
  have ih:=tE r;unfold linesOf;split
  ·rw[ar,ih,‹x=10›];rfl
  ·split
   ·rename_i h;rw[h]at ih;rw[<-ih];rfl
   ·rename_i h;rw[h]at ih;rw[<-ih];simp
theorem sZ:∀{ls:List (List UInt8)} {x:List UInt8},x∈ls->x.length<=ls.flatten.length
 |y::r,x,h=>by
  rw[ar,ad];rcases List.mem_cons.1 h with rfl|h
  ·omega
  ·have:=sZ h;omega
theorem BC{B:Nat}:∀{ls:List (List UInt8)},(∀x∈ls,x.length<=B)->ls.flatten.length<=ls.length*B
 |[],_=>by simp
 |y::r,h=>by
  rw[ar,ad,al,bb];have b:=h y (by simp);have c:=BC (ls:=r) λx a=>h x (by simp[a]);omega
theorem sN{l:Ls}{i n:Nat}{x:List UInt8}(h:x∈cut l i n):x∈l:=List.mem_of_mem_take (List.mem_of_mem_drop h)
theorem xx{old one b a:Ls}(h:mix old one b=some a):a=one\/a=b:=by
 unfold mix at h;split at h
 ·exact .inr (a6 h).symm
 ·split at h
  ·exact .inl (a6 h).symm
  ·cases h
theorem BV{base a b:Ls}{N:Nat}(g:a.length<=N)(hb:b.length<=N):∀(c:List (Nat×Nat×Nat)) (i j k:Nat) (l:Ls),go base a b c i j k=some l->l.length<=(c.length+1)*(N+1)/\∀x∈l,x∈base\/x∈a\/x∈b
 |[],i,j,k,l,h=>by
  rcases xx h with rfl|rfl
  ·exact⟨by have:=ng a j a.length;simp only[am];omega,λx hx=>.inr (.inl (sN hx))⟩
  ·exact⟨by have:=ng b k b.length;simp only[am];omega,λx hx=>.inr (.inr (sN hx))⟩
 |(n,p,q)::c,i,j,k,l,h=>by
  unfold go at h;split at h
  ·cases h
  ·rename_i d e;obtain⟨r,o,rfl⟩:=Option.map_eq_some_iff.1 h;obtain⟨t,f⟩:=BV g hb c _ _ _ r o
   have s:d.length<=N:=by
    rcases xx e with rfl|rfl
    ·have:=ng a j p;omega
    ·have:=ng b k q;omega
   have m:(base[n]?.toList).length<=1:=by cases base[n]? <;>simp
   refine⟨?_,λx hx=>?_⟩
   ·rw[ad,ad,al,bb];omega
   ·rcases a9.1 hx with hx|hx
    ·rcases a9.1 hx with hx|hx
     ·rcases xx e with rfl|rfl
      ·exact .inr (.inl (sN hx))
      ·exact .inr (.inr (sN hx))
     ·refine .inl ?_;rw[Option.mem_toList]at hx;exact List.mem_of_getElem? hx
    ·exact f x hx
theorem JL(x y:List (Nat×Nat))(len:Nat):(heldFrom x y len 0).length<=len:=by
 unfold heldFrom;refine a1 (List.length_filterMap_le _ _) ?_;rw[List.length_range'];omega
theorem LG{x y z:List UInt8}(i:x.length<=400)(hy:y.length<=400)(hz:z.length<=400){l:Ls}(h:merge (linesOf x) (linesOf y) (linesOf z)=some l):l.length<=160801/\l.flatten.length<=64320400:=by
 have j:=Go.NB.L.ot x;have k:=Go.NB.L.ot y;have m:=Go.NB.L.ot z;obtain⟨a,b⟩:=BV (N:=400) (by omega) (by omega) _ _ _ _ _ h;have e:=JL (pairs (linesOf x) (linesOf y) 0 0) (pairs (linesOf x) (linesOf z) 0 0) (linesOf x).length;have f:l.length<=401*401:=a1 a (Nat.mul_le_mul (by omega) (a3 _))
 have c:∀u∈l,u.length<=400:=λu d=>by
  rcases b u d with h|h|h
  ·have:=sZ h;rw[tE]at this;omega
  ·have:=sZ h;rw[tE]at this;omega
  ·have:=sZ h;rw[tE]at this;omega
 have g:=BC c;omega
theorem xk(b:List UInt8)(hn:b.length<=1000000):aa Tryz.prog 345 [.c (.ls 1 UInt8 aN b)] [] (Rt (.c (b9 (linesOf b))) []):=
 aa.lines λhb a=>Go.Proofs.YtpechfcbnoggfaaGreatDoor.lines hb a hn
theorem LF(x y z:Ls)(a:x.length<=1000)(hy:y.length<=1000)(hz:z.length<=1000):aa Tryz.prog 344 [.c (b9 x),.c (b9 y),.c (b9 z)] [] (λo ah=>ah=[]/\((∃l,merge x y z=some l/\o= .ret (.ao [(false,[b9 l]),(false,[.bool true])]))\/(merge x y z=none/\o= .ret (.ao [(false,[b9 []]),(false,[.bool false])])))):=
 LI x y z a hy hz
end Go.Nest
end
section
namespace Go.Nest
open Go Go.AM Go.Proofs
open Go.NB.L (linesOf merge)
open Go.Proofs.YtpechfcbnoggfaaGreatDoor (tab tabOk)
set_option maxRecDepth 4000
def oB(L:List Ob)(base x y:Fi):Option (List UInt8):=
 if x.mode≠1\/y.mode≠1\/base.mode=3 then none
 else(merge (linesOf (kh L base)) (linesOf (kh L x)) (linesOf (kh L y))).bind λl=>if 400<l.flatten.length then none else some l.flatten
def lA(b:List UInt8):Ob:=⟨1,b,[],0,[],[]⟩
def jK(L:List Ob)(base x y:Fi)(p:List UInt8):Fi×Bool:=match oB L base x y with
 |none=>(du,false)
 |some b=>(⟨p,1,(aB L (lA b)).1,0⟩,true)
def jL(L:List Ob)(base x y:Fi):List Ob:=match oB L base x y with
 |none=>L
 |some b=>(aB L (lA b)).2.2
def ml(L:List Ob)(code:Int)(base x y:Fi):Int:=match oB L base x y with
 |none=>code
 |some b=>if(aB L (lA b)).2.1≠0/\code=0 then(aB L (lA b)).2.1 else code
theorem vz{L:List Ob}(a:ak L)(f:Fi):(kh L f).length<=400:=by
 unfold kh;split
 ·simp
 ·by_cases h:kindOf L f.id=0
  ·rw[a.nw h];show 0<=400;omega
  ·have:=(a.get h).bytes;omega
theorem rh{L:List Ob}{base x y:Fi}{p:List UInt8}{code:Int}(e:oB L base x y=none):jK L base x y p=(du,false)/\jL L base x y=L/\ml L code base x y=code:=by
 unfold jK jL ml;rw[e];exact⟨rfl,rfl,rfl⟩
theorem LP{L:List Ob}{base x y:Fi}{p b:List UInt8}{code:Int}(e:oB L base x y=some b):jK L base x y p=(⟨p,1,(aB L (lA b)).1,0⟩,true)/\jL L base x y=(aB L (lA b)).2.2/\ml L code base x y=if(aB L (lA b)).2.1≠0/\code=0 then(aB L (lA b)).2.1 else code:=by
 unfold jK jL ml;rw[e];exact⟨rfl,rfl,rfl⟩
theorem LQ(L:List Ob)(g:ak L)(hn:L.length<=600)(out:List Fi)(cf:List (List UInt8))(code:Int)(base x y:Fi)(p:List UInt8)(Z:p.length<=4000000):
  aa Tryz.prog 327 [.c (.ptr 0 0),.c (.str p),.st (aq base),.st (aq x),.st (aq y)] [.box [.ptr 1 0,.rw 3,.rw 4,.int .i64 code],.box [.rw 2],.row 6 Ob an L,.row 4 Fi aq out,.row 1 (List UInt8) encS cf] (Rt (.ao [(true,aq (jK L base x y p).1),(false,[.bool (jK L base x y p).2])]) [.box [.ptr 1 0,.rw 6,.rw 7,.int .i64 (ml L code base x y)],.box [.rw 5],.dead,.dead,.dead,.row 6 Ob an (jL L base x y),.row 4 Fi aq out,.row 1 (List UInt8) encS cf]):=by
 refine af (n:=83) (n0:=5) tabOk Tryz.call327 Tryz.func327 ?_;intro hb;refine ay (λv=>?_) (λv=>?_)
 ·(conv=>whnf);obtain⟨a,b,d⟩:=rh (L:=L) (base:=base) (x:=x) (y:=y) (p:=p) (code:=code) (if_pos (.inl v));rw[a,b,d];exact rx [] [.s 0,.s 1,.s 2,.s 3,.s 4,.s 2,.s 3,.s 4]
 refine ay (λw=>?_) (λw=>?_)
 ·(conv=>whnf);obtain⟨a,b,d⟩:=rh (L:=L) (base:=base) (x:=x) (y:=y) (p:=p) (code:=code) (if_pos (.inr (.inl w)));rw[a,b,d];exact rx [] [.s 0,.s 1,.s 2,.s 3,.s 4,.s 2,.s 3,.s 4]
 refine dec (λz=>?_) (λz=>?_)
 ·(conv=>whnf);obtain⟨a,b,d⟩:=rh (L:=L) (base:=base) (x:=x) (y:=y) (p:=p) (code:=code) (if_pos (.inr (.inr z)));rw[a,b,d];exact rx [] [.s 0,.s 1,.s 2,.s 3,.s 4,.s 2,.s 3,.s 4]
 have e:oB L base x y=_:=if_neg (λh=>h.elim (λh=>h v) (λh=>h.elim (λh=>h w) z));have K:=vz g base;have M:=vz g x;have N:=vz g y;have P:=vA L g out cf code base;have Q:=vA L g out cf code x;have S:=vA L g out cf code y;generalize kh L base=i at*;generalize kh L x=j at*;generalize kh L y=k at*;have T:=xk i (by omega);have U:=xk j (by omega);have W:=xk k (by omega);have lx:=Go.NB.L.ot i;have ly:=Go.NB.L.ot j;have lz:=Go.NB.L.ot k;have O:=λl=>LG (l:=l) K M N;have J:=LF (linesOf i) (linesOf j) (linesOf k) (by omega) (by omega) (by omega);refine⟨false,.grow,(.l [0,1,4,5,8,9,2,3,6,7,10,11,12,13,14,15,16,17]),by kernel_rfl,.inl ?_⟩;refine cl [] [] (P) ?_;refine cl [] [] (T) ?_;refine cl [] [] (Q) ?_;refine cl [] [] (U) ?_;refine cl [] [] (S) ?_;refine cl [] [] (W) ?_;(conv=>whnf);cases s:merge (linesOf i) (linesOf j) (linesOf k)with
 |none=>
  have F:aa Tryz.prog 344 [.c (b9 (linesOf i)),.c (b9 (linesOf j)),.c (b9 (linesOf k))] [] (Rt (.ao [(false,[b9 []]),(false,[.bool false])]) []):=J.mono λo ah ⟨u,m⟩=>by
   rw[s]at m;rcases m with⟨l,f,q⟩|⟨f,q⟩
   ·cases f
   ·exact⟨q,u⟩
  rw[s]at e;have H:=Af [] (by simp) (by simp);refine cl [] [] (F) ?_;refine cl [] [] (H) ?_;(conv=>whnf);obtain⟨a,b,d⟩:=rh (L:=L) (base:=base) (x:=x) (y:=y) (p:=p) (code:=code) (e);rw[a,b,d];exact rx [] [.s 0,.s 1,.s 2,.s 3,.s 4,.s 2,.s 3,.s 4]
 |some l=>
  have F:aa Tryz.prog 344 [.c (b9 (linesOf i)),.c (b9 (linesOf j)),.c (b9 (linesOf k))] [] (Rt (.ao [(false,[b9 l]),(false,[.bool true])]) []):=J.mono λo ah ⟨u,m⟩=>by
   rw[s]at m;rcases m with⟨l',f,q⟩|⟨f,q⟩
   ·cases f;exact⟨q,u⟩
   ·cases f
  obtain⟨n1,n2⟩:=O l s;rw[s]at e;have H:=Af l (by omega) (by omega);have e:oB L base x y=if 400<l.flatten.length then none else some l.flatten:=e
  generalize l.flatten=t at*;refine cl [] [] (F) ?_;refine cl [] [] (H) ?_;refine dec (λr=>?_) (λr=>?_)
  ·have r:(400:Int)<t.length:=r;(conv=>whnf);obtain⟨a,b,d⟩:=rh (L:=L) (base:=base) (x:=x) (y:=y) (p:=p) (code:=code) (e.trans (if_pos (by omega)));rw[a,b,d];exact rx [] [.s 0,.s 1,.s 2,.s 3,.s 4,.s 2,.s 3,.s 4]
  have r:¬(400:Int)<t.length:=r;obtain⟨a,b,d⟩:=LP (L:=L) (base:=base) (x:=x) (y:=y) (p:=p) (code:=code) (e.trans (if_neg (by omega)));rw[a,b,d];have I:=rC L (lA t) hn;generalize aB L (lA t)=R at*;obtain⟨id,c,Y⟩:=R;dsimp only at I⊢;refine cl [] [1,2] (I) ?_;refine ay (λD=>?_) (λD=>?_)
  ·refine dec (λE=>?_) (λE=>?_)
   ·rw[if_pos ⟨D,E⟩];exact rx [] [.s 0,.s 1,.s 2,.s 3,.s 4,.s 9,.s 3,.s 4]
   ·rw[if_neg (λh=>E h.2)];exact rx [] [.s 0,.s 1,.s 2,.s 3,.s 4,.s 9,.s 3,.s 4]
  ·rw[if_neg (λh=>h.1 D)];exact rx [] [.s 0,.s 1,.s 2,.s 3,.s 4,.s 9,.s 3,.s 4]
end Go.Nest
end
section
namespace Go.Nest
open Go Go.AM Go.Proofs
open Go.Proofs.YtpechfcbnoggfaaGreatDoor (tab tabOk)
set_option maxRecDepth 4000
def pN(L:List Ob)(base x y:Fi)(p:List UInt8):Fi:=if x=y\/y=base then x else if x=base then y else if(jK L base x y p).2=true then(jK L base x y p).1 else if x.mode=0 then y else x
def lC(L:List Ob)(base x y:Fi):List Ob:=if x=y\/y=base then L else if x=base then L else jL L base x y
def rA(L:List Ob)(code:Int)(base x y:Fi):Int:=if x=y\/y=base then code else if x=base then code else ml L code base x y
def mo(L:List Ob)(cf:List (List UInt8))(base x y:Fi)(p:List UInt8):List (List UInt8):=if x=y\/y=base then cf else if x=base then cf else if(jK L base x y p).2=true then cf else cf++[p]
def iF(out:List Fi)(f:Fi):List Fi:=if 0<f.mode then out++[f]else out
theorem MM(L:List Ob)(q:ak L)(hn:L.length<=600)(out:List Fi)(ho:out.length<=1000)(cf:List (List UInt8))(hc:cf.length<=1000)(code:Int)(base x y:Fi)(p:List UInt8)(r:p.length<=4000000):
  aa Tryz.prog 278 [.c (.ptr 0 0),.c (.str p),.st (aq base),.st (aq x),.st (aq y)] [.box [.ptr 1 0,.rw 3,.rw 4,.int .i64 code],.box [.rw 2],.row 6 Ob an L,.row 4 Fi aq out,.row 1 (List UInt8) encS cf] (Rt (.ao []) [.box [.ptr 1 0,.rw 6,.rw 7,.int .i64 (rA L code base x y)],.box [.rw 5],.dead,.dead,.dead,.row 6 Ob an (lC L base x y),.row 4 Fi aq (iF out (pN L base x y p)),.row 1 (List UInt8) encS (mo L cf base x y p)]):=by
 have o:=LQ L q hn out cf code base x y p r;unfold pN lC mo rA;refine af (n:=66) (n0:=5) tabOk Tryz.call278 Tryz.func278 ?_;intro hb;refine dec (λg=>?_) (λg=>?_)
 ·have b:x=y\/y=base:= .inl (ni.1 g);rw[if_pos b,if_pos b,if_pos b,if_pos b];(conv=>whnf);unfold iF;refine dec (λa=>?_) (λa=>?_)
  ·rw[if_pos a];refine⟨false,.grow,(.l [0,1,2,3,4,5,6,7,8,9,10]),by kernel_rfl,.inl ?_⟩;refine⟨[x],rfl,?_⟩;refine⟨_,_,rfl,rfl,(by simp only[ad,al,am];omega),?_⟩;exact rx [] [.s 0,.s 1,.s 2,.s 3,.s 4,.s 2,.s 10,.s 4]
  ·rw[if_neg a];exact rx [] [.s 0,.s 1,.s 2,.s 3,.s 4,.s 2,.s 3,.s 4]
 refine dec (λi=>?_) (λi=>?_)
 ·have b:x=y\/y=base:= .inr (ni.1 i);rw[if_pos b,if_pos b,if_pos b,if_pos b];(conv=>whnf);unfold iF;refine dec (λa=>?_) (λa=>?_)
  ·rw[if_pos a];refine⟨false,.grow,(.l [0,1,2,3,4,5,6,7,8,9,10]),by kernel_rfl,.inl ?_⟩;refine⟨[x],rfl,?_⟩;refine⟨_,_,rfl,rfl,(by simp only[ad,al,am];omega),?_⟩;exact rx [] [.s 0,.s 1,.s 2,.s 3,.s 4,.s 2,.s 10,.s 4]
  ·rw[if_neg a];exact rx [] [.s 0,.s 1,.s 2,.s 3,.s 4,.s 2,.s 3,.s 4]
 have b:¬(x=y\/y=base):=λh=>h.elim (λh=>g (ni.2 h)) (λh=>i (ni.2 h));rw[if_neg b,if_neg b,if_neg b,if_neg b];refine dec (λj=>?_) (λj=>?_)
 ·have d:x=base:=ni.1 j;rw[if_pos d,if_pos d,if_pos d,if_pos d];(conv=>whnf);unfold iF;refine dec (λa=>?_) (λa=>?_)
  ·rw[if_pos a];refine⟨false,.grow,(.l [0,1,2,3,4,5,6,7,8,9,10]),by kernel_rfl,.inl ?_⟩;refine⟨[y],rfl,?_⟩;refine⟨_,_,rfl,rfl,(by simp only[ad,al,am];omega),?_⟩;exact rx [] [.s 0,.s 1,.s 2,.s 3,.s 4,.s 2,.s 10,.s 4]
  ·rw[if_neg a];exact rx [] [.s 0,.s 1,.s 2,.s 3,.s 4,.s 2,.s 3,.s 4]
 have d:¬x=base:=λh=>j (ni.2 h);rw[if_neg d,if_neg d,if_neg d,if_neg d];generalize jK L base x y p=R at*;generalize jL L base x y=s at*;generalize ml L code base x y=e at*;obtain⟨f,ok⟩:=R;dsimp only at o⊢;refine cl [] [0,1,2,3,4] (o) ?_;refine aS (λk=>?_) (λk=>?_)
 ·subst k;rw[if_pos rfl,if_pos rfl];(conv=>whnf);unfold iF;refine dec (λa=>?_) (λa=>?_)
  ·rw[if_pos a];refine⟨false,.grow,(.l [0,1,2,3,4,5,6,7,8,9,10]),by kernel_rfl,.inl ?_⟩;refine⟨[f],rfl,?_⟩;refine⟨_,_,rfl,rfl,(by simp only[ad,al,am];omega),?_⟩;exact rx [] [.s 0,.s 1,.s 2,.s 3,.s 4,.s 9,.s 14,.s 11]
  ·rw[if_neg a];exact rx [] [.s 0,.s 1,.s 2,.s 3,.s 4,.s 9,.s 10,.s 11]
 ·subst k;rw[if_neg Bool.false_ne_true,if_neg Bool.false_ne_true];refine⟨[p],rfl,?_⟩;refine⟨_,_,rfl,rfl,(by simp only[ad,al,am];omega),?_⟩;refine dec (λm=>?_) (λm=>?_)
  ·rw[if_pos m];(conv=>whnf);unfold iF;refine dec (λa=>?_) (λa=>?_)
   ·rw[if_pos a];refine⟨false,.grow,(.l [0,1,2,3,4,5,6,7,8,9,10]),by kernel_rfl,.inl ?_⟩;refine⟨[y],rfl,?_⟩;refine⟨_,_,rfl,rfl,(by simp only[ad,al,am];omega),?_⟩;exact rx [] [.s 0,.s 1,.s 2,.s 3,.s 4,.s 9,.s 16,.s 14]
   ·rw[if_neg a];exact rx [] [.s 0,.s 1,.s 2,.s 3,.s 4,.s 9,.s 10,.s 14]
  ·rw[if_neg m];(conv=>whnf);unfold iF;refine dec (λa=>?_) (λa=>?_)
   ·rw[if_pos a];refine⟨false,.grow,(.l [0,1,2,3,4,5,6,7,8,9,10]),by kernel_rfl,.inl ?_⟩;refine⟨[x],rfl,?_⟩;refine⟨_,_,rfl,rfl,(by simp only[ad,al,am];omega),?_⟩;exact rx [] [.s 0,.s 1,.s 2,.s 3,.s 4,.s 9,.s 16,.s 14]
   ·rw[if_neg a];exact rx [] [.s 0,.s 1,.s 2,.s 3,.s 4,.s 9,.s 10,.s 14]
theorem MX{L:List Ob}{o:Ob}(h:L.length<=600):(aB L o).2.2.length<=600:=by
 unfold aB;split
 ·exact h
 split
 ·exact h
 split
 ·exact h
 split
 ·exact h
 ·simp only[ad,a0];omega
theorem LM{L:List Ob}(a:ak L)(hn:L.length<=600)(base x y:Fi):ak (jL L base x y)/\(jL L base x y).length<=600:=by
 unfold jL;split
 ·exact⟨a,hn⟩
 ·exact⟨jP a _,MX hn⟩
structure BS where
 L:List Ob
 out:List Fi
 cf:List (List UInt8)
 code:Int
def jT(base x y:List Fi)(s:BS)(q:List UInt8):BS:=
 let f:=(eC base q).1
 let g:=(eC x q).1
 let h:=(eC y q).1
 ⟨lC s.L f g h,iF s.out (pN s.L f g h q),mo s.L s.cf f g h q,rA s.L s.code f g h⟩
structure qd(s:BS)(n:Nat):Prop where
 L:ak s.L
 sz:s.L.length<=600
 out:s.out.length<=n
 cf:s.cf.length<=n
theorem OH{base x y:List Fi}{s:BS}{n:Nat}(h:qd s n)(q:List UInt8):qd (jT base x y s q) (n+1):=by
 have a:∀f g k,ak (lC s.L f g k)/\(lC s.L f g k).length<=600:=λf g k=>by
  unfold lC;split
  ·exact⟨h.L,h.sz⟩
  split
  ·exact⟨h.L,h.sz⟩
  exact LM h.L h.sz _ _ _
 have b:∀f,(iF s.out f).length<=n+1:=λf=>by
  have:=h.out;unfold iF;split
  ·simp only[ad,a0];omega
  ·omega
 have c:∀f g k q,(mo s.L s.cf f g k q).length<=n+1:=λf g k q=>by
  have:=h.cf;unfold mo;split
  ·omega
  split
  ·omega
  split
  ·omega
  ·simp only[ad,a0];omega
 exact⟨(a _ _ _).1,(a _ _ _).2,b _,c _ _ _ _⟩
def da(base x y:List Fi)(s:BS)(a:List (List UInt8)):BS:=a.foldl (jT base x y) s
theorem ye{base x y:List Fi}:∀(a:List (List UInt8)) {s:BS} {n:Nat},qd s n->qd (da base x y s a) (n+a.length)
 |[],s,n,h=>h
 |q::a,s,n,h=>by
  have:=ye (base:=base) (x:=x) (y:=y) a (OH (base:=base) (x:=x) (y:=y) h q);rw[al,show n+(a.length+1)=n+1+a.length by omega];exact this
theorem NN{base x y:List Fi}{s:BS}{a:List (List UInt8)}{i:Nat}(h:i<a.length):da base x y s (a.take (i+1))=jT base x y (da base x y s (a.take i)) a[i]:=by
 unfold da;rw[List.take_succ_eq_append_getElem h,List.foldl_append];rfl
def eD:List (List Fi)->Int
 |[]=>0
 |l::r=>if cu l≠0 then cu l else eD r
def fo(L:List Ob)(base x y:List Fi):BS:=
 if eD [base,x,y]≠0 then⟨L,[],[],eD [base,x,y]⟩
 else
  let s:=da base x y ⟨L,[],[],0⟩ (dE [base,x,y])
  let c:=if s.code=0 then cu s.out else s.code
  if c≠0 then⟨s.L,[],[],c⟩else⟨s.L,s.out,s.cf,0⟩
theorem sQ:∀(l:List (List UInt8)) (p:Option (List UInt8)),(eO p l).Sublist l
 |[],p=>.slnil
 |x::l,p=>by
  rw[eO];split
  ·exact(sQ l _).cons _
  ·exact(sQ l _).cons_cons _
theorem DN(ls:List (List Fi)):(dE ls).length<=ls.flatten.length:=by
 rw[<-yB];refine a1 (sQ _ _).length_le ?_;unfold jS;rw[List.length_mergeSort,List.length_map];exact a3 _
theorem xS{ls:List (List Fi)}{q:List UInt8}(h:q∈dE ls):∃l∈ls,∃f∈l,f.path=q:=by
 rw[<-yB]at h;have h:=(sQ _ _).mem h;unfold jS at h;rw[(List.mergeSort_perm _ _).mem_iff]at h;obtain⟨f,c,rfl⟩:=List.mem_map.1 h;obtain⟨l,a,b⟩:=List.mem_flatten.1 c;exact⟨l,a,f,b,rfl⟩
theorem zI{l:List Fi}{p:List UInt8}(h:∀f∈l,f.path.length<=4000000):(eC l p).1.path.length<=4000000:=by
 rcases Gf l p with⟨e,_⟩|⟨e,_⟩
 ·rw[show(eC l p).1=du from e];exact a4 _
 ·exact h _ e
theorem LL{L:List Ob}{b x y:Fi}{q:List UInt8}(hq:q.length<=4000000):(jK L b x y q).1.path.length<=4000000:=by
 unfold jK;split
 ·exact a4 _
 ·exact hq
theorem MP{L:List Ob}{b x y:Fi}{q:List UInt8}(a:x.path.length<=4000000)(hy:y.path.length<=4000000)(hq:q.length<=4000000):(pN L b x y q).path.length<=4000000:=by
 unfold pN;repeat' split
 all_goals first|exact a|exact hy|exact LL hq
theorem yf{base x y:List Fi}(c:∀f∈x,f.path.length<=4000000)(hy:∀f∈y,f.path.length<=4000000):∀(a:List (List UInt8)) (s:BS),(∀q∈a,q.length<=4000000)->(∀f∈s.out,f.path.length<=4000000)->∀f∈(da base x y s a).out,f.path.length<=4000000
 |[],s,_,h=>h
 | q :: a, s, b, h => yf c hy a (jT base x y s q) (λr d => b r (by simp [d])) (λf hf=>by
  have hf:f∈iF s.out (pN s.L (eC base q).1 (eC x q).1 (eC y q).1 q):=hf;unfold iF at hf;split at hf
  ·rcases List.mem_append.1 hf with hf|hf
   ·exact h f hf
   ·rw[List.mem_singleton]at hf;rw[hf];exact MP (zI c) (zI hy) (b q (by simp))
  ·exact h f hf)
theorem G0(L:List Ob)(Z:ak L)(hn:L.length<=600)(base x y:List Fi)(o:∀l∈[base,x,y],∀f∈l,f.path.length<=4000000):
  aa Tryz.prog 211 [.c (.ptr 0 0),.c (.ls 4 Fi aq base),.c (.ls 4 Fi aq x),.c (.ls 4 Fi aq y)] [.box [.rw 1],.row 6 Ob an L] (Rt (.ao [(false,[.rw 3]),(false,[.rw 4]),(false,[.int .i64 (fo L base x y).code])]) [.box [.rw 2],.dead,.row 6 Ob an (fo L base x y).L,.row 4 Fi aq (fo L base x y).out,.row 1 (List UInt8) encS (fo L base x y).cf]):=by
 have c1:=pf base (o _ (by simp));have c2:=pf x (o _ (by simp));have c3:=pf y (o _ (by simp));refine af (n:=106) (n0:=2) tabOk Tryz.call211 Tryz.func211 ?_;intro hb;refine⟨[base,x,y],rfl,?_⟩;refine lp Nat (λi=>⟨[(0,.c (.ptr 0 0)),(1,.c (.ls 4 Fi aq base)),(2,.c (.ls 4 Fi aq x)),(3,.c (.ls 4 Fi aq y)),(26,.c (.rw 2)),(27,.c (.int .i64 3)),(28,.c (.int .i64 i))],[.box [.rw 1],.row 6 Ob an L,.row 1 (List Fi) (bM 4 aq) [base,x,y]]⟩) (λi=>i<=3/\eD [base,x,y]=eD ([base,x,y].drop i)) (λi=>3-i) 0 [] [.s 0,.s 1,.s 2] ⟨a4 _,rfl⟩ ?_ (λi v=>?_)
 ·repeat' first|exact trivial|exact rfl|refine And.intro ?_ ?_
 obtain⟨v,d⟩:=v;refine dec (λp=>?_) (λp=>?_)
 ·have a:i<[base,x,y].length:=by show i<3;omega
  have j:[base,x,y][i]? =some [base,x,y][i]:=a2 a;have O:=List.drop_eq_getElem_cons a;have w:=o [base,x,y][i] (a5 a);generalize [base,x,y][i]=l at j O w;rw[O]at d;have d:eD [base,x,y]=if cu l≠0 then cu l else eD ([base,x,y].drop (i+1)):=d
  refine⟨i,⟨rfl,a⟩,?_⟩;refine⟨l,j,?_⟩;refine cl [] [] (pf l w) ?_;refine ay (λm=>?_) (λm=>?_)
  ·rw[if_pos m]at d;have e:fo L base x y=⟨L,[],[],cu l⟩:=by unfold fo;rw[d,if_pos m]
   rw[e];exact rx [] [.s 0,.s 1,.s 1,.new,.new]
  ·rw[if_neg (λh=>h m)]at d;repeat'(refine I6 ?_)
   refine ag (i+1) [] [.s 0,.s 1,.s 2] ⟨a,d⟩ (by simp only[];omega) ?_;repeat' first|exact trivial|exact rfl|refine And.intro ?_ ?_
 have Y:i=3:=by omega
 subst Y;have U:eD [base,x,y]=0:=d
 have u:[base,x,y].flatten.length<=1000:=by
  have z:∀l,cu l=0->l.length<=60:=λl h=>by
   refine ap λN=>?_;unfold cu at h;rw[if_pos (by omega)]at h;exact absurd h (by decide)
  have K:cu base=0:=ap λh=>by
   have:eD [base,x,y]=cu base:=if_pos h;omega
  have e1:eD [base,x,y]=eD [x,y]:=if_neg (λh=>h K)
  have M:cu x=0:=ap λh=>by
   have:eD [x,y]=cu x:=if_pos h;omega
  have e2:eD [x,y]=eD [y]:=if_neg (λh=>h M)
  have S:cu y=0:=ap λh=>by
   have:eD [y]=cu y:=if_pos h;omega
  have z1:=z _ K;have z2:=z _ M;have z3:=z _ S;simp only[ar,List.flatten_nil,ad,am];omega
 have u1:=Pu [base,x,y] u o;refine⟨[base,x,y],rfl,?_⟩;refine cl [] [] (u1) ?_;(conv=>whnf)
 have D:∀q∈dE [base,x,y],q.length<=4000000:=λq E=>by
  obtain⟨l,W,f,N,rfl⟩:=xS E;exact o l W f N
 have ac:(dE [base,x,y]).length<=1000:=a1 (DN _) u;have H:qd ⟨L,[],[],0⟩ 0:=⟨Z,hn,a3 _,a3 _⟩;have T:fo L base x y=_:=if_neg (λh=>h U);rw[T];generalize dE [base,x,y]=b at*
 refine lp Nat (λi => ⟨[(1,.c (.ls 4 Fi aq base)),(2,.c (.ls 4 Fi aq x)),(3,.c (.ls 4 Fi aq y)),(14,.c (.ptr 2 0)),(45,.c (.rw 3)),(46,.c (.int .i64 b.length)),(47,.c (.int .i64 i))],
  [.box [.rw 6],.dead,.box [.ptr 0 0,.rw 4,.rw 5,.int .i64 (da base x y ⟨L,[],[],0⟩ (b.take i)).code],.row 1 (List UInt8) encS b,.row 4 Fi aq (da base x y ⟨L,[],[],0⟩ (b.take i)).out,.row 1 (List UInt8) encS (da base x y ⟨L,[],[],0⟩ (b.take i)).cf,.row 6 Ob an (da base x y ⟨L,[],[],0⟩ (b.take i)).L]⟩) (λi=>i<=b.length/\True) (λi=>b.length-i) 0 [] [.s 0,.s 1,.s 3,.s 5,.new,.new,.s 1] ⟨a4 _,trivial⟩ ?_ (λi v=>?_)
 ·repeat' first|exact trivial|exact rfl|refine And.intro ?_ ?_
 obtain⟨v,-⟩:=v;refine dec (λp=>?_) (λp=>?_)
 ·have a:i<b.length:=by have p:(i:Int)<b.length:=p;omega
  have j:b[i]? =some b[i]:=a2 a;have E:=D _ (a5 a);have t:=NN (base:=base) (x:=x) (y:=y) (s:=⟨L,[],[],0⟩) a;have g:=ye (base:=base) (x:=x) (y:=y) (b.take i) H;rw[List.length_take,Nat.min_eq_left (by omega)]at g;generalize b[i]=q at j E t;generalize da base x y ⟨L,[],[],0⟩ (b.take i)=s at t g⊢;obtain⟨P,F,Q,R⟩:=s;refine⟨i,⟨rfl,a⟩,?_⟩;refine⟨q,j,?_⟩;refine cl [] [] (find_spec base q) ?_;refine cl [] [] (find_spec x q) ?_;refine cl [] [] (find_spec y q) ?_;(conv=>whnf);have J:=g.out;have I:=g.cf;refine cl [] [2,0,6,4,5] (MM P g.L g.sz F (by simp only[]at J;omega) Q (by simp only[]at I;omega) R (eC base q).1 (eC x q).1 (eC y q).1 q E) ?_;repeat'(refine I6 ?_)
  refine ag (i+1) [] [.s 0,.s 1,.s 2,.s 3,.s 11,.s 12,.s 10] ⟨a,trivial⟩ (by simp only[];omega) ?_;rw[t];unfold jT;dsimp only;repeat' first|exact trivial|exact rfl|refine And.intro ?_ ?_
 obtain rfl:i=b.length:=by have p:¬(i:Int)<b.length:=p;omega
 rw[List.take_length];have k:=yf (base:=base) (o x (by simp)) (o y (by simp)) b ⟨L,[],[],0⟩ D (λf hf=>by cases hf);generalize da base x y ⟨L,[],[],0⟩ b=s at*;obtain⟨P,F,Q,R⟩:=s;have k:∀f∈F,f.path.length<=4000000:=k;dsimp only;refine dec (λm=>?_) (λm=>?_)
 ·rw[if_pos m];refine cl [] [] (pf F k) ?_;refine ay (λr=>?_) (λr=>?_)
  ·rw[if_pos r];refine⟨false,.grow,(.l [0,1,2,3,4,5,6]),by kernel_rfl,.inl ?_⟩;exact rx [] [.s 0,.s 1,.s 6,.new,.new]
  ·rw[if_neg (λh=>h r)];refine⟨false,.grow,(.l [0,1,2,3,4,5,6,7,8,9,10]),by kernel_rfl,.inl ?_⟩;exact rx [] [.s 0,.s 1,.s 6,.s 4,.s 5]
 ·rw[if_neg m];refine ay (λr=>?_) (λr=>absurd r m);rw[if_pos r];refine⟨false,.grow,(.l [0,1,2,3,4,5,6]),by kernel_rfl,.inl ?_⟩;exact rx [] [.s 0,.s 1,.s 6,.new,.new]
end Go.Nest
end
