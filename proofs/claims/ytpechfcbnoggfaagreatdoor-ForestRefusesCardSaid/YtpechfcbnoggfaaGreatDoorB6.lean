/- part -/
import Derived.Test.YtpechfcbnoggfaaGreatDoorB4
import Derived.Test.YtpechfcbnoggfaaGreatDoorLines4
import Derived.Test.YtpechfcbnoggfaaGreatDoorLinesMerge
set_option linter.unusedVariables false
set_option linter.unusedSimpArgs false
section
namespace Go.Nest
open Go Go.AM Go.Proofs
open Go.NB.L (linesOf merge go mix cut heldFrom pairs Ls)
open Go.Proofs.YtpechfcbnoggfaaGreatDoor (tab tabOk)
set_option maxRecDepth 4000
theorem qa:∀b:List UInt8,(linesOf b).flatten=b
 |[]=>rfl
 |x::r=>by
  have ih:=qa r;unfold linesOf;split
  ·rw[List.flatten_cons,ih,‹x=10›];rfl
  ·split
   ·rename_i h;rw[h]at ih;rw[←ih];rfl
   ·rename_i h;rw[h]at ih;rw[←ih];simp
theorem pF:∀{ls:List (List UInt8)} {x:List UInt8},x∈ls→x.length≤ls.flatten.length
 |y::r,x,h=>by
  rw[List.flatten_cons,List.length_append];rcases List.mem_cons.1 h with rfl|h
  ·omega
  ·have:=pF h;omega
theorem w4{B:Nat}:∀{ls:List (List UInt8)},(∀x∈ls,x.length≤B)→ls.flatten.length≤ls.length*B
 |[],_=>by simp
 |y::r,h=>by
  rw[List.flatten_cons,List.length_append,List.length_cons,Nat.succ_mul];have h1:=h y (by simp);have h2:=w4 (ls:=r) fun x hx=>h x (by simp[hx]);omega
theorem pv(l:Ls)(i n:Nat):(cut l i n).length≤l.length:=by unfold cut;rw[List.length_drop,List.length_take];omega
theorem pw{l:Ls}{i n:Nat}{x:List UInt8}(h:x∈cut l i n):x∈l:=List.mem_of_mem_take (List.mem_of_mem_drop h)
theorem tH{old one two seg:Ls}(h:mix old one two=some seg):seg=one∨seg=two:=by
 unfold mix at h;split at h
 ·exact .inr (Option.some.inj h).symm
 ·split at h
  ·exact .inl (Option.some.inj h).symm
  ·cases h
theorem xp{base a b:Ls}{N:Nat}(ha:a.length≤N)(hb:b.length≤N):∀(hs:List (Nat×Nat×Nat)) (i j k:Nat) (l:Ls),go base a b hs i j k=some l→l.length≤(hs.length+1)*(N+1)∧∀x∈l,x∈base∨x∈a∨x∈b
 |[],i,j,k,l,h=>by
  rcases tH h with rfl|rfl
  ·exact⟨by have:=pv a j a.length;simp only[List.length_nil];omega,fun x hx=>.inr (.inl (pw hx))⟩
  ·exact⟨by have:=pv b k b.length;simp only[List.length_nil];omega,fun x hx=>.inr (.inr (pw hx))⟩
 |(n,p,q)::hs,i,j,k,l,h=>by
  unfold go at h;split at h
  ·cases h
  ·rename_i seg hm;obtain⟨r,hr,rfl⟩:=Option.map_eq_some_iff.1 h;obtain⟨h1,h2⟩:=xp ha hb hs _ _ _ r hr
   have hsl:seg.length≤N:=by
    rcases tH hm with rfl|rfl
    ·have:=pv a j p;omega
    ·have:=pv b k q;omega
   have hol:(base[n]?.toList).length≤1:=by cases base[n]? <;>simp
   refine⟨?_,fun x hx=>?_⟩
   ·rw[List.length_append,List.length_append,List.length_cons,Nat.succ_mul];omega
   ·rcases List.mem_append.1 hx with hx|hx
    ·rcases List.mem_append.1 hx with hx|hx
     ·rcases tH hm with rfl|rfl
      ·exact .inr (.inl (pw hx))
      ·exact .inr (.inr (pw hx))
     ·refine .inl ?_;rw[Option.mem_toList]at hx;exact List.mem_of_getElem? hx
    ·exact h2 x hx
theorem C6(x y:List (Nat×Nat))(len:Nat):(heldFrom x y len 0).length≤len:=by
 unfold heldFrom;refine Nat.le_trans (List.length_filterMap_le _ _) ?_;rw[List.length_range'];omega
theorem Ex{x y z:List UInt8}(hx:x.length≤400)(hy:y.length≤400)(hz:z.length≤400){l:Ls}(h:merge (linesOf x) (linesOf y) (linesOf z)=some l):l.length≤160801∧l.flatten.length≤64320400:=by
 have lx:=Go.NB.L.lC x;have ly:=Go.NB.L.lC y;have lz:=Go.NB.L.lC z;obtain⟨h1,h2⟩:=xp (N:=400) (by omega) (by omega) _ _ _ _ _ h;have h3:=C6 (pairs (linesOf x) (linesOf y) 0 0) (pairs (linesOf x) (linesOf z) 0 0) (linesOf x).length;have h4:l.length≤401*401:=Nat.le_trans h1 (Nat.mul_le_mul (by omega) (Nat.le_refl _))
 have h5:∀u∈l,u.length≤400:=fun u hu=>by
  rcases h2 u hu with h|h|h
  ·have:=pF h;rw[qa]at this;omega
  ·have:=pF h;rw[qa]at this;omega
  ·have:=pF h;rw[qa]at this;omega
 have h6:=w4 h5;omega
theorem tw(b:List UInt8)(hn:b.length≤1000000):ae Tryz.prog 345 [.c (.ls 1 UInt8 bA b)] [] (Rt (.c (dq (linesOf b))) []):=
 ae.lines fun hb hM=>Go.Proofs.YtpechfcbnoggfaaGreatDoor.lines hb hM hn
theorem Ew(x y z:Ls)(hx:x.length≤1000)(hy:y.length≤1000)(hz:z.length≤1000):ae Tryz.prog 344 [.c (dq x),.c (dq y),.c (dq z)] [] (fun o ah=>ah=[]∧((∃l,merge x y z=some l∧o= .ret (.tup [(false,[dq l]),(false,[.bool true])]))∨(merge x y z=none∧o= .ret (.tup [(false,[dq []]),(false,[.bool false])])))):=
 ae.merge fun hs ha hb hM=>Go.Proofs.YtpechfcbnoggfaaGreatDoor.merge hs ha hb hM hx hy hz|>.mono fun u H' h=>by
  rcases h with⟨v,l,h1,h2,h3,h4⟩|h
  ·exact .inl ⟨v,l,h1,h2,h3,h4⟩
  ·exact .inr h
end Go.Nest
end
section
namespace Go.Nest
open Go Go.AM Go.Proofs
open Go.NB.L (linesOf merge)
open Go.Proofs.YtpechfcbnoggfaaGreatDoor (tab tabOk)
set_option maxRecDepth 4000
def lH(L:List Ob)(base x y:Fi):Option (List UInt8):=
 if x.mode≠1∨y.mode≠1∨base.mode=3 then none
 else(merge (linesOf (ix L base)) (linesOf (ix L x)) (linesOf (ix L y))).bind fun l=>if 400<l.flatten.length then none else some l.flatten
def jv(b:List UInt8):Ob:=⟨1,b,[],0,[],[]⟩
def gY(L:List Ob)(base x y:Fi)(p:List UInt8):Fi×Bool:=match lH L base x y with
 |none=>(jf,false)
 |some b=>(⟨p,1,(aA L (jv b)).1,0⟩,true)
def iI(L:List Ob)(base x y:Fi):List Ob:=match lH L base x y with
 |none=>L
 |some b=>(aA L (jv b)).2.2
def lG(L:List Ob)(code:Int)(base x y:Fi):Int:=match lH L base x y with
 |none=>code
 |some b=>if(aA L (jv b)).2.1≠0∧code=0 then(aA L (jv b)).2.1 else code
theorem rO{L:List Ob}(hL:aj L)(f:Fi):(ix L f).length≤400:=by
 unfold ix;split
 ·simp
 ·by_cases h:kindOf L f.id=0
  ·rw[hL.kz h];show 0≤400;omega
  ·have:=(hL.get h).bytes;omega
theorem oe{L:List Ob}{base x y:Fi}{p:List UInt8}{code:Int}(e:lH L base x y=none):gY L base x y p=(jf,false)∧iI L base x y=L∧lG L code base x y=code:=by
 unfold gY iI lG;rw[e];exact⟨rfl,rfl,rfl⟩
theorem EE{L:List Ob}{base x y:Fi}{p b:List UInt8}{code:Int}(e:lH L base x y=some b):gY L base x y p=(⟨p,1,(aA L (jv b)).1,0⟩,true)∧iI L base x y=(aA L (jv b)).2.2∧lG L code base x y=if(aA L (jv b)).2.1≠0∧code=0 then(aA L (jv b)).2.1 else code:=by
 unfold gY iI lG;rw[e];exact⟨rfl,rfl,rfl⟩
theorem EF(L:List Ob)(hL:aj L)(hn:L.length≤600)(out:List Fi)(cf:List (List UInt8))(code:Int)(base x y:Fi)(p:List UInt8)(hp:p.length≤4000000):
  ae Tryz.prog 327 [.c (.ptr 0 0),.c (.str p),.st (aw base),.st (aw x),.st (aw y)] [.box [.ptr 1 0,.rw 3,.rw 4,.int .i64 code],.box [.rw 2],.row 6 Ob an L,.row 4 Fi aw out,.row 1 (List UInt8) encS cf] (Rt (.tup [(true,aw (gY L base x y p).1),(false,[.bool (gY L base x y p).2])]) [.box [.ptr 1 0,.rw 6,.rw 7,.int .i64 (lG L code base x y)],.box [.rw 5],.dead,.dead,.dead,.row 6 Ob an (iI L base x y),.row 4 Fi aw out,.row 1 (List UInt8) encS cf]):=by
 refine ao (n:=83) (n0:=5) tabOk Tryz.call327 Tryz.func327 ?_;intro hb;(conv=>whnf);refine av (fun h1=>?_) (fun h1=>?_)
 ·(conv=>whnf);obtain⟨e1,e2,e3⟩:=oe (L:=L) (base:=base) (x:=x) (y:=y) (p:=p) (code:=code) (if_pos (.inl h1));rw[e1,e2,e3];(conv=>whnf);exact rx [] [.same 0,.same 1,.same 2,.same 3,.same 4,.same 2,.same 3,.same 4]
 (conv=>whnf);refine av (fun h2=>?_) (fun h2=>?_)
 ·(conv=>whnf);obtain⟨e1,e2,e3⟩:=oe (L:=L) (base:=base) (x:=x) (y:=y) (p:=p) (code:=code) (if_pos (.inr (.inl h2)));rw[e1,e2,e3];(conv=>whnf);exact rx [] [.same 0,.same 1,.same 2,.same 3,.same 4,.same 2,.same 3,.same 4]
 (conv=>whnf);refine dec (fun h3=>?_) (fun h3=>?_)
 ·(conv=>whnf);obtain⟨e1,e2,e3⟩:=oe (L:=L) (base:=base) (x:=x) (y:=y) (p:=p) (code:=code) (if_pos (.inr (.inr h3)));rw[e1,e2,e3];(conv=>whnf);exact rx [] [.same 0,.same 1,.same 2,.same 3,.same 4,.same 2,.same 3,.same 4]
 have e0:lH L base x y=_:=if_neg (fun h=>h.elim (fun h=>h h1) (fun h=>h.elim (fun h=>h h2) h3));have b1:=rO hL base;have b2:=rO hL x;have b3:=rO hL y;have p1:=rR L hL out cf code base;have p2:=rR L hL out cf code x;have p3:=rR L hL out cf code y;generalize ix L base=tb at*;generalize ix L x=tx at*;generalize ix L y=ty at*;have q1:=tw tb (by omega);have q2:=tw tx (by omega);have q3:=tw ty (by omega);have lx:=Go.NB.L.lC tb;have ly:=Go.NB.L.lC tx;have lz:=Go.NB.L.lC ty;have mb:=fun l=>Ex (l:=l) b1 b2 b3;have q4:=Ew (linesOf tb) (linesOf tx) (linesOf ty) (by omega) (by omega) (by omega);(conv=>whnf);refine⟨false,.grow,(.l [0,1,4,5,8,9,2,3,6,7,10,11,12,13,14,15,16,17]),by kernel_rfl,.inl ?_⟩;(conv=>whnf);refine cl [] [] (p1) ?_;(conv=>whnf);refine cl [] [] (q1) ?_;(conv=>whnf);refine cl [] [] (p2) ?_;(conv=>whnf);refine cl [] [] (q2) ?_;(conv=>whnf);refine cl [] [] (p3) ?_;(conv=>whnf);refine cl [] [] (q3) ?_;(conv=>whnf);cases hm:merge (linesOf tb) (linesOf tx) (linesOf ty)with
 |none=>
  have q5:ae Tryz.prog 344 [.c (dq (linesOf tb)),.c (dq (linesOf tx)),.c (dq (linesOf ty))] [] (Rt (.tup [(false,[dq []]),(false,[.bool false])]) []):=q4.mono fun o ah ⟨a1,a2⟩=>by
   rw[hm]at a2;rcases a2 with⟨l,a3,a4⟩|⟨a3,a4⟩
   ·cases a3
   ·exact⟨a4,a1⟩
  rw[hm]at e0;have q6:=vK [] (by simp) (by simp);refine cl [] [] (q5) ?_;(conv=>whnf);refine cl [] [] (q6) ?_;(conv=>whnf);obtain⟨e1,e2,e3⟩:=oe (L:=L) (base:=base) (x:=x) (y:=y) (p:=p) (code:=code) (e0);rw[e1,e2,e3];(conv=>whnf);exact rx [] [.same 0,.same 1,.same 2,.same 3,.same 4,.same 2,.same 3,.same 4]
 |some l=>
  have q5:ae Tryz.prog 344 [.c (dq (linesOf tb)),.c (dq (linesOf tx)),.c (dq (linesOf ty))] [] (Rt (.tup [(false,[dq l]),(false,[.bool true])]) []):=q4.mono fun o ah ⟨a1,a2⟩=>by
   rw[hm]at a2;rcases a2 with⟨l',a3,a4⟩|⟨a3,a4⟩
   ·cases a3;exact⟨a4,a1⟩
   ·cases a3
  obtain⟨n1,n2⟩:=mb l hm;rw[hm]at e0;have q6:=vK l (by omega) (by omega);have e0:lH L base x y=if 400<l.flatten.length then none else some l.flatten:=e0
  generalize l.flatten=al at*;refine cl [] [] (q5) ?_;(conv=>whnf);refine cl [] [] (q6) ?_;(conv=>whnf);refine dec (fun h4=>?_) (fun h4=>?_)
  ·have h4:(400:Int)<al.length:=h4;(conv=>whnf);obtain⟨e1,e2,e3⟩:=oe (L:=L) (base:=base) (x:=x) (y:=y) (p:=p) (code:=code) (e0.trans (if_pos (by omega)));rw[e1,e2,e3];(conv=>whnf);exact rx [] [.same 0,.same 1,.same 2,.same 3,.same 4,.same 2,.same 3,.same 4]
  have h4:¬(400:Int)<al.length:=h4;obtain⟨e1,e2,e3⟩:=EE (L:=L) (base:=base) (x:=x) (y:=y) (p:=p) (code:=code) (e0.trans (if_neg (by omega)));rw[e1,e2,e3];have p5:=oB L (jv al) hn;generalize aA L (jv al)=R at*;obtain⟨id,c,L2⟩:=R;dsimp only at p5⊢;(conv=>whnf);refine cl [] [1,2] (p5) ?_;(conv=>whnf);refine av (fun h5=>?_) (fun h5=>?_)
  ·(conv=>whnf);refine dec (fun h6=>?_) (fun h6=>?_)
   ·rw[if_pos ⟨h5,h6⟩];(conv=>whnf);exact rx [] [.same 0,.same 1,.same 2,.same 3,.same 4,.same 9,.same 3,.same 4]
   ·rw[if_neg (fun h=>h6 h.2)];(conv=>whnf);exact rx [] [.same 0,.same 1,.same 2,.same 3,.same 4,.same 9,.same 3,.same 4]
  ·rw[if_neg (fun h=>h.1 h5)];(conv=>whnf);exact rx [] [.same 0,.same 1,.same 2,.same 3,.same 4,.same 9,.same 3,.same 4]
end Go.Nest
end
