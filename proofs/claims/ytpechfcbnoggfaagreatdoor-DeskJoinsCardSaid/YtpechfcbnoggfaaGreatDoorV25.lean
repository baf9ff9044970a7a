import Derived.Test.YtpechfcbnoggfaaGreatDoorAmH
import Derived.Test.YtpechfcbnoggfaaGreatDoorK17
import Derived.Test.YtpechfcbnoggfaaGreatDoorD23
import Derived.Test.YtpechfcbnoggfaaGreatDoorN7
import Derived.Test.YtpechfcbnoggfaaGreatDoorB9
import Derived.Test.YtpechfcbnoggfaaGreatDoorW4
import Derived.Test.YtpechfcbnoggfaaGreatDoorV36
set_option maxHeartbeats 16000000
set_option linter.unusedVariables false
set_option linter.unusedSimpArgs false
open Decidable renaming not_not->cr
open Int renaming le_refl->cp
open List renaming getElem?_eq_getElem->ah,prefix_refl->ap,length_append->ar,take_succ_eq_append_getElem->a1,length_filter_le->a4,length_cons->a5,take_length->a6,length_take->a9,length_nil->bb,append_nil->be,mem_of_mem_take->bk,range->bl,mem_cons->bn,flatMap_append->br,mem_map->b1,append_assoc->b2,getElem_mem->b4,foldl_cons->cb,mem_append->cd,range_succ->ce,length_map->ch,nil_append->ci
open List.IsPrefix renaming trans->cq
open Nat renaming zero_le->a0,le_trans->a2,le_refl->a3,beq->bi,blt->bj,le_succ->b3,lt_irrefl->co
section
namespace Go.Nest
open Go Go.AM
structure bU(s:FS):Prop where
 pool:ak s.L
 ef:gf s.b
 own:∀k,k<4->(s.o k).length<=1000000
 sort:∀k,k<4->fa (s.n k)
 ids:∀k,k<4->∀x∈s.n k,0<=x.id
 few:∀k,k<4->(s.n k).length<=8
 moves:∀k,k<4->(s.m k).length<=990
 paths:∀k,k<4->∀y∈s.w k,y.path.length<=4000000
 items:∀k,k<4->(s.w k).length<=60
 bytes:∀k,k<4->∀y∈s.w k,y.bytes.length<=400
 head:∀k,k<4->iE s.L (s.h k)
def aK(s:FS)(r:Int)(name:List UInt8):Int×Int:=if bC r=false then(0,1)else if cm (s.n r.toNat) name<0 then(0,9)else(cm (s.n r.toNat) name,0)
def ew(l:List Rf):List Rf×List Mv:=l.foldl (λp y=>(aY p.1 y.name (-1) y.id,fZ p.1 p.2 y.name (-1) y.id)) ([],[])
def dW(l:List Rf)(name:List UInt8):Int:=dN (ew l).1 name (cm (ew l).1 name) 600
def gX(s:FS)(r:Nat)(name:List UInt8)(id:Int):Int:=dN (s.n r) name (cm (s.n r) name) id
def iA(s:FS)(r:Nat)(name:List UInt8)(id:Int):FS:=s.lD r (aY (s.n r) name (cm (s.n r) name) id) (fZ (s.n r) (s.m r) name (cm (s.n r) name) id)
noncomputable def j9(s:FS)(r:Nat)(id:Int):FS:=s.dm (dS s.L s.o s.b r [id])
def gp(s:FS)(r:Nat)(name:List UInt8)(id:Int):Int:=if gX s r name id≠0/\gX s r name id≠17 then gX s r name id else dd s.L r [id]
noncomputable def eG(s:FS)(r:Nat)(name:List UInt8)(id:Int):FS:=if gX s r name id≠0/\gX s r name id≠17 then iA s r name id else j9 (iA s r name id) r id
def rX(s:FS)(r:Nat)(p b:List UInt8):cz:=bO 0 (iC (s.w r) p b).1
def rY(s:FS)(r:Nat)(p b:List UInt8):FS:=s.cC r s.L (iC (s.w r) p b).2 (s.h r)
def ui(s:FS)(r:Nat)(p:List UInt8):cz:=bO 0 (iI (s.w r) p).1
def uj(s:FS)(r:Nat)(p:List UInt8):FS:=s.cC r s.L (iI (s.w r) p).2 (s.h r)
def ra(s:FS)(r:Nat)(q:Int)(p name:List UInt8):cz:=if(aK s q name).2≠0 then⟨(aK s q name).2,0,[]⟩else bO (aK s q name).1 (gS s.L (s.w r) p q (aK s q name).1).1
def ow(s:FS)(r:Nat)(q:Int)(p name:List UInt8):FS:=if(aK s q name).2≠0 then s else s.cC r s.L (gS s.L (s.w r) p q (aK s q name).1).2 (s.h r)
def cH(s:FS)(r:Nat)(text:List UInt8)(others:List Int):FS:=s.cC r (bg s.L (s.w r) (s.h r) text others).2.2 (s.w r) (l8 s.L (s.w r) (s.h r) text others)
def o8(s:FS)(r:Nat)(name text:List UInt8):cz:=
 if dW (s.n r) name≠0 then⟨dW (s.n r) name,0,[]⟩else
 if(bg s.L (s.w r) (s.h r) text []).2.1≠0 then⟨(bg s.L (s.w r) (s.h r) text []).2.1,0,[]⟩else
 bO (bg s.L (s.w r) (s.h r) text []).1 (gp (cH s r text []) r name (bg s.L (s.w r) (s.h r) text []).1)
noncomputable def na(s:FS)(r:Nat)(name text:List UInt8):FS:=
 if dW (s.n r) name≠0 then s else
 if(bg s.L (s.w r) (s.h r) text []).2.1≠0 then cH s r text []else
 eG (cH s r text []) r name (bg s.L (s.w r) (s.h r) text []).1
def rq(s:FS)(r:Nat)(id:Int):cz:=bO id (fe s.L (s.w r) (s.h r) id)
def jM(s:FS)(r:Nat)(id:Int):FS:=s.cC r (kl s.L (s.w r) id) (lQ s.L (s.w r) (s.h r) id) (kV s.L (s.w r) (s.h r) id)
def qz(s:FS)(r:Nat)(name:List UInt8):cz:=if(aK s r name).2≠0 then⟨(aK s r name).2,0,[]⟩else rq s r (aK s r name).1
def oa(s:FS)(r:Nat)(name:List UInt8):FS:=if(aK s r name).2≠0 then s else jM s r (aK s r name).1
def bu(L:List Ob)(id:Int):List Fi×Int:=if id<0 then([],0)else bq L (aj L id).tree
def qv(s:FS)(r:Nat)(name:List UInt8):cz:=if s.h r<0 then⟨9,0,[]⟩else bO (s.h r) (gX s r name (s.h r))
def n5(s:FS)(r:Nat)(name:List UInt8):FS:=if s.h r<0 then s else iA s r name (s.h r)
def qJ(s:FS)(r:Nat)(name:List UInt8):cz:=if(aK s r name).2≠0 then⟨(aK s r name).2,0,[]⟩else bO (aK s r name).1 (dN (s.n r) name (aK s r name).1 (-1))
def od(s:FS)(r:Nat)(name:List UInt8):FS:=if(aK s r name).2≠0 then s else s.lD r (aY (s.n r) name (aK s r name).1 (-1)) (fZ (s.n r) (s.m r) name (aK s r name).1 (-1))
noncomputable def sT(s:FS)(r:Nat)(q:Int)(name:List UInt8):cz:=
 if(aK s q name).2≠0 then⟨(aK s q name).2,0,[]⟩else if dW (s.n r) name≠0 then⟨dW (s.n r) name,0,[]⟩else
 if fO s.L s.dep r q (aK s q name).1≠0 then⟨fO s.L s.dep r q (aK s q name).1,0,[]⟩else
 bO (aK s q name).1 (gp (s.dm (di s.L s.o s.b r q (aK s q name).1)) r name (aK s q name).1)
noncomputable def pd(s:FS)(r:Nat)(q:Int)(name:List UInt8):FS:=
 if(aK s q name).2≠0 then s else if dW (s.n r) name≠0 then s else
 if fO s.L s.dep r q (aK s q name).1≠0 then s.dm (di s.L s.o s.b r q (aK s q name).1)else
 eG (s.dm (di s.L s.o s.b r q (aK s q name).1)) r name (aK s q name).1
def sA(s:FS)(r:Nat)(q:Int):cz:=bO 0 (dT s.b r q)
def sB(s:FS)(r:Nat)(q:Int):FS:=s.Ez (cL s.b r q)
def uy(s:FS)(r:Nat)(p name:List UInt8):cz:=
 if s.h r<0 then⟨9,0,[]⟩else if dW (s.n r) name≠0 then⟨dW (s.n r) name,0,[]⟩else
 if(bY s.L (s.h r) p).2.1≠0 then⟨(bY s.L (s.h r) p).2.1,0,[]⟩else
 bO (bY s.L (s.h r) p).1 (gp (s.aY (bY s.L (s.h r) p).2.2) r name (bY s.L (s.h r) p).1)
noncomputable def pZ(s:FS)(r:Nat)(p name:List UInt8):FS:=
 if s.h r<0 then s else if dW (s.n r) name≠0 then s else
 if(bY s.L (s.h r) p).2.1≠0 then s.aY (bY s.L (s.h r) p).2.2 else
 eG (s.aY (bY s.L (s.h r) p).2.2) r name (bY s.L (s.h r) p).1
def iz(s:FS)(r:Nat):List Int:=kx (s.m r)++(if 0<=s.h r then[s.h r]else[])
def nF(l:List It)(q:Nat):List Int:=((fy l).filter λf=>decide (f.ax=(q:Int))).map (·.id)
def iJ(s:FS)(q:Nat):List Int:=iz s q++(nF (s.w 0) q++(nF (s.w 1) q++(nF (s.w 2) q++nF (s.w 3) q)))
noncomputable def rS(s:FS):FS:=s.dm (jk s.L s.o s.b (iJ s))
def a7(s:FS)(r:Nat)(base id:Int):BS:=fo s.L (bu s.L base).1 (bu s.L (s.h r)).1 (bu s.L id).1
def dQ(s:FS)(r:Nat)(l:List Fi):FS:=s.cC r (cG s.L l).2.2 (me s.L (s.w r) l) (s.h r)
def eH:List UInt8:=[109,101,114,103,101]
def tM(s:FS)(r:Nat)(id:Int):cz:=
 if(bg s.L (s.w r) (s.h r) eH [id]).2.1≠0 then⟨(bg s.L (s.w r) (s.h r) eH [id]).2.1,0,[]⟩else
 bO (bg s.L (s.w r) (s.h r) eH [id]).1 (dd (cH s r eH [id]).L r [(bg s.L (s.w r) (s.h r) eH [id]).1])
noncomputable def pJ(s:FS)(r:Nat)(id:Int)(l:List Fi):FS:=
 if(bg s.L (s.w r) (s.h r) eH [id]).2.1≠0 then dQ (cH s r eH [id]) r l else
 j9 (cH s r eH [id]) r (bg s.L (s.w r) (s.h r) eH [id]).1
def mm(s:FS)(r:Nat)(base id:Int):cz:=
 if(bu s.L base).2≠0 then⟨(bu s.L base).2,0,[]⟩else if(bu s.L (s.h r)).2≠0 then⟨(bu s.L (s.h r)).2,0,[]⟩else if(bu s.L id).2≠0 then⟨(bu s.L id).2,0,[]⟩else
 if(a7 s r base id).code≠0 then⟨(a7 s r base id).code,0,[]⟩else if 0<(a7 s r base id).cf.length then⟨10,0,(a7 s r base id).cf⟩else
 if kA (a7 s r base id).L (a7 s r base id).out≠0 then⟨kA (a7 s r base id).L (a7 s r base id).out,0,[]⟩else
 tM (dQ (s.aY (a7 s r base id).L) r (a7 s r base id).out) r id
noncomputable def jg(s:FS)(r:Nat)(base id:Int):FS:=
 if(bu s.L base).2≠0 then s else if(bu s.L (s.h r)).2≠0 then s else if(bu s.L id).2≠0 then s else
 if(a7 s r base id).code≠0 then s.aY (a7 s r base id).L else if 0<(a7 s r base id).cf.length then s.aY (a7 s r base id).L else
 if kA (a7 s r base id).L (a7 s r base id).out≠0 then dQ (s.aY (a7 s r base id).L) r (a7 s r base id).out else
 pJ (dQ (s.aY (a7 s r base id).L) r (a7 s r base id).out) r id (bu s.L (s.h r)).1
def mX(s:FS)(r:Nat):Int:=il s.L (s.w r) (s.h r)
def cZ(s:FS)(r:Nat):FS:=s.aY (bz s.L (s.w r)).2.2
def pB(l:List Int):Int:=if 0<l.length then l.getLastD 0 else-1
def tL(s:FS)(r:Nat)(id:Int):cz:=
 if s.h r<0\/(fu s.L (s.h r) id=true/\s.h r≠id)then rq s r id else if fu s.L id (s.h r)=true then⟨17,0,[]⟩else
 if(eL s.L (s.h r) id).2≠0 then⟨(eL s.L (s.h r) id).2,0,[]⟩else mm s r (pB (eL s.L (s.h r) id).1) id
noncomputable def pI(s:FS)(r:Nat)(id:Int):FS:=
 if s.h r<0\/(fu s.L (s.h r) id=true/\s.h r≠id)then jM s r id else if fu s.L id (s.h r)=true then s else
 if(eL s.L (s.h r) id).2≠0 then s else jg s r (pB (eL s.L (s.h r) id).1) id
def rf(s:FS)(r:Nat)(name:List UInt8):cz:=
 if(aK s r name).2≠0 then⟨(aK s r name).2,0,[]⟩else if mX s r≠0 then⟨mX s r,0,[]⟩else tL (cZ s r) r (aK s r name).1
noncomputable def nG(s:FS)(r:Nat)(name:List UInt8):FS:=
 if(aK s r name).2≠0 then s else if mX s r≠0 then cZ s r else pI (cZ s r) r (aK s r name).1
noncomputable def pc(s:FS)(x:ck):cz:=
 if x.kind<1\/12<x.kind then⟨6,0,[]⟩else if bC x.r=false then⟨1,0,[]⟩else
 if x.kind=1 then rX s x.r.toNat x.path x.bytes else if x.kind=2 then ui s x.r.toNat x.path else
 if x.kind=3 then ra s x.r.toNat x.q x.path x.name else if x.kind=4 then o8 s x.r.toNat x.name x.text else
 if x.kind=5 then qz s x.r.toNat x.name else if x.kind=6 then rf s x.r.toNat x.name else
 if x.kind=7 then qv s x.r.toNat x.name else if x.kind=8 then qJ s x.r.toNat x.name else
 if x.kind=9 then sT s x.r.toNat x.q x.name else if x.kind=10 then sA s x.r.toNat x.q else
 if x.kind=12 then uy s x.r.toNat x.path x.name else⟨0,0,[]⟩
noncomputable def ko(s:FS)(x:ck):FS:=
 if x.kind<1\/12<x.kind then s else if bC x.r=false then s else
 if x.kind=1 then rY s x.r.toNat x.path x.bytes else if x.kind=2 then uj s x.r.toNat x.path else
 if x.kind=3 then ow s x.r.toNat x.q x.path x.name else if x.kind=4 then na s x.r.toNat x.name x.text else
 if x.kind=5 then oa s x.r.toNat x.name else if x.kind=6 then nG s x.r.toNat x.name else
 if x.kind=7 then n5 s x.r.toNat x.name else if x.kind=8 then od s x.r.toNat x.name else
 if x.kind=9 then pd s x.r.toNat x.q x.name else if x.kind=10 then sB s x.r.toNat x.q else
 if x.kind=12 then pZ s x.r.toNat x.path x.name else rS s
end Go.Nest
end
section
namespace Go.Nest
open Go Go.AM Go.Proofs
open Go.Proofs.YtpechfcbnoggfaaGreatDoor (tab tabOk)
set_option maxRecDepth 100000
theorem fP(r:Int):aa Tryz.prog 53 [.c (.int .i64 r)] [] (Rt (.c (.bool (bC r))) []):=by
 refine af (n:=9) (n0:=0) tabOk Tryz.call53 Tryz.func53 ?_;intro hb;unfold bC;refine dec (λh=>?_) (λh=>?_)
 ·have h:0<=r:=h;rw[decide_eq_true h,Bool.true_and];exact aL rfl
 ·have h:¬0<=r:=h;rw[decide_eq_false h,Bool.false_and];exact aL rfl
theorem iq(n:Int):jZ (.c (.int .i64 n)):=⟨λ_ _=>rfl,λ_=>rfl,rfl⟩
theorem Hy:jZ (.ao []):=⟨λ_ _=>trivial,λ_=>rfl,rfl⟩
theorem vK(n m:Int):jZ (.ao [(false,[.int .i64 n]),(false,[.int .i64 m])]):=⟨λ_ _=>⟨⟨rfl,rfl,trivial⟩,⟨rfl,rfl,trivial⟩,trivial⟩,λ_=>rfl,rfl⟩
theorem I4{id c:Int}(h:c=0):bO id c=⟨0,id,[]⟩:=by unfold bO;rw[if_neg (by simp[h])]
theorem I5{id c:Int}(h:c≠0):bO id c=⟨c,0,[]⟩:=if_pos h
theorem jC(id c:Int):aa Tryz.prog 54 [.c (.int .i64 id),.c (.int .i64 c)] [] (Rt (.st (b6 (bO id c))) []):=by
 refine af (n:=11) (n0:=0) tabOk Tryz.call54 Tryz.func54 ?_;intro hb;refine ay (λh=>?_) (λh=>?_)
 ·rw[I5 h];exact rx [] []
 ·rw[I4 h];exact rx [] []
theorem nB(s:FS)(d:bU s)(r:Int)(name:List UInt8):aa Tryz.prog 121 [.c (.bp (ku s)),.c (.int .i64 r),.c (.str name)] [] (Rt (.ao [(false,[.int .i64 (aK s r name).1]),(false,[.int .i64 (aK s r name).2])]) []):=by
 refine af (n:=24) (n0:=0) tabOk Tryz.call121 Tryz.func121 ?_;intro hb;refine cl [] [] (fP r) ?_;refine dB (λh=>?_) (λh=>?_)
 ·rw[show aK s r name=_ from if_pos h];exact rx [] []
 obtain⟨i,b,rfl⟩:=bW.1 h;have e:aK s (i:Int) name=if cm (s.n i) name<0 then(0,9)else(cm (s.n i) name,0):=if_neg (by rw[h];decide)
 have p:=qT (s.n i) (s.m i) name (d.sort i b) (by have:=d.few i b;omega);rw[e]
 rcases four b with rfl|rfl|rfl|rfl<;>(
  refine⟨_,⟨rfl,by decide⟩,?_⟩;refine cl [] [] (p) ?_;refine dec (λa=>?_) (λa=>?_)
  ·rw[if_pos a];exact rx [] []
  ·rw[if_neg a];exact rx [] [])
def kW(p:List Rf×List Mv)(y:Rf):List Rf×List Mv:=(aY p.1 y.name (-1) y.id,fZ p.1 p.2 y.name (-1) y.id)
theorem vW(l:List Rf):ew l=l.foldl kW ([],[]):=rfl
theorem HT{p:List Rf×List Mv}(h:gI p.1 p.2)(y:Rf):gI (kW p y).1 (kW p y).2/\(kW p y).2.length<=p.2.length+1:=by
 unfold kW aY fZ;by_cases a:dN p.1 y.name (-1) y.id=0
 ·simp only[if_pos a];exact⟨.snoc h a,by simp⟩
 ·simp only[if_neg a];exact⟨h,b3 _⟩
theorem AL:∀{l:List Rf} {p:List Rf×List Mv},gI p.1 p.2->gI (l.foldl kW p).1 (l.foldl kW p).2/\(l.foldl kW p).2.length<=p.2.length+l.length
 |[],p,h=>⟨h,by simp⟩
 |y::l,p,h=>by
  have a:=HT h y;have b:=AL (l:=l) a.1;rw[cb,a5];exact⟨b.1,by omega⟩
theorem HP(l:List Rf):oV (ew l).1 (ew l).2/\(ew l).2.length<=l.length:=by
 have:=AL (l:=l) (p:=([],[])) .nil;rw[vW];exact⟨this.1.inv,by simpa using this.2⟩
theorem AN{l:List Rf}{i:Nat}(h:i<l.length):ew (l.take (i+1))=kW (ew (l.take i)) l[i]:=by
 rw[vW,vW,a1 h,List.foldl_append];rfl
theorem xC(s:FS)(v:bU s){i:Nat}(hi:i<4)(name:List UInt8):aa Tryz.prog 123 [.c (.bp (ku s)),.c (.int .i64 (i:Nat)),.c (.str name)] [] (Rt (.c (.int .i64 (dW (s.n i) name))) []):=by
 refine af (n:=41) (n0:=0) tabOk Tryz.call123 Tryz.func123 ?_;intro hb;have g:=v.few i hi;have p:=CR (s.n i) (s.m i) (by omega);refine cl [] [] (ri) ?_;have fin:∀l:List Rf,l.length<=8->dW l name=dN (ew l).1 name (cm (ew l).1 name) 600:=λ_ _=>rfl;have j:=HP;have a:= @AN;have r:ew []=([],[]):=rfl
 rcases four hi with rfl|rfl|rfl|rfl<;>(
  refine⟨_,⟨rfl,by decide⟩,?_⟩;refine cl [] [] (p) ?_;generalize s.n _=l at g⊢;rw[fin l g];generalize ew=d at j a r⊢;refine lp Nat (λi=>⟨[(0,.c (.bp (ku s))),(2,.c (.str name)),(7,.c (.ptr 0 0)),(19,.c (.rw 3)),(20,.c (.int .i64 l.length)),(21,.c (.int .i64 i))],[.box [.rw 1,.rw 2],.row 2 Rf bL (d (l.take i)).1,.row 3 Mv cN (d (l.take i)).2,.row 2 Rf bL l]⟩) (λi=>i<=l.length/\True) (λi=>l.length-i) 0 [] [.s 0,.s 1,.s 2,.s 3] ⟨a0 _,trivial⟩ ?_ (λi hi=>?_)
  ·rw[List.take_zero,r];repeat' first|exact trivial|exact rfl|refine And.intro ?_ ?_
  obtain⟨hi,-⟩:=hi;refine dec (λk=>?_) (λk=>?_)
  ·have e:i<l.length:=by have k:(i:Int)<l.length:=k;omega
   have o:l[i]? =some l[i]:=ah e;have a:=a e;obtain⟨b,f⟩:=j (l.take i);rw[a9]at f;have q:=rJ (d (l.take i)).1 (d (l.take i)).2 l[i].name (-1) l[i].id b.sort b.ids b.len (by omega);have t:aY (d (l.take i)).1 l[i].name (-1) l[i].id=(d (l.take (i+1))).1:=by rw[a];rfl
   have u:fZ (d (l.take i)).1 (d (l.take i)).2 l[i].name (-1) l[i].id=(d (l.take (i+1))).2:=by rw[a];rfl
   rw[t,u]at q;generalize l[i]=y at o q;refine⟨i,⟨rfl,e⟩,?_⟩;refine⟨y,o,?_⟩;refine cl [] [0,1,2] (q) ?_;repeat'(refine I6 ?_)
   refine ag (i+1) [] [.s 0,.s 5,.s 6,.s 3] ⟨e,trivial⟩ (by simp only[];omega) ?_;repeat' first|exact trivial|exact rfl|refine And.intro ?_ ?_
  ·obtain rfl:i=l.length:=by have k:¬(i:Int)<l.length:=k;omega
   rw[a6];obtain⟨b,f⟩:=j l;generalize d l=R at b f⊢;obtain⟨x,m⟩:=R;dsimp only at b f⊢;have w:=qT x m name b.sort (by have:=b.len;omega);have z:=rJ x m name (cm x name) 600 b.sort b.ids b.len (by omega);refine cl [] [] (w) ?_;refine cl [] [0,1,2] (z) ?_;refine ay (λh=>?_) (λh=>?_)
   ·exact aJ rfl
   ·have h:dN x name (cm x name) 600=0:=h;rw[h];exact aJ rfl)
theorem xc(s:FS)(d:bU s){i:Nat}(hi:i<4)(name:List UInt8)(id:Int):aa Tryz.prog 125 [.c (.ptr 0 0),.c (.int .i64 (i:Nat)),.c (.str name),.c (.int .i64 id)] (aO s) (Rt (.c (.int .i64 (gp s i name id))) (aX (eG s i name id))):=by
 refine af (n:=44) (n0:=32) tabOk Tryz.call125 Tryz.func125 ?_;intro hb;have q:=qT (s.n i) (s.m i) name (d.sort i hi) (by have:=d.few i hi;omega);have f:=xI (s:=s) hi (rJ (s.n i) (s.m i) name (cm (s.n i) name) id (d.sort i hi) (d.ids i hi) (d.few i hi) (by have:=d.moves i hi;omega)) (iq _);have f:aa Tryz.prog _ _ (aO s) (Rt (.c (.int .i64 (gX s i name id))) (aX (iA s i name id))):=f;have e:=xH (s:=iA s i name id) (u4 s.L d.pool s.o s.b d.ef d.own (i:Int) [id] (by simp)) (iq _);have e:aa Tryz.prog _ _ (aO (iA s i name id)) (Rt (.c (.int .i64 (dd s.L i [id]))) (aX (j9 (iA s i name id) i id))):=e;have o:gp s i name id=if gX s i name id≠0/\gX s i name id≠17 then gX s i name id else dd s.L i [id]:=rfl
 have p:eG s i name id=if gX s i name id≠0/\gX s i name id≠17 then iA s i name id else j9 (iA s i name id) i id:=rfl
 rw[o,p];clear o p;generalize gX s i name id=c at f⊢;generalize j9 (iA s i name id) i id=j at e⊢;generalize iA s i name id=g at f e⊢;have b:c≠0/\c≠17->(if c≠0/\c≠17 then c else dd s.L i [id])=c/\(if c≠0/\c≠17 then g else j)=g:=λh=>⟨if_pos h,if_pos h⟩;have a:¬(c≠0/\c≠17)->(if c≠0/\c≠17 then c else dd s.L i [id])=dd s.L i [id]/\(if c≠0/\c≠17 then g else j)=j:=λh=>⟨if_neg h,if_neg h⟩;generalize (if c≠0/\c≠17 then c else dd s.L i [id])=C at b a⊢;generalize (if c≠0/\c≠17 then g else j)=S at b a⊢
 rcases four hi with rfl|rfl|rfl|rfl<;>(
  refine⟨false,.grow,(.l [0,1,2,3,4,5,6,7,8,9,10,11,12,13,14,15,17,16,18,19]),by kernel_rfl,.inl ?_⟩;refine⟨_,⟨rfl,by decide⟩,?_⟩;refine⟨_,⟨rfl,by decide⟩,?_⟩;refine cl [] [] (q) ?_;refine aE (mF 0) (aQ 21 d21 g) f ?_;(conv=>whnf);have r:(c≠0/\c≠17)\/¬(c≠0/\c≠17):=Decidable.em _;refine ay (λk=>?_) (λk=>?_)
  ·refine ay (λm=>?_) (λm=>?_)
   ·obtain⟨rfl,rfl⟩:=b ⟨k,m⟩;exact aF (rF 21)
   ·obtain⟨rfl,rfl⟩:=a (λh=>h.2 m);refine⟨[id],rfl,?_⟩;refine aE (mF 21) (aQ 43 (d21++(d21++[.row 1 Int encI [id]])) S) e ?_;exact aF (rF 43)
  ·obtain⟨rfl,rfl⟩:=a (λh=>h.1 k);refine⟨[id],rfl,?_⟩;refine aE (mF 21) (aQ 43 (d21++(d21++[.row 1 Int encI [id]])) S) e ?_;exact aF (rF 43))
def ff(s:FS)(r:Int):List Dc:=if bC r=false then[]else(s.w r.toNat).map fN
def eU(s:FS)(r:Int):List Rf:=if bC r=false then[]else s.n r.toNat
def gn(s:FS)(r:Int):Int:=if bC r=false then-1 else s.h r.toNat
def gz(s:FS)(r:Int):List Ch×Int:=if bC r=false then([],1)else oO s.L (s.w r.toNat) (s.h r.toNat)
def lG(s:FS)(r:Int):FS:=if bC r=false then s else s.cC r.toNat (aR s.L (s.w r.toNat) []).2.2 (s.w r.toNat) (s.h r.toNat)
theorem IP(s:FS)(b:bU s)(r:Int):aa Tryz.prog 25 [.c (.bp (ku s)),.c (.int .i64 r)] [] (Rt (.c (.rw 0)) [.row 2 Dc lT (ff s r)]):=by
 unfold ff;refine af (n:=16) (n0:=0) tabOk Tryz.call25 Tryz.func25 ?_;intro hb;refine cl [] [] (fP r) ?_;refine dB (λh=>?_) (λh=>?_)
 ·rw[if_pos h];exact rx [] [.new]
 obtain⟨i,a,rfl⟩:=bW.1 h;have p:=IQ s.L (s.w i) (s.h i) (b.items i a) (b.bytes i a);rw[if_neg (by rw[h];decide)]
 rcases four a with rfl|rfl|rfl|rfl<;>(
  refine⟨_,⟨rfl,by decide⟩,?_⟩;refine cl [] [] (p) ?_;exact rx [] [.s 0])
theorem Nf(s:FS)(b:bU s)(r:Int):aa Tryz.prog 26 [.c (.bp (ku s)),.c (.int .i64 r)] [] (Rt (.c (.rw 0)) [.row 2 Rf bL (eU s r)]):=by
 unfold eU;refine af (n:=16) (n0:=0) tabOk Tryz.call26 Tryz.func26 ?_;intro hb;refine cl [] [] (fP r) ?_;refine dB (λh=>?_) (λh=>?_)
 ·rw[if_pos h];exact rx [] [.new]
 obtain⟨i,a,rfl⟩:=bW.1 h;have p:=CR (s.n i) (s.m i) (by have:=b.few i a;omega);rw[if_neg (by rw[h];decide)]
 rcases four a with rfl|rfl|rfl|rfl<;>(
  refine⟨_,⟨rfl,by decide⟩,?_⟩;refine cl [] [] (p) ?_;exact rx [] [.s 0])
theorem B1(s:FS)(b:bU s)(r:Int):aa Tryz.prog 27 [.c (.bp (ku s)),.c (.int .i64 r)] [] (Rt (.c (.int .i64 (gn s r))) []):=by
 unfold gn;refine af (n:=16) (n0:=0) tabOk Tryz.call27 Tryz.func27 ?_;intro hb;refine cl [] [] (fP r) ?_;refine dB (λh=>?_) (λh=>?_)
 ·rw[if_pos h];exact aJ rfl
 obtain⟨i,a,rfl⟩:=bW.1 h;have p:=pq s.L (s.w i) (s.h i);rw[if_neg (by rw[h];decide)]
 rcases four a with rfl|rfl|rfl|rfl<;>(
  refine⟨_,⟨rfl,by decide⟩,?_⟩;refine cl [] [] (p) ?_;exact aJ rfl)
theorem My{f:FuncId}{s:FS}{r:Nat}(hr:r<4){L:List Ob}{l:List It}{h:Int}{sz:Nat}{α:Type}{enc:α->List C}{x:List α}{c:Int}(a:aa Tryz.prog f [.c (.ptr 0 0)] [.box [.ptr 1 0,.rw 3,.int .i64 (s.h r)],.box [.rw 2],.row 6 Ob an s.L,.row 5 It aM (s.w r)] (Rt (.ao [(false,[.rw 6]),(false,[.int .i64 c])]) ([.box [.ptr 1 0,.rw 5,.int .i64 h],.box [.rw 4],.dead,.dead,.row 6 Ob an L,.row 5 It aM l]++[.row sz α enc x]))):
  aa Tryz.prog f [.c (.ptr (3+2*r) 0)] (aO s) (Rt (.ao [(false,[.rw 53]),(false,[.int .i64 c])]) (aX (s.cC r L l h)++[.row sz α enc x])):=by
 refine bB.frame [3+2*r,10,11,28+r] (rP (λi=>bif bi i 11 then 32 else bif bi i (28+r)then 33 else i)++[.s 34]) a ?_ rfl rfl ?_ rfl
 ·rcases four hr with rfl|rfl|rfl|rfl<;>exact iH ⟨rfl,trivial⟩
 ·rcases four hr with rfl|rfl|rfl|rfl<;>exact jd ⟨⟨rfl,rfl,trivial⟩,⟨rfl,rfl,trivial⟩,trivial⟩
theorem OF(s:FS)(b:bU s)(r:Int):aa Tryz.prog 35 [.c (.ptr 0 0),.c (.int .i64 r)] (aO s) (Rt (.ao [(false,[.rw 53]),(false,[.int .i64 (gz s r).2])]) (aX (lG s r)++[.row 9 Ch iT (gz s r).1])):=by
 unfold gz lG;refine af (n:=19) (n0:=32) tabOk Tryz.call35 Tryz.func35 ?_;intro hb;refine cl [] [] (fP r) ?_;refine dB (λh=>?_) (λh=>?_)
 ·rw[if_pos h,if_pos h];exact rx [] (rF 0++[.new])
 obtain⟨i,a,rfl⟩:=bW.1 h;have p:=My (s:=s) a (OG s.L b.pool (s.w i) (s.h i) (b.paths i a) (b.items i a));rw[if_neg (by rw[h];decide),if_neg (by rw[h];decide)];rw[Int.toNat_natCast];generalize oO s.L (s.w i) (s.h i)=R at p⊢;generalize s.cC i (aR s.L (s.w i) []).2.2 (s.w i) (s.h i)=d at p⊢
 rcases four a with rfl|rfl|rfl|rfl<;>(
  refine⟨_,⟨rfl,by decide⟩,?_⟩;refine aE (mF 0) (aQ 21 d21 d++[.row 9 Ch iT R.1]) p ?_;exact aF (rF 21++[.s 53]))
theorem AD(s:FS)(p:bU s){i:Nat}(hi:i<4)(x:ck)(F:x.r=i)(hl:bU (cH s i x.text [])):aa Tryz.prog 58 [.c (.ptr 0 0),.st (az x)] (aO s) (Rt (.st (b6 (o8 s i x.name x.text))) (aX (na s i x.name x.text))):=by
 have D:=xC s p hi x.name;have m:=mn (s:=s) hi (AF s.L p.pool (s.w i) (s.h i) (p.paths i hi) (p.items i hi) x.text [] (by decide) (p.head i hi)) (vK _ _);have m:aa Tryz.prog _ _ (aO s) (Rt _ (aX (cH s i x.text []))):=m;have j:=xc _ hl hi x.name (bg s.L (s.w i) (s.h i) x.text []).1;have q:=jC (bg s.L (s.w i) (s.h i) x.text []).1 (gp (cH s i x.text []) i x.name (bg s.L (s.w i) (s.h i) x.text []).1);unfold o8 na;clear hl;generalize gp (cH s i x.text []) i x.name (bg s.L (s.w i) (s.h i) x.text []).1=H at j q⊢;generalize eG (cH s i x.text []) i x.name (bg s.L (s.w i) (s.h i) x.text []).1=r at j⊢;generalize cH s i x.text []=o at m j⊢;generalize bg s.L (s.w i) (s.h i) x.text []=R at m j q⊢;obtain⟨id,b,J⟩:=R;dsimp only at m j q⊢;generalize dW (s.n i) x.name=a at D⊢;generalize bO id H=I at q⊢;obtain⟨d,e,f⟩:=I;have u:a≠0->(if a≠0 then(⟨a,0,[]⟩:cz)else if b≠0 then⟨b,0,[]⟩else⟨d,e,f⟩)=⟨a,0,[]⟩/\(if a≠0 then s else if b≠0 then o else r)=s:=λh=>⟨if_pos h,if_pos h⟩;have v:a=0->b≠0->(if a≠0 then(⟨a,0,[]⟩:cz)else if b≠0 then⟨b,0,[]⟩else⟨d,e,f⟩)=⟨b,0,[]⟩/\(if a≠0 then s else if b≠0 then o else r)=o:=λh g=>⟨(if_neg (λk=>k h)).trans (if_pos g),(if_neg (λk=>k h)).trans (if_pos g)⟩;have w:a=0->b=0->(if a≠0 then(⟨a,0,[]⟩:cz)else if b≠0 then⟨b,0,[]⟩else⟨d,e,f⟩)=⟨d,e,f⟩/\(if a≠0 then s else if b≠0 then o else r)=r:=λh g=>⟨(if_neg (λk=>k h)).trans (if_neg (λk=>k g)),(if_neg (λk=>k h)).trans (if_neg (λk=>k g))⟩;generalize (if a≠0 then(⟨a,0,[]⟩:cz)else if b≠0 then⟨b,0,[]⟩else⟨d,e,f⟩)=E at u v w⊢;generalize (if a≠0 then s else if b≠0 then o else r)=S at u v w⊢;rw[<-F]at D j;refine af (n:=45) (n0:=32) tabOk Tryz.call58 Tryz.func58 ?_;intro hb;refine cl [] [] (D) ?_;refine ay (λt=>?_) (λt=>?_)
 ·obtain⟨rfl,rfl⟩:=u t;exact aF (rF 0)
 have z:x.r=(i:Nat):=F
 rcases four hi with rfl|rfl|rfl|rfl<;>(
  refine⟨false,.grow,(.l [0,1,2,3,4,5,6,7,8,9,10,11,12,13,14,15]),by kernel_rfl,.inl ?_⟩;refine⟨_,⟨z,by decide⟩,?_⟩;refine aE (mF 0) (aQ 23 (d21++[.box (az x),.box [.int .i64 0,.int .i64 0,.nil]]) o) m ?_;refine ay (λy=>?_) (λy=>?_)
  ·obtain⟨rfl,rfl⟩:=v t y;exact aF (rF 23)
  obtain⟨rfl,rfl⟩:=w t y;refine aE (mF 23) (aQ 44 (d21++[.box (az x),.box [.int .i64 0,.int .i64 0,.nil]]++d21) S) j ?_;refine cl [] [] (q) ?_;exact aF (rF 44))
theorem A3(s:FS)(f:bU s){i:Nat}(hi:i<4){r:Int}(hr:r=i)(q:Int)(p n t b:List UInt8)(j:p.length<=4000000):aa Tryz.prog 22 [.c (.ptr 0 0),.st (az ⟨1,r,q,p,n,t,b⟩)] (aO s) (Rt (.st (b6 (rX s i p b))) (aX (rY s i p b))):=by
 have g:=fP r;rw[bW.2 ⟨i,hi,hr⟩]at g;have a:=mn (s:=s) hi (PK s.L (s.w i) (s.h i) p b j (f.paths i hi) (f.items i hi)) (iq _);obtain⟨c,d⟩:∃c,(iC (s.w i) p b).1=c:=⟨_,rfl⟩;rw[d]at a;have a:aa Tryz.prog _ _ (aO s) (Rt _ (aX (rY s i p b))):=a;have h:=jC 0 c;rw[show rX s i p b=bO 0 c by unfold rX;rw[d]];generalize bO 0 c=e at h⊢;obtain⟨m,o,u⟩:=e;generalize rY s i p b=k at a⊢;refine af (n:=111) (n0:=32) tabOk Tryz.call22 Tryz.func22 ?_;intro hb;refine cl [] [] (g) ?_
 rcases four hi with rfl|rfl|rfl|rfl<;>(
  refine⟨false,.grow,(.l [0,1,2,3,4,5,6,7,8,9,10,11,12,13,14]),by kernel_rfl,.inl ?_⟩;refine⟨_,⟨hr,by decide⟩,?_⟩;refine aE (mF 0) (aQ 23 (d21++[.box (az ⟨1,r,q,p,n,t,b⟩),.box [.int .i64 0,.int .i64 0,.nil]]) k) a ?_;refine cl [] [] (h) ?_;exact aF (rF 23))
theorem A2(s:FS){i:Nat}(hi:i<4)(q:Int)(p n t b:List UInt8)(E:cz)(S:FS)(p1:aa Tryz.prog 58 [.c (.ptr 0 0),.st (az ⟨4,i,q,p,n,t,b⟩)] (aO s) (Rt (.st (b6 E)) (aX S))):aa Tryz.prog 22 [.c (.ptr 0 0),.st (az ⟨4,i,q,p,n,t,b⟩)] (aO s) (Rt (.st (b6 E)) (aX S)):=by
 have a:=fP i;rw[bW.2 ⟨i,hi,rfl⟩]at a;obtain⟨d,e,f⟩:=E;refine af (n:=111) (n0:=32) tabOk Tryz.call22 Tryz.func22 ?_;intro hb;refine cl [] [] (a) ?_;refine aE (mF 0) (aQ 23 (d21++[.box (az ⟨4,i,q,p,n,t,b⟩),.box [.int .i64 0,.int .i64 0,.nil]]) S) p1 ?_;exact aF (rF 23)
theorem Lg(s:FS)(b:bU s){i:Nat}(hi:i<4)(x:ck)(o:x.r=i)(m:x.path.length<=4000000):aa Tryz.prog 57 [.c (.ptr 0 0),.st (az x)] (aO s) (Rt (.st (b6 (ra s i x.q x.path x.name))) (aX (ow s i x.q x.path x.name))):=by
 by_cases a:(aK s x.q x.name).2=0
 ·rw[show ra s i x.q x.path x.name=_ from if_neg (λh=>h a),show ow s i x.q x.path x.name=_ from if_neg (λh=>h a)];have d:=nB s b x.q x.name;generalize aK s x.q x.name=R at d a⊢;obtain⟨id,q⟩:=R;dsimp only at d a⊢;have g:=mn (s:=s) hi (Lh s.L b.pool (s.w i) (s.h i) x.path x.q id m (b.paths i hi) (b.items i hi)) (iq _);generalize s.cC i s.L (gS s.L (s.w i) x.path x.q id).2 (s.h i)=p at g⊢;obtain⟨c,k⟩:∃c,(gS s.L (s.w i) x.path x.q id).1=c:=⟨_,rfl⟩;rw[k]at g⊢;have j:=jC (id) c;generalize bO (id) c=e at j⊢;obtain⟨r,t,u⟩:=e;have f:x.r=(i:Nat):=o;rw[a]at d;refine af (n:=36) (n0:=32) tabOk Tryz.call57 Tryz.func57 ?_;intro hb;refine cl [] [] (d) ?_
  rcases four hi with rfl|rfl|rfl|rfl<;>(
   refine⟨false,.grow,(.l [0,1,2,3,4,5,6,7,8,9,10,11,12,13,14,15,16]),by kernel_rfl,.inl ?_⟩;refine⟨_,⟨f,by decide⟩,?_⟩;refine aE (mF 0) (aQ 23 (d21++[.box (az x),.box [.int .i64 0,.int .i64 0,.nil]]) p) g ?_;refine cl [] [] (j) ?_;exact aF (rF 23))
 ·rw[show ra s i x.q x.path x.name=_ from if_pos a,show ow s i x.q x.path x.name=_ from if_pos a];refine af (n:=36) (n0:=32) tabOk Tryz.call57 Tryz.func57 ?_;intro hb;refine cl [] [] (nB s b x.q x.name) ?_;refine ay (λ_=>?_) (λh=>absurd h a);exact aF (rF 0)
theorem Hv(s:FS)(b:bU s){i:Nat}(hi:i<4)(x:ck)(g:x.r=i):aa Tryz.prog 59 [.c (.ptr 0 0),.st (az x)] (aO s) (Rt (.st (b6 (qz s i x.name))) (aX (oa s i x.name))):=by
 have d:=nB s b (i:Nat) x.name;rw[<-g]at d;by_cases a:(aK s (i:Nat) x.name).2=0
 ·rw[show qz s i x.name=_ from if_neg (λh=>h a),show oa s i x.name=_ from if_neg (λh=>h a)];rw[<-g]at a⊢;generalize aK s x.r x.name=R at d a⊢;obtain⟨id,p⟩:=R;dsimp only at d a⊢;have f:=mn (s:=s) hi (Al s.L b.pool (s.w i) (s.h i) (b.paths i hi) (b.items i hi) id) (iq _);have f:aa Tryz.prog _ _ (aO s) (Rt _ (aX (jM s i id))):=f;generalize jM s i id=o at f⊢;unfold rq;obtain⟨c,m⟩:∃c,fe s.L (s.w i) (s.h i) id=c:=⟨_,rfl⟩;rw[m]at f⊢;have k:=jC (id) c;generalize bO (id) c=e at k⊢;obtain⟨q,r,t⟩:=e;have j:x.r=(i:Nat):=g;rw[a]at d;refine af (n:=32) (n0:=32) tabOk Tryz.call59 Tryz.func59 ?_;intro hb;refine cl [] [] (d) ?_
  rcases four hi with rfl|rfl|rfl|rfl<;>(
   refine⟨false,.grow,(.l [0,1,2,3,4,5,6,7,8,9,10,11,12]),by kernel_rfl,.inl ?_⟩;refine⟨_,⟨j,by decide⟩,?_⟩;refine aE (mF 0) (aQ 23 (d21++[.box (az x),.box [.int .i64 0,.int .i64 0,.nil]]) o) f ?_;refine cl [] [] (k) ?_;exact aF (rF 23))
 ·rw[show qz s i x.name=_ from if_pos a,show oa s i x.name=_ from if_pos a];rw[<-g]at a⊢;refine af (n:=32) (n0:=32) tabOk Tryz.call59 Tryz.func59 ?_;intro hb;refine cl [] [] (nB s b x.r x.name) ?_;refine ay (λ_=>?_) (λh=>absurd h a);exact aF (rF 0)
theorem IS(s:FS)(b:bU s){i:Nat}(hi:i<4)(x:ck)(f:x.r=i):aa Tryz.prog 62 [.c (.ptr 0 0),.st (az x)] (aO s) (Rt (.st (b6 (qJ s i x.name))) (aX (od s i x.name))):=by
 have d:=nB s b (i:Nat) x.name;rw[<-f]at d;by_cases a:(aK s (i:Nat) x.name).2=0
 ·rw[show qJ s i x.name=_ from if_neg (λh=>h a),show od s i x.name=_ from if_neg (λh=>h a)];rw[<-f]at a⊢;generalize aK s x.r x.name=R at d a⊢;obtain⟨id,p⟩:=R;dsimp only at d a⊢;have j:=xI (s:=s) hi (rJ (s.n i) (s.m i) x.name id (-1) (b.sort i hi) (b.ids i hi) (b.few i hi) (by have:=b.moves i hi;omega)) (iq _);generalize s.lD i (aY (s.n i) x.name id (-1)) (fZ (s.n i) (s.m i) x.name id (-1))=o at j⊢;obtain⟨c,m⟩:∃c,dN (s.n i) x.name id (-1)=c:=⟨_,rfl⟩;rw[m]at j⊢;have k:=jC (id) c;generalize bO (id) c=e at k⊢;obtain⟨q,r,t⟩:=e;have g:x.r=(i:Nat):=f;rw[a]at d;refine af (n:=34) (n0:=32) tabOk Tryz.call62 Tryz.func62 ?_;intro hb;refine cl [] [] (d) ?_
  rcases four hi with rfl|rfl|rfl|rfl<;>(
   refine⟨false,.grow,(.l [0,1,2,3,4,5,6,7,8,9,10,11,12,13,14]),by kernel_rfl,.inl ?_⟩;refine⟨_,⟨g,by decide⟩,?_⟩;refine aE (mF 0) (aQ 23 (d21++[.box (az x),.box [.int .i64 0,.int .i64 0,.nil]]) o) j ?_;refine cl [] [] (k) ?_;exact aF (rF 23))
 ·rw[show qJ s i x.name=_ from if_pos a,show od s i x.name=_ from if_pos a];rw[<-f]at a⊢;refine af (n:=34) (n0:=32) tabOk Tryz.call62 Tryz.func62 ?_;intro hb;refine cl [] [] (nB s b x.r x.name) ?_;refine ay (λ_=>?_) (λh=>absurd h a);exact aF (rF 0)
theorem Hj(s:FS)(d:bU s){i:Nat}(hi:i<4)(x:ck)(m:x.r=i):aa Tryz.prog 61 [.c (.ptr 0 0),.st (az x)] (aO s) (Rt (.st (b6 (qv s i x.name))) (aX (n5 s i x.name))):=by
 have g:=pq s.L (s.w i) (s.h i);have o:=qT (s.n i) (s.m i) x.name (d.sort i hi) (by have:=d.few i hi;omega);have f:=xI (s:=s) hi (rJ (s.n i) (s.m i) x.name (cm (s.n i) x.name) (s.h i) (d.sort i hi) (d.ids i hi) (d.few i hi) (by have:=d.moves i hi;omega)) (iq _);have f:aa Tryz.prog _ _ (aO s) (Rt (.c (.int .i64 (gX s i x.name (s.h i)))) (aX (iA s i x.name (s.h i)))):=f;have a:x.r=(i:Nat):=m;by_cases b:s.h i<0
 ·rw[show qv s i x.name=_ from if_pos b,show n5 s i x.name=_ from if_pos b];refine af (n:=43) (n0:=32) tabOk Tryz.call61 Tryz.func61 ?_;intro hb
  rcases four hi with rfl|rfl|rfl|rfl<;>(
   refine⟨false,.grow,(.l [0,1,2,3,4,5,6,7,8,9]),by kernel_rfl,.inl ?_⟩;refine⟨_,⟨a,by decide⟩,?_⟩;refine cl [] [] (g) ?_;refine dec (λ_=>?_) (λh=>absurd b h);exact aF (rF 0))
 ·rw[show qv s i x.name=_ from if_neg b,show n5 s i x.name=_ from if_neg b];generalize iA s i x.name (s.h i)=p at f⊢;obtain⟨c,k⟩:∃c,gX s i x.name (s.h i)=c:=⟨_,rfl⟩;rw[k]at f⊢;have j:=jC (s.h i) c;generalize bO (s.h i) c=e at j⊢;obtain⟨q,r,t⟩:=e;refine af (n:=43) (n0:=32) tabOk Tryz.call61 Tryz.func61 ?_;intro hb
  rcases four hi with rfl|rfl|rfl|rfl<;>(
   refine⟨false,.grow,(.l [0,1,2,3,4,5,6,7,8,9]),by kernel_rfl,.inl ?_⟩;refine⟨_,⟨a,by decide⟩,?_⟩;refine cl [] [] (g) ?_;refine dec (λh=>absurd h b) (λ_=>?_);refine⟨false,.grow,(.l [0,1,2,3,4,5,6,7,8,9,10,11,12,13,14,15,16,17,18,19,20,22,21,23,24,25]),by kernel_rfl,.inl ?_⟩;refine⟨_,⟨a,by decide⟩,?_⟩;refine⟨_,⟨a,by decide⟩,?_⟩;refine cl [] [] (o) ?_;refine aE (mF 0) (aQ 23 (d21++[.box (az x),.box [.int .i64 0,.int .i64 0,.nil]]) p) f ?_;refine cl [] [] (j) ?_;exact aF (rF 23))
theorem wC(s:FS)(a:bU s)(id:Int):aa Tryz.prog 210 [.c (.bp (ku s)),.c (.int .i64 id)] [] (Rt (.ao [(false,[.rw 0]),(false,[.int .i64 (bu s.L id).2])]) [.row 4 Fi aq (bu s.L id).1]):=by
 have b:=ft s.L a.pool id;have d:=sY s.L a.pool (aj s.L id).tree;unfold bu;generalize aj s.L id=o at b d⊢;refine af (n:=34) (n0:=0) tabOk Tryz.call210 Tryz.func210 ?_;intro hb;refine dec (λh=>?_) (λh=>?_)
 ·rw[if_pos h];exact rx [] [.new]
 ·rw[if_neg h];refine cl [] [] (b) ?_;refine⟨false,.grow,(.l [0,1,2,3,4,5,6,7,8,9,10,11,12,13]),by kernel_rfl,.inl ?_⟩;refine cl [] [] (d) ?_;exact rx [] [.s 1]
theorem Jc(s:FS)(g:bU s){i:Nat}(hi:i<4)(x:ck)(w:x.r=i)(hl:bU (s.dm (di s.L s.o s.b (i:Nat) x.q (aK s x.q x.name).1))):aa Tryz.prog 63 [.c (.ptr 0 0),.st (az x)] (aO s) (Rt (.st (b6 (sT s i x.q x.name))) (aX (pd s i x.q x.name))):=by
 have k:=nB s g x.q x.name;have m:=xC s g hi x.name
 have t:sT s i x.q x.name=if(aK s x.q x.name).2≠0 then⟨(aK s x.q x.name).2,0,[]⟩else if dW (s.n i) x.name≠0 then⟨dW (s.n i) x.name,0,[]⟩else
  if fO s.L s.dep (i:Nat) x.q (aK s x.q x.name).1≠0 then⟨fO s.L s.dep (i:Nat) x.q (aK s x.q x.name).1,0,[]⟩else
  bO (aK s x.q x.name).1 (gp (s.dm (di s.L s.o s.b (i:Nat) x.q (aK s x.q x.name).1)) i x.name (aK s x.q x.name).1):=rfl
 have u:pd s i x.q x.name=if(aK s x.q x.name).2≠0 then s else if dW (s.n i) x.name≠0 then s else
  if fO s.L s.dep (i:Nat) x.q (aK s x.q x.name).1≠0 then s.dm (di s.L s.o s.b (i:Nat) x.q (aK s x.q x.name).1)else
  eG (s.dm (di s.L s.o s.b (i:Nat) x.q (aK s x.q x.name).1)) i x.name (aK s x.q x.name).1:=rfl
 rw[t,u];clear t u;generalize aK s x.q x.name=R at k hl⊢;obtain⟨id,p⟩:=R;dsimp only at k hl⊢;have f:=xH (s:=s) (Jb s.L g.pool s.o s.b g.ef g.own (i:Nat) x.q id) (iq _);have f:aa Tryz.prog _ _ (aO s) (Rt (.c (.int .i64 (fO s.L s.dep (i:Nat) x.q id))) (aX (s.dm (di s.L s.o s.b (i:Nat) x.q id)))):=f;have j:=xc _ hl hi x.name id;have o:=jC id (gp (s.dm (di s.L s.o s.b (i:Nat) x.q id)) i x.name id);clear hl;generalize gp (s.dm (di s.L s.o s.b (i:Nat) x.q id)) i x.name id=v at j o⊢;generalize eG (s.dm (di s.L s.o s.b (i:Nat) x.q id)) i x.name id=z at j⊢;generalize s.dm (di s.L s.o s.b (i:Nat) x.q id)=y at f j⊢;generalize fO s.L s.dep (i:Nat) x.q id=r at f⊢;generalize dW (s.n i) x.name=q at m⊢;generalize bO id v=e at o⊢;obtain⟨D,E,F⟩:=e;rw[<-w]at m f j;refine af (n:=55) (n0:=32) tabOk Tryz.call63 Tryz.func63 ?_;intro hb;refine cl [] [] (k) ?_;refine ay (λa=>?_) (λa=>?_)
 ·have a:p≠0:=a;rw[if_pos a,if_pos a];exact aF (rF 0)
 have a:¬p≠0:=λh=>h a;rw[if_neg a,if_neg a];refine cl [] [] (m) ?_;refine ay (λb=>?_) (λb=>?_)
 ·have b:q≠0:=b;rw[if_pos b,if_pos b];exact aF (rF 0)
 have b:¬q≠0:=λh=>h b;rw[if_neg b,if_neg b];refine⟨false,.grow,(.l [0,1,2,3,4,5,6,7,8,9,10]),by kernel_rfl,.inl ?_⟩;refine aE (mF 0) (aQ 23 (d21++[.box (az x),.box [.int .i64 0,.int .i64 0,.nil]]) y) f ?_;refine ay (λd=>?_) (λd=>?_)
 ·have d:r≠0:=d;rw[if_pos d,if_pos d];exact aF (rF 23)
 have d:¬r≠0:=λh=>h d;rw[if_neg d,if_neg d];refine aE (mF 23) (aQ 44 (d21++[.box (az x),.box [.int .i64 0,.int .i64 0,.nil]]++d21) z) j ?_;refine cl [] [] (o) ?_;exact aF (rF 44)
theorem Ox(s:FS)(r:bU s){i:Nat}(hi:i<4)(x:ck)(t:x.r=i)(v:x.path.length<=4000000)(hl:bU (s.aY (bY s.L (s.h i) x.path).2.2)):aa Tryz.prog 65 [.c (.ptr 0 0),.st (az x)] (aO s) (Rt (.st (b6 (uy s i x.path x.name))) (aX (pZ s i x.path x.name))):=by
 have m:=pq s.L (s.w i) (s.h i);have o:=xC s r hi x.name;have k:=Ms (s:=s) (Oy s.L r.pool (s.h i) x.path v) (vK _ _);have f:=xc _ hl hi x.name (bY s.L (s.h i) x.path).1;have j:=jC (bY s.L (s.h i) x.path).1 (gp (s.aY (bY s.L (s.h i) x.path).2.2) i x.name (bY s.L (s.h i) x.path).1);unfold uy pZ;clear hl;generalize gp (s.aY (bY s.L (s.h i) x.path).2.2) i x.name (bY s.L (s.h i) x.path).1=u at f j⊢;generalize eG (s.aY (bY s.L (s.h i) x.path).2.2) i x.name (bY s.L (s.h i) x.path).1=y at f⊢;generalize s.aY (bY s.L (s.h i) x.path).2.2=w at k f⊢;generalize bY s.L (s.h i) x.path=R at k f j⊢;obtain⟨id,q,z⟩:=R;dsimp only at k f j⊢;generalize dW (s.n i) x.name=p at o⊢;generalize bO id u=e at j⊢;obtain⟨D,E,F⟩:=e;have d:x.r=(i:Nat):=t;rw[<-t]at o f;by_cases g:s.h i<0
 ·rw[if_pos g,if_pos g];refine af (n:=64) (n0:=32) tabOk Tryz.call65 Tryz.func65 ?_;intro hb
  rcases four hi with rfl|rfl|rfl|rfl<;>(
   refine⟨false,.grow,(.l [0,1,2,3,4,5,6,7,8,9]),by kernel_rfl,.inl ?_⟩;refine⟨_,⟨d,by decide⟩,?_⟩;refine cl [] [] (m) ?_;refine dec (λ_=>?_) (λh=>absurd g h);exact aF (rF 0))
 rw[if_neg g,if_neg g];refine af (n:=64) (n0:=32) tabOk Tryz.call65 Tryz.func65 ?_;intro hb
 rcases four hi with rfl|rfl|rfl|rfl<;>(
  refine⟨false,.grow,(.l [0,1,2,3,4,5,6,7,8,9]),by kernel_rfl,.inl ?_⟩;refine⟨_,⟨d,by decide⟩,?_⟩;refine cl [] [] (m) ?_;refine dec (λh=>absurd h g) (λ_=>?_);refine cl [] [] (o) ?_;refine ay (λa=>?_) (λa=>?_)
  ·have a:p≠0:=a;rw[if_pos a,if_pos a];exact aF (rF 0)
  have a:¬p≠0:=λh=>h a;rw[if_neg a,if_neg a];refine⟨false,.grow,(.l [0,1,2,3,4,5,6,7,8,9,10,11,12,13,14,16,17,15,18,19,20,21,22,23]),by kernel_rfl,.inl ?_⟩;refine⟨_,⟨d,by decide⟩,?_⟩;refine cl [] [] (m) ?_;refine aE (mF 0) (aQ 23 (d21++[.box (az x),.box [.int .i64 0,.int .i64 0,.nil]]) w) k ?_;refine ay (λb=>?_) (λb=>?_)
  ·have b:q≠0:=b;rw[if_pos b,if_pos b];exact aF (rF 23)
  have b:¬q≠0:=λh=>h b;rw[if_neg b,if_neg b];refine aE (mF 23) (aQ 44 (d21++[.box (az x),.box [.int .i64 0,.int .i64 0,.nil]]++d21) y) f ?_;refine cl [] [] (j) ?_;exact aF (rF 44))
theorem Mo{f:FuncId}{rest:List A}{s:FS}{L:List Ob}{l:List Fi}{q:List (List UInt8)}{c:Int}(a:aa Tryz.prog f (.c (.ptr 0 0)::rest) [.box [.rw 1],.row 6 Ob an s.L] (Rt (.ao [(false,[.rw 3]),(false,[.rw 4]),(false,[.int .i64 c])]) [.box [.rw 2],.dead,.row 6 Ob an L,.row 4 Fi aq l,.row 1 (List UInt8) encS q]))(hc:lJ rest:=by refine⟨λ_ _ _=>?_⟩;repeat' first|exact trivial|exact rfl|refine And.intro ?_ ?_):
  aa Tryz.prog f (.c (.ptr 10 0)::rest) (aO s) (Rt (.ao [(false,[.rw 53]),(false,[.rw 54]),(false,[.int .i64 c])]) (aX (s.aY L)++[.row 4 Fi aq l,.row 1 (List UInt8) encS q])):=by
 refine bB.frame [10,11] ((rP λi=>bif bi i 11 then 32 else i)++([.s 33,.s 34]:List Rn)) a ?_ rfl rfl ?_ rfl
 ·exact iH (And.intro rfl (hc.m _ _ _))
 ·exact jd ⟨⟨rfl,rfl,trivial⟩,⟨rfl,rfl,trivial⟩,⟨rfl,rfl,trivial⟩,trivial⟩
def uv:List Rn:=[.s 0,.s 1,.s 2,.s 3,.s 4,.s 5,.s 6,.s 7,.s 8,.s 9,.s 10,.s 11,.s 12,.s 13,.s 14,.s 15,.s 16,.s 17,.s 18,.s 19,.s 20,.s 21,.s 22,.s 23,.s 24,.s 25,.s 26,.s 27,.s 28,.s 29,.s 30,.s 31,.s 32,.s 33,.s 34,.s 35]
def LV(i:Nat)(a b c:List Fi):List B:=[.box [(bif bj 0 i then .rw 36 else .nil),(bif bj 1 i then .rw 37 else .nil),(bif bj 2 i then .rw 38 else .nil)]]
def LW(i:Nat)(a b c:List Fi):List B:=[(bif bj 0 i then .row 4 Fi aq a else .dead),(bif bj 1 i then .row 4 Fi aq b else .dead),(bif bj 2 i then .row 4 Fi aq c else .dead)]
theorem LN(s:FS)(W:bU s){i:Nat}(hi:i<4)(x:ck)(hx:x.r=i)(base id:Int)(hn:s.L.length<=600)(hp:∀l∈[(bu s.L base).1,(bu s.L (s.h i)).1,(bu s.L id).1],∀f∈l,f.path.length<=4000000)
  (hB:ak (a7 s i base id).L)(ac:∀f∈(a7 s i base id).out,f.path.length<=4000000)(h2:bU (dQ (s.aY (a7 s i base id).L) i (a7 s i base id).out))(T:bU (cH (dQ (s.aY (a7 s i base id).L) i (a7 s i base id).out) i eH [id])):
  aa Tryz.prog 130 [.c (.ptr 0 0),.st (az x),.c (.int .i64 base),.c (.int .i64 id)] (aO s) (Rt (.st (b6 (mm s i base id))) (aX (jg s i base id))):=by
 obtain⟨o,K⟩:∃o,s.h i=o:=⟨_,rfl⟩;have hd:aa Tryz.prog 70 [.c (.bp [.bp [.bs 6 Ob an s.L],.bs 5 It aM (s.w i),.int .i64 (s.h i)])] [] (Rt (.c (.int .i64 o)) []):=by rw[<-K];exact pq s.L (s.w i) (s.h i)
 have g0:=wC s W base;have g1:=wC s W o;have g2:=wC s W id;have b0:=Mo (s:=s) (G0 s.L W.pool hn (bu s.L base).1 (bu s.L (s.h i)).1 (bu s.L id).1 hp);have J:aa Tryz.prog _ [_,.c (.ls 4 Fi aq (bu s.L base).1),.c (.ls 4 Fi aq (bu s.L (s.h i)).1),.c (.ls 4 Fi aq (bu s.L id).1)] (aO s) (Rt (.ao [(false,[.rw 53]),(false,[.rw 54]),(false,[.int .i64 (a7 s i base id).code])]) (aX (s.aY (a7 s i base id).L)++[.row 4 Fi aq (a7 s i base id).out,.row 1 (List UInt8) encS (a7 s i base id).cf])):=b0;clear b0;have I:=hp (bu s.L (s.h i)).1 (by simp);clear hp
 have a:mm s i base id=if(bu s.L base).2≠0 then⟨(bu s.L base).2,0,[]⟩else if(bu s.L (s.h i)).2≠0 then⟨(bu s.L (s.h i)).2,0,[]⟩else if(bu s.L id).2≠0 then⟨(bu s.L id).2,0,[]⟩else
  if(a7 s i base id).code≠0 then⟨(a7 s i base id).code,0,[]⟩else if 0<(a7 s i base id).cf.length then⟨10,0,(a7 s i base id).cf⟩else
  if kA (a7 s i base id).L (a7 s i base id).out≠0 then⟨kA (a7 s i base id).L (a7 s i base id).out,0,[]⟩else
  tM (dQ (s.aY (a7 s i base id).L) i (a7 s i base id).out) i id:=rfl
 have b:jg s i base id=if(bu s.L base).2≠0 then s else if(bu s.L (s.h i)).2≠0 then s else if(bu s.L id).2≠0 then s else
  if(a7 s i base id).code≠0 then s.aY (a7 s i base id).L else if 0<(a7 s i base id).cf.length then s.aY (a7 s i base id).L else
  if kA (a7 s i base id).L (a7 s i base id).out≠0 then dQ (s.aY (a7 s i base id).L) i (a7 s i base id).out else
  pJ (dQ (s.aY (a7 s i base id).L) i (a7 s i base id).out) i id (bu s.L (s.h i)).1:=rfl
 generalize mm s i base id=E at a⊢;generalize jg s i base id=S at b⊢;rw[K]at J a b I;generalize bu s.L base=R0 at g0 J a b;generalize bu s.L o=R1 at g1 J a b I;generalize bu s.L id=R2 at g2 J a b;obtain⟨w,c0⟩:=R0;obtain⟨p,c1⟩:=R1;obtain⟨y,c2⟩:=R2;generalize a7 s i base id=B at*;obtain⟨F,out,u,c3⟩:=B;dsimp only at*;have N:=mn (s:=s.aY F) hi (Cw F hB (s.w i) (s.h i) out ac) (iq _);have y1:aa Tryz.prog _ _ (aO (s.aY F)) (Rt (.c (.int .i64 (kA F out))) (aX (dQ (s.aY F) i out))):=N;clear N;generalize kA F out=c4 at y1 a b;generalize s.aY F=s1 at*;generalize dQ s1 i out=z at*;have O:=mn (s:=z) hi (AF _ h2.pool _ _ (h2.paths i hi) (h2.items i hi) eH [id] (by simp) (h2.head i hi)) (vK _ _);have y2:aa Tryz.prog _ _ (aO z) (Rt _ (aX (cH z i eH [id]))):=O;clear O;unfold tM at a;unfold pJ at b;generalize cH z i eH [id]=g at*;generalize bg z.L (z.w i) (z.h i) eH [id]=CW at y2 a b;obtain⟨n,c5,L5⟩:=CW;dsimp only at y2 a b;have Q:=mn (s:=g) hi (Cw _ T.pool (g.w i) (g.h i) p I) (iq _);have y3:aa Tryz.prog _ _ (aO g) (Rt _ (aX (dQ g i p))):=Q;clear Q;have R:=xH (s:=g) (u4 g.L T.pool g.o g.b T.ef T.own (i:Int) [n] (by simp)) (iq _);have Y:aa Tryz.prog _ _ (aO g) (Rt _ (aX (j9 g i n))):=R;clear R;generalize dQ g i p=s4 at y3 b;generalize j9 g i n=s5 at Y b;have y5:=jC n (dd g.L (i:Int) [n]);generalize dd g.L (i:Int) [n]=c6 at Y y5 a;generalize bO n c6=e at y5 a;obtain⟨e1,e2,e3⟩:=e;generalize kA g.L p=c7 at y3;have al:x.r=(i:Nat):=hx;rw[<-hx]at Y;have hq:Qn i:=trivial;refine af (n:=113) (n0:=32) tabOk Tryz.call130 Tryz.func130 ?_;intro hb
 rcases four hi with rfl|rfl|rfl|rfl<;>(
  refine⟨false,.grow,(.l [0,1,2,3,4,5,6,7,8]),by kernel_rfl,.inl ?_⟩;refine⟨_,⟨al,by decide⟩,?_⟩;refine cl [] [] (hd) ?_;refine⟨[base,o,id],rfl,?_⟩;refine pH (P:=Qn) (q:=_) hq Nat (λq j=>⟨[(0,.c (.ptr 0 0)),(3,.c (.int .i64 id)),(5,.c (.ptr 32 0)),(8,.c (.ptr 33 0)),(9,.c (.ptr (3+2*q) 0)),(10,.c (.ptr 34 0)),(32,.c (.rw 35)),(33,.c (.int .i64 3)),(34,.c (.int .i64 j))],aO s++[.box (az x),.box [.int .i64 0,.int .i64 0,.nil]]++LV j w p y++[.row 1 Int encI [base,o,id]]++LW j w p y⟩) (λq j=>j<=3/\(0<j->c0=0)/\(1<j->c1=0)/\(2<j->c2=0)) (λj=>3-j) 0 [] (uv++[.s 0,.s 0,.s 0]) ⟨by decide,λr=>absurd r (by decide),λr=>absurd r (by decide),λr=>absurd r (by decide)⟩ dw (λj U=>?_);obtain⟨U,H,M,ad⟩:=U;have U:j=0\/j=1\/j=2\/j=3:=by omega
  rcases U with rfl|rfl|rfl|rfl
  ·refine⟨0,⟨rfl,by simp⟩,?_⟩;refine⟨_,rfl,?_⟩;refine cl [] [] (g0) ?_;refine ay (λh=>?_) (λh=>?_)
   ·obtain rfl:=a.trans (if_pos h);obtain rfl:=b.trans (if_pos h);exact aF (rF 0)
   refine⟨_,⟨rfl,by decide⟩,?_⟩;repeat'((conv=>whnf);first|(refine dec (λh=>?_) (λh=>?_)<;>try contradiction)|(refine ay (λh=>?_) (λh=>?_)<;>try contradiction)|refine dB (λh=>?_) (λh=>?_)|refine aS (λh=>?_) (λh=>?_)|refine⟨i64 (by omega) (by omega),?_⟩|refine⟨_,_,rfl,ah (by omega),?_⟩|refine⟨_,⟨rfl,by omega⟩,?_⟩|refine⟨_,ah (by omega),?_⟩|refine aL ?_|refine aJ ?_|refine dY ?_ rfl|fail)
   refine ag 1 [] (uv++[.s 39,.s 37,.s 38]) ⟨by decide,λ_=>h,λr=>absurd r (by decide),λr=>absurd r (by decide)⟩ (by decide) ?_;exact dw
  ·have d:=H (by decide);refine⟨1,⟨rfl,by simp⟩,?_⟩;refine⟨_,rfl,?_⟩;refine cl [] [] (g1) ?_;refine ay (λh=>?_) (λh=>?_)
   ·obtain rfl:=a.trans ((if_neg (λk=>k d)).trans (if_pos h));obtain rfl:=b.trans ((if_neg (λk=>k d)).trans (if_pos h));exact aF (rF 0)
   refine⟨_,⟨rfl,by decide⟩,?_⟩;repeat'((conv=>whnf);first|(refine dec (λh=>?_) (λh=>?_)<;>try contradiction)|(refine ay (λh=>?_) (λh=>?_)<;>try contradiction)|refine dB (λh=>?_) (λh=>?_)|refine aS (λh=>?_) (λh=>?_)|refine⟨i64 (by omega) (by omega),?_⟩|refine⟨_,_,rfl,ah (by omega),?_⟩|refine⟨_,⟨rfl,by omega⟩,?_⟩|refine⟨_,ah (by omega),?_⟩|refine aL ?_|refine aJ ?_|refine dY ?_ rfl|fail)
   refine ag 2 [] (uv++[.s 36,.s 39,.s 38]) ⟨by decide,λ_=>d,λ_=>h,λr=>absurd r (by decide)⟩ (by decide) ?_;exact dw
  ·have d:=H (by decide);have m:=M (by decide);refine⟨2,⟨rfl,by simp⟩,?_⟩;refine⟨_,rfl,?_⟩;refine cl [] [] (g2) ?_;refine ay (λh=>?_) (λh=>?_)
   ·obtain rfl:=a.trans ((if_neg (λk=>k d)).trans ((if_neg (λk=>k m)).trans (if_pos h)));obtain rfl:=b.trans ((if_neg (λk=>k d)).trans ((if_neg (λk=>k m)).trans (if_pos h)));exact aF (rF 0)
   refine⟨_,⟨rfl,by decide⟩,?_⟩;repeat'((conv=>whnf);first|(refine dec (λh=>?_) (λh=>?_)<;>try contradiction)|(refine ay (λh=>?_) (λh=>?_)<;>try contradiction)|refine dB (λh=>?_) (λh=>?_)|refine aS (λh=>?_) (λh=>?_)|refine⟨i64 (by omega) (by omega),?_⟩|refine⟨_,_,rfl,ah (by omega),?_⟩|refine⟨_,⟨rfl,by omega⟩,?_⟩|refine⟨_,ah (by omega),?_⟩|refine aL ?_|refine aJ ?_|refine dY ?_ rfl|fail)
   refine ag 3 [] (uv++[.s 36,.s 37,.s 39]) ⟨by decide,λ_=>d,λ_=>m,λ_=>h⟩ (by decide) ?_;exact dw
  ·have d:=H (by decide);have m:=M (by decide);have t:=ad (by decide);refine⟨false,.grow,(.l [0,1,2,3,4,5,6,7,8,9,10,11,12,13,14,15,16,17,18,19,20]),by kernel_rfl,.inl ?_⟩;refine⟨0,⟨rfl,by decide⟩,?_⟩;refine⟨1,⟨rfl,by decide⟩,?_⟩;refine⟨2,⟨rfl,by decide⟩,?_⟩;refine Hw [36,37,38] (mF 0) (aO s++[.box (az x),.box [.int .i64 0,.int .i64 0,.nil],.box [.rw 36,.rw 37,.rw 38],.row 1 Int encI [base,o,id],.bh 4 Fi aq w,.bh 4 Fi aq p,.bh 4 Fi aq y]) (aQ 28 (d21++[.box (az x),.box [.int .i64 0,.int .i64 0,.nil],.box [.rw 36,.rw 37,.rw 38],.row 1 Int encI [base,o,id],.bh 4 Fi aq w,.bh 4 Fi aq p,.bh 4 Fi aq y]) s1++[.row 4 Fi aq out,.row 1 (List UInt8) encS u]) J ?_;refine ay (λh=>?_) (λD=>?_)
   ·obtain rfl:=a.trans ((if_neg (λk=>k d)).trans ((if_neg (λk=>k m)).trans ((if_neg (λk=>k t)).trans (if_pos h))));obtain rfl:=b.trans ((if_neg (λk=>k d)).trans ((if_neg (λk=>k m)).trans ((if_neg (λk=>k t)).trans (if_pos h))));exact aF (rF 28)
   refine dec (λh=>?_) (λv=>?_)
   ·have h:0<u.length:=by have h:(0:Int)<u.length:=h;omega
    obtain rfl:=a.trans ((if_neg (λk=>k d)).trans ((if_neg (λk=>k m)).trans ((if_neg (λk=>k t)).trans ((if_neg (λk=>k D)).trans (if_pos h)))));obtain rfl:=b.trans ((if_neg (λk=>k d)).trans ((if_neg (λk=>k m)).trans ((if_neg (λk=>k t)).trans ((if_neg (λk=>k D)).trans (if_pos h)))));exact NY [61] (rF 28)
   have v:¬0<u.length:=by have v:¬(0:Int)<u.length:=v;omega
   refine aE (mF 28) (aQ 51 ((d21++[.box (az x),.box [.int .i64 0,.int .i64 0,.nil],.box [.rw 36,.rw 37,.rw 38],.row 1 Int encI [base,o,id],.bh 4 Fi aq w,.bh 4 Fi aq p,.bh 4 Fi aq y])++d21++[.row 4 Fi aq out,.row 1 (List UInt8) encS u]) z) y1 ?_;refine ay (λh=>?_) (λZ=>?_)
   ·obtain rfl:=a.trans ((if_neg (λk=>k d)).trans ((if_neg (λk=>k m)).trans ((if_neg (λk=>k t)).trans ((if_neg (λk=>k D)).trans ((if_neg v).trans (if_pos h))))));obtain rfl:=b.trans ((if_neg (λk=>k d)).trans ((if_neg (λk=>k m)).trans ((if_neg (λk=>k t)).trans ((if_neg (λk=>k D)).trans ((if_neg v).trans (if_pos h))))));exact aF (rF 51)
   refine⟨[id],rfl,?_⟩;refine aE (mF 51) (aQ 73 (((d21++[.box (az x),.box [.int .i64 0,.int .i64 0,.nil],.box [.rw 36,.rw 37,.rw 38],.row 1 Int encI [base,o,id],.bh 4 Fi aq w,.bh 4 Fi aq p,.bh 4 Fi aq y])++d21++[.row 4 Fi aq out,.row 1 (List UInt8) encS u])++d21++[.row 1 Int encI [id]]) g) y2 ?_;refine ay (λh=>?_) (λz6=>?_)
   ·obtain rfl:=a.trans ((if_neg (λk=>k d)).trans ((if_neg (λk=>k m)).trans ((if_neg (λk=>k t)).trans ((if_neg (λk=>k D)).trans ((if_neg v).trans ((if_neg (λk=>k Z)).trans (if_pos h)))))));obtain rfl:=b.trans ((if_neg (λk=>k d)).trans ((if_neg (λk=>k m)).trans ((if_neg (λk=>k t)).trans ((if_neg (λk=>k D)).trans ((if_neg v).trans ((if_neg (λk=>k Z)).trans (if_pos h)))))));refine⟨1,⟨rfl,by decide⟩,?_⟩;refine aE (mF 73) (aQ 94 ((((d21++[.box (az x),.box [.int .i64 0,.int .i64 0,.nil],.box [.rw 36,.rw 37,.rw 38],.row 1 Int encI [base,o,id],.bh 4 Fi aq w,.bh 4 Fi aq p,.bh 4 Fi aq y])++d21++[.row 4 Fi aq out,.row 1 (List UInt8) encS u])++d21++[.row 1 Int encI [id]])++d21) S) y3 ?_;exact aF (rF 94)
   obtain rfl:=a.trans ((if_neg (λk=>k d)).trans ((if_neg (λk=>k m)).trans ((if_neg (λk=>k t)).trans ((if_neg (λk=>k D)).trans ((if_neg v).trans ((if_neg (λk=>k Z)).trans (if_neg (λk=>k z6))))))));obtain rfl:=b.trans ((if_neg (λk=>k d)).trans ((if_neg (λk=>k m)).trans ((if_neg (λk=>k t)).trans ((if_neg (λk=>k D)).trans ((if_neg v).trans ((if_neg (λk=>k Z)).trans (if_neg (λk=>k z6))))))));refine⟨false,.grow,(.l [0,1,2,3,4,5,6,7,8,9,10,11]),by kernel_rfl,.inl ?_⟩;refine⟨[n],rfl,?_⟩;refine aE (mF 73) (aQ 95 ((((d21++[.box (az x),.box [.int .i64 0,.int .i64 0,.nil],.box [.rw 36,.rw 37,.rw 38],.row 1 Int encI [base,o,id],.bh 4 Fi aq w,.bh 4 Fi aq p,.bh 4 Fi aq y])++d21++[.row 4 Fi aq out,.row 1 (List UInt8) encS u])++d21++[.row 1 Int encI [id]])++d21++[.row 1 Int encI [n]]) S) Y ?_;refine cl [] [] (y5) ?_;exact aF (rF 95))
theorem Mx{f:FuncId}{rest:List A}{X:A}{s:FS}{r:Nat}(hr:r<4){L:List Ob}(b:aa Tryz.prog f (.c (.ptr 0 0)::rest) [.box [.ptr 1 0,.rw 3,.int .i64 (s.h r)],.box [.rw 2],.row 6 Ob an s.L,.row 5 It aM (s.w r)] (Rt X [.box [.ptr 1 0,.rw 5,.int .i64 (s.h r)],.box [.rw 4],.dead,.dead,.row 6 Ob an L,.row 5 It aM (s.w r)]))(a:jZ X)(hc:lJ rest:=by refine⟨λ_ _ _=>?_⟩;repeat' first|exact trivial|exact rfl|refine And.intro ?_ ?_):
  aa Tryz.prog f (.c (.ptr (3+2*r) 0)::rest) (aO s) (Rt X (aX (s.aY L))):=by
 refine bB.frame [3+2*r,10,11,28+r] (rP λi=>bif bi i 11 then 32 else bif bi i (28+r)then 33 else i) b ?_ rfl (a.r _) ?_ ?_
 ·rcases four hr with rfl|rfl|rfl|rfl<;>exact iH (And.intro rfl (hc.m _ _ _))
 ·rcases four hr with rfl|rfl|rfl|rfl<;>exact jd (a.m _ _)
 ·rw[a.c];rfl
theorem Cs{l:List Int}(h:0<l.length):l[l.length-1]? =some (l.getLastD 0):=by
 rw[<-List.getLast?_eq_getElem?,List.getLastD_eq_getLast?];cases l with
 |nil=>simp at h
 |cons a l=>simp[List.getLast?_cons]
theorem Gq{L:List Ob}{a b:Int}:(eL L a b).1.length<=L.length:=by
 unfold eL;split
 ·exact a0 _
 split
 ·exact a0 _
 ·exact a2 (a4 _ _) (a2 (a4 _ _) se)
theorem LH(s:FS)(K:bU s){i:Nat}(hi:i<4)(x:ck)(Z:x.r=i)(h1:bU (cZ s i))
  (d:aa Tryz.prog 130 [.c (.ptr 0 0),.st (az x),.c (.int .i64 (pB (eL (cZ s i).L ((cZ s i).h i) (aK s (i:Nat) x.name).1).1)),.c (.int .i64 (aK s (i:Nat) x.name).1)] (aO (cZ s i)) (Rt (.st (b6 (mm (cZ s i) i (pB (eL (cZ s i).L ((cZ s i).h i) (aK s (i:Nat) x.name).1).1) (aK s (i:Nat) x.name).1))) (aX (jg (cZ s i) i (pB (eL (cZ s i).L ((cZ s i).h i) (aK s (i:Nat) x.name).1).1) (aK s (i:Nat) x.name).1)))):
  aa Tryz.prog 60 [.c (.ptr 0 0),.st (az x)] (aO s) (Rt (.st (b6 (rf s i x.name))) (aX (nG s i x.name))):=by
 have M:=nB s K (i:Nat) x.name;have F:=Mx (s:=s) hi (Ap s.L K.pool (s.w i) (s.h i) (K.paths i hi) (K.items i hi)) (iq _);have U:aa Tryz.prog _ _ (aO s) (Rt (.c (.int .i64 (mX s i))) (aX (cZ s i))):=F;clear F;have f:rf s i x.name=if(aK s (i:Nat) x.name).2≠0 then⟨(aK s (i:Nat) x.name).2,0,[]⟩else if mX s i≠0 then⟨mX s i,0,[]⟩else tL (cZ s i) i (aK s (i:Nat) x.name).1:=rfl
 have j:nG s i x.name=if(aK s (i:Nat) x.name).2≠0 then s else if mX s i≠0 then cZ s i else pI (cZ s i) i (aK s (i:Nat) x.name).1:=rfl
 generalize rf s i x.name=E at f⊢;generalize nG s i x.name=S at j⊢;generalize aK s (i:Nat) x.name=R at M d f j;obtain⟨id,c1⟩:=R;generalize mX s i=c2 at U f j;generalize cZ s i=m at h1 d U f j;dsimp only at M d f j;unfold tL at f;unfold pI at j;obtain⟨r,z⟩:∃r,m.h i=r:=⟨_,rfl⟩;have w:aa Tryz.prog 70 [.c (.bp [.bp [.bs 6 Ob an m.L],.bs 5 It aM (m.w i),.int .i64 (m.h i)])] [] (Rt (.c (.int .i64 r)) []):=by rw[<-z];exact pq m.L (m.w i) (m.h i)
 have H:=mn (s:=m) hi (Al m.L h1.pool (m.w i) (m.h i) (h1.paths i hi) (h1.items i hi) id) (iq _);have N:aa Tryz.prog _ _ (aO m) (Rt (.c (.int .i64 (fe m.L (m.w i) (m.h i) id))) (aX (jM m i id))):=H;clear H;rw[z]at d f j;unfold rq at f;have O:=jC id (fe m.L (m.w i) (m.h i) id);generalize fe m.L (m.w i) (m.h i) id=c3 at N O f;generalize jM m i id=s3 at N j;generalize bO id c3=e at O f;obtain⟨e1,e2,e3⟩:=e;have p5:=w4 m.L h1.pool r id;have W:=w4 m.L h1.pool id r;have P:=Gr m.L h1.pool r id;generalize fu m.L r id=Y at p5 f j;generalize fu m.L id r=IB at W f j;have y:=Gq (L:=m.L) (a:=r) (b:=id);have ac:=h1.pool.len;generalize eL m.L r id=BR at P d f j y;obtain⟨q,c4⟩:=BR;dsimp only at P d f j y;obtain⟨o,p⟩:∃o,pB q=o:=⟨_,rfl⟩;rw[p]at d f j;generalize mm m i o id=em at d f;generalize jg m i o id=sm at d j;obtain⟨m1,m2,m3⟩:=em;have T:x.r=(i:Nat):=Z;rw[<-Z]at M;refine af (n:=111) (n0:=32) tabOk Tryz.call60 Tryz.func60 ?_;intro hb;refine cl [] [] (M) ?_;refine ay (λh=>?_) (λz1=>?_)
 ·obtain rfl:=f.trans (if_pos h);obtain rfl:=j.trans (if_pos h);exact aF (rF 0)
 have f:=f.trans (if_neg (λk=>k z1));have j:=j.trans (if_neg (λk=>k z1))
 rcases four hi with rfl|rfl|rfl|rfl<;>(
  refine⟨false,.grow,(.l [0,1,2,3,4,5,6,7,8]),by kernel_rfl,.inl ?_⟩;refine⟨_,⟨T,by decide⟩,?_⟩;refine aE (mF 0) (aQ 23 (d21++[.box (az x),.box [.int .i64 0,.int .i64 0,.nil]]) m) U ?_;refine ay (λh=>?_) (λv=>?_)
  ·obtain rfl:=f.trans (if_pos h);obtain rfl:=j.trans (if_pos h);exact aF (rF 23)
  refine⟨false,.grow,(.l [0,1,2,3,4,5,6,7,8,9,10,11,13,12,14,15,16,18,17,19,20,21,22]),by kernel_rfl,.inl ?_⟩;refine cl [] [] (w) ?_;refine dec (λh=>?_) (λz3=>?_)
  ·obtain rfl:=f.trans ((if_neg (λk=>k v)).trans (if_pos (.inl h)));obtain rfl:=j.trans ((if_neg (λk=>k v)).trans (if_pos (.inl h)));refine aE (mF 23) (aQ 44 (d21++[.box (az x),.box [.int .i64 0,.int .i64 0,.nil]]++d21) S) N ?_;refine cl [] [] (O) ?_;exact aF (rF 44)
  refine cl [] [] (w) ?_;refine cl [] [] (p5) ?_;refine aS (λJ=>?_) (λJ=>?_)
  ·refine cl [] [] (w) ?_;refine ay (λg=>?_) (λg=>?_)
   ·obtain rfl:=f.trans ((if_neg (λk=>k v)).trans (if_pos (.inr ⟨J,g⟩)));obtain rfl:=j.trans ((if_neg (λk=>k v)).trans (if_pos (.inr ⟨J,g⟩)));refine aE (mF 23) (aQ 44 (d21++[.box (az x),.box [.int .i64 0,.int .i64 0,.nil]]++d21) S) N ?_;refine cl [] [] (O) ?_;exact aF (rF 44)
   ·have D:¬(r<0\/(Y=true/\r≠id)):=λk=>k.elim z3 (λk=>k.2 g);have f:=f.trans ((if_neg (λk=>k v)).trans (if_neg D));have j:=j.trans ((if_neg (λk=>k v)).trans (if_neg D));refine⟨false,.grow,(.l [0,1,2,3,4,5,6,7,8,9,10,11]),by kernel_rfl,.inl ?_⟩;refine cl [] [] (w) ?_;refine cl [] [] (W) ?_;refine aS (λt=>?_) (λt=>?_)
    ·obtain rfl:=f.trans (if_pos t);obtain rfl:=j.trans (if_pos t);exact aF (rF 23)
    have f:=f.trans (if_neg (by rw[t];decide));have j:=j.trans (if_neg (by rw[t];decide));refine⟨false,.grow,(.l [0,1,2,3,4,5,6,7,9,8,10,11,12,13,14,15]),by kernel_rfl,.inl ?_⟩;refine cl [] [] (w) ?_;refine cl [] [] (P) ?_;refine ay (λh=>?_) (λI=>?_)
    ·obtain rfl:=f.trans (if_pos h);obtain rfl:=j.trans (if_pos h);exact aF (rF 23)
    obtain rfl:=f.trans (if_neg (λk=>k I));obtain rfl:=j.trans (if_neg (λk=>k I));refine dec (λh=>?_) (λh=>?_)
    ·have h:0<q.length:=by have h:(0:Int)<q.length:=h;omega
     rw[show o=q.getLastD 0 from p.symm.trans (if_pos h)]at d;have u:=Cs h;generalize q.getLastD 0=Q at d u;refine⟨i64 (by omega) (by omega),?_⟩;refine⟨q.length-1,⟨by omega,by omega⟩,?_⟩;refine⟨Q,u,?_⟩;refine aE (mF 23) (aQ 45 (d21++[.box (az x),.box [.int .i64 0,.int .i64 0,.nil]]++d21++[.row 1 Int encI q]) S) d ?_;exact aF (rF 45)
    ·have h:¬0<q.length:=by have h:¬(0:Int)<q.length:=h;omega
     rw[show o= -1 from p.symm.trans (if_neg h)]at d;refine aE (mF 23) (aQ 45 (d21++[.box (az x),.box [.int .i64 0,.int .i64 0,.nil]]++d21++[.row 1 Int encI q]) S) d ?_;exact aF (rF 45)
  ·have D:¬(r<0\/(Y=true/\r≠id)):=λk=>k.elim z3 (λk=>by rw[J]at k;cases k.1);have f:=f.trans ((if_neg (λk=>k v)).trans (if_neg D));have j:=j.trans ((if_neg (λk=>k v)).trans (if_neg D));refine⟨false,.grow,(.l [0,1,2,3,4,5,6,7,8,9,10,11]),by kernel_rfl,.inl ?_⟩;refine cl [] [] (w) ?_;refine cl [] [] (W) ?_;refine aS (λt=>?_) (λt=>?_)
   ·obtain rfl:=f.trans (if_pos t);obtain rfl:=j.trans (if_pos t);exact aF (rF 23)
   have f:=f.trans (if_neg (by rw[t];decide));have j:=j.trans (if_neg (by rw[t];decide));refine⟨false,.grow,(.l [0,1,2,3,4,5,6,7,9,8,10,11,12,13,14,15]),by kernel_rfl,.inl ?_⟩;refine cl [] [] (w) ?_;refine cl [] [] (P) ?_;refine ay (λh=>?_) (λI=>?_)
   ·obtain rfl:=f.trans (if_pos h);obtain rfl:=j.trans (if_pos h);exact aF (rF 23)
   obtain rfl:=f.trans (if_neg (λk=>k I));obtain rfl:=j.trans (if_neg (λk=>k I));refine dec (λh=>?_) (λh=>?_)
   ·have h:0<q.length:=by have h:(0:Int)<q.length:=h;omega
    rw[show o=q.getLastD 0 from p.symm.trans (if_pos h)]at d;have u:=Cs h;generalize q.getLastD 0=Q at d u;refine⟨i64 (by omega) (by omega),?_⟩;refine⟨q.length-1,⟨by omega,by omega⟩,?_⟩;refine⟨Q,u,?_⟩;refine aE (mF 23) (aQ 45 (d21++[.box (az x),.box [.int .i64 0,.int .i64 0,.nil]]++d21++[.row 1 Int encI q]) S) d ?_;exact aF (rF 45)
   ·have h:¬0<q.length:=by have h:¬(0:Int)<q.length:=h;omega
    rw[show o= -1 from p.symm.trans (if_neg h)]at d;refine aE (mF 23) (aQ 45 (d21++[.box (az x),.box [.int .i64 0,.int .i64 0,.nil]]++d21++[.row 1 Int encI q]) S) d ?_;exact aF (rF 45))
theorem IH(s:FS){i:Nat}(hi:i<4)(q:Int)(p n t b:List UInt8)(E:cz)(S:FS)(p1:aa Tryz.prog 57 [.c (.ptr 0 0),.st (az ⟨3,i,q,p,n,t,b⟩)] (aO s) (Rt (.st (b6 E)) (aX S))):aa Tryz.prog 22 [.c (.ptr 0 0),.st (az ⟨3,i,q,p,n,t,b⟩)] (aO s) (Rt (.st (b6 E)) (aX S)):=by
 have a:=fP i;rw[bW.2 ⟨i,hi,rfl⟩]at a;obtain⟨d,e,f⟩:=E;refine af (n:=111) (n0:=32) tabOk Tryz.call22 Tryz.func22 ?_;intro hb;refine cl [] [] (a) ?_;refine aE (mF 0) (aQ 23 (d21++[.box (az ⟨3,i,q,p,n,t,b⟩),.box [.int .i64 0,.int .i64 0,.nil]]) S) p1 ?_;exact aF (rF 23)
theorem ID(s:FS){i:Nat}(hi:i<4)(q:Int)(p n t b:List UInt8)(E:cz)(S:FS)(p1:aa Tryz.prog 59 [.c (.ptr 0 0),.st (az ⟨5,i,q,p,n,t,b⟩)] (aO s) (Rt (.st (b6 E)) (aX S))):aa Tryz.prog 22 [.c (.ptr 0 0),.st (az ⟨5,i,q,p,n,t,b⟩)] (aO s) (Rt (.st (b6 E)) (aX S)):=by
 have a:=fP i;rw[bW.2 ⟨i,hi,rfl⟩]at a;obtain⟨d,e,f⟩:=E;refine af (n:=111) (n0:=32) tabOk Tryz.call22 Tryz.func22 ?_;intro hb;refine cl [] [] (a) ?_;refine aE (mF 0) (aQ 23 (d21++[.box (az ⟨5,i,q,p,n,t,b⟩),.box [.int .i64 0,.int .i64 0,.nil]]) S) p1 ?_;exact aF (rF 23)
theorem II(s:FS){i:Nat}(hi:i<4)(q:Int)(p n t b:List UInt8)(E:cz)(S:FS)(p1:aa Tryz.prog 60 [.c (.ptr 0 0),.st (az ⟨6,i,q,p,n,t,b⟩)] (aO s) (Rt (.st (b6 E)) (aX S))):aa Tryz.prog 22 [.c (.ptr 0 0),.st (az ⟨6,i,q,p,n,t,b⟩)] (aO s) (Rt (.st (b6 E)) (aX S)):=by
 have a:=fP i;rw[bW.2 ⟨i,hi,rfl⟩]at a;obtain⟨d,e,f⟩:=E;refine af (n:=111) (n0:=32) tabOk Tryz.call22 Tryz.func22 ?_;intro hb;refine cl [] [] (a) ?_;refine aE (mF 0) (aQ 23 (d21++[.box (az ⟨6,i,q,p,n,t,b⟩),.box [.int .i64 0,.int .i64 0,.nil]]) S) p1 ?_;exact aF (rF 23)
theorem IC(s:FS){i:Nat}(hi:i<4)(q:Int)(p n t b:List UInt8)(E:cz)(S:FS)(p1:aa Tryz.prog 61 [.c (.ptr 0 0),.st (az ⟨7,i,q,p,n,t,b⟩)] (aO s) (Rt (.st (b6 E)) (aX S))):aa Tryz.prog 22 [.c (.ptr 0 0),.st (az ⟨7,i,q,p,n,t,b⟩)] (aO s) (Rt (.st (b6 E)) (aX S)):=by
 have a:=fP i;rw[bW.2 ⟨i,hi,rfl⟩]at a;obtain⟨d,e,f⟩:=E;refine af (n:=111) (n0:=32) tabOk Tryz.call22 Tryz.func22 ?_;intro hb;refine cl [] [] (a) ?_;refine aE (mF 0) (aQ 23 (d21++[.box (az ⟨7,i,q,p,n,t,b⟩),.box [.int .i64 0,.int .i64 0,.nil]]) S) p1 ?_;exact aF (rF 23)
theorem IE(s:FS){i:Nat}(hi:i<4)(q:Int)(p n t b:List UInt8)(E:cz)(S:FS)(p1:aa Tryz.prog 62 [.c (.ptr 0 0),.st (az ⟨8,i,q,p,n,t,b⟩)] (aO s) (Rt (.st (b6 E)) (aX S))):aa Tryz.prog 22 [.c (.ptr 0 0),.st (az ⟨8,i,q,p,n,t,b⟩)] (aO s) (Rt (.st (b6 E)) (aX S)):=by
 have a:=fP i;rw[bW.2 ⟨i,hi,rfl⟩]at a;obtain⟨d,e,f⟩:=E;refine af (n:=111) (n0:=32) tabOk Tryz.call22 Tryz.func22 ?_;intro hb;refine cl [] [] (a) ?_;refine aE (mF 0) (aQ 23 (d21++[.box (az ⟨8,i,q,p,n,t,b⟩),.box [.int .i64 0,.int .i64 0,.nil]]) S) p1 ?_;exact aF (rF 23)
theorem IF(s:FS){i:Nat}(hi:i<4)(q:Int)(p n t b:List UInt8)(E:cz)(S:FS)(p1:aa Tryz.prog 63 [.c (.ptr 0 0),.st (az ⟨9,i,q,p,n,t,b⟩)] (aO s) (Rt (.st (b6 E)) (aX S))):aa Tryz.prog 22 [.c (.ptr 0 0),.st (az ⟨9,i,q,p,n,t,b⟩)] (aO s) (Rt (.st (b6 E)) (aX S)):=by
 have a:=fP i;rw[bW.2 ⟨i,hi,rfl⟩]at a;obtain⟨d,e,f⟩:=E;refine af (n:=111) (n0:=32) tabOk Tryz.call22 Tryz.func22 ?_;intro hb;refine cl [] [] (a) ?_;refine aE (mF 0) (aQ 23 (d21++[.box (az ⟨9,i,q,p,n,t,b⟩),.box [.int .i64 0,.int .i64 0,.nil]]) S) p1 ?_;exact aF (rF 23)
theorem IL(s:FS){i:Nat}(hi:i<4)(q:Int)(p n t b:List UInt8)(E:cz)(S:FS)(p1:aa Tryz.prog 65 [.c (.ptr 0 0),.st (az ⟨12,i,q,p,n,t,b⟩)] (aO s) (Rt (.st (b6 E)) (aX S))):aa Tryz.prog 22 [.c (.ptr 0 0),.st (az ⟨12,i,q,p,n,t,b⟩)] (aO s) (Rt (.st (b6 E)) (aX S)):=by
 have a:=fP i;rw[bW.2 ⟨i,hi,rfl⟩]at a;obtain⟨d,e,f⟩:=E;refine af (n:=111) (n0:=32) tabOk Tryz.call22 Tryz.func22 ?_;intro hb;refine cl [] [] (a) ?_;refine aE (mF 0) (aQ 23 (d21++[.box (az ⟨12,i,q,p,n,t,b⟩),.box [.int .i64 0,.int .i64 0,.nil]]) S) p1 ?_;exact aF (rF 23)
theorem IK(s:FS)(j:bU s){i:Nat}(hi:i<4){r:Int}(hr:r=i)(q:Int)(p n t b:List UInt8):aa Tryz.prog 22 [.c (.ptr 0 0),.st (az ⟨2,r,q,p,n,t,b⟩)] (aO s) (Rt (.st (b6 (ui s i p))) (aX (uj s i p))):=by
 have f:=fP r;rw[bW.2 ⟨i,hi,hr⟩]at f;have a:=mn (s:=s) hi (Nh s.L (s.w i) (s.h i) p (j.items i hi)) (iq _);obtain⟨c,d⟩:∃c,(iI (s.w i) p).1=c:=⟨_,rfl⟩;rw[d]at a;have g:aa Tryz.prog _ _ (aO s) (Rt _ (aX (uj s i p))):=a;clear a;have h:=jC 0 c;rw[show ui s i p=bO 0 c by unfold ui;rw[d]];generalize bO 0 c=e at h⊢;obtain⟨m,o,u⟩:=e;generalize uj s i p=k at g⊢;refine af (n:=111) (n0:=32) tabOk Tryz.call22 Tryz.func22 ?_;intro hb;refine cl [] [] (f) ?_
 rcases four hi with rfl|rfl|rfl|rfl<;>(
  refine⟨false,.grow,(.l [0,1,2,3,4,5,6,7,8,9,10,11,12]),by kernel_rfl,.inl ?_⟩;refine⟨_,⟨hr,by decide⟩,?_⟩;refine aE (mF 0) (aQ 23 (d21++[.box (az ⟨2,r,q,p,n,t,b⟩),.box [.int .i64 0,.int .i64 0,.nil]]) k) g ?_;refine cl [] [] (h) ?_;exact aF (rF 23))
theorem Iz(s:FS)(j:bU s){i:Nat}(hi:i<4)(q:Int)(p n t b:List UInt8):aa Tryz.prog 22 [.c (.ptr 0 0),.st (az ⟨10,(i:Nat),q,p,n,t,b⟩)] (aO s) (Rt (.st (b6 (sA s i q))) (aX (sB s i q))):=by
 have f:=fP i;rw[bW.2 ⟨i,hi,rfl⟩]at f;have a:=Mp (s:=s) (G6 s.L s.o s.b j.ef (i:Nat) q) (iq _);obtain⟨c,d⟩:∃c,dT s.b (i:Nat) q=c:=⟨_,rfl⟩;rw[d]at a;have g:aa Tryz.prog _ _ (aO s) (Rt _ (aX (sB s i q))):=a;clear a;have h:=jC 0 c;rw[show sA s i q=bO 0 c by unfold sA;rw[d]];generalize bO 0 c=e at h⊢;obtain⟨m,o,r⟩:=e;generalize sB s i q=k at g⊢;refine af (n:=111) (n0:=32) tabOk Tryz.call22 Tryz.func22 ?_;intro hb;refine cl [] [] (f) ?_;refine⟨false,.grow,(.l [0,1,2,3,4,5,6,7,8,9,10]),by kernel_rfl,.inl ?_⟩;refine aE (mF 0) (aQ 23 (d21++[.box (az ⟨10,(i:Nat),q,p,n,t,b⟩),.box [.int .i64 0,.int .i64 0,.nil]]) k) g ?_;refine cl [] [] (h) ?_;exact aF (rF 23)
theorem IG(s:FS)(x:ck)(h:x.kind<1\/12<x.kind):aa Tryz.prog 22 [.c (.ptr 0 0),.st (az x)] (aO s) (Rt (.st (b6 ⟨6,0,[]⟩)) (aX s)):=by
 refine af (n:=111) (n0:=32) tabOk Tryz.call22 Tryz.func22 ?_;intro hb;refine dec (λa=>?_) (λa=>?_)
 ·exact aF (rF 0)
 ·refine dec (λb=>?_) (λb=>?_)
  ·exact aF (rF 0)
  ·exact absurd (h.resolve_left a) b
theorem IJ(s:FS)(x:ck)(h:¬(x.kind<1\/12<x.kind))(hr:bC x.r=false):aa Tryz.prog 22 [.c (.ptr 0 0),.st (az x)] (aO s) (Rt (.st (b6 ⟨1,0,[]⟩)) (aX s)):=by
 have d:=fP x.r;rw[hr]at d;refine af (n:=111) (n0:=32) tabOk Tryz.call22 Tryz.func22 ?_;intro hb;refine dec (λa=>absurd (.inl a) h) (λa=>?_);refine dec (λb=>absurd (.inr b) h) (λb=>?_);refine cl [] [] (d) ?_;exact aF (rF 0)
end Go.Nest
end
section
namespace Go.Nest
open Go Go.AM
variable {L0:List Ob}
structure WI(L:List Ob)(l:List It)(h:Int):Prop where
 ok:ig l
 kU:∀y∈l,y.bytes.length<=400
 dD:∀y∈l,0<=y.ax/\y.ax<4
 nb:NB l
 head:iE L h
theorem WI.ext{L M:List Ob}{l:List It}{h:Int}(a:WI L l h)(b:L<+:M):WI M l h:=⟨a.ok,a.kU,a.dD,a.nb,a.head.ext b⟩
theorem WI.nil(L:List Ob):WI L [] (-1):=⟨.nil,λy h=>(by cases h),λy h=>(by cases h),λy h=>(by cases h),.inl (by decide)⟩
structure FI(L0:List Ob)(s:FS)(n:Nat):Prop where
 pool:ak s.L
 ef:jX s.b
 own:∀k,k<4->(s.o k).length<=s.L.length
 refs:∀k,k<4->gI (s.n k) (s.m k)
 mov:∀k,k<4->(s.m k).length<=n
 work:∀k,k<4->WI s.L (s.w k) (s.h k)
 pre:L0<+:s.L
theorem FI.wf{s:FS}{n:Nat}(h:FI L0 s n)(hn:n<=990):bU s where
 pool:=h.pool
 ef:=h.ef.ok
 own:=λk a=>by have:=h.own k a;have:=h.pool.len;omega
 sort:=λk a=>(h.refs k a).inv.sort
 ids:=λk a=>(h.refs k a).inv.ids
 few:=λk a=>(h.refs k a).inv.len
 moves:=λk a=>by have:=h.mov k a;omega
 paths:=λk a y b=>by have:=rz ((h.work k a).ok.path y b);omega
 items:=λk a=>(h.work k a).ok.len
 bytes:=λk a=>(h.work k a).kU
 head:=λk a=>(h.work k a).head
theorem FI.nil:FI [] c8 0:=⟨.nil,.nil,λk a=>a0 _,λk a=>.nil,λk a=>a0 _,λk a=>WI.nil _,ap _⟩
theorem FI.up{s:FS}{n m:Nat}(h:FI L0 s n)(hm:n<=m):FI L0 s m:=⟨h.pool,h.ef,h.own,h.refs,λk a=>a2 (h.mov k a) hm,h.work,h.pre⟩
theorem gb{α:Type}{o:Nat->α}{k j:Nat}{v:α}:aA o k v j=if j=k then v else o j:=by
 split
 ·rename_i e;rw[e,iB]
 ·rename_i e;rw[kL e]
theorem FI.cC{s:FS}{n r:Nat}(h:FI L0 s n){M:List Ob}{l:List It}{hd:Int}(c:ak M)(b:s.L<+:M)(d:WI M l hd):FI L0 (s.cC r M l hd) n:=
 ⟨c,h.ef,λk a=>a2 (h.own k a) b.length_le,h.refs,h.mov,λk a=>by
  show WI M (aA s.w r l k) (aA s.h r hd k);rw[gb,gb];split
  ·exact d
  ·exact(h.work k a).ext b,h.pre.trans b⟩
theorem FI.lD{s:FS}{n r:Nat}(h:FI L0 s n)(name:List UInt8)(old id:Int):FI L0 (s.lD r (aY (s.n r) name old id) (fZ (s.n r) (s.m r) name old id)) (n+1):=
 ⟨h.pool,h.ef,h.own,λk a=>by
  show gI (aA s.n r _ k) (aA s.m r _ k);rw[gb,gb];have:=h.refs k a;split
  ·rename_i e;rw[<-e];unfold aY fZ;split
   ·exact .snoc this ‹_›
   ·exact this
  ·exact this,λk a=>by
  show(aA s.m r _ k).length<=_;rw[gb];have:=h.mov k a;split
  ·rename_i e;rw[<-e];unfold fZ;split
   ·rw[ar,List.length_singleton];omega
   ·omega
  ·omega,h.work,h.pre⟩
theorem FI.dm{s:FS}{n:Nat}(h:FI L0 s n){o:Nat->List Bool}(ho:∀k,k<4->(o k).length<=s.L.length):FI L0 (s.dm o) n:=⟨h.pool,h.ef,ho,h.refs,h.mov,h.work,h.pre⟩
theorem FI.aY{s:FS}{n:Nat}(h:FI L0 s n){M:List Ob}(c:ak M)(b:s.L<+:M):FI L0 (s.aY M) n:=
 ⟨c,h.ef,λk a=>a2 (h.own k a) b.length_le,h.refs,h.mov,λk a=>(h.work k a).ext b,h.pre.trans b⟩
theorem WI.put{L:List Ob}{l:List It}{h:Int}(c:WI L l h){x:It}(hb:x.bytes.length<=400)(hr:0<=x.ax/\x.ax<4)(hn:x.link=true->x.bytes=[]):WI L (fW l x).2 h:=by
 obtain⟨a,b⟩:=DY c.ok x;refine⟨a,λy hy=>?_,λy hy=>?_,λy hy=>?_,c.head⟩<;>rcases b y hy with rfl|hy
 ·exact hb
 ·exact c.kU y hy
 ·exact hr
 ·exact c.dD y hy
 ·exact hn
 ·exact c.nb y hy
theorem WI.wr{L:List Ob}{l:List It}{h:Int}(a:WI L l h)(p b:List UInt8):WI L (iC l p b).2 h:=by
 unfold iC;split
 ·exact a
 ·exact a.put (by show b.length<=400;omega) ⟨cp 0,(by decide:(0:Int)<4)⟩ λh=>by cases h
theorem WI.li{L:List Ob}{l:List It}{h:Int}(a:WI L l h)(p:List UInt8)(q id:Int):WI L (gS L l p q id).2 h:=by
 unfold gS;split
 ·exact a
 split
 ·exact a
 ·exact a.put (a0 _) (by show 0<=q/\q<4;omega) λ_=>rfl
theorem WI.rem{L:List Ob}{l:List It}{h:Int}(c:WI L l h)(p:List UInt8):WI L (iI l p).2 h:=by
 obtain⟨a,b⟩:=D7 c.ok p;exact⟨a,λy d=>c.kU y (b y d),λy d=>c.dD y (b y d),λy d=>c.nb y (b y d),c.head⟩
theorem dn.ax{ne:Bool}{L:List Ob}(n:ak L){es:List aI}{l:List Fi}(h:dn ne L es l):(∀e∈es,jo L e)->∀f∈l,0<=f.ax/\f.ax<4:=by
 induction h with
 |nil=>intro _ f hf;cases hf
 | @file e es l j h ih=>
  intro a f hf;rcases bn.1 hf with rfl|hf
  ·exact(a e (by simp)).ax
  ·exact ih (λx b=>a x (by simp[b])) f hf
 | @dir e es m l j i k o h c ih=>
  intro a f hf;rcases cd.1 hf with hf|hf
  ·obtain⟨g,d,rfl⟩:=b1.1 hf;exact c (iM n i).2 g d
  ·exact ih (λx b=>a x (by simp[b])) f hf
theorem Cy{ne:Bool}{M:List Ob}{fs:List Fi}{t h:Int}(c:ak M)(d:fM ne M t fs)(i:∀f∈fs,(aG f.path).length<=8)(hl:fs.length<=60)(g:iE M h):WI M (fs.map (cI M)) h:=by
 obtain⟨a,b⟩:=Pp c c d i hl;refine⟨a,b,λy j=>?_,KN _ _,g⟩;obtain⟨f,e,rfl⟩:=b1.1 j;have:=d.2.ax c (iM c d.1).2 f e;unfold cI;split
 ·exact this
 ·exact⟨cp 0,(by decide:(0:Int)<4)⟩
theorem KM{L:List Ob}(e:ak L){l:List It}{h:Int}(g:WI L l h)(fs:List Fi):WI (cG L fs).2.2 (me L l fs) h:=by
 obtain⟨a,b⟩:=n9 e fs;by_cases c:(cG L fs).2.1=0
 ·obtain⟨d,i⟩:=qw e c;rw[show me L l fs=fs.map (cI (cG L fs).2.2)from if_neg (λh=>h c)];exact Cy a i (λf j=>(oM ((iW d).2 f j).1).2.1) (iW d).1 (g.head.ext b)
 ·rw[show me L l fs=l from if_pos c];exact g.ext b
theorem HH{L:List Ob}(p:ak L){l:List It}{h:Int}(q:WI L l h)(id:Int):WI (kl L l id) (lQ L l h id) (kV L l h id):=by
 obtain⟨a,b⟩:=vN (l:=l) (id:=id) p;by_cases d:fe L l h id=0
 ·have e:kindOf L id=3:=by
   by_cases e:kindOf L id=3
   ·exact e
   ·rw[(vQ (h:=h) (l:=l) e).1]at d;cases d
  have c:il L l h=0:=by
   by_cases c:il L l h=0
   ·exact c
   ·rw[(vO (h:=h) (l:=l) e c).1]at d;exact absurd d c
  obtain⟨k,f,g,i⟩:=vP (h:=h) (l:=l) e c;have j:(bq (bz L l).2.2 (aj L id).tree).2=0:=k▸d;rw[if_neg (λh=>h j)]at g i;rw[f]at a b;obtain⟨m,n,o⟩:=qN a j;rw[f,g,i];exact Cy a m o n (iE.ext (.inr e) b)
 ·rw[show lQ L l h id=l from if_pos d,show kV L l h id=h from if_pos d];exact q.ext b
theorem FI.xa{s:FS}{n r:Nat}(h:FI L0 s n)(name:List UInt8)(id:Int):FI L0 (iA s r name id) (n+1):=h.lD name _ _
theorem FO{L:List Ob}{o:Nat->List Bool}{b:Nat->List Int}{r:Nat}{ids:List Int}(h:(o r).length<=L.length):(lM L o b r ids).length<=L.length:=by
 unfold lM eI;rw[oz,ar,List.length_replicate];omega
theorem yZ{L:List Ob}{o:Nat->List Bool}{b:Nat->List Int}(h:∀k,k<4->(o k).length<=L.length)(r:Int)(ids:List Int):∀k,k<4->(dS L o b r ids k).length<=L.length:=λk a=>by
 unfold dS;split
 ·exact h k a
 ·rw[gb];split
  ·rename_i e;rw[<-e];exact FO (h k a)
  ·exact h k a
theorem FI.j9{s:FS}{n r:Nat}(h:FI L0 s n)(id:Int):FI L0 (j9 s r id) n:=h.dm (yZ h.own _ _)
theorem FI.eG{s:FS}{n r:Nat}(h:FI L0 s n)(name:List UInt8)(id:Int):FI L0 (eG s r name id) (n+1):=by
 unfold Go.Nest.eG;split
 ·exact h.xa name id
 ·exact(h.xa name id).j9 id
theorem FI.cH{s:FS}{n r:Nat}(h:FI L0 s n)(hr:r<4)(text:List UInt8)(others:List Int):FI L0 (cH s r text others) n:=by
 obtain⟨a,b⟩:=qD (l:=s.w r) (h:=s.h r) (text:=text) (others:=others) h.pool;have c:=h.work r hr;exact h.cC a b ⟨c.ok,c.kU,c.dD,c.nb,HI h.pool c.head _ _⟩
theorem FI.jM{s:FS}{n r:Nat}(h:FI L0 s n)(hr:r<4)(id:Int):FI L0 (jM s r id) n:=by
 obtain⟨a,b⟩:=vN (l:=s.w r) (id:=id) h.pool;exact h.cC a b (HH h.pool (h.work r hr) id)
theorem FI.dQ{s:FS}{n r:Nat}(h:FI L0 s n)(hr:r<4)(l:List Fi):FI L0 (dQ s r l) n:=by
 obtain⟨a,b⟩:=n9 h.pool l;exact h.cC a b (KM h.pool (h.work r hr) l)
theorem FI.cZ{s:FS}{n r:Nat}(h:FI L0 s n):FI L0 (cZ s r) n:=by
 obtain⟨a,b⟩:=kJ (l:=s.w r) h.pool;exact h.aY a b
theorem wm{s:FS}{n:Nat}(h:FI L0 s n)(r q id:Int):∀k,k<4->(di s.L s.o s.b r q id k).length<=s.L.length:=λk a=>by
 unfold di;split
 ·exact h.own k a
 split
 ·exact h.own k a
 ·exact yZ h.own _ _ k a
theorem Es{base x y:List Fi}:∀(a:List (List UInt8)) (s:BS),s.L<+:(da base x y s a).L
 |[],s=>ap _
 |q::a,s=>by
  refine cq ?_ (Es a (jT base x y s q));show s.L<+:lC s.L _ _ _;unfold lC;split
  ·exact ap _
  split
  ·exact ap _
  unfold jL;split
  ·exact ap _
  ·exact jQ _
theorem vr{L:List Ob}(a:ak L)(base x y:List Fi):ak (fo L base x y).L/\L<+:(fo L base x y).L:=by
 have h:=(ye (base:=base) (x:=x) (y:=y) (dE [base,x,y]) (s:=⟨L,[],[],0⟩) (n:=0) ⟨a,a.len,a3 _,a3 _⟩).L;have b:=Es (base:=base) (x:=x) (y:=y) (dE [base,x,y]) ⟨L,[],[],0⟩;unfold fo;split
 ·exact⟨a,ap _⟩
 dsimp only;generalize (if(da base x y ⟨L,[],[],0⟩ (dE [base,x,y])).code=0 then cu (da base x y ⟨L,[],[],0⟩ (dE [base,x,y])).out else(da base x y ⟨L,[],[],0⟩ (dE [base,x,y])).code)=c;split
 ·exact⟨h,b⟩
 ·exact⟨h,b⟩
theorem G2{L:List Ob}{base x y:List Fi}(b:∀l∈[base,x,y],∀f∈l,f.path.length<=4000000):∀f∈(fo L base x y).out,f.path.length<=4000000:=by
 unfold fo;split
 ·intro f a;cases a
 dsimp only;generalize (if(da base x y ⟨L,[],[],0⟩ (dE [base,x,y])).code=0 then cu (da base x y ⟨L,[],[],0⟩ (dE [base,x,y])).out else(da base x y ⟨L,[],[],0⟩ (dE [base,x,y])).code)=c;split
 ·intro f a;cases a
 ·exact yf (b x (by simp)) (b y (by simp)) _ _ (λq g=>by
   obtain⟨l,d,f,e,rfl⟩:=xS g;exact b l d f e) λf a=>by cases a
theorem Je{L:List Ob}(a:ak L)(id:Int):∀f∈(bu L id).1,f.path.length<=4000000:=by
 unfold bu;split
 ·intro f b;cases b
 ·exact(Bn a _).2
theorem FI.qq{s:FS}{n:Nat}(h:FI L0 s n)(r:Nat)(base id:Int):FI L0 (s.aY (a7 s r base id).L) n:=by
 obtain⟨a,b⟩:=vr h.pool (bu s.L base).1 (bu s.L (s.h r)).1 (bu s.L id).1;exact h.aY a b
theorem FI.mix{s:FS}{n r:Nat}(h:FI L0 s n)(hr:r<4)(base id:Int):FI L0 (jg s r base id) n:=by
 have b:=h.qq r base id;have a:=b.dQ hr (a7 s r base id).out;unfold jg;repeat' split
 any_goals first|exact h|exact b|exact a
 unfold pJ;split
 ·exact(a.cH hr _ _).dQ hr _
 ·exact(a.cH hr _ _).j9 _
theorem FI.merge{s:FS}{n r:Nat}(h:FI L0 s n)(hr:r<4)(name:List UInt8):FI L0 (nG s r name) n:=by
 have a:=h.cZ (r:=r);unfold nG pI;repeat' split
 any_goals first|exact h|exact a
 ·exact a.jM hr _
 ·exact a.mix hr _ _
theorem rM{L:List Ob}(a:ak L)(id:Int)(dir:List UInt8):ak (bY L id dir).2.2/\L<+:(bY L id dir).2.2:=by
 unfold bY;split
 ·exact⟨a,ap _⟩
 split
 ·exact rL a
 ·exact rL a
theorem av{α:Type}{P:α->Prop}{c:Prop}{i:Decidable c}{a b:α}(h1:c->P a)(h2:¬c->P b):P (if c then a else b):=by
 by_cases h:c
 ·rw[if_pos h];exact h1 h
 ·rw[if_neg h];exact h2 h
theorem FI.step{s:FS}{n:Nat}(h:FI L0 s n)(x:ck):FI L0 (ko s x) (n+1):=by
 have a:=h.up (b3 n);unfold ko;refine av (P:=λt=>FI L0 t (n+1)) (λ_=>a) (λ_=>av (P:=λt=>FI L0 t (n+1)) (λ_=>a) (λj=>?_));obtain⟨i,c,e⟩:=(bW (r:=x.r)).1 (by cases q:bC x.r;exact absurd q j;rfl);have e:x.r.toNat=i:=by omega
 rw[e];have d:=h.work i c;have b:=rM h.pool (s.h i) x.path;refine av (P:=λt=>FI L0 t (n+1)) (λ_=>?_) (λ_=>av (P:=λt=>FI L0 t (n+1)) (λ_=>?_) (λ_=>av (P:=λt=>FI L0 t (n+1)) (λ_=>?_) (λ_=>av (P:=λt=>FI L0 t (n+1)) (λ_=>?_) (λ_=>av (P:=λt=>FI L0 t (n+1)) (λ_=>?_) (λ_=>av (P:=λt=>FI L0 t (n+1)) (λ_=>?_) (λ_=>av (P:=λt=>FI L0 t (n+1)) (λ_=>?_) (λ_=>av (P:=λt=>FI L0 t (n+1)) (λ_=>?_) (λ_=>av (P:=λt=>FI L0 t (n+1)) (λ_=>?_) (λ_=>av (P:=λt=>FI L0 t (n+1)) (λ_=>?_) (λ_=>av (P:=λt=>FI L0 t (n+1)) (λ_=>?_) (λ_=>?_)))))))))))
 ·exact a.cC h.pool (ap _) (d.wr _ _)
 ·exact a.cC h.pool (ap _) (d.rem _)
 ·unfold ow;split
  ·exact a
  ·exact a.cC h.pool (ap _) (d.li _ _ _)
 ·unfold na;repeat' split
  ·exact a
  ·exact a.cH c _ _
  ·exact(h.cH c _ _).eG _ _
 ·unfold oa;split
  ·exact a
  ·exact a.jM c _
 ·exact a.merge c _
 ·unfold n5;split
  ·exact a
  ·exact h.xa _ _
 ·unfold od;split
  ·exact a
  ·exact h.lD _ _ _
 ·unfold pd;have f:=h.dm (wm h i x.q (aK s x.q x.name).1);repeat' split
  ·exact a
  ·exact a
  ·exact f.up (b3 n)
  ·exact f.eG _ _
 ·exact⟨h.pool,h.ef.ef _ _,h.own,h.refs,a.mov,h.work,h.pre⟩
 ·unfold pZ;repeat' split
  ·exact a
  ·exact a
  ·exact a.aY b.1 b.2
  ·exact(h.aY b.1 b.2).eG _ _
 ·exact a.dm λk g=>by
   show(nU _ (s.o k)).length<=_;rw[O7];exact h.own k g
end Go.Nest
end
section
namespace Go.Nest
open Go Go.AM
variable {L0:List Ob}
structure Qd(s t:FS):Prop where
 doc:∀k,k<4->(t.w k).map fN=(s.w k).map fN
 dD:∀k,k<4->fy (t.w k)=fy (s.w k)
 head:∀k,k<4->t.h k=s.h k
 n:∀k,k<4->t.n k=s.n k
 m:∀k,k<4->t.m k=s.m k
 o:∀k,k<4->t.o k=s.o k
theorem gI.names{l:List Rf}{m:List Mv}(h:gI l m):∀r∈l,bP r.name=0:=by
 induction h with
 |nil=>intro r hr;cases hr
 | @snoc l m n c id h b ih=>
  intro r hr;have a:=(o7 b).1;unfold lI at hr;split at hr
  ·rcases qW.1 hr with rfl|hr
   ·exact a
   ·exact ih r hr
  split at hr
  ·rcases cd.1 hr with hr|hr
   ·exact ih r (bk hr)
   ·exact ih r (List.mem_of_mem_drop hr)
  ·rcases List.mem_or_eq_of_mem_set hr with hr|rfl
   ·exact ih r hr
   ·exact a
theorem AO{l:List Rf}(j:fa l)(hi:∀r∈l,0<=r.id)(hn:∀r∈l,bP r.name=0)(hl:l.length<=8):∀i,i<=l.length->(ew (l.take i)).1=l.take i
 |0,_=>rfl
 |i+1,h=>by
  have a:i<l.length:=h;have ih:=AO j hi hn hl i (Nat.le_of_succ_le h);have d:=b4 a
  have n:∀g∈l.take i,Op.bytesLess g.name l[i].name=true:=λg b=>by
   obtain⟨k,o,e⟩:=List.mem_take_iff_getElem.1 b;subst e;exact List.pairwise_iff_getElem.1 j k i (by omega) a (by omega)
  have f:bw (l.take i) l[i].name=(l.take i).length:=xT (a3 _) (λg b=>n g (bk b)) (λh=>absurd h (co _))
  have c:ey (l.take i) l[i].name=false:=by
   unfold ey;rw[f,List.getElem?_eq_none (a3 _)];rfl
  have b:=np c;have hid:=hi _ d
  have m:dN (l.take i) l[i].name (-1) l[i].id=0:=by
   unfold dN;rw[if_neg (λh=>h (hn _ d)),if_neg (by omega),if_neg (λh=>h b.symm),if_neg (by rw[a9];omega),if_neg (by omega)]
  rw[AN a];unfold kW;dsimp only;rw[ih];unfold aY lI;rw[if_pos m,if_pos c];unfold ma;rw[show(⟨l[i].name,l[i].id⟩:Rf)=l[i]from rfl,f,a6,List.drop_length,a1 a]
theorem HQ{l:List Rf}{m:List Mv}(h:gI l m):(ew l).1=l:=by
 have:=AO h.inv.sort h.inv.ids h.names h.inv.len l.length (a3 _);rwa[a6]at this
theorem N4{l:List Rf}{m:List Mv}(h:gI l m){name:List UInt8}(hn:dW l name=0){id:Int}(hid:0<=id):dN l name (cm l name) id=0\/dN l name (cm l name) id=17:=by
 unfold dW at hn;rw[HQ h]at hn;obtain⟨a,-,-,b,-⟩:=o7 hn;unfold dN;rw[if_neg (λh=>h a),if_neg (by omega),if_neg (λh=>h rfl),if_neg (λk=>b ⟨k.1,by decide,k.2.2⟩)];split
 ·exact .inr rfl
 ·exact .inl rfl
theorem AB{L:List Ob}(d:ak L){l:List It}{h:Int}{text:List UInt8}{others:List Int}(hc:(bg L l h text others).2.1=0):kindOf (bg L l h text others).2.2 (bg L l h text others).1=3:=by
 unfold bg at hc⊢;split at hc
 ·rename_i b;exact absurd hc b
 rename_i b;rw[if_neg b];split at hc
 ·cases hc
 rename_i c;rw[if_neg c];split at hc
 ·rename_i a;exact absurd hc a
 rename_i a;rw[if_neg a];have:=(nO (cr.1 a)).2;rw[<-fQ,this];rfl
theorem jb{α e:Type}{P:α->e->Prop}{c:Prop}{i:Decidable c}{a b:α}{d b':e}(h1:c->P a d)(h2:¬c->P b b'):P (if c then a else b) (if c then d else b'):=by
 by_cases h:c
 ·rw[if_pos h,if_pos h];exact h1 h
 ·rw[if_neg h,if_neg h];exact h2 h
end Go.Nest
end
section
namespace Go.Nest
open Go Go.AM Go.Proofs
open Go.Proofs.YtpechfcbnoggfaaGreatDoor (tab tabOk)
set_option maxRecDepth 100000
def ou(fs:List Fi)(q:Nat):List Int:=(fs.filter λf=>decide (f.ax=(q:Int))).map (·.id)
def gy(s:FS)(r:Nat)(fs:List Fi)(q:Nat):List Int:=iz s q++(((bl r).flatMap λj=>nF (s.w j) q)++ou fs q)
theorem NK(s:FS)(q:Nat):gy s 0 [] q=iz s q:=by unfold gy ou;simp
theorem Ei(s:FS)(q:Nat):gy s 4 [] q=iJ s q:=by
 unfold gy ou iJ;rw[show bl 4=[0,1,2,3]from rfl];simp
theorem NL(s:FS)(r q:Nat):gy s r (fy (s.w r)) q=gy s (r+1) [] q:=by
 unfold gy ou;rw[ce,br];simp[nF]
theorem NM(s:FS)(r q:Nat){fs:List Fi}{i:Nat}(h:i<fs.length):gy s r (fs.take (i+1)) q=gy s r (fs.take i) q++(if fs[i].ax=(q:Int)then[fs[i].id]else[]):=by
 unfold gy ou;rw[a1 h,List.filter_append,List.map_append,b2,b2];congr 3
 split
 ·rename_i e;simp[e]
 ·rename_i e;simp[e]
theorem Ij{out:List Int}{x:Int}:(ir out x).length<=out.length+1:=by
 unfold ir;split
 ·omega
 ·simp
theorem AS:∀{l out:List Int},(l.foldl ir out).length<=out.length+l.length
 |[],out=>a3 _
 |x::l,out=>by
  have a:=AS (l:=l) (out:=ir out x);have b:=Ij (out:=out) (x:=x);rw[cb,a5];omega
theorem B5(m:List Mv):(kx m).length<=2*m.length:=by
 have b:=AS (l:=(m.flatMap kv).mergeSort λx y=>decide (x<=y)) (out:=[]);have a:=wN (m:=m) (i:=m.length) (a3 _);unfold k9 at a;rw[a6]at a;rw[List.length_mergeSort,bb]at b;unfold kx jA;omega
theorem CP{fs:List Fi}{q:Nat}:(ou fs q).length<=fs.length:=by
 unfold ou;rw[ch];exact a4 _ _
theorem CQ{l:List It}:(fy l).length<=l.length:=by
 unfold fy;rw[ch];exact a4 _ _
theorem Nw{s:FS}(a:bU s){q:Nat}(hq:q<4):(iz s q).length<=1981:=by
 have b:=B5 (s.m q);have c:=a.moves q hq;unfold iz;rw[ar];split
 ·simp;omega
 ·simp;omega
theorem D2{s:FS}(a:bU s)(q:Nat):∀r,r<=4->((bl r).flatMap λj=>nF (s.w j) q).length<=60*r
 |0,_=>by simp
 |r+1,h=>by
  have ih:=D2 a q r (by omega);rw[ce,br,ar];have b:(nF (s.w r) q).length<=60:=a2 CP (a2 CQ (a.items r (by omega)));simp only[List.flatMap_cons,List.flatMap_nil,be];omega
theorem Ej{s:FS}(a:bU s){r q:Nat}(hr:r<=4)(hq:q<4){fs:List Fi}(e:fs.length<=60):(gy s r fs q).length<=2300:=by
 have b:=Nw a hq;have c:=D2 a q r hr;have d:=CP (fs:=fs) (q:=q);unfold gy;rw[ar,ar];omega
theorem Ny{s:FS}(a:bU s){q:Nat}(hq:q<4):(iJ s q).length<=2300:=by rw[<-Ei];exact Ej a (a3 _) hq (by simp)
def yb(r a:Nat):List Rn:=(bl 6).map λi=>bif bi i (2+r)then .s a else .s i
theorem Nz(s:FS)(N:bU s)(hl:∀r,r<4->∀y∈s.w r,0<=y.ax/\y.ax<4):aa Tryz.prog 67 [.c (.bp (ku s))] [] (Rt (.st [.rw 0,.rw 1,.rw 2,.rw 3]) [.row 1 Int encI (iJ s 0),.row 1 Int encI (iJ s 1),.row 1 Int encI (iJ s 2),.row 1 Int encI (iJ s 3)]):=by
 have p1:=λi (w:i<4)=>JP (s.n i) (s.m i) (by have:=N.moves i w;omega);have p2:=λi=>pq s.L (s.w i) (s.h i);have p3:=λi (w:i<4)=>Lk s.L (s.w i) (s.h i) (N.items i w);have S:=λi=>B5 (s.m i);have g:∀q,iz s q=kx (s.m q)++(if 0<=s.h q then[s.h q]else[]):=λ_=>rfl;refine af (n:=75) (n0:=0) tabOk Tryz.call67 Tryz.func67 ?_;intro hb;refine lp (Nat×(Nat->List Int)) (λp=>⟨[(0,.c (.bp (ku s))),(2,.c (.ptr 0 0)),(3,.c (.ptr 1 0)),(9,.c (.int .i64 p.1))],[.box [.nil,.nil,.nil,.nil],.box [.rw 2,.rw 3,.rw 4,.rw 5],.row 1 Int encI (p.2 0),.row 1 Int encI (p.2 1),.row 1 Int encI (p.2 2),.row 1 Int encI (p.2 3)]⟩) (λp=>(p.1<=4/\∀q,q<4->p.2 q=if q<p.1 then iz s q else[])/\True) (λp=>4-p.1) (0,λ_=>[]) [] [.s 0,.s 1,.new,.new,.new,.new] ⟨⟨a0 _,λq _=>rfl⟩,trivial⟩ ?_ (λ⟨r,k⟩ d=>?_)
 ·repeat' first|exact trivial|exact rfl|refine And.intro ?_ ?_
 obtain⟨⟨E,d⟩,-⟩:=d;dsimp only at E d;refine dec (λj=>?_) (λj=>?_)
 ·have a:r<4:=by have j:(r:Int)<4:=j;omega
  have x:k r=[]:=by rw[d r a,if_neg (co _)]
  have t:∀q,q<4->aA k r (iz s r) q=if q<r+1 then iz s q else[]:=λq u=>by
   rw[gb];split
   ·rename_i e;rw[e,if_pos (Nat.lt_succ_self _)]
   ·rename_i e;rw[d q u];by_cases h:q<r
    ·rw[if_pos h,if_pos (by omega)]
    ·rw[if_neg h,if_neg (by omega)]
  have Z:(k r).length=0:=by rw[x];rfl
  have q1:=p1 r a;have q2:=p2 r;have ad:=S r;have al:=N.moves r a
  have K:0<=s.h r->∀q,q<4->aA k r ((k r++kx (s.m r))++[s.h r]) q=if q<r+1 then iz s q else[]:=λm=>by
   rw[x,ci,<-show iz s r=kx (s.m r)++[s.h r]by rw[g,if_pos m]];exact t
  have M:¬0<=s.h r->∀q,q<4->aA k r (k r++kx (s.m r)) q=if q<r+1 then iz s q else[]:=λm=>by
   rw[x,ci,<-show iz s r=kx (s.m r)by rw[g,if_neg m,be]];exact t
  have g:r+1<=4:=a;have O:Qn r:=trivial
  rcases four a with rfl|rfl|rfl|rfl<;>(
   refine⟨false,.grow,(.l [0,1,2,3,4,5,6,7,8,9,10,11,12,13,14]),by kernel_rfl,.inl ?_⟩;refine⟨_,⟨rfl,a⟩,?_⟩;refine⟨_,⟨rfl,a⟩,?_⟩;refine cl [] [] (q1) ?_;refine⟨_,_,rfl,rfl,(by simp only[ar,a5,bb];omega),?_⟩;refine⟨_,⟨rfl,a⟩,?_⟩;refine⟨_,⟨rfl,a⟩,?_⟩;refine cl [] [] (q2) ?_;refine dec (λm=>?_) (λm=>?_)
   ·refine⟨_,⟨rfl,a⟩,?_⟩;refine⟨[s.h _],rfl,?_⟩;refine⟨_,_,rfl,rfl,(by simp only[ar,a5,bb];omega),?_⟩;refine⟨_,⟨rfl,a⟩,?_⟩;repeat'(refine I6 ?_)
    refine sd O (_+1,_) [] (λr=>yb r 9) ⟨⟨g,K m⟩,trivial⟩ (by simp only[];omega) ?_;repeat' first|exact trivial|exact rfl|refine And.intro ?_ ?_
   ·repeat'(refine I6 ?_)
    refine sd O (_+1,_) [] (λr=>yb r 7) ⟨⟨g,M m⟩,trivial⟩ (by simp only[];omega) ?_;repeat' first|exact trivial|exact rfl|refine And.intro ?_ ?_)
 ·obtain rfl:r=4:=by have j:¬(r:Int)<4:=j;omega
  have T:∀q,q<4->k q=gy s 0 [] q:=λq u=>by rw[d q u,if_pos u,NK]
  have am:∀r q,gy s r [] q=gy s r [] q:=λ_ _=>rfl;refine lp (Nat×(Nat->List Int)) (λp=>⟨[(0,.c (.bp (ku s))),(2,.c (.ptr 0 0)),(3,.c (.ptr 1 0)),(45,.c (.int .i64 p.1))],[.box [.nil,.nil,.nil,.nil],.box [.rw 2,.rw 3,.rw 4,.rw 5],.row 1 Int encI (p.2 0),.row 1 Int encI (p.2 1),.row 1 Int encI (p.2 2),.row 1 Int encI (p.2 3)]⟩) (λp=>(p.1<=4/\∀q,q<4->p.2 q=gy s p.1 [] q)/\True) (λp=>4-p.1) (0,k) [] [.s 0,.s 1,.s 2,.s 3,.s 4,.s 5] ⟨⟨a0 _,T⟩,trivial⟩ ?_ (λ⟨r,k⟩ d=>?_)
  ·repeat' first|exact trivial|exact rfl|refine And.intro ?_ ?_
  obtain⟨⟨E,d⟩,-⟩:=d;dsimp only at E d;refine dec (λj=>?_) (λj=>?_)
  ·have a:r<4:=by have j:(r:Int)<4:=j;omega
   have g:r+1<=4:=a;have O:Qn r:=trivial;have U:=p3 r a;have R:(fy (s.w r)).length<=60:=a2 CQ (N.items r a)
   have H:∀f∈fy (s.w r),0<=f.ax/\f.ax<4:=λf P=>by
    unfold fy at P;obtain⟨y,hy,rfl⟩:=b1.1 P;exact hl r a y (List.mem_filter.1 hy).1
   have z:=NL s r;have F:=λq i (h:i<(fy (s.w r)).length)=>NM s r q h;have J:=λq (u:q<4) b P=>Ej N (Nat.le_of_lt a) u (fs:=b) P;generalize fy (s.w r)=b at U R H z F;generalize gy s=rt at d z F J
   rcases four a with rfl|rfl|rfl|rfl<;>(
    refine⟨_,⟨rfl,a⟩,?_⟩;refine cl [] [] (U) ?_;refine pH O (Nat×(Nat->List Int)) (λr p=>⟨[(0,.c (.bp (ku s))),(2,.c (.ptr 0 0)),(3,.c (.ptr 1 0)),(45,.c (.int .i64 r)),(55,.c (.rw 6)),(56,.c (.int .i64 b.length)),(57,.c (.int .i64 p.1))],[.box [.nil,.nil,.nil,.nil],.box [.rw 2,.rw 3,.rw 4,.rw 5],.row 1 Int encI (p.2 0),.row 1 Int encI (p.2 1),.row 1 Int encI (p.2 2),.row 1 Int encI (p.2 3),.row 4 Fi aq b]⟩) (λr p=>(p.1<=b.length/\∀q,q<4->p.2 q=rt r (b.take p.1) q)/\True) (λp=>60-p.1) (0,k) [] [.s 0,.s 1,.s 2,.s 3,.s 4,.s 5,.s 6] ⟨⟨a0 _,d⟩,trivial⟩ ?_ (λ⟨i,k⟩ w=>?_)
    ·repeat' first|exact trivial|exact rfl|refine And.intro ?_ ?_
    obtain⟨⟨w,v⟩,-⟩:=w;dsimp only at w v;refine dec (λm=>?_) (λm=>?_)
    ·have o:i<b.length:=by have m:(i:Int)<b.length:=m;omega
     obtain⟨ha,Y⟩:=H _ (b4 o);obtain⟨p,Q⟩:∃p:Nat,b[i].ax=p:=⟨b[i].ax.toNat,by omega⟩;have D:p<4:=by omega
     have ac:(k p).length<=2300:=by rw[v p D];exact J p D _ (by rw[a9];omega)
     have t:∀q,q<4->aA k p (k p++[b[i].id]) q=rt _ (b.take (i+1)) q:=λq u=>by
      rw[F q i o,Q,gb,<-v q u];split
      ·rename_i e;rw[e,if_pos rfl]
      ·rename_i e;rw[if_neg (by omega),be]
     have I:b[i]? =some b[i]:=ah o;generalize b[i]=f at Q t I;have W:Qn p:=trivial;refine⟨i,⟨rfl,o⟩,?_⟩;refine⟨f,I,?_⟩
     rcases four D with rfl|rfl|rfl|rfl<;>(
      refine⟨false,.dj [1,7],(.l [0,1,2,3,4,5,6,7,8,9,10,11]),by kernel_rfl,.inl ?_⟩;refine⟨_,⟨Q,by decide⟩,?_⟩;refine⟨[f.id],rfl,?_⟩;refine⟨_,_,rfl,rfl,(by simp only[List.length_append,List.length_cons,List.length_nil];omega),?_⟩;refine⟨_,⟨Q,by decide⟩,?_⟩;repeat'(refine I6 ?_)
      refine sd W (i+1,_) [] (λp=>yb p 9++[.s 6]) ⟨⟨o,t⟩,trivial⟩ (by simp only[];omega) ?_;repeat' first|exact trivial|exact rfl|refine And.intro ?_ ?_)
    ·repeat'(refine I6 ?_)
     refine ag (_+1,k) [] [.s 0,.s 1,.s 2,.s 3,.s 4,.s 5] ⟨⟨g,λq u=>?_⟩,trivial⟩ (by simp only[];omega) ?_
     ·exact(v q u).trans (by rw[List.take_of_length_le (by omega)];exact z q)
     repeat' first|exact trivial|exact rfl|refine And.intro ?_ ?_)
  ·obtain rfl:r=4:=by have j:¬(r:Int)<4:=j;omega
   have e:=λq=>Ei s q;rw[<-e 0,<-e 1,<-e 2,<-e 3,<-d 0 (by decide),<-d 1 (by decide),<-d 2 (by decide),<-d 3 (by decide)];exact rx [] [.s 2,.s 3,.s 4,.s 5]
theorem IM(s:FS)(a:bU s)(hl:∀r,r<4->∀y∈s.w r,0<=y.ax/\y.ax<4){i:Nat}(hi:i<4)(q:Int)(p n t b:List UInt8):aa Tryz.prog 22 [.c (.ptr 0 0),.st (az ⟨11,(i:Nat),q,p,n,t,b⟩)] (aO s) (Rt (.st (b6 ⟨0,0,[]⟩)) (aX (rS s))):=by
 have e:=fP i;rw[bW.2 ⟨i,hi,rfl⟩]at e;have f:=Nz s a hl;have d:=Mw (s:=s) (O8 s.L a.pool s.o s.b (iJ s) a.ef a.own (λr g=>by have:=Ny a g;omega)) Hy;have d:aa Tryz.prog _ _ (aO s) (Rt (.ao []) (aX (rS s))):=d;generalize iJ s=k at f d;generalize rS s=h at d⊢;refine af (n:=111) (n0:=32) tabOk Tryz.call22 Tryz.func22 ?_;intro hb;refine cl [] [] (e) ?_;refine⟨false,.grow,(.l [0,1,2,3,4,5,6]),by kernel_rfl,.inl ?_⟩;refine cl [] [] (f) ?_;refine aE (mF 0) (aQ 27 (d21++[.box (az ⟨11,(i:Nat),q,p,n,t,b⟩),.box [.int .i64 0,.int .i64 0,.nil],.row 1 Int encI (k 0),.row 1 Int encI (k 1),.row 1 Int encI (k 2),.row 1 Int encI (k 3)]) h) d ?_;exact aF (rF 27)
variable {L0:List Ob}
set_option maxRecDepth 100000
def iD(s:FS)(x:ck)(e:cz)(t:FS):Prop:=aa Tryz.prog 22 [.c (.ptr 0 0),.st (az x)] (aO s) (Rt (.st (b6 e)) (aX t))
theorem LO{s:FS}{n:Nat}(h:FI L0 s n)(hn:n<=900){i:Nat}(hi:i<4)(x:ck)(g:x.r=i)(base id:Int):aa Tryz.prog 130 [.c (.ptr 0 0),.st (az x),.c (.int .i64 base),.c (.int .i64 id)] (aO s) (Rt (.st (b6 (mm s i base id))) (aX (jg s i base id))):=by
 have a:=h.qq i base id
 have d:∀l∈[(bu s.L base).1,(bu s.L (s.h i)).1,(bu s.L id).1],∀f∈l,f.path.length<=4000000:=λl b=>by
  rw[bn,bn,List.mem_singleton]at b;rcases b with e|e|e<;>(rw[e];exact Je h.pool _)
 exact LN s (h.wf (by omega)) hi x g base id h.pool.len d a.pool (G2 d) ((a.dQ hi _).wf (by omega)) (((a.dQ hi _).cH hi _ _).wf (by omega))
theorem IN{s:FS}{n:Nat}(h:FI L0 s n)(hn:n<=900)(x:ck)(l:x.path.length<=4000000):iD s x (pc s x) (ko s x):=by
 have f:=h.wf (by omega);unfold pc ko;refine jb (P:=iD s x) (λj=>IG s x j) (λj=>jb (P:=iD s x) (λg=>IJ s x j g) (λg=>?_));obtain⟨i,c,e⟩:=(bW (r:=x.r)).1 (by cases q:bC x.r;exact absurd q g;rfl);obtain⟨k,r,q,p,d,t,b⟩:=x;dsimp only at*;subst e;refine jb (P:=iD s _) (λe=>?_) (λ_=>jb (P:=iD s _) (λe=>?_) (λ_=>jb (P:=iD s _) (λe=>?_) (λ_=>jb (P:=iD s _) (λe=>?_) (λ_=>jb (P:=iD s _) (λe=>?_) (λ_=>jb (P:=iD s _) (λe=>?_) (λ_=>jb (P:=iD s _) (λe=>?_) (λ_=>jb (P:=iD s _) (λe=>?_) (λ_=>jb (P:=iD s _) (λe=>?_) (λ_=>jb (P:=iD s _) (λe=>?_) (λ_=>jb (P:=iD s _) (λe=>?_) (λ_=>?_)))))))))))
 ·subst e;exact A3 s f c rfl q p d t b l
 ·subst e;exact IK s f c rfl q p d t b
 ·subst e;exact IH s c q p d t b _ _ (Lg s f c ⟨3,i,q,p,d,t,b⟩ rfl l)
 ·subst e;exact A2 s c q p d t b _ _ (AD s f c ⟨4,i,q,p,d,t,b⟩ rfl ((h.cH c _ _).wf (by omega)))
 ·subst e;exact ID s c q p d t b _ _ (Hv s f c ⟨5,i,q,p,d,t,b⟩ rfl)
 ·subst e;exact II s c q p d t b _ _ (LH s f c ⟨6,i,q,p,d,t,b⟩ rfl (h.cZ.wf (by omega)) (LO h.cZ hn c _ rfl _ _))
 ·subst e;exact IC s c q p d t b _ _ (Hj s f c ⟨7,i,q,p,d,t,b⟩ rfl)
 ·subst e;exact IE s c q p d t b _ _ (IS s f c ⟨8,i,q,p,d,t,b⟩ rfl)
 ·subst e;exact IF s c q p d t b _ _ (Jc s f c ⟨9,i,q,p,d,t,b⟩ rfl ((h.dm (wm h _ _ _)).wf (by omega)))
 ·subst e;exact Iz s f c q p d t b
 ·subst e;exact IL s c q p d t b _ _ (Ox s f c ⟨12,i,q,p,d,t,b⟩ rfl l (((rM h.pool (s.h i) p).1|>λa=>h.aY a (rM h.pool (s.h i) p).2).wf (by omega)))
 ·obtain rfl:k=11:=by omega
  exact IM s f (λr g=>(h.work r g).dD) c q p d t b
end Go.Nest
end
