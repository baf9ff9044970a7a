/- part -/
import Derived.Test.YtpechfcbnoggfaaGreatDoorAmH
import Derived.Test.YtpechfcbnoggfaaGreatDoorK13
import Derived.Test.YtpechfcbnoggfaaGreatDoorD23
import Derived.Test.YtpechfcbnoggfaaGreatDoorN7
import Derived.Test.YtpechfcbnoggfaaGreatDoorB9
import Derived.Test.YtpechfcbnoggfaaGreatDoorW4
import Derived.Test.YtpechfcbnoggfaaGreatDoorV1
set_option linter.unusedVariables false
set_option linter.unusedSimpArgs false
section
namespace Go.Nest
open Go Go.AM
structure b6(s:FS):Prop where
 pool:ai s.L
 df:fk s.b
 own:∀k,k<4→(s.o k).length≤1000000
 sort:∀k,k<4→eG (s.n k)
 ids:∀k,k<4→∀x∈s.n k,0≤x.id
 few:∀k,k<4→(s.n k).length≤8
 moves:∀k,k<4→(s.m k).length≤990
 paths:∀k,k<4→∀y∈s.w k,y.path.length≤4000000
 items:∀k,k<4→(s.w k).length≤60
 bytes:∀k,k<4→∀y∈s.w k,y.bytes.length≤400
 head:∀k,k<4→gz s.L (s.h k)
def aF(s:FS)(r:Int)(name:List UInt8):Int×Int:=if bg r=false then(0,1)else if bD (s.n r.toNat) name<0 then(0,9)else(bD (s.n r.toNat) name,0)
def dH(l:List Rf):List Rf×List Mv:=l.foldl (fun p y=>(aS p.1 y.name (-1) y.id,eU p.1 p.2 y.name (-1) y.id)) ([],[])
def dw(l:List Rf)(name:List UInt8):Int:=dB (dH l).1 name (bD (dH l).1 name) 600
def fy(s:FS)(r:Nat)(name:List UInt8)(id:Int):Int:=dB (s.n r) name (bD (s.n r) name) id
def gI(s:FS)(r:Nat)(name:List UInt8)(id:Int):FS:=s.iN r (aS (s.n r) name (bD (s.n r) name) id) (eU (s.n r) (s.m r) name (bD (s.n r) name) id)
noncomputable def iY(s:FS)(r:Nat)(id:Int):FS:=s.cn (c8 s.L s.o s.b r [id])
def fQ(s:FS)(r:Nat)(name:List UInt8)(id:Int):Int:=if fy s r name id≠0∧fy s r name id≠17 then fy s r name id else cN s.L r [id]
noncomputable def ee(s:FS)(r:Nat)(name:List UInt8)(id:Int):FS:=if fy s r name id≠0∧fy s r name id≠17 then gI s r name id else iY (gI s r name id) r id
def pT(s:FS)(r:Nat)(p b:List UInt8):cG:=bP 0 (ij (s.w r) p b).1
def pU(s:FS)(r:Nat)(p b:List UInt8):FS:=s.db r s.L (ij (s.w r) p b).2 (s.h r)
def rV(s:FS)(r:Nat)(p:List UInt8):cG:=bP 0 (iM (s.w r) p).1
def rW(s:FS)(r:Nat)(p:List UInt8):FS:=s.db r s.L (iM (s.w r) p).2 (s.h r)
def rj(s:FS)(r:Nat)(q:Int)(p name:List UInt8):cG:=if(aF s q name).2≠0 then⟨(aF s q name).2,0,[]⟩else bP (aF s q name).1 (gG s.L (s.w r) p q (aF s q name).1).1
def nR(s:FS)(r:Nat)(q:Int)(p name:List UInt8):FS:=if(aF s q name).2≠0 then s else s.db r s.L (gG s.L (s.w r) p q (aF s q name).1).2 (s.h r)
def cz(s:FS)(r:Nat)(text:List UInt8)(others:List Int):FS:=s.db r (bc s.L (s.w r) (s.h r) text others).2.2 (s.w r) (lA s.L (s.w r) (s.h r) text others)
def oJ(s:FS)(r:Nat)(name text:List UInt8):cG:=
 if dw (s.n r) name≠0 then⟨dw (s.n r) name,0,[]⟩else
 if(bc s.L (s.w r) (s.h r) text []).2.1≠0 then⟨(bc s.L (s.w r) (s.h r) text []).2.1,0,[]⟩else
 bP (bc s.L (s.w r) (s.h r) text []).1 (fQ (cz s r text []) r name (bc s.L (s.w r) (s.h r) text []).1)
noncomputable def mg(s:FS)(r:Nat)(name text:List UInt8):FS:=
 if dw (s.n r) name≠0 then s else
 if(bc s.L (s.w r) (s.h r) text []).2.1≠0 then cz s r text []else
 ee (cz s r text []) r name (bc s.L (s.w r) (s.h r) text []).1
def py(s:FS)(r:Nat)(id:Int):cG:=bP id (dG s.L (s.w r) (s.h r) id)
def jt(s:FS)(r:Nat)(id:Int):FS:=s.db r (je s.L (s.w r) id) (jN s.L (s.w r) (s.h r) id) (jM s.L (s.w r) (s.h r) id)
def kZ(s:FS)(r:Nat)(name:List UInt8):cG:=if(aF s r name).2≠0 then⟨(aF s r name).2,0,[]⟩else py s r (aF s r name).1
def jL(s:FS)(r:Nat)(name:List UInt8):FS:=if(aF s r name).2≠0 then s else jt s r (aF s r name).1
def bu(L:List Ob)(id:Int):List Fi×Int:=if id<0 then([],0)else bw L (aj L id).tree
def qo(s:FS)(r:Nat)(name:List UInt8):cG:=if s.h r<0 then⟨9,0,[]⟩else bP (s.h r) (fy s r name (s.h r))
def np(s:FS)(r:Nat)(name:List UInt8):FS:=if s.h r<0 then s else gI s r name (s.h r)
def qE(s:FS)(r:Nat)(name:List UInt8):cG:=if(aF s r name).2≠0 then⟨(aF s r name).2,0,[]⟩else bP (aF s r name).1 (dB (s.n r) name (aF s r name).1 (-1))
def nt(s:FS)(r:Nat)(name:List UInt8):FS:=if(aF s r name).2≠0 then s else s.iN r (aS (s.n r) name (aF s r name).1 (-1)) (eU (s.n r) (s.m r) name (aF s r name).1 (-1))
noncomputable def oO(s:FS)(r:Nat)(q:Int)(name:List UInt8):cG:=
 if(aF s q name).2≠0 then⟨(aF s q name).2,0,[]⟩else if dw (s.n r) name≠0 then⟨dw (s.n r) name,0,[]⟩else
 if ez s.L s.dep r q (aF s q name).1≠0 then⟨ez s.L s.dep r q (aF s q name).1,0,[]⟩else
 bP (aF s q name).1 (fQ (s.cn (cD s.L s.o s.b r q (aF s q name).1)) r name (aF s q name).1)
noncomputable def mi(s:FS)(r:Nat)(q:Int)(name:List UInt8):FS:=
 if(aF s q name).2≠0 then s else if dw (s.n r) name≠0 then s else
 if ez s.L s.dep r q (aF s q name).1≠0 then s.cn (cD s.L s.o s.b r q (aF s q name).1)else
 ee (s.cn (cD s.L s.o s.b r q (aF s q name).1)) r name (aF s q name).1
def qk(s:FS)(r:Nat)(q:Int):cG:=bP 0 (dM s.b r q)
def qm(s:FS)(r:Nat)(q:Int):FS:=s.Ba (cw s.b r q)
def vI(s:FS)(r:Nat)(p name:List UInt8):cG:=
 if s.h r<0 then⟨9,0,[]⟩else if dw (s.n r) name≠0 then⟨dw (s.n r) name,0,[]⟩else
 if(bT s.L (s.h r) p).2.1≠0 then⟨(bT s.L (s.h r) p).2.1,0,[]⟩else
 bP (bT s.L (s.h r) p).1 (fQ (s.aS (bT s.L (s.h r) p).2.2) r name (bT s.L (s.h r) p).1)
noncomputable def pM(s:FS)(r:Nat)(p name:List UInt8):FS:=
 if s.h r<0 then s else if dw (s.n r) name≠0 then s else
 if(bT s.L (s.h r) p).2.1≠0 then s.aS (bT s.L (s.h r) p).2.2 else
 ee (s.aS (bT s.L (s.h r) p).2.2) r name (bT s.L (s.h r) p).1
def fV(s:FS)(r:Nat):List Int:=iF (s.m r)++(if 0≤s.h r then[s.h r]else[])
def j6(l:List It)(q:Nat):List Int:=((eD l).filter fun f=>decide (f.av=(q:Int))).map (·.id)
def dT(s:FS)(q:Nat):List Int:=fV s q++(j6 (s.w 0) q++(j6 (s.w 1) q++(j6 (s.w 2) q++j6 (s.w 3) q)))
noncomputable def ic(s:FS):FS:=s.cn (gK s.L s.o s.b (dT s))
def aX(s:FS)(r:Nat)(base id:Int):BS:=gm s.L (bu s.L base).1 (bu s.L (s.h r)).1 (bu s.L id).1
def dQ(s:FS)(r:Nat)(l:List Fi):FS:=s.db r (cg s.L l).2.2 (kA s.L (s.w r) l) (s.h r)
def dS:List UInt8:=[109,101,114,103,101]
def uR(s:FS)(r:Nat)(id:Int):cG:=
 if(bc s.L (s.w r) (s.h r) dS [id]).2.1≠0 then⟨(bc s.L (s.w r) (s.h r) dS [id]).2.1,0,[]⟩else
 bP (bc s.L (s.w r) (s.h r) dS [id]).1 (cN (cz s r dS [id]).L r [(bc s.L (s.w r) (s.h r) dS [id]).1])
noncomputable def pf(s:FS)(r:Nat)(id:Int)(l:List Fi):FS:=
 if(bc s.L (s.w r) (s.h r) dS [id]).2.1≠0 then dQ (cz s r dS [id]) r l else
 iY (cz s r dS [id]) r (bc s.L (s.w r) (s.h r) dS [id]).1
def mG(s:FS)(r:Nat)(base id:Int):cG:=
 if(bu s.L base).2≠0 then⟨(bu s.L base).2,0,[]⟩else if(bu s.L (s.h r)).2≠0 then⟨(bu s.L (s.h r)).2,0,[]⟩else if(bu s.L id).2≠0 then⟨(bu s.L id).2,0,[]⟩else
 if(aX s r base id).code≠0 then⟨(aX s r base id).code,0,[]⟩else if 0<(aX s r base id).cf.length then⟨10,0,(aX s r base id).cf⟩else
 if jm (aX s r base id).L (aX s r base id).out≠0 then⟨jm (aX s r base id).L (aX s r base id).out,0,[]⟩else
 uR (dQ (s.aS (aX s r base id).L) r (aX s r base id).out) r id
noncomputable def jq(s:FS)(r:Nat)(base id:Int):FS:=
 if(bu s.L base).2≠0 then s else if(bu s.L (s.h r)).2≠0 then s else if(bu s.L id).2≠0 then s else
 if(aX s r base id).code≠0 then s.aS (aX s r base id).L else if 0<(aX s r base id).cf.length then s.aS (aX s r base id).L else
 if jm (aX s r base id).L (aX s r base id).out≠0 then dQ (s.aS (aX s r base id).L) r (aX s r base id).out else
 pf (dQ (s.aS (aX s r base id).L) r (aX s r base id).out) r id (bu s.L (s.h r)).1
def k9(s:FS)(r:Nat):Int:=fm s.L (s.w r) (s.h r)
def dv(s:FS)(r:Nat):FS:=s.aS (ba s.L (s.w r)).2.2
def nO(l:List Int):Int:=if 0<l.length then l.getLastD 0 else-1
def uQ(s:FS)(r:Nat)(id:Int):cG:=
 if s.h r<0∨(eQ s.L (s.h r) id=true∧s.h r≠id)then py s r id else if eQ s.L id (s.h r)=true then⟨17,0,[]⟩else
 if(eJ s.L (s.h r) id).2≠0 then⟨(eJ s.L (s.h r) id).2,0,[]⟩else mG s r (nO (eJ s.L (s.h r) id).1) id
noncomputable def pe(s:FS)(r:Nat)(id:Int):FS:=
 if s.h r<0∨(eQ s.L (s.h r) id=true∧s.h r≠id)then jt s r id else if eQ s.L id (s.h r)=true then s else
 if(eJ s.L (s.h r) id).2≠0 then s else jq s r (nO (eJ s.L (s.h r) id).1) id
def rq(s:FS)(r:Nat)(name:List UInt8):cG:=
 if(aF s r name).2≠0 then⟨(aF s r name).2,0,[]⟩else if k9 s r≠0 then⟨k9 s r,0,[]⟩else uQ (dv s r) r (aF s r name).1
noncomputable def mz(s:FS)(r:Nat)(name:List UInt8):FS:=
 if(aF s r name).2≠0 then s else if k9 s r≠0 then dv s r else pe (dv s r) r (aF s r name).1
noncomputable def e8(s:FS)(x:bm):cG:=
 if x.kind<1∨12<x.kind then⟨6,0,[]⟩else if bg x.r=false then⟨1,0,[]⟩else
 if x.kind=1 then pT s x.r.toNat x.path x.bytes else if x.kind=2 then rV s x.r.toNat x.path else
 if x.kind=3 then rj s x.r.toNat x.q x.path x.name else if x.kind=4 then oJ s x.r.toNat x.name x.text else
 if x.kind=5 then kZ s x.r.toNat x.name else if x.kind=6 then rq s x.r.toNat x.name else
 if x.kind=7 then qo s x.r.toNat x.name else if x.kind=8 then qE s x.r.toNat x.name else
 if x.kind=9 then oO s x.r.toNat x.q x.name else if x.kind=10 then qk s x.r.toNat x.q else
 if x.kind=12 then vI s x.r.toNat x.path x.name else⟨0,0,[]⟩
noncomputable def cA(s:FS)(x:bm):FS:=
 if x.kind<1∨12<x.kind then s else if bg x.r=false then s else
 if x.kind=1 then pU s x.r.toNat x.path x.bytes else if x.kind=2 then rW s x.r.toNat x.path else
 if x.kind=3 then nR s x.r.toNat x.q x.path x.name else if x.kind=4 then mg s x.r.toNat x.name x.text else
 if x.kind=5 then jL s x.r.toNat x.name else if x.kind=6 then mz s x.r.toNat x.name else
 if x.kind=7 then np s x.r.toNat x.name else if x.kind=8 then nt s x.r.toNat x.name else
 if x.kind=9 then mi s x.r.toNat x.q x.name else if x.kind=10 then qm s x.r.toNat x.q else
 if x.kind=12 then pM s x.r.toNat x.path x.name else ic s
end Go.Nest
end
section
namespace Go.Nest
open Go Go.AM Go.Proofs
open Go.Proofs.YtpechfcbnoggfaaGreatDoor (tab tabOk)
set_option maxRecDepth 100000
theorem fa(r:Int):ae Tryz.prog 53 [.c (.int .i64 r)] [] (Rt (.c (.bool (bg r))) []):=by
 refine ak (n:=9) (n0:=0) tabOk Tryz.call53 Tryz.func53 ?_;intro hb;unfold bg;(conv=>whnf);refine dec (fun h=>?_) (fun h=>?_)
 ·have h:0≤r:=h;rw[decide_eq_true h,Bool.true_and];(conv=>whnf);exact aE rfl
 ·have h:¬0≤r:=h;rw[decide_eq_false h,Bool.false_and];(conv=>whnf);exact aE rfl
theorem gq(n:Int):jE (.c (.int .i64 n)):=⟨fun _ _=>rfl,fun _=>rfl,rfl⟩
theorem CU:jE (.aC []):=⟨fun _ _=>trivial,fun _=>rfl,rfl⟩
theorem tg(n m:Int):jE (.aC [(false,[.int .i64 n]),(false,[.int .i64 m])]):=⟨fun _ _=>⟨⟨rfl,rfl,trivial⟩,⟨rfl,rfl,trivial⟩,trivial⟩,fun _=>rfl,rfl⟩
theorem D9{id c:Int}(h:c=0):bP id c=⟨0,id,[]⟩:=by unfold bP;rw[if_neg (by simp[h])]
theorem Ea{id c:Int}(h:c≠0):bP id c=⟨c,0,[]⟩:=if_pos h
theorem ix(id c:Int):ae Tryz.prog 54 [.c (.int .i64 id),.c (.int .i64 c)] [] (Rt (.st (b9 (bP id c))) []):=by
 refine ak (n:=11) (n0:=0) tabOk Tryz.call54 Tryz.func54 ?_;intro hb;(conv=>whnf);refine aw (fun h=>?_) (fun h=>?_)
 ·rw[Ea h];(conv=>whnf);exact rx [] []
 ·rw[D9 h];(conv=>whnf);exact rx [] []
theorem lG(s:FS)(d:b6 s)(r:Int)(name:List UInt8):ae Tryz.prog 121 [.c (.bp (fO s)),.c (.int .i64 r),.c (.str name)] [] (Rt (.aC [(false,[.int .i64 (aF s r name).1]),(false,[.int .i64 (aF s r name).2])]) []):=by
 refine ak (n:=24) (n0:=0) tabOk Tryz.call121 Tryz.func121 ?_;intro hb;(conv=>whnf);refine cl [] [] (fa r) ?_;(conv=>whnf);refine cO (fun h=>?_) (fun h=>?_)
 ·rw[show aF s r name=_ from if_pos h];(conv=>whnf);exact rx [] []
 obtain⟨i,b,rfl⟩:=bQ.1 h;have e:aF s (i:Int) name=if bD (s.n i) name<0 then(0,9)else(bD (s.n i) name,0):=if_neg (by rw[h];decide)
 have p:=oW (s.n i) (s.m i) name (d.sort i b) (by have:=d.few i b;omega);rw[e]
 rcases four b with rfl|rfl|rfl|rfl<;>(
  (conv=>whnf);refine⟨_,⟨rfl,by decide⟩,?_⟩;(conv=>whnf);refine cl [] [] (p) ?_;(conv=>whnf);refine dec (fun a=>?_) (fun a=>?_)
  ·rw[if_pos a];(conv=>whnf);exact rx [] []
  ·rw[if_neg a];(conv=>whnf);exact rx [] [])
def jO(p:List Rf×List Mv)(y:Rf):List Rf×List Mv:=(aS p.1 y.name (-1) y.id,eU p.1 p.2 y.name (-1) y.id)
theorem tz(l:List Rf):dH l=l.foldl jO ([],[]):=rfl
theorem Df{p:List Rf×List Mv}(h:gg p.1 p.2)(y:Rf):gg (jO p y).1 (jO p y).2∧(jO p y).2.length≤p.2.length+1:=by
 unfold jO aS eU;by_cases a:dB p.1 y.name (-1) y.id=0
 ·simp only[if_pos a];exact⟨.snoc h a,by simp⟩
 ·simp only[if_neg a];exact⟨h,Nat.le_succ _⟩
theorem xE:∀{l:List Rf} {p:List Rf×List Mv},gg p.1 p.2→gg (l.foldl jO p).1 (l.foldl jO p).2∧(l.foldl jO p).2.length≤p.2.length+l.length
 |[],p,h=>⟨h,by simp⟩
 |y::l,p,h=>by
  have a:=Df h y;have b:=xE (l:=l) a.1;rw[List.foldl_cons,List.length_cons];exact⟨b.1,by omega⟩
theorem Da(l:List Rf):mZ (dH l).1 (dH l).2∧(dH l).2.length≤l.length:=by
 have:=xE (l:=l) (p:=([],[])) .nil;rw[tz];exact⟨this.1.inv,by simpa using this.2⟩
theorem xF{l:List Rf}{i:Nat}(h:i<l.length):dH (l.take (i+1))=jO (dH (l.take i)) l[i]:=by
 rw[tz,tz,List.take_succ_eq_append_getElem h,List.foldl_append];rfl
set_option maxHeartbeats 2000000 in
theorem uV(s:FS)(v:b6 s){i:Nat}(hi:i<4)(name:List UInt8):ae Tryz.prog 123 [.c (.bp (fO s)),.c (.int .i64 (i:Nat)),.c (.str name)] [] (Rt (.c (.int .i64 (dw (s.n i) name))) []):=by
 refine ak (n:=41) (n0:=0) tabOk Tryz.call123 Tryz.func123 ?_;intro hb;have g:=v.few i hi;have p:=zH (s.n i) (s.m i) (by omega);(conv=>whnf);refine cl [] [] (pq) ?_;have fin:∀l:List Rf,l.length≤8→dw l name=dB (dH l).1 name (bD (dH l).1 name) 600:=fun _ _=>rfl;have j:=Da;have a:= @xF;have r:dH []=([],[]):=rfl
 rcases four hi with rfl|rfl|rfl|rfl<;>(
  (conv=>whnf);refine⟨_,⟨rfl,by decide⟩,?_⟩;(conv=>whnf);refine cl [] [] (p) ?_;generalize s.n _=l at g⊢;rw[fin l g];generalize dH=d at j a r⊢;(conv=>whnf);refine lp Nat (fun i=>⟨[(0,.c (.bp (fO s))),(2,.c (.str name)),(7,.c (.ptr 0 0)),(19,.c (.rw 3)),(20,.c (.int .i64 l.length)),(21,.c (.int .i64 i))],[.box [.rw 1,.rw 2],.row 2 Rf bd (d (l.take i)).1,.row 3 Mv cC (d (l.take i)).2,.row 2 Rf bd l]⟩) (fun i=>i≤l.length∧True) (fun i=>l.length-i) 0 [] [.same 0,.same 1,.same 2,.same 3] ⟨Nat.zero_le _,trivial⟩ ?_ (fun i hi=>?_)
  ·rw[List.take_zero,r];repeat' first|exact trivial|exact rfl|refine And.intro ?_ ?_
  obtain⟨hi,-⟩:=hi;(conv=>whnf);refine dec (fun k=>?_) (fun k=>?_)
  ·have e:i<l.length:=by have k:(i:Int)<l.length:=k;omega
   have o:l[i]? =some l[i]:=List.getElem?_eq_getElem e;have a:=a e;obtain⟨b,f⟩:=j (l.take i);rw[List.length_take]at f;have q:=pI (d (l.take i)).1 (d (l.take i)).2 l[i].name (-1) l[i].id b.sort b.ids b.len (by omega);have t:aS (d (l.take i)).1 l[i].name (-1) l[i].id=(d (l.take (i+1))).1:=by rw[a];rfl
   have u:eU (d (l.take i)).1 (d (l.take i)).2 l[i].name (-1) l[i].id=(d (l.take (i+1))).2:=by rw[a];rfl
   rw[t,u]at q;generalize l[i]=y at o q;(conv=>whnf);refine⟨i,⟨rfl,e⟩,?_⟩;(conv=>whnf);refine⟨y,o,?_⟩;(conv=>whnf);refine cl [] [0,1,2] (q) ?_;repeat'((conv=>whnf);refine I6 ?_)
   refine ag (i+1) [] [.same 0,.same 5,.same 6,.same 3] ⟨e,trivial⟩ (by simp only[];omega) ?_;repeat' first|exact trivial|exact rfl|refine And.intro ?_ ?_
  ·obtain rfl:i=l.length:=by have k:¬(i:Int)<l.length:=k;omega
   rw[List.take_length];obtain⟨b,f⟩:=j l;generalize d l=R at b f⊢;obtain⟨x,m⟩:=R;dsimp only at b f⊢;have w:=oW x m name b.sort (by have:=b.len;omega);have z:=pI x m name (bD x name) 600 b.sort b.ids b.len (by omega);(conv=>whnf);refine cl [] [] (w) ?_;(conv=>whnf);refine cl [] [0,1,2] (z) ?_;(conv=>whnf);refine aw (fun h=>?_) (fun h=>?_)
   ·(conv=>whnf);exact aG rfl
   ·have h:dB x name (bD x name) 600=0:=h;rw[h];(conv=>whnf);exact aG rfl)
set_option maxHeartbeats 2000000 in
theorem uC(s:FS)(d:b6 s){i:Nat}(hi:i<4)(name:List UInt8)(id:Int):ae Tryz.prog 125 [.c (.ptr 0 0),.c (.int .i64 (i:Nat)),.c (.str name),.c (.int .i64 id)] (aK s) (Rt (.c (.int .i64 (fQ s i name id))) (aQ (ee s i name id))):=by
 refine ak (n:=44) (n0:=32) tabOk Tryz.call125 Tryz.func125 ?_;intro hb;have q:=oW (s.n i) (s.m i) name (d.sort i hi) (by have:=d.few i hi;omega);have f:=u4 (s:=s) hi (pI (s.n i) (s.m i) name (bD (s.n i) name) id (d.sort i hi) (d.ids i hi) (d.few i hi) (by have:=d.moves i hi;omega)) (gq _);have f:ae Tryz.prog _ _ (aK s) (Rt (.c (.int .i64 (fy s i name id))) (aQ (gI s i name id))):=f;have e:=u0 (s:=gI s i name id) (sJ s.L d.pool s.o s.b d.df d.own (i:Int) [id] (by simp)) (gq _);have e:ae Tryz.prog _ _ (aK (gI s i name id)) (Rt (.c (.int .i64 (cN s.L i [id]))) (aQ (iY (gI s i name id) i id))):=e;have o:fQ s i name id=if fy s i name id≠0∧fy s i name id≠17 then fy s i name id else cN s.L i [id]:=rfl
 have p:ee s i name id=if fy s i name id≠0∧fy s i name id≠17 then gI s i name id else iY (gI s i name id) i id:=rfl
 rw[o,p];clear o p;generalize fy s i name id=c at f⊢;generalize iY (gI s i name id) i id=j at e⊢;generalize gI s i name id=g at f e⊢;have b:c≠0∧c≠17→(if c≠0∧c≠17 then c else cN s.L i [id])=c∧(if c≠0∧c≠17 then g else j)=g:=fun h=>⟨if_pos h,if_pos h⟩;have a:¬(c≠0∧c≠17)→(if c≠0∧c≠17 then c else cN s.L i [id])=cN s.L i [id]∧(if c≠0∧c≠17 then g else j)=j:=fun h=>⟨if_neg h,if_neg h⟩;generalize (if c≠0∧c≠17 then c else cN s.L i [id])=C at b a⊢;generalize (if c≠0∧c≠17 then g else j)=S at b a⊢
 rcases four hi with rfl|rfl|rfl|rfl<;>(
  (conv=>whnf);refine⟨false,.grow,(.l [0,1,2,3,4,5,6,7,8,9,10,11,12,13,14,15,17,16,18,19]),by kernel_rfl,.inl ?_⟩;(conv=>whnf);refine⟨_,⟨rfl,by decide⟩,?_⟩;(conv=>whnf);refine⟨_,⟨rfl,by decide⟩,?_⟩;(conv=>whnf);refine cl [] [] (q) ?_;(conv=>whnf);refine aP (mF 0) (bC 21 d21 g) f ?_;(conv=>whnf);have r:(c≠0∧c≠17)∨¬(c≠0∧c≠17):=Decidable.em _;refine aw (fun k=>?_) (fun k=>?_)
  ·(conv=>whnf);refine aw (fun m=>?_) (fun m=>?_)
   ·obtain⟨rfl,rfl⟩:=b ⟨k,m⟩;(conv=>whnf);exact aZ (rF 21)
   ·obtain⟨rfl,rfl⟩:=a (fun h=>h.2 m);(conv=>whnf);refine⟨[id],rfl,?_⟩;(conv=>whnf);refine aP (mF 21) (bC 43 (d21++(d21++[.row 1 Int encI [id]])) S) e ?_;(conv=>whnf);exact aZ (rF 43)
  ·obtain⟨rfl,rfl⟩:=a (fun h=>h.1 k);(conv=>whnf);refine⟨[id],rfl,?_⟩;(conv=>whnf);refine aP (mF 21) (bC 43 (d21++(d21++[.row 1 Int encI [id]])) S) e ?_;(conv=>whnf);exact aZ (rF 43))
end Go.Nest
end
section
namespace Go.Nest
open Go Go.AM Go.Proofs
open Go.Proofs.YtpechfcbnoggfaaGreatDoor (tab tabOk)
set_option maxRecDepth 100000
def qD(s:FS)(r:Int):List Dc:=if bg r=false then[]else(s.w r.toNat).map dI
def rT(s:FS)(r:Int):List Rf:=if bg r=false then[]else s.n r.toNat
def uc(s:FS)(r:Int):Int:=if bg r=false then-1 else s.h r.toNat
def kO(s:FS)(r:Int):List Ch×Int:=if bg r=false then([],1)else lU s.L (s.w r.toNat) (s.h r.toNat)
def jB(s:FS)(r:Int):FS:=if bg r=false then s else s.db r.toNat (aM s.L (s.w r.toNat) []).2.2 (s.w r.toNat) (s.h r.toNat)
theorem tE(s:FS)(b:b6 s)(r:Int):ae Tryz.prog 25 [.c (.bp (fO s)),.c (.int .i64 r)] [] (Rt (.c (.rw 0)) [.row 2 Dc dZ (qD s r)]):=by
 unfold qD;refine ak (n:=16) (n0:=0) tabOk Tryz.call25 Tryz.func25 ?_;intro hb;(conv=>whnf);refine cl [] [] (fa r) ?_;(conv=>whnf);refine cO (fun h=>?_) (fun h=>?_)
 ·rw[if_pos h];(conv=>whnf);exact rx [] [.new]
 obtain⟨i,a,rfl⟩:=bQ.1 h;have p:=DX s.L (s.w i) (s.h i) (b.items i a) (b.bytes i a);rw[if_neg (by rw[h];decide)]
 rcases four a with rfl|rfl|rfl|rfl<;>(
  (conv=>whnf);refine⟨_,⟨rfl,by decide⟩,?_⟩;(conv=>whnf);refine cl [] [] (p) ?_;(conv=>whnf);exact rx [] [.same 0])
theorem AL(s:FS)(b:b6 s)(r:Int):ae Tryz.prog 26 [.c (.bp (fO s)),.c (.int .i64 r)] [] (Rt (.c (.rw 0)) [.row 2 Rf bd (rT s r)]):=by
 unfold rT;refine ak (n:=16) (n0:=0) tabOk Tryz.call26 Tryz.func26 ?_;intro hb;(conv=>whnf);refine cl [] [] (fa r) ?_;(conv=>whnf);refine cO (fun h=>?_) (fun h=>?_)
 ·rw[if_pos h];(conv=>whnf);exact rx [] [.new]
 obtain⟨i,a,rfl⟩:=bQ.1 h;have p:=zH (s.n i) (s.m i) (by have:=b.few i a;omega);rw[if_neg (by rw[h];decide)]
 rcases four a with rfl|rfl|rfl|rfl<;>(
  (conv=>whnf);refine⟨_,⟨rfl,by decide⟩,?_⟩;(conv=>whnf);refine cl [] [] (p) ?_;(conv=>whnf);exact rx [] [.same 0])
theorem EU(s:FS)(b:b6 s)(r:Int):ae Tryz.prog 27 [.c (.bp (fO s)),.c (.int .i64 r)] [] (Rt (.c (.int .i64 (uc s r))) []):=by
 unfold uc;refine ak (n:=16) (n0:=0) tabOk Tryz.call27 Tryz.func27 ?_;intro hb;(conv=>whnf);refine cl [] [] (fa r) ?_;(conv=>whnf);refine cO (fun h=>?_) (fun h=>?_)
 ·rw[if_pos h];(conv=>whnf);exact aG rfl
 obtain⟨i,a,rfl⟩:=bQ.1 h;have p:=nF s.L (s.w i) (s.h i);rw[if_neg (by rw[h];decide)]
 rcases four a with rfl|rfl|rfl|rfl<;>(
  (conv=>whnf);refine⟨_,⟨rfl,by decide⟩,?_⟩;(conv=>whnf);refine cl [] [] (p) ?_;(conv=>whnf);exact aG rfl)
theorem G3{f:FuncId}{s:FS}{r:Nat}(hr:r<4){L:List Ob}{l:List It}{h:Int}{sz:Nat}{α:Type}{enc:α→List C}{x:List α}{c:Int}(a:ae Tryz.prog f [.c (.ptr 0 0)] [.box [.ptr 1 0,.rw 3,.int .i64 (s.h r)],.box [.rw 2],.row 6 Ob an s.L,.row 5 It aJ (s.w r)] (Rt (.aC [(false,[.rw 6]),(false,[.int .i64 c])]) ([.box [.ptr 1 0,.rw 5,.int .i64 h],.box [.rw 4],.dead,.dead,.row 6 Ob an L,.row 5 It aJ l]++[.row sz α enc x]))):
  ae Tryz.prog f [.c (.ptr (3+2*r) 0)] (aK s) (Rt (.aC [(false,[.rw 53]),(false,[.int .i64 c])]) (aQ (s.db r L l h)++[.row sz α enc x])):=by
 refine bA.frame [3+2*r,10,11,28+r] (rP (fun i=>bif Nat.beq i 11 then 32 else bif Nat.beq i (28+r)then 33 else i)++[.same 34]) a ?_ rfl rfl ?_ rfl
 ·rcases four hr with rfl|rfl|rfl|rfl<;>exact jc ⟨rfl,trivial⟩
 ·rcases four hr with rfl|rfl|rfl|rfl<;>exact j5 ⟨⟨rfl,rfl,trivial⟩,⟨rfl,rfl,trivial⟩,trivial⟩
theorem IX(s:FS)(b:b6 s)(r:Int):ae Tryz.prog 35 [.c (.ptr 0 0),.c (.int .i64 r)] (aK s) (Rt (.aC [(false,[.rw 53]),(false,[.int .i64 (kO s r).2])]) (aQ (jB s r)++[.row 9 Ch jP (kO s r).1])):=by
 unfold kO jB;refine ak (n:=19) (n0:=32) tabOk Tryz.call35 Tryz.func35 ?_;intro hb;(conv=>whnf);refine cl [] [] (fa r) ?_;(conv=>whnf);refine cO (fun h=>?_) (fun h=>?_)
 ·rw[if_pos h,if_pos h];(conv=>whnf);exact rx [] (rF 0++[.new])
 obtain⟨i,a,rfl⟩:=bQ.1 h;have p:=G3 (s:=s) a (IY s.L b.pool (s.w i) (s.h i) (b.paths i a) (b.items i a));rw[if_neg (by rw[h];decide),if_neg (by rw[h];decide)];rw[Int.toNat_natCast];generalize lU s.L (s.w i) (s.h i)=R at p⊢;generalize s.db i (aM s.L (s.w i) []).2.2 (s.w i) (s.h i)=d at p⊢
 rcases four a with rfl|rfl|rfl|rfl<;>(
  (conv=>whnf);refine⟨_,⟨rfl,by decide⟩,?_⟩;(conv=>whnf);refine aP (mF 0) (bC 21 d21 d++[.row 9 Ch jP R.1]) p ?_;(conv=>whnf);exact aZ (rF 21++[.same 53]))
set_option maxHeartbeats 4000000 in
theorem C6(s:FS)(p:b6 s){i:Nat}(hi:i<4)(x:bm)(F:x.r=i)(hl:b6 (cz s i x.text [])):ae Tryz.prog 58 [.c (.ptr 0 0),.st (aI x)] (aK s) (Rt (.st (b9 (oJ s i x.name x.text))) (aQ (mg s i x.name x.text))):=by
 have D:=uV s p hi x.name;have m:=kH (s:=s) hi (xz s.L p.pool (s.w i) (s.h i) (p.paths i hi) (p.items i hi) x.text [] (by decide) (p.head i hi)) (tg _ _);have m:ae Tryz.prog _ _ (aK s) (Rt _ (aQ (cz s i x.text []))):=m;have j:=uC _ hl hi x.name (bc s.L (s.w i) (s.h i) x.text []).1;have q:=ix (bc s.L (s.w i) (s.h i) x.text []).1 (fQ (cz s i x.text []) i x.name (bc s.L (s.w i) (s.h i) x.text []).1);unfold oJ mg;clear hl;generalize fQ (cz s i x.text []) i x.name (bc s.L (s.w i) (s.h i) x.text []).1=H at j q⊢;generalize ee (cz s i x.text []) i x.name (bc s.L (s.w i) (s.h i) x.text []).1=r at j⊢;generalize cz s i x.text []=o at m j⊢;generalize bc s.L (s.w i) (s.h i) x.text []=R at m j q⊢;obtain⟨id,b,J⟩:=R;dsimp only at m j q⊢;generalize dw (s.n i) x.name=a at D⊢;generalize bP id H=I at q⊢;obtain⟨d,e,f⟩:=I;have u:a≠0→(if a≠0 then(⟨a,0,[]⟩:cG)else if b≠0 then⟨b,0,[]⟩else⟨d,e,f⟩)=⟨a,0,[]⟩∧(if a≠0 then s else if b≠0 then o else r)=s:=fun h=>⟨if_pos h,if_pos h⟩;have v:a=0→b≠0→(if a≠0 then(⟨a,0,[]⟩:cG)else if b≠0 then⟨b,0,[]⟩else⟨d,e,f⟩)=⟨b,0,[]⟩∧(if a≠0 then s else if b≠0 then o else r)=o:=fun h g=>⟨(if_neg (fun k=>k h)).trans (if_pos g),(if_neg (fun k=>k h)).trans (if_pos g)⟩;have w:a=0→b=0→(if a≠0 then(⟨a,0,[]⟩:cG)else if b≠0 then⟨b,0,[]⟩else⟨d,e,f⟩)=⟨d,e,f⟩∧(if a≠0 then s else if b≠0 then o else r)=r:=fun h g=>⟨(if_neg (fun k=>k h)).trans (if_neg (fun k=>k g)),(if_neg (fun k=>k h)).trans (if_neg (fun k=>k g))⟩;generalize (if a≠0 then(⟨a,0,[]⟩:cG)else if b≠0 then⟨b,0,[]⟩else⟨d,e,f⟩)=E at u v w⊢;generalize (if a≠0 then s else if b≠0 then o else r)=S at u v w⊢;rw[←F]at D j;refine ak (n:=45) (n0:=32) tabOk Tryz.call58 Tryz.func58 ?_;intro hb;(conv=>whnf);refine cl [] [] (D) ?_;(conv=>whnf);refine aw (fun t=>?_) (fun t=>?_)
 ·obtain⟨rfl,rfl⟩:=u t;(conv=>whnf);exact aZ (rF 0)
 have z:x.r=(i:Nat):=F
 rcases four hi with rfl|rfl|rfl|rfl<;>(
  (conv=>whnf);refine⟨false,.grow,(.l [0,1,2,3,4,5,6,7,8,9,10,11,12,13,14,15]),by kernel_rfl,.inl ?_⟩;(conv=>whnf);refine⟨_,⟨z,by decide⟩,?_⟩;(conv=>whnf);refine aP (mF 0) (bC 23 (d21++[.box (aI x),.box [.int .i64 0,.int .i64 0,.nil]]) o) m ?_;(conv=>whnf);refine aw (fun y=>?_) (fun y=>?_)
  ·obtain⟨rfl,rfl⟩:=v t y;(conv=>whnf);exact aZ (rF 23)
  obtain⟨rfl,rfl⟩:=w t y;(conv=>whnf);refine aP (mF 23) (bC 44 (d21++[.box (aI x),.box [.int .i64 0,.int .i64 0,.nil]]++d21) S) j ?_;(conv=>whnf);refine cl [] [] (q) ?_;(conv=>whnf);exact aZ (rF 44))
end Go.Nest
end
section
namespace Go.Nest
open Go Go.AM Go.Proofs
open Go.Proofs.YtpechfcbnoggfaaGreatDoor (tab tabOk)
set_option maxRecDepth 100000
set_option maxHeartbeats 4000000 in
theorem DW(s:FS)(f:b6 s){i:Nat}(hi:i<4){r:Int}(hr:r=i)(q:Int)(p n t b:List UInt8)(j:p.length≤4000000):ae Tryz.prog 22 [.c (.ptr 0 0),.st (aI ⟨1,r,q,p,n,t,b⟩)] (aK s) (Rt (.st (b9 (pT s i p b))) (aQ (pU s i p b))):=by
 have g:=fa r;rw[bQ.2 ⟨i,hi,hr⟩]at g;have a:=kH (s:=s) hi (JM s.L (s.w i) (s.h i) p b j (f.paths i hi) (f.items i hi)) (gq _);obtain⟨c,d⟩:∃c,(ij (s.w i) p b).1=c:=⟨_,rfl⟩;rw[d]at a;have a:ae Tryz.prog _ _ (aK s) (Rt _ (aQ (pU s i p b))):=a;have h:=ix 0 c;rw[show pT s i p b=bP 0 c by unfold pT;rw[d]];generalize bP 0 c=e at h⊢;obtain⟨m,o,u⟩:=e;generalize pU s i p b=k at a⊢;refine ak (n:=111) (n0:=32) tabOk Tryz.call22 Tryz.func22 ?_;intro hb;(conv=>whnf);refine cl [] [] (g) ?_
 rcases four hi with rfl|rfl|rfl|rfl<;>(
  (conv=>whnf);refine⟨false,.grow,(.l [0,1,2,3,4,5,6,7,8,9,10,11,12,13,14]),by kernel_rfl,.inl ?_⟩;(conv=>whnf);refine⟨_,⟨hr,by decide⟩,?_⟩;(conv=>whnf);refine aP (mF 0) (bC 23 (d21++[.box (aI ⟨1,r,q,p,n,t,b⟩),.box [.int .i64 0,.int .i64 0,.nil]]) k) a ?_;(conv=>whnf);refine cl [] [] (h) ?_;(conv=>whnf);exact aZ (rF 23))
set_option maxHeartbeats 4000000 in
theorem DL(s:FS){i:Nat}(hi:i<4)(q:Int)(p n t b:List UInt8)(E:cG)(S:FS)(p1:ae Tryz.prog 58 [.c (.ptr 0 0),.st (aI ⟨4,i,q,p,n,t,b⟩)] (aK s) (Rt (.st (b9 E)) (aQ S))):ae Tryz.prog 22 [.c (.ptr 0 0),.st (aI ⟨4,i,q,p,n,t,b⟩)] (aK s) (Rt (.st (b9 E)) (aQ S)):=by
 have a:=fa i;rw[bQ.2 ⟨i,hi,rfl⟩]at a;obtain⟨d,e,f⟩:=E;refine ak (n:=111) (n0:=32) tabOk Tryz.call22 Tryz.func22 ?_;intro hb;(conv=>whnf);refine cl [] [] (a) ?_;(conv=>whnf);refine aP (mF 0) (bC 23 (d21++[.box (aI ⟨4,i,q,p,n,t,b⟩),.box [.int .i64 0,.int .i64 0,.nil]]) S) p1 ?_;(conv=>whnf);exact aZ (rF 23)
end Go.Nest
end
section
namespace Go.Nest
open Go Go.AM Go.Proofs
open Go.Proofs.YtpechfcbnoggfaaGreatDoor (tab tabOk)
set_option maxRecDepth 100000
set_option maxHeartbeats 4000000 in
theorem Gc(s:FS)(b:b6 s){i:Nat}(hi:i<4)(x:bm)(o:x.r=i)(m:x.path.length≤4000000):ae Tryz.prog 57 [.c (.ptr 0 0),.st (aI x)] (aK s) (Rt (.st (b9 (rj s i x.q x.path x.name))) (aQ (nR s i x.q x.path x.name))):=by
 by_cases a:(aF s x.q x.name).2=0
 ·rw[show rj s i x.q x.path x.name=_ from if_neg (fun h=>h a),show nR s i x.q x.path x.name=_ from if_neg (fun h=>h a)];have d:=lG s b x.q x.name;generalize aF s x.q x.name=R at d a⊢;obtain⟨id,q⟩:=R;dsimp only at d a⊢;have g:=kH (s:=s) hi (Ge s.L b.pool (s.w i) (s.h i) x.path x.q id m (b.paths i hi) (b.items i hi)) (gq _);generalize s.db i s.L (gG s.L (s.w i) x.path x.q id).2 (s.h i)=p at g⊢;obtain⟨c,k⟩:∃c,(gG s.L (s.w i) x.path x.q id).1=c:=⟨_,rfl⟩;rw[k]at g⊢;have j:=ix (id) c;generalize bP (id) c=e at j⊢;obtain⟨r,t,u⟩:=e;have f:x.r=(i:Nat):=o;rw[a]at d;refine ak (n:=36) (n0:=32) tabOk Tryz.call57 Tryz.func57 ?_;intro hb;(conv=>whnf);refine cl [] [] (d) ?_
  rcases four hi with rfl|rfl|rfl|rfl<;>(
   (conv=>whnf);refine⟨false,.grow,(.l [0,1,2,3,4,5,6,7,8,9,10,11,12,13,14,15,16]),by kernel_rfl,.inl ?_⟩;(conv=>whnf);refine⟨_,⟨f,by decide⟩,?_⟩;(conv=>whnf);refine aP (mF 0) (bC 23 (d21++[.box (aI x),.box [.int .i64 0,.int .i64 0,.nil]]) p) g ?_;(conv=>whnf);refine cl [] [] (j) ?_;(conv=>whnf);exact aZ (rF 23))
 ·rw[show rj s i x.q x.path x.name=_ from if_pos a,show nR s i x.q x.path x.name=_ from if_pos a];refine ak (n:=36) (n0:=32) tabOk Tryz.call57 Tryz.func57 ?_;intro hb;(conv=>whnf);refine cl [] [] (lG s b x.q x.name) ?_;(conv=>whnf);refine aw (fun _=>?_) (fun h=>absurd h a);(conv=>whnf);exact aZ (rF 0)
set_option maxHeartbeats 4000000 in
theorem CS(s:FS)(b:b6 s){i:Nat}(hi:i<4)(x:bm)(g:x.r=i):ae Tryz.prog 59 [.c (.ptr 0 0),.st (aI x)] (aK s) (Rt (.st (b9 (kZ s i x.name))) (aQ (jL s i x.name))):=by
 have d:=lG s b (i:Nat) x.name;rw[←g]at d;by_cases a:(aF s (i:Nat) x.name).2=0
 ·rw[show kZ s i x.name=_ from if_neg (fun h=>h a),show jL s i x.name=_ from if_neg (fun h=>h a)];rw[←g]at a⊢;generalize aF s x.r x.name=R at d a⊢;obtain⟨id,p⟩:=R;dsimp only at d a⊢;have f:=kH (s:=s) hi (xk s.L b.pool (s.w i) (s.h i) (b.paths i hi) (b.items i hi) id) (gq _);have f:ae Tryz.prog _ _ (aK s) (Rt _ (aQ (jt s i id))):=f;generalize jt s i id=o at f⊢;unfold py;obtain⟨c,m⟩:∃c,dG s.L (s.w i) (s.h i) id=c:=⟨_,rfl⟩;rw[m]at f⊢;have k:=ix (id) c;generalize bP (id) c=e at k⊢;obtain⟨q,r,t⟩:=e;have j:x.r=(i:Nat):=g;rw[a]at d;refine ak (n:=32) (n0:=32) tabOk Tryz.call59 Tryz.func59 ?_;intro hb;(conv=>whnf);refine cl [] [] (d) ?_
  rcases four hi with rfl|rfl|rfl|rfl<;>(
   (conv=>whnf);refine⟨false,.grow,(.l [0,1,2,3,4,5,6,7,8,9,10,11,12]),by kernel_rfl,.inl ?_⟩;(conv=>whnf);refine⟨_,⟨j,by decide⟩,?_⟩;(conv=>whnf);refine aP (mF 0) (bC 23 (d21++[.box (aI x),.box [.int .i64 0,.int .i64 0,.nil]]) o) f ?_;(conv=>whnf);refine cl [] [] (k) ?_;(conv=>whnf);exact aZ (rF 23))
 ·rw[show kZ s i x.name=_ from if_pos a,show jL s i x.name=_ from if_pos a];rw[←g]at a⊢;refine ak (n:=32) (n0:=32) tabOk Tryz.call59 Tryz.func59 ?_;intro hb;(conv=>whnf);refine cl [] [] (lG s b x.r x.name) ?_;(conv=>whnf);refine aw (fun _=>?_) (fun h=>absurd h a);(conv=>whnf);exact aZ (rF 0)
set_option maxHeartbeats 4000000 in
theorem DY(s:FS)(b:b6 s){i:Nat}(hi:i<4)(x:bm)(f:x.r=i):ae Tryz.prog 62 [.c (.ptr 0 0),.st (aI x)] (aK s) (Rt (.st (b9 (qE s i x.name))) (aQ (nt s i x.name))):=by
 have d:=lG s b (i:Nat) x.name;rw[←f]at d;by_cases a:(aF s (i:Nat) x.name).2=0
 ·rw[show qE s i x.name=_ from if_neg (fun h=>h a),show nt s i x.name=_ from if_neg (fun h=>h a)];rw[←f]at a⊢;generalize aF s x.r x.name=R at d a⊢;obtain⟨id,p⟩:=R;dsimp only at d a⊢;have j:=u4 (s:=s) hi (pI (s.n i) (s.m i) x.name id (-1) (b.sort i hi) (b.ids i hi) (b.few i hi) (by have:=b.moves i hi;omega)) (gq _);generalize s.iN i (aS (s.n i) x.name id (-1)) (eU (s.n i) (s.m i) x.name id (-1))=o at j⊢;obtain⟨c,m⟩:∃c,dB (s.n i) x.name id (-1)=c:=⟨_,rfl⟩;rw[m]at j⊢;have k:=ix (id) c;generalize bP (id) c=e at k⊢;obtain⟨q,r,t⟩:=e;have g:x.r=(i:Nat):=f;rw[a]at d;refine ak (n:=34) (n0:=32) tabOk Tryz.call62 Tryz.func62 ?_;intro hb;(conv=>whnf);refine cl [] [] (d) ?_
  rcases four hi with rfl|rfl|rfl|rfl<;>(
   (conv=>whnf);refine⟨false,.grow,(.l [0,1,2,3,4,5,6,7,8,9,10,11,12,13,14]),by kernel_rfl,.inl ?_⟩;(conv=>whnf);refine⟨_,⟨g,by decide⟩,?_⟩;(conv=>whnf);refine aP (mF 0) (bC 23 (d21++[.box (aI x),.box [.int .i64 0,.int .i64 0,.nil]]) o) j ?_;(conv=>whnf);refine cl [] [] (k) ?_;(conv=>whnf);exact aZ (rF 23))
 ·rw[show qE s i x.name=_ from if_pos a,show nt s i x.name=_ from if_pos a];rw[←f]at a⊢;refine ak (n:=34) (n0:=32) tabOk Tryz.call62 Tryz.func62 ?_;intro hb;(conv=>whnf);refine cl [] [] (lG s b x.r x.name) ?_;(conv=>whnf);refine aw (fun _=>?_) (fun h=>absurd h a);(conv=>whnf);exact aZ (rF 0)
set_option maxHeartbeats 4000000 in
theorem CG(s:FS)(d:b6 s){i:Nat}(hi:i<4)(x:bm)(m:x.r=i):ae Tryz.prog 61 [.c (.ptr 0 0),.st (aI x)] (aK s) (Rt (.st (b9 (qo s i x.name))) (aQ (np s i x.name))):=by
 have g:=nF s.L (s.w i) (s.h i);have o:=oW (s.n i) (s.m i) x.name (d.sort i hi) (by have:=d.few i hi;omega);have f:=u4 (s:=s) hi (pI (s.n i) (s.m i) x.name (bD (s.n i) x.name) (s.h i) (d.sort i hi) (d.ids i hi) (d.few i hi) (by have:=d.moves i hi;omega)) (gq _);have f:ae Tryz.prog _ _ (aK s) (Rt (.c (.int .i64 (fy s i x.name (s.h i)))) (aQ (gI s i x.name (s.h i)))):=f;have a:x.r=(i:Nat):=m;by_cases b:s.h i<0
 ·rw[show qo s i x.name=_ from if_pos b,show np s i x.name=_ from if_pos b];refine ak (n:=43) (n0:=32) tabOk Tryz.call61 Tryz.func61 ?_;intro hb
  rcases four hi with rfl|rfl|rfl|rfl<;>(
   (conv=>whnf);refine⟨false,.grow,(.l [0,1,2,3,4,5,6,7,8,9]),by kernel_rfl,.inl ?_⟩;(conv=>whnf);refine⟨_,⟨a,by decide⟩,?_⟩;(conv=>whnf);refine cl [] [] (g) ?_;(conv=>whnf);refine dec (fun _=>?_) (fun h=>absurd b h);(conv=>whnf);exact aZ (rF 0))
 ·rw[show qo s i x.name=_ from if_neg b,show np s i x.name=_ from if_neg b];generalize gI s i x.name (s.h i)=p at f⊢;obtain⟨c,k⟩:∃c,fy s i x.name (s.h i)=c:=⟨_,rfl⟩;rw[k]at f⊢;have j:=ix (s.h i) c;generalize bP (s.h i) c=e at j⊢;obtain⟨q,r,t⟩:=e;refine ak (n:=43) (n0:=32) tabOk Tryz.call61 Tryz.func61 ?_;intro hb
  rcases four hi with rfl|rfl|rfl|rfl<;>(
   (conv=>whnf);refine⟨false,.grow,(.l [0,1,2,3,4,5,6,7,8,9]),by kernel_rfl,.inl ?_⟩;(conv=>whnf);refine⟨_,⟨a,by decide⟩,?_⟩;(conv=>whnf);refine cl [] [] (g) ?_;(conv=>whnf);refine dec (fun h=>absurd h b) (fun _=>?_);(conv=>whnf);refine⟨false,.grow,(.l [0,1,2,3,4,5,6,7,8,9,10,11,12,13,14,15,16,17,18,19,20,22,21,23,24,25]),by kernel_rfl,.inl ?_⟩;(conv=>whnf);refine⟨_,⟨a,by decide⟩,?_⟩;(conv=>whnf);refine⟨_,⟨a,by decide⟩,?_⟩;(conv=>whnf);refine cl [] [] (o) ?_;(conv=>whnf);refine aP (mF 0) (bC 23 (d21++[.box (aI x),.box [.int .i64 0,.int .i64 0,.nil]]) p) f ?_;(conv=>whnf);refine cl [] [] (j) ?_;(conv=>whnf);exact aZ (rF 23))
end Go.Nest
end
section
namespace Go.Nest
open Go Go.AM Go.Proofs
open Go.Proofs.YtpechfcbnoggfaaGreatDoor (tab tabOk)
set_option maxRecDepth 100000
theorem tO(s:FS)(a:b6 s)(id:Int):ae Tryz.prog 210 [.c (.bp (fO s)),.c (.int .i64 id)] [] (Rt (.aC [(false,[.rw 0]),(false,[.int .i64 (bu s.L id).2])]) [.row 4 Fi ao (bu s.L id).1]):=by
 have b:=fc s.L a.pool id;have d:=qI s.L a.pool (aj s.L id).tree;unfold bu;generalize aj s.L id=o at b d⊢;refine ak (n:=34) (n0:=0) tabOk Tryz.call210 Tryz.func210 ?_;intro hb;(conv=>whnf);refine dec (fun h=>?_) (fun h=>?_)
 ·rw[if_pos h];(conv=>whnf);exact rx [] [.new]
 ·rw[if_neg h];(conv=>whnf);refine cl [] [] (b) ?_;(conv=>whnf);refine⟨false,.grow,(.l [0,1,2,3,4,5,6,7,8,9,10,11,12,13]),by kernel_rfl,.inl ?_⟩;(conv=>whnf);refine cl [] [] (d) ?_;(conv=>whnf);exact rx [] [.same 1]
set_option maxHeartbeats 8000000 in
theorem Eh(s:FS)(g:b6 s){i:Nat}(hi:i<4)(x:bm)(w:x.r=i)(hl:b6 (s.cn (cD s.L s.o s.b (i:Nat) x.q (aF s x.q x.name).1))):ae Tryz.prog 63 [.c (.ptr 0 0),.st (aI x)] (aK s) (Rt (.st (b9 (oO s i x.q x.name))) (aQ (mi s i x.q x.name))):=by
 have k:=lG s g x.q x.name;have m:=uV s g hi x.name
 have t:oO s i x.q x.name=if(aF s x.q x.name).2≠0 then⟨(aF s x.q x.name).2,0,[]⟩else if dw (s.n i) x.name≠0 then⟨dw (s.n i) x.name,0,[]⟩else
  if ez s.L s.dep (i:Nat) x.q (aF s x.q x.name).1≠0 then⟨ez s.L s.dep (i:Nat) x.q (aF s x.q x.name).1,0,[]⟩else
  bP (aF s x.q x.name).1 (fQ (s.cn (cD s.L s.o s.b (i:Nat) x.q (aF s x.q x.name).1)) i x.name (aF s x.q x.name).1):=rfl
 have u:mi s i x.q x.name=if(aF s x.q x.name).2≠0 then s else if dw (s.n i) x.name≠0 then s else
  if ez s.L s.dep (i:Nat) x.q (aF s x.q x.name).1≠0 then s.cn (cD s.L s.o s.b (i:Nat) x.q (aF s x.q x.name).1)else
  ee (s.cn (cD s.L s.o s.b (i:Nat) x.q (aF s x.q x.name).1)) i x.name (aF s x.q x.name).1:=rfl
 rw[t,u];clear t u;generalize aF s x.q x.name=R at k hl⊢;obtain⟨id,p⟩:=R;dsimp only at k hl⊢;have f:=u0 (s:=s) (Eg s.L g.pool s.o s.b g.df g.own (i:Nat) x.q id) (gq _);have f:ae Tryz.prog _ _ (aK s) (Rt (.c (.int .i64 (ez s.L s.dep (i:Nat) x.q id))) (aQ (s.cn (cD s.L s.o s.b (i:Nat) x.q id)))):=f;have j:=uC _ hl hi x.name id;have o:=ix id (fQ (s.cn (cD s.L s.o s.b (i:Nat) x.q id)) i x.name id);clear hl;generalize fQ (s.cn (cD s.L s.o s.b (i:Nat) x.q id)) i x.name id=v at j o⊢;generalize ee (s.cn (cD s.L s.o s.b (i:Nat) x.q id)) i x.name id=z at j⊢;generalize s.cn (cD s.L s.o s.b (i:Nat) x.q id)=y at f j⊢;generalize ez s.L s.dep (i:Nat) x.q id=r at f⊢;generalize dw (s.n i) x.name=q at m⊢;generalize bP id v=e at o⊢;obtain⟨D,E,F⟩:=e;rw[←w]at m f j;refine ak (n:=55) (n0:=32) tabOk Tryz.call63 Tryz.func63 ?_;intro hb;(conv=>whnf);refine cl [] [] (k) ?_;(conv=>whnf);refine aw (fun a=>?_) (fun a=>?_)
 ·have a:p≠0:=a;rw[if_pos a,if_pos a];(conv=>whnf);exact aZ (rF 0)
 have a:¬p≠0:=fun h=>h a;rw[if_neg a,if_neg a];(conv=>whnf);refine cl [] [] (m) ?_;(conv=>whnf);refine aw (fun b=>?_) (fun b=>?_)
 ·have b:q≠0:=b;rw[if_pos b,if_pos b];(conv=>whnf);exact aZ (rF 0)
 have b:¬q≠0:=fun h=>h b;rw[if_neg b,if_neg b];(conv=>whnf);refine⟨false,.grow,(.l [0,1,2,3,4,5,6,7,8,9,10]),by kernel_rfl,.inl ?_⟩;(conv=>whnf);refine aP (mF 0) (bC 23 (d21++[.box (aI x),.box [.int .i64 0,.int .i64 0,.nil]]) y) f ?_;(conv=>whnf);refine aw (fun d=>?_) (fun d=>?_)
 ·have d:r≠0:=d;rw[if_pos d,if_pos d];(conv=>whnf);exact aZ (rF 23)
 have d:¬r≠0:=fun h=>h d;rw[if_neg d,if_neg d];(conv=>whnf);refine aP (mF 23) (bC 44 (d21++[.box (aI x),.box [.int .i64 0,.int .i64 0,.nil]]++d21) z) j ?_;(conv=>whnf);refine cl [] [] (o) ?_;(conv=>whnf);exact aZ (rF 44)
set_option maxHeartbeats 8000000 in
theorem IM(s:FS)(r:b6 s){i:Nat}(hi:i<4)(x:bm)(t:x.r=i)(v:x.path.length≤4000000)(hl:b6 (s.aS (bT s.L (s.h i) x.path).2.2)):ae Tryz.prog 65 [.c (.ptr 0 0),.st (aI x)] (aK s) (Rt (.st (b9 (vI s i x.path x.name))) (aQ (pM s i x.path x.name))):=by
 have m:=nF s.L (s.w i) (s.h i);have o:=uV s r hi x.name;have k:=G0 (s:=s) (IP s.L r.pool (s.h i) x.path v) (tg _ _);have f:=uC _ hl hi x.name (bT s.L (s.h i) x.path).1;have j:=ix (bT s.L (s.h i) x.path).1 (fQ (s.aS (bT s.L (s.h i) x.path).2.2) i x.name (bT s.L (s.h i) x.path).1);unfold vI pM;clear hl;generalize fQ (s.aS (bT s.L (s.h i) x.path).2.2) i x.name (bT s.L (s.h i) x.path).1=u at f j⊢;generalize ee (s.aS (bT s.L (s.h i) x.path).2.2) i x.name (bT s.L (s.h i) x.path).1=y at f⊢;generalize s.aS (bT s.L (s.h i) x.path).2.2=w at k f⊢;generalize bT s.L (s.h i) x.path=R at k f j⊢;obtain⟨id,q,z⟩:=R;dsimp only at k f j⊢;generalize dw (s.n i) x.name=p at o⊢;generalize bP id u=e at j⊢;obtain⟨D,E,F⟩:=e;have d:x.r=(i:Nat):=t;rw[←t]at o f;by_cases g:s.h i<0
 ·rw[if_pos g,if_pos g];refine ak (n:=64) (n0:=32) tabOk Tryz.call65 Tryz.func65 ?_;intro hb
  rcases four hi with rfl|rfl|rfl|rfl<;>(
   (conv=>whnf);refine⟨false,.grow,(.l [0,1,2,3,4,5,6,7,8,9]),by kernel_rfl,.inl ?_⟩;(conv=>whnf);refine⟨_,⟨d,by decide⟩,?_⟩;(conv=>whnf);refine cl [] [] (m) ?_;(conv=>whnf);refine dec (fun _=>?_) (fun h=>absurd g h);(conv=>whnf);exact aZ (rF 0))
 rw[if_neg g,if_neg g];refine ak (n:=64) (n0:=32) tabOk Tryz.call65 Tryz.func65 ?_;intro hb
 rcases four hi with rfl|rfl|rfl|rfl<;>(
  (conv=>whnf);refine⟨false,.grow,(.l [0,1,2,3,4,5,6,7,8,9]),by kernel_rfl,.inl ?_⟩;(conv=>whnf);refine⟨_,⟨d,by decide⟩,?_⟩;(conv=>whnf);refine cl [] [] (m) ?_;(conv=>whnf);refine dec (fun h=>absurd h g) (fun _=>?_);(conv=>whnf);refine cl [] [] (o) ?_;(conv=>whnf);refine aw (fun a=>?_) (fun a=>?_)
  ·have a:p≠0:=a;rw[if_pos a,if_pos a];(conv=>whnf);exact aZ (rF 0)
  have a:¬p≠0:=fun h=>h a;rw[if_neg a,if_neg a];(conv=>whnf);refine⟨false,.grow,(.l [0,1,2,3,4,5,6,7,8,9,10,11,12,13,14,16,17,15,18,19,20,21,22,23]),by kernel_rfl,.inl ?_⟩;(conv=>whnf);refine⟨_,⟨d,by decide⟩,?_⟩;(conv=>whnf);refine cl [] [] (m) ?_;(conv=>whnf);refine aP (mF 0) (bC 23 (d21++[.box (aI x),.box [.int .i64 0,.int .i64 0,.nil]]) w) k ?_;(conv=>whnf);refine aw (fun b=>?_) (fun b=>?_)
  ·have b:q≠0:=b;rw[if_pos b,if_pos b];(conv=>whnf);exact aZ (rF 23)
  have b:¬q≠0:=fun h=>h b;rw[if_neg b,if_neg b];(conv=>whnf);refine aP (mF 23) (bC 44 (d21++[.box (aI x),.box [.int .i64 0,.int .i64 0,.nil]]++d21) y) f ?_;(conv=>whnf);refine cl [] [] (j) ?_;(conv=>whnf);exact aZ (rF 44))
end Go.Nest
end
section
namespace Go.Nest
open Go Go.AM Go.Proofs
open Go.Proofs.YtpechfcbnoggfaaGreatDoor (tab tabOk)
set_option maxRecDepth 100000
theorem GY{f:FuncId}{rest:List A}{s:FS}{L:List Ob}{l:List Fi}{q:List (List UInt8)}{c:Int}(a:ae Tryz.prog f (.c (.ptr 0 0)::rest) [.box [.rw 1],.row 6 Ob an s.L] (Rt (.aC [(false,[.rw 3]),(false,[.rw 4]),(false,[.int .i64 c])]) [.box [.rw 2],.dead,.row 6 Ob an L,.row 4 Fi ao l,.row 1 (List UInt8) encS q]))(hc:kS rest:=by refine⟨fun _ _ _=>?_⟩;repeat' first|exact trivial|exact rfl|refine And.intro ?_ ?_):
  ae Tryz.prog f (.c (.ptr 10 0)::rest) (aK s) (Rt (.aC [(false,[.rw 53]),(false,[.rw 54]),(false,[.int .i64 c])]) (aQ (s.aS L)++[.row 4 Fi ao l,.row 1 (List UInt8) encS q])):=by
 refine bA.frame [10,11] ((rP fun i=>bif Nat.beq i 11 then 32 else i)++([.same 33,.same 34]:List Rn)) a ?_ rfl rfl ?_ rfl
 ·exact jc (And.intro rfl (hc.m _ _ _))
 ·exact j5 ⟨⟨rfl,rfl,trivial⟩,⟨rfl,rfl,trivial⟩,⟨rfl,rfl,trivial⟩,trivial⟩
def r7:List Rn:=[.same 0,.same 1,.same 2,.same 3,.same 4,.same 5,.same 6,.same 7,.same 8,.same 9,.same 10,.same 11,.same 12,.same 13,.same 14,.same 15,.same 16,.same 17,.same 18,.same 19,.same 20,.same 21,.same 22,.same 23,.same 24,.same 25,.same 26,.same 27,.same 28,.same 29,.same 30,.same 31,.same 32,.same 33,.same 34,.same 35]
def GF(i:Nat)(a b c:List Fi):List B:=[.box [(bif Nat.blt 0 i then .rw 36 else .nil),(bif Nat.blt 1 i then .rw 37 else .nil),(bif Nat.blt 2 i then .rw 38 else .nil)]]
def GG(i:Nat)(a b c:List Fi):List B:=[(bif Nat.blt 0 i then .row 4 Fi ao a else .dead),(bif Nat.blt 1 i then .row 4 Fi ao b else .dead),(bif Nat.blt 2 i then .row 4 Fi ao c else .dead)]
set_option maxHeartbeats 16000000 in
theorem Gx(s:FS)(W:b6 s){i:Nat}(hi:i<4)(x:bm)(hx:x.r=i)(base id:Int)(hn:s.L.length≤600)(hp:∀l∈[(bu s.L base).1,(bu s.L (s.h i)).1,(bu s.L id).1],∀f∈l,f.path.length≤4000000)
  (hB:ai (aX s i base id).L)(ac:∀f∈(aX s i base id).out,f.path.length≤4000000)(h2:b6 (dQ (s.aS (aX s i base id).L) i (aX s i base id).out))(T:b6 (cz (dQ (s.aS (aX s i base id).L) i (aX s i base id).out) i dS [id])):
  ae Tryz.prog 130 [.c (.ptr 0 0),.st (aI x),.c (.int .i64 base),.c (.int .i64 id)] (aK s) (Rt (.st (b9 (mG s i base id))) (aQ (jq s i base id))):=by
 obtain⟨o,K⟩:∃o,s.h i=o:=⟨_,rfl⟩;have hd:ae Tryz.prog 70 [.c (.bp [.bp [.bs 6 Ob an s.L],.bs 5 It aJ (s.w i),.int .i64 (s.h i)])] [] (Rt (.c (.int .i64 o)) []):=by rw[←K];exact nF s.L (s.w i) (s.h i)
 have g0:=tO s W base;have g1:=tO s W o;have g2:=tO s W id;have b0:=GY (s:=s) (CA s.L W.pool hn (bu s.L base).1 (bu s.L (s.h i)).1 (bu s.L id).1 hp);have J:ae Tryz.prog _ [_,.c (.ls 4 Fi ao (bu s.L base).1),.c (.ls 4 Fi ao (bu s.L (s.h i)).1),.c (.ls 4 Fi ao (bu s.L id).1)] (aK s) (Rt (.aC [(false,[.rw 53]),(false,[.rw 54]),(false,[.int .i64 (aX s i base id).code])]) (aQ (s.aS (aX s i base id).L)++[.row 4 Fi ao (aX s i base id).out,.row 1 (List UInt8) encS (aX s i base id).cf])):=b0;clear b0;have I:=hp (bu s.L (s.h i)).1 (by simp);clear hp
 have a:mG s i base id=if(bu s.L base).2≠0 then⟨(bu s.L base).2,0,[]⟩else if(bu s.L (s.h i)).2≠0 then⟨(bu s.L (s.h i)).2,0,[]⟩else if(bu s.L id).2≠0 then⟨(bu s.L id).2,0,[]⟩else
  if(aX s i base id).code≠0 then⟨(aX s i base id).code,0,[]⟩else if 0<(aX s i base id).cf.length then⟨10,0,(aX s i base id).cf⟩else
  if jm (aX s i base id).L (aX s i base id).out≠0 then⟨jm (aX s i base id).L (aX s i base id).out,0,[]⟩else
  uR (dQ (s.aS (aX s i base id).L) i (aX s i base id).out) i id:=rfl
 have b:jq s i base id=if(bu s.L base).2≠0 then s else if(bu s.L (s.h i)).2≠0 then s else if(bu s.L id).2≠0 then s else
  if(aX s i base id).code≠0 then s.aS (aX s i base id).L else if 0<(aX s i base id).cf.length then s.aS (aX s i base id).L else
  if jm (aX s i base id).L (aX s i base id).out≠0 then dQ (s.aS (aX s i base id).L) i (aX s i base id).out else
  pf (dQ (s.aS (aX s i base id).L) i (aX s i base id).out) i id (bu s.L (s.h i)).1:=rfl
 generalize mG s i base id=E at a⊢;generalize jq s i base id=S at b⊢;rw[K]at J a b I;generalize bu s.L base=R0 at g0 J a b;generalize bu s.L o=R1 at g1 J a b I;generalize bu s.L id=R2 at g2 J a b;obtain⟨w,c0⟩:=R0;obtain⟨p,c1⟩:=R1;obtain⟨y,c2⟩:=R2;generalize aX s i base id=B at*;obtain⟨F,out,u,c3⟩:=B;dsimp only at*;have N:=kH (s:=s.aS F) hi (zj F hB (s.w i) (s.h i) out ac) (gq _);have y1:ae Tryz.prog _ _ (aK (s.aS F)) (Rt (.c (.int .i64 (jm F out))) (aQ (dQ (s.aS F) i out))):=N;clear N;generalize jm F out=c4 at y1 a b;generalize s.aS F=s1 at*;generalize dQ s1 i out=z at*;have O:=kH (s:=z) hi (xz _ h2.pool _ _ (h2.paths i hi) (h2.items i hi) dS [id] (by simp) (h2.head i hi)) (tg _ _);have y2:ae Tryz.prog _ _ (aK z) (Rt _ (aQ (cz z i dS [id]))):=O;clear O;unfold uR at a;unfold pf at b;generalize cz z i dS [id]=g at*;generalize bc z.L (z.w i) (z.h i) dS [id]=CW at y2 a b;obtain⟨n,c5,L5⟩:=CW;dsimp only at y2 a b;have Q:=kH (s:=g) hi (zj _ T.pool (g.w i) (g.h i) p I) (gq _);have y3:ae Tryz.prog _ _ (aK g) (Rt _ (aQ (dQ g i p))):=Q;clear Q;have R:=u0 (s:=g) (sJ g.L T.pool g.o g.b T.df T.own (i:Int) [n] (by simp)) (gq _);have Y:ae Tryz.prog _ _ (aK g) (Rt _ (aQ (iY g i n))):=R;clear R;generalize dQ g i p=s4 at y3 b;generalize iY g i n=s5 at Y b;have y5:=ix n (cN g.L (i:Int) [n]);generalize cN g.L (i:Int) [n]=c6 at Y y5 a;generalize bP n c6=e at y5 a;obtain⟨e1,e2,e3⟩:=e;generalize jm g.L p=c7 at y3;have al:x.r=(i:Nat):=hx;rw[←hx]at Y;have hq:Qn i:=trivial;refine ak (n:=113) (n0:=32) tabOk Tryz.call130 Tryz.func130 ?_;intro hb
 rcases four hi with rfl|rfl|rfl|rfl<;>(
  (conv=>whnf);refine⟨false,.grow,(.l [0,1,2,3,4,5,6,7,8]),by kernel_rfl,.inl ?_⟩;(conv=>whnf);refine⟨_,⟨al,by decide⟩,?_⟩;(conv=>whnf);refine cl [] [] (hd) ?_;(conv=>whnf);refine⟨[base,o,id],rfl,?_⟩;(conv=>whnf);refine j7 (P:=Qn) (q:=_) hq Nat (fun q j=>⟨[(0,.c (.ptr 0 0)),(3,.c (.int .i64 id)),(5,.c (.ptr 32 0)),(8,.c (.ptr 33 0)),(9,.c (.ptr (3+2*q) 0)),(10,.c (.ptr 34 0)),(32,.c (.rw 35)),(33,.c (.int .i64 3)),(34,.c (.int .i64 j))],aK s++[.box (aI x),.box [.int .i64 0,.int .i64 0,.nil]]++GF j w p y++[.row 1 Int encI [base,o,id]]++GG j w p y⟩) (fun q j=>j≤3∧(0<j→c0=0)∧(1<j→c1=0)∧(2<j→c2=0)) (fun j=>3-j) 0 [] (r7++[.same 0,.same 0,.same 0]) ⟨by decide,fun r=>absurd r (by decide),fun r=>absurd r (by decide),fun r=>absurd r (by decide)⟩ ed (fun j U=>?_);obtain⟨U,H,M,ad⟩:=U;have U:j=0∨j=1∨j=2∨j=3:=by omega
  rcases U with rfl|rfl|rfl|rfl
  ·(conv=>whnf);refine⟨0,⟨rfl,by simp⟩,?_⟩;(conv=>whnf);refine⟨_,rfl,?_⟩;(conv=>whnf);refine cl [] [] (g0) ?_;(conv=>whnf);refine aw (fun h=>?_) (fun h=>?_)
   ·obtain rfl:=a.trans (if_pos h);obtain rfl:=b.trans (if_pos h);(conv=>whnf);exact aZ (rF 0)
   (conv=>whnf);refine⟨_,⟨rfl,by decide⟩,?_⟩;repeat'((conv=>whnf);first|(refine dec (fun h=>?_) (fun h=>?_)<;>try contradiction)|(refine aw (fun h=>?_) (fun h=>?_)<;>try contradiction)|refine cO (fun h=>?_) (fun h=>?_)|refine aL (fun h=>?_) (fun h=>?_)|refine⟨i64 (by omega) (by omega),?_⟩|refine⟨_,_,rfl,List.getElem?_eq_getElem (by omega),?_⟩|refine⟨_,⟨rfl,by omega⟩,?_⟩|refine⟨_,List.getElem?_eq_getElem (by omega),?_⟩|refine aE ?_|refine aG ?_|refine dj ?_ rfl|fail)
   refine ag 1 [] (r7++[.same 39,.same 37,.same 38]) ⟨by decide,fun _=>h,fun r=>absurd r (by decide),fun r=>absurd r (by decide)⟩ (by decide) ?_;exact ed
  ·have d:=H (by decide);(conv=>whnf);refine⟨1,⟨rfl,by simp⟩,?_⟩;(conv=>whnf);refine⟨_,rfl,?_⟩;(conv=>whnf);refine cl [] [] (g1) ?_;(conv=>whnf);refine aw (fun h=>?_) (fun h=>?_)
   ·obtain rfl:=a.trans ((if_neg (fun k=>k d)).trans (if_pos h));obtain rfl:=b.trans ((if_neg (fun k=>k d)).trans (if_pos h));(conv=>whnf);exact aZ (rF 0)
   (conv=>whnf);refine⟨_,⟨rfl,by decide⟩,?_⟩;repeat'((conv=>whnf);first|(refine dec (fun h=>?_) (fun h=>?_)<;>try contradiction)|(refine aw (fun h=>?_) (fun h=>?_)<;>try contradiction)|refine cO (fun h=>?_) (fun h=>?_)|refine aL (fun h=>?_) (fun h=>?_)|refine⟨i64 (by omega) (by omega),?_⟩|refine⟨_,_,rfl,List.getElem?_eq_getElem (by omega),?_⟩|refine⟨_,⟨rfl,by omega⟩,?_⟩|refine⟨_,List.getElem?_eq_getElem (by omega),?_⟩|refine aE ?_|refine aG ?_|refine dj ?_ rfl|fail)
   refine ag 2 [] (r7++[.same 36,.same 39,.same 38]) ⟨by decide,fun _=>d,fun _=>h,fun r=>absurd r (by decide)⟩ (by decide) ?_;exact ed
  ·have d:=H (by decide);have m:=M (by decide);(conv=>whnf);refine⟨2,⟨rfl,by simp⟩,?_⟩;(conv=>whnf);refine⟨_,rfl,?_⟩;(conv=>whnf);refine cl [] [] (g2) ?_;(conv=>whnf);refine aw (fun h=>?_) (fun h=>?_)
   ·obtain rfl:=a.trans ((if_neg (fun k=>k d)).trans ((if_neg (fun k=>k m)).trans (if_pos h)));obtain rfl:=b.trans ((if_neg (fun k=>k d)).trans ((if_neg (fun k=>k m)).trans (if_pos h)));(conv=>whnf);exact aZ (rF 0)
   (conv=>whnf);refine⟨_,⟨rfl,by decide⟩,?_⟩;repeat'((conv=>whnf);first|(refine dec (fun h=>?_) (fun h=>?_)<;>try contradiction)|(refine aw (fun h=>?_) (fun h=>?_)<;>try contradiction)|refine cO (fun h=>?_) (fun h=>?_)|refine aL (fun h=>?_) (fun h=>?_)|refine⟨i64 (by omega) (by omega),?_⟩|refine⟨_,_,rfl,List.getElem?_eq_getElem (by omega),?_⟩|refine⟨_,⟨rfl,by omega⟩,?_⟩|refine⟨_,List.getElem?_eq_getElem (by omega),?_⟩|refine aE ?_|refine aG ?_|refine dj ?_ rfl|fail)
   refine ag 3 [] (r7++[.same 36,.same 37,.same 39]) ⟨by decide,fun _=>d,fun _=>m,fun _=>h⟩ (by decide) ?_;exact ed
  ·have d:=H (by decide);have m:=M (by decide);have t:=ad (by decide);(conv=>whnf);refine⟨false,.grow,(.l [0,1,2,3,4,5,6,7,8,9,10,11,12,13,14,15,16,17,18,19,20]),by kernel_rfl,.inl ?_⟩;(conv=>whnf);refine⟨0,⟨rfl,by decide⟩,?_⟩;(conv=>whnf);refine⟨1,⟨rfl,by decide⟩,?_⟩;(conv=>whnf);refine⟨2,⟨rfl,by decide⟩,?_⟩;(conv=>whnf);refine CT [36,37,38] (mF 0) (aK s++[.box (aI x),.box [.int .i64 0,.int .i64 0,.nil],.box [.rw 36,.rw 37,.rw 38],.row 1 Int encI [base,o,id],.aT 4 Fi ao w,.aT 4 Fi ao p,.aT 4 Fi ao y]) (bC 28 (d21++[.box (aI x),.box [.int .i64 0,.int .i64 0,.nil],.box [.rw 36,.rw 37,.rw 38],.row 1 Int encI [base,o,id],.aT 4 Fi ao w,.aT 4 Fi ao p,.aT 4 Fi ao y]) s1++[.row 4 Fi ao out,.row 1 (List UInt8) encS u]) J ?_;(conv=>whnf);refine aw (fun h=>?_) (fun D=>?_)
   ·obtain rfl:=a.trans ((if_neg (fun k=>k d)).trans ((if_neg (fun k=>k m)).trans ((if_neg (fun k=>k t)).trans (if_pos h))));obtain rfl:=b.trans ((if_neg (fun k=>k d)).trans ((if_neg (fun k=>k m)).trans ((if_neg (fun k=>k t)).trans (if_pos h))));(conv=>whnf);exact aZ (rF 28)
   (conv=>whnf);refine dec (fun h=>?_) (fun v=>?_)
   ·have h:0<u.length:=by have h:(0:Int)<u.length:=h;omega
    obtain rfl:=a.trans ((if_neg (fun k=>k d)).trans ((if_neg (fun k=>k m)).trans ((if_neg (fun k=>k t)).trans ((if_neg (fun k=>k D)).trans (if_pos h)))));obtain rfl:=b.trans ((if_neg (fun k=>k d)).trans ((if_neg (fun k=>k m)).trans ((if_neg (fun k=>k t)).trans ((if_neg (fun k=>k D)).trans (if_pos h)))));(conv=>whnf);exact Ii [61] (rF 28)
   have v:¬0<u.length:=by have v:¬(0:Int)<u.length:=v;omega
   (conv=>whnf);refine aP (mF 28) (bC 51 ((d21++[.box (aI x),.box [.int .i64 0,.int .i64 0,.nil],.box [.rw 36,.rw 37,.rw 38],.row 1 Int encI [base,o,id],.aT 4 Fi ao w,.aT 4 Fi ao p,.aT 4 Fi ao y])++d21++[.row 4 Fi ao out,.row 1 (List UInt8) encS u]) z) y1 ?_;(conv=>whnf);refine aw (fun h=>?_) (fun Z=>?_)
   ·obtain rfl:=a.trans ((if_neg (fun k=>k d)).trans ((if_neg (fun k=>k m)).trans ((if_neg (fun k=>k t)).trans ((if_neg (fun k=>k D)).trans ((if_neg v).trans (if_pos h))))));obtain rfl:=b.trans ((if_neg (fun k=>k d)).trans ((if_neg (fun k=>k m)).trans ((if_neg (fun k=>k t)).trans ((if_neg (fun k=>k D)).trans ((if_neg v).trans (if_pos h))))));(conv=>whnf);exact aZ (rF 51)
   (conv=>whnf);refine⟨[id],rfl,?_⟩;(conv=>whnf);refine aP (mF 51) (bC 73 (((d21++[.box (aI x),.box [.int .i64 0,.int .i64 0,.nil],.box [.rw 36,.rw 37,.rw 38],.row 1 Int encI [base,o,id],.aT 4 Fi ao w,.aT 4 Fi ao p,.aT 4 Fi ao y])++d21++[.row 4 Fi ao out,.row 1 (List UInt8) encS u])++d21++[.row 1 Int encI [id]]) g) y2 ?_;(conv=>whnf);refine aw (fun h=>?_) (fun z6=>?_)
   ·obtain rfl:=a.trans ((if_neg (fun k=>k d)).trans ((if_neg (fun k=>k m)).trans ((if_neg (fun k=>k t)).trans ((if_neg (fun k=>k D)).trans ((if_neg v).trans ((if_neg (fun k=>k Z)).trans (if_pos h)))))));obtain rfl:=b.trans ((if_neg (fun k=>k d)).trans ((if_neg (fun k=>k m)).trans ((if_neg (fun k=>k t)).trans ((if_neg (fun k=>k D)).trans ((if_neg v).trans ((if_neg (fun k=>k Z)).trans (if_pos h)))))));(conv=>whnf);refine⟨1,⟨rfl,by decide⟩,?_⟩;(conv=>whnf);refine aP (mF 73) (bC 94 ((((d21++[.box (aI x),.box [.int .i64 0,.int .i64 0,.nil],.box [.rw 36,.rw 37,.rw 38],.row 1 Int encI [base,o,id],.aT 4 Fi ao w,.aT 4 Fi ao p,.aT 4 Fi ao y])++d21++[.row 4 Fi ao out,.row 1 (List UInt8) encS u])++d21++[.row 1 Int encI [id]])++d21) S) y3 ?_;(conv=>whnf);exact aZ (rF 94)
   obtain rfl:=a.trans ((if_neg (fun k=>k d)).trans ((if_neg (fun k=>k m)).trans ((if_neg (fun k=>k t)).trans ((if_neg (fun k=>k D)).trans ((if_neg v).trans ((if_neg (fun k=>k Z)).trans (if_neg (fun k=>k z6))))))));obtain rfl:=b.trans ((if_neg (fun k=>k d)).trans ((if_neg (fun k=>k m)).trans ((if_neg (fun k=>k t)).trans ((if_neg (fun k=>k D)).trans ((if_neg v).trans ((if_neg (fun k=>k Z)).trans (if_neg (fun k=>k z6))))))));(conv=>whnf);refine⟨false,.grow,(.l [0,1,2,3,4,5,6,7,8,9,10,11]),by kernel_rfl,.inl ?_⟩;(conv=>whnf);refine⟨[n],rfl,?_⟩;(conv=>whnf);refine aP (mF 73) (bC 95 ((((d21++[.box (aI x),.box [.int .i64 0,.int .i64 0,.nil],.box [.rw 36,.rw 37,.rw 38],.row 1 Int encI [base,o,id],.aT 4 Fi ao w,.aT 4 Fi ao p,.aT 4 Fi ao y])++d21++[.row 4 Fi ao out,.row 1 (List UInt8) encS u])++d21++[.row 1 Int encI [id]])++d21++[.row 1 Int encI [n]]) S) Y ?_;(conv=>whnf);refine cl [] [] (y5) ?_;(conv=>whnf);exact aZ (rF 95))
end Go.Nest
end
section
namespace Go.Nest
open Go Go.AM Go.Proofs
open Go.Proofs.YtpechfcbnoggfaaGreatDoor (tab tabOk)
set_option maxRecDepth 100000
theorem G2{f:FuncId}{rest:List A}{X:A}{s:FS}{r:Nat}(hr:r<4){L:List Ob}(b:ae Tryz.prog f (.c (.ptr 0 0)::rest) [.box [.ptr 1 0,.rw 3,.int .i64 (s.h r)],.box [.rw 2],.row 6 Ob an s.L,.row 5 It aJ (s.w r)] (Rt X [.box [.ptr 1 0,.rw 5,.int .i64 (s.h r)],.box [.rw 4],.dead,.dead,.row 6 Ob an L,.row 5 It aJ (s.w r)]))(a:jE X)(hc:kS rest:=by refine⟨fun _ _ _=>?_⟩;repeat' first|exact trivial|exact rfl|refine And.intro ?_ ?_):
  ae Tryz.prog f (.c (.ptr (3+2*r) 0)::rest) (aK s) (Rt X (aQ (s.aS L))):=by
 refine bA.frame [3+2*r,10,11,28+r] (rP fun i=>bif Nat.beq i 11 then 32 else bif Nat.beq i (28+r)then 33 else i) b ?_ rfl (a.r _) ?_ ?_
 ·rcases four hr with rfl|rfl|rfl|rfl<;>exact jc (And.intro rfl (hc.m _ _ _))
 ·rcases four hr with rfl|rfl|rfl|rfl<;>exact j5 (a.m _ _)
 ·rw[a.c];rfl
theorem zg{l:List Int}(h:0<l.length):l[l.length-1]? =some (l.getLastD 0):=by
 rw[←List.getLast?_eq_getElem?,List.getLastD_eq_getLast?];cases l with
 |nil=>simp at h
 |cons a l=>simp[List.getLast?_cons]
theorem Cu{L:List Ob}{a b:Int}:(eJ L a b).1.length≤L.length:=by
 unfold eJ;split
 ·exact Nat.zero_le _
 split
 ·exact Nat.zero_le _
 ·exact Nat.le_trans (List.length_filter_le _ _) (Nat.le_trans (List.length_filter_le _ _) qb)
set_option maxHeartbeats 16000000 in
theorem Gt(s:FS)(J:b6 s){i:Nat}(hi:i<4)(x:bm)(Y:x.r=i)(h1:b6 (dv s i))
  (d:ae Tryz.prog 130 [.c (.ptr 0 0),.st (aI x),.c (.int .i64 (nO (eJ (dv s i).L ((dv s i).h i) (aF s (i:Nat) x.name).1).1)),.c (.int .i64 (aF s (i:Nat) x.name).1)] (aK (dv s i)) (Rt (.st (b9 (mG (dv s i) i (nO (eJ (dv s i).L ((dv s i).h i) (aF s (i:Nat) x.name).1).1) (aF s (i:Nat) x.name).1))) (aQ (jq (dv s i) i (nO (eJ (dv s i).L ((dv s i).h i) (aF s (i:Nat) x.name).1).1) (aF s (i:Nat) x.name).1)))):
  ae Tryz.prog 60 [.c (.ptr 0 0),.st (aI x)] (aK s) (Rt (.st (b9 (rq s i x.name))) (aQ (mz s i x.name))):=by
 have K:=lG s J (i:Nat) x.name;have D:=G2 (s:=s) hi (xm s.L J.pool (s.w i) (s.h i) (J.paths i hi) (J.items i hi)) (gq _);have T:ae Tryz.prog _ _ (aK s) (Rt (.c (.int .i64 (k9 s i))) (aQ (dv s i))):=D;clear D;have f:rq s i x.name=if(aF s (i:Nat) x.name).2≠0 then⟨(aF s (i:Nat) x.name).2,0,[]⟩else if k9 s i≠0 then⟨k9 s i,0,[]⟩else uQ (dv s i) i (aF s (i:Nat) x.name).1:=rfl
 have j:mz s i x.name=if(aF s (i:Nat) x.name).2≠0 then s else if k9 s i≠0 then dv s i else pe (dv s i) i (aF s (i:Nat) x.name).1:=rfl
 generalize rq s i x.name=E at f⊢;generalize mz s i x.name=S at j⊢;generalize aF s (i:Nat) x.name=R at K d f j;obtain⟨id,c1⟩:=R;generalize k9 s i=c2 at T f j;generalize dv s i=m at h1 d T f j;dsimp only at K d f j;unfold uQ at f;unfold pe at j;obtain⟨q,y⟩:∃q,m.h i=q:=⟨_,rfl⟩;have v:ae Tryz.prog 70 [.c (.bp [.bp [.bs 6 Ob an m.L],.bs 5 It aJ (m.w i),.int .i64 (m.h i)])] [] (Rt (.c (.int .i64 q)) []):=by rw[←y];exact nF m.L (m.w i) (m.h i)
 have F:=kH (s:=m) hi (xk m.L h1.pool (m.w i) (m.h i) (h1.paths i hi) (h1.items i hi) id) (gq _);have M:ae Tryz.prog _ _ (aK m) (Rt (.c (.int .i64 (dG m.L (m.w i) (m.h i) id))) (aQ (jt m i id))):=F;clear F;rw[y]at d f j;unfold py at f;have N:=ix id (dG m.L (m.w i) (m.h i) id);generalize dG m.L (m.w i) (m.h i) id=c3 at M N f;generalize jt m i id=s3 at M j;generalize bP id c3=e at N f;obtain⟨e1,e2,e3⟩:=e;have Z:=uw m.L h1.pool q id;have U:=uw m.L h1.pool id q;have O:=Cv m.L h1.pool q id;generalize eQ m.L q id=W at Z f j;generalize eQ m.L id q=IB at U f j;have w:=Cu (L:=m.L) (a:=q) (b:=id);have ac:=h1.pool.len;generalize eJ m.L q id=BR at O d f j w;obtain⟨p,c4⟩:=BR;dsimp only at O d f j w;obtain⟨base,o⟩:∃base,nO p=base:=⟨_,rfl⟩;rw[o]at d f j;generalize mG m i base id=em at d f;generalize jq m i base id=sm at d j;obtain⟨m1,m2,m3⟩:=em;have Q:x.r=(i:Nat):=Y;rw[←Y]at K;refine ak (n:=111) (n0:=32) tabOk Tryz.call60 Tryz.func60 ?_;intro hb;(conv=>whnf);refine cl [] [] (K) ?_;(conv=>whnf);refine aw (fun h=>?_) (fun z1=>?_)
 ·obtain rfl:=f.trans (if_pos h);obtain rfl:=j.trans (if_pos h);(conv=>whnf);exact aZ (rF 0)
 have f:=f.trans (if_neg (fun k=>k z1));have j:=j.trans (if_neg (fun k=>k z1))
 rcases four hi with rfl|rfl|rfl|rfl<;>(
  (conv=>whnf);refine⟨false,.grow,(.l [0,1,2,3,4,5,6,7,8]),by kernel_rfl,.inl ?_⟩;(conv=>whnf);refine⟨_,⟨Q,by decide⟩,?_⟩;(conv=>whnf);refine aP (mF 0) (bC 23 (d21++[.box (aI x),.box [.int .i64 0,.int .i64 0,.nil]]) m) T ?_;(conv=>whnf);refine aw (fun h=>?_) (fun u=>?_)
  ·obtain rfl:=f.trans (if_pos h);obtain rfl:=j.trans (if_pos h);(conv=>whnf);exact aZ (rF 23)
  (conv=>whnf);refine⟨false,.grow,(.l [0,1,2,3,4,5,6,7,8,9,10,11,13,12,14,15,16,18,17,19,20,21,22]),by kernel_rfl,.inl ?_⟩;(conv=>whnf);refine cl [] [] (v) ?_;(conv=>whnf);refine dec (fun h=>?_) (fun z3=>?_)
  ·obtain rfl:=f.trans ((if_neg (fun k=>k u)).trans (if_pos (.inl h)));obtain rfl:=j.trans ((if_neg (fun k=>k u)).trans (if_pos (.inl h)));(conv=>whnf);refine aP (mF 23) (bC 44 (d21++[.box (aI x),.box [.int .i64 0,.int .i64 0,.nil]]++d21) S) M ?_;(conv=>whnf);refine cl [] [] (N) ?_;(conv=>whnf);exact aZ (rF 44)
  (conv=>whnf);refine cl [] [] (v) ?_;(conv=>whnf);refine cl [] [] (Z) ?_;(conv=>whnf);refine aL (fun I=>?_) (fun I=>?_)
  ·(conv=>whnf);refine cl [] [] (v) ?_;(conv=>whnf);refine aw (fun g=>?_) (fun g=>?_)
   ·obtain rfl:=f.trans ((if_neg (fun k=>k u)).trans (if_pos (.inr ⟨I,g⟩)));obtain rfl:=j.trans ((if_neg (fun k=>k u)).trans (if_pos (.inr ⟨I,g⟩)));(conv=>whnf);refine aP (mF 23) (bC 44 (d21++[.box (aI x),.box [.int .i64 0,.int .i64 0,.nil]]++d21) S) M ?_;(conv=>whnf);refine cl [] [] (N) ?_;(conv=>whnf);exact aZ (rF 44)
   ·have z:¬(q<0∨(W=true∧q≠id)):=fun k=>k.elim z3 (fun k=>k.2 g);have f:=f.trans ((if_neg (fun k=>k u)).trans (if_neg z));have j:=j.trans ((if_neg (fun k=>k u)).trans (if_neg z));(conv=>whnf);refine⟨false,.grow,(.l [0,1,2,3,4,5,6,7,8,9,10,11]),by kernel_rfl,.inl ?_⟩;(conv=>whnf);refine cl [] [] (v) ?_;(conv=>whnf);refine cl [] [] (U) ?_;(conv=>whnf);refine aL (fun r=>?_) (fun r=>?_)
    ·obtain rfl:=f.trans (if_pos r);obtain rfl:=j.trans (if_pos r);(conv=>whnf);exact aZ (rF 23)
    have f:=f.trans (if_neg (by rw[r];decide));have j:=j.trans (if_neg (by rw[r];decide));(conv=>whnf);refine⟨false,.grow,(.l [0,1,2,3,4,5,6,7,9,8,10,11,12,13,14,15]),by kernel_rfl,.inl ?_⟩;(conv=>whnf);refine cl [] [] (v) ?_;(conv=>whnf);refine cl [] [] (O) ?_;(conv=>whnf);refine aw (fun h=>?_) (fun H=>?_)
    ·obtain rfl:=f.trans (if_pos h);obtain rfl:=j.trans (if_pos h);(conv=>whnf);exact aZ (rF 23)
    obtain rfl:=f.trans (if_neg (fun k=>k H));obtain rfl:=j.trans (if_neg (fun k=>k H));(conv=>whnf);refine dec (fun h=>?_) (fun h=>?_)
    ·have h:0<p.length:=by have h:(0:Int)<p.length:=h;omega
     rw[show base=p.getLastD 0 from o.symm.trans (if_pos h)]at d;have t:=zg h;generalize p.getLastD 0=P at d t;(conv=>whnf);refine⟨i64 (by omega) (by omega),?_⟩;(conv=>whnf);refine⟨p.length-1,⟨by omega,by omega⟩,?_⟩;(conv=>whnf);refine⟨P,t,?_⟩;(conv=>whnf);refine aP (mF 23) (bC 45 (d21++[.box (aI x),.box [.int .i64 0,.int .i64 0,.nil]]++d21++[.row 1 Int encI p]) S) d ?_;(conv=>whnf);exact aZ (rF 45)
    ·have h:¬0<p.length:=by have h:¬(0:Int)<p.length:=h;omega
     rw[show base= -1 from o.symm.trans (if_neg h)]at d;(conv=>whnf);refine aP (mF 23) (bC 45 (d21++[.box (aI x),.box [.int .i64 0,.int .i64 0,.nil]]++d21++[.row 1 Int encI p]) S) d ?_;(conv=>whnf);exact aZ (rF 45)
  ·have z:¬(q<0∨(W=true∧q≠id)):=fun k=>k.elim z3 (fun k=>by rw[I]at k;cases k.1);have f:=f.trans ((if_neg (fun k=>k u)).trans (if_neg z));have j:=j.trans ((if_neg (fun k=>k u)).trans (if_neg z));(conv=>whnf);refine⟨false,.grow,(.l [0,1,2,3,4,5,6,7,8,9,10,11]),by kernel_rfl,.inl ?_⟩;(conv=>whnf);refine cl [] [] (v) ?_;(conv=>whnf);refine cl [] [] (U) ?_;(conv=>whnf);refine aL (fun r=>?_) (fun r=>?_)
   ·obtain rfl:=f.trans (if_pos r);obtain rfl:=j.trans (if_pos r);(conv=>whnf);exact aZ (rF 23)
   have f:=f.trans (if_neg (by rw[r];decide));have j:=j.trans (if_neg (by rw[r];decide));(conv=>whnf);refine⟨false,.grow,(.l [0,1,2,3,4,5,6,7,9,8,10,11,12,13,14,15]),by kernel_rfl,.inl ?_⟩;(conv=>whnf);refine cl [] [] (v) ?_;(conv=>whnf);refine cl [] [] (O) ?_;(conv=>whnf);refine aw (fun h=>?_) (fun H=>?_)
   ·obtain rfl:=f.trans (if_pos h);obtain rfl:=j.trans (if_pos h);(conv=>whnf);exact aZ (rF 23)
   obtain rfl:=f.trans (if_neg (fun k=>k H));obtain rfl:=j.trans (if_neg (fun k=>k H));(conv=>whnf);refine dec (fun h=>?_) (fun h=>?_)
   ·have h:0<p.length:=by have h:(0:Int)<p.length:=h;omega
    rw[show base=p.getLastD 0 from o.symm.trans (if_pos h)]at d;have t:=zg h;generalize p.getLastD 0=P at d t;(conv=>whnf);refine⟨i64 (by omega) (by omega),?_⟩;(conv=>whnf);refine⟨p.length-1,⟨by omega,by omega⟩,?_⟩;(conv=>whnf);refine⟨P,t,?_⟩;(conv=>whnf);refine aP (mF 23) (bC 45 (d21++[.box (aI x),.box [.int .i64 0,.int .i64 0,.nil]]++d21++[.row 1 Int encI p]) S) d ?_;(conv=>whnf);exact aZ (rF 45)
   ·have h:¬0<p.length:=by have h:¬(0:Int)<p.length:=h;omega
    rw[show base= -1 from o.symm.trans (if_neg h)]at d;(conv=>whnf);refine aP (mF 23) (bC 45 (d21++[.box (aI x),.box [.int .i64 0,.int .i64 0,.nil]]++d21++[.row 1 Int encI p]) S) d ?_;(conv=>whnf);exact aZ (rF 45))
end Go.Nest
end
section
namespace Go.Nest
open Go Go.AM Go.Proofs
open Go.Proofs.YtpechfcbnoggfaaGreatDoor (tab tabOk)
set_option maxRecDepth 100000
set_option maxHeartbeats 4000000 in
theorem DP(s:FS){i:Nat}(hi:i<4)(q:Int)(p n t b:List UInt8)(E:cG)(S:FS)(p1:ae Tryz.prog 57 [.c (.ptr 0 0),.st (aI ⟨3,i,q,p,n,t,b⟩)] (aK s) (Rt (.st (b9 E)) (aQ S))):ae Tryz.prog 22 [.c (.ptr 0 0),.st (aI ⟨3,i,q,p,n,t,b⟩)] (aK s) (Rt (.st (b9 E)) (aQ S)):=by
 have a:=fa i;rw[bQ.2 ⟨i,hi,rfl⟩]at a;obtain⟨d,e,f⟩:=E;refine ak (n:=111) (n0:=32) tabOk Tryz.call22 Tryz.func22 ?_;intro hb;(conv=>whnf);refine cl [] [] (a) ?_;(conv=>whnf);refine aP (mF 0) (bC 23 (d21++[.box (aI ⟨3,i,q,p,n,t,b⟩),.box [.int .i64 0,.int .i64 0,.nil]]) S) p1 ?_;(conv=>whnf);exact aZ (rF 23)
set_option maxHeartbeats 4000000 in
theorem DK(s:FS){i:Nat}(hi:i<4)(q:Int)(p n t b:List UInt8)(E:cG)(S:FS)(p1:ae Tryz.prog 59 [.c (.ptr 0 0),.st (aI ⟨5,i,q,p,n,t,b⟩)] (aK s) (Rt (.st (b9 E)) (aQ S))):ae Tryz.prog 22 [.c (.ptr 0 0),.st (aI ⟨5,i,q,p,n,t,b⟩)] (aK s) (Rt (.st (b9 E)) (aQ S)):=by
 have a:=fa i;rw[bQ.2 ⟨i,hi,rfl⟩]at a;obtain⟨d,e,f⟩:=E;refine ak (n:=111) (n0:=32) tabOk Tryz.call22 Tryz.func22 ?_;intro hb;(conv=>whnf);refine cl [] [] (a) ?_;(conv=>whnf);refine aP (mF 0) (bC 23 (d21++[.box (aI ⟨5,i,q,p,n,t,b⟩),.box [.int .i64 0,.int .i64 0,.nil]]) S) p1 ?_;(conv=>whnf);exact aZ (rF 23)
set_option maxHeartbeats 4000000 in
theorem DQ(s:FS){i:Nat}(hi:i<4)(q:Int)(p n t b:List UInt8)(E:cG)(S:FS)(p1:ae Tryz.prog 60 [.c (.ptr 0 0),.st (aI ⟨6,i,q,p,n,t,b⟩)] (aK s) (Rt (.st (b9 E)) (aQ S))):ae Tryz.prog 22 [.c (.ptr 0 0),.st (aI ⟨6,i,q,p,n,t,b⟩)] (aK s) (Rt (.st (b9 E)) (aQ S)):=by
 have a:=fa i;rw[bQ.2 ⟨i,hi,rfl⟩]at a;obtain⟨d,e,f⟩:=E;refine ak (n:=111) (n0:=32) tabOk Tryz.call22 Tryz.func22 ?_;intro hb;(conv=>whnf);refine cl [] [] (a) ?_;(conv=>whnf);refine aP (mF 0) (bC 23 (d21++[.box (aI ⟨6,i,q,p,n,t,b⟩),.box [.int .i64 0,.int .i64 0,.nil]]) S) p1 ?_;(conv=>whnf);exact aZ (rF 23)
set_option maxHeartbeats 4000000 in
theorem DJ(s:FS){i:Nat}(hi:i<4)(q:Int)(p n t b:List UInt8)(E:cG)(S:FS)(p1:ae Tryz.prog 61 [.c (.ptr 0 0),.st (aI ⟨7,i,q,p,n,t,b⟩)] (aK s) (Rt (.st (b9 E)) (aQ S))):ae Tryz.prog 22 [.c (.ptr 0 0),.st (aI ⟨7,i,q,p,n,t,b⟩)] (aK s) (Rt (.st (b9 E)) (aQ S)):=by
 have a:=fa i;rw[bQ.2 ⟨i,hi,rfl⟩]at a;obtain⟨d,e,f⟩:=E;refine ak (n:=111) (n0:=32) tabOk Tryz.call22 Tryz.func22 ?_;intro hb;(conv=>whnf);refine cl [] [] (a) ?_;(conv=>whnf);refine aP (mF 0) (bC 23 (d21++[.box (aI ⟨7,i,q,p,n,t,b⟩),.box [.int .i64 0,.int .i64 0,.nil]]) S) p1 ?_;(conv=>whnf);exact aZ (rF 23)
set_option maxHeartbeats 4000000 in
theorem DM(s:FS){i:Nat}(hi:i<4)(q:Int)(p n t b:List UInt8)(E:cG)(S:FS)(p1:ae Tryz.prog 62 [.c (.ptr 0 0),.st (aI ⟨8,i,q,p,n,t,b⟩)] (aK s) (Rt (.st (b9 E)) (aQ S))):ae Tryz.prog 22 [.c (.ptr 0 0),.st (aI ⟨8,i,q,p,n,t,b⟩)] (aK s) (Rt (.st (b9 E)) (aQ S)):=by
 have a:=fa i;rw[bQ.2 ⟨i,hi,rfl⟩]at a;obtain⟨d,e,f⟩:=E;refine ak (n:=111) (n0:=32) tabOk Tryz.call22 Tryz.func22 ?_;intro hb;(conv=>whnf);refine cl [] [] (a) ?_;(conv=>whnf);refine aP (mF 0) (bC 23 (d21++[.box (aI ⟨8,i,q,p,n,t,b⟩),.box [.int .i64 0,.int .i64 0,.nil]]) S) p1 ?_;(conv=>whnf);exact aZ (rF 23)
set_option maxHeartbeats 4000000 in
theorem DN(s:FS){i:Nat}(hi:i<4)(q:Int)(p n t b:List UInt8)(E:cG)(S:FS)(p1:ae Tryz.prog 63 [.c (.ptr 0 0),.st (aI ⟨9,i,q,p,n,t,b⟩)] (aK s) (Rt (.st (b9 E)) (aQ S))):ae Tryz.prog 22 [.c (.ptr 0 0),.st (aI ⟨9,i,q,p,n,t,b⟩)] (aK s) (Rt (.st (b9 E)) (aQ S)):=by
 have a:=fa i;rw[bQ.2 ⟨i,hi,rfl⟩]at a;obtain⟨d,e,f⟩:=E;refine ak (n:=111) (n0:=32) tabOk Tryz.call22 Tryz.func22 ?_;intro hb;(conv=>whnf);refine cl [] [] (a) ?_;(conv=>whnf);refine aP (mF 0) (bC 23 (d21++[.box (aI ⟨9,i,q,p,n,t,b⟩),.box [.int .i64 0,.int .i64 0,.nil]]) S) p1 ?_;(conv=>whnf);exact aZ (rF 23)
set_option maxHeartbeats 4000000 in
theorem DV(s:FS){i:Nat}(hi:i<4)(q:Int)(p n t b:List UInt8)(E:cG)(S:FS)(p1:ae Tryz.prog 65 [.c (.ptr 0 0),.st (aI ⟨12,i,q,p,n,t,b⟩)] (aK s) (Rt (.st (b9 E)) (aQ S))):ae Tryz.prog 22 [.c (.ptr 0 0),.st (aI ⟨12,i,q,p,n,t,b⟩)] (aK s) (Rt (.st (b9 E)) (aQ S)):=by
 have a:=fa i;rw[bQ.2 ⟨i,hi,rfl⟩]at a;obtain⟨d,e,f⟩:=E;refine ak (n:=111) (n0:=32) tabOk Tryz.call22 Tryz.func22 ?_;intro hb;(conv=>whnf);refine cl [] [] (a) ?_;(conv=>whnf);refine aP (mF 0) (bC 23 (d21++[.box (aI ⟨12,i,q,p,n,t,b⟩),.box [.int .i64 0,.int .i64 0,.nil]]) S) p1 ?_;(conv=>whnf);exact aZ (rF 23)
set_option maxHeartbeats 4000000 in
theorem DS(s:FS)(j:b6 s){i:Nat}(hi:i<4){r:Int}(hr:r=i)(q:Int)(p n t b:List UInt8):ae Tryz.prog 22 [.c (.ptr 0 0),.st (aI ⟨2,r,q,p,n,t,b⟩)] (aK s) (Rt (.st (b9 (rV s i p))) (aQ (rW s i p))):=by
 have f:=fa r;rw[bQ.2 ⟨i,hi,hr⟩]at f;have a:=kH (s:=s) hi (HE s.L (s.w i) (s.h i) p (j.items i hi)) (gq _);obtain⟨c,d⟩:∃c,(iM (s.w i) p).1=c:=⟨_,rfl⟩;rw[d]at a;have g:ae Tryz.prog _ _ (aK s) (Rt _ (aQ (rW s i p))):=a;clear a;have h:=ix 0 c;rw[show rV s i p=bP 0 c by unfold rV;rw[d]];generalize bP 0 c=e at h⊢;obtain⟨m,o,u⟩:=e;generalize rW s i p=k at g⊢;refine ak (n:=111) (n0:=32) tabOk Tryz.call22 Tryz.func22 ?_;intro hb;(conv=>whnf);refine cl [] [] (f) ?_
 rcases four hi with rfl|rfl|rfl|rfl<;>(
  (conv=>whnf);refine⟨false,.grow,(.l [0,1,2,3,4,5,6,7,8,9,10,11,12]),by kernel_rfl,.inl ?_⟩;(conv=>whnf);refine⟨_,⟨hr,by decide⟩,?_⟩;(conv=>whnf);refine aP (mF 0) (bC 23 (d21++[.box (aI ⟨2,r,q,p,n,t,b⟩),.box [.int .i64 0,.int .i64 0,.nil]]) k) g ?_;(conv=>whnf);refine cl [] [] (h) ?_;(conv=>whnf);exact aZ (rF 23))
set_option maxHeartbeats 4000000 in
theorem DI(s:FS)(j:b6 s){i:Nat}(hi:i<4)(q:Int)(p n t b:List UInt8):ae Tryz.prog 22 [.c (.ptr 0 0),.st (aI ⟨10,(i:Nat),q,p,n,t,b⟩)] (aK s) (Rt (.st (b9 (qk s i q))) (aQ (qm s i q))):=by
 have f:=fa i;rw[bQ.2 ⟨i,hi,rfl⟩]at f;have a:=GZ (s:=s) (CE s.L s.o s.b j.df (i:Nat) q) (gq _);obtain⟨c,d⟩:∃c,dM s.b (i:Nat) q=c:=⟨_,rfl⟩;rw[d]at a;have g:ae Tryz.prog _ _ (aK s) (Rt _ (aQ (qm s i q))):=a;clear a;have h:=ix 0 c;rw[show qk s i q=bP 0 c by unfold qk;rw[d]];generalize bP 0 c=e at h⊢;obtain⟨m,o,r⟩:=e;generalize qm s i q=k at g⊢;refine ak (n:=111) (n0:=32) tabOk Tryz.call22 Tryz.func22 ?_;intro hb;(conv=>whnf);refine cl [] [] (f) ?_;(conv=>whnf);refine⟨false,.grow,(.l [0,1,2,3,4,5,6,7,8,9,10]),by kernel_rfl,.inl ?_⟩;(conv=>whnf);refine aP (mF 0) (bC 23 (d21++[.box (aI ⟨10,(i:Nat),q,p,n,t,b⟩),.box [.int .i64 0,.int .i64 0,.nil]]) k) g ?_;(conv=>whnf);refine cl [] [] (h) ?_;(conv=>whnf);exact aZ (rF 23)
theorem DO(s:FS)(x:bm)(h:x.kind<1∨12<x.kind):ae Tryz.prog 22 [.c (.ptr 0 0),.st (aI x)] (aK s) (Rt (.st (b9 ⟨6,0,[]⟩)) (aQ s)):=by
 refine ak (n:=111) (n0:=32) tabOk Tryz.call22 Tryz.func22 ?_;intro hb;(conv=>whnf);refine dec (fun a=>?_) (fun a=>?_)
 ·(conv=>whnf);exact aZ (rF 0)
 ·(conv=>whnf);refine dec (fun b=>?_) (fun b=>?_)
  ·(conv=>whnf);exact aZ (rF 0)
  ·exact absurd (h.resolve_left a) b
theorem DR(s:FS)(x:bm)(h:¬(x.kind<1∨12<x.kind))(hr:bg x.r=false):ae Tryz.prog 22 [.c (.ptr 0 0),.st (aI x)] (aK s) (Rt (.st (b9 ⟨1,0,[]⟩)) (aQ s)):=by
 have d:=fa x.r;rw[hr]at d;refine ak (n:=111) (n0:=32) tabOk Tryz.call22 Tryz.func22 ?_;intro hb;(conv=>whnf);refine dec (fun a=>absurd (.inl a) h) (fun a=>?_);(conv=>whnf);refine dec (fun b=>absurd (.inr b) h) (fun b=>?_);(conv=>whnf);refine cl [] [] (d) ?_;(conv=>whnf);exact aZ (rF 0)
end Go.Nest
end
section
namespace Go.Nest
open Go Go.AM
variable {L0:List Ob}
structure WI(L:List Ob)(l:List It)(h:Int):Prop where
 ok:gh l
 mc:∀y∈l,y.bytes.length≤400
 cK:∀y∈l,0≤y.av∧y.av<4
 nb:NB l
 head:gz L h
theorem WI.ext{L M:List Ob}{l:List It}{h:Int}(a:WI L l h)(b:L<+:M):WI M l h:=⟨a.ok,a.mc,a.cK,a.nb,a.head.ext b⟩
theorem WI.nil(L:List Ob):WI L [] (-1):=⟨.nil,fun y h=>(by cases h),fun y h=>(by cases h),fun y h=>(by cases h),.inl (by decide)⟩
structure FI(L0:List Ob)(s:FS)(n:Nat):Prop where
 pool:ai s.L
 df:lY s.b
 own:∀k,k<4→(s.o k).length≤s.L.length
 refs:∀k,k<4→gg (s.n k) (s.m k)
 mov:∀k,k<4→(s.m k).length≤n
 work:∀k,k<4→WI s.L (s.w k) (s.h k)
 pre:L0<+:s.L
theorem FI.wf{s:FS}{n:Nat}(h:FI L0 s n)(hn:n≤990):b6 s where
 pool:=h.pool
 df:=h.df.ok
 own:=fun k a=>by have:=h.own k a;have:=h.pool.len;omega
 sort:=fun k a=>(h.refs k a).inv.sort
 ids:=fun k a=>(h.refs k a).inv.ids
 few:=fun k a=>(h.refs k a).inv.len
 moves:=fun k a=>by have:=h.mov k a;omega
 paths:=fun k a y b=>by have:=Hl ((h.work k a).ok.path y b);omega
 items:=fun k a=>(h.work k a).ok.len
 bytes:=fun k a=>(h.work k a).mc
 head:=fun k a=>(h.work k a).head
theorem FI.nil:FI [] iB 0:=⟨.nil,.nil,fun k a=>Nat.zero_le _,fun k a=>.nil,fun k a=>Nat.zero_le _,fun k a=>WI.nil _,List.prefix_refl _⟩
theorem FI.base{s:FS}{n:Nat}(h:FI L0 s n):FI s.L s n:=⟨h.pool,h.df,h.own,h.refs,h.mov,h.work,List.prefix_refl _⟩
theorem FI.up{s:FS}{n m:Nat}(h:FI L0 s n)(hm:n≤m):FI L0 s m:=⟨h.pool,h.df,h.own,h.refs,fun k a=>Nat.le_trans (h.mov k a) hm,h.work,h.pre⟩
theorem fj{α:Type}{o:Nat→α}{k j:Nat}{v:α}:ay o k v j=if j=k then v else o j:=by
 split
 ·rename_i e;rw[e,fB]
 ·rename_i e;rw[ig e]
theorem FI.db{s:FS}{n r:Nat}(h:FI L0 s n){M:List Ob}{l:List It}{hd:Int}(c:ai M)(b:s.L<+:M)(d:WI M l hd):FI L0 (s.db r M l hd) n:=
 ⟨c,h.df,fun k a=>Nat.le_trans (h.own k a) b.length_le,h.refs,h.mov,fun k a=>by
  show WI M (ay s.w r l k) (ay s.h r hd k);rw[fj,fj];split
  ·exact d
  ·exact(h.work k a).ext b,h.pre.trans b⟩
theorem FI.iN{s:FS}{n r:Nat}(h:FI L0 s n)(name:List UInt8)(old id:Int):FI L0 (s.iN r (aS (s.n r) name old id) (eU (s.n r) (s.m r) name old id)) (n+1):=
 ⟨h.pool,h.df,h.own,fun k a=>by
  show gg (ay s.n r _ k) (ay s.m r _ k);rw[fj,fj];have:=h.refs k a;split
  ·rename_i e;rw[←e];unfold aS eU;split
   ·exact .snoc this ‹_›
   ·exact this
  ·exact this,fun k a=>by
  show(ay s.m r _ k).length≤_;rw[fj];have:=h.mov k a;split
  ·rename_i e;rw[←e];unfold eU;split
   ·rw[List.length_append,List.length_singleton];omega
   ·omega
  ·omega,h.work,h.pre⟩
theorem FI.cn{s:FS}{n:Nat}(h:FI L0 s n){o:Nat→List Bool}(ho:∀k,k<4→(o k).length≤s.L.length):FI L0 (s.cn o) n:=⟨h.pool,h.df,ho,h.refs,h.mov,h.work,h.pre⟩
theorem FI.aS{s:FS}{n:Nat}(h:FI L0 s n){M:List Ob}(c:ai M)(b:s.L<+:M):FI L0 (s.aS M) n:=
 ⟨c,h.df,fun k a=>Nat.le_trans (h.own k a) b.length_le,h.refs,h.mov,fun k a=>(h.work k a).ext b,h.pre.trans b⟩
theorem WI.put{L:List Ob}{l:List It}{h:Int}(c:WI L l h){x:It}(hb:x.bytes.length≤400)(hr:0≤x.av∧x.av<4)(hn:x.link=true→x.bytes=[]):WI L (fU l x).2 h:=by
 obtain⟨a,b⟩:=AD c.ok x;refine⟨a,fun y hy=>?_,fun y hy=>?_,fun y hy=>?_,c.head⟩<;>rcases b y hy with rfl|hy
 ·exact hb
 ·exact c.mc y hy
 ·exact hr
 ·exact c.cK y hy
 ·exact hn
 ·exact c.nb y hy
theorem WI.wr{L:List Ob}{l:List It}{h:Int}(a:WI L l h)(p b:List UInt8):WI L (ij l p b).2 h:=by
 unfold ij;split
 ·exact a
 ·exact a.put (by show b.length≤400;omega) ⟨Int.le_refl 0,(by decide:(0:Int)<4)⟩ fun h=>by cases h
theorem WI.li{L:List Ob}{l:List It}{h:Int}(a:WI L l h)(p:List UInt8)(q id:Int):WI L (gG L l p q id).2 h:=by
 unfold gG;split
 ·exact a
 split
 ·exact a
 ·exact a.put (Nat.zero_le _) (by show 0≤q∧q<4;omega) fun _=>rfl
theorem WI.rem{L:List Ob}{l:List It}{h:Int}(c:WI L l h)(p:List UInt8):WI L (iM l p).2 h:=by
 obtain⟨a,b⟩:=AN c.ok p;exact⟨a,fun y d=>c.mc y (b y d),fun y d=>c.cK y (b y d),fun y d=>c.nb y (b y d),c.head⟩
theorem cu.av{ne:Bool}{L:List Ob}(n:ai L){es:List aD}{l:List Fi}(h:cu ne L es l):(∀e∈es,ik L e)→∀f∈l,0≤f.av∧f.av<4:=by
 induction h with
 |nil=>intro _ f hf;cases hf
 | @file e es l j h ih=>
  intro a f hf;rcases List.mem_cons.1 hf with rfl|hf
  ·exact(a e (by simp)).av
  ·exact ih (fun x b=>a x (by simp[b])) f hf
 | @dir e es m l j i k o h c ih=>
  intro a f hf;rcases List.mem_append.1 hf with hf|hf
  ·obtain⟨g,d,rfl⟩:=List.mem_map.1 hf;exact c (gM n i).2 g d
  ·exact ih (fun x b=>a x (by simp[b])) f hf
theorem zm{ne:Bool}{M:List Ob}{fs:List Fi}{t h:Int}(c:ai M)(d:eI ne M t fs)(i:∀f∈fs,(aA f.path).length≤8)(hl:fs.length≤60)(g:gz M h):WI M (fs.map (ck M)) h:=by
 obtain⟨a,b⟩:=Js c c d i hl;refine⟨a,b,fun y j=>?_,FT _ _,g⟩;obtain⟨f,e,rfl⟩:=List.mem_map.1 j;have:=d.2.av c (gM c d.1).2 f e;unfold ck;split
 ·exact this
 ·exact⟨Int.le_refl 0,(by decide:(0:Int)<4)⟩
theorem FR{L:List Ob}(e:ai L){l:List It}{h:Int}(g:WI L l h)(fs:List Fi):WI (cg L fs).2.2 (kA L l fs) h:=by
 obtain⟨a,b⟩:=ma e fs;by_cases c:(cg L fs).2.1=0
 ·obtain⟨d,i⟩:=oF e c;rw[show kA L l fs=fs.map (ck (cg L fs).2.2)from if_neg (fun h=>h c)];exact zm a i (fun f j=>(lT ((jh d).2 f j).1).2.1) (jh d).1 (g.head.ext b)
 ·rw[show kA L l fs=l from if_pos c];exact g.ext b
theorem C4{L:List Ob}(p:ai L){l:List It}{h:Int}(q:WI L l h)(id:Int):WI (je L l id) (jN L l h id) (jM L l h id):=by
 obtain⟨a,b⟩:=tj (l:=l) (id:=id) p;by_cases d:dG L l h id=0
 ·have e:kindOf L id=3:=by
   by_cases e:kindOf L id=3
   ·exact e
   ·rw[(tt (h:=h) (l:=l) e).1]at d;cases d
  have c:fm L l h=0:=by
   by_cases c:fm L l h=0
   ·exact c
   ·rw[(tk (h:=h) (l:=l) e c).1]at d;exact absurd d c
  obtain⟨k,f,g,i⟩:=tm (h:=h) (l:=l) e c;have j:(bw (ba L l).2.2 (aj L id).tree).2=0:=k▸d;rw[if_neg (fun h=>h j)]at g i;rw[f]at a b;obtain⟨m,n,o⟩:=oQ a j;rw[f,g,i];exact zm a m o n (gz.ext (.inr e) b)
 ·rw[show jN L l h id=l from if_pos d,show jM L l h id=h from if_pos d];exact q.ext b
theorem FI.uB{s:FS}{n r:Nat}(h:FI L0 s n)(name:List UInt8)(id:Int):FI L0 (gI s r name id) (n+1):=h.iN name _ _
theorem Ce{L:List Ob}{o:Nat→List Bool}{b:Nat→List Int}{r:Nat}{ids:List Int}(h:(o r).length≤L.length):(kV L o b r ids).length≤L.length:=by
 unfold kV eE;rw[my,List.length_append,List.length_replicate];omega
theorem wD{L:List Ob}{o:Nat→List Bool}{b:Nat→List Int}(h:∀k,k<4→(o k).length≤L.length)(r:Int)(ids:List Int):∀k,k<4→(c8 L o b r ids k).length≤L.length:=fun k a=>by
 unfold c8;split
 ·exact h k a
 ·rw[fj];split
  ·rename_i e;rw[←e];exact Ce (h k a)
  ·exact h k a
theorem FI.iY{s:FS}{n r:Nat}(h:FI L0 s n)(id:Int):FI L0 (iY s r id) n:=h.cn (wD h.own _ _)
theorem FI.ee{s:FS}{n r:Nat}(h:FI L0 s n)(name:List UInt8)(id:Int):FI L0 (ee s r name id) (n+1):=by
 unfold Go.Nest.ee;split
 ·exact h.uB name id
 ·exact(h.uB name id).iY id
theorem FI.cz{s:FS}{n r:Nat}(h:FI L0 s n)(hr:r<4)(text:List UInt8)(others:List Int):FI L0 (cz s r text others) n:=by
 obtain⟨a,b⟩:=oI (l:=s.w r) (h:=s.h r) (text:=text) (others:=others) h.pool;have c:=h.work r hr;exact h.db a b ⟨c.ok,c.mc,c.cK,c.nb,C5 h.pool c.head _ _⟩
theorem FI.jt{s:FS}{n r:Nat}(h:FI L0 s n)(hr:r<4)(id:Int):FI L0 (jt s r id) n:=by
 obtain⟨a,b⟩:=tj (l:=s.w r) (id:=id) h.pool;exact h.db a b (C4 h.pool (h.work r hr) id)
theorem FI.dQ{s:FS}{n r:Nat}(h:FI L0 s n)(hr:r<4)(l:List Fi):FI L0 (dQ s r l) n:=by
 obtain⟨a,b⟩:=ma h.pool l;exact h.db a b (FR h.pool (h.work r hr) l)
theorem FI.dv{s:FS}{n r:Nat}(h:FI L0 s n):FI L0 (dv s r) n:=by
 obtain⟨a,b⟩:=iT (l:=s.w r) h.pool;exact h.aS a b
theorem tK{s:FS}{n:Nat}(h:FI L0 s n)(r q id:Int):∀k,k<4→(cD s.L s.o s.b r q id k).length≤s.L.length:=fun k a=>by
 unfold cD;split
 ·exact h.own k a
 split
 ·exact h.own k a
 ·exact wD h.own _ _ k a
theorem A5{base x y:List Fi}:∀(a:List (List UInt8)) (s:BS),s.L<+:(dL base x y s a).L
 |[],s=>List.prefix_refl _
 |q::a,s=>by
  refine List.IsPrefix.trans ?_ (A5 a (mQ base x y s q));show s.L<+:kc s.L _ _ _;unfold kc;split
  ·exact List.prefix_refl _
  split
  ·exact List.prefix_refl _
  unfold iK;split
  ·exact List.prefix_refl _
  ·exact jw _
theorem sW{L:List Ob}(a:ai L)(base x y:List Fi):ai (gm L base x y).L∧L<+:(gm L base x y).L:=by
 have h:=(vC (base:=base) (x:=x) (y:=y) (ei [base,x,y]) (s:=⟨L,[],[],0⟩) (n:=0) ⟨a,a.len,Nat.le_refl _,Nat.le_refl _⟩).L;have b:=A5 (base:=base) (x:=x) (y:=y) (ei [base,x,y]) ⟨L,[],[],0⟩;unfold gm;split
 ·exact⟨a,List.prefix_refl _⟩
 dsimp only;generalize (if(dL base x y ⟨L,[],[],0⟩ (ei [base,x,y])).code=0 then cI (dL base x y ⟨L,[],[],0⟩ (ei [base,x,y])).out else(dL base x y ⟨L,[],[],0⟩ (ei [base,x,y])).code)=c;split
 ·exact⟨h,b⟩
 ·exact⟨h,b⟩
theorem CC{L:List Ob}{base x y:List Fi}(b:∀l∈[base,x,y],∀f∈l,f.path.length≤4000000):∀f∈(gm L base x y).out,f.path.length≤4000000:=by
 unfold gm;split
 ·intro f a;cases a
 dsimp only;generalize (if(dL base x y ⟨L,[],[],0⟩ (ei [base,x,y])).code=0 then cI (dL base x y ⟨L,[],[],0⟩ (ei [base,x,y])).out else(dL base x y ⟨L,[],[],0⟩ (ei [base,x,y])).code)=c;split
 ·intro f a;cases a
 ·exact vD (b x (by simp)) (b y (by simp)) _ _ (fun q g=>by
   obtain⟨l,d,f,e,rfl⟩:=As g;exact b l d f e) fun f a=>by cases a
theorem Ej{L:List Ob}(a:ai L)(id:Int):∀f∈(bu L id).1,f.path.length≤4000000:=by
 unfold bu;split
 ·intro f b;cases b
 ·exact(x9 a _).2
theorem FI.sV{s:FS}{n:Nat}(h:FI L0 s n)(r:Nat)(base id:Int):FI L0 (s.aS (aX s r base id).L) n:=by
 obtain⟨a,b⟩:=sW h.pool (bu s.L base).1 (bu s.L (s.h r)).1 (bu s.L id).1;exact h.aS a b
theorem FI.mix{s:FS}{n r:Nat}(h:FI L0 s n)(hr:r<4)(base id:Int):FI L0 (jq s r base id) n:=by
 have b:=h.sV r base id;have a:=b.dQ hr (aX s r base id).out;unfold jq;repeat' split
 any_goals first|exact h|exact b|exact a
 unfold pf;split
 ·exact(a.cz hr _ _).dQ hr _
 ·exact(a.cz hr _ _).iY _
theorem FI.merge{s:FS}{n r:Nat}(h:FI L0 s n)(hr:r<4)(name:List UInt8):FI L0 (mz s r name) n:=by
 have a:=h.dv (r:=r);unfold mz pe;repeat' split
 any_goals first|exact h|exact a
 ·exact a.jt hr _
 ·exact a.mix hr _ _
theorem sa{L:List Ob}(a:ai L)(id:Int)(dir:List UInt8):ai (bT L id dir).2.2∧L<+:(bT L id dir).2.2:=by
 unfold bT;split
 ·exact⟨a,List.prefix_refl _⟩
 split
 ·exact pK a
 ·exact pK a
theorem bz{α:Type}{P:α→Prop}{c:Prop}{i:Decidable c}{a b:α}(h1:c→P a)(h2:¬c→P b):P (if c then a else b):=by
 by_cases h:c
 ·rw[if_pos h];exact h1 h
 ·rw[if_neg h];exact h2 h
theorem FI.step{s:FS}{n:Nat}(h:FI L0 s n)(x:bm):FI L0 (cA s x) (n+1):=by
 have a:=h.up (Nat.le_succ n);unfold cA;refine bz (P:=fun t=>FI L0 t (n+1)) (fun _=>a) (fun _=>bz (P:=fun t=>FI L0 t (n+1)) (fun _=>a) (fun j=>?_));obtain⟨i,c,e⟩:=(bQ (r:=x.r)).1 (by cases q:bg x.r;exact absurd q j;rfl);have e:x.r.toNat=i:=by omega
 rw[e];have d:=h.work i c;have b:=sa h.pool (s.h i) x.path;refine bz (P:=fun t=>FI L0 t (n+1)) (fun _=>?_) (fun _=>bz (P:=fun t=>FI L0 t (n+1)) (fun _=>?_) (fun _=>bz (P:=fun t=>FI L0 t (n+1)) (fun _=>?_) (fun _=>bz (P:=fun t=>FI L0 t (n+1)) (fun _=>?_) (fun _=>bz (P:=fun t=>FI L0 t (n+1)) (fun _=>?_) (fun _=>bz (P:=fun t=>FI L0 t (n+1)) (fun _=>?_) (fun _=>bz (P:=fun t=>FI L0 t (n+1)) (fun _=>?_) (fun _=>bz (P:=fun t=>FI L0 t (n+1)) (fun _=>?_) (fun _=>bz (P:=fun t=>FI L0 t (n+1)) (fun _=>?_) (fun _=>bz (P:=fun t=>FI L0 t (n+1)) (fun _=>?_) (fun _=>bz (P:=fun t=>FI L0 t (n+1)) (fun _=>?_) (fun _=>?_)))))))))))
 ·exact a.db h.pool (List.prefix_refl _) (d.wr _ _)
 ·exact a.db h.pool (List.prefix_refl _) (d.rem _)
 ·unfold nR;split
  ·exact a
  ·exact a.db h.pool (List.prefix_refl _) (d.li _ _ _)
 ·unfold mg;repeat' split
  ·exact a
  ·exact a.cz c _ _
  ·exact(h.cz c _ _).ee _ _
 ·unfold jL;split
  ·exact a
  ·exact a.jt c _
 ·exact a.merge c _
 ·unfold np;split
  ·exact a
  ·exact h.uB _ _
 ·unfold nt;split
  ·exact a
  ·exact h.iN _ _ _
 ·unfold mi;have f:=h.cn (tK h i x.q (aF s x.q x.name).1);repeat' split
  ·exact a
  ·exact a
  ·exact f.up (Nat.le_succ n)
  ·exact f.ee _ _
 ·exact⟨h.pool,h.df.df _ _,h.own,h.refs,a.mov,h.work,h.pre⟩
 ·unfold pM;repeat' split
  ·exact a
  ·exact a
  ·exact a.aS b.1 b.2
  ·exact(h.aS b.1 b.2).ee _ _
 ·exact a.cn fun k g=>by
   show(lW _ (s.o k)).length≤_;rw[Jc];exact h.own k g
end Go.Nest
end
