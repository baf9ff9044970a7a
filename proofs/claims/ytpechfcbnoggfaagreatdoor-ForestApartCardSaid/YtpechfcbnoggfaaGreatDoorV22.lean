/- part -/
import Derived.Test.YtpechfcbnoggfaaGreatDoorAmH
import Derived.Test.YtpechfcbnoggfaaGreatDoorK13
import Derived.Test.YtpechfcbnoggfaaGreatDoorD23
import Derived.Test.YtpechfcbnoggfaaGreatDoorN7
import Derived.Test.YtpechfcbnoggfaaGreatDoorB9
import Derived.Test.YtpechfcbnoggfaaGreatDoorW4
import Derived.Test.YtpechfcbnoggfaaGreatDoorU0
import Derived.Test.YtpechfcbnoggfaaGreatDoorG10
import Derived.Test.YtpechfcbnoggfaaGreatDoorD10
import Derived.Test.YtpechfcbnoggfaaGreatDoorN1
import Derived.Test.YtpechfcbnoggfaaGreatDoorV1
set_option linter.unusedVariables false
set_option linter.unusedSimpArgs false
section
namespace Go.Nest
open Go Go.AM
structure cU(s:FS):Prop where
 pool:ae s.L
 dW:gh s.b
 own:∀k,k<4→(s.o k).length≤1000000
 sort:∀k,k<4→fh (s.n k)
 ids:∀k,k<4→∀x∈s.n k,0≤x.id
 few:∀k,k<4→(s.n k).length≤8
 moves:∀k,k<4→(s.m k).length≤990
 paths:∀k,k<4→∀y∈s.w k,y.path.length≤4000000
 items:∀k,k<4→(s.w k).length≤60
 bytes:∀k,k<4→∀y∈s.w k,y.bytes.length≤400
 head:∀k,k<4→iD s.L (s.h k)
def aw(s:FS)(r:Int)(name:List UInt8):Int×Int:=if bw r=false then(0,1)else if a6 (s.n r.toNat) name<0 then(0,9)else(a6 (s.n r.toNat) name,0)
def ek(l:List Rf):List Rf×List Mv:=l.foldl (fun p y=>(az p.1 y.name (-1) y.id,fA p.1 p.2 y.name (-1) y.id)) ([],[])
def c8(l:List Rf)(name:List UInt8):Int:=dt (ek l).1 name (a6 (ek l).1 name) 600
def fy(s:FS)(r:Nat)(name:List UInt8)(id:Int):Int:=dt (s.n r) name (a6 (s.n r) name) id
def gb(s:FS)(r:Nat)(name:List UInt8)(id:Int):FS:=s.gH r (az (s.n r) name (a6 (s.n r) name) id) (fA (s.n r) (s.m r) name (a6 (s.n r) name) id)
noncomputable def jx(s:FS)(r:Nat)(id:Int):FS:=s.bN (dE s.L s.o s.b r [id])
def fI(s:FS)(r:Nat)(name:List UInt8)(id:Int):Int:=if fy s r name id≠0∧fy s r name id≠17 then fy s r name id else cI s.L r [id]
noncomputable def dA(s:FS)(r:Nat)(name:List UInt8)(id:Int):FS:=if fy s r name id≠0∧fy s r name id≠17 then gb s r name id else jx (gb s r name id) r id
def qz(s:FS)(r:Nat)(p b:List UInt8):cT:=b9 0 (fN (s.w r) p b).1
def qA(s:FS)(r:Nat)(p b:List UInt8):FS:=s.c9 r s.L (fN (s.w r) p b).2 (s.h r)
def sK(s:FS)(r:Nat)(p:List UInt8):cT:=b9 0 (fZ (s.w r) p).1
def sM(s:FS)(r:Nat)(p:List UInt8):FS:=s.c9 r s.L (fZ (s.w r) p).2 (s.h r)
def pP(s:FS)(r:Nat)(q:Int)(p name:List UInt8):cT:=if(aw s q name).2≠0 then⟨(aw s q name).2,0,[]⟩else b9 (aw s q name).1 (fp s.L (s.w r) p q (aw s q name).1).1
def lB(s:FS)(r:Nat)(q:Int)(p name:List UInt8):FS:=if(aw s q name).2≠0 then s else s.c9 r s.L (fp s.L (s.w r) p q (aw s q name).1).2 (s.h r)
def bV(s:FS)(r:Nat)(text:List UInt8)(others:List Int):FS:=s.c9 r (aH s.L (s.w r) (s.h r) text others).2.2 (s.w r) (jh s.L (s.w r) (s.h r) text others)
def nT(s:FS)(r:Nat)(name text:List UInt8):cT:=
 if c8 (s.n r) name≠0 then⟨c8 (s.n r) name,0,[]⟩else
 if(aH s.L (s.w r) (s.h r) text []).2.1≠0 then⟨(aH s.L (s.w r) (s.h r) text []).2.1,0,[]⟩else
 b9 (aH s.L (s.w r) (s.h r) text []).1 (fI (bV s r text []) r name (aH s.L (s.w r) (s.h r) text []).1)
noncomputable def kh(s:FS)(r:Nat)(name text:List UInt8):FS:=
 if c8 (s.n r) name≠0 then s else
 if(aH s.L (s.w r) (s.h r) text []).2.1≠0 then bV s r text []else
 dA (bV s r text []) r name (aH s.L (s.w r) (s.h r) text []).1
def lF(s:FS)(r:Nat)(id:Int):cT:=b9 id (dG s.L (s.w r) (s.h r) id)
def iq(s:FS)(r:Nat)(id:Int):FS:=s.c9 r (eN s.L (s.w r) id) (iH s.L (s.w r) (s.h r) id) (ig s.L (s.w r) (s.h r) id)
def mU(s:FS)(r:Nat)(name:List UInt8):cT:=if(aw s r name).2≠0 then⟨(aw s r name).2,0,[]⟩else lF s r (aw s r name).1
def jA(s:FS)(r:Nat)(name:List UInt8):FS:=if(aw s r name).2≠0 then s else iq s r (aw s r name).1
def aJ(L:List Ob)(id:Int):List Fi×Int:=if id<0 then([],0)else cK L (ab L id).tree
def pb(s:FS)(r:Nat)(name:List UInt8):cT:=if s.h r<0 then⟨9,0,[]⟩else b9 (s.h r) (fy s r name (s.h r))
def kW(s:FS)(r:Nat)(name:List UInt8):FS:=if s.h r<0 then s else gb s r name (s.h r)
def pn(s:FS)(r:Nat)(name:List UInt8):cT:=if(aw s r name).2≠0 then⟨(aw s r name).2,0,[]⟩else b9 (aw s r name).1 (dt (s.n r) name (aw s r name).1 (-1))
def kZ(s:FS)(r:Nat)(name:List UInt8):FS:=if(aw s r name).2≠0 then s else s.gH r (az (s.n r) name (aw s r name).1 (-1)) (fA (s.n r) (s.m r) name (aw s r name).1 (-1))
noncomputable def nX(s:FS)(r:Nat)(q:Int)(name:List UInt8):cT:=
 if(aw s q name).2≠0 then⟨(aw s q name).2,0,[]⟩else if c8 (s.n r) name≠0 then⟨c8 (s.n r) name,0,[]⟩else
 if eH s.L s.dep r q (aw s q name).1≠0 then⟨eH s.L s.dep r q (aw s q name).1,0,[]⟩else
 b9 (aw s q name).1 (fI (s.bN (cJ s.L s.o s.b r q (aw s q name).1)) r name (aw s q name).1)
noncomputable def kr(s:FS)(r:Nat)(q:Int)(name:List UInt8):FS:=
 if(aw s q name).2≠0 then s else if c8 (s.n r) name≠0 then s else
 if eH s.L s.dep r q (aw s q name).1≠0 then s.bN (cJ s.L s.o s.b r q (aw s q name).1)else
 dA (s.bN (cJ s.L s.o s.b r q (aw s q name).1)) r name (aw s q name).1
def o8(s:FS)(r:Nat)(q:Int):cT:=b9 0 (dX s.b r q)
def o9(s:FS)(r:Nat)(q:Int):FS:=s.BT (cW s.b r q)
def sT(s:FS)(r:Nat)(p name:List UInt8):cT:=
 if s.h r<0 then⟨9,0,[]⟩else if c8 (s.n r) name≠0 then⟨c8 (s.n r) name,0,[]⟩else
 if(aP s.L (s.h r) p).2.1≠0 then⟨(aP s.L (s.h r) p).2.1,0,[]⟩else
 b9 (aP s.L (s.h r) p).1 (fI (s.az (aP s.L (s.h r) p).2.2) r name (aP s.L (s.h r) p).1)
noncomputable def mD(s:FS)(r:Nat)(p name:List UInt8):FS:=
 if s.h r<0 then s else if c8 (s.n r) name≠0 then s else
 if(aP s.L (s.h r) p).2.1≠0 then s.az (aP s.L (s.h r) p).2.2 else
 dA (s.az (aP s.L (s.h r) p).2.2) r name (aP s.L (s.h r) p).1
def gW(s:FS)(r:Nat):List Int:=jL (s.m r)++(if 0≤s.h r then[s.h r]else[])
def mh(l:List It)(q:Nat):List Int:=((fq l).filter fun f=>decide (f.ar=(q:Int))).map (·.id)
def iw(s:FS)(q:Nat):List Int:=gW s q++(mh (s.w 0) q++(mh (s.w 1) q++(mh (s.w 2) q++mh (s.w 3) q)))
noncomputable def qt(s:FS):FS:=s.bN (iT s.L s.o s.b (iw s))
def au(s:FS)(r:Nat)(base id:Int):BS:=dh s.L (aJ s.L base).1 (aJ s.L (s.h r)).1 (aJ s.L id).1
def bX(s:FS)(r:Nat)(l:List Fi):FS:=s.c9 r (bC s.L l).2.2 (ji s.L (s.w r) l) (s.h r)
def bz:List UInt8:=[109,101,114,103,101]
def kH(s:FS)(r:Nat)(id:Int):cT:=
 if(aH s.L (s.w r) (s.h r) bz [id]).2.1≠0 then⟨(aH s.L (s.w r) (s.h r) bz [id]).2.1,0,[]⟩else
 b9 (aH s.L (s.w r) (s.h r) bz [id]).1 (cI (bV s r bz [id]).L r [(aH s.L (s.w r) (s.h r) bz [id]).1])
noncomputable def kI(s:FS)(r:Nat)(id:Int)(l:List Fi):FS:=
 if(aH s.L (s.w r) (s.h r) bz [id]).2.1≠0 then bX (bV s r bz [id]) r l else
 jx (bV s r bz [id]) r (aH s.L (s.w r) (s.h r) bz [id]).1
def jm(s:FS)(r:Nat)(base id:Int):cT:=
 if(aJ s.L base).2≠0 then⟨(aJ s.L base).2,0,[]⟩else if(aJ s.L (s.h r)).2≠0 then⟨(aJ s.L (s.h r)).2,0,[]⟩else if(aJ s.L id).2≠0 then⟨(aJ s.L id).2,0,[]⟩else
 if(au s r base id).code≠0 then⟨(au s r base id).code,0,[]⟩else if 0<(au s r base id).cf.length then⟨10,0,(au s r base id).cf⟩else
 if eQ (au s r base id).L (au s r base id).out≠0 then⟨eQ (au s r base id).L (au s r base id).out,0,[]⟩else
 kH (bX (s.az (au s r base id).L) r (au s r base id).out) r id
noncomputable def fW(s:FS)(r:Nat)(base id:Int):FS:=
 if(aJ s.L base).2≠0 then s else if(aJ s.L (s.h r)).2≠0 then s else if(aJ s.L id).2≠0 then s else
 if(au s r base id).code≠0 then s.az (au s r base id).L else if 0<(au s r base id).cf.length then s.az (au s r base id).L else
 if eQ (au s r base id).L (au s r base id).out≠0 then bX (s.az (au s r base id).L) r (au s r base id).out else
 kI (bX (s.az (au s r base id).L) r (au s r base id).out) r id (aJ s.L (s.h r)).1
def ie(s:FS)(r:Nat):Int:=eD s.L (s.w r) (s.h r)
def cP(s:FS)(r:Nat):FS:=s.az (aE s.L (s.w r)).2.2
def jN(l:List Int):Int:=if 0<l.length then l.getLastD 0 else-1
def mj(s:FS)(r:Nat)(id:Int):cT:=
 if s.h r<0∨(dv s.L (s.h r) id=true∧s.h r≠id)then lF s r id else if dv s.L id (s.h r)=true then⟨17,0,[]⟩else
 if(dp s.L (s.h r) id).2≠0 then⟨(dp s.L (s.h r) id).2,0,[]⟩else jm s r (jN (dp s.L (s.h r) id).1) id
noncomputable def jP(s:FS)(r:Nat)(id:Int):FS:=
 if s.h r<0∨(dv s.L (s.h r) id=true∧s.h r≠id)then iq s r id else if dv s.L id (s.h r)=true then s else
 if(dp s.L (s.h r) id).2≠0 then s else fW s r (jN (dp s.L (s.h r) id).1) id
def pS(s:FS)(r:Nat)(name:List UInt8):cT:=
 if(aw s r name).2≠0 then⟨(aw s r name).2,0,[]⟩else if ie s r≠0 then⟨ie s r,0,[]⟩else mj (cP s r) r (aw s r name).1
noncomputable def kG(s:FS)(r:Nat)(name:List UInt8):FS:=
 if(aw s r name).2≠0 then s else if ie s r≠0 then cP s r else jP (cP s r) r (aw s r name).1
noncomputable def fG(s:FS)(x:bL):cT:=
 if x.kind<1∨12<x.kind then⟨6,0,[]⟩else if bw x.r=false then⟨1,0,[]⟩else
 if x.kind=1 then qz s x.r.toNat x.path x.bytes else if x.kind=2 then sK s x.r.toNat x.path else
 if x.kind=3 then pP s x.r.toNat x.q x.path x.name else if x.kind=4 then nT s x.r.toNat x.name x.text else
 if x.kind=5 then mU s x.r.toNat x.name else if x.kind=6 then pS s x.r.toNat x.name else
 if x.kind=7 then pb s x.r.toNat x.name else if x.kind=8 then pn s x.r.toNat x.name else
 if x.kind=9 then nX s x.r.toNat x.q x.name else if x.kind=10 then o8 s x.r.toNat x.q else
 if x.kind=12 then sT s x.r.toNat x.path x.name else⟨0,0,[]⟩
noncomputable def cw(s:FS)(x:bL):FS:=
 if x.kind<1∨12<x.kind then s else if bw x.r=false then s else
 if x.kind=1 then qA s x.r.toNat x.path x.bytes else if x.kind=2 then sM s x.r.toNat x.path else
 if x.kind=3 then lB s x.r.toNat x.q x.path x.name else if x.kind=4 then kh s x.r.toNat x.name x.text else
 if x.kind=5 then jA s x.r.toNat x.name else if x.kind=6 then kG s x.r.toNat x.name else
 if x.kind=7 then kW s x.r.toNat x.name else if x.kind=8 then kZ s x.r.toNat x.name else
 if x.kind=9 then kr s x.r.toNat x.q x.name else if x.kind=10 then o9 s x.r.toNat x.q else
 if x.kind=12 then mD s x.r.toNat x.path x.name else qt s
end Go.Nest
end
section
namespace Go.Nest
open Go Go.AM Go.Proofs
open Go.Proofs.YtpechfcbnoggfaaGreatDoor (tab tabOk)
set_option maxRecDepth 100000
theorem fU(r:Int):ai Tryz.prog 53 [.c (.int .i64 r)] [] (Rt (.c (.bool (bw r))) []):=by
 refine an (n:=9) (n0:=0) tabOk Tryz.call53 Tryz.func53 ?_;intro hb;unfold bw;(conv=>whnf);refine dec (fun h=>?_) (fun h=>?_)
 ·have h:0≤r:=h;rw[decide_eq_true h,Bool.true_and];(conv=>whnf);exact aG rfl
 ·have h:¬0≤r:=h;rw[decide_eq_false h,Bool.false_and];(conv=>whnf);exact aG rfl
theorem gR(n:Int):j4 (.c (.int .i64 n)):=⟨fun _ _=>rfl,fun _=>rfl,rfl⟩
theorem DL:j4 (.aL []):=⟨fun _ _=>trivial,fun _=>rfl,rfl⟩
theorem tX(n m:Int):j4 (.aL [(false,[.int .i64 n]),(false,[.int .i64 m])]):=⟨fun _ _=>⟨⟨rfl,rfl,trivial⟩,⟨rfl,rfl,trivial⟩,trivial⟩,fun _=>rfl,rfl⟩
theorem E5{id c:Int}(h:c=0):b9 id c=⟨0,id,[]⟩:=by unfold b9;rw[if_neg (by simp[h])]
theorem E6{id c:Int}(h:c≠0):b9 id c=⟨c,0,[]⟩:=if_pos h
theorem jb(id c:Int):ai Tryz.prog 54 [.c (.int .i64 id),.c (.int .i64 c)] [] (Rt (.st (bM (b9 id c))) []):=by
 refine an (n:=11) (n0:=0) tabOk Tryz.call54 Tryz.func54 ?_;intro hb;(conv=>whnf);refine ay (fun h=>?_) (fun h=>?_)
 ·rw[E6 h];(conv=>whnf);exact rx [] []
 ·rw[E5 h];(conv=>whnf);exact rx [] []
theorem me(s:FS)(d:cU s)(r:Int)(name:List UInt8):ai Tryz.prog 121 [.c (.bp (jI s)),.c (.int .i64 r),.c (.str name)] [] (Rt (.aL [(false,[.int .i64 (aw s r name).1]),(false,[.int .i64 (aw s r name).2])]) []):=by
 refine an (n:=24) (n0:=0) tabOk Tryz.call121 Tryz.func121 ?_;intro hb;(conv=>whnf);refine cl [] [] (fU r) ?_;(conv=>whnf);refine dV (fun h=>?_) (fun h=>?_)
 ·rw[show aw s r name=_ from if_pos h];(conv=>whnf);exact rx [] []
 obtain⟨i,b,rfl⟩:=bZ.1 h;have e:aw s (i:Int) name=if a6 (s.n i) name<0 then(0,9)else(a6 (s.n i) name,0):=if_neg (by rw[h];decide)
 have p:=pz (s.n i) (s.m i) name (d.sort i b) (by have:=d.few i b;omega);rw[e]
 rcases four b with rfl|rfl|rfl|rfl<;>(
  (conv=>whnf);refine⟨_,⟨rfl,by decide⟩,?_⟩;(conv=>whnf);refine cl [] [] (p) ?_;(conv=>whnf);refine dec (fun a=>?_) (fun a=>?_)
  ·rw[if_pos a];(conv=>whnf);exact rx [] []
  ·rw[if_neg a];(conv=>whnf);exact rx [] [])
def kn(p:List Rf×List Mv)(y:Rf):List Rf×List Mv:=(az p.1 y.name (-1) y.id,fA p.1 p.2 y.name (-1) y.id)
theorem uh(l:List Rf):ek l=l.foldl kn ([],[]):=rfl
theorem D6{p:List Rf×List Mv}(h:gP p.1 p.2)(y:Rf):gP (kn p y).1 (kn p y).2∧(kn p y).2.length≤p.2.length+1:=by
 unfold kn az fA;by_cases a:dt p.1 y.name (-1) y.id=0
 ·simp only[if_pos a];exact⟨.snoc h a,by simp⟩
 ·simp only[if_neg a];exact⟨h,Nat.le_succ _⟩
theorem yu:∀{l:List Rf} {p:List Rf×List Mv},gP p.1 p.2→gP (l.foldl kn p).1 (l.foldl kn p).2∧(l.foldl kn p).2.length≤p.2.length+l.length
 |[],p,h=>⟨h,by simp⟩
 |y::l,p,h=>by
  have a:=D6 h y;have b:=yu (l:=l) a.1;rw[List.foldl_cons,List.length_cons];exact⟨b.1,by omega⟩
theorem D3(l:List Rf):nG (ek l).1 (ek l).2∧(ek l).2.length≤l.length:=by
 have:=yu (l:=l) (p:=([],[])) .nil;rw[uh];exact⟨this.1.inv,by simpa using this.2⟩
theorem yv{l:List Rf}{i:Nat}(h:i<l.length):ek (l.take (i+1))=kn (ek (l.take i)) l[i]:=by
 rw[uh,uh,List.take_succ_eq_append_getElem h,List.foldl_append];rfl
set_option maxHeartbeats 2000000 in
theorem vL(s:FS)(v:cU s){i:Nat}(hi:i<4)(name:List UInt8):ai Tryz.prog 123 [.c (.bp (jI s)),.c (.int .i64 (i:Nat)),.c (.str name)] [] (Rt (.c (.int .i64 (c8 (s.n i) name))) []):=by
 refine an (n:=41) (n0:=0) tabOk Tryz.call123 Tryz.func123 ?_;intro hb;have g:=v.few i hi;have p:=Av (s.n i) (s.m i) (by omega);(conv=>whnf);refine cl [] [] (pY) ?_;have fin:∀l:List Rf,l.length≤8→c8 l name=dt (ek l).1 name (a6 (ek l).1 name) 600:=fun _ _=>rfl;have j:=D3;have a:= @yv;have r:ek []=([],[]):=rfl
 rcases four hi with rfl|rfl|rfl|rfl<;>(
  (conv=>whnf);refine⟨_,⟨rfl,by decide⟩,?_⟩;(conv=>whnf);refine cl [] [] (p) ?_;generalize s.n _=l at g⊢;rw[fin l g];generalize ek=d at j a r⊢;(conv=>whnf);refine lp Nat (fun i=>⟨[(0,.c (.bp (jI s))),(2,.c (.str name)),(7,.c (.ptr 0 0)),(19,.c (.rw 3)),(20,.c (.int .i64 l.length)),(21,.c (.int .i64 i))],[.box [.rw 1,.rw 2],.row 2 Rf bH (d (l.take i)).1,.row 3 Mv cY (d (l.take i)).2,.row 2 Rf bH l]⟩) (fun i=>i≤l.length∧True) (fun i=>l.length-i) 0 [] [.same 0,.same 1,.same 2,.same 3] ⟨Nat.zero_le _,trivial⟩ ?_ (fun i hi=>?_)
  ·rw[List.take_zero,r];repeat' first|exact trivial|exact rfl|refine And.intro ?_ ?_
  obtain⟨hi,-⟩:=hi;(conv=>whnf);refine dec (fun k=>?_) (fun k=>?_)
  ·have e:i<l.length:=by have k:(i:Int)<l.length:=k;omega
   have o:l[i]? =some l[i]:=List.getElem?_eq_getElem e;have a:=a e;obtain⟨b,f⟩:=j (l.take i);rw[List.length_take]at f;have q:=qj (d (l.take i)).1 (d (l.take i)).2 l[i].name (-1) l[i].id b.sort b.ids b.len (by omega);have t:az (d (l.take i)).1 l[i].name (-1) l[i].id=(d (l.take (i+1))).1:=by rw[a];rfl
   have u:fA (d (l.take i)).1 (d (l.take i)).2 l[i].name (-1) l[i].id=(d (l.take (i+1))).2:=by rw[a];rfl
   rw[t,u]at q;generalize l[i]=y at o q;(conv=>whnf);refine⟨i,⟨rfl,e⟩,?_⟩;(conv=>whnf);refine⟨y,o,?_⟩;(conv=>whnf);refine cl [] [0,1,2] (q) ?_;repeat'((conv=>whnf);refine I6 ?_)
   refine ag (i+1) [] [.same 0,.same 5,.same 6,.same 3] ⟨e,trivial⟩ (by simp only[];omega) ?_;repeat' first|exact trivial|exact rfl|refine And.intro ?_ ?_
  ·obtain rfl:i=l.length:=by have k:¬(i:Int)<l.length:=k;omega
   rw[List.take_length];obtain⟨b,f⟩:=j l;generalize d l=R at b f⊢;obtain⟨x,m⟩:=R;dsimp only at b f⊢;have w:=pz x m name b.sort (by have:=b.len;omega);have z:=qj x m name (a6 x name) 600 b.sort b.ids b.len (by omega);(conv=>whnf);refine cl [] [] (w) ?_;(conv=>whnf);refine cl [] [0,1,2] (z) ?_;(conv=>whnf);refine ay (fun h=>?_) (fun h=>?_)
   ·(conv=>whnf);exact aK rfl
   ·have h:dt x name (a6 x name) 600=0:=h;rw[h];(conv=>whnf);exact aK rfl)
set_option maxHeartbeats 2000000 in
theorem vq(s:FS)(d:cU s){i:Nat}(hi:i<4)(name:List UInt8)(id:Int):ai Tryz.prog 125 [.c (.ptr 0 0),.c (.int .i64 (i:Nat)),.c (.str name),.c (.int .i64 id)] (aQ s) (Rt (.c (.int .i64 (fI s i name id))) (aX (dA s i name id))):=by
 refine an (n:=44) (n0:=32) tabOk Tryz.call125 Tryz.func125 ?_;intro hb;have q:=pz (s.n i) (s.m i) name (d.sort i hi) (by have:=d.few i hi;omega);have f:=vR (s:=s) hi (qj (s.n i) (s.m i) name (a6 (s.n i) name) id (d.sort i hi) (d.ids i hi) (d.few i hi) (by have:=d.moves i hi;omega)) (gR _);have f:ai Tryz.prog _ _ (aQ s) (Rt (.c (.int .i64 (fy s i name id))) (aX (gb s i name id))):=f;have e:=vQ (s:=gb s i name id) (tq s.L d.pool s.o s.b d.dW d.own (i:Int) [id] (by simp)) (gR _);have e:ai Tryz.prog _ _ (aQ (gb s i name id)) (Rt (.c (.int .i64 (cI s.L i [id]))) (aX (jx (gb s i name id) i id))):=e;have o:fI s i name id=if fy s i name id≠0∧fy s i name id≠17 then fy s i name id else cI s.L i [id]:=rfl
 have p:dA s i name id=if fy s i name id≠0∧fy s i name id≠17 then gb s i name id else jx (gb s i name id) i id:=rfl
 rw[o,p];clear o p;generalize fy s i name id=c at f⊢;generalize jx (gb s i name id) i id=j at e⊢;generalize gb s i name id=g at f e⊢;have b:c≠0∧c≠17→(if c≠0∧c≠17 then c else cI s.L i [id])=c∧(if c≠0∧c≠17 then g else j)=g:=fun h=>⟨if_pos h,if_pos h⟩;have a:¬(c≠0∧c≠17)→(if c≠0∧c≠17 then c else cI s.L i [id])=cI s.L i [id]∧(if c≠0∧c≠17 then g else j)=j:=fun h=>⟨if_neg h,if_neg h⟩;generalize (if c≠0∧c≠17 then c else cI s.L i [id])=C at b a⊢;generalize (if c≠0∧c≠17 then g else j)=S at b a⊢
 rcases four hi with rfl|rfl|rfl|rfl<;>(
  (conv=>whnf);refine⟨false,.grow,(.l [0,1,2,3,4,5,6,7,8,9,10,11,12,13,14,15,17,16,18,19]),by kernel_rfl,.inl ?_⟩;(conv=>whnf);refine⟨_,⟨rfl,by decide⟩,?_⟩;(conv=>whnf);refine⟨_,⟨rfl,by decide⟩,?_⟩;(conv=>whnf);refine cl [] [] (q) ?_;(conv=>whnf);refine bc (mF 0) (bu 21 d21 g) f ?_;(conv=>whnf);have r:(c≠0∧c≠17)∨¬(c≠0∧c≠17):=Decidable.em _;refine ay (fun k=>?_) (fun k=>?_)
  ·(conv=>whnf);refine ay (fun m=>?_) (fun m=>?_)
   ·obtain⟨rfl,rfl⟩:=b ⟨k,m⟩;(conv=>whnf);exact bd (rF 21)
   ·obtain⟨rfl,rfl⟩:=a (fun h=>h.2 m);(conv=>whnf);refine⟨[id],rfl,?_⟩;(conv=>whnf);refine bc (mF 21) (bu 43 (d21++(d21++[.row 1 Int encI [id]])) S) e ?_;(conv=>whnf);exact bd (rF 43)
  ·obtain⟨rfl,rfl⟩:=a (fun h=>h.1 k);(conv=>whnf);refine⟨[id],rfl,?_⟩;(conv=>whnf);refine bc (mF 21) (bu 43 (d21++(d21++[.row 1 Int encI [id]])) S) e ?_;(conv=>whnf);exact bd (rF 43))
end Go.Nest
end
section
namespace Go.Nest
open Go Go.AM Go.Proofs
open Go.Proofs.YtpechfcbnoggfaaGreatDoor (tab tabOk)
set_option maxRecDepth 100000
def rf(s:FS)(r:Int):List Dc:=if bw r=false then[]else(s.w r.toNat).map dZ
def sI(s:FS)(r:Int):List Rf:=if bw r=false then[]else s.n r.toNat
def uT(s:FS)(r:Int):Int:=if bw r=false then-1 else s.h r.toNat
theorem uq(s:FS)(b:cU s)(r:Int):ai Tryz.prog 25 [.c (.bp (jI s)),.c (.int .i64 r)] [] (Rt (.c (.rw 0)) [.row 2 Dc eY (rf s r)]):=by
 unfold rf;refine an (n:=16) (n0:=0) tabOk Tryz.call25 Tryz.func25 ?_;intro hb;(conv=>whnf);refine cl [] [] (fU r) ?_;(conv=>whnf);refine dV (fun h=>?_) (fun h=>?_)
 ·rw[if_pos h];(conv=>whnf);exact rx [] [.new]
 obtain⟨i,a,rfl⟩:=bZ.1 h;have p:=EO s.L (s.w i) (s.h i) (b.items i a) (b.bytes i a);rw[if_neg (by rw[h];decide)]
 rcases four a with rfl|rfl|rfl|rfl<;>(
  (conv=>whnf);refine⟨_,⟨rfl,by decide⟩,?_⟩;(conv=>whnf);refine cl [] [] (p) ?_;(conv=>whnf);exact rx [] [.same 0])
theorem wk(s:FS)(b:cU s)(r:Int):ai Tryz.prog 26 [.c (.bp (jI s)),.c (.int .i64 r)] [] (Rt (.c (.rw 0)) [.row 2 Rf bH (sI s r)]):=by
 unfold sI;refine an (n:=16) (n0:=0) tabOk Tryz.call26 Tryz.func26 ?_;intro hb;(conv=>whnf);refine cl [] [] (fU r) ?_;(conv=>whnf);refine dV (fun h=>?_) (fun h=>?_)
 ·rw[if_pos h];(conv=>whnf);exact rx [] [.new]
 obtain⟨i,a,rfl⟩:=bZ.1 h;have p:=Av (s.n i) (s.m i) (by have:=b.few i a;omega);rw[if_neg (by rw[h];decide)]
 rcases four a with rfl|rfl|rfl|rfl<;>(
  (conv=>whnf);refine⟨_,⟨rfl,by decide⟩,?_⟩;(conv=>whnf);refine cl [] [] (p) ?_;(conv=>whnf);exact rx [] [.same 0])
theorem FU(s:FS)(b:cU s)(r:Int):ai Tryz.prog 27 [.c (.bp (jI s)),.c (.int .i64 r)] [] (Rt (.c (.int .i64 (uT s r))) []):=by
 unfold uT;refine an (n:=16) (n0:=0) tabOk Tryz.call27 Tryz.func27 ?_;intro hb;(conv=>whnf);refine cl [] [] (fU r) ?_;(conv=>whnf);refine dV (fun h=>?_) (fun h=>?_)
 ·rw[if_pos h];(conv=>whnf);exact aK rfl
 obtain⟨i,a,rfl⟩:=bZ.1 h;have p:=og s.L (s.w i) (s.h i);rw[if_neg (by rw[h];decide)]
 rcases four a with rfl|rfl|rfl|rfl<;>(
  (conv=>whnf);refine⟨_,⟨rfl,by decide⟩,?_⟩;(conv=>whnf);refine cl [] [] (p) ?_;(conv=>whnf);exact aK rfl)
set_option maxHeartbeats 4000000 in
theorem DY(s:FS)(p:cU s){i:Nat}(hi:i<4)(x:bL)(F:x.r=i)(hl:cU (bV s i x.text [])):ai Tryz.prog 58 [.c (.ptr 0 0),.st (aI x)] (aQ s) (Rt (.st (bM (nT s i x.name x.text))) (aX (kh s i x.name x.text))):=by
 have D:=vL s p hi x.name;have m:=lE (s:=s) hi (yo s.L p.pool (s.w i) (s.h i) (p.paths i hi) (p.items i hi) x.text [] (by decide) (p.head i hi)) (tX _ _);have m:ai Tryz.prog _ _ (aQ s) (Rt _ (aX (bV s i x.text []))):=m;have j:=vq _ hl hi x.name (aH s.L (s.w i) (s.h i) x.text []).1;have q:=jb (aH s.L (s.w i) (s.h i) x.text []).1 (fI (bV s i x.text []) i x.name (aH s.L (s.w i) (s.h i) x.text []).1);unfold nT kh;clear hl;generalize fI (bV s i x.text []) i x.name (aH s.L (s.w i) (s.h i) x.text []).1=H at j q⊢;generalize dA (bV s i x.text []) i x.name (aH s.L (s.w i) (s.h i) x.text []).1=r at j⊢;generalize bV s i x.text []=o at m j⊢;generalize aH s.L (s.w i) (s.h i) x.text []=R at m j q⊢;obtain⟨id,b,J⟩:=R;dsimp only at m j q⊢;generalize c8 (s.n i) x.name=a at D⊢;generalize b9 id H=I at q⊢;obtain⟨d,e,f⟩:=I;have u:a≠0→(if a≠0 then(⟨a,0,[]⟩:cT)else if b≠0 then⟨b,0,[]⟩else⟨d,e,f⟩)=⟨a,0,[]⟩∧(if a≠0 then s else if b≠0 then o else r)=s:=fun h=>⟨if_pos h,if_pos h⟩;have v:a=0→b≠0→(if a≠0 then(⟨a,0,[]⟩:cT)else if b≠0 then⟨b,0,[]⟩else⟨d,e,f⟩)=⟨b,0,[]⟩∧(if a≠0 then s else if b≠0 then o else r)=o:=fun h g=>⟨(if_neg (fun k=>k h)).trans (if_pos g),(if_neg (fun k=>k h)).trans (if_pos g)⟩;have w:a=0→b=0→(if a≠0 then(⟨a,0,[]⟩:cT)else if b≠0 then⟨b,0,[]⟩else⟨d,e,f⟩)=⟨d,e,f⟩∧(if a≠0 then s else if b≠0 then o else r)=r:=fun h g=>⟨(if_neg (fun k=>k h)).trans (if_neg (fun k=>k g)),(if_neg (fun k=>k h)).trans (if_neg (fun k=>k g))⟩;generalize (if a≠0 then(⟨a,0,[]⟩:cT)else if b≠0 then⟨b,0,[]⟩else⟨d,e,f⟩)=E at u v w⊢;generalize (if a≠0 then s else if b≠0 then o else r)=S at u v w⊢;rw[←F]at D j;refine an (n:=45) (n0:=32) tabOk Tryz.call58 Tryz.func58 ?_;intro hb;(conv=>whnf);refine cl [] [] (D) ?_;(conv=>whnf);refine ay (fun t=>?_) (fun t=>?_)
 ·obtain⟨rfl,rfl⟩:=u t;(conv=>whnf);exact bd (rF 0)
 have z:x.r=(i:Nat):=F
 rcases four hi with rfl|rfl|rfl|rfl<;>(
  (conv=>whnf);refine⟨false,.grow,(.l [0,1,2,3,4,5,6,7,8,9,10,11,12,13,14,15]),by kernel_rfl,.inl ?_⟩;(conv=>whnf);refine⟨_,⟨z,by decide⟩,?_⟩;(conv=>whnf);refine bc (mF 0) (bu 23 (d21++[.box (aI x),.box [.int .i64 0,.int .i64 0,.nil]]) o) m ?_;(conv=>whnf);refine ay (fun y=>?_) (fun y=>?_)
  ·obtain⟨rfl,rfl⟩:=v t y;(conv=>whnf);exact bd (rF 23)
  obtain⟨rfl,rfl⟩:=w t y;(conv=>whnf);refine bc (mF 23) (bu 44 (d21++[.box (aI x),.box [.int .i64 0,.int .i64 0,.nil]]++d21) S) j ?_;(conv=>whnf);refine cl [] [] (q) ?_;(conv=>whnf);exact bd (rF 44))
end Go.Nest
end
section
namespace Go.Nest
open Go Go.AM Go.Proofs
open Go.Proofs.YtpechfcbnoggfaaGreatDoor (tab tabOk)
set_option maxRecDepth 100000
set_option maxHeartbeats 4000000 in
theorem EL(s:FS)(f:cU s){i:Nat}(hi:i<4){r:Int}(hr:r=i)(q:Int)(p n t b:List UInt8)(j:p.length≤4000000):ai Tryz.prog 22 [.c (.ptr 0 0),.st (aI ⟨1,r,q,p,n,t,b⟩)] (aQ s) (Rt (.st (bM (qz s i p b))) (aX (qA s i p b))):=by
 have g:=fU r;rw[bZ.2 ⟨i,hi,hr⟩]at g;have a:=lE (s:=s) hi (KC s.L (s.w i) (s.h i) p b j (f.paths i hi) (f.items i hi)) (gR _);obtain⟨c,d⟩:∃c,(fN (s.w i) p b).1=c:=⟨_,rfl⟩;rw[d]at a;have a:ai Tryz.prog _ _ (aQ s) (Rt _ (aX (qA s i p b))):=a;have h:=jb 0 c;rw[show qz s i p b=b9 0 c by unfold qz;rw[d]];generalize b9 0 c=e at h⊢;obtain⟨m,o,u⟩:=e;generalize qA s i p b=k at a⊢;refine an (n:=111) (n0:=32) tabOk Tryz.call22 Tryz.func22 ?_;intro hb;(conv=>whnf);refine cl [] [] (g) ?_
 rcases four hi with rfl|rfl|rfl|rfl<;>(
  (conv=>whnf);refine⟨false,.grow,(.l [0,1,2,3,4,5,6,7,8,9,10,11,12,13,14]),by kernel_rfl,.inl ?_⟩;(conv=>whnf);refine⟨_,⟨hr,by decide⟩,?_⟩;(conv=>whnf);refine bc (mF 0) (bu 23 (d21++[.box (aI ⟨1,r,q,p,n,t,b⟩),.box [.int .i64 0,.int .i64 0,.nil]]) k) a ?_;(conv=>whnf);refine cl [] [] (h) ?_;(conv=>whnf);exact bd (rF 23))
set_option maxHeartbeats 4000000 in
theorem EB(s:FS){i:Nat}(hi:i<4)(q:Int)(p n t b:List UInt8)(E:cT)(S:FS)(d:ai Tryz.prog 58 [.c (.ptr 0 0),.st (aI ⟨4,i,q,p,n,t,b⟩)] (aQ s) (Rt (.st (bM E)) (aX S))):ai Tryz.prog 22 [.c (.ptr 0 0),.st (aI ⟨4,i,q,p,n,t,b⟩)] (aQ s) (Rt (.st (bM E)) (aX S)):=by
 have a:=fU i;rw[bZ.2 ⟨i,hi,rfl⟩]at a;obtain⟨e,f,g⟩:=E;refine an (n:=111) (n0:=32) tabOk Tryz.call22 Tryz.func22 ?_;intro hb;(conv=>whnf);refine cl [] [] (a) ?_;(conv=>whnf);refine bc (mF 0) (bu 23 (d21++[.box (aI ⟨4,i,q,p,n,t,b⟩),.box [.int .i64 0,.int .i64 0,.nil]]) S) d ?_;(conv=>whnf);exact bd (rF 23)
end Go.Nest
end
section
namespace Go.Nest
open Go Go.AM Go.Proofs
open Go.Proofs.YtpechfcbnoggfaaGreatDoor (tab tabOk)
set_option maxRecDepth 100000
set_option maxHeartbeats 4000000 in
theorem Hh(s:FS)(b:cU s){i:Nat}(hi:i<4)(x:bL)(o:x.r=i)(m:x.path.length≤4000000):ai Tryz.prog 57 [.c (.ptr 0 0),.st (aI x)] (aQ s) (Rt (.st (bM (pP s i x.q x.path x.name))) (aX (lB s i x.q x.path x.name))):=by
 by_cases a:(aw s x.q x.name).2=0
 ·rw[show pP s i x.q x.path x.name=_ from if_neg (fun h=>h a),show lB s i x.q x.path x.name=_ from if_neg (fun h=>h a)];have d:=me s b x.q x.name;generalize aw s x.q x.name=R at d a⊢;obtain⟨id,q⟩:=R;dsimp only at d a⊢;have g:=lE (s:=s) hi (Hi s.L b.pool (s.w i) (s.h i) x.path x.q id m (b.paths i hi) (b.items i hi)) (gR _);generalize s.c9 i s.L (fp s.L (s.w i) x.path x.q id).2 (s.h i)=p at g⊢;obtain⟨c,k⟩:∃c,(fp s.L (s.w i) x.path x.q id).1=c:=⟨_,rfl⟩;rw[k]at g⊢;have j:=jb (id) c;generalize b9 (id) c=e at j⊢;obtain⟨r,t,u⟩:=e;have f:x.r=(i:Nat):=o;rw[a]at d;refine an (n:=36) (n0:=32) tabOk Tryz.call57 Tryz.func57 ?_;intro hb;(conv=>whnf);refine cl [] [] (d) ?_
  rcases four hi with rfl|rfl|rfl|rfl<;>(
   (conv=>whnf);refine⟨false,.grow,(.l [0,1,2,3,4,5,6,7,8,9,10,11,12,13,14,15,16]),by kernel_rfl,.inl ?_⟩;(conv=>whnf);refine⟨_,⟨f,by decide⟩,?_⟩;(conv=>whnf);refine bc (mF 0) (bu 23 (d21++[.box (aI x),.box [.int .i64 0,.int .i64 0,.nil]]) p) g ?_;(conv=>whnf);refine cl [] [] (j) ?_;(conv=>whnf);exact bd (rF 23))
 ·rw[show pP s i x.q x.path x.name=_ from if_pos a,show lB s i x.q x.path x.name=_ from if_pos a];refine an (n:=36) (n0:=32) tabOk Tryz.call57 Tryz.func57 ?_;intro hb;(conv=>whnf);refine cl [] [] (me s b x.q x.name) ?_;(conv=>whnf);refine ay (fun _=>?_) (fun h=>absurd h a);(conv=>whnf);exact bd (rF 0)
set_option maxHeartbeats 4000000 in
theorem DJ(s:FS)(b:cU s){i:Nat}(hi:i<4)(x:bL)(g:x.r=i):ai Tryz.prog 59 [.c (.ptr 0 0),.st (aI x)] (aQ s) (Rt (.st (bM (mU s i x.name))) (aX (jA s i x.name))):=by
 have d:=me s b (i:Nat) x.name;rw[←g]at d;by_cases a:(aw s (i:Nat) x.name).2=0
 ·rw[show mU s i x.name=_ from if_neg (fun h=>h a),show jA s i x.name=_ from if_neg (fun h=>h a)];rw[←g]at a⊢;generalize aw s x.r x.name=R at d a⊢;obtain⟨id,p⟩:=R;dsimp only at d a⊢;have f:=lE (s:=s) hi (x6 s.L b.pool (s.w i) (s.h i) (b.paths i hi) (b.items i hi) id) (gR _);have f:ai Tryz.prog _ _ (aQ s) (Rt _ (aX (iq s i id))):=f;generalize iq s i id=o at f⊢;unfold lF;obtain⟨c,m⟩:∃c,dG s.L (s.w i) (s.h i) id=c:=⟨_,rfl⟩;rw[m]at f⊢;have k:=jb (id) c;generalize b9 (id) c=e at k⊢;obtain⟨q,r,t⟩:=e;have j:x.r=(i:Nat):=g;rw[a]at d;refine an (n:=32) (n0:=32) tabOk Tryz.call59 Tryz.func59 ?_;intro hb;(conv=>whnf);refine cl [] [] (d) ?_
  rcases four hi with rfl|rfl|rfl|rfl<;>(
   (conv=>whnf);refine⟨false,.grow,(.l [0,1,2,3,4,5,6,7,8,9,10,11,12]),by kernel_rfl,.inl ?_⟩;(conv=>whnf);refine⟨_,⟨j,by decide⟩,?_⟩;(conv=>whnf);refine bc (mF 0) (bu 23 (d21++[.box (aI x),.box [.int .i64 0,.int .i64 0,.nil]]) o) f ?_;(conv=>whnf);refine cl [] [] (k) ?_;(conv=>whnf);exact bd (rF 23))
 ·rw[show mU s i x.name=_ from if_pos a,show jA s i x.name=_ from if_pos a];rw[←g]at a⊢;refine an (n:=32) (n0:=32) tabOk Tryz.call59 Tryz.func59 ?_;intro hb;(conv=>whnf);refine cl [] [] (me s b x.r x.name) ?_;(conv=>whnf);refine ay (fun _=>?_) (fun h=>absurd h a);(conv=>whnf);exact bd (rF 0)
set_option maxHeartbeats 4000000 in
theorem EP(s:FS)(b:cU s){i:Nat}(hi:i<4)(x:bL)(f:x.r=i):ai Tryz.prog 62 [.c (.ptr 0 0),.st (aI x)] (aQ s) (Rt (.st (bM (pn s i x.name))) (aX (kZ s i x.name))):=by
 have d:=me s b (i:Nat) x.name;rw[←f]at d;by_cases a:(aw s (i:Nat) x.name).2=0
 ·rw[show pn s i x.name=_ from if_neg (fun h=>h a),show kZ s i x.name=_ from if_neg (fun h=>h a)];rw[←f]at a⊢;generalize aw s x.r x.name=R at d a⊢;obtain⟨id,p⟩:=R;dsimp only at d a⊢;have j:=vR (s:=s) hi (qj (s.n i) (s.m i) x.name id (-1) (b.sort i hi) (b.ids i hi) (b.few i hi) (by have:=b.moves i hi;omega)) (gR _);generalize s.gH i (az (s.n i) x.name id (-1)) (fA (s.n i) (s.m i) x.name id (-1))=o at j⊢;obtain⟨c,m⟩:∃c,dt (s.n i) x.name id (-1)=c:=⟨_,rfl⟩;rw[m]at j⊢;have k:=jb (id) c;generalize b9 (id) c=e at k⊢;obtain⟨q,r,t⟩:=e;have g:x.r=(i:Nat):=f;rw[a]at d;refine an (n:=34) (n0:=32) tabOk Tryz.call62 Tryz.func62 ?_;intro hb;(conv=>whnf);refine cl [] [] (d) ?_
  rcases four hi with rfl|rfl|rfl|rfl<;>(
   (conv=>whnf);refine⟨false,.grow,(.l [0,1,2,3,4,5,6,7,8,9,10,11,12,13,14]),by kernel_rfl,.inl ?_⟩;(conv=>whnf);refine⟨_,⟨g,by decide⟩,?_⟩;(conv=>whnf);refine bc (mF 0) (bu 23 (d21++[.box (aI x),.box [.int .i64 0,.int .i64 0,.nil]]) o) j ?_;(conv=>whnf);refine cl [] [] (k) ?_;(conv=>whnf);exact bd (rF 23))
 ·rw[show pn s i x.name=_ from if_pos a,show kZ s i x.name=_ from if_pos a];rw[←f]at a⊢;refine an (n:=34) (n0:=32) tabOk Tryz.call62 Tryz.func62 ?_;intro hb;(conv=>whnf);refine cl [] [] (me s b x.r x.name) ?_;(conv=>whnf);refine ay (fun _=>?_) (fun h=>absurd h a);(conv=>whnf);exact bd (rF 0)
set_option maxHeartbeats 4000000 in
theorem Dv(s:FS)(d:cU s){i:Nat}(hi:i<4)(x:bL)(m:x.r=i):ai Tryz.prog 61 [.c (.ptr 0 0),.st (aI x)] (aQ s) (Rt (.st (bM (pb s i x.name))) (aX (kW s i x.name))):=by
 have g:=og s.L (s.w i) (s.h i);have o:=pz (s.n i) (s.m i) x.name (d.sort i hi) (by have:=d.few i hi;omega);have f:=vR (s:=s) hi (qj (s.n i) (s.m i) x.name (a6 (s.n i) x.name) (s.h i) (d.sort i hi) (d.ids i hi) (d.few i hi) (by have:=d.moves i hi;omega)) (gR _);have f:ai Tryz.prog _ _ (aQ s) (Rt (.c (.int .i64 (fy s i x.name (s.h i)))) (aX (gb s i x.name (s.h i)))):=f;have a:x.r=(i:Nat):=m;by_cases b:s.h i<0
 ·rw[show pb s i x.name=_ from if_pos b,show kW s i x.name=_ from if_pos b];refine an (n:=43) (n0:=32) tabOk Tryz.call61 Tryz.func61 ?_;intro hb
  rcases four hi with rfl|rfl|rfl|rfl<;>(
   (conv=>whnf);refine⟨false,.grow,(.l [0,1,2,3,4,5,6,7,8,9]),by kernel_rfl,.inl ?_⟩;(conv=>whnf);refine⟨_,⟨a,by decide⟩,?_⟩;(conv=>whnf);refine cl [] [] (g) ?_;(conv=>whnf);refine dec (fun _=>?_) (fun h=>absurd b h);(conv=>whnf);exact bd (rF 0))
 ·rw[show pb s i x.name=_ from if_neg b,show kW s i x.name=_ from if_neg b];generalize gb s i x.name (s.h i)=p at f⊢;obtain⟨c,k⟩:∃c,fy s i x.name (s.h i)=c:=⟨_,rfl⟩;rw[k]at f⊢;have j:=jb (s.h i) c;generalize b9 (s.h i) c=e at j⊢;obtain⟨q,r,t⟩:=e;refine an (n:=43) (n0:=32) tabOk Tryz.call61 Tryz.func61 ?_;intro hb
  rcases four hi with rfl|rfl|rfl|rfl<;>(
   (conv=>whnf);refine⟨false,.grow,(.l [0,1,2,3,4,5,6,7,8,9]),by kernel_rfl,.inl ?_⟩;(conv=>whnf);refine⟨_,⟨a,by decide⟩,?_⟩;(conv=>whnf);refine cl [] [] (g) ?_;(conv=>whnf);refine dec (fun h=>absurd h b) (fun _=>?_);(conv=>whnf);refine⟨false,.grow,(.l [0,1,2,3,4,5,6,7,8,9,10,11,12,13,14,15,16,17,18,19,20,22,21,23,24,25]),by kernel_rfl,.inl ?_⟩;(conv=>whnf);refine⟨_,⟨a,by decide⟩,?_⟩;(conv=>whnf);refine⟨_,⟨a,by decide⟩,?_⟩;(conv=>whnf);refine cl [] [] (o) ?_;(conv=>whnf);refine bc (mF 0) (bu 23 (d21++[.box (aI x),.box [.int .i64 0,.int .i64 0,.nil]]) p) f ?_;(conv=>whnf);refine cl [] [] (j) ?_;(conv=>whnf);exact bd (rF 23))
end Go.Nest
end
section
namespace Go.Nest
open Go Go.AM Go.Proofs
open Go.Proofs.YtpechfcbnoggfaaGreatDoor (tab tabOk)
set_option maxRecDepth 100000
theorem uF(s:FS)(a:cU s)(id:Int):ai Tryz.prog 210 [.c (.bp (jI s)),.c (.int .i64 id)] [] (Rt (.aL [(false,[.rw 0]),(false,[.int .i64 (aJ s.L id).2])]) [.row 4 Fi aA (aJ s.L id).1]):=by
 have b:=gT s.L a.pool id;have d:=yZ s.L a.pool (ab s.L id).tree;unfold aJ;generalize ab s.L id=o at b d⊢;refine an (n:=34) (n0:=0) tabOk Tryz.call210 Tryz.func210 ?_;intro hb;(conv=>whnf);refine dec (fun h=>?_) (fun h=>?_)
 ·rw[if_pos h];(conv=>whnf);exact rx [] [.new]
 ·rw[if_neg h];(conv=>whnf);refine cl [] [] (b) ?_;(conv=>whnf);refine⟨false,.grow,(.l [0,1,2,3,4,5,6,7,8,9,10,11,12,13]),by kernel_rfl,.inl ?_⟩;(conv=>whnf);refine cl [] [] (d) ?_;(conv=>whnf);exact rx [] [.same 1]
set_option maxHeartbeats 8000000 in
theorem Fc(s:FS)(g:cU s){i:Nat}(hi:i<4)(x:bL)(w:x.r=i)(hl:cU (s.bN (cJ s.L s.o s.b (i:Nat) x.q (aw s x.q x.name).1))):ai Tryz.prog 63 [.c (.ptr 0 0),.st (aI x)] (aQ s) (Rt (.st (bM (nX s i x.q x.name))) (aX (kr s i x.q x.name))):=by
 have k:=me s g x.q x.name;have m:=vL s g hi x.name
 have t:nX s i x.q x.name=if(aw s x.q x.name).2≠0 then⟨(aw s x.q x.name).2,0,[]⟩else if c8 (s.n i) x.name≠0 then⟨c8 (s.n i) x.name,0,[]⟩else
  if eH s.L s.dep (i:Nat) x.q (aw s x.q x.name).1≠0 then⟨eH s.L s.dep (i:Nat) x.q (aw s x.q x.name).1,0,[]⟩else
  b9 (aw s x.q x.name).1 (fI (s.bN (cJ s.L s.o s.b (i:Nat) x.q (aw s x.q x.name).1)) i x.name (aw s x.q x.name).1):=rfl
 have u:kr s i x.q x.name=if(aw s x.q x.name).2≠0 then s else if c8 (s.n i) x.name≠0 then s else
  if eH s.L s.dep (i:Nat) x.q (aw s x.q x.name).1≠0 then s.bN (cJ s.L s.o s.b (i:Nat) x.q (aw s x.q x.name).1)else
  dA (s.bN (cJ s.L s.o s.b (i:Nat) x.q (aw s x.q x.name).1)) i x.name (aw s x.q x.name).1:=rfl
 rw[t,u];clear t u;generalize aw s x.q x.name=R at k hl⊢;obtain⟨id,p⟩:=R;dsimp only at k hl⊢;have f:=vQ (s:=s) (Fb s.L g.pool s.o s.b g.dW g.own (i:Nat) x.q id) (gR _);have f:ai Tryz.prog _ _ (aQ s) (Rt (.c (.int .i64 (eH s.L s.dep (i:Nat) x.q id))) (aX (s.bN (cJ s.L s.o s.b (i:Nat) x.q id)))):=f;have j:=vq _ hl hi x.name id;have o:=jb id (fI (s.bN (cJ s.L s.o s.b (i:Nat) x.q id)) i x.name id);clear hl;generalize fI (s.bN (cJ s.L s.o s.b (i:Nat) x.q id)) i x.name id=v at j o⊢;generalize dA (s.bN (cJ s.L s.o s.b (i:Nat) x.q id)) i x.name id=z at j⊢;generalize s.bN (cJ s.L s.o s.b (i:Nat) x.q id)=y at f j⊢;generalize eH s.L s.dep (i:Nat) x.q id=r at f⊢;generalize c8 (s.n i) x.name=q at m⊢;generalize b9 id v=e at o⊢;obtain⟨D,E,F⟩:=e;rw[←w]at m f j;refine an (n:=55) (n0:=32) tabOk Tryz.call63 Tryz.func63 ?_;intro hb;(conv=>whnf);refine cl [] [] (k) ?_;(conv=>whnf);refine ay (fun a=>?_) (fun a=>?_)
 ·have a:p≠0:=a;rw[if_pos a,if_pos a];(conv=>whnf);exact bd (rF 0)
 have a:¬p≠0:=fun h=>h a;rw[if_neg a,if_neg a];(conv=>whnf);refine cl [] [] (m) ?_;(conv=>whnf);refine ay (fun b=>?_) (fun b=>?_)
 ·have b:q≠0:=b;rw[if_pos b,if_pos b];(conv=>whnf);exact bd (rF 0)
 have b:¬q≠0:=fun h=>h b;rw[if_neg b,if_neg b];(conv=>whnf);refine⟨false,.grow,(.l [0,1,2,3,4,5,6,7,8,9,10]),by kernel_rfl,.inl ?_⟩;(conv=>whnf);refine bc (mF 0) (bu 23 (d21++[.box (aI x),.box [.int .i64 0,.int .i64 0,.nil]]) y) f ?_;(conv=>whnf);refine ay (fun d=>?_) (fun d=>?_)
 ·have d:r≠0:=d;rw[if_pos d,if_pos d];(conv=>whnf);exact bd (rF 23)
 have d:¬r≠0:=fun h=>h d;rw[if_neg d,if_neg d];(conv=>whnf);refine bc (mF 23) (bu 44 (d21++[.box (aI x),.box [.int .i64 0,.int .i64 0,.nil]]++d21) z) j ?_;(conv=>whnf);refine cl [] [] (o) ?_;(conv=>whnf);exact bd (rF 44)
set_option maxHeartbeats 8000000 in
theorem JO(s:FS)(r:cU s){i:Nat}(hi:i<4)(x:bL)(t:x.r=i)(v:x.path.length≤4000000)(hl:cU (s.az (aP s.L (s.h i) x.path).2.2)):ai Tryz.prog 65 [.c (.ptr 0 0),.st (aI x)] (aQ s) (Rt (.st (bM (sT s i x.path x.name))) (aX (mD s i x.path x.name))):=by
 have m:=og s.L (s.w i) (s.h i);have o:=vL s r hi x.name;have k:=Ib (s:=s) (JR s.L r.pool (s.h i) x.path v) (tX _ _);have f:=vq _ hl hi x.name (aP s.L (s.h i) x.path).1;have j:=jb (aP s.L (s.h i) x.path).1 (fI (s.az (aP s.L (s.h i) x.path).2.2) i x.name (aP s.L (s.h i) x.path).1);unfold sT mD;clear hl;generalize fI (s.az (aP s.L (s.h i) x.path).2.2) i x.name (aP s.L (s.h i) x.path).1=u at f j⊢;generalize dA (s.az (aP s.L (s.h i) x.path).2.2) i x.name (aP s.L (s.h i) x.path).1=y at f⊢;generalize s.az (aP s.L (s.h i) x.path).2.2=w at k f⊢;generalize aP s.L (s.h i) x.path=R at k f j⊢;obtain⟨id,q,z⟩:=R;dsimp only at k f j⊢;generalize c8 (s.n i) x.name=p at o⊢;generalize b9 id u=e at j⊢;obtain⟨D,E,F⟩:=e;have d:x.r=(i:Nat):=t;rw[←t]at o f;by_cases g:s.h i<0
 ·rw[if_pos g,if_pos g];refine an (n:=64) (n0:=32) tabOk Tryz.call65 Tryz.func65 ?_;intro hb
  rcases four hi with rfl|rfl|rfl|rfl<;>(
   (conv=>whnf);refine⟨false,.grow,(.l [0,1,2,3,4,5,6,7,8,9]),by kernel_rfl,.inl ?_⟩;(conv=>whnf);refine⟨_,⟨d,by decide⟩,?_⟩;(conv=>whnf);refine cl [] [] (m) ?_;(conv=>whnf);refine dec (fun _=>?_) (fun h=>absurd g h);(conv=>whnf);exact bd (rF 0))
 rw[if_neg g,if_neg g];refine an (n:=64) (n0:=32) tabOk Tryz.call65 Tryz.func65 ?_;intro hb
 rcases four hi with rfl|rfl|rfl|rfl<;>(
  (conv=>whnf);refine⟨false,.grow,(.l [0,1,2,3,4,5,6,7,8,9]),by kernel_rfl,.inl ?_⟩;(conv=>whnf);refine⟨_,⟨d,by decide⟩,?_⟩;(conv=>whnf);refine cl [] [] (m) ?_;(conv=>whnf);refine dec (fun h=>absurd h g) (fun _=>?_);(conv=>whnf);refine cl [] [] (o) ?_;(conv=>whnf);refine ay (fun a=>?_) (fun a=>?_)
  ·have a:p≠0:=a;rw[if_pos a,if_pos a];(conv=>whnf);exact bd (rF 0)
  have a:¬p≠0:=fun h=>h a;rw[if_neg a,if_neg a];(conv=>whnf);refine⟨false,.grow,(.l [0,1,2,3,4,5,6,7,8,9,10,11,12,13,14,16,17,15,18,19,20,21,22,23]),by kernel_rfl,.inl ?_⟩;(conv=>whnf);refine⟨_,⟨d,by decide⟩,?_⟩;(conv=>whnf);refine cl [] [] (m) ?_;(conv=>whnf);refine bc (mF 0) (bu 23 (d21++[.box (aI x),.box [.int .i64 0,.int .i64 0,.nil]]) w) k ?_;(conv=>whnf);refine ay (fun b=>?_) (fun b=>?_)
  ·have b:q≠0:=b;rw[if_pos b,if_pos b];(conv=>whnf);exact bd (rF 23)
  have b:¬q≠0:=fun h=>h b;rw[if_neg b,if_neg b];(conv=>whnf);refine bc (mF 23) (bu 44 (d21++[.box (aI x),.box [.int .i64 0,.int .i64 0,.nil]]++d21) y) f ?_;(conv=>whnf);refine cl [] [] (j) ?_;(conv=>whnf);exact bd (rF 44))
end Go.Nest
end
section
namespace Go.Nest
open Go Go.AM Go.Proofs
open Go.Proofs.YtpechfcbnoggfaaGreatDoor (tab tabOk)
set_option maxRecDepth 100000
theorem H9{f:FuncId}{rest:List A}{s:FS}{L:List Ob}{l:List Fi}{q:List (List UInt8)}{c:Int}(a:ai Tryz.prog f (.c (.ptr 0 0)::rest) [.box [.rw 1],.row 6 Ob ak s.L] (Rt (.aL [(false,[.rw 3]),(false,[.rw 4]),(false,[.int .i64 c])]) [.box [.rw 2],.dead,.row 6 Ob ak L,.row 4 Fi aA l,.row 1 (List UInt8) encS q]))(hc:lM rest:=by refine⟨fun _ _ _=>?_⟩;repeat' first|exact trivial|exact rfl|refine And.intro ?_ ?_):
  ai Tryz.prog f (.c (.ptr 10 0)::rest) (aQ s) (Rt (.aL [(false,[.rw 53]),(false,[.rw 54]),(false,[.int .i64 c])]) (aX (s.az L)++[.row 4 Fi aA l,.row 1 (List UInt8) encS q])):=by
 refine bU.frame [10,11] ((rP fun i=>bif Nat.beq i 11 then 32 else i)++([.same 33,.same 34]:List Rn)) a ?_ rfl rfl ?_ rfl
 ·exact kg (And.intro rfl (hc.m _ _ _))
 ·exact lA ⟨⟨rfl,rfl,trivial⟩,⟨rfl,rfl,trivial⟩,⟨rfl,rfl,trivial⟩,trivial⟩
def sR:List Rn:=[.same 0,.same 1,.same 2,.same 3,.same 4,.same 5,.same 6,.same 7,.same 8,.same 9,.same 10,.same 11,.same 12,.same 13,.same 14,.same 15,.same 16,.same 17,.same 18,.same 19,.same 20,.same 21,.same 22,.same 23,.same 24,.same 25,.same 26,.same 27,.same 28,.same 29,.same 30,.same 31,.same 32,.same 33,.same 34,.same 35]
def HM(i:Nat)(a b c:List Fi):List B:=[.box [(bif Nat.blt 0 i then .rw 36 else .nil),(bif Nat.blt 1 i then .rw 37 else .nil),(bif Nat.blt 2 i then .rw 38 else .nil)]]
def HN(i:Nat)(a b c:List Fi):List B:=[(bif Nat.blt 0 i then .row 4 Fi aA a else .dead),(bif Nat.blt 1 i then .row 4 Fi aA b else .dead),(bif Nat.blt 2 i then .row 4 Fi aA c else .dead)]
set_option maxHeartbeats 16000000 in
theorem HF(s:FS)(W:cU s){i:Nat}(hi:i<4)(x:bL)(hx:x.r=i)(base id:Int)(hn:s.L.length≤600)(hp:∀l∈[(aJ s.L base).1,(aJ s.L (s.h i)).1,(aJ s.L id).1],∀f∈l,f.path.length≤4000000)
  (hB:ae (au s i base id).L)(ac:∀f∈(au s i base id).out,f.path.length≤4000000)(h2:cU (bX (s.az (au s i base id).L) i (au s i base id).out))(T:cU (bV (bX (s.az (au s i base id).L) i (au s i base id).out) i bz [id])):
  ai Tryz.prog 130 [.c (.ptr 0 0),.st (aI x),.c (.int .i64 base),.c (.int .i64 id)] (aQ s) (Rt (.st (bM (jm s i base id))) (aX (fW s i base id))):=by
 obtain⟨o,K⟩:∃o,s.h i=o:=⟨_,rfl⟩;have hd:ai Tryz.prog 70 [.c (.bp [.bp [.bs 6 Ob ak s.L],.bs 5 It aM (s.w i),.int .i64 (s.h i)])] [] (Rt (.c (.int .i64 o)) []):=by rw[←K];exact og s.L (s.w i) (s.h i)
 have g0:=uF s W base;have g1:=uF s W o;have g2:=uF s W id;have b0:=H9 (s:=s) (Dj s.L W.pool hn (aJ s.L base).1 (aJ s.L (s.h i)).1 (aJ s.L id).1 hp);have J:ai Tryz.prog _ [_,.c (.ls 4 Fi aA (aJ s.L base).1),.c (.ls 4 Fi aA (aJ s.L (s.h i)).1),.c (.ls 4 Fi aA (aJ s.L id).1)] (aQ s) (Rt (.aL [(false,[.rw 53]),(false,[.rw 54]),(false,[.int .i64 (au s i base id).code])]) (aX (s.az (au s i base id).L)++[.row 4 Fi aA (au s i base id).out,.row 1 (List UInt8) encS (au s i base id).cf])):=b0;clear b0;have I:=hp (aJ s.L (s.h i)).1 (by simp);clear hp
 have a:jm s i base id=if(aJ s.L base).2≠0 then⟨(aJ s.L base).2,0,[]⟩else if(aJ s.L (s.h i)).2≠0 then⟨(aJ s.L (s.h i)).2,0,[]⟩else if(aJ s.L id).2≠0 then⟨(aJ s.L id).2,0,[]⟩else
  if(au s i base id).code≠0 then⟨(au s i base id).code,0,[]⟩else if 0<(au s i base id).cf.length then⟨10,0,(au s i base id).cf⟩else
  if eQ (au s i base id).L (au s i base id).out≠0 then⟨eQ (au s i base id).L (au s i base id).out,0,[]⟩else
  kH (bX (s.az (au s i base id).L) i (au s i base id).out) i id:=rfl
 have b:fW s i base id=if(aJ s.L base).2≠0 then s else if(aJ s.L (s.h i)).2≠0 then s else if(aJ s.L id).2≠0 then s else
  if(au s i base id).code≠0 then s.az (au s i base id).L else if 0<(au s i base id).cf.length then s.az (au s i base id).L else
  if eQ (au s i base id).L (au s i base id).out≠0 then bX (s.az (au s i base id).L) i (au s i base id).out else
  kI (bX (s.az (au s i base id).L) i (au s i base id).out) i id (aJ s.L (s.h i)).1:=rfl
 generalize jm s i base id=E at a⊢;generalize fW s i base id=S at b⊢;rw[K]at J a b I;generalize aJ s.L base=R0 at g0 J a b;generalize aJ s.L o=R1 at g1 J a b I;generalize aJ s.L id=R2 at g2 J a b;obtain⟨w,c0⟩:=R0;obtain⟨p,c1⟩:=R1;obtain⟨y,c2⟩:=R2;generalize au s i base id=B at*;obtain⟨F,out,u,c3⟩:=B;dsimp only at*;have N:=lE (s:=s.az F) hi (Ae F hB (s.w i) (s.h i) out ac) (gR _);have y1:ai Tryz.prog _ _ (aQ (s.az F)) (Rt (.c (.int .i64 (eQ F out))) (aX (bX (s.az F) i out))):=N;clear N;generalize eQ F out=c4 at y1 a b;generalize s.az F=s1 at*;generalize bX s1 i out=z at*;have O:=lE (s:=z) hi (yo _ h2.pool _ _ (h2.paths i hi) (h2.items i hi) bz [id] (by simp) (h2.head i hi)) (tX _ _);have y2:ai Tryz.prog _ _ (aQ z) (Rt _ (aX (bV z i bz [id]))):=O;clear O;unfold kH at a;unfold kI at b;generalize bV z i bz [id]=g at*;generalize aH z.L (z.w i) (z.h i) bz [id]=CW at y2 a b;obtain⟨n,c5,L5⟩:=CW;dsimp only at y2 a b;have Q:=lE (s:=g) hi (Ae _ T.pool (g.w i) (g.h i) p I) (gR _);have y3:ai Tryz.prog _ _ (aQ g) (Rt _ (aX (bX g i p))):=Q;clear Q;have R:=vQ (s:=g) (tq g.L T.pool g.o g.b T.dW T.own (i:Int) [n] (by simp)) (gR _);have Y:ai Tryz.prog _ _ (aQ g) (Rt _ (aX (jx g i n))):=R;clear R;generalize bX g i p=s4 at y3 b;generalize jx g i n=s5 at Y b;have y5:=jb n (cI g.L (i:Int) [n]);generalize cI g.L (i:Int) [n]=c6 at Y y5 a;generalize b9 n c6=e at y5 a;obtain⟨e1,e2,e3⟩:=e;generalize eQ g.L p=c7 at y3;have al:x.r=(i:Nat):=hx;rw[←hx]at Y;have hq:Qn i:=trivial;refine an (n:=113) (n0:=32) tabOk Tryz.call130 Tryz.func130 ?_;intro hb
 rcases four hi with rfl|rfl|rfl|rfl<;>(
  (conv=>whnf);refine⟨false,.grow,(.l [0,1,2,3,4,5,6,7,8]),by kernel_rfl,.inl ?_⟩;(conv=>whnf);refine⟨_,⟨al,by decide⟩,?_⟩;(conv=>whnf);refine cl [] [] (hd) ?_;(conv=>whnf);refine⟨[base,o,id],rfl,?_⟩;(conv=>whnf);refine oC (P:=Qn) (q:=_) hq Nat (fun q j=>⟨[(0,.c (.ptr 0 0)),(3,.c (.int .i64 id)),(5,.c (.ptr 32 0)),(8,.c (.ptr 33 0)),(9,.c (.ptr (3+2*q) 0)),(10,.c (.ptr 34 0)),(32,.c (.rw 35)),(33,.c (.int .i64 3)),(34,.c (.int .i64 j))],aQ s++[.box (aI x),.box [.int .i64 0,.int .i64 0,.nil]]++HM j w p y++[.row 1 Int encI [base,o,id]]++HN j w p y⟩) (fun q j=>j≤3∧(0<j→c0=0)∧(1<j→c1=0)∧(2<j→c2=0)) (fun j=>3-j) 0 [] (sR++[.same 0,.same 0,.same 0]) ⟨by decide,fun r=>absurd r (by decide),fun r=>absurd r (by decide),fun r=>absurd r (by decide)⟩ ik (fun j U=>?_);obtain⟨U,H,M,ad⟩:=U;have U:j=0∨j=1∨j=2∨j=3:=by omega
  rcases U with rfl|rfl|rfl|rfl
  ·(conv=>whnf);refine⟨0,⟨rfl,by simp⟩,?_⟩;(conv=>whnf);refine⟨_,rfl,?_⟩;(conv=>whnf);refine cl [] [] (g0) ?_;(conv=>whnf);refine ay (fun h=>?_) (fun h=>?_)
   ·obtain rfl:=a.trans (if_pos h);obtain rfl:=b.trans (if_pos h);(conv=>whnf);exact bd (rF 0)
   (conv=>whnf);refine⟨_,⟨rfl,by decide⟩,?_⟩;repeat'((conv=>whnf);first|(refine dec (fun h=>?_) (fun h=>?_)<;>try contradiction)|(refine ay (fun h=>?_) (fun h=>?_)<;>try contradiction)|refine dV (fun h=>?_) (fun h=>?_)|refine aW (fun h=>?_) (fun h=>?_)|refine⟨i64 (by omega) (by omega),?_⟩|refine⟨_,_,rfl,List.getElem?_eq_getElem (by omega),?_⟩|refine⟨_,⟨rfl,by omega⟩,?_⟩|refine⟨_,List.getElem?_eq_getElem (by omega),?_⟩|refine aG ?_|refine aK ?_|refine eJ ?_ rfl|fail)
   refine ag 1 [] (sR++[.same 39,.same 37,.same 38]) ⟨by decide,fun _=>h,fun r=>absurd r (by decide),fun r=>absurd r (by decide)⟩ (by decide) ?_;exact ik
  ·have d:=H (by decide);(conv=>whnf);refine⟨1,⟨rfl,by simp⟩,?_⟩;(conv=>whnf);refine⟨_,rfl,?_⟩;(conv=>whnf);refine cl [] [] (g1) ?_;(conv=>whnf);refine ay (fun h=>?_) (fun h=>?_)
   ·obtain rfl:=a.trans ((if_neg (fun k=>k d)).trans (if_pos h));obtain rfl:=b.trans ((if_neg (fun k=>k d)).trans (if_pos h));(conv=>whnf);exact bd (rF 0)
   (conv=>whnf);refine⟨_,⟨rfl,by decide⟩,?_⟩;repeat'((conv=>whnf);first|(refine dec (fun h=>?_) (fun h=>?_)<;>try contradiction)|(refine ay (fun h=>?_) (fun h=>?_)<;>try contradiction)|refine dV (fun h=>?_) (fun h=>?_)|refine aW (fun h=>?_) (fun h=>?_)|refine⟨i64 (by omega) (by omega),?_⟩|refine⟨_,_,rfl,List.getElem?_eq_getElem (by omega),?_⟩|refine⟨_,⟨rfl,by omega⟩,?_⟩|refine⟨_,List.getElem?_eq_getElem (by omega),?_⟩|refine aG ?_|refine aK ?_|refine eJ ?_ rfl|fail)
   refine ag 2 [] (sR++[.same 36,.same 39,.same 38]) ⟨by decide,fun _=>d,fun _=>h,fun r=>absurd r (by decide)⟩ (by decide) ?_;exact ik
  ·have d:=H (by decide);have m:=M (by decide);(conv=>whnf);refine⟨2,⟨rfl,by simp⟩,?_⟩;(conv=>whnf);refine⟨_,rfl,?_⟩;(conv=>whnf);refine cl [] [] (g2) ?_;(conv=>whnf);refine ay (fun h=>?_) (fun h=>?_)
   ·obtain rfl:=a.trans ((if_neg (fun k=>k d)).trans ((if_neg (fun k=>k m)).trans (if_pos h)));obtain rfl:=b.trans ((if_neg (fun k=>k d)).trans ((if_neg (fun k=>k m)).trans (if_pos h)));(conv=>whnf);exact bd (rF 0)
   (conv=>whnf);refine⟨_,⟨rfl,by decide⟩,?_⟩;repeat'((conv=>whnf);first|(refine dec (fun h=>?_) (fun h=>?_)<;>try contradiction)|(refine ay (fun h=>?_) (fun h=>?_)<;>try contradiction)|refine dV (fun h=>?_) (fun h=>?_)|refine aW (fun h=>?_) (fun h=>?_)|refine⟨i64 (by omega) (by omega),?_⟩|refine⟨_,_,rfl,List.getElem?_eq_getElem (by omega),?_⟩|refine⟨_,⟨rfl,by omega⟩,?_⟩|refine⟨_,List.getElem?_eq_getElem (by omega),?_⟩|refine aG ?_|refine aK ?_|refine eJ ?_ rfl|fail)
   refine ag 3 [] (sR++[.same 36,.same 37,.same 39]) ⟨by decide,fun _=>d,fun _=>m,fun _=>h⟩ (by decide) ?_;exact ik
  ·have d:=H (by decide);have m:=M (by decide);have t:=ad (by decide);(conv=>whnf);refine⟨false,.grow,(.l [0,1,2,3,4,5,6,7,8,9,10,11,12,13,14,15,16,17,18,19,20]),by kernel_rfl,.inl ?_⟩;(conv=>whnf);refine⟨0,⟨rfl,by decide⟩,?_⟩;(conv=>whnf);refine⟨1,⟨rfl,by decide⟩,?_⟩;(conv=>whnf);refine⟨2,⟨rfl,by decide⟩,?_⟩;(conv=>whnf);refine DK [36,37,38] (mF 0) (aQ s++[.box (aI x),.box [.int .i64 0,.int .i64 0,.nil],.box [.rw 36,.rw 37,.rw 38],.row 1 Int encI [base,o,id],.aV 4 Fi aA w,.aV 4 Fi aA p,.aV 4 Fi aA y]) (bu 28 (d21++[.box (aI x),.box [.int .i64 0,.int .i64 0,.nil],.box [.rw 36,.rw 37,.rw 38],.row 1 Int encI [base,o,id],.aV 4 Fi aA w,.aV 4 Fi aA p,.aV 4 Fi aA y]) s1++[.row 4 Fi aA out,.row 1 (List UInt8) encS u]) J ?_;(conv=>whnf);refine ay (fun h=>?_) (fun D=>?_)
   ·obtain rfl:=a.trans ((if_neg (fun k=>k d)).trans ((if_neg (fun k=>k m)).trans ((if_neg (fun k=>k t)).trans (if_pos h))));obtain rfl:=b.trans ((if_neg (fun k=>k d)).trans ((if_neg (fun k=>k m)).trans ((if_neg (fun k=>k t)).trans (if_pos h))));(conv=>whnf);exact bd (rF 28)
   (conv=>whnf);refine dec (fun h=>?_) (fun v=>?_)
   ·have h:0<u.length:=by have h:(0:Int)<u.length:=h;omega
    obtain rfl:=a.trans ((if_neg (fun k=>k d)).trans ((if_neg (fun k=>k m)).trans ((if_neg (fun k=>k t)).trans ((if_neg (fun k=>k D)).trans (if_pos h)))));obtain rfl:=b.trans ((if_neg (fun k=>k d)).trans ((if_neg (fun k=>k m)).trans ((if_neg (fun k=>k t)).trans ((if_neg (fun k=>k D)).trans (if_pos h)))));(conv=>whnf);exact Jt [61] (rF 28)
   have v:¬0<u.length:=by have v:¬(0:Int)<u.length:=v;omega
   (conv=>whnf);refine bc (mF 28) (bu 51 ((d21++[.box (aI x),.box [.int .i64 0,.int .i64 0,.nil],.box [.rw 36,.rw 37,.rw 38],.row 1 Int encI [base,o,id],.aV 4 Fi aA w,.aV 4 Fi aA p,.aV 4 Fi aA y])++d21++[.row 4 Fi aA out,.row 1 (List UInt8) encS u]) z) y1 ?_;(conv=>whnf);refine ay (fun h=>?_) (fun Z=>?_)
   ·obtain rfl:=a.trans ((if_neg (fun k=>k d)).trans ((if_neg (fun k=>k m)).trans ((if_neg (fun k=>k t)).trans ((if_neg (fun k=>k D)).trans ((if_neg v).trans (if_pos h))))));obtain rfl:=b.trans ((if_neg (fun k=>k d)).trans ((if_neg (fun k=>k m)).trans ((if_neg (fun k=>k t)).trans ((if_neg (fun k=>k D)).trans ((if_neg v).trans (if_pos h))))));(conv=>whnf);exact bd (rF 51)
   (conv=>whnf);refine⟨[id],rfl,?_⟩;(conv=>whnf);refine bc (mF 51) (bu 73 (((d21++[.box (aI x),.box [.int .i64 0,.int .i64 0,.nil],.box [.rw 36,.rw 37,.rw 38],.row 1 Int encI [base,o,id],.aV 4 Fi aA w,.aV 4 Fi aA p,.aV 4 Fi aA y])++d21++[.row 4 Fi aA out,.row 1 (List UInt8) encS u])++d21++[.row 1 Int encI [id]]) g) y2 ?_;(conv=>whnf);refine ay (fun h=>?_) (fun z6=>?_)
   ·obtain rfl:=a.trans ((if_neg (fun k=>k d)).trans ((if_neg (fun k=>k m)).trans ((if_neg (fun k=>k t)).trans ((if_neg (fun k=>k D)).trans ((if_neg v).trans ((if_neg (fun k=>k Z)).trans (if_pos h)))))));obtain rfl:=b.trans ((if_neg (fun k=>k d)).trans ((if_neg (fun k=>k m)).trans ((if_neg (fun k=>k t)).trans ((if_neg (fun k=>k D)).trans ((if_neg v).trans ((if_neg (fun k=>k Z)).trans (if_pos h)))))));(conv=>whnf);refine⟨1,⟨rfl,by decide⟩,?_⟩;(conv=>whnf);refine bc (mF 73) (bu 94 ((((d21++[.box (aI x),.box [.int .i64 0,.int .i64 0,.nil],.box [.rw 36,.rw 37,.rw 38],.row 1 Int encI [base,o,id],.aV 4 Fi aA w,.aV 4 Fi aA p,.aV 4 Fi aA y])++d21++[.row 4 Fi aA out,.row 1 (List UInt8) encS u])++d21++[.row 1 Int encI [id]])++d21) S) y3 ?_;(conv=>whnf);exact bd (rF 94)
   obtain rfl:=a.trans ((if_neg (fun k=>k d)).trans ((if_neg (fun k=>k m)).trans ((if_neg (fun k=>k t)).trans ((if_neg (fun k=>k D)).trans ((if_neg v).trans ((if_neg (fun k=>k Z)).trans (if_neg (fun k=>k z6))))))));obtain rfl:=b.trans ((if_neg (fun k=>k d)).trans ((if_neg (fun k=>k m)).trans ((if_neg (fun k=>k t)).trans ((if_neg (fun k=>k D)).trans ((if_neg v).trans ((if_neg (fun k=>k Z)).trans (if_neg (fun k=>k z6))))))));(conv=>whnf);refine⟨false,.grow,(.l [0,1,2,3,4,5,6,7,8,9,10,11]),by kernel_rfl,.inl ?_⟩;(conv=>whnf);refine⟨[n],rfl,?_⟩;(conv=>whnf);refine bc (mF 73) (bu 95 ((((d21++[.box (aI x),.box [.int .i64 0,.int .i64 0,.nil],.box [.rw 36,.rw 37,.rw 38],.row 1 Int encI [base,o,id],.aV 4 Fi aA w,.aV 4 Fi aA p,.aV 4 Fi aA y])++d21++[.row 4 Fi aA out,.row 1 (List UInt8) encS u])++d21++[.row 1 Int encI [id]])++d21++[.row 1 Int encI [n]]) S) Y ?_;(conv=>whnf);refine cl [] [] (y5) ?_;(conv=>whnf);exact bd (rF 95))
end Go.Nest
end
section
namespace Go.Nest
open Go Go.AM Go.Proofs
open Go.Proofs.YtpechfcbnoggfaaGreatDoor (tab tabOk)
set_option maxRecDepth 100000
theorem Ie{f:FuncId}{rest:List A}{X:A}{s:FS}{r:Nat}(hr:r<4){L:List Ob}(b:ai Tryz.prog f (.c (.ptr 0 0)::rest) [.box [.ptr 1 0,.rw 3,.int .i64 (s.h r)],.box [.rw 2],.row 6 Ob ak s.L,.row 5 It aM (s.w r)] (Rt X [.box [.ptr 1 0,.rw 5,.int .i64 (s.h r)],.box [.rw 4],.dead,.dead,.row 6 Ob ak L,.row 5 It aM (s.w r)]))(a:j4 X)(hc:lM rest:=by refine⟨fun _ _ _=>?_⟩;repeat' first|exact trivial|exact rfl|refine And.intro ?_ ?_):
  ai Tryz.prog f (.c (.ptr (3+2*r) 0)::rest) (aQ s) (Rt X (aX (s.az L))):=by
 refine bU.frame [3+2*r,10,11,28+r] (rP fun i=>bif Nat.beq i 11 then 32 else bif Nat.beq i (28+r)then 33 else i) b ?_ rfl (a.r _) ?_ ?_
 ·rcases four hr with rfl|rfl|rfl|rfl<;>exact kg (And.intro rfl (hc.m _ _ _))
 ·rcases four hr with rfl|rfl|rfl|rfl<;>exact lA (a.m _ _)
 ·rw[a.c];rfl
theorem z8{l:List Int}(h:0<l.length):l[l.length-1]? =some (l.getLastD 0):=by
 rw[←List.getLast?_eq_getElem?,List.getLastD_eq_getLast?];cases l with
 |nil=>simp at h
 |cons a l=>simp[List.getLast?_cons]
theorem Db{L:List Ob}{a b:Int}:(dp L a b).1.length≤L.length:=by
 unfold dp;split
 ·exact Nat.zero_le _
 split
 ·exact Nat.zero_le _
 ·exact Nat.le_trans (List.length_filter_le _ _) (Nat.le_trans (List.length_filter_le _ _) qL)
set_option maxHeartbeats 16000000 in
theorem Hx(s:FS)(K:cU s){i:Nat}(hi:i<4)(x:bL)(Z:x.r=i)(h1:cU (cP s i))
  (d:ai Tryz.prog 130 [.c (.ptr 0 0),.st (aI x),.c (.int .i64 (jN (dp (cP s i).L ((cP s i).h i) (aw s (i:Nat) x.name).1).1)),.c (.int .i64 (aw s (i:Nat) x.name).1)] (aQ (cP s i)) (Rt (.st (bM (jm (cP s i) i (jN (dp (cP s i).L ((cP s i).h i) (aw s (i:Nat) x.name).1).1) (aw s (i:Nat) x.name).1))) (aX (fW (cP s i) i (jN (dp (cP s i).L ((cP s i).h i) (aw s (i:Nat) x.name).1).1) (aw s (i:Nat) x.name).1)))):
  ai Tryz.prog 60 [.c (.ptr 0 0),.st (aI x)] (aQ s) (Rt (.st (bM (pS s i x.name))) (aX (kG s i x.name))):=by
 have M:=me s K (i:Nat) x.name;have F:=Ie (s:=s) hi (ya s.L K.pool (s.w i) (s.h i) (K.paths i hi) (K.items i hi)) (gR _);have U:ai Tryz.prog _ _ (aQ s) (Rt (.c (.int .i64 (ie s i))) (aX (cP s i))):=F;clear F;have f:pS s i x.name=if(aw s (i:Nat) x.name).2≠0 then⟨(aw s (i:Nat) x.name).2,0,[]⟩else if ie s i≠0 then⟨ie s i,0,[]⟩else mj (cP s i) i (aw s (i:Nat) x.name).1:=rfl
 have j:kG s i x.name=if(aw s (i:Nat) x.name).2≠0 then s else if ie s i≠0 then cP s i else jP (cP s i) i (aw s (i:Nat) x.name).1:=rfl
 generalize pS s i x.name=E at f⊢;generalize kG s i x.name=S at j⊢;generalize aw s (i:Nat) x.name=R at M d f j;obtain⟨id,c1⟩:=R;generalize ie s i=c2 at U f j;generalize cP s i=m at h1 d U f j;dsimp only at M d f j;unfold mj at f;unfold jP at j;obtain⟨r,z⟩:∃r,m.h i=r:=⟨_,rfl⟩;have w:ai Tryz.prog 70 [.c (.bp [.bp [.bs 6 Ob ak m.L],.bs 5 It aM (m.w i),.int .i64 (m.h i)])] [] (Rt (.c (.int .i64 r)) []):=by rw[←z];exact og m.L (m.w i) (m.h i)
 have H:=lE (s:=m) hi (x6 m.L h1.pool (m.w i) (m.h i) (h1.paths i hi) (h1.items i hi) id) (gR _);have N:ai Tryz.prog _ _ (aQ m) (Rt (.c (.int .i64 (dG m.L (m.w i) (m.h i) id))) (aX (iq m i id))):=H;clear H;rw[z]at d f j;unfold lF at f;have O:=jb id (dG m.L (m.w i) (m.h i) id);generalize dG m.L (m.w i) (m.h i) id=c3 at N O f;generalize iq m i id=s3 at N j;generalize b9 id c3=e at O f;obtain⟨e1,e2,e3⟩:=e;have p5:=vf m.L h1.pool r id;have W:=vf m.L h1.pool id r;have P:=De m.L h1.pool r id;generalize dv m.L r id=Y at p5 f j;generalize dv m.L id r=IB at W f j;have y:=Db (L:=m.L) (a:=r) (b:=id);have ac:=h1.pool.len;generalize dp m.L r id=BR at P d f j y;obtain⟨q,c4⟩:=BR;dsimp only at P d f j y;obtain⟨o,p⟩:∃o,jN q=o:=⟨_,rfl⟩;rw[p]at d f j;generalize jm m i o id=em at d f;generalize fW m i o id=sm at d j;obtain⟨m1,m2,m3⟩:=em;have T:x.r=(i:Nat):=Z;rw[←Z]at M;refine an (n:=111) (n0:=32) tabOk Tryz.call60 Tryz.func60 ?_;intro hb;(conv=>whnf);refine cl [] [] (M) ?_;(conv=>whnf);refine ay (fun h=>?_) (fun z1=>?_)
 ·obtain rfl:=f.trans (if_pos h);obtain rfl:=j.trans (if_pos h);(conv=>whnf);exact bd (rF 0)
 have f:=f.trans (if_neg (fun k=>k z1));have j:=j.trans (if_neg (fun k=>k z1))
 rcases four hi with rfl|rfl|rfl|rfl<;>(
  (conv=>whnf);refine⟨false,.grow,(.l [0,1,2,3,4,5,6,7,8]),by kernel_rfl,.inl ?_⟩;(conv=>whnf);refine⟨_,⟨T,by decide⟩,?_⟩;(conv=>whnf);refine bc (mF 0) (bu 23 (d21++[.box (aI x),.box [.int .i64 0,.int .i64 0,.nil]]) m) U ?_;(conv=>whnf);refine ay (fun h=>?_) (fun v=>?_)
  ·obtain rfl:=f.trans (if_pos h);obtain rfl:=j.trans (if_pos h);(conv=>whnf);exact bd (rF 23)
  (conv=>whnf);refine⟨false,.grow,(.l [0,1,2,3,4,5,6,7,8,9,10,11,13,12,14,15,16,18,17,19,20,21,22]),by kernel_rfl,.inl ?_⟩;(conv=>whnf);refine cl [] [] (w) ?_;(conv=>whnf);refine dec (fun h=>?_) (fun z3=>?_)
  ·obtain rfl:=f.trans ((if_neg (fun k=>k v)).trans (if_pos (.inl h)));obtain rfl:=j.trans ((if_neg (fun k=>k v)).trans (if_pos (.inl h)));(conv=>whnf);refine bc (mF 23) (bu 44 (d21++[.box (aI x),.box [.int .i64 0,.int .i64 0,.nil]]++d21) S) N ?_;(conv=>whnf);refine cl [] [] (O) ?_;(conv=>whnf);exact bd (rF 44)
  (conv=>whnf);refine cl [] [] (w) ?_;(conv=>whnf);refine cl [] [] (p5) ?_;(conv=>whnf);refine aW (fun J=>?_) (fun J=>?_)
  ·(conv=>whnf);refine cl [] [] (w) ?_;(conv=>whnf);refine ay (fun g=>?_) (fun g=>?_)
   ·obtain rfl:=f.trans ((if_neg (fun k=>k v)).trans (if_pos (.inr ⟨J,g⟩)));obtain rfl:=j.trans ((if_neg (fun k=>k v)).trans (if_pos (.inr ⟨J,g⟩)));(conv=>whnf);refine bc (mF 23) (bu 44 (d21++[.box (aI x),.box [.int .i64 0,.int .i64 0,.nil]]++d21) S) N ?_;(conv=>whnf);refine cl [] [] (O) ?_;(conv=>whnf);exact bd (rF 44)
   ·have D:¬(r<0∨(Y=true∧r≠id)):=fun k=>k.elim z3 (fun k=>k.2 g);have f:=f.trans ((if_neg (fun k=>k v)).trans (if_neg D));have j:=j.trans ((if_neg (fun k=>k v)).trans (if_neg D));(conv=>whnf);refine⟨false,.grow,(.l [0,1,2,3,4,5,6,7,8,9,10,11]),by kernel_rfl,.inl ?_⟩;(conv=>whnf);refine cl [] [] (w) ?_;(conv=>whnf);refine cl [] [] (W) ?_;(conv=>whnf);refine aW (fun t=>?_) (fun t=>?_)
    ·obtain rfl:=f.trans (if_pos t);obtain rfl:=j.trans (if_pos t);(conv=>whnf);exact bd (rF 23)
    have f:=f.trans (if_neg (by rw[t];decide));have j:=j.trans (if_neg (by rw[t];decide));(conv=>whnf);refine⟨false,.grow,(.l [0,1,2,3,4,5,6,7,9,8,10,11,12,13,14,15]),by kernel_rfl,.inl ?_⟩;(conv=>whnf);refine cl [] [] (w) ?_;(conv=>whnf);refine cl [] [] (P) ?_;(conv=>whnf);refine ay (fun h=>?_) (fun I=>?_)
    ·obtain rfl:=f.trans (if_pos h);obtain rfl:=j.trans (if_pos h);(conv=>whnf);exact bd (rF 23)
    obtain rfl:=f.trans (if_neg (fun k=>k I));obtain rfl:=j.trans (if_neg (fun k=>k I));(conv=>whnf);refine dec (fun h=>?_) (fun h=>?_)
    ·have h:0<q.length:=by have h:(0:Int)<q.length:=h;omega
     rw[show o=q.getLastD 0 from p.symm.trans (if_pos h)]at d;have u:=z8 h;generalize q.getLastD 0=Q at d u;(conv=>whnf);refine⟨i64 (by omega) (by omega),?_⟩;(conv=>whnf);refine⟨q.length-1,⟨by omega,by omega⟩,?_⟩;(conv=>whnf);refine⟨Q,u,?_⟩;(conv=>whnf);refine bc (mF 23) (bu 45 (d21++[.box (aI x),.box [.int .i64 0,.int .i64 0,.nil]]++d21++[.row 1 Int encI q]) S) d ?_;(conv=>whnf);exact bd (rF 45)
    ·have h:¬0<q.length:=by have h:¬(0:Int)<q.length:=h;omega
     rw[show o= -1 from p.symm.trans (if_neg h)]at d;(conv=>whnf);refine bc (mF 23) (bu 45 (d21++[.box (aI x),.box [.int .i64 0,.int .i64 0,.nil]]++d21++[.row 1 Int encI q]) S) d ?_;(conv=>whnf);exact bd (rF 45)
  ·have D:¬(r<0∨(Y=true∧r≠id)):=fun k=>k.elim z3 (fun k=>by rw[J]at k;cases k.1);have f:=f.trans ((if_neg (fun k=>k v)).trans (if_neg D));have j:=j.trans ((if_neg (fun k=>k v)).trans (if_neg D));(conv=>whnf);refine⟨false,.grow,(.l [0,1,2,3,4,5,6,7,8,9,10,11]),by kernel_rfl,.inl ?_⟩;(conv=>whnf);refine cl [] [] (w) ?_;(conv=>whnf);refine cl [] [] (W) ?_;(conv=>whnf);refine aW (fun t=>?_) (fun t=>?_)
   ·obtain rfl:=f.trans (if_pos t);obtain rfl:=j.trans (if_pos t);(conv=>whnf);exact bd (rF 23)
   have f:=f.trans (if_neg (by rw[t];decide));have j:=j.trans (if_neg (by rw[t];decide));(conv=>whnf);refine⟨false,.grow,(.l [0,1,2,3,4,5,6,7,9,8,10,11,12,13,14,15]),by kernel_rfl,.inl ?_⟩;(conv=>whnf);refine cl [] [] (w) ?_;(conv=>whnf);refine cl [] [] (P) ?_;(conv=>whnf);refine ay (fun h=>?_) (fun I=>?_)
   ·obtain rfl:=f.trans (if_pos h);obtain rfl:=j.trans (if_pos h);(conv=>whnf);exact bd (rF 23)
   obtain rfl:=f.trans (if_neg (fun k=>k I));obtain rfl:=j.trans (if_neg (fun k=>k I));(conv=>whnf);refine dec (fun h=>?_) (fun h=>?_)
   ·have h:0<q.length:=by have h:(0:Int)<q.length:=h;omega
    rw[show o=q.getLastD 0 from p.symm.trans (if_pos h)]at d;have u:=z8 h;generalize q.getLastD 0=Q at d u;(conv=>whnf);refine⟨i64 (by omega) (by omega),?_⟩;(conv=>whnf);refine⟨q.length-1,⟨by omega,by omega⟩,?_⟩;(conv=>whnf);refine⟨Q,u,?_⟩;(conv=>whnf);refine bc (mF 23) (bu 45 (d21++[.box (aI x),.box [.int .i64 0,.int .i64 0,.nil]]++d21++[.row 1 Int encI q]) S) d ?_;(conv=>whnf);exact bd (rF 45)
   ·have h:¬0<q.length:=by have h:¬(0:Int)<q.length:=h;omega
    rw[show o= -1 from p.symm.trans (if_neg h)]at d;(conv=>whnf);refine bc (mF 23) (bu 45 (d21++[.box (aI x),.box [.int .i64 0,.int .i64 0,.nil]]++d21++[.row 1 Int encI q]) S) d ?_;(conv=>whnf);exact bd (rF 45))
end Go.Nest
end
section
namespace Go.Nest
open Go Go.AM Go.Proofs
open Go.Proofs.YtpechfcbnoggfaaGreatDoor (tab tabOk)
set_option maxRecDepth 100000
set_option maxHeartbeats 4000000 in
theorem EF(s:FS){i:Nat}(hi:i<4)(q:Int)(p n t b:List UInt8)(E:cT)(S:FS)(d:ai Tryz.prog 57 [.c (.ptr 0 0),.st (aI ⟨3,i,q,p,n,t,b⟩)] (aQ s) (Rt (.st (bM E)) (aX S))):ai Tryz.prog 22 [.c (.ptr 0 0),.st (aI ⟨3,i,q,p,n,t,b⟩)] (aQ s) (Rt (.st (bM E)) (aX S)):=by
 have a:=fU i;rw[bZ.2 ⟨i,hi,rfl⟩]at a;obtain⟨e,f,g⟩:=E;refine an (n:=111) (n0:=32) tabOk Tryz.call22 Tryz.func22 ?_;intro hb;(conv=>whnf);refine cl [] [] (a) ?_;(conv=>whnf);refine bc (mF 0) (bu 23 (d21++[.box (aI ⟨3,i,q,p,n,t,b⟩),.box [.int .i64 0,.int .i64 0,.nil]]) S) d ?_;(conv=>whnf);exact bd (rF 23)
set_option maxHeartbeats 4000000 in
theorem EA(s:FS){i:Nat}(hi:i<4)(q:Int)(p n t b:List UInt8)(E:cT)(S:FS)(d:ai Tryz.prog 59 [.c (.ptr 0 0),.st (aI ⟨5,i,q,p,n,t,b⟩)] (aQ s) (Rt (.st (bM E)) (aX S))):ai Tryz.prog 22 [.c (.ptr 0 0),.st (aI ⟨5,i,q,p,n,t,b⟩)] (aQ s) (Rt (.st (bM E)) (aX S)):=by
 have a:=fU i;rw[bZ.2 ⟨i,hi,rfl⟩]at a;obtain⟨e,f,g⟩:=E;refine an (n:=111) (n0:=32) tabOk Tryz.call22 Tryz.func22 ?_;intro hb;(conv=>whnf);refine cl [] [] (a) ?_;(conv=>whnf);refine bc (mF 0) (bu 23 (d21++[.box (aI ⟨5,i,q,p,n,t,b⟩),.box [.int .i64 0,.int .i64 0,.nil]]) S) d ?_;(conv=>whnf);exact bd (rF 23)
set_option maxHeartbeats 4000000 in
theorem EG(s:FS){i:Nat}(hi:i<4)(q:Int)(p n t b:List UInt8)(E:cT)(S:FS)(d:ai Tryz.prog 60 [.c (.ptr 0 0),.st (aI ⟨6,i,q,p,n,t,b⟩)] (aQ s) (Rt (.st (bM E)) (aX S))):ai Tryz.prog 22 [.c (.ptr 0 0),.st (aI ⟨6,i,q,p,n,t,b⟩)] (aQ s) (Rt (.st (bM E)) (aX S)):=by
 have a:=fU i;rw[bZ.2 ⟨i,hi,rfl⟩]at a;obtain⟨e,f,g⟩:=E;refine an (n:=111) (n0:=32) tabOk Tryz.call22 Tryz.func22 ?_;intro hb;(conv=>whnf);refine cl [] [] (a) ?_;(conv=>whnf);refine bc (mF 0) (bu 23 (d21++[.box (aI ⟨6,i,q,p,n,t,b⟩),.box [.int .i64 0,.int .i64 0,.nil]]) S) d ?_;(conv=>whnf);exact bd (rF 23)
set_option maxHeartbeats 4000000 in
theorem Ez(s:FS){i:Nat}(hi:i<4)(q:Int)(p n t b:List UInt8)(E:cT)(S:FS)(d:ai Tryz.prog 61 [.c (.ptr 0 0),.st (aI ⟨7,i,q,p,n,t,b⟩)] (aQ s) (Rt (.st (bM E)) (aX S))):ai Tryz.prog 22 [.c (.ptr 0 0),.st (aI ⟨7,i,q,p,n,t,b⟩)] (aQ s) (Rt (.st (bM E)) (aX S)):=by
 have a:=fU i;rw[bZ.2 ⟨i,hi,rfl⟩]at a;obtain⟨e,f,g⟩:=E;refine an (n:=111) (n0:=32) tabOk Tryz.call22 Tryz.func22 ?_;intro hb;(conv=>whnf);refine cl [] [] (a) ?_;(conv=>whnf);refine bc (mF 0) (bu 23 (d21++[.box (aI ⟨7,i,q,p,n,t,b⟩),.box [.int .i64 0,.int .i64 0,.nil]]) S) d ?_;(conv=>whnf);exact bd (rF 23)
set_option maxHeartbeats 4000000 in
theorem EC(s:FS){i:Nat}(hi:i<4)(q:Int)(p n t b:List UInt8)(E:cT)(S:FS)(d:ai Tryz.prog 62 [.c (.ptr 0 0),.st (aI ⟨8,i,q,p,n,t,b⟩)] (aQ s) (Rt (.st (bM E)) (aX S))):ai Tryz.prog 22 [.c (.ptr 0 0),.st (aI ⟨8,i,q,p,n,t,b⟩)] (aQ s) (Rt (.st (bM E)) (aX S)):=by
 have a:=fU i;rw[bZ.2 ⟨i,hi,rfl⟩]at a;obtain⟨e,f,g⟩:=E;refine an (n:=111) (n0:=32) tabOk Tryz.call22 Tryz.func22 ?_;intro hb;(conv=>whnf);refine cl [] [] (a) ?_;(conv=>whnf);refine bc (mF 0) (bu 23 (d21++[.box (aI ⟨8,i,q,p,n,t,b⟩),.box [.int .i64 0,.int .i64 0,.nil]]) S) d ?_;(conv=>whnf);exact bd (rF 23)
set_option maxHeartbeats 4000000 in
theorem ED(s:FS){i:Nat}(hi:i<4)(q:Int)(p n t b:List UInt8)(E:cT)(S:FS)(d:ai Tryz.prog 63 [.c (.ptr 0 0),.st (aI ⟨9,i,q,p,n,t,b⟩)] (aQ s) (Rt (.st (bM E)) (aX S))):ai Tryz.prog 22 [.c (.ptr 0 0),.st (aI ⟨9,i,q,p,n,t,b⟩)] (aQ s) (Rt (.st (bM E)) (aX S)):=by
 have a:=fU i;rw[bZ.2 ⟨i,hi,rfl⟩]at a;obtain⟨e,f,g⟩:=E;refine an (n:=111) (n0:=32) tabOk Tryz.call22 Tryz.func22 ?_;intro hb;(conv=>whnf);refine cl [] [] (a) ?_;(conv=>whnf);refine bc (mF 0) (bu 23 (d21++[.box (aI ⟨9,i,q,p,n,t,b⟩),.box [.int .i64 0,.int .i64 0,.nil]]) S) d ?_;(conv=>whnf);exact bd (rF 23)
set_option maxHeartbeats 4000000 in
theorem EJ(s:FS){i:Nat}(hi:i<4)(q:Int)(p n t b:List UInt8)(E:cT)(S:FS)(d:ai Tryz.prog 65 [.c (.ptr 0 0),.st (aI ⟨12,i,q,p,n,t,b⟩)] (aQ s) (Rt (.st (bM E)) (aX S))):ai Tryz.prog 22 [.c (.ptr 0 0),.st (aI ⟨12,i,q,p,n,t,b⟩)] (aQ s) (Rt (.st (bM E)) (aX S)):=by
 have a:=fU i;rw[bZ.2 ⟨i,hi,rfl⟩]at a;obtain⟨e,f,g⟩:=E;refine an (n:=111) (n0:=32) tabOk Tryz.call22 Tryz.func22 ?_;intro hb;(conv=>whnf);refine cl [] [] (a) ?_;(conv=>whnf);refine bc (mF 0) (bu 23 (d21++[.box (aI ⟨12,i,q,p,n,t,b⟩),.box [.int .i64 0,.int .i64 0,.nil]]) S) d ?_;(conv=>whnf);exact bd (rF 23)
set_option maxHeartbeats 4000000 in
theorem EI(s:FS)(j:cU s){i:Nat}(hi:i<4){r:Int}(hr:r=i)(q:Int)(p n t b:List UInt8):ai Tryz.prog 22 [.c (.ptr 0 0),.st (aI ⟨2,r,q,p,n,t,b⟩)] (aQ s) (Rt (.st (bM (sK s i p))) (aX (sM s i p))):=by
 have f:=fU r;rw[bZ.2 ⟨i,hi,hr⟩]at f;have a:=lE (s:=s) hi (IT s.L (s.w i) (s.h i) p (j.items i hi)) (gR _);obtain⟨c,d⟩:∃c,(fZ (s.w i) p).1=c:=⟨_,rfl⟩;rw[d]at a;have g:ai Tryz.prog _ _ (aQ s) (Rt _ (aX (sM s i p))):=a;clear a;have h:=jb 0 c;rw[show sK s i p=b9 0 c by unfold sK;rw[d]];generalize b9 0 c=e at h⊢;obtain⟨m,o,u⟩:=e;generalize sM s i p=k at g⊢;refine an (n:=111) (n0:=32) tabOk Tryz.call22 Tryz.func22 ?_;intro hb;(conv=>whnf);refine cl [] [] (f) ?_
 rcases four hi with rfl|rfl|rfl|rfl<;>(
  (conv=>whnf);refine⟨false,.grow,(.l [0,1,2,3,4,5,6,7,8,9,10,11,12]),by kernel_rfl,.inl ?_⟩;(conv=>whnf);refine⟨_,⟨hr,by decide⟩,?_⟩;(conv=>whnf);refine bc (mF 0) (bu 23 (d21++[.box (aI ⟨2,r,q,p,n,t,b⟩),.box [.int .i64 0,.int .i64 0,.nil]]) k) g ?_;(conv=>whnf);refine cl [] [] (h) ?_;(conv=>whnf);exact bd (rF 23))
set_option maxHeartbeats 4000000 in
theorem Ey(s:FS)(j:cU s){i:Nat}(hi:i<4)(q:Int)(p n t b:List UInt8):ai Tryz.prog 22 [.c (.ptr 0 0),.st (aI ⟨10,(i:Nat),q,p,n,t,b⟩)] (aQ s) (Rt (.st (bM (o8 s i q))) (aX (o9 s i q))):=by
 have f:=fU i;rw[bZ.2 ⟨i,hi,rfl⟩]at f;have a:=Ia (s:=s) (Ds s.L s.o s.b j.dW (i:Nat) q) (gR _);obtain⟨c,d⟩:∃c,dX s.b (i:Nat) q=c:=⟨_,rfl⟩;rw[d]at a;have g:ai Tryz.prog _ _ (aQ s) (Rt _ (aX (o9 s i q))):=a;clear a;have h:=jb 0 c;rw[show o8 s i q=b9 0 c by unfold o8;rw[d]];generalize b9 0 c=e at h⊢;obtain⟨m,o,r⟩:=e;generalize o9 s i q=k at g⊢;refine an (n:=111) (n0:=32) tabOk Tryz.call22 Tryz.func22 ?_;intro hb;(conv=>whnf);refine cl [] [] (f) ?_;(conv=>whnf);refine⟨false,.grow,(.l [0,1,2,3,4,5,6,7,8,9,10]),by kernel_rfl,.inl ?_⟩;(conv=>whnf);refine bc (mF 0) (bu 23 (d21++[.box (aI ⟨10,(i:Nat),q,p,n,t,b⟩),.box [.int .i64 0,.int .i64 0,.nil]]) k) g ?_;(conv=>whnf);refine cl [] [] (h) ?_;(conv=>whnf);exact bd (rF 23)
theorem EE(s:FS)(x:bL)(h:x.kind<1∨12<x.kind):ai Tryz.prog 22 [.c (.ptr 0 0),.st (aI x)] (aQ s) (Rt (.st (bM ⟨6,0,[]⟩)) (aX s)):=by
 refine an (n:=111) (n0:=32) tabOk Tryz.call22 Tryz.func22 ?_;intro hb;(conv=>whnf);refine dec (fun a=>?_) (fun a=>?_)
 ·(conv=>whnf);exact bd (rF 0)
 ·(conv=>whnf);refine dec (fun b=>?_) (fun b=>?_)
  ·(conv=>whnf);exact bd (rF 0)
  ·exact absurd (h.resolve_left a) b
theorem EH(s:FS)(x:bL)(h:¬(x.kind<1∨12<x.kind))(hr:bw x.r=false):ai Tryz.prog 22 [.c (.ptr 0 0),.st (aI x)] (aQ s) (Rt (.st (bM ⟨1,0,[]⟩)) (aX s)):=by
 have d:=fU x.r;rw[hr]at d;refine an (n:=111) (n0:=32) tabOk Tryz.call22 Tryz.func22 ?_;intro hb;(conv=>whnf);refine dec (fun a=>absurd (.inl a) h) (fun a=>?_);(conv=>whnf);refine dec (fun b=>absurd (.inr b) h) (fun b=>?_);(conv=>whnf);refine cl [] [] (d) ?_;(conv=>whnf);exact bd (rF 0)
end Go.Nest
end
section
namespace Go.Nest
open Go Go.AM
variable {L0:List Ob}
structure WI(L:List Ob)(l:List It)(h:Int):Prop where
 ok:gQ l
 mS:∀y∈l,y.bytes.length≤400
 dN:∀y∈l,0≤y.ar∧y.ar<4
 nb:NB l
 head:iD L h
theorem WI.ext{L M:List Ob}{l:List It}{h:Int}(a:WI L l h)(b:L<+:M):WI M l h:=⟨a.ok,a.mS,a.dN,a.nb,a.head.ext b⟩
theorem WI.nil(L:List Ob):WI L [] (-1):=⟨.nil,fun y h=>(by cases h),fun y h=>(by cases h),fun y h=>(by cases h),.inl (by decide)⟩
structure FI(L0:List Ob)(s:FS)(n:Nat):Prop where
 pool:ae s.L
 dW:mL s.b
 own:∀k,k<4→(s.o k).length≤s.L.length
 refs:∀k,k<4→gP (s.n k) (s.m k)
 mov:∀k,k<4→(s.m k).length≤n
 work:∀k,k<4→WI s.L (s.w k) (s.h k)
 pre:L0<+:s.L
theorem FI.wf{s:FS}{n:Nat}(h:FI L0 s n)(hn:n≤990):cU s where
 pool:=h.pool
 dW:=h.dW.ok
 own:=fun k a=>by have:=h.own k a;have:=h.pool.len;omega
 sort:=fun k a=>(h.refs k a).inv.sort
 ids:=fun k a=>(h.refs k a).inv.ids
 few:=fun k a=>(h.refs k a).inv.len
 moves:=fun k a=>by have:=h.mov k a;omega
 paths:=fun k a y b=>by have:=Iv ((h.work k a).ok.path y b);omega
 items:=fun k a=>(h.work k a).ok.len
 bytes:=fun k a=>(h.work k a).mS
 head:=fun k a=>(h.work k a).head
theorem FI.nil:FI [] eb 0:=⟨.nil,.nil,fun k a=>Nat.zero_le _,fun k a=>.nil,fun k a=>Nat.zero_le _,fun k a=>WI.nil _,List.prefix_refl _⟩
theorem FI.up{s:FS}{n m:Nat}(h:FI L0 s n)(hm:n≤m):FI L0 s m:=⟨h.pool,h.dW,h.own,h.refs,fun k a=>Nat.le_trans (h.mov k a) hm,h.work,h.pre⟩
theorem fC{α:Type}{o:Nat→α}{k j:Nat}{v:α}:ax o k v j=if j=k then v else o j:=by
 split
 ·rename_i e;rw[e,ee]
 ·rename_i e;rw[iy e]
theorem FI.c9{s:FS}{n r:Nat}(h:FI L0 s n){M:List Ob}{l:List It}{hd:Int}(c:ae M)(b:s.L<+:M)(d:WI M l hd):FI L0 (s.c9 r M l hd) n:=
 ⟨c,h.dW,fun k a=>Nat.le_trans (h.own k a) b.length_le,h.refs,h.mov,fun k a=>by
  show WI M (ax s.w r l k) (ax s.h r hd k);rw[fC,fC];split
  ·exact d
  ·exact(h.work k a).ext b,h.pre.trans b⟩
theorem FI.gH{s:FS}{n r:Nat}(h:FI L0 s n)(name:List UInt8)(old id:Int):FI L0 (s.gH r (az (s.n r) name old id) (fA (s.n r) (s.m r) name old id)) (n+1):=
 ⟨h.pool,h.dW,h.own,fun k a=>by
  show gP (ax s.n r _ k) (ax s.m r _ k);rw[fC,fC];have:=h.refs k a;split
  ·rename_i e;rw[←e];unfold az fA;split
   ·exact .snoc this ‹_›
   ·exact this
  ·exact this,fun k a=>by
  show(ax s.m r _ k).length≤_;rw[fC];have:=h.mov k a;split
  ·rename_i e;rw[←e];unfold fA;split
   ·rw[List.length_append,List.length_singleton];omega
   ·omega
  ·omega,h.work,h.pre⟩
theorem FI.bN{s:FS}{n:Nat}(h:FI L0 s n){o:Nat→List Bool}(ho:∀k,k<4→(o k).length≤s.L.length):FI L0 (s.bN o) n:=⟨h.pool,h.dW,ho,h.refs,h.mov,h.work,h.pre⟩
theorem FI.az{s:FS}{n:Nat}(h:FI L0 s n){M:List Ob}(c:ae M)(b:s.L<+:M):FI L0 (s.az M) n:=
 ⟨c,h.dW,fun k a=>Nat.le_trans (h.own k a) b.length_le,h.refs,h.mov,fun k a=>(h.work k a).ext b,h.pre.trans b⟩
theorem WI.put{L:List Ob}{l:List It}{h:Int}(c:WI L l h){x:It}(hb:x.bytes.length≤400)(hr:0≤x.ar∧x.ar<4)(hn:x.link=true→x.bytes=[]):WI L (eT l x).2 h:=by
 obtain⟨a,b⟩:=Bm c.ok x;refine⟨a,fun y hy=>?_,fun y hy=>?_,fun y hy=>?_,c.head⟩<;>rcases b y hy with rfl|hy
 ·exact hb
 ·exact c.mS y hy
 ·exact hr
 ·exact c.dN y hy
 ·exact hn
 ·exact c.nb y hy
theorem WI.wr{L:List Ob}{l:List It}{h:Int}(a:WI L l h)(p b:List UInt8):WI L (fN l p b).2 h:=by
 unfold fN;split
 ·exact a
 ·exact a.put (by show b.length≤400;omega) ⟨Int.le_refl 0,(by decide:(0:Int)<4)⟩ fun h=>by cases h
theorem WI.li{L:List Ob}{l:List It}{h:Int}(a:WI L l h)(p:List UInt8)(q id:Int):WI L (fp L l p q id).2 h:=by
 unfold fp;split
 ·exact a
 split
 ·exact a
 ·exact a.put (Nat.zero_le _) (by show 0≤q∧q<4;omega) fun _=>rfl
theorem WI.rem{L:List Ob}{l:List It}{h:Int}(c:WI L l h)(p:List UInt8):WI L (fZ l p).2 h:=by
 obtain⟨a,b⟩:=Bv c.ok p;exact⟨a,fun y d=>c.mS y (b y d),fun y d=>c.dN y (b y d),fun y d=>c.nb y (b y d),c.head⟩
theorem cS.ar{ne:Bool}{L:List Ob}(n:ae L){es:List aF}{l:List Fi}(h:cS ne L es l):(∀e∈es,iC L e)→∀f∈l,0≤f.ar∧f.ar<4:=by
 induction h with
 |nil=>intro _ f hf;cases hf
 | @file e es l j h ih=>
  intro a f hf;rcases List.mem_cons.1 hf with rfl|hf
  ·exact(a e (by simp)).ar
  ·exact ih (fun x b=>a x (by simp[b])) f hf
 | @dir e es m l j i k o h c ih=>
  intro a f hf;rcases List.mem_append.1 hf with hf|hf
  ·obtain⟨g,d,rfl⟩:=List.mem_map.1 hf;exact c (gg n i).2 g d
  ·exact ih (fun x b=>a x (by simp[b])) f hf
theorem Af{ne:Bool}{M:List Ob}{fs:List Fi}{t h:Int}(c:ae M)(d:fk ne M t fs)(i:∀f∈fs,(aD f.path).length≤8)(hl:fs.length≤60)(g:iD M h):WI M (fs.map (ca M)) h:=by
 obtain⟨a,b⟩:=sX c c d i hl;refine⟨a,b,fun y j=>?_,GR _ _,g⟩;obtain⟨f,e,rfl⟩:=List.mem_map.1 j;have:=d.2.ar c (gg c d.1).2 f e;unfold ca;split
 ·exact this
 ·exact⟨Int.le_refl 0,(by decide:(0:Int)<4)⟩
theorem GQ{L:List Ob}(e:ae L){l:List It}{h:Int}(g:WI L l h)(fs:List Fi):WI (bC L fs).2.2 (ji L l fs) h:=by
 obtain⟨a,b⟩:=ib e fs;by_cases c:(bC L fs).2.1=0
 ·obtain⟨d,i⟩:=pd e c;rw[show ji L l fs=fs.map (ca (bC L fs).2.2)from if_neg (fun h=>h c)];exact Af a i (fun f j=>(ny ((jG d).2 f j).1).2.1) (jG d).1 (g.head.ext b)
 ·rw[show ji L l fs=l from if_pos c];exact g.ext b
theorem DV{L:List Ob}(p:ae L){l:List It}{h:Int}(q:WI L l h)(id:Int):WI (eN L l id) (iH L l h id) (ig L l h id):=by
 obtain⟨a,b⟩:=nR (l:=l) (id:=id) p;by_cases d:dG L l h id=0
 ·have e:kindOf L id=3:=by
   by_cases e:kindOf L id=3
   ·exact e
   ·rw[(uc (h:=h) (l:=l) e).1]at d;cases d
  have c:eD L l h=0:=by
   by_cases c:eD L l h=0
   ·exact c
   ·rw[(ua (h:=h) (l:=l) e c).1]at d;exact absurd d c
  obtain⟨k,f,g,i⟩:=ub (h:=h) (l:=l) e c;have j:(cK (aE L l).2.2 (ab L id).tree).2=0:=k▸d;rw[if_neg (fun h=>h j)]at g i;rw[f]at a b;obtain⟨m,n,o⟩:=uG a j;rw[f,g,i];exact Af a m o n (iD.ext (.inr e) b)
 ·rw[show iH L l h id=l from if_pos d,show ig L l h id=h from if_pos d];exact q.ext b
theorem FI.vp{s:FS}{n r:Nat}(h:FI L0 s n)(name:List UInt8)(id:Int):FI L0 (gb s r name id) (n+1):=h.gH name _ _
theorem CS{L:List Ob}{o:Nat→List Bool}{b:Nat→List Int}{r:Nat}{ids:List Int}(h:(o r).length≤L.length):(lR L o b r ids).length≤L.length:=by
 unfold lR fc;rw[nr,List.length_append,List.length_replicate];omega
theorem xg{L:List Ob}{o:Nat→List Bool}{b:Nat→List Int}(h:∀k,k<4→(o k).length≤L.length)(r:Int)(ids:List Int):∀k,k<4→(dE L o b r ids k).length≤L.length:=fun k a=>by
 unfold dE;split
 ·exact h k a
 ·rw[fC];split
  ·rename_i e;rw[←e];exact CS (h k a)
  ·exact h k a
theorem FI.jx{s:FS}{n r:Nat}(h:FI L0 s n)(id:Int):FI L0 (jx s r id) n:=h.bN (xg h.own _ _)
theorem FI.dA{s:FS}{n r:Nat}(h:FI L0 s n)(name:List UInt8)(id:Int):FI L0 (dA s r name id) (n+1):=by
 unfold Go.Nest.dA;split
 ·exact h.vp name id
 ·exact(h.vp name id).jx id
theorem FI.bV{s:FS}{n r:Nat}(h:FI L0 s n)(hr:r<4)(text:List UInt8)(others:List Int):FI L0 (bV s r text others) n:=by
 obtain⟨a,b⟩:=kY (l:=s.w r) (h:=s.h r) (text:=text) (others:=others) h.pool;have c:=h.work r hr;exact h.c9 a b ⟨c.ok,c.mS,c.dN,c.nb,DX h.pool c.head _ _⟩
theorem FI.iq{s:FS}{n r:Nat}(h:FI L0 s n)(hr:r<4)(id:Int):FI L0 (iq s r id) n:=by
 obtain⟨a,b⟩:=nR (l:=s.w r) (id:=id) h.pool;exact h.c9 a b (DV h.pool (h.work r hr) id)
theorem FI.bX{s:FS}{n r:Nat}(h:FI L0 s n)(hr:r<4)(l:List Fi):FI L0 (bX s r l) n:=by
 obtain⟨a,b⟩:=ib h.pool l;exact h.c9 a b (GQ h.pool (h.work r hr) l)
theorem FI.cP{s:FS}{n r:Nat}(h:FI L0 s n):FI L0 (cP s r) n:=by
 obtain⟨a,b⟩:=eV (l:=s.w r) h.pool;exact h.az a b
theorem nW{s:FS}{n:Nat}(h:FI L0 s n)(r q id:Int):∀k,k<4→(cJ s.L s.o s.b r q id k).length≤s.L.length:=fun k a=>by
 unfold cJ;split
 ·exact h.own k a
 split
 ·exact h.own k a
 ·exact xg h.own _ _ k a
theorem BK{base x y:List Fi}:∀(a:List (List UInt8)) (s:BS),s.L<+:(cu base x y s a).L
 |[],s=>List.prefix_refl _
 |q::a,s=>by
  refine List.IsPrefix.trans ?_ (BK a (fg base x y s q));show s.L<+:jT s.L _ _ _;unfold jT;split
  ·exact List.prefix_refl _
  split
  ·exact List.prefix_refl _
  unfold iQ;split
  ·exact List.prefix_refl _
  ·exact dS _
theorem lV{L:List Ob}(a:ae L)(base x y:List Fi):ae (dh L base x y).L∧L<+:(dh L base x y).L:=by
 have h:=(wy (base:=base) (x:=x) (y:=y) (cN [base,x,y]) (s:=⟨L,[],[],0⟩) (n:=0) ⟨a,a.len,Nat.le_refl _,Nat.le_refl _⟩).L;have b:=BK (base:=base) (x:=x) (y:=y) (cN [base,x,y]) ⟨L,[],[],0⟩;unfold dh;split
 ·exact⟨a,List.prefix_refl _⟩
 dsimp only;generalize (if(cu base x y ⟨L,[],[],0⟩ (cN [base,x,y])).code=0 then cq (cu base x y ⟨L,[],[],0⟩ (cN [base,x,y])).out else(cu base x y ⟨L,[],[],0⟩ (cN [base,x,y])).code)=c;split
 ·exact⟨h,b⟩
 ·exact⟨h,b⟩
theorem Dm{L:List Ob}{base x y:List Fi}(b:∀l∈[base,x,y],∀f∈l,f.path.length≤4000000):∀f∈(dh L base x y).out,f.path.length≤4000000:=by
 unfold dh;split
 ·intro f a;cases a
 dsimp only;generalize (if(cu base x y ⟨L,[],[],0⟩ (cN [base,x,y])).code=0 then cq (cu base x y ⟨L,[],[],0⟩ (cN [base,x,y])).out else(cu base x y ⟨L,[],[],0⟩ (cN [base,x,y])).code)=c;split
 ·intro f a;cases a
 ·exact wz (b x (by simp)) (b y (by simp)) _ _ (fun q g=>by
   obtain⟨l,d,f,e,rfl⟩:=Bb g;exact b l d f e) fun f a=>by cases a
theorem Ff{L:List Ob}(a:ae L)(id:Int):∀f∈(aJ L id).1,f.path.length≤4000000:=by
 unfold aJ;split
 ·intro f b;cases b
 ·exact(Fl a _).2
theorem FI.nN{s:FS}{n:Nat}(h:FI L0 s n)(r:Nat)(base id:Int):FI L0 (s.az (au s r base id).L) n:=by
 obtain⟨a,b⟩:=lV h.pool (aJ s.L base).1 (aJ s.L (s.h r)).1 (aJ s.L id).1;exact h.az a b
theorem FI.mix{s:FS}{n r:Nat}(h:FI L0 s n)(hr:r<4)(base id:Int):FI L0 (fW s r base id) n:=by
 have b:=h.nN r base id;have a:=b.bX hr (au s r base id).out;unfold fW;repeat' split
 any_goals first|exact h|exact b|exact a
 unfold kI;split
 ·exact(a.bV hr _ _).bX hr _
 ·exact(a.bV hr _ _).jx _
theorem FI.merge{s:FS}{n r:Nat}(h:FI L0 s n)(hr:r<4)(name:List UInt8):FI L0 (kG s r name) n:=by
 have a:=h.cP (r:=r);unfold kG jP;repeat' split
 any_goals first|exact h|exact a
 ·exact a.iq hr _
 ·exact a.mix hr _ _
theorem nw{L:List Ob}(a:ae L)(id:Int)(dir:List UInt8):ae (aP L id dir).2.2∧L<+:(aP L id dir).2.2:=by
 unfold aP;split
 ·exact⟨a,List.prefix_refl _⟩
 split
 ·exact qn a
 ·exact qn a
theorem av{α:Type}{P:α→Prop}{c:Prop}{i:Decidable c}{a b:α}(h1:c→P a)(h2:¬c→P b):P (if c then a else b):=by
 by_cases h:c
 ·rw[if_pos h];exact h1 h
 ·rw[if_neg h];exact h2 h
theorem FI.step{s:FS}{n:Nat}(h:FI L0 s n)(x:bL):FI L0 (cw s x) (n+1):=by
 have a:=h.up (Nat.le_succ n);unfold cw;refine av (P:=fun t=>FI L0 t (n+1)) (fun _=>a) (fun _=>av (P:=fun t=>FI L0 t (n+1)) (fun _=>a) (fun j=>?_));obtain⟨i,c,e⟩:=(bZ (r:=x.r)).1 (by cases q:bw x.r;exact absurd q j;rfl);have e:x.r.toNat=i:=by omega
 rw[e];have d:=h.work i c;have b:=nw h.pool (s.h i) x.path;refine av (P:=fun t=>FI L0 t (n+1)) (fun _=>?_) (fun _=>av (P:=fun t=>FI L0 t (n+1)) (fun _=>?_) (fun _=>av (P:=fun t=>FI L0 t (n+1)) (fun _=>?_) (fun _=>av (P:=fun t=>FI L0 t (n+1)) (fun _=>?_) (fun _=>av (P:=fun t=>FI L0 t (n+1)) (fun _=>?_) (fun _=>av (P:=fun t=>FI L0 t (n+1)) (fun _=>?_) (fun _=>av (P:=fun t=>FI L0 t (n+1)) (fun _=>?_) (fun _=>av (P:=fun t=>FI L0 t (n+1)) (fun _=>?_) (fun _=>av (P:=fun t=>FI L0 t (n+1)) (fun _=>?_) (fun _=>av (P:=fun t=>FI L0 t (n+1)) (fun _=>?_) (fun _=>av (P:=fun t=>FI L0 t (n+1)) (fun _=>?_) (fun _=>?_)))))))))))
 ·exact a.c9 h.pool (List.prefix_refl _) (d.wr _ _)
 ·exact a.c9 h.pool (List.prefix_refl _) (d.rem _)
 ·unfold lB;split
  ·exact a
  ·exact a.c9 h.pool (List.prefix_refl _) (d.li _ _ _)
 ·unfold kh;repeat' split
  ·exact a
  ·exact a.bV c _ _
  ·exact(h.bV c _ _).dA _ _
 ·unfold jA;split
  ·exact a
  ·exact a.iq c _
 ·exact a.merge c _
 ·unfold kW;split
  ·exact a
  ·exact h.vp _ _
 ·unfold kZ;split
  ·exact a
  ·exact h.gH _ _ _
 ·unfold kr;have f:=h.bN (nW h i x.q (aw s x.q x.name).1);repeat' split
  ·exact a
  ·exact a
  ·exact f.up (Nat.le_succ n)
  ·exact f.dA _ _
 ·exact⟨h.pool,h.dW.dW _ _,h.own,h.refs,a.mov,h.work,h.pre⟩
 ·unfold mD;repeat' split
  ·exact a
  ·exact a
  ·exact a.az b.1 b.2
  ·exact(h.az b.1 b.2).dA _ _
 ·exact a.bN fun k g=>by
   show(mI _ (s.o k)).length≤_;rw[J9];exact h.own k g
end Go.Nest
end
