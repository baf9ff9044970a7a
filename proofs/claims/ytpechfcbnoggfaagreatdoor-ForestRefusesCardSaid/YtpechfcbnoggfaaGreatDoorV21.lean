/- part -/
import Derived.Test.YtpechfcbnoggfaaGreatDoorAmH
import Derived.Test.YtpechfcbnoggfaaGreatDoorK13
import Derived.Test.YtpechfcbnoggfaaGreatDoorU3
import Derived.Test.YtpechfcbnoggfaaGreatDoorB9
import Derived.Test.YtpechfcbnoggfaaGreatDoorW4
import Derived.Test.YtpechfcbnoggfaaGreatDoorU0
import Derived.Test.YtpechfcbnoggfaaGreatDoorV1
import Derived.Test.YtpechfcbnoggfaaGreatDoorG9
import Derived.Test.YtpechfcbnoggfaaGreatDoorD4
import Derived.Test.YtpechfcbnoggfaaGreatDoorN1
import Derived.Test.YtpechfcbnoggfaaGreatDoorN6
set_option linter.unusedVariables false
set_option linter.unusedSimpArgs false
section
namespace Go.Nest
open Go Go.AM
structure cg(s:FS):Prop where
 pool:aj s.L
 dX:gM s.b
 own:∀k,k<4→(s.o k).length≤1000000
 sort:∀k,k<4→dC (s.n k)
 ids:∀k,k<4→∀x∈s.n k,0≤x.id
 few:∀k,k<4→(s.n k).length≤8
 moves:∀k,k<4→(s.m k).length≤990
 paths:∀k,k<4→∀y∈s.w k,y.path.length≤4000000
 items:∀k,k<4→(s.w k).length≤60
 bytes:∀k,k<4→∀y∈s.w k,y.bytes.length≤400
 head:∀k,k<4→fM s.L (s.h k)
def aD(s:FS)(r:Int)(name:List UInt8):Int×Int:=if bh r=false then(0,1)else if bt (s.n r.toNat) name<0 then(0,9)else(bt (s.n r.toNat) name,0)
def dy(l:List Rf):List Rf×List Mv:=l.foldl (fun p y=>(aL p.1 y.name (-1) y.id,fc p.1 p.2 y.name (-1) y.id)) ([],[])
def dj(l:List Rf)(name:List UInt8):Int:=cW (dy l).1 name (bt (dy l).1 name) 600
def fa(s:FS)(r:Nat)(name:List UInt8)(id:Int):Int:=cW (s.n r) name (bt (s.n r) name) id
def ga(s:FS)(r:Nat)(name:List UInt8)(id:Int):FS:=s.hU r (aL (s.n r) name (bt (s.n r) name) id) (fc (s.n r) (s.m r) name (bt (s.n r) name) id)
noncomputable def iu(s:FS)(r:Nat)(id:Int):FS:=s.cG (dn s.L s.o s.b r [id])
def eJ(s:FS)(r:Nat)(name:List UInt8)(id:Int):Int:=if fa s r name id≠0∧fa s r name id≠17 then fa s r name id else cI s.L r [id]
noncomputable def ei(s:FS)(r:Nat)(name:List UInt8)(id:Int):FS:=if fa s r name id≠0∧fa s r name id≠17 then ga s r name id else iu (ga s r name id) r id
def oU(s:FS)(r:Nat)(p b:List UInt8):ck:=bV 0 (gK (s.w r) p b).1
def oV(s:FS)(r:Nat)(p b:List UInt8):FS:=s.dG r s.L (gK (s.w r) p b).2 (s.h r)
def qG(s:FS)(r:Nat)(p:List UInt8):ck:=bV 0 (gI (s.w r) p).1
def qH(s:FS)(r:Nat)(p:List UInt8):FS:=s.dG r s.L (gI (s.w r) p).2 (s.h r)
def n4(s:FS)(r:Nat)(q:Int)(p name:List UInt8):ck:=if(aD s q name).2≠0 then⟨(aD s q name).2,0,[]⟩else bV (aD s q name).1 (fY s.L (s.w r) p q (aD s q name).1).1
def mK(s:FS)(r:Nat)(q:Int)(p name:List UInt8):FS:=if(aD s q name).2≠0 then s else s.dG r s.L (fY s.L (s.w r) p q (aD s q name).1).2 (s.h r)
def cX(s:FS)(r:Nat)(text:List UInt8)(others:List Int):FS:=s.dG r (bn s.L (s.w r) (s.h r) text others).2.2 (s.w r) (ky s.L (s.w r) (s.h r) text others)
def l6(s:FS)(r:Nat)(name text:List UInt8):ck:=
 if dj (s.n r) name≠0 then⟨dj (s.n r) name,0,[]⟩else
 if(bn s.L (s.w r) (s.h r) text []).2.1≠0 then⟨(bn s.L (s.w r) (s.h r) text []).2.1,0,[]⟩else
 bV (bn s.L (s.w r) (s.h r) text []).1 (eJ (cX s r text []) r name (bn s.L (s.w r) (s.h r) text []).1)
noncomputable def lh(s:FS)(r:Nat)(name text:List UInt8):FS:=
 if dj (s.n r) name≠0 then s else
 if(bn s.L (s.w r) (s.h r) text []).2.1≠0 then cX s r text []else
 ei (cX s r text []) r name (bn s.L (s.w r) (s.h r) text []).1
def qw(s:FS)(r:Nat)(id:Int):ck:=bV id (eF s.L (s.w r) (s.h r) id)
def iK(s:FS)(r:Nat)(id:Int):FS:=s.dG r (jG s.L (s.w r) id) (jH s.L (s.w r) (s.h r) id) (jF s.L (s.w r) (s.h r) id)
def lf(s:FS)(r:Nat)(name:List UInt8):ck:=if(aD s r name).2≠0 then⟨(aD s r name).2,0,[]⟩else qw s r (aD s r name).1
def kl(s:FS)(r:Nat)(name:List UInt8):FS:=if(aD s r name).2≠0 then s else iK s r (aD s r name).1
def bc(L:List Ob)(id:Int):List Fi×Int:=if id<0 then([],0)else cL L (ai L id).tree
def nA(s:FS)(r:Nat)(name:List UInt8):ck:=if s.h r<0 then⟨9,0,[]⟩else bV (s.h r) (fa s r name (s.h r))
def l4(s:FS)(r:Nat)(name:List UInt8):FS:=if s.h r<0 then s else ga s r name (s.h r)
def nK(s:FS)(r:Nat)(name:List UInt8):ck:=if(aD s r name).2≠0 then⟨(aD s r name).2,0,[]⟩else bV (aD s r name).1 (cW (s.n r) name (aD s r name).1 (-1))
def l7(s:FS)(r:Nat)(name:List UInt8):FS:=if(aD s r name).2≠0 then s else s.hU r (aL (s.n r) name (aD s r name).1 (-1)) (fc (s.n r) (s.m r) name (aD s r name).1 (-1))
noncomputable def l9(s:FS)(r:Nat)(q:Int)(name:List UInt8):ck:=
 if(aD s q name).2≠0 then⟨(aD s q name).2,0,[]⟩else if dj (s.n r) name≠0 then⟨dj (s.n r) name,0,[]⟩else
 if dp s.L s.dep r q (aD s q name).1≠0 then⟨dp s.L s.dep r q (aD s q name).1,0,[]⟩else
 bV (aD s q name).1 (eJ (s.cG (cq s.L s.o s.b r q (aD s q name).1)) r name (aD s q name).1)
noncomputable def lj(s:FS)(r:Nat)(q:Int)(name:List UInt8):FS:=
 if(aD s q name).2≠0 then s else if dj (s.n r) name≠0 then s else
 if dp s.L s.dep r q (aD s q name).1≠0 then s.cG (cq s.L s.o s.b r q (aD s q name).1)else
 ei (s.cG (cq s.L s.o s.b r q (aD s q name).1)) r name (aD s q name).1
def pf(s:FS)(r:Nat)(q:Int):ck:=bV 0 (dD s.b r q)
def pg(s:FS)(r:Nat)(q:Int):FS:=s.zD (cJ s.b r q)
def qP(s:FS)(r:Nat)(p name:List UInt8):ck:=
 if s.h r<0 then⟨9,0,[]⟩else if dj (s.n r) name≠0 then⟨dj (s.n r) name,0,[]⟩else
 if(bT s.L (s.h r) p).2.1≠0 then⟨(bT s.L (s.h r) p).2.1,0,[]⟩else
 bV (bT s.L (s.h r) p).1 (eJ (s.aL (bT s.L (s.h r) p).2.2) r name (bT s.L (s.h r) p).1)
noncomputable def oL(s:FS)(r:Nat)(p name:List UInt8):FS:=
 if s.h r<0 then s else if dj (s.n r) name≠0 then s else
 if(bT s.L (s.h r) p).2.1≠0 then s.aL (bT s.L (s.h r) p).2.2 else
 ei (s.aL (bT s.L (s.h r) p).2.2) r name (bT s.L (s.h r) p).1
def fZ(s:FS)(r:Nat):List Int:=jL (s.m r)++(if 0≤s.h r then[s.h r]else[])
def iH(l:List It)(q:Nat):List Int:=((cA l).filter fun f=>decide (f.au=(q:Int))).map (·.id)
def gJ(s:FS)(q:Nat):List Int:=fZ s q++(iH (s.w 0) q++(iH (s.w 1) q++(iH (s.w 2) q++iH (s.w 3) q)))
noncomputable def qT(s:FS):FS:=s.cG (j5 s.L s.o s.b (gJ s))
def aJ(s:FS)(r:Nat)(base id:Int):BS:=gr s.L (bc s.L base).1 (bc s.L (s.h r)).1 (bc s.L id).1
def cM(s:FS)(r:Nat)(l:List Fi):FS:=s.dG r (cZ s.L l).2.2 (jn s.L (s.w r) l) (s.h r)
def ft:List UInt8:=[109,101,114,103,101]
def qg(s:FS)(r:Nat)(id:Int):ck:=
 if(bn s.L (s.w r) (s.h r) ft [id]).2.1≠0 then⟨(bn s.L (s.w r) (s.h r) ft [id]).2.1,0,[]⟩else
 bV (bn s.L (s.w r) (s.h r) ft [id]).1 (cI (cX s r ft [id]).L r [(bn s.L (s.w r) (s.h r) ft [id]).1])
noncomputable def od(s:FS)(r:Nat)(id:Int)(l:List Fi):FS:=
 if(bn s.L (s.w r) (s.h r) ft [id]).2.1≠0 then cM (cX s r ft [id]) r l else
 iu (cX s r ft [id]) r (bn s.L (s.w r) (s.h r) ft [id]).1
def jS(s:FS)(r:Nat)(base id:Int):ck:=
 if(bc s.L base).2≠0 then⟨(bc s.L base).2,0,[]⟩else if(bc s.L (s.h r)).2≠0 then⟨(bc s.L (s.h r)).2,0,[]⟩else if(bc s.L id).2≠0 then⟨(bc s.L id).2,0,[]⟩else
 if(aJ s r base id).code≠0 then⟨(aJ s r base id).code,0,[]⟩else if 0<(aJ s r base id).cf.length then⟨10,0,(aJ s r base id).cf⟩else
 if iF (aJ s r base id).L (aJ s r base id).out≠0 then⟨iF (aJ s r base id).L (aJ s r base id).out,0,[]⟩else
 qg (cM (s.aL (aJ s r base id).L) r (aJ s r base id).out) r id
noncomputable def iJ(s:FS)(r:Nat)(base id:Int):FS:=
 if(bc s.L base).2≠0 then s else if(bc s.L (s.h r)).2≠0 then s else if(bc s.L id).2≠0 then s else
 if(aJ s r base id).code≠0 then s.aL (aJ s r base id).L else if 0<(aJ s r base id).cf.length then s.aL (aJ s r base id).L else
 if iF (aJ s r base id).L (aJ s r base id).out≠0 then cM (s.aL (aJ s r base id).L) r (aJ s r base id).out else
 od (cM (s.aL (aJ s r base id).L) r (aJ s r base id).out) r id (bc s.L (s.h r)).1
def jE(s:FS)(r:Nat):Int:=fU s.L (s.w r) (s.h r)
def cw(s:FS)(r:Nat):FS:=s.aL (aT s.L (s.w r)).2.2
def mD(l:List Int):Int:=if 0<l.length then l.getLastD 0 else-1
def qf(s:FS)(r:Nat)(id:Int):ck:=
 if s.h r<0∨(ef s.L (s.h r) id=true∧s.h r≠id)then qw s r id else if ef s.L id (s.h r)=true then⟨17,0,[]⟩else
 if(dW s.L (s.h r) id).2≠0 then⟨(dW s.L (s.h r) id).2,0,[]⟩else jS s r (mD (dW s.L (s.h r) id).1) id
noncomputable def oa(s:FS)(r:Nat)(id:Int):FS:=
 if s.h r<0∨(ef s.L (s.h r) id=true∧s.h r≠id)then iK s r id else if ef s.L id (s.h r)=true then s else
 if(dW s.L (s.h r) id).2≠0 then s else iJ s r (mD (dW s.L (s.h r) id).1) id
def oc(s:FS)(r:Nat)(name:List UInt8):ck:=
 if(aD s r name).2≠0 then⟨(aD s r name).2,0,[]⟩else if jE s r≠0 then⟨jE s r,0,[]⟩else qf (cw s r) r (aD s r name).1
noncomputable def lF(s:FS)(r:Nat)(name:List UInt8):FS:=
 if(aD s r name).2≠0 then s else if jE s r≠0 then cw s r else oa (cw s r) r (aD s r name).1
noncomputable def gy(s:FS)(x:bG):ck:=
 if x.kind<1∨12<x.kind then⟨6,0,[]⟩else if bh x.r=false then⟨1,0,[]⟩else
 if x.kind=1 then oU s x.r.toNat x.path x.bytes else if x.kind=2 then qG s x.r.toNat x.path else
 if x.kind=3 then n4 s x.r.toNat x.q x.path x.name else if x.kind=4 then l6 s x.r.toNat x.name x.text else
 if x.kind=5 then lf s x.r.toNat x.name else if x.kind=6 then oc s x.r.toNat x.name else
 if x.kind=7 then nA s x.r.toNat x.name else if x.kind=8 then nK s x.r.toNat x.name else
 if x.kind=9 then l9 s x.r.toNat x.q x.name else if x.kind=10 then pf s x.r.toNat x.q else
 if x.kind=12 then qP s x.r.toNat x.path x.name else⟨0,0,[]⟩
noncomputable def dh(s:FS)(x:bG):FS:=
 if x.kind<1∨12<x.kind then s else if bh x.r=false then s else
 if x.kind=1 then oV s x.r.toNat x.path x.bytes else if x.kind=2 then qH s x.r.toNat x.path else
 if x.kind=3 then mK s x.r.toNat x.q x.path x.name else if x.kind=4 then lh s x.r.toNat x.name x.text else
 if x.kind=5 then kl s x.r.toNat x.name else if x.kind=6 then lF s x.r.toNat x.name else
 if x.kind=7 then l4 s x.r.toNat x.name else if x.kind=8 then l7 s x.r.toNat x.name else
 if x.kind=9 then lj s x.r.toNat x.q x.name else if x.kind=10 then pg s x.r.toNat x.q else
 if x.kind=12 then oL s x.r.toNat x.path x.name else qT s
end Go.Nest
end
section
namespace Go.Nest
open Go Go.AM Go.Proofs
open Go.Proofs.YtpechfcbnoggfaaGreatDoor (tab tabOk)
set_option maxRecDepth 100000
theorem eS(r:Int):ae Tryz.prog 53 [.c (.int .i64 r)] [] (Rt (.c (.bool (bh r))) []):=by
 refine ao (n:=9) (n0:=0) tabOk Tryz.call53 Tryz.func53 ?_;intro hb;unfold bh;(conv=>whnf);refine dec (fun h=>?_) (fun h=>?_)
 ·have h:0≤r:=h;rw[decide_eq_true h,Bool.true_and];(conv=>whnf);exact aC rfl
 ·have h:¬0≤r:=h;rw[decide_eq_false h,Bool.false_and];(conv=>whnf);exact aC rfl
theorem fH(n:Int):iT (.c (.int .i64 n)):=⟨fun _ _=>rfl,fun _=>rfl,rfl⟩
theorem Bd:iT (.tup []):=⟨fun _ _=>trivial,fun _=>rfl,rfl⟩
theorem rY(n m:Int):iT (.tup [(false,[.int .i64 n]),(false,[.int .i64 m])]):=⟨fun _ _=>⟨⟨rfl,rfl,trivial⟩,⟨rfl,rfl,trivial⟩,trivial⟩,fun _=>rfl,rfl⟩
theorem wL{id c:Int}(h:c=0):bV id c=⟨0,id,[]⟩:=by unfold bV;rw[if_neg (by simp[h])]
theorem Co{id c:Int}(h:c≠0):bV id c=⟨c,0,[]⟩:=if_pos h
theorem gS(id c:Int):ae Tryz.prog 54 [.c (.int .i64 id),.c (.int .i64 c)] [] (Rt (.st (b8 (bV id c))) []):=by
 refine ao (n:=11) (n0:=0) tabOk Tryz.call54 Tryz.func54 ?_;intro hb;(conv=>whnf);refine av (fun h=>?_) (fun h=>?_)
 ·rw[Co h];(conv=>whnf);exact rx [] []
 ·rw[wL h];(conv=>whnf);exact rx [] []
theorem kC(s:FS)(hw:cg s)(r:Int)(name:List UInt8):ae Tryz.prog 121 [.c (.bp (ed s)),.c (.int .i64 r),.c (.str name)] [] (Rt (.tup [(false,[.int .i64 (aD s r name).1]),(false,[.int .i64 (aD s r name).2])]) []):=by
 refine ao (n:=24) (n0:=0) tabOk Tryz.call121 Tryz.func121 ?_;intro hb;(conv=>whnf);refine cl [] [] (eS r) ?_;(conv=>whnf);refine df (fun h=>?_) (fun h=>?_)
 ·rw[show aD s r name=_ from if_pos h];(conv=>whnf);exact rx [] []
 obtain⟨i,hi,rfl⟩:=b5.1 h;have e:aD s (i:Int) name=if bt (s.n i) name<0 then(0,9)else(bt (s.n i) name,0):=if_neg (by rw[h];decide)
 have p:=nQ (s.n i) (s.m i) name (hw.sort i hi) (by have:=hw.few i hi;omega);rw[e]
 rcases four hi with rfl|rfl|rfl|rfl<;>(
  (conv=>whnf);refine⟨_,⟨rfl,by decide⟩,?_⟩;(conv=>whnf);refine cl [] [] (p) ?_;(conv=>whnf);refine dec (fun h2=>?_) (fun h2=>?_)
  ·rw[if_pos h2];(conv=>whnf);exact rx [] []
  ·rw[if_neg h2];(conv=>whnf);exact rx [] [])
def je(p:List Rf×List Mv)(y:Rf):List Rf×List Mv:=(aL p.1 y.name (-1) y.id,fc p.1 p.2 y.name (-1) y.id)
theorem sb(l:List Rf):dy l=l.foldl je ([],[]):=rfl
theorem Bw{p:List Rf×List Mv}(h:fG p.1 p.2)(y:Rf):fG (je p y).1 (je p y).2∧(je p y).2.length≤p.2.length+1:=by
 unfold je aL fc;by_cases hc:cW p.1 y.name (-1) y.id=0
 ·simp only[if_pos hc];exact⟨.snoc h hc,by simp⟩
 ·simp only[if_neg hc];exact⟨h,Nat.le_succ _⟩
theorem wj:∀{l:List Rf} {p:List Rf×List Mv},fG p.1 p.2→fG (l.foldl je p).1 (l.foldl je p).2∧(l.foldl je p).2.length≤p.2.length+l.length
 |[],p,h=>⟨h,by simp⟩
 |y::l,p,h=>by
  have h1:=Bw h y;have h2:=wj (l:=l) h1.1;rw[List.foldl_cons,List.length_cons];exact⟨h2.1,by omega⟩
theorem Bs(l:List Rf):il (dy l).1 (dy l).2∧(dy l).2.length≤l.length:=by
 have:=wj (l:=l) (p:=([],[])) .nil;rw[sb];exact⟨this.1.inv,by simpa using this.2⟩
theorem wk{l:List Rf}{i:Nat}(h:i<l.length):dy (l.take (i+1))=je (dy (l.take i)) l[i]:=by
 rw[sb,sb,List.take_succ_eq_append_getElem h,List.foldl_append];rfl
set_option maxHeartbeats 2000000 in
theorem tK(s:FS)(hw:cg s){i:Nat}(hi:i<4)(name:List UInt8):ae Tryz.prog 123 [.c (.bp (ed s)),.c (.int .i64 (i:Nat)),.c (.str name)] [] (Rt (.c (.int .i64 (dj (s.n i) name))) []):=by
 refine ao (n:=41) (n0:=0) tabOk Tryz.call123 Tryz.func123 ?_;intro hb;have hfew:=hw.few i hi;have p:=yd (s.n i) (s.m i) (by omega);(conv=>whnf);refine cl [] [] (oh) ?_;have fin:∀l:List Rf,l.length≤8→dj l name=cW (dy l).1 name (bt (dy l).1 name) 600:=fun _ _=>rfl;have hok:=Bs;have hsu:= @wk;have h0:dy []=([],[]):=rfl
 rcases four hi with rfl|rfl|rfl|rfl<;>(
  (conv=>whnf);refine⟨_,⟨rfl,by decide⟩,?_⟩;(conv=>whnf);refine cl [] [] (p) ?_;generalize s.n _=l at hfew⊢;rw[fin l hfew];generalize dy=cp at hok hsu h0⊢;(conv=>whnf);refine lp Nat (fun i=>⟨[(0,.c (.bp (ed s))),(2,.c (.str name)),(7,.c (.ptr 0 0)),(19,.c (.rw 3)),(20,.c (.int .i64 l.length)),(21,.c (.int .i64 i))],[.box [.rw 1,.rw 2],.row 2 Rf bg (cp (l.take i)).1,.row 3 Mv cn (cp (l.take i)).2,.row 2 Rf bg l]⟩) (fun i=>i≤l.length∧True) (fun i=>l.length-i) 0 [] [.same 0,.same 1,.same 2,.same 3] ⟨Nat.zero_le _,trivial⟩ ?_ (fun i hi=>?_)
  ·rw[List.take_zero,h0];repeat' first|exact trivial|exact rfl|refine And.intro ?_ ?_
  obtain⟨hi,-⟩:=hi;(conv=>whnf);refine dec (fun h4=>?_) (fun h4=>?_)
  ·have hlt:i<l.length:=by have h4:(i:Int)<l.length:=h4;omega
   have hiy:l[i]? =some l[i]:=List.getElem?_eq_getElem hlt;have hsu:=hsu hlt;obtain⟨hv,hvl⟩:=hok (l.take i);rw[List.length_take]at hvl;have q:=oH (cp (l.take i)).1 (cp (l.take i)).2 l[i].name (-1) l[i].id hv.sort hv.ids hv.len (by omega);have e1:aL (cp (l.take i)).1 l[i].name (-1) l[i].id=(cp (l.take (i+1))).1:=by rw[hsu];rfl
   have e2:fc (cp (l.take i)).1 (cp (l.take i)).2 l[i].name (-1) l[i].id=(cp (l.take (i+1))).2:=by rw[hsu];rfl
   rw[e1,e2]at q;generalize l[i]=y at hiy q;(conv=>whnf);refine⟨i,⟨rfl,hlt⟩,?_⟩;(conv=>whnf);refine⟨y,hiy,?_⟩;(conv=>whnf);refine cl [] [0,1,2] (q) ?_;repeat'((conv=>whnf);refine I6 ?_)
   refine ag (i+1) [] [.same 0,.same 5,.same 6,.same 3] ⟨hlt,trivial⟩ (by simp only[];omega) ?_;repeat' first|exact trivial|exact rfl|refine And.intro ?_ ?_
  ·obtain rfl:i=l.length:=by have h4:¬(i:Int)<l.length:=h4;omega
   rw[List.take_length];obtain⟨hv,hvl⟩:=hok l;generalize cp l=R at hv hvl⊢;obtain⟨x,m⟩:=R;dsimp only at hv hvl⊢;have q1:=nQ x m name hv.sort (by have:=hv.len;omega);have q2:=oH x m name (bt x name) 600 hv.sort hv.ids hv.len (by omega);(conv=>whnf);refine cl [] [] (q1) ?_;(conv=>whnf);refine cl [] [0,1,2] (q2) ?_;(conv=>whnf);refine av (fun h=>?_) (fun h=>?_)
   ·(conv=>whnf);exact aI rfl
   ·have h:cW x name (bt x name) 600=0:=h;rw[h];(conv=>whnf);exact aI rfl)
set_option maxHeartbeats 2000000 in
theorem tl(s:FS)(hw:cg s){i:Nat}(hi:i<4)(name:List UInt8)(id:Int):ae Tryz.prog 125 [.c (.ptr 0 0),.c (.int .i64 (i:Nat)),.c (.str name),.c (.int .i64 id)] (aH s) (Rt (.c (.int .i64 (eJ s i name id))) (aQ (ei s i name id))):=by
 refine ao (n:=44) (n0:=32) tabOk Tryz.call125 Tryz.func125 ?_;intro hb;have p1:=nQ (s.n i) (s.m i) name (hw.sort i hi) (by have:=hw.few i hi;omega);have p2:=tR (s:=s) hi (oH (s.n i) (s.m i) name (bt (s.n i) name) id (hw.sort i hi) (hw.ids i hi) (hw.few i hi) (by have:=hw.moves i hi;omega)) (fH _);have p2:ae Tryz.prog _ _ (aH s) (Rt (.c (.int .i64 (fa s i name id))) (aQ (ga s i name id))):=p2;have p3:=tQ (s:=ga s i name id) (ru s.L hw.pool s.o s.b hw.dX hw.own (i:Int) [id] (by simp)) (fH _);have p3:ae Tryz.prog _ _ (aH (ga s i name id)) (Rt (.c (.int .i64 (cI s.L i [id]))) (aQ (iu (ga s i name id) i id))):=p3;have e1:eJ s i name id=if fa s i name id≠0∧fa s i name id≠17 then fa s i name id else cI s.L i [id]:=rfl
 have e2:ei s i name id=if fa s i name id≠0∧fa s i name id≠17 then ga s i name id else iu (ga s i name id) i id:=rfl
 rw[e1,e2];clear e1 e2;generalize fa s i name id=c at p2⊢;generalize iu (ga s i name id) i id=s2 at p3⊢;generalize ga s i name id=s1 at p2 p3⊢;have fin1:c≠0∧c≠17→(if c≠0∧c≠17 then c else cI s.L i [id])=c∧(if c≠0∧c≠17 then s1 else s2)=s1:=fun h=>⟨if_pos h,if_pos h⟩;have fin2:¬(c≠0∧c≠17)→(if c≠0∧c≠17 then c else cI s.L i [id])=cI s.L i [id]∧(if c≠0∧c≠17 then s1 else s2)=s2:=fun h=>⟨if_neg h,if_neg h⟩;generalize (if c≠0∧c≠17 then c else cI s.L i [id])=C at fin1 fin2⊢;generalize (if c≠0∧c≠17 then s1 else s2)=S at fin1 fin2⊢
 rcases four hi with rfl|rfl|rfl|rfl<;>(
  (conv=>whnf);refine⟨false,.grow,(.l [0,1,2,3,4,5,6,7,8,9,10,11,12,13,14,15,17,16,18,19]),by kernel_rfl,.inl ?_⟩;(conv=>whnf);refine⟨_,⟨rfl,by decide⟩,?_⟩;(conv=>whnf);refine⟨_,⟨rfl,by decide⟩,?_⟩;(conv=>whnf);refine cl [] [] (p1) ?_;(conv=>whnf);refine aP (mF 0) (bD 21 d21 s1) p2 ?_;(conv=>whnf);have two:(c≠0∧c≠17)∨¬(c≠0∧c≠17):=Decidable.em _;refine av (fun h1=>?_) (fun h1=>?_)
  ·(conv=>whnf);refine av (fun h2=>?_) (fun h2=>?_)
   ·obtain⟨rfl,rfl⟩:=fin1 ⟨h1,h2⟩;(conv=>whnf);exact aW (rF 21)
   ·obtain⟨rfl,rfl⟩:=fin2 (fun h=>h.2 h2);(conv=>whnf);refine⟨[id],rfl,?_⟩;(conv=>whnf);refine aP (mF 21) (bD 43 (d21++(d21++[.row 1 Int encI [id]])) S) p3 ?_;(conv=>whnf);exact aW (rF 43)
  ·obtain⟨rfl,rfl⟩:=fin2 (fun h=>h.1 h1);(conv=>whnf);refine⟨[id],rfl,?_⟩;(conv=>whnf);refine aP (mF 21) (bD 43 (d21++(d21++[.row 1 Int encI [id]])) S) p3 ?_;(conv=>whnf);exact aW (rF 43))
end Go.Nest
end
section
namespace Go.Nest
open Go Go.AM Go.Proofs
open Go.Proofs.YtpechfcbnoggfaaGreatDoor (tab tabOk)
set_option maxRecDepth 100000
def pA(s:FS)(r:Int):List Dc:=if bh r=false then[]else(s.w r.toNat).map cP
def qE(s:FS)(r:Int):List Rf:=if bh r=false then[]else s.n r.toNat
def pP(s:FS)(r:Int):Int:=if bh r=false then-1 else s.h r.toNat
theorem sf(s:FS)(hw:cg s)(r:Int):ae Tryz.prog 25 [.c (.bp (ed s)),.c (.int .i64 r)] [] (Rt (.c (.rw 0)) [.row 2 Dc cQ (pA s r)]):=by
 unfold pA;refine ao (n:=16) (n0:=0) tabOk Tryz.call25 Tryz.func25 ?_;intro hb;(conv=>whnf);refine cl [] [] (eS r) ?_;(conv=>whnf);refine df (fun h=>?_) (fun h=>?_)
 ·rw[if_pos h];(conv=>whnf);exact rx [] [.new]
 obtain⟨i,hi,rfl⟩:=b5.1 h;have p:=Ca s.L (s.w i) (s.h i) (hw.items i hi) (hw.bytes i hi);rw[if_neg (by rw[h];decide)]
 rcases four hi with rfl|rfl|rfl|rfl<;>(
  (conv=>whnf);refine⟨_,⟨rfl,by decide⟩,?_⟩;(conv=>whnf);refine cl [] [] (p) ?_;(conv=>whnf);exact rx [] [.same 0])
theorem ui(s:FS)(hw:cg s)(r:Int):ae Tryz.prog 26 [.c (.bp (ed s)),.c (.int .i64 r)] [] (Rt (.c (.rw 0)) [.row 2 Rf bg (qE s r)]):=by
 unfold qE;refine ao (n:=16) (n0:=0) tabOk Tryz.call26 Tryz.func26 ?_;intro hb;(conv=>whnf);refine cl [] [] (eS r) ?_;(conv=>whnf);refine df (fun h=>?_) (fun h=>?_)
 ·rw[if_pos h];(conv=>whnf);exact rx [] [.new]
 obtain⟨i,hi,rfl⟩:=b5.1 h;have p:=yd (s.n i) (s.m i) (by have:=hw.few i hi;omega);rw[if_neg (by rw[h];decide)]
 rcases four hi with rfl|rfl|rfl|rfl<;>(
  (conv=>whnf);refine⟨_,⟨rfl,by decide⟩,?_⟩;(conv=>whnf);refine cl [] [] (p) ?_;(conv=>whnf);exact rx [] [.same 0])
theorem sQ(s:FS)(hw:cg s)(r:Int):ae Tryz.prog 27 [.c (.bp (ed s)),.c (.int .i64 r)] [] (Rt (.c (.int .i64 (pP s r))) []):=by
 unfold pP;refine ao (n:=16) (n0:=0) tabOk Tryz.call27 Tryz.func27 ?_;intro hb;(conv=>whnf);refine cl [] [] (eS r) ?_;(conv=>whnf);refine df (fun h=>?_) (fun h=>?_)
 ·rw[if_pos h];(conv=>whnf);exact aI rfl
 obtain⟨i,hi,rfl⟩:=b5.1 h;have p:=mm s.L (s.w i) (s.h i);rw[if_neg (by rw[h];decide)]
 rcases four hi with rfl|rfl|rfl|rfl<;>(
  (conv=>whnf);refine⟨_,⟨rfl,by decide⟩,?_⟩;(conv=>whnf);refine cl [] [] (p) ?_;(conv=>whnf);exact aI rfl)
set_option maxHeartbeats 4000000 in
theorem Bn(s:FS)(hw:cg s){i:Nat}(hi:i<4)(x:bG)(hx:x.r=i)(hl:cg (cX s i x.text [])):ae Tryz.prog 58 [.c (.ptr 0 0),.st (aF x)] (aH s) (Rt (.st (b8 (l6 s i x.name x.text))) (aQ (lh s i x.name x.text))):=by
 have p1:=tK s hw hi x.name;have p2:=jT (s:=s) hi (wc s.L hw.pool (s.w i) (s.h i) (hw.paths i hi) (hw.items i hi) x.text [] (by decide) (hw.head i hi)) (rY _ _);have p2:ae Tryz.prog _ _ (aH s) (Rt _ (aQ (cX s i x.text []))):=p2;have p3:=tl _ hl hi x.name (bn s.L (s.w i) (s.h i) x.text []).1;have p4:=gS (bn s.L (s.w i) (s.h i) x.text []).1 (eJ (cX s i x.text []) i x.name (bn s.L (s.w i) (s.h i) x.text []).1);unfold l6 lh;clear hl;generalize eJ (cX s i x.text []) i x.name (bn s.L (s.w i) (s.h i) x.text []).1=c3 at p3 p4⊢;generalize ei (cX s i x.text []) i x.name (bn s.L (s.w i) (s.h i) x.text []).1=s3 at p3⊢;generalize cX s i x.text []=s2 at p2 p3⊢;generalize bn s.L (s.w i) (s.h i) x.text []=R at p2 p3 p4⊢;obtain⟨id,c2,L2⟩:=R;dsimp only at p2 p3 p4⊢;generalize dj (s.n i) x.name=c1 at p1⊢;generalize bV id c3=e4 at p4⊢;obtain⟨e41,e42,e43⟩:=e4;have f1:c1≠0→(if c1≠0 then(⟨c1,0,[]⟩:ck)else if c2≠0 then⟨c2,0,[]⟩else⟨e41,e42,e43⟩)=⟨c1,0,[]⟩∧(if c1≠0 then s else if c2≠0 then s2 else s3)=s:=fun h=>⟨if_pos h,if_pos h⟩;have f2:c1=0→c2≠0→(if c1≠0 then(⟨c1,0,[]⟩:ck)else if c2≠0 then⟨c2,0,[]⟩else⟨e41,e42,e43⟩)=⟨c2,0,[]⟩∧(if c1≠0 then s else if c2≠0 then s2 else s3)=s2:=fun h g=>⟨(if_neg (fun k=>k h)).trans (if_pos g),(if_neg (fun k=>k h)).trans (if_pos g)⟩;have f3:c1=0→c2=0→(if c1≠0 then(⟨c1,0,[]⟩:ck)else if c2≠0 then⟨c2,0,[]⟩else⟨e41,e42,e43⟩)=⟨e41,e42,e43⟩∧(if c1≠0 then s else if c2≠0 then s2 else s3)=s3:=fun h g=>⟨(if_neg (fun k=>k h)).trans (if_neg (fun k=>k g)),(if_neg (fun k=>k h)).trans (if_neg (fun k=>k g))⟩;generalize (if c1≠0 then(⟨c1,0,[]⟩:ck)else if c2≠0 then⟨c2,0,[]⟩else⟨e41,e42,e43⟩)=E at f1 f2 f3⊢;generalize (if c1≠0 then s else if c2≠0 then s2 else s3)=S at f1 f2 f3⊢;rw[←hx]at p1 p3;refine ao (n:=45) (n0:=32) tabOk Tryz.call58 Tryz.func58 ?_;intro hb;(conv=>whnf);refine cl [] [] (p1) ?_;(conv=>whnf);refine av (fun h1=>?_) (fun h1=>?_)
 ·obtain⟨rfl,rfl⟩:=f1 h1;(conv=>whnf);exact aW (rF 0)
 have hxi:x.r=(i:Nat):=hx
 rcases four hi with rfl|rfl|rfl|rfl<;>(
  (conv=>whnf);refine⟨false,.grow,(.l [0,1,2,3,4,5,6,7,8,9,10,11,12,13,14,15]),by kernel_rfl,.inl ?_⟩;(conv=>whnf);refine⟨_,⟨hxi,by decide⟩,?_⟩;(conv=>whnf);refine aP (mF 0) (bD 23 (d21++[.box (aF x),.box [.int .i64 0,.int .i64 0,.nil]]) s2) p2 ?_;(conv=>whnf);refine av (fun h2=>?_) (fun h2=>?_)
  ·obtain⟨rfl,rfl⟩:=f2 h1 h2;(conv=>whnf);exact aW (rF 23)
  obtain⟨rfl,rfl⟩:=f3 h1 h2;(conv=>whnf);refine aP (mF 23) (bD 44 (d21++[.box (aF x),.box [.int .i64 0,.int .i64 0,.nil]]++d21) S) p3 ?_;(conv=>whnf);refine cl [] [] (p4) ?_;(conv=>whnf);exact aW (rF 44))
end Go.Nest
end
section
namespace Go.Nest
open Go Go.AM Go.Proofs
open Go.Proofs.YtpechfcbnoggfaaGreatDoor (tab tabOk)
set_option maxRecDepth 100000
set_option maxHeartbeats 4000000 in
theorem B9(s:FS)(hw:cg s){i:Nat}(hi:i<4){r:Int}(hr:r=i)(q:Int)(p n t b:List UInt8)(hp:p.length≤4000000):ae Tryz.prog 22 [.c (.ptr 0 0),.st (aF ⟨1,r,q,p,n,t,b⟩)] (aH s) (Rt (.st (b8 (oU s i p b))) (aQ (oV s i p b))):=by
 have p0:=eS r;rw[b5.2 ⟨i,hi,hr⟩]at p0;have p1:=jT (s:=s) hi (Hp s.L (s.w i) (s.h i) p b hp (hw.paths i hi) (hw.items i hi)) (fH _);obtain⟨c,hc⟩:∃c,(gK (s.w i) p b).1=c:=⟨_,rfl⟩;rw[hc]at p1;have p1:ae Tryz.prog _ _ (aH s) (Rt _ (aQ (oV s i p b))):=p1;have p2:=gS 0 c;rw[show oU s i p b=bV 0 c by unfold oU;rw[hc]];generalize bV 0 c=e at p2⊢;obtain⟨e1,e2,e3⟩:=e;generalize oV s i p b=s1 at p1⊢;refine ao (n:=111) (n0:=32) tabOk Tryz.call22 Tryz.func22 ?_;intro hb;(conv=>whnf);refine cl [] [] (p0) ?_
 rcases four hi with rfl|rfl|rfl|rfl<;>(
  (conv=>whnf);refine⟨false,.grow,(.l [0,1,2,3,4,5,6,7,8,9,10,11,12,13,14]),by kernel_rfl,.inl ?_⟩;(conv=>whnf);refine⟨_,⟨hr,by decide⟩,?_⟩;(conv=>whnf);refine aP (mF 0) (bD 23 (d21++[.box (aF ⟨1,r,q,p,n,t,b⟩),.box [.int .i64 0,.int .i64 0,.nil]]) s1) p1 ?_;(conv=>whnf);refine cl [] [] (p2) ?_;(conv=>whnf);exact aW (rF 23))
set_option maxHeartbeats 4000000 in
theorem BZ(s:FS){i:Nat}(hi:i<4)(q:Int)(p n t b:List UInt8)(E:ck)(S:FS)(p1:ae Tryz.prog 58 [.c (.ptr 0 0),.st (aF ⟨4,i,q,p,n,t,b⟩)] (aH s) (Rt (.st (b8 E)) (aQ S))):ae Tryz.prog 22 [.c (.ptr 0 0),.st (aF ⟨4,i,q,p,n,t,b⟩)] (aH s) (Rt (.st (b8 E)) (aQ S)):=by
 have p0:=eS i;rw[b5.2 ⟨i,hi,rfl⟩]at p0;obtain⟨e1,e2,e3⟩:=E;refine ao (n:=111) (n0:=32) tabOk Tryz.call22 Tryz.func22 ?_;intro hb;(conv=>whnf);refine cl [] [] (p0) ?_;(conv=>whnf);refine aP (mF 0) (bD 23 (d21++[.box (aF ⟨4,i,q,p,n,t,b⟩),.box [.int .i64 0,.int .i64 0,.nil]]) S) p1 ?_;(conv=>whnf);exact aW (rF 23)
end Go.Nest
end
section
namespace Go.Nest
open Go Go.AM Go.Proofs
open Go.Proofs.YtpechfcbnoggfaaGreatDoor (tab tabOk)
set_option maxRecDepth 100000
set_option maxHeartbeats 4000000 in
theorem Ed(s:FS)(hw:cg s){i:Nat}(hi:i<4)(x:bG)(hx:x.r=i)(hp:x.path.length≤4000000):ae Tryz.prog 57 [.c (.ptr 0 0),.st (aF x)] (aH s) (Rt (.st (b8 (n4 s i x.q x.path x.name))) (aQ (mK s i x.q x.path x.name))):=by
 by_cases h1:(aD s x.q x.name).2=0
 ·rw[show n4 s i x.q x.path x.name=_ from if_neg (fun h=>h h1),show mK s i x.q x.path x.name=_ from if_neg (fun h=>h h1)];have p1:=kC s hw x.q x.name;generalize aD s x.q x.name=R at p1 h1⊢;obtain⟨id,c1⟩:=R;dsimp only at p1 h1⊢;have p2:=jT (s:=s) hi (Ee s.L hw.pool (s.w i) (s.h i) x.path x.q id hp (hw.paths i hi) (hw.items i hi)) (fH _);generalize s.dG i s.L (fY s.L (s.w i) x.path x.q id).2 (s.h i)=s1 at p2⊢;obtain⟨c,hc⟩:∃c,(fY s.L (s.w i) x.path x.q id).1=c:=⟨_,rfl⟩;rw[hc]at p2⊢;have p4:=gS (id) c;generalize bV (id) c=e at p4⊢;obtain⟨e1,e2,e3⟩:=e;have hxi:x.r=(i:Nat):=hx;rw[h1]at p1;refine ao (n:=36) (n0:=32) tabOk Tryz.call57 Tryz.func57 ?_;intro hb;(conv=>whnf);refine cl [] [] (p1) ?_
  rcases four hi with rfl|rfl|rfl|rfl<;>(
   (conv=>whnf);refine⟨false,.grow,(.l [0,1,2,3,4,5,6,7,8,9,10,11,12,13,14,15,16]),by kernel_rfl,.inl ?_⟩;(conv=>whnf);refine⟨_,⟨hxi,by decide⟩,?_⟩;(conv=>whnf);refine aP (mF 0) (bD 23 (d21++[.box (aF x),.box [.int .i64 0,.int .i64 0,.nil]]) s1) p2 ?_;(conv=>whnf);refine cl [] [] (p4) ?_;(conv=>whnf);exact aW (rF 23))
 ·rw[show n4 s i x.q x.path x.name=_ from if_pos h1,show mK s i x.q x.path x.name=_ from if_pos h1];refine ao (n:=36) (n0:=32) tabOk Tryz.call57 Tryz.func57 ?_;intro hb;(conv=>whnf);refine cl [] [] (kC s hw x.q x.name) ?_;(conv=>whnf);refine av (fun _=>?_) (fun h=>absurd h h1);(conv=>whnf);exact aW (rF 0)
set_option maxHeartbeats 4000000 in
theorem Ba(s:FS)(hw:cg s){i:Nat}(hi:i<4)(x:bG)(hx:x.r=i):ae Tryz.prog 59 [.c (.ptr 0 0),.st (aF x)] (aH s) (Rt (.st (b8 (lf s i x.name))) (aQ (kl s i x.name))):=by
 have p1:=kC s hw (i:Nat) x.name;rw[←hx]at p1;by_cases h1:(aD s (i:Nat) x.name).2=0
 ·rw[show lf s i x.name=_ from if_neg (fun h=>h h1),show kl s i x.name=_ from if_neg (fun h=>h h1)];rw[←hx]at h1⊢;generalize aD s x.r x.name=R at p1 h1⊢;obtain⟨id,c1⟩:=R;dsimp only at p1 h1⊢;have p2:=jT (s:=s) hi (vP s.L hw.pool (s.w i) (s.h i) (hw.paths i hi) (hw.items i hi) id) (fH _);have p2:ae Tryz.prog _ _ (aH s) (Rt _ (aQ (iK s i id))):=p2;generalize iK s i id=s1 at p2⊢;unfold qw;obtain⟨c,hc⟩:∃c,eF s.L (s.w i) (s.h i) id=c:=⟨_,rfl⟩;rw[hc]at p2⊢;have p4:=gS (id) c;generalize bV (id) c=e at p4⊢;obtain⟨e1,e2,e3⟩:=e;have hxi:x.r=(i:Nat):=hx;rw[h1]at p1;refine ao (n:=32) (n0:=32) tabOk Tryz.call59 Tryz.func59 ?_;intro hb;(conv=>whnf);refine cl [] [] (p1) ?_
  rcases four hi with rfl|rfl|rfl|rfl<;>(
   (conv=>whnf);refine⟨false,.grow,(.l [0,1,2,3,4,5,6,7,8,9,10,11,12]),by kernel_rfl,.inl ?_⟩;(conv=>whnf);refine⟨_,⟨hxi,by decide⟩,?_⟩;(conv=>whnf);refine aP (mF 0) (bD 23 (d21++[.box (aF x),.box [.int .i64 0,.int .i64 0,.nil]]) s1) p2 ?_;(conv=>whnf);refine cl [] [] (p4) ?_;(conv=>whnf);exact aW (rF 23))
 ·rw[show lf s i x.name=_ from if_pos h1,show kl s i x.name=_ from if_pos h1];rw[←hx]at h1⊢;refine ao (n:=32) (n0:=32) tabOk Tryz.call59 Tryz.func59 ?_;intro hb;(conv=>whnf);refine cl [] [] (kC s hw x.r x.name) ?_;(conv=>whnf);refine av (fun _=>?_) (fun h=>absurd h h1);(conv=>whnf);exact aW (rF 0)
set_option maxHeartbeats 4000000 in
theorem Cb(s:FS)(hw:cg s){i:Nat}(hi:i<4)(x:bG)(hx:x.r=i):ae Tryz.prog 62 [.c (.ptr 0 0),.st (aF x)] (aH s) (Rt (.st (b8 (nK s i x.name))) (aQ (l7 s i x.name))):=by
 have p1:=kC s hw (i:Nat) x.name;rw[←hx]at p1;by_cases h1:(aD s (i:Nat) x.name).2=0
 ·rw[show nK s i x.name=_ from if_neg (fun h=>h h1),show l7 s i x.name=_ from if_neg (fun h=>h h1)];rw[←hx]at h1⊢;generalize aD s x.r x.name=R at p1 h1⊢;obtain⟨id,c1⟩:=R;dsimp only at p1 h1⊢;have p2:=tR (s:=s) hi (oH (s.n i) (s.m i) x.name id (-1) (hw.sort i hi) (hw.ids i hi) (hw.few i hi) (by have:=hw.moves i hi;omega)) (fH _);generalize s.hU i (aL (s.n i) x.name id (-1)) (fc (s.n i) (s.m i) x.name id (-1))=s1 at p2⊢;obtain⟨c,hc⟩:∃c,cW (s.n i) x.name id (-1)=c:=⟨_,rfl⟩;rw[hc]at p2⊢;have p4:=gS (id) c;generalize bV (id) c=e at p4⊢;obtain⟨e1,e2,e3⟩:=e;have hxi:x.r=(i:Nat):=hx;rw[h1]at p1;refine ao (n:=34) (n0:=32) tabOk Tryz.call62 Tryz.func62 ?_;intro hb;(conv=>whnf);refine cl [] [] (p1) ?_
  rcases four hi with rfl|rfl|rfl|rfl<;>(
   (conv=>whnf);refine⟨false,.grow,(.l [0,1,2,3,4,5,6,7,8,9,10,11,12,13,14]),by kernel_rfl,.inl ?_⟩;(conv=>whnf);refine⟨_,⟨hxi,by decide⟩,?_⟩;(conv=>whnf);refine aP (mF 0) (bD 23 (d21++[.box (aF x),.box [.int .i64 0,.int .i64 0,.nil]]) s1) p2 ?_;(conv=>whnf);refine cl [] [] (p4) ?_;(conv=>whnf);exact aW (rF 23))
 ·rw[show nK s i x.name=_ from if_pos h1,show l7 s i x.name=_ from if_pos h1];rw[←hx]at h1⊢;refine ao (n:=34) (n0:=32) tabOk Tryz.call62 Tryz.func62 ?_;intro hb;(conv=>whnf);refine cl [] [] (kC s hw x.r x.name) ?_;(conv=>whnf);refine av (fun _=>?_) (fun h=>absurd h h1);(conv=>whnf);exact aW (rF 0)
set_option maxHeartbeats 4000000 in
theorem AY(s:FS)(hw:cg s){i:Nat}(hi:i<4)(x:bG)(hx:x.r=i):ae Tryz.prog 61 [.c (.ptr 0 0),.st (aF x)] (aH s) (Rt (.st (b8 (nA s i x.name))) (aQ (l4 s i x.name))):=by
 have p0:=mm s.L (s.w i) (s.h i);have p1:=nQ (s.n i) (s.m i) x.name (hw.sort i hi) (by have:=hw.few i hi;omega);have p2:=tR (s:=s) hi (oH (s.n i) (s.m i) x.name (bt (s.n i) x.name) (s.h i) (hw.sort i hi) (hw.ids i hi) (hw.few i hi) (by have:=hw.moves i hi;omega)) (fH _);have p2:ae Tryz.prog _ _ (aH s) (Rt (.c (.int .i64 (fa s i x.name (s.h i)))) (aQ (ga s i x.name (s.h i)))):=p2;have hxi:x.r=(i:Nat):=hx;by_cases h1:s.h i<0
 ·rw[show nA s i x.name=_ from if_pos h1,show l4 s i x.name=_ from if_pos h1];refine ao (n:=43) (n0:=32) tabOk Tryz.call61 Tryz.func61 ?_;intro hb
  rcases four hi with rfl|rfl|rfl|rfl<;>(
   (conv=>whnf);refine⟨false,.grow,(.l [0,1,2,3,4,5,6,7,8,9]),by kernel_rfl,.inl ?_⟩;(conv=>whnf);refine⟨_,⟨hxi,by decide⟩,?_⟩;(conv=>whnf);refine cl [] [] (p0) ?_;(conv=>whnf);refine dec (fun _=>?_) (fun h=>absurd h1 h);(conv=>whnf);exact aW (rF 0))
 ·rw[show nA s i x.name=_ from if_neg h1,show l4 s i x.name=_ from if_neg h1];generalize ga s i x.name (s.h i)=s1 at p2⊢;obtain⟨c,hc⟩:∃c,fa s i x.name (s.h i)=c:=⟨_,rfl⟩;rw[hc]at p2⊢;have p4:=gS (s.h i) c;generalize bV (s.h i) c=e at p4⊢;obtain⟨e1,e2,e3⟩:=e;refine ao (n:=43) (n0:=32) tabOk Tryz.call61 Tryz.func61 ?_;intro hb
  rcases four hi with rfl|rfl|rfl|rfl<;>(
   (conv=>whnf);refine⟨false,.grow,(.l [0,1,2,3,4,5,6,7,8,9]),by kernel_rfl,.inl ?_⟩;(conv=>whnf);refine⟨_,⟨hxi,by decide⟩,?_⟩;(conv=>whnf);refine cl [] [] (p0) ?_;(conv=>whnf);refine dec (fun h=>absurd h h1) (fun _=>?_);(conv=>whnf);refine⟨false,.grow,(.l [0,1,2,3,4,5,6,7,8,9,10,11,12,13,14,15,16,17,18,19,20,22,21,23,24,25]),by kernel_rfl,.inl ?_⟩;(conv=>whnf);refine⟨_,⟨hxi,by decide⟩,?_⟩;(conv=>whnf);refine⟨_,⟨hxi,by decide⟩,?_⟩;(conv=>whnf);refine cl [] [] (p1) ?_;(conv=>whnf);refine aP (mF 0) (bD 23 (d21++[.box (aF x),.box [.int .i64 0,.int .i64 0,.nil]]) s1) p2 ?_;(conv=>whnf);refine cl [] [] (p4) ?_;(conv=>whnf);exact aW (rF 23))
end Go.Nest
end
section
namespace Go.Nest
open Go Go.AM Go.Proofs
open Go.Proofs.YtpechfcbnoggfaaGreatDoor (tab tabOk)
set_option maxRecDepth 100000
theorem sC(s:FS)(hw:cg s)(id:Int):ae Tryz.prog 210 [.c (.bp (ed s)),.c (.int .i64 id)] [] (Rt (.tup [(false,[.rw 0]),(false,[.int .i64 (bc s.L id).2])]) [.row 4 Fi aw (bc s.L id).1]):=by
 have p1:=fJ s.L hw.pool id;have p2:=wY s.L hw.pool (ai s.L id).tree;unfold bc;generalize ai s.L id=o at p1 p2⊢;refine ao (n:=34) (n0:=0) tabOk Tryz.call210 Tryz.func210 ?_;intro hb;(conv=>whnf);refine dec (fun h=>?_) (fun h=>?_)
 ·rw[if_pos h];(conv=>whnf);exact rx [] [.new]
 ·rw[if_neg h];(conv=>whnf);refine cl [] [] (p1) ?_;(conv=>whnf);refine⟨false,.grow,(.l [0,1,2,3,4,5,6,7,8,9,10,11,12,13]),by kernel_rfl,.inl ?_⟩;(conv=>whnf);refine cl [] [] (p2) ?_;(conv=>whnf);exact rx [] [.same 1]
set_option maxHeartbeats 8000000 in
theorem Cv(s:FS)(hw:cg s){i:Nat}(hi:i<4)(x:bG)(hx:x.r=i)(hl:cg (s.cG (cq s.L s.o s.b (i:Nat) x.q (aD s x.q x.name).1))):ae Tryz.prog 63 [.c (.ptr 0 0),.st (aF x)] (aH s) (Rt (.st (b8 (l9 s i x.q x.name))) (aQ (lj s i x.q x.name))):=by
 have p1:=kC s hw x.q x.name;have p2:=tK s hw hi x.name
 have hE:l9 s i x.q x.name=if(aD s x.q x.name).2≠0 then⟨(aD s x.q x.name).2,0,[]⟩else if dj (s.n i) x.name≠0 then⟨dj (s.n i) x.name,0,[]⟩else
  if dp s.L s.dep (i:Nat) x.q (aD s x.q x.name).1≠0 then⟨dp s.L s.dep (i:Nat) x.q (aD s x.q x.name).1,0,[]⟩else
  bV (aD s x.q x.name).1 (eJ (s.cG (cq s.L s.o s.b (i:Nat) x.q (aD s x.q x.name).1)) i x.name (aD s x.q x.name).1):=rfl
 have hS:lj s i x.q x.name=if(aD s x.q x.name).2≠0 then s else if dj (s.n i) x.name≠0 then s else
  if dp s.L s.dep (i:Nat) x.q (aD s x.q x.name).1≠0 then s.cG (cq s.L s.o s.b (i:Nat) x.q (aD s x.q x.name).1)else
  ei (s.cG (cq s.L s.o s.b (i:Nat) x.q (aD s x.q x.name).1)) i x.name (aD s x.q x.name).1:=rfl
 rw[hE,hS];clear hE hS;generalize aD s x.q x.name=R at p1 hl⊢;obtain⟨id,c1⟩:=R;dsimp only at p1 hl⊢;have p3:=tQ (s:=s) (Cs s.L hw.pool s.o s.b hw.dX hw.own (i:Nat) x.q id) (fH _);have p3:ae Tryz.prog _ _ (aH s) (Rt (.c (.int .i64 (dp s.L s.dep (i:Nat) x.q id))) (aQ (s.cG (cq s.L s.o s.b (i:Nat) x.q id)))):=p3;have p4:=tl _ hl hi x.name id;have p5:=gS id (eJ (s.cG (cq s.L s.o s.b (i:Nat) x.q id)) i x.name id);clear hl;generalize eJ (s.cG (cq s.L s.o s.b (i:Nat) x.q id)) i x.name id=c4 at p4 p5⊢;generalize ei (s.cG (cq s.L s.o s.b (i:Nat) x.q id)) i x.name id=s4 at p4⊢;generalize s.cG (cq s.L s.o s.b (i:Nat) x.q id)=s3 at p3 p4⊢;generalize dp s.L s.dep (i:Nat) x.q id=c3 at p3⊢;generalize dj (s.n i) x.name=c2 at p2⊢;generalize bV id c4=e at p5⊢;obtain⟨e1,e2,e3⟩:=e;rw[←hx]at p2 p3 p4;refine ao (n:=55) (n0:=32) tabOk Tryz.call63 Tryz.func63 ?_;intro hb;(conv=>whnf);refine cl [] [] (p1) ?_;(conv=>whnf);refine av (fun h1=>?_) (fun h1=>?_)
 ·have h1:c1≠0:=h1;rw[if_pos h1,if_pos h1];(conv=>whnf);exact aW (rF 0)
 have h1:¬c1≠0:=fun h=>h h1;rw[if_neg h1,if_neg h1];(conv=>whnf);refine cl [] [] (p2) ?_;(conv=>whnf);refine av (fun h2=>?_) (fun h2=>?_)
 ·have h2:c2≠0:=h2;rw[if_pos h2,if_pos h2];(conv=>whnf);exact aW (rF 0)
 have h2:¬c2≠0:=fun h=>h h2;rw[if_neg h2,if_neg h2];(conv=>whnf);refine⟨false,.grow,(.l [0,1,2,3,4,5,6,7,8,9,10]),by kernel_rfl,.inl ?_⟩;(conv=>whnf);refine aP (mF 0) (bD 23 (d21++[.box (aF x),.box [.int .i64 0,.int .i64 0,.nil]]) s3) p3 ?_;(conv=>whnf);refine av (fun h3=>?_) (fun h3=>?_)
 ·have h3:c3≠0:=h3;rw[if_pos h3,if_pos h3];(conv=>whnf);exact aW (rF 23)
 have h3:¬c3≠0:=fun h=>h h3;rw[if_neg h3,if_neg h3];(conv=>whnf);refine aP (mF 23) (bD 44 (d21++[.box (aF x),.box [.int .i64 0,.int .i64 0,.nil]]++d21) s4) p4 ?_;(conv=>whnf);refine cl [] [] (p5) ?_;(conv=>whnf);exact aW (rF 44)
set_option maxHeartbeats 8000000 in
theorem GA(s:FS)(hw:cg s){i:Nat}(hi:i<4)(x:bG)(hx:x.r=i)(hp:x.path.length≤4000000)(hl:cg (s.aL (bT s.L (s.h i) x.path).2.2)):ae Tryz.prog 65 [.c (.ptr 0 0),.st (aF x)] (aH s) (Rt (.st (b8 (qP s i x.path x.name))) (aQ (oL s i x.path x.name))):=by
 have p1:=mm s.L (s.w i) (s.h i);have p2:=tK s hw hi x.name;have p3:=E2 (s:=s) (GF s.L hw.pool (s.h i) x.path hp) (rY _ _);have p4:=tl _ hl hi x.name (bT s.L (s.h i) x.path).1;have p5:=gS (bT s.L (s.h i) x.path).1 (eJ (s.aL (bT s.L (s.h i) x.path).2.2) i x.name (bT s.L (s.h i) x.path).1);unfold qP oL;clear hl;generalize eJ (s.aL (bT s.L (s.h i) x.path).2.2) i x.name (bT s.L (s.h i) x.path).1=c4 at p4 p5⊢;generalize ei (s.aL (bT s.L (s.h i) x.path).2.2) i x.name (bT s.L (s.h i) x.path).1=s4 at p4⊢;generalize s.aL (bT s.L (s.h i) x.path).2.2=s3 at p3 p4⊢;generalize bT s.L (s.h i) x.path=R at p3 p4 p5⊢;obtain⟨id,c3,L3⟩:=R;dsimp only at p3 p4 p5⊢;generalize dj (s.n i) x.name=c2 at p2⊢;generalize bV id c4=e at p5⊢;obtain⟨e1,e2,e3⟩:=e;have hxi:x.r=(i:Nat):=hx;rw[←hx]at p2 p4;by_cases h1:s.h i<0
 ·rw[if_pos h1,if_pos h1];refine ao (n:=64) (n0:=32) tabOk Tryz.call65 Tryz.func65 ?_;intro hb
  rcases four hi with rfl|rfl|rfl|rfl<;>(
   (conv=>whnf);refine⟨false,.grow,(.l [0,1,2,3,4,5,6,7,8,9]),by kernel_rfl,.inl ?_⟩;(conv=>whnf);refine⟨_,⟨hxi,by decide⟩,?_⟩;(conv=>whnf);refine cl [] [] (p1) ?_;(conv=>whnf);refine dec (fun _=>?_) (fun h=>absurd h1 h);(conv=>whnf);exact aW (rF 0))
 rw[if_neg h1,if_neg h1];refine ao (n:=64) (n0:=32) tabOk Tryz.call65 Tryz.func65 ?_;intro hb
 rcases four hi with rfl|rfl|rfl|rfl<;>(
  (conv=>whnf);refine⟨false,.grow,(.l [0,1,2,3,4,5,6,7,8,9]),by kernel_rfl,.inl ?_⟩;(conv=>whnf);refine⟨_,⟨hxi,by decide⟩,?_⟩;(conv=>whnf);refine cl [] [] (p1) ?_;(conv=>whnf);refine dec (fun h=>absurd h h1) (fun _=>?_);(conv=>whnf);refine cl [] [] (p2) ?_;(conv=>whnf);refine av (fun h2=>?_) (fun h2=>?_)
  ·have h2:c2≠0:=h2;rw[if_pos h2,if_pos h2];(conv=>whnf);exact aW (rF 0)
  have h2:¬c2≠0:=fun h=>h h2;rw[if_neg h2,if_neg h2];(conv=>whnf);refine⟨false,.grow,(.l [0,1,2,3,4,5,6,7,8,9,10,11,12,13,14,16,17,15,18,19,20,21,22,23]),by kernel_rfl,.inl ?_⟩;(conv=>whnf);refine⟨_,⟨hxi,by decide⟩,?_⟩;(conv=>whnf);refine cl [] [] (p1) ?_;(conv=>whnf);refine aP (mF 0) (bD 23 (d21++[.box (aF x),.box [.int .i64 0,.int .i64 0,.nil]]) s3) p3 ?_;(conv=>whnf);refine av (fun h3=>?_) (fun h3=>?_)
  ·have h3:c3≠0:=h3;rw[if_pos h3,if_pos h3];(conv=>whnf);exact aW (rF 23)
  have h3:¬c3≠0:=fun h=>h h3;rw[if_neg h3,if_neg h3];(conv=>whnf);refine aP (mF 23) (bD 44 (d21++[.box (aF x),.box [.int .i64 0,.int .i64 0,.nil]]++d21) s4) p4 ?_;(conv=>whnf);refine cl [] [] (p5) ?_;(conv=>whnf);exact aW (rF 44))
end Go.Nest
end
section
namespace Go.Nest
open Go Go.AM Go.Proofs
open Go.Proofs.YtpechfcbnoggfaaGreatDoor (tab tabOk)
set_option maxRecDepth 100000
theorem E0{f:FuncId}{rest:List A}{s:FS}{L:List Ob}{l:List Fi}{q:List (List UInt8)}{c:Int}(hs:ae Tryz.prog f (.c (.ptr 0 0)::rest) [.box [.rw 1],.row 6 Ob an s.L] (Rt (.tup [(false,[.rw 3]),(false,[.rw 4]),(false,[.int .i64 c])]) [.box [.rw 2],.dead,.row 6 Ob an L,.row 4 Fi aw l,.row 1 (List UInt8) encS q]))(hc:j9 rest:=by refine⟨fun _ _ _=>?_⟩;repeat' first|exact trivial|exact rfl|refine And.intro ?_ ?_):
  ae Tryz.prog f (.c (.ptr 10 0)::rest) (aH s) (Rt (.tup [(false,[.rw 53]),(false,[.rw 54]),(false,[.int .i64 c])]) (aQ (s.aL L)++[.row 4 Fi aw l,.row 1 (List UInt8) encS q])):=by
 refine bC.frame [10,11] ((rP fun i=>bif Nat.beq i 11 then 32 else i)++([.same 33,.same 34]:List Rn)) hs ?_ rfl rfl ?_ rfl
 ·exact jc (And.intro rfl (hc.m _ _ _))
 ·exact jP ⟨⟨rfl,rfl,trivial⟩,⟨rfl,rfl,trivial⟩,⟨rfl,rfl,trivial⟩,trivial⟩
def qM:List Rn:=[.same 0,.same 1,.same 2,.same 3,.same 4,.same 5,.same 6,.same 7,.same 8,.same 9,.same 10,.same 11,.same 12,.same 13,.same 14,.same 15,.same 16,.same 17,.same 18,.same 19,.same 20,.same 21,.same 22,.same 23,.same 24,.same 25,.same 26,.same 27,.same 28,.same 29,.same 30,.same 31,.same 32,.same 33,.same 34,.same 35]
def EH(i:Nat)(f0 f1 f2:List Fi):List B:=[.box [(bif Nat.blt 0 i then .rw 36 else .nil),(bif Nat.blt 1 i then .rw 37 else .nil),(bif Nat.blt 2 i then .rw 38 else .nil)]]
def EI(i:Nat)(f0 f1 f2:List Fi):List B:=[(bif Nat.blt 0 i then .row 4 Fi aw f0 else .dead),(bif Nat.blt 1 i then .row 4 Fi aw f1 else .dead),(bif Nat.blt 2 i then .row 4 Fi aw f2 else .dead)]
set_option maxHeartbeats 16000000 in
theorem EB(s:FS)(hw:cg s){i:Nat}(hi:i<4)(x:bG)(hx:x.r=i)(base id:Int)(hn:s.L.length≤600)(hp:∀l∈[(bc s.L base).1,(bc s.L (s.h i)).1,(bc s.L id).1],∀f∈l,f.path.length≤4000000)
  (hB:aj (aJ s i base id).L)(hBp:∀f∈(aJ s i base id).out,f.path.length≤4000000)(h2:cg (cM (s.aL (aJ s i base id).L) i (aJ s i base id).out))(h3:cg (cX (cM (s.aL (aJ s i base id).L) i (aJ s i base id).out) i ft [id])):
  ae Tryz.prog 130 [.c (.ptr 0 0),.st (aF x),.c (.int .i64 base),.c (.int .i64 id)] (aH s) (Rt (.st (b8 (jS s i base id))) (aQ (iJ s i base id))):=by
 obtain⟨hv,hhv⟩:∃hv,s.h i=hv:=⟨_,rfl⟩;have hd:ae Tryz.prog 70 [.c (.bp [.bp [.bs 6 Ob an s.L],.bs 5 It aG (s.w i),.int .i64 (s.h i)])] [] (Rt (.c (.int .i64 hv)) []):=by rw[←hhv];exact mm s.L (s.w i) (s.h i)
 have g0:=sC s hw base;have g1:=sC s hw hv;have g2:=sC s hw id;have b0:=E0 (s:=s) (AU s.L hw.pool hn (bc s.L base).1 (bc s.L (s.h i)).1 (bc s.L id).1 hp);have b1:ae Tryz.prog _ [_,.c (.ls 4 Fi aw (bc s.L base).1),.c (.ls 4 Fi aw (bc s.L (s.h i)).1),.c (.ls 4 Fi aw (bc s.L id).1)] (aH s) (Rt (.tup [(false,[.rw 53]),(false,[.rw 54]),(false,[.int .i64 (aJ s i base id).code])]) (aQ (s.aL (aJ s i base id).L)++[.row 4 Fi aw (aJ s i base id).out,.row 1 (List UInt8) encS (aJ s i base id).cf])):=b0;clear b0;have hpf:=hp (bc s.L (s.h i)).1 (by simp);clear hp
 have hE:jS s i base id=if(bc s.L base).2≠0 then⟨(bc s.L base).2,0,[]⟩else if(bc s.L (s.h i)).2≠0 then⟨(bc s.L (s.h i)).2,0,[]⟩else if(bc s.L id).2≠0 then⟨(bc s.L id).2,0,[]⟩else
  if(aJ s i base id).code≠0 then⟨(aJ s i base id).code,0,[]⟩else if 0<(aJ s i base id).cf.length then⟨10,0,(aJ s i base id).cf⟩else
  if iF (aJ s i base id).L (aJ s i base id).out≠0 then⟨iF (aJ s i base id).L (aJ s i base id).out,0,[]⟩else
  qg (cM (s.aL (aJ s i base id).L) i (aJ s i base id).out) i id:=rfl
 have hS:iJ s i base id=if(bc s.L base).2≠0 then s else if(bc s.L (s.h i)).2≠0 then s else if(bc s.L id).2≠0 then s else
  if(aJ s i base id).code≠0 then s.aL (aJ s i base id).L else if 0<(aJ s i base id).cf.length then s.aL (aJ s i base id).L else
  if iF (aJ s i base id).L (aJ s i base id).out≠0 then cM (s.aL (aJ s i base id).L) i (aJ s i base id).out else
  od (cM (s.aL (aJ s i base id).L) i (aJ s i base id).out) i id (bc s.L (s.h i)).1:=rfl
 generalize jS s i base id=E at hE⊢;generalize iJ s i base id=S at hS⊢;rw[hhv]at b1 hE hS hpf;generalize bc s.L base=R0 at g0 b1 hE hS;generalize bc s.L hv=R1 at g1 b1 hE hS hpf;generalize bc s.L id=R2 at g2 b1 hE hS;obtain⟨f0,c0⟩:=R0;obtain⟨f1,c1⟩:=R1;obtain⟨f2,c2⟩:=R2;generalize aJ s i base id=B at*;obtain⟨LB,out,cf,c3⟩:=B;dsimp only at*;have y1a:=jT (s:=s.aL LB) hi (xS LB hB (s.w i) (s.h i) out hBp) (fH _);have y1:ae Tryz.prog _ _ (aH (s.aL LB)) (Rt (.c (.int .i64 (iF LB out))) (aQ (cM (s.aL LB) i out))):=y1a;clear y1a;generalize iF LB out=c4 at y1 hE hS;generalize s.aL LB=s1 at*;generalize cM s1 i out=s2 at*;have y2a:=jT (s:=s2) hi (wc _ h2.pool _ _ (h2.paths i hi) (h2.items i hi) ft [id] (by simp) (h2.head i hi)) (rY _ _);have y2:ae Tryz.prog _ _ (aH s2) (Rt _ (aQ (cX s2 i ft [id]))):=y2a;clear y2a;unfold qg at hE;unfold od at hS;generalize cX s2 i ft [id]=s3 at*;generalize bn s2.L (s2.w i) (s2.h i) ft [id]=CW at y2 hE hS;obtain⟨n,c5,L5⟩:=CW;dsimp only at y2 hE hS;have y3a:=jT (s:=s3) hi (xS _ h3.pool (s3.w i) (s3.h i) f1 hpf) (fH _);have y3:ae Tryz.prog _ _ (aH s3) (Rt _ (aQ (cM s3 i f1))):=y3a;clear y3a;have y4a:=tQ (s:=s3) (ru s3.L h3.pool s3.o s3.b h3.dX h3.own (i:Int) [n] (by simp)) (fH _);have y4:ae Tryz.prog _ _ (aH s3) (Rt _ (aQ (iu s3 i n))):=y4a;clear y4a;generalize cM s3 i f1=s4 at y3 hS;generalize iu s3 i n=s5 at y4 hS;have y5:=gS n (cI s3.L (i:Int) [n]);generalize cI s3.L (i:Int) [n]=c6 at y4 y5 hE;generalize bV n c6=e at y5 hE;obtain⟨e1,e2,e3⟩:=e;generalize iF s3.L f1=c7 at y3;have hxi:x.r=(i:Nat):=hx;rw[←hx]at y4;have hq:Qn i:=trivial;refine ao (n:=113) (n0:=32) tabOk Tryz.call130 Tryz.func130 ?_;intro hb
 rcases four hi with rfl|rfl|rfl|rfl<;>(
  (conv=>whnf);refine⟨false,.grow,(.l [0,1,2,3,4,5,6,7,8]),by kernel_rfl,.inl ?_⟩;(conv=>whnf);refine⟨_,⟨hxi,by decide⟩,?_⟩;(conv=>whnf);refine cl [] [] (hd) ?_;(conv=>whnf);refine⟨[base,hv,id],rfl,?_⟩;(conv=>whnf);refine mL (P:=Qn) (q:=_) hq Nat (fun q j=>⟨[(0,.c (.ptr 0 0)),(3,.c (.int .i64 id)),(5,.c (.ptr 32 0)),(8,.c (.ptr 33 0)),(9,.c (.ptr (3+2*q) 0)),(10,.c (.ptr 34 0)),(32,.c (.rw 35)),(33,.c (.int .i64 3)),(34,.c (.int .i64 j))],aH s++[.box (aF x),.box [.int .i64 0,.int .i64 0,.nil]]++EH j f0 f1 f2++[.row 1 Int encI [base,hv,id]]++EI j f0 f1 f2⟩) (fun q j=>j≤3∧(0<j→c0=0)∧(1<j→c1=0)∧(2<j→c2=0)) (fun j=>3-j) 0 [] (qM++[.same 0,.same 0,.same 0]) ⟨by decide,fun hh=>absurd hh (by decide),fun hh=>absurd hh (by decide),fun hh=>absurd hh (by decide)⟩ eV (fun j hj=>?_);obtain⟨hj,hj0,hj1,hj2⟩:=hj;have hj:j=0∨j=1∨j=2∨j=3:=by omega
  rcases hj with rfl|rfl|rfl|rfl
  ·(conv=>whnf);refine⟨0,⟨rfl,by simp⟩,?_⟩;(conv=>whnf);refine⟨_,rfl,?_⟩;(conv=>whnf);refine cl [] [] (g0) ?_;(conv=>whnf);refine av (fun h=>?_) (fun h=>?_)
   ·obtain rfl:=hE.trans (if_pos h);obtain rfl:=hS.trans (if_pos h);(conv=>whnf);exact aW (rF 0)
   (conv=>whnf);refine⟨_,⟨rfl,by decide⟩,?_⟩;repeat'((conv=>whnf);first|(refine dec (fun h=>?_) (fun h=>?_)<;>try contradiction)|(refine av (fun h=>?_) (fun h=>?_)<;>try contradiction)|refine df (fun h=>?_) (fun h=>?_)|refine aO (fun h=>?_) (fun h=>?_)|refine⟨i64 (by omega) (by omega),?_⟩|refine⟨_,_,rfl,List.getElem?_eq_getElem (by omega),?_⟩|refine⟨_,⟨rfl,by omega⟩,?_⟩|refine⟨_,List.getElem?_eq_getElem (by omega),?_⟩|refine aC ?_|refine aI ?_|refine dB ?_ rfl|fail)
   refine ag 1 [] (qM++[.same 39,.same 37,.same 38]) ⟨by decide,fun _=>h,fun hh=>absurd hh (by decide),fun hh=>absurd hh (by decide)⟩ (by decide) ?_;exact eV
  ·have z0:=hj0 (by decide);(conv=>whnf);refine⟨1,⟨rfl,by simp⟩,?_⟩;(conv=>whnf);refine⟨_,rfl,?_⟩;(conv=>whnf);refine cl [] [] (g1) ?_;(conv=>whnf);refine av (fun h=>?_) (fun h=>?_)
   ·obtain rfl:=hE.trans ((if_neg (fun k=>k z0)).trans (if_pos h));obtain rfl:=hS.trans ((if_neg (fun k=>k z0)).trans (if_pos h));(conv=>whnf);exact aW (rF 0)
   (conv=>whnf);refine⟨_,⟨rfl,by decide⟩,?_⟩;repeat'((conv=>whnf);first|(refine dec (fun h=>?_) (fun h=>?_)<;>try contradiction)|(refine av (fun h=>?_) (fun h=>?_)<;>try contradiction)|refine df (fun h=>?_) (fun h=>?_)|refine aO (fun h=>?_) (fun h=>?_)|refine⟨i64 (by omega) (by omega),?_⟩|refine⟨_,_,rfl,List.getElem?_eq_getElem (by omega),?_⟩|refine⟨_,⟨rfl,by omega⟩,?_⟩|refine⟨_,List.getElem?_eq_getElem (by omega),?_⟩|refine aC ?_|refine aI ?_|refine dB ?_ rfl|fail)
   refine ag 2 [] (qM++[.same 36,.same 39,.same 38]) ⟨by decide,fun _=>z0,fun _=>h,fun hh=>absurd hh (by decide)⟩ (by decide) ?_;exact eV
  ·have z0:=hj0 (by decide);have z1:=hj1 (by decide);(conv=>whnf);refine⟨2,⟨rfl,by simp⟩,?_⟩;(conv=>whnf);refine⟨_,rfl,?_⟩;(conv=>whnf);refine cl [] [] (g2) ?_;(conv=>whnf);refine av (fun h=>?_) (fun h=>?_)
   ·obtain rfl:=hE.trans ((if_neg (fun k=>k z0)).trans ((if_neg (fun k=>k z1)).trans (if_pos h)));obtain rfl:=hS.trans ((if_neg (fun k=>k z0)).trans ((if_neg (fun k=>k z1)).trans (if_pos h)));(conv=>whnf);exact aW (rF 0)
   (conv=>whnf);refine⟨_,⟨rfl,by decide⟩,?_⟩;repeat'((conv=>whnf);first|(refine dec (fun h=>?_) (fun h=>?_)<;>try contradiction)|(refine av (fun h=>?_) (fun h=>?_)<;>try contradiction)|refine df (fun h=>?_) (fun h=>?_)|refine aO (fun h=>?_) (fun h=>?_)|refine⟨i64 (by omega) (by omega),?_⟩|refine⟨_,_,rfl,List.getElem?_eq_getElem (by omega),?_⟩|refine⟨_,⟨rfl,by omega⟩,?_⟩|refine⟨_,List.getElem?_eq_getElem (by omega),?_⟩|refine aC ?_|refine aI ?_|refine dB ?_ rfl|fail)
   refine ag 3 [] (qM++[.same 36,.same 37,.same 39]) ⟨by decide,fun _=>z0,fun _=>z1,fun _=>h⟩ (by decide) ?_;exact eV
  ·have z0:=hj0 (by decide);have z1:=hj1 (by decide);have z2:=hj2 (by decide);(conv=>whnf);refine⟨false,.grow,(.l [0,1,2,3,4,5,6,7,8,9,10,11,12,13,14,15,16,17,18,19,20]),by kernel_rfl,.inl ?_⟩;(conv=>whnf);refine⟨0,⟨rfl,by decide⟩,?_⟩;(conv=>whnf);refine⟨1,⟨rfl,by decide⟩,?_⟩;(conv=>whnf);refine⟨2,⟨rfl,by decide⟩,?_⟩;(conv=>whnf);refine Bb [36,37,38] (mF 0) (aH s++[.box (aF x),.box [.int .i64 0,.int .i64 0,.nil],.box [.rw 36,.rw 37,.rw 38],.row 1 Int encI [base,hv,id],.fro 4 Fi aw f0,.fro 4 Fi aw f1,.fro 4 Fi aw f2]) (bD 28 (d21++[.box (aF x),.box [.int .i64 0,.int .i64 0,.nil],.box [.rw 36,.rw 37,.rw 38],.row 1 Int encI [base,hv,id],.fro 4 Fi aw f0,.fro 4 Fi aw f1,.fro 4 Fi aw f2]) s1++[.row 4 Fi aw out,.row 1 (List UInt8) encS cf]) b1 ?_;(conv=>whnf);refine av (fun h=>?_) (fun z3=>?_)
   ·obtain rfl:=hE.trans ((if_neg (fun k=>k z0)).trans ((if_neg (fun k=>k z1)).trans ((if_neg (fun k=>k z2)).trans (if_pos h))));obtain rfl:=hS.trans ((if_neg (fun k=>k z0)).trans ((if_neg (fun k=>k z1)).trans ((if_neg (fun k=>k z2)).trans (if_pos h))));(conv=>whnf);exact aW (rF 28)
   (conv=>whnf);refine dec (fun h=>?_) (fun z4=>?_)
   ·have h:0<cf.length:=by have h:(0:Int)<cf.length:=h;omega
    obtain rfl:=hE.trans ((if_neg (fun k=>k z0)).trans ((if_neg (fun k=>k z1)).trans ((if_neg (fun k=>k z2)).trans ((if_neg (fun k=>k z3)).trans (if_pos h)))));obtain rfl:=hS.trans ((if_neg (fun k=>k z0)).trans ((if_neg (fun k=>k z1)).trans ((if_neg (fun k=>k z2)).trans ((if_neg (fun k=>k z3)).trans (if_pos h)))));(conv=>whnf);exact Gg [61] (rF 28)
   have z4:¬0<cf.length:=by have z4:¬(0:Int)<cf.length:=z4;omega
   (conv=>whnf);refine aP (mF 28) (bD 51 ((d21++[.box (aF x),.box [.int .i64 0,.int .i64 0,.nil],.box [.rw 36,.rw 37,.rw 38],.row 1 Int encI [base,hv,id],.fro 4 Fi aw f0,.fro 4 Fi aw f1,.fro 4 Fi aw f2])++d21++[.row 4 Fi aw out,.row 1 (List UInt8) encS cf]) s2) y1 ?_;(conv=>whnf);refine av (fun h=>?_) (fun z5=>?_)
   ·obtain rfl:=hE.trans ((if_neg (fun k=>k z0)).trans ((if_neg (fun k=>k z1)).trans ((if_neg (fun k=>k z2)).trans ((if_neg (fun k=>k z3)).trans ((if_neg z4).trans (if_pos h))))));obtain rfl:=hS.trans ((if_neg (fun k=>k z0)).trans ((if_neg (fun k=>k z1)).trans ((if_neg (fun k=>k z2)).trans ((if_neg (fun k=>k z3)).trans ((if_neg z4).trans (if_pos h))))));(conv=>whnf);exact aW (rF 51)
   (conv=>whnf);refine⟨[id],rfl,?_⟩;(conv=>whnf);refine aP (mF 51) (bD 73 (((d21++[.box (aF x),.box [.int .i64 0,.int .i64 0,.nil],.box [.rw 36,.rw 37,.rw 38],.row 1 Int encI [base,hv,id],.fro 4 Fi aw f0,.fro 4 Fi aw f1,.fro 4 Fi aw f2])++d21++[.row 4 Fi aw out,.row 1 (List UInt8) encS cf])++d21++[.row 1 Int encI [id]]) s3) y2 ?_;(conv=>whnf);refine av (fun h=>?_) (fun z6=>?_)
   ·obtain rfl:=hE.trans ((if_neg (fun k=>k z0)).trans ((if_neg (fun k=>k z1)).trans ((if_neg (fun k=>k z2)).trans ((if_neg (fun k=>k z3)).trans ((if_neg z4).trans ((if_neg (fun k=>k z5)).trans (if_pos h)))))));obtain rfl:=hS.trans ((if_neg (fun k=>k z0)).trans ((if_neg (fun k=>k z1)).trans ((if_neg (fun k=>k z2)).trans ((if_neg (fun k=>k z3)).trans ((if_neg z4).trans ((if_neg (fun k=>k z5)).trans (if_pos h)))))));(conv=>whnf);refine⟨1,⟨rfl,by decide⟩,?_⟩;(conv=>whnf);refine aP (mF 73) (bD 94 ((((d21++[.box (aF x),.box [.int .i64 0,.int .i64 0,.nil],.box [.rw 36,.rw 37,.rw 38],.row 1 Int encI [base,hv,id],.fro 4 Fi aw f0,.fro 4 Fi aw f1,.fro 4 Fi aw f2])++d21++[.row 4 Fi aw out,.row 1 (List UInt8) encS cf])++d21++[.row 1 Int encI [id]])++d21) S) y3 ?_;(conv=>whnf);exact aW (rF 94)
   obtain rfl:=hE.trans ((if_neg (fun k=>k z0)).trans ((if_neg (fun k=>k z1)).trans ((if_neg (fun k=>k z2)).trans ((if_neg (fun k=>k z3)).trans ((if_neg z4).trans ((if_neg (fun k=>k z5)).trans (if_neg (fun k=>k z6))))))));obtain rfl:=hS.trans ((if_neg (fun k=>k z0)).trans ((if_neg (fun k=>k z1)).trans ((if_neg (fun k=>k z2)).trans ((if_neg (fun k=>k z3)).trans ((if_neg z4).trans ((if_neg (fun k=>k z5)).trans (if_neg (fun k=>k z6))))))));(conv=>whnf);refine⟨false,.grow,(.l [0,1,2,3,4,5,6,7,8,9,10,11]),by kernel_rfl,.inl ?_⟩;(conv=>whnf);refine⟨[n],rfl,?_⟩;(conv=>whnf);refine aP (mF 73) (bD 95 ((((d21++[.box (aF x),.box [.int .i64 0,.int .i64 0,.nil],.box [.rw 36,.rw 37,.rw 38],.row 1 Int encI [base,hv,id],.fro 4 Fi aw f0,.fro 4 Fi aw f1,.fro 4 Fi aw f2])++d21++[.row 4 Fi aw out,.row 1 (List UInt8) encS cf])++d21++[.row 1 Int encI [id]])++d21++[.row 1 Int encI [n]]) S) y4 ?_;(conv=>whnf);refine cl [] [] (y5) ?_;(conv=>whnf);exact aW (rF 95))
end Go.Nest
end
section
namespace Go.Nest
open Go Go.AM Go.Proofs
open Go.Proofs.YtpechfcbnoggfaaGreatDoor (tab tabOk)
set_option maxRecDepth 100000
theorem E4{f:FuncId}{rest:List A}{X:A}{s:FS}{r:Nat}(hr:r<4){L:List Ob}(hs:ae Tryz.prog f (.c (.ptr 0 0)::rest) [.box [.ptr 1 0,.rw 3,.int .i64 (s.h r)],.box [.rw 2],.row 6 Ob an s.L,.row 5 It aG (s.w r)] (Rt X [.box [.ptr 1 0,.rw 5,.int .i64 (s.h r)],.box [.rw 4],.dead,.dead,.row 6 Ob an L,.row 5 It aG (s.w r)]))(hx:iT X)(hc:j9 rest:=by refine⟨fun _ _ _=>?_⟩;repeat' first|exact trivial|exact rfl|refine And.intro ?_ ?_):
  ae Tryz.prog f (.c (.ptr (3+2*r) 0)::rest) (aH s) (Rt X (aQ (s.aL L))):=by
 refine bC.frame [3+2*r,10,11,28+r] (rP fun i=>bif Nat.beq i 11 then 32 else bif Nat.beq i (28+r)then 33 else i) hs ?_ rfl (hx.r _) ?_ ?_
 ·rcases four hr with rfl|rfl|rfl|rfl<;>exact jc (And.intro rfl (hc.m _ _ _))
 ·rcases four hr with rfl|rfl|rfl|rfl<;>exact jP (hx.m _ _)
 ·rw[hx.c];rfl
theorem xP{l:List Int}(h:0<l.length):l[l.length-1]? =some (l.getLastD 0):=by
 rw[←List.getLast?_eq_getElem?,List.getLastD_eq_getLast?];cases l with
 |nil=>simp at h
 |cons a l=>simp[List.getLast?_cons]
theorem AQ{L:List Ob}{a b:Int}:(dW L a b).1.length≤L.length:=by
 unfold dW;split
 ·exact Nat.zero_le _
 split
 ·exact Nat.zero_le _
 ·exact Nat.le_trans (List.length_filter_le _ _) (Nat.le_trans (List.length_filter_le _ _) o6)
set_option maxHeartbeats 16000000 in
theorem Ey(s:FS)(hw:cg s){i:Nat}(hi:i<4)(x:bG)(hx:x.r=i)(h1:cg (cw s i))
  (hmix:ae Tryz.prog 130 [.c (.ptr 0 0),.st (aF x),.c (.int .i64 (mD (dW (cw s i).L ((cw s i).h i) (aD s (i:Nat) x.name).1).1)),.c (.int .i64 (aD s (i:Nat) x.name).1)] (aH (cw s i)) (Rt (.st (b8 (jS (cw s i) i (mD (dW (cw s i).L ((cw s i).h i) (aD s (i:Nat) x.name).1).1) (aD s (i:Nat) x.name).1))) (aQ (iJ (cw s i) i (mD (dW (cw s i).L ((cw s i).h i) (aD s (i:Nat) x.name).1).1) (aD s (i:Nat) x.name).1)))):
  ae Tryz.prog 60 [.c (.ptr 0 0),.st (aF x)] (aH s) (Rt (.st (b8 (oc s i x.name))) (aQ (lF s i x.name))):=by
 have p1:=kC s hw (i:Nat) x.name;have p2a:=E4 (s:=s) hi (vR s.L hw.pool (s.w i) (s.h i) (hw.paths i hi) (hw.items i hi)) (fH _);have p2:ae Tryz.prog _ _ (aH s) (Rt (.c (.int .i64 (jE s i))) (aQ (cw s i))):=p2a;clear p2a;have hE:oc s i x.name=if(aD s (i:Nat) x.name).2≠0 then⟨(aD s (i:Nat) x.name).2,0,[]⟩else if jE s i≠0 then⟨jE s i,0,[]⟩else qf (cw s i) i (aD s (i:Nat) x.name).1:=rfl
 have hS:lF s i x.name=if(aD s (i:Nat) x.name).2≠0 then s else if jE s i≠0 then cw s i else oa (cw s i) i (aD s (i:Nat) x.name).1:=rfl
 generalize oc s i x.name=E at hE⊢;generalize lF s i x.name=S at hS⊢;generalize aD s (i:Nat) x.name=R at p1 hmix hE hS;obtain⟨id,c1⟩:=R;generalize jE s i=c2 at p2 hE hS;generalize cw s i=s1 at h1 hmix p2 hE hS;dsimp only at p1 hmix hE hS;unfold qf at hE;unfold oa at hS;obtain⟨hv,hhv⟩:∃hv,s1.h i=hv:=⟨_,rfl⟩;have hd:ae Tryz.prog 70 [.c (.bp [.bp [.bs 6 Ob an s1.L],.bs 5 It aG (s1.w i),.int .i64 (s1.h i)])] [] (Rt (.c (.int .i64 hv)) []):=by rw[←hhv];exact mm s1.L (s1.w i) (s1.h i)
 have p3a:=jT (s:=s1) hi (vP s1.L h1.pool (s1.w i) (s1.h i) (h1.paths i hi) (h1.items i hi) id) (fH _);have p3:ae Tryz.prog _ _ (aH s1) (Rt (.c (.int .i64 (eF s1.L (s1.w i) (s1.h i) id))) (aQ (iK s1 i id))):=p3a;clear p3a;rw[hhv]at hmix hE hS;unfold qw at hE;have p4:=gS id (eF s1.L (s1.w i) (s1.h i) id);generalize eF s1.L (s1.w i) (s1.h i) id=c3 at p3 p4 hE;generalize iK s1 i id=s3 at p3 hS;generalize bV id c3=e at p4 hE;obtain⟨e1,e2,e3⟩:=e;have p5:=tc s1.L h1.pool hv id;have p6:=tc s1.L h1.pool id hv;have p7:=AR s1.L h1.pool hv id;generalize ef s1.L hv id=IA at p5 hE hS;generalize ef s1.L id hv=IB at p6 hE hS;have hbl:=AQ (L:=s1.L) (a:=hv) (b:=id);have hLl:=h1.pool.len;generalize dW s1.L hv id=BR at p7 hmix hE hS hbl;obtain⟨bl,c4⟩:=BR;dsimp only at p7 hmix hE hS hbl;obtain⟨base,hbase⟩:∃base,mD bl=base:=⟨_,rfl⟩;rw[hbase]at hmix hE hS;generalize jS s1 i base id=em at hmix hE;generalize iJ s1 i base id=sm at hmix hS;obtain⟨m1,m2,m3⟩:=em;have hxi:x.r=(i:Nat):=hx;rw[←hx]at p1;refine ao (n:=111) (n0:=32) tabOk Tryz.call60 Tryz.func60 ?_;intro hb;(conv=>whnf);refine cl [] [] (p1) ?_;(conv=>whnf);refine av (fun h=>?_) (fun z1=>?_)
 ·obtain rfl:=hE.trans (if_pos h);obtain rfl:=hS.trans (if_pos h);(conv=>whnf);exact aW (rF 0)
 have hE:=hE.trans (if_neg (fun k=>k z1));have hS:=hS.trans (if_neg (fun k=>k z1))
 rcases four hi with rfl|rfl|rfl|rfl<;>(
  (conv=>whnf);refine⟨false,.grow,(.l [0,1,2,3,4,5,6,7,8]),by kernel_rfl,.inl ?_⟩;(conv=>whnf);refine⟨_,⟨hxi,by decide⟩,?_⟩;(conv=>whnf);refine aP (mF 0) (bD 23 (d21++[.box (aF x),.box [.int .i64 0,.int .i64 0,.nil]]) s1) p2 ?_;(conv=>whnf);refine av (fun h=>?_) (fun z2=>?_)
  ·obtain rfl:=hE.trans (if_pos h);obtain rfl:=hS.trans (if_pos h);(conv=>whnf);exact aW (rF 23)
  (conv=>whnf);refine⟨false,.grow,(.l [0,1,2,3,4,5,6,7,8,9,10,11,13,12,14,15,16,18,17,19,20,21,22]),by kernel_rfl,.inl ?_⟩;(conv=>whnf);refine cl [] [] (hd) ?_;(conv=>whnf);refine dec (fun h=>?_) (fun z3=>?_)
  ·obtain rfl:=hE.trans ((if_neg (fun k=>k z2)).trans (if_pos (.inl h)));obtain rfl:=hS.trans ((if_neg (fun k=>k z2)).trans (if_pos (.inl h)));(conv=>whnf);refine aP (mF 23) (bD 44 (d21++[.box (aF x),.box [.int .i64 0,.int .i64 0,.nil]]++d21) S) p3 ?_;(conv=>whnf);refine cl [] [] (p4) ?_;(conv=>whnf);exact aW (rF 44)
  (conv=>whnf);refine cl [] [] (hd) ?_;(conv=>whnf);refine cl [] [] (p5) ?_;(conv=>whnf);refine aO (fun hA=>?_) (fun hA=>?_)
  ·(conv=>whnf);refine cl [] [] (hd) ?_;(conv=>whnf);refine av (fun g=>?_) (fun g=>?_)
   ·obtain rfl:=hE.trans ((if_neg (fun k=>k z2)).trans (if_pos (.inr ⟨hA,g⟩)));obtain rfl:=hS.trans ((if_neg (fun k=>k z2)).trans (if_pos (.inr ⟨hA,g⟩)));(conv=>whnf);refine aP (mF 23) (bD 44 (d21++[.box (aF x),.box [.int .i64 0,.int .i64 0,.nil]]++d21) S) p3 ?_;(conv=>whnf);refine cl [] [] (p4) ?_;(conv=>whnf);exact aW (rF 44)
   ·have hn:¬(hv<0∨(IA=true∧hv≠id)):=fun k=>k.elim z3 (fun k=>k.2 g);have hE:=hE.trans ((if_neg (fun k=>k z2)).trans (if_neg hn));have hS:=hS.trans ((if_neg (fun k=>k z2)).trans (if_neg hn));(conv=>whnf);refine⟨false,.grow,(.l [0,1,2,3,4,5,6,7,8,9,10,11]),by kernel_rfl,.inl ?_⟩;(conv=>whnf);refine cl [] [] (hd) ?_;(conv=>whnf);refine cl [] [] (p6) ?_;(conv=>whnf);refine aO (fun hB=>?_) (fun hB=>?_)
    ·obtain rfl:=hE.trans (if_pos hB);obtain rfl:=hS.trans (if_pos hB);(conv=>whnf);exact aW (rF 23)
    have hE:=hE.trans (if_neg (by rw[hB];decide));have hS:=hS.trans (if_neg (by rw[hB];decide));(conv=>whnf);refine⟨false,.grow,(.l [0,1,2,3,4,5,6,7,9,8,10,11,12,13,14,15]),by kernel_rfl,.inl ?_⟩;(conv=>whnf);refine cl [] [] (hd) ?_;(conv=>whnf);refine cl [] [] (p7) ?_;(conv=>whnf);refine av (fun h=>?_) (fun z4=>?_)
    ·obtain rfl:=hE.trans (if_pos h);obtain rfl:=hS.trans (if_pos h);(conv=>whnf);exact aW (rF 23)
    obtain rfl:=hE.trans (if_neg (fun k=>k z4));obtain rfl:=hS.trans (if_neg (fun k=>k z4));(conv=>whnf);refine dec (fun h=>?_) (fun h=>?_)
    ·have h:0<bl.length:=by have h:(0:Int)<bl.length:=h;omega
     rw[show base=bl.getLastD 0 from hbase.symm.trans (if_pos h)]at hmix;have hla:=xP h;generalize bl.getLastD 0=bb at hmix hla;(conv=>whnf);refine⟨i64 (by omega) (by omega),?_⟩;(conv=>whnf);refine⟨bl.length-1,⟨by omega,by omega⟩,?_⟩;(conv=>whnf);refine⟨bb,hla,?_⟩;(conv=>whnf);refine aP (mF 23) (bD 45 (d21++[.box (aF x),.box [.int .i64 0,.int .i64 0,.nil]]++d21++[.row 1 Int encI bl]) S) hmix ?_;(conv=>whnf);exact aW (rF 45)
    ·have h:¬0<bl.length:=by have h:¬(0:Int)<bl.length:=h;omega
     rw[show base= -1 from hbase.symm.trans (if_neg h)]at hmix;(conv=>whnf);refine aP (mF 23) (bD 45 (d21++[.box (aF x),.box [.int .i64 0,.int .i64 0,.nil]]++d21++[.row 1 Int encI bl]) S) hmix ?_;(conv=>whnf);exact aW (rF 45)
  ·have hn:¬(hv<0∨(IA=true∧hv≠id)):=fun k=>k.elim z3 (fun k=>by rw[hA]at k;cases k.1);have hE:=hE.trans ((if_neg (fun k=>k z2)).trans (if_neg hn));have hS:=hS.trans ((if_neg (fun k=>k z2)).trans (if_neg hn));(conv=>whnf);refine⟨false,.grow,(.l [0,1,2,3,4,5,6,7,8,9,10,11]),by kernel_rfl,.inl ?_⟩;(conv=>whnf);refine cl [] [] (hd) ?_;(conv=>whnf);refine cl [] [] (p6) ?_;(conv=>whnf);refine aO (fun hB=>?_) (fun hB=>?_)
   ·obtain rfl:=hE.trans (if_pos hB);obtain rfl:=hS.trans (if_pos hB);(conv=>whnf);exact aW (rF 23)
   have hE:=hE.trans (if_neg (by rw[hB];decide));have hS:=hS.trans (if_neg (by rw[hB];decide));(conv=>whnf);refine⟨false,.grow,(.l [0,1,2,3,4,5,6,7,9,8,10,11,12,13,14,15]),by kernel_rfl,.inl ?_⟩;(conv=>whnf);refine cl [] [] (hd) ?_;(conv=>whnf);refine cl [] [] (p7) ?_;(conv=>whnf);refine av (fun h=>?_) (fun z4=>?_)
   ·obtain rfl:=hE.trans (if_pos h);obtain rfl:=hS.trans (if_pos h);(conv=>whnf);exact aW (rF 23)
   obtain rfl:=hE.trans (if_neg (fun k=>k z4));obtain rfl:=hS.trans (if_neg (fun k=>k z4));(conv=>whnf);refine dec (fun h=>?_) (fun h=>?_)
   ·have h:0<bl.length:=by have h:(0:Int)<bl.length:=h;omega
    rw[show base=bl.getLastD 0 from hbase.symm.trans (if_pos h)]at hmix;have hla:=xP h;generalize bl.getLastD 0=bb at hmix hla;(conv=>whnf);refine⟨i64 (by omega) (by omega),?_⟩;(conv=>whnf);refine⟨bl.length-1,⟨by omega,by omega⟩,?_⟩;(conv=>whnf);refine⟨bb,hla,?_⟩;(conv=>whnf);refine aP (mF 23) (bD 45 (d21++[.box (aF x),.box [.int .i64 0,.int .i64 0,.nil]]++d21++[.row 1 Int encI bl]) S) hmix ?_;(conv=>whnf);exact aW (rF 45)
   ·have h:¬0<bl.length:=by have h:¬(0:Int)<bl.length:=h;omega
    rw[show base= -1 from hbase.symm.trans (if_neg h)]at hmix;(conv=>whnf);refine aP (mF 23) (bD 45 (d21++[.box (aF x),.box [.int .i64 0,.int .i64 0,.nil]]++d21++[.row 1 Int encI bl]) S) hmix ?_;(conv=>whnf);exact aW (rF 45))
end Go.Nest
end
section
namespace Go.Nest
open Go Go.AM Go.Proofs
open Go.Proofs.YtpechfcbnoggfaaGreatDoor (tab tabOk)
set_option maxRecDepth 100000
set_option maxHeartbeats 4000000 in
theorem B3(s:FS){i:Nat}(hi:i<4)(q:Int)(p n t b:List UInt8)(E:ck)(S:FS)(p1:ae Tryz.prog 57 [.c (.ptr 0 0),.st (aF ⟨3,i,q,p,n,t,b⟩)] (aH s) (Rt (.st (b8 E)) (aQ S))):ae Tryz.prog 22 [.c (.ptr 0 0),.st (aF ⟨3,i,q,p,n,t,b⟩)] (aH s) (Rt (.st (b8 E)) (aQ S)):=by
 have p0:=eS i;rw[b5.2 ⟨i,hi,rfl⟩]at p0;obtain⟨e1,e2,e3⟩:=E;refine ao (n:=111) (n0:=32) tabOk Tryz.call22 Tryz.func22 ?_;intro hb;(conv=>whnf);refine cl [] [] (p0) ?_;(conv=>whnf);refine aP (mF 0) (bD 23 (d21++[.box (aF ⟨3,i,q,p,n,t,b⟩),.box [.int .i64 0,.int .i64 0,.nil]]) S) p1 ?_;(conv=>whnf);exact aW (rF 23)
set_option maxHeartbeats 4000000 in
theorem BY(s:FS){i:Nat}(hi:i<4)(q:Int)(p n t b:List UInt8)(E:ck)(S:FS)(p1:ae Tryz.prog 59 [.c (.ptr 0 0),.st (aF ⟨5,i,q,p,n,t,b⟩)] (aH s) (Rt (.st (b8 E)) (aQ S))):ae Tryz.prog 22 [.c (.ptr 0 0),.st (aF ⟨5,i,q,p,n,t,b⟩)] (aH s) (Rt (.st (b8 E)) (aQ S)):=by
 have p0:=eS i;rw[b5.2 ⟨i,hi,rfl⟩]at p0;obtain⟨e1,e2,e3⟩:=E;refine ao (n:=111) (n0:=32) tabOk Tryz.call22 Tryz.func22 ?_;intro hb;(conv=>whnf);refine cl [] [] (p0) ?_;(conv=>whnf);refine aP (mF 0) (bD 23 (d21++[.box (aF ⟨5,i,q,p,n,t,b⟩),.box [.int .i64 0,.int .i64 0,.nil]]) S) p1 ?_;(conv=>whnf);exact aW (rF 23)
set_option maxHeartbeats 4000000 in
theorem B4(s:FS){i:Nat}(hi:i<4)(q:Int)(p n t b:List UInt8)(E:ck)(S:FS)(p1:ae Tryz.prog 60 [.c (.ptr 0 0),.st (aF ⟨6,i,q,p,n,t,b⟩)] (aH s) (Rt (.st (b8 E)) (aQ S))):ae Tryz.prog 22 [.c (.ptr 0 0),.st (aF ⟨6,i,q,p,n,t,b⟩)] (aH s) (Rt (.st (b8 E)) (aQ S)):=by
 have p0:=eS i;rw[b5.2 ⟨i,hi,rfl⟩]at p0;obtain⟨e1,e2,e3⟩:=E;refine ao (n:=111) (n0:=32) tabOk Tryz.call22 Tryz.func22 ?_;intro hb;(conv=>whnf);refine cl [] [] (p0) ?_;(conv=>whnf);refine aP (mF 0) (bD 23 (d21++[.box (aF ⟨6,i,q,p,n,t,b⟩),.box [.int .i64 0,.int .i64 0,.nil]]) S) p1 ?_;(conv=>whnf);exact aW (rF 23)
set_option maxHeartbeats 4000000 in
theorem BX(s:FS){i:Nat}(hi:i<4)(q:Int)(p n t b:List UInt8)(E:ck)(S:FS)(p1:ae Tryz.prog 61 [.c (.ptr 0 0),.st (aF ⟨7,i,q,p,n,t,b⟩)] (aH s) (Rt (.st (b8 E)) (aQ S))):ae Tryz.prog 22 [.c (.ptr 0 0),.st (aF ⟨7,i,q,p,n,t,b⟩)] (aH s) (Rt (.st (b8 E)) (aQ S)):=by
 have p0:=eS i;rw[b5.2 ⟨i,hi,rfl⟩]at p0;obtain⟨e1,e2,e3⟩:=E;refine ao (n:=111) (n0:=32) tabOk Tryz.call22 Tryz.func22 ?_;intro hb;(conv=>whnf);refine cl [] [] (p0) ?_;(conv=>whnf);refine aP (mF 0) (bD 23 (d21++[.box (aF ⟨7,i,q,p,n,t,b⟩),.box [.int .i64 0,.int .i64 0,.nil]]) S) p1 ?_;(conv=>whnf);exact aW (rF 23)
set_option maxHeartbeats 4000000 in
theorem B0(s:FS){i:Nat}(hi:i<4)(q:Int)(p n t b:List UInt8)(E:ck)(S:FS)(p1:ae Tryz.prog 62 [.c (.ptr 0 0),.st (aF ⟨8,i,q,p,n,t,b⟩)] (aH s) (Rt (.st (b8 E)) (aQ S))):ae Tryz.prog 22 [.c (.ptr 0 0),.st (aF ⟨8,i,q,p,n,t,b⟩)] (aH s) (Rt (.st (b8 E)) (aQ S)):=by
 have p0:=eS i;rw[b5.2 ⟨i,hi,rfl⟩]at p0;obtain⟨e1,e2,e3⟩:=E;refine ao (n:=111) (n0:=32) tabOk Tryz.call22 Tryz.func22 ?_;intro hb;(conv=>whnf);refine cl [] [] (p0) ?_;(conv=>whnf);refine aP (mF 0) (bD 23 (d21++[.box (aF ⟨8,i,q,p,n,t,b⟩),.box [.int .i64 0,.int .i64 0,.nil]]) S) p1 ?_;(conv=>whnf);exact aW (rF 23)
set_option maxHeartbeats 4000000 in
theorem B1(s:FS){i:Nat}(hi:i<4)(q:Int)(p n t b:List UInt8)(E:ck)(S:FS)(p1:ae Tryz.prog 63 [.c (.ptr 0 0),.st (aF ⟨9,i,q,p,n,t,b⟩)] (aH s) (Rt (.st (b8 E)) (aQ S))):ae Tryz.prog 22 [.c (.ptr 0 0),.st (aF ⟨9,i,q,p,n,t,b⟩)] (aH s) (Rt (.st (b8 E)) (aQ S)):=by
 have p0:=eS i;rw[b5.2 ⟨i,hi,rfl⟩]at p0;obtain⟨e1,e2,e3⟩:=E;refine ao (n:=111) (n0:=32) tabOk Tryz.call22 Tryz.func22 ?_;intro hb;(conv=>whnf);refine cl [] [] (p0) ?_;(conv=>whnf);refine aP (mF 0) (bD 23 (d21++[.box (aF ⟨9,i,q,p,n,t,b⟩),.box [.int .i64 0,.int .i64 0,.nil]]) S) p1 ?_;(conv=>whnf);exact aW (rF 23)
set_option maxHeartbeats 4000000 in
theorem B7(s:FS){i:Nat}(hi:i<4)(q:Int)(p n t b:List UInt8)(E:ck)(S:FS)(p1:ae Tryz.prog 65 [.c (.ptr 0 0),.st (aF ⟨12,i,q,p,n,t,b⟩)] (aH s) (Rt (.st (b8 E)) (aQ S))):ae Tryz.prog 22 [.c (.ptr 0 0),.st (aF ⟨12,i,q,p,n,t,b⟩)] (aH s) (Rt (.st (b8 E)) (aQ S)):=by
 have p0:=eS i;rw[b5.2 ⟨i,hi,rfl⟩]at p0;obtain⟨e1,e2,e3⟩:=E;refine ao (n:=111) (n0:=32) tabOk Tryz.call22 Tryz.func22 ?_;intro hb;(conv=>whnf);refine cl [] [] (p0) ?_;(conv=>whnf);refine aP (mF 0) (bD 23 (d21++[.box (aF ⟨12,i,q,p,n,t,b⟩),.box [.int .i64 0,.int .i64 0,.nil]]) S) p1 ?_;(conv=>whnf);exact aW (rF 23)
set_option maxHeartbeats 4000000 in
theorem B6(s:FS)(hw:cg s){i:Nat}(hi:i<4){r:Int}(hr:r=i)(q:Int)(p n t b:List UInt8):ae Tryz.prog 22 [.c (.ptr 0 0),.st (aF ⟨2,r,q,p,n,t,b⟩)] (aH s) (Rt (.st (b8 (qG s i p))) (aQ (qH s i p))):=by
 have p0:=eS r;rw[b5.2 ⟨i,hi,hr⟩]at p0;have p1a:=jT (s:=s) hi (FF s.L (s.w i) (s.h i) p (hw.items i hi)) (fH _);obtain⟨c,hc⟩:∃c,(gI (s.w i) p).1=c:=⟨_,rfl⟩;rw[hc]at p1a;have p1:ae Tryz.prog _ _ (aH s) (Rt _ (aQ (qH s i p))):=p1a;clear p1a;have p2:=gS 0 c;rw[show qG s i p=bV 0 c by unfold qG;rw[hc]];generalize bV 0 c=e at p2⊢;obtain⟨e1,e2,e3⟩:=e;generalize qH s i p=s1 at p1⊢;refine ao (n:=111) (n0:=32) tabOk Tryz.call22 Tryz.func22 ?_;intro hb;(conv=>whnf);refine cl [] [] (p0) ?_
 rcases four hi with rfl|rfl|rfl|rfl<;>(
  (conv=>whnf);refine⟨false,.grow,(.l [0,1,2,3,4,5,6,7,8,9,10,11,12]),by kernel_rfl,.inl ?_⟩;(conv=>whnf);refine⟨_,⟨hr,by decide⟩,?_⟩;(conv=>whnf);refine aP (mF 0) (bD 23 (d21++[.box (aF ⟨2,r,q,p,n,t,b⟩),.box [.int .i64 0,.int .i64 0,.nil]]) s1) p1 ?_;(conv=>whnf);refine cl [] [] (p2) ?_;(conv=>whnf);exact aW (rF 23))
set_option maxHeartbeats 4000000 in
theorem BW(s:FS)(hw:cg s){i:Nat}(hi:i<4)(q:Int)(p n t b:List UInt8):ae Tryz.prog 22 [.c (.ptr 0 0),.st (aF ⟨10,(i:Nat),q,p,n,t,b⟩)] (aH s) (Rt (.st (b8 (pf s i q))) (aQ (pg s i q))):=by
 have p0:=eS i;rw[b5.2 ⟨i,hi,rfl⟩]at p0;have p1a:=E1 (s:=s) (AX s.L s.o s.b hw.dX (i:Nat) q) (fH _);obtain⟨c,hc⟩:∃c,dD s.b (i:Nat) q=c:=⟨_,rfl⟩;rw[hc]at p1a;have p1:ae Tryz.prog _ _ (aH s) (Rt _ (aQ (pg s i q))):=p1a;clear p1a;have p2:=gS 0 c;rw[show pf s i q=bV 0 c by unfold pf;rw[hc]];generalize bV 0 c=e at p2⊢;obtain⟨e1,e2,e3⟩:=e;generalize pg s i q=s1 at p1⊢;refine ao (n:=111) (n0:=32) tabOk Tryz.call22 Tryz.func22 ?_;intro hb;(conv=>whnf);refine cl [] [] (p0) ?_;(conv=>whnf);refine⟨false,.grow,(.l [0,1,2,3,4,5,6,7,8,9,10]),by kernel_rfl,.inl ?_⟩;(conv=>whnf);refine aP (mF 0) (bD 23 (d21++[.box (aF ⟨10,(i:Nat),q,p,n,t,b⟩),.box [.int .i64 0,.int .i64 0,.nil]]) s1) p1 ?_;(conv=>whnf);refine cl [] [] (p2) ?_;(conv=>whnf);exact aW (rF 23)
theorem B2(s:FS)(x:bG)(h:x.kind<1∨12<x.kind):ae Tryz.prog 22 [.c (.ptr 0 0),.st (aF x)] (aH s) (Rt (.st (b8 ⟨6,0,[]⟩)) (aQ s)):=by
 refine ao (n:=111) (n0:=32) tabOk Tryz.call22 Tryz.func22 ?_;intro hb;(conv=>whnf);refine dec (fun h1=>?_) (fun h1=>?_)
 ·(conv=>whnf);exact aW (rF 0)
 ·(conv=>whnf);refine dec (fun h2=>?_) (fun h2=>?_)
  ·(conv=>whnf);exact aW (rF 0)
  ·exact absurd (h.resolve_left h1) h2
theorem B5(s:FS)(x:bG)(h:¬(x.kind<1∨12<x.kind))(hr:bh x.r=false):ae Tryz.prog 22 [.c (.ptr 0 0),.st (aF x)] (aH s) (Rt (.st (b8 ⟨1,0,[]⟩)) (aQ s)):=by
 have p0:=eS x.r;rw[hr]at p0;refine ao (n:=111) (n0:=32) tabOk Tryz.call22 Tryz.func22 ?_;intro hb;(conv=>whnf);refine dec (fun h1=>absurd (.inl h1) h) (fun h1=>?_);(conv=>whnf);refine dec (fun h2=>absurd (.inr h2) h) (fun h2=>?_);(conv=>whnf);refine cl [] [] (p0) ?_;(conv=>whnf);exact aW (rF 0)
end Go.Nest
end
