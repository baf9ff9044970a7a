/- part -/
import Derived.Test.YtpechfcbnoggfaaGreatDoorV28
import Derived.Test.YtpechfcbnoggfaaGreatDoorU3
import Derived.Test.YtpechfcbnoggfaaGreatDoorK13
set_option linter.unusedVariables false
set_option linter.unusedSimpArgs false
namespace Go.Nest
open Go Go.AM Go.Proofs
open Go.Proofs.YtpechfcbnoggfaaGreatDoor (tab tabOk)
set_option maxRecDepth 100000
def jX(r:Nat)(D:Nat→List Dc)(h:Nat→Int)(O:Nat→List Int)(N:Nat→Nat):List B:=[
 .box [(bif Nat.blt 0 r then .rw 36 else .nil),(bif Nat.blt 1 r then .rw 37 else .nil),(bif Nat.blt 2 r then .rw 38 else .nil),(bif Nat.blt 3 r then .rw 39 else .nil)],.box [.int .i64 (bif Nat.blt 0 r then h 0 else 0),.int .i64 (bif Nat.blt 1 r then h 1 else 0),.int .i64 (bif Nat.blt 2 r then h 2 else 0),.int .i64 (bif Nat.blt 3 r then h 3 else 0)],
 .box [(bif Nat.blt 0 r then .rw 40 else .nil),(bif Nat.blt 1 r then .rw 41 else .nil),(bif Nat.blt 2 r then .rw 42 else .nil),(bif Nat.blt 3 r then .rw 43 else .nil)],.box [.int .i64 (bif Nat.blt 0 r then(N 0:Int)else 0),.int .i64 (bif Nat.blt 1 r then(N 1:Int)else 0),.int .i64 (bif Nat.blt 2 r then(N 2:Int)else 0),.int .i64 (bif Nat.blt 3 r then(N 3:Int)else 0)]]++([(bif Nat.blt 0 r then .row 2 Dc cQ (D 0)else .dead),(bif Nat.blt 1 r then .row 2 Dc cQ (D 1)else .dead),(bif Nat.blt 2 r then .row 2 Dc cQ (D 2)else .dead),(bif Nat.blt 3 r then .row 2 Dc cQ (D 3)else .dead)]++[(bif Nat.blt 0 r then .row 1 Int encI (O 0)else .dead),(bif Nat.blt 1 r then .row 1 Int encI (O 1)else .dead),(bif Nat.blt 2 r then .row 1 Int encI (O 2)else .dead),(bif Nat.blt 3 r then .row 1 Int encI (O 3)else .dead)])
def FO(r:Nat):List Rn:=rK 0++(List.range 12).map fun i=>bif Nat.beq i (4+r)then .same 44 else bif Nat.beq i (8+r)then .same 45 else .same (32+i)
def kR(s1:FS)(D:Nat→List Dc)(h:Nat→Int)(O:Nat→List Int)(N:Nat→Nat)(Z:Nat→List Int):List B:=aH s1++(jX 4 D h O N++[.row 1 Int encI (Z 0),.row 1 Int encI (Z 1),.row 1 Int encI (Z 2),.row 1 Int encI (Z 3),.box [.rw 44,.rw 45,.rw 46,.rw 47],.row 1 Int encI (Z 0),.row 1 Int encI (Z 1),.row 1 Int encI (Z 2),.row 1 Int encI (Z 3),.box [.rw 49,.rw 50,.rw 51,.rw 52]])
def zQ{q:Nat}(_:Qn q)(Z:Nat→List B):List B:=Z q
theorem E8{o:Nat→List Bool}{k n:Nat}(hk:k<4)(h:(o k).length≤n):ew o (k:Nat) (n:Int)=false:=by
 cases e:ew o (k:Nat) (n:Int)with
 |false=>rfl
 |true=>
  rw[tS hk]at e;have:=(List.getElem?_eq_some_iff.1 e.2).1;omega
theorem yg{o:Nat→List Bool}{k n:Nat}(hk:k<4)(h:(o k).length≤n):∀d,fq o (k:Nat) (n+d)=fq o (k:Nat) n
 |0=>rfl
 |d+1=>by
  rw[←Nat.add_assoc,yh,yg hk h d,E8 hk (by omega),if_neg (by decide),List.append_nil]
theorem E9{o:Nat→List Bool}{p:Nat→List Bool}{r:Int}(h:bh r=true→o r.toNat=p r.toNat)(id:Int):ew o r id=ew p r id:=by
 unfold ew;cases e:bh r with
 |false=>rfl
 |true=>rw[h e]
theorem Ej{o p:Nat→List Bool}{r:Int}(h:bh r=true→o r.toNat=p r.toNat)(n:Nat):fq o r n=fq p r n:=by
 unfold fq;congr 1
 exact List.filter_congr fun k _=>E9 h (k:Int)
theorem db.list{L0:List Ob}{s t:FS}{n m:Nat}(h:db s t)(hs:FI L0 s n)(ht:FI L0 t m)(hx:s.L<+:t.L){k:Nat}(hk:k<4):fq t.o (k:Nat) t.L.length=fq s.o (k:Nat) s.L.length:=by
 rw[Ej (o:=t.o) (p:=s.o) (r:=(k:Int)) fun _=>h.o k hk];obtain⟨d,hd⟩:∃d,t.L.length=s.L.length+d:=⟨t.L.length-s.L.length,by have:=hx.length_le;omega⟩;rw[hd,yg hk (hs.own k hk)]
theorem db.roots{s t:FS}(h:db s t){k:Nat}(hk:k<4):iO t k=iO s k:=by
 have h1:∀j,j<4→iH (t.w j) k=iH (s.w j) k:=fun j hj=>by unfold iH;rw[h.lnk j hj]
 unfold iO gJ fZ;rw[h.m k hk,h.head k hk,h1 0 (by decide),h1 1 (by decide),h1 2 (by decide),h1 3 (by decide)]
theorem GK{L0:List Ob}{s:FS}{n:Nat}(h:FI L0 s n)(x:bG):s.L<+:(dh s x).L:=(h.base.step x).pre
theorem wB(s:FS){k:Nat}(hk:k<4):pA s (k:Nat)=(s.w k).map cP:=if_neg (by rw[b5.2 ⟨k,hk,rfl⟩];decide)
theorem xu(s:FS){k:Nat}(hk:k<4):pP s (k:Nat)=s.h k:=if_neg (by rw[b5.2 ⟨k,hk,rfl⟩];decide)
theorem za(s:FS){k:Nat}(hk:k<4):qE s (k:Nat)=s.n k:=if_neg (by rw[b5.2 ⟨k,hk,rfl⟩];decide)
theorem zz(l:List Int):ae Tryz.prog 30 [.c (.bs 1 Int encI l),.c (.bs 1 Int encI l)] [] (Rt (.c (.bool true)) []):=by
 have h:=Gk l l;rwa[show decide (l=l)=true from decide_eq_true rfl]at h
set_option maxHeartbeats 8000000 in
theorem CO(l:List bG)(hl:rm l):ae Tryz.prog 6 [.c (.ls 7 bG aF l)] [] (Rt (.c (.bool true)) []):=by
 refine ao (n:=118) (n0:=0) tabOk Tryz.call6 Tryz.func6 ?_;intro hb;(conv=>whnf);refine cl [] [] (CN) ?_;(conv=>whnf);refine cl [] [] (C1 l hl) ?_;(conv=>whnf);refine aO (fun g=>?_) (fun g=>?_)
 ·(conv=>whnf);exact aC rfl
 obtain⟨hln,hpa⟩:=C0 g;(conv=>whnf);refine cl [] [] (w9) ?_;(conv=>whnf);refine lp (Nat×FS) (fun p=>⟨[(0,.c (.bs 7 bG aF l)),(3,.c (.ptr 0 0)),(4,.c (.int .i64 p.1))],aH p.2⟩) (fun p=>(p.1≤l.length∧FI [] p.2 p.1)∧True) (fun p=>l.length-p.1) (0,iE) [] (rK 0) ⟨⟨Nat.zero_le _,FI.nil⟩,trivial⟩ eV (fun⟨i,s⟩ hi=>?_);obtain⟨⟨hi,hs⟩,-⟩:=hi;dsimp only at hi hs;(conv=>whnf);refine dec (fun h4=>?_) (fun h4=>?_)
 ·have hlt:i<l.length:=by have h4:(i:Int)<l.length:=h4;omega
  have hw:=hs.wf (by omega);obtain⟨D,hD⟩:∃D:Nat→List Dc,∀k,D k=(s.w k).map cP:=⟨_,fun _=>rfl⟩;obtain⟨O,hO⟩:∃O:Nat→List Int,∀k,O k=fq s.o (k:Nat) s.L.length:=⟨_,fun _=>rfl⟩;have q1:∀k,k<4→ae Tryz.prog 25 [.c (.bp (ed s)),.c (.int .i64 (k:Nat))] [] (Rt (.c (.rw 0)) [.row 2 Dc cQ (D k)]):=fun k hk=>by rw[hD,←wB s hk];exact sf s hw _
  have q2:∀k,k<4→ae Tryz.prog 27 [.c (.bp (ed s)),.c (.int .i64 (k:Nat))] [] (Rt (.c (.int .i64 (s.h k))) []):=fun k hk=>by rw[←xu s hk];exact sQ s hw _
  have q3:∀k,k<4→ae Tryz.prog 28 [_,.c (.int .i64 (k:Nat))] [] (Rt (.c (.rw 0)) [.row 1 Int encI (O k)]):=fun k hk=>by rw[hO];exact yf s.L hw.pool s.o s.b _
  have q4:∀k,k<4→ae Tryz.prog 26 [.c (.bp (ed s)),.c (.int .i64 (k:Nat))] [] (Rt (.c (.rw 0)) [.row 2 Rf bg (s.n k)]):=fun k hk=>by rw[←za s hk];exact ui s hw _
  (conv=>whnf);refine lp Nat (fun r=>⟨[(0,.c (.bs 7 bG aF l)),(3,.c (.ptr 0 0)),(4,.c (.int .i64 i)),(5,.c (.ptr 32 0)),(6,.c (.ptr 33 0)),(7,.c (.ptr 34 0)),(8,.c (.ptr 35 0)),(9,.c (.int .i64 r))],aH s++jX r D s.h O fun k=>(s.n k).length⟩) (fun r=>r≤4∧True) (fun r=>4-r) 0 [] (rK 0++[.same 32,.same 33,.same 34,.same 35,.new,.new,.new,.new,.new,.new,.new,.new]) ⟨by decide,trivial⟩ eV (fun r hr=>?_);obtain⟨hr4,-⟩:=hr;(conv=>whnf);refine dec (fun h5=>?_) (fun h5=>?_)
  ·have hr:r<4:=by have h5:(r:Int)<4:=h5;omega
   have hQ:Qn r:=trivial
   rcases four hr with rfl|rfl|rfl|rfl<;>(
    (conv=>whnf);refine⟨false,.grow,(.l [0,1,2,3,4,5,7,8,10,11,12,13,14,16,17,6,20,9,15,18,19,21,22,23,24,25,26,27]),by kernel_rfl,.inl ?_⟩;(conv=>whnf);refine aP [] (zQ hQ fun r=>((aH s++jX r D s.h O fun k=>(s.n k).length)++[.row 2 Dc cQ (D r)])) (q1 _ hr) ?_;(conv=>whnf);refine⟨_,⟨rfl,hr⟩,?_⟩;(conv=>whnf);refine aP [] (zQ hQ fun r=>((aH s++jX r D s.h O fun k=>(s.n k).length)++[.row 2 Dc cQ (D r)])) (q2 _ hr) ?_;(conv=>whnf);refine aP [] (zQ hQ fun r=>((aH s++jX r D s.h O fun k=>(s.n k).length)++[.row 2 Dc cQ (D r),.row 1 Int encI (O r)])) (q3 _ hr) ?_;(conv=>whnf);refine aP [] (zQ hQ fun r=>((aH s++jX r D s.h O fun k=>(s.n k).length)++[.row 2 Dc cQ (D r),.row 1 Int encI (O r),.row 2 Rf bg (s.n r)])) (q4 _ hr) ?_;(conv=>whnf);refine⟨_,⟨rfl,hr⟩,?_⟩;(conv=>whnf);refine⟨_,⟨rfl,hr⟩,?_⟩;(conv=>whnf);refine⟨_,⟨rfl,hr⟩,?_⟩;repeat'((conv=>whnf);first|(refine dec (fun h=>?_) (fun h=>?_)<;>try contradiction)|(refine av (fun h=>?_) (fun h=>?_)<;>try contradiction)|refine df (fun h=>?_) (fun h=>?_)|refine aO (fun h=>?_) (fun h=>?_)|refine⟨i64 (by omega) (by omega),?_⟩|refine⟨_,_,rfl,List.getElem?_eq_getElem (by omega),?_⟩|refine⟨_,⟨rfl,by omega⟩,?_⟩|refine⟨_,List.getElem?_eq_getElem (by omega),?_⟩|refine aC ?_|refine aI ?_|refine dB ?_ rfl|fail)
    refine nu hQ (_+1) [] FO ⟨hr,trivial⟩ (by decide) ?_;exact eV)
  ·obtain rfl:r=4:=by have h5:¬(r:Int)<4:=h5;omega
   have r1:=zi s hw (fun r hr=>(hs.work r hr).lnk);obtain⟨x,hx⟩:∃x,l[i]=x:=⟨_,rfl⟩;have hgi:l[i]? =some x:=by rw[←hx];exact List.getElem?_eq_getElem hlt
   have p:=nI hs (by omega) x (hpa x (by rw[←hx];exact List.getElem_mem hlt));have rf:=refused hs x;have hs1:=hs.step x;have hxx:=GK hs x;have zr:db s (dh s x)→∀k,k<4→iO (dh s x) k=iO s k:=fun g k hk=>g.roots hk;generalize iO s=Z at r1 zr;unfold fE at p;generalize gy s x=E at p rf;obtain⟨ec,eid,ecf⟩:=E;generalize dh s x=s1 at p rf hs1 hxx zr;(conv=>whnf);refine aP [] ((aH s++jX 4 D s.h O fun k=>(s.n k).length)++[.row 1 Int encI (Z 0),.row 1 Int encI (Z 1),.row 1 Int encI (Z 2),.row 1 Int encI (Z 3)]) r1 ?_;(conv=>whnf);refine⟨i,x,rfl,hgi,?_⟩;(conv=>whnf);refine aP (mF 0) (bD 38 (d21++(jX 4 D s.h O (fun k=>(s.n k).length)++[.row 1 Int encI (Z 0),.row 1 Int encI (Z 1),.row 1 Int encI (Z 2),.row 1 Int encI (Z 3),.box [.rw 44,.rw 45,.rw 46,.rw 47]])) s1) p ?_;(conv=>whnf);refine dec (fun h6=>?_) (fun h6=>?_)
   ·repeat'((conv=>whnf);first|(refine dec (fun h=>?_) (fun h=>?_)<;>try contradiction)|(refine av (fun h=>?_) (fun h=>?_)<;>try contradiction)|refine df (fun h=>?_) (fun h=>?_)|refine aO (fun h=>?_) (fun h=>?_)|refine⟨i64 (by omega) (by omega),?_⟩|refine⟨_,_,rfl,List.getElem?_eq_getElem (by omega),?_⟩|refine⟨_,⟨rfl,by omega⟩,?_⟩|refine⟨_,List.getElem?_eq_getElem (by omega),?_⟩|refine aC ?_|refine aI ?_|refine dB ?_ rfl|fail)
    refine ag (i+1,s1) [] (rK 38) ⟨⟨hlt,hs1⟩,trivial⟩ (by simp only[];omega) ?_;exact eV
   ·have g:=rf h6;have hw1:=hs1.wf (by omega);have r2:=zi s1 hw1 (fun r hr=>(hs1.work r hr).lnk);rw[zr g 0 (by decide),zr g 1 (by decide),zr g 2 (by decide),zr g 3 (by decide)]at r2;have u1:∀k,k<4→ae Tryz.prog 25 [.c (.bp (ed s1)),.c (.int .i64 (k:Nat))] [] (Rt (.c (.rw 0)) [.row 2 Dc cQ (D k)]):=fun k hk=>by rw[hD,←g.doc k hk,←wB s1 hk];exact sf s1 hw1 _
    have u2:∀k,k<4→ae Tryz.prog 27 [.c (.bp (ed s1)),.c (.int .i64 (k:Nat))] [] (Rt (.c (.int .i64 (s.h k))) []):=fun k hk=>by rw[←g.head k hk,←xu s1 hk];exact sQ s1 hw1 _
    have u3:∀k,k<4→ae Tryz.prog 28 [_,.c (.int .i64 (k:Nat))] [] (Rt (.c (.rw 0)) [.row 1 Int encI (O k)]):=fun k hk=>by rw[hO,←g.list hs hs1 hxx hk];exact yf s1.L hw1.pool s1.o s1.b _
    have u4:∀k,k<4→ae Tryz.prog 26 [.c (.bp (ed s1)),.c (.int .i64 (k:Nat))] [] (Rt (.c (.rw 0)) [.row 2 Rf bg (s.n k)]):=fun k hk=>by rw[←g.n k hk,←za s1 hk];exact ui s1 hw1 _
    (conv=>whnf);refine aP [] (bD 38 (d21++(jX 4 D s.h O (fun k=>(s.n k).length)++[.row 1 Int encI (Z 0),.row 1 Int encI (Z 1),.row 1 Int encI (Z 2),.row 1 Int encI (Z 3),.box [.rw 44,.rw 45,.rw 46,.rw 47]])) s1++[.row 1 Int encI (Z 0),.row 1 Int encI (Z 1),.row 1 Int encI (Z 2),.row 1 Int encI (Z 3)]) r2 ?_;(conv=>whnf);refine lp Nat (fun r=>⟨[(0,.c (.bs 7 bG aF l)),(3,.c (.ptr 0 0)),(4,.c (.int .i64 i)),(5,.c (.ptr 32 0)),(6,.c (.ptr 33 0)),(7,.c (.ptr 34 0)),(8,.c (.ptr 35 0)),(10,.c (.ptr 48 0)),(11,.c (.ptr 53 0)),(12,.c (.int .i64 r))],kR s1 D s.h O (fun k=>(s.n k).length) Z⟩) (fun r=>r≤4∧True) (fun r=>4-r) 0 [] (rK 38++(List.range 17).map (fun i=>.same (32+i))++[.same 70,.same 71,.same 72,.same 73,.same 74]) ⟨by decide,trivial⟩ eV (fun r hr=>?_);obtain⟨hr4,-⟩:=hr;(conv=>whnf);refine dec (fun h5=>?_) (fun h5=>?_)
    ·have hr:r<4:=by have h5:(r:Int)<4:=h5;omega
     have hQ:Qn r:=trivial
     rcases four hr with rfl|rfl|rfl|rfl<;>(
      (conv=>whnf);refine⟨false,.grow,(.l [0,1,2,3,4,5,6,7,8,9,10,11,12,13,14,15,16,17,18,19,20,21,22,23,24,25,26,27,28,29,30,31,32,33,34,35,36,37,38,39,40,41,42,43,44,45,46,47,48,49]),by kernel_rfl,.inl ?_⟩;(conv=>whnf);refine⟨_,⟨rfl,hr⟩,?_⟩;(conv=>whnf);refine aP [] (zQ hQ fun r=>(kR s1 D s.h O (fun k=>(s.n k).length) Z++[.row 2 Dc cQ (D r)])) (u1 _ hr) ?_;(conv=>whnf);refine aP [] (zQ hQ fun r=>(kR s1 D s.h O (fun k=>(s.n k).length) Z++[.row 2 Dc cQ (D r)])) (Gj (D _)) ?_;(conv=>whnf);refine⟨_,⟨rfl,hr⟩,?_⟩;(conv=>whnf);refine aP [] (zQ hQ fun r=>(kR s1 D s.h O (fun k=>(s.n k).length) Z++[.row 2 Dc cQ (D r)])) (u2 _ hr) ?_;(conv=>whnf);refine av (fun h=>absurd rfl h) (fun _=>?_);(conv=>whnf);refine⟨_,⟨rfl,hr⟩,?_⟩;(conv=>whnf);refine aP [] (zQ hQ fun r=>(kR s1 D s.h O (fun k=>(s.n k).length) Z++[.row 2 Dc cQ (D r),.row 1 Int encI (O r)])) (u3 _ hr) ?_;(conv=>whnf);refine aP [] (zQ hQ fun r=>(kR s1 D s.h O (fun k=>(s.n k).length) Z++[.row 2 Dc cQ (D r),.row 1 Int encI (O r)])) (zz (O _)) ?_;(conv=>whnf);refine⟨_,⟨rfl,hr⟩,?_⟩;(conv=>whnf);refine aP [] (zQ hQ fun r=>(kR s1 D s.h O (fun k=>(s.n k).length) Z++[.row 2 Dc cQ (D r),.row 1 Int encI (O r),.row 2 Rf bg (s.n r)])) (u4 _ hr) ?_;(conv=>whnf);refine av (fun h=>absurd rfl h) (fun _=>?_);(conv=>whnf);refine⟨_,⟨rfl,hr⟩,?_⟩;(conv=>whnf);refine⟨_,⟨rfl,hr⟩,?_⟩;(conv=>whnf);refine aP [] (zQ hQ fun r=>(kR s1 D s.h O (fun k=>(s.n k).length) Z++[.row 2 Dc cQ (D r),.row 1 Int encI (O r),.row 2 Rf bg (s.n r)])) (zz (Z _)) ?_;repeat'((conv=>whnf);first|(refine dec (fun h=>?_) (fun h=>?_)<;>try contradiction)|(refine av (fun h=>?_) (fun h=>?_)<;>try contradiction)|refine df (fun h=>?_) (fun h=>?_)|refine aO (fun h=>?_) (fun h=>?_)|refine⟨i64 (by omega) (by omega),?_⟩|refine⟨_,_,rfl,List.getElem?_eq_getElem (by omega),?_⟩|refine⟨_,⟨rfl,by omega⟩,?_⟩|refine⟨_,List.getElem?_eq_getElem (by omega),?_⟩|refine aC ?_|refine aI ?_|refine dB ?_ rfl|fail)
      refine ag (_+1) [] ((List.range 54).map .same) ⟨hr,trivial⟩ (by decide) ?_;exact eV)
    ·obtain rfl:r=4:=by have h5:¬(r:Int)<4:=h5;omega
     repeat'((conv=>whnf);first|(refine dec (fun h=>?_) (fun h=>?_)<;>try contradiction)|(refine av (fun h=>?_) (fun h=>?_)<;>try contradiction)|refine df (fun h=>?_) (fun h=>?_)|refine aO (fun h=>?_) (fun h=>?_)|refine⟨i64 (by omega) (by omega),?_⟩|refine⟨_,_,rfl,List.getElem?_eq_getElem (by omega),?_⟩|refine⟨_,⟨rfl,by omega⟩,?_⟩|refine⟨_,List.getElem?_eq_getElem (by omega),?_⟩|refine aC ?_|refine aI ?_|refine dB ?_ rfl|fail)
     refine ag (i+1,s1) [] (rK 0) ⟨⟨hlt,hs1⟩,trivial⟩ (by simp only[];omega) ?_;exact eV
 ·(conv=>whnf);exact aC rfl
end Go.Nest
