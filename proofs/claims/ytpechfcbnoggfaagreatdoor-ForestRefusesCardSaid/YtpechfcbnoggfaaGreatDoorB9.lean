/- part -/
import Derived.Test.YtpechfcbnoggfaaGreatDoorB6
import Derived.Test.YtpechfcbnoggfaaGreatDoorU0
set_option linter.unusedVariables false
set_option linter.unusedSimpArgs false
section
namespace Go.Nest
open Go Go.AM Go.Proofs
open Go.Proofs.YtpechfcbnoggfaaGreatDoor (tab tabOk)
set_option maxRecDepth 4000
def mO(L:List Ob)(base x y:Fi)(p:List UInt8):Fi:=if x=y∨y=base then x else if x=base then y else if(gY L base x y p).2=true then(gY L base x y p).1 else if x.mode=0 then y else x
def kP(L:List Ob)(base x y:Fi):List Ob:=if x=y∨y=base then L else if x=base then L else iI L base x y
def tZ(L:List Ob)(code:Int)(base x y:Fi):Int:=if x=y∨y=base then code else if x=base then code else lG L code base x y
def oA(L:List Ob)(cf:List (List UInt8))(base x y:Fi)(p:List UInt8):List (List UInt8):=if x=y∨y=base then cf else if x=base then cf else if(gY L base x y p).2=true then cf else cf++[p]
def gP(out:List Fi)(f:Fi):List Fi:=if 0<f.mode then out++[f]else out
theorem Fk(L:List Ob)(hL:aj L)(hn:L.length≤600)(out:List Fi)(ho:out.length≤1000)(cf:List (List UInt8))(hc:cf.length≤1000)(code:Int)(base x y:Fi)(p:List UInt8)(hp:p.length≤4000000):
  ae Tryz.prog 278 [.c (.ptr 0 0),.c (.str p),.st (aw base),.st (aw x),.st (aw y)] [.box [.ptr 1 0,.rw 3,.rw 4,.int .i64 code],.box [.rw 2],.row 6 Ob an L,.row 4 Fi aw out,.row 1 (List UInt8) encS cf] (Rt (.tup []) [.box [.ptr 1 0,.rw 6,.rw 7,.int .i64 (tZ L code base x y)],.box [.rw 5],.dead,.dead,.dead,.row 6 Ob an (kP L base x y),.row 4 Fi aw (gP out (mO L base x y p)),.row 1 (List UInt8) encS (oA L cf base x y p)]):=by
 have q1:=EF L hL hn out cf code base x y p hp;unfold mO kP oA tZ;refine ao (n:=66) (n0:=5) tabOk Tryz.call278 Tryz.func278 ?_;intro hb;(conv=>whnf);refine dec (fun h1=>?_) (fun h1=>?_)
 ·have c1:x=y∨y=base:= .inl (l8.1 h1);rw[if_pos c1,if_pos c1,if_pos c1,if_pos c1];(conv=>whnf);unfold gP;refine dec (fun h2=>?_) (fun h2=>?_)
  ·rw[if_pos h2];(conv=>whnf);refine⟨false,.grow,(.l [0,1,2,3,4,5,6,7,8,9,10]),by kernel_rfl,.inl ?_⟩;(conv=>whnf);refine⟨[x],rfl,?_⟩;(conv=>whnf);refine⟨_,_,rfl,rfl,(by simp only[List.length_append,List.length_cons,List.length_nil];omega),?_⟩;(conv=>whnf);exact rx [] [.same 0,.same 1,.same 2,.same 3,.same 4,.same 2,.same 10,.same 4]
  ·rw[if_neg h2];(conv=>whnf);exact rx [] [.same 0,.same 1,.same 2,.same 3,.same 4,.same 2,.same 3,.same 4]
 (conv=>whnf);refine dec (fun h3=>?_) (fun h3=>?_)
 ·have c1:x=y∨y=base:= .inr (l8.1 h3);rw[if_pos c1,if_pos c1,if_pos c1,if_pos c1];(conv=>whnf);unfold gP;refine dec (fun h2=>?_) (fun h2=>?_)
  ·rw[if_pos h2];(conv=>whnf);refine⟨false,.grow,(.l [0,1,2,3,4,5,6,7,8,9,10]),by kernel_rfl,.inl ?_⟩;(conv=>whnf);refine⟨[x],rfl,?_⟩;(conv=>whnf);refine⟨_,_,rfl,rfl,(by simp only[List.length_append,List.length_cons,List.length_nil];omega),?_⟩;(conv=>whnf);exact rx [] [.same 0,.same 1,.same 2,.same 3,.same 4,.same 2,.same 10,.same 4]
  ·rw[if_neg h2];(conv=>whnf);exact rx [] [.same 0,.same 1,.same 2,.same 3,.same 4,.same 2,.same 3,.same 4]
 have c1:¬(x=y∨y=base):=fun h=>h.elim (fun h=>h1 (l8.2 h)) (fun h=>h3 (l8.2 h));rw[if_neg c1,if_neg c1,if_neg c1,if_neg c1];(conv=>whnf);refine dec (fun h4=>?_) (fun h4=>?_)
 ·have c2:x=base:=l8.1 h4;rw[if_pos c2,if_pos c2,if_pos c2,if_pos c2];(conv=>whnf);unfold gP;refine dec (fun h2=>?_) (fun h2=>?_)
  ·rw[if_pos h2];(conv=>whnf);refine⟨false,.grow,(.l [0,1,2,3,4,5,6,7,8,9,10]),by kernel_rfl,.inl ?_⟩;(conv=>whnf);refine⟨[y],rfl,?_⟩;(conv=>whnf);refine⟨_,_,rfl,rfl,(by simp only[List.length_append,List.length_cons,List.length_nil];omega),?_⟩;(conv=>whnf);exact rx [] [.same 0,.same 1,.same 2,.same 3,.same 4,.same 2,.same 10,.same 4]
  ·rw[if_neg h2];(conv=>whnf);exact rx [] [.same 0,.same 1,.same 2,.same 3,.same 4,.same 2,.same 3,.same 4]
 have c2:¬x=base:=fun h=>h4 (l8.2 h);rw[if_neg c2,if_neg c2,if_neg c2,if_neg c2];generalize gY L base x y p=R at*;generalize iI L base x y=L2 at*;generalize lG L code base x y=code2 at*;obtain⟨f,ok⟩:=R;dsimp only at q1⊢;(conv=>whnf);refine cl [] [0,1,2,3,4] (q1) ?_;(conv=>whnf);refine aO (fun h5=>?_) (fun h5=>?_)
 ·subst h5;rw[if_pos rfl,if_pos rfl];(conv=>whnf);unfold gP;refine dec (fun h2=>?_) (fun h2=>?_)
  ·rw[if_pos h2];(conv=>whnf);refine⟨false,.grow,(.l [0,1,2,3,4,5,6,7,8,9,10]),by kernel_rfl,.inl ?_⟩;(conv=>whnf);refine⟨[f],rfl,?_⟩;(conv=>whnf);refine⟨_,_,rfl,rfl,(by simp only[List.length_append,List.length_cons,List.length_nil];omega),?_⟩;(conv=>whnf);exact rx [] [.same 0,.same 1,.same 2,.same 3,.same 4,.same 9,.same 14,.same 11]
  ·rw[if_neg h2];(conv=>whnf);exact rx [] [.same 0,.same 1,.same 2,.same 3,.same 4,.same 9,.same 10,.same 11]
 ·subst h5;rw[if_neg Bool.false_ne_true,if_neg Bool.false_ne_true];(conv=>whnf);refine⟨[p],rfl,?_⟩;(conv=>whnf);refine⟨_,_,rfl,rfl,(by simp only[List.length_append,List.length_cons,List.length_nil];omega),?_⟩;(conv=>whnf);refine dec (fun h6=>?_) (fun h6=>?_)
  ·rw[if_pos h6];(conv=>whnf);unfold gP;refine dec (fun h2=>?_) (fun h2=>?_)
   ·rw[if_pos h2];(conv=>whnf);refine⟨false,.grow,(.l [0,1,2,3,4,5,6,7,8,9,10]),by kernel_rfl,.inl ?_⟩;(conv=>whnf);refine⟨[y],rfl,?_⟩;(conv=>whnf);refine⟨_,_,rfl,rfl,(by simp only[List.length_append,List.length_cons,List.length_nil];omega),?_⟩;(conv=>whnf);exact rx [] [.same 0,.same 1,.same 2,.same 3,.same 4,.same 9,.same 16,.same 14]
   ·rw[if_neg h2];(conv=>whnf);exact rx [] [.same 0,.same 1,.same 2,.same 3,.same 4,.same 9,.same 10,.same 14]
  ·rw[if_neg h6];(conv=>whnf);unfold gP;refine dec (fun h2=>?_) (fun h2=>?_)
   ·rw[if_pos h2];(conv=>whnf);refine⟨false,.grow,(.l [0,1,2,3,4,5,6,7,8,9,10]),by kernel_rfl,.inl ?_⟩;(conv=>whnf);refine⟨[x],rfl,?_⟩;(conv=>whnf);refine⟨_,_,rfl,rfl,(by simp only[List.length_append,List.length_cons,List.length_nil];omega),?_⟩;(conv=>whnf);exact rx [] [.same 0,.same 1,.same 2,.same 3,.same 4,.same 9,.same 16,.same 14]
   ·rw[if_neg h2];(conv=>whnf);exact rx [] [.same 0,.same 1,.same 2,.same 3,.same 4,.same 9,.same 10,.same 14]
end Go.Nest
end
section
namespace Go.Nest
open Go Go.AM Go.Proofs
open Go.Proofs.YtpechfcbnoggfaaGreatDoor (tab tabOk)
set_option maxRecDepth 4000
theorem Fu{L:List Ob}{o:Ob}(h:L.length≤600):(aA L o).2.2.length≤600:=by
 unfold aA;split
 ·exact h
 split
 ·exact h
 split
 ·exact h
 split
 ·exact h
 ·simp only[List.length_append,List.length_singleton];omega
theorem EA{L:List Ob}(hL:aj L)(hn:L.length≤600)(base x y:Fi):aj (iI L base x y)∧(iI L base x y).length≤600:=by
 unfold iI;split
 ·exact⟨hL,hn⟩
 ·exact⟨iM hL _,Fu hn⟩
structure BS where
 L:List Ob
 out:List Fi
 cf:List (List UInt8)
 code:Int
def ng(base x y:List Fi)(s:BS)(q:List UInt8):BS:=
 let f:=(eb base q).1
 let g:=(eb x q).1
 let h:=(eb y q).1
 ⟨kP s.L f g h,gP s.out (mO s.L f g h q),oA s.L s.cf f g h q,tZ s.L s.code f g h⟩
structure nj(s:BS)(n:Nat):Prop where
 L:aj s.L
 sz:s.L.length≤600
 out:s.out.length≤n
 cf:s.cf.length≤n
theorem GJ{base x y:List Fi}{s:BS}{n:Nat}(h:nj s n)(q:List UInt8):nj (ng base x y s q) (n+1):=by
 have h1:∀f g k,aj (kP s.L f g k)∧(kP s.L f g k).length≤600:=fun f g k=>by
  unfold kP;split
  ·exact⟨h.L,h.sz⟩
  split
  ·exact⟨h.L,h.sz⟩
  exact EA h.L h.sz _ _ _
 have h2:∀f,(gP s.out f).length≤n+1:=fun f=>by
  have:=h.out;unfold gP;split
  ·simp only[List.length_append,List.length_singleton];omega
  ·omega
 have h3:∀f g k q,(oA s.L s.cf f g k q).length≤n+1:=fun f g k q=>by
  have:=h.cf;unfold oA;split
  ·omega
  split
  ·omega
  split
  ·omega
  ·simp only[List.length_append,List.length_singleton];omega
 exact⟨(h1 _ _ _).1,(h1 _ _ _).2,h2 _,h3 _ _ _ _⟩
def ey(base x y:List Fi)(s:BS)(qs:List (List UInt8)):BS:=qs.foldl (ng base x y) s
theorem uq{base x y:List Fi}:∀(qs:List (List UInt8)) {s:BS} {n:Nat},nj s n→nj (ey base x y s qs) (n+qs.length)
 |[],s,n,h=>h
 |q::qs,s,n,h=>by
  have:=uq (base:=base) (x:=x) (y:=y) qs (GJ (base:=base) (x:=x) (y:=y) h q);rw[List.length_cons,show n+(qs.length+1)=n+1+qs.length by omega];exact this
theorem F5{base x y:List Fi}{s:BS}{qs:List (List UInt8)}{i:Nat}(h:i<qs.length):ey base x y s (qs.take (i+1))=ng base x y (ey base x y s (qs.take i)) qs[i]:=by
 unfold ey;rw[List.take_succ_eq_append_getElem h,List.foldl_append];rfl
def fI:List (List Fi)→Int
 |[]=>0
 |l::r=>if cR l≠0 then cR l else fI r
def gr(L:List Ob)(base x y:List Fi):BS:=
 if fI [base,x,y]≠0 then⟨L,[],[],fI [base,x,y]⟩
 else
  let s:=ey base x y ⟨L,[],[],0⟩ (eY [base,x,y])
  let c:=if s.code=0 then cR s.out else s.code
  if c≠0 then⟨s.L,[],[],c⟩else⟨s.L,s.out,s.cf,0⟩
end Go.Nest
end
section
namespace Go.Nest
open Go Go.AM Go.Proofs
open Go.Proofs.YtpechfcbnoggfaaGreatDoor (tab tabOk)
set_option maxRecDepth 4000
theorem pz:∀(l:List (List UInt8)) (p:Option (List UInt8)),(dM p l).Sublist l
 |[],p=>.slnil
 |x::l,p=>by
  rw[dM];split
  ·exact(pz l _).cons _
  ·exact(pz l _).cons_cons _
theorem Fl(ls:List (List Fi)):(eY ls).length≤ls.flatten.length:=by
 rw[←uI];refine Nat.le_trans (pz _ _).length_le ?_;unfold hY;rw[List.length_mergeSort,List.length_map];exact Nat.le_refl _
theorem yQ{ls:List (List Fi)}{q:List UInt8}(h:q∈eY ls):∃l∈ls,∃f∈l,f.path=q:=by
 rw[←uI]at h;have h:=(pz _ _).mem h;unfold hY at h;rw[(List.mergeSort_perm _ _).mem_iff]at h;obtain⟨f,hf,rfl⟩:=List.mem_map.1 h;obtain⟨l,h1,h2⟩:=List.mem_flatten.1 hf;exact⟨l,h1,f,h2,rfl⟩
theorem vz{l:List Fi}{p:List UInt8}(h:∀f∈l,f.path.length≤4000000):(eb l p).1.path.length≤4000000:=by
 rcases AI l p with⟨e,_⟩|⟨e,_⟩
 ·rw[show(eb l p).1=jf from e];exact Nat.zero_le _
 ·exact h _ e
theorem Ez{L:List Ob}{b x y:Fi}{q:List UInt8}(hq:q.length≤4000000):(gY L b x y q).1.path.length≤4000000:=by
 unfold gY;split
 ·exact Nat.zero_le _
 ·exact hq
theorem Fo{L:List Ob}{b x y:Fi}{q:List UInt8}(hx:x.path.length≤4000000)(hy:y.path.length≤4000000)(hq:q.length≤4000000):(mO L b x y q).path.length≤4000000:=by
 unfold mO;repeat' split
 all_goals first|exact hx|exact hy|exact Ez hq
theorem ur{base x y:List Fi}(hx:∀f∈x,f.path.length≤4000000)(hy:∀f∈y,f.path.length≤4000000):∀(qs:List (List UInt8)) (s:BS),(∀q∈qs,q.length≤4000000)→(∀f∈s.out,f.path.length≤4000000)→∀f∈(ey base x y s qs).out,f.path.length≤4000000
 |[],s,_,h=>h
 | q :: qs, s, hq, h => ur hx hy qs (ng base x y s q) (fun r hr => hq r (by simp [hr])) (fun f hf=>by
  have hf:f∈gP s.out (mO s.L (eb base q).1 (eb x q).1 (eb y q).1 q):=hf;unfold gP at hf;split at hf
  ·rcases List.mem_append.1 hf with hf|hf
   ·exact h f hf
   ·rw[List.mem_singleton]at hf;rw[hf];exact Fo (vz hx) (vz hy) (hq q (by simp))
  ·exact h f hf)
set_option maxHeartbeats 2000000 in
theorem AU(L:List Ob)(hL:aj L)(hn:L.length≤600)(base x y:List Fi)(hp:∀l∈[base,x,y],∀f∈l,f.path.length≤4000000):
  ae Tryz.prog 211 [.c (.ptr 0 0),.c (.ls 4 Fi aw base),.c (.ls 4 Fi aw x),.c (.ls 4 Fi aw y)] [.box [.rw 1],.row 6 Ob an L] (Rt (.tup [(false,[.rw 3]),(false,[.rw 4]),(false,[.int .i64 (gr L base x y).code])]) [.box [.rw 2],.dead,.row 6 Ob an (gr L base x y).L,.row 4 Fi aw (gr L base x y).out,.row 1 (List UInt8) encS (gr L base x y).cf]):=by
 have c1:=ma base (hp _ (by simp));have c2:=ma x (hp _ (by simp));have c3:=ma y (hp _ (by simp));refine ao (n:=106) (n0:=2) tabOk Tryz.call211 Tryz.func211 ?_;intro hb;(conv=>whnf);refine⟨[base,x,y],rfl,?_⟩;(conv=>whnf);refine lp Nat (fun i=>⟨[(0,.c (.ptr 0 0)),(1,.c (.ls 4 Fi aw base)),(2,.c (.ls 4 Fi aw x)),(3,.c (.ls 4 Fi aw y)),(26,.c (.rw 2)),(27,.c (.int .i64 3)),(28,.c (.int .i64 i))],[.box [.rw 1],.row 6 Ob an L,.row 1 (List Fi) (bq 4 aw) [base,x,y]]⟩) (fun i=>i≤3∧fI [base,x,y]=fI ([base,x,y].drop i)) (fun i=>3-i) 0 [] [.same 0,.same 1,.same 2] ⟨Nat.zero_le _,rfl⟩ ?_ (fun i hi=>?_)
 ·repeat' first|exact trivial|exact rfl|refine And.intro ?_ ?_
 obtain⟨hi,hat⟩:=hi;(conv=>whnf);refine dec (fun h4=>?_) (fun h4=>?_)
 ·have hlt:i<[base,x,y].length:=by show i<3;omega
  have hiy:[base,x,y][i]? =some [base,x,y][i]:=List.getElem?_eq_getElem hlt;have hd:=List.drop_eq_getElem_cons hlt;have hpi:=hp [base,x,y][i] (List.getElem_mem hlt);generalize [base,x,y][i]=l at hiy hd hpi;rw[hd]at hat;have hat:fI [base,x,y]=if cR l≠0 then cR l else fI ([base,x,y].drop (i+1)):=hat
  (conv=>whnf);refine⟨i,⟨rfl,hlt⟩,?_⟩;(conv=>whnf);refine⟨l,hiy,?_⟩;(conv=>whnf);refine cl [] [] (ma l hpi) ?_;(conv=>whnf);refine av (fun h5=>?_) (fun h5=>?_)
  ·rw[if_pos h5]at hat;have e:gr L base x y=⟨L,[],[],cR l⟩:=by unfold gr;rw[hat,if_pos h5]
   rw[e];(conv=>whnf);exact rx [] [.same 0,.same 1,.same 1,.new,.new]
  ·rw[if_neg (fun h=>h h5)]at hat;repeat'((conv=>whnf);refine I6 ?_)
   refine ag (i+1) [] [.same 0,.same 1,.same 2] ⟨hlt,hat⟩ (by simp only[];omega) ?_;repeat' first|exact trivial|exact rfl|refine And.intro ?_ ?_
 have h3:i=3:=by omega
 subst h3;have h0:fI [base,x,y]=0:=hat
 have hfl:[base,x,y].flatten.length≤1000:=by
  have z:∀l,cR l=0→l.length≤60:=fun l h=>by
   refine Classical.byContradiction fun h2=>?_;unfold cR at h;rw[if_pos (by omega)]at h;exact absurd h (by decide)
  have a1:cR base=0:=Classical.byContradiction fun h=>by
   have:fI [base,x,y]=cR base:=if_pos h;omega
  have e1:fI [base,x,y]=fI [x,y]:=if_neg (fun h=>h a1)
  have a2:cR x=0:=Classical.byContradiction fun h=>by
   have:fI [x,y]=cR x:=if_pos h;omega
  have e2:fI [x,y]=fI [y]:=if_neg (fun h=>h a2)
  have a3:cR y=0:=Classical.byContradiction fun h=>by
   have:fI [y]=cR y:=if_pos h;omega
  have z1:=z _ a1;have z2:=z _ a2;have z3:=z _ a3;simp only[List.flatten_cons,List.flatten_nil,List.length_append,List.length_nil];omega
 have u1:=Hh [base,x,y] hfl hp;(conv=>whnf);refine⟨[base,x,y],rfl,?_⟩;(conv=>whnf);refine cl [] [] (u1) ?_;(conv=>whnf)
 have hql:∀q∈eY [base,x,y],q.length≤4000000:=fun q hq=>by
  obtain⟨l,h1,f,h2,rfl⟩:=yQ hq;exact hp l h1 f h2
 have hqn:(eY [base,x,y]).length≤1000:=Nat.le_trans (Fl _) hfl;have h00:nj ⟨L,[],[],0⟩ 0:=⟨hL,hn,Nat.le_refl _,Nat.le_refl _⟩;have eB:gr L base x y=_:=if_neg (fun h=>h h0);rw[eB];generalize eY [base,x,y]=qs at*
 refine lp Nat (fun i => ⟨[(1,.c (.ls 4 Fi aw base)),(2,.c (.ls 4 Fi aw x)),(3,.c (.ls 4 Fi aw y)),(14,.c (.ptr 2 0)),(45,.c (.rw 3)),(46,.c (.int .i64 qs.length)),(47,.c (.int .i64 i))],
  [.box [.rw 6],.dead,.box [.ptr 0 0,.rw 4,.rw 5,.int .i64 (ey base x y ⟨L,[],[],0⟩ (qs.take i)).code],.row 1 (List UInt8) encS qs,.row 4 Fi aw (ey base x y ⟨L,[],[],0⟩ (qs.take i)).out,.row 1 (List UInt8) encS (ey base x y ⟨L,[],[],0⟩ (qs.take i)).cf,.row 6 Ob an (ey base x y ⟨L,[],[],0⟩ (qs.take i)).L]⟩) (fun i=>i≤qs.length∧True) (fun i=>qs.length-i) 0 [] [.same 0,.same 1,.same 3,.same 5,.new,.new,.same 1] ⟨Nat.zero_le _,trivial⟩ ?_ (fun i hi=>?_)
 ·repeat' first|exact trivial|exact rfl|refine And.intro ?_ ?_
 obtain⟨hi,-⟩:=hi;(conv=>whnf);refine dec (fun h4=>?_) (fun h4=>?_)
 ·have hlt:i<qs.length:=by have h4:(i:Int)<qs.length:=h4;omega
  have hiy:qs[i]? =some qs[i]:=List.getElem?_eq_getElem hlt;have hq:=hql _ (List.getElem_mem hlt);have hst:=F5 (base:=base) (x:=x) (y:=y) (s:=⟨L,[],[],0⟩) hlt;have hok:=uq (base:=base) (x:=x) (y:=y) (qs.take i) h00;rw[List.length_take,Nat.min_eq_left (by omega)]at hok;generalize qs[i]=q at hiy hq hst;generalize ey base x y ⟨L,[],[],0⟩ (qs.take i)=s at hst hok⊢;obtain⟨sL,so,sc,sk⟩:=s;(conv=>whnf);refine⟨i,⟨rfl,hlt⟩,?_⟩;(conv=>whnf);refine⟨q,hiy,?_⟩;(conv=>whnf);refine cl [] [] (find_spec base q) ?_;(conv=>whnf);refine cl [] [] (find_spec x q) ?_;(conv=>whnf);refine cl [] [] (find_spec y q) ?_;(conv=>whnf);have hso:=hok.out;have hsc:=hok.cf;refine cl [] [2,0,6,4,5] (Fk sL hok.L hok.sz so (by simp only[]at hso;omega) sc (by simp only[]at hsc;omega) sk (eb base q).1 (eb x q).1 (eb y q).1 q hq) ?_;repeat'((conv=>whnf);refine I6 ?_)
  refine ag (i+1) [] [.same 0,.same 1,.same 2,.same 3,.same 11,.same 12,.same 10] ⟨hlt,trivial⟩ (by simp only[];omega) ?_;rw[hst];unfold ng;dsimp only;repeat' first|exact trivial|exact rfl|refine And.intro ?_ ?_
 obtain rfl:i=qs.length:=by have h4:¬(i:Int)<qs.length:=h4;omega
 rw[List.take_length];have hso4:=ur (base:=base) (hp x (by simp)) (hp y (by simp)) qs ⟨L,[],[],0⟩ hql (fun f hf=>by cases hf);generalize ey base x y ⟨L,[],[],0⟩ qs=s at*;obtain⟨sL,so,sc,sk⟩:=s;have hso4:∀f∈so,f.path.length≤4000000:=hso4;dsimp only;(conv=>whnf);refine dec (fun h5=>?_) (fun h5=>?_)
 ·rw[if_pos h5];(conv=>whnf);refine cl [] [] (ma so hso4) ?_;(conv=>whnf);refine av (fun h6=>?_) (fun h6=>?_)
  ·rw[if_pos h6];(conv=>whnf);refine⟨false,.grow,(.l [0,1,2,3,4,5,6]),by kernel_rfl,.inl ?_⟩;(conv=>whnf);exact rx [] [.same 0,.same 1,.same 6,.new,.new]
  ·rw[if_neg (fun h=>h h6)];(conv=>whnf);refine⟨false,.grow,(.l [0,1,2,3,4,5,6,7,8,9,10]),by kernel_rfl,.inl ?_⟩;(conv=>whnf);exact rx [] [.same 0,.same 1,.same 6,.same 4,.same 5]
 ·rw[if_neg h5];(conv=>whnf);refine av (fun h6=>?_) (fun h6=>absurd h6 h5);rw[if_pos h6];(conv=>whnf);refine⟨false,.grow,(.l [0,1,2,3,4,5,6]),by kernel_rfl,.inl ?_⟩;(conv=>whnf);exact rx [] [.same 0,.same 1,.same 6,.new,.new]
end Go.Nest
end
