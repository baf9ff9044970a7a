/- part -/
import Derived.Test.YtpechfcbnoggfaaGreatDoorV22
import Derived.Test.YtpechfcbnoggfaaGreatDoorK13
import Derived.Test.YtpechfcbnoggfaaGreatDoorN7
import Derived.Test.YtpechfcbnoggfaaGreatDoorD23
import Derived.Test.YtpechfcbnoggfaaGreatDoorV12
import Derived.Test.YtpechfcbnoggfaaGreatDoorD10
set_option linter.unusedVariables false
set_option linter.unusedSimpArgs false
section
namespace Go.Nest
open Go Go.AM
variable {L0:List Ob}
structure Ke(s t:FS):Prop where
 doc:∀k,k<4→(t.w k).map dI=(s.w k).map dI
 cK:∀k,k<4→eD (t.w k)=eD (s.w k)
 head:∀k,k<4→t.h k=s.h k
 n:∀k,k<4→t.n k=s.n k
 m:∀k,k<4→t.m k=s.m k
 o:∀k,k<4→t.o k=s.o k
theorem gg.names{l:List Rf}{m:List Mv}(h:gg l m):∀r∈l,bJ r.name=0:=by
 induction h with
 |nil=>intro r hr;cases hr
 | @snoc l m n c id h b ih=>
  intro r hr;have a:=(oH b).1;unfold kg at hr;split at hr
  ·rcases o5.1 hr with rfl|hr
   ·exact a
   ·exact ih r hr
  split at hr
  ·rcases List.mem_append.1 hr with hr|hr
   ·exact ih r (List.mem_of_mem_take hr)
   ·exact ih r (List.mem_of_mem_drop hr)
  ·rcases List.mem_or_eq_of_mem_set hr with hr|rfl
   ·exact ih r hr
   ·exact a
theorem xG{l:List Rf}(j:eG l)(hi:∀r∈l,0≤r.id)(hn:∀r∈l,bJ r.name=0)(hl:l.length≤8):∀i,i≤l.length→(dH (l.take i)).1=l.take i
 |0,_=>rfl
 |i+1,h=>by
  have a:i<l.length:=h;have ih:=xG j hi hn hl i (Nat.le_of_succ_le h);have d:=List.getElem_mem a
  have n:∀g∈l.take i,Op.bytesLess g.name l[i].name=true:=fun g b=>by
   obtain⟨k,o,e⟩:=List.mem_take_iff_getElem.1 b;subst e;exact List.pairwise_iff_getElem.1 j k i (by omega) a (by omega)
  have f:a8 (l.take i) l[i].name=(l.take i).length:=vk (Nat.le_refl _) (fun g b=>n g (List.mem_of_mem_take b)) (fun h=>absurd h (Nat.lt_irrefl _))
  have c:dK (l.take i) l[i].name=false:=by
   unfold dK;rw[f,List.getElem?_eq_none (Nat.le_refl _)];rfl
  have b:=ln c;have hid:=hi _ d
  have m:dB (l.take i) l[i].name (-1) l[i].id=0:=by
   unfold dB;rw[if_neg (fun h=>h (hn _ d)),if_neg (by omega),if_neg (fun h=>h b.symm),if_neg (by rw[List.length_take];omega),if_neg (by omega)]
  rw[xF a];unfold jO;dsimp only;rw[ih];unfold aS kg;rw[if_pos m,if_pos c];unfold ky;rw[show(⟨l[i].name,l[i].id⟩:Rf)=l[i]from rfl,f,List.take_length,List.drop_length,List.take_succ_eq_append_getElem a]
theorem Db{l:List Rf}{m:List Mv}(h:gg l m):(dH l).1=l:=by
 have:=xG h.inv.sort h.inv.ids h.names h.inv.len l.length (Nat.le_refl _);rwa[List.take_length]at this
theorem Iv{l:List Rf}{m:List Mv}(h:gg l m){name:List UInt8}(hn:dw l name=0){id:Int}(hid:0≤id):dB l name (bD l name) id=0∨dB l name (bD l name) id=17:=by
 unfold dw at hn;rw[Db h]at hn;obtain⟨a,-,-,b,-⟩:=oH hn;unfold dB;rw[if_neg (fun h=>h a),if_neg (by omega),if_neg (fun h=>h rfl),if_neg (fun k=>b ⟨k.1,by decide,k.2.2⟩)];split
 ·exact .inr rfl
 ·exact .inl rfl
theorem xx{L:List Ob}(d:ai L){l:List It}{h:Int}{text:List UInt8}{others:List Int}(hc:(bc L l h text others).2.1=0):kindOf (bc L l h text others).2.2 (bc L l h text others).1=3:=by
 unfold bc at hc⊢;split at hc
 ·rename_i b;exact absurd hc b
 rename_i b;rw[if_neg b];split at hc
 ·cases hc
 rename_i c;rw[if_neg c];split at hc
 ·rename_i a;exact absurd hc a
 rename_i a;rw[if_neg a];have:=(lQ (Decidable.not_not.1 a)).2;rw[←eP,this];rfl
theorem hU{α e:Type}{P:α→e→Prop}{c:Prop}{i:Decidable c}{a b:α}{d b':e}(h1:c→P a d)(h2:¬c→P b b'):P (if c then a else b) (if c then d else b'):=by
 by_cases h:c
 ·rw[if_pos h,if_pos h];exact h1 h
 ·rw[if_neg h,if_neg h];exact h2 h
end Go.Nest
end
section
namespace Go.Nest
open Go Go.AM Go.Proofs
open Go.Proofs.YtpechfcbnoggfaaGreatDoor (tab tabOk)
set_option maxRecDepth 100000
def mw(fs:List Fi)(q:Nat):List Int:=(fs.filter fun f=>decide (f.av=(q:Int))).map (·.id)
def fw(s:FS)(r:Nat)(fs:List Fi)(q:Nat):List Int:=fV s q++(((List.range r).flatMap fun j=>j6 (s.w j) q)++mw fs q)
theorem HX(s:FS)(q:Nat):fw s 0 [] q=fV s q:=by unfold fw mw;simp
theorem AZ(s:FS)(q:Nat):fw s 4 [] q=dT s q:=by
 unfold fw mw dT;rw[show List.range 4=[0,1,2,3]from rfl];simp
theorem HY(s:FS)(r q:Nat):fw s r (eD (s.w r)) q=fw s (r+1) [] q:=by
 unfold fw mw;rw[List.range_succ,List.flatMap_append];simp[j6]
theorem HZ(s:FS)(r q:Nat){fs:List Fi}{i:Nat}(h:i<fs.length):fw s r (fs.take (i+1)) q=fw s r (fs.take i) q++(if fs[i].av=(q:Int)then[fs[i].id]else[]):=by
 unfold fw mw;rw[List.take_succ_eq_append_getElem h,List.filter_append,List.map_append,List.append_assoc,List.append_assoc];congr 3
 split
 ·rename_i e;simp[e]
 ·rename_i e;simp[e]
theorem Dz{out:List Int}{x:Int}:(gr out x).length≤out.length+1:=by
 unfold gr;split
 ·omega
 ·simp
theorem tA:∀{l out:List Int},(l.foldl gr out).length≤out.length+l.length
 |[],out=>Nat.le_refl _
 |x::l,out=>by
  have a:=tA (l:=l) (out:=gr out x);have b:=Dz (out:=out) (x:=x);rw[List.foldl_cons,List.length_cons];omega
theorem yQ(m:List Mv):(iF m).length≤2*m.length:=by
 have b:=tA (l:=(m.flatMap iE).mergeSort fun x y=>decide (x≤y)) (out:=[]);have a:=ue (m:=m) (i:=m.length) (Nat.le_refl _);unfold jS at a;rw[List.take_length]at a;rw[List.length_mergeSort,List.length_nil]at b;unfold iF fo;omega
theorem zF{fs:List Fi}{q:Nat}:(mw fs q).length≤fs.length:=by
 unfold mw;rw[List.length_map];exact List.length_filter_le _ _
theorem zG{l:List It}:(eD l).length≤l.length:=by
 unfold eD;rw[List.length_map];exact List.length_filter_le _ _
theorem HQ{s:FS}(a:b6 s){q:Nat}(hq:q<4):(fV s q).length≤1981:=by
 have b:=yQ (s.m q);have c:=a.moves q hq;unfold fV;rw[List.length_append];split
 ·simp;omega
 ·simp;omega
theorem AI{s:FS}(a:b6 s)(q:Nat):∀r,r≤4→((List.range r).flatMap fun j=>j6 (s.w j) q).length≤60*r
 |0,_=>by simp
 |r+1,h=>by
  have ih:=AI a q r (by omega);rw[List.range_succ,List.flatMap_append,List.length_append];have b:(j6 (s.w r) q).length≤60:=Nat.le_trans zF (Nat.le_trans zG (a.items r (by omega)));simp only[List.flatMap_cons,List.flatMap_nil,List.append_nil];omega
theorem A1{s:FS}(a:b6 s){r q:Nat}(hr:r≤4)(hq:q<4){fs:List Fi}(e:fs.length≤60):(fw s r fs q).length≤2300:=by
 have b:=HQ a hq;have c:=AI a q r hr;have d:=zF (fs:=fs) (q:=q);unfold fw;rw[List.length_append,List.length_append];omega
theorem vA{s:FS}(a:b6 s){q:Nat}(hq:q<4):(dT s q).length≤2300:=by rw[←AZ];exact A1 a (Nat.le_refl _) hq (by simp)
def mM(r a:Nat):List Rn:=(List.range 6).map fun i=>bif Nat.beq i (2+r)then .same a else .same i
set_option maxHeartbeats 4000000 in
theorem AX(s:FS)(N:b6 s)(hl:∀r,r<4→∀y∈s.w r,0≤y.av∧y.av<4):ae Tryz.prog 67 [.c (.bp (fO s))] [] (Rt (.st [.rw 0,.rw 1,.rw 2,.rw 3]) [.row 1 Int encI (dT s 0),.row 1 Int encI (dT s 1),.row 1 Int encI (dT s 2),.row 1 Int encI (dT s 3)]):=by
 have p1:=fun i (w:i<4)=>EX (s.n i) (s.m i) (by have:=N.moves i w;omega);have p2:=fun i=>nF s.L (s.w i) (s.h i);have p3:=fun i (w:i<4)=>Gh s.L (s.w i) (s.h i) (N.items i w);have S:=fun i=>yQ (s.m i);have g:∀q,fV s q=iF (s.m q)++(if 0≤s.h q then[s.h q]else[]):=fun _=>rfl;refine ak (n:=75) (n0:=0) tabOk Tryz.call67 Tryz.func67 ?_;intro hb;(conv=>whnf);refine lp (Nat×(Nat→List Int)) (fun p=>⟨[(0,.c (.bp (fO s))),(2,.c (.ptr 0 0)),(3,.c (.ptr 1 0)),(9,.c (.int .i64 p.1))],[.box [.nil,.nil,.nil,.nil],.box [.rw 2,.rw 3,.rw 4,.rw 5],.row 1 Int encI (p.2 0),.row 1 Int encI (p.2 1),.row 1 Int encI (p.2 2),.row 1 Int encI (p.2 3)]⟩) (fun p=>(p.1≤4∧∀q,q<4→p.2 q=if q<p.1 then fV s q else[])∧True) (fun p=>4-p.1) (0,fun _=>[]) [] [.same 0,.same 1,.new,.new,.new,.new] ⟨⟨Nat.zero_le _,fun q _=>rfl⟩,trivial⟩ ?_ (fun⟨r,k⟩ d=>?_)
 ·repeat' first|exact trivial|exact rfl|refine And.intro ?_ ?_
 obtain⟨⟨E,d⟩,-⟩:=d;dsimp only at E d;(conv=>whnf);refine dec (fun j=>?_) (fun j=>?_)
 ·have a:r<4:=by have j:(r:Int)<4:=j;omega
  have x:k r=[]:=by rw[d r a,if_neg (Nat.lt_irrefl _)]
  have t:∀q,q<4→ay k r (fV s r) q=if q<r+1 then fV s q else[]:=fun q u=>by
   rw[fj];split
   ·rename_i e;rw[e,if_pos (Nat.lt_succ_self _)]
   ·rename_i e;rw[d q u];by_cases h:q<r
    ·rw[if_pos h,if_pos (by omega)]
    ·rw[if_neg h,if_neg (by omega)]
  have Z:(k r).length=0:=by rw[x];rfl
  have q1:=p1 r a;have q2:=p2 r;have ad:=S r;have al:=N.moves r a
  have K:0≤s.h r→∀q,q<4→ay k r ((k r++iF (s.m r))++[s.h r]) q=if q<r+1 then fV s q else[]:=fun m=>by
   rw[x,List.nil_append,←show fV s r=iF (s.m r)++[s.h r]by rw[g,if_pos m]];exact t
  have M:¬0≤s.h r→∀q,q<4→ay k r (k r++iF (s.m r)) q=if q<r+1 then fV s q else[]:=fun m=>by
   rw[x,List.nil_append,←show fV s r=iF (s.m r)by rw[g,if_neg m,List.append_nil]];exact t
  have g:r+1≤4:=a;have O:Qn r:=trivial
  rcases four a with rfl|rfl|rfl|rfl<;>(
   (conv=>whnf);refine⟨false,.grow,(.l [0,1,2,3,4,5,6,7,8,9,10,11,12,13,14]),by kernel_rfl,.inl ?_⟩;(conv=>whnf);refine⟨_,⟨rfl,a⟩,?_⟩;(conv=>whnf);refine⟨_,⟨rfl,a⟩,?_⟩;(conv=>whnf);refine cl [] [] (q1) ?_;(conv=>whnf);refine⟨_,_,rfl,rfl,(by simp only[List.length_append,List.length_cons,List.length_nil];omega),?_⟩;(conv=>whnf);refine⟨_,⟨rfl,a⟩,?_⟩;(conv=>whnf);refine⟨_,⟨rfl,a⟩,?_⟩;(conv=>whnf);refine cl [] [] (q2) ?_;(conv=>whnf);refine dec (fun m=>?_) (fun m=>?_)
   ·(conv=>whnf);refine⟨_,⟨rfl,a⟩,?_⟩;(conv=>whnf);refine⟨[s.h _],rfl,?_⟩;(conv=>whnf);refine⟨_,_,rfl,rfl,(by simp only[List.length_append,List.length_cons,List.length_nil];omega),?_⟩;(conv=>whnf);refine⟨_,⟨rfl,a⟩,?_⟩;repeat'((conv=>whnf);refine I6 ?_)
    refine jJ O (_+1,_) [] (fun r=>mM r 9) ⟨⟨g,K m⟩,trivial⟩ (by simp only[];omega) ?_;repeat' first|exact trivial|exact rfl|refine And.intro ?_ ?_
   ·repeat'((conv=>whnf);refine I6 ?_)
    refine jJ O (_+1,_) [] (fun r=>mM r 7) ⟨⟨g,M m⟩,trivial⟩ (by simp only[];omega) ?_;repeat' first|exact trivial|exact rfl|refine And.intro ?_ ?_)
 ·obtain rfl:r=4:=by have j:¬(r:Int)<4:=j;omega
  have T:∀q,q<4→k q=fw s 0 [] q:=fun q u=>by rw[d q u,if_pos u,HX]
  have am:∀r q,fw s r [] q=fw s r [] q:=fun _ _=>rfl;(conv=>whnf);refine lp (Nat×(Nat→List Int)) (fun p=>⟨[(0,.c (.bp (fO s))),(2,.c (.ptr 0 0)),(3,.c (.ptr 1 0)),(45,.c (.int .i64 p.1))],[.box [.nil,.nil,.nil,.nil],.box [.rw 2,.rw 3,.rw 4,.rw 5],.row 1 Int encI (p.2 0),.row 1 Int encI (p.2 1),.row 1 Int encI (p.2 2),.row 1 Int encI (p.2 3)]⟩) (fun p=>(p.1≤4∧∀q,q<4→p.2 q=fw s p.1 [] q)∧True) (fun p=>4-p.1) (0,k) [] [.same 0,.same 1,.same 2,.same 3,.same 4,.same 5] ⟨⟨Nat.zero_le _,T⟩,trivial⟩ ?_ (fun⟨r,k⟩ d=>?_)
  ·repeat' first|exact trivial|exact rfl|refine And.intro ?_ ?_
  obtain⟨⟨E,d⟩,-⟩:=d;dsimp only at E d;(conv=>whnf);refine dec (fun j=>?_) (fun j=>?_)
  ·have a:r<4:=by have j:(r:Int)<4:=j;omega
   have g:r+1≤4:=a;have O:Qn r:=trivial;have U:=p3 r a;have R:(eD (s.w r)).length≤60:=Nat.le_trans zG (N.items r a)
   have H:∀f∈eD (s.w r),0≤f.av∧f.av<4:=fun f P=>by
    unfold eD at P;obtain⟨y,hy,rfl⟩:=List.mem_map.1 P;exact hl r a y (List.mem_filter.1 hy).1
   have z:=HY s r;have F:=fun q i (h:i<(eD (s.w r)).length)=>HZ s r q h;have J:=fun q (u:q<4) b P=>A1 N (Nat.le_of_lt a) u (fs:=b) P;generalize eD (s.w r)=b at U R H z F;generalize fw s=rt at d z F J
   rcases four a with rfl|rfl|rfl|rfl<;>(
    (conv=>whnf);refine⟨_,⟨rfl,a⟩,?_⟩;(conv=>whnf);refine cl [] [] (U) ?_;(conv=>whnf);refine j7 O (Nat×(Nat→List Int)) (fun r p=>⟨[(0,.c (.bp (fO s))),(2,.c (.ptr 0 0)),(3,.c (.ptr 1 0)),(45,.c (.int .i64 r)),(55,.c (.rw 6)),(56,.c (.int .i64 b.length)),(57,.c (.int .i64 p.1))],[.box [.nil,.nil,.nil,.nil],.box [.rw 2,.rw 3,.rw 4,.rw 5],.row 1 Int encI (p.2 0),.row 1 Int encI (p.2 1),.row 1 Int encI (p.2 2),.row 1 Int encI (p.2 3),.row 4 Fi ao b]⟩) (fun r p=>(p.1≤b.length∧∀q,q<4→p.2 q=rt r (b.take p.1) q)∧True) (fun p=>60-p.1) (0,k) [] [.same 0,.same 1,.same 2,.same 3,.same 4,.same 5,.same 6] ⟨⟨Nat.zero_le _,d⟩,trivial⟩ ?_ (fun⟨i,k⟩ w=>?_)
    ·repeat' first|exact trivial|exact rfl|refine And.intro ?_ ?_
    obtain⟨⟨w,v⟩,-⟩:=w;dsimp only at w v;(conv=>whnf);refine dec (fun m=>?_) (fun m=>?_)
    ·have o:i<b.length:=by have m:(i:Int)<b.length:=m;omega
     obtain⟨ha,Y⟩:=H _ (List.getElem_mem o);obtain⟨p,Q⟩:∃p:Nat,b[i].av=p:=⟨b[i].av.toNat,by omega⟩;have D:p<4:=by omega
     have ac:(k p).length≤2300:=by rw[v p D];exact J p D _ (by rw[List.length_take];omega)
     have t:∀q,q<4→ay k p (k p++[b[i].id]) q=rt _ (b.take (i+1)) q:=fun q u=>by
      rw[F q i o,Q,fj,←v q u];split
      ·rename_i e;rw[e,if_pos rfl]
      ·rename_i e;rw[if_neg (by omega),List.append_nil]
     have I:b[i]? =some b[i]:=List.getElem?_eq_getElem o;generalize b[i]=f at Q t I;have W:Qn p:=trivial;(conv=>whnf);refine⟨i,⟨rfl,o⟩,?_⟩;(conv=>whnf);refine⟨f,I,?_⟩
     rcases four D with rfl|rfl|rfl|rfl<;>(
      (conv=>whnf);refine⟨false,.eF [1,7],(.l [0,1,2,3,4,5,6,7,8,9,10,11]),by kernel_rfl,.inl ?_⟩;(conv=>whnf);refine⟨_,⟨Q,by decide⟩,?_⟩;(conv=>whnf);refine⟨[f.id],rfl,?_⟩;(conv=>whnf);refine⟨_,_,rfl,rfl,(by simp only[List.length_append,List.length_cons,List.length_nil];omega),?_⟩;(conv=>whnf);refine⟨_,⟨Q,by decide⟩,?_⟩;repeat'((conv=>whnf);refine I6 ?_)
      refine jJ W (i+1,_) [] (fun p=>mM p 9++[.same 6]) ⟨⟨o,t⟩,trivial⟩ (by simp only[];omega) ?_;repeat' first|exact trivial|exact rfl|refine And.intro ?_ ?_)
    ·repeat'((conv=>whnf);refine I6 ?_)
     refine ag (_+1,k) [] [.same 0,.same 1,.same 2,.same 3,.same 4,.same 5] ⟨⟨g,fun q u=>?_⟩,trivial⟩ (by simp only[];omega) ?_
     ·exact(v q u).trans (by rw[List.take_of_length_le (by omega)];exact z q)
     repeat' first|exact trivial|exact rfl|refine And.intro ?_ ?_)
  ·obtain rfl:r=4:=by have j:¬(r:Int)<4:=j;omega
   have e:=fun q=>AZ s q;rw[←e 0,←e 1,←e 2,←e 3,←d 0 (by decide),←d 1 (by decide),←d 2 (by decide),←d 3 (by decide)];(conv=>whnf);exact rx [] [.same 2,.same 3,.same 4,.same 5]
def mN(l:List Int):List Int:=fo (l.mergeSort fun x y=>decide (x≤y))
def jy(s:FS)(q:Nat):List Int:=mN (dT s q)
set_option maxHeartbeats 4000000 in
theorem AW(s:FS)(w:b6 s)(hl:∀r,r<4→∀y∈s.w r,0≤y.av∧y.av<4):ae Tryz.prog 29 [.c (.bp (fO s))] [] (Rt (.st [.rw 0,.rw 1,.rw 2,.rw 3]) [.row 1 Int encI (jy s 0),.row 1 Int encI (jy s 1),.row 1 Int encI (jy s 2),.row 1 Int encI (jy s 3)]):=by
 unfold jy;have D:=AX s w hl;have f:=fun q (i:q<4)=>vA w i;generalize dT s=j at D f⊢;refine ak (n:=22) (n0:=0) tabOk Tryz.call29 Tryz.func29 ?_;intro hb;(conv=>whnf);refine cl [] [] (D) ?_;(conv=>whnf);refine lp (Nat×(Nat→List Int)) (fun p=>⟨[(0,.c (.bp (fO s))),(2,.c (.ptr 0 0)),(3,.c (.ptr 1 0)),(7,.c (.int .i64 p.1))],[.box [.nil,.nil,.nil,.nil],.box [.rw 2,.rw 3,.rw 4,.rw 5],.row 1 Int encI (p.2 0),.row 1 Int encI (p.2 1),.row 1 Int encI (p.2 2),.row 1 Int encI (p.2 3)]⟩) (fun p=>(p.1≤4∧∀q,q<4→p.2 q=if q<p.1 then mN (j q)else j q)∧True) (fun p=>4-p.1) (0,j) [] [.same 0,.same 5,.same 1,.same 2,.same 3,.same 4] ⟨⟨Nat.zero_le _,fun q _=>rfl⟩,trivial⟩ ?_ (fun⟨r,k⟩ g=>?_)
 ·repeat' first|exact trivial|exact rfl|refine And.intro ?_ ?_
 obtain⟨⟨v,g⟩,-⟩:=g;dsimp only at v g;(conv=>whnf);refine dec (fun l=>?_) (fun l=>?_)
 ·have a:r<4:=by have l:(r:Int)<4:=l;omega
  have m:k r=j r:=by rw[g r a,if_neg (Nat.lt_irrefl _)]
  have o:(k r).length≤1000000:=by have:=f r a;rw[m];omega
  have t:=Bg (k r) o;have u:=xB ((k r).mergeSort fun x y=>decide (x≤y)) (by rw[List.length_mergeSort];exact o)
  have b:∀q,q<4→ay k r (fo ((k r).mergeSort fun x y=>decide (x≤y))) q=if q<r+1 then mN (j q)else j q:=fun q i=>by
   rw[fj];split
   ·rename_i e;rw[e,if_pos (Nat.lt_succ_self _),m];rfl
   ·rename_i e;rw[g q i];by_cases h:q<r
    ·rw[if_pos h,if_pos (by omega)]
    ·rw[if_neg h,if_neg (by omega)]
  have d:r+1≤4:=a;generalize (k r).mergeSort (fun x y=>decide (x≤y))=z at t u b;rcases four a with rfl|rfl|rfl|rfl
  ·(conv=>whnf);refine⟨_,⟨rfl,a⟩,?_⟩;(conv=>whnf);refine cl [] [2+0] (t) ?_;(conv=>whnf);refine⟨_,⟨rfl,a⟩,?_⟩;(conv=>whnf);refine cl [] [2+0] (u) ?_;(conv=>whnf);refine⟨_,⟨rfl,a⟩,?_⟩;repeat'((conv=>whnf);refine I6 ?_)
   refine ag (0+1,_) [] (mM 0 6) ⟨⟨d,b⟩,trivial⟩ (by simp only[];omega) ?_;repeat' first|exact trivial|exact rfl|refine And.intro ?_ ?_
  ·(conv=>whnf);refine⟨_,⟨rfl,a⟩,?_⟩;(conv=>whnf);refine cl [] [2+1] (t) ?_;(conv=>whnf);refine⟨_,⟨rfl,a⟩,?_⟩;(conv=>whnf);refine cl [] [2+1] (u) ?_;(conv=>whnf);refine⟨_,⟨rfl,a⟩,?_⟩;repeat'((conv=>whnf);refine I6 ?_)
   refine ag (1+1,_) [] (mM 1 6) ⟨⟨d,b⟩,trivial⟩ (by simp only[];omega) ?_;repeat' first|exact trivial|exact rfl|refine And.intro ?_ ?_
  ·(conv=>whnf);refine⟨_,⟨rfl,a⟩,?_⟩;(conv=>whnf);refine cl [] [2+2] (t) ?_;(conv=>whnf);refine⟨_,⟨rfl,a⟩,?_⟩;(conv=>whnf);refine cl [] [2+2] (u) ?_;(conv=>whnf);refine⟨_,⟨rfl,a⟩,?_⟩;repeat'((conv=>whnf);refine I6 ?_)
   refine ag (2+1,_) [] (mM 2 6) ⟨⟨d,b⟩,trivial⟩ (by simp only[];omega) ?_;repeat' first|exact trivial|exact rfl|refine And.intro ?_ ?_
  ·(conv=>whnf);refine⟨_,⟨rfl,a⟩,?_⟩;(conv=>whnf);refine cl [] [2+3] (t) ?_;(conv=>whnf);refine⟨_,⟨rfl,a⟩,?_⟩;(conv=>whnf);refine cl [] [2+3] (u) ?_;(conv=>whnf);refine⟨_,⟨rfl,a⟩,?_⟩;repeat'((conv=>whnf);refine I6 ?_)
   refine ag (3+1,_) [] (mM 3 6) ⟨⟨d,b⟩,trivial⟩ (by simp only[];omega) ?_;repeat' first|exact trivial|exact rfl|refine And.intro ?_ ?_
 ·obtain rfl:r=4:=by have l:¬(r:Int)<4:=l;omega
  have e:=fun q (i:q<4)=>(g q i).trans (if_pos i);rw[←e 0 (by decide),←e 1 (by decide),←e 2 (by decide),←e 3 (by decide)];(conv=>whnf);exact rx [] [.same 2,.same 3,.same 4,.same 5]
set_option maxHeartbeats 4000000 in
theorem xO(s:FS)(a:b6 s)(hl:∀r,r<4→∀y∈s.w r,0≤y.av∧y.av<4){i:Nat}(hi:i<4)(q:Int)(p n t b:List UInt8):ae Tryz.prog 22 [.c (.ptr 0 0),.st (aI ⟨11,(i:Nat),q,p,n,t,b⟩)] (aK s) (Rt (.st (b9 ⟨0,0,[]⟩)) (aQ (ic s))):=by
 have e:=fa i;rw[bQ.2 ⟨i,hi,rfl⟩]at e;have f:=AX s a hl;have d:=G1 (s:=s) (Jd s.L a.pool s.o s.b (dT s) a.df a.own (fun r g=>by have:=vA a g;omega)) CU;have d:ae Tryz.prog _ _ (aK s) (Rt (.aC []) (aQ (ic s))):=d;generalize dT s=k at f d;generalize ic s=h at d⊢;refine ak (n:=111) (n0:=32) tabOk Tryz.call22 Tryz.func22 ?_;intro hb;(conv=>whnf);refine cl [] [] (e) ?_;(conv=>whnf);refine⟨false,.grow,(.l [0,1,2,3,4,5,6]),by kernel_rfl,.inl ?_⟩;(conv=>whnf);refine cl [] [] (f) ?_;(conv=>whnf);refine aP (mF 0) (bC 27 (d21++[.box (aI ⟨11,(i:Nat),q,p,n,t,b⟩),.box [.int .i64 0,.int .i64 0,.nil],.row 1 Int encI (k 0),.row 1 Int encI (k 1),.row 1 Int encI (k 2),.row 1 Int encI (k 3)]) h) d ?_;(conv=>whnf);exact aZ (rF 27)
end Go.Nest
end
section
namespace Go.Nest
open Go Go.AM Go.Proofs
open Go.Proofs.YtpechfcbnoggfaaGreatDoor (tab tabOk)
variable {L0:List Ob}
set_option maxRecDepth 100000
def fC(s:FS)(x:bm)(e:cG)(t:FS):Prop:=ae Tryz.prog 22 [.c (.ptr 0 0),.st (aI x)] (aK s) (Rt (.st (b9 e)) (aQ t))
theorem Gy{s:FS}{n:Nat}(h:FI L0 s n)(hn:n≤900){i:Nat}(hi:i<4)(x:bm)(g:x.r=i)(base id:Int):ae Tryz.prog 130 [.c (.ptr 0 0),.st (aI x),.c (.int .i64 base),.c (.int .i64 id)] (aK s) (Rt (.st (b9 (mG s i base id))) (aQ (jq s i base id))):=by
 have a:=h.sV i base id
 have d:∀l∈[(bu s.L base).1,(bu s.L (s.h i)).1,(bu s.L id).1],∀f∈l,f.path.length≤4000000:=fun l b=>by
  rw[List.mem_cons,List.mem_cons,List.mem_singleton]at b;rcases b with e|e|e<;>(rw[e];exact Ej h.pool _)
 exact Gx s (h.wf (by omega)) hi x g base id h.pool.len d a.pool (CC d) ((a.dQ hi _).wf (by omega)) (((a.dQ hi _).cz hi _ _).wf (by omega))
theorem ns{s:FS}{n:Nat}(h:FI L0 s n)(hn:n≤900)(x:bm)(l:x.path.length≤4000000):fC s x (e8 s x) (cA s x):=by
 have f:=h.wf (by omega);unfold e8 cA;refine hU (P:=fC s x) (fun j=>DO s x j) (fun j=>hU (P:=fC s x) (fun g=>DR s x j g) (fun g=>?_));obtain⟨i,c,e⟩:=(bQ (r:=x.r)).1 (by cases q:bg x.r;exact absurd q g;rfl);obtain⟨k,r,q,p,d,t,b⟩:=x;dsimp only at*;subst e;refine hU (P:=fC s _) (fun e=>?_) (fun _=>hU (P:=fC s _) (fun e=>?_) (fun _=>hU (P:=fC s _) (fun e=>?_) (fun _=>hU (P:=fC s _) (fun e=>?_) (fun _=>hU (P:=fC s _) (fun e=>?_) (fun _=>hU (P:=fC s _) (fun e=>?_) (fun _=>hU (P:=fC s _) (fun e=>?_) (fun _=>hU (P:=fC s _) (fun e=>?_) (fun _=>hU (P:=fC s _) (fun e=>?_) (fun _=>hU (P:=fC s _) (fun e=>?_) (fun _=>hU (P:=fC s _) (fun e=>?_) (fun _=>?_)))))))))))
 ·subst e;exact DW s f c rfl q p d t b l
 ·subst e;exact DS s f c rfl q p d t b
 ·subst e;exact DP s c q p d t b _ _ (Gc s f c ⟨3,i,q,p,d,t,b⟩ rfl l)
 ·subst e;exact DL s c q p d t b _ _ (C6 s f c ⟨4,i,q,p,d,t,b⟩ rfl ((h.cz c _ _).wf (by omega)))
 ·subst e;exact DK s c q p d t b _ _ (CS s f c ⟨5,i,q,p,d,t,b⟩ rfl)
 ·subst e;exact DQ s c q p d t b _ _ (Gt s f c ⟨6,i,q,p,d,t,b⟩ rfl (h.dv.wf (by omega)) (Gy h.dv hn c _ rfl _ _))
 ·subst e;exact DJ s c q p d t b _ _ (CG s f c ⟨7,i,q,p,d,t,b⟩ rfl)
 ·subst e;exact DM s c q p d t b _ _ (DY s f c ⟨8,i,q,p,d,t,b⟩ rfl)
 ·subst e;exact DN s c q p d t b _ _ (Eh s f c ⟨9,i,q,p,d,t,b⟩ rfl ((h.cn (tK h _ _ _)).wf (by omega)))
 ·subst e;exact DI s f c q p d t b
 ·subst e;exact DV s c q p d t b _ _ (IM s f c ⟨12,i,q,p,d,t,b⟩ rfl l (((sa h.pool (s.h i) p).1|>fun a=>h.aS a (sa h.pool (s.h i) p).2).wf (by omega)))
 ·obtain rfl:k=11:=by omega
  exact xO s f (fun r g=>(h.work r g).cK) c q p d t b
end Go.Nest
end
section
namespace Go.Nest
open Go Go.AM
set_option maxRecDepth 100000
theorem zt{b:Nat→List Int}{x:Int}:∀(n:Nat) {out:List Int} {i:Nat},x∈out→x∈lH b n out i
 |0,out,i,h=>h
 |n+1,out,i,h=>by
  unfold lH;split
  ·exact zt n (l6.2 (.inl h))
  ·exact h
theorem F8{b:Nat→List Int}{r:Int}:r∈cm b r:=zt 5 (by simp)
theorem He{o b:Nat→List Bool}(h:∀k,k<4→∀j:Nat,(o k)[j]? =some true→(b k)[j]? =some true)(q z:Int)(hq:gy o q z=true):gy b q z=true:=by
 have c:bg q=true:=by unfold gy at hq;rw[Bool.and_eq_true]at hq;exact hq.1
 obtain⟨k,a,rfl⟩:=bQ.1 c;rw[rG a]at hq⊢;exact⟨hq.1,h k a _ hq.2⟩
theorem lu{o c:Nat→List Bool}{b:Nat→List Int}(h:∀k,k<4→∀j:Nat,(o k)[j]? =some true→(c k)[j]? =some true){r id:Int}(a:aU ⟨o,b⟩ r id=true):aU ⟨c,b⟩ r id=true:=by
 unfold aU at a⊢;rw[Bool.and_eq_true,List.any_eq_true]at a⊢;obtain⟨d,q,e,f⟩:=a;exact⟨d,q,e,He h q id f⟩
theorem JB{o:Nat→List Bool}{r:Nat}{x y:List Bool}(h:∀j:Nat,x[j]? =some true→y[j]? =some true):∀k,k<4→∀j:Nat,(ay o r x k)[j]? =some true→(ay o r y k)[j]? =some true:=fun k _ j=>by
 rw[fj,fj];split
 ·exact h j
 ·exact id
theorem uP{o:Nat→List Bool}{b:Nat→List Int}{r:Nat}(hr:r<4):∀{l:List Int} {x:List Bool},(∀id∈l,0≤id∧id.toNat<x.length)→
  (∀j:Nat,x[j]? =some true→(l.foldl (cQ o b r) x)[j]? =some true)∧∀id∈l,aU ⟨ay o r (l.foldl (cQ o b r) x),b⟩ r id=true
 |[],x,_=>⟨fun _ h=>h,fun id h=>(by cases h)⟩
 |z::l,x,h=>by
  have g:=h z (by simp);have c:(cQ o b r x z).length=x.length:=my (l:=[z]);obtain⟨i,k⟩:=uP hr (l:=l) (x:=cQ o b r x z) (o:=o) (b:=b) (fun id hid=>by rw[c];exact h id (by simp[hid]))
  have f:∀j:Nat,x[j]? =some true→(cQ o b r x z)[j]? =some true:=fun j d=>by
   unfold cQ;split
   ·exact d
   ·rw[List.getElem?_set];split
    ·rename_i e;rw[if_pos (by omega)]
    ·exact d
  have a:aU ⟨ay o r (cQ o b r x z),b⟩ r z=true:=by
   unfold cQ;split
   ·assumption
   ·unfold aU;rw[Bool.and_eq_true,List.any_eq_true];refine⟨bQ.2 ⟨r,hr,rfl⟩,r,F8,?_⟩;show gy (ay o r (x.set z.toNat true)) r z=true;rw[rG hr,fB,List.getElem?_set,if_pos rfl,if_pos g.2];exact⟨g.1,rfl⟩
  rw[List.foldl_cons];refine⟨fun j d=>i j (f j d),fun id hid=>?_⟩;rcases List.mem_cons.1 hid with rfl|hid
  ·exact lu (JB i) a
  ·exact k id hid
theorem ng{L:List Ob}{o:Nat→List Bool}{b:Nat→List Int}{r:Nat}(hr:r<4)(ids:List Int):∀k,k<4→∀j:Nat,(o k)[j]? =some true→(c8 L o b r ids k)[j]? =some true:=fun k f j a=>by
 unfold c8;split
 ·exact a
 ·rw[fj];split
  ·rename_i e;have e:k=r:=e;refine(uP hr (l:=aN L ids) (x:=eE (o r) L.length) (fun id hid=>?_)).1 j ?_
   ·have c:=nY hid;have d:=Am (l:=o r) (n:=L.length);exact⟨c.1,by omega⟩
   ·unfold eE;rw[←e,List.getElem?_append_left (List.getElem?_eq_some_iff.1 a).1];exact a
  ·exact a
theorem qa{L:List Ob}{o:Nat→List Bool}{b:Nat→List Int}{r:Nat}(hr:r<4){ids:List Int}(hc:cN L r ids=0){k:Int}(hk:k∈aN L ids):aU ⟨c8 L o b r ids,b⟩ r k=true:=by
 unfold c8;rw[if_neg (fun h=>h hc)]
 exact (uP hr (l := aN L ids) (x := eE (o r) L.length) (fun id hid=>by
  have a:=nY hid;have c:=Am (l:=o r) (n:=L.length);exact⟨a.1,by omega⟩)).2 k hk
theorem Gl{L:List Ob}(a:ai L){o:Nat→List Bool}{b:Nat→List Int}{q id:Int}(hk:kindOf L id≠0)(h:∀k∈aN L [id],aU ⟨o,b⟩ q k=true):kE L ⟨o,b⟩ q id=false:=by
 unfold kE;rw[Bool.or_eq_false_iff,List.any_eq_false,decide_eq_false_iff_not,HA a];exact⟨fun k hk=>by rw[h k hk];decide,hk⟩
def eO:List It:=[⟨[97],[120],false,0,0⟩]
def fP:List UInt8:=[111,110,101]
def gL:List Ob:=(bc [] eO (-1) fP []).2.2
theorem EB:ai gL:=(oI (L:=[]) (l:=eO) (h:= -1) (text:=fP) (others:=[]) .nil).1
def ub:Nat→List Bool:=fun _=>[]
def gE:Nat→List Int:=fun _=>[]
noncomputable def go2:Nat→List Bool:=c8 gL ub gE 0 [2]
noncomputable def yG:Nat→List Bool:=c8 gL (c8 gL go2 gE 1 [2]) gE 1 [2]
def nB:bm:=⟨1,0,0,[97],[],[],[120]⟩
def nC:bm:=⟨4,0,0,[],[109],fP,[]⟩
def nD:bm:=⟨9,1,0,[],[109],[],[]⟩
def gX:bm:=⟨5,1,0,[],[109],[],[]⟩
def fe:FS:=⟨[],ub,gE,fun _=>[],fun _=>[],ay (fun _=>[]) 0 eO,ay (fun _=> -1) 0 (-1)⟩
noncomputable def oZ:FS:=⟨gL,ub,gE,fun _=>[],fun _=>[],ay (ay (fun _=>[]) 0 eO) 0 eO,ay (ay (fun _=> -1) 0 (-1)) 0 2⟩
noncomputable def eA:FS:=⟨gL,go2,gE,ay (fun _=>[]) 0 [⟨[109],2⟩],ay (fun _=>[]) 0 [⟨[109],-1,2⟩],ay (ay (fun _=>[]) 0 eO) 0 eO,ay (ay (fun _=> -1) 0 (-1)) 0 2⟩
theorem yx:ij [] [97] [120]=(0,eO):=by decide+kernel
theorem tX:e8 iB nB=⟨0,0,[]⟩∧cA iB nB=fe:=by
 have e:e8 iB nB=pT iB 0 [97] [120]∧cA iB nB=pU iB 0 [97] [120]:=⟨rfl,rfl⟩;rw[e.1,e.2];refine⟨?_,?_⟩
 ·show bP 0 (ij [] [97] [120]).1=_;rw[yx];rfl
 ·show iB.db 0 [] (ij [] [97] [120]).2 (-1)=_;rw[yx];rfl
theorem qN:(bc [] eO (-1) fP []).2.1=0∧(bc [] eO (-1) fP []).1=2∧lA [] eO (-1) fP []=2:=by decide+kernel
theorem qP:dw [] [109]=0:=by decide+kernel
theorem ED:cz fe 0 fP []=oZ:=by
 show fe.db 0 (bc [] eO (-1) fP []).2.2 eO (lA [] eO (-1) fP [])=_;rw[qN.2.2];rfl
theorem qO:cN gL 0 [2]=0∧cN gL 1 [2]=0:=by decide+kernel
theorem yz:dB [] [109] (bD [] [109]) 2=0:=by decide+kernel
theorem nz:aS [] [109] (-1) 2=[⟨[109],2⟩]∧eU [] [] [109] (-1) 2=[⟨[109],-1,2⟩]∧bD [] [109]= -1:=by decide+kernel
theorem tY:e8 fe nC=⟨0,2,[]⟩∧cA fe nC=eA:=by
 have e:e8 fe nC=oJ fe 0 [109] fP∧cA fe nC=mg fe 0 [109] fP:=⟨rfl,rfl⟩;rw[e.1,e.2];unfold oJ mg;rw[if_neg (show¬dw (fe.n 0) [109]≠0 from fun h=>h qP),if_neg (show¬dw (fe.n 0) [109]≠0 from fun h=>h qP),if_neg (show¬(bc fe.L (fe.w 0) (fe.h 0) fP []).2.1≠0 from fun h=>h qN.1),if_neg (show¬(bc fe.L (fe.w 0) (fe.h 0) fP []).2.1≠0 from fun h=>h qN.1),ED];show bP (bc [] eO (-1) fP []).1 (fQ oZ 0 [109] (bc [] eO (-1) fP []).1)=_∧ee oZ 0 [109] (bc [] eO (-1) fP []).1=_;have a:fy oZ 0 [109] 2=0:=yz;rw[qN.2.1];unfold fQ ee;rw[if_neg (by rw[a];decide),if_neg (by rw[a];decide)];refine⟨?_,?_⟩
 ·show bP 2 (cN gL 0 [2])=_;rw[qO.1];rfl
 ·show(oZ.iN 0 (aS [] [109] (bD [] [109]) 2) (eU [] [] [109] (bD [] [109]) 2)).cn go2=_;rw[nz.2.2,nz.1,nz.2.1];rfl
theorem yA:kE gL ⟨go2,gE⟩ 0 2=false:=Gl EB (by decide+kernel) fun k a=>qa (r:=0) (by decide) qO.1 a
noncomputable def fp:FS:=(eA.iN 1 [⟨[109],2⟩] [⟨[109],-1,2⟩]).cn yG
theorem yy:bD [⟨[109],2⟩] [109]=2:=by decide+kernel
theorem tZ:e8 eA nD=⟨0,2,[]⟩∧cA eA nD=fp:=by
 have e:e8 eA nD=oO eA 1 0 [109]∧cA eA nD=mi eA 1 0 [109]:=⟨rfl,rfl⟩;rw[e.1,e.2]
 have f:aF eA 0 [109]=(2,0):=by
  unfold aF;show(if bg 0=false then _ else if bD [⟨[109],2⟩] [109]<0 then _ else(bD [⟨[109],2⟩] [109],0))=_;rw[yy];rfl
 have b:ez gL ⟨go2,gE⟩ 1 0 2=0:=by
  unfold ez;rw[if_neg (by decide),if_neg (by rw[yA];decide)];exact qO.2
 have a:cD gL go2 gE 1 0 2=c8 gL go2 gE 1 [2]:=by
  unfold cD;rw[if_neg (by decide),if_neg (by rw[yA];decide)]
 unfold oO mi;rw[f];dsimp only;rw[if_neg (show¬(0:Int)≠0 by decide),if_neg (show¬(0:Int)≠0 by decide),if_neg (show¬dw (eA.n 1) [109]≠0 from fun h=>h qP),if_neg (show¬dw (eA.n 1) [109]≠0 from fun h=>h qP),if_neg (show¬ez eA.L eA.dep ((1:Nat):Int) 0 2≠0 from fun h=>h b),if_neg (show¬ez eA.L eA.dep ((1:Nat):Int) 0 2≠0 from fun h=>h b)];show bP 2 (fQ (eA.cn (cD gL go2 gE 1 0 2)) 1 [109] 2)=_∧ee (eA.cn (cD gL go2 gE 1 0 2)) 1 [109] 2=_;rw[a];generalize d:eA.cn (c8 gL go2 gE 1 [2])=u;have c:fy u 1 [109] 2=0:=by rw[←d];exact yz
 unfold fQ ee;rw[if_neg (by rw[c];decide),if_neg (by rw[c];decide)];subst d;refine⟨?_,?_⟩
 ·show bP 2 (cN gL 1 [2])=_;rw[qO.2];rfl
 ·show((eA.cn (c8 gL go2 gE 1 [2])).iN 1 (aS [] [109] (bD [] [109]) 2) (eU [] [] [109] (bD [] [109]) 2)).cn yG=_;rw[nz.2.2,nz.1,nz.2.1];rfl
theorem tW:dG gL [] (-1) 2=0∧jN gL [] (-1) 2=eO∧jM gL [] (-1) 2=2:=by decide+kernel
theorem EF:e8 fp gX=⟨0,2,[]⟩∧(cA fp gX).h 1=2∧(cA fp gX).w 1=eO∧(cA fp gX).n 1=[⟨[109],2⟩]:=by
 have e:e8 fp gX=kZ fp 1 [109]∧cA fp gX=jL fp 1 [109]:=⟨rfl,rfl⟩;rw[e.1,e.2]
 have a:aF fp 1 [109]=(2,0):=by
  unfold aF;show(if bg 1=false then _ else if bD [⟨[109],2⟩] [109]<0 then _ else(bD [⟨[109],2⟩] [109],0))=_;rw[yy];rfl
 unfold kZ jL;rw[show aF fp ((1:Nat):Int) [109]=(2,0)from a];dsimp only;rw[if_neg (by decide),if_neg (by decide)];refine⟨?_,tW.2.2,tW.2.1,rfl⟩;show bP 2 (dG gL [] (-1) 2)=_;rw[tW.1];rfl
end Go.Nest
end
section
namespace Go.Nest
open Go Go.AM Go.Proofs
open Go.Proofs.YtpechfcbnoggfaaGreatDoor (tab tabOk)
set_option maxRecDepth 100000
def kh(x:bm):Nat:=x.path.length+x.bytes.length+x.text.length+x.name.length
def fA(l:List bm):Nat:=(l.map kh).sum
theorem Ja{l:List bm}{i:Nat}(h:i<l.length):fA (l.take (i+1))=fA (l.take i)+kh l[i]:=by
 unfold fA;rw[List.take_succ_eq_append_getElem h,List.map_append,List.sum_append];simp
theorem Bs{n:Nat}:∀{l:List bm},(∀x∈l,kh x≤n)→fA l≤l.length*n
 |[],_=>by simp[fA]
 |x::l,h=>by
  have b:=h x (by simp);have c:=Bs (l:=l) fun y a=>h y (by simp[a]);rw[show fA (x::l)=kh x+fA l by simp[fA],List.length_cons,Nat.add_mul];omega
theorem Bt{x:bm}:∀{l:List bm},x∈l→kh x≤fA l
 |y::l,h=>by
  rw[show fA (y::l)=kh y+fA l by simp[fA]];rcases List.mem_cons.1 h with rfl|h
  ·omega
  ·have:=Bt h;omega
def oY(l:List bm):Bool:=decide (80<l.length)||decide (8000<fA (l.take 200))
theorem EN{l:List bm}(h:oY l=false):l.length≤80∧∀x∈l,x.path.length≤4000000:=by
 unfold oY at h;rw[Bool.or_eq_false_iff,decide_eq_false_iff_not,decide_eq_false_iff_not]at h;refine⟨by omega,fun x a=>?_⟩;rw[List.take_of_length_le (by omega)]at h;have:=Bt a;unfold kh at this;omega
def sE(l:List bm):Prop:=∀x∈l,x.path.length≤140737488351232∧x.bytes.length≤140737488351232∧x.text.length≤140737488351232∧x.name.length≤140737488351232
theorem I9{l:List bm}{i n m k:Nat}(h:∀x∈l,kh x≤n)(hi:i≤m)(hk:m*n=k):fA (l.take i)≤k:=by
 have a:=Bs (l:=l.take i) (n:=n) fun x b=>h x (List.mem_of_mem_take b);rw[List.length_take]at a;have c:min i l.length*n≤m*n:=Nat.mul_le_mul_right _ (by omega);omega
theorem I8{l:List bm}{i:Nat}(hl:sE l)(hi:i≤200):fA (l.take i)≤112589990680985600:=
 I9 (n:=562949953404928) (m:=200) (fun x e=>by obtain⟨a,b,c,d⟩:=hl x e;unfold kh;omega) hi (by decide)
theorem EO(l:List bm)(hl:sE l):ae Tryz.prog 20 [.c (.bs 7 bm aI l)] [] (Rt (.c (.bool (oY l))) []):=by
 refine ak (n:=51) (n0:=0) tabOk Tryz.call20 Tryz.func20 ?_;intro hb;have hb:l.length≤9223372036854775807:=hb.1.1;(conv=>whnf);refine lp Nat (fun i=>⟨[(0,.c (.bs 7 bm aI l)),(3,.c (.int .i64 (fA (l.take i)))),(4,.c (.int .i64 i))],[]⟩) (fun i=>(i≤l.length∧i≤200)∧True) (fun i=>l.length-i) 0 [] [] ?_ ?_ (fun i r=>?_)
 ·simp
 ·repeat' first|exact trivial|exact rfl|refine And.intro ?_ ?_
 have k:fA (l.take i)≤112589990680985600:=I8 hl (by omega)
 have fin:¬(i<l.length∧i<200)→l.take 200=l.take i:=fun h=>by
  by_cases f:i=200
  ·rw[f]
  ·rw[List.take_of_length_le (by omega),List.take_of_length_le (by omega)]
 (conv=>whnf);refine dec (fun g=>?_) (fun g=>?_)
 ·(conv=>whnf);refine dec (fun j=>?_) (fun j=>?_)
  ·have b:i<l.length:=by omega
   have d:=Ja b;have a:l[i]? =some l[i]:=List.getElem?_eq_getElem b;obtain⟨m,o,p,q⟩:=hl _ (List.getElem_mem b);generalize l[i]=x at*;unfold kh at d;(conv=>whnf);refine⟨false,.grow,(.l [0,1,2,3,4,5,6,7,8,9,10,11,12,13,14,15,16,17,18,19,20,21,22,23,24,25,26,27,28,29]),by kernel_rfl,.inl ?_⟩;(conv=>whnf);refine⟨i,x,rfl,a,?_⟩;(conv=>whnf);refine⟨i,x,rfl,a,?_⟩;(conv=>whnf);refine⟨i64 (by omega) (by omega),?_⟩;(conv=>whnf);refine⟨i,x,rfl,a,?_⟩;(conv=>whnf);refine⟨i64 (by omega) (by omega),?_⟩;(conv=>whnf);refine⟨i,x,rfl,a,?_⟩;repeat'((conv=>whnf);refine I6 ?_)
   refine ag (i+1) [] [] ⟨⟨b,by omega⟩,trivial⟩ (by simp only[];omega) ?_;rw[d];repeat' first|exact trivial|exact rfl|refine And.intro ?_ ?_
  ·unfold oY;rw[fin (by omega)];(conv=>whnf);refine dec (fun e=>?_) (fun e=>?_)
   ·(conv=>whnf);exact aE (by rw[show decide (80<l.length)=true from decide_eq_true (by omega)];rfl)
   ·(conv=>whnf);exact aE (by rw[show decide (80<l.length)=false from decide_eq_false (by omega),Bool.false_or,decide_eq_decide];omega)
 ·unfold oY;rw[fin (by omega)];(conv=>whnf);refine dec (fun e=>?_) (fun e=>?_)
  ·(conv=>whnf);exact aE (by rw[show decide (80<l.length)=true from decide_eq_true (by omega)];rfl)
  ·(conv=>whnf);exact aE (by rw[show decide (80<l.length)=false from decide_eq_false (by omega),Bool.false_or,decide_eq_decide];omega)
end Go.Nest
end
section
namespace Go.Nest
open Go Go.AM Go.Proofs
open Go.Proofs.YtpechfcbnoggfaaGreatDoor (tab tabOk)
set_option maxRecDepth 100000
def rK(k:Nat):List Rn:=[.same 0,.same 1,.same 2,.same 3,.same 4,.same 5,.same 6,.same 7,.same 8,.same 9,.same 10,.same (k+11),.same (k+12),.same (k+13),.same (k+14),.same (k+15),.same (k+16),.same (k+17),.same (k+18),.same (k+19),.same (k+20),.same (k+21),.same (k+22),.same (k+23),.same (k+24),.same (k+25),.same (k+26),.same (k+27),.same (k+28),.same (k+29),.same (k+30),.same (k+31)]
set_option maxHeartbeats 4000000 in
theorem Ey:ae Tryz.prog 19 [] [] (Rt (.c (.bool true)) []):=by
 have f:=FI.step FI.nil nB;rw[tX.2]at f;have g:=FI.step f nC;rw[tY.2]at g;have h:=FI.step g nD;rw[tZ.2]at h;have y:=FI.step h gX;have j:=ns FI.nil (by decide) nB (by decide);have b:=ns f (by decide) nC (by decide);have d:=ns g (by decide) nD (by decide);have e:=ns h (by decide) gX (by decide);rw[tX.1,tX.2]at j;rw[tY.1,tY.2]at b;rw[tZ.1,tZ.2]at d;obtain⟨s,u,v,x⟩:=EF;rw[s]at e;have i:=y.wf (by decide);have k:=EU _ i 1;have m:=tE _ i 1;have o:=AL _ i 1;have p:uc (cA fp gX) 1=2:=u
 have q:qD (cA fp gX) 1=[⟨[97],[120]⟩]:=by
  show((cA fp gX).w 1).map dI=_;rw[v];rfl
 have r:rT (cA fp gX) 1=[⟨[109],2⟩]:=x;rw[p]at k;rw[q]at m;rw[r]at o;generalize cA fp gX=a at e k m o;generalize fp=E at d e;generalize eA=D at b d;generalize fe=z at j b;refine iX (n:=64) (n0:=0) tabOk Tryz.call19 Tryz.func19 ?_;intro hb;refine XM.seq ?_;(conv=>whnf);refine XM.seq ?_;(conv=>whnf);refine aP [] (aK iB) yp ?_;(conv=>whnf);refine XM.seq ?_;(conv=>whnf);refine XM.seq ?_;(conv=>whnf);refine⟨[120],rfl,?_⟩;(conv=>whnf);refine xl [32] (mF 0) (bC 22 (d21++[.aT 1 UInt8 bt [120]]) z) j ?_;(conv=>whnf);refine XM.seq ?_;(conv=>whnf);refine aP (mF 22) (bC 44 (d21++[.aT 1 UInt8 bt [120]]++d21++[.box [.int .i64 0,.int .i64 0,.ls 1 (List UInt8) encS []]]) D) b ?_;(conv=>whnf);refine XM.seq ?_;(conv=>whnf);refine aP (mF 44) (bC 66 (d21++[.aT 1 UInt8 bt [120]]++d21++[.box [.int .i64 0,.int .i64 0,.ls 1 (List UInt8) encS []]]++d21++[.box [.int .i64 0,.int .i64 2,.ls 1 (List UInt8) encS []]]) E) d ?_;(conv=>whnf);refine XM.seq ?_;(conv=>whnf);refine aP (mF 66) (bC 88 (d21++[.aT 1 UInt8 bt [120]]++d21++[.box [.int .i64 0,.int .i64 0,.ls 1 (List UInt8) encS []]]++d21++[.box [.int .i64 0,.int .i64 2,.ls 1 (List UInt8) encS []]]++d21++[.box [.int .i64 0,.int .i64 2,.ls 1 (List UInt8) encS []]]) a) e ?_;(conv=>whnf);refine XM.le (t:=⟨[(1,.c (.ptr 0 0)),(2,.c (.ptr 32 0)),(3,.c (.ptr 33 0)),(4,.c (.ptr 34 0)),(5,.c (.ptr 35 0))],aK a++[.box [.int .i64 0,.int .i64 0,.ls 1 (List UInt8) encS []],.box [.int .i64 0,.int .i64 2,.ls 1 (List UInt8) encS []],.box [.int .i64 0,.int .i64 2,.ls 1 (List UInt8) encS []],.box [.int .i64 0,.int .i64 2,.ls 1 (List UInt8) encS []]]⟩) [] (rK 88++[.same 54,.same 76,.same 98,.same 120]) ed ?_;refine XM.of ?_;(conv=>whnf);refine⟨false,.grow,(.l [0,1,2,3,4,5,6,7,8,9,10,11,12,13,14,15,16,17,18,19,20,21,22,23,25,26,24,27,28,29,30,31,32,33,34,35,36,37,38,39,40,41]),by kernel_rfl,.inl ?_⟩;(conv=>whnf);refine aP [] (aK a++[.box [.int .i64 0,.int .i64 0,.ls 1 (List UInt8) encS []],.box [.int .i64 0,.int .i64 2,.ls 1 (List UInt8) encS []],.box [.int .i64 0,.int .i64 2,.ls 1 (List UInt8) encS []],.box [.int .i64 0,.int .i64 2,.ls 1 (List UInt8) encS []]]) k ?_;(conv=>whnf);refine aP [] (aK a++[.box [.int .i64 0,.int .i64 0,.ls 1 (List UInt8) encS []],.box [.int .i64 0,.int .i64 2,.ls 1 (List UInt8) encS []],.box [.int .i64 0,.int .i64 2,.ls 1 (List UInt8) encS []],.box [.int .i64 0,.int .i64 2,.ls 1 (List UInt8) encS []],.row 2 Dc dZ [⟨[97],[120]⟩]]) m ?_;(conv=>whnf);refine aP [] (aK a++[.box [.int .i64 0,.int .i64 0,.ls 1 (List UInt8) encS []],.box [.int .i64 0,.int .i64 2,.ls 1 (List UInt8) encS []],.box [.int .i64 0,.int .i64 2,.ls 1 (List UInt8) encS []],.box [.int .i64 0,.int .i64 2,.ls 1 (List UInt8) encS []],.row 2 Dc dZ [⟨[97],[120]⟩],.row 2 Rf bd [⟨[109],2⟩]]) o ?_;(conv=>whnf);exact aE rfl
end Go.Nest
end
section
namespace Go.Nest
open Go Go.AM Go.Proofs
open Go.Proofs.YtpechfcbnoggfaaGreatDoor (tab tabOk)
set_option maxRecDepth 100000
def zQ{q:Nat}(_:Qn q)(Z:Nat→List B):List B:=Z q
theorem xR(s:FS){k:Nat}(hk:k<4):qD s (k:Nat)=(s.w k).map dI:=if_neg (by rw[bQ.2 ⟨k,hk,rfl⟩];decide)
theorem HD(s:FS){k:Nat}(hk:k<4):rT s (k:Nat)=s.n k:=if_neg (by rw[bQ.2 ⟨k,hk,rfl⟩];decide)
theorem Ip(l:List Int):ae Tryz.prog 30 [.c (.bs 1 Int encI l),.c (.bs 1 Int encI l)] [] (Rt (.c (.bool true)) []):=by
 have h:=Io l l;rwa[show decide (l=l)=true from decide_eq_true rfl]at h
end Go.Nest
end
section
namespace Go.Nest
open Go Go.AM
inductive kn(b:Nat→List Int)(r:Int):Int→Prop
 |refl:kn b r r
 |step {x y:Int} (h:kn b r x) (hy:y∈b x.toNat):kn b r y
theorem wB:∀{l out:List Int},out<+:l.foldl bq out
 |[],out=>List.prefix_refl _
 |x::l,out=>by
  refine List.IsPrefix.trans ?_ (wB (l:=l) (out:=bq out x));unfold bq;split
  ·exact List.prefix_refl _
  ·exact List.prefix_append _ _
theorem zu{b:Nat→List Int}(hb:fk b){r:Int}(hr:bg r=true){x:Int}:x∈cm b r↔kn b r x:=by
 suffices∀n i out,5-i≤n→fF b r i out→(∀x∈out,kn b r x)→(∀j,j<i→∀z,out[j]? =some z→∀y∈b z.toNat,y∈out)→r∈out→∀x,x∈cm b r↔kn b r x from
  this 5 0 [r] (Nat.le_refl _) (fF.start hr) (fun x hx=>by rw[List.mem_singleton]at hx;subst hx;exact .refl) (fun j h=>absurd h (Nat.not_lt_zero _)) (by simp) x
 intro n;induction n with
 |zero=>
  intro i out p c;have:=c.len;have:=c.le;omega
 |succ n ih=>
  intro i out p c g k m;by_cases a:i<out.length
  ·refine ih (i+1) _ (by omega) (c.next hb a) (fun x hx=>?_) (fun j o z f y d=>?_) (l6.2 (.inl m))
   ·rcases l6.1 hx with hx|hx
    ·exact g x hx
    ·exact .step (g _ (List.getElem_mem a)) hx
   ·obtain⟨t,q⟩:=wB (l:=b out[i].toNat) (out:=out);rw[←q,List.getElem?_append_left (by omega)]at f;by_cases e:j=i
    ·subst e;rw[List.getElem?_eq_getElem a]at f;cases f;exact l6.2 (.inr d)
    ·exact l6.2 (.inl (k j (by omega) z f y d))
  ·intro x;rw[c.stop a];refine⟨g x,fun hx=>?_⟩;induction hx with
   |refl=>exact m
   |step _ d ih=>
    obtain⟨j,o,e⟩:=List.mem_iff_getElem.1 ih;exact k j (by omega) _ (by rw[List.getElem?_eq_getElem o,e]) _ d
theorem kn.mono{b b':Nat→List Int}(h:∀k,∀y∈b k,y∈b' k){r x:Int}(a:kn b r x):kn b' r x:=by
 induction a with
 |refl=>exact .refl
 |step _ c ih=>exact ih.step (h _ _ c)
theorem CF{b:Nat→List Int}{r q:Int}:∀k,∀y∈b k,y∈cw b r q k:=fun k y a=>by
 unfold cw;split
 ·exact a
 ·rw[fj];split
  ·rename_i e;rw[←e];exact List.mem_append_left _ a
  ·exact a
theorem yM{o:Nat→List Bool}{b:Nat→List Int}(hb:lY b){r q:Int}{k id:Int}(h:aU ⟨o,b⟩ k id=true):aU ⟨o,cw b r q⟩ k id=true:=by
 unfold aU at h⊢;rw[Bool.and_eq_true,List.any_eq_true]at h⊢;obtain⟨a,x,c,d⟩:=h;exact⟨a,x,(zu (hb.df r q).ok a).2 (((zu hb.ok a).1 c).mono CF),d⟩
theorem x4{L M:List Ob}(a:L<+:M){j:Int}(hj:¬kindOf L j=0):cL M j=cL L j:=by
 unfold cL;rw[ext_get a hj]
theorem F3{L M:List Ob}(c:ai L)(b:L<+:M){ids:List Int}(hi:∀id∈ids,¬kindOf L id=0){k:Int}:bO M ids k↔bO L ids k:=by
 constructor
 ·intro h;induction h with
  |base h a=>exact .base h (hi _ h)
  |step _ a ih=>exact ih.step (by rw[←x4 b (ih.kind c)];exact a)
 ·intro h;induction h with
  |base h a=>exact .base h (by rw[c9 b a];exact a)
  |step h a ih=>exact ih.step (by rw[x4 b (h.kind c)];exact a)
theorem AK{L M:List Ob}(a:ai L)(b:ai M)(c:L<+:M){ids:List Int}(hi:∀id∈ids,¬kindOf L id=0):aN M ids=aN L ids:=
 pE rS rS fun x=>by rw[iI b,iI a,F3 a c hi]
theorem Bq{f g:Int→List (List UInt8)→List Fi→Int×List Fi}{ins:List (List UInt8)}:∀{es:List aD} {out:List Fi},(∀e∈es,e.mode=2→∀out,f e.id (ins++[e.name]) out=g e.id (ins++[e.name]) out)→cX f ins es out=cX g ins es out
 |[],out,_=>rfl
 |e::r,out,h=>by
  have a:∀out,cX f ins r out=cX g ins r out:=fun out=>Bq fun x c=>h x (List.mem_cons_of_mem _ c);rw[cX,cX,a,a];split
  ·rename_i b;rw[h e (by simp) b]
  ·rfl
theorem yH{L M:List Ob}(b:ai L)(a:L<+:M):∀(n:Nat) (t:Int) (ins:List (List UInt8)) (out:List Fi),¬kindOf L t=0→bV M n t ins out=bV L n t ins out
 |0,t,ins,out,_=>rfl
 |n+1,t,ins,out,c=>by
  rw[bV,bV,c9 a c,ext_get a c];split
  ·rfl
  rename_i d;split
  ·rfl
  ·refine Bq fun e f g out=>yH b a n _ _ _ ?_;have:=((gM b (Decidable.not_not.1 d)).2 e f).kind;omega
theorem Ek{L M:List Ob}(a:ai L)(c:L<+:M){t:Int}(b:¬kindOf L t=0):bw M t=bw L t:=by
 unfold bw;rw[yH a c 9 t [] [] b]
theorem EM{L M:List Ob}(d:ai L)(e:ai M)(b:L<+:M){has:Int→Int→Bool}{r id:Int}(hk:¬kindOf L id=0):iD M has r id=iD L has r id:=by
 unfold iD;rw[c9 b hk];by_cases c:kindOf L id=3
 ·rw[ext_get b hk,AK d e b (fun x a=>by rw[List.mem_singleton]at a;rw[a];have:=mf d c;omega)]
 ·rw[decide_eq_false c];rfl
theorem JD{L M:List Ob}(a:ai L)(h:ai M)(d:L<+:M){has:Int→Int→Bool}:∀(n:Nat) (r id:Int) (pre:List UInt8) (out:List Fi),¬kindOf L id=0→dy M has n r id pre out=dy L has n r id pre out:=by
 intro n;induction n with
 |zero=>intro r id pre out _;rfl
 |succ n ih=>
  intro r id pre out g;rw[dy,dy,EM a h d g];split
  ·rfl
  rename_i c
  have b:kindOf L id=3:=by
   by_cases b:kindOf L id=3
   ·exact b
   ·unfold iD at c;rw[decide_eq_false b]at c;exact absurd rfl c
  rw[ext_get d g,Ek a d (by have:=mf a b;omega)];split
  ·refine wb fun x f i p out=>ih _ _ _ _ ?_;obtain⟨k,m,e,j,k3,l,o⟩:=x7 a f i;have:=(lh a j).2.2;rw[←l];omega
  ·rfl
theorem JI{L M:List Ob}(b:ai L)(a:ai M)(c:L<+:M){has:Int→Int→Bool}{r id:Int}(hk:¬kindOf L id=0):ga M has r id=ga L has r id:=by
 unfold ga;rw[JD b a c 6 r id [] [] hk]
end Go.Nest
end
section
namespace Go.Nest
open Go Go.AM
theorem Kept.down{L:List Ob}(n:ai L){t u:Int}{fs:List Fi}(h:Kept L t fs){dir:List UInt8}(a:cV L t dir=(u,0)):∃r,Kept L u r:=by
 unfold cV at a;split at a
 ·rename_i i;exact absurd (congrArg Prod.snd a) i
 rename_i i;obtain⟨x,z,q⟩:=lT (Decidable.not_not.1 i);generalize (bZ dir).1=c at a q;by_cases l:c=[]
 ·subst l;rw[gT]at a;cases a;exact⟨fs,h⟩
 ·have w:∀d∈c,bJ d=0:=by rw[q];exact nT x
  rcases BD n c l w h.tree with⟨v,e,k,y⟩|⟨e,_⟩
  ·rw[e]at a;cases a;refine⟨_,k,BC n k (Nat.le_trans (List.length_filterMap_le _ _) (jh h.ok).1) fun f m=>?_⟩;unfold dE at m;obtain⟨g,s,b⟩:=List.mem_filterMap.1 m;unfold lV at b;cases j:under g.path (b5 c)with
   |none=>rw[j]at b;cases b
   |some p=>
    rw[j]at b;cases b;have o:=((jh h.ok).2 g s).1;rw[jD j]at o;exact(lT (DH o)).2.1
  ·rw[e]at a;cases a
theorem E3{L:List Ob}(c:ai L)(hc:dm L){dir:List UInt8}{up:List Int}{o:Ob}{fs:List Fi}(d:Kept L o.tree fs):dm (bL L dir up o).2.2:=by
 unfold bL;split
 ·exact hc
 split
 ·exact hc
 rename_i a;split
 ·exact hc
 ·obtain⟨e,b⟩:=d.down c (dir:=dir) (u:=(cV L o.tree dir).1) (Prod.ext rfl (Decidable.not_not.1 a));exact tf hc b
theorem Bj{dir:List UInt8}:∀{l:List Int} {L:List Ob} {im:List (List Int)},ai L→(∀x∈l,kindOf L x=3)→dm L→dm (bH dir l L im).2.1
 |[],L,im,c,b,a=>a
 |id::r,L,im,c,b,a=>by
  obtain⟨i,g⟩:=a id (b id (by simp));have d:dm (dP L dir im id).2.2:=E3 c a g;obtain⟨e,f,-⟩:=lB c (dir:=dir) (up:=cE im (aj L id).parents) (o:=aj L id);unfold bH;split
  ·exact d
  ·exact Bj e (fun x h=>by have:=b x (by simp[h]);exact(c9 f (by omega)).trans this) d
theorem IL{L:List Ob}(b:ai L)(hc:dm L)(id:Int)(dir:List UInt8):dm (bT L id dir).2.2:=by
 unfold bT;by_cases a:kindOf L id=3
 ·rw[show bX L id=(aW L id,0)from if_pos a,if_neg (by simp)];have c:dm (bH dir (aW L id) L (List.replicate L.length [])).2.1:=Bj b (fun x d=>((kG b a).1 d).kind b a) hc;split
  ·exact c
  ·exact c
 ·rw[show bX L id=([],9)from if_neg a,if_pos (by decide)];exact hc
theorem A4{base x y:List Fi}:∀(a:List (List UInt8)) (s:BS),fG s.L (dL base x y s a).L
 |[],s=>.refl _
 |q::a,s=>by
  refine fG.trans ?_ (A4 a (mQ base x y s q));show fG s.L (kc s.L _ _ _);unfold kc;split
  ·exact .refl _
  split
  ·exact .refl _
  unfold iK;split
  ·exact .refl _
  ·exact rR (show(1:Int)≠3 by decide)
theorem CB{L:List Ob}(b:ai L)(hc:dm L)(base x y:List Fi):dm (gm L base x y).L:=by
 refine hc.mono (sW b base x y).2 ?_;have a:=A4 (base:=base) (x:=x) (y:=y) (ei [base,x,y]) ⟨L,[],[],0⟩;unfold gm;split
 ·exact .refl _
 dsimp only;generalize (if(dL base x y ⟨L,[],[],0⟩ (ei [base,x,y])).code=0 then cI (dL base x y ⟨L,[],[],0⟩ (ei [base,x,y])).out else(dL base x y ⟨L,[],[],0⟩ (ei [base,x,y])).code)=c;split
 ·exact a
 ·exact a
def fE(L:List Ob)(d:Dp)(r id:Int):Prop:=∀k∈aN L [id],aU d r k=true
theorem fE.more{L M:List Ob}(e:ai L)(c:ai M)(f:L<+:M){d:Dp}{r id:Int}(hk:kindOf L id=3)(h:fE L d r id):fE M d r id:=fun k a=>by
 rw[AK e c f (fun x b=>by rw[List.mem_singleton]at b;rw[b];omega)]at a;exact h k a
structure KX(X:Nat→Prop)(s:FS):Prop where
 com:dm s.L
 ref:∀r,r<4→∀x∈s.n r,kindOf s.L x.id=3
 mov:∀r,r<4→∀x∈s.m r,(0≤x.old→kindOf s.L x.old=3)∧(0≤x.new→kindOf s.L x.new=3)
 cK:∀r,r<4→∀y∈s.w r,y.link=true→kindOf s.L y.id=3
 has:∀r:Nat,r<4→∀x∈s.n r,fE s.L s.dep r x.id
 hd:∀r:Nat,r<4→¬X r→0≤s.h r→fE s.L s.dep r (s.h r)
abbrev KA(s:FS):Prop:=KX (fun _=>False) s
theorem KA.nil:KA iB:=⟨dm.nil,fun r b x a=>(by cases a),fun r b x a=>(by cases a),fun r b x a=>(by cases a),fun r b x a=>(by cases a),fun r b _ h=>absurd h (by show¬(0:Int)≤-1;decide)⟩
variable {L0:List Ob} {s:FS} {n:Nat} {X:Nat→Prop}
theorem KX.vY(h:KA s):KX X s:=⟨h.com,h.ref,h.mov,h.cK,h.has,fun r a _=>h.hd r a (fun f=>f)⟩
theorem gu{L M:List Ob}(a:L<+:M){k:Int}(h:kindOf L k=3):kindOf M k=3:=by rw[c9 a (by omega)];exact h
theorem gz.k3{L:List Ob}{h:Int}(a:gz L h)(b:0≤h):kindOf L h=3:=a.resolve_left (by omega)
theorem KX.kQ(i:FI L0 s n)(h:KX X s){r:Nat}{M:List Ob}{l:List It}{hd:Int}(j:ai M)(d:s.L<+:M)(hc:dm M)(hl:∀y∈l,y.link=true→kindOf M y.id=3)(o:¬X r→r<4→0≤hd→fE M s.dep r hd):KX X (s.db r M l hd):=
 ⟨hc,fun k b x a=>gu d (h.ref k b x a),fun k b x a=>⟨fun c=>gu d ((h.mov k b x a).1 c),fun c=>gu d ((h.mov k b x a).2 c)⟩,fun k b y f g=>by
  have f:y∈ay s.w r l k:=f;rw[fj]at f;split at f
  ·exact hl y f g
  ·exact gu d (h.cK k b y f g),fun k b x a=>(h.has k b x a).more i.pool j d (h.ref k b x a),fun k b m=>by
  show 0≤ay s.h r hd k→fE M s.dep k (ay s.h r hd k);rw[fj];split
  ·rename_i e;subst e;exact o m b
  ·exact fun c=>(h.hd k b m c).more i.pool j d ((i.work k b).head.k3 c)⟩
theorem KX.grow(e:FI L0 s n)(h:KX X s){M:List Ob}(g:ai M)(d:s.L<+:M)(hc:dm M):KX X (s.aS M):=
 ⟨hc,fun k b x a=>gu d (h.ref k b x a),fun k b x a=>⟨fun c=>gu d ((h.mov k b x a).1 c),fun c=>gu d ((h.mov k b x a).2 c)⟩,fun k b y j f=>gu d (h.cK k b y j f),fun k b x a=>(h.has k b x a).more e.pool g d (h.ref k b x a),fun k b i c=>(h.hd k b i c).more e.pool g d ((e.work k b).head.k3 c)⟩
theorem BL{l:List Rf}{name:List UInt8}{old id:Int}{x:Rf}(hx:x∈aS l name old id):x∈l∨(x=⟨name,id⟩∧0≤id):=by
 unfold aS at hx;split at hx
 ·rename_i b;obtain⟨d,e,a,f,g⟩:=oH b;unfold kg at hx;split at hx
  ·rename_i c;rw[ln c]at a;rcases o5.1 hx with rfl|hx
   ·exact .inr ⟨rfl,by show 0≤id;omega⟩
   ·exact .inl hx
  ·split at hx
   ·rcases List.mem_append.1 hx with hx|hx
    ·exact .inl (List.mem_of_mem_take hx)
    ·exact .inl (List.mem_of_mem_drop hx)
   ·rcases List.mem_or_eq_of_mem_set hx with hx|rfl
    ·exact .inl hx
    ·exact .inr ⟨rfl,by omega⟩
 ·exact .inl hx
theorem yF{l:List Rf}{name:List UInt8}(h:0≤bD l name):∃x∈l,x.id=bD l name:=by
 cases b:dK l name with
 |false=>rw[ln b]at h;exact absurd h (by decide)
 |true=>obtain⟨a,_,e⟩:=oV b;exact⟨_,List.getElem_mem a,e.symm⟩
theorem zp{s:FS}{r:Int}{name:List UInt8}(h:(aF s r name).2=0):∃i:Nat,i<4∧r=i∧0≤(aF s r name).1∧∃x∈s.n i,x.id=(aF s r name).1:=by
 unfold aF at h⊢;split at h
 ·cases h
 rename_i a;split at h
 ·cases h
 rename_i b;obtain⟨i,d,e⟩:=(bQ (r:=r)).1 (by cases q:bg r;exact absurd q a;rfl);rw[if_neg a,if_neg b];have c:r.toNat=i:=by omega
 rw[c]at b⊢;exact⟨i,d,e,by dsimp only;omega,yF (by omega)⟩
theorem GB{l:List Rf}{m:List Mv}{name:List UInt8}{old id:Int}{x:Mv}(hx:x∈eU l m name old id):x∈m∨(x=⟨name,old,id⟩∧old=bD l name):=by
 unfold eU at hx;split at hx
 ·rename_i a;rcases List.mem_append.1 hx with hx|hx
  ·exact .inl hx
  ·rw[List.mem_singleton]at hx;exact .inr ⟨hx,(oH a).2.2.1⟩
 ·exact .inl hx
theorem KX.vw(m:FI L0 s n)(h:KX X s){Y:Nat→Prop}{r:Nat}{name:List UInt8}{old id:Int}{o:Nat→List Bool}(ho:∀k,k<4→∀j:Nat,(s.o k)[j]? =some true→(o k)[j]? =some true)
  (hid:0≤id→kindOf s.L id=3∧fE s.L ⟨o,s.b⟩ r id)(i:∀k:Nat,k<4→¬Y k→0≤s.h k→fE s.L ⟨o,s.b⟩ k (s.h k)):
  KX Y ((s.iN r (aS (s.n r) name old id) (eU (s.n r) (s.m r) name old id)).cn o):=by
 refine⟨h.com,fun k c x a=>?_,fun k c x a=>?_,h.cK,fun k c x a=>?_,i⟩
 ·have a:x∈ay s.n r _ k:=a;rw[fj]at a;split at a
  ·rename_i e;subst e;rcases BL a with a|⟨rfl,b⟩
   ·exact h.ref k c x a
   ·exact(hid b).1
  ·exact h.ref k c x a
 ·have a:x∈ay s.m r _ k:=a;rw[fj]at a;split at a
  ·rename_i e;subst e;rcases GB a with a|⟨rfl,f⟩
   ·exact h.mov k c x a
   ·refine⟨fun b=>?_,fun b=>(hid b).1⟩;dsimp only at b⊢;rw[f]at b⊢;obtain⟨y,l,g⟩:=yF b;rw[←g];exact h.ref k c y l
  ·exact h.mov k c x a
 ·have a:x∈ay s.n r _ k:=a;rw[fj]at a;split at a
  ·rename_i e;subst e;rcases BL a with a|⟨rfl,b⟩
   ·exact fun z d=>lu ho (h.has k c x a z d)
   ·exact(hid b).2
  ·exact fun z d=>lu ho (h.has k c x a z d)
theorem KX.own(h:KX X s){Y:Nat→Prop}{o:Nat→List Bool}(ho:∀k,k<4→∀j:Nat,(s.o k)[j]? =some true→(o k)[j]? =some true)(a:∀k:Nat,k<4→¬Y k→0≤s.h k→fE s.L ⟨o,s.b⟩ k (s.h k)):KX Y (s.cn o):=
 ⟨h.com,h.ref,h.mov,h.cK,fun k b x c z d=>lu ho (h.has k b x c z d),a⟩
theorem KX.lead(f:FI L0 s n){r:Nat}(hr:r<4)(h:KX (· =r) s){name:List UInt8}{id:Int}(hn:dw (s.n r) name=0)(hk:kindOf s.L id=3)(i:s.h r=id∨(0≤s.h r→fE s.L s.dep r (s.h r))):KA (ee s r name id):=by
 have hid:=dh (l:=s.L) (id:=id) (by omega)
 have d:cN s.L r [id]=0:=by
  unfold cN;rw[if_neg (by rw[bQ.2 ⟨r,hr,rfl⟩];decide),if_neg (by simp;omega)]
 unfold ee;rw[if_neg (fun k=>(Iv (f.refs r hr) hn (by omega)).elim k.1 k.2)];refine KX.vw f h (o:=c8 s.L s.o s.b r [id]) (ng hr [id]) (fun _=>⟨hk,fun z a=>qa hr d a⟩) fun k b _ c=>?_;by_cases e:k=r
 ·subst e;rcases i with g|h2
  ·rw[g];exact fun z a=>qa hr d a
  ·exact fun z a=>lu (ng hr [id]) (h2 c z a)
 ·exact fun z a=>lu (ng hr [id]) (h.hd k b e c z a)
end Go.Nest
end
section
namespace Go.Nest
open Go Go.AM
variable {L0:List Ob} {s:FS} {n:Nat} {X:Nat→Prop}
theorem cu.cK{ne:Bool}{L:List Ob}(o:ai L){es:List aD}{l:List Fi}(h:cu ne L es l):(∀e∈es,ik L e)→∀f∈l,f.mode=3→kindOf L f.id=3:=by
 induction h with
 |nil=>intro _ f hf;cases hf
 | @file e es l k h ih=>
  intro b f hf a;rcases List.mem_cons.1 hf with rfl|hf
  ·have:=(b e (by simp)).kind;dsimp only at a⊢;omega
  ·exact ih (fun x c=>b x (by simp[c])) f hf a
 | @dir e es m l k j n p h d ih=>
  intro b f hf a;rcases List.mem_append.1 hf with hf|hf
  ·obtain⟨g,i,rfl⟩:=List.mem_map.1 hf;exact d (gM o j).2 g i a
  ·exact ih (fun x c=>b x (by simp[c])) f hf a
theorem zi{ne:Bool}{M:List Ob}{fs:List Fi}{t:Int}(c:ai M)(d:eI ne M t fs):∀y∈fs.map (ck M),y.link=true→kindOf M y.id=3:=fun y g b=>by
 obtain⟨f,e,rfl⟩:=List.mem_map.1 g;unfold ck at b⊢;split
 ·rename_i a;exact d.2.cK c (gM c d.1).2 f e a
 ·rename_i a;rw[if_neg a]at b;cases b
theorem FQ{L:List Ob}(d:ai L){l:List It}(h:∀y∈l,y.link=true→kindOf L y.id=3)(fs:List Fi):∀y∈kA L l fs,y.link=true→kindOf (cg L fs).2.2 y.id=3:=by
 obtain⟨a,b⟩:=ma d fs;by_cases c:(cg L fs).2.1=0
 ·rw[show kA L l fs=fs.map (ck (cg L fs).2.2)from if_neg (fun h=>h c)];exact zi a (oF d c).2
 ·rw[show kA L l fs=l from if_pos c];exact fun y f e=>gu b (h y f e)
theorem KX.lay(c:FI L0 s n)(h:KX X s){r:Nat}(hr:r<4)(l:List Fi):KX X (dQ s r l):=by
 obtain⟨a,b⟩:=ma c.pool l;exact h.kQ c a b (h.com.mono b xa) (FQ c.pool (h.cK r hr) l) fun e _ d=>(h.hd r hr e d).more c.pool a b ((c.work r hr).head.k3 d)
theorem KX.xo(c:FI L0 s n)(h:KX X s)(r:Nat):KX X (dv s r):=by
 obtain⟨a,b⟩:=iT (l:=s.w r) c.pool;exact h.grow c a b (h.com.mono b vS)
theorem KX.xu(c:FI L0 s n)(h:KX X s){r:Nat}(hr:r<4){text:List UInt8}{others:List Int}(hc:(bc s.L (s.w r) (s.h r) text others).2.1≠0):KX X (cz s r text others):=by
 obtain⟨a,b⟩:=oI (l:=s.w r) (h:=s.h r) (text:=text) (others:=others) c.pool;refine h.kQ c a b (xw c.pool h.com) (fun y g f=>gu b (h.cK r hr y g f)) fun e _ d=>?_;rw[show lA s.L (s.w r) (s.h r) text others=s.h r from if_neg hc]at d⊢;exact(h.hd r hr e d).more c.pool a b ((c.work r hr).head.k3 d)
theorem KX.xv(c:FI L0 s n)(h:KA s){r:Nat}(hr:r<4)(text:List UInt8)(others:List Int):KX (· =r) (cz s r text others):=by
 obtain⟨a,b⟩:=oI (l:=s.w r) (h:=s.h r) (text:=text) (others:=others) c.pool;exact h.vY.kQ c a b (xw c.pool h.com) (fun y f e=>gu b (h.cK r hr y f e)) fun d _ _=>absurd rfl d
theorem KX.out(g:FI L0 s n)(h:KX X s){r:Nat}(hr:r<4){id:Int}(hid:fE s.L s.dep r id):KX X (jt s r id):=by
 have j:=g.pool;obtain⟨a,b⟩:=tj (l:=s.w r) (id:=id) j
 have f:fG s.L (je s.L (s.w r) id):=by
  unfold je;split
  ·exact .refl _
  ·exact vS
 by_cases d:dG s.L (s.w r) (s.h r) id=0
 ·have e:kindOf s.L id=3:=by
   by_cases e:kindOf s.L id=3
   ·exact e
   ·rw[(tt (h:=s.h r) (l:=s.w r) e).1]at d;cases d
  have c:fm s.L (s.w r) (s.h r)=0:=by
   by_cases c:fm s.L (s.w r) (s.h r)=0
   ·exact c
   ·rw[(tk (h:=s.h r) (l:=s.w r) e c).1]at d;exact absurd d c
  obtain⟨q,k,m,o⟩:=tm (h:=s.h r) (l:=s.w r) e c;have p:(bw (ba s.L (s.w r)).2.2 (aj s.L id).tree).2=0:=q▸d;rw[if_neg (fun h=>h p)]at m o;refine h.kQ g a b (h.com.mono b f) ?_ fun _ _ _=>?_
  ·rw[m,k];rw[k]at a;exact zi a (oQ a p).1
  ·rw[o];exact hid.more j a b e
 ·refine h.kQ g a b (h.com.mono b f) ?_ fun t _ i=>?_
  ·rw[show jN s.L (s.w r) (s.h r) id=s.w r from if_pos d];exact fun y v u=>gu b (h.cK r hr y v u)
  ·rw[show jM s.L (s.w r) (s.h r) id=s.h r from if_pos d]at i⊢;exact(h.hd r hr t i).more j a b ((g.work r hr).head.k3 i)
theorem KX.mix(f:FI L0 s n)(h:KA s){r:Nat}(hr:r<4)(base id:Int):KA (jq s r base id):=by
 obtain⟨v,w⟩:=sW f.pool (bu s.L base).1 (bu s.L (s.h r)).1 (bu s.L id).1;have c:=f.sV r base id;have i:KA (s.aS (aX s r base id).L):=h.grow f v w (CB f.pool h.com _ _ _);have a:=c.dQ hr (aX s r base id).out;have d:=i.lay c hr (aX s r base id).out;unfold jq;refine bz (P:=KA) (fun _=>h) (fun _=>bz (P:=KA) (fun _=>h) (fun _=>bz (P:=KA) (fun _=>h) (fun _=>bz (P:=KA) (fun _=>i) (fun _=>bz (P:=KA) (fun _=>i) (fun _=>bz (P:=KA) (fun _=>d) (fun _=>?_))))));generalize dQ (s.aS (aX s r base id).L) r (aX s r base id).out=t at a d;unfold pf;refine bz (P:=KA) (fun g=>(d.xu a hr g).lay (a.cz hr _ _) hr _) (fun g=>?_);have g:=Decidable.not_not.1 g;have y:=xx a.pool g;have j:=KX.xv a d hr dS [id];have o:=a.cz hr dS [id]
 have l:cN (cz t r dS [id]).L r [(bc t.L (t.w r) (t.h r) dS [id]).1]=0:=by
  unfold cN;rw[if_neg (by rw[bQ.2 ⟨r,hr,rfl⟩];decide),if_neg];simp only[List.any_cons,List.any_nil,Bool.or_false,decide_eq_true_iff];exact fun e=>absurd (y.symm.trans e) (by decide)
 have b:(cz t r dS [id]).h r=(bc t.L (t.w r) (t.h r) dS [id]).1:=by
  show ay t.h r _ r=_;rw[fB];exact if_pos g
 generalize (bc t.L (t.w r) (t.h r) dS [id]).1=m at l b;generalize cz t r dS [id]=u at j l b o;refine j.own (ng hr [m]) fun k p _ x=>?_;by_cases e:k=r
 ·subst e;rw[b];exact fun z q=>qa hr l q
 ·exact fun z q=>lu (ng hr [m]) (j.hd k p e x z q)
theorem KX.swp(d:FI L0 s n)(h:KA s):KA (ic s):=by
 have b:∀r:Nat,r<4→∀id,id∈dT s r→fE s.L s.dep r id→fE s.L ⟨gK s.L s.o s.b (dT s),s.b⟩ r id:=fun r a id hid i z f=>by
  rw[yN d.pool d.df.ok r z (.root a hid ((iI d.pool).1 f))];exact i z f
 refine⟨h.com,h.ref,h.mov,h.cK,fun r a x e=>?_,fun r a g c=>?_⟩
 ·refine b r a _ ?_ (h.has r a x e);unfold dT fV;exact List.mem_append_left _ (List.mem_append_left _ (EY (d.refs r a).inv e))
 ·have c:0≤s.h r:=c;refine b r a _ ?_ (h.hd r a g c);unfold dT fV;rw[if_pos c];exact List.mem_append_left _ (List.mem_append_right _ (List.mem_singleton.2 rfl))
theorem Ay{L:List Ob}{l:List It}(b:gh l)(h:∀y∈l,y.link=true→kindOf L y.id=3){x:It}(c:x.link=true→kindOf L x.id=3):∀y∈(fU l x).2,y.link=true→kindOf L y.id=3:=fun y hy a=>by
 rcases(AD b x).2 y hy with rfl|hy
 ·exact c a
 ·exact h y hy a
theorem KX.step(a:FI L0 s n)(h:KA s)(x:bm):KA (cA s x):=by
 unfold cA;refine bz (P:=KA) (fun _=>h) (fun _=>bz (P:=KA) (fun _=>h) (fun T=>?_));obtain⟨i,b,e⟩:=(bQ (r:=x.r)).1 (by cases q:bg x.r;exact absurd q T;rfl);have e:x.r.toNat=i:=by omega
 rw[e];have J:=a.work i b;have u:=sa a.pool (s.h i) x.path;have E:¬False→i<4→0≤s.h i→fE s.L s.dep i (s.h i):=fun t _ c=>h.hd i b t c
 have o8:∀{l:List UInt8},¬(aF s (i:Nat) l).2≠0→kindOf s.L (aF s (i:Nat) l).1=3∧fE s.L s.dep i (aF s (i:Nat) l).1:=fun S=>by
  obtain⟨j,p,O,_,y,v,K⟩:=zp (Decidable.not_not.1 S);obtain rfl:i=j:=by omega
  rw[←K];exact⟨h.ref i b y v,h.has i b y v⟩
 have F:=List.prefix_refl s.L;refine bz (P:=KA) (fun _=>?_) (fun _=>bz (P:=KA) (fun _=>?_) (fun _=>bz (P:=KA) (fun _=>?_) (fun _=>bz (P:=KA) (fun _=>?_) (fun _=>bz (P:=KA) (fun _=>?_) (fun _=>bz (P:=KA) (fun _=>?_) (fun _=>bz (P:=KA) (fun _=>?_) (fun _=>bz (P:=KA) (fun _=>?_) (fun _=>bz (P:=KA) (fun _=>?_) (fun _=>bz (P:=KA) (fun _=>?_) (fun _=>bz (P:=KA) (fun _=>?_) (fun _=>h.swp a)))))))))))
 ·refine h.kQ a a.pool F h.com ?_ E;unfold ij;split
  ·exact h.cK i b
  ·exact Ay J.ok (h.cK i b) fun h=>by cases h
 ·exact h.kQ a a.pool F h.com (fun y v=>h.cK i b y ((AN J.ok x.path).2 y v)) E
 ·unfold nR;refine bz (P:=KA) (fun _=>h) (fun _=>h.kQ a a.pool F h.com ?_ E);unfold gG;split
  ·exact h.cK i b
  split
  ·exact h.cK i b
  ·rename_i _ d;exact Ay J.ok (h.cK i b) fun _=>Decidable.not_not.1 d
 ·unfold mg;refine bz (P:=KA) (fun _=>h) (fun g=>bz (P:=KA) (fun m=>h.xu a b m) (fun m=>?_));have m:=Decidable.not_not.1 m;exact(KX.xv a h b x.text []).lead (a.cz b _ _) b (Decidable.not_not.1 g) (xx a.pool m) (.inl (by show ay s.h i _ i=_;rw[fB];exact if_pos m))
 ·unfold jL;exact bz (P:=KA) (fun _=>h) (fun g=>h.out a b (o8 g).2)
 ·unfold mz;refine bz (P:=KA) (fun _=>h) (fun g=>bz (P:=KA) (fun _=>h.xo a i) (fun _=>?_));have I:=h.xo a i;have D:=a.dv (r:=i);obtain⟨k3,R⟩:=o8 g;unfold pe;exact bz (P:=KA) (fun _=>I.out D b (R.more a.pool D.pool (iT a.pool).2 k3)) (fun _=>bz (P:=KA) (fun _=>I) (fun _=>bz (P:=KA) (fun _=>I) (fun _=>I.mix D b _ _)))
 ·unfold np;refine bz (P:=KA) (fun _=>h) (fun g=>?_);exact h.vw a (o:=s.o) (fun _ _ _ p=>p) (fun c=>⟨J.head.k3 c,h.hd i b (fun f=>f) c⟩) fun k d t c=>h.hd k d t c
 ·unfold nt;exact bz (P:=KA) (fun _=>h) (fun _=>h.vw a (o:=s.o) (fun _ _ _ p=>p) (fun c=>absurd c (by decide)) fun k d t c=>h.hd k d t c)
 ·unfold mi;refine bz (P:=KA) (fun _=>h) (fun g=>bz (P:=KA) (fun _=>h) (fun m=>?_))
  have N:∀k,k<4→∀j:Nat,(s.o k)[j]? =some true→(cD s.L s.o s.b (i:Nat) x.q (aF s x.q x.name).1 k)[j]? =some true:=fun k d j p=>by
   unfold cD;split
   ·exact p
   split
   ·exact p
   ·exact ng b _ k d j p
  have w:KA (s.cn (cD s.L s.o s.b (i:Nat) x.q (aF s x.q x.name).1)):=h.own N fun k d t c z H=>lu N (h.hd k d t c z H);have M:=a.cn (tK a i x.q (aF s x.q x.name).1);refine bz (P:=KA) (fun _=>w) (fun _=>?_);obtain⟨j,p,O,_,y,v,K⟩:=zp (Decidable.not_not.1 g);exact KX.lead M b w.vY (Decidable.not_not.1 m) (by rw[←K];exact h.ref j p y v) (.inr fun c=>w.hd i b (fun f=>f) c)
 ·exact⟨h.com,h.ref,h.mov,h.cK,fun k d y v z H=>yM a.df (h.has k d y v z H),fun k d t c z H=>yM a.df (h.hd k d t c z H)⟩
 ·unfold pM;refine bz (P:=KA) (fun _=>h) (fun g=>bz (P:=KA) (fun _=>h) (fun m=>?_));have w:KA (s.aS (bT s.L (s.h i) x.path).2.2):=h.grow a u.1 u.2 (IL a.pool h.com _ _);refine bz (P:=KA) (fun _=>w) (fun Q=>?_);have d:=((IN (dir:=x.path) (id:=s.h i) a.pool rfl).2.2.2.2 (Decidable.not_not.1 Q)).2.1;exact KX.lead (a.aS u.1 u.2) b w.vY (Decidable.not_not.1 m) d (.inr fun c=>w.hd i b (fun f=>f) c)
end Go.Nest
end
section
namespace Go.Nest
open Go Go.AM
variable {L0:List Ob} {s t:FS} {n m:Nat}
theorem tD:∀(a b:List Fi),b8 a b=[]→a=b
 |[],[],_=>rfl
 |a::c,[],h=>by rw[b8]at h;cases h
 |[],b::d,h=>by rw[b8]at h;cases h
 |a::c,b::d,h=>by
  rw[b8]at h;split at h
  ·cases h
  split at h
  ·cases h
  split at h
  ·cases h
  ·rename_i e;rw[Decidable.not_not.1 e,tD c d h]
termination_by a b=>a.length+b.length
theorem ID{l:List Int}{x:Int}:x∈mN l↔x∈l:=by
 unfold mN fo;rw[qA,(List.mergeSort_perm _ _).mem_iff];simp
theorem KX.root(b:FI L0 s n)(h:KA s){r:Nat}(hr:r<4){x:Int}(hx:x∈dT s r):kindOf s.L x=3:=by
 have d:∀j,j<4→x∈j6 (s.w j) r→kindOf s.L x=3:=fun j i hx=>by
  unfold j6 at hx;obtain⟨f,b,rfl⟩:=List.mem_map.1 hx;have b:=(List.mem_filter.1 b).1;unfold eD at b;obtain⟨y,k,rfl⟩:=List.mem_map.1 b;obtain⟨c,a⟩:=List.mem_filter.1 k;exact h.cK j i y c a
 unfold dT at hx;rcases List.mem_append.1 hx with hx|hx
 ·unfold fV at hx;rcases List.mem_append.1 hx with hx|hx
  ·unfold iF fo at hx;rw[qA,(List.mergeSort_perm _ _).mem_iff]at hx;rcases hx with hx|hx
   ·cases hx
   obtain⟨v,e,hx⟩:=List.mem_flatMap.1 hx;unfold iE at hx;obtain⟨c,a⟩:=List.mem_filter.1 hx;have a:=of_decide_eq_true a;rw[List.mem_cons,List.mem_singleton]at c;rcases c with rfl|rfl
   ·exact(h.mov r hr v e).1 a
   ·exact(h.mov r hr v e).2 a
  ·split at hx
   ·rename_i g;rw[List.mem_singleton]at hx;rw[hx];exact(b.work r hr).head.k3 g
   ·cases hx
 ·rcases List.mem_append.1 hx with hx|hx
  ·exact d 0 (by decide) hx
  rcases List.mem_append.1 hx with hx|hx
  ·exact d 1 (by decide) hx
  rcases List.mem_append.1 hx with hx|hx
  ·exact d 2 (by decide) hx
  ·exact d 3 (by decide) hx
theorem KX.read(a:FI L0 s n)(h:KA s)(d:ai t.L)(e:s.L<+:t.L)(ho:t.o=(ic s).o)(hb:t.b=s.b){r:Nat}(hr:r<4){x:Int}(b:x∈dT s r):ga t.L (aU t.dep) r x=ga s.L (aU s.dep) r x:=by
 have f:=h.root a hr b;rw[show t.dep=⟨gK s.L s.o s.b (dT s),s.b⟩by unfold FS.dep;rw[ho,hb];rfl,JI a.pool d e (by omega)];exact JJ a.pool (fun r k c=>yN a.pool a.df.ok r k c) hr b
theorem Hx(L:List Ob):(ax L (di [])).2.1=0∨(ax L (di [])).2.1=15:=by
 unfold ax;rw[if_neg (show¬bW (di [])≠0 by decide),if_neg (show¬dR L (di [])=false by unfold dR di;simp)];split
 ·exact .inl rfl
 split
 ·exact .inr rfl
 ·exact .inl rfl
theorem C3{L:List Ob}(v:ai L)(hc:dm L){l:List It}{h:Int}(z:gz L h)(a:lU L l h=([],0)){id:Int}(hk:kindOf L id=3):
  dG (aM L l []).2.2 l h id=0∨dG (aM L l []).2.2 l h id=15:=by
 obtain⟨d,r⟩:=kq (l:=l) (out:=[]) v;have f:=hc.mono r nu;unfold lU at a;split at a
 ·rename_i b;exact absurd (congrArg Prod.snd a) b
 rename_i b;have b:=Decidable.not_not.1 b;obtain⟨c,m,w⟩:=qF v b;rw[List.nil_append]at m;have u:=(w _ d (List.prefix_refl _)).1 [];rw[List.nil_append]at u;rw[m]at a;generalize (aM L l []).2.2=M at*;have i:=gu r hk;obtain⟨F,p⟩:=f id i
 have fin:fm M l h=0∨fm M l h=15→(dG M l h id=0∨dG M l h id=15):=fun o=>by
  have s:∀N,ai N→M<+:N→(bw N (aj M id).tree).2=0:=fun N y E=>by
   rw[(p.mono E).files y]
  unfold dG;rw[if_neg (fun k=>k i)];rcases o with e|e
  ·rw[e,if_neg (by simp)];exact .inl (s _ (iT d).1 (iT d).2)
  ·rw[e,if_pos (by decide)];exact .inr rfl
 refine fin ?_;have j:ba M l=cg M c:=by unfold ba;rw[u,if_neg (by simp)]
 split at a
 ·rename_i n;have q:c=[]:=(tD [] c (congrArg Prod.fst a)).symm;subst q
  have D:l=[]:=by
   have:=(tN b).1;rw[m]at this;simpa using this.symm
  subst D;unfold fm;rw[j];have hb:(cg M []).2.1=0∨(cg M []).2.1=15:=Hx M;split
  ·rename_i x;exact .inr (hb.resolve_left x)
  ·unfold n4;rw[if_pos n,if_pos (by rfl)];exact .inl rfl
 ·rename_i n;obtain⟨t,g⟩:=f h (gu r (z.k3 (by omega)));rw[g.files d,if_neg (by simp)]at a;have q:t=c:=tD t c (congrArg Prod.fst a);subst q;unfold fm;rw[j,g.build d,if_neg (by simp)];unfold n4;rw[if_neg n,if_pos (decide_eq_true rfl)];exact .inl rfl
end Go.Nest
end
section
namespace Go.Nest
open Go Go.AM
variable {L0:List Ob} {s t:FS} {n m:Nat}
def vO:bm:=⟨11,(0:Nat),0,[],[],[],[]⟩
def gC(r:Nat)(name:List UInt8):bm:=⟨5,(r:Nat),0,[],name,[],[]⟩
theorem nL{r:Nat}(hr:r<4):bg (r:Int)=true:=bQ.2 ⟨r,hr,rfl⟩
theorem DU(s:FS):cA s vO=ic s:=by
 unfold cA vO;rw[if_neg (by decide),if_neg (by rw[nL (by decide)];decide)];rfl
theorem xP(s:FS){r:Nat}(hr:r<4)(name:List UInt8):cA s (gC r name)=jL s r name∧e8 s (gC r name)=kZ s r name:=by
 unfold cA e8 gC;rw[if_neg (by simp),if_neg (by simp[nL hr]),if_neg (by simp),if_neg (by simp),if_neg (by simp),if_neg (by simp),if_pos rfl,if_neg (by simp),if_neg (by simp[nL hr]),if_neg (by simp),if_neg (by simp),if_neg (by simp),if_neg (by simp),if_pos rfl,Int.toNat_natCast];exact⟨rfl,rfl⟩
theorem Bo(s:FS){r:Nat}(hr:r<4):jB s (r:Nat)=s.db r (aM s.L (s.w r) []).2.2 (s.w r) (s.h r):=by
 unfold jB;rw[if_neg (by rw[nL hr];decide),Int.toNat_natCast]
structure dd(s t:FS)(r m:Nat):Prop where
 fi:FI [] t m
 ka:KA t
 pre:s.L<+:t.L
 o:t.o=(ic s).o
 b:t.b=s.b
 n:∀k,k<4→t.n k=s.n k
 w:∀k,r≤k→k<4→t.w k=s.w k
theorem dd.Jb(a:FI [] s n)(h:KA s):dd s (ic s) 0 (n+1):=
 ⟨DU s▸a.step vO,h.swp a,List.prefix_refl _,rfl,rfl,fun _ _=>rfl,fun _ _ _=>rfl⟩
theorem dd.up{r k:Nat}(h:dd s t r m)(hk:r≤k):dd s t k m:=⟨h.fi,h.ka,h.pre,h.o,h.b,h.n,fun j b a=>h.w j (by omega) a⟩
theorem dd.fit{r k:Nat}(h:dd s t r m)(hk:m≤k):dd s t r k:=⟨h.fi.up hk,h.ka,h.pre,h.o,h.b,h.n,h.w⟩
theorem dd.stat{r:Nat}(hr:r<4)(h:dd s t (r+1) m):dd s (jB t (r:Nat)) (r+1) m:=by
 obtain⟨a,b⟩:=kq (l:=t.w r) (out:=[]) h.fi.pool;rw[Bo t hr];refine⟨h.fi.db a b ((h.fi.work r hr).ext b),h.ka.kQ h.fi a b (h.ka.com.mono b nu) (fun y i g=>gu b (h.ka.cK r hr y i g)) (fun _ _ c=>(h.ka.hd r hr (fun f=>f) c).more h.fi.pool a b ((h.fi.work r hr).head.k3 c)),h.pre.trans b,h.o,h.b,h.n,fun k d e=>?_⟩;show ay t.w r (t.w r) k=s.w k;rw[ig (by omega)];exact h.w k d e
theorem dd.out{r:Nat}(hr:r<4)(h:dd s t (r+1) m)(name:List UInt8):dd s (cA t (gC r name)) (r+1) (m+1):=by
 suffices k:(cA t (gC r name)).o=(ic s).o∧(cA t (gC r name)).b=s.b∧(∀k,k<4→(cA t (gC r name)).n k=s.n k)∧∀k,r+1≤k→k<4→(cA t (gC r name)).w k=s.w k from
  ⟨h.fi.step _,h.ka.step h.fi _,h.pre.trans (h.fi.base.step (gC r name)).pre,k.1,k.2.1,k.2.2.1,k.2.2.2⟩
 rw[(xP t hr name).1];unfold jL;split
 ·exact⟨h.o,h.b,h.n,h.w⟩
 ·refine⟨h.o,h.b,h.n,fun k a c=>?_⟩;show ay t.w r _ k=s.w k;rw[ig (by omega)];exact h.w k a c
theorem dd.code{r k:Nat}(hr:r<4)(h:dd s t k m){y:Rf}(hy:y∈t.n r)(a:kO t (r:Nat)=([],0)):(e8 (jB t (r:Nat)) (gC r y.name)).code=0∨(e8 (jB t (r:Nat)) (gC r y.name)).code=15:=by
 rw[(xP _ hr y.name).2];have b:=(h.fi.refs r hr).inv;have f:bD (t.n r) y.name=y.id:=(o3 b.sort hy).2;have n:0≤y.id:=b.ids y hy;rw[Bo t hr]
 have i:aF (t.db r (aM t.L (t.w r) []).2.2 (t.w r) (t.h r)) (r:Nat) y.name=(y.id,0):=by
  unfold aF;rw[if_neg (by rw[nL hr];decide),Int.toNat_natCast];show(if bD (t.n r) y.name<0 then((0,9):Int×Int)else(bD (t.n r) y.name,0))=_;rw[f,if_neg (by omega)]
 unfold kZ;rw[i,if_neg (by simp)];unfold py
 have j:lU t.L (t.w r) (t.h r)=([],0):=by
  unfold kO at a;rw[if_neg (by rw[nL hr];decide),Int.toNat_natCast]at a;exact a
 have d:=C3 h.fi.pool h.ka.com (h.fi.work r hr).head j (h.ka.ref r hr y hy);have l:(t.db r (aM t.L (t.w r) []).2.2 (t.w r) (t.h r)).w r=t.w r:=fB;have g:(t.db r (aM t.L (t.w r) []).2.2 (t.w r) (t.h r)).h r=t.h r:=fB;rw[l,g]
 have e:∀id c:Int,(bP id c).code=c:=fun id c=>by
  unfold bP;split
  ·rfl
  ·rename_i e;exact(Decidable.not_not.1 e).symm
 rw[e];exact d
theorem dd.xQ{r:Nat}(h:dd s t r m)(hr:r<4):(t.w r).map dI=(s.w r).map dI:=by rw[h.w r (Nat.le_refl _) hr]
theorem dd.read{r k:Nat}(a:FI [] s n)(hk:KA s)(h:dd s t k m)(hr:r<4){x:Int}(b:x∈jy s r):ga t.L (aU t.dep) r x=ga s.L (aU s.dep) r x:=
 hk.read a h.fi.pool h.pre h.o h.b hr (ID.1 b)
end Go.Nest
end
