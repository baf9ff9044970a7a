/- part -/
import Derived.Test.YtpechfcbnoggfaaGreatDoorV22
import Derived.Test.YtpechfcbnoggfaaGreatDoorK13
import Derived.Test.YtpechfcbnoggfaaGreatDoorN7
import Derived.Test.YtpechfcbnoggfaaGreatDoorD23
import Derived.Test.YtpechfcbnoggfaaGreatDoorV12
import Derived.Test.YtpechfcbnoggfaaGreatDoorD10
set_option linter.unusedVariables false
set_option linter.unusedSimpArgs false
section
namespace Go.Nest
open Go Go.AM
variable {L0:List Ob}
structure K7(s t:FS):Prop where
 doc:∀k,k<4→(t.w k).map dZ=(s.w k).map dZ
 dN:∀k,k<4→fq (t.w k)=fq (s.w k)
 head:∀k,k<4→t.h k=s.h k
 n:∀k,k<4→t.n k=s.n k
 m:∀k,k<4→t.m k=s.m k
 o:∀k,k<4→t.o k=s.o k
theorem gP.names{l:List Rf}{m:List Mv}(h:gP l m):∀r∈l,bO r.name=0:=by
 induction h with
 |nil=>intro r hr;cases hr
 | @snoc l m n c id h b ih=>
  intro r hr;have a:=(nS b).1;unfold iU at hr;split at hr
  ·rcases pF.1 hr with rfl|hr
   ·exact a
   ·exact ih r hr
  split at hr
  ·rcases List.mem_append.1 hr with hr|hr
   ·exact ih r (List.mem_of_mem_take hr)
   ·exact ih r (List.mem_of_mem_drop hr)
  ·rcases List.mem_or_eq_of_mem_set hr with hr|rfl
   ·exact ih r hr
   ·exact a
theorem yw{l:List Rf}(j:fh l)(hi:∀r∈l,0≤r.id)(hn:∀r∈l,bO r.name=0)(hl:l.length≤8):∀i,i≤l.length→(ek (l.take i)).1=l.take i
 |0,_=>rfl
 |i+1,h=>by
  have a:i<l.length:=h;have ih:=yw j hi hn hl i (Nat.le_of_succ_le h);have d:=List.getElem_mem a
  have n:∀g∈l.take i,Op.bytesLess g.name l[i].name=true:=fun g b=>by
   obtain⟨k,o,e⟩:=List.mem_take_iff_getElem.1 b;subst e;exact List.pairwise_iff_getElem.1 j k i (by omega) a (by omega)
  have f:aY (l.take i) l[i].name=(l.take i).length:=vY (Nat.le_refl _) (fun g b=>n g (List.mem_of_mem_take b)) (fun h=>absurd h (Nat.lt_irrefl _))
  have c:dz (l.take i) l[i].name=false:=by
   unfold dz;rw[f,List.getElem?_eq_none (Nat.le_refl _)];rfl
  have b:=lh c;have hid:=hi _ d
  have m:dt (l.take i) l[i].name (-1) l[i].id=0:=by
   unfold dt;rw[if_neg (fun h=>h (hn _ d)),if_neg (by omega),if_neg (fun h=>h b.symm),if_neg (by rw[List.length_take];omega),if_neg (by omega)]
  rw[yv a];unfold kn;dsimp only;rw[ih];unfold az iU;rw[if_pos m,if_pos c];unfold kz;rw[show(⟨l[i].name,l[i].id⟩:Rf)=l[i]from rfl,f,List.take_length,List.drop_length,List.take_succ_eq_append_getElem a]
theorem ui{l:List Rf}{m:List Mv}(h:gP l m):(ek l).1=l:=by
 have:=yw h.inv.sort h.inv.ids h.names h.inv.len l.length (Nat.le_refl _);rwa[List.take_length]at this
theorem BU{l:List Rf}{m:List Mv}(h:gP l m){name:List UInt8}(hn:c8 l name=0){id:Int}(hid:0≤id):dt l name (a6 l name) id=0∨dt l name (a6 l name) id=17:=by
 unfold c8 at hn;rw[ui h]at hn;obtain⟨a,-,-,b,-⟩:=nS hn;unfold dt;rw[if_neg (fun h=>h a),if_neg (by omega),if_neg (fun h=>h rfl),if_neg (fun k=>b ⟨k.1,by decide,k.2.2⟩)];split
 ·exact .inr rfl
 ·exact .inl rfl
theorem ou{s:FS}{n r:Nat}(h:FI L0 s n)(hr:r<4){name:List UInt8}{id:Int}(hn:c8 (s.n r) name=0)(hk:kindOf s.L id≠0):fI s r name id=0:=by
 have hid:=bJ hk;unfold fI;rw[if_neg (fun k=>(BU (h.refs r hr) hn (by omega)).elim k.1 k.2)];unfold cI;rw[if_neg (by rw[bZ.2 ⟨r,hr,rfl⟩];decide),if_neg (by simpa using hk)]
theorem mW{L:List Ob}(d:ae L){l:List It}{h:Int}{text:List UInt8}{others:List Int}(hc:(aH L l h text others).2.1=0):kindOf (aH L l h text others).2.2 (aH L l h text others).1=3:=by
 unfold aH at hc⊢;split at hc
 ·rename_i b;exact absurd hc b
 rename_i b;rw[if_neg b];split at hc
 ·cases hc
 rename_i c;rw[if_neg c];split at hc
 ·rename_i a;exact absurd hc a
 rename_i a;rw[if_neg a];have:=(gG (Decidable.not_not.1 a)).2;rw[←cH,this];rfl
theorem iP{α β:Type}{P:α→β→Prop}{c:Prop}{i:Decidable c}{a b:α}{d b':β}(h1:c→P a d)(h2:¬c→P b b'):P (if c then a else b) (if c then d else b'):=by
 by_cases h:c
 ·rw[if_pos h,if_pos h];exact h1 h
 ·rw[if_neg h,if_neg h];exact h2 h
end Go.Nest
end
section
namespace Go.Nest
open Go Go.AM Go.Proofs
open Go.Proofs.YtpechfcbnoggfaaGreatDoor (tab tabOk)
set_option maxRecDepth 100000
def nq(fs:List Fi)(q:Nat):List Int:=(fs.filter fun f=>decide (f.ar=(q:Int))).map (·.id)
def ga(s:FS)(r:Nat)(fs:List Fi)(q:Nat):List Int:=gW s q++(((List.range r).flatMap fun j=>mh (s.w j) q)++nq fs q)
theorem Jf(s:FS)(q:Nat):ga s 0 [] q=gW s q:=by unfold ga nq;simp
theorem BF(s:FS)(q:Nat):ga s 4 [] q=iw s q:=by
 unfold ga nq iw;rw[show List.range 4=[0,1,2,3]from rfl];simp
theorem Jg(s:FS)(r q:Nat):ga s r (fq (s.w r)) q=ga s (r+1) [] q:=by
 unfold ga nq;rw[List.range_succ,List.flatMap_append];simp[mh]
theorem Jh(s:FS)(r q:Nat){fs:List Fi}{i:Nat}(h:i<fs.length):ga s r (fs.take (i+1)) q=ga s r (fs.take i) q++(if fs[i].ar=(q:Int)then[fs[i].id]else[]):=by
 unfold ga nq;rw[List.take_succ_eq_append_getElem h,List.filter_append,List.map_append,List.append_assoc,List.append_assoc];congr 3
 split
 ·rename_i e;simp[e]
 ·rename_i e;simp[e]
theorem Em{out:List Int}{x:Int}:(gS out x).length≤out.length+1:=by
 unfold gS;split
 ·omega
 ·simp
theorem yA:∀{l out:List Int},(l.foldl gS out).length≤out.length+l.length
 |[],out=>Nat.le_refl _
 |x::l,out=>by
  have a:=yA (l:=l) (out:=gS out x);have b:=Em (out:=out) (x:=x);rw[List.foldl_cons,List.length_cons];omega
theorem zH(m:List Mv):(jL m).length≤2*m.length:=by
 have b:=yA (l:=(m.flatMap jK).mergeSort fun x y=>decide (x≤y)) (out:=[]);have a:=uV (m:=m) (i:=m.length) (Nat.le_refl _);unfold kv at a;rw[List.take_length]at a;rw[List.length_mergeSort,List.length_nil]at b;unfold jL ja;omega
theorem As{fs:List Fi}{q:Nat}:(nq fs q).length≤fs.length:=by
 unfold nq;rw[List.length_map];exact List.length_filter_le _ _
theorem Au{l:List It}:(fq l).length≤l.length:=by
 unfold fq;rw[List.length_map];exact List.length_filter_le _ _
theorem I5{s:FS}(a:cU s){q:Nat}(hq:q<4):(gW s q).length≤1981:=by
 have b:=zH (s.m q);have c:=a.moves q hq;unfold gW;rw[List.length_append];split
 ·simp;omega
 ·simp;omega
theorem Bs{s:FS}(a:cU s)(q:Nat):∀r,r≤4→((List.range r).flatMap fun j=>mh (s.w j) q).length≤60*r
 |0,_=>by simp
 |r+1,h=>by
  have ih:=Bs a q r (by omega);rw[List.range_succ,List.flatMap_append,List.length_append];have b:(mh (s.w r) q).length≤60:=Nat.le_trans As (Nat.le_trans Au (a.items r (by omega)));simp only[List.flatMap_cons,List.flatMap_nil,List.append_nil];omega
theorem BG{s:FS}(a:cU s){r q:Nat}(hr:r≤4)(hq:q<4){fs:List Fi}(e:fs.length≤60):(ga s r fs q).length≤2300:=by
 have b:=I5 a hq;have c:=Bs a q r hr;have d:=As (fs:=fs) (q:=q);unfold ga;rw[List.length_append,List.length_append];omega
theorem I7{s:FS}(a:cU s){q:Nat}(hq:q<4):(iw s q).length≤2300:=by rw[←BF];exact BG a (Nat.le_refl _) hq (by simp)
def wq(r a:Nat):List Rn:=(List.range 6).map fun i=>bif Nat.beq i (2+r)then .same a else .same i
set_option maxHeartbeats 4000000 in
theorem I8(s:FS)(N:cU s)(hl:∀r,r<4→∀y∈s.w r,0≤y.ar∧y.ar<4):ai Tryz.prog 67 [.c (.bp (jI s))] [] (Rt (.st [.rw 0,.rw 1,.rw 2,.rw 3]) [.row 1 Int encI (iw s 0),.row 1 Int encI (iw s 1),.row 1 Int encI (iw s 2),.row 1 Int encI (iw s 3)]):=by
 have p1:=fun i (w:i<4)=>FX (s.n i) (s.m i) (by have:=N.moves i w;omega);have p2:=fun i=>og s.L (s.w i) (s.h i);have p3:=fun i (w:i<4)=>Hl s.L (s.w i) (s.h i) (N.items i w);have S:=fun i=>zH (s.m i);have g:∀q,gW s q=jL (s.m q)++(if 0≤s.h q then[s.h q]else[]):=fun _=>rfl;refine an (n:=75) (n0:=0) tabOk Tryz.call67 Tryz.func67 ?_;intro hb;(conv=>whnf);refine lp (Nat×(Nat→List Int)) (fun p=>⟨[(0,.c (.bp (jI s))),(2,.c (.ptr 0 0)),(3,.c (.ptr 1 0)),(9,.c (.int .i64 p.1))],[.box [.nil,.nil,.nil,.nil],.box [.rw 2,.rw 3,.rw 4,.rw 5],.row 1 Int encI (p.2 0),.row 1 Int encI (p.2 1),.row 1 Int encI (p.2 2),.row 1 Int encI (p.2 3)]⟩) (fun p=>(p.1≤4∧∀q,q<4→p.2 q=if q<p.1 then gW s q else[])∧True) (fun p=>4-p.1) (0,fun _=>[]) [] [.same 0,.same 1,.new,.new,.new,.new] ⟨⟨Nat.zero_le _,fun q _=>rfl⟩,trivial⟩ ?_ (fun⟨r,k⟩ d=>?_)
 ·repeat' first|exact trivial|exact rfl|refine And.intro ?_ ?_
 obtain⟨⟨E,d⟩,-⟩:=d;dsimp only at E d;(conv=>whnf);refine dec (fun j=>?_) (fun j=>?_)
 ·have a:r<4:=by have j:(r:Int)<4:=j;omega
  have x:k r=[]:=by rw[d r a,if_neg (Nat.lt_irrefl _)]
  have t:∀q,q<4→ax k r (gW s r) q=if q<r+1 then gW s q else[]:=fun q u=>by
   rw[fC];split
   ·rename_i e;rw[e,if_pos (Nat.lt_succ_self _)]
   ·rename_i e;rw[d q u];by_cases h:q<r
    ·rw[if_pos h,if_pos (by omega)]
    ·rw[if_neg h,if_neg (by omega)]
  have Z:(k r).length=0:=by rw[x];rfl
  have q1:=p1 r a;have q2:=p2 r;have ad:=S r;have al:=N.moves r a
  have K:0≤s.h r→∀q,q<4→ax k r ((k r++jL (s.m r))++[s.h r]) q=if q<r+1 then gW s q else[]:=fun m=>by
   rw[x,List.nil_append,←show gW s r=jL (s.m r)++[s.h r]by rw[g,if_pos m]];exact t
  have M:¬0≤s.h r→∀q,q<4→ax k r (k r++jL (s.m r)) q=if q<r+1 then gW s q else[]:=fun m=>by
   rw[x,List.nil_append,←show gW s r=jL (s.m r)by rw[g,if_neg m,List.append_nil]];exact t
  have g:r+1≤4:=a;have O:Qn r:=trivial
  rcases four a with rfl|rfl|rfl|rfl<;>(
   (conv=>whnf);refine⟨false,.grow,(.l [0,1,2,3,4,5,6,7,8,9,10,11,12,13,14]),by kernel_rfl,.inl ?_⟩;(conv=>whnf);refine⟨_,⟨rfl,a⟩,?_⟩;(conv=>whnf);refine⟨_,⟨rfl,a⟩,?_⟩;(conv=>whnf);refine cl [] [] (q1) ?_;(conv=>whnf);refine⟨_,_,rfl,rfl,(by simp only[List.length_append,List.length_cons,List.length_nil];omega),?_⟩;(conv=>whnf);refine⟨_,⟨rfl,a⟩,?_⟩;(conv=>whnf);refine⟨_,⟨rfl,a⟩,?_⟩;(conv=>whnf);refine cl [] [] (q2) ?_;(conv=>whnf);refine dec (fun m=>?_) (fun m=>?_)
   ·(conv=>whnf);refine⟨_,⟨rfl,a⟩,?_⟩;(conv=>whnf);refine⟨[s.h _],rfl,?_⟩;(conv=>whnf);refine⟨_,_,rfl,rfl,(by simp only[List.length_append,List.length_cons,List.length_nil];omega),?_⟩;(conv=>whnf);refine⟨_,⟨rfl,a⟩,?_⟩;repeat'((conv=>whnf);refine I6 ?_)
    refine qK O (_+1,_) [] (fun r=>wq r 9) ⟨⟨g,K m⟩,trivial⟩ (by simp only[];omega) ?_;repeat' first|exact trivial|exact rfl|refine And.intro ?_ ?_
   ·repeat'((conv=>whnf);refine I6 ?_)
    refine qK O (_+1,_) [] (fun r=>wq r 7) ⟨⟨g,M m⟩,trivial⟩ (by simp only[];omega) ?_;repeat' first|exact trivial|exact rfl|refine And.intro ?_ ?_)
 ·obtain rfl:r=4:=by have j:¬(r:Int)<4:=j;omega
  have T:∀q,q<4→k q=ga s 0 [] q:=fun q u=>by rw[d q u,if_pos u,Jf]
  have am:∀r q,ga s r [] q=ga s r [] q:=fun _ _=>rfl;(conv=>whnf);refine lp (Nat×(Nat→List Int)) (fun p=>⟨[(0,.c (.bp (jI s))),(2,.c (.ptr 0 0)),(3,.c (.ptr 1 0)),(45,.c (.int .i64 p.1))],[.box [.nil,.nil,.nil,.nil],.box [.rw 2,.rw 3,.rw 4,.rw 5],.row 1 Int encI (p.2 0),.row 1 Int encI (p.2 1),.row 1 Int encI (p.2 2),.row 1 Int encI (p.2 3)]⟩) (fun p=>(p.1≤4∧∀q,q<4→p.2 q=ga s p.1 [] q)∧True) (fun p=>4-p.1) (0,k) [] [.same 0,.same 1,.same 2,.same 3,.same 4,.same 5] ⟨⟨Nat.zero_le _,T⟩,trivial⟩ ?_ (fun⟨r,k⟩ d=>?_)
  ·repeat' first|exact trivial|exact rfl|refine And.intro ?_ ?_
  obtain⟨⟨E,d⟩,-⟩:=d;dsimp only at E d;(conv=>whnf);refine dec (fun j=>?_) (fun j=>?_)
  ·have a:r<4:=by have j:(r:Int)<4:=j;omega
   have g:r+1≤4:=a;have O:Qn r:=trivial;have U:=p3 r a;have R:(fq (s.w r)).length≤60:=Nat.le_trans Au (N.items r a)
   have H:∀f∈fq (s.w r),0≤f.ar∧f.ar<4:=fun f P=>by
    unfold fq at P;obtain⟨y,hy,rfl⟩:=List.mem_map.1 P;exact hl r a y (List.mem_filter.1 hy).1
   have z:=Jg s r;have F:=fun q i (h:i<(fq (s.w r)).length)=>Jh s r q h;have J:=fun q (u:q<4) b P=>BG N (Nat.le_of_lt a) u (fs:=b) P;generalize fq (s.w r)=b at U R H z F;generalize ga s=rt at d z F J
   rcases four a with rfl|rfl|rfl|rfl<;>(
    (conv=>whnf);refine⟨_,⟨rfl,a⟩,?_⟩;(conv=>whnf);refine cl [] [] (U) ?_;(conv=>whnf);refine oC O (Nat×(Nat→List Int)) (fun r p=>⟨[(0,.c (.bp (jI s))),(2,.c (.ptr 0 0)),(3,.c (.ptr 1 0)),(45,.c (.int .i64 r)),(55,.c (.rw 6)),(56,.c (.int .i64 b.length)),(57,.c (.int .i64 p.1))],[.box [.nil,.nil,.nil,.nil],.box [.rw 2,.rw 3,.rw 4,.rw 5],.row 1 Int encI (p.2 0),.row 1 Int encI (p.2 1),.row 1 Int encI (p.2 2),.row 1 Int encI (p.2 3),.row 4 Fi aA b]⟩) (fun r p=>(p.1≤b.length∧∀q,q<4→p.2 q=rt r (b.take p.1) q)∧True) (fun p=>60-p.1) (0,k) [] [.same 0,.same 1,.same 2,.same 3,.same 4,.same 5,.same 6] ⟨⟨Nat.zero_le _,d⟩,trivial⟩ ?_ (fun⟨i,k⟩ w=>?_)
    ·repeat' first|exact trivial|exact rfl|refine And.intro ?_ ?_
    obtain⟨⟨w,v⟩,-⟩:=w;dsimp only at w v;(conv=>whnf);refine dec (fun m=>?_) (fun m=>?_)
    ·have o:i<b.length:=by have m:(i:Int)<b.length:=m;omega
     obtain⟨ha,Y⟩:=H _ (List.getElem_mem o);obtain⟨p,Q⟩:∃p:Nat,b[i].ar=p:=⟨b[i].ar.toNat,by omega⟩;have D:p<4:=by omega
     have ac:(k p).length≤2300:=by rw[v p D];exact J p D _ (by rw[List.length_take];omega)
     have t:∀q,q<4→ax k p (k p++[b[i].id]) q=rt _ (b.take (i+1)) q:=fun q u=>by
      rw[F q i o,Q,fC,←v q u];split
      ·rename_i e;rw[e,if_pos rfl]
      ·rename_i e;rw[if_neg (by omega),List.append_nil]
     have I:b[i]? =some b[i]:=List.getElem?_eq_getElem o;generalize b[i]=f at Q t I;have W:Qn p:=trivial;(conv=>whnf);refine⟨i,⟨rfl,o⟩,?_⟩;(conv=>whnf);refine⟨f,I,?_⟩
     rcases four D with rfl|rfl|rfl|rfl<;>(
      (conv=>whnf);refine⟨false,.fe [1,7],(.l [0,1,2,3,4,5,6,7,8,9,10,11]),by kernel_rfl,.inl ?_⟩;(conv=>whnf);refine⟨_,⟨Q,by decide⟩,?_⟩;(conv=>whnf);refine⟨[f.id],rfl,?_⟩;(conv=>whnf);refine⟨_,_,rfl,rfl,(by simp only[List.length_append,List.length_cons,List.length_nil];omega),?_⟩;(conv=>whnf);refine⟨_,⟨Q,by decide⟩,?_⟩;repeat'((conv=>whnf);refine I6 ?_)
      refine qK W (i+1,_) [] (fun p=>wq p 9++[.same 6]) ⟨⟨o,t⟩,trivial⟩ (by simp only[];omega) ?_;repeat' first|exact trivial|exact rfl|refine And.intro ?_ ?_)
    ·repeat'((conv=>whnf);refine I6 ?_)
     refine ag (_+1,k) [] [.same 0,.same 1,.same 2,.same 3,.same 4,.same 5] ⟨⟨g,fun q u=>?_⟩,trivial⟩ (by simp only[];omega) ?_
     ·exact(v q u).trans (by rw[List.take_of_length_le (by omega)];exact z q)
     repeat' first|exact trivial|exact rfl|refine And.intro ?_ ?_)
  ·obtain rfl:r=4:=by have j:¬(r:Int)<4:=j;omega
   have e:=fun q=>BF s q;rw[←e 0,←e 1,←e 2,←e 3,←d 0 (by decide),←d 1 (by decide),←d 2 (by decide),←d 3 (by decide)];(conv=>whnf);exact rx [] [.same 2,.same 3,.same 4,.same 5]
set_option maxHeartbeats 4000000 in
theorem EK(s:FS)(a:cU s)(hl:∀r,r<4→∀y∈s.w r,0≤y.ar∧y.ar<4){i:Nat}(hi:i<4)(q:Int)(p n t b:List UInt8):ai Tryz.prog 22 [.c (.ptr 0 0),.st (aI ⟨11,(i:Nat),q,p,n,t,b⟩)] (aQ s) (Rt (.st (bM ⟨0,0,[]⟩)) (aX (qt s))):=by
 have e:=fU i;rw[bZ.2 ⟨i,hi,rfl⟩]at e;have f:=I8 s a hl;have d:=Ic (s:=s) (Ka s.L a.pool s.o s.b (iw s) a.dW a.own (fun r g=>by have:=I7 a g;omega)) DL;have d:ai Tryz.prog _ _ (aQ s) (Rt (.aL []) (aX (qt s))):=d;generalize iw s=k at f d;generalize qt s=h at d⊢;refine an (n:=111) (n0:=32) tabOk Tryz.call22 Tryz.func22 ?_;intro hb;(conv=>whnf);refine cl [] [] (e) ?_;(conv=>whnf);refine⟨false,.grow,(.l [0,1,2,3,4,5,6]),by kernel_rfl,.inl ?_⟩;(conv=>whnf);refine cl [] [] (f) ?_;(conv=>whnf);refine bc (mF 0) (bu 27 (d21++[.box (aI ⟨11,(i:Nat),q,p,n,t,b⟩),.box [.int .i64 0,.int .i64 0,.nil],.row 1 Int encI (k 0),.row 1 Int encI (k 1),.row 1 Int encI (k 2),.row 1 Int encI (k 3)]) h) d ?_;(conv=>whnf);exact bd (rF 27)
end Go.Nest
end
section
namespace Go.Nest
open Go Go.AM Go.Proofs
open Go.Proofs.YtpechfcbnoggfaaGreatDoor (tab tabOk)
variable {L0:List Ob}
set_option maxRecDepth 100000
def gk(s:FS)(x:bL)(e:cT)(t:FS):Prop:=ai Tryz.prog 22 [.c (.ptr 0 0),.st (aI x)] (aQ s) (Rt (.st (bM e)) (aX t))
theorem HG{s:FS}{n:Nat}(h:FI L0 s n)(hn:n≤900){i:Nat}(hi:i<4)(x:bL)(g:x.r=i)(base id:Int):ai Tryz.prog 130 [.c (.ptr 0 0),.st (aI x),.c (.int .i64 base),.c (.int .i64 id)] (aQ s) (Rt (.st (bM (jm s i base id))) (aX (fW s i base id))):=by
 have a:=h.nN i base id
 have d:∀l∈[(aJ s.L base).1,(aJ s.L (s.h i)).1,(aJ s.L id).1],∀f∈l,f.path.length≤4000000:=fun l b=>by
  rw[List.mem_cons,List.mem_cons,List.mem_singleton]at b;rcases b with e|e|e<;>(rw[e];exact Ff h.pool _)
 exact HF s (h.wf (by omega)) hi x g base id h.pool.len d a.pool (Dm d) ((a.bX hi _).wf (by omega)) (((a.bX hi _).bV hi _ _).wf (by omega))
theorem mX{s:FS}{n:Nat}(h:FI L0 s n)(hn:n≤900)(x:bL)(l:x.path.length≤4000000):gk s x (fG s x) (cw s x):=by
 have f:=h.wf (by omega);unfold fG cw;refine iP (P:=gk s x) (fun j=>EE s x j) (fun j=>iP (P:=gk s x) (fun g=>EH s x j g) (fun g=>?_));obtain⟨i,c,e⟩:=(bZ (r:=x.r)).1 (by cases q:bw x.r;exact absurd q g;rfl);obtain⟨k,r,q,p,d,t,b⟩:=x;dsimp only at*;subst e;refine iP (P:=gk s _) (fun e=>?_) (fun _=>iP (P:=gk s _) (fun e=>?_) (fun _=>iP (P:=gk s _) (fun e=>?_) (fun _=>iP (P:=gk s _) (fun e=>?_) (fun _=>iP (P:=gk s _) (fun e=>?_) (fun _=>iP (P:=gk s _) (fun e=>?_) (fun _=>iP (P:=gk s _) (fun e=>?_) (fun _=>iP (P:=gk s _) (fun e=>?_) (fun _=>iP (P:=gk s _) (fun e=>?_) (fun _=>iP (P:=gk s _) (fun e=>?_) (fun _=>iP (P:=gk s _) (fun e=>?_) (fun _=>?_)))))))))))
 ·subst e;exact EL s f c rfl q p d t b l
 ·subst e;exact EI s f c rfl q p d t b
 ·subst e;exact EF s c q p d t b _ _ (Hh s f c ⟨3,i,q,p,d,t,b⟩ rfl l)
 ·subst e;exact EB s c q p d t b _ _ (DY s f c ⟨4,i,q,p,d,t,b⟩ rfl ((h.bV c _ _).wf (by omega)))
 ·subst e;exact EA s c q p d t b _ _ (DJ s f c ⟨5,i,q,p,d,t,b⟩ rfl)
 ·subst e;exact EG s c q p d t b _ _ (Hx s f c ⟨6,i,q,p,d,t,b⟩ rfl (h.cP.wf (by omega)) (HG h.cP hn c _ rfl _ _))
 ·subst e;exact Ez s c q p d t b _ _ (Dv s f c ⟨7,i,q,p,d,t,b⟩ rfl)
 ·subst e;exact EC s c q p d t b _ _ (EP s f c ⟨8,i,q,p,d,t,b⟩ rfl)
 ·subst e;exact ED s c q p d t b _ _ (Fc s f c ⟨9,i,q,p,d,t,b⟩ rfl ((h.bN (nW h _ _ _)).wf (by omega)))
 ·subst e;exact Ey s f c q p d t b
 ·subst e;exact EJ s c q p d t b _ _ (JO s f c ⟨12,i,q,p,d,t,b⟩ rfl l (((nw h.pool (s.h i) p).1|>fun a=>h.az a (nw h.pool (s.h i) p).2).wf (by omega)))
 ·obtain rfl:k=11:=by omega
  exact EK s f (fun r g=>(h.work r g).dN) c q p d t b
end Go.Nest
end
section
namespace Go.Nest
open Go Go.AM
set_option maxRecDepth 100000
theorem Aj{b:Nat→List Int}{x:Int}:∀(n:Nat) {out:List Int} {i:Nat},x∈out→x∈mf b n out i
 |0,out,i,h=>h
 |n+1,out,i,h=>by
  unfold mf;split
  ·exact Aj n (mP.2 (.inl h))
  ·exact h
theorem G8{b:Nat→List Int}{r:Int}:r∈cR b r:=Aj 5 (by simp)
theorem Il{o b:Nat→List Bool}(h:∀k,k<4→∀j:Nat,(o k)[j]? =some true→(b k)[j]? =some true)(q z:Int)(hq:gV o q z=true):gV b q z=true:=by
 have c:bw q=true:=by unfold gV at hq;rw[Bool.and_eq_true]at hq;exact hq.1
 obtain⟨k,a,rfl⟩:=bZ.1 c;rw[ss a]at hq⊢;exact⟨hq.1,h k a _ hq.2⟩
theorem l7{o c:Nat→List Bool}{b:Nat→List Int}(h:∀k,k<4→∀j:Nat,(o k)[j]? =some true→(c k)[j]? =some true){r id:Int}(a:cZ ⟨o,b⟩ r id=true):cZ ⟨c,b⟩ r id=true:=by
 unfold cZ at a⊢;rw[Bool.and_eq_true,List.any_eq_true]at a⊢;obtain⟨d,q,e,f⟩:=a;exact⟨d,q,e,Il h q id f⟩
theorem Kv{o:Nat→List Bool}{r:Nat}{x y:List Bool}(h:∀j:Nat,x[j]? =some true→y[j]? =some true):∀k,k<4→∀j:Nat,(ax o r x k)[j]? =some true→(ax o r y k)[j]? =some true:=fun k _ j=>by
 rw[fC,fC];split
 ·exact h j
 ·exact id
theorem vH{o:Nat→List Bool}{b:Nat→List Int}{r:Nat}(hr:r<4):∀{l:List Int} {x:List Bool},(∀id∈l,0≤id∧id.toNat<x.length)→
  (∀j:Nat,x[j]? =some true→(l.foldl (dj o b r) x)[j]? =some true)∧∀id∈l,cZ ⟨ax o r (l.foldl (dj o b r) x),b⟩ r id=true
 |[],x,_=>⟨fun _ h=>h,fun id h=>(by cases h)⟩
 |z::l,x,h=>by
  have g:=h z (by simp);have c:(dj o b r x z).length=x.length:=nr (l:=[z]);obtain⟨i,k⟩:=vH hr (l:=l) (x:=dj o b r x z) (o:=o) (b:=b) (fun id hid=>by rw[c];exact h id (by simp[hid]))
  have f:∀j:Nat,x[j]? =some true→(dj o b r x z)[j]? =some true:=fun j d=>by
   unfold dj;split
   ·exact d
   ·rw[List.getElem?_set];split
    ·rename_i e;rw[if_pos (by omega)]
    ·exact d
  have a:cZ ⟨ax o r (dj o b r x z),b⟩ r z=true:=by
   unfold dj;split
   ·assumption
   ·unfold cZ;rw[Bool.and_eq_true,List.any_eq_true];refine⟨bZ.2 ⟨r,hr,rfl⟩,r,G8,?_⟩;show gV (ax o r (x.set z.toNat true)) r z=true;rw[ss hr,ee,List.getElem?_set,if_pos rfl,if_pos g.2];exact⟨g.1,rfl⟩
  rw[List.foldl_cons];refine⟨fun j d=>i j (f j d),fun id hid=>?_⟩;rcases List.mem_cons.1 hid with rfl|hid
  ·exact l7 (Kv i) a
  ·exact k id hid
theorem nI{L:List Ob}{o:Nat→List Bool}{b:Nat→List Int}{r:Nat}(hr:r<4)(ids:List Int):∀k,k<4→∀j:Nat,(o k)[j]? =some true→(dE L o b r ids k)[j]? =some true:=fun k f j a=>by
 unfold dE;split
 ·exact a
 ·rw[fC];split
  ·rename_i e;have e:k=r:=e;refine(vH hr (l:=aZ L ids) (x:=fc (o r) L.length) (fun id hid=>?_)).1 j ?_
   ·have c:=oM hid;have d:=A5 (l:=o r) (n:=L.length);exact⟨c.1,by omega⟩
   ·unfold fc;rw[←e,List.getElem?_append_left (List.getElem?_eq_some_iff.1 a).1];exact a
  ·exact a
theorem qJ{L:List Ob}{o:Nat→List Bool}{b:Nat→List Int}{r:Nat}(hr:r<4){ids:List Int}(hc:cI L r ids=0){k:Int}(hk:k∈aZ L ids):cZ ⟨dE L o b r ids,b⟩ r k=true:=by
 unfold dE;rw[if_neg (fun h=>h hc)]
 exact (vH hr (l := aZ L ids) (x := fc (o r) L.length) (fun id hid=>by
  have a:=oM hid;have c:=A5 (l:=o r) (n:=L.length);exact⟨a.1,by omega⟩)).2 k hk
theorem Hp{L:List Ob}(a:ae L){o:Nat→List Bool}{b:Nat→List Int}{q id:Int}(hk:kindOf L id≠0)(h:∀k∈aZ L [id],cZ ⟨o,b⟩ q k=true):kF L ⟨o,b⟩ q id=false:=by
 unfold kF;rw[Bool.or_eq_false_iff,List.any_eq_false,decide_eq_false_iff_not,IN a];exact⟨fun k hk=>by rw[h k hk];decide,hk⟩
def fm:List It:=[⟨[97],[120],false,0,0⟩]
def gD:List UInt8:=[111,110,101]
def gL:List Ob:=(aH [] fm (-1) gD []).2.2
theorem FB:ae gL:=(kY (L:=[]) (l:=fm) (h:= -1) (text:=gD) (others:=[]) .nil).1
def uR:Nat→List Bool:=fun _=>[]
def ij:Nat→List Int:=fun _=>[]
noncomputable def go2:Nat→List Bool:=dE gL uR ij 0 [2]
noncomputable def zw:Nat→List Bool:=dE gL (dE gL go2 ij 1 [2]) ij 1 [2]
def oa:bL:=⟨1,0,0,[97],[],[],[120]⟩
def oc:bL:=⟨4,0,0,[],[109],gD,[]⟩
def oe:bL:=⟨9,1,0,[],[109],[],[]⟩
def iL:bL:=⟨5,1,0,[],[109],[],[]⟩
def fH:FS:=⟨[],uR,ij,fun _=>[],fun _=>[],ax (fun _=>[]) 0 fm,ax (fun _=> -1) 0 (-1)⟩
noncomputable def pC:FS:=⟨gL,uR,ij,fun _=>[],fun _=>[],ax (ax (fun _=>[]) 0 fm) 0 fm,ax (ax (fun _=> -1) 0 (-1)) 0 2⟩
noncomputable def eZ:FS:=⟨gL,go2,ij,ax (fun _=>[]) 0 [⟨[109],2⟩],ax (fun _=>[]) 0 [⟨[109],-1,2⟩],ax (ax (fun _=>[]) 0 fm) 0 fm,ax (ax (fun _=> -1) 0 (-1)) 0 2⟩
theorem zm:fN [] [97] [120]=(0,fm):=by decide+kernel
theorem uO:fG eb oa=⟨0,0,[]⟩∧cw eb oa=fH:=by
 have e:fG eb oa=qz eb 0 [97] [120]∧cw eb oa=qA eb 0 [97] [120]:=⟨rfl,rfl⟩;rw[e.1,e.2];refine⟨?_,?_⟩
 ·show b9 0 (fN [] [97] [120]).1=_;rw[zm];rfl
 ·show eb.c9 0 [] (fN [] [97] [120]).2 (-1)=_;rw[zm];rfl
theorem rn:(aH [] fm (-1) gD []).2.1=0∧(aH [] fm (-1) gD []).1=2∧jh [] fm (-1) gD []=2:=by decide+kernel
theorem rq:c8 [] [109]=0:=by decide+kernel
theorem FD:bV fH 0 gD []=pC:=by
 show fH.c9 0 (aH [] fm (-1) gD []).2.2 fm (jh [] fm (-1) gD [])=_;rw[rn.2.2];rfl
theorem rp:cI gL 0 [2]=0∧cI gL 1 [2]=0:=by decide+kernel
theorem zp:dt [] [109] (a6 [] [109]) 2=0:=by decide+kernel
theorem n4:az [] [109] (-1) 2=[⟨[109],2⟩]∧fA [] [] [109] (-1) 2=[⟨[109],-1,2⟩]∧a6 [] [109]= -1:=by decide+kernel
theorem uP:fG fH oc=⟨0,2,[]⟩∧cw fH oc=eZ:=by
 have e:fG fH oc=nT fH 0 [109] gD∧cw fH oc=kh fH 0 [109] gD:=⟨rfl,rfl⟩;rw[e.1,e.2];unfold nT kh;rw[if_neg (show¬c8 (fH.n 0) [109]≠0 from fun h=>h rq),if_neg (show¬c8 (fH.n 0) [109]≠0 from fun h=>h rq),if_neg (show¬(aH fH.L (fH.w 0) (fH.h 0) gD []).2.1≠0 from fun h=>h rn.1),if_neg (show¬(aH fH.L (fH.w 0) (fH.h 0) gD []).2.1≠0 from fun h=>h rn.1),FD];show b9 (aH [] fm (-1) gD []).1 (fI pC 0 [109] (aH [] fm (-1) gD []).1)=_∧dA pC 0 [109] (aH [] fm (-1) gD []).1=_;have a:fy pC 0 [109] 2=0:=zp;rw[rn.2.1];unfold fI dA;rw[if_neg (by rw[a];decide),if_neg (by rw[a];decide)];refine⟨?_,?_⟩
 ·show b9 2 (cI gL 0 [2])=_;rw[rp.1];rfl
 ·show(pC.gH 0 (az [] [109] (a6 [] [109]) 2) (fA [] [] [109] (a6 [] [109]) 2)).bN go2=_;rw[n4.2.2,n4.1,n4.2.1];rfl
theorem zq:kF gL ⟨go2,ij⟩ 0 2=false:=Hp FB (by decide+kernel) fun k a=>qJ (r:=0) (by decide) rp.1 a
noncomputable def fV:FS:=(eZ.gH 1 [⟨[109],2⟩] [⟨[109],-1,2⟩]).bN zw
theorem zo:a6 [⟨[109],2⟩] [109]=2:=by decide+kernel
theorem uQ:fG eZ oe=⟨0,2,[]⟩∧cw eZ oe=fV:=by
 have e:fG eZ oe=nX eZ 1 0 [109]∧cw eZ oe=kr eZ 1 0 [109]:=⟨rfl,rfl⟩;rw[e.1,e.2]
 have f:aw eZ 0 [109]=(2,0):=by
  unfold aw;show(if bw 0=false then _ else if a6 [⟨[109],2⟩] [109]<0 then _ else(a6 [⟨[109],2⟩] [109],0))=_;rw[zo];rfl
 have b:eH gL ⟨go2,ij⟩ 1 0 2=0:=by
  unfold eH;rw[if_neg (by decide),if_neg (by rw[zq];decide)];exact rp.2
 have a:cJ gL go2 ij 1 0 2=dE gL go2 ij 1 [2]:=by
  unfold cJ;rw[if_neg (by decide),if_neg (by rw[zq];decide)]
 unfold nX kr;rw[f];dsimp only;rw[if_neg (show¬(0:Int)≠0 by decide),if_neg (show¬(0:Int)≠0 by decide),if_neg (show¬c8 (eZ.n 1) [109]≠0 from fun h=>h rq),if_neg (show¬c8 (eZ.n 1) [109]≠0 from fun h=>h rq),if_neg (show¬eH eZ.L eZ.dep ((1:Nat):Int) 0 2≠0 from fun h=>h b),if_neg (show¬eH eZ.L eZ.dep ((1:Nat):Int) 0 2≠0 from fun h=>h b)];show b9 2 (fI (eZ.bN (cJ gL go2 ij 1 0 2)) 1 [109] 2)=_∧dA (eZ.bN (cJ gL go2 ij 1 0 2)) 1 [109] 2=_;rw[a];generalize d:eZ.bN (dE gL go2 ij 1 [2])=u;have c:fy u 1 [109] 2=0:=by rw[←d];exact zp
 unfold fI dA;rw[if_neg (by rw[c];decide),if_neg (by rw[c];decide)];subst d;refine⟨?_,?_⟩
 ·show b9 2 (cI gL 1 [2])=_;rw[rp.2];rfl
 ·show((eZ.bN (dE gL go2 ij 1 [2])).gH 1 (az [] [109] (a6 [] [109]) 2) (fA [] [] [109] (a6 [] [109]) 2)).bN zw=_;rw[n4.2.2,n4.1,n4.2.1];rfl
theorem uN:dG gL [] (-1) 2=0∧iH gL [] (-1) 2=fm∧ig gL [] (-1) 2=2:=by decide+kernel
theorem FF:fG fV iL=⟨0,2,[]⟩∧(cw fV iL).h 1=2∧(cw fV iL).w 1=fm∧(cw fV iL).n 1=[⟨[109],2⟩]:=by
 have e:fG fV iL=mU fV 1 [109]∧cw fV iL=jA fV 1 [109]:=⟨rfl,rfl⟩;rw[e.1,e.2]
 have a:aw fV 1 [109]=(2,0):=by
  unfold aw;show(if bw 1=false then _ else if a6 [⟨[109],2⟩] [109]<0 then _ else(a6 [⟨[109],2⟩] [109],0))=_;rw[zo];rfl
 unfold mU jA;rw[show aw fV ((1:Nat):Int) [109]=(2,0)from a];dsimp only;rw[if_neg (by decide),if_neg (by decide)];refine⟨?_,uN.2.2,uN.2.1,rfl⟩;show b9 2 (dG gL [] (-1) 2)=_;rw[uN.1];rfl
end Go.Nest
end
section
namespace Go.Nest
open Go Go.AM Go.Proofs
open Go.Proofs.YtpechfcbnoggfaaGreatDoor (tab tabOk)
set_option maxRecDepth 100000
def kQ(x:bL):Nat:=x.path.length+x.bytes.length+x.text.length+x.name.length
def gf(l:List bL):Nat:=(l.map kQ).sum
theorem J8{l:List bL}{i:Nat}(h:i<l.length):gf (l.take (i+1))=gf (l.take i)+kQ l[i]:=by
 unfold gf;rw[List.take_succ_eq_append_getElem h,List.map_append,List.sum_append];simp
theorem B7{n:Nat}:∀{l:List bL},(∀x∈l,kQ x≤n)→gf l≤l.length*n
 |[],_=>by simp[gf]
 |x::l,h=>by
  have b:=h x (by simp);have c:=B7 (l:=l) fun y a=>h y (by simp[a]);rw[show gf (x::l)=kQ x+gf l by simp[gf],List.length_cons,Nat.add_mul];omega
theorem B8{x:bL}:∀{l:List bL},x∈l→kQ x≤gf l
 |y::l,h=>by
  rw[show gf (y::l)=kQ y+gf l by simp[gf]];rcases List.mem_cons.1 h with rfl|h
  ·omega
  ·have:=B8 h;omega
def pB(l:List bL):Bool:=decide (80<l.length)||decide (8000<gf (l.take 200))
theorem FM{l:List bL}(h:pB l=false):l.length≤80∧∀x∈l,x.path.length≤4000000:=by
 unfold pB at h;rw[Bool.or_eq_false_iff,decide_eq_false_iff_not,decide_eq_false_iff_not]at h;refine⟨by omega,fun x a=>?_⟩;rw[List.take_of_length_le (by omega)]at h;have:=B8 a;unfold kQ at this;omega
def tl(l:List bL):Prop:=∀x∈l,x.path.length≤140737488351232∧x.bytes.length≤140737488351232∧x.text.length≤140737488351232∧x.name.length≤140737488351232
theorem J7{l:List bL}{i n m k:Nat}(h:∀x∈l,kQ x≤n)(hi:i≤m)(hk:m*n=k):gf (l.take i)≤k:=by
 have a:=B7 (l:=l.take i) (n:=n) fun x b=>h x (List.mem_of_mem_take b);rw[List.length_take]at a;have c:min i l.length*n≤m*n:=Nat.mul_le_mul_right _ (by omega);omega
theorem J6{l:List bL}{i:Nat}(hl:tl l)(hi:i≤200):gf (l.take i)≤112589990680985600:=
 J7 (n:=562949953404928) (m:=200) (fun x e=>by obtain⟨a,b,c,d⟩:=hl x e;unfold kQ;omega) hi (by decide)
theorem FN(l:List bL)(hl:tl l):ai Tryz.prog 20 [.c (.bs 7 bL aI l)] [] (Rt (.c (.bool (pB l))) []):=by
 refine an (n:=51) (n0:=0) tabOk Tryz.call20 Tryz.func20 ?_;intro hb;have hb:l.length≤9223372036854775807:=hb.1.1;(conv=>whnf);refine lp Nat (fun i=>⟨[(0,.c (.bs 7 bL aI l)),(3,.c (.int .i64 (gf (l.take i)))),(4,.c (.int .i64 i))],[]⟩) (fun i=>(i≤l.length∧i≤200)∧True) (fun i=>l.length-i) 0 [] [] ?_ ?_ (fun i r=>?_)
 ·simp
 ·repeat' first|exact trivial|exact rfl|refine And.intro ?_ ?_
 have k:gf (l.take i)≤112589990680985600:=J6 hl (by omega)
 have fin:¬(i<l.length∧i<200)→l.take 200=l.take i:=fun h=>by
  by_cases f:i=200
  ·rw[f]
  ·rw[List.take_of_length_le (by omega),List.take_of_length_le (by omega)]
 (conv=>whnf);refine dec (fun g=>?_) (fun g=>?_)
 ·(conv=>whnf);refine dec (fun j=>?_) (fun j=>?_)
  ·have b:i<l.length:=by omega
   have d:=J8 b;have a:l[i]? =some l[i]:=List.getElem?_eq_getElem b;obtain⟨m,o,p,q⟩:=hl _ (List.getElem_mem b);generalize l[i]=x at*;unfold kQ at d;(conv=>whnf);refine⟨false,.grow,(.l [0,1,2,3,4,5,6,7,8,9,10,11,12,13,14,15,16,17,18,19,20,21,22,23,24,25,26,27,28,29]),by kernel_rfl,.inl ?_⟩;(conv=>whnf);refine⟨i,x,rfl,a,?_⟩;(conv=>whnf);refine⟨i,x,rfl,a,?_⟩;(conv=>whnf);refine⟨i64 (by omega) (by omega),?_⟩;(conv=>whnf);refine⟨i,x,rfl,a,?_⟩;(conv=>whnf);refine⟨i64 (by omega) (by omega),?_⟩;(conv=>whnf);refine⟨i,x,rfl,a,?_⟩;repeat'((conv=>whnf);refine I6 ?_)
   refine ag (i+1) [] [] ⟨⟨b,by omega⟩,trivial⟩ (by simp only[];omega) ?_;rw[d];repeat' first|exact trivial|exact rfl|refine And.intro ?_ ?_
  ·unfold pB;rw[fin (by omega)];(conv=>whnf);refine dec (fun e=>?_) (fun e=>?_)
   ·(conv=>whnf);exact aG (by rw[show decide (80<l.length)=true from decide_eq_true (by omega)];rfl)
   ·(conv=>whnf);exact aG (by rw[show decide (80<l.length)=false from decide_eq_false (by omega),Bool.false_or,decide_eq_decide];omega)
 ·unfold pB;rw[fin (by omega)];(conv=>whnf);refine dec (fun e=>?_) (fun e=>?_)
  ·(conv=>whnf);exact aG (by rw[show decide (80<l.length)=true from decide_eq_true (by omega)];rfl)
  ·(conv=>whnf);exact aG (by rw[show decide (80<l.length)=false from decide_eq_false (by omega),Bool.false_or,decide_eq_decide];omega)
end Go.Nest
end
section
namespace Go.Nest
open Go Go.AM Go.Proofs
open Go.Proofs.YtpechfcbnoggfaaGreatDoor (tab tabOk)
set_option maxRecDepth 100000
def rK(k:Nat):List Rn:=[.same 0,.same 1,.same 2,.same 3,.same 4,.same 5,.same 6,.same 7,.same 8,.same 9,.same 10,.same (k+11),.same (k+12),.same (k+13),.same (k+14),.same (k+15),.same (k+16),.same (k+17),.same (k+18),.same (k+19),.same (k+20),.same (k+21),.same (k+22),.same (k+23),.same (k+24),.same (k+25),.same (k+26),.same (k+27),.same (k+28),.same (k+29),.same (k+30),.same (k+31)]
set_option maxHeartbeats 4000000 in
theorem Fz:ai Tryz.prog 19 [] [] (Rt (.c (.bool true)) []):=by
 have f:=FI.step FI.nil oa;rw[uO.2]at f;have g:=FI.step f oc;rw[uP.2]at g;have h:=FI.step g oe;rw[uQ.2]at h;have y:=FI.step h iL;have j:=mX FI.nil (by decide) oa (by decide);have b:=mX f (by decide) oc (by decide);have d:=mX g (by decide) oe (by decide);have e:=mX h (by decide) iL (by decide);rw[uO.1,uO.2]at j;rw[uP.1,uP.2]at b;rw[uQ.1,uQ.2]at d;obtain⟨s,u,v,x⟩:=FF;rw[s]at e;have i:=y.wf (by decide);have k:=FU _ i 1;have m:=uq _ i 1;have o:=wk _ i 1;have p:uT (cw fV iL) 1=2:=u
 have q:rf (cw fV iL) 1=[⟨[97],[120]⟩]:=by
  show((cw fV iL).w 1).map dZ=_;rw[v];rfl
 have r:sI (cw fV iL) 1=[⟨[109],2⟩]:=x;rw[p]at k;rw[q]at m;rw[r]at o;generalize cw fV iL=a at e k m o;generalize fV=E at d e;generalize eZ=D at b d;generalize fH=z at j b;refine lQ (n:=64) (n0:=0) tabOk Tryz.call19 Tryz.func19 ?_;intro hb;refine XM.seq ?_;(conv=>whnf);refine XM.seq ?_;(conv=>whnf);refine bc [] (aQ eb) uK ?_;(conv=>whnf);refine XM.seq ?_;(conv=>whnf);refine XM.seq ?_;(conv=>whnf);refine⟨[120],rfl,?_⟩;(conv=>whnf);refine x7 [32] (mF 0) (bu 22 (d21++[.aV 1 UInt8 bD [120]]) z) j ?_;(conv=>whnf);refine XM.seq ?_;(conv=>whnf);refine bc (mF 22) (bu 44 (d21++[.aV 1 UInt8 bD [120]]++d21++[.box [.int .i64 0,.int .i64 0,.ls 1 (List UInt8) encS []]]) D) b ?_;(conv=>whnf);refine XM.seq ?_;(conv=>whnf);refine bc (mF 44) (bu 66 (d21++[.aV 1 UInt8 bD [120]]++d21++[.box [.int .i64 0,.int .i64 0,.ls 1 (List UInt8) encS []]]++d21++[.box [.int .i64 0,.int .i64 2,.ls 1 (List UInt8) encS []]]) E) d ?_;(conv=>whnf);refine XM.seq ?_;(conv=>whnf);refine bc (mF 66) (bu 88 (d21++[.aV 1 UInt8 bD [120]]++d21++[.box [.int .i64 0,.int .i64 0,.ls 1 (List UInt8) encS []]]++d21++[.box [.int .i64 0,.int .i64 2,.ls 1 (List UInt8) encS []]]++d21++[.box [.int .i64 0,.int .i64 2,.ls 1 (List UInt8) encS []]]) a) e ?_;(conv=>whnf);refine XM.le (t:=⟨[(1,.c (.ptr 0 0)),(2,.c (.ptr 32 0)),(3,.c (.ptr 33 0)),(4,.c (.ptr 34 0)),(5,.c (.ptr 35 0))],aQ a++[.box [.int .i64 0,.int .i64 0,.ls 1 (List UInt8) encS []],.box [.int .i64 0,.int .i64 2,.ls 1 (List UInt8) encS []],.box [.int .i64 0,.int .i64 2,.ls 1 (List UInt8) encS []],.box [.int .i64 0,.int .i64 2,.ls 1 (List UInt8) encS []]]⟩) [] (rK 88++[.same 54,.same 76,.same 98,.same 120]) ik ?_;refine XM.of ?_;(conv=>whnf);refine⟨false,.grow,(.l [0,1,2,3,4,5,6,7,8,9,10,11,12,13,14,15,16,17,18,19,20,21,22,23,25,26,24,27,28,29,30,31,32,33,34,35,36,37,38,39,40,41]),by kernel_rfl,.inl ?_⟩;(conv=>whnf);refine bc [] (aQ a++[.box [.int .i64 0,.int .i64 0,.ls 1 (List UInt8) encS []],.box [.int .i64 0,.int .i64 2,.ls 1 (List UInt8) encS []],.box [.int .i64 0,.int .i64 2,.ls 1 (List UInt8) encS []],.box [.int .i64 0,.int .i64 2,.ls 1 (List UInt8) encS []]]) k ?_;(conv=>whnf);refine bc [] (aQ a++[.box [.int .i64 0,.int .i64 0,.ls 1 (List UInt8) encS []],.box [.int .i64 0,.int .i64 2,.ls 1 (List UInt8) encS []],.box [.int .i64 0,.int .i64 2,.ls 1 (List UInt8) encS []],.box [.int .i64 0,.int .i64 2,.ls 1 (List UInt8) encS []],.row 2 Dc eY [⟨[97],[120]⟩]]) m ?_;(conv=>whnf);refine bc [] (aQ a++[.box [.int .i64 0,.int .i64 0,.ls 1 (List UInt8) encS []],.box [.int .i64 0,.int .i64 2,.ls 1 (List UInt8) encS []],.box [.int .i64 0,.int .i64 2,.ls 1 (List UInt8) encS []],.box [.int .i64 0,.int .i64 2,.ls 1 (List UInt8) encS []],.row 2 Dc eY [⟨[97],[120]⟩],.row 2 Rf bH [⟨[109],2⟩]]) o ?_;(conv=>whnf);exact aG rfl
end Go.Nest
end
section
namespace Go.Nest
open Go Go.AM Go.Proofs
open Go.Proofs.YtpechfcbnoggfaaGreatDoor (tab tabOk)
set_option maxRecDepth 100000
theorem yE(s:FS){k:Nat}(hk:k<4):rf s (k:Nat)=(s.w k).map dZ:=if_neg (by rw[bZ.2 ⟨k,hk,rfl⟩];decide)
theorem Bu(s:FS){k:Nat}(hk:k<4):sI s (k:Nat)=s.n k:=if_neg (by rw[bZ.2 ⟨k,hk,rfl⟩];decide)
end Go.Nest
end
section
namespace Go.Nest
open Go Go.AM
inductive kU(b:Nat→List Int)(r:Int):Int→Prop
 |refl:kU b r r
 |step {x y:Int} (h:kU b r x) (hy:y∈b x.toNat):kU b r y
theorem xe:∀{l out:List Int},out<+:l.foldl ba out
 |[],out=>List.prefix_refl _
 |x::l,out=>by
  refine List.IsPrefix.trans ?_ (xe (l:=l) (out:=ba out x));unfold ba;split
  ·exact List.prefix_refl _
  ·exact List.prefix_append _ _
theorem vv{b:Nat→List Int}(hb:gh b){r:Int}(hr:bw r=true){x:Int}:x∈cR b r↔kU b r x:=by
 suffices∀n i out,5-i≤n→gn b r i out→(∀x∈out,kU b r x)→(∀j,j<i→∀z,out[j]? =some z→∀y∈b z.toNat,y∈out)→r∈out→∀x,x∈cR b r↔kU b r x from
  this 5 0 [r] (Nat.le_refl _) (gn.start hr) (fun x hx=>by rw[List.mem_singleton]at hx;subst hx;exact .refl) (fun j h=>absurd h (Nat.not_lt_zero _)) (by simp) x
 intro n;induction n with
 |zero=>
  intro i out p c;have:=c.len;have:=c.le;omega
 |succ n ih=>
  intro i out p c g k m;by_cases a:i<out.length
  ·refine ih (i+1) _ (by omega) (c.next hb a) (fun x hx=>?_) (fun j o z f y d=>?_) (mP.2 (.inl m))
   ·rcases mP.1 hx with hx|hx
    ·exact g x hx
    ·exact .step (g _ (List.getElem_mem a)) hx
   ·obtain⟨t,q⟩:=xe (l:=b out[i].toNat) (out:=out);rw[←q,List.getElem?_append_left (by omega)]at f;by_cases e:j=i
    ·subst e;rw[List.getElem?_eq_getElem a]at f;cases f;exact mP.2 (.inr d)
    ·exact mP.2 (.inl (k j (by omega) z f y d))
  ·intro x;rw[c.stop a];refine⟨g x,fun hx=>?_⟩;induction hx with
   |refl=>exact m
   |step _ d ih=>
    obtain⟨j,o,e⟩:=List.mem_iff_getElem.1 ih;exact k j (by omega) _ (by rw[List.getElem?_eq_getElem o,e]) _ d
theorem kU.mono{b b':Nat→List Int}(h:∀k,∀y∈b k,y∈b' k){r x:Int}(a:kU b r x):kU b' r x:=by
 induction a with
 |refl=>exact .refl
 |step _ c ih=>exact ih.step (h _ _ c)
theorem Du{b:Nat→List Int}{r q:Int}:∀k,∀y∈b k,y∈cW b r q k:=fun k y a=>by
 unfold cW;split
 ·exact a
 ·rw[fC];split
  ·rename_i e;rw[←e];exact List.mem_append_left _ a
  ·exact a
theorem zE{o:Nat→List Bool}{b:Nat→List Int}(hb:mL b){r q:Int}{k id:Int}(h:cZ ⟨o,b⟩ k id=true):cZ ⟨o,cW b r q⟩ k id=true:=by
 unfold cZ at h⊢;rw[Bool.and_eq_true,List.any_eq_true]at h⊢;obtain⟨a,x,c,d⟩:=h;exact⟨a,x,(vv (hb.dW r q).ok a).2 (((vv hb.ok a).1 c).mono Du),d⟩
theorem yO{L M:List Ob}(b:L<+:M){j:Int}(a:¬kindOf L j=0):dR M j=dR L j:=by
 unfold dR;rw[ext_get b a]
theorem G2{L M:List Ob}(c:ae L)(b:L<+:M){ids:List Int}(hi:∀id∈ids,¬kindOf L id=0){k:Int}:db M ids k↔db L ids k:=by
 constructor
 ·intro h;induction h with
  |base h a=>exact .base h (hi _ h)
  |step _ a ih=>exact ih.step (by rw[←yO b (ih.kind c)];exact a)
 ·intro h;induction h with
  |base h a=>exact .base h (by rw[dy b a];exact a)
  |step h a ih=>exact ih.step (by rw[yO b (h.kind c)];exact a)
theorem IM{L M:List Ob}(a:ae L)(b:ae M)(c:L<+:M){ids:List Int}(hi:∀id∈ids,¬kindOf L id=0):aZ M ids=aZ L ids:=
 qf sH sH fun x=>by rw[jk b,jk a,G2 a c hi]
end Go.Nest
end
section
namespace Go.Nest
open Go Go.AM
theorem Kept.down{L:List Ob}(n:ae L){t u:Int}{fs:List Fi}(h:Kept L t fs){dir:List UInt8}(a:bt L t dir=(u,0)):∃r,Kept L u r:=by
 unfold bt at a;split at a
 ·rename_i i;exact absurd (congrArg Prod.snd a) i
 rename_i i;obtain⟨x,z,q⟩:=ny (Decidable.not_not.1 i);generalize (cj dir).1=c at a q;by_cases l:c=[]
 ·subst l;rw[bR]at a;cases a;exact⟨fs,h⟩
 ·have w:∀d∈c,bO d=0:=by rw[q];exact pU x
  rcases sW n c l w h.tree with⟨v,e,k,y⟩|⟨e,_⟩
  ·rw[e]at a;cases a;refine⟨_,k,Kk n k (Nat.le_trans (List.length_filterMap_le _ _) (jG h.ok).1) fun f m=>?_⟩;unfold dw at m;obtain⟨g,s,b⟩:=List.mem_filterMap.1 m;unfold kO at b;cases j:under g.path (ck c)with
   |none=>rw[j]at b;cases b
   |some p=>
    rw[j]at b;cases b;have o:=((jG h.ok).2 g s).1;rw[jr j]at o;exact(ny (Ex o)).2.1
  ·rw[e]at a;cases a
theorem F5{L:List Ob}(c:ae L)(hc:dT L){dir:List UInt8}{up:List Int}{o:Ob}{fs:List Fi}(d:Kept L o.tree fs):dT (bT L dir up o).2.2:=by
 unfold bT;split
 ·exact hc
 split
 ·exact hc
 rename_i a;split
 ·exact hc
 ·obtain⟨e,b⟩:=d.down c (dir:=dir) (u:=(bt L o.tree dir).1) (Prod.ext rfl (Decidable.not_not.1 a));exact tW hc b
theorem B2{dir:List UInt8}:∀{l:List Int} {L:List Ob} {im:List (List Int)},ae L→(∀x∈l,kindOf L x=3)→dT L→dT (aS dir l L im).2.1
 |[],L,im,c,b,a=>a
 |id::r,L,im,c,b,a=>by
  obtain⟨i,g⟩:=a id (b id (by simp));have d:dT (bP L dir im id).2.2:=F5 c a g;obtain⟨e,f,-⟩:=lq c (dir:=dir) (up:=cn im (ab L id).parents) (o:=ab L id);unfold aS;split
  ·exact d
  ·exact B2 e (fun x h=>by have:=b x (by simp[h]);exact(dy f (by omega)).trans this) d
theorem JN{L:List Ob}(b:ae L)(hc:dT L)(id:Int)(dir:List UInt8):dT (aP L id dir).2.2:=by
 unfold aP;by_cases a:kindOf L id=3
 ·rw[show b7 L id=(aO L id,0)from if_pos a,if_neg (by simp)];have c:dT (aS dir (aO L id) L (List.replicate L.length [])).2.1:=B2 b (fun x d=>((ft b a).1 d).kind b a) hc;split
  ·exact c
  ·exact c
 ·rw[show b7 L id=([],9)from if_neg a,if_pos (by decide)];exact hc
theorem wA{base x y:List Fi}:∀(a:List (List UInt8)) (s:BS),ey s.L (cu base x y s a).L
 |[],s=>.refl _
 |q::a,s=>by
  refine ey.trans ?_ (wA a (fg base x y s q));show ey s.L (jT s.L _ _ _);unfold jT;split
  ·exact .refl _
  split
  ·exact .refl _
  unfold iQ;split
  ·exact .refl _
  ·exact sG (show(1:Int)≠3 by decide)
theorem xO{L:List Ob}(b:ae L)(hc:dT L)(base x y:List Fi):dT (dh L base x y).L:=by
 refine hc.mono (lV b base x y).2 ?_;have a:=wA (base:=base) (x:=x) (y:=y) (cN [base,x,y]) ⟨L,[],[],0⟩;unfold dh;split
 ·exact .refl _
 dsimp only;generalize (if(cu base x y ⟨L,[],[],0⟩ (cN [base,x,y])).code=0 then cq (cu base x y ⟨L,[],[],0⟩ (cN [base,x,y])).out else(cu base x y ⟨L,[],[],0⟩ (cN [base,x,y])).code)=c;split
 ·exact a
 ·exact a
def fO(L:List Ob)(d:Dp)(r id:Int):Prop:=∀k∈aZ L [id],cZ d r k=true
theorem fO.more{L M:List Ob}(e:ae L)(c:ae M)(f:L<+:M){d:Dp}{r id:Int}(hk:kindOf L id=3)(h:fO L d r id):fO M d r id:=fun k a=>by
 rw[IM e c f (fun x b=>by rw[List.mem_singleton]at b;rw[b];omega)]at a;exact h k a
structure KX(X:Nat→Prop)(s:FS):Prop where
 ej:dT s.L
 ref:∀r,r<4→∀x∈s.n r,kindOf s.L x.id=3
 mov:∀r,r<4→∀x∈s.m r,(0≤x.old→kindOf s.L x.old=3)∧(0≤x.new→kindOf s.L x.new=3)
 dN:∀r,r<4→∀y∈s.w r,y.link=true→kindOf s.L y.id=3
 has:∀r:Nat,r<4→∀x∈s.n r,fO s.L s.dep r x.id
 hd:∀r:Nat,r<4→¬X r→0≤s.h r→fO s.L s.dep r (s.h r)
abbrev KA(s:FS):Prop:=KX (fun _=>False) s
theorem KA.nil:KA eb:=⟨dT.nil,fun r b x a=>(by cases a),fun r b x a=>(by cases a),fun r b x a=>(by cases a),fun r b x a=>(by cases a),fun r b _ h=>absurd h (by show¬(0:Int)≤-1;decide)⟩
variable {L0:List Ob} {s:FS} {n:Nat} {X:Nat→Prop}
theorem KX.wV(h:KA s):KX X s:=⟨h.ej,h.ref,h.mov,h.dN,h.has,fun r a _=>h.hd r a (fun f=>f)⟩
theorem eG{L M:List Ob}(a:L<+:M){k:Int}(h:kindOf L k=3):kindOf M k=3:=by rw[dy a (by omega)];exact h
theorem iD.k3{L:List Ob}{h:Int}(a:iD L h)(b:0≤h):kindOf L h=3:=a.resolve_left (by omega)
theorem KX.iV(i:FI L0 s n)(h:KX X s){r:Nat}{M:List Ob}{l:List It}{hd:Int}(j:ae M)(d:s.L<+:M)(hc:dT M)(hl:∀y∈l,y.link=true→kindOf M y.id=3)(o:¬X r→r<4→0≤hd→fO M s.dep r hd):KX X (s.c9 r M l hd):=
 ⟨hc,fun k b x a=>eG d (h.ref k b x a),fun k b x a=>⟨fun c=>eG d ((h.mov k b x a).1 c),fun c=>eG d ((h.mov k b x a).2 c)⟩,fun k b y f g=>by
  have f:y∈ax s.w r l k:=f;rw[fC]at f;split at f
  ·exact hl y f g
  ·exact eG d (h.dN k b y f g),fun k b x a=>(h.has k b x a).more i.pool j d (h.ref k b x a),fun k b m=>by
  show 0≤ax s.h r hd k→fO M s.dep k (ax s.h r hd k);rw[fC];split
  ·rename_i e;subst e;exact o m b
  ·exact fun c=>(h.hd k b m c).more i.pool j d ((i.work k b).head.k3 c)⟩
theorem KX.grow(e:FI L0 s n)(h:KX X s){M:List Ob}(g:ae M)(d:s.L<+:M)(hc:dT M):KX X (s.az M):=
 ⟨hc,fun k b x a=>eG d (h.ref k b x a),fun k b x a=>⟨fun c=>eG d ((h.mov k b x a).1 c),fun c=>eG d ((h.mov k b x a).2 c)⟩,fun k b y j f=>eG d (h.dN k b y j f),fun k b x a=>(h.has k b x a).more e.pool g d (h.ref k b x a),fun k b i c=>(h.hd k b i c).more e.pool g d ((e.work k b).head.k3 c)⟩
theorem wT{l:List Rf}{name:List UInt8}{old id:Int}{x:Rf}(hx:x∈az l name old id):x∈l∨(x=⟨name,id⟩∧0≤id):=by
 unfold az at hx;split at hx
 ·rename_i b;obtain⟨d,e,a,f,g⟩:=nS b;unfold iU at hx;split at hx
  ·rename_i c;rw[lh c]at a;rcases pF.1 hx with rfl|hx
   ·exact .inr ⟨rfl,by show 0≤id;omega⟩
   ·exact .inl hx
  ·split at hx
   ·rcases List.mem_append.1 hx with hx|hx
    ·exact .inl (List.mem_of_mem_take hx)
    ·exact .inl (List.mem_of_mem_drop hx)
   ·rcases List.mem_or_eq_of_mem_set hx with hx|rfl
    ·exact .inl hx
    ·exact .inr ⟨rfl,by omega⟩
 ·exact .inl hx
theorem zu{l:List Rf}{name:List UInt8}(h:0≤a6 l name):∃x∈l,x.id=a6 l name:=by
 cases b:dz l name with
 |false=>rw[lh b]at h;exact absurd h (by decide)
 |true=>obtain⟨a,_,e⟩:=py b;exact⟨_,List.getElem_mem a,e.symm⟩
theorem ow{s:FS}{r:Int}{name:List UInt8}(h:(aw s r name).2=0):∃i:Nat,i<4∧r=i∧0≤(aw s r name).1∧∃x∈s.n i,x.id=(aw s r name).1:=by
 unfold aw at h⊢;split at h
 ·cases h
 rename_i a;split at h
 ·cases h
 rename_i b;obtain⟨i,d,e⟩:=(bZ (r:=r)).1 (by cases q:bw r;exact absurd q a;rfl);rw[if_neg a,if_neg b];have c:r.toNat=i:=by omega
 rw[c]at b⊢;exact⟨i,d,e,by dsimp only;omega,zu (by omega)⟩
theorem HJ{l:List Rf}{m:List Mv}{name:List UInt8}{old id:Int}{x:Mv}(hx:x∈fA l m name old id):x∈m∨(x=⟨name,old,id⟩∧old=a6 l name):=by
 unfold fA at hx;split at hx
 ·rename_i a;rcases List.mem_append.1 hx with hx|hx
  ·exact .inl hx
  ·rw[List.mem_singleton]at hx;exact .inr ⟨hx,(nS a).2.2.1⟩
 ·exact .inl hx
theorem KX.wj(m:FI L0 s n)(h:KX X s){Y:Nat→Prop}{r:Nat}{name:List UInt8}{old id:Int}{o:Nat→List Bool}(ho:∀k,k<4→∀j:Nat,(s.o k)[j]? =some true→(o k)[j]? =some true)
  (hid:0≤id→kindOf s.L id=3∧fO s.L ⟨o,s.b⟩ r id)(i:∀k:Nat,k<4→¬Y k→0≤s.h k→fO s.L ⟨o,s.b⟩ k (s.h k)):
  KX Y ((s.gH r (az (s.n r) name old id) (fA (s.n r) (s.m r) name old id)).bN o):=by
 refine⟨h.ej,fun k c x a=>?_,fun k c x a=>?_,h.dN,fun k c x a=>?_,i⟩
 ·have a:x∈ax s.n r _ k:=a;rw[fC]at a;split at a
  ·rename_i e;subst e;rcases wT a with a|⟨rfl,b⟩
   ·exact h.ref k c x a
   ·exact(hid b).1
  ·exact h.ref k c x a
 ·have a:x∈ax s.m r _ k:=a;rw[fC]at a;split at a
  ·rename_i e;subst e;rcases HJ a with a|⟨rfl,f⟩
   ·exact h.mov k c x a
   ·refine⟨fun b=>?_,fun b=>(hid b).1⟩;dsimp only at b⊢;rw[f]at b⊢;obtain⟨y,l,g⟩:=zu b;rw[←g];exact h.ref k c y l
  ·exact h.mov k c x a
 ·have a:x∈ax s.n r _ k:=a;rw[fC]at a;split at a
  ·rename_i e;subst e;rcases wT a with a|⟨rfl,b⟩
   ·exact fun z d=>l7 ho (h.has k c x a z d)
   ·exact(hid b).2
  ·exact fun z d=>l7 ho (h.has k c x a z d)
theorem KX.own(h:KX X s){Y:Nat→Prop}{o:Nat→List Bool}(ho:∀k,k<4→∀j:Nat,(s.o k)[j]? =some true→(o k)[j]? =some true)(a:∀k:Nat,k<4→¬Y k→0≤s.h k→fO s.L ⟨o,s.b⟩ k (s.h k)):KX Y (s.bN o):=
 ⟨h.ej,h.ref,h.mov,h.dN,fun k b x c z d=>l7 ho (h.has k b x c z d),a⟩
theorem KX.lead(f:FI L0 s n){r:Nat}(hr:r<4)(h:KX (· =r) s){name:List UInt8}{id:Int}(hn:c8 (s.n r) name=0)(hk:kindOf s.L id=3)(i:s.h r=id∨(0≤s.h r→fO s.L s.dep r (s.h r))):KA (dA s r name id):=by
 have hid:=bJ (l:=s.L) (id:=id) (by omega)
 have d:cI s.L r [id]=0:=by
  unfold cI;rw[if_neg (by rw[bZ.2 ⟨r,hr,rfl⟩];decide),if_neg (by simp;omega)]
 unfold dA;rw[if_neg (fun k=>(BU (f.refs r hr) hn (by omega)).elim k.1 k.2)];refine KX.wj f h (o:=dE s.L s.o s.b r [id]) (nI hr [id]) (fun _=>⟨hk,fun z a=>qJ hr d a⟩) fun k b _ c=>?_;by_cases e:k=r
 ·subst e;rcases i with g|h2
  ·rw[g];exact fun z a=>qJ hr d a
  ·exact fun z a=>l7 (nI hr [id]) (h2 c z a)
 ·exact fun z a=>l7 (nI hr [id]) (h.hd k b e c z a)
end Go.Nest
end
section
namespace Go.Nest
open Go Go.AM
variable {L0:List Ob} {s:FS} {n:Nat} {X:Nat→Prop}
theorem cS.dN{ne:Bool}{L:List Ob}(o:ae L){es:List aF}{l:List Fi}(h:cS ne L es l):(∀e∈es,iC L e)→∀f∈l,f.mode=3→kindOf L f.id=3:=by
 induction h with
 |nil=>intro _ f hf;cases hf
 | @file e es l k h ih=>
  intro b f hf a;rcases List.mem_cons.1 hf with rfl|hf
  ·have:=(b e (by simp)).kind;dsimp only at a⊢;omega
  ·exact ih (fun x c=>b x (by simp[c])) f hf a
 | @dir e es m l k j n p h d ih=>
  intro b f hf a;rcases List.mem_append.1 hf with hf|hf
  ·obtain⟨g,i,rfl⟩:=List.mem_map.1 hf;exact d (gg o j).2 g i a
  ·exact ih (fun x c=>b x (by simp[c])) f hf a
theorem Ad{ne:Bool}{M:List Ob}{fs:List Fi}{t:Int}(c:ae M)(d:fk ne M t fs):∀y∈fs.map (ca M),y.link=true→kindOf M y.id=3:=fun y g b=>by
 obtain⟨f,e,rfl⟩:=List.mem_map.1 g;unfold ca at b⊢;split
 ·rename_i a;exact d.2.dN c (gg c d.1).2 f e a
 ·rename_i a;rw[if_neg a]at b;cases b
theorem GP{L:List Ob}(d:ae L){l:List It}(h:∀y∈l,y.link=true→kindOf L y.id=3)(fs:List Fi):∀y∈ji L l fs,y.link=true→kindOf (bC L fs).2.2 y.id=3:=by
 obtain⟨a,b⟩:=ib d fs;by_cases c:(bC L fs).2.1=0
 ·rw[show ji L l fs=fs.map (ca (bC L fs).2.2)from if_neg (fun h=>h c)];exact Ad a (pd d c).2
 ·rw[show ji L l fs=l from if_pos c];exact fun y f e=>eG b (h y f e)
theorem KX.lay(c:FI L0 s n)(h:KX X s){r:Nat}(hr:r<4)(l:List Fi):KX X (bX s r l):=by
 obtain⟨a,b⟩:=ib c.pool l;exact h.iV c a b (h.ej.mono b pc) (GP c.pool (h.dN r hr) l) fun e _ d=>(h.hd r hr e d).more c.pool a b ((c.work r hr).head.k3 d)
theorem KX.lW(c:FI L0 s n)(h:KX X s)(r:Nat):KX X (cP s r):=by
 obtain⟨a,b⟩:=eV (l:=s.w r) c.pool;exact h.grow c a b (h.ej.mono b jY)
theorem KX.ue(c:FI L0 s n)(h:KX X s){r:Nat}(hr:r<4){text:List UInt8}{others:List Int}(hc:(aH s.L (s.w r) (s.h r) text others).2.1≠0):KX X (bV s r text others):=by
 obtain⟨a,b⟩:=kY (l:=s.w r) (h:=s.h r) (text:=text) (others:=others) c.pool;refine h.iV c a b (yl c.pool h.ej) (fun y g f=>eG b (h.dN r hr y g f)) fun e _ d=>?_;rw[show jh s.L (s.w r) (s.h r) text others=s.h r from if_neg hc]at d⊢;exact(h.hd r hr e d).more c.pool a b ((c.work r hr).head.k3 d)
theorem KX.yj(c:FI L0 s n)(h:KA s){r:Nat}(hr:r<4)(text:List UInt8)(others:List Int):KX (· =r) (bV s r text others):=by
 obtain⟨a,b⟩:=kY (l:=s.w r) (h:=s.h r) (text:=text) (others:=others) c.pool;exact h.wV.iV c a b (yl c.pool h.ej) (fun y f e=>eG b (h.dN r hr y f e)) fun d _ _=>absurd rfl d
theorem KX.out(g:FI L0 s n)(h:KX X s){r:Nat}(hr:r<4){id:Int}(hid:fO s.L s.dep r id):KX X (iq s r id):=by
 have j:=g.pool;obtain⟨a,b⟩:=nR (l:=s.w r) (id:=id) j
 have f:ey s.L (eN s.L (s.w r) id):=by
  unfold eN;split
  ·exact .refl _
  ·exact jY
 by_cases d:dG s.L (s.w r) (s.h r) id=0
 ·have e:kindOf s.L id=3:=by
   by_cases e:kindOf s.L id=3
   ·exact e
   ·rw[(uc (h:=s.h r) (l:=s.w r) e).1]at d;cases d
  have c:eD s.L (s.w r) (s.h r)=0:=by
   by_cases c:eD s.L (s.w r) (s.h r)=0
   ·exact c
   ·rw[(ua (h:=s.h r) (l:=s.w r) e c).1]at d;exact absurd d c
  obtain⟨q,k,m,o⟩:=ub (h:=s.h r) (l:=s.w r) e c;have p:(cK (aE s.L (s.w r)).2.2 (ab s.L id).tree).2=0:=q▸d;rw[if_neg (fun h=>h p)]at m o;refine h.iV g a b (h.ej.mono b f) ?_ fun _ _ _=>?_
  ·rw[m,k];rw[k]at a;exact Ad a (uG a p).1
  ·rw[o];exact hid.more j a b e
 ·refine h.iV g a b (h.ej.mono b f) ?_ fun t _ i=>?_
  ·rw[show iH s.L (s.w r) (s.h r) id=s.w r from if_pos d];exact fun y v u=>eG b (h.dN r hr y v u)
  ·rw[show ig s.L (s.w r) (s.h r) id=s.h r from if_pos d]at i⊢;exact(h.hd r hr t i).more j a b ((g.work r hr).head.k3 i)
theorem KX.mix(f:FI L0 s n)(h:KA s){r:Nat}(hr:r<4)(base id:Int):KA (fW s r base id):=by
 obtain⟨v,w⟩:=lV f.pool (aJ s.L base).1 (aJ s.L (s.h r)).1 (aJ s.L id).1;have c:=f.nN r base id;have i:KA (s.az (au s r base id).L):=h.grow f v w (xO f.pool h.ej _ _ _);have a:=c.bX hr (au s r base id).out;have d:=i.lay c hr (au s r base id).out;unfold fW;refine av (P:=KA) (fun _=>h) (fun _=>av (P:=KA) (fun _=>h) (fun _=>av (P:=KA) (fun _=>h) (fun _=>av (P:=KA) (fun _=>i) (fun _=>av (P:=KA) (fun _=>i) (fun _=>av (P:=KA) (fun _=>d) (fun _=>?_))))));generalize bX (s.az (au s r base id).L) r (au s r base id).out=t at a d;unfold kI;refine av (P:=KA) (fun g=>(d.ue a hr g).lay (a.bV hr _ _) hr _) (fun g=>?_);have g:=Decidable.not_not.1 g;have y:=mW a.pool g;have j:=KX.yj a d hr bz [id];have o:=a.bV hr bz [id]
 have l:cI (bV t r bz [id]).L r [(aH t.L (t.w r) (t.h r) bz [id]).1]=0:=by
  unfold cI;rw[if_neg (by rw[bZ.2 ⟨r,hr,rfl⟩];decide),if_neg];simp only[List.any_cons,List.any_nil,Bool.or_false,decide_eq_true_iff];exact fun e=>absurd (y.symm.trans e) (by decide)
 have b:(bV t r bz [id]).h r=(aH t.L (t.w r) (t.h r) bz [id]).1:=by
  show ax t.h r _ r=_;rw[ee];exact if_pos g
 generalize (aH t.L (t.w r) (t.h r) bz [id]).1=m at l b;generalize bV t r bz [id]=u at j l b o;refine j.own (nI hr [m]) fun k p _ x=>?_;by_cases e:k=r
 ·subst e;rw[b];exact fun z q=>qJ hr l q
 ·exact fun z q=>l7 (nI hr [m]) (j.hd k p e x z q)
theorem KX.swp(d:FI L0 s n)(h:KA s):KA (qt s):=by
 have b:∀r:Nat,r<4→∀id,id∈iw s r→fO s.L s.dep r id→fO s.L ⟨iT s.L s.o s.b (iw s),s.b⟩ r id:=fun r a id hid i z f=>by
  rw[FT d.pool d.dW.ok r z (.root a hid ((jk d.pool).1 f))];exact i z f
 refine⟨h.ej,h.ref,h.mov,h.dN,fun r a x e=>?_,fun r a g c=>?_⟩
 ·refine b r a _ ?_ (h.has r a x e);unfold iw gW;exact List.mem_append_left _ (List.mem_append_left _ (FY (d.refs r a).inv e))
 ·have c:0≤s.h r:=c;refine b r a _ ?_ (h.hd r a g c);unfold iw gW;rw[if_pos c];exact List.mem_append_left _ (List.mem_append_right _ (List.mem_singleton.2 rfl))
theorem Bj{L:List Ob}{l:List It}(b:gQ l)(h:∀y∈l,y.link=true→kindOf L y.id=3){x:It}(c:x.link=true→kindOf L x.id=3):∀y∈(eT l x).2,y.link=true→kindOf L y.id=3:=fun y hy a=>by
 rcases(Bm b x).2 y hy with rfl|hy
 ·exact c a
 ·exact h y hy a
theorem KX.step(a:FI L0 s n)(h:KA s)(x:bL):KA (cw s x):=by
 unfold cw;refine av (P:=KA) (fun _=>h) (fun _=>av (P:=KA) (fun _=>h) (fun T=>?_));obtain⟨i,b,e⟩:=(bZ (r:=x.r)).1 (by cases q:bw x.r;exact absurd q T;rfl);have e:x.r.toNat=i:=by omega
 rw[e];have J:=a.work i b;have t:=nw a.pool (s.h i) x.path;have D:¬False→i<4→0≤s.h i→fO s.L s.dep i (s.h i):=fun p _ c=>h.hd i b p c
 have H:∀{name:List UInt8},¬(aw s (i:Nat) name).2≠0→kindOf s.L (aw s (i:Nat) name).1=3∧fO s.L s.dep i (aw s (i:Nat) name).1:=fun S=>by
  obtain⟨j,m,O,_,y,u,K⟩:=ow (Decidable.not_not.1 S);obtain rfl:i=j:=by omega
  rw[←K];exact⟨h.ref i b y u,h.has i b y u⟩
 have E:=List.prefix_refl s.L;refine av (P:=KA) (fun _=>?_) (fun _=>av (P:=KA) (fun _=>?_) (fun _=>av (P:=KA) (fun _=>?_) (fun _=>av (P:=KA) (fun _=>?_) (fun _=>av (P:=KA) (fun _=>?_) (fun _=>av (P:=KA) (fun _=>?_) (fun _=>av (P:=KA) (fun _=>?_) (fun _=>av (P:=KA) (fun _=>?_) (fun _=>av (P:=KA) (fun _=>?_) (fun _=>av (P:=KA) (fun _=>?_) (fun _=>av (P:=KA) (fun _=>?_) (fun _=>h.swp a)))))))))))
 ·refine h.iV a a.pool E h.ej ?_ D;unfold fN;split
  ·exact h.dN i b
  ·exact Bj J.ok (h.dN i b) fun h=>by cases h
 ·exact h.iV a a.pool E h.ej (fun y u=>h.dN i b y ((Bv J.ok x.path).2 y u)) D
 ·unfold lB;refine av (P:=KA) (fun _=>h) (fun _=>h.iV a a.pool E h.ej ?_ D);unfold fp;split
  ·exact h.dN i b
  split
  ·exact h.dN i b
  ·rename_i _ d;exact Bj J.ok (h.dN i b) fun _=>Decidable.not_not.1 d
 ·unfold kh;refine av (P:=KA) (fun _=>h) (fun g=>av (P:=KA) (fun l=>h.ue a b l) (fun l=>?_));have l:=Decidable.not_not.1 l;exact(KX.yj a h b x.text []).lead (a.bV b _ _) b (Decidable.not_not.1 g) (mW a.pool l) (.inl (by show ax s.h i _ i=_;rw[ee];exact if_pos l))
 ·unfold jA;exact av (P:=KA) (fun _=>h) (fun g=>h.out a b (H g).2)
 ·unfold kG;refine av (P:=KA) (fun _=>h) (fun g=>av (P:=KA) (fun _=>h.lW a i) (fun _=>?_));have I:=h.lW a i;have w:=a.cP (r:=i);obtain⟨k3,R⟩:=H g;unfold jP;exact av (P:=KA) (fun _=>I.out w b (R.more a.pool w.pool (eV a.pool).2 k3)) (fun _=>av (P:=KA) (fun _=>I) (fun _=>av (P:=KA) (fun _=>I) (fun _=>I.mix w b _ _)))
 ·unfold kW;refine av (P:=KA) (fun _=>h) (fun g=>?_);exact h.wj a (o:=s.o) (fun _ _ _ m=>m) (fun c=>⟨J.head.k3 c,h.hd i b (fun f=>f) c⟩) fun k d p c=>h.hd k d p c
 ·unfold kZ;exact av (P:=KA) (fun _=>h) (fun _=>h.wj a (o:=s.o) (fun _ _ _ m=>m) (fun c=>absurd c (by decide)) fun k d p c=>h.hd k d p c)
 ·unfold kr;refine av (P:=KA) (fun _=>h) (fun g=>av (P:=KA) (fun _=>h) (fun l=>?_))
  have N:∀k,k<4→∀j:Nat,(s.o k)[j]? =some true→(cJ s.L s.o s.b (i:Nat) x.q (aw s x.q x.name).1 k)[j]? =some true:=fun k d j m=>by
   unfold cJ;split
   ·exact m
   split
   ·exact m
   ·exact nI b _ k d j m
  have v:KA (s.bN (cJ s.L s.o s.b (i:Nat) x.q (aw s x.q x.name).1)):=h.own N fun k d p c z F=>l7 N (h.hd k d p c z F);have M:=a.bN (nW a i x.q (aw s x.q x.name).1);refine av (P:=KA) (fun _=>v) (fun _=>?_);obtain⟨j,m,O,_,y,u,K⟩:=ow (Decidable.not_not.1 g);exact KX.lead M b v.wV (Decidable.not_not.1 l) (by rw[←K];exact h.ref j m y u) (.inr fun c=>v.hd i b (fun f=>f) c)
 ·exact⟨h.ej,h.ref,h.mov,h.dN,fun k d y u z F=>zE a.dW (h.has k d y u z F),fun k d p c z F=>zE a.dW (h.hd k d p c z F)⟩
 ·unfold mD;refine av (P:=KA) (fun _=>h) (fun g=>av (P:=KA) (fun _=>h) (fun l=>?_));have v:KA (s.az (aP s.L (s.h i) x.path).2.2):=h.grow a t.1 t.2 (JN a.pool h.ej _ _);refine av (P:=KA) (fun _=>v) (fun Q=>?_);have d:=((wG (dir:=x.path) (id:=s.h i) a.pool rfl).2.2.2.2 (Decidable.not_not.1 Q)).2.1;exact KX.lead (a.az t.1 t.2) b v.wV (Decidable.not_not.1 l) d (.inr fun c=>v.hd i b (fun f=>f) c)
end Go.Nest
end
section
namespace Go.Nest
open Go Go.AM
inductive A2{α β:Type}(R:α→β→Prop):List α→List β→Prop
 |nil:A2 R [] []
 |cons {a:α} {b:β} {l:List α} {m:List β} (h:R a b) (t:A2 R l m):A2 R (a::l) (b::m)
section
variable {α β γ δ:Type} {R:α→β→Prop} {l:List α} {m:List β}
theorem A2.len(h:A2 R l m):l.length=m.length:=by
 induction h with
 |nil=>rfl
 |cons _ _ ih=>rw[List.length_cons,List.length_cons,ih]
theorem A2.app{l':List α}{m':List β}(h:A2 R l m)(b:A2 R l' m'):A2 R (l++l') (m++m'):=by
 induction h with
 |nil=>exact b
 |cons a _ ih=>exact .cons a ih
theorem A2.one{a:α}{b:β}(h:R a b):A2 R [a] [b]:= .cons h .nil
theorem A2.imp{S:α→β→Prop}(h:A2 R l m)(f:∀a∈l,∀b∈m,R a b→S a b):A2 S l m:=by
 induction h with
 |nil=>exact .nil
 |cons r _ ih=>exact .cons (f _ (by simp) _ (by simp) r) (ih fun x c y d=>f x (by simp[c]) y (by simp[d]))
theorem A2.left(h:A2 R l m):∀a∈l,∃b∈m,R a b:=by
 induction h with
 |nil=>intro a h;cases h
 | @cons a b l m r _ ih=>
  intro x hx;rcases List.mem_cons.1 hx with rfl|hx
  ·exact⟨b,by simp,r⟩
  ·obtain⟨y,c,h⟩:=ih x hx;exact⟨y,by simp[c],h⟩
theorem A2.swap(h:A2 R l m):A2 (fun b a=>R a b) m l:=by
 induction h with
 |nil=>exact .nil
 |cons r _ ih=>exact .cons r ih
theorem A2.right(h:A2 R l m):∀b∈m,∃a∈l,R a b:=h.swap.left
theorem A2.map{f:α→γ}{g:β→δ}{S:γ→δ→Prop}(h:A2 R l m)(k:∀a∈l,∀b∈m,R a b→S (f a) (g b)):A2 S (l.map f) (m.map g):=by
 induction h with
 |nil=>exact .nil
 |cons r _ ih=>exact .cons (k _ (by simp) _ (by simp) r) (ih fun x c y d=>k x (by simp[c]) y (by simp[d]))
theorem A2.filter{p:α→Bool}{q:β→Bool}(h:A2 R l m)(k:∀a∈l,∀b∈m,R a b→p a=q b):A2 R (l.filter p) (m.filter q):=by
 induction h with
 |nil=>exact .nil
 |cons r _ ih=>
  have d:=k _ (by simp) _ (by simp) r;have c:=ih fun x e y f=>k x (by simp[e]) y (by simp[f]);rw[List.filter_cons,List.filter_cons,d];split
  ·exact .cons r c
  ·exact c
theorem A2.all{p:α→Bool}{q:β→Bool}(h:A2 R l m)(k:∀a∈l,∀b∈m,R a b→p a=q b):l.all p=m.all q:=by
 induction h with
 |nil=>rfl
 |cons r _ ih=>rw[List.all_cons,List.all_cons,k _ (by simp) _ (by simp) r,ih fun x c y d=>k x (by simp[c]) y (by simp[d])]
theorem A2.any{p:α→Bool}{q:β→Bool}(h:A2 R l m)(k:∀a∈l,∀b∈m,R a b→p a=q b):l.any p=m.any q:=by
 induction h with
 |nil=>rfl
 |cons r _ ih=>rw[List.any_cons,List.any_cons,k _ (by simp) _ (by simp) r,ih fun x c y d=>k x (by simp[c]) y (by simp[d])]
theorem A2.same{f:α→γ}{g:β→γ}(h:A2 R l m)(k:∀a∈l,∀b∈m,R a b→f a=g b):l.map f=m.map g:=by
 induction h with
 |nil=>rfl
 |cons r _ ih=>rw[List.map_cons,List.map_cons,k _ (by simp) _ (by simp) r,ih fun x c y d=>k x (by simp[c]) y (by simp[d])]
theorem A2.eq{m':List β}(h:A2 R l m)(k:∀a∈l,∀b c,R a b→R a c→b=c)(d:A2 R l m'):m=m':=by
 induction h generalizing m' with
 |nil=>cases d;rfl
 |cons r _ ih=>
  cases d with
  |cons f g=>rw[k _ (by simp) _ _ r f,ih (fun x e=>k x (by simp[e])) g]
end
structure j5(R:Int→Int→Prop)(e f:aF):Prop where
 name:e.name=f.name
 mode:e.mode=f.mode
 ar:e.ar=f.ar
 id:R e.id f.id
structure ez(R:Int→Int→Prop)(o p:Ob):Prop where
 kind:o.kind=p.kind
 bytes:o.bytes=p.bytes
 text:o.text=p.text
 ents:A2 (j5 R) o.entries p.entries
 tree:o.kind=3→R o.tree p.tree
 tre0:o.kind≠3→o.tree=p.tree
 par:A2 R o.parents p.parents
theorem j5.imp{R S:Int→Int→Prop}{e f:aF}(h:j5 R e f)(k:∀a b,R a b→S a b):j5 S e f:=⟨h.name,h.mode,h.ar,k _ _ h.id⟩
theorem ez.imp{R S:Int→Int→Prop}{o p:Ob}(h:ez R o p)(k:∀a b,R a b→S a b):ez S o p:=
 ⟨h.kind,h.bytes,h.text,h.ents.imp fun _ _ _ _ r=>r.imp k,fun c=>k _ _ (h.tree c),h.tre0,h.par.imp fun _ _ _ _ r=>k _ _ r⟩
theorem ez.symm{R:Int→Int→Prop}{o p:Ob}(h:ez R o p):ez (fun y x=>R x y) p o:=
 ⟨h.kind.symm,h.bytes.symm,h.text.symm,h.ents.swap.imp fun _ _ _ _ r=>⟨r.name.symm,r.mode.symm,r.ar.symm,r.id⟩,fun a=>h.tree (h.kind.trans a),fun a=>(h.tre0 fun k=>a (h.kind▸k)).symm,h.par.swap⟩
theorem ez.eq{R:Int→Int→Prop}{o p q:Ob}(h:ez R o p)(f:ez R o q)(he:∀e∈o.entries,∀b c,R e.id b→R e.id c→b=c)(x:o.kind=3→∀b c,R o.tree b→R o.tree c→b=c)(w:∀k∈o.parents,∀b c,R k b→R k c→b=c):p=q:=by
 have j : p.entries = q.entries := h.ents.eq (fun a v b c r s=>by
  have:=he a v _ _ r.id s.id;have g:=r.name;have i:=r.mode;have d:=r.ar;have n:=s.name;have t:=s.mode;have u:=s.ar;obtain⟨y,z,D,E⟩:=b;obtain⟨F,H,I,J⟩:=c;simp only at*;subst this;rw[←g,←i,←d,←n,←t,←u]) f.ents
 have l:p.parents=q.parents:=h.par.eq w f.par
 have m:p.tree=q.tree:=by
  by_cases d:o.kind=3
  ·exact x d _ _ (h.tree d) (f.tree d)
  ·rw[←h.tre0 d,f.tre0 d]
 have g:=h.kind.symm.trans f.kind;have i:=h.bytes.symm.trans f.bytes;have d:=h.text.symm.trans f.text;obtain⟨K,M,N,O,P,Q⟩:=p;obtain⟨S,T,U,W,Y,Z⟩:=q;simp only at*;subst j l m g i d;rfl
def Cz(L M:List Ob)(R:Int→Int→Prop):Prop:=∀k j,R k j→kindOf L k≠0∧kindOf M j≠0∧ez R (ab L k) (ab M j)
def Sx(L M:List Ob)(k j:Int):Prop:=∃R,Cz L M R∧R k j
variable {L M L' M':List Ob} {k j:Int}
theorem Sx.out(h:Sx L M k j):kindOf L k≠0∧kindOf M j≠0∧ez (Sx L M) (ab L k) (ab M j):=by
 obtain⟨R,d,h⟩:=h;obtain⟨a,b,c⟩:=d k j h;exact⟨a,b,c.imp fun x y r=>⟨R,d,r⟩⟩
theorem Sx.mk(e:kindOf L k≠0)(hb:kindOf M j≠0)(h:ez (Sx L M) (ab L k) (ab M j)):Sx L M k j:=
 ⟨fun x y=>Sx L M x y∨(x=k∧y=j),fun x y d=>by
  rcases d with d|⟨rfl,rfl⟩
  ·obtain⟨a,b,c⟩:=d.out;exact⟨a,b,c.imp fun _ _=>.inl⟩
  ·exact⟨e,hb,h.imp fun _ _=>.inl⟩,.inr ⟨rfl,rfl⟩⟩
theorem Sx.grow(h:Sx L M k j)(d:L<+:L')(hy:M<+:M'):Sx L' M' k j:=by
 obtain⟨R,e,h⟩:=h;refine⟨R,fun x y r=>?_,h⟩;obtain⟨a,b,c⟩:=e x y r;exact⟨by rw[dy d a];exact a,by rw[dy hy b];exact b,by rw[ext_get d a,ext_get hy b];exact c⟩
theorem Sx.symm(h:Sx L M k j):Sx M L j k:=⟨fun y x=>Sx L M x y,fun y x r=>⟨r.out.2.1,r.out.1,r.out.2.2.symm⟩,h⟩
theorem Sx.kind(h:Sx L M k j):kindOf L k=kindOf M j:=by
 have:=h.out.2.2.kind;rwa[cH,cH]at this
theorem Sx.pos(h:Sx L M k j):0≤k∧0≤j:=⟨by have:=(bJ h.out.1).1;omega,by have:=(bJ h.out.2.1).1;omega⟩
theorem sub_lt(t:ae L):∀{k:Int},kindOf L k≠0→(∀e∈(ab L k).entries,kindOf L e.id≠0∧e.id<k)∧((ab L k).kind=3→kindOf L (ab L k).tree≠0∧(ab L k).tree<k)∧∀p∈(ab L k).parents,kindOf L p≠0∧p<k:=by
 induction t with
 |nil=>intro k n;exact absurd (by unfold kindOf;split<;>rfl) n
 | @snoc l o t w g D s ih=>
  intro k n;obtain⟨y,u⟩:=bJ n;rw[List.length_append,List.length_singleton]at u;have up:∀{x:Int},kindOf l x≠0→kindOf (l++[o]) x≠0:=fun h=>by rw[ni h];exact h
  by_cases i:k<l.length
  ·have q:kindOf l k≠0:=by rw[←cH,←n5 (m:=[o]) i,cH];exact n
   obtain⟨a,b,c⟩:=ih q;rw[n5 i];exact⟨fun e f=>⟨up (a e f).1,(a e f).2⟩,fun j=>⟨up (b j).1,(b j).2⟩,fun p h=>⟨up (c p h).1,(c p h).2⟩⟩
  ·obtain rfl:k=l.length:=by omega
   have hb:∀{x:Int},kindOf l x≠0→kindOf (l++[o]) x≠0∧x<(l.length:Int):=fun h=>⟨up h,by have:=bJ h;omega⟩;unfold dH at g;rw[Bool.and_eq_true,Bool.and_eq_true,List.all_eq_true,List.all_eq_true]at g;have v:=(oD w).sb;rw[ru];refine⟨fun e f=>hb ?_,fun j=>hb ?_,fun p r=>hb ?_⟩
   ·have d:=g.1 e f;have z:=v e f;rw[decide_eq_true_iff]at d;omega
   ·have d:=g.2.2;simp[j]at d;omega
   ·have d:=g.2.1 p r;rw[decide_eq_true_iff]at d;omega
theorem get_inj(f:ae L){i k:Int}(hi:kindOf L i≠0)(hk:kindOf L k≠0)(e:ab L i=ab L k):i=k:=by
 obtain⟨a,b⟩:=bJ hi;obtain⟨c,d⟩:=bJ hk;rw[jg a b,jg c d]at e;have:=(List.getElem_inj f.nodup).1 e;omega
theorem Sx.inj(f:ae L)(hq:ae M):∀(n:Nat) {k j i:Int},k<n→Sx L M k j→Sx L M k i→j=i
 |0,k,j,i,o,h,_=>absurd h.pos.1 (by omega)
 |n+1,k,j,i,o,h,l=>by
  obtain⟨a,b,c⟩:=h.out;obtain⟨-,d,e⟩:=l.out;obtain⟨p,q,t⟩:=sub_lt f a;refine get_inj hq b d (c.eq e (fun x g y z r s=>Sx.inj f hq n ?_ r s) (fun m y z r s=>Sx.inj f hq n ?_ r s) (fun x g y z r s=>Sx.inj f hq n ?_ r s))
  ·have:=(p x g).2;omega
  ·have:=(q m).2;omega
  ·have:=(t x g).2;omega
theorem Sx.fn(b:ae L)(hq:ae M){i:Int}(h:Sx L M k j)(a:Sx L M k i):j=i:=Sx.inj b hq (k.toNat+1) (by omega) h a
theorem Sx.nf(b:ae L)(hq:ae M){i:Int}(h:Sx L M k j)(a:Sx L M i j):k=i:=Sx.fn hq b h.symm a.symm
theorem Sx.iff(b:ae L)(hq:ae M){i m:Int}(h:Sx L M k j)(a:Sx L M i m):k=i↔j=m:=
 ⟨fun e=>Sx.fn b hq h (e▸a),fun e=>Sx.nf b hq h (e▸a)⟩
theorem EU{R:Int→Int→Prop}(c:∀a b,R a b→0≤a∧0≤b){e f:aF}(h:j5 R e f)(q:Option (List UInt8)):fS q e=fS q f:=by
 obtain⟨d,g⟩:=c _ _ h.id;unfold fS;rw[h.name,h.mode,h.ar];simp only[show¬e.id<0 by omega,show¬f.id<0 by omega]
theorem EW{R:Int→Int→Prop}(c:∀a b,R a b→0≤a∧0≤b){es fs:List aF}(h:A2 (j5 R) es fs):∀q,eF q es=eF q fs:=by
 induction h with
 |nil=>intro q;rfl
 |cons r _ ih=>intro q;unfold eF;rw[EU c r,r.name,ih]
theorem HX{R:Int→Int→Prop}(e:∀a b,R a b→0≤a∧0≤b){o p:Ob}(h:ez R o p):bQ o=bQ p:=by
 have c:(o.parents.any fun k=>decide (k<0))=p.parents.any fun k=>decide (k<0):=h.par.any fun a _ b _ r=>by
  have:=e _ _ r;rw[decide_eq_false (by omega),decide_eq_false (by omega)]
 have g:kP o.entries=kP p.entries:=by unfold kP;rw[h.ents.len,EW e h.ents]
 unfold bQ;rw[h.bytes,h.text,h.ents.len,h.par.len,c,g];by_cases d:o.kind=3
 ·obtain⟨a,b⟩:=e _ _ (h.tree d);have f:=h.kind.symm.trans d;simp only[d,f,show¬o.tree<0 by omega,show¬p.tree<0 by omega,ne_eq,not_true_eq_false,false_and,if_false]
 ·rw[h.tre0 d,h.kind]
theorem GZ{o p:Ob}(h:ez (Sx L M) o p):dH L o=dH M p:=by
 unfold dH;rw[h.ents.all (q:=fun e=>decide (kindOf M e.id=e.mode)) fun a _ b _ r=>by rw[r.id.kind,r.mode],h.par.all (q:=fun k=>decide (kindOf M k=3)) fun a _ b _ r=>by rw[r.kind],h.kind];by_cases c:o.kind=3
 ·rw[(h.tree c).kind]
 ·rw[h.kind]at c;simp[c]
theorem Sx.nn:∀a b,Sx L M a b→0≤a∧0≤b:=fun a b h=>h.pos
theorem sE{o:Ob}:(ao L o).2.1=(if bQ o≠0 then bQ o else if dH L o=false then 14 else 0)∨(ao L o).2.1=15:=by
 unfold ao;split
 ·exact .inl rfl
 split
 ·exact .inl rfl
 split
 ·exact .inl rfl
 split
 ·exact .inr rfl
 ·exact .inl rfl
theorem oJ{o p:Ob}(hk:o.kind≠0)(h:ez (Sx L M) o p)(c:(ao L o).2.1≠15)(d:(ao M p).2.1≠15):(ao L o).2.1=(ao M p).2.1∧((ao L o).2.1=0→Sx (ao L o).2.2 (ao M p).2.2 (ao L o).1 (ao M p).1):=by
 have e:(ao L o).2.1=(ao M p).2.1:=by
  rw[sE.resolve_right c,sE.resolve_right d,HX Sx.nn h,GZ h]
 refine⟨e,fun f=>?_⟩;obtain⟨g,a⟩:=gG f;obtain⟨i,b⟩:=gG (e▸f);refine Sx.mk ?_ ?_ ?_
 ·rw[←cH,a];exact hk
 ·rw[←cH,b,←h.kind];exact hk
 ·rw[a,b];exact h.imp fun _ _ r=>r.grow (dS o) (dS p)
structure gl(R:Int→Int→Prop)(f g:Fi):Prop where
 path:f.path=g.path
 mode:f.mode=g.mode
 ar:f.ar=g.ar
 id:R f.id g.id
theorem gl.imp{R S:Int→Int→Prop}{e f:Fi}(h:gl R e f)(k:∀a b,R a b→S a b):gl S e f:=⟨h.path,h.mode,h.ar,k _ _ h.id⟩
abbrev cV(L M:List Ob)(l m:List Fi):Prop:=A2 (gl (Sx L M)) l m
theorem cV.grow{l m:List Fi}(h:cV L M l m)(a:L<+:L')(hy:M<+:M'):cV L' M' l m:=h.imp fun _ _ _ _ r=>r.imp fun _ _ s=>s.grow a hy
theorem JX{f g:Int→List (List UInt8)→List Fi→Int×List Fi}(hr:∀t u ins out c,Sx L M t u→cV L M out c→(f t ins out).1=(g u ins c).1∧cV L M (f t ins out).2 (g u ins c).2)(ins:List (List UInt8)){es fs:List aF}(h:A2 (j5 (Sx L M)) es fs):∀{out c:List Fi},cV L M out c→(dJ f ins es out).1=(dJ g ins fs c).1∧cV L M (dJ f ins es out).2 (dJ g ins fs c).2:=by
 induction h with
 |nil=>intro out c d;exact⟨rfl,d⟩
 | @cons e j es fs r _ ih=>
  intro out c d;unfold dJ;obtain⟨a,b⟩:=hr e.id j.id (ins++[e.name]) out c r.id d;rw[r.mode];rw[r.name]at a b⊢;by_cases i:j.mode=2
  ·rw[if_pos i,if_pos i,a];split
   ·exact⟨a,b⟩
   ·exact ih b
  ·rw[if_neg i,if_neg i,d.len];split
   ·exact⟨rfl,d⟩
   ·exact ih (d.app (.one ⟨rfl,rfl,r.ar,r.id⟩))
theorem zy:∀(n:Nat) (t u:Int) (ins:List (List UInt8)) (out a:List Fi),Sx L M t u→cV L M out a→(cz L n t ins out).1=(cz M n u ins a).1∧cV L M (cz L n t ins out).2 (cz M n u ins a).2
 |0,t,u,ins,out,a,h,b=>⟨rfl,b⟩
 |n+1,t,u,ins,out,a,h,b=>by
  unfold cz;have c:=h.out.2.2.ents;rw[h.kind,c.len];split
  ·exact⟨rfl,b⟩
  split
  ·exact⟨rfl,b⟩
  ·exact JX (zy n) ins c b
theorem yT{t u:Int}(h:Sx L M t u):(cK L t).2=(cK M u).2∧cV L M (cK L t).1 (cK M u).1:=by
 obtain⟨a,b⟩:=zy 9 t u [] [] [] h .nil;unfold cK;rw[a];split
 ·exact⟨rfl,b⟩
 ·exact⟨rfl,.nil⟩
theorem DG{R:Int→Int→Prop}{l m:List Fi}(h:A2 (gl R) l m):∀{p q:Option Fi},p.map (·.path)=q.map (·.path)→fQ p l=fQ q m:=by
 induction h with
 |nil=>intro p q _;rfl
 | @cons f g l m r _ ih=>
  intro p q a
  have b:eg p f=eg q g:=by
   cases p with
   |none=>cases q with
    |none=>rfl
    |some q=>cases a
   |some p=>cases q with
    |none=>cases a
    |some q=>
     have a:some p.path=some q.path:=a;rw[Option.some.injEq]at a;unfold eg;dsimp only;rw[a,r.path]
  have c:fQ (some f) l=fQ (some g) m:=ih (by show some f.path=some g.path;rw[r.path]);unfold fQ;rw[b,c,r.path,r.mode]
theorem pr{R:Int→Int→Prop}{l m:List Fi}(h:A2 (gl R) l m):cq l=cq m:=by
 unfold cq;rw[h.len,DG h rfl]
theorem Gx{R:Int→Int→Prop}{n:List UInt8}{l m:List Fi}(h:A2 (gl R) l m):A2 (gl R) (bm n l).1 (bm n m).1∧A2 (gl R) (bm n l).2 (bm n m).2:=by
 induction h with
 |nil=>exact⟨.nil,.nil⟩
 | @cons f g l m r t ih=>
  unfold bm;rw[r.path];cases under g.path n with
  |none=>exact⟨.nil,.cons r t⟩
  |some p=>exact⟨.cons ⟨rfl,r.mode,r.ar,r.id⟩ ih.1,ih.2⟩
theorem HL{R:Int→Int→Prop}{l m:List Fi}(h:A2 (gl R) l m):mu l=mu m:=by
 unfold mu;rw[h.same (g:=fun f=>f.path.length+1) fun a _ b _ r=>by rw[r.path]]
theorem rB:∀(n:Nat) {L M:List Ob} {es fs:List aF} {l m:List Fi},ae L→ae M→mu m<n→A2 (j5 (Sx L M)) es fs→A2 (gl (Sx L M)) l m→(aN n L es l).2.1≠15→(aN n M fs m).2.1≠15→(aN n L es l).2.1=(aN n M fs m).2.1∧((aN n L es l).2.1=0→Sx (aN n L es l).2.2 (aN n M fs m).2.2 (aN n L es l).1 (aN n M fs m).1)
 |0,L,M,es,fs,l,m,u,v,E,q,H,c,d=>absurd E (by omega)
 |n+1,L,M,es,fs,T,m0,u,v,E,q,H,c,d=>by
  cases H with
  |nil=>
   unfold aN at c d⊢;exact oJ (o:=ew es) (p:=ew fs) (by show(2:Int)≠0;decide) ⟨rfl,rfl,rfl,q,fun h=>absurd h (by show¬(2:Int)=3;decide),fun _=>rfl,.nil⟩ c d
  | @cons f g l m r t=>
   rw[kJ]at E;unfold aN at c d⊢;rw[r.path]at c⊢;by_cases i:g.path.count 47=0
   ·rw[if_pos i]at c d⊢;rw[if_pos i];exact rB n u v (by omega) (q.app (.one ⟨rfl,r.mode,r.ar,r.id⟩)) t c d
   ·rw[if_neg i]at c d⊢;rw[if_neg i];obtain⟨a,b,j,w,S⟩:=uj i;have D:=rL (r:=m) w;rw[kJ]at D;obtain⟨O,P⟩:=Gx (n:=a) (A2.cons r t);rw[j]at c d⊢;dsimp only at c d⊢;generalize bm a (f::l)=I at*;generalize bm a (g::m)=J at*;obtain⟨Q,K⟩:=ku n L [] I.1 u;obtain⟨R,N⟩:=ku n M [] J.1 v;obtain⟨x,y⟩:=rB n u v (by omega) .nil O (fun e=>c (by rw[if_pos (by rw[e];decide)];exact e)) (fun e=>d (by rw[if_pos (by rw[e];decide)];exact e));by_cases z:(aN n L [] I.1).2.1=0
    ·have F:(aN n M [] J.1).2.1=0:=x▸z;rw[if_neg (fun k=>k z)]at c⊢;rw[if_neg (fun k=>k F)]at d⊢;exact rB n Q R (by omega) ((q.imp fun _ _ _ _ r=>r.imp fun _ _ s=>s.grow K N).app (.one ⟨rfl,rfl,rfl,y z⟩)) (cV.grow P K N) c d
    ·have F:(aN n M [] J.1).2.1≠0:=x▸z;rw[if_pos z,if_pos F];exact⟨x,fun h=>absurd h z⟩
theorem xS(b:ae L)(hq:ae M){l m:List Fi}(h:cV L M l m)(c:(bC L l).2.1≠15)(d:(bC M m).2.1≠15):(bC L l).2.1=(bC M m).2.1∧((bC L l).2.1=0→Sx (bC L l).2.2 (bC M m).2.2 (bC L l).1 (bC M m).1):=by
 unfold bC at c d⊢;rw[pr h,HL h]at c⊢;split
 ·rename_i a;exact⟨rfl,fun h=>absurd h a⟩
 ·rename_i a;rw[if_neg a]at c d;exact rB _ b hq (Nat.lt_succ_self _) .nil h c d
theorem Fu{R:Int→Int→Prop}{d:List UInt8}{es fs:List aF}(h:A2 (j5 R) es fs):(es.find? (isDir d)=none∧fs.find? (isDir d)=none)∨∃e f,es.find? (isDir d)=some e∧fs.find? (isDir d)=some f∧j5 R e f:=by
 induction h with
 |nil=>exact .inl ⟨rfl,rfl⟩
 | @cons e f es fs r _ ih=>
  have a:isDir d e=isDir d f:=by unfold isDir;rw[r.name,r.mode]
  rw[List.find?_cons,List.find?_cons,a];cases isDir d f with
  |true=>exact .inr ⟨e,f,rfl,rfl,r⟩
  |false=>exact ih
theorem xA:∀(ds:List (List UInt8)) {t u:Int},Sx L M t u→(bR L t ds).2=(bR M u ds).2∧((bR L t ds).2=0→Sx L M (bR L t ds).1 (bR M u ds).1)
 |[],t,u,h=>⟨rfl,fun _=>h⟩
 |d::ds,t,u,h=>by
  unfold bR;rw[h.kind];split
  ·exact⟨rfl,fun h=>by cases h⟩
  ·rcases Fu (d:=d) h.out.2.2.ents with⟨a,b⟩|⟨e,f,a,b,r⟩
   ·rw[a,b];exact⟨rfl,fun h=>by cases h⟩
   ·rw[a,b];exact xA ds r.id
theorem C1{dir:List UInt8}{t u:Int}(h:Sx L M t u):(bt L t dir).2=(bt M u dir).2∧((bt L t dir).2=0→Sx L M (bt L t dir).1 (bt M u dir).1):=by
 unfold bt;split
 ·rename_i a;exact⟨rfl,fun h=>absurd h a⟩
 ·exact xA _ h
end Go.Nest
end
section
namespace Go.Nest
open Go Go.AM
section
variable {α β:Type} {R:α→β→Prop} {l:List α} {m:List β}
theorem A2.take(h:A2 R l m):∀n,A2 R (l.take n) (m.take n):=by
 induction h with
 |nil=>intro n;rw[List.take_nil,List.take_nil];exact .nil
 |cons r _ ih=>
  intro n;cases n with
  |zero=>exact .nil
  |succ n=>exact .cons r (ih n)
theorem A2.drop(h:A2 R l m):∀n,A2 R (l.drop n) (m.drop n):=by
 induction h with
 |nil=>intro n;rw[List.drop_nil,List.drop_nil];exact .nil
 |cons r t ih=>
  intro n;cases n with
  |zero=>exact .cons r t
  |succ n=>exact ih n
theorem A2.set(h:A2 R l m){a:α}{b:β}(c:R a b):∀n,A2 R (l.set n a) (m.set n b):=by
 induction h with
 |nil=>intro n;exact .nil
 |cons r t ih=>
  intro n;cases n with
  |zero=>exact .cons c t
  |succ n=>exact .cons r (ih n)
theorem A2.get(h:A2 R l m):∀n:Nat,(l[n]? =none∧m[n]? =none)∨∃a b,l[n]? =some a∧m[n]? =some b∧R a b:=by
 induction h with
 |nil=>intro n;exact .inl ⟨rfl,rfl⟩
 |cons r t ih=>
  intro n;cases n with
  |zero=>exact .inr ⟨_,_,rfl,rfl,r⟩
  |succ n=>exact ih n
theorem A2.idx{p:α→Bool}{q:β→Bool}(h:A2 R l m)(k:∀a∈l,∀b∈m,R a b→p a=q b):bh p l=bh q m:=by
 have e:l.findIdx? p=m.findIdx? q:=by
  induction h with
  |nil=>rfl
  |cons r _ ih=>rw[List.findIdx?_cons,List.findIdx?_cons,k _ (by simp) _ (by simp) r,ih fun x c y d=>k x (by simp[c]) y (by simp[d])]
 unfold bh;rw[e]
theorem A2.while{p:α→Bool}{q:β→Bool}(h:A2 R l m)(k:∀a∈l,∀b∈m,R a b→p a=q b):A2 R (l.takeWhile p) (m.takeWhile q):=by
 induction h with
 |nil=>exact .nil
 |cons r _ ih=>
  rw[List.takeWhile_cons,List.takeWhile_cons,k _ (by simp) _ (by simp) r];split
  ·exact .cons r (ih fun x c y d=>k x (by simp[c]) y (by simp[d]))
  ·exact .nil
end
variable {L M L' M':List Ob} {k j:Int}
structure j7(R:Int→Int→Prop)(x y:It):Prop where
 path:x.path=y.path
 bytes:x.bytes=y.bytes
 link:x.link=y.link
 ar:x.ar=y.ar
 id:x.link=true→R x.id y.id
abbrev fE(L M:List Ob)(l m:List It):=A2 (j7 (Sx L M)) l m
theorem fE.grow{l m:List It}(h:fE L M l m)(a:L<+:L')(hy:M<+:M'):fE L' M' l m:=h.imp fun _ _ _ _ r=>⟨r.path,r.bytes,r.link,r.ar,fun k=>(r.id k).grow a hy⟩
def gZ(L M:List Ob)(h i:Int):Prop:=(h<0∧i<0)∨(Sx L M h i∧kindOf L h=3)
theorem gZ.grow{a b:Int}(h:gZ L M a b)(c:L<+:L')(hy:M<+:M'):gZ L' M' a b:=h.imp id fun⟨s,k⟩=>⟨s.grow c hy,eG c k⟩
theorem gZ.neg{a b:Int}(h:gZ L M a b):a<0↔b<0:=by
 rcases h with⟨a,b⟩|⟨s,-⟩
 ·exact⟨fun _=>b,fun _=>a⟩
 ·have:=s.pos;omega
theorem EN{R:Int→Int→Prop}{l m:List It}(h:A2 (j7 R) l m):l.map dZ=m.map dZ:=h.same fun a _ b _ r=>by unfold dZ;rw[r.path,r.bytes]
theorem uE:∀{l m:List It} {L M:List Ob} {out a:List Fi},ae L→ae M→fE L M l m→cV L M out a→(bf L l out).2.1≠15→(bf M m a).2.1≠15→(bf L l out).2.1=(bf M m a).2.1∧cV (bf L l out).2.2 (bf M m a).2.2 (bf L l out).1 (bf M m a).1
 |[],[],L,M,out,a,i,j,_,b,c,d=>⟨rfl,b⟩
 |[],_::_,L,M,out,a,i,j,h,b,c,d=>by cases h
 |_::_,[],L,M,out,a,i,j,h,b,c,d=>by cases h
 |x::l,y::m,L,M,out,a,i,j,h,b,c,d=>by
  obtain⟨r,t⟩:j7 (Sx L M) x y∧fE L M l m:=by
   cases h with
   |cons r t=>exact⟨r,t⟩
  unfold bf at c d⊢;rw[r.link]at c⊢;by_cases g:y.link=true
  ·rw[if_pos g]at c d⊢;rw[if_pos g];exact uE i j t (b.app (.one ⟨r.path,rfl,r.ar,r.id (r.link.trans g)⟩)) c d
  ·rw[if_neg g]at c d⊢;rw[if_neg g];have hb:ez (Sx L M) (dq x.bytes) (dq y.bytes):=⟨rfl,r.bytes,rfl,.nil,fun h=>absurd h (by show¬(1:Int)=3;decide),fun _=>rfl,.nil⟩;obtain⟨e,f⟩:=oJ (by show(1:Int)≠0;decide) hb (fun z=>c (by rw[if_pos (by rw[z];decide)];exact z)) (fun z=>d (by rw[if_pos (by rw[z];decide)];exact z));by_cases z:(ao L (dq x.bytes)).2.1=0
   ·have n:(ao M (dq y.bytes)).2.1=0:=e▸z;rw[if_neg (fun k=>k z)]at c⊢;rw[if_neg (fun k=>k n)]at d⊢;exact uE (fK i _) (fK j _) (t.grow (dS _) (dS _)) ((b.grow (dS _) (dS _)).app (.one ⟨r.path,rfl,rfl,f z⟩)) c d
   ·have n:(ao M (dq y.bytes)).2.1≠0:=e▸z;rw[if_pos z,if_pos n];exact⟨e,.nil⟩
theorem Cg(b:ae L)(hq:ae M){l m:List It}(h:fE L M l m)(c:(aE L l).2.1≠15)(d:(aE M m).2.1≠15):(aE L l).2.1=(aE M m).2.1∧((aE L l).2.1=0→Sx (aE L l).2.2 (aE M m).2.2 (aE L l).1 (aE M m).1):=by
 unfold aE at c d⊢;obtain⟨e,f⟩:=uE b hq h .nil (fun z=>c (by rw[if_pos (by rw[z];decide)];exact z)) (fun z=>d (by rw[if_pos (by rw[z];decide)];exact z));by_cases z:(bf L l []).2.1=0
 ·have a:(bf M m []).2.1=0:=e▸z;rw[if_neg (fun k=>k z)]at c⊢;rw[if_neg (fun k=>k a)]at d⊢;exact xS (lZ b).1 (lZ hq).1 f c d
 ·have a:(bf M m []).2.1≠0:=e▸z;rw[if_pos z,if_pos a];exact⟨e,fun h=>absurd h z⟩
theorem BN(f:ae L)(hq:ae M){l m:List It}{a b t u:Int}(hl:l.length=m.length)(h:gZ L M a b)(s:Sx L M t u):jW L l a t=jW M m b u:=by
 unfold jW;rcases h with⟨c,d⟩|⟨c,e⟩
 ·rw[if_pos c,if_pos d,hl]
 ·have:=c.pos;rw[if_neg (by omega),if_neg (by omega)];exact decide_eq_decide.2 (Sx.iff f hq (c.out.2.2.tree (by rw[cH];exact e)) s)
theorem x9{l:List It}{a:Int}(c:eD L l a≠15):(aE L l).2.1≠15:=fun z=>c (by unfold eD;rw[if_pos (by rw[z];decide),z])
theorem x8(i:ae L)(hq:ae M){l m:List It}{a b:Int}(h:fE L M l m)(hd:gZ L M a b)(c:eD L l a≠15)(d:eD M m b≠15):eD L l a=eD M m b:=by
 obtain⟨e,f⟩:=Cg i hq h (x9 c) (x9 d);obtain⟨j,n⟩:=eV (l:=l) i;obtain⟨o,p⟩:=eV (l:=m) hq;unfold eD;by_cases z:(aE L l).2.1=0
 ·have g:(aE M m).2.1=0:=e▸z;rw[if_neg (fun k=>k z),BN j o h.len (hd.grow n p) (f z),if_neg (show¬(aE M m).2.1≠0 from fun k=>k g)]
 ·have g:(aE M m).2.1≠0:=e▸z;rw[if_pos z,if_pos g];exact e
theorem Aa{l m:List Fi}(h:cV L M l m):fE L M (l.map (ca L)) (m.map (ca M)):=h.map fun f _ g _ r=>by
 unfold ca;rw[r.mode];split
 ·exact⟨r.path,rfl,rfl,r.ar,fun _=>r.id⟩
 ·exact⟨r.path,r.id.out.2.2.bytes,rfl,rfl,fun h=>by cases h⟩
theorem GV(g:ae L)(hq:ae M){l m:List It}{fs a:List Fi}(h:fE L M l m)(b:cV L M fs a)(c:eQ L fs≠15)(d:eQ M a≠15):eQ L fs=eQ M a∧fE (bC L fs).2.2 (bC M a).2.2 (ji L l fs) (ji M m a):=by
 unfold eQ at c d⊢;obtain⟨e,f⟩:=xS g hq b c d;obtain⟨k,i⟩:=ib g fs;obtain⟨n,j⟩:=ib hq a;refine⟨e,?_⟩;unfold ji;rw[e];split
 ·exact h.grow i j
 ·exact Aa (b.grow i j)
theorem DU(o:ae L)(hq:ae M){l m:List It}{a b id f:Int}(h:fE L M l m)(hd:gZ L M a b)(hi:Sx L M id f)(k3:kindOf L id=3)(c:dG L l a id≠15)(d:dG M m b f≠15):
  dG L l a id=dG M m b f∧fE (eN L l id) (eN M m f) (iH L l a id) (iH M m b f)∧gZ (eN L l id) (eN M m f) (ig L l a id) (ig M m b f):=by
 have g:kindOf M f=3:=hi.kind▸k3;have r:eN L l id=(aE L l).2.2:=if_neg (fun k=>k k3);have s:eN M m f=(aE M m).2.2:=if_neg (fun k=>k g);have p:eD L l a≠15:=fun z=>c (by unfold dG;rw[if_neg (fun k=>k k3),if_pos (by rw[z];decide)];exact z);have q:eD M m b≠15:=fun z=>d (by unfold dG;rw[if_neg (fun k=>k g),if_pos (by rw[z];decide)];exact z);have e:=x8 o hq h hd p q;obtain⟨v,i⟩:=eV (l:=l) o;obtain⟨w,j⟩:=eV (l:=m) hq;obtain⟨t,u⟩:=yT ((hi.out.2.2.tree (by rw[cH];exact k3)).grow i j)
 have n:dG L l a id=dG M m b f:=by
  unfold dG;rw[if_neg (fun k=>k k3),e,t,if_neg (show¬kindOf M f≠3 from fun k=>k g)]
 refine⟨n,?_⟩;rw[r,s];unfold iH ig;rw[n];split
 ·exact⟨h.grow i j,hd.grow i j⟩
 ·exact⟨Aa u,.inr ⟨hi.grow i j,eG i k3⟩⟩
theorem Bf{R:Int→Int→Prop}{l m:List It}{x y:It}(h:A2 (j7 R) l m)(r:j7 R x y):(eT l x).1=(eT m y).1∧A2 (j7 R) (eT l x).2 (eT m y).2:=by
 have c:l.any (ll x.path)=m.any (ll y.path):=h.any fun a _ b _ s=>by unfold ll;rw[r.path,s.path]
 have d:bh (dF x.path) l=bh (dF y.path) m:=h.idx fun a _ b _ s=>by unfold dF;rw[r.path,s.path]
 have e:ir l x.path=ir m y.path:=by
  unfold ir;exact(h.while fun a _ b _ s=>by rw[r.path,s.path]).len
 unfold eT;rw[c,d,e,r.path,h.len];split
 ·exact⟨rfl,h⟩
 split
 ·exact⟨rfl,h⟩
 split
 ·exact⟨rfl,h.set r _⟩
 split
 ·exact⟨rfl,h⟩
 ·exact⟨rfl,(h.take _).app (.cons r (h.drop _))⟩
theorem IS{R:Int→Int→Prop}{l m:List It}{p:List UInt8}(h:A2 (j7 R) l m):(fZ l p).1=(fZ m p).1∧A2 (j7 R) (fZ l p).2 (fZ m p).2:=by
 have c:bh (dF p) l=bh (dF p) m:=h.idx fun a _ b _ s=>by unfold dF;rw[s.path]
 unfold fZ;rw[c];split
 ·exact⟨rfl,h⟩
 ·exact⟨rfl,(h.take _).app (h.drop _)⟩
theorem Kz{R:Int→Int→Prop}{l m:List It}{p b:List UInt8}(h:A2 (j7 R) l m):(fN l p b).1=(fN m p b).1∧A2 (j7 R) (fN l p b).2 (fN m p b).2:=by
 unfold fN;split
 ·exact⟨rfl,h⟩
 ·exact Bf h ⟨rfl,rfl,rfl,rfl,fun h=>by cases h⟩
theorem He{l m:List It}{p:List UInt8}{q id a:Int}(h:fE L M l m)(hi:Sx L M id a):(fp L l p q id).1=(fp M m p q a).1∧fE L M (fp L l p q id).2 (fp M m p q a).2:=by
 unfold fp;rw[hi.kind];split
 ·exact⟨rfl,h⟩
 split
 ·exact⟨rfl,h⟩
 ·exact Bf h ⟨rfl,rfl,rfl,rfl,fun _=>hi⟩
structure mN(R:Int→Int→Prop)(x y:Rf):Prop where
 name:x.name=y.name
 id:R x.id y.id
abbrev kS(L M:List Ob)(l m:List Rf):=A2 (mN (Sx L M)) l m
theorem kS.grow{l m:List Rf}(h:kS L M l m)(a:L<+:L')(hy:M<+:M'):kS L' M' l m:=h.imp fun _ _ _ _ r=>⟨r.name,r.id.grow a hy⟩
theorem wa{R:Int→Int→Prop}{l m:List Rf}(h:A2 (mN R) l m)(n:List UInt8):aY l n=aY m n:=by
 unfold aY;exact(h.while fun a _ b _ s=>by rw[s.name]).len
theorem rE{R:Int→Int→Prop}{l m:List Rf}(h:A2 (mN R) l m)(n:List UInt8):dz l n=dz m n:=by
 unfold dz;rw[wa h];rcases h.get (aY m n)with⟨a,b⟩|⟨x,y,a,b,r⟩
 ·rw[a,b]
 ·rw[a,b,Option.map_some,Option.map_some,r.name]
theorem ng{l m:List Rf}(h:kS L M l m)(n:List UInt8):(a6 l n= -1∧a6 m n= -1)∨Sx L M (a6 l n) (a6 m n):=by
 unfold a6;rw[wa h];rcases h.get (aY m n)with⟨a,b⟩|⟨x,y,a,b,r⟩
 ·rw[a,b];exact .inl ⟨rfl,rfl⟩
 ·rw[a,b];dsimp only;rw[r.name];split
  ·exact .inr r.id
  ·exact .inl ⟨rfl,rfl⟩
theorem Kt{R:Int→Int→Prop}{l m:List Rf}(h:A2 (mN R) l m)(n:List UInt8){a b:Int}(e:R a b∨(a<0∧b<0))(g:R a b→¬a<0∧¬b<0)(hn:(a<0∧b<0)→dz l n=true):A2 (mN R) (iU l n a) (iU m n b):=by
 unfold iU kz;rw[rE h,wa h];rw[rE h]at hn;rcases e with r|r
 ·obtain⟨c,d⟩:=g r;rw[if_neg c,if_neg d];split
  ·exact(h.take _).app (.cons (show mN R ⟨n,a⟩ ⟨n,b⟩from⟨rfl,r⟩) (h.drop _))
  ·exact h.set (show mN R ⟨n,a⟩ ⟨n,b⟩from⟨rfl,r⟩) _
 ·have f:¬(true=false):=by decide
  rw[hn r,if_neg f,if_pos r.1,if_neg f,if_pos r.2];exact(h.take _).app (h.drop _)
end Go.Nest
end
