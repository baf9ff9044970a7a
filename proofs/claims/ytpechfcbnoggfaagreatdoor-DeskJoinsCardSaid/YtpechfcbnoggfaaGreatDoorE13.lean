import Derived.Test.YtpechfcbnoggfaaGreatDoorE12
import Derived.Lib.UnsafeStr
set_option linter.unusedVariables false
set_option linter.unusedSimpArgs false
open Array renaming getElem?_eq_some_iff->a0,getElem?_modify->a2
open Nat renaming le_of_ble_eq_true->a1
section
namespace Go.Nest
open Go Go.AM Go.NB Go.Proofs
open Go.Proofs.YtpechfcbnoggfaaGreatDoor (tab tabOk)
set_option maxRecDepth 4000
theorem Ah{F:Nat->Prop}{H:ae}{m:Md}:∀{l:List UInt8} {cs:List Value},RL F H m (l.flatMap aN) cs->cs=l.map bv
 |[],cs,h=>by cases h;rfl
 |x::l,cs,h=>by
  have h:RL F H m (.int .u8 x.toNat::l.flatMap aN) cs:=h;cases h with
  |int t=>rw[Ah t];rfl
theorem WR.iF{E:En}{F:Nat->Prop}{γ:List Value}{ah:List B}{H:ae}(h:WR E F γ ah H){k:Nat}(hk:k<H.size)(l:∀(j:Nat) (b:B) (g:Value),ah[j]? =some b->γ[j]? =some g->k∉aC b g)(i:E.own k\/E.H0.size<=k):
  WR E (λq=>F q\/q=k) γ ah H:=by
 have e:Ext F H ⟨E.B,γ⟩ (λq=>F q\/q=k) H ⟨E.B,γ⟩:=kZ λ_ h=>.inl h;refine⟨h.len,λj b g f d=>BR.ext e (λ_ _=>rfl) (h.br j b g f d),h.disj,λj b g q f d a=>⟨λm=>m.elim (h.nf j b g q f d a).1 (λc=>l j b g f d (c▸a)),(h.nf j b g q f d a).2⟩,λq a=>a.elim (h.fb q) (λc=>c▸hk),h.bb,h.size,h.cn,λq a=>.inl (h.fmono q a),λq a=>a.elim (h.fnew q) (λc=>c▸.inr i),h.onew,h.pre,h.gl⟩
theorem V.Oa{c:Cx}{o:Oper}{env:Env}{S:ae->Prop}{x:Operand}{t:TypeId}{k n cap:Nat}(ho:o.op= .call {callee:= .builtin .unsafeSliceData,args:= #[x],argTypes:= #[t]})(d:Ev env x (.slice (some ⟨k,0,none⟩) n (cap+1))):bo c o env S (.pointer (some ⟨k,0,none⟩)):=λa w b _ _=>by
 unfold execOp;rw[ho];simp[resolve,invoke,builtin,b.eval d,Lib.run_unsafeSliceData_row]
theorem Eu{P:Program}{o:Oper}{a:Act}{w w':World}{x y:Operand}{c b:TypeId}{p q v:Value}(ho:o.op= .call {callee:= .builtin .unsafeString,args:= #[x,y],argTypes:= #[c,b]})(d:a.eval x=p)(hy:a.eval y=q)
  (hr:∀ty,(Builtin.unsafeString_ #[c,b] ty #[p,q]).run P w= .ok v w'):(execOp a.eval o).run P w= .ok (.value v) w':=by
 unfold execOp;rw[ho];simp[resolve,invoke,builtin,d,hy,hr]
theorem OX{H:ae}{b k cap:Nat}{a c2:Value}{cur:Array Value}{l:List UInt8}(hb:H[b]? =some (.cells #[a,.slice (some ⟨k,0,none⟩) l.length (cap+1),c2] 111 (0,0)))
  (hk:H[k]? =some (.cells cur 5 (0,0)))(f:l≠[])(hn:l.length<=9223372036854775807)(hl:l.length<=cur.size)(d:∀j x,l[j]? =some x->cell H k (0+j)=some (bv x)):
  cg Tryz.prog 48 #[.pointer (some ⟨b,0,none⟩)] H (λv H'=>v=NB.str l/\au [k] H H'/\∃fr,H'[k]? =some (.cells cur 5 fr)):=by
 have hc:∀H',Is H H'->cell H' b 1=some (.slice (some ⟨k,0,none⟩) l.length (cap+1)):=λH' h=>by rw[h];unfold cell;rw[hb];rfl
 refine enter (args:=[.pointer (some ⟨b,0,none⟩)]) Tryz.call48 Tryz.func48 rfl Tryz.ntmps48 (a1 rfl) λW0 Q n=>?_
 repeat' first
      |with_reducible refine WC.seq ?_
      |with_reducible refine WC.region ?_
      |with_reducible refine WL.nil ?_
      |with_reducible refine SL.nil ?_
      |with_reducible refine NX.go ?_
      |with_reducible refine WC.ret ?_
      |with_reducible refine NX.dJ ?_
      |((with_reducible refine a8 ?_);first|refine WL.ab rfl rfl rfl (V.move rfl ⟨_,rfl,rfl⟩) ?_|refine WL.ab rfl rfl rfl (V.assign rfl ⟨_,rfl,rfl⟩) ?_|fail)
      |((with_reducible refine fk ?_);first|refine SL.ab rfl rfl rfl (V.move rfl ⟨_,rfl,rfl⟩) ?_|refine SL.ab rfl rfl rfl (V.nilCheck rfl ⟨_,rfl,rfl⟩) ?_|refine SL.ab rfl rfl rfl (V.fieldAddr 1 rfl Tryz.underlying109 rfl Tryz.sizeOf33 (by decide) ⟨_,rfl,rfl⟩ rfl) ?_|refine SL.ab rfl rfl rfl (V.je rfl Tryz.isAgg33 ⟨_,rfl,rfl⟩ hc) ?_|refine SL.ab rfl rfl rfl (V.fU Tryz.underlying33 rfl ⟨_,rfl,rfl⟩) ?_|fail)
 refine WC.tail 10 (by kernel_rfl) (by kernel_rfl) ?_
 repeat' first
      |with_reducible refine WC.seq ?_
      |with_reducible refine WC.region ?_
      |with_reducible refine WL.nil ?_
      |with_reducible refine SL.nil ?_
      |with_reducible refine NX.go ?_
      |with_reducible refine WC.ret ?_
      |with_reducible refine NX.dJ ?_
      |((with_reducible refine a8 ?_);first|refine WL.ab rfl rfl rfl (V.move rfl ⟨_,rfl,rfl⟩) ?_|refine WL.ab rfl rfl rfl (V.assign rfl ⟨_,rfl,rfl⟩) ?_|fail)
      |((with_reducible refine fk ?_);first|refine SL.ab rfl rfl rfl (V.move rfl ⟨_,rfl,rfl⟩) ?_|refine SL.ab rfl rfl rfl (V.nilCheck rfl ⟨_,rfl,rfl⟩) ?_|refine SL.ab rfl rfl rfl (V.fieldAddr 1 rfl Tryz.underlying109 rfl Tryz.sizeOf33 (by decide) ⟨_,rfl,rfl⟩ rfl) ?_|refine SL.ab rfl rfl rfl (V.je rfl Tryz.isAgg33 ⟨_,rfl,rfl⟩ hc) ?_|refine SL.ab rfl rfl rfl (V.fU Tryz.underlying33 rfl ⟨_,rfl,rfl⟩) ?_|fail)
 refine SL.ab rfl rfl rfl (V.Oa rfl ⟨_,rfl,rfl⟩) ?_
 repeat' first
      |with_reducible refine WC.seq ?_
      |with_reducible refine WC.region ?_
      |with_reducible refine WL.nil ?_
      |with_reducible refine SL.nil ?_
      |with_reducible refine NX.go ?_
      |with_reducible refine WC.ret ?_
      |with_reducible refine NX.dJ ?_
      |((with_reducible refine a8 ?_);first|refine WL.ab rfl rfl rfl (V.move rfl ⟨_,rfl,rfl⟩) ?_|refine WL.ab rfl rfl rfl (V.assign rfl ⟨_,rfl,rfl⟩) ?_|fail)
      |((with_reducible refine fk ?_);first|refine SL.ab rfl rfl rfl (V.move rfl ⟨_,rfl,rfl⟩) ?_|refine SL.ab rfl rfl rfl (V.nilCheck rfl ⟨_,rfl,rfl⟩) ?_|refine SL.ab rfl rfl rfl (V.fieldAddr 1 rfl Tryz.underlying109 rfl Tryz.sizeOf33 (by decide) ⟨_,rfl,rfl⟩ rfl) ?_|refine SL.ab rfl rfl rfl (V.je rfl Tryz.isAgg33 ⟨_,rfl,rfl⟩ hc) ?_|refine SL.ab rfl rfl rfl (V.fU Tryz.underlying33 rfl ⟨_,rfl,rfl⟩) ?_|fail)
 refine WL.oF (Φ:=λv H'=>v=NB.str l/\au [k] H H'/\∃fr,H'[k]? =some (.cells cur 5 fr)) rfl rfl rfl (λa w g r=>?_) (λv H' h=>?_)
 ·subst r;refine⟨NB.str l,w.freeze ⟨k,0,none⟩ l.length,?_,⟨rfl,?_,?_⟩,?_⟩
  ·exact Eu rfl (g.eval ⟨_,rfl,rfl⟩) (g.eval ⟨_,rfl,rfl⟩) (λty=>Lib.run_unsafeString_row (P:=Tryz.prog) w 183 3 ty 5 Tryz.underlying183 (by kernel_rfl) k cur.size (by unfold World.shape?;rw[hk]) l f hl hn (λj x o=>by rw[Addr.add_lit,dG rfl];exact d j x o))
  ·have c:l.length≠0:=by simpa using f
   refine⟨by unfold World.freeze;rw[if_neg c];simp,λq s p=>?_⟩;unfold World.freeze;rw[if_neg c];simp only[a2];rw[if_neg (λe=>p (by simp[e]))]
  ·have c:l.length≠0:=by simpa using f
   unfold World.freeze;rw[if_neg c];simp only[a2,if_true,hk];exact⟨_,rfl⟩
  ·unfold World.freeze;split
   ·exact bA.refl _
   ·exact bA.of rfl rfl rfl
 obtain⟨rfl,i,m⟩:=h
 repeat' first
      |with_reducible refine WC.seq ?_
      |with_reducible refine WC.region ?_
      |with_reducible refine WL.nil ?_
      |with_reducible refine SL.nil ?_
      |with_reducible refine NX.go ?_
      |with_reducible refine WC.ret ?_
      |with_reducible refine NX.dJ ?_
      |((with_reducible refine a8 ?_);first|refine WL.ab rfl rfl rfl (V.move rfl ⟨_,rfl,rfl⟩) ?_|refine WL.ab rfl rfl rfl (V.assign rfl ⟨_,rfl,rfl⟩) ?_|fail)
      |((with_reducible refine fk ?_);first|refine SL.ab rfl rfl rfl (V.move rfl ⟨_,rfl,rfl⟩) ?_|refine SL.ab rfl rfl rfl (V.nilCheck rfl ⟨_,rfl,rfl⟩) ?_|refine SL.ab rfl rfl rfl (V.fieldAddr 1 rfl Tryz.underlying109 rfl Tryz.sizeOf33 (by decide) ⟨_,rfl,rfl⟩ rfl) ?_|refine SL.ab rfl rfl rfl (V.je rfl Tryz.isAgg33 ⟨_,rfl,rfl⟩ hc) ?_|refine SL.ab rfl rfl rfl (V.fU Tryz.underlying33 rfl ⟨_,rfl,rfl⟩) ?_|fail)
 exact gW n rfl rfl ⟨_,rfl,rfl⟩ ⟨rfl,i,m⟩
theorem OY(l:List UInt8)(h0:l≠[]):aa Tryz.prog 48 [.c (.ptr 0 0)] [.box [.ptr 0 0,.rw 1,.ptr 2 0] (some 111),.buf 5 1 UInt8 aN l,.dead]
  (Rt (.c (.str l)) [.box [.ptr 0 0,.ls 1 UInt8 aN l,.ptr 2 0] (some 111),.dead,.dead]):=by
 intro F L γ H vs m i;match vs,m with
 |[v],⟨hv,_⟩=>
  cases hv with
  | @ptr _ _ _ b _ _ s _=>
   have s:γ[0]? =some (.pointer (some ⟨b,0,none⟩)):=s;obtain⟨kb,e,us,he,J,K⟩:=i.br 0 _ _ rfl s;obtain rfl:b=kb:=by simpa using he
   have K:RL F H ⟨L,γ⟩ [.ptr 0 0,.rw 1,.ptr 2 0] us:=K;cases K with
   | @ptr _ _ _ b0 _ ar R t0=>
    cases t0 with
    | @rw _ _ p q n cap _ y a r t1=>
     have a:γ[1]? =some (.slice p n cap):=a
     obtain⟨z,rfl⟩:∃z,y=[z]:=by
      have:=t1.length;match y,this with
      |[z],_=>exact⟨z,rfl⟩
     rcases i.br 1 _ _ rfl a with⟨p',hp,ac⟩|⟨k,f,E,ap,ao,h3,h4,h5,h6,h7,h8,h9⟩
     ·exact absurd ac h0
     obtain⟨rfl,rfl,rfl⟩:p=some ⟨k,0,none⟩/\n=l.length/\cap=f+1:=by simpa using ao
     obtain rfl:=r (by omega);obtain rfl:=Ah h7;rw[List.length_map]at h9
     have hm:∀D:ae,(∃fr,D[k]? =some (.cells E 5 fr))->∀j u,(l.map bv)[j]? =some u->cell D k (0+j)=some u:=λD ⟨fr,Y⟩ j u o=>by
      unfold cell;rw[Y,Nat.zero_add]
      have U:j<l.length:=by
       have:=(List.getElem?_eq_some_iff.1 o).1;simpa using this
      rw[<-h9,List.getElem?_take_of_lt U,Array.getElem?_toList]at o;exact o
     have w:l.length<=9223372036854775807:=Nat.le_trans h4 h5;refine(cg.qa (OX J h3 h0 w (by omega) (λj x o=>hm H ⟨_,h3⟩ j _ (by rw[List.getElem?_map,o];rfl)))).mono λok v H' ⟨am,hv,q1,q2⟩=>?_;subst am hv;have d:aC (.buf 5 1 UInt8 aN l) (.slice (some ⟨k,0,none⟩) l.length (f+1))=[k]:=rfl;have al:aC (.box [.ptr 0 0,.rw 1,.ptr 2 0] (some 111)) (.pointer (some ⟨b,0,none⟩))=[b]:=rfl;have Q:b≠k:=λe=>i.disj 0 1 _ _ _ _ (by decide) rfl s rfl a b (by rw[al];simp) (by rw[d,e];simp);have M:=i.aA (j:=1) (b1:= .dead) rfl a (by rw[d];exact q1) (λq r=>by simp[aC]at r) trivial
     have Z:k<H'.size:=by
      obtain⟨fr,h⟩:=q2;exact(a0.1 h).1
     have N := WR.iF M Z (λj b' g o S t=>by
      rcases pn o with⟨ad,T⟩|⟨rfl,_,rfl⟩
      ·exact i.disj j 1 _ _ _ _ ad T S rfl a k t (by rw[d];simp)
      ·simp[aC]at t) (i.onew 1 _ _ k rfl a (by rw[d];simp))
     have ex:=i.ext (γ':=[]) (W:=[k]) (λq r=>i.nf 1 _ _ q rfl a (by rw[d];exact r)) q1;rw[List.append_nil]at ex;have I:Ext F H' ⟨L,γ⟩ (λq=>F q\/q=k) H' ⟨L,γ⟩:=kZ λ_ h=>.inl h;have P:=q1.2 b (a0.1 J).1 (by simpa using Q);have O:=N.aA (j:=0) (b1:= .box [.ptr 0 0,.ls 1 UInt8 aN l,.ptr 2 0] (some 111)) rfl s (au.refl _ _) (λq r=>r) ⟨b,111,_,rfl,P.trans J,.ptr R (.ls (.inr rfl) h4 h5 (pg l) (λ_ _=>rfl) (hm H' q2) ((t1.ext ex).ext I))⟩;exact⟨.ret (.c (.str l)),_,_,γ,⟨rfl,rfl⟩,rfl,rfl,rfl,.str w .nl,O⟩
theorem V.Oc{c:Cx}{o:Oper}{env:Env}{S:ae->Prop}{x:Operand}{t:TypeId}{n cap:Nat}(ho:o.op= .call {callee:= .builtin .unsafeSliceData,args:= #[x],argTypes:= #[t]})(d:Ev env x (.slice none n cap)):bo c o env S (.pointer none):=λa w b _ _=>by
 unfold execOp;rw[ho];simp[resolve,invoke,builtin,b.eval d,Lib.run_unsafeSliceData_nil]
theorem OV{H:ae}{b:Nat}{a c2:Value}(hb:H[b]? =some (.cells #[a,.slice none 0 0,c2] 111 (0,0))):
  cg Tryz.prog 48 #[.pointer (some ⟨b,0,none⟩)] H (λv H'=>v=NB.str []/\H'=H):=by
 have hc:∀H',Is H H'->cell H' b 1=some (.slice none 0 0):=λH' h=>by rw[h];unfold cell;rw[hb];rfl
 refine enter (args:=[.pointer (some ⟨b,0,none⟩)]) Tryz.call48 Tryz.func48 rfl Tryz.ntmps48 (a1 rfl) λW0 Q d=>?_
 repeat' first
      |with_reducible refine WC.seq ?_
      |with_reducible refine WC.region ?_
      |with_reducible refine WL.nil ?_
      |with_reducible refine SL.nil ?_
      |with_reducible refine NX.go ?_
      |with_reducible refine WC.ret ?_
      |with_reducible refine NX.dJ ?_
      |((with_reducible refine a8 ?_);first|refine WL.ab rfl rfl rfl (V.move rfl ⟨_,rfl,rfl⟩) ?_|refine WL.ab rfl rfl rfl (V.assign rfl ⟨_,rfl,rfl⟩) ?_|fail)
      |((with_reducible refine fk ?_);first|refine SL.ab rfl rfl rfl (V.move rfl ⟨_,rfl,rfl⟩) ?_|refine SL.ab rfl rfl rfl (V.nilCheck rfl ⟨_,rfl,rfl⟩) ?_|refine SL.ab rfl rfl rfl (V.fieldAddr 1 rfl Tryz.underlying109 rfl Tryz.sizeOf33 (by decide) ⟨_,rfl,rfl⟩ rfl) ?_|refine SL.ab rfl rfl rfl (V.je rfl Tryz.isAgg33 ⟨_,rfl,rfl⟩ hc) ?_|refine SL.ab rfl rfl rfl (V.fU Tryz.underlying33 rfl ⟨_,rfl,rfl⟩) ?_|fail)
 refine WC.tail 10 (by kernel_rfl) (by kernel_rfl) ?_
 repeat' first
      |with_reducible refine WC.seq ?_
      |with_reducible refine WC.region ?_
      |with_reducible refine WL.nil ?_
      |with_reducible refine SL.nil ?_
      |with_reducible refine NX.go ?_
      |with_reducible refine WC.ret ?_
      |with_reducible refine NX.dJ ?_
      |((with_reducible refine a8 ?_);first|refine WL.ab rfl rfl rfl (V.move rfl ⟨_,rfl,rfl⟩) ?_|refine WL.ab rfl rfl rfl (V.assign rfl ⟨_,rfl,rfl⟩) ?_|fail)
      |((with_reducible refine fk ?_);first|refine SL.ab rfl rfl rfl (V.move rfl ⟨_,rfl,rfl⟩) ?_|refine SL.ab rfl rfl rfl (V.nilCheck rfl ⟨_,rfl,rfl⟩) ?_|refine SL.ab rfl rfl rfl (V.fieldAddr 1 rfl Tryz.underlying109 rfl Tryz.sizeOf33 (by decide) ⟨_,rfl,rfl⟩ rfl) ?_|refine SL.ab rfl rfl rfl (V.je rfl Tryz.isAgg33 ⟨_,rfl,rfl⟩ hc) ?_|refine SL.ab rfl rfl rfl (V.fU Tryz.underlying33 rfl ⟨_,rfl,rfl⟩) ?_|fail)
 refine SL.ab rfl rfl rfl (V.Oc rfl ⟨_,rfl,rfl⟩) ?_
 repeat' first
      |with_reducible refine WC.seq ?_
      |with_reducible refine WC.region ?_
      |with_reducible refine WL.nil ?_
      |with_reducible refine SL.nil ?_
      |with_reducible refine NX.go ?_
      |with_reducible refine WC.ret ?_
      |with_reducible refine NX.dJ ?_
      |((with_reducible refine a8 ?_);first|refine WL.ab rfl rfl rfl (V.move rfl ⟨_,rfl,rfl⟩) ?_|refine WL.ab rfl rfl rfl (V.assign rfl ⟨_,rfl,rfl⟩) ?_|fail)
      |((with_reducible refine fk ?_);first|refine SL.ab rfl rfl rfl (V.move rfl ⟨_,rfl,rfl⟩) ?_|refine SL.ab rfl rfl rfl (V.nilCheck rfl ⟨_,rfl,rfl⟩) ?_|refine SL.ab rfl rfl rfl (V.fieldAddr 1 rfl Tryz.underlying109 rfl Tryz.sizeOf33 (by decide) ⟨_,rfl,rfl⟩ rfl) ?_|refine SL.ab rfl rfl rfl (V.je rfl Tryz.isAgg33 ⟨_,rfl,rfl⟩ hc) ?_|refine SL.ab rfl rfl rfl (V.fU Tryz.underlying33 rfl ⟨_,rfl,rfl⟩) ?_|fail)
 refine WL.oF (Φ:=λv H'=>v=NB.str []/\H'=H) rfl rfl rfl (λa w c e=>?_) (λv H' h=>?_)
 ·exact⟨NB.str [],w,Eu rfl (c.eval ⟨_,rfl,rfl⟩) (c.eval ⟨_,rfl,rfl⟩) (λty=>Lib.run_unsafeString_none (P:=Tryz.prog) (w:=w) 183 3 ty none),⟨rfl,e⟩,bA.refl _⟩
 obtain⟨rfl,h1⟩:=h;subst h1
 repeat' first
      |with_reducible refine WC.seq ?_
      |with_reducible refine WC.region ?_
      |with_reducible refine WL.nil ?_
      |with_reducible refine SL.nil ?_
      |with_reducible refine NX.go ?_
      |with_reducible refine WC.ret ?_
      |with_reducible refine NX.dJ ?_
      |((with_reducible refine a8 ?_);first|refine WL.ab rfl rfl rfl (V.move rfl ⟨_,rfl,rfl⟩) ?_|refine WL.ab rfl rfl rfl (V.assign rfl ⟨_,rfl,rfl⟩) ?_|fail)
      |((with_reducible refine fk ?_);first|refine SL.ab rfl rfl rfl (V.move rfl ⟨_,rfl,rfl⟩) ?_|refine SL.ab rfl rfl rfl (V.nilCheck rfl ⟨_,rfl,rfl⟩) ?_|refine SL.ab rfl rfl rfl (V.fieldAddr 1 rfl Tryz.underlying109 rfl Tryz.sizeOf33 (by decide) ⟨_,rfl,rfl⟩ rfl) ?_|refine SL.ab rfl rfl rfl (V.je rfl Tryz.isAgg33 ⟨_,rfl,rfl⟩ hc) ?_|refine SL.ab rfl rfl rfl (V.fU Tryz.underlying33 rfl ⟨_,rfl,rfl⟩) ?_|fail)
 exact gW d rfl rfl ⟨_,rfl,rfl⟩ ⟨rfl,rfl⟩
theorem OW:aa Tryz.prog 48 [.c (.ptr 0 0)] [.box [.raw (.pointer none),.nil,.ptr 1 0] (some 111),.dead] (Rt (.c (.str [])) [.box [.raw (.pointer none),.nil,.ptr 1 0] (some 111),.dead]):=by
 intro F L γ H u a k;match u,a with
 |[v],⟨j,_⟩=>
  cases j with
  | @ptr _ _ _ b _ _ h _=>
   have h:γ[0]? =some (.pointer (some ⟨b,0,none⟩)):=h;obtain⟨p,e,s,n,l,g⟩:=k.br 0 _ _ rfl h;obtain rfl:b=p:=by simpa using n
   have g:RL F H ⟨L,γ⟩ [.raw (.pointer none),.nil,.ptr 1 0] s:=g;cases g with
   | @raw _ w _ t o q=>
    cases q with
    | @nil _ _ d r=>
     obtain⟨f,rfl⟩:∃f,d=[f]:=by
      have:=r.length;match d,this with
      |[f],_=>exact⟨f,rfl⟩
     refine(cg.qa (OV l)).mono λok v H' ⟨i,j,m⟩=>?_;subst i j m;exact⟨.ret (.c (.str [])),_,F,γ,⟨rfl,rfl⟩,rfl,rfl,rfl,.str (by decide) .nl,k⟩
end Go.Nest
end
