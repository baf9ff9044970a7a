import Derived.Test.YtpechfcbnoggfaaGreatDoorAm5
import Derived.Laws.IdiomStrings
set_option linter.unusedVariables false
set_option linter.unusedSimpArgs false
open Array renaming length_toList->eq,getElem?_set->eB,range->e7,map->gc
open Bool renaming and_eq_true->dl,not_eq_true->d3
open ByteArray renaming data_extract->f8,ext->gd
open List renaming replicate->c5,eq_nil_of_length_eq_zero->c6,length_take->c7,take_append_drop->c9,append_assoc->dc,length_drop->dk,flatMap_append->dp,getElem?_eq_some_iff->dq,mem_of_mem_take->dr,getElem?_eq_getElem->ds,append_nil->d0,drop_left'->d4,length_append->d5,flatMap_cons->d7,size_toArray->d8,getElem?_map->d9,mem_of_mem_drop->em,replicate_succ->eo,drop_zero->er,take_left->es,mem_replicate->eu,flatten_cons->eX,length_map->e4,mem_append->e6,take_zero->e9,getElem?_eq_none->fd,length_replicate->fi,drop_drop->fs,map_cons->fv,ext_getElem?->f0,getElem_mem->f2,take_length->f3,take_left'->f4,length_set->f5,drop_take->f6,length->f9
open Nat renaming eq_of_beq_eq_true->c4,beq->dg,le_of_ble_eq_true->dj,add_mul->ea,sub_self->ec,min_eq_left->eh,mul_le_mul_right->ek,ble->eY,zero_add->e0,le_mul_of_pos_right->e3,add_zero->fx,le_refl->f1
open Option renaming map_eq_some_iff->d1,bind_eq_some_iff->d6,map_map->f7
section
namespace Go.AM
open Go Go.NB
section
variable {P:Program} {tab:Nat->Option TD} {E:En} {F:Nat->Prop} {γ:List Value} {s:St} {a:Act} {w:World} {o:Oper} {k:A->Prop}
theorem NW{t:Nat}(b:P.underlying t=some .string)(l:List UInt8)(x y:Nat)(h1:x<=y)(h2:y<=l.length)(w:World):
  (Instr.sliceAt t (NB.str l) (some (.int .u8 (x:Nat))) (some (.int .u8 (y:Nat))) .none).run P w= .ok (NB.str ((l.take y).drop x)) w:=by
 have e:(⟨l.toArray⟩:ByteArray).size=l.length:=rfl
 have a:(⟨l.toArray⟩:ByteArray).extract x y=⟨((l.take y).drop x).toArray⟩:=by
  apply gd;simp[f8];rw[f6]
 simp[Instr.sliceAt,Instr.slice,run_underlying b,Instr.sliceBounds,Instr.sliceBound,asIntOf,NB.str,e,h1,h2,a]
theorem P7(H:bI P tab)(e:ER F w.heap ⟨E.B,γ⟩ s.env a){t:Nat}{x:Operand}{lo hi:Option Operand}(ho:o.op= .slice t x lo hi none)(h:yi tab s t x lo hi k):Yd P F ⟨E.B,γ⟩ a w o k:=by
 unfold yi at h;split at h
 ·rename_i d lo hi J;have u:=H.kind t d J;split at h
  ·rename_i l p q I M g f;rw[I]at u;obtain⟨i,j,⟨rfl,rfl⟩,⟨y,z⟩,h⟩:=h;have r:=bm e M;have c:=bm e g;have b:=bm e f;generalize K:a.eval x=v at r;generalize n:a.eval lo=Q at c;generalize m:a.eval hi=O at b;cases r with
   |str N _=>
    cases c with
    |int _=>
     cases b with
     |int _=>
      refine⟨_,_,h,.str (by rw[dk,c7];omega) .nl,λR _=>?_⟩;have D:=NW u l i j y z;unfold execOp;rw[ho];simp[K,n,m,D]
  ·exact h.elim
 ·exact h.elim
theorem P8(hT:bI P tab)(hE:ER F w.heap ⟨E.B,γ⟩ s.env a)(hW:WR E F γ s.ah w.heap){t:Nat}{x:Operand}{lo hi:Option Operand}(ho:o.op= .slice t x lo hi none)(h:Y1 tab s (.slice t x lo hi none) k):Yd P F ⟨E.B,γ⟩ a w o k:=by
 simp only[Y1]at h;split at h
 ·rename_i d am ad ht T S;have Q:=hT.kind t d ht;have T:=zp hE T;have S:=zp hE S
  have K:∀{p r:Value} {u J:Option Nat},am=u.map (λa=>((a:Nat):Int))->ad=J.map (λa=>((a:Nat):Int))->a.eval x=p->
    (∀w,(Instr.sliceAt t p (u.map λx=>.int .i64 (x:Nat)) (J.map λx=>.int .i64 (x:Nat)) none).run P w= .ok r w)->∀z,(execOp a.eval o).run P z= .ok (.value r) z:=λ{p r u J} H I hp D z=>by
   have O:lo.map a.eval=u.map λx=>.int .i64 (x:Nat):=by rw[T,H,f7];rfl
   have Z:hi.map a.eval=J.map λx=>.int .i64 (x:Nat):=by rw[S,I,f7];rfl
   unfold execOp;rw[ho];simp[O,Z,hp,D]
  split at h
  ·rename_i hd;rw[hd]at Q;split at h
   ·rename_i l hx;have m:=bm hE hx;obtain⟨N,U,h,D,J,u,M,H,I,i,f⟩:=o4 h;generalize n:a.eval x=v at m;cases m with
    |str hl _=>
     refine⟨_,_,h,.str (by rw[dk,c7];omega) .nl,λz _=>K H I n (λw=>?_) z⟩;have:=NV Q l u M (by rw[i,f];exact D) (by rw[f];exact J) w;rw[i,f]at this;exact this
   ·exact h.elim
  ·rename_i e hd;rw[hd]at Q;split at h
   ·rename_i _ _ de c ac hx;have m:=bm hE hx;have hz:=hT.size ac;split at h
    ·obtain⟨N,U,h,D,J,u,M,H,I,i,f⟩:=o4 h;obtain rfl:U=0:=by omega
     obtain rfl:N=0:=by omega
     generalize n:a.eval x=v at m;cases m;refine⟨_,_,h,.nil .nl,λz _=>K H I n (λw=>?_) z⟩;have:=rH Q hz none 0 0 u M (by rw[i,f];omega) (by rw[f];omega) w;rw[i,f]at this;simpa using this
    ·rename_i sz α Y l;obtain⟨g,y⟩:=bV h;obtain rfl:=c4 g;obtain⟨N,U,y,D,J,u,M,H,I,i,f⟩:=o4 y;obtain⟨p,cap,n,O,Z⟩:=m.sv.slice;have O:l.length<=cap:=O;rw[n]at m;refine⟨_,_,y,m.cut D J,λz _=>K H I n (λw=>?_) z⟩;have:=rH Q hz p l.length cap u M (by rw[i,f];exact D) (by rw[f];omega) w;rw[i,f]at this;exact this
    ·rename_i sz α Y l;obtain⟨g,y⟩:=bV h;obtain rfl:=c4 g;obtain⟨N,U,y,D,J,u,M,H,I,i,f⟩:=o4 y;have R:SV F w.heap ⟨_,α,Y,l⟩ (a.eval x):=hW.sl m rfl;obtain⟨p,cap,n,O,Z⟩:=R.slice;have O:l.length<=cap:=O;rw[n]at m R;refine⟨_,_,y,RL.AR R m D J,λz _=>K H I n (λw=>?_) z⟩;have:=rH Q hz p l.length cap u M (by rw[i,f];exact D) (by rw[f];omega) w;rw[i,f]at this;exact this
    ·rename_i j;split at h
     ·rename_i L hL;rw[LS.pM]at h;obtain⟨g,y⟩:=bV h;have g:=c4 g;obtain⟨N,U,y,D,J,u,M,H,I,i,f⟩:=o4 y;have R:SV F w.heap L (a.eval x):=hW.sl m hL;obtain⟨p,cap,n,O,Z⟩:=R.slice;rw[n]at m;cases m with
      |rw hg al _=>
       refine⟨_,_,y,.sw (q:=if cap=N then p else p.map (·.add (N*L.sz))) hg (by omega) (λe=>by rw[if_neg e,al (by omega)]) .nl,λz _=>K H I n (λw=>?_) z⟩;have:=rH Q hz p L.l.length cap u M (by rw[i,f];exact D) (by rw[f];omega) w;rw[i,f]at this;rw[g];exact this
     ·exact h.elim
    ·rename_i sz j l0 n0;split at h
     ·rename_i L hL;obtain⟨g,y⟩:=bV h;obtain rfl:=c4 g;obtain⟨N,U,y,D,J,u,M,H,I,i,f⟩:=o4 y;have R:∀v,RL F w.heap ⟨E.B,γ⟩ [.rw j] [v]->SV F w.heap L v:=λv n=>hW.sl n hL;generalize n:a.eval x=v at m;cases m with
      | @sw _ _ _ _ _ p q nn cap _ _ hg ap hq _=>
       obtain⟨p',W,he,O,Z⟩:=(R _ (.rw hg (λ_=>rfl) .nl)).slice;cases he;refine⟨_,_,y,.sw (q:=if cap-l0=N then q else q.map (·.add (N*de.size))) hg (by omega) (λe=>?_) .nl,λz _=>K H I n (λw=>?_) z⟩
       ·rw[if_neg (by omega)];by_cases q1:cap=l0
        ·obtain rfl:N=0:=by omega
         omega
        ·rw[hq q1,ea];rcases R _ (.rw hg (λ_=>rfl) .nl)with⟨p',e5,_⟩|⟨b,ar,W,ao,e5,_⟩
         ·simp at e5;omega
         ·simp at e5;obtain⟨rfl,rfl⟩:=e5;simp[Addr.add_lit,Nat.add_assoc]
       ·have:=rH Q hz q n0 (cap-l0) u M (by rw[i,f];exact D) (by rw[f];omega) w;rw[i,f]at this;rw[this,Nat.sub_sub]
     ·exact h.elim
    ·exact h.elim
   ·exact h.elim
  ·exact h.elim
 ·exact P7 hT hE ho h
theorem vB{H:ae}{m:Md}:∀(l:List UInt8) {css:List Value},RL F H m (l.flatMap aN) css->css=l.map bv
 |[],css,h=>by cases h;rfl
 |b::l,css,h=>by
  rw[d7]at h;cases h with
  |int t=>rw[vB l t];rfl
theorem PV(S:bI P tab)(hE:ER F w.heap ⟨E.B,γ⟩ s.env a)(hW:WR E F γ s.ah w.heap){t u:Nat}{x:Operand}(ho:o.op= .convert t u x)(h:Y1 tab s (.convert t u x) k):Yd P F ⟨E.B,γ⟩ a w o k:=by
 simp only[Y1]at h;split at h
 ·rename_i _ _ _ d d' c ht hu hx;have z:=S.kind t d ht;have g:=S.kind u d' hu;have H:=bm hE hx;unfold AJ at h
  have y:∀{p r:Value} (f:World),a.eval x=p->(convert t u p).run P f= .ok r f->(execOp a.eval o).run P f= .ok (.value r) f:=λf hp D=>by
   unfold execOp;rw[ho];simp[hp,D]
  split at h
  ·rename_i q1 q2 q3 n D K;rw[D]at z;rw[K]at g;generalize m:a.eval x=v at H;cases H with
   |int _=>exact⟨_,_,h,.int .nl,λf _=>y f m (by simp[convert,run_underlying z,run_underlying g,Conv.intToInt])⟩
  ·rename_i l D K;rw[D]at z;rw[K]at g;generalize m:a.eval x=v at H;cases H with
   |str q _=>exact⟨_,_,h,.str q .nl,λf _=>y f m (by simp[convert,run_underlying z,run_underlying g,NB.str])⟩
  ·rename_i e D K;rw[D]at z;rw[K]at g;split at h
   ·rename_i Y U;have i:=S.kind e Y U;split at h
    ·rename_i R;rw[R]at i;generalize m:a.eval x=v at H;cases H;refine⟨_,_,h,.str (by simp) .nl,λf _=>y f m ?_⟩;rw[run_convert_bytes_string f t u e none 0 0 z i g];rfl
    ·have R:Y.kind= .int .u8:=by assumption
     rw[R]at i;obtain⟨l,hL,h⟩:=h;have hs:=hW.sl H hL
     refine ⟨_, _, h, .str (by
      rcases hs with⟨p,m,q⟩|⟨b,N,cap,J,m,O,Q,Z,hz,M⟩
      ·have q:l=[]:=q;rw[q];simp
      ·have O:l.length<=cap:=O;have Q:cap<=9223372036854775807:=Q;omega) .nl,λf I=>y f rfl ?_⟩
     have I:au [] w.heap f.heap:=I.resolve_left (by rw[ho];simp[ja]);rcases hs with⟨p,m,q⟩|⟨b,N,cap,J,m,O,Q,Z,hz,M⟩
     ·rw[m];have q:l=[]:=q;subst q;rw[run_convert_bytes_string f t u e _ _ _ z i g];cases p with
      |none=>rfl
      |some W=>exact run_bytesToString f W 0 0 [] (by simpa using run_loadCells_list (P:=P) (w:=f) W [] (by simp))
     ·rw[m];have T:J=l.map bv:=vB l Z
      exact run_convert_bytes_back f t u e ⟨b, N, none⟩ cap l z i g (λj hj=>by
       rw[Addr.add_lit,dG rfl];refine gM (M j _ ?_) I (by simp);rw[T];simp[hj,bv])
    ·exact h.elim
   ·exact h.elim
  ·exact h.elim
 ·exact h.elim
theorem RT.get{H:ae}{m:Md}:∀{ts:List (Bool×List C)} {vs:List Value} {i:Nat} {g:Bool} {cs:List C},RT F H m ts vs->ts[i]? =some (g,cs)->∃us,vs[i]? =some (jF g us)/\RL F H m cs us/\(g=false->cs.length=1)
 |(_,_)::_,v::_,0,g,cs,⟨⟨us,b,c,d⟩,_⟩,a=>by
  cases a;exact⟨us,by rw[c];rfl,b,d⟩
 |_::ts,v::vs,i+1,g,cs,⟨_,h⟩,a=>by
  have:=RT.get (i:=i) h (by simpa using a);simpa using this
theorem PW(m:ER F w.heap ⟨E.B,γ⟩ s.env a){x:Operand}{i:Nat}(ho:o.op= .extract x i)(h:Y1 tab s (.extract x i) k):Yd P F ⟨E.B,γ⟩ a w o k:=by
 simp only[Y1]at h;split at h
 ·rename_i y r;have e:=nL m x;rw[r]at e;obtain⟨z,q,p⟩:=e;split at h
  ·rename_i g t n;obtain⟨f,j,d,u⟩:=p.get n
   have c:∀b:World,(execOp a.eval o).run P b= .ok (.value (jF g f)) b:=λb=>by
    unfold execOp;rw[ho];simp[q,Instr.extract,j]
   rcases kg h with⟨rfl,h⟩|⟨rfl,h⟩
   ·exact⟨_,_,h,⟨f,rfl,d⟩,λb _=>c b⟩
   ·split at h
    ·obtain⟨v,rfl,l⟩:=d.single;exact⟨_,_,h,l,λb _=>c b⟩
    ·exact h.elim
  ·exact h.elim
 ·exact h.elim
theorem Aj{H:ae}{m:Md}(b:ER F H m s.env a):∀{l:List Operand} {cs:List C},sD s l=some cs->RL F H m cs (l.map a.eval)
 |[],cs,h=>by cases h;exact .nl
 |x::l,cs,h=>by
  unfold sD at h;split at h
  ·rename_i c d f e;cases h;exact(bm b f).cons (Aj b e)
  ·cases h
theorem P3(c:ER F w.heap ⟨E.B,γ⟩ s.env a){fn:Fn}{first caps:Array Operand}(ho:o.op= .makeFunc fn first caps)(h:Y1 tab s (.makeFunc fn first caps) k):Yd P F ⟨E.B,γ⟩ a w o k:=by
 cases fn with
 |func f=>
  simp only[Y1]at h;split at h
  ·rename_i e b d;have b:first= #[]:=by simpa using b
   refine⟨_,_,h,.fn (Aj c d) .nl,λg _=>?_⟩;unfold execOp;rw[ho];subst b;simp[Instr.makeFunc];rw[<-Array.toList_map]
  ·exact h.elim
 |_=>simp only[Y1]at h
theorem P4(v:bI P tab)(q:ER F w.heap ⟨E.B,γ⟩ s.env a){t:Nat}{x:Operand}(ho:o.op= .makeInterface t x)(h:Y1 tab s (.makeInterface t x) k):Yd P F ⟨E.B,γ⟩ a w o k:=by
 simp only[Y1]at h;split at h
 ·rename_i d H;have z:=v.kind t d H
  have m:∀j:World,(∃i,P.underlying t=some i/\∀p,i≠.interface p)->(execOp a.eval o).run P j= .ok (.value (.iface t (a.eval x))) j:=λj ⟨i,g,f⟩=>by
   unfold execOp;rw[ho];cases i<;>first|(exact(f _ rfl).elim)|simp[Instr.makeInterface,run_underlying g]
  have g:d.kind≠.other->d.kind≠.la->∃i,P.underlying t=some i/\∀p,i≠.interface p:=λf b=>by
   revert z;cases r:d.kind with
   |other=>exact(f r).elim
   |la=>exact(b r).elim
   |struct u=>rintro⟨M,l,_⟩;exact⟨_,l,λ_ h=>by cases h⟩
   |ptr=>rintro⟨e,l⟩;exact⟨_,l,λ_ h=>by cases h⟩
   |_=>intro l;exact⟨_,l,λ_ h=>by cases h⟩
  split at h
  ·exact h.elim
  ·exact h.elim
  ·rename_i f b;split at h
   ·rename_i c n;have y:=bm q n;exact⟨_,_,h,.iface (us:=[a.eval x]) y .nl,λj _=>m j (g f b)⟩
   ·rename_i K n;obtain⟨J,I,D⟩:=rp q n;exact⟨_,_,h,.iface (us:=J) D .nl,λj _=>by rw[m j (g f b),I];rfl⟩
   ·exact h.elim
 ·exact h.elim
theorem P9(z:bI P tab)(y:ER F w.heap ⟨E.B,γ⟩ s.env a){t u:Nat}{x:Operand}(ho:o.op= .typeAssert x u t true)(h:Y1 tab s (.typeAssert x u t true) k):Yd P F ⟨E.B,γ⟩ a w o k:=by
 simp only[Y1]at h;split at h
 ·rename_i d J;have H:=z.kind t d J
  have f:d.kind≠.other->d.kind≠.la->∃j,P.underlying t=some j/\∀N,j≠.interface N:=λb c=>by
   revert H;cases n:d.kind with
   |other=>exact(b n).elim
   |la=>exact(c n).elim
   |struct p=>rintro⟨O,i,_⟩;exact⟨_,i,λ_ h=>by cases h⟩
   |ptr=>rintro⟨e,i⟩;exact⟨_,i,λ_ h=>by cases h⟩
   |_=>intro i;exact⟨_,i,λ_ h=>by cases h⟩
  split at h
  ·exact h.elim
  ·exact h.elim
  ·rename_i b c;split at h
   ·rename_i Q g q M;obtain⟨hb,r⟩:=bV h;rw[dl]at hb;obtain rfl:=c4 hb.1;have m:=bm y M;generalize K:a.eval x=v at m;cases m with
    | @iface _ _ _ _ l _ _ I _=>
     obtain⟨j,f,b⟩:=f b c;refine⟨.tuple #[jF g l,.bool true],.ao [(g,q),(false,[.bool true])],r,⟨[jF g l,.bool true],rfl,⟨l,I,rfl,λD=>?_⟩,⟨[.bool true],.bool .nl,rfl,λ_=>rfl⟩,trivial⟩,λR _=>?_⟩
     ·have:=hb.2;rw[D,Bool.false_or]at this;exact c4 this
     ·unfold execOp;rw[ho];cases j<;>first|(exact(b _ rfl).elim)|simp[Instr.typeAssert,run_underlying f,K]
   ·exact h.elim
 ·exact h.elim
theorem PU(Q:bI P tab)(D:ER F w.heap ⟨E.B,γ⟩ s.env a)(R:WR E F γ s.ah w.heap){c:Call}(ho:o.op= .call c)(h:Y1 tab s (.call c) k):Yd P F ⟨E.B,γ⟩ a w o k:=by
 obtain⟨cl,r,J⟩:=c;simp only[Y1]at h;have f:∀{l:List Operand},r.toList=l->r=l.toArray:=λh=>by rw[<-h]
 have q:∀{l:List TypeId},J.toList=l->J=l.toArray:=λh=>by rw[<-h]
 split at h
 ·rename_i x t b j;have b:=f b;have j:=q j;subst b j;split at h
  ·rename_i d c S I;have z:=Q.kind t d S;have g:=bm D I;split at h
   ·rename_i l H;rw[H]at z;generalize m:a.eval x=v at g;cases g with
    |str _ _=>
     have e:(⟨l.toArray⟩:ByteArray).size=l.length:=rfl;exact⟨_,_,h,.int .nl,λK _=>by unfold execOp;rw[ho];simp[resolve,invoke,builtin,m,NB.str,Builtin.len_,run_underlying z,goInt,e]⟩
   ·rename_i e H;rw[H]at z;generalize m:a.eval x=v at g;cases g;exact⟨_,_,h,.int .nl,λK _=>by unfold execOp;rw[ho];simp[resolve,invoke,builtin,m,Builtin.len_,run_underlying z,goInt]⟩
   ·have N:∃e,d.kind= .sl e:=⟨_,by assumption⟩;obtain⟨e,H⟩:=N;rw[H]at z;split at h
    ·rename_i L O;rw[LS.pM]at h;obtain⟨p,cap,m,_⟩:=(R.sl g O).slice;exact⟨_,_,h,.int .nl,λK _=>by unfold execOp;rw[ho];simp[resolve,invoke,builtin,m,Builtin.len_,run_underlying z,goInt]⟩
    ·exact h.elim
   ·exact h.elim
  ·exact h.elim
 ·rename_i x y b;have b:=f b;subst b;split at h
  ·rename_i n m' I M;have g:=bm D I;have i:=bm D M;generalize m:a.eval x=v at g;generalize u:a.eval y=T at i;cases g;cases i;refine⟨_,_,h,.int .nl,λK _=>?_⟩;unfold execOp;rw[ho];simp[resolve,invoke,builtin,m,u,Builtin.max_,Builtin.max2];omega
  ·exact h.elim
 ·rename_i x y b;have b:=f b;subst b;split at h
  ·rename_i n m' I M;have g:=bm D I;have i:=bm D M;generalize m:a.eval x=v at g;generalize u:a.eval y=T at i;cases g;cases i;refine⟨_,_,h,.int .nl,λK _=>?_⟩;unfold execOp;rw[ho];simp[resolve,invoke,builtin,m,u,Builtin.min_,Builtin.min2];omega
  ·exact h.elim
 ·exact h.elim
theorem sa(e:bI P tab)(b:ER F w.heap ⟨E.B,γ⟩ s.env a)(f:WR E F γ s.ah w.heap)(h:Y1 tab s o.op k):Yd P F ⟨E.B,γ⟩ a w o k:=by
 generalize d:o.op=l at h;cases l with
 |move x=>exact Ft b (.inl d) h
 |assign x=>exact Ft b (.inr d) h
 |pick c x y=>exact P6 b d h
 |load t x=>exact P1 e b f d h
 |nilCheck x=>exact P5 b d h
 |binOp l t x y u=>exact PS e b f d h
 |unOp u t x=>exact Qa b d h
 |convert t u x=>exact PV e b f d h
 |build t g=>exact PT e b d h
 |fieldAddr t x i=>exact PY e b d h
 |field t x i=>exact PX e b d h
 |indexAddr t x y=>exact P0 e b f d h
 |index t x y=>exact PZ e b d h
 |slice t x p n m=>
  cases m with
  |none=>exact P8 e b f d h
  |some _=>simp only[Y1]at h
 |extract x i=>exact PW b d h
 |makeFunc fn first j=>exact P3 b d h
 |makeInterface t x=>exact P4 e b d h
 |typeAssert x u t ok=>
  cases ok with
  |true=>exact P9 e b d h
  |false=>simp only[Y1]at h
 |call c=>exact PU e b f d h
 |_=>simp only[Y1]at h
end
def cE(ah:List B)(c:C):List B×C:=
 match c with
 | .rw j=>match ah[j]? with
  |some (.row d α a l)=>(ah.set j (.bh d α a l),.ls d α a l)
  |some (.bh d α a l)=>(ah,.ls d α a l)
  |_=>(ah,.rw j)
 | .sw d j e n=>match ah[j]? with
  |some (.row b α a l)=>bif dg d b then(ah.set j (.bh b α a l),.ls b α a ((l.drop e).take n))else(ah,.sw d j e n)
  |some (.bh b α a l)=>bif dg d b then(ah,.ls b α a ((l.drop e).take n))else(ah,.sw d j e n)
  |_=>(ah,.sw d j e n)
 |c=>(ah,c)
def fz:List B->List C->List B×List C
 |ah,[]=>(ah,[])
 |ah,c::f=>match cE ah c with
  |(a,e)=>match fz a f with
   |(b,d)=>(b,e::d)
def eM:C->Bool
 | .int .. | .bool _| .str _| .raw _| .nil| .ls .. =>true
 |_=>false
def ei:List C->Bool
 |[]=>true
 |c::a=>eM c&&ei a
def lX:List B->List (List C)->List B×List (List C)
 |ah,[]=>(ah,[])
 |ah,d::r=>match fz ah d with
  |(a,c)=>match lX a r with
   |(b,e)=>(b,c::e)
def ud(s:St):Nat->List (Nat×Operand)->Option (List (List C))
 |_,[]=>some []
 |i,(j,x)::r=>bif dg i j then match qx (aW s x),ud s (i+1) r with
  |some a,some r=>some (a::r)
  |_,_=>none
  else none
def kill(ah:List B):C->List B
 | .rw j| .sw _ j _ _=>ah.set j .dead
 |_=>ah
def ss(ah:List B):C->Option (Option LS)
 | .nil=>some none
 | .rw j=>match ah[j]? with
  |some (.row b α a l)=>some (some ⟨b,α,a,l⟩)
  |some (.buf _ b α a l)=>some (some ⟨b,α,a,l⟩)
  |_=>none
 | .sw b j d n=>match ah[j]? with
  |some (.row c α a l)=>bif dg b c then some (some ⟨c,α,a,(l.drop d).take n⟩)else none
  |_=>none
 |_=>none
def tR(ah:List B)(c:C)(e sz:Nat)(α:Type)(enc:α->List C)(l:List α):B:=match c with
 | .rw j=>match ah[j]? with
  |some (.buf t _ _ _ _)=>bif dg t e then .buf t sz α enc l else .row sz α enc l
  |_=>.row sz α enc l
 |_=>.row sz α enc l
def oN(ah:List B):C->Option (Option LS)
 | .nil=>some none
 | .str l=>some (some ⟨1,UInt8,aN,l⟩)
 |c=>(lE ah c).map some
def sq(a:TD)(o:Option LS)(xs:List a.α):Prop:=match o with
 |none=>xs=[]
 |some L=>L=⟨a.size,a.α,a.enc,xs⟩
def w6(t:Nat):List C->Option Nat
 |[.raw _,.nil,.ptr _ _]=>some t
 |_=>none
theorem Kz(t:Nat)(cs:List C):(w6 t cs).getD t=t:=by
 unfold w6;split<;>rfl
def tT:C->C
 | .ls b α a []=>.nil
 |c=>c
def Y2(tab:Nat->Option TD)(s:St)(N:Op)(k:List B->A->Prop):Prop:=
 match N with
 | .alloc t=>match tab t with
  |some d=>k (s.ah++[.box d.zero]) (.c (.ptr s.ah.length 0))
  |none=>False
 | .box t x=>match qx (aW s x)with
  |some h=>k (s.ah++[.box h (w6 t h)]) (.c (.ptr s.ah.length 0))
  |none=>False
 | .buildSlice t n m=>match tab t with
  |some d=>match d.kind with
   | .sl e=>match tab e,ud s 0 m.toList with
    |some a,some f=>match lX s.ah f with
     |(ah,f)=>bif eY 1 a.size&&dg f.length n&&eY (n*a.size) 16777216&&f.all (λh=>ei h&&dg h.length a.size)then
       ∃r:List a.α,r.map a.enc=f/\k (ah++[.row a.size a.α a.enc r]) (.c (.rw ah.length))else False
    |_,_=>False
   |_=>False
  |none=>False
 | .makeSlice t x y=>match tab t with
  |some d=>match d.kind with
   | .sl e=>match tab e,aW s x,aW s y with
    |some a,.c (.int .i64 p),.c (.int .i64 q)=>bif ei a.zero&&dg a.zero.length a.size&&eY 1 a.size&&eY 1 a.bytes then
      ∃(n:Nat) (z:a.α),(p=(n:Int)/\q=(n:Int))/\(a.enc z).map tT=a.zero/\n*a.bytes<=140737488355328/\k (s.ah++[.row a.size a.α a.enc (c5 n z)]) (.c (.rw s.ah.length))else False
    |_,_,_=>False
   |_=>False
  |none=>False
 | .store t x y=>match tab t,aW s x,qx (aW s y)with
  |some d,.c (.ptr j o),some new=>match s.ah[j]? with
   |some (.box h P)=>bif dg new.length d.size&&eY (o+new.length) h.length then k (s.ah.set j (.box (h.take o++new++h.drop (o+new.length)) P)) .undef else False
   |_=>False
  |some d,.c (.ep v j i o),some new=>match fz s.ah new with
   |(ah,new)=>match ah[j]? with
    |some (.row g α b l)=>bif dg new.length d.size&&dg v g&&ei new then
      ∃x I:α,l[i]? =some x/\(o+new.length<=v/\b I=(b x).take o++new++(b x).drop (o+new.length))/\k (ah.set j (.row g α b (l.set i I))) .undef else False
    |_=>False
  |_,_,_=>False
 | .convert t u x=>match tab t,tab u,aW s x with
  |some d,some E,.c (.str l)=>match d.kind,E.kind with
   | .str,.sl e=>match tab e with
    |some a=>match a.kind with
     | .int .u8=>k s.ah (.c (.ls 1 UInt8 aN l))
     |_=>False
    |none=>False
   |_,_=>False
  |some d,some E,.c (.rw j)=>match d.kind,E.kind with
   | .sl e,.sl M=>bif dg e M&&dg t u then match tab e with
    |some a=>match a.kind with
     | .int .u8=>match s.ah[j]? with
      |some (.row 1 α b (y::l))=>k (s.ah.set j (.bh 1 α b (y::l))) (.c (.ls 1 α b (y::l)))
      |_=>False
     |_=>False
    |none=>False
    else False
   |_,_=>False
  |_,_,_=>False
 | .call c=>match c.callee,c.args.toList,c.argTypes.toList with
  | .builtin .append,[x,y],[t,O]=>match tab t,tab O with
   |some d,some K=>match d.kind with
    | .sl e=>match tab e,aW s x,aW s y with
     |some a,.c D,.c J=>match ss s.ah D,oN s.ah J with
      |some bx,some w=>bif(match K.kind with| .sl _=>true| .str=>true|_=>false)&&eY 1 a.bytes then
        ∃r H:List a.α,sq a bx r/\sq a w H/\(r.length+H.length)*a.bytes<=140737488355328/\k (kill s.ah D++[tR s.ah D e a.size a.α a.enc (r++H)]) (.c (.rw s.ah.length))else False
      |_,_=>False
     |_,_,_=>False
    |_=>False
   |_,_=>False
  | .builtin .clear,[x],[t]=>match tab t with
   |some d=>match d.kind with
    | .sl e=>match tab e,aW s x with
     |some a,.c (.sw v j F n)=>match s.ah[j]? with
      |some (.row g α b l)=>bif dg v g&&(dg v a.size&&eY 1 a.size&&ei a.zero)then
        ∃z:α,b z=a.zero/\F+n<=l.length/\k (s.ah.set j (.row g α b (l.take F++(c5 n z++l.drop (F+n))))) .undef else False
      |_=>False
     |_,_=>False
    |_=>False
   |none=>False
  |_,_,_=>False
 |_=>False
def l6(s:St):Op->Bool
 | .alloc _| .box .. | .buildSlice .. | .makeSlice .. =>true
 | .convert _ _ x=>match aW s x with
  | .c (.rw _)=>false
  |_=>true
 | .call c=>match c.args.toList with
  |x::_=>match aW s x with
   | .c .nil=>true
   |_=>false
  |_=>false
 |_=>false
def apps:Op->Bool
 | .call c=>match c.callee with
  | .builtin .append=>true
  |_=>false
 |_=>false
def Fx(s:St)(γ:List Value)(H H':ae):Prop:=H.size<=H'.size/\∀(j:Nat) (a:List C) (b:Option Nat) (v:Value),s.ah[j]? =some (.box a b)->γ[j]? =some v->∀q∈aC (.box a b) v,H'[q]? =H[q]?
section
variable {P:Program} {tab:Nat->Option TD} {E:En} {F:Nat->Prop} {γ:List Value} {s:St} {a:Act} {w:World} {o:Oper}
structure Step(E:En)(F:Nat->Prop)(γ:List Value)(H:ae)(F':Nat->Prop)(γ':List Value)(ah':List B)(H':ae):Prop where
 wr:WR E F' γ' ah' H'
 ext:Ext F H ⟨E.B,γ⟩ F' H' ⟨E.B,γ'⟩
def Dn(P:Program)(s:St)(E:En)(F:Nat->Prop)(γ:List Value)(a:Act)(w:World)(o:Oper)(k:List B->A->Prop):Prop:=
 ∃c v b ah' x F' γ',((c= .value v\/(c=Next.skip/\v=undef))/\(execOp a.eval o).run P w= .ok c b)/\bA w b/\k ah' x/\Step E F γ w.heap F' γ' ah' b.heap/\RA F' b.heap ⟨E.B,γ'⟩ x v/\(l6 s o.op=true->au [] w.heap b.heap)/\(apps o.op=true->Fx s γ w.heap b.heap)
theorem vM{H:ae}{m m':Md}{cs:List C}{vs:List Value}(h:RL F H m cs vs)(hc:ei cs=true):RL F H m' cs vs:=by
 induction h with
 |nl=>exact .nl
 |int _ ih=>simp[ei,eM]at hc;exact .int (ih hc)
 |bool _ ih=>simp[ei,eM]at hc;exact .bool (ih hc)
 |str h _ ih=>simp[ei,eM]at hc;exact .str h (ih hc)
 |raw h _ ih=>simp[ei,eM]at hc;exact .raw h (ih hc)
 |nil _ ih=>simp[ei,eM]at hc;exact .nil (ih hc)
 |ct _ ih=>simp[ei,eM]at hc;exact .ct (ih hc)
 |ls hb b c d e a _ _ ih=>simp[ei,eM]at hc;exact .ls hb b c d e a (ih hc)
 |_=>simp[ei,eM]at hc
theorem RL.xW{H:ae}{m:Md}{sz:Nat}{α:Type}{enc:α->List C}{l:List α}{p q:Option Addr}{n cap:Nat}(h:RL F H m [.ls sz α enc l] [.slice p n cap])(hq:cap≠0->q=p):RL F H m [.ls sz α enc l] [.slice q n cap]:=by
 by_cases e:cap=0
 ·obtain⟨d,a,c,b,_⟩:=h.sv.slice;cases c;have b:l.length<=cap:=b;have:l=[]:=c6 (by omega);subst this;rw[e];exact .ct .nl
 ·rw[hq e];exact h
theorem BK{H:ae}{ah:List B}{c:C}{v:Value}(i:WR E F γ ah H)(h:RL F H ⟨E.B,γ⟩ [c] [v]):∃F',(∀k,F k->F' k)/\WR E F' γ (cE ah c).1 H/\RL F' H ⟨E.B,γ⟩ [(cE ah c).2] [v]/\(cE ah c).1.length=ah.length:=by
 have same:∃F',(∀k,F k->F' k)/\WR E F' γ ah H/\RL F' H ⟨E.B,γ⟩ [c] [v]/\ah.length=ah.length:=⟨F,λ_ h=>h,i,h,rfl⟩;cases c with
 |rw j=>
  cases h with
  |rw u w _=>
   cases hb:ah[j]? with
   |none=>rw[show cE ah (.rw j)=(ah,.rw j)by simp[cE,hb]];exact same
   |some b=>
    cases b with
    |row d α a l=>
     obtain⟨F',s,D,I⟩:=i.freeze hb;rw[show cE ah (.rw j)=(ah.set j (.bh d α a l),.ls d α a l)by simp[cE,hb]];exact⟨F',s,D,((I _ u).up).xW w,by simp⟩
    |bh d α a l=>
     rw[show cE ah (.rw j)=(ah,.ls d α a l)by simp[cE,hb]];exact⟨F,λ_ h=>h,i,(RL.up (i.br _ _ _ hb u)).xW w,rfl⟩
    |box K O=>rw[show cE ah (.rw j)=(ah,.rw j)by simp[cE,hb]];exact same
    |dead=>rw[show cE ah (.rw j)=(ah,.rw j)by simp[cE,hb]];exact same
    |buf=>rw[show cE ah (.rw j)=(ah,.rw j)by simp[cE,hb]];exact same
 |sw d j f n=>
  have cut:∀{F':Nat->Prop} {α:Type} {a:α->List C} {l:List α} {p q:Option Addr} {n0 cap:Nat},f+n<=n0->(cap≠f->q=p.map (·.add (f*d)))->RL F' H m0 [.ls d α a l] [.slice p n0 cap]->RL F' H ⟨E.B,γ⟩ [.ls d α a ((l.drop f).take n)] [.slice q n (cap-f)]:=λ{F' α a l p q n0 cap} o z J=>by
   have P:n0=l.length:=by
    obtain⟨N,t,e,_⟩:=J.sv.slice;cases e;rfl
   by_cases e:cap=f
   ·obtain⟨N,t,M,s,_⟩:=J.sv.slice;cases M;have s:l.length<=cap:=s;obtain rfl:n=0:=by omega
    rw[e9,e,ec];exact .ct .nl
   ·have:=(J.up (m:=⟨E.B,γ⟩)).cut (x:=f) (y:=f+n) (by omega) (by omega);simp only[gZ,if_neg e]at this;rw[z e];rw[show f+n-f=n by omega]at this;exact this
  cases h with
  |sw u o z _=>
   cases hb:ah[j]? with
   |none=>rw[show cE ah (.sw d j f n)=(ah,.sw d j f n)by simp[cE,hb]];exact same
   |some b=>
    cases b with
    |row r α a l=>
     by_cases g:dg d r=true
     ·obtain rfl:=c4 g;obtain⟨F',s,D,I⟩:=i.freeze hb;rw[show cE ah (.sw d j f n)=(ah.set j (.bh d α a l),.ls d α a ((l.drop f).take n))by simp only[cE,hb,g,cond_true]];exact⟨F',s,D,cut o z (I _ u),by simp⟩
     ·rw[d3]at g;rw[show cE ah (.sw d j f n)=(ah,.sw d j f n)by simp only[cE,hb,g,cond_false]];exact same
    |bh r α a l=>
     by_cases g:dg d r=true
     ·obtain rfl:=c4 g;rw[show cE ah (.sw d j f n)=(ah,.ls d α a ((l.drop f).take n))by simp only[cE,hb,g,cond_true]];exact⟨F,λ_ h=>h,i,cut o z (i.br _ _ _ hb u),rfl⟩
     ·rw[d3]at g;rw[show cE ah (.sw d j f n)=(ah,.sw d j f n)by simp only[cE,hb,g,cond_false]];exact same
    |box K O=>rw[show cE ah (.sw d j f n)=(ah,.sw d j f n)by simp[cE,hb]];exact same
    |dead=>rw[show cE ah (.sw d j f n)=(ah,.sw d j f n)by simp[cE,hb]];exact same
    |buf=>rw[show cE ah (.sw d j f n)=(ah,.sw d j f n)by simp[cE,hb]];exact same
 |_=>exact same
theorem kZ{F F':Nat->Prop}{H:ae}{m:Md}(h:∀k,F k->F' k):Ext F H m F' H m:=⟨h,λ_ _ _ _ h=>h,λ_ h=>h,λ_ _ h=>h⟩
theorem wH{H:ae}:∀{cs:List C} {vs:List Value} {F:Nat->Prop} {ah:List B},WR E F γ ah H->RL F H ⟨E.B,γ⟩ cs vs->∃F',(∀k,F k->F' k)/\WR E F' γ (fz ah cs).1 H/\RL F' H ⟨E.B,γ⟩ (fz ah cs).2 vs/\(fz ah cs).1.length=ah.length
 |[],vs,F,ah,a,h=>⟨F,λ_ h=>h,a,by cases h;exact .nl,rfl⟩
 |c::cs,vs,F,ah,a,h=>by
  obtain⟨v,r,rfl,n,o⟩:=h.kK;obtain⟨q,b,f,g,i⟩:=BK a n;obtain⟨e,d,j,l,m⟩:=wH f (o.ext (kZ b));refine⟨e,λk p=>d k (b k p),?_,?_,?_⟩
  ·unfold fz;exact j
  ·unfold fz;exact(g.ext (kZ d)).cons l
  ·unfold fz;exact m.trans i
inductive iQ(F:Nat->Prop)(H:ae)(m:Md):List (List C)->List (List Value)->Prop
 |nil:iQ F H m [] []
 |cons {cs vs css vss}:RL F H m cs vs->iQ F H m css vss->iQ F H m (cs::css) (vs::vss)
theorem iQ.ext{F F':Nat->Prop}{H H':ae}{m m':Md}(e:Ext F H m F' H' m'){css:List (List C)}{vss:List (List Value)}(h:iQ F H m css vss):iQ F' H' m' css vss:=by
 induction h with
 |nil=>exact .nil
 |cons h _ ih=>exact .cons (h.ext e) ih
theorem BL{H:ae}:∀{css:List (List C)} {vss:List (List Value)} {F:Nat->Prop} {ah:List B},WR E F γ ah H->iQ F H ⟨E.B,γ⟩ css vss->∃F',(∀k,F k->F' k)/\WR E F' γ (lX ah css).1 H/\iQ F' H ⟨E.B,γ⟩ (lX ah css).2 vss/\(lX ah css).1.length=ah.length
 |[],vss,F,ah,a,h=>⟨F,λ_ h=>h,a,by cases h;exact .nil,rfl⟩
 |cs::css,_,F,ah,a,.cons (vs:=p) (vss:=vss) m n=>by
  obtain⟨q,b,e,f,g⟩:=wH a m;obtain⟨d,c,i,j,l⟩:=BL e (n.ext (kZ b));refine⟨d,λk o=>c k (b k o),?_,?_,?_⟩
  ·unfold lX;exact i
  ·unfold lX;exact .cons (f.ext (kZ c)) j
  ·unfold lX;exact l.trans g
end
section
variable {P:Program} {tab:Nat->Option TD} {E:En} {F:Nat->Prop} {γ:List Value} {s:St} {a:Act} {w:World} {o:Oper} {k:List B->A->Prop}
theorem uA{ah:List B}(a:WR E F γ ah w.heap){ob:Obj}{b:B}{g:Value}(ho:∀k∈aC b g,w.heap.size<=k)(hb:BR F (w.heap.push ob) ⟨E.B,γ++[g]⟩ b g):
  Step E F γ w.heap F (γ++[g]) (ah++[b]) (w.heap.push ob):=
 ⟨a.push (au.push [] _ _) ho hb,a.ext (W:=[]) (λk c=>by cases c) (au.push [] _ _) [g]⟩
theorem Step.aZ{ah:List B}{H H':ae}{F a F':Nat->Prop}{γ':List Value}(h1:∀k,F k->a k)(h:Step E a γ H F' γ' ah H'):Step E F γ H F' γ' ah H':=
 ⟨h.wr,⟨λk d=>h.ext.f k (h1 k d),λb o u hb c=>h.ext.h b o u (hb.imp (h1 b) id) c,h.ext.b,h.ext.g⟩⟩
theorem getLast_append{α:Type _}{l:List α}{x:α}{n:Nat}(h:n=l.length):(l++[x])[n]? =some x:=by subst h;simp
theorem H6(i:bI P tab)(c:WR E F γ s.ah w.heap){t:Nat}(ho:o.op= .alloc t)(h:Y2 tab s (.alloc t) k):Dn P s E F γ a w o k:=by
 simp only[Y2]at h;split at h
 ·rename_i d m;obtain⟨z,g,n,b,l⟩:=i.zero m;refine⟨_,.pointer (some ⟨w.heap.size,0,none⟩),{w with heap:=w.heap.push (.cells g.toArray t (0,0))},_,_,F,γ++[.pointer (some ⟨w.heap.size,0,none⟩)],⟨.inl rfl,?_⟩,bA.of rfl rfl rfl,h,uA c (λk j=>by simp[aC]at j;omega) ⟨_,t,g,rfl,by simp,l _ _ _⟩,?_,λ_=>au.push _ _ _,λe=>by rw[ho]at e;cases e⟩
  ·unfold execOp;rw[ho];simp[Instr.alloc,n,newVar,newRow,b]
  ·exact .ptr (getLast_append c.len.symm) .nl
 ·exact h.elim
theorem H8(i:ER F w.heap ⟨E.B,γ⟩ s.env a)(b:WR E F γ s.ah w.heap){t:Nat}{x:Operand}(ho:o.op= .box t x)(h:Y2 tab s (.box t x) k):Dn P s E F γ a w o k:=by
 simp only[Y2]at h;split at h
 ·rename_i n m;obtain⟨d,l,j⟩:=rn i m;have e:=b.ext (W:=[]) (λk c=>by cases c) (au.push [] w.heap (.cells d.toArray t (0,0))) [.pointer (some ⟨w.heap.size,0,none⟩)];refine⟨_,.pointer (some ⟨w.heap.size,0,none⟩),{w with heap:=w.heap.push (.cells d.toArray t (0,0))},_,_,F,γ++[.pointer (some ⟨w.heap.size,0,none⟩)],⟨.inl rfl,?_⟩,bA.of rfl rfl rfl,h,uA b (λk c=>by simp[aC]at c;omega) ⟨_,t,d,rfl,by simp[Kz],j.ext e⟩,?_,λ_=>au.push _ _ _,λf=>by rw[ho]at f;cases f⟩
  ·unfold execOp;rw[ho];simp[Instr.box,newVar,newRow,l]
  ·exact .ptr (getLast_append b.len.symm) .nl
 ·exact h.elim
theorem DK{H:ae}{m:Md}(c:ER F H m s.env a):∀{l:List (Nat×Operand)} {i:Nat} {css:List (List C)},ud s i l=some css->
  ∃vs:List Value,l.map (λp=>(p.1,a.eval p.2))=(vs.zipIdx i).map (λx=>(x.2,x.1))/\iQ F H m css (vs.map λv=>v.cells.toList)
 |[],i,css,h=>by cases h;exact⟨[],rfl,.nil⟩
 |(j,x)::l,i,css,h=>by
  unfold ud at h;by_cases b:dg i j=true
  ·rw[b]at h;obtain rfl:=c4 b;simp only[cond_true]at h;split at h
   ·rename_i o r n k;cases h;obtain⟨vs,d,e⟩:=DK c k;obtain⟨q,f,g⟩:=rn c n;refine⟨a.eval x::vs,by simp[d],?_⟩;rw[fv];exact .cons (by rw[f];exact g) e
   ·cases h
  ·rw[d3]at b;rw[b]at h;cases h
theorem iQ.flat{H:ae}{m:Md}{css:List (List C)}{vss:List (List Value)}(h:iQ F H m css vss):RL F H m css.flatten vss.flatten:=by
 induction h with
 |nil=>exact .nl
 |cons a _ ih=>simp only[eX];exact a.append ih
theorem iQ.len{H:ae}{m:Md}{css:List (List C)}{vss:List (List Value)}(h:iQ F H m css vss):css.length=vss.length/\∀(i:Nat) (cs:List C) (vs:List Value),css[i]? =some cs->vss[i]? =some vs->cs.length=vs.length:=by
 induction h with
 |nil=>exact⟨rfl,λi cs vs h=>by simp at h⟩
 |cons c _ ih=>
  refine⟨by simp[ih.1],λi cs vs a b=>?_⟩;cases i with
  |zero=>cases a;cases b;exact c.length
  |succ i=>exact ih.2 i cs vs (by simpa using a) (by simpa using b)
theorem NP{t e n size:Nat}{b:Array (Nat×Value)}{vs:List Value}{z:Value}(i:P.underlying t=some (.slice e))(hz:∀w,(sizeOf e).run P w= .ok size w)(c:∀w,(zeroValue e).run P w= .ok z w)
  (h:b.toList=(vs.zipIdx 0).map (λx=>(x.2,x.1)))(hn:vs.length=n)(k:n*size<=16777216)(hv:∀v∈vs,v.cells.size=size)(w:World):
  (Instr.buildSlice t n b).run P w= .ok (.slice (some ⟨w.heap.size,0,none⟩) n n) {w with heap:=w.heap.push (.cells (vs.map λv=>v.cells.toList).flatten.toArray e (0,0))}:=by
 have f:¬16777216<n*size:=by omega
 have a:=λ(d:Array Value) (j:d.size=n*size)=>wD size vs 0 d hv (by rw[j];simp[hn]);by_cases g:n*size=0
 ·have:=a (gc (λ_=>default) (e7 0)) (by simp[g]);rw[<-h]at this;simp[Instr.buildSlice,run_underlying i,hz,g,newRow];simp at this;rw[this];have l:(gc (λ_=>(default:Value)) (e7 0)).toList=[]:=by rw[Array.range_zero'];simp
  simp
 ·have:=a ((e7 (n*size)).map (λx=>z.cells[x%z.cells.size]!)) (by simp);rw[<-h]at this;simp[Instr.buildSlice,run_underlying i,hz,f,g,c,newRow];simp at this;rw[this];simp only[hn];rw[List.drop_eq_nil_of_le (by simp),d0];rfl
theorem A9{α:Type}{enc:α->List C}{xs:List α}:(xs.map enc).flatten=xs.flatMap enc:=by
 rw[List.flatMap_def]
theorem Au:∀{a b:List C},ei a=true->ei b=true->ei (a++b)=true
 |[],b,_,hb=>hb
 |c::a,b,d,hb=>by
  simp only[ei,List.cons_append,dl]at d⊢;exact⟨d.1,Au d.2 hb⟩
theorem Av:∀{css:List (List C)},(∀cs∈css,ei cs=true)->ei css.flatten=true
 |[],_=>rfl
 |cs::r,h=>Au (h cs (by simp)) (Av λx a=>h x (by simp[a]))
theorem H9(Z:bI P tab)(hE:ER F w.heap ⟨E.B,γ⟩ s.env a)(hW:WR E F γ s.ah w.heap){t n:Nat}{c:Array (Nat×Operand)}(ho:o.op= .buildSlice t n c)(h:Y2 tab s (.buildSlice t n c) k):Dn P s E F γ a w o k:=by
 simp only[Y2]at h;split at h
 ·rename_i d ht;have M:=Z.kind t d ht;split at h
  ·rename_i e hd;rw[hd]at M;split at h
   ·rename_i _ _ f U O hp;obtain⟨N,a1,hr⟩:=DK hE hp;obtain⟨T,Y,g,l,J⟩:=BL hW hr;generalize a4:lX s.ah U=fr at h g l J;obtain⟨a3,p⟩:=fr;simp only[]at h g l J;obtain⟨hc,S,m,h⟩:=bV h;simp only[dl,List.all_eq_true]at hc;obtain⟨⟨⟨y,j⟩,D⟩,H⟩:=hc;have y:=dj y;have j:=c4 j;have D:=dj D;have ap:=Z.size O;obtain⟨z,zs,hz,_,_⟩:=Z.zero O;have q:=l.len;have a0:N.length=n:=by have:=q.1;rw[e4]at this;omega
    have ar:∀v∈N,v.cells.size=f.size:=λv hv=>by
     obtain⟨i,hi,rfl⟩:=List.getElem_of_mem hv;have Q:i<p.length:=by rw[j];omega
     have h1:=q.2 i p[i] (N[i].cells.toList) (ds Q) (by simp[ds hi]);have h2:=c4 (H _ (f2 Q)).2;rw[h2]at h1;simpa using h1.symm
    have ad:ei (S.flatMap f.enc)=true:=by
     rw[<-A9,m];exact Av λcs al=>(H cs al).1
    have b:RL T w.heap m0 (S.flatMap f.enc) (N.map λv=>v.cells.toList).flatten:=by
     have:=l.flat;rw[<-m,A9]at this;exact vM this ad
    have K:S.length=n:=by rw[<-j,<-m,e4]
    have R:∀x∈S,(f.enc x).length=f.size:=λx hx=>by
     have:=(H (f.enc x) (by rw[<-m];exact List.mem_map.2 ⟨x,hx,rfl⟩)).2;exact c4 this
    have I:=b.length;rw[jD R,K]at I
    have am:n<=maxLen:=by
     have:n*1<=n*f.size:=Nat.mul_le_mul_left _ y;unfold maxLen;omega
    have ao:(c.map λx=>match x with|(i,x)=>(i,a.eval x)).toList=(N.zipIdx 0).map (λx=>(x.2,x.1)):=by
     rw[Array.toList_map];exact a1
    have r:=NP M ap hz ao a0 D ar w;generalize (N.map λv=>v.cells.toList).flatten=u at r b I;have ex:=g.ext (W:=[]) (λk M=>by cases M) (au.push [] w.heap (.cells u.toArray e (0,0))) [.slice (some ⟨w.heap.size,0,none⟩) n n]
    have ac:BR T (w.heap.push (.cells u.toArray e (0,0))) ⟨E.B,γ++[.slice (some ⟨w.heap.size,0,none⟩) n n]⟩ (.row f.size f.α f.enc S) (.slice (some ⟨w.heap.size,0,none⟩) n n):=by
     cases n with
     |zero=>exact .inl ⟨_,rfl,c6 K⟩
     |succ n=>
     refine .inr ⟨w.heap.size,0,n,u.toArray,e,u,by rw[K],by simp,by omega,am,?_,b.ext ex.m0,R,?_⟩
     ·rw[e0,I];exact f1 _
     ·show(u.drop 0).take u.length=u;rw[er,f3]
    refine ⟨_,.slice (some ⟨w.heap.size,0,none⟩) n n,{w with heap:=w.heap.push (.cells u.toArray e (0,0))},_,_,T,γ++[.slice (some ⟨w.heap.size,0,none⟩) n n],⟨.inl rfl,?_⟩,bA.of rfl rfl rfl,h,
     Step.aZ Y (uA g (λk M=>by cases n<;>simp[aC]at M;omega) ac),?_,λ_=>au.push _ _ _,λha=>by rw[ho]at ha;cases ha⟩
    ·unfold execOp;rw[ho];simp[r]
    ·exact .rw (getLast_append (by rw[J];exact hW.len.symm)) (λ_=>rfl) .nl
   ·exact h.elim
  ·exact h.elim
 ·exact h.elim
theorem Fv{zs:List Value}{size:Nat}(a:zs.length=size)(b:0<size)(n:Nat):
  ((e7 (n*size)).map (λj=>zs.toArray[j%zs.toArray.size]!)).toList=(c5 n zs).flatten:=by
 have d:∀(n j:Nat) (h:j<n*size),((c5 n zs).flatten)[j]? =zs[j%size]? :=by
  intro n;induction n with
  |zero=>intro j h;simp at h
  |succ n ih=>
   intro j h;rw[eo,eX];by_cases c:j<zs.length
   ·rw[List.getElem?_append_left c,Nat.mod_eq_of_lt (by omega)]
   ·rw[List.getElem?_append_right (by omega),a,ih _ (by rw[Nat.succ_mul]at h;omega)];congr 1
    rw[Nat.mod_eq_sub_mod (show j>=size by omega)]
 refine f0 λj=>?_;by_cases e:j<n*size
 ·have f:j%size<zs.length:=by rw[a];exact Nat.mod_lt _ b
  rw[d n j e,ds f];simp[e,a];rw[ds f];rfl
 ·rw[fd (by simp;omega),fd (by simp[a];omega)]
theorem run_makeSlice{t e:TypeId}{i:TypeInfo}{z:Value}{size n:Nat}{zs:List Value}(p:P.underlying t=some (.slice e))(hi:∀w,(typeInfo e).run P w= .ok i w)(g:i.size=size)(hz:i.zero=some z)(l:z.cells=zs.toArray)(k:zs.length=size)(d:0<size)
  (o:(n:Int)*i.bytes<=140737488355328)(s:(n:Int)<=9223372036854775807)(w:World):
  (Instr.makeSlice t (.int .i64 n) (.int .i64 n)).run P w= .ok (.slice (some ⟨w.heap.size,0,none⟩) n n) {w with heap:=w.heap.push (.cells (c5 n zs).flatten.toArray e (0,0))}:=by
 have a:∀w,(sizeOf e).run P w= .ok size w:=λw=>by simp[sizeOf,hi,g]
 have c:∀w,(zeroValue e).run P w= .ok z w:=λw=>by simp[zeroValue,hi,hz]
 have b:IntKind.i64.wrap (n:Int)=n:=IntWalk.i64_in _ (by omega);have q:¬(n:Int)<0:=by omega
 have r:¬(281474976710656:Int)<i.bytes*n:=by rw[Int.mul_comm];omega
 by_cases m:n*size=0
 ·have f:n=0:=by rcases Nat.mul_eq_zero.1 m with h|h<;>omega
  have j:IntKind.i64.wrap 0=0:=IntWalk.i64_in _ (by omega);subst f;simp[Instr.makeSlice,run_underlying p,Go.asInt,asIntOf,hi,j,a,newRow];rw[Array.range_zero'];simp
 ·have:=Fv k d n;simp[Instr.makeSlice,run_underlying p,Go.asInt,asIntOf,hi,b,q,r,a,m,c,newRow];rw[<-this,Array.toArray_toList,l]
theorem x9{α:Type}{enc:α->List C}{z:α}{zs:List Value}{F:Nat->Prop}{H:ae}{m:Md}(h:RL F H m (enc z) zs):∀n,RL F H m ((c5 n z).flatMap enc) (c5 n zs).flatten
 |0=>.nl
 |n+1=>by rw[eo,d7,eo,eX];exact h.append (x9 h n)
theorem RL.Dq{F:Nat->Prop}{H:ae}{m:Md}:∀{cs:List C} {vs:List Value},RL F H m (cs.map tT) vs->RL F H m cs vs
 |[],vs,h=>h
 |c::cs,vs,h=>by
  rw[fv]at h;obtain⟨v,d,rfl,a,b⟩:=h.kK;refine RL.cons ?_ (RL.Dq b);unfold tT at a;split at a
  ·cases a with
   |nil t=>cases t;exact .ct .nl
  ·exact a
theorem Ie(hT:bI P tab)(hE:ER F w.heap ⟨E.B,γ⟩ s.env a)(K:WR E F γ s.ah w.heap){t:Nat}{x y:Operand}(ho:o.op= .makeSlice t x y)(h:Y2 tab s (.makeSlice t x y) k):Dn P s E F γ a w o k:=by
 simp only[Y2]at h;split at h
 ·rename_i d ht;have u:=hT.kind t d ht;split at h
  ·rename_i e hd;rw[hd]at u;split at h
   ·rename_i _ _ _ c p q O U hy;obtain⟨hc,n,z,⟨rfl,rfl⟩,D,ad,h⟩:=bV h;simp only[dl]at hc;obtain⟨⟨⟨al,f⟩,l⟩,m⟩:=hc;have f:=c4 f;have l:=dj l;have m:=dj m;obtain⟨i,zv,zs,hi,S,N,hz,Z,hr⟩:=hT.info e c O;have Y:zs.length=c.size:=by rw[<-(hr F w.heap m0).length];exact f
    have I:=bm hE U;have J:=bm hE hy;generalize hv:a.eval x=v at I;generalize T:a.eval y=v' at J;cases I;cases J;have Q:(n:Int)*i.bytes<=140737488355328:=by rw[N,<-Int.natCast_mul];omega
    have am:n<=n*c.bytes:=e3 _ m;have R:n<=maxLen:=by unfold maxLen;omega
    have g:=run_makeSlice (P:=P) (n:=n) u hi S hz Z Y l Q (by omega) w;have b:RL F w.heap m0 ((c5 n z).flatMap c.enc) (c5 n zs).flatten:=x9 (RL.Dq (by rw[D];exact hr _ _ _)) n;have H:∀x∈c5 n z,(c.enc x).length=c.size:=λx U=>by rw[(eu.1 U).2,<-e4 (as:=c.enc z) tT,D];exact f
    have r:=b.length;rw[jD H,fi]at r;generalize (c5 n zs).flatten=j at g b r;have ex:=K.ext (W:=[]) (λk u=>by cases u) (au.push [] w.heap (.cells j.toArray e (0,0))) [.slice (some ⟨w.heap.size,0,none⟩) n n]
    have M:BR F (w.heap.push (.cells j.toArray e (0,0))) ⟨E.B,γ++[.slice (some ⟨w.heap.size,0,none⟩) n n]⟩ (.row c.size c.α c.enc (c5 n z)) (.slice (some ⟨w.heap.size,0,none⟩) n n):=by
     cases n with
     |zero=>exact .inl ⟨_,rfl,rfl⟩
     |succ n=>
     refine .inr ⟨w.heap.size,0,n,j.toArray,e,j,by rw[fi],by simp,by simp,R,?_,b.ext ex.m0,H,?_⟩
     ·rw[e0,r];exact f1 _
     ·show(j.drop 0).take j.length=j;rw[er,f3]
    refine ⟨_,.slice (some ⟨w.heap.size,0,none⟩) n n,{w with heap:=w.heap.push (.cells j.toArray e (0,0))},_,_,F,γ++[.slice (some ⟨w.heap.size,0,none⟩) n n],⟨.inl rfl,?_⟩,bA.of rfl rfl rfl,h,
     uA K (λk u=>by cases n<;>simp[aC]at u;omega) M,?_,λ_=>au.push _ _ _,λha=>by rw[ho]at ha;cases ha⟩
    ·unfold execOp;rw[ho];simp[hv,T,g]
    ·exact .rw (getLast_append K.len.symm) (λ_=>rfl) .nl
   ·exact h.elim
  ·exact h.elim
 ·exact h.elim
end
section
variable {P:Program} {tab:Nat->Option TD} {E:En} {F:Nat->Prop} {γ:List Value} {s:St} {a:Act} {w:World} {o:Oper} {k:List B->A->Prop}
theorem run_store{t:TypeId}{x y:Operand}{g off:Nat}{us:List Value}{cur:Array Value}{e:TypeId}(ho:o.op= .store t x y)(f:a.eval x= .pointer (some ⟨g,off,none⟩))(hy:(a.eval y).cells=us.toArray)
  (hz:∀w,(sizeOf t).run P w= .ok us.length w)(c:∀u∈us,u.oneCell'=true)(hg:w.heap[g]? =some (.cells cur e (0,0)))(b:off+us.length<=cur.size):
  (execOp a.eval o).run P w= .ok .skip (w.setRow g (cur.toList.take off++us++cur.toList.drop (off+us.length)).toArray):=by
 have d:=run_storeCells_at P g off e us 0 cur w hg (by simpa using b) c;simp only[fx]at d;unfold execOp;rw[ho];simp[f,Instr.storeAt,Instr.sureAddr,storeVar,hy,hz,d]
theorem NH{α:Type}{enc:α->List C}{l:List α}{i sz o:Nat}{x f:α}{new:List C}{css us:List Value}{cur:List Value}{off:Nat}{F:Nat->Prop}{H:ae}{m:Md}
  (hr:RL F H m (l.flatMap enc) css)(hz:∀x∈l,(enc x).length=sz)(hi:l[i]? =some x)(ho:o+new.length<=sz)(he:enc f=(enc x).take o++new++(enc x).drop (o+new.length))(D:RL F H m new us)
  (hc:(cur.drop off).take css.length=css)(z:off<=cur.length):
  ∃b,RL F H m ((l.set i f).flatMap enc) b/\b.length=css.length/\(∀x∈l.set i f,(enc x).length=sz)/\off+i*sz+o+us.length<=cur.length/\
   ((cur.take (off+i*sz+o)++us++cur.drop (off+i*sz+o+us.length)).drop off).take b.length=b:=by
 obtain⟨e,rfl⟩:=dq.1 hi;have k:=D.length;have E:=hz l[i] (f2 e);have R:l=l.take i++l[i]::l.drop (i+1):=by rw[<-List.drop_eq_getElem_cons e,c9]
 have n:((l.take i).flatMap enc).length=i*sz:=by
  rw[jD (λy p=>hz y (dr p)),c7];rw[eh (by omega)]
 have M:l.flatMap enc=(l.take i).flatMap enc++(enc l[i]++(l.drop (i+1)).flatMap enc):=by
  conv=>lhs;rw[R]
  rw[dp,d7]
 have N:(l.set i f).flatMap enc=(l.take i).flatMap enc++(enc f++(l.drop (i+1)).flatMap enc):=by
  rw[List.set_eq_take_append_cons_drop,if_pos e,dp,d7]
 rw[M]at hr;obtain⟨c,cr,rfl,I,U⟩:=hr.split;obtain⟨a,d,rfl,v,W⟩:=U.split;have S:=I.length;have T:=v.length;rw[n]at S;rw[E]at T
 have u:RL F H m (enc f) (a.take o++us++a.drop (o+us.length)):=by
  rw[he,k.symm];exact((v.take _).append D).append (by rw[k];exact v.drop _)
 have t:(enc f).length=sz:=by rw[he];simp[E];omega
 have P:(c++(a++d)).length<=cur.length-off:=by
  have:=congrArg f9 hc;rw[c7,dk]at this;omega
 ·obtain ⟨Z, O⟩ : ∃ Z, cur.drop off = (c ++ (a ++ d)) ++ Z := ⟨(cur.drop off).drop (c++(a++d)).length,by
   conv=>rhs;arg 1;rw[<-hc]
   rw[c9]⟩
  have q:cur=cur.take off++((c++(a++d))++Z):=by rw[<-O,c9]
  generalize r:cur.take off=g at q;have s:g.length=off:=by rw[<-r,c7];omega
  refine⟨c++((a.take o++us++a.drop (o+us.length))++d),by rw[N];exact I.append (u.append W),by simp;omega,λy p=>?_,?_,?_⟩
  ·rw[List.mem_iff_getElem?]at p;obtain⟨j,Q⟩:=p;rcases pn Q with⟨_,h⟩|⟨_,_,rfl⟩
   ·exact hz y (List.mem_of_getElem? h)
   ·exact t
  ·rw[q];simp;omega
  ·have w:cur=(g++(c++a.take o))++(((a.drop o).take us.length)++(a.drop (o+us.length)++(d++Z))):=by
    have J:a=a.take o++((a.drop o).take us.length++a.drop (o+us.length)):=by
     rw[<-fs,c9,c9]
    conv=>lhs;rw[q,J]
    simp[dc]
   have Y:cur.take (off+i*sz+o)=g++(c++a.take o):=by
    rw[w];exact f4 (by simp;omega)
   have t2:cur.drop (off+i*sz+o+us.length)=a.drop (o+us.length)++(d++Z):=by
    rw[w,<-dc,d4 (by simp;omega)]
   rw[Y,t2];have K:g++(c++a.take o)++us++(a.drop (o+us.length)++(d++Z))=g++((c++((a.take o++us++a.drop (o+us.length))++d))++Z):=by simp[dc]
   rw[K,d4 s,es]
theorem Ig(hT:bI P tab)(hE:ER F w.heap ⟨E.B,γ⟩ s.env a)(Z:WR E F γ s.ah w.heap){t:Nat}{x y:Operand}(ho:o.op= .store t x y)(h:Y2 tab s (.store t x y) k):Dn P s E F γ a w o k:=by
 simp only[Y2]at h;split at h
 ·rename_i _ _ _ d j b new ht hx hy;split at h
  ·rename_i cs ty hb;obtain⟨O,h⟩:=bV h;simp only[dl]at O;have r:=c4 O.1;have ac:=dj O.2;have u:=bm hE hx;obtain⟨N,hu,n⟩:=rn hE hy;have D:=n.length;generalize hv:a.eval x=v at u;cases u with
   | @ptr _ _ _ c _ _ hg _=>
    have f:γ[j]? =some _:=hg;have K:=Z.br j _ _ hb f;obtain⟨kk,e,vs,Q,T,h2⟩:=K;obtain rfl:c=kk:=by simpa using Q
    have be:=h2.length;have I:=run_store (P:=P) ho hv hu (λw=>by rw[<-D,r];exact hT.size ht w) n.one T (by simp;omega);have Y:au [c] w.heap (w.setRow c (vs.take b++N++vs.drop (b+N.length)).toArray).heap:=mz _ _ _;have m:aC (.box cs ty) (.pointer (some ⟨c,0,none⟩))=[c]:=rfl;have ex:=Z.ext (γ':=[]) (W:=[c]) (λq M=>Z.nf j _ _ q hb f (by rw[m];exact M)) Y;rw[d0]at ex;refine⟨_,undef,_,_,_,F,γ,⟨.inr ⟨rfl,rfl⟩,I⟩,bA.of rfl rfl rfl,h,⟨Z.aA hb f (by rw[m];exact Y) (λq M=>M) ⟨c,e,_,rfl,setRow_heap w c _ _ _ _ T,?_⟩,ex⟩,trivial,λz=>by rw[ho]at z;simp[l6]at z,λha=>by rw[ho]at ha;cases ha⟩;have U:=h2.ext ex;have ao:=n.ext ex;show RL F _ _ _ (vs.toArray.toList.take b++N++vs.toArray.toList.drop (b+N.length));have:=((U.take b).append ao).append (U.drop (b+new.length));rw[D]at this;rw[D];exact this
  ·exact h.elim
 ·rename_i _ _ _ d sz j i b new ht hx hy;obtain⟨N,hu,n⟩:=rn hE hy;obtain⟨F1,ar,g,H,am⟩:=wH Z n;generalize bb:fz s.ah new=fr at h g H am;obtain⟨a6,a5⟩:=fr;simp only[]at h g H am;split at h
  ·rename_i bh α ap l hb;obtain⟨O,x1,x2,hi,⟨al,ad⟩,h⟩:=bV h;simp only[dl]at O;obtain⟨⟨r,ac⟩,a1⟩:=O;have r:=c4 r;obtain rfl:=c4 ac;have J:=vM (m':=m0) H a1;have D:=J.length;have u:=bm hE hx;generalize hv:a.eval x=v at u;cases u with
   | @ep _ _ _ _ _ c ob n0 a4 _ _ hg _=>
    have f:γ[j]? =some _:=hg;have K:=g.br j _ _ hb f;rcases K with⟨p,Q,a2⟩|⟨kk,a3,cap,S,e,a9,Q,T,h2,h3,h4,h5,h6,h7⟩
    ·subst a2;simp at hi
    ·have a0:c=kk/\ob=a3:=by simp at Q;exact Q.1
     obtain⟨rfl,rfl⟩:=a0;rw[Q]at hg f;obtain⟨R,q1,q2,q3,q4,q5⟩:=NH h5 h6 hi al ad J h7 (by simp;omega);have I:=run_store (P:=P) ho hv hu (λw=>by rw[<-D,r];exact hT.size ht w) n.one T (by simpa using q4);have m:aC (.row sz α ap l) (.slice (some ⟨c,ob,none⟩) l.length (cap+1))=[c]:=rfl;have Y:au [c] w.heap (w.setRow c (S.toList.take (ob+i*sz+b)++N++S.toList.drop (ob+i*sz+b+N.length)).toArray).heap:=mz _ _ _;have ex:=g.ext (γ':=[]) (W:=[c]) (λq M=>g.nf j _ _ q hb f (by rw[m];exact M)) Y;rw[d0]at ex;refine⟨_,undef,_,_,_,F1,γ,⟨.inr ⟨rfl,rfl⟩,I⟩,bA.of rfl rfl rfl,h,Step.aZ ar ⟨g.aA hb f (by rw[m];exact Y) (λq M=>by rw[m];simpa[aC]using M) (.inr ⟨c,ob,cap,_,e,R,by rw[f5],setRow_heap w c _ _ _ _ T,by rw[f5];exact h2,h3,?_,q1.ext ex.m0,q3,q5⟩),ex⟩,trivial,λz=>by rw[ho]at z;simp[l6]at z,λha=>by rw[ho]at ha;cases ha⟩;simp at q4⊢;omega
  ·exact h.elim
 ·exact h.elim
def cj(H:ae)(sz:Nat)(v:Value)(n:Nat)(cs:List Value):Prop:=
 cs.length=n*sz/\((∃p,v= .slice p 0 0/\n=0)\/∃g b cap a e,v= .slice (some ⟨g,b,none⟩) n (cap+1)/\H[g]? =some (.cells a e (0,0))/\n<=cap+1/\cap+1<=maxLen/\b+(cap+1)*sz<=a.size/\(a.toList.drop b).take (n*sz)=cs)
def bd:Value->List Nat
 | .slice (some a) _ (_+1)=>[a.block]
 |_=>[]
theorem cj.src{H:ae}{sz n:Nat}{v:Value}{cs:List Value}(h:cj H sz v n cs):Src P H sz v n cs:=λw k=>by
 rcases h.2 with⟨p,rfl,rfl⟩|⟨g,c,cap,d,e,rfl,i,l,m,o,f⟩
 ·have:cs=[]:=c6 (by simpa using h.1);subst this;cases p with
  |none=>exact⟨by simp[Builtin.lenOf],by simp[Builtin.firstCells]⟩
  |some a=>
   have:=run_loadCells_list (P:=P) (w:=w) a [] (by simp);exact⟨by simp[Builtin.lenOf],by simpa[Builtin.firstCells]using this⟩
 ·refine⟨by simp[Builtin.lenOf],?_⟩;refine run_firstCells_some w sz n ⟨g,c,none⟩ _ _ cs h.1 (λj v b=>?_);rw[Addr.add_lit,dG k];unfold NB.cell;rw[i];rw[<-f,List.getElem?_take]at b;split at b
  ·rw[List.getElem?_drop]at b;simpa using b
  ·cases b
theorem SV.src{L:LS}{H:ae}{v:Value}(h:SV F H L v):∃news,Src P H L.sz v L.l.length news/\RL F H m0 (L.l.flatMap L.enc) news/\∀x∈L.l,(L.enc x).length=L.sz:=by
 obtain⟨q,α,i,l⟩:=L;rcases h with⟨p,rfl,c⟩|⟨b,e,cap,d,rfl,r,s,f,g,k⟩
 ·have c:l=[]:=c;subst c;refine⟨[],λw _=>⟨by simp[Builtin.lenOf],?_⟩,.nl,λx o=>by cases o⟩;cases p with
  |none=>simp[Builtin.firstCells]
  |some a=>
   have:=run_loadCells_list (P:=P) (w:=w) a [] (by simp);simpa[Builtin.firstCells]using this
 ·refine⟨d,λw n=>⟨by simp[Builtin.lenOf],?_⟩,f,g⟩;have c:=f.length;rw[jD g]at c;exact run_firstCells_some w q l.length ⟨b,e,none⟩ _ cap d c.symm (λj v m=>by rw[Addr.add_lit,dG n];exact k j v m)
def nX(H:ae)(e:TypeId)(v:Value):Prop:=(∃p,v= .slice p 0 0)\/∃k n c a,v= .slice (some ⟨k,0,none⟩) n (c+1)/\H[k]? =some (.cells a e (0,0))
theorem El{t t2 e:TypeId}{i:TypeInfo}{z v x:Value}{sx sy:Operand}{size n m:Nat}{cs news:List Value}{dx:TypeDesc}
  (ho:o.op= .call {callee:= .builtin .append,args:= #[sx,sy],argTypes:= #[t,t2]})(U:P.underlying t=some (.slice e))(y:P.underlying t2=some dx)(a9:∀k,dx≠.int k)
  (hi:∀w,(typeInfo e).run P w= .ok i w)(a0:i.size=size)(hz:i.zero=some z)(a2:z.cells.size=size)
  (T:a.eval sx=v)(hy:a.eval sy=x)(hr:cj w.heap size v n cs)(D:Src P w.heap size x m news)(O:∀u∈news,u.oneCell'=true)(r:news.length=m*size)(I:(n+m)*i.bytes<=140737488355328)(ao:n+m<=9223372036854775807):
  ∃v' w',(execOp a.eval o).run P w= .ok (.value v') w'/\bA w w'/\cj w'.heap size v' (n+m) (cs++news)/\au (bd v) w.heap w'.heap/\(∀b∈bd v',b∈bd v\/w.heap.size<=b)/\(nX w.heap e v->nX w'.heap e v'):=by
 have hlen:(cs++news).length=(n+m)*size:=by rw[d5,hr.1,r,ea]
 have c:∀w,(sizeOf e).run P w= .ok size w:=λw=>by simp[sizeOf,hi,a0]
 have H:∀w,(zeroValue e).run P w= .ok z w:=λw=>by simp[zeroValue,hi,hz]
 obtain⟨s,F⟩:=D w rfl;have ap:n+m<=maxLen:=ao
 have grow:∀(p:Option Addr) (j:Nat),v= .slice p n j->j<n+m->∃v' w',(execOp a.eval o).run P w= .ok (.value v') w'/\bA w w'/\cj w'.heap size v' (n+m) (cs++news)/\au (bd v) w.heap w'.heap/\(∀b∈bd v',b∈bd v\/w.heap.size<=b)/\(nX w.heap e v->nX w'.heap e v'):=by
  intro p j hv ac;have a5:=grownCap_ge w (n+m) j e;have a4:grownCap w (n+m) j e<=maxLen:=grownCap_le_maxLen w (n+m) j e ap;have am:=growslice_fits ac I;have N:∀w':World,w'.heap=w.heap->(Builtin.firstCells size n (.slice p n j)).run P w'= .ok cs.toArray w':=λw' a1=>by rw[<-hv];exact(cj.src (P:=P) hr w' a1).2
  obtain⟨S,q⟩:∃S,grownCap w (n+m) j e=S+1:=⟨grownCap w (n+m) j e-1,by omega⟩;refine⟨.slice (some ⟨w.heap.size,0,none⟩) (n+m) (grownCap w (n+m) j e),w.drew.alloc (.cells (cs.toArray++news.toArray++Builtin.zeroCells z.cells (grownCap w (n+m) j e-(n+m))) e),?_,bA.of rfl rfl rfl,⟨hlen,.inr ⟨w.heap.size,0,S,_,_,by rw[q],heap_alloc_new w.drew _,by omega,by omega,?_,?_⟩⟩,?_,?_,?_⟩
  ·have h1:=N w.drew rfl;have Y:=(D w.drew rfl).2;unfold execOp;rw[ho];have K:¬n+m<=j:=by omega
   have J:¬((9223372036854775807:Int)<(n:Int)+(m:Int)):=by omega
   have ar:¬281474976710656<Builtin.nextslicecap (n+m) j*i.bytes:=by omega
   simp[resolve,invoke,builtin,T,hy,hv,Builtin.append_,run_underlying U,run_underlying y,c,s,K,hi,J,ar,H,newRow];have Z:Question.forced (.appendCap (n+m) j e)=false:=rfl;simp[Z];rw[h1];simp[Y];refine⟨rfl,?_⟩;have e2:(cs++news).toArray=cs.toArray++news.toArray:=by simp
   rw[e2,Array.append_assoc];rfl
  ·simp only[Array.size_append,d8,size_zeroCells,a2,hr.1,r,<-ea];rw[<-q];rw[e0];refine ek _ (by omega)
  ·simp only[Array.toList_append,dc,er];rw[<-dc,<-hlen];exact es
  ·exact(au.push [] w.heap _).nil
  ·intro b hb;rw[q]at hb;simp[bd]at hb;subst hb;exact .inr (f1 _)
  ·exactλ_=>.inr ⟨w.heap.size,n+m,S,_,by rw[q],heap_alloc_new w.drew _⟩
 rcases hr.2 with⟨p,hv,hn⟩|⟨g,d,cap,f,W,hv,l,h1,Y,h3,h4⟩
 ·by_cases hm:m=0
  ·have al:cs=[]:=c6 (by rw[hr.1,hn];simp);have E:news=[]:=c6 (by rw[r,hm];simp);subst hn hm al E hv;refine⟨.slice p 0 0,w,?_,bA.refl _,⟨by simp,.inl ⟨p,rfl,rfl⟩⟩,au.refl _ _,λb hb=>.inl hb,id⟩;unfold execOp;rw[ho];cases p with
   |none=>simp[resolve,invoke,builtin,T,hy,Builtin.append_,run_underlying U,run_underlying y,c,s,F]
   |some ad=>simp[resolve,invoke,builtin,T,hy,Builtin.append_,run_underlying U,run_underlying y,c,s,F,storeCells]
  ·subst hn;exact grow p 0 hv (by omega)
 ·by_cases h:n+m<=cap+1
  ·have a6:n*size+m*size<=(cap+1)*size:=by rw[<-ea];exact ek _ h
   have R:=run_storeCells_at P g (d+n*size) W news 0 f w l (by rw[r];omega) O;simp only[fx]at R;refine⟨.slice (some ⟨g,d,none⟩) (n+m) (cap+1),w.setRow g (f.toList.take (d+n*size)++news++f.toList.drop (d+n*size+news.length)).toArray,?_,bA.of rfl rfl rfl,⟨hlen,.inr ⟨g,d,cap,_,W,rfl,setRow_heap w g f _ W _ l,h,Y,?_,?_⟩⟩,?_,?_,?_⟩
   ·unfold execOp;rw[ho];simp[resolve,invoke,builtin,T,hy,hv,Builtin.append_,run_underlying U,run_underlying y,c,s,F,h,Addr.add_lit,R]
   ·simp only[d8,d5,c7,dk,eq];omega
   ·have e1:f.toList.take (d+n*size)=f.toList.take d++cs:=by
     rw[List.take_add,h4]
    have M:(f.toList.take d).length=d:=by rw[c7,eq];omega
    show((f.toList.take (d+n*size)++news++f.toList.drop (d+n*size+news.length)).drop d).take _=_;rw[e1,dc,dc,d4 M,<-dc,<-hlen];exact es
   ·rw[hv];exact mz w g _
   ·intro b hb;rw[hv];exact .inl hb
   ·rintro(⟨p,Q⟩|⟨k,n',c',a3,Q,hk⟩)
    ·rw[hv]at Q;cases Q
    ·rw[hv]at Q;cases Q;rw[l]at hk;cases hk;exact .inr ⟨g,n+m,cap,_,rfl,setRow_heap w g f _ _ _ l⟩
  ·exact grow _ (cap+1) hv (by omega)
theorem rG{H:ae}{m:Md}{sz:Nat}{α:Type}{enc:α->List C}{l:List α}{g:Value}(h:BR F H m (.row sz α enc l) g):∃cs,cj H sz g l.length cs/\RL F H m0 (l.flatMap enc) cs/\∀x∈l,(enc x).length=sz:=by
 rcases h with⟨p,rfl,rfl⟩|⟨k,d,cap,b,t,a,rfl,i,j,n,o,e,f,q⟩
 ·exact⟨[],⟨by simp,.inl ⟨p,rfl,rfl⟩⟩,.nl,λx r=>by cases r⟩
 ·have c:=e.length;rw[jD f]at c;exact⟨a,⟨c.symm,.inr ⟨k,d,cap,b,t,rfl,i,j,n,o,by rw[c];exact q⟩⟩,e,f⟩
theorem Hm{H:ae}{m:Md}{t sz:Nat}{α:Type}{enc:α->List C}{l:List α}{g:Value}(h:BR F H m (.buf t sz α enc l) g):∃cs,cj H sz g l.length cs/\RL F H m0 (l.flatMap enc) cs/\(∀x∈l,(enc x).length=sz)/\nX H t g:=by
 rcases h with⟨p,rfl,rfl⟩|⟨k,cap,a,b,rfl,d,i,j,q,e,f,n⟩
 ·exact⟨[],⟨by simp,.inl ⟨p,rfl,rfl⟩⟩,.nl,(λx o=>by cases o),.inl ⟨p,rfl⟩⟩
 ·have c:=e.length;rw[jD f]at c;exact⟨b,⟨c.symm,.inr ⟨k,0,cap,a,t,rfl,d,i,j,by omega,by rw[c,er];exact n⟩⟩,e,f,.inr ⟨k,_,cap,a,rfl,d⟩⟩
theorem Jz{H:ae}{m:Md}{t sz n:Nat}{α:Type}{enc:α->List C}{l:List α}{g:Value}{cs:List Value}(h:cj H sz g n cs)(u:nX H t g)(hn:n=l.length)(hr:RL F H m0 (l.flatMap enc) cs)(hz:∀x∈l,(enc x).length=sz):BR F H m (.buf t sz α enc l) g:=by
 subst hn;rcases h.2 with⟨p,rfl,s⟩|⟨k,c,cap,a,e,rfl,f,o,q,y,r⟩
 ·exact .inl ⟨p,rfl,c6 s⟩
 ·rcases u with⟨p,b⟩|⟨v,w,j,d,b,i⟩
  ·simp at b
  ·obtain⟨⟨rfl,rfl⟩,-,rfl⟩:(k=v/\c=0)/\l.length=w/\cap=j:=by simpa using b
   rw[f]at i;cases i;exact .inr ⟨k,cap,a,cs,rfl,f,o,q,by omega,hr,hz,by rw[h.1];simpa using r⟩
theorem Di{t sz:Nat}{α:Type}{enc:α->List C}{l:List α}(g:Value):aC (.buf t sz α enc l) g=bd g:=by
 cases g with
 |slice p n c=>cases p<;>cases c<;>rfl
 |_=>rfl
theorem s8{H:ae}{m:Md}{sz n:Nat}{α:Type}{enc:α->List C}{l:List α}{g:Value}{cs:List Value}(h:cj H sz g n cs)(hn:n=l.length)(hr:RL F H m0 (l.flatMap enc) cs)(hz:∀x∈l,(enc x).length=sz):BR F H m (.row sz α enc l) g:=by
 subst hn;rcases h.2 with⟨p,rfl,j⟩|⟨k,b,cap,a,t,rfl,c,d,e,f,i⟩
 ·exact .inl ⟨p,rfl,c6 j⟩
 ·exact .inr ⟨k,b,cap,a,t,cs,rfl,c,d,e,f,hr,hz,by rw[h.1];exact i⟩
theorem nK{sz:Nat}{α:Type}{enc:α->List C}{l:List α}(g:Value):aC (.row sz α enc l) g=bd g:=by
 cases g with
 |slice p n cap=>cases p<;>cases cap<;>rfl
 |_=>rfl
theorem cj.part{H:ae}{sz n0 lo n cap:Nat}{p q:Option Addr}{cs:List Value}(h:cj H sz (.slice p n0 cap) n0 cs)(i:lo+n<=n0)(hq:cap≠lo->q=p.map (·.add (lo*sz))):
  cj H sz (.slice q n (cap-lo)) n ((cs.drop (lo*sz)).take (n*sz))/\∀b∈bd (.slice q n (cap-lo)),b∈bd (.slice p n0 cap):=by
 have s:lo*sz+n*sz<=n0*sz:=by rw[<-ea];exact ek _ i
 have g:((cs.drop (lo*sz)).take (n*sz)).length=n*sz:=by rw[c7,dk,h.1];omega
 rcases h.2 with⟨y,e,x⟩|⟨k,j,a,c,t,e,m,u,v,w,o⟩
 ·cases e;obtain rfl:n=0:=by omega
  obtain rfl:lo=0:=by omega
  exact⟨⟨g,.inl ⟨q,rfl,rfl⟩⟩,λb hb=>by cases q<;>simp[bd]at hb⟩
 ·simp at e;obtain⟨rfl,rfl⟩:=e;by_cases f:a+1=lo
  ·obtain rfl:n=0:=by omega
   refine⟨⟨g,.inl ⟨q,by rw[f,ec],rfl⟩⟩,λb hb=>?_⟩;rw[f,ec]at hb;cases q<;>simp[bd]at hb
  ·have hq:=hq f;simp[Addr.add_lit]at hq;obtain⟨d,l⟩:∃d,a+1-lo=d+1:=⟨a-lo,by omega⟩;have r:lo*sz+(d+1)*sz=(a+1)*sz:=by rw[<-ea];congr 1;omega
   refine⟨⟨g,.inr ⟨k,j+lo*sz,d,c,t,by rw[hq,l],m,by omega,by omega,by omega,?_⟩⟩,λb hb=>?_⟩
   ·rw[<-o,<-fs,f6,List.take_take,eh (by omega)]
   ·rw[hq,l]at hb;simpa[bd]using hb
end
section
variable {P:Program} {tab:Nat->Option TD} {E:En} {F:Nat->Prop} {γ:List Value} {s:St} {a:Act} {w:World} {o:Oper} {k:List B->A->Prop}
theorem pg{F:Nat->Prop}{H:ae}{m:Md}:∀l:List UInt8,RL F H m (l.flatMap aN) (l.map bv)
 |[]=>.nl
 |_::l=>.int (pg l)
theorem WR.Jt{E:En}{F:Nat->Prop}{γ:List Value}{ah:List B}{H H':ae}(h:WR E F γ ah H)(k:au [] H H')(m:H.size<H'.size):WR E (λq=>F q\/q=H.size) γ ah H':=by
 have a:=h.same k;have e:Ext F H' ⟨E.B,γ⟩ (λq=>F q\/q=H.size) H' ⟨E.B,γ⟩:=kZ λ_ h=>.inl h;refine⟨a.len,λj b g f d=>BR.ext e (λ_ _=>rfl) (a.br j b g f d),a.disj,λj b g q f d c=>⟨λl=>l.elim (a.nf j b g q f d c).1 (λi=>?_),(a.nf j b g q f d c).2⟩,λq c=>c.elim (a.fb q) (λi=>by omega),a.bb,a.size,a.cn,λq c=>.inl (a.fmono q c),λq c=>c.elim (a.fnew q) (λi=>.inr (.inr (by have:=h.size;omega))),a.onew,a.pre,a.gl⟩;have:=fV (h.br j b g f d) q c;omega
theorem Gn{H:ae}{ah:List B}{c:C}{v:Value}{b:Option LS}{k:TD}{xs:List k.α}(K:WR E F γ ah H)(hc:RL F H ⟨E.B,γ⟩ [c] [v])(hb:ss ah c=some b)(f:sq k b xs):
  ∃cs,cj H k.size v xs.length cs/\RL F H m0 (xs.flatMap k.enc) cs/\(∀x∈xs,(k.enc x).length=k.size)/\
   ((kill ah c=ah/\bd v=[])\/∃j b g,kill ah c=ah.set j .dead/\ah[j]? =some b/\γ[j]? =some g/\(∀cs ty,ah[j]?≠some (.box cs ty))/\∀q∈bd v,q∈aC b g)/\
   ∀j t sz α enc l,c= .rw j->ah[j]? =some (.buf t sz α enc l)->nX H t v:=by
 cases c with
 |nil=>
  cases hb;have f:xs=[]:=f;subst f;cases hc;exact⟨[],⟨by simp,.inl ⟨none,rfl,rfl⟩⟩,.nl,(λx f=>by cases f),.inl ⟨rfl,rfl⟩,λj t sz α enc l h=>by cases h⟩
 |rw j=>
  simp only[ss]at hb;split at hb
  ·rename_i sz α enc l d;cases hb;cases f;cases hc with
   | @rw _ _ p q n cap _ _ w s _=>
    have a:γ[j]? =some _:=w;obtain⟨cs,i,r,m⟩:=rG (K.br _ _ _ d a);by_cases e:cap=0
    ·subst e
     have u:xs.length=0/\n=0:=by
      rcases i.2 with⟨_,o,I⟩|⟨_,_,_,_,_,o,_⟩
      ·cases o;exact⟨I,rfl⟩
      ·simp at o
     have M:=u.1;rw[u.2];refine⟨cs,⟨i.1,.inl ⟨q,rfl,M⟩⟩,r,m,.inr ⟨j,_,_,rfl,d,a,(λcs ty h=>by rw[d]at h;cases h),λb hb=>by cases q<;>simp[bd]at hb⟩,λj t sz α enc l h hb=>by cases h;rw[d]at hb;cases hb⟩
    ·rw[s e];exact⟨cs,i,r,m,.inr ⟨j,_,_,rfl,d,a,(λcs ty h=>by rw[d]at h;cases h),λq z=>by rw[nK];exact z⟩,λj t sz α enc l h hb=>by cases h;rw[d]at hb;cases hb⟩
  ·rename_i t sz α enc l d;cases hb;cases f;cases hc with
   | @rw _ _ p q n cap _ _ w s _=>
    have a:γ[j]? =some _:=w;obtain⟨cs,i,r,m,J⟩:=Hm (K.br _ _ _ d a);by_cases e:cap=0
    ·subst e
     have u:xs.length=0/\n=0:=by
      rcases i.2 with⟨_,o,I⟩|⟨_,_,_,_,_,o,_⟩
      ·cases o;exact⟨I,rfl⟩
      ·simp at o
     have M:=u.1;rw[u.2];refine⟨cs,⟨i.1,.inl ⟨q,rfl,M⟩⟩,r,m,.inr ⟨j,_,_,rfl,d,a,(λcs ty h=>by rw[d]at h;cases h),λb hb=>by cases q<;>simp[bd]at hb⟩,λ_ _ _ _ _ _ _ _=>.inl ⟨q,rfl⟩⟩
    ·rw[s e];exact⟨cs,i,r,m,.inr ⟨j,_,_,rfl,d,a,(λcs ty h=>by rw[d]at h;cases h),λq z=>by rw[Di];exact z⟩,λY t2 U W R Z h hb=>by cases h;rw[d]at hb;cases hb;exact J⟩
  ·cases hb
 |sw sz j P n=>
  simp only[ss]at hb;split at hb
  ·rename_i Q α enc l d;by_cases D:dg sz Q=true
   ·obtain rfl:=c4 D;rw[D]at hb;cases hb;cases f;cases hc with
    | @sw _ _ _ _ _ p q n0 cap _ _ w N z _=>
     have a:γ[j]? =some _:=w;obtain⟨cs,i,r,m⟩:=rG (K.br _ _ _ d a)
     have O:n0=l.length:=by
      rcases i.2 with⟨p',e,u⟩|⟨_,_,_,_,_,e,_⟩
      ·cases e;omega
      ·simp at e;exact e.2.1
     subst O;obtain⟨J,T⟩:=i.part N z;have y:((l.drop P).take n).length=n:=by rw[c7,dk];omega
     have S:∀x∈l.drop P,(k.enc x).length=k.size:=λx f=>m x (em f);refine⟨_,by rw[y];exact J,?_,λx f=>S x (dr f),.inr ⟨j,_,_,rfl,d,a,(λcs ty h=>by rw[d]at h;cases h),λb hb=>by rw[nK];exact T b hb⟩,λj t sz α enc l h=>by cases h⟩;rw[<-ph n S,<-oe P m];exact(r.drop _).take _
   ·rw[d3]at D;rw[D]at hb;cases hb
  ·cases hb
 |_=>cases hb
theorem Oz{H:ae}{ah:List B}{c:C}{v:Value}{b:Option LS}{a:TD}{ys:List a.α}(h:WR E F γ ah H)(hc:RL F H ⟨E.B,γ⟩ [c] [v])(hb:oN ah c=some b)(hy:sq a b ys):
  ∃news,Src P H a.size v ys.length news/\RL F H m0 (ys.flatMap a.enc) news/\(∀x∈ys,(a.enc x).length=a.size):=by
 cases c with
 |nil=>
  cases hb;have hy:ys=[]:=hy;subst hy;cases hc;exact⟨[],λw _=>⟨by simp[Builtin.lenOf],by simp[Builtin.firstCells]⟩,.nl,λx m=>by cases m⟩
 |str l=>
  cases hb;have hy:(⟨1,UInt8,aN,l⟩:LS)=⟨a.size,a.α,a.enc,ys⟩:=hy
  have k:∀L:LS,L=⟨1,UInt8,aN,l⟩->∃news,Src P H L.sz v L.l.length news/\RL F H m0 (L.l.flatMap L.enc) news/\(∀x∈L.l,(L.enc x).length=L.sz):=λL d=>by
   subst d;cases hc with
   |str _ _=>
    exact⟨_,Src.str l,pg l,λx m=>rfl⟩
  exact k _ hy.symm
 |ls o α i l=>
  simp only[oN,d1]at hb;obtain⟨L,d,rfl⟩:=hb;obtain⟨news,e,f,g⟩:=(h.sl hc d).src (P:=P);cases hy;exact⟨news,e,f,g⟩
 |bs o α i l=>
  simp only[oN,d1]at hb;obtain⟨L,d,rfl⟩:=hb;obtain⟨news,e,f,g⟩:=(h.sl hc d).src (P:=P);cases hy;exact⟨news,e,f,g⟩
 |rw j=>
  simp only[oN,d1]at hb;obtain⟨L,d,rfl⟩:=hb;obtain⟨news,e,f,g⟩:=(h.sl hc d).src (P:=P);cases hy;exact⟨news,e,f,g⟩
 |sw o j p n=>
  simp only[oN,d1]at hb;obtain⟨L,d,rfl⟩:=hb;obtain⟨news,e,f,g⟩:=(h.sl hc d).src (P:=P);cases hy;exact⟨news,e,f,g⟩
 |_=>simp[oN,lE]at hb
theorem NI{α:Type}{enc:α->List C}{l l2:List α}{lo n sz:Nat}{css us:List Value}{cur:List Value}{off:Nat}{F:Nat->Prop}{H:ae}{m:Md}
  (hr:RL F H m (l.flatMap enc) css)(hz:∀x∈l,(enc x).length=sz)(p:lo+n<=l.length)(j:l2.length=n)(f:∀x∈l2,(enc x).length=sz)(r:RL F H m (l2.flatMap enc) us)
  (hc:(cur.drop off).take css.length=css)(q:off<=cur.length):
  ∃a,RL F H m ((l.take lo++(l2++l.drop (lo+n))).flatMap enc) a/\a.length=css.length/\(∀x∈l.take lo++(l2++l.drop (lo+n)),(enc x).length=sz)/\off+lo*sz+us.length<=cur.length/\
   ((cur.take (off+lo*sz)++us++cur.drop (off+lo*sz+us.length)).drop off).take a.length=a:=by
 have z:l=l.take lo++((l.drop lo).take n++l.drop (lo+n)):=by
  rw[show l.drop (lo+n)=(l.drop lo).drop n by rw[fs],c9,c9]
 have I:((l.take lo).flatMap enc).length=lo*sz:=by
  rw[jD (λy hy=>hz y (dr hy)),c7,eh (by omega)]
 have J:(((l.drop lo).take n).flatMap enc).length=n*sz:=by
  rw[jD (λy hy=>hz y (em (dr hy))),c7,dk,eh (by omega)]
 have K:(l2.flatMap enc).length=n*sz:=by rw[jD f,j]
 have u:l.flatMap enc=(l.take lo).flatMap enc++(((l.drop lo).take n).flatMap enc++(l.drop (lo+n)).flatMap enc):=by
  conv=>lhs;rw[z]
  rw[dp,dp]
 rw[u]at hr;obtain⟨b,R,rfl,s,M⟩:=hr.split;obtain⟨e,c,rfl,N,O⟩:=M.split;have D:=s.length;have k:=N.length;have E:=r.length;rw[I]at D;rw[J]at k;rw[K]at E
 have w:(b++(e++c)).length<=cur.length-off:=by
  have:=congrArg f9 hc;rw[c7,dk]at this;omega
 obtain ⟨Z, v⟩ : ∃ Z, cur.drop off = (b ++ (e ++ c)) ++ Z := ⟨(cur.drop off).drop (b++(e++c)).length,by
  conv=>rhs;arg 1;rw[<-hc]
  rw[c9]⟩
 have g:cur=cur.take off++((b++(e++c))++Z):=by rw[<-v,c9]
 generalize h:cur.take off=d at g;have i:d.length=off:=by rw[<-h,c7];omega
 refine⟨b++(us++c),by rw[dp,dp];exact s.append (r.append O),by simp;omega,λy hy=>?_,?_,?_⟩
 ·rcases e6.1 hy with hy|hy
  ·exact hz y (dr hy)
  ·rcases e6.1 hy with hy|hy
   ·exact f y hy
   ·exact hz y (em hy)
 ·rw[g];simp;omega
 ·have o:cur=(d++b)++(e++(c++Z)):=by rw[g];simp[dc]
  have P:cur.take (off+lo*sz)=d++b:=by rw[o];exact f4 (by simp;omega)
  have Q:cur.drop (off+lo*sz+us.length)=c++Z:=by
   rw[o,<-dc,d4 (by simp;omega)]
  rw[P,Q];have t:d++b++us++(c++Z)=d++((b++(us++c))++Z):=by simp[dc]
  rw[t,d4 i,es]
theorem Eo{x:Operand}{t e et:TypeId}{zs:List Value}{size g off n cap:Nat}{cur:Array Value}{z:Value}(ho:o.op= .call {callee:= .builtin .clear,args:= #[x],argTypes:= #[t]})(p:a.eval x= .slice (some ⟨g,off,none⟩) n cap)(hn:0<n)
  (k:P.underlying t=some (.slice e))(hz:∀w,(zeroValue e).run P w= .ok z w)(h:z.cells=zs.toArray)(b:zs.length=size)(f:0<size)(d:∀u∈zs,u.oneCell'=true)(hg:w.heap[g]? =some (.cells cur et (0,0)))(c:off+n*size<=cur.size):
  (execOp a.eval o).run P w= .ok (.value (.tuple #[])) (w.setRow g (cur.toList.take off++(c5 n zs).flatten++cur.toList.drop (off+n*size)).toArray):=by
 have hl:(c5 n zs).flatten.length=n*size:=by simp[b]
 have j := run_storeCells_at P g off et (c5 n zs).flatten 0 cur w hg (by rw [hl]; simpa using c) (λu q=>by
  obtain⟨l,h1,h2⟩:=List.mem_flatten.1 q;rw[eu]at h1;exact d u (h1.2▸h2))
 simp only[fx,hl]at j;have i:=Fv b f n;obtain⟨n,rfl⟩:∃m,n=m+1:=⟨n-1,by omega⟩;unfold execOp;rw[ho]
 have key:(Builtin.zeroCells zs.toArray (n+1)).toList=(c5 (n+1) zs).flatten:=by
  rw[<-i];unfold Builtin.zeroCells;simp[b]
 simp only[resolve,invoke,builtin,p,Builtin.clear_,Sem.run_bind,Sem.run_pure,Result.andThen_ok,List.map_toArray,fv,List.map_nil,run_underlying k,hz,h];simp[p,run_underlying k,hz,h,key,j]
theorem Ia(hT:bI P tab)(hE:ER F w.heap ⟨E.B,γ⟩ s.env a)(K:WR E F γ s.ah w.heap){x:Operand}{t e:TypeId}{m:TD}{sz j lo n:Nat}{α:Type}{enc:α->List C}{l:List α}{z:α}(ho:o.op= .call {callee:= .builtin .clear,args:= #[x],argTypes:= #[t]})
  (ht:P.underlying t=some (.slice e))(y:tab e=some m)(Z:aW s x= .c (.sw sz j lo n))(hj:s.ah[j]? =some (.row sz α enc l))(I:sz=m.size)(a0:1<=m.size)(a2:ei m.zero=true)(hz:enc z=m.zero)(u:lo+n<=l.length)
  (h:k (s.ah.set j (.row sz α enc (l.take lo++(c5 n z++l.drop (lo+n))))) .undef):Dn P s E F γ a w o k:=by
 have O:=bm hE Z;generalize hv:a.eval x=v at O;cases O with
 | @sw _ _ _ _ _ p q n0 cap _ _ hg a3 hq _=>
 have D:γ[j]? =some _:=hg;have ac:=K.br j _ _ hj D;have f:l6 s o.op=true->False:=λb=>by rw[ho]at b;simp[l6,Z]at b
 by_cases hn:n=0
 ·subst hn;have el:l.take lo++(c5 0 z++l.drop (lo+0))=l:=by simp
  rw[el]at h
  have R:s.ah.set j (.row sz α enc l)=s.ah:=by
   refine f0 λi=>?_;rw[List.getElem?_set];split
   ·rename_i e;subst e;rw[hj,if_pos (dq.1 hj).1]
   ·rfl
  rw[R]at h
  have g:(execOp a.eval o).run P w= .ok (.value (.tuple #[])) w:=by
   unfold execOp;rw[ho];cases q<;>simp[resolve,invoke,builtin,hv,Builtin.clear_,run_underlying ht]
  have ex:=K.ext (γ':=[]) (W:=[]) (λq hq=>by cases hq) (au.refl [] w.heap);rw[d0]at ex;exact⟨_,_,w,_,_,F,γ,⟨.inl rfl,g⟩,bA.of rfl rfl rfl,h,⟨K,ex⟩,trivial,λb=>(f b).elim,λN=>by rw[ho]at N;cases N⟩
 ·rcases ac with⟨p',he,al⟩|⟨r,ob,d,cur,et,css,he,h1,h2,h3,h4,h5,h6,h7⟩
  ·subst al;simp at u;omega
  ·obtain⟨rfl,rfl,rfl⟩:p=some ⟨r,ob,none⟩/\n0=l.length/\cap=d+1:=by simpa using he
   have hq:=hq (by omega);simp only[Option.map_some]at hq;subst hq;obtain⟨i,zv,zs,hi,a1,ar,ap,ao,Y⟩:=hT.info e m y;have T:zs.length=m.size:=by have:=(Y F w.heap m0).length;rw[<-this,hT.zl e m y]
   have J:∀w,(zeroValue e).run P w= .ok zv w:=λw=>by simp[zeroValue,hi,ap]
   have U:RL F w.heap m0 (enc z) zs:=by rw[hz];exact Y F w.heap m0
   have ad:(enc z).length=sz:=by rw[hz,hT.zl e m y,I]
   have am:=x9 U n;have S:(c5 n zs).flatten.length=n*sz:=by simp[T,I]
   obtain⟨M,q1,q2,q3,q4,q5⟩:=NI (l2:=c5 n z) h5 h6 u (by simp) (λx Z=>by rw[(eu.1 Z).2];exact ad) am h7 (by simp;omega);rw[S]at q4 q5;have g:=Eo (P:=P) (w:=w) (off:=ob+lo*sz) (size:=sz) ho (by rw[hv,Addr.add_lit]) (by omega) ht J ao (by rw[T,I]) (by omega) U.one h1 (by simpa using q4);have H:aC (.row sz α enc l) (.slice (some ⟨r,ob,none⟩) l.length (d+1))=[r]:=rfl;have hK:au [r] w.heap (w.setRow r (cur.toList.take (ob+lo*sz)++(c5 n zs).flatten++cur.toList.drop (ob+lo*sz+n*sz)).toArray).heap:=mz _ _ _;have ex:=K.ext (γ':=[]) (W:=[r]) (λq hq=>K.nf j _ _ q hj D (by rw[H];exact hq)) hK;rw[d0]at ex;have Q:(l.take lo++(c5 n z++l.drop (lo+n))).length=l.length:=by simp;omega
   refine⟨_,_,_,_,_,F,γ,⟨.inl rfl,g⟩,bA.of rfl rfl rfl,h,⟨K.aA hj D (by rw[H];exact hK) (λq hq=>by rw[H];simpa[aC]using hq) (.inr ⟨r,ob,d,_,et,M,by rw[Q],setRow_heap w r _ _ _ _ h1,by rw[Q];exact h2,h3,?_,q1.ext ex.m0,q3,q5⟩),ex⟩,trivial,λb=>(f b).elim,λN=>by rw[ho]at N;cases N⟩;rw[d8,d5,d5,S,c7,dk];simp only[eq]at q4⊢;omega
theorem H7(hT:bI P tab)(hE:ER F w.heap ⟨E.B,γ⟩ s.env a)(K:WR E F γ s.ah w.heap){c:Call}(ho:o.op= .call c)(h:Y2 tab s (.call c) k):Dn P s E F γ a w o k:=by
 obtain⟨cl,ac,bj⟩:=c;simp only[Y2]at h;have D:∀{l:List Operand},ac.toList=l->ac=l.toArray:=λh=>by rw[<-h]
 have J:∀{l:List TypeId},bj.toList=l->bj=l.toArray:=λh=>by rw[<-h]
 split at h
 ·rename_i x y t t2 f u;have f:=D f;have u:=J u;subst f u;split at h
  ·rename_i d d2 ht b3;have hk:=hT.kind t d ht;have r:=hT.kind t2 d2 b3;split at h
   ·rename_i e hd;rw[hd]at hk;split at h
    ·rename_i _ _ _ v cx cy M hx hy;split at h
     ·rename_i _ _ bx cr bk bl;obtain⟨Z,U,Y,cf,ch,N,h⟩:=bV h;simp only[dl]at Z;have bp:=dj Z.2
      have br:∃dx,P.underlying t2=some dx/\∀k,dx≠.int k:=by
       have bn:=Z.1;revert r bn;cases d2.kind with
       |sl e=>intro h1 _;exact⟨_,h1,λ_ h=>by cases h⟩
       |str=>intro h1 _;exact⟨_,h1,λ_ h=>by cases h⟩
       |_=>intro _ h2;cases h2
      obtain⟨dx,cd,bs⟩:=br;obtain⟨i,zv,zs,hi,b2,a2,hz,cp,co⟩:=hT.info e v M;have cq:=hT.size M;obtain⟨cs,hr,b0,b1,Q,cb⟩:=Gn K (bm hE hx) bk cf;obtain⟨al,bh,ap,bb⟩:=Oz (P:=P) K (bm hE hy) bl ch;have R:=ap.length;rw[jD bb]at R;have c0:U.length+Y.length<=(U.length+Y.length)*v.bytes:=e3 _ bp
      have ci:zv.cells.size=v.size:=by
       have:=(co F w.heap m0).length;rw[cp,d8,<-this,hT.zl e v M]
      obtain⟨S,w',be,hA,ar,hK,a1,bi⟩:=El (P:=P) ho hk cd bs hi b2 hz ci rfl rfl hr bh ap.one R.symm (by rw[a2];exact N) (by omega);have H:RL F w.heap m0 ((U++Y).flatMap v.enc) (cs++al):=by rw[dp];exact b0.append ap
      have a4:∀x∈U++Y,(v.enc x).length=v.size:=λx hx=>(e6.1 hx).elim (b1 x) (bb x)
      have I:∀{m:Md},RL F w'.heap m0 ((U++Y).flatMap v.enc) (cs++al)->BR F w'.heap m (tR s.ah cx e v.size v.α v.enc (U++Y)) S/\aC (tR s.ah cx e v.size v.α v.enc (U++Y)) S=bd S:=λ{m} ad=>by
       have row:BR F w'.heap m (.row v.size v.α v.enc (U++Y)) S/\aC (.row v.size v.α v.enc (U++Y)) S=bd S:=⟨s8 ar (by simp) ad a4,nK _⟩;unfold tR;split
       ·split
        ·rename_i j _ t _ _ _ _ hj;cases b4:dg t e with
         |true=>
          obtain rfl:=c4 b4;exact⟨Jz ar (bi (cb _ _ _ _ _ _ rfl hj)) (by simp) ad a4,Di _⟩
         |false=>exact row
        ·exact row
       ·exact row
      refine⟨_,S,w',_,_,F,γ++[S],⟨.inl rfl,be⟩,hA,h,?_,?_,λhg=>?_,λha=>⟨hK.1,λj0 ct c3 v0 ao a5 q T=>hK.2 q (fV (K.br j0 _ _ ao a5) q T) λam=>?_⟩⟩
      ·rcases Q with⟨O,r⟩|⟨j,b,g,O,hj,hg,a6,r⟩
       ·rw[r]at hK;have ex:=K.ext (W:=[]) (λk hk=>by cases hk) hK [S];rw[O];refine⟨K.push hK (λq T=>?_) (I (H.ext ex.m0)).1,ex⟩;rw[(I (m:=m0) (H.ext ex.m0)).2]at T;rcases a1 q T with h1|h1
        ·rw[r]at h1;cases h1
        ·exact h1
       ·have a0:au (aC b g) w.heap w'.heap:=hK.mono r;have ex:=K.ext (λq T=>K.nf j b g q hj hg T) a0 [S];rw[O];refine⟨K.move hj hg a0 (λq T=>?_) (I (H.ext ex.m0)).1,ex⟩;rw[(I (m:=m0) (H.ext ex.m0)).2]at T;exact(a1 q T).imp (r q) id
      ·obtain⟨p,cap,ce⟩:∃p cap,S= .slice p (U.length+Y.length) cap:=by
        rcases ar.2 with⟨p,h1,h2⟩|⟨g,c1,cap,cv,et,h1,_⟩
        ·exact⟨p,0,by rw[h1,h2]⟩
        ·exact⟨_,_,h1⟩
       rw[ce];exact .rw (getLast_append K.len.symm) (λ_=>rfl) .nl
      ·rw[ho]at hg;simp only[l6,hx]at hg
       have a9:cx= .nil:=by
        revert hg;cases cx<;>first|(intro;rfl)|(intro h;cases h)
       subst a9;have a3:=bm hE hx;generalize a.eval x=vx at a3 hK;cases a3;exact hK
      ·rcases Q with⟨O,r⟩|⟨j,b,g,O,hj,hg,a6,r⟩
       ·rw[r]at am;cases am
       ·by_cases e:j0=j
        ·subst e;exact a6 _ _ ao
        ·exact K.disj j0 j _ _ _ _ e ao a5 hj hg q T (r q am)
     ·exact h.elim
    ·exact h.elim
   ·exact h.elim
  ·exact h.elim
 ·rename_i x t f u;have f:=D f;have u:=J u;subst f u;split at h
  ·rename_i d ht;have hk:=hT.kind t d ht;split at h
   ·rename_i e hd;rw[hd]at hk;split at h
    ·rename_i _ _ v sz j lo n M hx;split at h
     ·rename_i c2 α cV l hj;obtain⟨Z,z,hz,N,h⟩:=bV h;simp only[dl]at Z;obtain rfl:=c4 Z.1;exact Ia hT hE K ho hk M hx hj (c4 Z.2.1.1) (dj Z.2.1.2) Z.2.2 hz N h
     ·exact h.elim
    ·exact h.elim
   ·exact h.elim
  ·exact h.elim
 ·exact h.elim
theorem WR.Nc{H H':ae}{ah:List B}(h:WR E F γ ah H){b:Nat}(hb:E.own b\/E.H0.size<=b)(r:F b)(n:H'.size=H.size)(hc:∀o,cell H' b o=cell H b o)(hk:∀k,k≠b->H'[k]? =H[k]?):WR E F γ ah H'/\Ext F H ⟨E.B,γ⟩ F H' ⟨E.B,γ⟩:=by
 have e : Ext F H ⟨E.B, γ⟩ F H' ⟨E.B, γ⟩ := ⟨λ_ h=>h,λc o u _ p=>by
  by_cases d:c=b
  ·subst d;rw[hc];exact p
  ·exact vD (hk c d) p,λ_ h=>h,λ_ _ h=>h⟩
 refine⟨⟨h.len,λj c g m l=>BR.ext e (λk a=>hk k (λf=>(h.nf j c g k m l a).1 (f▸r))) (h.br j c g m l),h.disj,h.nf,λk a=>by rw[n];exact h.fb k a,h.bb,by rw[n];exact h.size,λk q i=>?_,h.fmono,h.fnew,h.onew,h.pre,h.gl⟩,e⟩;have:k≠b:=λf=>by subst f;exact hb.elim i (λs=>by omega)
 rw[hk k this];exact h.cn k q i
theorem Ic(hT:bI P tab)(hE:ER F w.heap ⟨E.B,γ⟩ s.env a)(O:WR E F γ s.ah w.heap){t e:Nat}{x:Operand}{j:Nat}{α:Type}{enc:α->List C}{y:α}{l:List α}(ho:o.op= .convert t t x)(hx:aW s x= .c (.rw j))(ht:P.underlying t=some (.slice e))(he:P.underlying e=some (.int .u8))
  (hj:s.ah[j]? =some (.row 1 α enc (y::l)))(h:k (s.ah.set j (.bh 1 α enc (y::l))) (.c (.ls 1 α enc (y::l)))):Dn P s E F γ a w o k:=by
 have hc:=bm hE hx;generalize hv:a.eval x=v at hc;cases hc with
 | @rw _ _ p q n cap _ _ D U _=>
  have D:γ[j]? =some (.slice p n cap):=D;obtain⟨F',J,Q,m⟩:=O.freeze hj;have m:=m _ D;rcases O.br j _ _ hj D with⟨p',_,h0⟩|⟨g,I,r,d,Z,ac,S,f,h2,h3,h4,h5,h6,h7⟩
  ·cases h0
  cases S;have hq:q=some ⟨g,I,none⟩:=U (by omega);subst hq;have T:g∈aC (.row 1 α enc (y::l)) (.slice (some ⟨g,I,none⟩) (y::l).length (r+1)):=by simp[aC]
  have N:F' g:=by
   cases m with
   |ls hb _ _ _ _ _ _=>exact hb
  have H:g<w.heap.size:=(Array.getElem?_eq_some_iff.1 f).1;let H':ae:=w.heap.set g (.cells d Z (d.size,d.size+1))
  have K:w.heap.modify g (λ| .cells c elem (lo,M)=>.cells c elem (if lo==M then(d.size,d.size+1)else(min lo d.size,max M (d.size+1)))|o=>o)=H':=by
   apply Array.ext_getElem?;intro i;rw[Array.getElem?_modify,eB H];split
   ·rename_i h;subst h;rw[f];simp
   ·rfl
  obtain ⟨R, z⟩ := Q.Nc (H' := H') (O.onew j _ _ g hj D T) N (by simp [H']) (λo=>by
   unfold cell;rw[eB H,if_pos rfl,f]) (λi M=>by rw[eB H,if_neg (λh=>M h.symm)])
  refine⟨_,.slice (some ⟨g,I,none⟩) (y::l).length (r+1),w.freeze ⟨g,d.size,none⟩ 1,_,_,F',γ,⟨.inl rfl,?_⟩,bA.of rfl rfl rfl,h,?_,?_,λD=>by rw[ho]at D;simp[l6,hx]at D,λha=>by rw[ho]at ha;cases ha⟩
  ·unfold execOp;rw[ho];have hs:w.shape? g=some (Z,d.size):=by unfold World.shape?;rw[f]
   simp[hv,convert,run_underlying ht,run_underlying he,markStringish,hs]
  ·have Y:(w.freeze ⟨g,d.size,none⟩ 1).heap=H':=by
    unfold World.freeze;rw[if_neg (by decide)];exact K
   rw[Y];exact⟨R,⟨λk hk=>J k hk,λb o u hb W=>z.h b o u (hb.imp (J b) id) W,λ_ h=>h,λ_ _ h=>h⟩⟩
  ·have Y:(w.freeze ⟨g,d.size,none⟩ 1).heap=H':=by
    unfold World.freeze;rw[if_neg (by decide)];exact K
   rw[Y];exact RL.up (m.ext ⟨λ_ h=>h,λb o u hb W=>z.h b o u (.inl (hb.elim id False.elim)) W,λ_ h=>h,λ_ _ h=>h⟩)
theorem Ib(n:bI P tab)(S:ER F w.heap ⟨E.B,γ⟩ s.env a)(K:WR E F γ s.ah w.heap){t u:Nat}{x:Operand}(ho:o.op= .convert t u x)(h:Y2 tab s (.convert t u x) k):Dn P s E F γ a w o k:=by
 simp only[Y2]at h;split at h
 ·rename_i _ _ _ d Q l O Y D;have m:=n.kind t d O;have z:=n.kind u Q Y;have U:=bm S D;split at h
  ·rename_i e I R;rw[I]at m;rw[R]at z;split at h
   ·rename_i H i;have c:=n.kind e H i;split at h
    ·rename_i J;rw[J]at c;generalize hv:a.eval x=v at U;cases U with
     |str hl _=>
      have b:=run_bytes_of_string (P:=P) w t u e ⟨l.toArray⟩ m z c;have N:(⟨l.toArray⟩:ByteArray).size=l.length:=rfl;rw[N]at b;have r:=grownCap_ge w l.length 0 e;have p:=grownCap_le_maxLen w l.length 0 e (show l.length<=maxLen from hl);generalize grownCap w l.length 0 e=cap at b r p;generalize Z:Obj.cells (bytesRow ⟨l.toArray⟩ cap) e ((bytesRow ⟨l.toArray⟩ cap).size,(bytesRow ⟨l.toArray⟩ cap).size+1)=ob at b;have g:au [] w.heap (w.heap.push ob):=au.push [] _ _;have ex:=K.ext (W:=[]) (γ':=[]) (λk m=>by cases m) g;rw[d0]at ex;refine⟨_,.slice (some ⟨w.heap.size,0,none⟩) l.length cap,w.drew.alloc ob,_,_,λq=>F q\/q=w.heap.size,γ,⟨.inl rfl,?_⟩,bA.of rfl rfl rfl,h,⟨K.Jt g (by simp),⟨λ_ h=>.inl h,ex.h,ex.b,ex.g⟩⟩,?_,λ_=>g,λT=>by rw[ho]at T;cases T⟩
      ·unfold execOp;rw[ho];simp[hv,NB.str,b]
      ·refine .ls (.inr rfl) r p (pg l) (λx D=>rfl) (λj q y=>?_) .nl;show cell (w.heap.push ob) _ _=_;unfold cell
       have M:j<l.length:=by
        have:=(dq.1 y).1;simpa using this
       rw[<-Z];simp only[Array.getElem?_push_size,e0];unfold bytesRow;rw[Array.getElem?_append_left (by simpa using M)];rw[d9]at y;simp only[Array.getElem?_map,List.getElem?_toArray];exact y
    ·exact h.elim
   ·exact h.elim
  ·exact h.elim
 ·rename_i _ _ _ d Q j O Y D;have m:=n.kind t d O;split at h
  ·rename_i e e' I R;rw[I]at m;have f:=bV h;clear h;obtain⟨f,h⟩:=f;rw[dl]at f;obtain rfl:=c4 f.2;split at h
   ·rename_i H i;have c:=n.kind e H i;split at h
    ·rename_i J;rw[J]at c;split at h
     ·rename_i y;exact Ic n S K ho D m c y h
     ·exact h.elim
    ·exact h.elim
   ·exact h.elim
  ·exact h.elim
 ·exact h.elim
theorem FL(f:bI P tab)(e:ER F w.heap ⟨E.B,γ⟩ s.env a)(b:WR E F γ s.ah w.heap)(h:Y2 tab s o.op k):Dn P s E F γ a w o k:=by
 generalize d:o.op=i at h;cases i with
 |alloc t=>exact H6 f b d h
 |box t x=>exact H8 e b d h
 |buildSlice t n g=>exact H9 f e b d h
 |makeSlice t x y=>exact Ie f e b d h
 |store t x y=>exact Ig f e b d h
 |convert t u x=>exact Ib f e b d h
 |call c=>exact H7 f e b d h
 |_=>simp only[Y2]at h
end
inductive Rn where
 |new
 |s (j:Nat)
 |cut (sz j lo n:Nat)
def kR(f:C->C->Prop):List C->List C->Prop
 |[],[]=>True
 |x::r,y::q=>f x y/\kR f r q
 |_,_=>False
def pO(f:C->C->Prop):List C->List C->Prop
 |_,[]=>True
 |x::r,y::q=>f x y/\pO f r q
 |[],_::_=>False
def qP(fr:Nat->Bool)(ah:List B)(j:Nat):Bool:=match ah[j]? with
 |some (.bh ..)=>true
 |some (.row ..)=>fr j
 |some (.box _ _)=>fr j
 |_=>false
def mC(fr:Nat->Bool)(ah:List B):Nat->List Rn->C->C->Prop
 |0,_,_,_=>False
 |n+1,ρ,k,c=>match c with
  | .rw i=>match ρ[i]? with
   |some (.s j)=>k= .rw j
   |some .new=>k= .nil
   |some (.cut h j s m)=>k= .sw h j s m
   |none=>False
  | .sw h i s m=>match ρ[i]? with
   |some (.s j)=>k= .sw h j s m
   |_=>False
  | .ptr i o=>match ρ[i]? with
   |some (.s j)=>k= .ptr j o
   |_=>False
  | .ep h i x o=>match ρ[i]? with
   |some (.s j)=>k= .ep h j x o
   |_=>False
  | .ls h α e l=>match k with
   | .nil=>l=[]
   | .ls b d a q=>(⟨b,d,a,q⟩:LS)=⟨h,α,e,l⟩
   | .rw j=>match ah[j]? with
    |some (.bh b d a q)=>(⟨b,d,a,q⟩:LS)=⟨h,α,e,l⟩
    |_=>False
   | .sw u j s m=>match ah[j]? with
    |some (.bh b d a q)=>bif dg u b then(⟨b,d,a,(q.drop s).take m⟩:LS)=⟨h,α,e,l⟩else False
    |_=>False
   |_=>False
  | .bs h α e l=>match k with
   | .nil=>l=[]
   | .ls b d a q=>(⟨b,d,a,q⟩:LS)=⟨h,α,e,l⟩
   | .bs b d a q=>(⟨b,d,a,q⟩:LS)=⟨h,α,e,l⟩
   | .rw j=>bif qP fr ah j then(ah[j]?).bind rowOf=some ⟨h,α,e,l⟩else False
   | .sw u j s m=>bif qP fr ah j then lE ah (.sw u j s m)=some ⟨h,α,e,l⟩else False
   |_=>False
  | .bp w=>match k with
   | .bp p=>pO (mC fr ah n []) p w
   | .ptr j o=>match ah[j]? with
    |some (.box p _)=>bif fr j then pO (mC fr ah n []) (p.drop o) w else False
    |_=>False
   | .ep h j i o=>bif qP fr ah j then match(ah[j]?).bind rowOf with
    |some L=>bif dg h L.sz then∃x,L.l[i]? =some x/\pO (mC fr ah n []) ((L.enc x).drop o) w else False
    |none=>False
    else False
   |_=>False
  | .fn f v=>match k with
   | .fn y r=>y=f/\kR (mC fr ah n ρ) r v
   |_=>False
  | .iface t g w=>match k with
   | .iface D z p=>(D=t/\z=g)/\kR (mC fr ah n ρ) p w
   |_=>False
  |c=>k=c
def bR(γ:List Value):Rn->Value
 | .s j=>(γ[j]?).getD undef
 | .new=>.slice none 0 0
 | .cut b j a n=>match γ[j]? with
  |some (.slice p _ cap)=>.slice (p.map (·.add (a*b))) n (cap-a)
  |_=>undef
section
variable {E:En} {F:Nat->Prop} {γ:List Value} {ah:List B} {H:ae} {B':Nat->Prop} {fr:Nat->Bool}
theorem RL.xq{m m':Md}{sz:Nat}{α:Type}{enc:α->List C}{l:List α}{v:Value}(h:RL F H m [.ls sz α enc l] [v]):RL F H m' [.ls sz α enc l] [v]:=by
 cases h with
 |ct _=>exact .ct .nl
 |ls hb a b d e c _=>exact .ls hb a b d e c .nl
theorem RL.CV{m m':Md}{sz:Nat}{α:Type}{enc:α->List C}{l:List α}{v:Value}(h:RL F H m [.ls sz α enc l] [v]):RL F H m' [.bs sz α enc l] [v]:=by
 cases h with
 |ct _=>exact .eg .nl
 |ls hb a b d e c _=>exact .bs (.inl hb) a b d e c .nl
theorem RL.Hl{m:Md}{sz:Nat}{α:Type}{enc:α->List C}{l:List α}{p q:Option Addr}{n cap:Nat}(d:SV F H ⟨sz,α,enc,l⟩ (.slice p n cap))(h:RL F H m [.bs sz α enc l] [.slice p n cap])(hq:cap≠0->q=p):RL F H m [.bs sz α enc l] [.slice q n cap]:=by
 by_cases e:cap=0
 ·obtain⟨f,a,c,b,_⟩:=d.slice;cases c;have b:l.length<=cap:=b;have:l=[]:=c6 (by omega);subst this;rw[e];exact .eg .nl
 ·rw[hq e];exact h
theorem yd{b:B}{g:Value}{L:LS}{m m':Md}(h:BR F H m b g)(a:rowOf b=some L)(v:∀k∈aC b g,m'.B k):RL F H m' [.bs L.sz L.α L.enc L.l] [g]:=by
 cases b with
 |box z Q=>cases a
 |dead=>cases a
 |buf=>cases a
 |row y α c l=>
  have w:=my h a;cases a;rcases h with⟨p,rfl,rfl⟩|⟨k,x,cap,n,t,j,rfl,E,I,J,K,M,N,O⟩
  ·exact .eg .nl
  ·rcases w with⟨P,e,D⟩|⟨b,i,d,f,e,o,q,r,s,u⟩
   ·simp at e
   ·simp at e;obtain⟨⟨rfl,rfl⟩,rfl⟩:=e;exact .bs (.inr (v k (by simp[aC]))) o q r s u .nl
 |bh y α c l=>cases a;exact RL.CV h
theorem wG(a:∀j b g,fr j=true->ah[j]? =some b->γ[j]? =some g->∀k∈aC b g,B' k){j:Nat}{b:B}{g:Value}(h:qP fr ah j=true)(hb:ah[j]? =some b)(hg:γ[j]? =some g):∀k∈aC b g,B' k:=by
 unfold qP at h;rw[hb]at h;cases b with
 |bh=>intro k c;simp[aC]at c
 |row=>exact a j _ _ h hb hg
 |box=>exact a j _ _ h hb hg
 |dead=>cases h
 |buf=>cases h
theorem DP{f:C->C->Prop}{m m':Md}(d:∀c0 c v,f c0 c->RL F H m [c0] [v]->RL F H m' [c] [v]):∀{a cs:List C} {vs:List Value},pO f a cs->RL F H m a vs->∃us:List Value,RL F H m' cs us/\∀(j:Nat) (u:Value),us[j]? =some u->vs[j]? =some u
 |_,[],vs,_,_=>⟨[],.nl,λj u h=>by simp at h⟩
 |c0::a,c::cs,vs,⟨g,i⟩,p=>by
  obtain⟨v,us,rfl,k,l⟩:=p.kK;obtain⟨b,n,o⟩:=DP d i l;refine⟨v::b,(d _ _ _ g k).cons n,λj u e=>?_⟩;cases j with
  |zero=>simpa using e
  |succ j=>simpa using o j u (by simpa using e)
theorem oY{f:C->C->Prop}{m m':Md}(d:∀c0 c v,f c0 c->RL F H m [c0] [v]->RL F H m' [c] [v]):∀{a cs:List C} {vs:List Value},kR f a cs->RL F H m a vs->RL F H m' cs vs
 |[],[],vs,_,b=>by cases b;exact .nl
 |c0::a,c::cs,vs,⟨e,g⟩,b=>by
  obtain⟨v,j,rfl,h,i⟩:=b.kK;exact(d _ _ _ e h).cons (oY d g i)
theorem zb{f:C->C->Prop}:∀{a cs:List C},kR f a cs->a.length=cs.length
 |[],[],_=>rfl
 |_::_,_::_,⟨_,h⟩=>by simp[zb h]
theorem RL.xE{m:Md}{cs:List C}{vs:List Value}(h:RL F H ⟨m.B,[]⟩ cs vs):RL F H m cs vs:=h.ext ⟨λ_ h=>h,λ_ _ _ _ h=>h,λ_ h=>h,λj v h=>by cases h⟩
theorem Hk{m:Md}{sz:Nat}{α:Type}{enc:α->List C}{l:List α}{b off n cap:Nat}(h:RL F H m [.bs sz α enc l] [.slice (some ⟨b,off,none⟩) n cap])(hl:l≠[]):F b\/m.B b:=by
 cases h with
 |eg _=>exact(hl rfl).elim
 |bs hb _ _ _ _ _ _=>exact hb
theorem xv(J:WR E F γ ah H)(hB:∀k,E.B k->B' k)(R:∀j b g,fr j=true->ah[j]? =some b->γ[j]? =some g->∀k∈aC b g,B' k):
  ∀(n:Nat) {ρ:List Rn} {c0 c:C} {v:Value},mC fr ah n ρ c0 c->RL F H ⟨E.B,γ⟩ [c0] [v]->RL F H ⟨B',ρ.map (bR γ)⟩ [c] [v]:=by
 intro n;induction n with
 |zero=>intro ρ c0 c v h;exact h.elim
 |succ n ih=>
  intro ρ c0 c v h a
  have Q:∀{i j:Nat} {g:Value},ρ[i]? =some (.s j)->γ[j]? =some g->(ρ.map (bR γ))[i]? =some g:=λs r=>by
   rw[d9,s];simp[bR,r]
  have U:∀{b o:Nat} {W cs:List C} {vs:List Value} {m:Md},(F b\/B' b)->RL F H ⟨E.B,γ⟩ W vs->(∀j u,vs[j]? =some u->cell H b (o+j)=some u)->pO (mC fr ah n []) W cs->RL F H ⟨B',ρ.map (bR γ)⟩ [.bp cs] [.pointer (some ⟨b,o,none⟩)]:=λhb P Y h3=>by
   obtain⟨us,g1,g2⟩:=DP (m':=⟨B',[]⟩) (λc0 c v h a=>ih (ρ:=[]) h a) h3 P;exact .bp hb g1 (λj u hj=>Y j u (g2 j u hj)) .nl
  cases c with
  |rw i=>
   simp only[mC]at h;split at h
   ·rename_i j s;subst h;cases a with
    |rw r z _=>exact .rw (Q s r) z .nl
   ·rename_i s;subst h;cases a;refine .rw (p:=none) (by rw[d9,s];rfl) (λh=>(h rfl).elim) .nl
   ·rename_i sz j w m s;subst h;cases a with
    | @sw _ _ _ _ _ p q n0 cap _ _ r S z _=>
     have d:γ[j]? =some _:=r;exact .rw (p:=p.map (·.add (w*sz))) (by rw[d9,s];simp[bR,d]) (λh=>z (by omega)) .nl
   ·exact h.elim
  |sw sz i w m=>
   simp only[mC]at h;split at h
   ·rename_i j s;subst h;cases a with
    |sw r S z _=>exact .sw (Q s r) S z .nl
   ·exact h.elim
  |ptr i o=>
   simp only[mC]at h;split at h
   ·rename_i j s;subst h;cases a with
    |ptr r _=>exact .ptr (Q s r) .nl
   ·exact h.elim
  |ep sz i x o=>
   simp only[mC]at h;split at h
   ·rename_i j s;subst h;cases a with
    |ep r _=>exact .ep (Q s r) .nl
   ·exact h.elim
  |ls sz α ao l=>
   simp only[mC]at h;split at h
   ·subst h;cases a;exact .ct .nl
   ·cases h;exact a.xq
   ·split at h
    ·rename_i hb;cases h;cases a with
     |rw r z _=>exact RL.xq (m:=m0) ((RL.up (m:=m0) (J.br _ _ _ hb r)).xW z)
    ·exact h.elim
   ·rename_i N j w m;split at h
    ·rename_i a0 am T l' hb;obtain⟨D,h⟩:=bV h;obtain rfl:=c4 D;have P:=BK J a;rw[show cE ah (.sw N j w m)=(ah,.ls N am T ((l'.drop w).take m))by simp only[cE,hb,D,cond_true]]at P;cases a with
     | @sw _ _ _ _ _ p q n0 cap _ _ r S z _=>
      have K:RL F H m0 [.ls N am T l'] [.slice p n0 cap]:=J.br _ _ _ hb r;cases h
      have hn:n0=l'.length:=by
       obtain⟨p',I,e,_⟩:=K.sv.slice;cases e;rfl
      by_cases e:cap=w
      ·obtain⟨p',I,e',g1,_⟩:=K.sv.slice;cases e';have g1:l'.length<=cap:=g1;obtain rfl:m=0:=by omega
       rw[e9,e,ec];exact .ct .nl
      ·have:=K.cut (x:=w) (y:=w+m) (by omega) (by omega);simp only[gZ,if_neg e]at this;rw[z e];rw[show w+m-w=m by omega]at this;exact this.xq
    ·exact h.elim
   ·exact h.elim
  |bs sz α ao l=>
   simp only[mC]at h;split at h
   ·subst h;cases a;exact .eg .nl
   ·cases h;exact a.CV
   ·cases h;cases a with
    |eg _=>exact .eg .nl
    |bs hb P Y a D hc _=>exact .bs (hb.imp id (hB _)) P Y a D hc .nl
   ·rename_i j;obtain⟨K,h⟩:=bV h;obtain⟨b,hb,O⟩:=d6.1 h;cases a with
    |rw r z _=>
     have d:γ[j]? =some _:=r;exact RL.Hl (my (J.br _ _ _ hb d) O) (yd (m':=⟨B',ρ.map (bR γ)⟩) (J.br _ _ _ hb d) O (wG R K hb d)) z
   ·rename_i N j w m;obtain⟨K,h⟩:=bV h;have hs:=J.sl a h;cases a with
    | @sw _ _ _ _ _ p q n0 cap _ _ r S z _=>
     have d:γ[j]? =some _:=r;simp only[lE]at h;cases hb:(ah[j]?).bind rowOf with
     |none=>rw[hb]at h;cases h
     |some L0=>
      rw[hb]at h;simp only[]at h;by_cases D:dg N L0.sz=true
      ·rw[D]at h;obtain⟨b,Z,O⟩:=d6.1 hb;have D:=c4 D;have al:=yd (m':=⟨B',ρ.map (bR γ)⟩) (J.br _ _ _ Z d) O (wG R K Z d);have ac:=my (J.br _ _ _ Z d) O
       have hn:n0=L0.l.length:=by
        obtain⟨p',I,e,_⟩:=ac.slice;cases e;rfl
       cases h;by_cases e:cap=w
       ·obtain⟨p',I,e',g1,_⟩:=ac.slice;cases e';obtain rfl:m=0:=by omega
        rw[e9,e,ec];exact .eg .nl
       ·have:=RL.AR ac al (x:=w) (y:=w+m) (by omega) (by omega);simp only[gZ,if_neg e]at this;rw[z e,D];rw[show w+m-w=m by omega]at this;exact this
      ·rw[d3]at D;rw[D]at h;cases h
   ·exact h.elim
  |bp cs=>
   simp only[mC]at h;split at h
   ·cases a with
    |bp hb M hc _=>exact U (m:=m0) (hb.imp id (hB _)) M.xE hc h
   ·rename_i j o;split at h
    ·rename_i W hb;obtain⟨K,h⟩:=bV h;cases a with
     |ptr r _=>
      have d:γ[j]? =some _:=r;obtain⟨k',vs,e,P,Y⟩:=sC (o:=o) (J.br j _ _ hb d);cases e;exact U (m:=m0) (.inr (R j _ _ K hb d _ (by simp[aC]))) P Y h
    ·exact h.elim
   ·rename_i sz j i o;obtain⟨K,h⟩:=bV h;split at h
    ·rename_i L O;obtain⟨D,x,s,h'⟩:=bV h;obtain rfl:=c4 D;obtain⟨b,hb,O⟩:=d6.1 O;cases a with
     |ep r _=>
      have d:γ[j]? =some _:=r;obtain⟨us,P,Y⟩:=Eh (J.br j b _ hb d) O rfl s o;have ap:=yd (m':=⟨B',[]⟩) (J.br j b _ hb d) O (wG R K hb d);have ad:=Hk ap (List.ne_nil_of_length_pos (by have:=(dq.1 s).1;omega));exact U (m:=m0) ad P.up Y h'
    ·exact h.elim
   ·exact h.elim
  |fn f ar=>
   simp only[mC]at h;split at h
   ·obtain⟨rfl,h⟩:=h;cases a with
    |fn M _=>exact .fn (oY (λc0 c v h a=>ih h a) h M) .nl
   ·exact h.elim
  |iface t g cs=>
   simp only[mC]at h;split at h
   ·obtain⟨⟨rfl,rfl⟩,h⟩:=h;cases a with
    |iface M _=>exact .iface (oY (λc0 c v h a=>ih h a) h M) .nl
   ·exact h.elim
  |int k i=>simp only[mC]at h;subst h;cases a;exact .int .nl
  |bool b=>simp only[mC]at h;subst h;cases a;exact .bool .nl
  |str l=>simp only[mC]at h;subst h;cases a with|str h _=>exact .str h .nl
  |raw v=>simp only[mC]at h;subst h;cases a with|raw h _=>exact .raw h .nl
  |nil=>simp only[mC]at h;subst h;cases a;exact .nil .nl
end
end Go.AM
end
