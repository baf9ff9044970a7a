/- part -/
import Derived.Test.YtpechfcbnoggfaaGreatDoorAm5
import Derived.Laws.IdiomStrings
set_option linter.unusedVariables false
set_option linter.unusedSimpArgs false
section
namespace Go.AM
open Go Go.NB
section
variable {P:Program} {tab:Nat→Option TD} {E:En} {F:Nat→Prop} {γ:List Value} {s:St} {a:Act} {w:World} {o:Oper} {k:A→Prop}
theorem Ih{t:Nat}(b:P.underlying t=some .string)(l:List UInt8)(x y:Nat)(h1:x≤y)(h2:y≤l.length)(w:World):
  (Instr.sliceAt t (NB.str l) (some (.int .u8 (x:Nat))) (some (.int .u8 (y:Nat))) .none).run P w= .ok (NB.str ((l.take y).drop x)) w:=by
 have e:(⟨l.toArray⟩:ByteArray).size=l.length:=rfl
 have a:(⟨l.toArray⟩:ByteArray).extract x y=⟨((l.take y).drop x).toArray⟩:=by
  apply ByteArray.ext;simp[ByteArray.data_extract];rw[List.drop_take]
 simp[Instr.sliceAt,Instr.slice,run_underlying b,Instr.sliceBounds,Instr.sliceBound,asIntOf,NB.str,e,h1,h2,a]
theorem J8(H:bo P tab)(e:ER F w.heap ⟨E.B,γ⟩ s.env a){t:Nat}{x:Operand}{lo hi:Option Operand}(ho:o.op= .slice t x lo hi none)(h:vF tab s t x lo hi k):Yd P F ⟨E.B,γ⟩ a w o k:=by
 unfold vF at h;split at h
 ·rename_i d lo hi J;have u:=H.kind t d J;split at h
  ·rename_i l p q I M g f;rw[I]at u;obtain⟨i,j,⟨rfl,rfl⟩,⟨y,z⟩,h⟩:=h;have r:=aY e M;have c:=aY e g;have b:=aY e f;generalize K:a.eval x=v at r;generalize n:a.eval lo=Q at c;generalize m:a.eval hi=O at b;cases r with
   |str N _=>
    cases c with
    |int _=>
     cases b with
     |int _=>
      refine⟨_,_,h,.str (by rw[List.length_drop,List.length_take];omega) .nl,fun R _=>?_⟩;have D:=Ih u l i j y z;unfold execOp;rw[ho];simp[K,n,m,D]
  ·exact h.elim
 ·exact h.elim
theorem J9(hT:bo P tab)(hE:ER F w.heap ⟨E.B,γ⟩ s.env a)(hW:WR E F γ s.ah w.heap){t:Nat}{x:Operand}{lo hi:Option Operand}(ho:o.op= .slice t x lo hi none)(h:Y1 tab s (.slice t x lo hi none) k):Yd P F ⟨E.B,γ⟩ a w o k:=by
 simp only[Y1]at h;split at h
 ·rename_i d am ad ht T S;have Q:=hT.kind t d ht;have T:=wP hE T;have S:=wP hE S
  have K:∀{p r:Value} {u J:Option Nat},am=u.map (fun a=>((a:Nat):Int))→ad=J.map (fun a=>((a:Nat):Int))→a.eval x=p→
    (∀w,(Instr.sliceAt t p (u.map fun x=>.int .i64 (x:Nat)) (J.map fun x=>.int .i64 (x:Nat)) none).run P w= .ok r w)→∀z,(execOp a.eval o).run P z= .ok (.value r) z:=fun{p r u J} H I hp D z=>by
   have O:lo.map a.eval=u.map fun x=>.int .i64 (x:Nat):=by rw[T,H,Option.map_map];rfl
   have Z:hi.map a.eval=J.map fun x=>.int .i64 (x:Nat):=by rw[S,I,Option.map_map];rfl
   unfold execOp;rw[ho];simp[O,Z,hp,D]
  split at h
  ·rename_i hd;rw[hd]at Q;split at h
   ·rename_i l hx;have m:=aY hE hx;obtain⟨N,U,h,D,J,u,M,H,I,i,f⟩:=nk h;generalize n:a.eval x=v at m;cases m with
    |str hl _=>
     refine⟨_,_,h,.str (by rw[List.length_drop,List.length_take];omega) .nl,fun z _=>K H I n (fun w=>?_) z⟩;have:=Ig Q l u M (by rw[i,f];exact D) (by rw[f];exact J) w;rw[i,f]at this;exact this
   ·exact h.elim
  ·rename_i e hd;rw[hd]at Q;split at h
   ·rename_i _ _ de c ac hx;have m:=aY hE hx;have hz:=hT.size ac;split at h
    ·obtain⟨N,U,h,D,J,u,M,H,I,i,f⟩:=nk h;obtain rfl:U=0:=by omega
     obtain rfl:N=0:=by omega
     generalize n:a.eval x=v at m;cases m;refine⟨_,_,h,.nil .nl,fun z _=>K H I n (fun w=>?_) z⟩;have:=pG Q hz none 0 0 u M (by rw[i,f];omega) (by rw[f];omega) w;rw[i,f]at this;simpa using this
    ·rename_i sz α Y l;obtain⟨g,y⟩:=bM h;obtain rfl:=Nat.eq_of_beq_eq_true g;obtain⟨N,U,y,D,J,u,M,H,I,i,f⟩:=nk y;obtain⟨p,cap,n,O,Z⟩:=m.sv.slice;have O:l.length≤cap:=O;rw[n]at m;refine⟨_,_,y,m.cut D J,fun z _=>K H I n (fun w=>?_) z⟩;have:=pG Q hz p l.length cap u M (by rw[i,f];exact D) (by rw[f];omega) w;rw[i,f]at this;exact this
    ·rename_i sz α Y l;obtain⟨g,y⟩:=bM h;obtain rfl:=Nat.eq_of_beq_eq_true g;obtain⟨N,U,y,D,J,u,M,H,I,i,f⟩:=nk y;have R:SV F w.heap ⟨_,α,Y,l⟩ (a.eval x):=hW.sl m rfl;obtain⟨p,cap,n,O,Z⟩:=R.slice;have O:l.length≤cap:=O;rw[n]at m R;refine⟨_,_,y,RL.xJ R m D J,fun z _=>K H I n (fun w=>?_) z⟩;have:=pG Q hz p l.length cap u M (by rw[i,f];exact D) (by rw[f];omega) w;rw[i,f]at this;exact this
    ·rename_i j;split at h
     ·rename_i L hL;rw[LS.nV]at h;obtain⟨g,y⟩:=bM h;have g:=Nat.eq_of_beq_eq_true g;obtain⟨N,U,y,D,J,u,M,H,I,i,f⟩:=nk y;have R:SV F w.heap L (a.eval x):=hW.sl m hL;obtain⟨p,cap,n,O,Z⟩:=R.slice;rw[n]at m;cases m with
      |rw hg al _=>
       refine⟨_,_,y,.sw (q:=if cap=N then p else p.map (·.add (N*L.sz))) hg (by omega) (fun e=>by rw[if_neg e,al (by omega)]) .nl,fun z _=>K H I n (fun w=>?_) z⟩;have:=pG Q hz p L.l.length cap u M (by rw[i,f];exact D) (by rw[f];omega) w;rw[i,f]at this;rw[g];exact this
     ·exact h.elim
    ·rename_i sz j l0 n0;split at h
     ·rename_i L hL;obtain⟨g,y⟩:=bM h;obtain rfl:=Nat.eq_of_beq_eq_true g;obtain⟨N,U,y,D,J,u,M,H,I,i,f⟩:=nk y;have R:∀v,RL F w.heap ⟨E.B,γ⟩ [.rw j] [v]→SV F w.heap L v:=fun v n=>hW.sl n hL;generalize n:a.eval x=v at m;cases m with
      | @sw _ _ _ _ _ p q nn cap _ _ hg ar hq _=>
       obtain⟨p',W,he,O,Z⟩:=(R _ (.rw hg (fun _=>rfl) .nl)).slice;cases he;refine⟨_,_,y,.sw (q:=if cap-l0=N then q else q.map (·.add (N*de.size))) hg (by omega) (fun e=>?_) .nl,fun z _=>K H I n (fun w=>?_) z⟩
       ·rw[if_neg (by omega)];by_cases q1:cap=l0
        ·obtain rfl:N=0:=by omega
         omega
        ·rw[hq q1,Nat.add_mul];rcases R _ (.rw hg (fun _=>rfl) .nl)with⟨p',e5,_⟩|⟨b,aC,W,ap,e5,_⟩
         ·simp at e5;omega
         ·simp at e5;obtain⟨rfl,rfl⟩:=e5;simp[Addr.add_lit,Nat.add_assoc]
       ·have:=pG Q hz q n0 (cap-l0) u M (by rw[i,f];exact D) (by rw[f];omega) w;rw[i,f]at this;rw[this,Nat.sub_sub]
     ·exact h.elim
    ·exact h.elim
   ·exact h.elim
  ·exact h.elim
 ·exact J8 hT hE ho h
theorem s9{H:ab}{m:Md}:∀(l:List UInt8) {css:List Value},RL F H m (l.flatMap bt) css→css=l.map bv
 |[],css,h=>by cases h;rfl
 |b::l,css,h=>by
  rw[List.flatMap_cons]at h;cases h with
  |int t=>rw[s9 l t];rfl
theorem JW(S:bo P tab)(hE:ER F w.heap ⟨E.B,γ⟩ s.env a)(hW:WR E F γ s.ah w.heap){t u:Nat}{x:Operand}(ho:o.op= .convert t u x)(h:Y1 tab s (.convert t u x) k):Yd P F ⟨E.B,γ⟩ a w o k:=by
 simp only[Y1]at h;split at h
 ·rename_i _ _ _ d d' c ht hu hx;have z:=S.kind t d ht;have g:=S.kind u d' hu;have H:=aY hE hx;unfold xD at h
  have y:∀{p r:Value} (f:World),a.eval x=p→(convert t u p).run P f= .ok r f→(execOp a.eval o).run P f= .ok (.value r) f:=fun f hp D=>by
   unfold execOp;rw[ho];simp[hp,D]
  split at h
  ·rename_i q1 q2 q3 n D K;rw[D]at z;rw[K]at g;generalize m:a.eval x=v at H;cases H with
   |int _=>exact⟨_,_,h,.int .nl,fun f _=>y f m (by simp[convert,run_underlying z,run_underlying g,Conv.intToInt])⟩
  ·rename_i l D K;rw[D]at z;rw[K]at g;generalize m:a.eval x=v at H;cases H with
   |str q _=>exact⟨_,_,h,.str q .nl,fun f _=>y f m (by simp[convert,run_underlying z,run_underlying g,NB.str])⟩
  ·rename_i e D K;rw[D]at z;rw[K]at g;split at h
   ·rename_i Y U;have i:=S.kind e Y U;split at h
    ·rename_i R;rw[R]at i;generalize m:a.eval x=v at H;cases H;refine⟨_,_,h,.str (by simp) .nl,fun f _=>y f m ?_⟩;rw[run_convert_bytes_string f t u e none 0 0 z i g];rfl
    ·have R:Y.kind= .int .u8:=by assumption
     rw[R]at i;obtain⟨l,hL,h⟩:=h;have hs:=hW.sl H hL
     refine ⟨_, _, h, .str (by
      rcases hs with⟨p,m,q⟩|⟨b,N,cap,J,m,O,Q,Z,hz,M⟩
      ·have q:l=[]:=q;rw[q];simp
      ·have O:l.length≤cap:=O;have Q:cap≤9223372036854775807:=Q;omega) .nl,fun f I=>y f rfl ?_⟩
     have I:aq [] w.heap f.heap:=I.resolve_left (by rw[ho];simp[gZ]);rcases hs with⟨p,m,q⟩|⟨b,N,cap,J,m,O,Q,Z,hz,M⟩
     ·rw[m];have q:l=[]:=q;subst q;rw[run_convert_bytes_string f t u e _ _ _ z i g];cases p with
      |none=>rfl
      |some W=>exact run_bytesToString f W 0 0 [] (by simpa using run_loadCells_list (P:=P) (w:=f) W [] (by simp))
     ·rw[m];have T:J=l.map bv:=s9 l Z
      exact run_convert_bytes_back f t u e ⟨b, N, none⟩ cap l z i g (fun j hj=>by
       rw[Addr.add_lit,dA rfl];refine fL (M j _ ?_) I (by simp);rw[T];simp[hj,bv])
    ·exact h.elim
   ·exact h.elim
  ·exact h.elim
 ·exact h.elim
theorem RT.get{H:ab}{m:Md}:∀{ts:List (Bool×List C)} {vs:List Value} {i:Nat} {g:Bool} {cs:List C},RT F H m ts vs→ts[i]? =some (g,cs)→∃us,vs[i]? =some (iC g us)∧RL F H m cs us∧(g=false→cs.length=1)
 |(_,_)::_,v::_,0,g,cs,⟨⟨us,b,c,d⟩,_⟩,a=>by
  cases a;exact⟨us,by rw[c];rfl,b,d⟩
 |_::ts,v::vs,i+1,g,cs,⟨_,h⟩,a=>by
  have:=RT.get (i:=i) h (by simpa using a);simpa using this
theorem JX(m:ER F w.heap ⟨E.B,γ⟩ s.env a){x:Operand}{i:Nat}(ho:o.op= .extract x i)(h:Y1 tab s (.extract x i) k):Yd P F ⟨E.B,γ⟩ a w o k:=by
 simp only[Y1]at h;split at h
 ·rename_i y r;have e:=lN m x;rw[r]at e;obtain⟨z,q,p⟩:=e;split at h
  ·rename_i g t n;obtain⟨f,j,d,u⟩:=p.get n
   have c:∀b:World,(execOp a.eval o).run P b= .ok (.value (iC g f)) b:=fun b=>by
    unfold execOp;rw[ho];simp[q,Instr.extract,j]
   rcases ja h with⟨rfl,h⟩|⟨rfl,h⟩
   ·exact⟨_,_,h,⟨f,rfl,d⟩,fun b _=>c b⟩
   ·split at h
    ·obtain⟨v,rfl,l⟩:=d.single;exact⟨_,_,h,l,fun b _=>c b⟩
    ·exact h.elim
  ·exact h.elim
 ·exact h.elim
theorem xg{H:ab}{m:Md}(b:ER F H m s.env a):∀{l:List Operand} {cs:List C},qp s l=some cs→RL F H m cs (l.map a.eval)
 |[],cs,h=>by cases h;exact .nl
 |x::l,cs,h=>by
  unfold qp at h;split at h
  ·rename_i c d f e;cases h;exact(aY b f).cons (xg b e)
  ·cases h
theorem J4(c:ER F w.heap ⟨E.B,γ⟩ s.env a){fn:Fn}{first caps:Array Operand}(ho:o.op= .makeFunc fn first caps)(h:Y1 tab s (.makeFunc fn first caps) k):Yd P F ⟨E.B,γ⟩ a w o k:=by
 cases fn with
 |func f=>
  simp only[Y1]at h;split at h
  ·rename_i e b d;have b:first= #[]:=by simpa using b
   refine⟨_,_,h,.fn (xg c d) .nl,fun g _=>?_⟩;unfold execOp;rw[ho];subst b;simp[Instr.makeFunc];rw[←Array.toList_map]
  ·exact h.elim
 |_=>simp only[Y1]at h
theorem J5(v:bo P tab)(q:ER F w.heap ⟨E.B,γ⟩ s.env a){t:Nat}{x:Operand}(ho:o.op= .makeInterface t x)(h:Y1 tab s (.makeInterface t x) k):Yd P F ⟨E.B,γ⟩ a w o k:=by
 simp only[Y1]at h;split at h
 ·rename_i d H;have z:=v.kind t d H
  have m:∀j:World,(∃i,P.underlying t=some i∧∀p,i≠.interface p)→(execOp a.eval o).run P j= .ok (.value (.iface t (a.eval x))) j:=fun j ⟨i,g,f⟩=>by
   unfold execOp;rw[ho];cases i<;>first|(exact(f _ rfl).elim)|simp[Instr.makeInterface,run_underlying g]
  have g:d.kind≠.other→d.kind≠.jU→∃i,P.underlying t=some i∧∀p,i≠.interface p:=fun f b=>by
   revert z;cases r:d.kind with
   |other=>exact(f r).elim
   |jU=>exact(b r).elim
   |struct u=>rintro⟨M,l,_⟩;exact⟨_,l,fun _ h=>by cases h⟩
   |ptr=>rintro⟨e,l⟩;exact⟨_,l,fun _ h=>by cases h⟩
   |_=>intro l;exact⟨_,l,fun _ h=>by cases h⟩
  split at h
  ·exact h.elim
  ·exact h.elim
  ·rename_i f b;split at h
   ·rename_i c n;have y:=aY q n;exact⟨_,_,h,.iface (us:=[a.eval x]) y .nl,fun j _=>m j (g f b)⟩
   ·rename_i K n;obtain⟨J,I,D⟩:=px q n;exact⟨_,_,h,.iface (us:=J) D .nl,fun j _=>by rw[m j (g f b),I];rfl⟩
   ·exact h.elim
 ·exact h.elim
theorem Ka(z:bo P tab)(y:ER F w.heap ⟨E.B,γ⟩ s.env a){t u:Nat}{x:Operand}(ho:o.op= .typeAssert x u t true)(h:Y1 tab s (.typeAssert x u t true) k):Yd P F ⟨E.B,γ⟩ a w o k:=by
 simp only[Y1]at h;split at h
 ·rename_i d J;have H:=z.kind t d J
  have f:d.kind≠.other→d.kind≠.jU→∃j,P.underlying t=some j∧∀N,j≠.interface N:=fun b c=>by
   revert H;cases n:d.kind with
   |other=>exact(b n).elim
   |jU=>exact(c n).elim
   |struct p=>rintro⟨O,i,_⟩;exact⟨_,i,fun _ h=>by cases h⟩
   |ptr=>rintro⟨e,i⟩;exact⟨_,i,fun _ h=>by cases h⟩
   |_=>intro i;exact⟨_,i,fun _ h=>by cases h⟩
  split at h
  ·exact h.elim
  ·exact h.elim
  ·rename_i b c;split at h
   ·rename_i Q g q M;obtain⟨hb,r⟩:=bM h;rw[Bool.and_eq_true]at hb;obtain rfl:=Nat.eq_of_beq_eq_true hb.1;have m:=aY y M;generalize K:a.eval x=v at m;cases m with
    | @iface _ _ _ _ l _ _ I _=>
     obtain⟨j,f,b⟩:=f b c;refine⟨.tuple #[iC g l,.bool true],.aC [(g,q),(false,[.bool true])],r,⟨[iC g l,.bool true],rfl,⟨l,I,rfl,fun D=>?_⟩,⟨[.bool true],.bool .nl,rfl,fun _=>rfl⟩,trivial⟩,fun R _=>?_⟩
     ·have:=hb.2;rw[D,Bool.false_or]at this;exact Nat.eq_of_beq_eq_true this
     ·unfold execOp;rw[ho];cases j<;>first|(exact(b _ rfl).elim)|simp[Instr.typeAssert,run_underlying f,K]
   ·exact h.elim
 ·exact h.elim
theorem JV(Q:bo P tab)(D:ER F w.heap ⟨E.B,γ⟩ s.env a)(R:WR E F γ s.ah w.heap){c:Call}(ho:o.op= .call c)(h:Y1 tab s (.call c) k):Yd P F ⟨E.B,γ⟩ a w o k:=by
 obtain⟨cl,r,J⟩:=c;simp only[Y1]at h;have f:∀{l:List Operand},r.toList=l→r=l.toArray:=fun h=>by rw[←h]
 have q:∀{l:List TypeId},J.toList=l→J=l.toArray:=fun h=>by rw[←h]
 split at h
 ·rename_i x t b j;have b:=f b;have j:=q j;subst b j;split at h
  ·rename_i d c S I;have z:=Q.kind t d S;have g:=aY D I;split at h
   ·rename_i l H;rw[H]at z;generalize m:a.eval x=v at g;cases g with
    |str _ _=>
     have e:(⟨l.toArray⟩:ByteArray).size=l.length:=rfl;exact⟨_,_,h,.int .nl,fun K _=>by unfold execOp;rw[ho];simp[resolve,invoke,builtin,m,NB.str,Builtin.len_,run_underlying z,goInt,e]⟩
   ·rename_i e H;rw[H]at z;generalize m:a.eval x=v at g;cases g;exact⟨_,_,h,.int .nl,fun K _=>by unfold execOp;rw[ho];simp[resolve,invoke,builtin,m,Builtin.len_,run_underlying z,goInt]⟩
   ·have N:∃e,d.kind= .sl e:=⟨_,by assumption⟩;obtain⟨e,H⟩:=N;rw[H]at z;split at h
    ·rename_i L O;rw[LS.nV]at h;obtain⟨p,cap,m,_⟩:=(R.sl g O).slice;exact⟨_,_,h,.int .nl,fun K _=>by unfold execOp;rw[ho];simp[resolve,invoke,builtin,m,Builtin.len_,run_underlying z,goInt]⟩
    ·exact h.elim
   ·exact h.elim
  ·exact h.elim
 ·rename_i x y b;have b:=f b;subst b;split at h
  ·rename_i n m' I M;have g:=aY D I;have i:=aY D M;generalize m:a.eval x=v at g;generalize u:a.eval y=T at i;cases g;cases i;refine⟨_,_,h,.int .nl,fun K _=>?_⟩;unfold execOp;rw[ho];simp[resolve,invoke,builtin,m,u,Builtin.max_,Builtin.max2];omega
  ·exact h.elim
 ·rename_i x y b;have b:=f b;subst b;split at h
  ·rename_i n m' I M;have g:=aY D I;have i:=aY D M;generalize m:a.eval x=v at g;generalize u:a.eval y=T at i;cases g;cases i;refine⟨_,_,h,.int .nl,fun K _=>?_⟩;unfold execOp;rw[ho];simp[resolve,invoke,builtin,m,u,Builtin.min_,Builtin.min2];omega
  ·exact h.elim
 ·exact h.elim
theorem p8(e:bo P tab)(b:ER F w.heap ⟨E.B,γ⟩ s.env a)(f:WR E F γ s.ah w.heap)(h:Y1 tab s o.op k):Yd P F ⟨E.B,γ⟩ a w o k:=by
 generalize d:o.op=l at h;cases l with
 |move x=>exact BT b (.inl d) h
 |assign x=>exact BT b (.inr d) h
 |pick c x y=>exact J7 b d h
 |load t x=>exact J2 e b f d h
 |nilCheck x=>exact J6 b d h
 |binOp l t x y u=>exact JT e b f d h
 |unOp u t x=>exact Kb b d h
 |convert t u x=>exact JW e b f d h
 |build t g=>exact JU e b d h
 |fieldAddr t x i=>exact JZ e b d h
 |field t x i=>exact JY e b d h
 |indexAddr t x y=>exact J1 e b f d h
 |index t x y=>exact J0 e b d h
 |slice t x p n m=>
  cases m with
  |none=>exact J9 e b f d h
  |some _=>simp only[Y1]at h
 |extract x i=>exact JX b d h
 |makeFunc fn first j=>exact J4 b d h
 |makeInterface t x=>exact J5 e b d h
 |typeAssert x u t ok=>
  cases ok with
  |true=>exact Ka e b d h
  |false=>simp only[Y1]at h
 |call c=>exact JV e b f d h
 |_=>simp only[Y1]at h
end
end Go.AM
end
section
namespace Go.AM
open Go Go.NB
def cj(ah:List B)(c:C):List B×C:=
 match c with
 | .rw j=>match ah[j]? with
  |some (.row d α a l)=>(ah.set j (.aT d α a l),.ls d α a l)
  |some (.aT d α a l)=>(ah,.ls d α a l)
  |_=>(ah,.rw j)
 | .sw d j e n=>match ah[j]? with
  |some (.row b α a l)=>bif Nat.beq d b then(ah.set j (.aT b α a l),.ls b α a ((l.drop e).take n))else(ah,.sw d j e n)
  |some (.aT b α a l)=>bif Nat.beq d b then(ah,.ls b α a ((l.drop e).take n))else(ah,.sw d j e n)
  |_=>(ah,.sw d j e n)
 |c=>(ah,c)
def fz:List B→List C→List B×List C
 |ah,[]=>(ah,[])
 |ah,c::f=>match cj ah c with
  |(a,e)=>match fz a f with
   |(b,d)=>(b,e::d)
def dW:C→Bool
 | .int .. | .bool _| .str _| .raw _| .nil| .ls .. =>true
 |_=>false
def dF:List C→Bool
 |[]=>true
 |c::a=>dW c&&dF a
def kr:List B→List (List C)→List B×List (List C)
 |ah,[]=>(ah,[])
 |ah,d::r=>match fz ah d with
  |(a,c)=>match kr a r with
   |(b,e)=>(b,c::e)
def rN(s:St):Nat→List (Nat×Operand)→Option (List (List C))
 |_,[]=>some []
 |i,(j,x)::r=>bif Nat.beq i j then match oG (aO s x),rN s (i+1) r with
  |some a,some r=>some (a::r)
  |_,_=>none
  else none
def kill(ah:List B):C→List B
 | .rw j| .sw _ j _ _=>ah.set j .dead
 |_=>ah
def qi(ah:List B):C→Option (Option LS)
 | .nil=>some none
 | .rw j=>match ah[j]? with
  |some (.row b α a l)=>some (some ⟨b,α,a,l⟩)
  |some (.buf _ b α a l)=>some (some ⟨b,α,a,l⟩)
  |_=>none
 | .sw b j d n=>match ah[j]? with
  |some (.row c α a l)=>bif Nat.beq b c then some (some ⟨c,α,a,(l.drop d).take n⟩)else none
  |_=>none
 |_=>none
def rz(ah:List B)(c:C)(e sz:Nat)(α:Type)(enc:α→List C)(l:List α):B:=match c with
 | .rw j=>match ah[j]? with
  |some (.buf t _ _ _ _)=>bif Nat.beq t e then .buf t sz α enc l else .row sz α enc l
  |_=>.row sz α enc l
 |_=>.row sz α enc l
def mP(ah:List B):C→Option (Option LS)
 | .nil=>some none
 | .str l=>some (some ⟨1,UInt8,bt,l⟩)
 |c=>(ke ah c).map some
def qg(a:TD)(o:Option LS)(xs:List a.α):Prop:=match o with
 |none=>xs=[]
 |some L=>L=⟨a.size,a.α,a.enc,xs⟩
def uy(t:Nat):List C→Option Nat
 |[.raw _,.nil,.ptr _ _]=>some t
 |_=>none
theorem FF(t:Nat)(cs:List C):(uy t cs).getD t=t:=by
 unfold uy;split<;>rfl
def rB:C→C
 | .ls b α a []=>.nil
 |c=>c
def Y2(tab:Nat→Option TD)(s:St)(N:Op)(k:List B→A→Prop):Prop:=
 match N with
 | .alloc t=>match tab t with
  |some d=>k (s.ah++[.box d.zero]) (.c (.ptr s.ah.length 0))
  |none=>False
 | .box t x=>match oG (aO s x)with
  |some h=>k (s.ah++[.box h (uy t h)]) (.c (.ptr s.ah.length 0))
  |none=>False
 | .buildSlice t n m=>match tab t with
  |some d=>match d.kind with
   | .sl e=>match tab e,rN s 0 m.toList with
    |some a,some f=>match kr s.ah f with
     |(ah,f)=>bif Nat.ble 1 a.size&&Nat.beq f.length n&&Nat.ble (n*a.size) 16777216&&f.all (fun h=>dF h&&Nat.beq h.length a.size)then
       ∃r:List a.α,r.map a.enc=f∧k (ah++[.row a.size a.α a.enc r]) (.c (.rw ah.length))else False
    |_,_=>False
   |_=>False
  |none=>False
 | .makeSlice t x y=>match tab t with
  |some d=>match d.kind with
   | .sl e=>match tab e,aO s x,aO s y with
    |some a,.c (.int .i64 p),.c (.int .i64 q)=>bif dF a.zero&&Nat.beq a.zero.length a.size&&Nat.ble 1 a.size&&Nat.ble 1 a.bytes then
      ∃(n:Nat) (z:a.α),(p=(n:Int)∧q=(n:Int))∧(a.enc z).map rB=a.zero∧n*a.bytes≤140737488355328∧k (s.ah++[.row a.size a.α a.enc (List.replicate n z)]) (.c (.rw s.ah.length))else False
    |_,_,_=>False
   |_=>False
  |none=>False
 | .store t x y=>match tab t,aO s x,oG (aO s y)with
  |some d,.c (.ptr j o),some new=>match s.ah[j]? with
   |some (.box h P)=>bif Nat.beq new.length d.size&&Nat.ble (o+new.length) h.length then k (s.ah.set j (.box (h.take o++new++h.drop (o+new.length)) P)) .undef else False
   |_=>False
  |some d,.c (.ep v j i o),some new=>match fz s.ah new with
   |(ah,new)=>match ah[j]? with
    |some (.row g α b l)=>bif Nat.beq new.length d.size&&Nat.beq v g&&dF new then
      ∃x I:α,l[i]? =some x∧(o+new.length≤v∧b I=(b x).take o++new++(b x).drop (o+new.length))∧k (ah.set j (.row g α b (l.set i I))) .undef else False
    |_=>False
  |_,_,_=>False
 | .convert t u x=>match tab t,tab u,aO s x with
  |some d,some E,.c (.str l)=>match d.kind,E.kind with
   | .str,.sl e=>match tab e with
    |some a=>match a.kind with
     | .int .u8=>k s.ah (.c (.ls 1 UInt8 bt l))
     |_=>False
    |none=>False
   |_,_=>False
  |some d,some E,.c (.rw j)=>match d.kind,E.kind with
   | .sl e,.sl M=>bif Nat.beq e M&&Nat.beq t u then match tab e with
    |some a=>match a.kind with
     | .int .u8=>match s.ah[j]? with
      |some (.row 1 α b (y::l))=>k (s.ah.set j (.aT 1 α b (y::l))) (.c (.ls 1 α b (y::l)))
      |_=>False
     |_=>False
    |none=>False
    else False
   |_,_=>False
  |_,_,_=>False
 | .call c=>match c.callee,c.args.toList,c.argTypes.toList with
  | .builtin .append,[x,y],[t,O]=>match tab t,tab O with
   |some d,some K=>match d.kind with
    | .sl e=>match tab e,aO s x,aO s y with
     |some a,.c D,.c J=>match qi s.ah D,mP s.ah J with
      |some bx,some w=>bif(match K.kind with| .sl _=>true| .str=>true|_=>false)&&Nat.ble 1 a.bytes then
        ∃r H:List a.α,qg a bx r∧qg a w H∧(r.length+H.length)*a.bytes≤140737488355328∧k (kill s.ah D++[rz s.ah D e a.size a.α a.enc (r++H)]) (.c (.rw s.ah.length))else False
      |_,_=>False
     |_,_,_=>False
    |_=>False
   |_,_=>False
  | .builtin .clear,[x],[t]=>match tab t with
   |some d=>match d.kind with
    | .sl e=>match tab e,aO s x with
     |some a,.c (.sw v j F n)=>match s.ah[j]? with
      |some (.row g α b l)=>bif Nat.beq v g&&(Nat.beq v a.size&&Nat.ble 1 a.size&&dF a.zero)then
        ∃z:α,b z=a.zero∧F+n≤l.length∧k (s.ah.set j (.row g α b (l.take F++(List.replicate n z++l.drop (F+n))))) .undef else False
      |_=>False
     |_,_=>False
    |_=>False
   |none=>False
  |_,_,_=>False
 |_=>False
def kv(s:St):Op→Bool
 | .alloc _| .box .. | .buildSlice .. | .makeSlice .. =>true
 | .convert _ _ x=>match aO s x with
  | .c (.rw _)=>false
  |_=>true
 | .call c=>match c.args.toList with
  |x::_=>match aO s x with
   | .c .nil=>true
   |_=>false
  |_=>false
 |_=>false
def apps:Op→Bool
 | .call c=>match c.callee with
  | .builtin .append=>true
  |_=>false
 |_=>false
def BX(s:St)(γ:List Value)(H H':ab):Prop:=H.size≤H'.size∧∀(j:Nat) (a:List C) (b:Option Nat) (v:Value),s.ah[j]? =some (.box a b)→γ[j]? =some v→∀q∈az (.box a b) v,H'[q]? =H[q]?
section
variable {P:Program} {tab:Nat→Option TD} {E:En} {F:Nat→Prop} {γ:List Value} {s:St} {a:Act} {w:World} {o:Oper}
structure Step(E:En)(F:Nat→Prop)(γ:List Value)(H:ab)(F':Nat→Prop)(γ':List Value)(ah':List B)(H':ab):Prop where
 wr:WR E F' γ' ah' H'
 ext:Ext F H ⟨E.B,γ⟩ F' H' ⟨E.B,γ'⟩
def Dn(P:Program)(s:St)(E:En)(F:Nat→Prop)(γ:List Value)(a:Act)(w:World)(o:Oper)(k:List B→A→Prop):Prop:=
 ∃c v b ah' x F' γ',((c= .value v∨(c=Next.skip∧v=undef))∧(execOp a.eval o).run P w= .ok c b)∧bh w b∧k ah' x∧Step E F γ w.heap F' γ' ah' b.heap∧RA F' b.heap ⟨E.B,γ'⟩ x v∧(kv s o.op=true→aq [] w.heap b.heap)∧(apps o.op=true→BX s γ w.heap b.heap)
theorem ti{H:ab}{m m':Md}{cs:List C}{vs:List Value}(h:RL F H m cs vs)(hc:dF cs=true):RL F H m' cs vs:=by
 induction h with
 |nl=>exact .nl
 |int _ ih=>simp[dF,dW]at hc;exact .int (ih hc)
 |bool _ ih=>simp[dF,dW]at hc;exact .bool (ih hc)
 |str h _ ih=>simp[dF,dW]at hc;exact .str h (ih hc)
 |raw h _ ih=>simp[dF,dW]at hc;exact .raw h (ih hc)
 |nil _ ih=>simp[dF,dW]at hc;exact .nil (ih hc)
 |bY _ ih=>simp[dF,dW]at hc;exact .bY (ih hc)
 |ls hb b c d e a _ _ ih=>simp[dF,dW]at hc;exact .ls hb b c d e a (ih hc)
 |_=>simp[dF,dW]at hc
theorem RL.vp{H:ab}{m:Md}{sz:Nat}{α:Type}{enc:α→List C}{l:List α}{p q:Option Addr}{n cap:Nat}(h:RL F H m [.ls sz α enc l] [.slice p n cap])(hq:cap≠0→q=p):RL F H m [.ls sz α enc l] [.slice q n cap]:=by
 by_cases e:cap=0
 ·obtain⟨d,a,c,b,_⟩:=h.sv.slice;cases c;have b:l.length≤cap:=b;have:l=[]:=List.eq_nil_of_length_eq_zero (by omega);subst this;rw[e];exact .bY .nl
 ·rw[hq e];exact h
theorem yv{H:ab}{ah:List B}{c:C}{v:Value}(i:WR E F γ ah H)(h:RL F H ⟨E.B,γ⟩ [c] [v]):∃F',(∀k,F k→F' k)∧WR E F' γ (cj ah c).1 H∧RL F' H ⟨E.B,γ⟩ [(cj ah c).2] [v]∧(cj ah c).1.length=ah.length:=by
 have same:∃F',(∀k,F k→F' k)∧WR E F' γ ah H∧RL F' H ⟨E.B,γ⟩ [c] [v]∧ah.length=ah.length:=⟨F,fun _ h=>h,i,h,rfl⟩;cases c with
 |rw j=>
  cases h with
  |rw u w _=>
   cases hb:ah[j]? with
   |none=>rw[show cj ah (.rw j)=(ah,.rw j)by simp[cj,hb]];exact same
   |some b=>
    cases b with
    |row d α a l=>
     obtain⟨F',s,D,I⟩:=i.freeze hb;rw[show cj ah (.rw j)=(ah.set j (.aT d α a l),.ls d α a l)by simp[cj,hb]];exact⟨F',s,D,((I _ u).up).vp w,by simp⟩
    |aT d α a l=>
     rw[show cj ah (.rw j)=(ah,.ls d α a l)by simp[cj,hb]];exact⟨F,fun _ h=>h,i,(RL.up (i.br _ _ _ hb u)).vp w,rfl⟩
    |box K O=>rw[show cj ah (.rw j)=(ah,.rw j)by simp[cj,hb]];exact same
    |dead=>rw[show cj ah (.rw j)=(ah,.rw j)by simp[cj,hb]];exact same
    |buf=>rw[show cj ah (.rw j)=(ah,.rw j)by simp[cj,hb]];exact same
 |sw d j f n=>
  have cut:∀{F':Nat→Prop} {α:Type} {a:α→List C} {l:List α} {p q:Option Addr} {n0 cap:Nat},f+n≤n0→(cap≠f→q=p.map (·.add (f*d)))→RL F' H m0 [.ls d α a l] [.slice p n0 cap]→RL F' H ⟨E.B,γ⟩ [.ls d α a ((l.drop f).take n)] [.slice q n (cap-f)]:=fun{F' α a l p q n0 cap} o z J=>by
   have P:n0=l.length:=by
    obtain⟨N,t,e,_⟩:=J.sv.slice;cases e;rfl
   by_cases e:cap=f
   ·obtain⟨N,t,M,s,_⟩:=J.sv.slice;cases M;have s:l.length≤cap:=s;obtain rfl:n=0:=by omega
    rw[List.take_zero,e,Nat.sub_self];exact .bY .nl
   ·have:=(J.up (m:=⟨E.B,γ⟩)).cut (x:=f) (y:=f+n) (by omega) (by omega);simp only[fX,if_neg e]at this;rw[z e];rw[show f+n-f=n by omega]at this;exact this
  cases h with
  |sw u o z _=>
   cases hb:ah[j]? with
   |none=>rw[show cj ah (.sw d j f n)=(ah,.sw d j f n)by simp[cj,hb]];exact same
   |some b=>
    cases b with
    |row r α a l=>
     by_cases g:Nat.beq d r=true
     ·obtain rfl:=Nat.eq_of_beq_eq_true g;obtain⟨F',s,D,I⟩:=i.freeze hb;rw[show cj ah (.sw d j f n)=(ah.set j (.aT d α a l),.ls d α a ((l.drop f).take n))by simp only[cj,hb,g,cond_true]];exact⟨F',s,D,cut o z (I _ u),by simp⟩
     ·rw[Bool.not_eq_true]at g;rw[show cj ah (.sw d j f n)=(ah,.sw d j f n)by simp only[cj,hb,g,cond_false]];exact same
    |aT r α a l=>
     by_cases g:Nat.beq d r=true
     ·obtain rfl:=Nat.eq_of_beq_eq_true g;rw[show cj ah (.sw d j f n)=(ah,.ls d α a ((l.drop f).take n))by simp only[cj,hb,g,cond_true]];exact⟨F,fun _ h=>h,i,cut o z (i.br _ _ _ hb u),rfl⟩
     ·rw[Bool.not_eq_true]at g;rw[show cj ah (.sw d j f n)=(ah,.sw d j f n)by simp only[cj,hb,g,cond_false]];exact same
    |box K O=>rw[show cj ah (.sw d j f n)=(ah,.sw d j f n)by simp[cj,hb]];exact same
    |dead=>rw[show cj ah (.sw d j f n)=(ah,.sw d j f n)by simp[cj,hb]];exact same
    |buf=>rw[show cj ah (.sw d j f n)=(ah,.sw d j f n)by simp[cj,hb]];exact same
 |_=>exact same
theorem ll{F F':Nat→Prop}{H:ab}{m:Md}(h:∀k,F k→F' k):Ext F H m F' H m:=⟨h,fun _ _ _ _ h=>h,fun _ h=>h,fun _ _ h=>h⟩
theorem tV{H:ab}:∀{cs:List C} {vs:List Value} {F:Nat→Prop} {ah:List B},WR E F γ ah H→RL F H ⟨E.B,γ⟩ cs vs→∃F',(∀k,F k→F' k)∧WR E F' γ (fz ah cs).1 H∧RL F' H ⟨E.B,γ⟩ (fz ah cs).2 vs∧(fz ah cs).1.length=ah.length
 |[],vs,F,ah,a,h=>⟨F,fun _ h=>h,a,by cases h;exact .nl,rfl⟩
 |c::cs,vs,F,ah,a,h=>by
  obtain⟨v,r,rfl,n,o⟩:=h.jC;obtain⟨q,b,f,g,i⟩:=yv a n;obtain⟨e,d,j,l,m⟩:=tV f (o.ext (ll b));refine⟨e,fun k p=>d k (b k p),?_,?_,?_⟩
  ·unfold fz;exact j
  ·unfold fz;exact(g.ext (ll d)).cons l
  ·unfold fz;exact m.trans i
inductive gR(F:Nat→Prop)(H:ab)(m:Md):List (List C)→List (List Value)→Prop
 |nil:gR F H m [] []
 |cons {cs vs css vss}:RL F H m cs vs→gR F H m css vss→gR F H m (cs::css) (vs::vss)
theorem gR.ext{F F':Nat→Prop}{H H':ab}{m m':Md}(e:Ext F H m F' H' m'){css:List (List C)}{vss:List (List Value)}(h:gR F H m css vss):gR F' H' m' css vss:=by
 induction h with
 |nil=>exact .nil
 |cons h _ ih=>exact .cons (h.ext e) ih
theorem yw{H:ab}:∀{css:List (List C)} {vss:List (List Value)} {F:Nat→Prop} {ah:List B},WR E F γ ah H→gR F H ⟨E.B,γ⟩ css vss→∃F',(∀k,F k→F' k)∧WR E F' γ (kr ah css).1 H∧gR F' H ⟨E.B,γ⟩ (kr ah css).2 vss∧(kr ah css).1.length=ah.length
 |[],vss,F,ah,a,h=>⟨F,fun _ h=>h,a,by cases h;exact .nil,rfl⟩
 |cs::css,_,F,ah,a,.cons (vs:=p) (vss:=vss) m n=>by
  obtain⟨q,b,e,f,g⟩:=tV a m;obtain⟨d,c,i,j,l⟩:=yw e (n.ext (ll b));refine⟨d,fun k o=>c k (b k o),?_,?_,?_⟩
  ·unfold kr;exact i
  ·unfold kr;exact .cons (f.ext (ll c)) j
  ·unfold kr;exact l.trans g
end
end Go.AM
end
section
namespace Go.AM
open Go Go.NB
section
variable {P:Program} {tab:Nat→Option TD} {E:En} {F:Nat→Prop} {γ:List Value} {s:St} {a:Act} {w:World} {o:Oper} {k:List B→A→Prop}
theorem sb{ah:List B}(a:WR E F γ ah w.heap){ob:Obj}{b:B}{g:Value}(ho:∀k∈az b g,w.heap.size≤k)(hb:BR F (w.heap.push ob) ⟨E.B,γ++[g]⟩ b g):
  Step E F γ w.heap F (γ++[g]) (ah++[b]) (w.heap.push ob):=
 ⟨a.push (aq.push [] _ _) ho hb,a.ext (W:=[]) (fun k c=>by cases c) (aq.push [] _ _) [g]⟩
theorem Step.a7{ah:List B}{H H':ab}{F a F':Nat→Prop}{γ':List Value}(h1:∀k,F k→a k)(h:Step E a γ H F' γ' ah H'):Step E F γ H F' γ' ah H':=
 ⟨h.wr,⟨fun k d=>h.ext.f k (h1 k d),fun b o u hb c=>h.ext.h b o u (hb.imp (h1 b) id) c,h.ext.b,h.ext.g⟩⟩
theorem getLast_append{α:Type _}{l:List α}{x:α}{n:Nat}(h:n=l.length):(l++[x])[n]? =some x:=by subst h;simp
theorem Dk(i:bo P tab)(c:WR E F γ s.ah w.heap){t:Nat}(ho:o.op= .alloc t)(h:Y2 tab s (.alloc t) k):Dn P s E F γ a w o k:=by
 simp only[Y2]at h;split at h
 ·rename_i d m;obtain⟨z,g,n,b,l⟩:=i.zero m;refine⟨_,.pointer (some ⟨w.heap.size,0,none⟩),{w with heap:=w.heap.push (.cells g.toArray t (0,0))},_,_,F,γ++[.pointer (some ⟨w.heap.size,0,none⟩)],⟨.inl rfl,?_⟩,bh.of rfl rfl rfl,h,sb c (fun k j=>by simp[az]at j;omega) ⟨_,t,g,rfl,by simp,l _ _ _⟩,?_,fun _=>aq.push _ _ _,fun e=>by rw[ho]at e;cases e⟩
  ·unfold execOp;rw[ho];simp[Instr.alloc,n,newVar,newRow,b]
  ·exact .ptr (getLast_append c.len.symm) .nl
 ·exact h.elim
theorem Dm(i:ER F w.heap ⟨E.B,γ⟩ s.env a)(b:WR E F γ s.ah w.heap){t:Nat}{x:Operand}(ho:o.op= .box t x)(h:Y2 tab s (.box t x) k):Dn P s E F γ a w o k:=by
 simp only[Y2]at h;split at h
 ·rename_i n m;obtain⟨d,l,j⟩:=pw i m;have e:=b.ext (W:=[]) (fun k c=>by cases c) (aq.push [] w.heap (.cells d.toArray t (0,0))) [.pointer (some ⟨w.heap.size,0,none⟩)];refine⟨_,.pointer (some ⟨w.heap.size,0,none⟩),{w with heap:=w.heap.push (.cells d.toArray t (0,0))},_,_,F,γ++[.pointer (some ⟨w.heap.size,0,none⟩)],⟨.inl rfl,?_⟩,bh.of rfl rfl rfl,h,sb b (fun k c=>by simp[az]at c;omega) ⟨_,t,d,rfl,by simp[FF],j.ext e⟩,?_,fun _=>aq.push _ _ _,fun f=>by rw[ho]at f;cases f⟩
  ·unfold execOp;rw[ho];simp[Instr.box,newVar,newRow,l]
  ·exact .ptr (getLast_append b.len.symm) .nl
 ·exact h.elim
theorem Ap{H:ab}{m:Md}(c:ER F H m s.env a):∀{l:List (Nat×Operand)} {i:Nat} {css:List (List C)},rN s i l=some css→
  ∃vs:List Value,l.map (fun p=>(p.1,a.eval p.2))=(vs.zipIdx i).map (fun x=>(x.2,x.1))∧gR F H m css (vs.map fun v=>v.cells.toList)
 |[],i,css,h=>by cases h;exact⟨[],rfl,.nil⟩
 |(j,x)::l,i,css,h=>by
  unfold rN at h;by_cases b:Nat.beq i j=true
  ·rw[b]at h;obtain rfl:=Nat.eq_of_beq_eq_true b;simp only[cond_true]at h;split at h
   ·rename_i o r n k;cases h;obtain⟨vs,d,e⟩:=Ap c k;obtain⟨q,f,g⟩:=pw c n;refine⟨a.eval x::vs,by simp[d],?_⟩;rw[List.map_cons];exact .cons (by rw[f];exact g) e
   ·cases h
  ·rw[Bool.not_eq_true]at b;rw[b]at h;cases h
theorem gR.flat{H:ab}{m:Md}{css:List (List C)}{vss:List (List Value)}(h:gR F H m css vss):RL F H m css.flatten vss.flatten:=by
 induction h with
 |nil=>exact .nl
 |cons a _ ih=>simp only[List.flatten_cons];exact a.append ih
theorem gR.len{H:ab}{m:Md}{css:List (List C)}{vss:List (List Value)}(h:gR F H m css vss):css.length=vss.length∧∀(i:Nat) (cs:List C) (vs:List Value),css[i]? =some cs→vss[i]? =some vs→cs.length=vs.length:=by
 induction h with
 |nil=>exact⟨rfl,fun i cs vs h=>by simp at h⟩
 |cons c _ ih=>
  refine⟨by simp[ih.1],fun i cs vs a b=>?_⟩;cases i with
  |zero=>cases a;cases b;exact c.length
  |succ i=>exact ih.2 i cs vs (by simpa using a) (by simpa using b)
theorem H7{t e n size:Nat}{b:Array (Nat×Value)}{vs:List Value}{z:Value}(i:P.underlying t=some (.slice e))(hz:∀w,(sizeOf e).run P w= .ok size w)(c:∀w,(zeroValue e).run P w= .ok z w)
  (h:b.toList=(vs.zipIdx 0).map (fun x=>(x.2,x.1)))(hn:vs.length=n)(k:n*size≤16777216)(hv:∀v∈vs,v.cells.size=size)(w:World):
  (Instr.buildSlice t n b).run P w= .ok (.slice (some ⟨w.heap.size,0,none⟩) n n) {w with heap:=w.heap.push (.cells (vs.map fun v=>v.cells.toList).flatten.toArray e (0,0))}:=by
 have f:¬16777216<n*size:=by omega
 have a:=fun(d:Array Value) (j:d.size=n*size)=>tQ size vs 0 d hv (by rw[j];simp[hn]);by_cases g:n*size=0
 ·have:=a (Array.map (fun _=>default) (Array.range 0)) (by simp[g]);rw[←h]at this;simp[Instr.buildSlice,run_underlying i,hz,g,newRow];simp at this;rw[this];have l:(Array.map (fun _=>(default:Value)) (Array.range 0)).toList=[]:=by rw[Array.range_zero'];simp
  simp
 ·have:=a ((Array.range (n*size)).map (fun x=>z.cells[x%z.cells.size]!)) (by simp);rw[←h]at this;simp[Instr.buildSlice,run_underlying i,hz,f,g,c,newRow];simp at this;rw[this];simp only[hn];rw[List.drop_eq_nil_of_le (by simp),List.append_nil];rfl
theorem xU{α:Type}{enc:α→List C}{xs:List α}:(xs.map enc).flatten=xs.flatMap enc:=by
 rw[List.flatMap_def]
theorem xq:∀{a b:List C},dF a=true→dF b=true→dF (a++b)=true
 |[],b,_,hb=>hb
 |c::a,b,d,hb=>by
  simp only[dF,List.cons_append,Bool.and_eq_true]at d⊢;exact⟨d.1,xq d.2 hb⟩
theorem xr:∀{css:List (List C)},(∀cs∈css,dF cs=true)→dF css.flatten=true
 |[],_=>rfl
 |cs::r,h=>xq (h cs (by simp)) (xr fun x a=>h x (by simp[a]))
theorem Dq(Z:bo P tab)(hE:ER F w.heap ⟨E.B,γ⟩ s.env a)(hW:WR E F γ s.ah w.heap){t n:Nat}{c:Array (Nat×Operand)}(ho:o.op= .buildSlice t n c)(h:Y2 tab s (.buildSlice t n c) k):Dn P s E F γ a w o k:=by
 simp only[Y2]at h;split at h
 ·rename_i d ht;have M:=Z.kind t d ht;split at h
  ·rename_i e hd;rw[hd]at M;split at h
   ·rename_i _ _ f U O hp;obtain⟨N,a0,hr⟩:=Ap hE hp;obtain⟨T,Y,g,l,J⟩:=yw hW hr;generalize a3:kr s.ah U=fr at h g l J;obtain⟨a2,p⟩:=fr;simp only[]at h g l J;obtain⟨hc,S,m,h⟩:=bM h;simp only[Bool.and_eq_true,List.all_eq_true]at hc;obtain⟨⟨⟨y,j⟩,D⟩,H⟩:=hc;have y:=Nat.le_of_ble_eq_true y;have j:=Nat.eq_of_beq_eq_true j;have D:=Nat.le_of_ble_eq_true D;have ar:=Z.size O;obtain⟨z,zs,hz,_,_⟩:=Z.zero O;have q:=l.len;have aT:N.length=n:=by have:=q.1;rw[List.length_map]at this;omega
    have aC:∀v∈N,v.cells.size=f.size:=fun v hv=>by
     obtain⟨i,hi,rfl⟩:=List.getElem_of_mem hv;have Q:i<p.length:=by rw[j];omega
     have h1:=q.2 i p[i] (N[i].cells.toList) (List.getElem?_eq_getElem Q) (by simp[List.getElem?_eq_getElem hi]);have h2:=Nat.eq_of_beq_eq_true (H _ (List.getElem_mem Q)).2;rw[h2]at h1;simpa using h1.symm
    have ad:dF (S.flatMap f.enc)=true:=by
     rw[←xU,m];exact xr fun cs al=>(H cs al).1
    have b:RL T w.heap m0 (S.flatMap f.enc) (N.map fun v=>v.cells.toList).flatten:=by
     have:=l.flat;rw[←m,xU]at this;exact ti this ad
    have K:S.length=n:=by rw[←j,←m,List.length_map]
    have R:∀x∈S,(f.enc x).length=f.size:=fun x hx=>by
     have:=(H (f.enc x) (by rw[←m];exact List.mem_map.2 ⟨x,hx,rfl⟩)).2;exact Nat.eq_of_beq_eq_true this
    have I:=b.length;rw[iz R,K]at I
    have am:n≤maxLen:=by
     have:n*1≤n*f.size:=Nat.mul_le_mul_left _ y;unfold maxLen;omega
    have ap:(c.map fun x=>match x with|(i,x)=>(i,a.eval x)).toList=(N.zipIdx 0).map (fun x=>(x.2,x.1)):=by
     rw[Array.toList_map];exact a0
    have r:=H7 M ar hz ap aT D aC w;generalize (N.map fun v=>v.cells.toList).flatten=u at r b I;have ex:=g.ext (W:=[]) (fun k M=>by cases M) (aq.push [] w.heap (.cells u.toArray e (0,0))) [.slice (some ⟨w.heap.size,0,none⟩) n n]
    have ac:BR T (w.heap.push (.cells u.toArray e (0,0))) ⟨E.B,γ++[.slice (some ⟨w.heap.size,0,none⟩) n n]⟩ (.row f.size f.α f.enc S) (.slice (some ⟨w.heap.size,0,none⟩) n n):=by
     cases n with
     |zero=>exact .inl ⟨_,rfl,List.eq_nil_of_length_eq_zero K⟩
     |succ n=>
     refine .inr ⟨w.heap.size,0,n,u.toArray,e,u,by rw[K],by simp,by omega,am,?_,b.ext ex.m0,R,?_⟩
     ·rw[Nat.zero_add,I];exact Nat.le_refl _
     ·show(u.drop 0).take u.length=u;rw[List.drop_zero,List.take_length]
    refine ⟨_,.slice (some ⟨w.heap.size,0,none⟩) n n,{w with heap:=w.heap.push (.cells u.toArray e (0,0))},_,_,T,γ++[.slice (some ⟨w.heap.size,0,none⟩) n n],⟨.inl rfl,?_⟩,bh.of rfl rfl rfl,h,
     Step.a7 Y (sb g (fun k M=>by cases n<;>simp[az]at M;omega) ac),?_,fun _=>aq.push _ _ _,fun ha=>by rw[ho]at ha;cases ha⟩
    ·unfold execOp;rw[ho];simp[r]
    ·exact .rw (getLast_append (by rw[J];exact hW.len.symm)) (fun _=>rfl) .nl
   ·exact h.elim
  ·exact h.elim
 ·exact h.elim
theorem BV{zs:List Value}{size:Nat}(a:zs.length=size)(b:0<size)(n:Nat):
  ((Array.range (n*size)).map (fun j=>zs.toArray[j%zs.toArray.size]!)).toList=(List.replicate n zs).flatten:=by
 have d:∀(n j:Nat) (h:j<n*size),((List.replicate n zs).flatten)[j]? =zs[j%size]? :=by
  intro n;induction n with
  |zero=>intro j h;simp at h
  |succ n ih=>
   intro j h;rw[List.replicate_succ,List.flatten_cons];by_cases c:j<zs.length
   ·rw[List.getElem?_append_left c,Nat.mod_eq_of_lt (by omega)]
   ·rw[List.getElem?_append_right (by omega),a,ih _ (by rw[Nat.succ_mul]at h;omega)];congr 1
    rw[Nat.mod_eq_sub_mod (show j≥size by omega)]
 refine List.ext_getElem? fun j=>?_;by_cases e:j<n*size
 ·have f:j%size<zs.length:=by rw[a];exact Nat.mod_lt _ b
  rw[d n j e,List.getElem?_eq_getElem f];simp[e,a];rw[List.getElem?_eq_getElem f];rfl
 ·rw[List.getElem?_eq_none (by simp;omega),List.getElem?_eq_none (by simp[a];omega)]
theorem run_makeSlice{t e:TypeId}{i:TypeInfo}{z:Value}{size n:Nat}{zs:List Value}(p:P.underlying t=some (.slice e))(hi:∀w,(typeInfo e).run P w= .ok i w)(g:i.size=size)(hz:i.zero=some z)(l:z.cells=zs.toArray)(k:zs.length=size)(d:0<size)
  (o:(n:Int)*i.bytes≤140737488355328)(s:(n:Int)≤9223372036854775807)(w:World):
  (Instr.makeSlice t (.int .i64 n) (.int .i64 n)).run P w= .ok (.slice (some ⟨w.heap.size,0,none⟩) n n) {w with heap:=w.heap.push (.cells (List.replicate n zs).flatten.toArray e (0,0))}:=by
 have a:∀w,(sizeOf e).run P w= .ok size w:=fun w=>by simp[sizeOf,hi,g]
 have c:∀w,(zeroValue e).run P w= .ok z w:=fun w=>by simp[zeroValue,hi,hz]
 have b:IntKind.i64.wrap (n:Int)=n:=IntWalk.i64_in _ (by omega);have q:¬(n:Int)<0:=by omega
 have r:¬(281474976710656:Int)<i.bytes*n:=by rw[Int.mul_comm];omega
 by_cases m:n*size=0
 ·have f:n=0:=by rcases Nat.mul_eq_zero.1 m with h|h<;>omega
  have j:IntKind.i64.wrap 0=0:=IntWalk.i64_in _ (by omega);subst f;simp[Instr.makeSlice,run_underlying p,Go.asInt,asIntOf,hi,j,a,newRow];rw[Array.range_zero'];simp
 ·have:=BV k d n;simp[Instr.makeSlice,run_underlying p,Go.asInt,asIntOf,hi,b,q,r,a,m,c,newRow];rw[←this,Array.toArray_toList,l]
theorem vy{α:Type}{enc:α→List C}{z:α}{zs:List Value}{F:Nat→Prop}{H:ab}{m:Md}(h:RL F H m (enc z) zs):∀n,RL F H m ((List.replicate n z).flatMap enc) (List.replicate n zs).flatten
 |0=>.nl
 |n+1=>by rw[List.replicate_succ,List.flatMap_cons,List.replicate_succ,List.flatten_cons];exact h.append (vy h n)
theorem RL.Ag{F:Nat→Prop}{H:ab}{m:Md}:∀{cs:List C} {vs:List Value},RL F H m (cs.map rB) vs→RL F H m cs vs
 |[],vs,h=>h
 |c::cs,vs,h=>by
  rw[List.map_cons]at h;obtain⟨v,d,rfl,a,b⟩:=h.jC;refine RL.cons ?_ (RL.Ag b);unfold rB at a;split at a
  ·cases a with
   |nil t=>cases t;exact .bY .nl
  ·exact a
theorem Dv(hT:bo P tab)(hE:ER F w.heap ⟨E.B,γ⟩ s.env a)(K:WR E F γ s.ah w.heap){t:Nat}{x y:Operand}(ho:o.op= .makeSlice t x y)(h:Y2 tab s (.makeSlice t x y) k):Dn P s E F γ a w o k:=by
 simp only[Y2]at h;split at h
 ·rename_i d ht;have u:=hT.kind t d ht;split at h
  ·rename_i e hd;rw[hd]at u;split at h
   ·rename_i _ _ _ c p q O U hy;obtain⟨hc,n,z,⟨rfl,rfl⟩,D,ad,h⟩:=bM h;simp only[Bool.and_eq_true]at hc;obtain⟨⟨⟨al,f⟩,l⟩,m⟩:=hc;have f:=Nat.eq_of_beq_eq_true f;have l:=Nat.le_of_ble_eq_true l;have m:=Nat.le_of_ble_eq_true m;obtain⟨i,zv,zs,hi,S,N,hz,Z,hr⟩:=hT.info e c O;have Y:zs.length=c.size:=by rw[←(hr F w.heap m0).length];exact f
    have I:=aY hE U;have J:=aY hE hy;generalize hv:a.eval x=v at I;generalize T:a.eval y=v' at J;cases I;cases J;have Q:(n:Int)*i.bytes≤140737488355328:=by rw[N,←Int.natCast_mul];omega
    have am:n≤n*c.bytes:=Nat.le_mul_of_pos_right _ m;have R:n≤maxLen:=by unfold maxLen;omega
    have g:=run_makeSlice (P:=P) (n:=n) u hi S hz Z Y l Q (by omega) w;have b:RL F w.heap m0 ((List.replicate n z).flatMap c.enc) (List.replicate n zs).flatten:=vy (RL.Ag (by rw[D];exact hr _ _ _)) n;have H:∀x∈List.replicate n z,(c.enc x).length=c.size:=fun x U=>by rw[(List.mem_replicate.1 U).2,←List.length_map (as:=c.enc z) rB,D];exact f
    have r:=b.length;rw[iz H,List.length_replicate]at r;generalize (List.replicate n zs).flatten=j at g b r;have ex:=K.ext (W:=[]) (fun k u=>by cases u) (aq.push [] w.heap (.cells j.toArray e (0,0))) [.slice (some ⟨w.heap.size,0,none⟩) n n]
    have M:BR F (w.heap.push (.cells j.toArray e (0,0))) ⟨E.B,γ++[.slice (some ⟨w.heap.size,0,none⟩) n n]⟩ (.row c.size c.α c.enc (List.replicate n z)) (.slice (some ⟨w.heap.size,0,none⟩) n n):=by
     cases n with
     |zero=>exact .inl ⟨_,rfl,rfl⟩
     |succ n=>
     refine .inr ⟨w.heap.size,0,n,j.toArray,e,j,by rw[List.length_replicate],by simp,by simp,R,?_,b.ext ex.m0,H,?_⟩
     ·rw[Nat.zero_add,r];exact Nat.le_refl _
     ·show(j.drop 0).take j.length=j;rw[List.drop_zero,List.take_length]
    refine ⟨_,.slice (some ⟨w.heap.size,0,none⟩) n n,{w with heap:=w.heap.push (.cells j.toArray e (0,0))},_,_,F,γ++[.slice (some ⟨w.heap.size,0,none⟩) n n],⟨.inl rfl,?_⟩,bh.of rfl rfl rfl,h,
     sb K (fun k u=>by cases n<;>simp[az]at u;omega) M,?_,fun _=>aq.push _ _ _,fun ha=>by rw[ho]at ha;cases ha⟩
    ·unfold execOp;rw[ho];simp[hv,T,g]
    ·exact .rw (getLast_append K.len.symm) (fun _=>rfl) .nl
   ·exact h.elim
  ·exact h.elim
 ·exact h.elim
end
end Go.AM
end
section
namespace Go.AM
open Go Go.NB
section
variable {P:Program} {tab:Nat→Option TD} {E:En} {F:Nat→Prop} {γ:List Value} {s:St} {a:Act} {w:World} {o:Oper} {k:List B→A→Prop}
theorem run_store{t:TypeId}{x y:Operand}{g off:Nat}{us:List Value}{cur:Array Value}{e:TypeId}(ho:o.op= .store t x y)(f:a.eval x= .pointer (some ⟨g,off,none⟩))(hy:(a.eval y).cells=us.toArray)
  (hz:∀w,(sizeOf t).run P w= .ok us.length w)(c:∀u∈us,u.oneCell'=true)(hg:w.heap[g]? =some (.cells cur e (0,0)))(b:off+us.length≤cur.size):
  (execOp a.eval o).run P w= .ok .skip (w.setRow g (cur.toList.take off++us++cur.toList.drop (off+us.length)).toArray):=by
 have d:=run_storeCells_at P g off e us 0 cur w hg (by simpa using b) c;simp only[Nat.add_zero]at d;unfold execOp;rw[ho];simp[f,Instr.storeAt,Instr.sureAddr,storeVar,hy,hz,d]
theorem HV{α:Type}{enc:α→List C}{l:List α}{i sz o:Nat}{x f:α}{new:List C}{css us:List Value}{cur:List Value}{off:Nat}{F:Nat→Prop}{H:ab}{m:Md}
  (hr:RL F H m (l.flatMap enc) css)(hz:∀x∈l,(enc x).length=sz)(hi:l[i]? =some x)(ho:o+new.length≤sz)(he:enc f=(enc x).take o++new++(enc x).drop (o+new.length))(D:RL F H m new us)
  (hc:(cur.drop off).take css.length=css)(z:off≤cur.length):
  ∃b,RL F H m ((l.set i f).flatMap enc) b∧b.length=css.length∧(∀x∈l.set i f,(enc x).length=sz)∧off+i*sz+o+us.length≤cur.length∧
   ((cur.take (off+i*sz+o)++us++cur.drop (off+i*sz+o+us.length)).drop off).take b.length=b:=by
 obtain⟨e,rfl⟩:=List.getElem?_eq_some_iff.1 hi;have k:=D.length;have E:=hz l[i] (List.getElem_mem e);have R:l=l.take i++l[i]::l.drop (i+1):=by rw[←List.drop_eq_getElem_cons e,List.take_append_drop]
 have n:((l.take i).flatMap enc).length=i*sz:=by
  rw[iz (fun y p=>hz y (List.mem_of_mem_take p)),List.length_take];rw[Nat.min_eq_left (by omega)]
 have M:l.flatMap enc=(l.take i).flatMap enc++(enc l[i]++(l.drop (i+1)).flatMap enc):=by
  conv=>lhs;rw[R]
  rw[List.flatMap_append,List.flatMap_cons]
 have N:(l.set i f).flatMap enc=(l.take i).flatMap enc++(enc f++(l.drop (i+1)).flatMap enc):=by
  rw[List.set_eq_take_append_cons_drop,if_pos e,List.flatMap_append,List.flatMap_cons]
 rw[M]at hr;obtain⟨c,cr,rfl,I,U⟩:=hr.split;obtain⟨a,d,rfl,v,W⟩:=U.split;have S:=I.length;have T:=v.length;rw[n]at S;rw[E]at T
 have u:RL F H m (enc f) (a.take o++us++a.drop (o+us.length)):=by
  rw[he,k.symm];exact((v.take _).append D).append (by rw[k];exact v.drop _)
 have t:(enc f).length=sz:=by rw[he];simp[E];omega
 have P:(c++(a++d)).length≤cur.length-off:=by
  have:=congrArg List.length hc;rw[List.length_take,List.length_drop]at this;omega
 ·obtain ⟨Z, O⟩ : ∃ Z, cur.drop off = (c ++ (a ++ d)) ++ Z := ⟨(cur.drop off).drop (c++(a++d)).length,by
   conv=>rhs;arg 1;rw[←hc]
   rw[List.take_append_drop]⟩
  have q:cur=cur.take off++((c++(a++d))++Z):=by rw[←O,List.take_append_drop]
  generalize r:cur.take off=g at q;have s:g.length=off:=by rw[←r,List.length_take];omega
  refine⟨c++((a.take o++us++a.drop (o+us.length))++d),by rw[N];exact I.append (u.append W),by simp;omega,fun y p=>?_,?_,?_⟩
  ·rw[List.mem_iff_getElem?]at p;obtain⟨j,Q⟩:=p;rcases oX Q with⟨_,h⟩|⟨_,_,rfl⟩
   ·exact hz y (List.mem_of_getElem? h)
   ·exact t
  ·rw[q];simp;omega
  ·have w:cur=(g++(c++a.take o))++(((a.drop o).take us.length)++(a.drop (o+us.length)++(d++Z))):=by
    have J:a=a.take o++((a.drop o).take us.length++a.drop (o+us.length)):=by
     rw[←List.drop_drop,List.take_append_drop,List.take_append_drop]
    conv=>lhs;rw[q,J]
    simp[List.append_assoc]
   have Y:cur.take (off+i*sz+o)=g++(c++a.take o):=by
    rw[w];exact List.take_left' (by simp;omega)
   have t2:cur.drop (off+i*sz+o+us.length)=a.drop (o+us.length)++(d++Z):=by
    rw[w,←List.append_assoc,List.drop_left' (by simp;omega)]
   rw[Y,t2];have K:g++(c++a.take o)++us++(a.drop (o+us.length)++(d++Z))=g++((c++((a.take o++us++a.drop (o+us.length))++d))++Z):=by simp[List.append_assoc]
   rw[K,List.drop_left' s,List.take_left]
theorem Dw(hT:bo P tab)(hE:ER F w.heap ⟨E.B,γ⟩ s.env a)(Z:WR E F γ s.ah w.heap){t:Nat}{x y:Operand}(ho:o.op= .store t x y)(h:Y2 tab s (.store t x y) k):Dn P s E F γ a w o k:=by
 simp only[Y2]at h;split at h
 ·rename_i _ _ _ d j b new ht hx hy;split at h
  ·rename_i cs ty hb;obtain⟨O,h⟩:=bM h;simp only[Bool.and_eq_true]at O;have r:=Nat.eq_of_beq_eq_true O.1;have ac:=Nat.le_of_ble_eq_true O.2;have u:=aY hE hx;obtain⟨N,hu,n⟩:=pw hE hy;have D:=n.length;generalize hv:a.eval x=v at u;cases u with
   | @ptr _ _ _ c _ _ hg _=>
    have f:γ[j]? =some _:=hg;have K:=Z.br j _ _ hb f;obtain⟨kk,e,vs,Q,T,h2⟩:=K;obtain rfl:c=kk:=by simpa using Q
    have bb:=h2.length;have I:=run_store (P:=P) ho hv hu (fun w=>by rw[←D,r];exact hT.size ht w) n.one T (by simp;omega);have Y:aq [c] w.heap (w.setRow c (vs.take b++N++vs.drop (b+N.length)).toArray).heap:=kK _ _ _;have m:az (.box cs ty) (.pointer (some ⟨c,0,none⟩))=[c]:=rfl;have ex:=Z.ext (γ':=[]) (W:=[c]) (fun q M=>Z.nf j _ _ q hb f (by rw[m];exact M)) Y;rw[List.append_nil]at ex;refine⟨_,undef,_,_,_,F,γ,⟨.inr ⟨rfl,rfl⟩,I⟩,bh.of rfl rfl rfl,h,⟨Z.ay hb f (by rw[m];exact Y) (fun q M=>M) ⟨c,e,_,rfl,setRow_heap w c _ _ _ _ T,?_⟩,ex⟩,trivial,fun z=>by rw[ho]at z;simp[kv]at z,fun ha=>by rw[ho]at ha;cases ha⟩;have U:=h2.ext ex;have ap:=n.ext ex;show RL F _ _ _ (vs.toArray.toList.take b++N++vs.toArray.toList.drop (b+N.length));have:=((U.take b).append ap).append (U.drop (b+new.length));rw[D]at this;rw[D];exact this
  ·exact h.elim
 ·rename_i _ _ _ d sz j i b new ht hx hy;obtain⟨N,hu,n⟩:=pw hE hy;obtain⟨F1,aC,g,H,am⟩:=tV Z n;generalize a9:fz s.ah new=fr at h g H am;obtain⟨a5,a4⟩:=fr;simp only[]at h g H am;split at h
  ·rename_i be α ar l hb;obtain⟨O,x1,x2,hi,⟨al,ad⟩,h⟩:=bM h;simp only[Bool.and_eq_true]at O;obtain⟨⟨r,ac⟩,a0⟩:=O;have r:=Nat.eq_of_beq_eq_true r;obtain rfl:=Nat.eq_of_beq_eq_true ac;have J:=ti (m':=m0) H a0;have D:=J.length;have u:=aY hE hx;generalize hv:a.eval x=v at u;cases u with
   | @ep _ _ _ _ _ c ob n0 a3 _ _ hg _=>
    have f:γ[j]? =some _:=hg;have K:=g.br j _ _ hb f;rcases K with⟨p,Q,a1⟩|⟨kk,a2,cap,S,e,a6,Q,T,h2,h3,h4,h5,h6,h7⟩
    ·subst a1;simp at hi
    ·have aT:c=kk∧ob=a2:=by simp at Q;exact Q.1
     obtain⟨rfl,rfl⟩:=aT;rw[Q]at hg f;obtain⟨R,q1,q2,q3,q4,q5⟩:=HV h5 h6 hi al ad J h7 (by simp;omega);have I:=run_store (P:=P) ho hv hu (fun w=>by rw[←D,r];exact hT.size ht w) n.one T (by simpa using q4);have m:az (.row sz α ar l) (.slice (some ⟨c,ob,none⟩) l.length (cap+1))=[c]:=rfl;have Y:aq [c] w.heap (w.setRow c (S.toList.take (ob+i*sz+b)++N++S.toList.drop (ob+i*sz+b+N.length)).toArray).heap:=kK _ _ _;have ex:=g.ext (γ':=[]) (W:=[c]) (fun q M=>g.nf j _ _ q hb f (by rw[m];exact M)) Y;rw[List.append_nil]at ex;refine⟨_,undef,_,_,_,F1,γ,⟨.inr ⟨rfl,rfl⟩,I⟩,bh.of rfl rfl rfl,h,Step.a7 aC ⟨g.ay hb f (by rw[m];exact Y) (fun q M=>by rw[m];simpa[az]using M) (.inr ⟨c,ob,cap,_,e,R,by rw[List.length_set],setRow_heap w c _ _ _ _ T,by rw[List.length_set];exact h2,h3,?_,q1.ext ex.m0,q3,q5⟩),ex⟩,trivial,fun z=>by rw[ho]at z;simp[kv]at z,fun ha=>by rw[ho]at ha;cases ha⟩;simp at q4⊢;omega
  ·exact h.elim
 ·exact h.elim
def bU(H:ab)(sz:Nat)(v:Value)(n:Nat)(cs:List Value):Prop:=
 cs.length=n*sz∧((∃p,v= .slice p 0 0∧n=0)∨∃g b cap a e,v= .slice (some ⟨g,b,none⟩) n (cap+1)∧H[g]? =some (.cells a e (0,0))∧n≤cap+1∧cap+1≤maxLen∧b+(cap+1)*sz≤a.size∧(a.toList.drop b).take (n*sz)=cs)
def aV:Value→List Nat
 | .slice (some a) _ (_+1)=>[a.block]
 |_=>[]
theorem bU.src{H:ab}{sz n:Nat}{v:Value}{cs:List Value}(h:bU H sz v n cs):Src P H sz v n cs:=fun w k=>by
 rcases h.2 with⟨p,rfl,rfl⟩|⟨g,c,cap,d,e,rfl,i,l,m,o,f⟩
 ·have:cs=[]:=List.eq_nil_of_length_eq_zero (by simpa using h.1);subst this;cases p with
  |none=>exact⟨by simp[Builtin.lenOf],by simp[Builtin.firstCells]⟩
  |some a=>
   have:=run_loadCells_list (P:=P) (w:=w) a [] (by simp);exact⟨by simp[Builtin.lenOf],by simpa[Builtin.firstCells]using this⟩
 ·refine⟨by simp[Builtin.lenOf],?_⟩;refine run_firstCells_some w sz n ⟨g,c,none⟩ _ _ cs h.1 (fun j v b=>?_);rw[Addr.add_lit,dA k];unfold NB.cell;rw[i];rw[←f,List.getElem?_take]at b;split at b
  ·rw[List.getElem?_drop]at b;simpa using b
  ·cases b
theorem SV.src{L:LS}{H:ab}{v:Value}(h:SV F H L v):∃news,Src P H L.sz v L.l.length news∧RL F H m0 (L.l.flatMap L.enc) news∧∀x∈L.l,(L.enc x).length=L.sz:=by
 obtain⟨q,α,i,l⟩:=L;rcases h with⟨p,rfl,c⟩|⟨b,e,cap,d,rfl,r,s,f,g,k⟩
 ·have c:l=[]:=c;subst c;refine⟨[],fun w _=>⟨by simp[Builtin.lenOf],?_⟩,.nl,fun x o=>by cases o⟩;cases p with
  |none=>simp[Builtin.firstCells]
  |some a=>
   have:=run_loadCells_list (P:=P) (w:=w) a [] (by simp);simpa[Builtin.firstCells]using this
 ·refine⟨d,fun w n=>⟨by simp[Builtin.lenOf],?_⟩,f,g⟩;have c:=f.length;rw[iz g]at c;exact run_firstCells_some w q l.length ⟨b,e,none⟩ _ cap d c.symm (fun j v m=>by rw[Addr.add_lit,dA n];exact k j v m)
def l5(H:ab)(e:TypeId)(v:Value):Prop:=(∃p,v= .slice p 0 0)∨∃k n c a,v= .slice (some ⟨k,0,none⟩) n (c+1)∧H[k]? =some (.cells a e (0,0))
theorem A2{t t2 e:TypeId}{i:TypeInfo}{z v x:Value}{sx sy:Operand}{size n m:Nat}{cs news:List Value}{dx:TypeDesc}
  (ho:o.op= .call {callee:= .builtin .append,args:= #[sx,sy],argTypes:= #[t,t2]})(U:P.underlying t=some (.slice e))(y:P.underlying t2=some dx)(a6:∀k,dx≠.int k)
  (hi:∀w,(typeInfo e).run P w= .ok i w)(aT:i.size=size)(hz:i.zero=some z)(a1:z.cells.size=size)
  (T:a.eval sx=v)(hy:a.eval sy=x)(hr:bU w.heap size v n cs)(D:Src P w.heap size x m news)(O:∀u∈news,u.oneCell'=true)(r:news.length=m*size)(I:(n+m)*i.bytes≤140737488355328)(ap:n+m≤9223372036854775807):
  ∃v' w',(execOp a.eval o).run P w= .ok (.value v') w'∧bh w w'∧bU w'.heap size v' (n+m) (cs++news)∧aq (aV v) w.heap w'.heap∧(∀b∈aV v',b∈aV v∨w.heap.size≤b)∧(l5 w.heap e v→l5 w'.heap e v'):=by
 have hlen:(cs++news).length=(n+m)*size:=by rw[List.length_append,hr.1,r,Nat.add_mul]
 have c:∀w,(sizeOf e).run P w= .ok size w:=fun w=>by simp[sizeOf,hi,aT]
 have H:∀w,(zeroValue e).run P w= .ok z w:=fun w=>by simp[zeroValue,hi,hz]
 obtain⟨s,F⟩:=D w rfl;have ar:n+m≤maxLen:=ap
 have grow:∀(p:Option Addr) (j:Nat),v= .slice p n j→j<n+m→∃v' w',(execOp a.eval o).run P w= .ok (.value v') w'∧bh w w'∧bU w'.heap size v' (n+m) (cs++news)∧aq (aV v) w.heap w'.heap∧(∀b∈aV v',b∈aV v∨w.heap.size≤b)∧(l5 w.heap e v→l5 w'.heap e v'):=by
  intro p j hv ac;have a4:=grownCap_ge w (n+m) j e;have a3:grownCap w (n+m) j e≤maxLen:=grownCap_le_maxLen w (n+m) j e ar;have am:=growslice_fits ac I;have N:∀w':World,w'.heap=w.heap→(Builtin.firstCells size n (.slice p n j)).run P w'= .ok cs.toArray w':=fun w' a0=>by rw[←hv];exact(bU.src (P:=P) hr w' a0).2
  obtain⟨S,q⟩:∃S,grownCap w (n+m) j e=S+1:=⟨grownCap w (n+m) j e-1,by omega⟩;refine⟨.slice (some ⟨w.heap.size,0,none⟩) (n+m) (grownCap w (n+m) j e),w.drew.alloc (.cells (cs.toArray++news.toArray++Builtin.zeroCells z.cells (grownCap w (n+m) j e-(n+m))) e),?_,bh.of rfl rfl rfl,⟨hlen,.inr ⟨w.heap.size,0,S,_,_,by rw[q],heap_alloc_new w.drew _,by omega,by omega,?_,?_⟩⟩,?_,?_,?_⟩
  ·have h1:=N w.drew rfl;have Y:=(D w.drew rfl).2;unfold execOp;rw[ho];have K:¬n+m≤j:=by omega
   have J:¬((9223372036854775807:Int)<(n:Int)+(m:Int)):=by omega
   have aC:¬281474976710656<Builtin.nextslicecap (n+m) j*i.bytes:=by omega
   simp[resolve,invoke,builtin,T,hy,hv,Builtin.append_,run_underlying U,run_underlying y,c,s,K,hi,J,aC,H,newRow];have Z:Question.forced (.appendCap (n+m) j e)=false:=rfl;simp[Z];rw[h1];simp[Y];refine⟨rfl,?_⟩;have e2:(cs++news).toArray=cs.toArray++news.toArray:=by simp
   rw[e2,Array.append_assoc];rfl
  ·simp only[Array.size_append,List.size_toArray,size_zeroCells,a1,hr.1,r,←Nat.add_mul];rw[←q];rw[Nat.zero_add];refine Nat.mul_le_mul_right _ (by omega)
  ·simp only[Array.toList_append,List.append_assoc,List.drop_zero];rw[←List.append_assoc,←hlen];exact List.take_left
  ·exact(aq.push [] w.heap _).nil
  ·intro b hb;rw[q]at hb;simp[aV]at hb;subst hb;exact .inr (Nat.le_refl _)
  ·exact fun _=>.inr ⟨w.heap.size,n+m,S,_,by rw[q],heap_alloc_new w.drew _⟩
 rcases hr.2 with⟨p,hv,hn⟩|⟨g,d,cap,f,W,hv,l,h1,Y,h3,h4⟩
 ·by_cases hm:m=0
  ·have al:cs=[]:=List.eq_nil_of_length_eq_zero (by rw[hr.1,hn];simp);have E:news=[]:=List.eq_nil_of_length_eq_zero (by rw[r,hm];simp);subst hn hm al E hv;refine⟨.slice p 0 0,w,?_,bh.refl _,⟨by simp,.inl ⟨p,rfl,rfl⟩⟩,aq.refl _ _,fun b hb=>.inl hb,id⟩;unfold execOp;rw[ho];cases p with
   |none=>simp[resolve,invoke,builtin,T,hy,Builtin.append_,run_underlying U,run_underlying y,c,s,F]
   |some ad=>simp[resolve,invoke,builtin,T,hy,Builtin.append_,run_underlying U,run_underlying y,c,s,F,storeCells]
  ·subst hn;exact grow p 0 hv (by omega)
 ·by_cases h:n+m≤cap+1
  ·have a5:n*size+m*size≤(cap+1)*size:=by rw[←Nat.add_mul];exact Nat.mul_le_mul_right _ h
   have R:=run_storeCells_at P g (d+n*size) W news 0 f w l (by rw[r];omega) O;simp only[Nat.add_zero]at R;refine⟨.slice (some ⟨g,d,none⟩) (n+m) (cap+1),w.setRow g (f.toList.take (d+n*size)++news++f.toList.drop (d+n*size+news.length)).toArray,?_,bh.of rfl rfl rfl,⟨hlen,.inr ⟨g,d,cap,_,W,rfl,setRow_heap w g f _ W _ l,h,Y,?_,?_⟩⟩,?_,?_,?_⟩
   ·unfold execOp;rw[ho];simp[resolve,invoke,builtin,T,hy,hv,Builtin.append_,run_underlying U,run_underlying y,c,s,F,h,Addr.add_lit,R]
   ·simp only[List.size_toArray,List.length_append,List.length_take,List.length_drop,Array.length_toList];omega
   ·have e1:f.toList.take (d+n*size)=f.toList.take d++cs:=by
     rw[List.take_add,h4]
    have M:(f.toList.take d).length=d:=by rw[List.length_take,Array.length_toList];omega
    show((f.toList.take (d+n*size)++news++f.toList.drop (d+n*size+news.length)).drop d).take _=_;rw[e1,List.append_assoc,List.append_assoc,List.drop_left' M,←List.append_assoc,←hlen];exact List.take_left
   ·rw[hv];exact kK w g _
   ·intro b hb;rw[hv];exact .inl hb
   ·rintro(⟨p,Q⟩|⟨k,n',c',a2,Q,hk⟩)
    ·rw[hv]at Q;cases Q
    ·rw[hv]at Q;cases Q;rw[l]at hk;cases hk;exact .inr ⟨g,n+m,cap,_,rfl,setRow_heap w g f _ _ _ l⟩
  ·exact grow _ (cap+1) hv (by omega)
theorem pF{H:ab}{m:Md}{sz:Nat}{α:Type}{enc:α→List C}{l:List α}{g:Value}(h:BR F H m (.row sz α enc l) g):∃cs,bU H sz g l.length cs∧RL F H m0 (l.flatMap enc) cs∧∀x∈l,(enc x).length=sz:=by
 rcases h with⟨p,rfl,rfl⟩|⟨k,d,cap,b,t,a,rfl,i,j,n,o,e,f,q⟩
 ·exact⟨[],⟨by simp,.inl ⟨p,rfl,rfl⟩⟩,.nl,fun x r=>by cases r⟩
 ·have c:=e.length;rw[iz f]at c;exact⟨a,⟨c.symm,.inr ⟨k,d,cap,b,t,rfl,i,j,n,o,by rw[c];exact q⟩⟩,e,f⟩
theorem CJ{H:ab}{m:Md}{t sz:Nat}{α:Type}{enc:α→List C}{l:List α}{g:Value}(h:BR F H m (.buf t sz α enc l) g):∃cs,bU H sz g l.length cs∧RL F H m0 (l.flatMap enc) cs∧(∀x∈l,(enc x).length=sz)∧l5 H t g:=by
 rcases h with⟨p,rfl,rfl⟩|⟨k,cap,a,b,rfl,d,i,j,q,e,f,n⟩
 ·exact⟨[],⟨by simp,.inl ⟨p,rfl,rfl⟩⟩,.nl,(fun x o=>by cases o),.inl ⟨p,rfl⟩⟩
 ·have c:=e.length;rw[iz f]at c;exact⟨b,⟨c.symm,.inr ⟨k,0,cap,a,t,rfl,d,i,j,by omega,by rw[c,List.drop_zero];exact n⟩⟩,e,f,.inr ⟨k,_,cap,a,rfl,d⟩⟩
theorem EC{H:ab}{m:Md}{t sz n:Nat}{α:Type}{enc:α→List C}{l:List α}{g:Value}{cs:List Value}(h:bU H sz g n cs)(u:l5 H t g)(hn:n=l.length)(hr:RL F H m0 (l.flatMap enc) cs)(hz:∀x∈l,(enc x).length=sz):BR F H m (.buf t sz α enc l) g:=by
 subst hn;rcases h.2 with⟨p,rfl,s⟩|⟨k,c,cap,a,e,rfl,f,o,q,y,r⟩
 ·exact .inl ⟨p,rfl,List.eq_nil_of_length_eq_zero s⟩
 ·rcases u with⟨p,b⟩|⟨v,w,j,d,b,i⟩
  ·simp at b
  ·obtain⟨⟨rfl,rfl⟩,-,rfl⟩:(k=v∧c=0)∧l.length=w∧cap=j:=by simpa using b
   rw[f]at i;cases i;exact .inr ⟨k,cap,a,cs,rfl,f,o,q,by omega,hr,hz,by rw[h.1];simpa using r⟩
theorem Ac{t sz:Nat}{α:Type}{enc:α→List C}{l:List α}(g:Value):az (.buf t sz α enc l) g=aV g:=by
 cases g with
 |slice p n c=>cases p<;>cases c<;>rfl
 |_=>rfl
theorem qM{H:ab}{m:Md}{sz n:Nat}{α:Type}{enc:α→List C}{l:List α}{g:Value}{cs:List Value}(h:bU H sz g n cs)(hn:n=l.length)(hr:RL F H m0 (l.flatMap enc) cs)(hz:∀x∈l,(enc x).length=sz):BR F H m (.row sz α enc l) g:=by
 subst hn;rcases h.2 with⟨p,rfl,j⟩|⟨k,b,cap,a,t,rfl,c,d,e,f,i⟩
 ·exact .inl ⟨p,rfl,List.eq_nil_of_length_eq_zero j⟩
 ·exact .inr ⟨k,b,cap,a,t,cs,rfl,c,d,e,f,hr,hz,by rw[h.1];exact i⟩
theorem lM{sz:Nat}{α:Type}{enc:α→List C}{l:List α}(g:Value):az (.row sz α enc l) g=aV g:=by
 cases g with
 |slice p n cap=>cases p<;>cases cap<;>rfl
 |_=>rfl
theorem bU.part{H:ab}{sz n0 lo n cap:Nat}{p q:Option Addr}{cs:List Value}(h:bU H sz (.slice p n0 cap) n0 cs)(i:lo+n≤n0)(hq:cap≠lo→q=p.map (·.add (lo*sz))):
  bU H sz (.slice q n (cap-lo)) n ((cs.drop (lo*sz)).take (n*sz))∧∀b∈aV (.slice q n (cap-lo)),b∈aV (.slice p n0 cap):=by
 have s:lo*sz+n*sz≤n0*sz:=by rw[←Nat.add_mul];exact Nat.mul_le_mul_right _ i
 have g:((cs.drop (lo*sz)).take (n*sz)).length=n*sz:=by rw[List.length_take,List.length_drop,h.1];omega
 rcases h.2 with⟨y,e,x⟩|⟨k,j,a,c,t,e,m,u,v,w,o⟩
 ·cases e;obtain rfl:n=0:=by omega
  obtain rfl:lo=0:=by omega
  exact⟨⟨g,.inl ⟨q,rfl,rfl⟩⟩,fun b hb=>by cases q<;>simp[aV]at hb⟩
 ·simp at e;obtain⟨rfl,rfl⟩:=e;by_cases f:a+1=lo
  ·obtain rfl:n=0:=by omega
   refine⟨⟨g,.inl ⟨q,by rw[f,Nat.sub_self],rfl⟩⟩,fun b hb=>?_⟩;rw[f,Nat.sub_self]at hb;cases q<;>simp[aV]at hb
  ·have hq:=hq f;simp[Addr.add_lit]at hq;obtain⟨d,l⟩:∃d,a+1-lo=d+1:=⟨a-lo,by omega⟩;have r:lo*sz+(d+1)*sz=(a+1)*sz:=by rw[←Nat.add_mul];congr 1;omega
   refine⟨⟨g,.inr ⟨k,j+lo*sz,d,c,t,by rw[hq,l],m,by omega,by omega,by omega,?_⟩⟩,fun b hb=>?_⟩
   ·rw[←o,←List.drop_drop,List.drop_take,List.take_take,Nat.min_eq_left (by omega)]
   ·rw[hq,l]at hb;simpa[aV]using hb
end
end Go.AM
end
section
namespace Go.AM
open Go Go.NB
section
variable {P:Program} {tab:Nat→Option TD} {E:En} {F:Nat→Prop} {γ:List Value} {s:St} {a:Act} {w:World} {o:Oper} {k:List B→A→Prop}
theorem oS{F:Nat→Prop}{H:ab}{m:Md}:∀l:List UInt8,RL F H m (l.flatMap bt) (l.map bv)
 |[]=>.nl
 |_::l=>.int (oS l)
theorem WR.EA{E:En}{F:Nat→Prop}{γ:List Value}{ah:List B}{H H':ab}(h:WR E F γ ah H)(k:aq [] H H')(m:H.size<H'.size):WR E (fun q=>F q∨q=H.size) γ ah H':=by
 have a:=h.same k;have e:Ext F H' ⟨E.B,γ⟩ (fun q=>F q∨q=H.size) H' ⟨E.B,γ⟩:=ll fun _ h=>.inl h;refine⟨a.len,fun j b g f d=>BR.ext e (fun _ _=>rfl) (a.br j b g f d),a.disj,fun j b g q f d c=>⟨fun l=>l.elim (a.nf j b g q f d c).1 (fun i=>?_),(a.nf j b g q f d c).2⟩,fun q c=>c.elim (a.fb q) (fun i=>by omega),a.bb,a.size,a.ca,fun q c=>.inl (a.fmono q c),fun q c=>c.elim (a.fnew q) (fun i=>.inr (.inr (by have:=h.size;omega))),a.onew,a.pre⟩;have:=fg (h.br j b g f d) q c;omega
theorem Ct{H:ab}{ah:List B}{c:C}{v:Value}{b:Option LS}{k:TD}{xs:List k.α}(K:WR E F γ ah H)(hc:RL F H ⟨E.B,γ⟩ [c] [v])(hb:qi ah c=some b)(f:qg k b xs):
  ∃cs,bU H k.size v xs.length cs∧RL F H m0 (xs.flatMap k.enc) cs∧(∀x∈xs,(k.enc x).length=k.size)∧
   ((kill ah c=ah∧aV v=[])∨∃j b g,kill ah c=ah.set j .dead∧ah[j]? =some b∧γ[j]? =some g∧(∀cs ty,ah[j]?≠some (.box cs ty))∧∀q∈aV v,q∈az b g)∧
   ∀j t sz α enc l,c= .rw j→ah[j]? =some (.buf t sz α enc l)→l5 H t v:=by
 cases c with
 |nil=>
  cases hb;have f:xs=[]:=f;subst f;cases hc;exact⟨[],⟨by simp,.inl ⟨none,rfl,rfl⟩⟩,.nl,(fun x f=>by cases f),.inl ⟨rfl,rfl⟩,fun j t sz α enc l h=>by cases h⟩
 |rw j=>
  simp only[qi]at hb;split at hb
  ·rename_i sz α enc l d;cases hb;cases f;cases hc with
   | @rw _ _ p q n cap _ _ w s _=>
    have a:γ[j]? =some _:=w;obtain⟨cs,i,r,m⟩:=pF (K.br _ _ _ d a);by_cases e:cap=0
    ·subst e
     have u:xs.length=0∧n=0:=by
      rcases i.2 with⟨_,o,I⟩|⟨_,_,_,_,_,o,_⟩
      ·cases o;exact⟨I,rfl⟩
      ·simp at o
     have M:=u.1;rw[u.2];refine⟨cs,⟨i.1,.inl ⟨q,rfl,M⟩⟩,r,m,.inr ⟨j,_,_,rfl,d,a,(fun cs ty h=>by rw[d]at h;cases h),fun b hb=>by cases q<;>simp[aV]at hb⟩,fun j t sz α enc l h hb=>by cases h;rw[d]at hb;cases hb⟩
    ·rw[s e];exact⟨cs,i,r,m,.inr ⟨j,_,_,rfl,d,a,(fun cs ty h=>by rw[d]at h;cases h),fun q z=>by rw[lM];exact z⟩,fun j t sz α enc l h hb=>by cases h;rw[d]at hb;cases hb⟩
  ·rename_i t sz α enc l d;cases hb;cases f;cases hc with
   | @rw _ _ p q n cap _ _ w s _=>
    have a:γ[j]? =some _:=w;obtain⟨cs,i,r,m,J⟩:=CJ (K.br _ _ _ d a);by_cases e:cap=0
    ·subst e
     have u:xs.length=0∧n=0:=by
      rcases i.2 with⟨_,o,I⟩|⟨_,_,_,_,_,o,_⟩
      ·cases o;exact⟨I,rfl⟩
      ·simp at o
     have M:=u.1;rw[u.2];refine⟨cs,⟨i.1,.inl ⟨q,rfl,M⟩⟩,r,m,.inr ⟨j,_,_,rfl,d,a,(fun cs ty h=>by rw[d]at h;cases h),fun b hb=>by cases q<;>simp[aV]at hb⟩,fun _ _ _ _ _ _ _ _=>.inl ⟨q,rfl⟩⟩
    ·rw[s e];exact⟨cs,i,r,m,.inr ⟨j,_,_,rfl,d,a,(fun cs ty h=>by rw[d]at h;cases h),fun q z=>by rw[Ac];exact z⟩,fun Y t2 U W R Z h hb=>by cases h;rw[d]at hb;cases hb;exact J⟩
  ·cases hb
 |sw sz j P n=>
  simp only[qi]at hb;split at hb
  ·rename_i Q α enc l d;by_cases D:Nat.beq sz Q=true
   ·obtain rfl:=Nat.eq_of_beq_eq_true D;rw[D]at hb;cases hb;cases f;cases hc with
    | @sw _ _ _ _ _ p q n0 cap _ _ w N z _=>
     have a:γ[j]? =some _:=w;obtain⟨cs,i,r,m⟩:=pF (K.br _ _ _ d a)
     have O:n0=l.length:=by
      rcases i.2 with⟨p',e,u⟩|⟨_,_,_,_,_,e,_⟩
      ·cases e;omega
      ·simp at e;exact e.2.1
     subst O;obtain⟨J,T⟩:=i.part N z;have y:((l.drop P).take n).length=n:=by rw[List.length_take,List.length_drop];omega
     have S:∀x∈l.drop P,(k.enc x).length=k.size:=fun x f=>m x (List.mem_of_mem_drop f);refine⟨_,by rw[y];exact J,?_,fun x f=>S x (List.mem_of_mem_take f),.inr ⟨j,_,_,rfl,d,a,(fun cs ty h=>by rw[d]at h;cases h),fun b hb=>by rw[lM];exact T b hb⟩,fun j t sz α enc l h=>by cases h⟩;rw[←nw n S,←ml P m];exact(r.drop _).take _
   ·rw[Bool.not_eq_true]at D;rw[D]at hb;cases hb
  ·cases hb
 |_=>cases hb
theorem IQ{H:ab}{ah:List B}{c:C}{v:Value}{b:Option LS}{a:TD}{ys:List a.α}(h:WR E F γ ah H)(hc:RL F H ⟨E.B,γ⟩ [c] [v])(hb:mP ah c=some b)(hy:qg a b ys):
  ∃news,Src P H a.size v ys.length news∧RL F H m0 (ys.flatMap a.enc) news∧(∀x∈ys,(a.enc x).length=a.size):=by
 cases c with
 |nil=>
  cases hb;have hy:ys=[]:=hy;subst hy;cases hc;exact⟨[],fun w _=>⟨by simp[Builtin.lenOf],by simp[Builtin.firstCells]⟩,.nl,fun x m=>by cases m⟩
 |str l=>
  cases hb;have hy:(⟨1,UInt8,bt,l⟩:LS)=⟨a.size,a.α,a.enc,ys⟩:=hy
  have k:∀L:LS,L=⟨1,UInt8,bt,l⟩→∃news,Src P H L.sz v L.l.length news∧RL F H m0 (L.l.flatMap L.enc) news∧(∀x∈L.l,(L.enc x).length=L.sz):=fun L d=>by
   subst d;cases hc with
   |str _ _=>
    exact⟨_,Src.str l,oS l,fun x m=>rfl⟩
  exact k _ hy.symm
 |ls o α i l=>
  simp only[mP,Option.map_eq_some_iff]at hb;obtain⟨L,d,rfl⟩:=hb;obtain⟨news,e,f,g⟩:=(h.sl hc d).src (P:=P);cases hy;exact⟨news,e,f,g⟩
 |bs o α i l=>
  simp only[mP,Option.map_eq_some_iff]at hb;obtain⟨L,d,rfl⟩:=hb;obtain⟨news,e,f,g⟩:=(h.sl hc d).src (P:=P);cases hy;exact⟨news,e,f,g⟩
 |rw j=>
  simp only[mP,Option.map_eq_some_iff]at hb;obtain⟨L,d,rfl⟩:=hb;obtain⟨news,e,f,g⟩:=(h.sl hc d).src (P:=P);cases hy;exact⟨news,e,f,g⟩
 |sw o j p n=>
  simp only[mP,Option.map_eq_some_iff]at hb;obtain⟨L,d,rfl⟩:=hb;obtain⟨news,e,f,g⟩:=(h.sl hc d).src (P:=P);cases hy;exact⟨news,e,f,g⟩
 |_=>simp[mP,ke]at hb
theorem HW{α:Type}{enc:α→List C}{l l2:List α}{lo n sz:Nat}{css us:List Value}{cur:List Value}{off:Nat}{F:Nat→Prop}{H:ab}{m:Md}
  (hr:RL F H m (l.flatMap enc) css)(hz:∀x∈l,(enc x).length=sz)(p:lo+n≤l.length)(j:l2.length=n)(f:∀x∈l2,(enc x).length=sz)(r:RL F H m (l2.flatMap enc) us)
  (hc:(cur.drop off).take css.length=css)(q:off≤cur.length):
  ∃a,RL F H m ((l.take lo++(l2++l.drop (lo+n))).flatMap enc) a∧a.length=css.length∧(∀x∈l.take lo++(l2++l.drop (lo+n)),(enc x).length=sz)∧off+lo*sz+us.length≤cur.length∧
   ((cur.take (off+lo*sz)++us++cur.drop (off+lo*sz+us.length)).drop off).take a.length=a:=by
 have z:l=l.take lo++((l.drop lo).take n++l.drop (lo+n)):=by
  rw[show l.drop (lo+n)=(l.drop lo).drop n by rw[List.drop_drop],List.take_append_drop,List.take_append_drop]
 have I:((l.take lo).flatMap enc).length=lo*sz:=by
  rw[iz (fun y hy=>hz y (List.mem_of_mem_take hy)),List.length_take,Nat.min_eq_left (by omega)]
 have J:(((l.drop lo).take n).flatMap enc).length=n*sz:=by
  rw[iz (fun y hy=>hz y (List.mem_of_mem_drop (List.mem_of_mem_take hy))),List.length_take,List.length_drop,Nat.min_eq_left (by omega)]
 have K:(l2.flatMap enc).length=n*sz:=by rw[iz f,j]
 have u:l.flatMap enc=(l.take lo).flatMap enc++(((l.drop lo).take n).flatMap enc++(l.drop (lo+n)).flatMap enc):=by
  conv=>lhs;rw[z]
  rw[List.flatMap_append,List.flatMap_append]
 rw[u]at hr;obtain⟨b,R,rfl,s,M⟩:=hr.split;obtain⟨e,c,rfl,N,O⟩:=M.split;have D:=s.length;have k:=N.length;have E:=r.length;rw[I]at D;rw[J]at k;rw[K]at E
 have w:(b++(e++c)).length≤cur.length-off:=by
  have:=congrArg List.length hc;rw[List.length_take,List.length_drop]at this;omega
 obtain ⟨Z, v⟩ : ∃ Z, cur.drop off = (b ++ (e ++ c)) ++ Z := ⟨(cur.drop off).drop (b++(e++c)).length,by
  conv=>rhs;arg 1;rw[←hc]
  rw[List.take_append_drop]⟩
 have g:cur=cur.take off++((b++(e++c))++Z):=by rw[←v,List.take_append_drop]
 generalize h:cur.take off=d at g;have i:d.length=off:=by rw[←h,List.length_take];omega
 refine⟨b++(us++c),by rw[List.flatMap_append,List.flatMap_append];exact s.append (r.append O),by simp;omega,fun y hy=>?_,?_,?_⟩
 ·rcases List.mem_append.1 hy with hy|hy
  ·exact hz y (List.mem_of_mem_take hy)
  ·rcases List.mem_append.1 hy with hy|hy
   ·exact f y hy
   ·exact hz y (List.mem_of_mem_drop hy)
 ·rw[g];simp;omega
 ·have o:cur=(d++b)++(e++(c++Z)):=by rw[g];simp[List.append_assoc]
  have P:cur.take (off+lo*sz)=d++b:=by rw[o];exact List.take_left' (by simp;omega)
  have Q:cur.drop (off+lo*sz+us.length)=c++Z:=by
   rw[o,←List.append_assoc,List.drop_left' (by simp;omega)]
  rw[P,Q];have t:d++b++us++(c++Z)=d++((b++(us++c))++Z):=by simp[List.append_assoc]
  rw[t,List.drop_left' i,List.take_left]
theorem A3{x:Operand}{t e et:TypeId}{zs:List Value}{size g off n cap:Nat}{cur:Array Value}{z:Value}(ho:o.op= .call {callee:= .builtin .clear,args:= #[x],argTypes:= #[t]})(p:a.eval x= .slice (some ⟨g,off,none⟩) n cap)(hn:0<n)
  (k:P.underlying t=some (.slice e))(hz:∀w,(zeroValue e).run P w= .ok z w)(h:z.cells=zs.toArray)(b:zs.length=size)(f:0<size)(d:∀u∈zs,u.oneCell'=true)(hg:w.heap[g]? =some (.cells cur et (0,0)))(c:off+n*size≤cur.size):
  (execOp a.eval o).run P w= .ok (.value (.tuple #[])) (w.setRow g (cur.toList.take off++(List.replicate n zs).flatten++cur.toList.drop (off+n*size)).toArray):=by
 have hl:(List.replicate n zs).flatten.length=n*size:=by simp[b]
 have j := run_storeCells_at P g off et (List.replicate n zs).flatten 0 cur w hg (by rw [hl]; simpa using c) (fun u q=>by
  obtain⟨l,h1,h2⟩:=List.mem_flatten.1 q;rw[List.mem_replicate]at h1;exact d u (h1.2▸h2))
 simp only[Nat.add_zero,hl]at j;have i:=BV b f n;obtain⟨n,rfl⟩:∃m,n=m+1:=⟨n-1,by omega⟩;unfold execOp;rw[ho]
 have key:(Builtin.zeroCells zs.toArray (n+1)).toList=(List.replicate (n+1) zs).flatten:=by
  rw[←i];unfold Builtin.zeroCells;simp[b]
 simp only[resolve,invoke,builtin,p,Builtin.clear_,Sem.run_bind,Sem.run_pure,Result.andThen_ok,List.map_toArray,List.map_cons,List.map_nil,run_underlying k,hz,h];simp[p,run_underlying k,hz,h,key,j]
theorem Dr(hT:bo P tab)(hE:ER F w.heap ⟨E.B,γ⟩ s.env a)(K:WR E F γ s.ah w.heap){x:Operand}{t e:TypeId}{m:TD}{sz j lo n:Nat}{α:Type}{enc:α→List C}{l:List α}{z:α}(ho:o.op= .call {callee:= .builtin .clear,args:= #[x],argTypes:= #[t]})
  (ht:P.underlying t=some (.slice e))(y:tab e=some m)(Z:aO s x= .c (.sw sz j lo n))(hj:s.ah[j]? =some (.row sz α enc l))(I:sz=m.size)(aT:1≤m.size)(a1:dF m.zero=true)(hz:enc z=m.zero)(u:lo+n≤l.length)
  (h:k (s.ah.set j (.row sz α enc (l.take lo++(List.replicate n z++l.drop (lo+n))))) .undef):Dn P s E F γ a w o k:=by
 have O:=aY hE Z;generalize hv:a.eval x=v at O;cases O with
 | @sw _ _ _ _ _ p q n0 cap _ _ hg a2 hq _=>
 have D:γ[j]? =some _:=hg;have ac:=K.br j _ _ hj D;have f:kv s o.op=true→False:=fun b=>by rw[ho]at b;simp[kv,Z]at b
 by_cases hn:n=0
 ·subst hn;have el:l.take lo++(List.replicate 0 z++l.drop (lo+0))=l:=by simp
  rw[el]at h
  have R:s.ah.set j (.row sz α enc l)=s.ah:=by
   refine List.ext_getElem? fun i=>?_;rw[List.getElem?_set];split
   ·rename_i e;subst e;rw[hj,if_pos (List.getElem?_eq_some_iff.1 hj).1]
   ·rfl
  rw[R]at h
  have g:(execOp a.eval o).run P w= .ok (.value (.tuple #[])) w:=by
   unfold execOp;rw[ho];cases q<;>simp[resolve,invoke,builtin,hv,Builtin.clear_,run_underlying ht]
  have ex:=K.ext (γ':=[]) (W:=[]) (fun q hq=>by cases hq) (aq.refl [] w.heap);rw[List.append_nil]at ex;exact⟨_,_,w,_,_,F,γ,⟨.inl rfl,g⟩,bh.of rfl rfl rfl,h,⟨K,ex⟩,trivial,fun b=>(f b).elim,fun N=>by rw[ho]at N;cases N⟩
 ·rcases ac with⟨p',he,al⟩|⟨r,ob,d,cur,et,css,he,h1,h2,h3,h4,h5,h6,h7⟩
  ·subst al;simp at u;omega
  ·obtain⟨rfl,rfl,rfl⟩:p=some ⟨r,ob,none⟩∧n0=l.length∧cap=d+1:=by simpa using he
   have hq:=hq (by omega);simp only[Option.map_some]at hq;subst hq;obtain⟨i,zv,zs,hi,a0,aC,ar,ap,Y⟩:=hT.info e m y;have T:zs.length=m.size:=by have:=(Y F w.heap m0).length;rw[←this,hT.zl e m y]
   have J:∀w,(zeroValue e).run P w= .ok zv w:=fun w=>by simp[zeroValue,hi,ar]
   have U:RL F w.heap m0 (enc z) zs:=by rw[hz];exact Y F w.heap m0
   have ad:(enc z).length=sz:=by rw[hz,hT.zl e m y,I]
   have am:=vy U n;have S:(List.replicate n zs).flatten.length=n*sz:=by simp[T,I]
   obtain⟨M,q1,q2,q3,q4,q5⟩:=HW (l2:=List.replicate n z) h5 h6 u (by simp) (fun x Z=>by rw[(List.mem_replicate.1 Z).2];exact ad) am h7 (by simp;omega);rw[S]at q4 q5;have g:=A3 (P:=P) (w:=w) (off:=ob+lo*sz) (size:=sz) ho (by rw[hv,Addr.add_lit]) (by omega) ht J ap (by rw[T,I]) (by omega) U.one h1 (by simpa using q4);have H:az (.row sz α enc l) (.slice (some ⟨r,ob,none⟩) l.length (d+1))=[r]:=rfl;have hK:aq [r] w.heap (w.setRow r (cur.toList.take (ob+lo*sz)++(List.replicate n zs).flatten++cur.toList.drop (ob+lo*sz+n*sz)).toArray).heap:=kK _ _ _;have ex:=K.ext (γ':=[]) (W:=[r]) (fun q hq=>K.nf j _ _ q hj D (by rw[H];exact hq)) hK;rw[List.append_nil]at ex;have Q:(l.take lo++(List.replicate n z++l.drop (lo+n))).length=l.length:=by simp;omega
   refine⟨_,_,_,_,_,F,γ,⟨.inl rfl,g⟩,bh.of rfl rfl rfl,h,⟨K.ay hj D (by rw[H];exact hK) (fun q hq=>by rw[H];simpa[az]using hq) (.inr ⟨r,ob,d,_,et,M,by rw[Q],setRow_heap w r _ _ _ _ h1,by rw[Q];exact h2,h3,?_,q1.ext ex.m0,q3,q5⟩),ex⟩,trivial,fun b=>(f b).elim,fun N=>by rw[ho]at N;cases N⟩;rw[List.size_toArray,List.length_append,List.length_append,S,List.length_take,List.length_drop];simp only[Array.length_toList]at q4⊢;omega
theorem Dl(hT:bo P tab)(hE:ER F w.heap ⟨E.B,γ⟩ s.env a)(K:WR E F γ s.ah w.heap){c:Call}(ho:o.op= .call c)(h:Y2 tab s (.call c) k):Dn P s E F γ a w o k:=by
 obtain⟨cl,ac,bj⟩:=c;simp only[Y2]at h;have D:∀{l:List Operand},ac.toList=l→ac=l.toArray:=fun h=>by rw[←h]
 have J:∀{l:List TypeId},bj.toList=l→bj=l.toArray:=fun h=>by rw[←h]
 split at h
 ·rename_i x y t t2 f u;have f:=D f;have u:=J u;subst f u;split at h
  ·rename_i d d2 ht b2;have hk:=hT.kind t d ht;have r:=hT.kind t2 d2 b2;split at h
   ·rename_i e hd;rw[hd]at hk;split at h
    ·rename_i _ _ _ v cx cy M hx hy;split at h
     ·rename_i _ _ bx cq bk bl;obtain⟨Z,U,Y,ce,cf,N,h⟩:=bM h;simp only[Bool.and_eq_true]at Z;have bp:=Nat.le_of_ble_eq_true Z.2
      have br:∃dx,P.underlying t2=some dx∧∀k,dx≠.int k:=by
       have bn:=Z.1;revert r bn;cases d2.kind with
       |sl e=>intro h1 _;exact⟨_,h1,fun _ h=>by cases h⟩
       |str=>intro h1 _;exact⟨_,h1,fun _ h=>by cases h⟩
       |_=>intro _ h2;cases h2
      obtain⟨dx,cb,bs⟩:=br;obtain⟨i,zv,zs,hi,b1,a1,hz,co,ci⟩:=hT.info e v M;have cp:=hT.size M;obtain⟨cs,hr,bY,b0,Q,b4⟩:=Ct K (aY hE hx) bk ce;obtain⟨al,be,ar,a9⟩:=IQ (P:=P) K (aY hE hy) bl cf;have R:=ar.length;rw[iz a9]at R;have c0:U.length+Y.length≤(U.length+Y.length)*v.bytes:=Nat.le_mul_of_pos_right _ bp
      have ch:zv.cells.size=v.size:=by
       have:=(ci F w.heap m0).length;rw[co,List.size_toArray,←this,hT.zl e v M]
      obtain⟨S,w',bb,hA,aC,hK,a0,bi⟩:=A2 (P:=P) ho hk cb bs hi b1 hz ch rfl rfl hr be ar.one R.symm (by rw[a1];exact N) (by omega);have H:RL F w.heap m0 ((U++Y).flatMap v.enc) (cs++al):=by rw[List.flatMap_append];exact bY.append ar
      have a3:∀x∈U++Y,(v.enc x).length=v.size:=fun x hx=>(List.mem_append.1 hx).elim (b0 x) (a9 x)
      have I:∀{m:Md},RL F w'.heap m0 ((U++Y).flatMap v.enc) (cs++al)→BR F w'.heap m (rz s.ah cx e v.size v.α v.enc (U++Y)) S∧az (rz s.ah cx e v.size v.α v.enc (U++Y)) S=aV S:=fun{m} ad=>by
       have row:BR F w'.heap m (.row v.size v.α v.enc (U++Y)) S∧az (.row v.size v.α v.enc (U++Y)) S=aV S:=⟨qM aC (by simp) ad a3,lM _⟩;unfold rz;split
       ·split
        ·rename_i j _ t _ _ _ _ hj;cases b3:Nat.beq t e with
         |true=>
          obtain rfl:=Nat.eq_of_beq_eq_true b3;exact⟨EC aC (bi (b4 _ _ _ _ _ _ rfl hj)) (by simp) ad a3,Ac _⟩
         |false=>exact row
        ·exact row
       ·exact row
      refine⟨_,S,w',_,_,F,γ++[S],⟨.inl rfl,bb⟩,hA,h,?_,?_,fun hg=>?_,fun ha=>⟨hK.1,fun j0 cr c3 v0 ap a4 q T=>hK.2 q (fg (K.br j0 _ _ ap a4) q T) fun am=>?_⟩⟩
      ·rcases Q with⟨O,r⟩|⟨j,b,g,O,hj,hg,a5,r⟩
       ·rw[r]at hK;have ex:=K.ext (W:=[]) (fun k hk=>by cases hk) hK [S];rw[O];refine⟨K.push hK (fun q T=>?_) (I (H.ext ex.m0)).1,ex⟩;rw[(I (m:=m0) (H.ext ex.m0)).2]at T;rcases a0 q T with h1|h1
        ·rw[r]at h1;cases h1
        ·exact h1
       ·have aT:aq (az b g) w.heap w'.heap:=hK.mono r;have ex:=K.ext (fun q T=>K.nf j b g q hj hg T) aT [S];rw[O];refine⟨K.move hj hg aT (fun q T=>?_) (I (H.ext ex.m0)).1,ex⟩;rw[(I (m:=m0) (H.ext ex.m0)).2]at T;exact(a0 q T).imp (r q) id
      ·obtain⟨p,cap,cd⟩:∃p cap,S= .slice p (U.length+Y.length) cap:=by
        rcases aC.2 with⟨p,h1,h2⟩|⟨g,c1,cap,cv,et,h1,_⟩
        ·exact⟨p,0,by rw[h1,h2]⟩
        ·exact⟨_,_,h1⟩
       rw[cd];exact .rw (getLast_append K.len.symm) (fun _=>rfl) .nl
      ·rw[ho]at hg;simp only[kv,hx]at hg
       have a6:cx= .nil:=by
        revert hg;cases cx<;>first|(intro;rfl)|(intro h;cases h)
       subst a6;have a2:=aY hE hx;generalize a.eval x=vx at a2 hK;cases a2;exact hK
      ·rcases Q with⟨O,r⟩|⟨j,b,g,O,hj,hg,a5,r⟩
       ·rw[r]at am;cases am
       ·by_cases e:j0=j
        ·subst e;exact a5 _ _ ap
        ·exact K.disj j0 j _ _ _ _ e ap a4 hj hg q T (r q am)
     ·exact h.elim
    ·exact h.elim
   ·exact h.elim
  ·exact h.elim
 ·rename_i x t f u;have f:=D f;have u:=J u;subst f u;split at h
  ·rename_i d ht;have hk:=hT.kind t d ht;split at h
   ·rename_i e hd;rw[hd]at hk;split at h
    ·rename_i _ _ v sz j lo n M hx;split at h
     ·rename_i c2 α cR l hj;obtain⟨Z,z,hz,N,h⟩:=bM h;simp only[Bool.and_eq_true]at Z;obtain rfl:=Nat.eq_of_beq_eq_true Z.1;exact Dr hT hE K ho hk M hx hj (Nat.eq_of_beq_eq_true Z.2.1.1) (Nat.le_of_ble_eq_true Z.2.1.2) Z.2.2 hz N h
     ·exact h.elim
    ·exact h.elim
   ·exact h.elim
  ·exact h.elim
 ·exact h.elim
theorem WR.HC{H H':ab}{ah:List B}(h:WR E F γ ah H){b:Nat}(hb:E.own b∨E.H0.size≤b)(r:F b)(n:H'.size=H.size)(hc:∀o,cell H' b o=cell H b o)(hk:∀k,k≠b→H'[k]? =H[k]?):WR E F γ ah H'∧Ext F H ⟨E.B,γ⟩ F H' ⟨E.B,γ⟩:=by
 have e : Ext F H ⟨E.B, γ⟩ F H' ⟨E.B, γ⟩ := ⟨fun _ h=>h,fun c o u _ p=>by
  by_cases d:c=b
  ·subst d;rw[hc];exact p
  ·exact ta (hk c d) p,fun _ h=>h,fun _ _ h=>h⟩
 refine⟨⟨h.len,fun j c g m l=>BR.ext e (fun k a=>hk k (fun f=>(h.nf j c g k m l a).1 (f▸r))) (h.br j c g m l),h.disj,h.nf,fun k a=>by rw[n];exact h.fb k a,h.bb,by rw[n];exact h.size,fun k q i=>?_,h.fmono,h.fnew,h.onew,h.pre⟩,e⟩;have:k≠b:=fun f=>by subst f;exact hb.elim i (fun s=>by omega)
 rw[hk k this];exact h.ca k q i
theorem Du(hT:bo P tab)(hE:ER F w.heap ⟨E.B,γ⟩ s.env a)(O:WR E F γ s.ah w.heap){t e:Nat}{x:Operand}{j:Nat}{α:Type}{enc:α→List C}{y:α}{l:List α}(ho:o.op= .convert t t x)(hx:aO s x= .c (.rw j))(ht:P.underlying t=some (.slice e))(he:P.underlying e=some (.int .u8))
  (hj:s.ah[j]? =some (.row 1 α enc (y::l)))(h:k (s.ah.set j (.aT 1 α enc (y::l))) (.c (.ls 1 α enc (y::l)))):Dn P s E F γ a w o k:=by
 have hc:=aY hE hx;generalize hv:a.eval x=v at hc;cases hc with
 | @rw _ _ p q n cap _ _ D U _=>
  have D:γ[j]? =some (.slice p n cap):=D;obtain⟨F',J,Q,m⟩:=O.freeze hj;have m:=m _ D;rcases O.br j _ _ hj D with⟨p',_,h0⟩|⟨g,I,r,d,Z,ac,S,f,h2,h3,h4,h5,h6,h7⟩
  ·cases h0
  cases S;have hq:q=some ⟨g,I,none⟩:=U (by omega);subst hq;have T:g∈az (.row 1 α enc (y::l)) (.slice (some ⟨g,I,none⟩) (y::l).length (r+1)):=by simp[az]
  have N:F' g:=by
   cases m with
   |ls hb _ _ _ _ _ _=>exact hb
  have H:g<w.heap.size:=(Array.getElem?_eq_some_iff.1 f).1;let H':ab:=w.heap.set g (.cells d Z (d.size,d.size+1))
  have K:w.heap.modify g (fun| .cells c elem (lo,M)=>.cells c elem (if lo==M then(d.size,d.size+1)else(min lo d.size,max M (d.size+1)))|o=>o)=H':=by
   apply Array.ext_getElem?;intro i;rw[Array.getElem?_modify,Array.getElem?_set H];split
   ·rename_i h;subst h;rw[f];simp
   ·rfl
  obtain ⟨R, z⟩ := Q.HC (H' := H') (O.onew j _ _ g hj D T) N (by simp [H']) (fun o=>by
   unfold cell;rw[Array.getElem?_set H,if_pos rfl,f]) (fun i M=>by rw[Array.getElem?_set H,if_neg (fun h=>M h.symm)])
  refine⟨_,.slice (some ⟨g,I,none⟩) (y::l).length (r+1),w.freeze ⟨g,d.size,none⟩ 1,_,_,F',γ,⟨.inl rfl,?_⟩,bh.of rfl rfl rfl,h,?_,?_,fun D=>by rw[ho]at D;simp[kv,hx]at D,fun ha=>by rw[ho]at ha;cases ha⟩
  ·unfold execOp;rw[ho];have hs:w.shape? g=some (Z,d.size):=by unfold World.shape?;rw[f]
   simp[hv,convert,run_underlying ht,run_underlying he,markStringish,hs]
  ·have Y:(w.freeze ⟨g,d.size,none⟩ 1).heap=H':=by
    unfold World.freeze;rw[if_neg (by decide)];exact K
   rw[Y];exact⟨R,⟨fun k hk=>J k hk,fun b o u hb W=>z.h b o u (hb.imp (J b) id) W,fun _ h=>h,fun _ _ h=>h⟩⟩
  ·have Y:(w.freeze ⟨g,d.size,none⟩ 1).heap=H':=by
    unfold World.freeze;rw[if_neg (by decide)];exact K
   rw[Y];exact RL.up (m.ext ⟨fun _ h=>h,fun b o u hb W=>z.h b o u (.inl (hb.elim id False.elim)) W,fun _ h=>h,fun _ _ h=>h⟩)
theorem Ds(n:bo P tab)(S:ER F w.heap ⟨E.B,γ⟩ s.env a)(K:WR E F γ s.ah w.heap){t u:Nat}{x:Operand}(ho:o.op= .convert t u x)(h:Y2 tab s (.convert t u x) k):Dn P s E F γ a w o k:=by
 simp only[Y2]at h;split at h
 ·rename_i _ _ _ d Q l O Y D;have m:=n.kind t d O;have z:=n.kind u Q Y;have U:=aY S D;split at h
  ·rename_i e I R;rw[I]at m;rw[R]at z;split at h
   ·rename_i H i;have c:=n.kind e H i;split at h
    ·rename_i J;rw[J]at c;generalize hv:a.eval x=v at U;cases U with
     |str hl _=>
      have b:=run_bytes_of_string (P:=P) w t u e ⟨l.toArray⟩ m z c;have N:(⟨l.toArray⟩:ByteArray).size=l.length:=rfl;rw[N]at b;have r:=grownCap_ge w l.length 0 e;have p:=grownCap_le_maxLen w l.length 0 e (show l.length≤maxLen from hl);generalize grownCap w l.length 0 e=cap at b r p;generalize Z:Obj.cells (bytesRow ⟨l.toArray⟩ cap) e ((bytesRow ⟨l.toArray⟩ cap).size,(bytesRow ⟨l.toArray⟩ cap).size+1)=ob at b;have g:aq [] w.heap (w.heap.push ob):=aq.push [] _ _;have ex:=K.ext (W:=[]) (γ':=[]) (fun k m=>by cases m) g;rw[List.append_nil]at ex;refine⟨_,.slice (some ⟨w.heap.size,0,none⟩) l.length cap,w.drew.alloc ob,_,_,fun q=>F q∨q=w.heap.size,γ,⟨.inl rfl,?_⟩,bh.of rfl rfl rfl,h,⟨K.EA g (by simp),⟨fun _ h=>.inl h,ex.h,ex.b,ex.g⟩⟩,?_,fun _=>g,fun T=>by rw[ho]at T;cases T⟩
      ·unfold execOp;rw[ho];simp[hv,NB.str,b]
      ·refine .ls (.inr rfl) r p (oS l) (fun x D=>rfl) (fun j q y=>?_) .nl;show cell (w.heap.push ob) _ _=_;unfold cell
       have M:j<l.length:=by
        have:=(List.getElem?_eq_some_iff.1 y).1;simpa using this
       rw[←Z];simp only[Array.getElem?_push_size,Nat.zero_add];unfold bytesRow;rw[Array.getElem?_append_left (by simpa using M)];rw[List.getElem?_map]at y;simp only[Array.getElem?_map,List.getElem?_toArray];exact y
    ·exact h.elim
   ·exact h.elim
  ·exact h.elim
 ·rename_i _ _ _ d Q j O Y D;have m:=n.kind t d O;split at h
  ·rename_i e e' I R;rw[I]at m;have f:=bM h;clear h;obtain⟨f,h⟩:=f;rw[Bool.and_eq_true]at f;obtain rfl:=Nat.eq_of_beq_eq_true f.2;split at h
   ·rename_i H i;have c:=n.kind e H i;split at h
    ·rename_i J;rw[J]at c;split at h
     ·rename_i y;exact Du n S K ho D m c y h
     ·exact h.elim
    ·exact h.elim
   ·exact h.elim
  ·exact h.elim
 ·exact h.elim
theorem Cb(f:bo P tab)(e:ER F w.heap ⟨E.B,γ⟩ s.env a)(b:WR E F γ s.ah w.heap)(h:Y2 tab s o.op k):Dn P s E F γ a w o k:=by
 generalize d:o.op=i at h;cases i with
 |alloc t=>exact Dk f b d h
 |box t x=>exact Dm e b d h
 |buildSlice t n g=>exact Dq f e b d h
 |makeSlice t x y=>exact Dv f e b d h
 |store t x y=>exact Dw f e b d h
 |convert t u x=>exact Ds f e b d h
 |call c=>exact Dl f e b d h
 |_=>simp only[Y2]at h
end
end Go.AM
end
