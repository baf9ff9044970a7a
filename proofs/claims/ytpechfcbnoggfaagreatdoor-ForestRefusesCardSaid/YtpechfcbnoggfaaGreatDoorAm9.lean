/- part -/
import Derived.Test.YtpechfcbnoggfaaGreatDoorAm5
import Derived.Laws.IdiomStrings
set_option linter.unusedVariables false
set_option linter.unusedSimpArgs false
section
namespace Go.AM
open Go Go.NB
section
variable {P:Program} {tab:Nat→Option TD} {E:En} {F:Nat→Prop} {γ:List Value} {s:St} {a:Act} {w:World} {o:Oper} {k:A→Prop}
theorem Gf{t:Nat}(ht:P.underlying t=some .string)(l:List UInt8)(x y:Nat)(h1:x≤y)(h2:y≤l.length)(w:World):
  (Instr.sliceAt t (NB.str l) (some (.int .u8 (x:Nat))) (some (.int .u8 (y:Nat))) .none).run P w= .ok (NB.str ((l.take y).drop x)) w:=by
 have e:(⟨l.toArray⟩:ByteArray).size=l.length:=rfl
 have key:(⟨l.toArray⟩:ByteArray).extract x y=⟨((l.take y).drop x).toArray⟩:=by
  apply ByteArray.ext;simp[ByteArray.data_extract];rw[List.drop_take]
 simp[Instr.sliceAt,Instr.slice,run_underlying ht,Instr.sliceBounds,Instr.sliceBound,asIntOf,NB.str,e,h1,h2,key]
theorem HL(hT:bm P tab)(hE:ER F w.heap ⟨E.B,γ⟩ s.env a){t:Nat}{x:Operand}{lo hi:Option Operand}(ho:o.op= .slice t x lo hi none)(h:uw tab s t x lo hi k):Yd P F ⟨E.B,γ⟩ a w o k:=by
 unfold uw at h;split at h
 ·rename_i d lo hi ht;have hk:=hT.kind t d ht;split at h
  ·rename_i l p q hd hx hlo hhi;rw[hd]at hk;obtain⟨i,j,⟨rfl,rfl⟩,⟨h1,h2⟩,h⟩:=h;have hc:=aU hE hx;have hcl:=aU hE hlo;have hch:=aU hE hhi;generalize hv:a.eval x=v at hc;generalize hvl:a.eval lo=vl at hcl;generalize hvh:a.eval hi=vh at hch;cases hc with
   |str hl _=>
    cases hcl with
    |int _=>
     cases hch with
     |int _=>
      refine⟨_,_,h,.str (by rw[List.length_drop,List.length_take];omega) .nl,fun w' _=>?_⟩;have h3:=Gf hk l i j h1 h2;unfold execOp;rw[ho];simp[hv,hvl,hvh,h3]
  ·exact h.elim
 ·exact h.elim
theorem HM(hT:bm P tab)(hE:ER F w.heap ⟨E.B,γ⟩ s.env a)(hW:WR E F γ s.ah w.heap){t:Nat}{x:Operand}{lo hi:Option Operand}(ho:o.op= .slice t x lo hi none)(h:Y1 tab s (.slice t x lo hi none) k):Yd P F ⟨E.B,γ⟩ a w o k:=by
 simp only[Y1]at h;split at h
 ·rename_i d lo' hi' ht hlo hhi;have hk:=hT.kind t d ht;have hlo:=vn hE hlo;have hhi:=vn hE hhi
  have run:∀{p r:Value} {l2 h2:Option Nat},lo'=l2.map (fun a=>((a:Nat):Int))→hi'=h2.map (fun a=>((a:Nat):Int))→a.eval x=p→
    (∀w,(Instr.sliceAt t p (l2.map fun x=>.int .i64 (x:Nat)) (h2.map fun x=>.int .i64 (x:Nat)) none).run P w= .ok r w)→∀w',(execOp a.eval o).run P w'= .ok (.value r) w':=fun{p r l2 h2} e1 e2 hp h1 w'=>by
   have g1:lo.map a.eval=l2.map fun x=>.int .i64 (x:Nat):=by rw[hlo,e1,Option.map_map];rfl
   have g2:hi.map a.eval=h2.map fun x=>.int .i64 (x:Nat):=by rw[hhi,e2,Option.map_map];rfl
   unfold execOp;rw[ho];simp[g1,g2,hp,h1]
  split at h
  ·rename_i hd;rw[hd]at hk;split at h
   ·rename_i l hx;have hc:=aU hE hx;obtain⟨x1,y1,h,h1,h2,l2,h3,e1,e2,e3,e4⟩:=lZ h;generalize hv:a.eval x=v at hc;cases hc with
    |str hl _=>
     refine⟨_,_,h,.str (by rw[List.length_drop,List.length_take];omega) .nl,fun w' _=>run e1 e2 hv (fun w=>?_) w'⟩;have:=Ge hk l l2 h3 (by rw[e3,e4];exact h1) (by rw[e4];exact h2) w;rw[e3,e4]at this;exact this
   ·exact h.elim
  ·rename_i e hd;rw[hd]at hk;split at h
   ·rename_i _ _ de c hde hx;have hc:=aU hE hx;have hz:=hT.size hde;split at h
    ·obtain⟨x1,y1,h,h1,h2,l2,h3,e1,e2,e3,e4⟩:=lZ h;obtain rfl:y1=0:=by omega
     obtain rfl:x1=0:=by omega
     generalize hv:a.eval x=v at hc;cases hc;refine⟨_,_,h,.nil .nl,fun w' _=>run e1 e2 hv (fun w=>?_) w'⟩;have:=oF hk hz none 0 0 l2 h3 (by rw[e3,e4];omega) (by rw[e4];omega) w;rw[e3,e4]at this;simpa using this
    ·rename_i sz α enc l;obtain⟨hsz,h'⟩:=bM h;obtain rfl:=Nat.eq_of_beq_eq_true hsz;obtain⟨x1,y1,h',h1,h2,l2,h3,e1,e2,e3,e4⟩:=lZ h';obtain⟨p,cap,hv,g1,g2⟩:=hc.sv.slice;have g1:l.length≤cap:=g1;rw[hv]at hc;refine⟨_,_,h',hc.cut h1 h2,fun w' _=>run e1 e2 hv (fun w=>?_) w'⟩;have:=oF hk hz p l.length cap l2 h3 (by rw[e3,e4];exact h1) (by rw[e4];omega) w;rw[e3,e4]at this;exact this
    ·rename_i sz α enc l;obtain⟨hsz,h'⟩:=bM h;obtain rfl:=Nat.eq_of_beq_eq_true hsz;obtain⟨x1,y1,h',h1,h2,l2,h3,e1,e2,e3,e4⟩:=lZ h';have hs:SV F w.heap ⟨_,α,enc,l⟩ (a.eval x):=hW.sl hc rfl;obtain⟨p,cap,hv,g1,g2⟩:=hs.slice;have g1:l.length≤cap:=g1;rw[hv]at hc hs;refine⟨_,_,h',RL.wv hs hc h1 h2,fun w' _=>run e1 e2 hv (fun w=>?_) w'⟩;have:=oF hk hz p l.length cap l2 h3 (by rw[e3,e4];exact h1) (by rw[e4];omega) w;rw[e3,e4]at this;exact this
    ·rename_i j;split at h
     ·rename_i L hL;rw[LS.mN]at h;obtain⟨hsz,h'⟩:=bM h;have hsz:=Nat.eq_of_beq_eq_true hsz;obtain⟨x1,y1,h',h1,h2,l2,h3,e1,e2,e3,e4⟩:=lZ h';have hs:SV F w.heap L (a.eval x):=hW.sl hc hL;obtain⟨p,cap,hv,g1,g2⟩:=hs.slice;rw[hv]at hc;cases hc with
      |rw hg hqq _=>
       refine⟨_,_,h',.sw (q:=if cap=x1 then p else p.map (·.add (x1*L.sz))) hg (by omega) (fun e=>by rw[if_neg e,hqq (by omega)]) .nl,fun w' _=>run e1 e2 hv (fun w=>?_) w'⟩;have:=oF hk hz p L.l.length cap l2 h3 (by rw[e3,e4];exact h1) (by rw[e4];omega) w;rw[e3,e4]at this;rw[hsz];exact this
     ·exact h.elim
    ·rename_i sz j l0 n0;split at h
     ·rename_i L hL;obtain⟨hsz,h'⟩:=bM h;obtain rfl:=Nat.eq_of_beq_eq_true hsz;obtain⟨x1,y1,h',h1,h2,l2,h3,e1,e2,e3,e4⟩:=lZ h';have hs:∀v,RL F w.heap ⟨E.B,γ⟩ [.rw j] [v]→SV F w.heap L v:=fun v hv=>hW.sl hv hL;generalize hv:a.eval x=v at hc;cases hc with
      | @sw _ _ _ _ _ p q nn cap _ _ hg hle hq _=>
       obtain⟨p',cap',he,g1,g2⟩:=(hs _ (.rw hg (fun _=>rfl) .nl)).slice;cases he;refine⟨_,_,h',.sw (q:=if cap-l0=x1 then q else q.map (·.add (x1*de.size))) hg (by omega) (fun e=>?_) .nl,fun w' _=>run e1 e2 hv (fun w=>?_) w'⟩
       ·rw[if_neg (by omega)];by_cases q1:cap=l0
        ·obtain rfl:x1=0:=by omega
         omega
        ·rw[hq q1,Nat.add_mul];rcases hs _ (.rw hg (fun _=>rfl) .nl)with⟨p',e5,_⟩|⟨b,off,cap',css,e5,_⟩
         ·simp at e5;omega
         ·simp at e5;obtain⟨rfl,rfl⟩:=e5;simp[Addr.add_lit,Nat.add_assoc]
       ·have:=oF hk hz q n0 (cap-l0) l2 h3 (by rw[e3,e4];exact h1) (by rw[e4];omega) w;rw[e3,e4]at this;rw[this,Nat.sub_sub]
     ·exact h.elim
    ·exact h.elim
   ·exact h.elim
  ·exact h.elim
 ·exact HL hT hE ho h
theorem rT{H:ab}{m:Md}:∀(l:List UInt8) {css:List Value},RL F H m (l.flatMap bA) css→css=l.map bv
 |[],css,h=>by cases h;rfl
 |b::l,css,h=>by
  rw[List.flatMap_cons]at h;cases h with
  |int t=>rw[rT l t];rfl
theorem Hz(hT:bm P tab)(hE:ER F w.heap ⟨E.B,γ⟩ s.env a)(hW:WR E F γ s.ah w.heap){t u:Nat}{x:Operand}(ho:o.op= .convert t u x)(h:Y1 tab s (.convert t u x) k):Yd P F ⟨E.B,γ⟩ a w o k:=by
 simp only[Y1]at h;split at h
 ·rename_i _ _ _ d d' c ht hu hx;have hk:=hT.kind t d ht;have hk':=hT.kind u d' hu;have hc:=aU hE hx;unfold wi at h
  have run:∀{p r:Value} (w':World),a.eval x=p→(convert t u p).run P w'= .ok r w'→(execOp a.eval o).run P w'= .ok (.value r) w':=fun w' hp h1=>by
   unfold execOp;rw[ho];simp[hp,h1]
  split at h
  ·rename_i q1 q2 q3 n h1 h2;rw[h1]at hk;rw[h2]at hk';generalize hv:a.eval x=v at hc;cases hc with
   |int _=>exact⟨_,_,h,.int .nl,fun w' _=>run w' hv (by simp[convert,run_underlying hk,run_underlying hk',Conv.intToInt])⟩
  ·rename_i l h1 h2;rw[h1]at hk;rw[h2]at hk';generalize hv:a.eval x=v at hc;cases hc with
   |str hl _=>exact⟨_,_,h,.str hl .nl,fun w' _=>run w' hv (by simp[convert,run_underlying hk,run_underlying hk',NB.str])⟩
  ·rename_i e h1 h2;rw[h1]at hk;rw[h2]at hk';split at h
   ·rename_i de hde;have hke:=hT.kind e de hde;split at h
    ·rename_i h3;rw[h3]at hke;generalize hv:a.eval x=v at hc;cases hc;refine⟨_,_,h,.str (by simp) .nl,fun w' _=>run w' hv ?_⟩;rw[run_convert_bytes_string w' t u e none 0 0 hk hke hk'];rfl
    ·have h3:de.kind= .int .u8:=by assumption
     rw[h3]at hke;obtain⟨l,hL,h⟩:=h;have hs:=hW.sl hc hL
     refine ⟨_, _, h, .str (by
      rcases hs with⟨p,hv,hl⟩|⟨b,off,cap,css,hv,g1,g2,hr,hz,hcc⟩
      ·have hl:l=[]:=hl;rw[hl];simp
      ·have g1:l.length≤cap:=g1;have g2:cap≤9223372036854775807:=g2;omega) .nl,fun w' hk2=>run w' rfl ?_⟩
     have hk2:ak [] w.heap w'.heap:=hk2.resolve_left (by rw[ho];simp[gE]);rcases hs with⟨p,hv,hl⟩|⟨b,off,cap,css,hv,g1,g2,hr,hz,hcc⟩
     ·rw[hv];have hl:l=[]:=hl;subst hl;rw[run_convert_bytes_string w' t u e _ _ _ hk hke hk'];cases p with
      |none=>rfl
      |some ad=>exact run_bytesToString w' ad 0 0 [] (by simpa using run_loadCells_list (P:=P) (w:=w') ad [] (by simp))
     ·rw[hv];have hcs:css=l.map bv:=rT l hr
      exact run_convert_bytes_back w' t u e ⟨b, off, none⟩ cap l hk hke hk' (fun j hj=>by
       rw[Addr.add_lit,dg rfl];refine fj (hcc j _ ?_) hk2 (by simp);rw[hcs];simp[hj,bv])
    ·exact h.elim
   ·exact h.elim
  ·exact h.elim
 ·exact h.elim
theorem RT.get{H:ab}{m:Md}:∀{ts:List (Bool×List C)} {vs:List Value} {i:Nat} {g:Bool} {cs:List C},RT F H m ts vs→ts[i]? =some (g,cs)→∃us,vs[i]? =some (gV g us)∧RL F H m cs us∧(g=false→cs.length=1)
 |(_,_)::_,v::_,0,g,cs,⟨⟨us,h1,h2,h3⟩,_⟩,hi=>by
  cases hi;exact⟨us,by rw[h2];rfl,h1,h3⟩
 |_::ts,v::vs,i+1,g,cs,⟨_,h⟩,hi=>by
  have:=RT.get (i:=i) h (by simpa using hi);simpa using this
theorem HA(hE:ER F w.heap ⟨E.B,γ⟩ s.env a){x:Operand}{i:Nat}(ho:o.op= .extract x i)(h:Y1 tab s (.extract x i) k):Yd P F ⟨E.B,γ⟩ a w o k:=by
 simp only[Y1]at h;split at h
 ·rename_i ts hx;have hc:=kM hE x;rw[hx]at hc;obtain⟨vs,hv,hr⟩:=hc;split at h
  ·rename_i g cs hi;obtain⟨us,h1,h2,h3⟩:=hr.get hi
   have run:∀w':World,(execOp a.eval o).run P w'= .ok (.value (gV g us)) w':=fun w'=>by
    unfold execOp;rw[ho];simp[hv,Instr.extract,h1]
   rcases iw h with⟨rfl,h⟩|⟨rfl,h⟩
   ·exact⟨_,_,h,⟨us,rfl,h2⟩,fun w' _=>run w'⟩
   ·split at h
    ·obtain⟨v,rfl,h4⟩:=h2.single;exact⟨_,_,h,h4,fun w' _=>run w'⟩
    ·exact h.elim
  ·exact h.elim
 ·exact h.elim
theorem vN{H:ab}{m:Md}(hE:ER F H m s.env a):∀{l:List Operand} {cs:List C},pn s l=some cs→RL F H m cs (l.map a.eval)
 |[],cs,h=>by cases h;exact .nl
 |x::l,cs,h=>by
  unfold pn at h;split at h
  ·rename_i c cs' hx hl;cases h;exact(aU hE hx).cons (vN hE hl)
  ·cases h
theorem HH(hE:ER F w.heap ⟨E.B,γ⟩ s.env a){fn:Fn}{first caps:Array Operand}(ho:o.op= .makeFunc fn first caps)(h:Y1 tab s (.makeFunc fn first caps) k):Yd P F ⟨E.B,γ⟩ a w o k:=by
 cases fn with
 |func f=>
  simp only[Y1]at h;split at h
  ·rename_i cs hf hc;have hf:first= #[]:=by simpa using hf
   refine⟨_,_,h,.fn (vN hE hc) .nl,fun w' _=>?_⟩;unfold execOp;rw[ho];subst hf;simp[Instr.makeFunc];rw[←Array.toList_map]
  ·exact h.elim
 |_=>simp only[Y1]at h
theorem HI(hT:bm P tab)(hE:ER F w.heap ⟨E.B,γ⟩ s.env a){t:Nat}{x:Operand}(ho:o.op= .makeInterface t x)(h:Y1 tab s (.makeInterface t x) k):Yd P F ⟨E.B,γ⟩ a w o k:=by
 simp only[Y1]at h;split at h
 ·rename_i d ht;have hk:=hT.kind t d ht
  have run:∀w':World,(∃ty,P.underlying t=some ty∧∀ms,ty≠.interface ms)→(execOp a.eval o).run P w'= .ok (.value (.iface t (a.eval x))) w':=fun w' ⟨ty,hty,hne⟩=>by
   unfold execOp;rw[ho];cases ty<;>first|(exact(hne _ rfl).elim)|simp[Instr.makeInterface,run_underlying hty]
  have hty:d.kind≠.other→d.kind≠.ifc→∃ty,P.underlying t=some ty∧∀ms,ty≠.interface ms:=fun hne hne2=>by
   revert hk;cases hd:d.kind with
   |other=>exact(hne hd).elim
   |ifc=>exact(hne2 hd).elim
   |struct offs=>rintro⟨fs,h1,_⟩;exact⟨_,h1,fun _ h=>by cases h⟩
   |ptr=>rintro⟨e,h1⟩;exact⟨_,h1,fun _ h=>by cases h⟩
   |_=>intro h1;exact⟨_,h1,fun _ h=>by cases h⟩
  split at h
  ·exact h.elim
  ·exact h.elim
  ·rename_i hne hne2;split at h
   ·rename_i c hx;have hc:=aU hE hx;exact⟨_,_,h,.iface (us:=[a.eval x]) hc .nl,fun w' _=>run w' (hty hne hne2)⟩
   ·rename_i cs hx;obtain⟨vs,hv,hr⟩:=ou hE hx;exact⟨_,_,h,.iface (us:=vs) hr .nl,fun w' _=>by rw[run w' (hty hne hne2),hv];rfl⟩
   ·exact h.elim
 ·exact h.elim
theorem HN(hT:bm P tab)(hE:ER F w.heap ⟨E.B,γ⟩ s.env a){t u:Nat}{x:Operand}(ho:o.op= .typeAssert x u t true)(h:Y1 tab s (.typeAssert x u t true) k):Yd P F ⟨E.B,γ⟩ a w o k:=by
 simp only[Y1]at h;split at h
 ·rename_i d ht;have hk:=hT.kind t d ht
  have hty:d.kind≠.other→d.kind≠.ifc→∃ty,P.underlying t=some ty∧∀ms,ty≠.interface ms:=fun hne hne2=>by
   revert hk;cases hd:d.kind with
   |other=>exact(hne hd).elim
   |ifc=>exact(hne2 hd).elim
   |struct offs=>rintro⟨fs,h1,_⟩;exact⟨_,h1,fun _ h=>by cases h⟩
   |ptr=>rintro⟨e,h1⟩;exact⟨_,h1,fun _ h=>by cases h⟩
   |_=>intro h1;exact⟨_,h1,fun _ h=>by cases h⟩
  split at h
  ·exact h.elim
  ·exact h.elim
  ·rename_i hne hne2;split at h
   ·rename_i t' g cs hx;obtain⟨hb,h2⟩:=bM h;rw[Bool.and_eq_true]at hb;obtain rfl:=Nat.eq_of_beq_eq_true hb.1;have hc:=aU hE hx;generalize hv:a.eval x=v at hc;cases hc with
    | @iface _ _ _ _ us _ _ hr _=>
     obtain⟨ty,hty,hne⟩:=hty hne hne2;refine⟨.tuple #[gV g us,.bool true],.tup [(g,cs),(false,[.bool true])],h2,⟨[gV g us,.bool true],rfl,⟨us,hr,rfl,fun hg=>?_⟩,⟨[.bool true],.bool .nl,rfl,fun _=>rfl⟩,trivial⟩,fun w' _=>?_⟩
     ·have:=hb.2;rw[hg,Bool.false_or]at this;exact Nat.eq_of_beq_eq_true this
     ·unfold execOp;rw[ho];cases ty<;>first|(exact(hne _ rfl).elim)|simp[Instr.typeAssert,run_underlying hty,hv]
   ·exact h.elim
 ·exact h.elim
theorem Hy(hT:bm P tab)(hE:ER F w.heap ⟨E.B,γ⟩ s.env a)(hW:WR E F γ s.ah w.heap){c:Call}(ho:o.op= .call c)(h:Y1 tab s (.call c) k):Yd P F ⟨E.B,γ⟩ a w o k:=by
 obtain⟨cl,args,tys⟩:=c;simp only[Y1]at h;have args_eq:∀{l:List Operand},args.toList=l→args=l.toArray:=fun h=>by rw[←h]
 have tys_eq:∀{l:List TypeId},tys.toList=l→tys=l.toArray:=fun h=>by rw[←h]
 split at h
 ·rename_i x t hargs htys;have hargs:=args_eq hargs;have htys:=tys_eq htys;subst hargs htys;split at h
  ·rename_i d c ht hx;have hk:=hT.kind t d ht;have hc:=aU hE hx;split at h
   ·rename_i l hd;rw[hd]at hk;generalize hv:a.eval x=v at hc;cases hc with
    |str _ _=>
     have e:(⟨l.toArray⟩:ByteArray).size=l.length:=rfl;exact⟨_,_,h,.int .nl,fun w' _=>by unfold execOp;rw[ho];simp[resolve,invoke,builtin,hv,NB.str,Builtin.len_,run_underlying hk,goInt,e]⟩
   ·rename_i e hd;rw[hd]at hk;generalize hv:a.eval x=v at hc;cases hc;exact⟨_,_,h,.int .nl,fun w' _=>by unfold execOp;rw[ho];simp[resolve,invoke,builtin,hv,Builtin.len_,run_underlying hk,goInt]⟩
   ·have h3:∃e,d.kind= .sl e:=⟨_,by assumption⟩;obtain⟨e,hd⟩:=h3;rw[hd]at hk;split at h
    ·rename_i L hL;rw[LS.mN]at h;obtain⟨p,cap,hv,_⟩:=(hW.sl hc hL).slice;exact⟨_,_,h,.int .nl,fun w' _=>by unfold execOp;rw[ho];simp[resolve,invoke,builtin,hv,Builtin.len_,run_underlying hk,goInt]⟩
    ·exact h.elim
   ·exact h.elim
  ·exact h.elim
 ·rename_i x y hargs;have hargs:=args_eq hargs;subst hargs;split at h
  ·rename_i n m' hx hy;have hc:=aU hE hx;have hc':=aU hE hy;generalize hv:a.eval x=v at hc;generalize hv':a.eval y=v' at hc';cases hc;cases hc';refine⟨_,_,h,.int .nl,fun w' _=>?_⟩;unfold execOp;rw[ho];simp[resolve,invoke,builtin,hv,hv',Builtin.max_,Builtin.max2];omega
  ·exact h.elim
 ·rename_i x y hargs;have hargs:=args_eq hargs;subst hargs;split at h
  ·rename_i n m' hx hy;have hc:=aU hE hx;have hc':=aU hE hy;generalize hv:a.eval x=v at hc;generalize hv':a.eval y=v' at hc';cases hc;cases hc';refine⟨_,_,h,.int .nl,fun w' _=>?_⟩;unfold execOp;rw[ho];simp[resolve,invoke,builtin,hv,hv',Builtin.min_,Builtin.min2];omega
  ·exact h.elim
 ·exact h.elim
theorem o4(hT:bm P tab)(hE:ER F w.heap ⟨E.B,γ⟩ s.env a)(hW:WR E F γ s.ah w.heap)(h:Y1 tab s o.op k):Yd P F ⟨E.B,γ⟩ a w o k:=by
 generalize ho:o.op=op at h;cases op with
 |move x=>exact Ag hE (.inl ho) h
 |assign x=>exact Ag hE (.inr ho) h
 |pick c x y=>exact HK hE ho h
 |load t x=>exact HF hT hE hW ho h
 |nilCheck x=>exact HJ hE ho h
 |binOp op t x y u=>exact Hw hT hE hW ho h
 |unOp u t x=>exact HO hE ho h
 |convert t u x=>exact Hz hT hE hW ho h
 |build t parts=>exact Hx hT hE ho h
 |fieldAddr t x i=>exact HC hT hE ho h
 |field t x i=>exact HB hT hE ho h
 |indexAddr t x y=>exact HE hT hE hW ho h
 |index t x y=>exact HD hT hE ho h
 |slice t x lo hi mx=>
  cases mx with
  |none=>exact HM hT hE hW ho h
  |some _=>simp only[Y1]at h
 |extract x i=>exact HA hE ho h
 |makeFunc fn first caps=>exact HH hE ho h
 |makeInterface t x=>exact HI hT hE ho h
 |typeAssert x u t ok=>
  cases ok with
  |true=>exact HN hT hE ho h
  |false=>simp only[Y1]at h
 |call c=>exact Hy hT hE hW ho h
 |_=>simp only[Y1]at h
end
end Go.AM
end
section
namespace Go.AM
open Go Go.NB
def cc(ah:List B)(c:C):List B×C:=
 match c with
 | .rw j=>match ah[j]? with
  |some (.row sz α enc l)=>(ah.set j (.fro sz α enc l),.ls sz α enc l)
  |some (.fro sz α enc l)=>(ah,.ls sz α enc l)
  |_=>(ah,.rw j)
 | .sw sz j lo n=>match ah[j]? with
  |some (.row sz' α enc l)=>bif Nat.beq sz sz' then(ah.set j (.fro sz' α enc l),.ls sz' α enc ((l.drop lo).take n))else(ah,.sw sz j lo n)
  |some (.fro sz' α enc l)=>bif Nat.beq sz sz' then(ah,.ls sz' α enc ((l.drop lo).take n))else(ah,.sw sz j lo n)
  |_=>(ah,.sw sz j lo n)
 |c=>(ah,c)
def fz:List B→List C→List B×List C
 |ah,[]=>(ah,[])
 |ah,c::cs=>match cc ah c with
  |(ah1,c1)=>match fz ah1 cs with
   |(ah2,cs2)=>(ah2,c1::cs2)
def dL:C→Bool
 | .int .. | .bool _| .str _| .raw _| .nil| .ls .. =>true
 |_=>false
def dw:List C→Bool
 |[]=>true
 |c::cs=>dL c&&dw cs
def jI:List B→List (List C)→List B×List (List C)
 |ah,[]=>(ah,[])
 |ah,cs::r=>match fz ah cs with
  |(ah1,cs1)=>match jI ah1 r with
   |(ah2,r2)=>(ah2,cs1::r2)
def qC(s:St):Nat→List (Nat×Operand)→Option (List (List C))
 |_,[]=>some []
 |i,(j,x)::r=>bif Nat.beq i j then match nC (aM s x),qC s (i+1) r with
  |some cs,some r=>some (cs::r)
  |_,_=>none
  else none
def kill(ah:List B):C→List B
 | .rw j| .sw _ j _ _=>ah.set j .dead
 |_=>ah
def pd(ah:List B):C→Option (Option LS)
 | .nil=>some none
 | .rw j=>match ah[j]? with
  |some (.row sz α enc l)=>some (some ⟨sz,α,enc,l⟩)
  |some (.buf _ sz α enc l)=>some (some ⟨sz,α,enc,l⟩)
  |_=>none
 | .sw sz j lo n=>match ah[j]? with
  |some (.row sz' α enc l)=>bif Nat.beq sz sz' then some (some ⟨sz',α,enc,(l.drop lo).take n⟩)else none
  |_=>none
 |_=>none
def qn(ah:List B)(c:C)(e sz:Nat)(α:Type)(enc:α→List C)(l:List α):B:=match c with
 | .rw j=>match ah[j]? with
  |some (.buf t _ _ _ _)=>bif Nat.beq t e then .buf t sz α enc l else .row sz α enc l
  |_=>.row sz α enc l
 |_=>.row sz α enc l
def lN(ah:List B):C→Option (Option LS)
 | .nil=>some none
 | .str l=>some (some ⟨1,UInt8,bA,l⟩)
 |c=>(jw ah c).map some
def pb(de:TD)(o:Option LS)(xs:List de.α):Prop:=match o with
 |none=>xs=[]
 |some L=>L=⟨de.size,de.α,de.enc,xs⟩
def tf(t:Nat):List C→Option Nat
 |[.raw _,.nil,.ptr _ _]=>some t
 |_=>none
theorem DM(t:Nat)(cs:List C):(tf t cs).getD t=t:=by
 unfold tf;split<;>rfl
def qp:C→C
 | .ls sz α enc []=>.nil
 |c=>c
def Y2(tab:Nat→Option TD)(s:St)(op:Op)(k:List B→A→Prop):Prop:=
 match op with
 | .alloc t=>match tab t with
  |some d=>k (s.ah++[.box d.zero]) (.c (.ptr s.ah.length 0))
  |none=>False
 | .box t x=>match nC (aM s x)with
  |some cs=>k (s.ah++[.box cs (tf t cs)]) (.c (.ptr s.ah.length 0))
  |none=>False
 | .buildSlice t n parts=>match tab t with
  |some d=>match d.kind with
   | .sl e=>match tab e,qC s 0 parts.toList with
    |some de,some css=>match jI s.ah css with
     |(ah,css)=>bif Nat.ble 1 de.size&&Nat.beq css.length n&&Nat.ble (n*de.size) 16777216&&css.all (fun cs=>dw cs&&Nat.beq cs.length de.size)then
       ∃xs:List de.α,xs.map de.enc=css∧k (ah++[.row de.size de.α de.enc xs]) (.c (.rw ah.length))else False
    |_,_=>False
   |_=>False
  |none=>False
 | .makeSlice t x y=>match tab t with
  |some d=>match d.kind with
   | .sl e=>match tab e,aM s x,aM s y with
    |some de,.c (.int .i64 p),.c (.int .i64 q)=>bif dw de.zero&&Nat.beq de.zero.length de.size&&Nat.ble 1 de.size&&Nat.ble 1 de.bytes then
      ∃(n:Nat) (z:de.α),(p=(n:Int)∧q=(n:Int))∧(de.enc z).map qp=de.zero∧n*de.bytes≤140737488355328∧k (s.ah++[.row de.size de.α de.enc (List.replicate n z)]) (.c (.rw s.ah.length))else False
    |_,_,_=>False
   |_=>False
  |none=>False
 | .store t x y=>match tab t,aM s x,nC (aM s y)with
  |some d,.c (.ptr j o),some new=>match s.ah[j]? with
   |some (.box cs ty)=>bif Nat.beq new.length d.size&&Nat.ble (o+new.length) cs.length then k (s.ah.set j (.box (cs.take o++new++cs.drop (o+new.length)) ty)) .undef else False
   |_=>False
  |some d,.c (.ep sz j i o),some new=>match fz s.ah new with
   |(ah,new)=>match ah[j]? with
    |some (.row sz' α enc l)=>bif Nat.beq new.length d.size&&Nat.beq sz sz'&&dw new then
      ∃x x':α,l[i]? =some x∧(o+new.length≤sz∧enc x'=(enc x).take o++new++(enc x).drop (o+new.length))∧k (ah.set j (.row sz' α enc (l.set i x'))) .undef else False
    |_=>False
  |_,_,_=>False
 | .convert t u x=>match tab t,tab u,aM s x with
  |some d,some d',.c (.str l)=>match d.kind,d'.kind with
   | .str,.sl e=>match tab e with
    |some de=>match de.kind with
     | .int .u8=>k s.ah (.c (.ls 1 UInt8 bA l))
     |_=>False
    |none=>False
   |_,_=>False
  |some d,some d',.c (.rw j)=>match d.kind,d'.kind with
   | .sl e,.sl e'=>bif Nat.beq e e'&&Nat.beq t u then match tab e with
    |some de=>match de.kind with
     | .int .u8=>match s.ah[j]? with
      |some (.row 1 α enc (y::l))=>k (s.ah.set j (.fro 1 α enc (y::l))) (.c (.ls 1 α enc (y::l)))
      |_=>False
     |_=>False
    |none=>False
    else False
   |_,_=>False
  |_,_,_=>False
 | .call c=>match c.callee,c.args.toList,c.argTypes.toList with
  | .builtin .append,[x,y],[t,t2]=>match tab t,tab t2 with
   |some d,some d2=>match d.kind with
    | .sl e=>match tab e,aM s x,aM s y with
     |some de,.c cx,.c cy=>match pd s.ah cx,lN s.ah cy with
      |some bx,some by_=>bif(match d2.kind with| .sl _=>true| .str=>true|_=>false)&&Nat.ble 1 de.bytes then
        ∃xs ys:List de.α,pb de bx xs∧pb de by_ ys∧(xs.length+ys.length)*de.bytes≤140737488355328∧k (kill s.ah cx++[qn s.ah cx e de.size de.α de.enc (xs++ys)]) (.c (.rw s.ah.length))else False
      |_,_=>False
     |_,_,_=>False
    |_=>False
   |_,_=>False
  | .builtin .clear,[x],[t]=>match tab t with
   |some d=>match d.kind with
    | .sl e=>match tab e,aM s x with
     |some de,.c (.sw sz j lo n)=>match s.ah[j]? with
      |some (.row sz' α enc l)=>bif Nat.beq sz sz'&&(Nat.beq sz de.size&&Nat.ble 1 de.size&&dw de.zero)then
        ∃z:α,enc z=de.zero∧lo+n≤l.length∧k (s.ah.set j (.row sz' α enc (l.take lo++(List.replicate n z++l.drop (lo+n))))) .undef else False
      |_=>False
     |_,_=>False
    |_=>False
   |none=>False
  |_,_,_=>False
 |_=>False
def jJ(s:St):Op→Bool
 | .alloc _| .box .. | .buildSlice .. | .makeSlice .. =>true
 | .convert _ _ x=>match aM s x with
  | .c (.rw _)=>false
  |_=>true
 | .call c=>match c.args.toList with
  |x::_=>match aM s x with
   | .c .nil=>true
   |_=>false
  |_=>false
 |_=>false
def apps:Op→Bool
 | .call c=>match c.callee with
  | .builtin .append=>true
  |_=>false
 |_=>false
def Al(s:St)(γ:List Value)(H H':ab):Prop:=H.size≤H'.size∧∀(j:Nat) (cs:List C) (ty:Option Nat) (v:Value),s.ah[j]? =some (.box cs ty)→γ[j]? =some v→∀q∈ax (.box cs ty) v,H'[q]? =H[q]?
section
variable {P:Program} {tab:Nat→Option TD} {E:En} {F:Nat→Prop} {γ:List Value} {s:St} {a:Act} {w:World} {o:Oper}
structure Step(E:En)(F:Nat→Prop)(γ:List Value)(H:ab)(F':Nat→Prop)(γ':List Value)(ah':List B)(H':ab):Prop where
 wr:WR E F' γ' ah' H'
 ext:Ext F H ⟨E.B,γ⟩ F' H' ⟨E.B,γ'⟩
def Dn(P:Program)(s:St)(E:En)(F:Nat→Prop)(γ:List Value)(a:Act)(w:World)(o:Oper)(k:List B→A→Prop):Prop:=
 ∃nx v w' ah' x F' γ',((nx= .value v∨(nx=Next.skip∧v=undef))∧(execOp a.eval o).run P w= .ok nx w')∧bd w w'∧k ah' x∧Step E F γ w.heap F' γ' ah' w'.heap∧RA F' w'.heap ⟨E.B,γ'⟩ x v∧(jJ s o.op=true→ak [] w.heap w'.heap)∧(apps o.op=true→Al s γ w.heap w'.heap)
theorem r7{H:ab}{m m':Md}{cs:List C}{vs:List Value}(h:RL F H m cs vs)(hc:dw cs=true):RL F H m' cs vs:=by
 induction h with
 |nl=>exact .nl
 |int _ ih=>simp[dw,dL]at hc;exact .int (ih hc)
 |bool _ ih=>simp[dw,dL]at hc;exact .bool (ih hc)
 |str h _ ih=>simp[dw,dL]at hc;exact .str h (ih hc)
 |raw h _ ih=>simp[dw,dL]at hc;exact .raw h (ih hc)
 |nil _ ih=>simp[dw,dL]at hc;exact .nil (ih hc)
 |ls0 _ ih=>simp[dw,dL]at hc;exact .ls0 (ih hc)
 |ls hb h1 h2 hr hz hcc _ _ ih=>simp[dw,dL]at hc;exact .ls hb h1 h2 hr hz hcc (ih hc)
 |_=>simp[dw,dL]at hc
theorem RL.ud{H:ab}{m:Md}{sz:Nat}{α:Type}{enc:α→List C}{l:List α}{p q:Option Addr}{n cap:Nat}(h:RL F H m [.ls sz α enc l] [.slice p n cap])(hq:cap≠0→q=p):RL F H m [.ls sz α enc l] [.slice q n cap]:=by
 by_cases e:cap=0
 ·obtain⟨p',cap',e',h1,_⟩:=h.sv.slice;cases e';have h1:l.length≤cap:=h1;have:l=[]:=List.eq_nil_of_length_eq_zero (by omega);subst this;rw[e];exact .ls0 .nl
 ·rw[hq e];exact h
theorem xe{H:ab}{ah:List B}{c:C}{v:Value}(hW:WR E F γ ah H)(h:RL F H ⟨E.B,γ⟩ [c] [v]):∃F',(∀k,F k→F' k)∧WR E F' γ (cc ah c).1 H∧RL F' H ⟨E.B,γ⟩ [(cc ah c).2] [v]∧(cc ah c).1.length=ah.length:=by
 have same:∃F',(∀k,F k→F' k)∧WR E F' γ ah H∧RL F' H ⟨E.B,γ⟩ [c] [v]∧ah.length=ah.length:=⟨F,fun _ h=>h,hW,h,rfl⟩;cases c with
 |rw j=>
  cases h with
  |rw hg hqq _=>
   cases hb:ah[j]? with
   |none=>rw[show cc ah (.rw j)=(ah,.rw j)by simp[cc,hb]];exact same
   |some b=>
    cases b with
    |row sz α enc l=>
     obtain⟨F',h1,h2,h3⟩:=hW.freeze hb;rw[show cc ah (.rw j)=(ah.set j (.fro sz α enc l),.ls sz α enc l)by simp[cc,hb]];exact⟨F',h1,h2,((h3 _ hg).up).ud hqq,by simp⟩
    |fro sz α enc l=>
     rw[show cc ah (.rw j)=(ah,.ls sz α enc l)by simp[cc,hb]];exact⟨F,fun _ h=>h,hW,(RL.up (hW.br _ _ _ hb hg)).ud hqq,rfl⟩
    |box cs ty=>rw[show cc ah (.rw j)=(ah,.rw j)by simp[cc,hb]];exact same
    |dead=>rw[show cc ah (.rw j)=(ah,.rw j)by simp[cc,hb]];exact same
    |buf=>rw[show cc ah (.rw j)=(ah,.rw j)by simp[cc,hb]];exact same
 |sw sz j lo n=>
  have cut:∀{F':Nat→Prop} {α:Type} {enc:α→List C} {l:List α} {p q:Option Addr} {n0 cap:Nat},lo+n≤n0→(cap≠lo→q=p.map (·.add (lo*sz)))→RL F' H m0 [.ls sz α enc l] [.slice p n0 cap]→RL F' H ⟨E.B,γ⟩ [.ls sz α enc ((l.drop lo).take n)] [.slice q n (cap-lo)]:=fun{F' α enc l p q n0 cap} hle hq hr=>by
   have hn:n0=l.length:=by
    obtain⟨p',cap',e,_⟩:=hr.sv.slice;cases e;rfl
   by_cases e:cap=lo
   ·obtain⟨p',cap',e',h1,_⟩:=hr.sv.slice;cases e';have h1:l.length≤cap:=h1;obtain rfl:n=0:=by omega
    rw[List.take_zero,e,Nat.sub_self];exact .ls0 .nl
   ·have:=(hr.up (m:=⟨E.B,γ⟩)).cut (x:=lo) (y:=lo+n) (by omega) (by omega);simp only[fA,if_neg e]at this;rw[hq e];rw[show lo+n-lo=n by omega]at this;exact this
  cases h with
  |sw hg hle hq _=>
   cases hb:ah[j]? with
   |none=>rw[show cc ah (.sw sz j lo n)=(ah,.sw sz j lo n)by simp[cc,hb]];exact same
   |some b=>
    cases b with
    |row sz' α enc l=>
     by_cases hz:Nat.beq sz sz'=true
     ·obtain rfl:=Nat.eq_of_beq_eq_true hz;obtain⟨F',h1,h2,h3⟩:=hW.freeze hb;rw[show cc ah (.sw sz j lo n)=(ah.set j (.fro sz α enc l),.ls sz α enc ((l.drop lo).take n))by simp only[cc,hb,hz,cond_true]];exact⟨F',h1,h2,cut hle hq (h3 _ hg),by simp⟩
     ·rw[Bool.not_eq_true]at hz;rw[show cc ah (.sw sz j lo n)=(ah,.sw sz j lo n)by simp only[cc,hb,hz,cond_false]];exact same
    |fro sz' α enc l=>
     by_cases hz:Nat.beq sz sz'=true
     ·obtain rfl:=Nat.eq_of_beq_eq_true hz;rw[show cc ah (.sw sz j lo n)=(ah,.ls sz α enc ((l.drop lo).take n))by simp only[cc,hb,hz,cond_true]];exact⟨F,fun _ h=>h,hW,cut hle hq (hW.br _ _ _ hb hg),rfl⟩
     ·rw[Bool.not_eq_true]at hz;rw[show cc ah (.sw sz j lo n)=(ah,.sw sz j lo n)by simp only[cc,hb,hz,cond_false]];exact same
    |box cs ty=>rw[show cc ah (.sw sz j lo n)=(ah,.sw sz j lo n)by simp[cc,hb]];exact same
    |dead=>rw[show cc ah (.sw sz j lo n)=(ah,.sw sz j lo n)by simp[cc,hb]];exact same
    |buf=>rw[show cc ah (.sw sz j lo n)=(ah,.sw sz j lo n)by simp[cc,hb]];exact same
 |_=>exact same
theorem kt{F F':Nat→Prop}{H:ab}{m:Md}(h:∀k,F k→F' k):Ext F H m F' H m:=⟨h,fun _ _ _ _ h=>h,fun _ h=>h,fun _ _ h=>h⟩
theorem sI{H:ab}:∀{cs:List C} {vs:List Value} {F:Nat→Prop} {ah:List B},WR E F γ ah H→RL F H ⟨E.B,γ⟩ cs vs→∃F',(∀k,F k→F' k)∧WR E F' γ (fz ah cs).1 H∧RL F' H ⟨E.B,γ⟩ (fz ah cs).2 vs∧(fz ah cs).1.length=ah.length
 |[],vs,F,ah,hW,h=>⟨F,fun _ h=>h,hW,by cases h;exact .nl,rfl⟩
 |c::cs,vs,F,ah,hW,h=>by
  obtain⟨v,us,rfl,h1,h2⟩:=h.ic;obtain⟨F1,a1,a2,a3,a4⟩:=xe hW h1;obtain⟨F2,b1,b2,b3,b4⟩:=sI a2 (h2.ext (kt a1));refine⟨F2,fun k hk=>b1 k (a1 k hk),?_,?_,?_⟩
  ·unfold fz;exact b2
  ·unfold fz;exact(a3.ext (kt b1)).cons b3
  ·unfold fz;exact b4.trans a4
inductive gn(F:Nat→Prop)(H:ab)(m:Md):List (List C)→List (List Value)→Prop
 |nil:gn F H m [] []
 |cons {cs vs css vss}:RL F H m cs vs→gn F H m css vss→gn F H m (cs::css) (vs::vss)
theorem gn.ext{F F':Nat→Prop}{H H':ab}{m m':Md}(e:Ext F H m F' H' m'){css:List (List C)}{vss:List (List Value)}(h:gn F H m css vss):gn F' H' m' css vss:=by
 induction h with
 |nil=>exact .nil
 |cons h _ ih=>exact .cons (h.ext e) ih
theorem xf{H:ab}:∀{css:List (List C)} {vss:List (List Value)} {F:Nat→Prop} {ah:List B},WR E F γ ah H→gn F H ⟨E.B,γ⟩ css vss→∃F',(∀k,F k→F' k)∧WR E F' γ (jI ah css).1 H∧gn F' H ⟨E.B,γ⟩ (jI ah css).2 vss∧(jI ah css).1.length=ah.length
 |[],vss,F,ah,hW,h=>⟨F,fun _ h=>h,hW,by cases h;exact .nil,rfl⟩
 |cs::css,_,F,ah,hW,.cons (vs:=vs) (vss:=vss) h1 h2=>by
  obtain⟨F1,a1,a2,a3,a4⟩:=sI hW h1;obtain⟨F2,b1,b2,b3,b4⟩:=xf a2 (h2.ext (kt a1));refine⟨F2,fun k hk=>b1 k (a1 k hk),?_,?_,?_⟩
  ·unfold jI;exact b2
  ·unfold jI;exact .cons (a3.ext (kt b1)) b3
  ·unfold jI;exact b4.trans a4
end
end Go.AM
end
section
namespace Go.AM
open Go Go.NB
section
variable {P:Program} {tab:Nat→Option TD} {E:En} {F:Nat→Prop} {γ:List Value} {s:St} {a:Act} {w:World} {o:Oper} {k:List B→A→Prop}
theorem qS{ah:List B}(hW:WR E F γ ah w.heap){ob:Obj}{b:B}{g:Value}(ho:∀k∈ax b g,w.heap.size≤k)(hb:BR F (w.heap.push ob) ⟨E.B,γ++[g]⟩ b g):
  Step E F γ w.heap F (γ++[g]) (ah++[b]) (w.heap.push ob):=
 ⟨hW.push (ak.push [] _ _) ho hb,hW.ext (W:=[]) (fun k hk=>by cases hk) (ak.push [] _ _) [g]⟩
theorem Step.aZ{ah:List B}{H H':ab}{F F1 F':Nat→Prop}{γ':List Value}(h1:∀k,F k→F1 k)(h:Step E F1 γ H F' γ' ah H'):Step E F γ H F' γ' ah H':=
 ⟨h.wr,⟨fun k hk=>h.ext.f k (h1 k hk),fun b o u hb hc=>h.ext.h b o u (hb.imp (h1 b) id) hc,h.ext.b,h.ext.g⟩⟩
theorem getLast_append{α:Type _}{l:List α}{x:α}{n:Nat}(h:n=l.length):(l++[x])[n]? =some x:=by subst h;simp
theorem BC(hT:bm P tab)(hW:WR E F γ s.ah w.heap){t:Nat}(ho:o.op= .alloc t)(h:Y2 tab s (.alloc t) k):Dn P s E F γ a w o k:=by
 simp only[Y2]at h;split at h
 ·rename_i d ht;obtain⟨z,zs,hz,hzs,hr⟩:=hT.zero ht;refine⟨_,.pointer (some ⟨w.heap.size,0,none⟩),{w with heap:=w.heap.push (.cells zs.toArray t (0,0))},_,_,F,γ++[.pointer (some ⟨w.heap.size,0,none⟩)],⟨.inl rfl,?_⟩,bd.of rfl rfl rfl,h,qS hW (fun k hk=>by simp[ax]at hk;omega) ⟨_,t,zs,rfl,by simp,hr _ _ _⟩,?_,fun _=>ak.push _ _ _,fun ha=>by rw[ho]at ha;cases ha⟩
  ·unfold execOp;rw[ho];simp[Instr.alloc,hz,newVar,newRow,hzs]
  ·exact .ptr (getLast_append hW.len.symm) .nl
 ·exact h.elim
theorem BE(hE:ER F w.heap ⟨E.B,γ⟩ s.env a)(hW:WR E F γ s.ah w.heap){t:Nat}{x:Operand}(ho:o.op= .box t x)(h:Y2 tab s (.box t x) k):Dn P s E F γ a w o k:=by
 simp only[Y2]at h;split at h
 ·rename_i cs hx;obtain⟨vs,hv,hr⟩:=ot hE hx;have e:=hW.ext (W:=[]) (fun k hk=>by cases hk) (ak.push [] w.heap (.cells vs.toArray t (0,0))) [.pointer (some ⟨w.heap.size,0,none⟩)];refine⟨_,.pointer (some ⟨w.heap.size,0,none⟩),{w with heap:=w.heap.push (.cells vs.toArray t (0,0))},_,_,F,γ++[.pointer (some ⟨w.heap.size,0,none⟩)],⟨.inl rfl,?_⟩,bd.of rfl rfl rfl,h,qS hW (fun k hk=>by simp[ax]at hk;omega) ⟨_,t,vs,rfl,by simp[DM],hr.ext e⟩,?_,fun _=>ak.push _ _ _,fun ha=>by rw[ho]at ha;cases ha⟩
  ·unfold execOp;rw[ho];simp[Instr.box,newVar,newRow,hv]
  ·exact .ptr (getLast_append hW.len.symm) .nl
 ·exact h.elim
theorem yM{H:ab}{m:Md}(hE:ER F H m s.env a):∀{l:List (Nat×Operand)} {i:Nat} {css:List (List C)},qC s i l=some css→
  ∃vs:List Value,l.map (fun p=>(p.1,a.eval p.2))=(vs.zipIdx i).map (fun x=>(x.2,x.1))∧gn F H m css (vs.map fun v=>v.cells.toList)
 |[],i,css,h=>by cases h;exact⟨[],rfl,.nil⟩
 |(j,x)::l,i,css,h=>by
  unfold qC at h;by_cases hij:Nat.beq i j=true
  ·rw[hij]at h;obtain rfl:=Nat.eq_of_beq_eq_true hij;simp only[cond_true]at h;split at h
   ·rename_i cs r hx hr;cases h;obtain⟨vs,h1,h2⟩:=yM hE hr;obtain⟨us,h3,h4⟩:=ot hE hx;refine⟨a.eval x::vs,by simp[h1],?_⟩;rw[List.map_cons];exact .cons (by rw[h3];exact h4) h2
   ·cases h
  ·rw[Bool.not_eq_true]at hij;rw[hij]at h;cases h
theorem gn.flat{H:ab}{m:Md}{css:List (List C)}{vss:List (List Value)}(h:gn F H m css vss):RL F H m css.flatten vss.flatten:=by
 induction h with
 |nil=>exact .nl
 |cons h1 _ ih=>simp only[List.flatten_cons];exact h1.append ih
theorem gn.len{H:ab}{m:Md}{css:List (List C)}{vss:List (List Value)}(h:gn F H m css vss):css.length=vss.length∧∀(i:Nat) (cs:List C) (vs:List Value),css[i]? =some cs→vss[i]? =some vs→cs.length=vs.length:=by
 induction h with
 |nil=>exact⟨rfl,fun i cs vs h=>by simp at h⟩
 |cons h1 _ ih=>
  refine⟨by simp[ih.1],fun i cs vs hc hv=>?_⟩;cases i with
  |zero=>cases hc;cases hv;exact h1.length
  |succ i=>exact ih.2 i cs vs (by simpa using hc) (by simpa using hv)
theorem F7{t e n size:Nat}{parts:Array (Nat×Value)}{vs:List Value}{z:Value}(ht:P.underlying t=some (.slice e))(hz:∀w,(sizeOf e).run P w= .ok size w)(hzero:∀w,(zeroValue e).run P w= .ok z w)
  (hp:parts.toList=(vs.zipIdx 0).map (fun x=>(x.2,x.1)))(hn:vs.length=n)(hsm:n*size≤16777216)(hv:∀v∈vs,v.cells.size=size)(w:World):
  (Instr.buildSlice t n parts).run P w= .ok (.slice (some ⟨w.heap.size,0,none⟩) n n) {w with heap:=w.heap.push (.cells (vs.map fun v=>v.cells.toList).flatten.toArray e (0,0))}:=by
 have hbig:¬16777216<n*size:=by omega
 have hfill:=fun(cur:Array Value) (hc:cur.size=n*size)=>sD size vs 0 cur hv (by rw[hc];simp[hn]);by_cases h0:n*size=0
 ·have:=hfill (Array.map (fun _=>default) (Array.range 0)) (by simp[h0]);rw[←hp]at this;simp[Instr.buildSlice,run_underlying ht,hz,h0,newRow];simp at this;rw[this];have e0:(Array.map (fun _=>(default:Value)) (Array.range 0)).toList=[]:=by rw[Array.range_zero'];simp
  simp
 ·have:=hfill ((Array.range (n*size)).map (fun x=>z.cells[x%z.cells.size]!)) (by simp);rw[←hp]at this;simp[Instr.buildSlice,run_underlying ht,hz,hbig,h0,hzero,newRow];simp at this;rw[this];simp only[hn];rw[List.drop_eq_nil_of_le (by simp),List.append_nil];rfl
theorem wF{α:Type}{enc:α→List C}{xs:List α}:(xs.map enc).flatten=xs.flatMap enc:=by
 rw[List.flatMap_def]
theorem vU:∀{a b:List C},dw a=true→dw b=true→dw (a++b)=true
 |[],b,_,hb=>hb
 |c::a,b,ha,hb=>by
  simp only[dw,List.cons_append,Bool.and_eq_true]at ha⊢;exact⟨ha.1,vU ha.2 hb⟩
theorem vV:∀{css:List (List C)},(∀cs∈css,dw cs=true)→dw css.flatten=true
 |[],_=>rfl
 |cs::r,h=>vU (h cs (by simp)) (vV fun x hx=>h x (by simp[hx]))
theorem BF(hT:bm P tab)(hE:ER F w.heap ⟨E.B,γ⟩ s.env a)(hW:WR E F γ s.ah w.heap){t n:Nat}{parts:Array (Nat×Operand)}(ho:o.op= .buildSlice t n parts)(h:Y2 tab s (.buildSlice t n parts) k):Dn P s E F γ a w o k:=by
 simp only[Y2]at h;split at h
 ·rename_i d ht;have hk:=hT.kind t d ht;split at h
  ·rename_i e hd;rw[hd]at hk;split at h
   ·rename_i _ _ de css hde hp;obtain⟨vs,hvs,hr⟩:=yM hE hp;obtain⟨F1,hF1,hW1,hr1,hl1⟩:=xf hW hr;generalize hfz:jI s.ah css=fr at h hW1 hr1 hl1;obtain⟨ah1,css1⟩:=fr;simp only[]at h hW1 hr1 hl1;obtain⟨hc,xs,hxs,h⟩:=bM h;simp only[Bool.and_eq_true,List.all_eq_true]at hc;obtain⟨⟨⟨hc0,hc1⟩,hc2⟩,hc3⟩:=hc;have hc0:=Nat.le_of_ble_eq_true hc0;have hc1:=Nat.eq_of_beq_eq_true hc1;have hc2:=Nat.le_of_ble_eq_true hc2;have hsz:=hT.size hde;obtain⟨z,zs,hz,_,_⟩:=hT.zero hde;have hlen:=hr1.len;have hvl:vs.length=n:=by have:=hlen.1;rw[List.length_map]at this;omega
    have hvc:∀v∈vs,v.cells.size=de.size:=fun v hv=>by
     obtain⟨i,hi,rfl⟩:=List.getElem_of_mem hv;have hi':i<css1.length:=by rw[hc1];omega
     have h1:=hlen.2 i css1[i] (vs[i].cells.toList) (List.getElem?_eq_getElem hi') (by simp[List.getElem?_eq_getElem hi]);have h2:=Nat.eq_of_beq_eq_true (hc3 _ (List.getElem_mem hi')).2;rw[h2]at h1;simpa using h1.symm
    have hcl:dw (xs.flatMap de.enc)=true:=by
     rw[←wF,hxs];exact vV fun cs hcs=>(hc3 cs hcs).1
    have hflat:RL F1 w.heap m0 (xs.flatMap de.enc) (vs.map fun v=>v.cells.toList).flatten:=by
     have:=hr1.flat;rw[←hxs,wF]at this;exact r7 this hcl
    have hxl:xs.length=n:=by rw[←hc1,←hxs,List.length_map]
    have hne:∀x∈xs,(de.enc x).length=de.size:=fun x hx=>by
     have:=(hc3 (de.enc x) (by rw[←hxs];exact List.mem_map.2 ⟨x,hx,rfl⟩)).2;exact Nat.eq_of_beq_eq_true this
    have hfl:=hflat.length;rw[gT hne,hxl]at hfl
    have hnm:n≤maxLen:=by
     have:n*1≤n*de.size:=Nat.mul_le_mul_left _ hc0;unfold maxLen;omega
    have hpl:(parts.map fun x=>match x with|(i,x)=>(i,a.eval x)).toList=(vs.zipIdx 0).map (fun x=>(x.2,x.1)):=by
     rw[Array.toList_map];exact hvs
    have hrun:=F7 hk hsz hz hpl hvl hc2 hvc w;generalize (vs.map fun v=>v.cells.toList).flatten=ws at hrun hflat hfl;have ex:=hW1.ext (W:=[]) (fun k hk=>by cases hk) (ak.push [] w.heap (.cells ws.toArray e (0,0))) [.slice (some ⟨w.heap.size,0,none⟩) n n]
    have hbr:BR F1 (w.heap.push (.cells ws.toArray e (0,0))) ⟨E.B,γ++[.slice (some ⟨w.heap.size,0,none⟩) n n]⟩ (.row de.size de.α de.enc xs) (.slice (some ⟨w.heap.size,0,none⟩) n n):=by
     cases n with
     |zero=>exact .inl ⟨_,rfl,List.eq_nil_of_length_eq_zero hxl⟩
     |succ n=>
     refine .inr ⟨w.heap.size,0,n,ws.toArray,e,ws,by rw[hxl],by simp,by omega,hnm,?_,hflat.ext ex.m0,hne,?_⟩
     ·rw[Nat.zero_add,hfl];exact Nat.le_refl _
     ·show(ws.drop 0).take ws.length=ws;rw[List.drop_zero,List.take_length]
    refine ⟨_,.slice (some ⟨w.heap.size,0,none⟩) n n,{w with heap:=w.heap.push (.cells ws.toArray e (0,0))},_,_,F1,γ++[.slice (some ⟨w.heap.size,0,none⟩) n n],⟨.inl rfl,?_⟩,bd.of rfl rfl rfl,h,
     Step.aZ hF1 (qS hW1 (fun k hk=>by cases n<;>simp[ax]at hk;omega) hbr),?_,fun _=>ak.push _ _ _,fun ha=>by rw[ho]at ha;cases ha⟩
    ·unfold execOp;rw[ho];simp[hrun]
    ·exact .rw (getLast_append (by rw[hl1];exact hW.len.symm)) (fun _=>rfl) .nl
   ·exact h.elim
  ·exact h.elim
 ·exact h.elim
theorem Aj{zs:List Value}{size:Nat}(hzl:zs.length=size)(hpos:0<size)(n:Nat):
  ((Array.range (n*size)).map (fun j=>zs.toArray[j%zs.toArray.size]!)).toList=(List.replicate n zs).flatten:=by
 have key:∀(n j:Nat) (h:j<n*size),((List.replicate n zs).flatten)[j]? =zs[j%size]? :=by
  intro n;induction n with
  |zero=>intro j h;simp at h
  |succ n ih=>
   intro j h;rw[List.replicate_succ,List.flatten_cons];by_cases hjl:j<zs.length
   ·rw[List.getElem?_append_left hjl,Nat.mod_eq_of_lt (by omega)]
   ·rw[List.getElem?_append_right (by omega),hzl,ih _ (by rw[Nat.succ_mul]at h;omega)];congr 1
    rw[Nat.mod_eq_sub_mod (show j≥size by omega)]
 refine List.ext_getElem? fun j=>?_;by_cases hj:j<n*size
 ·have hm:j%size<zs.length:=by rw[hzl];exact Nat.mod_lt _ hpos
  rw[key n j hj,List.getElem?_eq_getElem hm];simp[hj,hzl];rw[List.getElem?_eq_getElem hm];rfl
 ·rw[List.getElem?_eq_none (by simp;omega),List.getElem?_eq_none (by simp[hzl];omega)]
theorem run_makeSlice{t e:TypeId}{i:TypeInfo}{z:Value}{size n:Nat}{zs:List Value}(ht:P.underlying t=some (.slice e))(hi:∀w,(typeInfo e).run P w= .ok i w)(hsz:i.size=size)(hz:i.zero=some z)(hzs:z.cells=zs.toArray)(hzl:zs.length=size)(hpos:0<size)
  (hfit:(n:Int)*i.bytes≤140737488355328)(hsm:(n:Int)≤9223372036854775807)(w:World):
  (Instr.makeSlice t (.int .i64 n) (.int .i64 n)).run P w= .ok (.slice (some ⟨w.heap.size,0,none⟩) n n) {w with heap:=w.heap.push (.cells (List.replicate n zs).flatten.toArray e (0,0))}:=by
 have hsizeOf:∀w,(sizeOf e).run P w= .ok size w:=fun w=>by simp[sizeOf,hi,hsz]
 have hzero:∀w,(zeroValue e).run P w= .ok z w:=fun w=>by simp[zeroValue,hi,hz]
 have hwrap:IntKind.i64.wrap (n:Int)=n:=IntWalk.i64_in _ (by omega);have h1:¬(n:Int)<0:=by omega
 have h2:¬(281474976710656:Int)<i.bytes*n:=by rw[Int.mul_comm];omega
 by_cases h0:n*size=0
 ·have hn0:n=0:=by rcases Nat.mul_eq_zero.1 h0 with h|h<;>omega
  have hw0:IntKind.i64.wrap 0=0:=IntWalk.i64_in _ (by omega);subst hn0;simp[Instr.makeSlice,run_underlying ht,Go.asInt,asIntOf,hi,hw0,hsizeOf,newRow];rw[Array.range_zero'];simp
 ·have:=Aj hzl hpos n;simp[Instr.makeSlice,run_underlying ht,Go.asInt,asIntOf,hi,hwrap,h1,h2,hsizeOf,h0,hzero,newRow];rw[←this,Array.toArray_toList,hzs]
theorem uj{α:Type}{enc:α→List C}{z:α}{zs:List Value}{F:Nat→Prop}{H:ab}{m:Md}(h:RL F H m (enc z) zs):∀n,RL F H m ((List.replicate n z).flatMap enc) (List.replicate n zs).flatten
 |0=>.nl
 |n+1=>by rw[List.replicate_succ,List.flatMap_cons,List.replicate_succ,List.flatten_cons];exact h.append (uj h n)
theorem RL.yD{F:Nat→Prop}{H:ab}{m:Md}:∀{cs:List C} {vs:List Value},RL F H m (cs.map qp) vs→RL F H m cs vs
 |[],vs,h=>h
 |c::cs,vs,h=>by
  rw[List.map_cons]at h;obtain⟨v,us,rfl,h1,h2⟩:=h.ic;refine RL.cons ?_ (RL.yD h2);unfold qp at h1;split at h1
  ·cases h1 with
   |nil t=>cases t;exact .ls0 .nl
  ·exact h1
theorem BJ(hT:bm P tab)(hE:ER F w.heap ⟨E.B,γ⟩ s.env a)(hW:WR E F γ s.ah w.heap){t:Nat}{x y:Operand}(ho:o.op= .makeSlice t x y)(h:Y2 tab s (.makeSlice t x y) k):Dn P s E F γ a w o k:=by
 simp only[Y2]at h;split at h
 ·rename_i d ht;have hk:=hT.kind t d ht;split at h
  ·rename_i e hd;rw[hd]at hk;split at h
   ·rename_i _ _ _ de p q hde hx hy;obtain⟨hc,n,z,⟨rfl,rfl⟩,hez,hfit,h⟩:=bM h;simp only[Bool.and_eq_true]at hc;obtain⟨⟨⟨hc1,hc2⟩,hc3⟩,hc4⟩:=hc;have hc2:=Nat.eq_of_beq_eq_true hc2;have hc3:=Nat.le_of_ble_eq_true hc3;have hc4:=Nat.le_of_ble_eq_true hc4;obtain⟨i,zv,zs,hi,hsz,hby,hz,hzs,hr⟩:=hT.info e de hde;have hzl:zs.length=de.size:=by rw[←(hr F w.heap m0).length];exact hc2
    have hvx:=aU hE hx;have hvy:=aU hE hy;generalize hv:a.eval x=v at hvx;generalize hv':a.eval y=v' at hvy;cases hvx;cases hvy;have hib:(n:Int)*i.bytes≤140737488355328:=by rw[hby,←Int.natCast_mul];omega
    have hnb:n≤n*de.bytes:=Nat.le_mul_of_pos_right _ hc4;have hnm:n≤maxLen:=by unfold maxLen;omega
    have hrun:=run_makeSlice (P:=P) (n:=n) hk hi hsz hz hzs hzl hc3 hib (by omega) w;have hflat:RL F w.heap m0 ((List.replicate n z).flatMap de.enc) (List.replicate n zs).flatten:=uj (RL.yD (by rw[hez];exact hr _ _ _)) n;have hne:∀x∈List.replicate n z,(de.enc x).length=de.size:=fun x hx=>by rw[(List.mem_replicate.1 hx).2,←List.length_map (as:=de.enc z) qp,hez];exact hc2
    have hfl:=hflat.length;rw[gT hne,List.length_replicate]at hfl;generalize (List.replicate n zs).flatten=ws at hrun hflat hfl;have ex:=hW.ext (W:=[]) (fun k hk=>by cases hk) (ak.push [] w.heap (.cells ws.toArray e (0,0))) [.slice (some ⟨w.heap.size,0,none⟩) n n]
    have hbr:BR F (w.heap.push (.cells ws.toArray e (0,0))) ⟨E.B,γ++[.slice (some ⟨w.heap.size,0,none⟩) n n]⟩ (.row de.size de.α de.enc (List.replicate n z)) (.slice (some ⟨w.heap.size,0,none⟩) n n):=by
     cases n with
     |zero=>exact .inl ⟨_,rfl,rfl⟩
     |succ n=>
     refine .inr ⟨w.heap.size,0,n,ws.toArray,e,ws,by rw[List.length_replicate],by simp,by simp,hnm,?_,hflat.ext ex.m0,hne,?_⟩
     ·rw[Nat.zero_add,hfl];exact Nat.le_refl _
     ·show(ws.drop 0).take ws.length=ws;rw[List.drop_zero,List.take_length]
    refine ⟨_,.slice (some ⟨w.heap.size,0,none⟩) n n,{w with heap:=w.heap.push (.cells ws.toArray e (0,0))},_,_,F,γ++[.slice (some ⟨w.heap.size,0,none⟩) n n],⟨.inl rfl,?_⟩,bd.of rfl rfl rfl,h,
     qS hW (fun k hk=>by cases n<;>simp[ax]at hk;omega) hbr,?_,fun _=>ak.push _ _ _,fun ha=>by rw[ho]at ha;cases ha⟩
    ·unfold execOp;rw[ho];simp[hv,hv',hrun]
    ·exact .rw (getLast_append hW.len.symm) (fun _=>rfl) .nl
   ·exact h.elim
  ·exact h.elim
 ·exact h.elim
end
end Go.AM
end
section
namespace Go.AM
open Go Go.NB
section
variable {P:Program} {tab:Nat→Option TD} {E:En} {F:Nat→Prop} {γ:List Value} {s:St} {a:Act} {w:World} {o:Oper} {k:List B→A→Prop}
theorem run_store{t:TypeId}{x y:Operand}{g off:Nat}{us:List Value}{cur:Array Value}{e:TypeId}(ho:o.op= .store t x y)(hx:a.eval x= .pointer (some ⟨g,off,none⟩))(hy:(a.eval y).cells=us.toArray)
  (hz:∀w,(sizeOf t).run P w= .ok us.length w)(hone:∀u∈us,u.oneCell'=true)(hg:w.heap[g]? =some (.cells cur e (0,0)))(hfit:off+us.length≤cur.size):
  (execOp a.eval o).run P w= .ok .skip (w.setRow g (cur.toList.take off++us++cur.toList.drop (off+us.length)).toArray):=by
 have hs:=run_storeCells_at P g off e us 0 cur w hg (by simpa using hfit) hone;simp only[Nat.add_zero]at hs;unfold execOp;rw[ho];simp[hx,Instr.storeAt,Instr.sureAddr,storeVar,hy,hz,hs]
theorem FX{α:Type}{enc:α→List C}{l:List α}{i sz o:Nat}{x x':α}{new:List C}{css us:List Value}{cur:List Value}{off:Nat}{F:Nat→Prop}{H:ab}{m:Md}
  (hr:RL F H m (l.flatMap enc) css)(hz:∀x∈l,(enc x).length=sz)(hi:l[i]? =some x)(ho:o+new.length≤sz)(he:enc x'=(enc x).take o++new++(enc x).drop (o+new.length))(hu:RL F H m new us)
  (hc:(cur.drop off).take css.length=css)(hoff:off≤cur.length):
  ∃css',RL F H m ((l.set i x').flatMap enc) css'∧css'.length=css.length∧(∀x∈l.set i x',(enc x).length=sz)∧off+i*sz+o+us.length≤cur.length∧
   ((cur.take (off+i*sz+o)++us++cur.drop (off+i*sz+o+us.length)).drop off).take css'.length=css':=by
 obtain⟨hlt,rfl⟩:=List.getElem?_eq_some_iff.1 hi;have hlu:=hu.length;have hx:=hz l[i] (List.getElem_mem hlt);have hl:l=l.take i++l[i]::l.drop (i+1):=by rw[←List.drop_eq_getElem_cons hlt,List.take_append_drop]
 have hpre:((l.take i).flatMap enc).length=i*sz:=by
  rw[gT (fun y hy=>hz y (List.mem_of_mem_take hy)),List.length_take];rw[Nat.min_eq_left (by omega)]
 have h1:l.flatMap enc=(l.take i).flatMap enc++(enc l[i]++(l.drop (i+1)).flatMap enc):=by
  conv=>lhs;rw[hl]
  rw[List.flatMap_append,List.flatMap_cons]
 have h2:(l.set i x').flatMap enc=(l.take i).flatMap enc++(enc x'++(l.drop (i+1)).flatMap enc):=by
  rw[List.set_eq_take_append_cons_drop,if_pos hlt,List.flatMap_append,List.flatMap_cons]
 rw[h1]at hr;obtain⟨c1,cr,rfl,r1,r2⟩:=hr.split;obtain⟨c2,c3,rfl,r3,r4⟩:=r2.split;have l1:=r1.length;have l2:=r3.length;rw[hpre]at l1;rw[hx]at l2
 have hre:RL F H m (enc x') (c2.take o++us++c2.drop (o+us.length)):=by
  rw[he,hlu.symm];exact((r3.take _).append hu).append (by rw[hlu];exact r3.drop _)
 have hel:(enc x').length=sz:=by rw[he];simp[hx];omega
 have hcl:(c1++(c2++c3)).length≤cur.length-off:=by
  have:=congrArg List.length hc;rw[List.length_take,List.length_drop]at this;omega
 ·obtain ⟨Z, hZ⟩ : ∃ Z, cur.drop off = (c1 ++ (c2 ++ c3)) ++ Z := ⟨(cur.drop off).drop (c1++(c2++c3)).length,by
   conv=>rhs;arg 1;rw[←hc]
   rw[List.take_append_drop]⟩
  have hA:cur=cur.take off++((c1++(c2++c3))++Z):=by rw[←hZ,List.take_append_drop]
  generalize hAA:cur.take off=A0 at hA;have hAl:A0.length=off:=by rw[←hAA,List.length_take];omega
  refine⟨c1++((c2.take o++us++c2.drop (o+us.length))++c3),by rw[h2];exact r1.append (hre.append r4),by simp;omega,fun y hy=>?_,?_,?_⟩
  ·rw[List.mem_iff_getElem?]at hy;obtain⟨j,hj⟩:=hy;rcases nR hj with⟨_,h⟩|⟨_,_,rfl⟩
   ·exact hz y (List.mem_of_getElem? h)
   ·exact hel
  ·rw[hA];simp;omega
  ·have e1:cur=(A0++(c1++c2.take o))++(((c2.drop o).take us.length)++(c2.drop (o+us.length)++(c3++Z))):=by
    have e2:c2=c2.take o++((c2.drop o).take us.length++c2.drop (o+us.length)):=by
     rw[←List.drop_drop,List.take_append_drop,List.take_append_drop]
    conv=>lhs;rw[hA,e2]
    simp[List.append_assoc]
   have t1:cur.take (off+i*sz+o)=A0++(c1++c2.take o):=by
    rw[e1];exact List.take_left' (by simp;omega)
   have t2:cur.drop (off+i*sz+o+us.length)=c2.drop (o+us.length)++(c3++Z):=by
    rw[e1,←List.append_assoc,List.drop_left' (by simp;omega)]
   rw[t1,t2];have e3:A0++(c1++c2.take o)++us++(c2.drop (o+us.length)++(c3++Z))=A0++((c1++((c2.take o++us++c2.drop (o+us.length))++c3))++Z):=by simp[List.append_assoc]
   rw[e3,List.drop_left' hAl,List.take_left]
theorem BK(hT:bm P tab)(hE:ER F w.heap ⟨E.B,γ⟩ s.env a)(hW:WR E F γ s.ah w.heap){t:Nat}{x y:Operand}(ho:o.op= .store t x y)(h:Y2 tab s (.store t x y) k):Dn P s E F γ a w o k:=by
 simp only[Y2]at h;split at h
 ·rename_i _ _ _ d j off new ht hx hy;split at h
  ·rename_i cs ty hb;obtain⟨hc,h⟩:=bM h;simp only[Bool.and_eq_true]at hc;have hc1:=Nat.eq_of_beq_eq_true hc.1;have hc2:=Nat.le_of_ble_eq_true hc.2;have hcx:=aU hE hx;obtain⟨us,hu,hru⟩:=ot hE hy;have hlu:=hru.length;generalize hv:a.eval x=v at hcx;cases hcx with
   | @ptr _ _ _ bk _ _ hg _=>
    have hg':γ[j]? =some _:=hg;have hbr:=hW.br j _ _ hb hg';obtain⟨kk,e,vs,he,h1,h2⟩:=hbr;obtain rfl:bk=kk:=by simpa using he
    have hlv:=h2.length;have hrun:=run_store (P:=P) ho hv hu (fun w=>by rw[←hlu,hc1];exact hT.size ht w) hru.one h1 (by simp;omega);have hK:ak [bk] w.heap (w.setRow bk (vs.take off++us++vs.drop (off+us.length)).toArray).heap:=jZ _ _ _;have hob:ax (.box cs ty) (.pointer (some ⟨bk,0,none⟩))=[bk]:=rfl;have ex:=hW.ext (γ':=[]) (W:=[bk]) (fun q hq=>hW.nf j _ _ q hb hg' (by rw[hob];exact hq)) hK;rw[List.append_nil]at ex;refine⟨_,undef,_,_,_,F,γ,⟨.inr ⟨rfl,rfl⟩,hrun⟩,bd.of rfl rfl rfl,h,⟨hW.aq hb hg' (by rw[hob];exact hK) (fun q hq=>hq) ⟨bk,e,_,rfl,setRow_heap w bk _ _ _ _ h1,?_⟩,ex⟩,trivial,fun hgr=>by rw[ho]at hgr;simp[jJ]at hgr,fun ha=>by rw[ho]at ha;cases ha⟩;have h2':=h2.ext ex;have hru':=hru.ext ex;show RL F _ _ _ (vs.toArray.toList.take off++us++vs.toArray.toList.drop (off+us.length));have:=((h2'.take off).append hru').append (h2'.drop (off+new.length));rw[hlu]at this;rw[hlu];exact this
  ·exact h.elim
 ·rename_i _ _ _ d sz j i off new ht hx hy;obtain⟨us,hu,hru⟩:=ot hE hy;obtain⟨F1,hF1,hW1,hru1,hl1⟩:=sI hW hru;generalize hfz:fz s.ah new=fr at h hW1 hru1 hl1;obtain⟨ah1,new1⟩:=fr;simp only[]at h hW1 hru1 hl1;split at h
  ·rename_i sz' α enc l hb;obtain⟨hc,x1,x2,hi,⟨hfit,henc⟩,h⟩:=bM h;simp only[Bool.and_eq_true]at hc;obtain⟨⟨hc1,hc2⟩,hc3⟩:=hc;have hc1:=Nat.eq_of_beq_eq_true hc1;obtain rfl:=Nat.eq_of_beq_eq_true hc2;have hru0:=r7 (m':=m0) hru1 hc3;have hlu:=hru0.length;have hcx:=aU hE hx;generalize hv:a.eval x=v at hcx;cases hcx with
   | @ep _ _ _ _ _ bk ob n0 cap0 _ _ hg _=>
    have hg':γ[j]? =some _:=hg;have hbr:=hW1.br j _ _ hb hg';rcases hbr with⟨p,he,hl0⟩|⟨kk,ob',cap,cur,e,css,he,h1,h2,h3,h4,h5,h6,h7⟩
    ·subst hl0;simp at hi
    ·have hbk:bk=kk∧ob=ob':=by simp at he;exact he.1
     obtain⟨rfl,rfl⟩:=hbk;rw[he]at hg hg';obtain⟨css',q1,q2,q3,q4,q5⟩:=FX h5 h6 hi hfit henc hru0 h7 (by simp;omega);have hrun:=run_store (P:=P) ho hv hu (fun w=>by rw[←hlu,hc1];exact hT.size ht w) hru.one h1 (by simpa using q4);have hob:ax (.row sz α enc l) (.slice (some ⟨bk,ob,none⟩) l.length (cap+1))=[bk]:=rfl;have hK:ak [bk] w.heap (w.setRow bk (cur.toList.take (ob+i*sz+off)++us++cur.toList.drop (ob+i*sz+off+us.length)).toArray).heap:=jZ _ _ _;have ex:=hW1.ext (γ':=[]) (W:=[bk]) (fun q hq=>hW1.nf j _ _ q hb hg' (by rw[hob];exact hq)) hK;rw[List.append_nil]at ex;refine⟨_,undef,_,_,_,F1,γ,⟨.inr ⟨rfl,rfl⟩,hrun⟩,bd.of rfl rfl rfl,h,Step.aZ hF1 ⟨hW1.aq hb hg' (by rw[hob];exact hK) (fun q hq=>by rw[hob];simpa[ax]using hq) (.inr ⟨bk,ob,cap,_,e,css',by rw[List.length_set],setRow_heap w bk _ _ _ _ h1,by rw[List.length_set];exact h2,h3,?_,q1.ext ex.m0,q3,q5⟩),ex⟩,trivial,fun hgr=>by rw[ho]at hgr;simp[jJ]at hgr,fun ha=>by rw[ho]at ha;cases ha⟩;simp at q4⊢;omega
  ·exact h.elim
 ·exact h.elim
def bU(H:ab)(sz:Nat)(v:Value)(n:Nat)(cs:List Value):Prop:=
 cs.length=n*sz∧((∃p,v= .slice p 0 0∧n=0)∨∃g off cap cur e,v= .slice (some ⟨g,off,none⟩) n (cap+1)∧H[g]? =some (.cells cur e (0,0))∧n≤cap+1∧cap+1≤maxLen∧off+(cap+1)*sz≤cur.size∧(cur.toList.drop off).take (n*sz)=cs)
def aS:Value→List Nat
 | .slice (some a) _ (_+1)=>[a.block]
 |_=>[]
theorem bU.src{H:ab}{sz n:Nat}{v:Value}{cs:List Value}(h:bU H sz v n cs):Src P H sz v n cs:=fun w hw=>by
 rcases h.2 with⟨p,rfl,rfl⟩|⟨g,off,cap,cur,e,rfl,hg,h1,h2,h3,h4⟩
 ·have:cs=[]:=List.eq_nil_of_length_eq_zero (by simpa using h.1);subst this;cases p with
  |none=>exact⟨by simp[Builtin.lenOf],by simp[Builtin.firstCells]⟩
  |some a=>
   have:=run_loadCells_list (P:=P) (w:=w) a [] (by simp);exact⟨by simp[Builtin.lenOf],by simpa[Builtin.firstCells]using this⟩
 ·refine⟨by simp[Builtin.lenOf],?_⟩;refine run_firstCells_some w sz n ⟨g,off,none⟩ _ _ cs h.1 (fun j v hj=>?_);rw[Addr.add_lit,dg hw];unfold NB.cell;rw[hg];rw[←h4,List.getElem?_take]at hj;split at hj
  ·rw[List.getElem?_drop]at hj;simpa using hj
  ·cases hj
theorem SV.src{L:LS}{H:ab}{v:Value}(h:SV F H L v):∃news,Src P H L.sz v L.l.length news∧RL F H m0 (L.l.flatMap L.enc) news∧∀x∈L.l,(L.enc x).length=L.sz:=by
 obtain⟨sz,α,enc,l⟩:=L;rcases h with⟨p,rfl,hl⟩|⟨b,off,cap,css,rfl,h1,h2,hr,hz,hc⟩
 ·have hl:l=[]:=hl;subst hl;refine⟨[],fun w _=>⟨by simp[Builtin.lenOf],?_⟩,.nl,fun x hx=>by cases hx⟩;cases p with
  |none=>simp[Builtin.firstCells]
  |some a=>
   have:=run_loadCells_list (P:=P) (w:=w) a [] (by simp);simpa[Builtin.firstCells]using this
 ·refine⟨css,fun w hw=>⟨by simp[Builtin.lenOf],?_⟩,hr,hz⟩;have hl:=hr.length;rw[gT hz]at hl;exact run_firstCells_some w sz l.length ⟨b,off,none⟩ _ cap css hl.symm (fun j v hj=>by rw[Addr.add_lit,dg hw];exact hc j v hj)
def kX(H:ab)(e:TypeId)(v:Value):Prop:=(∃p,v= .slice p 0 0)∨∃k n c cur,v= .slice (some ⟨k,0,none⟩) n (c+1)∧H[k]? =some (.cells cur e (0,0))
theorem zt{t t2 e:TypeId}{i:TypeInfo}{z v x:Value}{sx sy:Operand}{size n m:Nat}{cs news:List Value}{dx:TypeDesc}
  (ho:o.op= .call {callee:= .builtin .append,args:= #[sx,sy],argTypes:= #[t,t2]})(ht:P.underlying t=some (.slice e))(ht2:P.underlying t2=some dx)(hnx:∀k,dx≠.int k)
  (hi:∀w,(typeInfo e).run P w= .ok i w)(hsz:i.size=size)(hz:i.zero=some z)(hzs:z.cells.size=size)
  (hs:a.eval sx=v)(hy:a.eval sy=x)(hr:bU w.heap size v n cs)(hsrc:Src P w.heap size x m news)(hone:∀u∈news,u.oneCell'=true)(hnl:news.length=m*size)(hfit:(n+m)*i.bytes≤140737488355328)(hml:n+m≤9223372036854775807):
  ∃v' w',(execOp a.eval o).run P w= .ok (.value v') w'∧bd w w'∧bU w'.heap size v' (n+m) (cs++news)∧ak (aS v) w.heap w'.heap∧(∀b∈aS v',b∈aS v∨w.heap.size≤b)∧(kX w.heap e v→kX w'.heap e v'):=by
 have hlen:(cs++news).length=(n+m)*size:=by rw[List.length_append,hr.1,hnl,Nat.add_mul]
 have hsizeOf:∀w,(sizeOf e).run P w= .ok size w:=fun w=>by simp[sizeOf,hi,hsz]
 have hzero:∀w,(zeroValue e).run P w= .ok z w:=fun w=>by simp[zeroValue,hi,hz]
 obtain⟨hs1,hs2⟩:=hsrc w rfl;have hmx:n+m≤maxLen:=hml
 have grow:∀(p:Option Addr) (cp:Nat),v= .slice p n cp→cp<n+m→∃v' w',(execOp a.eval o).run P w= .ok (.value v') w'∧bd w w'∧bU w'.heap size v' (n+m) (cs++news)∧ak (aS v) w.heap w'.heap∧(∀b∈aS v',b∈aS v∨w.heap.size≤b)∧(kX w.heap e v→kX w'.heap e v'):=by
  intro p cp hv hcp;have hge:=grownCap_ge w (n+m) cp e;have hcm:grownCap w (n+m) cp e≤maxLen:=grownCap_le_maxLen w (n+m) cp e hmx;have hfits:=growslice_fits hcp hfit;have hold:∀w':World,w'.heap=w.heap→(Builtin.firstCells size n (.slice p n cp)).run P w'= .ok cs.toArray w':=fun w' hw'=>by rw[←hv];exact(bU.src (P:=P) hr w' hw').2
  obtain⟨gc,hgc⟩:∃gc,grownCap w (n+m) cp e=gc+1:=⟨grownCap w (n+m) cp e-1,by omega⟩;refine⟨.slice (some ⟨w.heap.size,0,none⟩) (n+m) (grownCap w (n+m) cp e),w.drew.alloc (.cells (cs.toArray++news.toArray++Builtin.zeroCells z.cells (grownCap w (n+m) cp e-(n+m))) e),?_,bd.of rfl rfl rfl,⟨hlen,.inr ⟨w.heap.size,0,gc,_,_,by rw[hgc],heap_alloc_new w.drew _,by omega,by omega,?_,?_⟩⟩,?_,?_,?_⟩
  ·have h1:=hold w.drew rfl;have h2:=(hsrc w.drew rfl).2;unfold execOp;rw[ho];have hnle:¬n+m≤cp:=by omega
   have hn63:¬((9223372036854775807:Int)<(n:Int)+(m:Int)):=by omega
   have hnf:¬281474976710656<Builtin.nextslicecap (n+m) cp*i.bytes:=by omega
   simp[resolve,invoke,builtin,hs,hy,hv,Builtin.append_,run_underlying ht,run_underlying ht2,hsizeOf,hs1,hnle,hi,hn63,hnf,hzero,newRow];have hch:Question.forced (.appendCap (n+m) cp e)=false:=rfl;simp[hch];rw[h1];simp[h2];refine⟨rfl,?_⟩;have e2:(cs++news).toArray=cs.toArray++news.toArray:=by simp
   rw[e2,Array.append_assoc];rfl
  ·simp only[Array.size_append,List.size_toArray,size_zeroCells,hzs,hr.1,hnl,←Nat.add_mul];rw[←hgc];rw[Nat.zero_add];refine Nat.mul_le_mul_right _ (by omega)
  ·simp only[Array.toList_append,List.append_assoc,List.drop_zero];rw[←List.append_assoc,←hlen];exact List.take_left
  ·exact(ak.push [] w.heap _).nil
  ·intro b hb;rw[hgc]at hb;simp[aS]at hb;subst hb;exact .inr (Nat.le_refl _)
  ·exact fun _=>.inr ⟨w.heap.size,n+m,gc,_,by rw[hgc],heap_alloc_new w.drew _⟩
 rcases hr.2 with⟨p,hv,hn⟩|⟨g,off,cap,cur,et,hv,hg',h1,h2,h3,h4⟩
 ·by_cases hm:m=0
  ·have hcs:cs=[]:=List.eq_nil_of_length_eq_zero (by rw[hr.1,hn];simp);have hnews:news=[]:=List.eq_nil_of_length_eq_zero (by rw[hnl,hm];simp);subst hn hm hcs hnews hv;refine⟨.slice p 0 0,w,?_,bd.refl _,⟨by simp,.inl ⟨p,rfl,rfl⟩⟩,ak.refl _ _,fun b hb=>.inl hb,id⟩;unfold execOp;rw[ho];cases p with
   |none=>simp[resolve,invoke,builtin,hs,hy,Builtin.append_,run_underlying ht,run_underlying ht2,hsizeOf,hs1,hs2]
   |some ad=>simp[resolve,invoke,builtin,hs,hy,Builtin.append_,run_underlying ht,run_underlying ht2,hsizeOf,hs1,hs2,storeCells]
  ·subst hn;exact grow p 0 hv (by omega)
 ·by_cases hroom:n+m≤cap+1
  ·have hle:n*size+m*size≤(cap+1)*size:=by rw[←Nat.add_mul];exact Nat.mul_le_mul_right _ hroom
   have hst:=run_storeCells_at P g (off+n*size) et news 0 cur w hg' (by rw[hnl];omega) hone;simp only[Nat.add_zero]at hst;refine⟨.slice (some ⟨g,off,none⟩) (n+m) (cap+1),w.setRow g (cur.toList.take (off+n*size)++news++cur.toList.drop (off+n*size+news.length)).toArray,?_,bd.of rfl rfl rfl,⟨hlen,.inr ⟨g,off,cap,_,et,rfl,setRow_heap w g cur _ et _ hg',hroom,h2,?_,?_⟩⟩,?_,?_,?_⟩
   ·unfold execOp;rw[ho];simp[resolve,invoke,builtin,hs,hy,hv,Builtin.append_,run_underlying ht,run_underlying ht2,hsizeOf,hs1,hs2,hroom,Addr.add_lit,hst]
   ·simp only[List.size_toArray,List.length_append,List.length_take,List.length_drop,Array.length_toList];omega
   ·have e1:cur.toList.take (off+n*size)=cur.toList.take off++cs:=by
     rw[List.take_add,h4]
    have hoff:(cur.toList.take off).length=off:=by rw[List.length_take,Array.length_toList];omega
    show((cur.toList.take (off+n*size)++news++cur.toList.drop (off+n*size+news.length)).drop off).take _=_;rw[e1,List.append_assoc,List.append_assoc,List.drop_left' hoff,←List.append_assoc,←hlen];exact List.take_left
   ·rw[hv];exact jZ w g _
   ·intro b hb;rw[hv];exact .inl hb
   ·rintro(⟨p,hp⟩|⟨k,n',c',cur',hp,hk⟩)
    ·rw[hv]at hp;cases hp
    ·rw[hv]at hp;cases hp;rw[hg']at hk;cases hk;exact .inr ⟨g,n+m,cap,_,rfl,setRow_heap w g cur _ _ _ hg'⟩
  ·exact grow _ (cap+1) hv (by omega)
theorem oE{H:ab}{m:Md}{sz:Nat}{α:Type}{enc:α→List C}{l:List α}{g:Value}(h:BR F H m (.row sz α enc l) g):∃cs,bU H sz g l.length cs∧RL F H m0 (l.flatMap enc) cs∧∀x∈l,(enc x).length=sz:=by
 rcases h with⟨p,rfl,rfl⟩|⟨k,off,cap,cur,t,css,rfl,h1,h2,h3,h4,h5,h6,h7⟩
 ·exact⟨[],⟨by simp,.inl ⟨p,rfl,rfl⟩⟩,.nl,fun x hx=>by cases hx⟩
 ·have hl:=h5.length;rw[gT h6]at hl;exact⟨css,⟨hl.symm,.inr ⟨k,off,cap,cur,t,rfl,h1,h2,h3,h4,by rw[hl];exact h7⟩⟩,h5,h6⟩
theorem A2{H:ab}{m:Md}{t sz:Nat}{α:Type}{enc:α→List C}{l:List α}{g:Value}(h:BR F H m (.buf t sz α enc l) g):∃cs,bU H sz g l.length cs∧RL F H m0 (l.flatMap enc) cs∧(∀x∈l,(enc x).length=sz)∧kX H t g:=by
 rcases h with⟨p,rfl,rfl⟩|⟨k,cap,cur,css,rfl,h1,h2,h3,h4,h5,h6,h7⟩
 ·exact⟨[],⟨by simp,.inl ⟨p,rfl,rfl⟩⟩,.nl,(fun x hx=>by cases hx),.inl ⟨p,rfl⟩⟩
 ·have hl:=h5.length;rw[gT h6]at hl;exact⟨css,⟨hl.symm,.inr ⟨k,0,cap,cur,t,rfl,h1,h2,h3,by omega,by rw[hl,List.drop_zero];exact h7⟩⟩,h5,h6,.inr ⟨k,_,cap,cur,rfl,h1⟩⟩
theorem CR{H:ab}{m:Md}{t sz n:Nat}{α:Type}{enc:α→List C}{l:List α}{g:Value}{cs:List Value}(h:bU H sz g n cs)(ht:kX H t g)(hn:n=l.length)(hr:RL F H m0 (l.flatMap enc) cs)(hz:∀x∈l,(enc x).length=sz):BR F H m (.buf t sz α enc l) g:=by
 subst hn;rcases h.2 with⟨p,rfl,hl⟩|⟨k,off,cap,cur,e,rfl,h1,h2,h3,h4,h5⟩
 ·exact .inl ⟨p,rfl,List.eq_nil_of_length_eq_zero hl⟩
 ·rcases ht with⟨p,hp⟩|⟨k',n',c',cur',hp,hk⟩
  ·simp at hp
  ·obtain⟨⟨rfl,rfl⟩,-,rfl⟩:(k=k'∧off=0)∧l.length=n'∧cap=c':=by simpa using hp
   rw[h1]at hk;cases hk;exact .inr ⟨k,cap,cur,cs,rfl,h1,h2,h3,by omega,hr,hz,by rw[h.1];simpa using h5⟩
theorem yz{t sz:Nat}{α:Type}{enc:α→List C}{l:List α}(g:Value):ax (.buf t sz α enc l) g=aS g:=by
 cases g with
 |slice p n c=>cases p<;>cases c<;>rfl
 |_=>rfl
theorem pI{H:ab}{m:Md}{sz n:Nat}{α:Type}{enc:α→List C}{l:List α}{g:Value}{cs:List Value}(h:bU H sz g n cs)(hn:n=l.length)(hr:RL F H m0 (l.flatMap enc) cs)(hz:∀x∈l,(enc x).length=sz):BR F H m (.row sz α enc l) g:=by
 subst hn;rcases h.2 with⟨p,rfl,hl⟩|⟨k,off,cap,cur,t,rfl,h1,h2,h3,h4,h5⟩
 ·exact .inl ⟨p,rfl,List.eq_nil_of_length_eq_zero hl⟩
 ·exact .inr ⟨k,off,cap,cur,t,cs,rfl,h1,h2,h3,h4,hr,hz,by rw[h.1];exact h5⟩
theorem kL{sz:Nat}{α:Type}{enc:α→List C}{l:List α}(g:Value):ax (.row sz α enc l) g=aS g:=by
 cases g with
 |slice p n cap=>cases p<;>cases cap<;>rfl
 |_=>rfl
theorem bU.part{H:ab}{sz n0 lo n cap:Nat}{p q:Option Addr}{cs:List Value}(h:bU H sz (.slice p n0 cap) n0 cs)(hle:lo+n≤n0)(hq:cap≠lo→q=p.map (·.add (lo*sz))):
  bU H sz (.slice q n (cap-lo)) n ((cs.drop (lo*sz)).take (n*sz))∧∀b∈aS (.slice q n (cap-lo)),b∈aS (.slice p n0 cap):=by
 have hlo:lo*sz+n*sz≤n0*sz:=by rw[←Nat.add_mul];exact Nat.mul_le_mul_right _ hle
 have hl:((cs.drop (lo*sz)).take (n*sz)).length=n*sz:=by rw[List.length_take,List.length_drop,h.1];omega
 rcases h.2 with⟨p',e,hn⟩|⟨k,off,cap',cur,t,e,h1,h2,h3,h4,h5⟩
 ·cases e;obtain rfl:n=0:=by omega
  obtain rfl:lo=0:=by omega
  exact⟨⟨hl,.inl ⟨q,rfl,rfl⟩⟩,fun b hb=>by cases q<;>simp[aS]at hb⟩
 ·simp at e;obtain⟨rfl,rfl⟩:=e;by_cases hc:cap'+1=lo
  ·obtain rfl:n=0:=by omega
   refine⟨⟨hl,.inl ⟨q,by rw[hc,Nat.sub_self],rfl⟩⟩,fun b hb=>?_⟩;rw[hc,Nat.sub_self]at hb;cases q<;>simp[aS]at hb
  ·have hq:=hq hc;simp[Addr.add_lit]at hq;obtain⟨d,hd⟩:∃d,cap'+1-lo=d+1:=⟨cap'-lo,by omega⟩;have hcd:lo*sz+(d+1)*sz=(cap'+1)*sz:=by rw[←Nat.add_mul];congr 1;omega
   refine⟨⟨hl,.inr ⟨k,off+lo*sz,d,cur,t,by rw[hq,hd],h1,by omega,by omega,by omega,?_⟩⟩,fun b hb=>?_⟩
   ·rw[←h5,←List.drop_drop,List.drop_take,List.take_take,Nat.min_eq_left (by omega)]
   ·rw[hq,hd]at hb;simpa[aS]using hb
end
end Go.AM
end
