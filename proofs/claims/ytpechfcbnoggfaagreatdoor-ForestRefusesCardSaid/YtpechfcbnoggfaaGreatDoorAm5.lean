/- part -/
import Derived.Test.YtpechfcbnoggfaaGreatDoorAm2
import Derived.Lib.SliceRun
set_option linter.unusedVariables false
set_option linter.unusedSimpArgs false
section
namespace Go.AM
open Go Go.NB
def l5(tab:Nat→Option TD)(offs:List (Nat×Nat)):List (Nat×A)→List C→(List C→Prop)→Prop
 |[],cs,k=>k cs
 |(i,x)::r,cs,k=>match offs[i]?,nC x with
  |some (e,off),some new=>match tab e with
   |some d=>bif Nat.beq new.length d.size&&Nat.ble (off+new.length) cs.length then l5 tab offs r (cs.take off++(new++cs.drop (off+new.length))) k else False
   |none=>False
  |_,_=>False
def asInt(s:St)(x:Operand):Option Int:=match aM s x with
 | .c (.int _ n)=>some n
 |_=>none
def pa(s:St):Option Operand→Option (Option Int)
 |none=>some none
 |some x=>match aM s x with
  | .c (.int .i64 n)=>some (some n)
  |_=>none
def uw(tab:Nat→Option TD)(s:St)(t:Nat)(x:Operand)(lo hi:Option Operand)(k:A→Prop):Prop:=match tab t,lo,hi with
 |some d,some lo,some hi=>match d.kind,aM s x,aM s lo,aM s hi with
  | .str,.c (.str l),.c (.int .u8 a),.c (.int .u8 b)=>∃i j:Nat,(a=(i:Int)∧b=(j:Int))∧(i≤j∧j≤l.length)∧k (.c (.str ((l.take j).drop i)))
  |_,_,_,_=>False
 |_,_,_=>False
def bounds(n:Nat)(lo hi:Option Int)(k:Nat→Nat→Prop):Prop:=
 ∃a b:Nat,(match lo with|some x=>x=(a:Int)|none=>a=0)∧(match hi with|some x=>x=(b:Int)|none=>b=n)∧(a≤b∧b≤n)∧k a b
def pn(s:St):List Operand→Option (List C)
 |[]=>some []
 |x::r=>match aM s x,pn s r with
  | .c c,some cs=>some (c::cs)
  |_,_=>none
def wi(tab:Nat→Option TD)(ah:List B)(ks kd:TK)(x:C)(k:A→Prop):Prop:=
 match ks,kd,x with
 | .int _,.int q,.int _ n=>k (.c (.int q (q.wrap n)))
 | .str,.str,.str l=>k (.c (.str l))
 | .sl e,.str,x=>match tab e with
  |some d=>match d.kind,x with
   | .int .u8,.nil=>k (.c (.str []))
   | .int .u8,x=>∃l:List UInt8,jw ah x=some ⟨1,UInt8,bA,l⟩∧k (.c (.str l))
   |_,_=>False
  |none=>False
 |_,_,_=>False
def LS.on(L:LS)(k:(sz:Nat)→(α:Type)→(enc:α→List C)→(l:List α)→Prop):Prop:=match L with
 |⟨sz,α,enc,l⟩=>k sz α enc l
theorem LS.mN{L:LS}{k:(sz:Nat)→(α:Type)→(enc:α→List C)→(l:List α)→Prop}:L.on k=k L.sz L.α L.enc L.l:=rfl
def mq:Value→Bool
 | .nilIface=>true
 |_=>false
theorem pV{v:Value}(h:mq v=true):v= .nilIface:=by
 unfold mq at h;split at h
 ·rfl
 ·cases h
def ta:Operand→Bool
 | .const _=>true
 |_=>false
def mr:Value→Bool
 | .pointer none=>true
 |_=>false
theorem xK{v:Value}(h:mr v=true):v= .pointer none:=by
 unfold mr at h;split at h
 ·rfl
 ·cases h
def Y1(tab:Nat→Option TD)(s:St)(op:Op)(k:A→Prop):Prop:=
 match op with
 | .move x=>k (aM s x)
 | .assign x=>k (aM s x)
 | .pick c a b=>match aM s c with
  | .c (.bool q)=> @Bool.rec (fun _=>Prop) (k (aM s b)) (k (aM s a)) q
  |_=>False
 | .load t x=>match tab t with
  |some d=>match aM s x with
   | .c (.ptr j o)=>match s.ah[j]? with
    |some (.box cs _)=>rd d (cs.drop o) k
    |_=>False
   | .c (.bp cs)=>rd d cs k
   | .c (.ep sz j i o)=>match(s.ah[j]?).bind rowOf with
    |some L=>L.on fun sz0 α0 enc0 l0=>bif Nat.beq sz sz0 then∃x:α0,l0[i]? =some x∧rd d ((enc0 x).drop o) k else False
    |none=>False
   |_=>False
  |none=>False
 | .nilCheck x=>match aM s x with
  | .c (.ptr j o)=>k (.c (.ptr j o))
  | .c (.bp cs)=>k (.c (.bp cs))
  | .c (.ep sz j i o)=>k (.c (.ep sz j i o))
  |_=>False
 | .binOp op t x y _=>match aM s x,aM s y with
  | .c (.bool a),.c (.bool b)=>match tab t,op with
   |some d,.eql=>match d.kind with| .bool=>k (.c (.bool (a==b)))|_=>False
   |some d,.neq=>match d.kind with| .bool=>k (.c (.bool (!(a==b))))|_=>False
   |_,_=>False
  | .c (.ptr _ _),.c (.raw v)=>match tab t,op with
   |some d,.eql=>match d.kind with| .ptr=>bif mr v then k (.c (.bool false))else False|_=>False
   |some d,.neq=>match d.kind with| .ptr=>bif mr v then k (.c (.bool true))else False|_=>False
   |_,_=>False
  | .c (.raw u),.c (.raw v)=>match tab t,op with
   |some d,.eql=>match d.kind with| .ifc=>bif mq u&&mq v&&ta y then k (.c (.bool true))else False|_=>False
   |some d,.neq=>match d.kind with| .ifc=>bif mq u&&mq v&&ta y then k (.c (.bool false))else False|_=>False
   |_,_=>False
  | .c a,.c .nil=>match tab t,op with
   |some d,.eql=>match d.kind with
    | .sl _=>match a with
     | .nil=>k (.c (.bool true))
     |a=>match jw s.ah a with
      |some L=>L.on fun _ _ _ l0=>∀q:Bool,(q=true→l0=[])→k (.c (.bool q))
      |none=>False
    |_=>False
   |_,_=>False
  | .c a,.c b=>arith op a b k
  | .st cs,.st ds=>match tab t,op with
   |some d,.eql=>bif d.cmp&&(dF d.zero cs&&dF d.zero ds)then k (.c (.bool (@decide (dI cs ds) (Classical.propDecidable _))))else False
   |some d,.neq=>bif d.cmp&&(dF d.zero cs&&dF d.zero ds)then k (.c (.bool (!(@decide (dI cs ds) (Classical.propDecidable _)))))else False
   |_,_=>False
  |_,_=>False
 | .unOp .not _ x=>match aM s x with
  | .c (.bool b)=>k (.c (.bool (!b)))
  |_=>False
 | .unOp .neg _ x=>match aM s x with
  | .c (.int .i64 n)=>aE (0-n)∧k (.c (.int .i64 (0-n)))
  |_=>False
 | .convert a b x=>match tab a,tab b,aM s x with
  |some d,some d',.c x=>wi tab s.ah d.kind d'.kind x k
  |_,_,_=>False
 | .build t parts=>match tab t with
  |some d=>match d.kind with
   | .struct offs=>l5 tab offs (parts.toList.map fun p=>(p.1,aM s p.2)) d.zero fun cs=>k (.st cs)
   | .arr n e=>match tab e with
    |some de=>l5 tab ((List.range n).map fun i=>(e,i*de.size)) (parts.toList.map fun p=>(p.1,aM s p.2)) d.zero fun cs=>k (.st cs)
    |none=>False
   |_=>False
  |none=>False
 | .fieldAddr t x i=>match tab t with
  |some d=>match d.kind with
   | .struct offs=>match offs[i]? with
    |some (e,off)=>match tab e with
     |some de=>bif Nat.beq de.size 0 then False else match aM s x with
      | .c (.ptr j o)=>k (.c (.ptr j (o+off)))
      | .c (.bp cs)=>k (.c (.bp (cs.drop off)))
      | .c (.ep sz j i o)=>k (.c (.ep sz j i (o+off)))
      |_=>False
     |none=>False
    |none=>False
   |_=>False
  |none=>False
 | .field t x i=>match tab t with
  |some d=>match d.kind with
   | .struct offs=>match offs[i]? with
    |some (e,off)=>match tab e,aM s x with
     |some de,.st cs=>rd de (cs.drop off) k
     |_,_=>False
    |none=>False
   |_=>False
  |none=>False
 | .indexAddr t x y=>match tab t,asInt s y with
  |some d,some n=>match d.kind with
   | .sl e=>match tab e,aM s x with
    |some de,.c c=>match c with
     | .ls sz α enc l=>∃(i:Nat) (x:α),n=(i:Int)∧l[i]? =some x∧bif Nat.beq sz de.size then k (.c (.bp (enc x)))else False
     | .bs sz α enc l=>∃(i:Nat) (x:α),n=(i:Int)∧l[i]? =some x∧bif Nat.beq sz de.size then k (.c (.bp (enc x)))else False
     | .rw j=>match(s.ah[j]?).bind rowOf with
      |some L=>L.on fun sz0 _ _ l0=>∃i:Nat,(n=(i:Int)∧i<l0.length)∧bif Nat.beq sz0 de.size then k (.c (.ep sz0 j i 0))else False
      |none=>False
     | .sw sz j lo m=>match(s.ah[j]?).bind rowOf with
      |some L=>L.on fun sz0 _ _ l0=>bif Nat.beq sz de.size then∃i:Nat,(n=(i:Int)∧i<m)∧k (.c (.ep sz j (lo+i) 0))else False
      |none=>False
     |_=>False
    |_,_=>False
   | .arr len e=>match tab e,aM s x with
    |some de,.c (.ptr j o)=>∃i:Nat,(n=(i:Int)∧i<len)∧k (.c (.ptr j (o+i*de.size)))
    |some de,.c (.bp cs)=>∃i:Nat,(n=(i:Int)∧i<len)∧k (.c (.bp (cs.drop (i*de.size))))
    |some de,.c (.ep sz j i0 o)=>∃i:Nat,(n=(i:Int)∧i<len)∧k (.c (.ep sz j i0 (o+i*de.size)))
    |_,_=>False
   |_=>False
  |_,_=>False
 | .index t x y=>match tab t,asInt s y with
  |some d,some n=>match d.kind with
   | .str=>match aM s x with
    | .c (.str l)=>∃(i:Nat) (b:UInt8),n=(i:Int)∧l[i]? =some b∧k (.c (.int .u8 b.toNat))
    |_=>False
   | .arr len e=>match tab e,aM s x with
    |some de,.st cs=>∃i:Nat,(n=(i:Int)∧i<len)∧rd de (cs.drop (i*de.size)) k
    |_,_=>False
   |_=>False
  |_,_=>False
 | .slice t x lo hi none=>match tab t,pa s lo,pa s hi with
  |some d,some lo,some hi=>match d.kind with
   | .str=>match aM s x with
    | .c (.str l)=>bounds l.length lo hi fun a b=>k (.c (.str ((l.take b).drop a)))
    |_=>False
   | .sl e=>match tab e,aM s x with
    |some de,.c c=>match c with
     | .nil=>bounds 0 lo hi fun _ _=>k (.c .nil)
     | .ls sz α enc l=>bif Nat.beq sz de.size then bounds l.length lo hi fun a b=>k (.c (.ls sz α enc ((l.drop a).take (b-a))))else False
     | .bs sz α enc l=>bif Nat.beq sz de.size then bounds l.length lo hi fun a b=>k (.c (.bs sz α enc ((l.drop a).take (b-a))))else False
     | .rw j=>match(s.ah[j]?).bind rowOf with
      |some L=>L.on fun sz0 _ _ l0=>bif Nat.beq sz0 de.size then bounds l0.length lo hi fun a b=>k (.c (.sw sz0 j a (b-a)))else False
      |none=>False
     | .sw sz j l0 n0=>match(s.ah[j]?).bind rowOf with
      |some L=>bif Nat.beq sz de.size then bounds n0 lo hi fun a b=>k (.c (.sw sz j (l0+a) (b-a)))else False
      |none=>False
     |_=>False
    |_,_=>False
   |_=>False
  |_,_,_=>uw tab s t x lo hi k
 | .extract x i=>match aM s x with
  | .tup ts=>match ts[i]? with
   |some (g,cs)=>bif g then k (.st cs)else match cs with|[c]=>k (.c c)|_=>False
   |none=>False
  |_=>False
 | .makeFunc (.func f) first caps=>match first.toList,pn s caps.toList with
  |[],some cs=>k (.c (.fn f cs))
  |_,_=>False
 | .makeInterface t x=>match tab t with
  |some d=>match d.kind with
   | .other=>False
   | .ifc=>False
   |_=>match aM s x with
    | .c c=>k (.c (.iface t false [c]))
    | .st cs=>k (.c (.iface t true cs))
    |_=>False
  |none=>False
 | .typeAssert x _ t true=>match tab t with
  |some d=>match d.kind with
   | .other=>False
   | .ifc=>False
   |_=>match aM s x with
    | .c (.iface t' g cs)=>bif Nat.beq t' t&&(g||Nat.beq cs.length 1)then k (.tup [(g,cs),(false,[.bool true])])else False
    |_=>False
  |none=>False
 | .call c=>match c.callee,c.args.toList,c.argTypes.toList with
  | .builtin .len,[x],[t]=>match tab t,aM s x with
   |some d,.c c=>match d.kind,c with
    | .str,.str l=>k (.c (.int .i64 l.length))
    | .sl _,.nil=>k (.c (.int .i64 0))
    | .sl _,c=>match jw s.ah c with
     |some L=>L.on fun _ _ _ l0=>k (.c (.int .i64 l0.length))
     |none=>False
    |_,_=>False
   |_,_=>False
  | .builtin .max,[x,y],_=>match aM s x,aM s y with
   | .c (.int .i64 a),.c (.int .i64 b)=>k (.c (.int .i64 (max a b)))
   |_,_=>False
  | .builtin .min,[x,y],_=>match aM s x,aM s y with
   | .c (.int .i64 a),.c (.int .i64 b)=>k (.c (.int .i64 (min a b)))
   |_,_=>False
  |_,_,_=>False
 |_=>False
def gE:Op→Bool
 | .load .. =>false
 | .convert .. =>false
 |_=>true
end Go.AM
end
section
namespace Go.AM
open Go Go.NB
section
variable {P:Program} {tab:Nat→Option TD} {E:En} {F:Nat→Prop} {γ:List Value} {s:St} {a:Act} {w:World} {o:Oper} {k:A→Prop}
def ER(F:Nat→Prop)(H:ab)(m:Md)(env:List (Nat×A))(a:Act):Prop:=∀t x,lk env t=some x→RA F H m x (a.tmps.getD t undef)
theorem Bp{F:Nat→Prop}{H:ab}{m:Md}(v:Value):RA F H m (r9 v) v:=by
 unfold r9;split
 ·exact .int .nl
 ·exact .bool .nl
 ·rename_i s;have:s=⟨s.data.toList.toArray⟩:=by cases s;simp
  have e:NB.str s.data.toList= .string s:=by unfold NB.str;rw[←this]
  rw[←e];cases hb:Nat.ble s.data.toList.length 9223372036854775807 with
  |false=>trivial
  |true=>exact .str (Nat.le_of_ble_eq_true hb) .nl
 ·exact .nil .nl
 ·exact .raw rfl .nl
 ·exact .raw rfl .nl
 ·exact .raw rfl .nl
 ·trivial
theorem kM{F:Nat→Prop}{H:ab}{m:Md}(hE:ER F H m s.env a)(x:Operand):RA F H m (aM s x) (a.eval x):=by
 cases x with
 |tmp t=>
  show RA F H m ((lk s.env t).getD .undef) _;cases h:lk s.env t with
  |none=>trivial
  |some y=>exact hE t y h
 |const v=>exact Bp v
 |func f=>exact .fn .nl .nl
 |global g=>trivial
theorem aU{F:Nat→Prop}{H:ab}{m:Md}(hE:ER F H m s.env a){x:Operand}{c:C}(h:aM s x= .c c):RL F H m [c] [a.eval x]:=by
 have:=kM hE x;rw[h]at this;exact this
theorem ou{F:Nat→Prop}{H:ab}{m:Md}(hE:ER F H m s.env a){x:Operand}{cs:List C}(h:aM s x= .st cs):∃vs,a.eval x= .agg vs.toArray∧RL F H m cs vs:=by
 have:=kM hE x;rw[h]at this;exact this
theorem cells_one{v:Value}(h:v.oneCell'=true):v.cells= #[v]:=by
 cases v<;>first|rfl|simp[Value.oneCell']at h
theorem ot{F:Nat→Prop}{H:ab}{m:Md}(hE:ER F H m s.env a){x:Operand}{cs:List C}(h:nC (aM s x)=some cs):∃vs,(a.eval x).cells=List.toArray vs∧RL F H m cs vs:=by
 have:=kM hE x;revert this h;cases aM s x with
 |undef=>intro h;cases h
 |off=>intro h;cases h
 |c y=>
  intro h hr;cases h;exact⟨[a.eval x],cells_one (hr.one _ (by simp)),hr⟩
 |st ds=>
  intro h hr;cases h;obtain⟨vs,h1,h2⟩:=hr;exact⟨vs,by rw[h1];rfl,h2⟩
 |tup _=>intro h;cases h
def Yd(P:Program)(F:Nat→Prop)(m:Md)(a:Act)(w:World)(o:Oper)(k:A→Prop):Prop:=
 ∃v x,k x∧RA F w.heap m x v∧∀w':World,(gE o.op=true∨ak [] w.heap w'.heap)→(execOp a.eval o).run P w'= .ok (.value v) w'
theorem iw{A' B':Prop}{b:Bool}(h:bif b then A' else B'):(b=true∧A')∨(b=false∧B'):=by
 cases b with
 |true=>exact .inl ⟨rfl,h⟩
 |false=>exact .inr ⟨rfl,h⟩
theorem Fy{A' B':Prop}{b:Bool}(h: @Bool.rec (fun _=>Prop) B' A' b):(b=true∧A')∨(b=false∧B'):=by
 cases b with
 |true=>exact .inl ⟨rfl,h⟩
 |false=>exact .inr ⟨rfl,h⟩
theorem bM{A':Prop}{b:Bool}(h:bif b then A' else False):b=true∧A':=(iw h).elim id fun h=>h.2.elim
def uT(P:Program)(F:Nat→Prop)(m:Md)(a:Act)(w:World)(o:Oper)(k:A→Prop)(b:Nat):Prop:=
 ∃v x,k x∧RA F w.heap m x v∧∀w':World,(∀q u,cell w.heap b q=some u→cell w'.heap b q=some u)→(execOp a.eval o).run P w'= .ok (.value v) w'
theorem uh(hT:bm P tab){t:Nat}{d:TD}(ht:tab t=some d){x:Operand}(ho:o.op= .load t x){m:Md}{cs:List C}{vs:List Value}{b off:Nat}(hr:RL F w.heap m cs vs)
  (hc:∀j u,vs[j]? =some u→cell w.heap b (off+j)=some u)(hx:a.eval x= .pointer (some ⟨b,off,none⟩))(h:rd d cs k):uT P F m a w o k b:=by
 unfold rd at h;obtain⟨hle,h⟩:=bM h;have hle:=Nat.le_of_ble_eq_true hle;have hl:=hr.length;rcases iw h with⟨hag,h⟩|⟨hag,h⟩
 ·refine⟨.agg (vs.take d.size).toArray,_,h,⟨_,rfl,hr.take _⟩,fun w' hk=>?_⟩;have hlen:(vs.take d.size).length=d.size:=by rw[List.length_take];omega
  have hag':=hT.agg t d ht w';rw[hag]at hag';have hz:=hT.size ht w'
  have := run_loadCells_list (P := P) (w := w') ⟨b, off, none⟩ (vs.take d.size) (fun j v hj=>by
   rw[Addr.add_lit,dg rfl];rw[List.getElem?_take]at hj;split at hj
   ·exact hk _ _ (hc j v hj)
   ·cases hj)
  rw[hlen]at this;unfold execOp;rw[ho];simp[hx,Instr.loadAt,Instr.sureAddr,loadVar,hag',hz,this]
 ·have h1:=hT.one t d ht hag;split at h
  ·rename_i x' cs';obtain⟨v,us,rfl,h2,h3⟩:=hr.ic;refine⟨v,_,h,h2,fun w' hk=>?_⟩;have hag':=hT.agg t d ht w';rw[hag]at hag';have:=hk _ _ (hc 0 v rfl);rw[Nat.add_zero]at this;unfold execOp;rw[ho];simp[hx,Instr.loadAt,Instr.sureAddr,loadVar,hag',dg rfl,this]
  ·exact h.elim
theorem ug(hT:bm P tab){t:Nat}{d:TD}(ht:tab t=some d){x:Operand}(ho:o.op= .load t x){m:Md}{cs:List C}{vs:List Value}{b off:Nat}(hr:RL F w.heap m cs vs)
  (hc:∀j u,vs[j]? =some u→cell w.heap b (off+j)=some u)(hx:a.eval x= .pointer (some ⟨b,off,none⟩))(h:rd d cs k):Yd P F m a w o k:=by
 obtain⟨v,y,h1,h2,h3⟩:=uh hT ht ho hr hc hx h;exact⟨v,y,h1,h2,fun w' hk=>h3 w' fun q u hq=>fj hq (hk.resolve_left (by rw[ho];simp[gE])) (by simp)⟩
theorem ph{cs:List C}{ty:Option Nat}{g:Value}{m:Md}{H:ab}(h:BR F H m (.box cs ty) g){o:Nat}:∃k vs,g= .pointer (some ⟨k,0,none⟩)∧RL F H m (cs.drop o) vs∧∀j u,vs[j]? =some u→cell H k (o+j)=some u:=by
 obtain⟨k,e,vs,rfl,h1,h2⟩:=h;refine⟨k,vs.drop o,rfl,h2.drop o,fun j u hj=>?_⟩;unfold cell;rw[h1];rw[List.getElem?_drop]at hj;simpa using hj
theorem zn{b:B}{L:LS}{g:Value}{H:ab}{m:Md}(h:BR F H m b g)(hL:rowOf b=some L){bk off n cap:Nat}(hg:g= .slice (some ⟨bk,off,none⟩) n cap){i:Nat}{x:L.α}(hi:L.l[i]? =some x)(o:Nat):
  ∃us,RL F H m0 ((L.enc x).drop o) us∧∀j u,us[j]? =some u→cell H bk (off+i*L.sz+o+j)=some u:=by
 have hs:=jY h hL;subst hg;obtain⟨us,h1,h2⟩:=hs.elem hi;refine⟨us.drop o,h1.drop o,fun j u hj=>?_⟩;rw[List.getElem?_drop]at hj;rw[Nat.add_assoc];exact h2 _ _ hj
theorem RL.up{H:ab}{m:Md}{cs:List C}{vs:List Value}(h:RL F H m0 cs vs):RL F H m cs vs:=
 h.ext ⟨fun _ h=>h,fun _ _ _ _ h=>h,fun _ h=>h.elim,fun j v h=>by cases h⟩
theorem HF(hT:bm P tab)(hE:ER F w.heap ⟨E.B,γ⟩ s.env a)(hW:WR E F γ s.ah w.heap){t:Nat}{x:Operand}(ho:o.op= .load t x)(h:Y1 tab s (.load t x) k):Yd P F ⟨E.B,γ⟩ a w o k:=by
 simp only[Y1]at h;split at h
 ·rename_i d ht;split at h
  ·rename_i j off hx;have hx:=aU hE hx;split at h
   ·rename_i cs hb;generalize hv:a.eval x=v at hx;cases hx with
    |ptr hg _=>
     obtain⟨k',vs,e,h1,h2⟩:=ph (o:=off) (hW.br j _ _ hb hg);cases e;exact ug hT ht ho h1 h2 hv h
   ·exact h.elim
  ·rename_i cs hx;have hx:=aU hE hx;generalize hv:a.eval x=v at hx;cases hx with
   |bp hb hr hc _=>exact ug hT ht ho (hr.ext ⟨fun _ h=>h,fun _ _ _ _ h=>h,fun _ h=>h,fun j v h=>by cases h⟩) hc hv h
  ·rename_i sz j i off hx;have hx:=aU hE hx;split at h
   ·rename_i L hb;rw[LS.mN]at h;obtain⟨hsz,y,hi,h'⟩:=bM h;obtain rfl:=Nat.eq_of_beq_eq_true hsz;generalize hv:a.eval x=v at hx;cases hx with
    |ep hg _=>
     obtain⟨b,hb1,hb2⟩:=Option.bind_eq_some_iff.1 hb;obtain⟨us,h1,h2⟩:=zn (hW.br j b _ hb1 hg) hb2 rfl hi off;exact ug hT ht ho h1.up h2 hv h'
   ·exact h.elim
  ·exact h.elim
 ·exact h.elim
theorem ss{fs:Array Field}{offs:List (Nat×Nat)}(h:fs.toList.map (fun f=>(f.type,f.offset))=offs){i e off:Nat}(hi:offs[i]? =some (e,off)):∃f,fs[i]? =some f∧f.type=e∧f.offset=off:=by
 subst h;rw[List.getElem?_map]at hi;cases hf:fs[i]? with
 |none=>rw[Array.getElem?_toList,hf]at hi;cases hi
 |some f=>
  rw[Array.getElem?_toList,hf]at hi;simp at hi;exact⟨f,rfl,hi.1,hi.2⟩
theorem ue{F:Nat→Prop}{H:ab}{m:Md}{j o:Nat}{v:Value}(h:RL F H m [.ptr j o] [v]):∃b,v= .pointer (some ⟨b,o,none⟩)∧∀o',RL F H m [.ptr j o'] [.pointer (some ⟨b,o',none⟩)]:=by
 cases h with
 |ptr hg _=>exact⟨_,rfl,fun o'=>.ptr hg .nl⟩
theorem rM{F:Nat→Prop}{H:ab}{m:Md}{cs:List C}{v:Value}(h:RL F H m [.bp cs] [v]):∃b o,v= .pointer (some ⟨b,o,none⟩)∧∀n,RL F H m [.bp (cs.drop n)] [.pointer (some ⟨b,o+n,none⟩)]:=by
 cases h with
 |bp hb hr hc _=>exact⟨_,_,rfl,fun n=>.bp hb (hr.drop n) (fun j u hj=>by rw[List.getElem?_drop]at hj;rw[Nat.add_assoc];exact hc _ _ hj) .nl⟩
theorem sj{F:Nat→Prop}{H:ab}{m:Md}{sz j i o:Nat}{v:Value}(h:RL F H m [.ep sz j i o] [v]):∃b off,v= .pointer (some ⟨b,off+o,none⟩)∧∀o',RL F H m [.ep sz j i o'] [.pointer (some ⟨b,off+o',none⟩)]:=by
 cases h with
 |ep hg _=>exact⟨_,_,rfl,fun o'=>.ep hg .nl⟩
theorem HC(hT:bm P tab)(hE:ER F w.heap ⟨E.B,γ⟩ s.env a){t i:Nat}{x:Operand}(ho:o.op= .fieldAddr t x i)(h:Y1 tab s (.fieldAddr t x i) k):Yd P F ⟨E.B,γ⟩ a w o k:=by
 simp only[Y1]at h;split at h
 ·rename_i d ht;have hk:=hT.kind t d ht;split at h
  ·rename_i offs hd;rw[hd]at hk;obtain⟨fs,hu,hfs,_⟩:=hk;split at h
   ·rename_i e off hi;obtain⟨f,hf,rfl,rfl⟩:=ss hfs hi;split at h
    ·rename_i de hde;have hz:=hT.size hde;rcases iw h with⟨_,h⟩|⟨hne,h⟩
     ·exact h.elim
     have hm:de.size≠0:=fun e=>by rw[e]at hne;cases hne
     have key:∀{b q:Nat} (w':World),a.eval x= .pointer (some ⟨b,q,none⟩)→(execOp a.eval o).run P w'= .ok (.value (.pointer (some ⟨b,q+f.offset,none⟩))) w':=fun w' hv=>by
      unfold execOp;rw[ho];simp[hv,zw hu hf hz hm]
     split at h
     ·rename_i j q hx;obtain⟨b,hv,hr⟩:=ue (aU hE hx);exact⟨_,_,h,hr _,fun w' _=>key w' hv⟩
     ·rename_i cs hx;obtain⟨b,q,hv,hr⟩:=rM (aU hE hx);exact⟨_,_,h,hr _,fun w' _=>key w' hv⟩
     ·rename_i sz j i' q hx;obtain⟨b,q',hv,hr⟩:=sj (aU hE hx);exact⟨_,_,h,hr _,fun w' _=>by rw[←Nat.add_assoc];exact key w' hv⟩
     ·exact h.elim
    ·exact h.elim
   ·exact h.elim
  ·exact h.elim
 ·exact h.elim
theorem HJ(hE:ER F w.heap ⟨E.B,γ⟩ s.env a){x:Operand}(ho:o.op= .nilCheck x)(h:Y1 tab s (.nilCheck x) k):Yd P F ⟨E.B,γ⟩ a w o k:=by
 simp only[Y1]at h
 have key:∀{p:Addr} (w':World),a.eval x= .pointer (some p)→(execOp a.eval o).run P w'= .ok (.value (.pointer (some p))) w':=fun w' hv=>by
  unfold execOp;rw[ho];simp[hv]
 split at h
 ·rename_i j q hx;obtain⟨b,hv,hr⟩:=ue (aU hE hx);exact⟨_,_,h,hr _,fun w' _=>key w' hv⟩
 ·rename_i cs hx;have hc:=aU hE hx;obtain⟨b,q,hv,hr⟩:=rM hc;exact⟨_,_,h,hc,fun w' _=>by rw[hv];exact key w' hv⟩
 ·rename_i sz j i' q hx;obtain⟨b,q',hv,hr⟩:=sj (aU hE hx);exact⟨_,_,h,hr _,fun w' _=>key w' hv⟩
 ·exact h.elim
theorem Ag(hE:ER F w.heap ⟨E.B,γ⟩ s.env a){x:Operand}(ho:o.op= .move x∨o.op= .assign x)(h:k (aM s x)):Yd P F ⟨E.B,γ⟩ a w o k:=
 ⟨_,_,h,kM hE x,fun w' _=>by rcases ho with ho|ho<;>(unfold execOp;rw[ho];simp)⟩
theorem HK(hE:ER F w.heap ⟨E.B,γ⟩ s.env a){c x y:Operand}(ho:o.op= .pick c x y)(h:Y1 tab s (.pick c x y) k):Yd P F ⟨E.B,γ⟩ a w o k:=by
 simp only[Y1]at h;split at h
 ·rename_i q hx;have hc:=aU hE hx;generalize hv:a.eval c=v at hc;cases hc with
  |bool _=>
   rcases Fy h with⟨rfl,h⟩|⟨rfl,h⟩
   ·exact⟨_,_,h,kM hE x,fun w' _=>by unfold execOp;rw[ho];simp[hv,asBool]⟩
   ·exact⟨_,_,h,kM hE y,fun w' _=>by unfold execOp;rw[ho];simp[hv,asBool]⟩
 ·exact h.elim
theorem HO(hE:ER F w.heap ⟨E.B,γ⟩ s.env a){u:UnOp}{t:Nat}{x:Operand}(ho:o.op= .unOp u t x)(h:Y1 tab s (.unOp u t x) k):Yd P F ⟨E.B,γ⟩ a w o k:=by
 cases u with
 |not=>
  simp only[Y1]at h;split at h
  ·rename_i q hx;have hc:=aU hE hx;generalize hv:a.eval x=v at hc;cases hc with
   |bool _=>exact⟨_,_,h,.bool .nl,fun w' _=>by unfold execOp;rw[ho];simp[hv,Op.unary]⟩
  ·exact h.elim
 |neg=>
  simp only[Y1]at h;split at h
  ·rename_i n hx;have hc:=aU hE hx;generalize hv:a.eval x=v at hc;cases hc with
   | int _ => exact ⟨_,_,h.2,.int .nl,fun w' _=>by
     have:=IntWalk.i64_in _ h.1;unfold execOp;rw[ho];simp[hv,Op.unary,Op.intArith]at*;exact this⟩
  ·exact h.elim
 |_=>simp only[Y1]at h
theorem Cj(w:World)(n:Nat){t:TypeId}{p:Addr}(h:∃e,P.underlying t=some (.pointer e)):(Op.equalIn (n+1) t (.pointer (some p)) (.pointer none)).run P w= .ok false w:=by
 obtain⟨e,h⟩:=h;simp[Op.equalIn,run_underlying h]
theorem wJ(w:World){t:TypeId}{p:Addr}(h:∃e,P.underlying t=some (.pointer e)):(Op.equal t (.pointer (some p)) (.pointer none)).run P w= .ok false w:=Cj w 9999 h
theorem Ck(w:World)(n:Nat){t:TypeId}(h:∃ms,P.underlying t=some (.interface ms)):(Op.equalIn (n+1) t .nilIface .nilIface).run P w= .ok true w:=by
 obtain⟨ms,h⟩:=h;simp[Op.equalIn,run_underlying h]
theorem wK(w:World){t:TypeId}(h:∃ms,P.underlying t=some (.interface ms)):(Op.equal t .nilIface .nilIface).run P w= .ok true w:=Ck w 9999 h
theorem xq(w:World){op:BinOp}{t:TypeId}{x y:Operand}(h:ta y=true):(eqGuard op t x y .nilIface .nilIface).run P w= .ok () w:=by
 cases y with
 |const v=>cases op<;>simp[eqGuard]
 |_=>cases h
theorem Hw(hT:bm P tab)(hE:ER F w.heap ⟨E.B,γ⟩ s.env a)(hW:WR E F γ s.ah w.heap){op:BinOp}{t u:Nat}{x y:Operand}(ho:o.op= .binOp op t x y u)(h:Y1 tab s (.binOp op t x y u) k):Yd P F ⟨E.B,γ⟩ a w o k:=by
 simp only[Y1]at h
 have run:∀{p q r:Value},a.eval x=p→a.eval y=q→(∀w,(binOp op t p q).run P w= .ok r w)→(∀w,(eqGuard op t x y p q).run P w= .ok () w)→∀w',(execOp a.eval o).run P w'= .ok (.value r) w':=fun hp hq h1 h2 w'=>by
  unfold execOp;rw[ho];simp[hp,hq,h1,h2]
 split at h
 ·rename_i b b' hx hy;have hc:=aU hE hx;have hc':=aU hE hy;generalize hv:a.eval x=v at hc;generalize hv':a.eval y=v' at hc';cases hc;cases hc';split at h
  ·rename_i d ht;have hk:=hT.kind t d ht;split at h
   ·rename_i hd;rw[hd]at hk;have hq:∀w,(Op.equal t (.bool b) (.bool b')).run P w= .ok (b==b') w:=fun w=>run_equal_bool w t b b' hk;exact⟨_,_,h,.bool .nl,fun w' _=>run hv hv' (fun w=>by simp[binOp,hq]) (fun w=>by rw[eqGuard_at_bool];rfl) w'⟩
   ·exact h.elim
  ·rename_i d ht;have hk:=hT.kind t d ht;split at h
   ·rename_i hd;rw[hd]at hk;have hq:∀w,(Op.equal t (.bool b) (.bool b')).run P w= .ok (b==b') w:=fun w=>run_equal_bool w t b b' hk;exact⟨_,_,h,.bool .nl,fun w' _=>run hv hv' (fun w=>by simp[binOp,hq]) (fun w=>by rw[eqGuard_at_bool];rfl) w'⟩
   ·exact h.elim
  ·exact h.elim
 ·rename_i c hx hy;have hc:=aU hE hx;have hc':=aU hE hy;split at h
  ·rename_i d ht;have hk:=hT.kind t d ht;split at h
   ·rename_i hd;rw[hd]at hk;cases hn:mr c with
    |false=>rw[hn]at h;exact h.elim
    |true=>
     rw[hn]at h;obtain rfl:=xK hn;generalize hv:a.eval x=v at hc;generalize hv':a.eval y=v' at hc';cases hc;cases hc';refine⟨_,_,h,.bool .nl,fun w' _=>run hv hv' (fun w=>?_) (fun w=>by rw[eqGuard_at_pointer];rfl) w'⟩;simp[binOp,wJ w hk]
   ·exact h.elim
  ·rename_i d ht;have hk:=hT.kind t d ht;split at h
   ·rename_i hd;rw[hd]at hk;cases hn:mr c with
    |false=>rw[hn]at h;exact h.elim
    |true=>
     rw[hn]at h;obtain rfl:=xK hn;generalize hv:a.eval x=v at hc;generalize hv':a.eval y=v' at hc';cases hc;cases hc';refine⟨_,_,h,.bool .nl,fun w' _=>run hv hv' (fun w=>?_) (fun w=>by rw[eqGuard_at_pointer];rfl) w'⟩;simp[binOp,wJ w hk]
   ·exact h.elim
  ·exact h.elim
 ·rename_i u v hx hy;have hc:=aU hE hx;have hc':=aU hE hy;split at h
  ·rename_i d ht;have hk:=hT.kind t d ht;split at h
   ·rename_i hd;rw[hd]at hk;obtain⟨hb,h3⟩:=bM h;clear h;simp only[Bool.and_eq_true]at hb;obtain⟨⟨hu,hv⟩,hky⟩:=hb;obtain rfl:=pV hu;obtain rfl:=pV hv;generalize hva:a.eval x=va at hc;generalize hvb:a.eval y=vb at hc';cases hc;cases hc';refine⟨_,_,h3,.bool .nl,fun w' _=>run hva hvb (fun w=>?_) (fun w=>xq w hky) w'⟩;simp[binOp,wK w hk]
   ·exact h.elim
  ·rename_i d ht;have hk:=hT.kind t d ht;split at h
   ·rename_i hd;rw[hd]at hk;obtain⟨hb,h3⟩:=bM h;clear h;simp only[Bool.and_eq_true]at hb;obtain⟨⟨hu,hv⟩,hky⟩:=hb;obtain rfl:=pV hu;obtain rfl:=pV hv;generalize hva:a.eval x=va at hc;generalize hvb:a.eval y=vb at hc';cases hc;cases hc';refine⟨_,_,h3,.bool .nl,fun w' _=>run hva hvb (fun w=>?_) (fun w=>xq w hky) w'⟩;simp[binOp,wK w hk]
   ·exact h.elim
  ·exact h.elim
 ·rename_i c _ hx hy;have hc:=aU hE hx;have hc':=aU hE hy;split at h
  ·rename_i d ht;have hk:=hT.kind t d ht;split at h
   ·rename_i e hd;rw[hd]at hk;split at h
    ·generalize hv:a.eval x=v at hc;generalize hv':a.eval y=v' at hc';cases hc;cases hc';exact⟨_,_,h,.bool .nl,fun w' _=>run hv hv' (fun w=>Lib.run_eql_slice_nil w t _ _ _ _ 0 0 hk) (fun w=>by rw[eqGuard_at_slice];rfl) w'⟩
    ·split at h
     ·rename_i L hL;rw[LS.mN]at h;have hs:=hW.sl hc hL;generalize hv:a.eval x=v at hs;generalize hv':a.eval y=v' at hc';cases hc';rcases hs with⟨p,rfl,hl⟩|⟨b,off,cap,css,rfl,_⟩
      ·exact⟨_,_,h _ (fun _=>hl),.bool .nl,fun w' _=>run hv hv' (fun w=>Lib.run_eql_slice_nil w t _ p _ _ 0 0 hk) (fun w=>by rw[eqGuard_at_slice];rfl) w'⟩
      ·exact⟨_,_,h false (fun h=>by cases h),.bool .nl,fun w' _=>run hv hv' (fun w=>Lib.run_eql_slice_nil w t _ (some _) _ _ 0 0 hk) (fun w=>by rw[eqGuard_at_slice];rfl) w'⟩
     ·exact h.elim
   ·exact h.elim
  ·exact h.elim
 ·rename_i c c' _ _ hx hy;obtain⟨r,x',h1,h2,h3,h4⟩:=AF (t:=t) (ox:=x) (oy:=y) h (aU hE hx) (aU hE hy);exact⟨r,x',h1,h2,fun w' _=>run rfl rfl h3 h4 w'⟩
 ·rename_i cs ds hx hy;obtain⟨vs,hv,hr⟩:=ou hE hx;obtain⟨us,hv',hr'⟩:=ou hE hy;split at h
  ·rename_i d ht;obtain⟨hc,h⟩:=bM h;rw[Bool.and_eq_true,Bool.and_eq_true]at hc;obtain⟨hm,hcmp⟩:=hT.cmp t d ht hc.1;refine⟨_,_,h,.bool .nl,fun w' _=>run hv hv' (fun w=>?_) (fun w=>run_eqGuard_agg w _ t x y _ _ hm) w'⟩;obtain⟨r,h1,h2⟩:=hcmp F _ _ cs ds vs us hc.2.1 hc.2.2 hr hr' w;rw[run_eql_struct];rw[show(Op.equalIn 10000 t (.agg vs.toArray) (.agg us.toArray)).run P w=_ from h1];show Result.ok (Value.bool r) w=_;congr 2
   exact Bool.eq_iff_iff.2 (h2.trans (@decide_eq_true_iff _ (Classical.propDecidable _)).symm)
  ·rename_i d ht;obtain⟨hc,h⟩:=bM h;rw[Bool.and_eq_true,Bool.and_eq_true]at hc;obtain⟨hm,hcmp⟩:=hT.cmp t d ht hc.1;refine⟨_,_,h,.bool .nl,fun w' _=>run hv hv' (fun w=>?_) (fun w=>run_eqGuard_agg w _ t x y _ _ hm) w'⟩;obtain⟨r,h1,h2⟩:=hcmp F _ _ cs ds vs us hc.2.1 hc.2.2 hr hr' w;rw[run_neq_struct];rw[show(Op.equalIn 10000 t (.agg vs.toArray) (.agg us.toArray)).run P w=_ from h1];show Result.ok (Value.bool (!r)) w=_;congr 3
   exact Bool.eq_iff_iff.2 (h2.trans (@decide_eq_true_iff _ (Classical.propDecidable _)).symm)
  ·exact h.elim
 ·exact h.elim
end
end Go.AM
end
section
namespace Go.AM
open Go Go.NB
section
variable {P:Program} {tab:Nat→Option TD} {E:En} {F:Nat→Prop} {γ:List Value} {s:St} {a:Act} {w:World} {o:Oper} {k:A→Prop}
theorem vp{H:ab}{m:Md}(hE:ER F H m s.env a){x:Operand}{n:Int}(h:asInt s x=some n):∃q,a.eval x= .int q n:=by
 unfold asInt at h;split at h
 ·rename_i q n' hx;cases h;have:=aU hE hx;generalize hv:a.eval x=v at this;cases this;exact⟨_,rfl⟩
 ·cases h
theorem y8(hT:bm P tab){t:Nat}{d:TD}(ht:tab t=some d){m:Md}{H:ab}{cs:List C}{vs:List Value}{off:Nat}(hr:RL F H m cs vs)(h:rd d (cs.drop off) k):
  ∃v x,k x∧RA F H m x v∧∀w,(part t vs.toArray off).run P w= .ok v w:=by
 unfold rd at h;obtain⟨hle,h⟩:=bM h;have hle:=Nat.le_of_ble_eq_true hle;have hr':=hr.drop off;have hl:=hr'.length;rcases iw h with⟨hag,h⟩|⟨hag,h⟩
 ·refine⟨_,_,h,⟨_,rfl,hr'.take _⟩,fun w=>?_⟩;have hag':=hT.agg t d ht w;rw[hag]at hag';simp[part,hag',hT.size ht w]
 ·split at h
  ·rename_i x' cs' hcs;rw[hcs]at hr';obtain⟨v,us,hvs,h2,h3⟩:=hr'.ic;refine⟨v,_,h,h2,fun w=>?_⟩;have hag':=hT.agg t d ht w;rw[hag]at hag'
   have:vs[off]? =some v:=by
    have:=congrArg List.head? hvs;simpa using this
   simp[part,hag',this]
  ·exact h.elim
theorem HB(hT:bm P tab)(hE:ER F w.heap ⟨E.B,γ⟩ s.env a){t i:Nat}{x:Operand}(ho:o.op= .field t x i)(h:Y1 tab s (.field t x i) k):Yd P F ⟨E.B,γ⟩ a w o k:=by
 simp only[Y1]at h;split at h
 ·rename_i d ht;have hk:=hT.kind t d ht;split at h
  ·rename_i offs hd;rw[hd]at hk;obtain⟨fs,hu,hfs,_⟩:=hk;split at h
   ·rename_i e off hi;obtain⟨f,hf,rfl,rfl⟩:=ss hfs hi;split at h
    ·rename_i _ _ de cs hde hx;obtain⟨vs,hv,hr⟩:=ou hE hx;obtain⟨v,y,h1,h2,h3⟩:=y8 hT hde hr h;exact⟨v,y,h1,h2,fun w' _=>by unfold execOp;rw[ho];simp[hv,Instr.field,run_underlying hu,hf,asAgg,h3]⟩
    ·exact h.elim
   ·exact h.elim
  ·exact h.elim
 ·exact h.elim
theorem run_places{fs:List Field}(hT:bm P tab)(hs:∀f∈fs,(tab f.type).isSome=true)(w:World):
  (fs.mapM fun f=>Prod.mk f.offset<$>sizeOf f.type).run P w= .ok (fs.map fun f=>(f.offset,((tab f.type).map (·.size)).getD 0)) w:=by
 induction fs with
 |nil=>simp
 |cons f fs ih=>
  obtain⟨d,hd⟩:=Option.isSome_iff_exists.1 (hs f (by simp));simp[List.mapM_cons,hT.size hd w,ih (fun g hg=>hs g (by simp[hg])),hd]
theorem rN{m:Md}{H:ab}(hE:ER F H m s.env a){place:Nat→Option (Nat×Nat)}{offs:List (Nat×Nat)}(hplace:∀i e off d,offs[i]? =some (e,off)→tab e=some d→place i=some (off,d.size)){kk:List C→Prop}:
  ∀(parts:List (Nat×Operand)) (cs:List C) (vs:List Value),RL F H m cs vs→l5 tab offs (parts.map fun p=>(p.1,aM s p.2)) cs kk→
   ∃cs' vs',kk cs'∧RL F H m cs' vs'∧Instr.fill place vs.toArray (parts.map fun p=>(p.1,a.eval p.2))=some vs'.toArray
 |[],cs,vs,hr,h=>⟨cs,vs,h,hr,rfl⟩
 |(i,x)::r,cs,vs,hr,h=>by
  simp only[List.map_cons,l5]at h;split at h
  ·rename_i _ _ e off new hi hx;split at h
   ·rename_i d hd;obtain⟨hcnd,h⟩:=bM h;rw[Bool.and_eq_true]at hcnd;have h1:=Nat.eq_of_beq_eq_true hcnd.1;have h2:=Nat.le_of_ble_eq_true hcnd.2;have hpl:=hplace i e off d hi hd;obtain⟨us,hu,hru⟩:=ot hE hx;have hlu:=hru.length;have hlv:=hr.length
    have hr':RL F H m (cs.take off++(new++cs.drop (off+new.length))) (vs.take off++(us++vs.drop (off+us.length))):=
     (hr.take _).append (hru.append (by rw[hlu];exact hr.drop _))
    obtain⟨cs',vs',h3,h4,h5⟩:=rN hE hplace r _ _ hr' h;refine⟨cs',vs',h3,h4,?_⟩;rw[List.map_cons,Instr.fill];simp only[hpl];have hsz:(a.eval x).cells.size=us.length:=by rw[hu];rfl
    rw[if_neg (by simp[hsz];omega)];have hfold:=w8 us off 0 vs.toArray (by simp;omega);simp only[Nat.add_zero]at hfold
    have he:(a.eval x).cells.zipIdx.foldl (fun cs (x:Value×Nat)=>cs.setIfInBounds (off+x.2) x.1) vs.toArray=(vs.take off++(us++vs.drop (off+us.length))).toArray:=by
     apply Array.toList_inj.1;rw[hu]
     have:(us.toArray.zipIdx.foldl (fun cs (x:Value×Nat)=>cs.setIfInBounds (off+x.2) x.1) vs.toArray)=((us.zipIdx 0).foldl (fun cs (x:Value×Nat)=>cs.setIfInBounds (off+x.2) x.1) vs.toArray):=by
      simp
     rw[this,hfold];simp
    rw[he];exact h5
   ·exact h.elim
  ·exact h.elim
theorem A4(hT:bm P tab){m:Md}{H:ab}(hE:ER F H m s.env a){fs:Array Field}{offs:List (Nat×Nat)}(hfs:fs.toList.map (fun f=>(f.type,f.offset))=offs){kk:List C→Prop}(parts:List (Nat×Operand))(cs:List C)(vs:List Value)(hr:RL F H m cs vs)(h:l5 tab offs (parts.map fun p=>(p.1,aM s p.2)) cs kk):
  ∃cs' vs',kk cs'∧RL F H m cs' vs'∧Instr.fill (fun i=>(fs.toList.map fun f=>(f.offset,((tab f.type).map (·.size)).getD 0))[i]?) vs.toArray (parts.map fun p=>(p.1,a.eval p.2))=some vs'.toArray:=
 rN hE (fun i e off d hi hd=>by
  obtain⟨f,hf,rfl,rfl⟩:=ss hfs hi;rw[List.getElem?_map,Array.getElem?_toList,hf];simp[hd]) parts cs vs hr h
theorem Hx(hT:bm P tab)(hE:ER F w.heap ⟨E.B,γ⟩ s.env a){t:Nat}{parts:Array (Nat×Operand)}(ho:o.op= .build t parts)(h:Y1 tab s (.build t parts) k):Yd P F ⟨E.B,γ⟩ a w o k:=by
 simp only[Y1]at h;split at h
 ·rename_i d ht;have hk:=hT.kind t d ht;split at h
  ·rename_i offs hd;rw[hd]at hk;obtain⟨fs,hu,hfs,hsome⟩:=hk;obtain⟨z,zs,hz,hzc,hzr⟩:=hT.zero ht;obtain⟨cs',vs',h1,h2,h3⟩:=A4 hT hE hfs parts.toList d.zero zs (hzr F w.heap ⟨E.B,γ⟩) h;refine⟨_,_,h1,⟨vs',rfl,h2⟩,fun w' _=>?_⟩
   have hpl := run_places hT (fs := fs.toList) (fun f hf=>by
    have:=List.all_eq_true.1 hsome (f.type,f.offset) (by rw[←hfs];exact List.mem_map.2 ⟨f,hf,rfl⟩);exact this) w'
   have hm:(List.map (fun p=>(p.1,a.eval p.2)) parts.toList)=(Array.map (fun x=>match x with|(i,x)=>(i,a.eval x)) parts).toList:=by simp
   rw[hm]at h3;unfold execOp;rw[ho];simp only[Sem.run_bind,Instr.build,hz,Result.andThen_ok,run_underlying hu,Array.mapM_eq_mapM_toList];simp[hpl,hzc];have h3':=h3;simp at h3';simp[h3']
  ·rename_i n e hd;rw[hd]at hk;split at h
   ·rename_i de hde;obtain⟨z,zs,hz,hzc,hzr⟩:=hT.zero ht
    obtain ⟨cs', vs', h1, h2, h3⟩ := rN hE (place := fun i => some (i * de.size, de.size)) (fun i e' off d' hi hd'=>by
     rw[List.getElem?_map]at hi;obtain⟨j,hj,hji⟩:=Option.map_eq_some_iff.1 hi
     have hj2:j=i:=by
      obtain⟨hlt,he⟩:=List.getElem?_eq_some_iff.1 hj;rw[List.getElem_range]at he;exact he.symm
     subst hj2;obtain⟨rfl,rfl⟩:=Prod.mk.inj hji;rw[hde]at hd';cases hd';rfl) parts.toList d.zero zs (hzr F w.heap ⟨E.B,γ⟩) h
    refine⟨_,_,h1,⟨vs',rfl,h2⟩,fun w' _=>?_⟩;have hm:(List.map (fun p=>(p.1,a.eval p.2)) parts.toList)=(Array.map (fun x=>match x with|(i,x)=>(i,a.eval x)) parts).toList:=by simp
    rw[hm]at h3;unfold execOp;rw[ho];simp only[Sem.run_bind,Instr.build,hz,Result.andThen_ok,run_underlying hk,hT.size hde,hzc];have h3':=h3;simp at h3';simp[h3']
   ·exact h.elim
  ·exact h.elim
 ·exact h.elim
theorem run_indexAt{t e:Nat}{b off n m sz i:Nat}{q:IntKind}(ht:P.underlying t=some (.slice e))(hz:∀w,(sizeOf e).run P w= .ok sz w)(hi:i<n)(w:World):
  (Instr.indexAt t (.slice (some ⟨b,off,none⟩) n m) (.int q (i:Int))).run P w= .ok (.pointer (some ⟨b,off+i*sz,none⟩)) w:=by
 simp[Instr.indexAt,run_underlying ht,hz,asIntOf,hi,Addr.add_lit]
theorem HE(hT:bm P tab)(hE:ER F w.heap ⟨E.B,γ⟩ s.env a)(hW:WR E F γ s.ah w.heap){t:Nat}{x y:Operand}(ho:o.op= .indexAddr t x y)(h:Y1 tab s (.indexAddr t x y) k):Yd P F ⟨E.B,γ⟩ a w o k:=by
 simp only[Y1]at h
 have run:∀{p q r:Value},a.eval x=p→a.eval y=q→(∀w,(Instr.indexAt t p q).run P w= .ok r w)→∀w',(execOp a.eval o).run P w'= .ok (.value r) w':=fun hp hq h1 w'=>by
  unfold execOp;rw[ho];simp[hp,hq,h1]
 split at h
 ·rename_i d n ht hn;obtain⟨q,hq⟩:=vp hE hn;have hk:=hT.kind t d ht;split at h
  ·rename_i e hd;rw[hd]at hk;split at h
   ·rename_i _ _ de c hde hx;have hc:=aU hE hx;have hz:=hT.size hde;split at h
    ·rename_i sz α enc l;obtain⟨i,z,rfl,hi,h⟩:=h;obtain⟨hsz,h'⟩:=bM h;obtain rfl:=Nat.eq_of_beq_eq_true hsz;have hs:SV F w.heap ⟨_,α,enc,l⟩ (a.eval x):=hc.sv;have hlt:=(List.getElem?_eq_some_iff.1 hi).1;generalize hv:a.eval x=v at hc hs;cases hc with
     |ls0 _=>cases hlt
     |ls hb h1 h2 hr hz' hcc _=>
      obtain⟨us,h3,h4⟩:=hs.elem hi;exact⟨_,_,h',.bp (.inl hb) h3.up h4 .nl,fun w' _=>run hv hq (run_indexAt hk hz hlt) w'⟩
    ·rename_i sz α enc l;obtain⟨i,z,rfl,hi,h⟩:=h;obtain⟨hsz,h'⟩:=bM h;obtain rfl:=Nat.eq_of_beq_eq_true hsz;have hs:SV F w.heap ⟨_,α,enc,l⟩ (a.eval x):=hW.sl hc rfl;have hlt:=(List.getElem?_eq_some_iff.1 hi).1;generalize hv:a.eval x=v at hc hs;cases hc with
     |bs0 _=>cases hlt
     |bs hb h1 h2 hr hz' hcc _=>
      obtain⟨us,h3,h4⟩:=hs.elem hi;exact⟨_,_,h',.bp hb h3.up h4 .nl,fun w' _=>run hv hq (run_indexAt hk hz hlt) w'⟩
    ·rename_i j;split at h
     ·rename_i L hL;rw[LS.mN]at h;obtain⟨i,⟨rfl,hlt⟩,h⟩:=h;obtain⟨hsz,h⟩:=bM h;have hsz:=Nat.eq_of_beq_eq_true hsz;have hs:SV F w.heap L (a.eval x):=hW.sl hc hL;obtain⟨b,off,cap,hv⟩:=hs.some (by omega);rw[hv]at hc;cases hc with
      | @rw _ _ p' q' n' cap' _ _ hg hqq _=>
       obtain⟨_,_,e1,e2,_⟩:=hs.slice;rw[hv]at e1;cases e1;have hp:=hqq (by omega);rw[←hp]at hg;rw[hsz]at h;exact⟨_,_,h,.ep hg .nl,fun w' _=>run hv hq (run_indexAt hk hz hlt) w'⟩
     ·exact h.elim
    ·rename_i sz j lo m;split at h
     ·rename_i L hL;rw[LS.mN]at h;obtain⟨hsz,i,⟨rfl,hlt⟩,h'⟩:=bM h;obtain rfl:=Nat.eq_of_beq_eq_true hsz;generalize hv:a.eval x=v at hc;cases hc with
      | @sw _ _ _ _ _ p q' n0 cap _ _ hg hle hqq _=>
       obtain⟨b,hb1,hb2⟩:=Option.bind_eq_some_iff.1 hL;have hs:SV F w.heap L _:=jY (hW.br j b _ hb1 hg) hb2;obtain⟨_,_,e1,e2,_⟩:=hs.slice;cases e1;obtain⟨bk,off,cap',e3⟩:=hs.some (by omega);cases e3;have hp:=hqq (by omega);simp only[Option.map_some,Addr.add_lit]at hp;subst hp;refine⟨.pointer (some ⟨bk,off+lo*de.size+i*de.size,none⟩),_,h',?_,fun w' _=>run hv hq (run_indexAt hk hz hlt) w'⟩;rw[show off+lo*de.size+i*de.size=off+(lo+i)*de.size+0 by rw[Nat.add_mul];omega];exact .ep hg .nl
     ·exact h.elim
    ·exact h.elim
   ·exact h.elim
  ·rename_i len e hd;rw[hd]at hk;split at h
   ·rename_i _ _ de j off hde hx;obtain⟨b,hv,hr⟩:=ue (aU hE hx);obtain⟨i,⟨rfl,hlt⟩,h⟩:=h;exact⟨_,_,h,hr _,fun w' _=>run hv hq (fun w=>by simp[Instr.indexAt,Instr.sureAddr,run_underlying hk,hT.size hde,asIntOf,hlt,Addr.add_lit]) w'⟩
   ·rename_i _ _ de cs hde hx;obtain⟨b,off,hv,hr⟩:=rM (aU hE hx);obtain⟨i,⟨rfl,hlt⟩,h⟩:=h;exact⟨_,_,h,hr _,fun w' _=>run hv hq (fun w=>by simp[Instr.indexAt,Instr.sureAddr,run_underlying hk,hT.size hde,asIntOf,hlt,Addr.add_lit]) w'⟩
   ·rename_i _ _ de sz j i0 o' hde hx;obtain⟨b,q',hv,hr⟩:=sj (aU hE hx);obtain⟨i,⟨rfl,hlt⟩,h⟩:=h;exact⟨_,_,h,hr _,fun w' _=>by rw[←Nat.add_assoc];exact run hv hq (fun w=>by simp[Instr.indexAt,Instr.sureAddr,run_underlying hk,hT.size hde,asIntOf,hlt,Addr.add_lit]) w'⟩
   ·exact h.elim
  ·exact h.elim
 ·exact h.elim
theorem HD(hT:bm P tab)(hE:ER F w.heap ⟨E.B,γ⟩ s.env a){t:Nat}{x y:Operand}(ho:o.op= .index t x y)(h:Y1 tab s (.index t x y) k):Yd P F ⟨E.B,γ⟩ a w o k:=by
 simp only[Y1]at h;split at h
 ·rename_i d n ht hn;obtain⟨q,hq⟩:=vp hE hn;have hk:=hT.kind t d ht;split at h
  ·rename_i hd;rw[hd]at hk;split at h
   ·rename_i l hx;have hc:=aU hE hx;generalize hv:a.eval x=v at hc;cases hc with
    |str _ _=>
     obtain⟨i,b,rfl,hi,h⟩:=h;obtain⟨hlt,rfl⟩:=List.getElem?_eq_some_iff.1 hi;refine⟨_,_,h,.int .nl,fun w' _=>?_⟩;have hs:i<(⟨l.toArray⟩:ByteArray).size:=hlt;unfold execOp;rw[ho];simp only[hv,hq,NB.str,Sem.run_bind,run_index_string w' t _ _ _ hk];simp[hs];rfl
   ·exact h.elim
  ·rename_i len e hd;rw[hd]at hk;split at h
   ·rename_i _ _ de cs hde hx;obtain⟨vs,hv,hr⟩:=ou hE hx;obtain⟨i,⟨rfl,hlt⟩,h⟩:=h;obtain⟨v,y',h1,h2,h3⟩:=y8 hT hde hr h;exact⟨v,y',h1,h2,fun w' _=>by unfold execOp;rw[ho];simp[hv,hq,Instr.index,run_underlying hk,asIntOf,hlt,hT.size hde,h3]⟩
   ·exact h.elim
  ·exact h.elim
 ·exact h.elim
theorem vn{H:ab}{m:Md}(hE:ER F H m s.env a){x:Option Operand}{n:Option Int}(h:pa s x=some n):x.map a.eval=n.map fun n=>.int .i64 n:=by
 unfold pa at h;split at h
 ·cases h;rfl
 ·rename_i x;split at h
  ·rename_i n' hx;cases h;have:=aU hE hx;generalize hv:a.eval x=v at this;cases this;simp[hv]
  ·cases h
theorem lZ{n:Nat}{lo hi:Option Int}{kk:Nat→Nat→Prop}(h:bounds n lo hi kk):∃x y:Nat,kk x y∧x≤y∧y≤n∧∃lo' hi':Option Nat,lo=lo'.map (fun a=>((a:Nat):Int))∧hi=hi'.map (fun a=>((a:Nat):Int))∧lo'.getD 0=x∧hi'.getD n=y:=by
 obtain⟨x,y,h1,h2,h3,h4⟩:=h;refine⟨x,y,h4,h3.1,h3.2,?_⟩;cases lo with
 |none=>
  cases hi with
  |none=>exact⟨none,none,rfl,rfl,h1.symm,h2.symm⟩
  |some b=>simp only[]at h1 h2;exact⟨none,some y,rfl,by rw[h2];rfl,h1.symm,rfl⟩
 |some b=>
  cases hi with
  |none=>simp only[]at h1 h2;exact⟨some x,none,by rw[h1];rfl,rfl,rfl,h2.symm⟩
  |some b'=>simp only[]at h1 h2;exact⟨some x,some y,by rw[h1];rfl,by rw[h2];rfl,rfl,rfl⟩
theorem oF{t e:Nat}{sz:Nat}(ht:P.underlying t=some (.slice e))(hz:∀w,(sizeOf e).run P w= .ok sz w)(p:Option Addr)(n cap:Nat)(lo hi:Option Nat)(hlo:lo.getD 0≤hi.getD n)(hhi:hi.getD n≤cap)(w:World):
  (Instr.sliceAt t (.slice p n cap) (lo.map fun x=>.int .i64 (x:Nat)) (hi.map fun x=>.int .i64 (x:Nat)) .none).run P w=
   .ok (.slice (if cap=lo.getD 0 then p else p.map (·.add (lo.getD 0*sz))) (hi.getD n-lo.getD 0) (cap-lo.getD 0)) w:=by
 cases lo with
 |none=>
  cases hi with
  |none=>simp[Instr.sliceAt,Instr.slice,run_underlying ht,Instr.sliceBounds,hz]at hlo hhi⊢
  |some h=>
   simp at hlo hhi;simp[Instr.sliceAt,Instr.slice,run_underlying ht,Instr.sliceBounds,Instr.sliceBound,asIntOf,hz,hhi]
 |some l=>
  cases hi with
  |none=>
   simp at hlo hhi;simp[Instr.sliceAt,Instr.slice,run_underlying ht,Instr.sliceBounds,Instr.sliceBound,asIntOf,hz,hlo]
  |some h=>
   simp at hlo hhi;simp[Instr.sliceAt,Instr.slice,run_underlying ht,Instr.sliceBounds,Instr.sliceBound,asIntOf,hz,hlo,hhi]
theorem Ge{t:Nat}(ht:P.underlying t=some .string)(l:List UInt8)(lo hi:Option Nat)(hlo:lo.getD 0≤hi.getD l.length)(hhi:hi.getD l.length≤l.length)(w:World):
  (Instr.sliceAt t (NB.str l) (lo.map fun x=>.int .i64 (x:Nat)) (hi.map fun x=>.int .i64 (x:Nat)) .none).run P w= .ok (NB.str ((l.take (hi.getD l.length)).drop (lo.getD 0))) w:=by
 have e:(⟨l.toArray⟩:ByteArray).size=l.length:=rfl
 have key:∀x y:Nat,x≤y→y≤l.length→(⟨l.toArray⟩:ByteArray).extract x y=⟨((l.take y).drop x).toArray⟩:=fun x y h1 h2=>by
  apply ByteArray.ext;simp[ByteArray.data_extract];rw[List.drop_take]
 cases lo with
 |none=>
  cases hi with
  |none=>
   have:=key 0 l.length (by omega) (by omega);simp[Instr.sliceAt,Instr.slice,run_underlying ht,Instr.sliceBounds,NB.str,e,this]at hlo hhi⊢
  |some h=>
   simp at hlo hhi;have:=key 0 h (by omega) (by omega);simp[Instr.sliceAt,Instr.slice,run_underlying ht,Instr.sliceBounds,Instr.sliceBound,asIntOf,NB.str,e,hhi,this]
 |some x=>
  cases hi with
  |none=>
   simp at hlo hhi;have:=key x l.length (by omega) (by omega);simp[Instr.sliceAt,Instr.slice,run_underlying ht,Instr.sliceBounds,Instr.sliceBound,asIntOf,NB.str,e,hlo,this]
  |some h=>
   simp at hlo hhi;have:=key x h (by omega) (by omega);simp[Instr.sliceAt,Instr.slice,run_underlying ht,Instr.sliceBounds,Instr.sliceBound,asIntOf,NB.str,e,hlo,hhi,this]
theorem RL.cut{H:ab}{m:Md}{sz:Nat}{α:Type}{enc:α→List C}{l:List α}{p:Option Addr}{n cap:Nat}(h:RL F H m [.ls sz α enc l] [.slice p n cap]){x y:Nat}(hx:x≤y)(hy:y≤l.length):
  RL F H m [.ls sz α enc ((l.drop x).take (y-x))] [fA sz x (y-x) (.slice p n cap)]:=by
 have hn:n=l.length:=by
  obtain⟨p',cap',e,_⟩:=h.sv.slice;cases e;rfl
 cases h with
 |ls0 _=>
  simp at hy;obtain rfl:y=0:=hy;obtain rfl:x=0:=by omega
  simp only[List.drop_nil,List.take_nil,fA];exact .ls0 .nl
 |ls hb g1 g2 hr hz hc _=>
  have hs:=(RL.ls (m:=m) hb g1 g2 hr hz hc .nl).sv.part (lo:=x) (n:=y-x) (by omega);generalize hu:fA sz x (y-x) _=u at hs;rcases hs with⟨p',rfl,e⟩|⟨b,off,cap',css,rfl,h1,h2,h3,h4,h5⟩
  ·have e:(l.drop x).take (y-x)=[]:=e;rw[e];exact .ls0 .nl
  ·have hb' : ∃ off', b = _ ∧ off' = off := ⟨off,by
    simp only[fA]at hu;split at hu
    ·simp at hu;exact hu.1.1.symm
    ·simp[Addr.add_lit]at hu;exact hu.1.1.symm,rfl⟩
   obtain⟨_,rfl,rfl⟩:=hb';exact .ls hb h1 h2 h3 h4 h5 .nl
theorem RL.wv{H:ab}{m:Md}{sz:Nat}{α:Type}{enc:α→List C}{l:List α}{p:Option Addr}{n cap:Nat}(hv:SV F H ⟨sz,α,enc,l⟩ (.slice p n cap))(h:RL F H m [.bs sz α enc l] [.slice p n cap]){x y:Nat}(hx:x≤y)(hy:y≤l.length):
  RL F H m [.bs sz α enc ((l.drop x).take (y-x))] [fA sz x (y-x) (.slice p n cap)]:=by
 have hn:n=l.length:=by
  obtain⟨p',cap',e,_⟩:=hv.slice;cases e;rfl
 cases h with
 |bs0 _=>
  simp at hy;obtain rfl:y=0:=hy;obtain rfl:x=0:=by omega
  simp only[List.drop_nil,List.take_nil,fA];exact .bs0 .nl
 |bs hb g1 g2 hr hz hc _=>
  have hs:=hv.part (lo:=x) (n:=y-x) (by omega);generalize hu:fA sz x (y-x) _=u at hs;rcases hs with⟨p',rfl,e⟩|⟨b,off,cap',css,rfl,h1,h2,h3,h4,h5⟩
  ·have e:(l.drop x).take (y-x)=[]:=e;rw[e];exact .bs0 .nl
  ·have hb' : ∃ off', b = _ ∧ off' = off := ⟨off,by
    simp only[fA]at hu;split at hu
    ·simp at hu;exact hu.1.1.symm
    ·simp[Addr.add_lit]at hu;exact hu.1.1.symm,rfl⟩
   obtain⟨_,rfl,rfl⟩:=hb';exact .bs hb h1 h2 h3 h4 h5 .nl
end
end Go.AM
end
