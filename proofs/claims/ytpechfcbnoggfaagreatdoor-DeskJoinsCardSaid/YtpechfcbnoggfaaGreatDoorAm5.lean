import Derived.Test.YtpechfcbnoggfaaGreatDoorAm2
import Derived.Lib.SliceRun
set_option linter.unusedVariables false
set_option linter.unusedSimpArgs false
open Array renaming getElem?_toList->a4,map->b0
open Bool renaming and_eq_true->a3,eq_iff_iff->be
open ByteArray renaming data_extract->bn,ext->b3
open Classical renaming propDecidable->a0
open List renaming getElem?_eq_some_iff->ar,getElem?_drop->a5,getElem?_map->a9,map_cons->bh,drop_nil->bi,take_nil->bj,map->b1
open Nat renaming eq_of_beq_eq_true->ap,beq->a1,le_of_ble_eq_true->a2,add_assoc->a6,add_zero->bl,ble->b2
open Option renaming bind_eq_some_iff->bb
section
namespace Go.AM
open Go Go.NB
def o5(tab:Nat->Option TD)(offs:List (Nat×Nat)):List (Nat×A)->List C->(List C->Prop)->Prop
 |[],b,k=>k b
 |(i,x)::r,b,k=>match offs[i]?,qx x with
  |some (e,a),some new=>match tab e with
   |some d=>bif a1 new.length d.size&&b2 (a+new.length) b.length then o5 tab offs r (b.take a++(new++b.drop (a+new.length))) k else False
   |none=>False
  |_,_=>False
def asInt(s:St)(x:Operand):Option Int:=match aW s x with
 | .c (.int _ n)=>some n
 |_=>none
def sn(s:St):Option Operand->Option (Option Int)
 |none=>some none
 |some x=>match aW s x with
  | .c (.int .i64 n)=>some (some n)
  |_=>none
def yi(tab:Nat->Option TD)(s:St)(t:Nat)(x:Operand)(lo hi:Option Operand)(k:A->Prop):Prop:=match tab t,lo,hi with
 |some d,some lo,some hi=>match d.kind,aW s x,aW s lo,aW s hi with
  | .str,.c (.str l),.c (.int .u8 a),.c (.int .u8 b)=>∃i j:Nat,(a=(i:Int)/\b=(j:Int))/\(i<=j/\j<=l.length)/\k (.c (.str ((l.take j).drop i)))
  |_,_,_,_=>False
 |_,_,_=>False
def bounds(n:Nat)(lo hi:Option Int)(k:Nat->Nat->Prop):Prop:=
 ∃a b:Nat,(match lo with|some x=>x=(a:Int)|none=>a=0)/\(match hi with|some x=>x=(b:Int)|none=>b=n)/\(a<=b/\b<=n)/\k a b
def sD(s:St):List Operand->Option (List C)
 |[]=>some []
 |x::r=>match aW s x,sD s r with
  | .c c,some a=>some (c::a)
  |_,_=>none
def AJ(tab:Nat->Option TD)(ah:List B)(ks a:TK)(x:C)(k:A->Prop):Prop:=
 match ks,a,x with
 | .int _,.int q,.int _ n=>k (.c (.int q (q.wrap n)))
 | .str,.str,.str l=>k (.c (.str l))
 | .sl e,.str,x=>match tab e with
  |some d=>match d.kind,x with
   | .int .u8,.nil=>k (.c (.str []))
   | .int .u8,x=>∃l:List UInt8,lE ah x=some ⟨1,UInt8,aN,l⟩/\k (.c (.str l))
   |_,_=>False
  |none=>False
 |_,_,_=>False
def LS.on(L:LS)(k:(sz:Nat)->(α:Type)->(enc:α->List C)->(l:List α)->Prop):Prop:=match L with
 |⟨sz,α,enc,l⟩=>k sz α enc l
theorem LS.pM{L:LS}{k:(sz:Nat)->(α:Type)->(enc:α->List C)->(l:List α)->Prop}:L.on k=k L.sz L.α L.enc L.l:=rfl
def Qi:Value->Bool
 | .nilIface=>true
 |_=>false
def o6:Value->Value->Option Bool
 | .nilIface,.nilIface=>some true
 | .iface _ _,.nilIface=>some false
 |_,_=>none
def wZ:Operand->Bool
 | .const _=>true
 |_=>false
def px:Value->Bool
 | .pointer none=>true
 |_=>false
theorem Cm{v:Value}(h:px v=true):v= .pointer none:=by
 unfold px at h;split at h
 ·rfl
 ·cases h
def Y1(tab:Nat->Option TD)(s:St)(M:Op)(k:A->Prop):Prop:=
 match M with
 | .move x=>k (aW s x)
 | .assign x=>k (aW s x)
 | .pick c a b=>match aW s c with
  | .c (.bool q)=> @Bool.rec (λ_=>Prop) (k (aW s b)) (k (aW s a)) q
  |_=>False
 | .load t x=>match tab t with
  |some d=>match aW s x with
   | .c (.ptr j o)=>match s.ah[j]? with
    |some (.box h _)=>rd d (h.drop o) k
    |_=>False
   | .c (.bp h)=>rd d h k
   | .c (.ep w j i o)=>match(s.ah[j]?).bind rowOf with
    |some L=>L.on λD Q O F=>bif a1 w D then∃x:Q,F[i]? =some x/\rd d ((O x).drop o) k else False
    |none=>False
   |_=>False
  |none=>False
 | .nilCheck x=>match aW s x with
  | .c (.ptr j o)=>k (.c (.ptr j o))
  | .c (.bp h)=>k (.c (.bp h))
  | .c (.ep w j i o)=>k (.c (.ep w j i o))
  |_=>False
 | .binOp M t x y _=>match aW s x,aW s y with
  | .c (.bool a),.c (.bool b)=>match tab t,M with
   |some d,.eql=>match d.kind with| .bool=>k (.c (.bool (a==b)))|_=>False
   |some d,.neq=>match d.kind with| .bool=>k (.c (.bool (!(a==b))))|_=>False
   |_,_=>False
  | .c (.ptr _ _),.c (.raw v)=>match tab t,M with
   |some d,.eql=>match d.kind with| .ptr=>bif px v then k (.c (.bool false))else False|_=>False
   |some d,.neq=>match d.kind with| .ptr=>bif px v then k (.c (.bool true))else False|_=>False
   |_,_=>False
  | .c (.raw u),.c (.raw v)=>match tab t,M with
   |some d,.eql=>match d.kind with| .la=>(match o6 u v with|some b=>bif wZ y then k (.c (.bool b))else False|none=>False)|_=>False
   |some d,.neq=>match d.kind with| .la=>(match o6 u v with|some b=>bif wZ y then k (.c (.bool !b))else False|none=>False)|_=>False
   |_,_=>False
  | .c a,.c .nil=>match tab t,M with
   |some d,.eql=>match d.kind with
    | .sl _=>match a with
     | .nil=>k (.c (.bool true))
     |a=>match lE s.ah a with
      |some L=>L.on λ_ _ _ F=>∀q:Bool,(q=true->F=[])->k (.c (.bool q))
      |none=>False
    |_=>False
   |_,_=>False
  | .c a,.c b=>arith M a b k
  | .st h,.st P=>match tab t,M with
   |some d,.eql=>bif d.cmp&&(fh d.zero h&&fh d.zero P)then k (.c (.bool (@decide (e8 h P) (a0 _))))else False
   |some d,.neq=>bif d.cmp&&(fh d.zero h&&fh d.zero P)then k (.c (.bool (!(@decide (e8 h P) (a0 _)))))else False
   |_,_=>False
  |_,_=>False
 | .unOp .not _ x=>match aW s x with
  | .c (.bool b)=>k (.c (.bool (!b)))
  |_=>False
 | .unOp .neg _ x=>match aW s x with
  | .c (.int .i64 n)=>cD (0-n)/\k (.c (.int .i64 (0-n)))
  |_=>False
 | .convert a b x=>match tab a,tab b,aW s x with
  |some d,some R,.c x=>AJ tab s.ah d.kind R.kind x k
  |_,_,_=>False
 | .build t J=>match tab t with
  |some d=>match d.kind with
   | .struct z=>o5 tab z (J.toList.map λp=>(p.1,aW s p.2)) d.zero λh=>k (.st h)
   | .arr n e=>match tab e with
    |some r=>o5 tab ((List.range n).map λi=>(e,i*r.size)) (J.toList.map λp=>(p.1,aW s p.2)) d.zero λh=>k (.st h)
    |none=>False
   |_=>False
  |none=>False
 | .fieldAddr t x i=>match tab t with
  |some d=>match d.kind with
   | .struct z=>match z[i]? with
    |some (e,I)=>match tab e with
     |some r=>bif a1 r.size 0 then False else match aW s x with
      | .c (.ptr j o)=>k (.c (.ptr j (o+I)))
      | .c (.bp h)=>k (.c (.bp (h.drop I)))
      | .c (.ep w j i o)=>k (.c (.ep w j i (o+I)))
      |_=>False
     |none=>False
    |none=>False
   |_=>False
  |none=>False
 | .field t x i=>match tab t with
  |some d=>match d.kind with
   | .struct z=>match z[i]? with
    |some (e,I)=>match tab e,aW s x with
     |some r,.st h=>rd r (h.drop I) k
     |_,_=>False
    |none=>False
   |_=>False
  |none=>False
 | .indexAddr t x y=>match tab t,asInt s y with
  |some d,some n=>match d.kind with
   | .sl e=>match tab e,aW s x with
    |some r,.c c=>match c with
     | .ls w α E l=>∃(i:Nat) (x:α),n=(i:Int)/\l[i]? =some x/\bif a1 w r.size then k (.c (.bp (E x)))else False
     | .bs w α E l=>∃(i:Nat) (x:α),n=(i:Int)/\l[i]? =some x/\bif a1 w r.size then k (.c (.bp (E x)))else False
     | .rw j=>match(s.ah[j]?).bind rowOf with
      |some L=>L.on λD _ _ F=>∃i:Nat,(n=(i:Int)/\i<F.length)/\bif a1 D r.size then k (.c (.ep D j i 0))else False
      |none=>False
     | .sw w j H m=>match(s.ah[j]?).bind rowOf with
      |some L=>L.on λD _ _ F=>bif a1 w r.size then∃i:Nat,(n=(i:Int)/\i<m)/\k (.c (.ep w j (H+i) 0))else False
      |none=>False
     |_=>False
    |_,_=>False
   | .arr len e=>match tab e,aW s x with
    |some r,.c (.ptr j o)=>∃i:Nat,(n=(i:Int)/\i<len)/\k (.c (.ptr j (o+i*r.size)))
    |some r,.c (.bp h)=>∃i:Nat,(n=(i:Int)/\i<len)/\k (.c (.bp (h.drop (i*r.size))))
    |some r,.c (.ep w j S o)=>∃i:Nat,(n=(i:Int)/\i<len)/\k (.c (.ep w j S (o+i*r.size)))
    |_,_=>False
   |_=>False
  |_,_=>False
 | .index t x y=>match tab t,asInt s y with
  |some d,some n=>match d.kind with
   | .str=>match aW s x with
    | .c (.str l)=>∃(i:Nat) (b:UInt8),n=(i:Int)/\l[i]? =some b/\k (.c (.int .u8 b.toNat))
    |_=>False
   | .arr len e=>match tab e,aW s x with
    |some r,.st h=>∃i:Nat,(n=(i:Int)/\i<len)/\rd r (h.drop (i*r.size)) k
    |_,_=>False
   |_=>False
  |_,_=>False
 | .slice t x H K none=>match tab t,sn s H,sn s K with
  |some d,some H,some K=>match d.kind with
   | .str=>match aW s x with
    | .c (.str l)=>bounds l.length H K λa b=>k (.c (.str ((l.take b).drop a)))
    |_=>False
   | .sl e=>match tab e,aW s x with
    |some r,.c c=>match c with
     | .nil=>bounds 0 H K λ_ _=>k (.c .nil)
     | .ls w α E l=>bif a1 w r.size then bounds l.length H K λa b=>k (.c (.ls w α E ((l.drop a).take (b-a))))else False
     | .bs w α E l=>bif a1 w r.size then bounds l.length H K λa b=>k (.c (.bs w α E ((l.drop a).take (b-a))))else False
     | .rw j=>match(s.ah[j]?).bind rowOf with
      |some L=>L.on λD _ _ F=>bif a1 D r.size then bounds F.length H K λa b=>k (.c (.sw D j a (b-a)))else False
      |none=>False
     | .sw w j F n0=>match(s.ah[j]?).bind rowOf with
      |some L=>bif a1 w r.size then bounds n0 H K λa b=>k (.c (.sw w j (F+a) (b-a)))else False
      |none=>False
     |_=>False
    |_,_=>False
   |_=>False
  |_,_,_=>yi tab s t x H K k
 | .extract x i=>match aW s x with
  | .ao U=>match U[i]? with
   |some (g,h)=>bif g then k (.st h)else match h with|[c]=>k (.c c)|_=>False
   |none=>False
  |_=>False
 | .makeFunc (.func f) first N=>match first.toList,sD s N.toList with
  |[],some h=>k (.c (.fn f h))
  |_,_=>False
 | .makeInterface t x=>match tab t with
  |some d=>match d.kind with
   | .other=>False
   | .la=>False
   |_=>match aW s x with
    | .c c=>k (.c (.iface t false [c]))
    | .st h=>k (.c (.iface t true h))
    |_=>False
  |none=>False
 | .typeAssert x _ t true=>match tab t with
  |some d=>match d.kind with
   | .other=>False
   | .la=>False
   |_=>match aW s x with
    | .c (.iface T g h)=>bif a1 T t&&(g||a1 h.length 1)then k (.ao [(g,h),(false,[.bool true])])else False
    |_=>False
  |none=>False
 | .call c=>match c.callee,c.args.toList,c.argTypes.toList with
  | .builtin .len,[x],[t]=>match tab t,aW s x with
   |some d,.c c=>match d.kind,c with
    | .str,.str l=>k (.c (.int .i64 l.length))
    | .sl _,.nil=>k (.c (.int .i64 0))
    | .sl _,c=>match lE s.ah c with
     |some L=>L.on λ_ _ _ F=>k (.c (.int .i64 F.length))
     |none=>False
    |_,_=>False
   |_,_=>False
  | .builtin .max,[x,y],_=>match aW s x,aW s y with
   | .c (.int .i64 a),.c (.int .i64 b)=>k (.c (.int .i64 (max a b)))
   |_,_=>False
  | .builtin .min,[x,y],_=>match aW s x,aW s y with
   | .c (.int .i64 a),.c (.int .i64 b)=>k (.c (.int .i64 (min a b)))
   |_,_=>False
  |_,_,_=>False
 |_=>False
def ja:Op->Bool
 | .load .. =>false
 | .convert .. =>false
 |_=>true
section
variable {P:Program} {tab:Nat->Option TD} {E:En} {F:Nat->Prop} {γ:List Value} {s:St} {a:Act} {w:World} {o:Oper} {k:A->Prop}
def ER(F:Nat->Prop)(H:ae)(m:Md)(env:List (Nat×A))(a:Act):Prop:=∀t x,lk env t=some x->RA F H m x (a.tmps.getD t undef)
theorem HL{F:Nat->Prop}{H:ae}{m:Md}(v:Value):RA F H m (vS v) v:=by
 unfold vS;split
 ·exact .int .nl
 ·exact .bool .nl
 ·rename_i s;have:s=⟨s.data.toList.toArray⟩:=by cases s;simp
  have e:NB.str s.data.toList= .string s:=by unfold NB.str;rw[<-this]
  rw[<-e];cases hb:b2 s.data.toList.length 9223372036854775807 with
  |false=>trivial
  |true=>exact .str (a2 hb) .nl
 ·exact .nil .nl
 ·exact .raw rfl .nl
 ·exact .raw rfl .nl
 ·exact .raw rfl .nl
 ·trivial
theorem nL{F:Nat->Prop}{H:ae}{m:Md}(b:ER F H m s.env a)(x:Operand):RA F H m (aW s x) (a.eval x):=by
 cases x with
 |tmp t=>
  show RA F H m ((lk s.env t).getD .undef) _;cases h:lk s.env t with
  |none=>trivial
  |some y=>exact b t y h
 |const v=>exact HL v
 |func f=>exact .fn .nl .nl
 |global g=>trivial
theorem bm{F:Nat->Prop}{H:ae}{m:Md}(b:ER F H m s.env a){x:Operand}{c:C}(h:aW s x= .c c):RL F H m [c] [a.eval x]:=by
 have:=nL b x;rw[h]at this;exact this
theorem rp{F:Nat->Prop}{H:ae}{m:Md}(b:ER F H m s.env a){x:Operand}{cs:List C}(h:aW s x= .st cs):∃vs,a.eval x= .agg vs.toArray/\RL F H m cs vs:=by
 have:=nL b x;rw[h]at this;exact this
theorem cells_one{v:Value}(h:v.oneCell'=true):v.cells= #[v]:=by
 cases v<;>first|rfl|simp[Value.oneCell']at h
theorem rn{F:Nat->Prop}{H:ae}{m:Md}(f:ER F H m s.env a){x:Operand}{cs:List C}(h:qx (aW s x)=some cs):∃vs,(a.eval x).cells=List.toArray vs/\RL F H m cs vs:=by
 have:=nL f x;revert this h;cases aW s x with
 |undef=>intro h;cases h
 |off=>intro h;cases h
 |c y=>
  intro h b;cases h;exact⟨[a.eval x],cells_one (b.one _ (by simp)),b⟩
 |st g=>
  intro h b;cases h;obtain⟨vs,d,e⟩:=b;exact⟨vs,by rw[d];rfl,e⟩
 |ao _=>intro h;cases h
def Yd(P:Program)(F:Nat->Prop)(m:Md)(a:Act)(w:World)(o:Oper)(k:A->Prop):Prop:=
 ∃v x,k x/\RA F w.heap m x v/\∀b:World,(ja o.op=true\/au [] w.heap b.heap)->(execOp a.eval o).run P b= .ok (.value v) b
theorem kg{a B':Prop}{b:Bool}(h:bif b then a else B'):(b=true/\a)\/(b=false/\B'):=by
 cases b with
 |true=>exact .inl ⟨rfl,h⟩
 |false=>exact .inr ⟨rfl,h⟩
theorem M3{a B':Prop}{b:Bool}(h: @Bool.rec (λ_=>Prop) B' a b):(b=true/\a)\/(b=false/\B'):=by
 cases b with
 |true=>exact .inl ⟨rfl,h⟩
 |false=>exact .inr ⟨rfl,h⟩
theorem bV{a:Prop}{b:Bool}(h:bif b then a else False):b=true/\a:=(kg h).elim id λh=>h.2.elim
def yU(P:Program)(F:Nat->Prop)(m:Md)(a:Act)(w:World)(o:Oper)(k:A->Prop)(b:Nat):Prop:=
 ∃v x,k x/\RA F w.heap m x v/\∀c:World,(∀q u,cell w.heap b q=some u->cell c.heap b q=some u)->(execOp a.eval o).run P c= .ok (.value v) c
theorem x7(l:bI P tab){t:Nat}{d:TD}(p:tab t=some d){x:Operand}(ho:o.op= .load t x){m:Md}{cs:List C}{vs:List Value}{b off:Nat}(hr:RL F w.heap m cs vs)
  (hc:∀j u,vs[j]? =some u->cell w.heap b (off+j)=some u)(r:a.eval x= .pointer (some ⟨b,off,none⟩))(h:rd d cs k):yU P F m a w o k b:=by
 unfold rd at h;obtain⟨f,h⟩:=bV h;have f:=a2 f;have H:=hr.length;rcases kg h with⟨e,h⟩|⟨e,h⟩
 ·refine⟨.agg (vs.take d.size).toArray,_,h,⟨_,rfl,hr.take _⟩,λi q=>?_⟩;have g:(vs.take d.size).length=d.size:=by rw[List.length_take];omega
  have c:=l.agg t d p i;rw[e]at c;have z:=l.size p i
  have := run_loadCells_list (P := P) (w := i) ⟨b, off, none⟩ (vs.take d.size) (λj v n=>by
   rw[Addr.add_lit,dG rfl];rw[List.getElem?_take]at n;split at n
   ·exact q _ _ (hc j v n)
   ·cases n)
  rw[g]at this;unfold execOp;rw[ho];simp[r,Instr.loadAt,Instr.sureAddr,loadVar,c,z,this]
 ·have D:=l.one t d p e;split at h
  ·rename_i J s;obtain⟨v,I,rfl,y,E⟩:=hr.kK;refine⟨v,_,h,y,λi q=>?_⟩;have c:=l.agg t d p i;rw[e]at c;have:=q _ _ (hc 0 v rfl);rw[bl]at this;unfold execOp;rw[ho];simp[r,Instr.loadAt,Instr.sureAddr,loadVar,c,dG rfl,this]
  ·exact h.elim
theorem x6(g:bI P tab){t:Nat}{d:TD}(n:tab t=some d){x:Operand}(ho:o.op= .load t x){m:Md}{cs:List C}{vs:List Value}{b off:Nat}(hr:RL F w.heap m cs vs)
  (hc:∀j u,vs[j]? =some u->cell w.heap b (off+j)=some u)(p:a.eval x= .pointer (some ⟨b,off,none⟩))(h:rd d cs k):Yd P F m a w o k:=by
 obtain⟨v,y,c,e,f⟩:=x7 g n ho hr hc p h;exact⟨v,y,c,e,λr i=>f r λq u l=>gM l (i.resolve_left (by rw[ho];simp[ja])) (by simp)⟩
theorem sC{cs:List C}{ty:Option Nat}{g:Value}{m:Md}{H:ae}(h:BR F H m (.box cs ty) g){o:Nat}:∃k vs,g= .pointer (some ⟨k,0,none⟩)/\RL F H m (cs.drop o) vs/\∀j u,vs[j]? =some u->cell H k (o+j)=some u:=by
 obtain⟨k,e,vs,rfl,b,c⟩:=h;refine⟨k,vs.drop o,rfl,c.drop o,λj u a=>?_⟩;unfold cell;rw[b];rw[a5]at a;simpa using a
theorem Eh{b:B}{L:LS}{g:Value}{H:ae}{m:Md}(h:BR F H m b g)(f:rowOf b=some L){a off n cap:Nat}(hg:g= .slice (some ⟨a,off,none⟩) n cap){i:Nat}{x:L.α}(hi:L.l[i]? =some x)(o:Nat):
  ∃us,RL F H m0 ((L.enc x).drop o) us/\∀j u,us[j]? =some u->cell H a (off+i*L.sz+o+j)=some u:=by
 have k:=my h f;subst hg;obtain⟨us,d,e⟩:=k.elem hi;refine⟨us.drop o,d.drop o,λj u c=>?_⟩;rw[a5]at c;rw[a6];exact e _ _ c
theorem RL.up{H:ae}{m:Md}{cs:List C}{vs:List Value}(h:RL F H m0 cs vs):RL F H m cs vs:=
 h.ext ⟨λ_ h=>h,λ_ _ _ _ h=>h,λ_ h=>h.elim,λj v h=>by cases h⟩
theorem P1(p:bI P tab)(n:ER F w.heap ⟨E.B,γ⟩ s.env a)(H:WR E F γ s.ah w.heap){t:Nat}{x:Operand}(ho:o.op= .load t x)(h:Y1 tab s (.load t x) k):Yd P F ⟨E.B,γ⟩ a w o k:=by
 simp only[Y1]at h;split at h
 ·rename_i d D;split at h
  ·rename_i j f c;have c:=bm n c;split at h
   ·rename_i I hb;generalize g:a.eval x=v at c;cases c with
    |ptr u _=>
     obtain⟨O,S,e,l,m⟩:=sC (o:=f) (H.br j _ _ hb u);cases e;exact x6 p D ho l m g h
   ·exact h.elim
  ·rename_i I c;have c:=bm n c;generalize g:a.eval x=v at c;cases c with
   |bp hb N K _=>exact x6 p D ho (N.ext ⟨λ_ h=>h,λ_ _ _ _ h=>h,λ_ h=>h,λj v h=>by cases h⟩) K g h
  ·rename_i Q j i f c;have c:=bm n c;split at h
   ·rename_i L hb;rw[LS.pM]at h;obtain⟨z,y,M,J⟩:=bV h;obtain rfl:=ap z;generalize g:a.eval x=v at c;cases c with
    |ep u _=>
     obtain⟨b,q,r⟩:=bb.1 hb;obtain⟨R,l,m⟩:=Eh (H.br j b _ q u) r rfl M f;exact x6 p D ho l.up m g J
   ·exact h.elim
  ·exact h.elim
 ·exact h.elim
theorem wo{fs:Array Field}{offs:List (Nat×Nat)}(h:fs.toList.map (λf=>(f.type,f.offset))=offs){i e off:Nat}(hi:offs[i]? =some (e,off)):∃f,fs[i]? =some f/\f.type=e/\f.offset=off:=by
 subst h;rw[a9]at hi;cases a:fs[i]? with
 |none=>rw[a4,a]at hi;cases hi
 |some f=>
  rw[a4,a]at hi;simp at hi;exact⟨f,rfl,hi.1,hi.2⟩
theorem xX{F:Nat->Prop}{H:ae}{m:Md}{j o:Nat}{v:Value}(h:RL F H m [.ptr j o] [v]):∃b,v= .pointer (some ⟨b,o,none⟩)/\∀a,RL F H m [.ptr j a] [.pointer (some ⟨b,a,none⟩)]:=by
 cases h with
 |ptr c _=>exact⟨_,rfl,λa=>.ptr c .nl⟩
theorem vw{F:Nat->Prop}{H:ae}{m:Md}{cs:List C}{v:Value}(h:RL F H m [.bp cs] [v]):∃b o,v= .pointer (some ⟨b,o,none⟩)/\∀n,RL F H m [.bp (cs.drop n)] [.pointer (some ⟨b,o+n,none⟩)]:=by
 cases h with
 |bp hb d c _=>exact⟨_,_,rfl,λn=>.bp hb (d.drop n) (λj u a=>by rw[a5]at a;rw[a6];exact c _ _ a) .nl⟩
theorem wh{F:Nat->Prop}{H:ae}{m:Md}{sz j i o:Nat}{v:Value}(h:RL F H m [.ep sz j i o] [v]):∃b off,v= .pointer (some ⟨b,off+o,none⟩)/\∀a,RL F H m [.ep sz j i a] [.pointer (some ⟨b,off+a,none⟩)]:=by
 cases h with
 |ep c _=>exact⟨_,_,rfl,λa=>.ep c .nl⟩
theorem PY(y:bI P tab)(r:ER F w.heap ⟨E.B,γ⟩ s.env a){t i:Nat}{x:Operand}(ho:o.op= .fieldAddr t x i)(h:Y1 tab s (.fieldAddr t x i) k):Yd P F ⟨E.B,γ⟩ a w o k:=by
 simp only[Y1]at h;split at h
 ·rename_i d N;have z:=y.kind t d N;split at h
  ·rename_i D I;rw[I]at z;obtain⟨T,O,v,_⟩:=z;split at h
   ·rename_i e R K;obtain⟨f,J,rfl,rfl⟩:=wo v K;split at h
    ·rename_i H u;have Q:=y.size u;rcases kg h with⟨_,h⟩|⟨m,h⟩
     ·exact h.elim
     have M:H.size≠0:=λe=>by rw[e]at m;cases m
     have l:∀{b q:Nat} (c:World),a.eval x= .pointer (some ⟨b,q,none⟩)->(execOp a.eval o).run P c= .ok (.value (.pointer (some ⟨b,q+f.offset,none⟩))) c:=λc g=>by
      unfold execOp;rw[ho];simp[g,Ep O J Q M]
     split at h
     ·rename_i j q p;obtain⟨b,g,n⟩:=xX (bm r p);exact⟨_,_,h,n _,λc _=>l c g⟩
     ·rename_i S p;obtain⟨b,q,g,n⟩:=vw (bm r p);exact⟨_,_,h,n _,λc _=>l c g⟩
     ·rename_i Y j U q p;obtain⟨b,W,g,n⟩:=wh (bm r p);exact⟨_,_,h,n _,λc _=>by rw[<-a6];exact l c g⟩
     ·exact h.elim
    ·exact h.elim
   ·exact h.elim
  ·exact h.elim
 ·exact h.elim
theorem P5(i:ER F w.heap ⟨E.B,γ⟩ s.env a){x:Operand}(ho:o.op= .nilCheck x)(h:Y1 tab s (.nilCheck x) k):Yd P F ⟨E.B,γ⟩ a w o k:=by
 simp only[Y1]at h
 have e:∀{p:Addr} (c:World),a.eval x= .pointer (some p)->(execOp a.eval o).run P c= .ok (.value (.pointer (some p))) c:=λc d=>by
  unfold execOp;rw[ho];simp[d]
 split at h
 ·rename_i j q f;obtain⟨b,d,g⟩:=xX (bm i f);exact⟨_,_,h,g _,λc _=>e c d⟩
 ·rename_i m f;have l:=bm i f;obtain⟨b,q,d,g⟩:=vw l;exact⟨_,_,h,l,λc _=>by rw[d];exact e c d⟩
 ·rename_i t j n q f;obtain⟨b,r,d,g⟩:=wh (bm i f);exact⟨_,_,h,g _,λc _=>e c d⟩
 ·exact h.elim
theorem Ft(b:ER F w.heap ⟨E.B,γ⟩ s.env a){x:Operand}(ho:o.op= .move x\/o.op= .assign x)(h:k (aW s x)):Yd P F ⟨E.B,γ⟩ a w o k:=
 ⟨_,_,h,nL b x,λc _=>by rcases ho with ho|ho<;>(unfold execOp;rw[ho];simp)⟩
theorem P6(b:ER F w.heap ⟨E.B,γ⟩ s.env a){c x y:Operand}(ho:o.op= .pick c x y)(h:Y1 tab s (.pick c x y) k):Yd P F ⟨E.B,γ⟩ a w o k:=by
 simp only[Y1]at h;split at h
 ·rename_i q f;have d:=bm b f;generalize e:a.eval c=v at d;cases d with
  |bool _=>
   rcases M3 h with⟨rfl,h⟩|⟨rfl,h⟩
   ·exact⟨_,_,h,nL b x,λg _=>by unfold execOp;rw[ho];simp[e,asBool]⟩
   ·exact⟨_,_,h,nL b y,λg _=>by unfold execOp;rw[ho];simp[e,asBool]⟩
 ·exact h.elim
theorem Qa(e:ER F w.heap ⟨E.B,γ⟩ s.env a){u:UnOp}{t:Nat}{x:Operand}(ho:o.op= .unOp u t x)(h:Y1 tab s (.unOp u t x) k):Yd P F ⟨E.B,γ⟩ a w o k:=by
 cases u with
 |not=>
  simp only[Y1]at h;split at h
  ·rename_i q d;have b:=bm e d;generalize c:a.eval x=v at b;cases b with
   |bool _=>exact⟨_,_,h,.bool .nl,λf _=>by unfold execOp;rw[ho];simp[c,Op.unary]⟩
  ·exact h.elim
 |neg=>
  simp only[Y1]at h;split at h
  ·rename_i n d;have b:=bm e d;generalize c:a.eval x=v at b;cases b with
   | int _ => exact ⟨_,_,h.2,.int .nl,λf _=>by
     have:=IntWalk.i64_in _ h.1;unfold execOp;rw[ho];simp[c,Op.unary,Op.intArith]at*;exact this⟩
  ·exact h.elim
 |_=>simp only[Y1]at h
theorem I1(w:World)(n:Nat){t:TypeId}{p:Addr}(h:∃e,P.underlying t=some (.pointer e)):(Op.equalIn (n+1) t (.pointer (some p)) (.pointer none)).run P w= .ok false w:=by
 obtain⟨e,h⟩:=h;simp[Op.equalIn,run_underlying h]
theorem wi(w:World){t:TypeId}{p:Addr}(h:∃e,P.underlying t=some (.pointer e)):(Op.equal t (.pointer (some p)) (.pointer none)).run P w= .ok false w:=I1 w 9999 h
theorem I2(w:World)(n:Nat){t:TypeId}(h:∃a,P.underlying t=some (.interface a)):(Op.equalIn (n+1) t .nilIface .nilIface).run P w= .ok true w:=by
 obtain⟨a,h⟩:=h;simp[Op.equalIn,run_underlying h]
theorem I0(w:World)(n:Nat){t c:TypeId}{b:Value}(h:∃a,P.underlying t=some (.interface a)):(Op.equalIn (n+1) t (.iface c b) .nilIface).run P w= .ok false w:=by
 obtain⟨a,h⟩:=h;simp[Op.equalIn,run_underlying h]
theorem sI{u v:Value}{b:Bool}(h:o6 u v=some b):(u= .nilIface/\v= .nilIface/\b=true)\/∃c a,u= .iface c a/\v= .nilIface/\b=false:=by
 unfold o6 at h;split at h
 ·cases h;exact .inl ⟨rfl,rfl,rfl⟩
 ·cases h;exact .inr ⟨_,_,rfl,rfl,rfl⟩
 ·cases h
theorem Bf(w:World){t:TypeId}{u v:Value}{b:Bool}(hc:o6 u v=some b)(h:∃a,P.underlying t=some (.interface a)):(Op.equal t u v).run P w= .ok b w:=by
 rcases sI hc with⟨rfl,rfl,rfl⟩|⟨d,c,rfl,rfl,rfl⟩
 ·exact I2 w 9999 h
 ·exact I0 w 9999 h
theorem BW(w:World){a:BinOp}{t:TypeId}{x y:Operand}{u v:Value}{b:Bool}(hc:o6 u v=some b)(h:wZ y=true):(eqGuard a t x y u v).run P w= .ok () w:=by
 rcases sI hc with⟨rfl,rfl,rfl⟩|⟨d,c,rfl,rfl,rfl⟩<;>
 ·cases y with
  |const v=>cases a<;>simp[eqGuard]
  |_=>cases h
theorem PS(M:bI P tab)(H:ER F w.heap ⟨E.B,γ⟩ s.env a)(hW:WR E F γ s.ah w.heap){op:BinOp}{t u:Nat}{x y:Operand}(ho:o.op= .binOp op t x y u)(h:Y1 tab s (.binOp op t x y u) k):Yd P F ⟨E.B,γ⟩ a w o k:=by
 simp only[Y1]at h
 have l:∀{p q r:Value},a.eval x=p->a.eval y=q->(∀w,(binOp op t p q).run P w= .ok r w)->(∀w,(eqGuard op t x y p q).run P w= .ok () w)->∀i,(execOp a.eval o).run P i= .ok (.value r) i:=λhp Z N O i=>by
  unfold execOp;rw[ho];simp[hp,Z,N,O]
 split at h
 ·rename_i b W J K;have j:=bm H J;have f:=bm H K;generalize z:a.eval x=v at j;generalize g:a.eval y=v' at f;cases j;cases f;split at h
  ·rename_i d n;have m:=M.kind t d n;split at h
   ·rename_i D;rw[D]at m;have Z:∀w,(Op.equal t (.bool b) (.bool W)).run P w= .ok (b==W) w:=λw=>run_equal_bool w t b W m;exact⟨_,_,h,.bool .nl,λi _=>l z g (λw=>by simp[binOp,Z]) (λw=>by rw[eqGuard_at_bool];rfl) i⟩
   ·exact h.elim
  ·rename_i d n;have m:=M.kind t d n;split at h
   ·rename_i D;rw[D]at m;have Z:∀w,(Op.equal t (.bool b) (.bool W)).run P w= .ok (b==W) w:=λw=>run_equal_bool w t b W m;exact⟨_,_,h,.bool .nl,λi _=>l z g (λw=>by simp[binOp,Z]) (λw=>by rw[eqGuard_at_bool];rfl) i⟩
   ·exact h.elim
  ·exact h.elim
 ·rename_i c J K;have j:=bm H J;have f:=bm H K;split at h
  ·rename_i d n;have m:=M.kind t d n;split at h
   ·rename_i D;rw[D]at m;cases S:px c with
    |false=>rw[S]at h;exact h.elim
    |true=>
     rw[S]at h;obtain rfl:=Cm S;generalize z:a.eval x=v at j;generalize g:a.eval y=v' at f;cases j;cases f;refine⟨_,_,h,.bool .nl,λi _=>l z g (λw=>?_) (λw=>by rw[eqGuard_at_pointer];rfl) i⟩;simp[binOp,wi w m]
   ·exact h.elim
  ·rename_i d n;have m:=M.kind t d n;split at h
   ·rename_i D;rw[D]at m;cases S:px c with
    |false=>rw[S]at h;exact h.elim
    |true=>
     rw[S]at h;obtain rfl:=Cm S;generalize z:a.eval x=v at j;generalize g:a.eval y=v' at f;cases j;cases f;refine⟨_,_,h,.bool .nl,λi _=>l z g (λw=>?_) (λw=>by rw[eqGuard_at_pointer];rfl) i⟩;simp[binOp,wi w m]
   ·exact h.elim
  ·exact h.elim
 ·rename_i u v J K;have j:=bm H J;have f:=bm H K;split at h
  ·rename_i d n;have m:=M.kind t d n;split at h
   ·rename_i D;rw[D]at m;split at h
    ·rename_i b Q;obtain⟨R,Y⟩:=bV h;generalize T:a.eval x=va at j;generalize U:a.eval y=vb at f;cases j;cases f;refine⟨_,_,Y,.bool .nl,λi _=>l T U (λw=>?_) (λw=>BW w Q R) i⟩;have e1:=Bf w Q m;rcases sI Q with⟨rfl,rfl,rfl⟩|⟨te,pe,rfl,rfl,rfl⟩<;>simp[binOp,e1]
    ·exact h.elim
   ·exact h.elim
  ·rename_i d n;have m:=M.kind t d n;split at h
   ·rename_i D;rw[D]at m;split at h
    ·rename_i b Q;obtain⟨R,Y⟩:=bV h;generalize T:a.eval x=va at j;generalize U:a.eval y=vb at f;cases j;cases f;refine⟨_,_,Y,.bool .nl,λi _=>l T U (λw=>?_) (λw=>BW w Q R) i⟩;have e1:=Bf w Q m;rcases sI Q with⟨rfl,rfl,rfl⟩|⟨te,pe,rfl,rfl,rfl⟩<;>simp[binOp,e1]
    ·exact h.elim
   ·exact h.elim
  ·exact h.elim
 ·rename_i c _ J K;have j:=bm H J;have f:=bm H K;split at h
  ·rename_i d n;have m:=M.kind t d n;split at h
   ·rename_i e D;rw[D]at m;split at h
    ·generalize z:a.eval x=v at j;generalize g:a.eval y=v' at f;cases j;cases f;exact⟨_,_,h,.bool .nl,λi _=>l z g (λw=>Lib.run_eql_slice_nil w t _ _ _ _ 0 0 m) (λw=>by rw[eqGuard_at_slice];rfl) i⟩
    ·split at h
     ·rename_i L hL;rw[LS.pM]at h;have hs:=hW.sl j hL;generalize z:a.eval x=v at hs;generalize g:a.eval y=v' at f;cases f;rcases hs with⟨p,rfl,hl⟩|⟨b,al,cap,ad,rfl,_⟩
      ·exact⟨_,_,h _ (λ_=>hl),.bool .nl,λi _=>l z g (λw=>Lib.run_eql_slice_nil w t _ p _ _ 0 0 m) (λw=>by rw[eqGuard_at_slice];rfl) i⟩
      ·exact⟨_,_,h false (λh=>by cases h),.bool .nl,λi _=>l z g (λw=>Lib.run_eql_slice_nil w t _ (some _) _ _ 0 0 m) (λw=>by rw[eqGuard_at_slice];rfl) i⟩
     ·exact h.elim
   ·exact h.elim
  ·exact h.elim
 ·rename_i c c' _ _ J K;obtain⟨r,x',N,O,Y,h4⟩:=FV (t:=t) (ox:=x) (oy:=y) h (bm H J) (bm H K);exact⟨r,x',N,O,λi _=>l rfl rfl Y h4 i⟩
 ·rename_i cs ds J K;obtain⟨vs,z,hr⟩:=rp H J;obtain⟨us,g,ac⟩:=rp H K;split at h
  ·rename_i d n;obtain⟨j,h⟩:=bV h;rw[a3,a3]at j;obtain⟨hm,I⟩:=M.cmp t d n j.1;refine⟨_,_,h,.bool .nl,λi _=>l z g (λw=>?_) (λw=>run_eqGuard_agg w _ t x y _ _ hm) i⟩;obtain⟨r,N,O⟩:=I F _ _ cs ds vs us j.2.1 j.2.2 hr ac w;rw[run_eql_struct];rw[show(Op.equalIn 10000 t (.agg vs.toArray) (.agg us.toArray)).run P w=_ from N];show Result.ok (Value.bool r) w=_;congr 2
   exact be.2 (O.trans (@decide_eq_true_iff _ (a0 _)).symm)
  ·rename_i d n;obtain⟨j,h⟩:=bV h;rw[a3,a3]at j;obtain⟨hm,I⟩:=M.cmp t d n j.1;refine⟨_,_,h,.bool .nl,λi _=>l z g (λw=>?_) (λw=>run_eqGuard_agg w _ t x y _ _ hm) i⟩;obtain⟨r,N,O⟩:=I F _ _ cs ds vs us j.2.1 j.2.2 hr ac w;rw[run_neq_struct];rw[show(Op.equalIn 10000 t (.agg vs.toArray) (.agg us.toArray)).run P w=_ from N];show Result.ok (Value.bool (!r)) w=_;congr 3
   exact be.2 (O.trans (@decide_eq_true_iff _ (a0 _)).symm)
  ·exact h.elim
 ·exact h.elim
end
section
variable {P:Program} {tab:Nat->Option TD} {E:En} {F:Nat->Prop} {γ:List Value} {s:St} {a:Act} {w:World} {o:Oper} {k:A->Prop}
theorem zq{H:ae}{m:Md}(b:ER F H m s.env a){x:Operand}{n:Int}(h:asInt s x=some n):∃q,a.eval x= .int q n:=by
 unfold asInt at h;split at h
 ·rename_i q e c;cases h;have:=bm b c;generalize d:a.eval x=v at this;cases this;exact⟨_,rfl⟩
 ·cases h
theorem D3(f:bI P tab){t:Nat}{d:TD}(i:tab t=some d){m:Md}{H:ae}{cs:List C}{vs:List Value}{off:Nat}(hr:RL F H m cs vs)(h:rd d (cs.drop off) k):
  ∃v x,k x/\RA F H m x v/\∀w,(part t vs.toArray off).run P w= .ok v w:=by
 unfold rd at h;obtain⟨e,h⟩:=bV h;have e:=a2 e;have b:=hr.drop off;have p:=b.length;rcases kg h with⟨c,h⟩|⟨c,h⟩
 ·refine⟨_,_,h,⟨_,rfl,b.take _⟩,λw=>?_⟩;have a:=f.agg t d i w;rw[c]at a;simp[part,a,f.size i w]
 ·split at h
  ·rename_i r l g;rw[g]at b;obtain⟨v,q,j,n,o⟩:=b.kK;refine⟨v,_,h,n,λw=>?_⟩;have a:=f.agg t d i w;rw[c]at a
   have:vs[off]? =some v:=by
    have:=congrArg List.head? j;simpa using this
   simp[part,a,this]
  ·exact h.elim
theorem PX(g:bI P tab)(q:ER F w.heap ⟨E.B,γ⟩ s.env a){t i:Nat}{x:Operand}(ho:o.op= .field t x i)(h:Y1 tab s (.field t x i) k):Yd P F ⟨E.B,γ⟩ a w o k:=by
 simp only[Y1]at h;split at h
 ·rename_i d H;have j:=g.kind t d H;split at h
  ·rename_i l r;rw[r]at j;obtain⟨Q,I,c,_⟩:=j;split at h
   ·rename_i e M z;obtain⟨f,u,rfl,rfl⟩:=wo c z;split at h
    ·rename_i _ _ O N b K;obtain⟨R,J,D⟩:=rp q K;obtain⟨v,y,m,n,p⟩:=D3 g b D h;exact⟨v,y,m,n,λS _=>by unfold execOp;rw[ho];simp[J,Instr.field,run_underlying I,u,asAgg,p]⟩
    ·exact h.elim
   ·exact h.elim
  ·exact h.elim
 ·exact h.elim
theorem run_places{fs:List Field}(c:bI P tab)(b:∀f∈fs,(tab f.type).isSome=true)(w:World):
  (fs.mapM λf=>Prod.mk f.offset<$>sizeOf f.type).run P w= .ok (fs.map λf=>(f.offset,((tab f.type).map (·.size)).getD 0)) w:=by
 induction fs with
 |nil=>simp
 |cons f fs ih=>
  obtain⟨d,a⟩:=Option.isSome_iff_exists.1 (b f (by simp));simp[List.mapM_cons,c.size a w,ih (λg e=>b g (by simp[e])),a]
theorem vy{m:Md}{H:ae}(v:ER F H m s.env a){place:Nat->Option (Nat×Nat)}{offs:List (Nat×Nat)}(b:∀i e off d,offs[i]? =some (e,off)->tab e=some d->place i=some (off,d.size)){y:List C->Prop}:
  ∀(g:List (Nat×Operand)) (cs:List C) (vs:List Value),RL F H m cs vs->o5 tab offs (g.map λp=>(p.1,aW s p.2)) cs y->
   ∃cs' j,y cs'/\RL F H m cs' j/\Instr.fill place vs.toArray (g.map λp=>(p.1,a.eval p.2))=some j.toArray
 |[],cs,vs,l,h=>⟨cs,vs,h,l,rfl⟩
 |(i,x)::r,cs,vs,l,h=>by
  simp only[bh,o5]at h;split at h
  ·rename_i _ _ e off new K N;split at h
   ·rename_i d I;obtain⟨c,h⟩:=bV h;rw[a3]at c;have O:=ap c.1;have P:=a2 c.2;have q:=b i e off d K I;obtain⟨k,w,n⟩:=rn v N;have o:=n.length;have M:=l.length
    have t:RL F H m (cs.take off++(new++cs.drop (off+new.length))) (vs.take off++(k++vs.drop (off+k.length))):=
     (l.take _).append (n.append (by rw[o];exact l.drop _))
    obtain⟨cs',j,z,D,E⟩:=vy v b r _ _ t h;refine⟨cs',j,z,D,?_⟩;rw[bh,Instr.fill];simp only[q];have u:(a.eval x).cells.size=k.length:=by rw[w];rfl
    rw[if_neg (by simp[u];omega)];have f:=BH k off 0 vs.toArray (by simp;omega);simp only[bl]at f
    have J:(a.eval x).cells.zipIdx.foldl (λcs (x:Value×Nat)=>cs.setIfInBounds (off+x.2) x.1) vs.toArray=(vs.take off++(k++vs.drop (off+k.length))).toArray:=by
     apply Array.toList_inj.1;rw[w]
     have:(k.toArray.zipIdx.foldl (λcs (x:Value×Nat)=>cs.setIfInBounds (off+x.2) x.1) vs.toArray)=((k.zipIdx 0).foldl (λcs (x:Value×Nat)=>cs.setIfInBounds (off+x.2) x.1) vs.toArray):=by
      simp
     rw[this,f];simp
    rw[J];exact E
   ·exact h.elim
  ·exact h.elim
theorem Ho(r:bI P tab){m:Md}{H:ae}(k:ER F H m s.env a){fs:Array Field}{offs:List (Nat×Nat)}(g:fs.toList.map (λf=>(f.type,f.offset))=offs){j:List C->Prop}(b:List (Nat×Operand))(cs:List C)(vs:List Value)(hr:RL F H m cs vs)(h:o5 tab offs (b.map λp=>(p.1,aW s p.2)) cs j):
  ∃cs' c,j cs'/\RL F H m cs' c/\Instr.fill (λi=>(fs.toList.map λf=>(f.offset,((tab f.type).map (·.size)).getD 0))[i]?) vs.toArray (b.map λp=>(p.1,a.eval p.2))=some c.toArray:=
 vy k (λi e q d o l=>by
  obtain⟨f,n,rfl,rfl⟩:=wo g o;rw[a9,a4,n];simp[l]) b cs vs hr h
theorem PT(r:bI P tab)(Z:ER F w.heap ⟨E.B,γ⟩ s.env a){t:Nat}{b:Array (Nat×Operand)}(ho:o.op= .build t b)(h:Y1 tab s (.build t b) k):Yd P F ⟨E.B,γ⟩ a w o k:=by
 simp only[Y1]at h;split at h
 ·rename_i d S;have H:=r.kind t d S;split at h
  ·rename_i ac M;rw[M]at H;obtain⟨Y,hu,D,g⟩:=H;obtain⟨z,U,T,l,m⟩:=r.zero S;obtain⟨I,q,J,K,u⟩:=Ho r Z D b.toList d.zero U (m F w.heap ⟨E.B,γ⟩) h;refine⟨_,_,J,⟨q,rfl,K⟩,λw' _=>?_⟩
   have R := run_places r (fs := Y.toList) (λf hf=>by
    have:=List.all_eq_true.1 g (f.type,f.offset) (by rw[<-D];exact List.mem_map.2 ⟨f,hf,rfl⟩);exact this) w'
   have Q:(b1 (λp=>(p.1,a.eval p.2)) b.toList)=(b0 (λx=>match x with|(i,x)=>(i,a.eval x)) b).toList:=by simp
   rw[Q]at u;unfold execOp;rw[ho];simp only[Sem.run_bind,Instr.build,T,Result.andThen_ok,run_underlying hu,Array.mapM_eq_mapM_toList];simp[R,l];have c:=u;simp at c;simp[c]
  ·rename_i n e M;rw[M]at H;split at h
   ·rename_i W y;obtain⟨z,U,T,l,m⟩:=r.zero S
    obtain ⟨I, q, J, K, u⟩ := vy Z (place := λi => some (i * W.size, W.size)) (λi e' al d' hi v=>by
     rw[a9]at hi;obtain⟨j,hj,O⟩:=Option.map_eq_some_iff.1 hi
     have N:j=i:=by
      obtain⟨ad,he⟩:=ar.1 hj;rw[List.getElem_range]at he;exact he.symm
     subst N;obtain⟨rfl,rfl⟩:=Prod.mk.inj O;rw[y]at v;cases v;rfl) b.toList d.zero U (m F w.heap ⟨E.B,γ⟩) h
    refine⟨_,_,J,⟨q,rfl,K⟩,λw' _=>?_⟩;have Q:(b1 (λp=>(p.1,a.eval p.2)) b.toList)=(b0 (λx=>match x with|(i,x)=>(i,a.eval x)) b).toList:=by simp
    rw[Q]at u;unfold execOp;rw[ho];simp only[Sem.run_bind,Instr.build,T,Result.andThen_ok,run_underlying H,r.size y,l];have c:=u;simp at c;simp[c]
   ·exact h.elim
  ·exact h.elim
 ·exact h.elim
theorem run_indexAt{t e:Nat}{b off n m sz i:Nat}{q:IntKind}(a:P.underlying t=some (.slice e))(hz:∀w,(sizeOf e).run P w= .ok sz w)(hi:i<n)(w:World):
  (Instr.indexAt t (.slice (some ⟨b,off,none⟩) n m) (.int q (i:Int))).run P w= .ok (.pointer (some ⟨b,off+i*sz,none⟩)) w:=by
 simp[Instr.indexAt,run_underlying a,hz,asIntOf,hi,Addr.add_lit]
theorem P0(hT:bI P tab)(hE:ER F w.heap ⟨E.B,γ⟩ s.env a)(hW:WR E F γ s.ah w.heap){t:Nat}{x y:Operand}(ho:o.op= .indexAddr t x y)(h:Y1 tab s (.indexAddr t x y) k):Yd P F ⟨E.B,γ⟩ a w o k:=by
 simp only[Y1]at h
 have I:∀{p q r:Value},a.eval x=p->a.eval y=q->(∀w,(Instr.indexAt t p q).run P w= .ok r w)->∀u,(execOp a.eval o).run P u= .ok (.value r) u:=λW O h1 u=>by
  unfold execOp;rw[ho];simp[W,O,h1]
 split at h
 ·rename_i d n ht hn;obtain⟨q,O⟩:=zq hE hn;have N:=hT.kind t d ht;split at h
  ·rename_i e hd;rw[hd]at N;split at h
   ·rename_i _ _ Q c D U;have K:=bm hE U;have hz:=hT.size D;split at h
    ·rename_i sz α R l;obtain⟨i,z,rfl,hi,h⟩:=h;obtain⟨g,Z⟩:=bV h;obtain rfl:=ap g;have M:SV F w.heap ⟨_,α,R,l⟩ (a.eval x):=K.sv;have f:=(ar.1 hi).1;generalize H:a.eval x=v at K M;cases K with
     |ct _=>cases f
     |ls hb h1 h2 T am al _=>
      obtain⟨us,h3,h4⟩:=M.elem hi;exact⟨_,_,Z,.bp (.inl hb) h3.up h4 .nl,λu _=>I H O (run_indexAt N hz f) u⟩
    ·rename_i sz α R l;obtain⟨i,z,rfl,hi,h⟩:=h;obtain⟨g,Z⟩:=bV h;obtain rfl:=ap g;have M:SV F w.heap ⟨_,α,R,l⟩ (a.eval x):=hW.sl K rfl;have f:=(ar.1 hi).1;generalize H:a.eval x=v at K M;cases K with
     |eg _=>cases f
     |bs hb h1 h2 T am al _=>
      obtain⟨us,h3,h4⟩:=M.elem hi;exact⟨_,_,Z,.bp hb h3.up h4 .nl,λu _=>I H O (run_indexAt N hz f) u⟩
    ·rename_i j;split at h
     ·rename_i L hL;rw[LS.pM]at h;obtain⟨i,⟨rfl,f⟩,h⟩:=h;obtain⟨g,h⟩:=bV h;have g:=ap g;have M:SV F w.heap L (a.eval x):=hW.sl K hL;obtain⟨b,J,cap,H⟩:=M.some (by omega);rw[H]at K;cases K with
      | @rw _ _ p' q' n' Y _ _ hg S _=>
       obtain⟨_,_,e1,e2,_⟩:=M.slice;rw[H]at e1;cases e1;have W:=S (by omega);rw[<-W]at hg;rw[g]at h;exact⟨_,_,h,.ep hg .nl,λu _=>I H O (run_indexAt N hz f) u⟩
     ·exact h.elim
    ·rename_i sz j lo m;split at h
     ·rename_i L hL;rw[LS.pM]at h;obtain⟨g,i,⟨rfl,f⟩,Z⟩:=bV h;obtain rfl:=ap g;generalize H:a.eval x=v at K;cases K with
      | @sw _ _ _ _ _ p q' n0 cap _ _ hg ao S _=>
       obtain⟨b,ac,ad⟩:=bb.1 hL;have M:SV F w.heap L _:=my (hW.br j b _ ac hg) ad;obtain⟨_,_,e1,e2,_⟩:=M.slice;cases e1;obtain⟨bk,J,Y,e3⟩:=M.some (by omega);cases e3;have W:=S (by omega);simp only[Option.map_some,Addr.add_lit]at W;subst W;refine⟨.pointer (some ⟨bk,J+lo*Q.size+i*Q.size,none⟩),_,Z,?_,λu _=>I H O (run_indexAt N hz f) u⟩;rw[show J+lo*Q.size+i*Q.size=J+(lo+i)*Q.size+0 by rw[Nat.add_mul];omega];exact .ep hg .nl
     ·exact h.elim
    ·exact h.elim
   ·exact h.elim
  ·rename_i len e hd;rw[hd]at N;split at h
   ·rename_i _ _ Q j J D U;obtain⟨b,H,T⟩:=xX (bm hE U);obtain⟨i,⟨rfl,f⟩,h⟩:=h;exact⟨_,_,h,T _,λu _=>I H O (λw=>by simp[Instr.indexAt,Instr.sureAddr,run_underlying N,hT.size D,asIntOf,f,Addr.add_lit]) u⟩
   ·rename_i _ _ Q cs D U;obtain⟨b,J,H,T⟩:=vw (bm hE U);obtain⟨i,⟨rfl,f⟩,h⟩:=h;exact⟨_,_,h,T _,λu _=>I H O (λw=>by simp[Instr.indexAt,Instr.sureAddr,run_underlying N,hT.size D,asIntOf,f,Addr.add_lit]) u⟩
   ·rename_i _ _ Q sz j i0 o' D U;obtain⟨b,q',H,T⟩:=wh (bm hE U);obtain⟨i,⟨rfl,f⟩,h⟩:=h;exact⟨_,_,h,T _,λu _=>by rw[<-a6];exact I H O (λw=>by simp[Instr.indexAt,Instr.sureAddr,run_underlying N,hT.size D,asIntOf,f,Addr.add_lit]) u⟩
   ·exact h.elim
  ·exact h.elim
 ·exact h.elim
theorem PZ(m:bI P tab)(j:ER F w.heap ⟨E.B,γ⟩ s.env a){t:Nat}{x y:Operand}(ho:o.op= .index t x y)(h:Y1 tab s (.index t x y) k):Yd P F ⟨E.B,γ⟩ a w o k:=by
 simp only[Y1]at h;split at h
 ·rename_i d n R N;obtain⟨q,D⟩:=zq j N;have g:=m.kind t d R;split at h
  ·rename_i p;rw[p]at g;split at h
   ·rename_i l u;have z:=bm j u;generalize r:a.eval x=v at z;cases z with
    |str _ _=>
     obtain⟨i,b,rfl,M,h⟩:=h;obtain⟨c,rfl⟩:=ar.1 M;refine⟨_,_,h,.int .nl,λH _=>?_⟩;have Q:i<(⟨l.toArray⟩:ByteArray).size:=c;unfold execOp;rw[ho];simp only[r,D,NB.str,Sem.run_bind,run_index_string H t _ _ _ g];simp[Q];rfl
   ·exact h.elim
  ·rename_i len e p;rw[p]at g;split at h
   ·rename_i _ _ U T f u;obtain⟨W,r,O⟩:=rp j u;obtain⟨i,⟨rfl,c⟩,h⟩:=h;obtain⟨v,S,I,J,K⟩:=D3 m f O h;exact⟨v,S,I,J,λH _=>by unfold execOp;rw[ho];simp[r,D,Instr.index,run_underlying g,asIntOf,c,m.size f,K]⟩
   ·exact h.elim
  ·exact h.elim
 ·exact h.elim
theorem zp{H:ae}{m:Md}(b:ER F H m s.env a){x:Option Operand}{n:Option Int}(h:sn s x=some n):x.map a.eval=n.map λn=>.int .i64 n:=by
 unfold sn at h;split at h
 ·cases h;rfl
 ·rename_i x;split at h
  ·rename_i e d;cases h;have:=bm b d;generalize c:a.eval x=v at this;cases this;simp[c]
  ·cases h
theorem o4{n:Nat}{lo hi:Option Int}{i:Nat->Nat->Prop}(h:bounds n lo hi i):∃x y:Nat,i x y/\x<=y/\y<=n/\∃f e:Option Nat,lo=f.map (λa=>((a:Nat):Int))/\hi=e.map (λa=>((a:Nat):Int))/\f.getD 0=x/\e.getD n=y:=by
 obtain⟨x,y,c,d,g,j⟩:=h;refine⟨x,y,j,g.1,g.2,?_⟩;cases lo with
 |none=>
  cases hi with
  |none=>exact⟨none,none,rfl,rfl,c.symm,d.symm⟩
  |some b=>simp only[]at c d;exact⟨none,some y,rfl,by rw[d];rfl,c.symm,rfl⟩
 |some b=>
  cases hi with
  |none=>simp only[]at c d;exact⟨some x,none,by rw[c];rfl,rfl,rfl,d.symm⟩
  |some k=>simp only[]at c d;exact⟨some x,some y,by rw[c];rfl,by rw[d];rfl,rfl,rfl⟩
theorem rH{t e:Nat}{sz:Nat}(c:P.underlying t=some (.slice e))(hz:∀w,(sizeOf e).run P w= .ok sz w)(p:Option Addr)(n cap:Nat)(lo hi:Option Nat)(b:lo.getD 0<=hi.getD n)(a:hi.getD n<=cap)(w:World):
  (Instr.sliceAt t (.slice p n cap) (lo.map λx=>.int .i64 (x:Nat)) (hi.map λx=>.int .i64 (x:Nat)) .none).run P w=
   .ok (.slice (if cap=lo.getD 0 then p else p.map (·.add (lo.getD 0*sz))) (hi.getD n-lo.getD 0) (cap-lo.getD 0)) w:=by
 cases lo with
 |none=>
  cases hi with
  |none=>simp[Instr.sliceAt,Instr.slice,run_underlying c,Instr.sliceBounds,hz]at b a⊢
  |some h=>
   simp at b a;simp[Instr.sliceAt,Instr.slice,run_underlying c,Instr.sliceBounds,Instr.sliceBound,asIntOf,hz,a]
 |some l=>
  cases hi with
  |none=>
   simp at b a;simp[Instr.sliceAt,Instr.slice,run_underlying c,Instr.sliceBounds,Instr.sliceBound,asIntOf,hz,b]
  |some h=>
   simp at b a;simp[Instr.sliceAt,Instr.slice,run_underlying c,Instr.sliceBounds,Instr.sliceBound,asIntOf,hz,b,a]
theorem NV{t:Nat}(d:P.underlying t=some .string)(l:List UInt8)(lo hi:Option Nat)(b:lo.getD 0<=hi.getD l.length)(a:hi.getD l.length<=l.length)(w:World):
  (Instr.sliceAt t (NB.str l) (lo.map λx=>.int .i64 (x:Nat)) (hi.map λx=>.int .i64 (x:Nat)) .none).run P w= .ok (NB.str ((l.take (hi.getD l.length)).drop (lo.getD 0))) w:=by
 have e:(⟨l.toArray⟩:ByteArray).size=l.length:=rfl
 have c:∀x y:Nat,x<=y->y<=l.length->(⟨l.toArray⟩:ByteArray).extract x y=⟨((l.take y).drop x).toArray⟩:=λx y f g=>by
  apply b3;simp[bn];rw[List.drop_take]
 cases lo with
 |none=>
  cases hi with
  |none=>
   have:=c 0 l.length (by omega) (by omega);simp[Instr.sliceAt,Instr.slice,run_underlying d,Instr.sliceBounds,NB.str,e,this]at b a⊢
  |some h=>
   simp at b a;have:=c 0 h (by omega) (by omega);simp[Instr.sliceAt,Instr.slice,run_underlying d,Instr.sliceBounds,Instr.sliceBound,asIntOf,NB.str,e,a,this]
 |some x=>
  cases hi with
  |none=>
   simp at b a;have:=c x l.length (by omega) (by omega);simp[Instr.sliceAt,Instr.slice,run_underlying d,Instr.sliceBounds,Instr.sliceBound,asIntOf,NB.str,e,b,this]
  |some h=>
   simp at b a;have:=c x h (by omega) (by omega);simp[Instr.sliceAt,Instr.slice,run_underlying d,Instr.sliceBounds,Instr.sliceBound,asIntOf,NB.str,e,b,a,this]
theorem RL.cut{H:ae}{m:Md}{sz:Nat}{α:Type}{enc:α->List C}{l:List α}{p:Option Addr}{n cap:Nat}(h:RL F H m [.ls sz α enc l] [.slice p n cap]){x y:Nat}(J:x<=y)(hy:y<=l.length):
  RL F H m [.ls sz α enc ((l.drop x).take (y-x))] [gZ sz x (y-x) (.slice p n cap)]:=by
 have I:n=l.length:=by
  obtain⟨E,c,e,_⟩:=h.sv.slice;cases e;rfl
 cases h with
 |ct _=>
  simp at hy;obtain rfl:y=0:=hy;obtain rfl:x=0:=by omega
  simp only[bi,bj,gZ];exact .ct .nl
 |ls hb k o z D w _=>
  have i:=(RL.ls (m:=m) hb k o z D w .nl).sv.part (lo:=x) (n:=y-x) (by omega);generalize a:gZ sz x (y-x) _=u at i;rcases i with⟨E,rfl,e⟩|⟨b,d,c,j,rfl,q,r,s,t,v⟩
  ·have e:(l.drop x).take (y-x)=[]:=e;rw[e];exact .ct .nl
  ·have g : ∃ f, b = _ /\ f = d := ⟨d,by
    simp only[gZ]at a;split at a
    ·simp at a;exact a.1.1.symm
    ·simp[Addr.add_lit]at a;exact a.1.1.symm,rfl⟩
   obtain⟨_,rfl,rfl⟩:=g;exact .ls hb q r s t v .nl
theorem RL.AR{H:ae}{m:Md}{sz:Nat}{α:Type}{enc:α->List C}{l:List α}{p:Option Addr}{n cap:Nat}(hv:SV F H ⟨sz,α,enc,l⟩ (.slice p n cap))(h:RL F H m [.bs sz α enc l] [.slice p n cap]){x y:Nat}(I:x<=y)(hy:y<=l.length):
  RL F H m [.bs sz α enc ((l.drop x).take (y-x))] [gZ sz x (y-x) (.slice p n cap)]:=by
 have D:n=l.length:=by
  obtain⟨t,c,e,_⟩:=hv.slice;cases e;rfl
 cases h with
 |eg _=>
  simp at hy;obtain rfl:y=0:=hy;obtain rfl:x=0:=by omega
  simp only[bi,bj,gZ];exact .eg .nl
 |bs hb v w E J z _=>
  have i:=hv.part (lo:=x) (n:=y-x) (by omega);generalize a:gZ sz x (y-x) _=u at i;rcases i with⟨t,rfl,e⟩|⟨b,d,c,j,rfl,k,o,q,r,s⟩
  ·have e:(l.drop x).take (y-x)=[]:=e;rw[e];exact .eg .nl
  ·have g : ∃ f, b = _ /\ f = d := ⟨d,by
    simp only[gZ]at a;split at a
    ·simp at a;exact a.1.1.symm
    ·simp[Addr.add_lit]at a;exact a.1.1.symm,rfl⟩
   obtain⟨_,rfl,rfl⟩:=g;exact .bs hb k o q r s .nl
end
end Go.AM
end
