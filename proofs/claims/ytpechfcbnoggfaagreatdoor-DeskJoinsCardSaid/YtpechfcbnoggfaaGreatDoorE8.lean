import Derived.Test.YtpechfcbnoggfaaGreatDoorJ8
import Derived.Test.YtpechfcbnoggfaaGreatDoorZ1
import Derived.Test.YtpechfcbnoggfaaGreatDoorV36
import Derived.Lib.ItoaLen
set_option linter.unusedVariables false
set_option linter.unusedSimpArgs false
open List renaming mem_cons_of_mem->D,mem_cons_self->E,size_toArray->I
namespace Go.Nest
open Go Go.AM Go.Proofs Go.RowKit
open Go.Proofs.YtpechfcbnoggfaaGreatDoor (tab tabOk)
set_option maxRecDepth 4000
theorem An{d:Bool}{P:Program}{f:FuncId}{ah:List B}{env:List (Nat×A)}{args:List A}{g:G}{k:List B->A->Prop}{l:A->St->Prop}{b:List A}{tah Y:List B}{K:A->Prop}(js m:List Nat)(i:bB d P f b tah (λout ah=>∃x,K x/\Rt x Y out ah))
  (hk:∀x,K x->fm k (dV m tah (aZ js ah) Y) (dX (sig m (aZ js ah).length) x))(c:jY (aZ js ah) m args b tah:=by(repeat' first|exact trivial|exact rfl|refine And.intro ?_ ?_);first|done|fail)(hg:g.call m=true:=by rfl):
  ∃(js m:List Nat) (b:List A) (tah:List B) (Q:Out->List B->Prop),bB d P f b tah Q/\jY (aZ js ah) m args b tah/\g.call m=true/\
   ∀out ah',Q out ah'->match out with
    | .ret a=>fm k (dV m tah (aZ js ah) ah') (dX (sig m (aZ js ah).length) a)
    | .cV a=>fm l (dX (sig m (aZ js ah).length) a) ⟨env,dV m tah (aZ js ah) ah'⟩:=
 ⟨js,m,b,tah,_,i,c,hg,λout ah' ⟨x,j,e,h⟩=>by subst e;subst h;exact hk x j⟩
def uP(H:NB.ae):Prop:=∀p∈iw,lK H p
theorem aa.xG{P:Program}{f:FuncId}{args:List A}{K:A->Prop}(l:∀x,K x->fp x=true)(b:∀args w,(callFunc f args).run P w= .ok (.enter f args) w)
  (h:∀(F L:Nat->Prop) (γ:List Value) (w:World) (vs:List Value),ed F w.heap ⟨L,γ⟩ args vs->(∀k,F k\/L k->k<w.heap.size)->uP w.heap->Calls P f vs.toArray w λe w'=>∃x v,K x/\(∀F H m,RA F H m x v)/\e= .returned v/\Below w.heap.size w w'):
  aa P f args [] (λout ah=>∃x,K x/\Rt x [] out ah):=by
 intro F L γ H vs a d w q;subst q;have j:=h F L γ w vs a (λk c=>c.elim (d.fb k) (λc=>(d.bb k c).1)) (λp o=>(d.l5 p o).2);rw[b];refine⟨rfl,j.mono λe w' ⟨x,v,g,i,n,hb⟩=>.inl ⟨v,n,⟨.ret x,[],F,γ,⟨x,g,rfl,rfl⟩,l x g,rfl,rfl,i _ _ _,?_⟩,⟨hb.os,hb.tape,hb.output,λh=>by cases h⟩⟩⟩;exact d.same ⟨hb.size,λk c _=>hb.block k c⟩
theorem aa.rt{P:Program}{f:FuncId}{args:List A}{x:A}(h:aa P f args [] (λout ah=>∃y,y=x/\Rt y [] out ah)):aa P f args [] (Rt x []):=by
 have e:(λ(out:Out) (ah:List B)=>∃y,y=x/\Rt y [] out ah)=Rt x []:=by
  funext out ah;exact propext ⟨λ⟨y,e,h⟩=>e▸h,λh=>⟨x,rfl,h⟩⟩
 rw[e]at h;exact h
theorem Pg{w:World}(h:uP w.heap):Lib.TabIs Tryz.prog w "internal/strconv.uint64pow10" .u64 Lib.pow10Tab:=by
 obtain⟨a,t,f,h,e⟩:=h (3,BT) (by unfold iw;exact D _ (D _ (E ..)));have e:a=(Lib.pow10Tab.map λz=>Value.int .u64 z).toArray:=Eq.trans e (by rfl);subst e;unfold Lib.TabIs World.var?;rw[show Tryz.prog.globalNamed "internal/strconv.uint64pow10" =some 3 by kernel_rfl];show(match w.heap[3]? with|some (.cells a _ _)=>some a|_=>none)=_;rw[h]
theorem Kv(n:Int)(a: -9223372036854775808<=n)(h1:n<=9223372036854775807):aa Tryz.prog 256 [.c (.int .i64 n)] [] (Rt (.c (.str (Lib.itoa n))) []):=by
 refine aa.rt (aa.xG (λx e=>by rw[e];rfl) Tryz.call256 (λF L γ w p h l g=>?_));match p,h with
 |[v],⟨o,_⟩=>
  cases o with
  |int _=>
   refine(Any.strconv_Itoa KF n a h1 w (Pg g)).mono λe q ⟨d,k,b,f⟩=>⟨_,NB.str (Lib.itoa n),rfl,λF H m=>.str (Nat.le_trans (Lib.itoa_length_le n a h1) (by decide)) .nl,d,?_⟩;rw[f];exact⟨rfl,rfl,rfl,by show w.heap.size<=(w.heap++b).size;simp,λi j=>by show(w.heap++b)[i]? =_;rw[Array.getElem?_append_left j]⟩
theorem zL(s:List UInt8)(v:Int)(hl:s.length<=281474976710656)(h:Lib.atoiAll s= .ok v):aa Tryz.prog 182 [.c (.str s)] [] (Rt (.ao [(false,[.int .i64 v]),(false,[.raw .nilIface])]) []):=by
 refine aa.rt (aa.xG (λx e=>by rw[e];rfl) Tryz.call182 (λF L γ w j i g l=>?_));match j,i with
 |[u],⟨a,_⟩=>
  cases a with
  |str _ _=>
   refine(Any.strconv_Atoi_ok w8 ⟨s.toArray⟩ (by show s.toArray.size<=_;rw[I];omega) v (by simpa using h) w).mono λe n ⟨b,d⟩=>⟨_,.tuple #[.int .i64 v,.nilIface],rfl,λF H m=>⟨[.int .i64 v,.nilIface],rfl,⟨_,.int .nl,rfl,λ_=>rfl⟩,⟨_,.raw rfl .nl,rfl,λ_=>rfl⟩,trivial⟩,b,?_⟩;rcases d with rfl|⟨t,rfl⟩
   ·exact Below.refl _ _
   ·exact⟨rfl,rfl,rfl,by rw[Lib.bytesWorld_size];omega,λk f=>Lib.bytesWorld_at_old w _ t k f⟩
theorem Bg{w:World}(hg:uP w.heap){g:Nat}(hm:(g,wJ)∈iw):∃t p,w.cell? ⟨g,0,none⟩=some (.iface t p):=by
 obtain⟨b,t,f,h,a,p,e⟩:=hg _ hm;subst e;refine⟨a,p,?_⟩;unfold World.cell?;simp only[h];rfl
theorem zK(s:List UInt8)(hl:s.length<=281474976710656)(h:∀v,Lib.atoiAll s≠.ok v):aa Tryz.prog 182 [.c (.str s)] [] (λout ah=>∃x,(∃n t p,x=A.ao [(false,[.int .i64 n]),(false,[.raw (.iface t p)])])/\Rt x [] out ah):=by
 refine aa.xG (λx ⟨n,t,p,e⟩=>by rw[e];rfl) Tryz.call182 (λF L γ w y r q k=>?_);match y,r with
 |[u],⟨o,_⟩=>
  cases o with
  |str _ _=>
   have l:(⟨s.toArray⟩:ByteArray).data.toList=s:=by simp
   have fin:∀{n:Int} {t N:Nat} {b:World} {e:Ending},e= .returned (.tuple #[.int .i64 n,.iface t (.pointer (some ⟨N,0,none⟩))])->Below w.heap.size w b->∃x v,(∃n t p,x=A.ao [(false,[.int .i64 n]),(false,[.raw (.iface t p)])])/\(∀F H m,RA F H m x v)/\e= .returned v/\Below w.heap.size w b:=λ{n t N b e} a hb=>
    ⟨_,.tuple #[.int .i64 n,.iface t (.pointer (some ⟨N,0,none⟩))],⟨n,t,_,rfl⟩,λF H m=>⟨[.int .i64 n,.iface t (.pointer (some ⟨N,0,none⟩))],rfl,⟨_,.int .nl,rfl,λ_=>rfl⟩,⟨_,.raw rfl .nl,rfl,λ_=>rfl⟩,trivial⟩,a,hb⟩
   cases e:Lib.atoiAll s with
   |ok v=>exact absurd e (h v)
   |range=>
    obtain⟨j,i,a⟩:=Bg k (g:=2) (by unfold iw;exact D _ (E ..));refine(Any.strconv_Atoi_range w8 ⟨s.toArray⟩ (by show s.toArray.size<=_;rw[I];omega) (by rw[l];exact e) (.iface j i) w a (.inr ⟨_,_,rfl⟩)).mono λe b ⟨N,d,_,_,f⟩=>fin d f
   |_=>
    obtain⟨j,i,a⟩:=Bg k (g:=1) (by unfold iw;exact E ..);refine(Any.strconv_Atoi_syntax w8 ⟨s.toArray⟩ (by show s.toArray.size<=_;rw[I];omega) (by rw[l];exact e) (.iface j i) w a (.inr ⟨_,_,rfl⟩)).mono λe b ⟨N,d,_,_,f⟩=>fin d f
def bE(n:Int):List UInt8:=if 0<=n then Lib.decDigits n.toNat else 45::Lib.decDigits (-n).toNat
theorem pK(n:Int):bE n=Lib.itoa n:=by
 unfold bE Lib.itoa;by_cases h:0<=n
 ·rw[if_pos h,if_neg (by omega)]
 ·rw[if_neg h,if_pos (by omega),show(-n).toNat=n.natAbs by omega]
structure cX(n:Int):Prop where
 d:aa Tryz.prog 188 [.c (.int .i64 n)] [] (Rt (.c (.str (bE n))) [])
 l:(bE n).length<=21
theorem cX.all{n:Int}(a: -9223372036854775808<=n)(h1:n<=9223372036854775807):cX n:=by
 refine⟨?_,by rw[pK];exact Lib.itoa_length_le n a h1⟩;rw[pK];have q:=Kv n a h1;refine af (n:=5) (n0:=0) tabOk Tryz.call188 Tryz.func188 ?_;intro hb;refine cl [] [] (q) ?_;exact rx [] []
end Go.Nest
