/- part -/
import Derived.Test.YtpechfcbnoggfaaGreatDoorAmH
import Derived.WalkKit
import Derived.ProofKit
import Derived.OpenShut
import Derived.ShutString
import Derived.ChangeOld
import Derived.Below
set_option linter.unusedVariables false
set_option linter.unusedSimpArgs false
namespace Go.AM
open Go Go.NB Go.ChangeShapes Go.WideShapes Go.ChangeAt Go.RowKit
def jj(H:ab):Nat→Prop:=fun k=>k<H.size
def mY(P:Program)(t:TypeId)(sz:Nat){α:Type}(enc:α→List C):Prop:=
 ∀{b:Type} {e:TypeId×Value→b} {W:World} {base:Nat} {held:Bool} {a:Nat} {c:List Value} {x:DataW b×List MemPlace},
  DataW.trod e P W base (fun _=>true) held a t c=some x→∃y:α,RL (jj W.heap) W.heap m0 (enc y) c∧(enc y).length=sz
section
variable {P:Program} {t e:TypeId}
theorem mY.byte(a:P.underlying t=some (.int .u8)):mY P t 1 bt:=fun h=>by
 obtain⟨n,rfl,_,b⟩:=DataW.trod_int a h;simp[Lit.wf,IntKind.min,IntKind.max,IntKind.bits,IntKind.signed]at b
 have e:((UInt8.ofNat n.toNat).toNat:Int)=n:=by
  rw[UInt8.toNat_ofNat_of_lt' (by show n.toNat<256;omega)];omega
 exact⟨UInt8.ofNat n.toNat,by unfold bt;rw[e];exact .int .nl,rfl⟩
theorem mY.int(a:P.underlying t=some (.int .i64)):mY P t 1 encI:=fun h=>by
 obtain⟨n,rfl,_,b⟩:=DataW.trod_int a h;exact⟨n,.int .nl,rfl⟩
theorem RL.piece{F:Nat→Prop}{H:ab}{m:Md}{cs:List Value}{a b:List C}{off n:Nat}(h1:RL F H m a ((cs.drop off).take n))(h2:RL F H m b (cs.drop (off+n))):RL F H m (a++b) (cs.drop off):=by
 rw[←List.take_append_drop n (cs.drop off),List.drop_drop];exact h1.append h2
theorem RL.fin{F:Nat→Prop}{H:ab}{m:Md}{cs:List Value}{n:Nat}(h:cs.length=n):RL F H m [] (cs.drop n):=by
 rw[List.drop_of_length_le (by omega)];exact .nl
end
theorem WR.begin(H:ab):WR (en (jj H) (fun _=>False) [] [] H) (jj H) [] [] H:=
 ⟨rfl,fun j b g h=>by simp at h,fun i j b a g c _ h=>by simp at h,fun j b g k h=>by simp at h,fun k h=>h,fun k h=>h.elim,Nat.le_refl _,fun k _ _=>rfl,fun k h=>h,fun k h=>.inl h,fun j b g k h=>by simp at h,fun j v h=>by simp[en]at h⟩
theorem dU.Jx{F:Nat→Prop}{H:ab}{m:Md}{x:C}{v:Value}(h:RL F H m0 [x] [v]):RA F H m (.c x) v:=RL.up h
theorem ae.below{P:Program}{f:FuncId}{args:List A}{vs:List Value}{W:World}{b:Bool}(h:ae P f args [] (Rt (.c (.bool b)) []))(q:dU (jj W.heap) W.heap ⟨fun _=>False,[]⟩ args vs)(hc:(callFunc f vs.toArray).run P W= .ok (.enter f vs.toArray) W):
  Calls P f vs.toArray W fun e n=>e= .returned (.bool b)∧Below W.heap.size W n:=by
 have:=h _ _ _ _ vs q (WR.begin W.heap) W rfl;rw[hc]at this;refine this.2.mono fun e n h=>?_;rcases h with⟨v,o,⟨out,ah',F',γ',⟨a,l⟩,_,_,d,p,m⟩,i⟩|⟨v,o,⟨out,ah',F',γ',⟨a,l⟩,_,_,d,p,m⟩,i⟩
 ·subst a;cases p with
  |bool _=>
   refine⟨o,i.os,i.tape,i.output,m.size,fun k s=>m.ca k s ?_⟩;rintro⟨j,t,g,r,_⟩;simp at r
 ·subst a;cases d
end Go.AM
