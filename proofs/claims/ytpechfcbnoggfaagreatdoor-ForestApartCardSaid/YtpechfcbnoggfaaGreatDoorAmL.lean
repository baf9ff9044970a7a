/- part -/
import Derived.Test.YtpechfcbnoggfaaGreatDoorAmH
import Derived.WalkKit
import Derived.ProofKit
import Derived.OpenShut
import Derived.ShutString
import Derived.ChangeOld
import Derived.Below
set_option linter.unusedVariables false
set_option linter.unusedSimpArgs false
namespace Go.AM
open Go Go.NB Go.ChangeShapes Go.WideShapes Go.ChangeAt Go.RowKit
def jJ(H:af):Nat→Prop:=fun k=>k<H.size
def nF(P:Program)(t:TypeId)(sz:Nat){α:Type}(enc:α→List C):Prop:=
 ∀{c:Type} {e:TypeId×Value→c} {W:World} {a:Nat} {held:Bool} {b:Nat} {d:List Value} {x:DataW c×List MemPlace},
  DataW.trod e P W a (fun _=>true) held b t d=some x→∃y:α,RL (jJ W.heap) W.heap m0 (enc y) d∧(enc y).length=sz
section
variable {P:Program} {t e:TypeId}
theorem nF.byte(a:P.underlying t=some (.int .u8)):nF P t 1 bD:=fun h=>by
 obtain⟨n,rfl,_,b⟩:=DataW.trod_int a h;simp[Lit.wf,IntKind.min,IntKind.max,IntKind.bits,IntKind.signed]at b
 have e:((UInt8.ofNat n.toNat).toNat:Int)=n:=by
  rw[UInt8.toNat_ofNat_of_lt' (by show n.toNat<256;omega)];omega
 exact⟨UInt8.ofNat n.toNat,by unfold bD;rw[e];exact .int .nl,rfl⟩
theorem nF.int(a:P.underlying t=some (.int .i64)):nF P t 1 encI:=fun h=>by
 obtain⟨n,rfl,_,b⟩:=DataW.trod_int a h;exact⟨n,.int .nl,rfl⟩
theorem RL.piece{F:Nat→Prop}{H:af}{m:Md}{cs:List Value}{a b:List C}{off n:Nat}(h1:RL F H m a ((cs.drop off).take n))(h2:RL F H m b (cs.drop (off+n))):RL F H m (a++b) (cs.drop off):=by
 rw[←List.take_append_drop n (cs.drop off),List.drop_drop];exact h1.append h2
theorem RL.fin{F:Nat→Prop}{H:af}{m:Md}{cs:List Value}{n:Nat}(h:cs.length=n):RL F H m [] (cs.drop n):=by
 rw[List.drop_of_length_le (by omega)];exact .nl
end
theorem WR.begin(H:af):WR (en (jJ H) (fun _=>False) [] [] H) (jJ H) [] [] H:=
 ⟨rfl,fun j b g h=>by simp at h,fun i j b a g c _ h=>by simp at h,fun j b g k h=>by simp at h,fun k h=>h,fun k h=>h.elim,Nat.le_refl _,fun k _ _=>rfl,fun k h=>h,fun k h=>.inl h,fun j b g k h=>by simp at h,fun j v h=>by simp[en]at h⟩
theorem eA.Cn{F:Nat→Prop}{H:af}{m:Md}{x:C}{v:Value}(h:RL F H m0 [x] [v]):RA F H m (.c x) v:=RL.up h
theorem ai.below{P:Program}{f:FuncId}{args:List A}{vs:List Value}{W:World}{b:Bool}(h:ai P f args [] (Rt (.c (.bool b)) []))(q:eA (jJ W.heap) W.heap ⟨fun _=>False,[]⟩ args vs)(hc:(callFunc f vs.toArray).run P W= .ok (.enter f vs.toArray) W):
  Calls P f vs.toArray W fun e n=>e= .returned (.bool b)∧Below W.heap.size W n:=by
 have:=h _ _ _ _ vs q (WR.begin W.heap) W rfl;rw[hc]at this;refine this.2.mono fun e n h=>?_;rcases h with⟨v,o,⟨out,ah',F',γ',⟨a,l⟩,_,_,d,p,m⟩,i⟩|⟨v,o,⟨out,ah',F',γ',⟨a,l⟩,_,_,d,p,m⟩,i⟩
 ·subst a;cases p with
  |bool _=>
   refine⟨o,i.os,i.tape,i.output,m.size,fun k s=>m.cM k s ?_⟩;rintro⟨j,t,g,r,_⟩;simp at r
 ·subst a;cases d
end Go.AM
