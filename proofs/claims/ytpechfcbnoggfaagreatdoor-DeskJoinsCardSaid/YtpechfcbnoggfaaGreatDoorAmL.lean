import Derived.Test.YtpechfcbnoggfaaGreatDoorAmH
import Derived.WalkKit
import Derived.ProofKit
import Derived.OpenShut
import Derived.ShutString
import Derived.ChangeOld
import Derived.Below
set_option linter.unusedVariables false
set_option linter.unusedSimpArgs false
namespace Go.AM
open Go Go.NB Go.ChangeShapes Go.WideShapes Go.ChangeAt Go.RowKit
def kY(H:ae):Nat->Prop:=λk=>k<H.size
def uS(P:Program)(t:TypeId)(sz:Nat){α:Type}(enc:α->List C):Prop:=
 ∀{Hd:Type} {e:TypeId×Value->Hd} {W:World} {a:Nat} {held:Bool} {b:Nat} {c:List Value} {x:DataW Hd×List MemPlace},
  DataW.trod e P W a (λ_=>true) held b t c=some x->∃y:α,RL (kY W.heap) W.heap m0 (enc y) c/\(enc y).length=sz
section
variable {P:Program} {t e:TypeId}
theorem uS.int(a:P.underlying t=some (.int .i64)):uS P t 1 encI:=λh=>by
 obtain⟨n,rfl,_,b⟩:=DataW.trod_int a h;exact⟨n,.int .nl,rfl⟩
end
theorem WR.begin(H:ae)(hg:∀p∈iw,lK H p):WR (en (kY H) (λ_=>False) [] [] H) (kY H) [] [] H:=
 ⟨rfl,λj b g h=>by simp at h,λi j b c g e _ h=>by simp at h,λj b g k h=>by simp at h,λk h=>h,λk h=>h.elim,Nat.le_refl _,λk _ _=>rfl,λk h=>h,λk h=>.inl h,λj b g k h=>by simp at h,λj v h=>by simp[en]at h,λp a=>⟨by obtain⟨d,t,f,h,_⟩:=hg p a;exact(Array.getElem?_eq_some_iff.1 h).1,λ⟨j,b,g,h,_⟩=>by simp at h,hg p a⟩⟩
theorem ed.Fa{F:Nat->Prop}{H:ae}{m:Md}{x:C}{v:Value}(h:RL F H m0 [x] [v]):RA F H m (.c x) v:=RL.up h
theorem aa.below{P:Program}{f:FuncId}{args:List A}{vs:List Value}{W:World}{b:Bool}(h:aa P f args [] (Rt (.c (.bool b)) []))(r:ed (kY W.heap) W.heap ⟨λ_=>False,[]⟩ args vs)(hc:(callFunc f vs.toArray).run P W= .ok (.enter f vs.toArray) W)(hg:∀p∈iw,lK W.heap p:=by exactλp u=>absurd u (by unfold iw;exact List.not_mem_nil)):
  Calls P f vs.toArray W λe n=>e= .returned (.bool b)/\Below W.heap.size W n:=by
 have:=h _ _ _ _ vs r (WR.begin W.heap hg) W rfl;rw[hc]at this;refine this.2.mono λe n h=>?_;rcases h with⟨v,o,⟨out,ah',F',γ',⟨a,l⟩,_,_,d,q,m⟩,i⟩|⟨v,o,⟨out,ah',F',γ',⟨a,l⟩,_,_,d,q,m⟩,i⟩
 ·subst a;cases q with
  |bool _=>
   refine⟨o,i.os,i.tape,i.output,m.size,λk t=>m.cn k t ?_⟩;rintro⟨j,w,g,s,_⟩;simp at s
 ·subst a;cases d
end Go.AM
