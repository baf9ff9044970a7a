/- THE ABSTRACT MACHINE: functions without a body. -/
import Derived.Test.YtogallppofinhaaGreatDoorAm19
import Derived.Laws.Externs
import Derived.Below
namespace Go.AM
open Go Go.NB Go.RowKit
set_option linter.unusedVariables false

theorem ext_spec {P : Program} {f : FuncId} {fn : Func} {e : Array Value → Sem Value} (hf : P.funcs[f]? = some fn) (hname : (fn.name == "runtime.NumGoroutine") = false) (hb : fn.body.isNone = true) (hn : Extern.findNext fn = none) (he : Extern.find fn = some e)
    {args : List A} {x : C} (hx : closed1 x = true) (h : ∀ (F : Nat → Prop) (H : Heap) (m : Md) (vs : List Value) (w : World), RAs F H m args vs → ∃ v, (e vs.toArray).run P w = .ok v w ∧ ∀ F H m, RL F H m [x] [v]) :
    Does P f args [] (Rt (.c x) []) := by
  intro F L γ H vs hargs hW w hw
  obtain ⟨v, h1, h2⟩ := h F H _ vs w hargs
  rw [run_callFunc_extern hf hname hb hn he, h1]
  refine ⟨rfl, .ret (.c x), [], F, γ, ⟨rfl, rfl⟩, ?_, rfl, rfl, h2 _ _ _, ?_⟩
  · show clean1 x = true
    cases x <;> first | rfl | cases hx
  · subst hw; exact hW


end Go.AM
