/- part -/
import Derived.Test.YtpechfcbnoggfaaGreatDoorAmG
import Derived.Laws.Externs
import Derived.Below
set_option linter.unusedVariables false
set_option linter.unusedSimpArgs false
namespace Go.AM
open Go Go.NB Go.RowKit
theorem ext_spec {d : Bool} {P : Program} {f : FuncId} {fn : Func} {e : Array Value → Sem Value} (hf : P.funcs[f]? = some fn) (hname : (fn.name == "runtime.NumGoroutine") = false) (hb : fn.body.isNone = true) (hn : Extern.findNext fn = none) (he : Extern.find fn = some e)
  {args : List A} {x : C} (hx : closed1 x = true) (h : ∀ (F : Nat → Prop) (H : Heap) (m : Md) (vs : List Value) (w : World), RAs F H m args vs → ∃ v, (e vs.toArray).run P w = .ok v w ∧ ∀ F H m, RL F H m [x] [v]) :
  DoesD d P f args [] (Rt (.c x) []) := by
 intro F L γ H vs hargs hW w hw
 obtain ⟨v, h1, h2⟩ := h F H _ vs w hargs
 rw [run_callFunc_extern hf hname hb hn he, h1]
 refine ⟨rfl, .ret (.c x), [], F, γ, ⟨rfl, rfl⟩, ?_, rfl, rfl, h2 _ _ _, ?_⟩
 ·show clean1 x = true
  cases x <;> first | rfl | cases hx
 ·subst hw; exact hW
theorem Does.of_below {P : Program} {f : FuncId} {args : List A} {x : C} (hx : closed1 x = true) (hcall : ∀ args w, (callFunc f args).run P w = .ok (.enter f args) w)
  (h : ∀ (F L : Nat → Prop) (γ : List Value) (w : World) (vs : List Value), RAs F w.heap ⟨L, γ⟩ args vs → (∀ k, F k ∨ L k → k < w.heap.size) → ∃ v, (∀ F H m, RL F H m [x] [v]) ∧ Calls P f vs.toArray w fun e w' => e = .returned v ∧ Below w.heap.size w w') :
  Does P f args [] (Rt (.c x) []) := by
 intro F L γ H vs hargs hW w hw
 subst hw
 obtain ⟨v, h1, h2⟩ := h F L γ w vs hargs (fun k hk => hk.elim (hW.fb k) (fun hk => (hW.bb k hk).1))
 rw [hcall]
 refine ⟨rfl, h2.mono fun e w' ⟨he, hb⟩ => .inl ⟨v, he, ⟨.ret (.c x), [], F, γ, ⟨rfl, rfl⟩, ?_, rfl, rfl, h1 _ _ _, ?_⟩, ⟨hb.os, hb.tape, hb.output, fun h => by cases h⟩⟩⟩
 ·show clean1 x = true
  cases x <;> first | rfl | cases hx
 ·exact hW.same ⟨hb.size, fun k hk _ => hb.block k hk⟩
theorem strs_of {F : Nat → Prop} {H : Heap} {m : Md} : ∀ {l : List (List UInt8)} {css : List Value}, RL F H m (l.flatMap encS) css → css = l.map NB.str
 | [], _, h => by cases h; rfl
 | x :: l, css, h => by
  rw [List.flatMap_cons] at h
  cases h with
  | str _ t => rw [strs_of t]; rfl
end Go.AM
