/- INSERT AND DELETE, I0: common lemmas. -/
import Derived.Test.YtogallppofinhaaGreatDoorAmI
import Derived.Test.YtogallppofinhaaGreatDoorAmT
import Derived.Test.YtogallppofinhaaGreatDoorL0
namespace Go.Nest
open Go Go.AM Go.NB Go.Proofs
open Go.Proofs.YtogallppofinhaaGreatDoor (tab tabOk)
set_option linter.unusedVariables false
set_option linter.unusedSimpArgs false
set_option maxRecDepth 4000
theorem seg_cell {H : Heap} {g off : Nat} {et : TypeId} {cur : Array Value} {cs : List Value} {N : Nat} (hg : H[g]? = some (.cells cur et (0, 0))) (h : (cur.toList.drop off).take N = cs) (k : Nat) {o : Nat} (ho : o = off + k) : ∀ j v, (cs.drop k)[j]? = some v → NB.cell H g (o + j) = some v := by
  intro j v hj
  subst ho
  unfold NB.cell
  rw [hg]
  rw [← h, List.getElem?_drop, List.getElem?_take] at hj
  split at hj
  · rw [List.getElem?_drop] at hj
    rw [Nat.add_assoc]
    simpa using hj
  · cases hj
theorem overlaps_raw {f t : Nat} {fn : Func} {e sz : Nat} (hf : Tryz.prog.funcs[f]? = some fn) (h1 : (fn.name == "runtime.NumGoroutine") = false) (h2 : fn.body.isNone = true) (h3 : Extern.findNext fn = none)
    (h4 : Extern.find fn = some (Extern.SlicesOverlaps.overlaps #[t, t] #[4])) (ht : Tryz.prog.underlying t = some (.slice e)) (hz : ∀ w, (sizeOf e).run Tryz.prog w = .ok sz w)
    {H : Heap} {g o lb cb vb vo m vc : Nat} {et et' : TypeId} {cur cur' : Array Value} (hne : vb ≠ g) (hg : H[g]? = some (.cells cur et (0, 0))) (hv : H[vb]? = some (.cells cur' et' (0, 0))) (hs : cur.size ≠ 0) :
    CallsH Tryz.prog f #[.slice (some ⟨vb, vo, none⟩) m vc, .slice (some ⟨g, o, none⟩) lb cb] H (fun v H' => v = .bool false ∧ H' = H) := by
  intro w hw
  subst hw
  rw [run_callFunc_extern hf h1 h2 h3 h4, Lib.run_overlaps_apart w t 4 e ht sz hz ⟨vb, vo, none⟩ ⟨g, o, none⟩ m vc lb cb hne et' et cur'.size cur.size (by simp [World.shape?, hv]) (by simp [World.shape?, hg]) hs (by simp [World.frozen?, hv]) (by simp [World.frozen?, hv])]
  exact ⟨rfl, rfl, rfl⟩
theorem wlMark {c : Cx} {ops : Array Oper} {l : List Oper} {env : Env} {H : Heap} {Q : Exit → Act → World → Prop} (h : WL c ops l env H Q) : WL c ops l env H Q := h
theorem slMark {c : Cx} {ops : Array Oper} {l T : List Oper} {env : Env} {H : Heap} {Q : Exit → Act → World → Prop} (h : SL c ops l env H T Q) : SL c ops l env H T Q := h
end Go.Nest
