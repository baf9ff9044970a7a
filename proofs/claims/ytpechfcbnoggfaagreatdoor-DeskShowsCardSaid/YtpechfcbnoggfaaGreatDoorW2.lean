/- part -/
import Derived.Test.YtpechfcbnoggfaaGreatDoorV1
import Derived.Test.YtpechfcbnoggfaaGreatDoorG9
import Derived.Test.YtpechfcbnoggfaaGreatDoorAmX
import Derived.Test.YtpechfcbnoggfaaGreatDoorAmG
import Derived.Test.YtpechfcbnoggfaaGreatDoorL0
import Derived.Shelf.Sort.Plain
import Derived.Test.YtpechfcbnoggfaaGreatDoorProg
import Derived.KernelRfl
set_option linter.unusedVariables false
set_option linter.unusedSimpArgs false

namespace Go.Nest
open Go Go.AM Go.Proofs
open Go.Proofs.YtpechfcbnoggfaaGreatDoor (tab tabOk)
set_option maxRecDepth 4000
theorem index_spec (l : List Int) (n : Int) : Does Tryz.prog 218 [.c (.bs 1 Int encI l), .c (.int .i64 n)] [] (Rt (.c (.int .i64 (idxF (fun x => decide (x = n)) l))) []) := by
 refine X_spec (n := 19) (n0 := 0) tabOk Tryz.call218 Tryz.func218 ?_
 intro hb; have hb : l.length ≤ 9223372036854775807 := hb.1.1
 (conv => whnf)
 refine lp Nat (fun i => ⟨[(0, .c (.bs 1 Int encI l)), (1, .c (.int .i64 n)), (7, .c (.int .i64 l.length)), (8, .c (.int .i64 i))], []⟩) (fun i => i ≤ l.length ∧ (l.take i).any (fun x => decide (x = n)) = false) (fun i => l.length - i) 0 [] [] ?_ ?_ (fun i hi => ?_)
 ·simp
 ·repeat' first | exact trivial | exact rfl | refine And.intro ?_ ?_
 (conv => whnf)
 refine dec (fun h4 => ?_) (fun h4 => ?_)
 ·have hlt : i < l.length := by omega
  repeat' ((conv => whnf); first | (refine dec (fun h => ?_) (fun h => ?_) <;> try contradiction) | refine ⟨i64 (by omega) (by omega), ?_⟩ | refine ⟨_, _, rfl, List.getElem?_eq_getElem (by omega), ?_⟩ | refine rtI ?_ | fail)
  ·exact idxF_at hlt hi.2 (by simpa using h.symm)
  ·refine ag (i + 1) [] [] ⟨hlt, any_take hlt hi.2 (by simpa using fun e => h (Eq.symm e))⟩ (by simp only []; omega) ?_
   repeat' first | exact trivial | exact rfl | refine And.intro ?_ ?_
 ·repeat' ((conv => whnf); first | refine rtI ?_ | fail)
  have := hi.2
  rw [List.take_of_length_le (by omega)] at this
  exact idxF_none this
theorem contains_spec (l : List Int) (n : Int) : Does Tryz.prog 134 [.c (.bs 1 Int encI l), .c (.int .i64 n)] [] (Rt (.c (.bool (hasI l n))) []) := by
 refine X_spec (n := 9) (n0 := 0) tabOk Tryz.call134 Tryz.func134 ?_
 intro hb
 (conv => whnf)
 refine cl [] [] (index_spec l n) ?_
 (conv => whnf)
 exact rtB (idxF_any ..)
end Go.Nest
