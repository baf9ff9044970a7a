/- THE ABSTRACT MACHINE, lifted: texts with their data. -/
import Derived.Test.YtkkjjbejkcgmfaaDoorAmL
namespace Go.AM
open Go Go.NB Go.ChangeShapes Go.WideShapes Go.ChangeAt Go.RowKit
set_option linter.unusedVariables false
theorem OpensA.argStr {P : Program} {t : TypeId} (ht : P.underlying t = some .string) {Hd : Type} {e' : TypeId × Value → Hd} {W : World} {s : ByteArray} {d : DataW Hd} {ps : List MemPlace} (h : DataW.Trod e' P W 0 (fun _ => true) true t (.string s) d ps) :
    ∃ y : List UInt8, RL (fr0 W.heap) W.heap m0 [.str y] [.string s] ∧ d = .lit (.string y) := by
  obtain ⟨fuel, hf⟩ := h
  obtain ⟨s', hs', hd, hs⟩ := DataW.trod_string ht hf
  have e : s' = s := by simpa [Value.cells] using hs'.symm
  subst e
  refine ⟨s'.data.toList, ?_, ?_⟩
  · have e : Value.string s' = NB.str s'.data.toList := by simp [NB.str]
    rw [e]
    refine .str ?_ .nl
    have : s'.data.toList.length = s'.size := rfl
    unfold maxLen at hs
    omega
  · exact congrArg Prod.fst hd
end Go.AM
