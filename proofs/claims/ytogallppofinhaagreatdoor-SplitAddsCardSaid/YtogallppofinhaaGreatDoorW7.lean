/- WALKS, W7: numbers in order, each once, by the document: Sorted. -/
import Derived.Test.YtogallppofinhaaGreatDoorL1
import Derived.Test.YtogallppofinhaaGreatDoorG1b
namespace Go.Nest
open Go Go.AM Go.Proofs
open Go.Proofs.YtogallppofinhaaGreatDoor (tab tabOk)
set_option linter.unusedVariables false
set_option linter.unusedSimpArgs false
set_option maxRecDepth 4000
def below (x : Int) (out : List Int) : Nat := (out.takeWhile fun y => decide (y < x)).length
end Go.Nest
