/- WALKS, S5: texts joined by strokes. -/
import Derived.Test.YtogallppofinhaaGreatDoorS3
import Derived.Test.YtogallppofinhaaGreatDoorJ1
namespace Go.Nest
open Go Go.AM Go.Proofs Go.RowKit
open Go.Proofs.YtogallppofinhaaGreatDoor (tab tabOk)
set_option linter.unusedVariables false
set_option linter.unusedSimpArgs false
set_option maxRecDepth 4000

end Go.Nest
