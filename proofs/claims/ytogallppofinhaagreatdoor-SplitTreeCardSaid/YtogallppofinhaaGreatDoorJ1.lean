/- The numbering of the kit's contract of function 156, over this program. -/
import Derived.Room.Shelf.Join48
import Derived.Test.YtogallppofinhaaGreatDoorProg
import Derived.KernelRfl
namespace Go.Nest
open Go Go.Proofs Go.Shelf
set_option maxRecDepth 100000
end Go.Nest
