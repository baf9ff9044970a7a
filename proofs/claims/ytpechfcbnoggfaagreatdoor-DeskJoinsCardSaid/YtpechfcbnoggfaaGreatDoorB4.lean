import Derived.Test.YtpechfcbnoggfaaGreatDoorB3
import Derived.Test.YtpechfcbnoggfaaGreatDoorV36
import Derived.Test.YtpechfcbnoggfaaGreatDoorZ2
set_option linter.unusedVariables false
set_option linter.unusedSimpArgs false
open Nat renaming beq->d
namespace Go.Nest
open Go Go.AM Go.Proofs
open Go.Proofs.YtpechfcbnoggfaaGreatDoor (tab tabOk)
set_option maxRecDepth 4000
def kh(L:List Ob)(f:Fi):List UInt8:=if f.mode=0 then[]else(aj L f.id).bytes
theorem vA(L:List Ob)(b:ak L)(out:List Fi)(cf:List (List UInt8))(code:Int)(f:Fi):aa Tryz.prog 346 [.c (.bp [.bp [.bs 6 Ob an L],.bs 4 Fi aq out,.bs 1 (List UInt8) encS cf,.int .i64 code]),.st (aq f)] [] (Rt (.c (.ls 1 UInt8 aN (kh L f))) []):=by
 refine af (n:=22) (n0:=0) tabOk Tryz.call346 Tryz.func346 ?_;intro hb;refine⟨false,.grow,(.alt [0,1,2,3,4,5] [6,10] λj=>bif d j 6 then(.l [7,8,9,10,11,12])else bif d j 10 then(.l [6,7,8,9,11,12])else .l []),by kernel_rfl,.inl ?_⟩;refine⟨?_,?_⟩
 all_goals
  refine cl [] [] (ft L b f.id) ?_;refine dec (λa=>?_) (λa=>?_)
  ·rw[show kh L f=_ from if_pos a];exact rx [] []
  ·rw[show kh L f=_ from if_neg a];exact rx [] []
end Go.Nest
