/- part -/
import Derived.Test.YtpechfcbnoggfaaGreatDoorB3
import Derived.Test.YtpechfcbnoggfaaGreatDoorW1
import Derived.Test.YtpechfcbnoggfaaGreatDoorZ2
set_option linter.unusedVariables false
set_option linter.unusedSimpArgs false
namespace Go.Nest
open Go Go.AM Go.Proofs
open Go.Proofs.YtpechfcbnoggfaaGreatDoor (tab tabOk)
set_option maxRecDepth 4000
def jb(L:List Ob)(f:Fi):List UInt8:=if f.mode=0 then[]else(aj L f.id).bytes
theorem s8(L:List Ob)(b:ai L)(out:List Fi)(cf:List (List UInt8))(code:Int)(f:Fi):ae Tryz.prog 346 [.c (.bp [.bp [.bs 6 Ob an L],.bs 4 Fi ao out,.bs 1 (List UInt8) encS cf,.int .i64 code]),.st (ao f)] [] (Rt (.c (.ls 1 UInt8 bt (jb L f))) []):=by
 refine ak (n:=22) (n0:=0) tabOk Tryz.call346 Tryz.func346 ?_;intro hb;(conv=>whnf);refine⟨false,.grow,(.alt [0,1,2,3,4,5] [6,10] fun j=>bif Nat.beq j 6 then(.l [7,8,9,10,11,12])else bif Nat.beq j 10 then(.l [6,7,8,9,11,12])else .l []),by kernel_rfl,.inl ?_⟩;(conv=>whnf);refine⟨?_,?_⟩
 all_goals
  (conv=>whnf);refine cl [] [] (fc L b f.id) ?_;(conv=>whnf);refine dec (fun a=>?_) (fun a=>?_)
  ·rw[show jb L f=_ from if_pos a];(conv=>whnf);exact rx [] []
  ·rw[show jb L f=_ from if_neg a];(conv=>whnf);exact rx [] []
end Go.Nest
