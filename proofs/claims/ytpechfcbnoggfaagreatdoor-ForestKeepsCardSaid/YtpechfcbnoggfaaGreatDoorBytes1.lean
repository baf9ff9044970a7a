/- part -/
import Derived.Test.YtpechfcbnoggfaaGreatDoorAm1
import Derived.Test.YtpechfcbnoggfaaGreatDoorChecked
set_option linter.unusedVariables false
set_option linter.unusedSimpArgs false
namespace Go.Proofs.YtpechfcbnoggfaaGreatDoor
open Go.NB
set_option maxRecDepth 20000
theorem xc{H0:ab}{M:List Nat}{c d:Value}{a b:List UInt8}(f:Sl cY H0 M c a)(hb:Sl cY H0 M d b):
    cS Tryz.prog 379 #[c,d] H0 (fun v H=>v= .bool (decide (a=b))∧H=H0):=by
  refine enter (args:=[c,d]) Tryz.call379 Tryz.func379 rfl Tryz.ntmps379 (Nat.le_of_ble_eq_true rfl) (fun g Q e=>?_);refine WC.sub (e':=[(0,true,c),(1,true,d)]) ⟨rfl,rfl,trivial⟩ ?_;have K:aq [] H0 H0:=aq.refl _ _;refine WC.seq ?_;refine WC.region ?_;refine WL.aa rfl rfl rfl (V.assign rfl ⟨_,rfl,rfl⟩) ?_;refine WL.nil ?_;refine NX.go ?_;refine WC.sub (e':=[(0,true,_),(1,true,_)]) ⟨rfl,rfl,trivial⟩ ?_;refine WC.seq ?_;refine WC.region ?_;refine WL.aa rfl rfl rfl (V.move rfl ⟨_,rfl,rfl⟩) ?_;refine WL.aa rfl rfl rfl (V.xe rfl Tryz.underlying33 Tryz.underlying5 Tryz.underlying9 (f.at K) ⟨_,rfl,rfl⟩ (Reach.is _)) ?_;refine WL.aa rfl rfl rfl (V.move rfl ⟨_,rfl,rfl⟩) ?_;refine WL.aa rfl rfl rfl (V.xe rfl Tryz.underlying33 Tryz.underlying5 Tryz.underlying9 (hb.at K) ⟨_,rfl,rfl⟩ (Reach.is _)) ?_;refine WL.aa rfl rfl rfl (V.I1 rfl ⟨_,rfl,rfl⟩ ⟨_,rfl,rfl⟩) ?_;refine WL.aa rfl rfl rfl (V.assign rfl ⟨_,rfl,rfl⟩) ?_;refine WL.nil ?_;refine NX.go ?_;refine WC.sub (e':=[(4,true,_)]) ⟨rfl,trivial⟩ ?_;refine WC.ret ?_;refine gH e Tryz.results379 rfl ⟨_,rfl,rfl⟩ ?_;exact⟨rfl,rfl⟩
end Go.Proofs.YtpechfcbnoggfaaGreatDoor
