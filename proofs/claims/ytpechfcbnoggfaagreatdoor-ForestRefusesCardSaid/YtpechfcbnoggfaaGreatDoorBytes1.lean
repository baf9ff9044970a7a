/- part -/
import Derived.Test.YtpechfcbnoggfaaGreatDoorAm1
import Derived.Test.YtpechfcbnoggfaaGreatDoorChecked
set_option linter.unusedVariables false
set_option linter.unusedSimpArgs false
namespace Go.Proofs.YtpechfcbnoggfaaGreatDoor
open Go.NB
set_option maxRecDepth 20000
theorem rS{H0:ab}{M:List Nat}{va vb:Value}{a b:List UInt8}(ha:Sl aV H0 M va a)(hb:Sl aV H0 M vb b):
    bP Tryz.prog 379 #[va,vb] H0 (fun v H=>v= .bool (decide (a=b))∧H=H0):=by
  refine enter (args:=[va,vb]) Tryz.call379 Tryz.func379 rfl Tryz.ntmps379 (Nat.le_of_ble_eq_true rfl) (fun W0 Q hQ=>?_);refine WC.sub (e':=[(0,true,va),(1,true,vb)]) ⟨rfl,rfl,trivial⟩ ?_;have K:ak [] H0 H0:=ak.refl _ _;refine WC.seq ?_;refine WC.region ?_;refine WL.aa rfl rfl rfl (V.assign rfl ⟨_,rfl,rfl⟩) ?_;refine WL.nil ?_;refine NX.go ?_;refine WC.sub (e':=[(0,true,_),(1,true,_)]) ⟨rfl,rfl,trivial⟩ ?_;refine WC.seq ?_;refine WC.region ?_;refine WL.aa rfl rfl rfl (V.move rfl ⟨_,rfl,rfl⟩) ?_;refine WL.aa rfl rfl rfl (V.vL rfl Tryz.underlying33 Tryz.underlying5 Tryz.underlying9 (ha.at K) ⟨_,rfl,rfl⟩ (Reach.is _)) ?_;refine WL.aa rfl rfl rfl (V.move rfl ⟨_,rfl,rfl⟩) ?_;refine WL.aa rfl rfl rfl (V.vL rfl Tryz.underlying33 Tryz.underlying5 Tryz.underlying9 (hb.at K) ⟨_,rfl,rfl⟩ (Reach.is _)) ?_;refine WL.aa rfl rfl rfl (V.GL rfl ⟨_,rfl,rfl⟩ ⟨_,rfl,rfl⟩) ?_;refine WL.aa rfl rfl rfl (V.assign rfl ⟨_,rfl,rfl⟩) ?_;refine WL.nil ?_;refine NX.go ?_;refine WC.sub (e':=[(4,true,_)]) ⟨rfl,trivial⟩ ?_;refine WC.ret ?_;refine dt hQ Tryz.results379 rfl ⟨_,rfl,rfl⟩ ?_;exact⟨rfl,rfl⟩
end Go.Proofs.YtpechfcbnoggfaaGreatDoor
