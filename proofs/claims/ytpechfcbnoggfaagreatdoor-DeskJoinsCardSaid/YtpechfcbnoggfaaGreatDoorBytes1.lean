import Derived.Test.YtpechfcbnoggfaaGreatDoorAm1
import Derived.Test.YtpechfcbnoggfaaGreatDoorChecked
set_option linter.unusedVariables false
set_option linter.unusedSimpArgs false
namespace Go.Proofs.YtpechfcbnoggfaaGreatDoor
open Go.NB
set_option maxRecDepth 20000
theorem Ae{H0:ae}{M:List Nat}{c d:Value}{a b:List UInt8}(f:Sl dy H0 M c a)(hb:Sl dy H0 M d b):
    cg Tryz.prog 379 #[c,d] H0 (λv H=>v= .bool (decide (a=b))/\H=H0):=by
  refine enter (args:=[c,d]) Tryz.call379 Tryz.func379 rfl Tryz.ntmps379 (Nat.le_of_ble_eq_true rfl) (λg Q e=>?_);refine WC.sub (e':=[(0,true,c),(1,true,d)]) ⟨rfl,rfl,trivial⟩ ?_;have K:au [] H0 H0:=au.refl _ _;refine WC.seq ?_;refine WC.region ?_;refine WL.ab rfl rfl rfl (V.assign rfl ⟨_,rfl,rfl⟩) ?_;refine WL.nil ?_;refine NX.go ?_;refine WC.sub (e':=[(0,true,_),(1,true,_)]) ⟨rfl,rfl,trivial⟩ ?_;refine WC.seq ?_;refine WC.region ?_;refine WL.ab rfl rfl rfl (V.move rfl ⟨_,rfl,rfl⟩) ?_;refine WL.ab rfl rfl rfl (V.Ag rfl Tryz.underlying33 Tryz.underlying5 Tryz.underlying9 (f.at K) ⟨_,rfl,rfl⟩ (Reach.is _)) ?_;refine WL.ab rfl rfl rfl (V.move rfl ⟨_,rfl,rfl⟩) ?_;refine WL.ab rfl rfl rfl (V.Ag rfl Tryz.underlying33 Tryz.underlying5 Tryz.underlying9 (hb.at K) ⟨_,rfl,rfl⟩ (Reach.is _)) ?_;refine WL.ab rfl rfl rfl (V.OU rfl ⟨_,rfl,rfl⟩ ⟨_,rfl,rfl⟩) ?_;refine WL.ab rfl rfl rfl (V.assign rfl ⟨_,rfl,rfl⟩) ?_;refine WL.nil ?_;refine NX.go ?_;refine WC.sub (e':=[(4,true,_)]) ⟨rfl,trivial⟩ ?_;refine WC.ret ?_;refine gW e Tryz.results379 rfl ⟨_,rfl,rfl⟩ ?_;exact⟨rfl,rfl⟩
end Go.Proofs.YtpechfcbnoggfaaGreatDoor
