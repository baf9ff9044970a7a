/- part -/
import Derived.Test.YtpmjnbidmcnhnaaGreatDoorHeap
import Derived.Test.YtpmjnbidmcnhnaaGreatDoorChecked
set_option linter.unusedVariables false
set_option linter.unusedSimpArgs false
namespace Go.Proofs.YtpmjnbidmcnhnaaGreatDoor
open Go.NB
set_option maxRecDepth 20000
theorem bytesEqual {H0 : Heap} {M : List Nat} {va vb : Value} {a b : List UInt8} (ha : Sl tByte H0 M va a) (hb : Sl tByte H0 M vb b) :
    CallsH Tryz.prog 186 #[va, vb] H0 (fun v H => v = .bool (decide (a = b)) ∧ H = H0) := by
  refine enter (args := [va, vb]) Tryz.call186 Tryz.func186 rfl Tryz.ntmps186 (Nat.le_of_ble_eq_true rfl) (fun W0 Q hQ => ?_)
  refine WC.sub (e' := [(0, true, va), (1, true, vb)]) ⟨rfl, rfl, trivial⟩ ?_
  have K : Keep [] H0 H0 := Keep.refl _ _
  refine WC.seq ?_
  refine WC.region ?_
  refine WL.det rfl rfl rfl (V.assign rfl ⟨_, rfl, rfl⟩) ?_
  refine WL.nil ?_
  refine NX.go ?_
  refine WC.sub (e' := [(0, true, _), (1, true, _)]) ⟨rfl, rfl, trivial⟩ ?_
  refine WC.seq ?_
  refine WC.region ?_
  refine WL.det rfl rfl rfl (V.move rfl ⟨_, rfl, rfl⟩) ?_
  refine WL.det rfl rfl rfl (V.bytesStr rfl Tryz.underlying41 Tryz.underlying5 Tryz.underlying9 (ha.at K) ⟨_, rfl, rfl⟩ (Reach.is _)) ?_
  refine WL.det rfl rfl rfl (V.move rfl ⟨_, rfl, rfl⟩) ?_
  refine WL.det rfl rfl rfl (V.bytesStr rfl Tryz.underlying41 Tryz.underlying5 Tryz.underlying9 (hb.at K) ⟨_, rfl, rfl⟩ (Reach.is _)) ?_
  refine WL.det rfl rfl rfl (V.strEql rfl ⟨_, rfl, rfl⟩ ⟨_, rfl, rfl⟩) ?_
  refine WL.det rfl rfl rfl (V.assign rfl ⟨_, rfl, rfl⟩) ?_
  refine WL.nil ?_
  refine NX.go ?_
  refine WC.sub (e' := [(4, true, _)]) ⟨rfl, trivial⟩ ?_
  refine WC.ret ?_
  refine ret1 hQ Tryz.results186 rfl ⟨_, rfl, rfl⟩ ?_
  exact ⟨rfl, rfl⟩
theorem sameBytes {H0 : Heap} {M : List Nat} {va vb : Value} {a b : List UInt8} (ha : Sl tByte H0 M va a) (hb : Sl tByte H0 M vb b) :
    CallsH Tryz.prog 138 #[va, vb] H0 (fun v H => v = .bool (decide (a = b)) ∧ H = H0) := by
  refine enter (args := [va, vb]) Tryz.call138 Tryz.func138 rfl Tryz.ntmps138 (Nat.le_of_ble_eq_true rfl) (fun W0 Q hQ => ?_)
  refine WC.sub (e' := [(0, true, va), (1, true, vb)]) ⟨rfl, rfl, trivial⟩ ?_
  have K : Keep [] H0 H0 := Keep.refl _ _
  refine WC.seq ?_
  refine WC.region ?_
  refine WL.det rfl rfl rfl (V.assign rfl ⟨_, rfl, rfl⟩) ?_
  refine WL.nil ?_
  refine NX.go ?_
  refine WC.sub (e' := [(0, true, _), (1, true, _)]) ⟨rfl, rfl, trivial⟩ ?_
  refine WC.seq ?_
  refine WC.region ?_
  refine WL.det rfl rfl rfl (V.move rfl ⟨_, rfl, rfl⟩) ?_
  refine WL.det rfl rfl rfl (V.bytesStr rfl Tryz.underlying41 Tryz.underlying5 Tryz.underlying9 (ha.at K) ⟨_, rfl, rfl⟩ (Reach.is _)) ?_
  refine WL.det rfl rfl rfl (V.move rfl ⟨_, rfl, rfl⟩) ?_
  refine WL.det rfl rfl rfl (V.bytesStr rfl Tryz.underlying41 Tryz.underlying5 Tryz.underlying9 (hb.at K) ⟨_, rfl, rfl⟩ (Reach.is _)) ?_
  refine WL.det rfl rfl rfl (V.strEql rfl ⟨_, rfl, rfl⟩ ⟨_, rfl, rfl⟩) ?_
  refine WL.det rfl rfl rfl (V.assign rfl ⟨_, rfl, rfl⟩) ?_
  refine WL.nil ?_
  refine NX.go ?_
  refine WC.sub (e' := [(4, true, _)]) ⟨rfl, trivial⟩ ?_
  refine WC.ret ?_
  refine ret1 hQ Tryz.results138 rfl ⟨_, rfl, rfl⟩ ?_
  exact ⟨rfl, rfl⟩
end Go.Proofs.YtpmjnbidmcnhnaaGreatDoor
