/- part -/
import Derived.Test.YtpmjnbidmcnhnaaGreatDoorBytes1
import Derived.Test.YtpmjnbidmcnhnaaGreatDoorLinesMixed
set_option linter.unusedVariables false
set_option linter.unusedSimpArgs false
namespace Go.Proofs.YtpmjnbidmcnhnaaGreatDoor
open Go.NB
set_option maxRecDepth 20000
theorem take_eq_succ {α : Type} {a b : List α} {k : Nat} (h : a.take k = b.take k) (ha : k < a.length) (hb : k < b.length) (e : a[k] = b[k]) : a.take (k + 1) = b.take (k + 1) := by
  rw [List.take_succ_eq_append_getElem ha, List.take_succ_eq_append_getElem hb, h, e]
theorem sameLines {H0 : Heap} {M : List Nat} {va vb : Value} {a b : List (List UInt8)} (ha : Sl (tSl tByte) H0 M va a) (hb : Sl (tSl tByte) H0 M vb b) :
    CallsH Tryz.prog 129 #[va, vb] H0 (fun v H => v = .bool (decide (a = b)) ∧ H = H0) := by
  refine enter (args := [va, vb]) Tryz.call129 Tryz.func129 rfl Tryz.ntmps129 (Nat.le_of_ble_eq_true rfl) (fun W0 Q hQ => ?_)
  refine WC.sub (e' := [(0, true, va), (1, true, vb)]) ⟨rfl, rfl, trivial⟩ ?_
  have K : Keep [] H0 H0 := Keep.refl _ _
  have hLa := ha.len
  have hLb := hb.len
  refine WC.seq ?_
  refine WC.region ?_
  refine WL.det rfl rfl rfl (V.assign rfl ⟨_, rfl, rfl⟩) ?_
  refine WL.nil ?_
  refine NX.go ?_
  refine WC.sub (e' := [(0, true, _), (1, true, _)]) ⟨rfl, rfl, trivial⟩ ?_
  refine WC.seq ?_
  refine WC.seq ?_
  refine WC.region ?_
  refine WL.det rfl rfl rfl (V.move rfl ⟨_, rfl, rfl⟩) ?_
  refine WL.det rfl rfl rfl (V.len rfl Tryz.underlying142 ⟨_, rfl, rfl⟩ (ha.at K)) ?_
  refine WL.det rfl rfl rfl (V.move rfl ⟨_, rfl, rfl⟩) ?_
  refine WL.det rfl rfl rfl (V.len rfl Tryz.underlying142 ⟨_, rfl, rfl⟩ (hb.at K)) ?_
  refine WL.det rfl rfl rfl (V.neq rfl ⟨_, rfl, rfl⟩ ⟨_, rfl, rfl⟩) ?_
  refine WL.nil ?_
  refine NX.go ?_
  refine WC.sub (e' := [(0, true, _), (1, true, _), (10, true, _)]) ⟨rfl, rfl, rfl, trivial⟩ ?_
  refine WC.cond ⟨_, rfl, rfl⟩ (fun hc10 => ?_) (fun hc10 => ?_)
  · -- hc10 true
    try simp only [Bool.and_eq_true, Bool.or_eq_true, Bool.not_eq_true', Bool.not_eq_false', Bool.and_eq_false_iff, Bool.or_eq_false_iff, decide_eq_true_eq, decide_eq_false_iff_not, Int.not_lt, Int.not_le] at hc10
    refine WC.seq ?_
    refine WC.region ?_
    refine WL.det rfl rfl rfl (V.assign rfl ⟨_, rfl, rfl⟩) ?_
    refine WL.nil ?_
    refine NX.go ?_
    refine WC.sub (e' := [(4, true, _)]) ⟨rfl, trivial⟩ ?_
    refine WC.ret ?_
    refine NX.of_ret ?_
    refine ret1 hQ Tryz.results129 rfl ⟨_, rfl, rfl⟩ ?_
    refine ⟨?_, rfl⟩
    first
      | (have hne : a ≠ b := fun e => by rw [e] at hc10; omega
         rw [decide_eq_false hne]; done)
      | (have hne : a ≠ b := fun e => hc26 (by subst e; rfl)
         rw [decide_eq_false hne]; done)
      | (have e : a = b := by
           rw [← List.take_of_length_le (show a.length ≤ k by omega), ht, List.take_of_length_le (by omega)]
         rw [decide_eq_true e]; done)
  · -- hc10 false
    try simp only [Bool.and_eq_true, Bool.or_eq_true, Bool.not_eq_true', Bool.not_eq_false', Bool.and_eq_false_iff, Bool.or_eq_false_iff, decide_eq_true_eq, decide_eq_false_iff_not, Int.not_lt, Int.not_le] at hc10
    have hlen : a.length = b.length := by omega
    refine WC.skip ?_
    refine NX.go ?_
    refine WC.seq ?_
    refine WC.seq ?_
    refine WC.region ?_
    refine WL.det rfl rfl rfl (V.assign rfl ⟨_, rfl, rfl⟩) ?_
    refine WL.nil ?_
    refine NX.go ?_
    refine WC.sub (e' := [(0, true, _), (1, true, _), (5, true, _)]) ⟨rfl, rfl, rfl, trivial⟩ ?_
    refine WC.block ?_
    refine WC.loop (fun m e H => ∃ (k : Nat), (k ≤ a.length) ∧ (a.take k = b.take k) ∧ (H = H0) ∧ e = [(0, true, va), (1, true, vb), (5, true, iv (k : Nat))] ∧ a.length - k = m ∧ Keep [] H0 H) (m0 := _) (e0 := _) ⟨0, by omega, by simp, rfl, rfl, rfl, K⟩ ⟨rfl, rfl, rfl, trivial⟩ ?_
    clear K
    rintro _ _ H1 ⟨k, hk, ht, hH, rfl, rfl, K⟩
    subst hH
    refine WC.seq ?_
    refine WC.seq ?_
    refine WC.region ?_
    refine WL.det rfl rfl rfl (V.move rfl ⟨_, rfl, rfl⟩) ?_
    refine WL.det rfl rfl rfl (V.move rfl ⟨_, rfl, rfl⟩) ?_
    refine WL.det rfl rfl rfl (V.len rfl Tryz.underlying142 ⟨_, rfl, rfl⟩ (ha.at K)) ?_
    refine WL.det rfl rfl rfl (V.lss rfl ⟨_, rfl, rfl⟩ ⟨_, rfl, rfl⟩) ?_
    refine WL.nil ?_
    refine NX.go ?_
    refine WC.sub (e' := [(0, true, _), (1, true, _), (5, true, _), (14, true, _)]) ⟨rfl, rfl, rfl, rfl, trivial⟩ ?_
    refine WC.cond ⟨_, rfl, rfl⟩ (fun hc14 => ?_) (fun hc14 => ?_)
    · -- hc14 true
      try simp only [Bool.and_eq_true, Bool.or_eq_true, Bool.not_eq_true', Bool.not_eq_false', Bool.and_eq_false_iff, Bool.or_eq_false_iff, decide_eq_true_eq, decide_eq_false_iff_not, Int.not_lt, Int.not_le] at hc14
      refine WC.skip ?_
      refine NX.go ?_
      refine WC.seq ?_
      refine WC.block ?_
      refine WC.seq ?_
      refine WC.draw (Is _) rfl (by kernel_rfl) (by kernel_rfl) ?_
      refine QL.det rfl rfl rfl (V.move rfl ⟨_, rfl, rfl⟩) ?_
      refine QL.det rfl rfl rfl (V.move rfl ⟨_, rfl, rfl⟩) ?_
      refine QL.ex rfl rfl rfl (X.idx rfl Tryz.underlying142 Tryz.sizeOf41 (ha.at K) ⟨_, rfl, rfl⟩ ⟨_, rfl, rfl⟩ rfl (gi (by omega))) (fun v19 h19 => ?_)
      refine QL.ex rfl rfl rfl (X.loadSl rfl Tryz.isAgg41 Tryz.sizeOf41 h19 ⟨_, rfl, rfl⟩ (Reach.is _)) (fun v20 h20 => ?_)
      have l20 := h20.len
      refine QL.det rfl rfl rfl (V.move rfl ⟨_, rfl, rfl⟩) ?_
      refine QL.det rfl rfl rfl (V.move rfl ⟨_, rfl, rfl⟩) ?_
      refine QL.ex rfl rfl rfl (X.idx rfl Tryz.underlying142 Tryz.sizeOf41 (hb.at K) ⟨_, rfl, rfl⟩ ⟨_, rfl, rfl⟩ rfl (gi (by omega))) (fun v23 h23 => ?_)
      refine QL.ex rfl rfl rfl (X.loadSl rfl Tryz.isAgg41 Tryz.sizeOf41 h23 ⟨_, rfl, rfl⟩ (Reach.is _)) (fun v24 h24 => ?_)
      have l24 := h24.len
      refine QL.call rfl rfl rfl rfl (.cons ⟨_, rfl, rfl⟩ (.cons ⟨_, rfl, rfl⟩ .nil)) (fun _ hS => by cases hS; exact sameBytes h20 h24) ?_
      refine QL.det rfl rfl rfl (V.not rfl ⟨_, rfl, rfl⟩) ?_
      refine QL.nil (fun _ hS => ?_)
      cases hS
      refine NX.go ?_
      refine WC.sub (e' := [(0, true, _), (1, true, _), (5, true, _), (26, true, _)]) ⟨rfl, rfl, rfl, rfl, trivial⟩ ?_
      refine WC.cond ⟨_, rfl, rfl⟩ (fun hc26 => ?_) (fun hc26 => ?_)
      · -- hc26 true
        try simp only [Bool.and_eq_true, Bool.or_eq_true, Bool.not_eq_true', Bool.not_eq_false', Bool.and_eq_false_iff, Bool.or_eq_false_iff, decide_eq_true_eq, decide_eq_false_iff_not, Int.not_lt, Int.not_le] at hc26
        refine WC.seq ?_
        refine WC.region ?_
        refine WL.det rfl rfl rfl (V.assign rfl ⟨_, rfl, rfl⟩) ?_
        refine WL.nil ?_
        refine NX.go ?_
        refine WC.sub (e' := [(4, true, _)]) ⟨rfl, trivial⟩ ?_
        refine WC.ret ?_
        refine NX.block_ret ?_
        refine NX.of_ret ?_
        refine NX.of_ret ?_
        refine NX.block_ret ?_
        refine NX.of_ret ?_
        refine ret1 hQ Tryz.results129 rfl ⟨_, rfl, rfl⟩ ?_
        refine ⟨?_, rfl⟩
        first
          | (have hne : a ≠ b := fun e => by rw [e] at hc10; omega
             rw [decide_eq_false hne]; done)
          | (have hne : a ≠ b := fun e => hc26 (by subst e; rfl)
             rw [decide_eq_false hne]; done)
          | (have e : a = b := by
               rw [← List.take_of_length_le (show a.length ≤ k by omega), ht, List.take_of_length_le (by omega)]
             rw [decide_eq_true e]; done)
      · -- hc26 false
        try simp only [Bool.and_eq_true, Bool.or_eq_true, Bool.not_eq_true', Bool.not_eq_false', Bool.and_eq_false_iff, Bool.or_eq_false_iff, decide_eq_true_eq, decide_eq_false_iff_not, Int.not_lt, Int.not_le] at hc26
        refine WC.skip ?_
        refine NX.block_normal ?_
        refine NX.go ?_
        refine WC.region ?_
        refine WL.det rfl rfl rfl (V.move rfl ⟨_, rfl, rfl⟩) ?_
        refine WL.det rfl rfl rfl (V.add rfl ⟨_, rfl, rfl⟩ ⟨_, rfl, rfl⟩ (by unfold I64; omega)) ?_
        refine WL.det rfl rfl rfl (V.assign rfl ⟨_, rfl, rfl⟩) ?_
        refine WL.nil ?_
        exact Head.mk ⟨k + 1, by omega, take_eq_succ ht (by omega) (by omega) hc26, rfl, rfl, rfl, K⟩ ⟨rfl, rfl, rfl, trivial⟩ (by omega)
    · -- hc14 false
      try simp only [Bool.and_eq_true, Bool.or_eq_true, Bool.not_eq_true', Bool.not_eq_false', Bool.and_eq_false_iff, Bool.or_eq_false_iff, decide_eq_true_eq, decide_eq_false_iff_not, Int.not_lt, Int.not_le] at hc14
      refine WC.exit ?_
      refine NX.of_exit ?_
      refine NX.of_exit ?_
      refine NX.block_hit ?_
      refine NX.go ?_
      refine WC.seq ?_
      refine WC.region ?_
      refine WL.det rfl rfl rfl (V.assign rfl ⟨_, rfl, rfl⟩) ?_
      refine WL.nil ?_
      refine NX.go ?_
      refine WC.sub (e' := [(4, true, _)]) ⟨rfl, trivial⟩ ?_
      refine WC.ret ?_
      refine ret1 hQ Tryz.results129 rfl ⟨_, rfl, rfl⟩ ?_
      refine ⟨?_, rfl⟩
      first
        | (have hne : a ≠ b := fun e => by rw [e] at hc10; omega
           rw [decide_eq_false hne]; done)
        | (have hne : a ≠ b := fun e => hc26 (by subst e; rfl)
           rw [decide_eq_false hne]; done)
        | (have e : a = b := by
             rw [← List.take_of_length_le (show a.length ≤ k by omega), ht, List.take_of_length_le (by omega)]
           rw [decide_eq_true e]; done)
end Go.Proofs.YtpmjnbidmcnhnaaGreatDoor
