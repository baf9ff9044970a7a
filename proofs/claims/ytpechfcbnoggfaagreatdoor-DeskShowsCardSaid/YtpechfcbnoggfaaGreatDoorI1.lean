/- part -/
import Derived.Test.YtpechfcbnoggfaaGreatDoorI2
set_option linter.unusedVariables false
set_option linter.unusedSimpArgs false

namespace Go.Nest
open Go Go.AM Go.NB Go.Proofs
open Go.Proofs.YtpechfcbnoggfaaGreatDoor (tab tabOk)
set_option maxRecDepth 4000
set_option maxHeartbeats 400000 in
theorem insert_raw {H : Heap} {v0 v1 : Value} {n i : Nat} {cs us : List Value} (h0 : RowG H 2 v0 n cs) (h1 : RowG H 2 v1 1 us) (hd : ∀ b ∈ obs v0, b ∉ obs v1) (hi : i ≤ n) (hn : n ≤ 1000000) (ho0 : ∀ u ∈ cs, u.oneCell' = true) (ho1 : ∀ u ∈ us, u.oneCell' = true) :
  CallsH Tryz.prog 215 #[v0, iv i, v1] H (fun v H' => RowG H' 2 v (n + 1) (cs.take (i * 2) ++ us ++ cs.drop (i * 2)) ∧ Keep (obs v0) H H' ∧ ∀ b ∈ obs v, b ∈ obs v0 ∨ H.size ≤ b) := by
 obtain ⟨p, c, rfl, hnc, hc⟩ : ∃ p c, v0 = .slice p n c ∧ n ≤ c ∧ c ≤ maxLen := by
  rcases h0.2 with ⟨p, rfl, rfl⟩ | ⟨g, off, cap, cur, e, rfl, _, h2, h3, _⟩
  ·exact ⟨p, 0, rfl, by omega, by omega⟩
  ·exact ⟨_, _, rfl, h2, h3⟩
 have hc : c ≤ 9223372036854775807 := hc
 have hcl := h0.1
 have hul := h1.1
 obtain ⟨gv, ov, cv, curv, ev, rfl, hv1, hv2, hv3, hv4, hv5⟩ : ∃ gv ov cv curv ev, v1 = .slice (some ⟨gv, ov, none⟩) 1 (cv + 1) ∧ H[gv]? = some (.cells curv ev (0, 0)) ∧ 1 ≤ cv + 1 ∧ cv + 1 ≤ maxLen ∧ ov + (cv + 1) * 2 ≤ curv.size ∧ (curv.toList.drop ov).take (1 * 2) = us := by
  rcases h1.2 with ⟨p, _, h⟩ | h
  ·cases h
  ·exact h
 refine enter (args := [.slice p n c, iv i, .slice (some ⟨gv, ov, none⟩) 1 (cv + 1)]) Tryz.call215 Tryz.func215 rfl Tryz.ntmps215 (Nat.le_of_ble_eq_true rfl) (fun W0 Q hQ => ?_)
 repeat' first
      | with_reducible refine WC.seq ?_
      | with_reducible refine WC.skip ?_
      | with_reducible refine WC.region ?_
      | with_reducible refine WL.nil ?_
      | with_reducible refine SL.nil ?_
      | with_reducible refine NX.go ?_
      | with_reducible refine WC.ret ?_
      | with_reducible refine NX.of_ret ?_
      | ((with_reducible refine wlMark ?_); first | refine WL.det rfl rfl rfl (V.move rfl ⟨_, rfl, rfl⟩) ?_ | refine WL.det rfl rfl rfl (V.assign rfl ⟨_, rfl, rfl⟩) ?_ | refine WL.det rfl rfl rfl (V.len' Tryz.underlying52 rfl ⟨_, rfl, rfl⟩) ?_ | refine WL.det rfl rfl rfl (V.cap Tryz.underlying52 rfl ⟨_, rfl, rfl⟩) ?_ | refine WL.det rfl rfl rfl (V.eql rfl ⟨_, rfl, rfl⟩ ⟨_, rfl, rfl⟩) ?_ | refine WL.det rfl rfl rfl (V.gtr rfl ⟨_, rfl, rfl⟩ ⟨_, rfl, rfl⟩) ?_ | refine WL.det rfl rfl rfl (V.not rfl ⟨_, rfl, rfl⟩) ?_ | refine WL.det rfl rfl rfl (V.add rfl ⟨_, rfl, rfl⟩ ⟨_, rfl, rfl⟩ ⟨by omega, by omega⟩) ?_ | refine WL.det rfl rfl rfl (V.sub rfl ⟨_, rfl, rfl⟩ ⟨_, rfl, rfl⟩ ⟨by omega, by omega⟩) ?_ | fail) 
      | ((with_reducible refine slMark ?_); first | refine SL.det rfl rfl rfl (V.move rfl ⟨_, rfl, rfl⟩) ?_ | refine SL.det rfl rfl rfl (V.assign rfl ⟨_, rfl, rfl⟩) ?_ | refine SL.det rfl rfl rfl (V.len' Tryz.underlying52 rfl ⟨_, rfl, rfl⟩) ?_ | refine SL.det rfl rfl rfl (V.cap Tryz.underlying52 rfl ⟨_, rfl, rfl⟩) ?_ | refine SL.det rfl rfl rfl (V.eql rfl ⟨_, rfl, rfl⟩ ⟨_, rfl, rfl⟩) ?_ | refine SL.det rfl rfl rfl (V.gtr rfl ⟨_, rfl, rfl⟩ ⟨_, rfl, rfl⟩) ?_ | refine SL.det rfl rfl rfl (V.not rfl ⟨_, rfl, rfl⟩) ?_ | refine SL.det rfl rfl rfl (V.add rfl ⟨_, rfl, rfl⟩ ⟨_, rfl, rfl⟩ ⟨by omega, by omega⟩) ?_ | refine SL.det rfl rfl rfl (V.sub rfl ⟨_, rfl, rfl⟩ ⟨_, rfl, rfl⟩ ⟨by omega, by omega⟩) ?_ | fail) 
 refine WL.det rfl rfl rfl (V.slLo (lo := i) Tryz.underlying52 Tryz.sizeOf100 rfl ⟨_, rfl, rfl⟩ ⟨_, rfl, rfl⟩ rfl hi) ?_
 repeat' first
      | with_reducible refine WC.seq ?_
      | with_reducible refine WC.skip ?_
      | with_reducible refine WC.region ?_
      | with_reducible refine WL.nil ?_
      | with_reducible refine SL.nil ?_
      | with_reducible refine NX.go ?_
      | with_reducible refine WC.ret ?_
      | with_reducible refine NX.of_ret ?_
      | ((with_reducible refine wlMark ?_); first | refine WL.det rfl rfl rfl (V.move rfl ⟨_, rfl, rfl⟩) ?_ | refine WL.det rfl rfl rfl (V.assign rfl ⟨_, rfl, rfl⟩) ?_ | refine WL.det rfl rfl rfl (V.len' Tryz.underlying52 rfl ⟨_, rfl, rfl⟩) ?_ | refine WL.det rfl rfl rfl (V.cap Tryz.underlying52 rfl ⟨_, rfl, rfl⟩) ?_ | refine WL.det rfl rfl rfl (V.eql rfl ⟨_, rfl, rfl⟩ ⟨_, rfl, rfl⟩) ?_ | refine WL.det rfl rfl rfl (V.gtr rfl ⟨_, rfl, rfl⟩ ⟨_, rfl, rfl⟩) ?_ | refine WL.det rfl rfl rfl (V.not rfl ⟨_, rfl, rfl⟩) ?_ | refine WL.det rfl rfl rfl (V.add rfl ⟨_, rfl, rfl⟩ ⟨_, rfl, rfl⟩ ⟨by omega, by omega⟩) ?_ | refine WL.det rfl rfl rfl (V.sub rfl ⟨_, rfl, rfl⟩ ⟨_, rfl, rfl⟩ ⟨by omega, by omega⟩) ?_ | fail) 
      | ((with_reducible refine slMark ?_); first | refine SL.det rfl rfl rfl (V.move rfl ⟨_, rfl, rfl⟩) ?_ | refine SL.det rfl rfl rfl (V.assign rfl ⟨_, rfl, rfl⟩) ?_ | refine SL.det rfl rfl rfl (V.len' Tryz.underlying52 rfl ⟨_, rfl, rfl⟩) ?_ | refine SL.det rfl rfl rfl (V.cap Tryz.underlying52 rfl ⟨_, rfl, rfl⟩) ?_ | refine SL.det rfl rfl rfl (V.eql rfl ⟨_, rfl, rfl⟩ ⟨_, rfl, rfl⟩) ?_ | refine SL.det rfl rfl rfl (V.gtr rfl ⟨_, rfl, rfl⟩ ⟨_, rfl, rfl⟩) ?_ | refine SL.det rfl rfl rfl (V.not rfl ⟨_, rfl, rfl⟩) ?_ | refine SL.det rfl rfl rfl (V.add rfl ⟨_, rfl, rfl⟩ ⟨_, rfl, rfl⟩ ⟨by omega, by omega⟩) ?_ | refine SL.det rfl rfl rfl (V.sub rfl ⟨_, rfl, rfl⟩ ⟨_, rfl, rfl⟩ ⟨by omega, by omega⟩) ?_ | fail) 
 refine WC.cond ⟨_, rfl, rfl⟩ (fun h => absurd (of_decide_eq_true h) (by omega)) (fun _ => ?_)
 repeat' first
      | with_reducible refine WC.seq ?_
      | with_reducible refine WC.skip ?_
      | with_reducible refine WC.region ?_
      | with_reducible refine WL.nil ?_
      | with_reducible refine SL.nil ?_
      | with_reducible refine NX.go ?_
      | with_reducible refine WC.ret ?_
      | with_reducible refine NX.of_ret ?_
      | ((with_reducible refine wlMark ?_); first | refine WL.det rfl rfl rfl (V.move rfl ⟨_, rfl, rfl⟩) ?_ | refine WL.det rfl rfl rfl (V.assign rfl ⟨_, rfl, rfl⟩) ?_ | refine WL.det rfl rfl rfl (V.len' Tryz.underlying52 rfl ⟨_, rfl, rfl⟩) ?_ | refine WL.det rfl rfl rfl (V.cap Tryz.underlying52 rfl ⟨_, rfl, rfl⟩) ?_ | refine WL.det rfl rfl rfl (V.eql rfl ⟨_, rfl, rfl⟩ ⟨_, rfl, rfl⟩) ?_ | refine WL.det rfl rfl rfl (V.gtr rfl ⟨_, rfl, rfl⟩ ⟨_, rfl, rfl⟩) ?_ | refine WL.det rfl rfl rfl (V.not rfl ⟨_, rfl, rfl⟩) ?_ | refine WL.det rfl rfl rfl (V.add rfl ⟨_, rfl, rfl⟩ ⟨_, rfl, rfl⟩ ⟨by omega, by omega⟩) ?_ | refine WL.det rfl rfl rfl (V.sub rfl ⟨_, rfl, rfl⟩ ⟨_, rfl, rfl⟩ ⟨by omega, by omega⟩) ?_ | fail) 
      | ((with_reducible refine slMark ?_); first | refine SL.det rfl rfl rfl (V.move rfl ⟨_, rfl, rfl⟩) ?_ | refine SL.det rfl rfl rfl (V.assign rfl ⟨_, rfl, rfl⟩) ?_ | refine SL.det rfl rfl rfl (V.len' Tryz.underlying52 rfl ⟨_, rfl, rfl⟩) ?_ | refine SL.det rfl rfl rfl (V.cap Tryz.underlying52 rfl ⟨_, rfl, rfl⟩) ?_ | refine SL.det rfl rfl rfl (V.eql rfl ⟨_, rfl, rfl⟩ ⟨_, rfl, rfl⟩) ?_ | refine SL.det rfl rfl rfl (V.gtr rfl ⟨_, rfl, rfl⟩ ⟨_, rfl, rfl⟩) ?_ | refine SL.det rfl rfl rfl (V.not rfl ⟨_, rfl, rfl⟩) ?_ | refine SL.det rfl rfl rfl (V.add rfl ⟨_, rfl, rfl⟩ ⟨_, rfl, rfl⟩ ⟨by omega, by omega⟩) ?_ | refine SL.det rfl rfl rfl (V.sub rfl ⟨_, rfl, rfl⟩ ⟨_, rfl, rfl⟩ ⟨by omega, by omega⟩) ?_ | fail) 
 refine WC.cond ⟨_, rfl, rfl⟩ (fun h => ?_) (fun h => ?_)
 ·have h : (i : Int) = (n : Int) := of_decide_eq_true h
  repeat' first
       | with_reducible refine WC.seq ?_
       | with_reducible refine WC.skip ?_
       | with_reducible refine WC.region ?_
       | with_reducible refine WL.nil ?_
       | with_reducible refine SL.nil ?_
       | with_reducible refine NX.go ?_
       | with_reducible refine WC.ret ?_
       | with_reducible refine NX.of_ret ?_
       | ((with_reducible refine wlMark ?_); first | refine WL.det rfl rfl rfl (V.move rfl ⟨_, rfl, rfl⟩) ?_ | refine WL.det rfl rfl rfl (V.assign rfl ⟨_, rfl, rfl⟩) ?_ | refine WL.det rfl rfl rfl (V.len' Tryz.underlying52 rfl ⟨_, rfl, rfl⟩) ?_ | refine WL.det rfl rfl rfl (V.cap Tryz.underlying52 rfl ⟨_, rfl, rfl⟩) ?_ | refine WL.det rfl rfl rfl (V.eql rfl ⟨_, rfl, rfl⟩ ⟨_, rfl, rfl⟩) ?_ | refine WL.det rfl rfl rfl (V.gtr rfl ⟨_, rfl, rfl⟩ ⟨_, rfl, rfl⟩) ?_ | refine WL.det rfl rfl rfl (V.not rfl ⟨_, rfl, rfl⟩) ?_ | refine WL.det rfl rfl rfl (V.add rfl ⟨_, rfl, rfl⟩ ⟨_, rfl, rfl⟩ ⟨by omega, by omega⟩) ?_ | refine WL.det rfl rfl rfl (V.sub rfl ⟨_, rfl, rfl⟩ ⟨_, rfl, rfl⟩ ⟨by omega, by omega⟩) ?_ | fail) 
       | ((with_reducible refine slMark ?_); first | refine SL.det rfl rfl rfl (V.move rfl ⟨_, rfl, rfl⟩) ?_ | refine SL.det rfl rfl rfl (V.assign rfl ⟨_, rfl, rfl⟩) ?_ | refine SL.det rfl rfl rfl (V.len' Tryz.underlying52 rfl ⟨_, rfl, rfl⟩) ?_ | refine SL.det rfl rfl rfl (V.cap Tryz.underlying52 rfl ⟨_, rfl, rfl⟩) ?_ | refine SL.det rfl rfl rfl (V.eql rfl ⟨_, rfl, rfl⟩ ⟨_, rfl, rfl⟩) ?_ | refine SL.det rfl rfl rfl (V.gtr rfl ⟨_, rfl, rfl⟩ ⟨_, rfl, rfl⟩) ?_ | refine SL.det rfl rfl rfl (V.not rfl ⟨_, rfl, rfl⟩) ?_ | refine SL.det rfl rfl rfl (V.add rfl ⟨_, rfl, rfl⟩ ⟨_, rfl, rfl⟩ ⟨by omega, by omega⟩) ?_ | refine SL.det rfl rfl rfl (V.sub rfl ⟨_, rfl, rfl⟩ ⟨_, rfl, rfl⟩ ⟨by omega, by omega⟩) ?_ | fail) 
  refine WL.appendG (m := 1) (news := us) Tryz.underlying52 Tryz.typeInfo100 rfl rfl rfl rfl rfl rfl rfl ⟨_, rfl, rfl⟩ ⟨_, rfl, rfl⟩ h0 h1.src ho1 hul (by show (n + 1) * 24 ≤ _; omega) (by omega) (fun v' H' k1 k2 k3 => ?_)
  repeat' first
       | with_reducible refine WC.seq ?_
       | with_reducible refine WC.skip ?_
       | with_reducible refine WC.region ?_
       | with_reducible refine WL.nil ?_
       | with_reducible refine SL.nil ?_
       | with_reducible refine NX.go ?_
       | with_reducible refine WC.ret ?_
       | with_reducible refine NX.of_ret ?_
       | ((with_reducible refine wlMark ?_); first | refine WL.det rfl rfl rfl (V.move rfl ⟨_, rfl, rfl⟩) ?_ | refine WL.det rfl rfl rfl (V.assign rfl ⟨_, rfl, rfl⟩) ?_ | refine WL.det rfl rfl rfl (V.len' Tryz.underlying52 rfl ⟨_, rfl, rfl⟩) ?_ | refine WL.det rfl rfl rfl (V.cap Tryz.underlying52 rfl ⟨_, rfl, rfl⟩) ?_ | refine WL.det rfl rfl rfl (V.eql rfl ⟨_, rfl, rfl⟩ ⟨_, rfl, rfl⟩) ?_ | refine WL.det rfl rfl rfl (V.gtr rfl ⟨_, rfl, rfl⟩ ⟨_, rfl, rfl⟩) ?_ | refine WL.det rfl rfl rfl (V.not rfl ⟨_, rfl, rfl⟩) ?_ | refine WL.det rfl rfl rfl (V.add rfl ⟨_, rfl, rfl⟩ ⟨_, rfl, rfl⟩ ⟨by omega, by omega⟩) ?_ | refine WL.det rfl rfl rfl (V.sub rfl ⟨_, rfl, rfl⟩ ⟨_, rfl, rfl⟩ ⟨by omega, by omega⟩) ?_ | fail) 
       | ((with_reducible refine slMark ?_); first | refine SL.det rfl rfl rfl (V.move rfl ⟨_, rfl, rfl⟩) ?_ | refine SL.det rfl rfl rfl (V.assign rfl ⟨_, rfl, rfl⟩) ?_ | refine SL.det rfl rfl rfl (V.len' Tryz.underlying52 rfl ⟨_, rfl, rfl⟩) ?_ | refine SL.det rfl rfl rfl (V.cap Tryz.underlying52 rfl ⟨_, rfl, rfl⟩) ?_ | refine SL.det rfl rfl rfl (V.eql rfl ⟨_, rfl, rfl⟩ ⟨_, rfl, rfl⟩) ?_ | refine SL.det rfl rfl rfl (V.gtr rfl ⟨_, rfl, rfl⟩ ⟨_, rfl, rfl⟩) ?_ | refine SL.det rfl rfl rfl (V.not rfl ⟨_, rfl, rfl⟩) ?_ | refine SL.det rfl rfl rfl (V.add rfl ⟨_, rfl, rfl⟩ ⟨_, rfl, rfl⟩ ⟨by omega, by omega⟩) ?_ | refine SL.det rfl rfl rfl (V.sub rfl ⟨_, rfl, rfl⟩ ⟨_, rfl, rfl⟩ ⟨by omega, by omega⟩) ?_ | fail) 
  refine ret1 hQ rfl rfl ⟨_, rfl, rfl⟩ ⟨?_, k2, k3⟩
  have e : i * 2 = cs.length := by rw [h0.1]; omega
  rw [e, List.take_length, List.drop_length, List.append_nil]
  exact k1
 have h : ¬ (i : Int) = (n : Int) := of_decide_eq_false h
 obtain ⟨g, off, cap, cur, e, hv0, q1, q2, q3, q4, q5⟩ := h0.2.resolve_left (by rintro ⟨_, _, hz⟩; omega)
 obtain ⟨rfl, rfl⟩ : p = some ⟨g, off, none⟩ ∧ c = cap + 1 := by simpa using hv0
 have hne : gv ≠ g := fun h => hd g (by simp [obs]) (by simp [obs, h])
 have hb : (cs.drop (i * 2)).length = (n - i) * 2 := by rw [List.length_drop, hcl]; omega
 have hat : (cs.take (i * 2)).length = i * 2 := by rw [List.length_take, hcl]; omega
 have hcb := seg_cell q1 q5 (i * 2) rfl
 have hca := seg_cell q1 q5 0 rfl
 have hcu := seg_cell hv1 hv5 0 rfl
 rw [List.drop_zero, Nat.add_zero] at hcu hca
 have hta : ∀ j v, (cs.take (i * 2))[j]? = some v → NB.cell H g (off + j) = some v := fun j v hj => by
  rw [List.getElem?_take] at hj
  split at hj
  ·exact hca j v hj
  ·cases hj
 have hob : ∀ u ∈ cs.drop (i * 2), u.oneCell' = true := fun u hu => ho0 u (List.mem_of_mem_drop hu)
 have hseg : (cur.toList.drop off).take (cs.take (i * 2)).length = cs.take (i * 2) := by
  rw [hat, ← q5, List.take_take, Nat.min_eq_left (by omega)]
 repeat' first
      | with_reducible refine WC.seq ?_
      | with_reducible refine WC.skip ?_
      | with_reducible refine WC.region ?_
      | with_reducible refine WL.nil ?_
      | with_reducible refine SL.nil ?_
      | with_reducible refine NX.go ?_
      | with_reducible refine WC.ret ?_
      | with_reducible refine NX.of_ret ?_
      | ((with_reducible refine wlMark ?_); first | refine WL.det rfl rfl rfl (V.move rfl ⟨_, rfl, rfl⟩) ?_ | refine WL.det rfl rfl rfl (V.assign rfl ⟨_, rfl, rfl⟩) ?_ | refine WL.det rfl rfl rfl (V.len' Tryz.underlying52 rfl ⟨_, rfl, rfl⟩) ?_ | refine WL.det rfl rfl rfl (V.cap Tryz.underlying52 rfl ⟨_, rfl, rfl⟩) ?_ | refine WL.det rfl rfl rfl (V.eql rfl ⟨_, rfl, rfl⟩ ⟨_, rfl, rfl⟩) ?_ | refine WL.det rfl rfl rfl (V.gtr rfl ⟨_, rfl, rfl⟩ ⟨_, rfl, rfl⟩) ?_ | refine WL.det rfl rfl rfl (V.not rfl ⟨_, rfl, rfl⟩) ?_ | refine WL.det rfl rfl rfl (V.add rfl ⟨_, rfl, rfl⟩ ⟨_, rfl, rfl⟩ ⟨by omega, by omega⟩) ?_ | refine WL.det rfl rfl rfl (V.sub rfl ⟨_, rfl, rfl⟩ ⟨_, rfl, rfl⟩ ⟨by omega, by omega⟩) ?_ | fail) 
      | ((with_reducible refine slMark ?_); first | refine SL.det rfl rfl rfl (V.move rfl ⟨_, rfl, rfl⟩) ?_ | refine SL.det rfl rfl rfl (V.assign rfl ⟨_, rfl, rfl⟩) ?_ | refine SL.det rfl rfl rfl (V.len' Tryz.underlying52 rfl ⟨_, rfl, rfl⟩) ?_ | refine SL.det rfl rfl rfl (V.cap Tryz.underlying52 rfl ⟨_, rfl, rfl⟩) ?_ | refine SL.det rfl rfl rfl (V.eql rfl ⟨_, rfl, rfl⟩ ⟨_, rfl, rfl⟩) ?_ | refine SL.det rfl rfl rfl (V.gtr rfl ⟨_, rfl, rfl⟩ ⟨_, rfl, rfl⟩) ?_ | refine SL.det rfl rfl rfl (V.not rfl ⟨_, rfl, rfl⟩) ?_ | refine SL.det rfl rfl rfl (V.add rfl ⟨_, rfl, rfl⟩ ⟨_, rfl, rfl⟩ ⟨by omega, by omega⟩) ?_ | refine SL.det rfl rfl rfl (V.sub rfl ⟨_, rfl, rfl⟩ ⟨_, rfl, rfl⟩ ⟨by omega, by omega⟩) ?_ | fail) 
 refine WC.cond ⟨_, rfl, rfl⟩ (fun h2 => ?_) (fun h2 => ?_)
 ·have h2 : ((cap + 1 : Nat) : Int) < (n : Int) + (1 : Nat) := of_decide_eq_true h2
  repeat' first
       | with_reducible refine WC.seq ?_
       | with_reducible refine WC.skip ?_
       | with_reducible refine WC.region ?_
       | with_reducible refine WL.nil ?_
       | with_reducible refine SL.nil ?_
       | with_reducible refine NX.go ?_
       | with_reducible refine WC.ret ?_
       | with_reducible refine NX.of_ret ?_
       | ((with_reducible refine wlMark ?_); first | refine WL.det rfl rfl rfl (V.move rfl ⟨_, rfl, rfl⟩) ?_ | refine WL.det rfl rfl rfl (V.assign rfl ⟨_, rfl, rfl⟩) ?_ | refine WL.det rfl rfl rfl (V.len' Tryz.underlying52 rfl ⟨_, rfl, rfl⟩) ?_ | refine WL.det rfl rfl rfl (V.cap Tryz.underlying52 rfl ⟨_, rfl, rfl⟩) ?_ | refine WL.det rfl rfl rfl (V.eql rfl ⟨_, rfl, rfl⟩ ⟨_, rfl, rfl⟩) ?_ | refine WL.det rfl rfl rfl (V.gtr rfl ⟨_, rfl, rfl⟩ ⟨_, rfl, rfl⟩) ?_ | refine WL.det rfl rfl rfl (V.not rfl ⟨_, rfl, rfl⟩) ?_ | refine WL.det rfl rfl rfl (V.add rfl ⟨_, rfl, rfl⟩ ⟨_, rfl, rfl⟩ ⟨by omega, by omega⟩) ?_ | refine WL.det rfl rfl rfl (V.sub rfl ⟨_, rfl, rfl⟩ ⟨_, rfl, rfl⟩ ⟨by omega, by omega⟩) ?_ | fail) 
       | ((with_reducible refine slMark ?_); first | refine SL.det rfl rfl rfl (V.move rfl ⟨_, rfl, rfl⟩) ?_ | refine SL.det rfl rfl rfl (V.assign rfl ⟨_, rfl, rfl⟩) ?_ | refine SL.det rfl rfl rfl (V.len' Tryz.underlying52 rfl ⟨_, rfl, rfl⟩) ?_ | refine SL.det rfl rfl rfl (V.cap Tryz.underlying52 rfl ⟨_, rfl, rfl⟩) ?_ | refine SL.det rfl rfl rfl (V.eql rfl ⟨_, rfl, rfl⟩ ⟨_, rfl, rfl⟩) ?_ | refine SL.det rfl rfl rfl (V.gtr rfl ⟨_, rfl, rfl⟩ ⟨_, rfl, rfl⟩) ?_ | refine SL.det rfl rfl rfl (V.not rfl ⟨_, rfl, rfl⟩) ?_ | refine SL.det rfl rfl rfl (V.add rfl ⟨_, rfl, rfl⟩ ⟨_, rfl, rfl⟩ ⟨by omega, by omega⟩) ?_ | refine SL.det rfl rfl rfl (V.sub rfl ⟨_, rfl, rfl⟩ ⟨_, rfl, rfl⟩ ⟨by omega, by omega⟩) ?_ | fail) 
  refine WL.det rfl rfl rfl (V.slHi (hi := i) Tryz.underlying52 Tryz.sizeOf100 rfl ⟨_, rfl, rfl⟩ ⟨_, rfl, rfl⟩ rfl (by omega)) ?_
  repeat' first
       | with_reducible refine WC.seq ?_
       | with_reducible refine WC.skip ?_
       | with_reducible refine WC.region ?_
       | with_reducible refine WL.nil ?_
       | with_reducible refine SL.nil ?_
       | with_reducible refine NX.go ?_
       | with_reducible refine WC.ret ?_
       | with_reducible refine NX.of_ret ?_
       | ((with_reducible refine wlMark ?_); first | refine WL.det rfl rfl rfl (V.move rfl ⟨_, rfl, rfl⟩) ?_ | refine WL.det rfl rfl rfl (V.assign rfl ⟨_, rfl, rfl⟩) ?_ | refine WL.det rfl rfl rfl (V.len' Tryz.underlying52 rfl ⟨_, rfl, rfl⟩) ?_ | refine WL.det rfl rfl rfl (V.cap Tryz.underlying52 rfl ⟨_, rfl, rfl⟩) ?_ | refine WL.det rfl rfl rfl (V.eql rfl ⟨_, rfl, rfl⟩ ⟨_, rfl, rfl⟩) ?_ | refine WL.det rfl rfl rfl (V.gtr rfl ⟨_, rfl, rfl⟩ ⟨_, rfl, rfl⟩) ?_ | refine WL.det rfl rfl rfl (V.not rfl ⟨_, rfl, rfl⟩) ?_ | refine WL.det rfl rfl rfl (V.add rfl ⟨_, rfl, rfl⟩ ⟨_, rfl, rfl⟩ ⟨by omega, by omega⟩) ?_ | refine WL.det rfl rfl rfl (V.sub rfl ⟨_, rfl, rfl⟩ ⟨_, rfl, rfl⟩ ⟨by omega, by omega⟩) ?_ | fail) 
       | ((with_reducible refine slMark ?_); first | refine SL.det rfl rfl rfl (V.move rfl ⟨_, rfl, rfl⟩) ?_ | refine SL.det rfl rfl rfl (V.assign rfl ⟨_, rfl, rfl⟩) ?_ | refine SL.det rfl rfl rfl (V.len' Tryz.underlying52 rfl ⟨_, rfl, rfl⟩) ?_ | refine SL.det rfl rfl rfl (V.cap Tryz.underlying52 rfl ⟨_, rfl, rfl⟩) ?_ | refine SL.det rfl rfl rfl (V.eql rfl ⟨_, rfl, rfl⟩ ⟨_, rfl, rfl⟩) ?_ | refine SL.det rfl rfl rfl (V.gtr rfl ⟨_, rfl, rfl⟩ ⟨_, rfl, rfl⟩) ?_ | refine SL.det rfl rfl rfl (V.not rfl ⟨_, rfl, rfl⟩) ?_ | refine SL.det rfl rfl rfl (V.add rfl ⟨_, rfl, rfl⟩ ⟨_, rfl, rfl⟩ ⟨by omega, by omega⟩) ?_ | refine SL.det rfl rfl rfl (V.sub rfl ⟨_, rfl, rfl⟩ ⟨_, rfl, rfl⟩ ⟨by omega, by omega⟩) ?_ | fail) 
  refine WL.appendZ (m := n + 1 - i) (sz := 2) (cs := cs.take (i * 2)) Tryz.underlying52 Tryz.underlying3 Tryz.typeInfo100 rfl rfl rfl rfl (by decide) rfl rfl rfl rfl ⟨_, rfl, rfl⟩ ⟨_, rfl, rfl⟩ (by omega) (by omega) (by omega) hat hta (by show (i + (n + 1 - i)) * 24 ≤ _; omega) (by omega) (fun gc cur2 k1 k2 k3 k4 => ?_)
  rw [show i + (n + 1 - i) = n + 1 by omega]
  have hgl := (Array.getElem?_eq_some_iff.1 q1).1
  have hgvl := (Array.getElem?_eq_some_iff.1 hv1).1
  have hK0 : Keep [] H (H.push (.cells cur2 100 (0, 0))) := Keep.push [] H _
  repeat' first
       | with_reducible refine WC.seq ?_
       | with_reducible refine WC.skip ?_
       | with_reducible refine WC.region ?_
       | with_reducible refine WL.nil ?_
       | with_reducible refine SL.nil ?_
       | with_reducible refine NX.go ?_
       | with_reducible refine WC.ret ?_
       | with_reducible refine NX.of_ret ?_
       | ((with_reducible refine wlMark ?_); first | refine WL.det rfl rfl rfl (V.move rfl ⟨_, rfl, rfl⟩) ?_ | refine WL.det rfl rfl rfl (V.assign rfl ⟨_, rfl, rfl⟩) ?_ | refine WL.det rfl rfl rfl (V.len' Tryz.underlying52 rfl ⟨_, rfl, rfl⟩) ?_ | refine WL.det rfl rfl rfl (V.cap Tryz.underlying52 rfl ⟨_, rfl, rfl⟩) ?_ | refine WL.det rfl rfl rfl (V.eql rfl ⟨_, rfl, rfl⟩ ⟨_, rfl, rfl⟩) ?_ | refine WL.det rfl rfl rfl (V.gtr rfl ⟨_, rfl, rfl⟩ ⟨_, rfl, rfl⟩) ?_ | refine WL.det rfl rfl rfl (V.not rfl ⟨_, rfl, rfl⟩) ?_ | refine WL.det rfl rfl rfl (V.add rfl ⟨_, rfl, rfl⟩ ⟨_, rfl, rfl⟩ ⟨by omega, by omega⟩) ?_ | refine WL.det rfl rfl rfl (V.sub rfl ⟨_, rfl, rfl⟩ ⟨_, rfl, rfl⟩ ⟨by omega, by omega⟩) ?_ | fail) 
       | ((with_reducible refine slMark ?_); first | refine SL.det rfl rfl rfl (V.move rfl ⟨_, rfl, rfl⟩) ?_ | refine SL.det rfl rfl rfl (V.assign rfl ⟨_, rfl, rfl⟩) ?_ | refine SL.det rfl rfl rfl (V.len' Tryz.underlying52 rfl ⟨_, rfl, rfl⟩) ?_ | refine SL.det rfl rfl rfl (V.cap Tryz.underlying52 rfl ⟨_, rfl, rfl⟩) ?_ | refine SL.det rfl rfl rfl (V.eql rfl ⟨_, rfl, rfl⟩ ⟨_, rfl, rfl⟩) ?_ | refine SL.det rfl rfl rfl (V.gtr rfl ⟨_, rfl, rfl⟩ ⟨_, rfl, rfl⟩) ?_ | refine SL.det rfl rfl rfl (V.not rfl ⟨_, rfl, rfl⟩) ?_ | refine SL.det rfl rfl rfl (V.add rfl ⟨_, rfl, rfl⟩ ⟨_, rfl, rfl⟩ ⟨by omega, by omega⟩) ?_ | refine SL.det rfl rfl rfl (V.sub rfl ⟨_, rfl, rfl⟩ ⟨_, rfl, rfl⟩ ⟨by omega, by omega⟩) ?_ | fail) 
  refine WL.det rfl rfl rfl (V.slLoC (lo := i) Tryz.underlying52 Tryz.sizeOf100 rfl ⟨_, rfl, rfl⟩ ⟨_, rfl, rfl⟩ rfl (by omega) (by omega)) ?_
  repeat' first
       | with_reducible refine WC.seq ?_
       | with_reducible refine WC.skip ?_
       | with_reducible refine WC.region ?_
       | with_reducible refine WL.nil ?_
       | with_reducible refine SL.nil ?_
       | with_reducible refine NX.go ?_
       | with_reducible refine WC.ret ?_
       | with_reducible refine NX.of_ret ?_
       | ((with_reducible refine wlMark ?_); first | refine WL.det rfl rfl rfl (V.move rfl ⟨_, rfl, rfl⟩) ?_ | refine WL.det rfl rfl rfl (V.assign rfl ⟨_, rfl, rfl⟩) ?_ | refine WL.det rfl rfl rfl (V.len' Tryz.underlying52 rfl ⟨_, rfl, rfl⟩) ?_ | refine WL.det rfl rfl rfl (V.cap Tryz.underlying52 rfl ⟨_, rfl, rfl⟩) ?_ | refine WL.det rfl rfl rfl (V.eql rfl ⟨_, rfl, rfl⟩ ⟨_, rfl, rfl⟩) ?_ | refine WL.det rfl rfl rfl (V.gtr rfl ⟨_, rfl, rfl⟩ ⟨_, rfl, rfl⟩) ?_ | refine WL.det rfl rfl rfl (V.not rfl ⟨_, rfl, rfl⟩) ?_ | refine WL.det rfl rfl rfl (V.add rfl ⟨_, rfl, rfl⟩ ⟨_, rfl, rfl⟩ ⟨by omega, by omega⟩) ?_ | refine WL.det rfl rfl rfl (V.sub rfl ⟨_, rfl, rfl⟩ ⟨_, rfl, rfl⟩ ⟨by omega, by omega⟩) ?_ | fail) 
       | ((with_reducible refine slMark ?_); first | refine SL.det rfl rfl rfl (V.move rfl ⟨_, rfl, rfl⟩) ?_ | refine SL.det rfl rfl rfl (V.assign rfl ⟨_, rfl, rfl⟩) ?_ | refine SL.det rfl rfl rfl (V.len' Tryz.underlying52 rfl ⟨_, rfl, rfl⟩) ?_ | refine SL.det rfl rfl rfl (V.cap Tryz.underlying52 rfl ⟨_, rfl, rfl⟩) ?_ | refine SL.det rfl rfl rfl (V.eql rfl ⟨_, rfl, rfl⟩ ⟨_, rfl, rfl⟩) ?_ | refine SL.det rfl rfl rfl (V.gtr rfl ⟨_, rfl, rfl⟩ ⟨_, rfl, rfl⟩) ?_ | refine SL.det rfl rfl rfl (V.not rfl ⟨_, rfl, rfl⟩) ?_ | refine SL.det rfl rfl rfl (V.add rfl ⟨_, rfl, rfl⟩ ⟨_, rfl, rfl⟩ ⟨by omega, by omega⟩) ?_ | refine SL.det rfl rfl rfl (V.sub rfl ⟨_, rfl, rfl⟩ ⟨_, rfl, rfl⟩ ⟨by omega, by omega⟩) ?_ | fail) 
  refine WL.copyN (sz := 2) (k := 1) (news := us) (cur := cur2) (et := 100) Tryz.underlying52 Tryz.sizeOf100 rfl rfl rfl rfl ⟨_, rfl, rfl⟩ ⟨_, rfl, rfl⟩ (by simp only [Nat.min_def]; split <;> omega) hul (fun j v hj => cell_keep (hcu j v hj) hK0 (by simp)) (by simp) (by omega) ho1 (fun H1 hH1 hK1 => ?_)
  repeat' first
       | with_reducible refine WC.seq ?_
       | with_reducible refine WC.skip ?_
       | with_reducible refine WC.region ?_
       | with_reducible refine WL.nil ?_
       | with_reducible refine SL.nil ?_
       | with_reducible refine NX.go ?_
       | with_reducible refine WC.ret ?_
       | with_reducible refine NX.of_ret ?_
       | ((with_reducible refine wlMark ?_); first | refine WL.det rfl rfl rfl (V.move rfl ⟨_, rfl, rfl⟩) ?_ | refine WL.det rfl rfl rfl (V.assign rfl ⟨_, rfl, rfl⟩) ?_ | refine WL.det rfl rfl rfl (V.len' Tryz.underlying52 rfl ⟨_, rfl, rfl⟩) ?_ | refine WL.det rfl rfl rfl (V.cap Tryz.underlying52 rfl ⟨_, rfl, rfl⟩) ?_ | refine WL.det rfl rfl rfl (V.eql rfl ⟨_, rfl, rfl⟩ ⟨_, rfl, rfl⟩) ?_ | refine WL.det rfl rfl rfl (V.gtr rfl ⟨_, rfl, rfl⟩ ⟨_, rfl, rfl⟩) ?_ | refine WL.det rfl rfl rfl (V.not rfl ⟨_, rfl, rfl⟩) ?_ | refine WL.det rfl rfl rfl (V.add rfl ⟨_, rfl, rfl⟩ ⟨_, rfl, rfl⟩ ⟨by omega, by omega⟩) ?_ | refine WL.det rfl rfl rfl (V.sub rfl ⟨_, rfl, rfl⟩ ⟨_, rfl, rfl⟩ ⟨by omega, by omega⟩) ?_ | fail) 
       | ((with_reducible refine slMark ?_); first | refine SL.det rfl rfl rfl (V.move rfl ⟨_, rfl, rfl⟩) ?_ | refine SL.det rfl rfl rfl (V.assign rfl ⟨_, rfl, rfl⟩) ?_ | refine SL.det rfl rfl rfl (V.len' Tryz.underlying52 rfl ⟨_, rfl, rfl⟩) ?_ | refine SL.det rfl rfl rfl (V.cap Tryz.underlying52 rfl ⟨_, rfl, rfl⟩) ?_ | refine SL.det rfl rfl rfl (V.eql rfl ⟨_, rfl, rfl⟩ ⟨_, rfl, rfl⟩) ?_ | refine SL.det rfl rfl rfl (V.gtr rfl ⟨_, rfl, rfl⟩ ⟨_, rfl, rfl⟩) ?_ | refine SL.det rfl rfl rfl (V.not rfl ⟨_, rfl, rfl⟩) ?_ | refine SL.det rfl rfl rfl (V.add rfl ⟨_, rfl, rfl⟩ ⟨_, rfl, rfl⟩ ⟨by omega, by omega⟩) ?_ | refine SL.det rfl rfl rfl (V.sub rfl ⟨_, rfl, rfl⟩ ⟨_, rfl, rfl⟩ ⟨by omega, by omega⟩) ?_ | fail) 
  refine WC.tail 8 (by kernel_rfl) (by kernel_rfl) ?_
  repeat' first
       | with_reducible refine WC.seq ?_
       | with_reducible refine WC.skip ?_
       | with_reducible refine WC.region ?_
       | with_reducible refine WL.nil ?_
       | with_reducible refine SL.nil ?_
       | with_reducible refine NX.go ?_
       | with_reducible refine WC.ret ?_
       | with_reducible refine NX.of_ret ?_
       | ((with_reducible refine wlMark ?_); first | refine WL.det rfl rfl rfl (V.move rfl ⟨_, rfl, rfl⟩) ?_ | refine WL.det rfl rfl rfl (V.assign rfl ⟨_, rfl, rfl⟩) ?_ | refine WL.det rfl rfl rfl (V.len' Tryz.underlying52 rfl ⟨_, rfl, rfl⟩) ?_ | refine WL.det rfl rfl rfl (V.cap Tryz.underlying52 rfl ⟨_, rfl, rfl⟩) ?_ | refine WL.det rfl rfl rfl (V.eql rfl ⟨_, rfl, rfl⟩ ⟨_, rfl, rfl⟩) ?_ | refine WL.det rfl rfl rfl (V.gtr rfl ⟨_, rfl, rfl⟩ ⟨_, rfl, rfl⟩) ?_ | refine WL.det rfl rfl rfl (V.not rfl ⟨_, rfl, rfl⟩) ?_ | refine WL.det rfl rfl rfl (V.add rfl ⟨_, rfl, rfl⟩ ⟨_, rfl, rfl⟩ ⟨by omega, by omega⟩) ?_ | refine WL.det rfl rfl rfl (V.sub rfl ⟨_, rfl, rfl⟩ ⟨_, rfl, rfl⟩ ⟨by omega, by omega⟩) ?_ | fail) 
       | ((with_reducible refine slMark ?_); first | refine SL.det rfl rfl rfl (V.move rfl ⟨_, rfl, rfl⟩) ?_ | refine SL.det rfl rfl rfl (V.assign rfl ⟨_, rfl, rfl⟩) ?_ | refine SL.det rfl rfl rfl (V.len' Tryz.underlying52 rfl ⟨_, rfl, rfl⟩) ?_ | refine SL.det rfl rfl rfl (V.cap Tryz.underlying52 rfl ⟨_, rfl, rfl⟩) ?_ | refine SL.det rfl rfl rfl (V.eql rfl ⟨_, rfl, rfl⟩ ⟨_, rfl, rfl⟩) ?_ | refine SL.det rfl rfl rfl (V.gtr rfl ⟨_, rfl, rfl⟩ ⟨_, rfl, rfl⟩) ?_ | refine SL.det rfl rfl rfl (V.not rfl ⟨_, rfl, rfl⟩) ?_ | refine SL.det rfl rfl rfl (V.add rfl ⟨_, rfl, rfl⟩ ⟨_, rfl, rfl⟩ ⟨by omega, by omega⟩) ?_ | refine SL.det rfl rfl rfl (V.sub rfl ⟨_, rfl, rfl⟩ ⟨_, rfl, rfl⟩ ⟨by omega, by omega⟩) ?_ | fail) 
  refine SL.det rfl rfl rfl (V.slLoC (lo := i + 1) Tryz.underlying52 Tryz.sizeOf100 rfl ⟨_, rfl, rfl⟩ ⟨_, rfl, rfl⟩ rfl (by omega) (by omega)) ?_
  repeat' first
       | with_reducible refine WC.seq ?_
       | with_reducible refine WC.skip ?_
       | with_reducible refine WC.region ?_
       | with_reducible refine WL.nil ?_
       | with_reducible refine SL.nil ?_
       | with_reducible refine NX.go ?_
       | with_reducible refine WC.ret ?_
       | with_reducible refine NX.of_ret ?_
       | ((with_reducible refine wlMark ?_); first | refine WL.det rfl rfl rfl (V.move rfl ⟨_, rfl, rfl⟩) ?_ | refine WL.det rfl rfl rfl (V.assign rfl ⟨_, rfl, rfl⟩) ?_ | refine WL.det rfl rfl rfl (V.len' Tryz.underlying52 rfl ⟨_, rfl, rfl⟩) ?_ | refine WL.det rfl rfl rfl (V.cap Tryz.underlying52 rfl ⟨_, rfl, rfl⟩) ?_ | refine WL.det rfl rfl rfl (V.eql rfl ⟨_, rfl, rfl⟩ ⟨_, rfl, rfl⟩) ?_ | refine WL.det rfl rfl rfl (V.gtr rfl ⟨_, rfl, rfl⟩ ⟨_, rfl, rfl⟩) ?_ | refine WL.det rfl rfl rfl (V.not rfl ⟨_, rfl, rfl⟩) ?_ | refine WL.det rfl rfl rfl (V.add rfl ⟨_, rfl, rfl⟩ ⟨_, rfl, rfl⟩ ⟨by omega, by omega⟩) ?_ | refine WL.det rfl rfl rfl (V.sub rfl ⟨_, rfl, rfl⟩ ⟨_, rfl, rfl⟩ ⟨by omega, by omega⟩) ?_ | fail) 
       | ((with_reducible refine slMark ?_); first | refine SL.det rfl rfl rfl (V.move rfl ⟨_, rfl, rfl⟩) ?_ | refine SL.det rfl rfl rfl (V.assign rfl ⟨_, rfl, rfl⟩) ?_ | refine SL.det rfl rfl rfl (V.len' Tryz.underlying52 rfl ⟨_, rfl, rfl⟩) ?_ | refine SL.det rfl rfl rfl (V.cap Tryz.underlying52 rfl ⟨_, rfl, rfl⟩) ?_ | refine SL.det rfl rfl rfl (V.eql rfl ⟨_, rfl, rfl⟩ ⟨_, rfl, rfl⟩) ?_ | refine SL.det rfl rfl rfl (V.gtr rfl ⟨_, rfl, rfl⟩ ⟨_, rfl, rfl⟩) ?_ | refine SL.det rfl rfl rfl (V.not rfl ⟨_, rfl, rfl⟩) ?_ | refine SL.det rfl rfl rfl (V.add rfl ⟨_, rfl, rfl⟩ ⟨_, rfl, rfl⟩ ⟨by omega, by omega⟩) ?_ | refine SL.det rfl rfl rfl (V.sub rfl ⟨_, rfl, rfl⟩ ⟨_, rfl, rfl⟩ ⟨by omega, by omega⟩) ?_ | fail) 
  refine SL.det rfl rfl rfl (V.slLoC (lo := i) Tryz.underlying52 Tryz.sizeOf100 rfl ⟨_, rfl, rfl⟩ ⟨_, rfl, rfl⟩ rfl (by omega) (by omega)) ?_
  repeat' first
       | with_reducible refine WC.seq ?_
       | with_reducible refine WC.skip ?_
       | with_reducible refine WC.region ?_
       | with_reducible refine WL.nil ?_
       | with_reducible refine SL.nil ?_
       | with_reducible refine NX.go ?_
       | with_reducible refine WC.ret ?_
       | with_reducible refine NX.of_ret ?_
       | ((with_reducible refine wlMark ?_); first | refine WL.det rfl rfl rfl (V.move rfl ⟨_, rfl, rfl⟩) ?_ | refine WL.det rfl rfl rfl (V.assign rfl ⟨_, rfl, rfl⟩) ?_ | refine WL.det rfl rfl rfl (V.len' Tryz.underlying52 rfl ⟨_, rfl, rfl⟩) ?_ | refine WL.det rfl rfl rfl (V.cap Tryz.underlying52 rfl ⟨_, rfl, rfl⟩) ?_ | refine WL.det rfl rfl rfl (V.eql rfl ⟨_, rfl, rfl⟩ ⟨_, rfl, rfl⟩) ?_ | refine WL.det rfl rfl rfl (V.gtr rfl ⟨_, rfl, rfl⟩ ⟨_, rfl, rfl⟩) ?_ | refine WL.det rfl rfl rfl (V.not rfl ⟨_, rfl, rfl⟩) ?_ | refine WL.det rfl rfl rfl (V.add rfl ⟨_, rfl, rfl⟩ ⟨_, rfl, rfl⟩ ⟨by omega, by omega⟩) ?_ | refine WL.det rfl rfl rfl (V.sub rfl ⟨_, rfl, rfl⟩ ⟨_, rfl, rfl⟩ ⟨by omega, by omega⟩) ?_ | fail) 
       | ((with_reducible refine slMark ?_); first | refine SL.det rfl rfl rfl (V.move rfl ⟨_, rfl, rfl⟩) ?_ | refine SL.det rfl rfl rfl (V.assign rfl ⟨_, rfl, rfl⟩) ?_ | refine SL.det rfl rfl rfl (V.len' Tryz.underlying52 rfl ⟨_, rfl, rfl⟩) ?_ | refine SL.det rfl rfl rfl (V.cap Tryz.underlying52 rfl ⟨_, rfl, rfl⟩) ?_ | refine SL.det rfl rfl rfl (V.eql rfl ⟨_, rfl, rfl⟩ ⟨_, rfl, rfl⟩) ?_ | refine SL.det rfl rfl rfl (V.gtr rfl ⟨_, rfl, rfl⟩ ⟨_, rfl, rfl⟩) ?_ | refine SL.det rfl rfl rfl (V.not rfl ⟨_, rfl, rfl⟩) ?_ | refine SL.det rfl rfl rfl (V.add rfl ⟨_, rfl, rfl⟩ ⟨_, rfl, rfl⟩ ⟨by omega, by omega⟩) ?_ | refine SL.det rfl rfl rfl (V.sub rfl ⟨_, rfl, rfl⟩ ⟨_, rfl, rfl⟩ ⟨by omega, by omega⟩) ?_ | fail) 
  refine WL.copyN (sz := 2) (k := n - i) (news := cs.drop (i * 2)) (cur := putC cur2 (0 + i * 2) us) (et := 100) Tryz.underlying52 Tryz.sizeOf100 rfl rfl rfl rfl ⟨_, rfl, rfl⟩ ⟨_, rfl, rfl⟩ (by simp only [Nat.min_def]; split <;> omega) hb (fun j v hj => cell_keep (cell_keep (hcb j v hj) hK0 (by simp)) hK1 (by simp; omega)) hH1 (by rw [putC_size (by omega)]; omega) hob (fun H2 hH2 hK2 => ?_)
  repeat' first
       | with_reducible refine WC.seq ?_
       | with_reducible refine WC.skip ?_
       | with_reducible refine WC.region ?_
       | with_reducible refine WL.nil ?_
       | with_reducible refine SL.nil ?_
       | with_reducible refine NX.go ?_
       | with_reducible refine WC.ret ?_
       | with_reducible refine NX.of_ret ?_
       | ((with_reducible refine wlMark ?_); first | refine WL.det rfl rfl rfl (V.move rfl ⟨_, rfl, rfl⟩) ?_ | refine WL.det rfl rfl rfl (V.assign rfl ⟨_, rfl, rfl⟩) ?_ | refine WL.det rfl rfl rfl (V.len' Tryz.underlying52 rfl ⟨_, rfl, rfl⟩) ?_ | refine WL.det rfl rfl rfl (V.cap Tryz.underlying52 rfl ⟨_, rfl, rfl⟩) ?_ | refine WL.det rfl rfl rfl (V.eql rfl ⟨_, rfl, rfl⟩ ⟨_, rfl, rfl⟩) ?_ | refine WL.det rfl rfl rfl (V.gtr rfl ⟨_, rfl, rfl⟩ ⟨_, rfl, rfl⟩) ?_ | refine WL.det rfl rfl rfl (V.not rfl ⟨_, rfl, rfl⟩) ?_ | refine WL.det rfl rfl rfl (V.add rfl ⟨_, rfl, rfl⟩ ⟨_, rfl, rfl⟩ ⟨by omega, by omega⟩) ?_ | refine WL.det rfl rfl rfl (V.sub rfl ⟨_, rfl, rfl⟩ ⟨_, rfl, rfl⟩ ⟨by omega, by omega⟩) ?_ | fail) 
       | ((with_reducible refine slMark ?_); first | refine SL.det rfl rfl rfl (V.move rfl ⟨_, rfl, rfl⟩) ?_ | refine SL.det rfl rfl rfl (V.assign rfl ⟨_, rfl, rfl⟩) ?_ | refine SL.det rfl rfl rfl (V.len' Tryz.underlying52 rfl ⟨_, rfl, rfl⟩) ?_ | refine SL.det rfl rfl rfl (V.cap Tryz.underlying52 rfl ⟨_, rfl, rfl⟩) ?_ | refine SL.det rfl rfl rfl (V.eql rfl ⟨_, rfl, rfl⟩ ⟨_, rfl, rfl⟩) ?_ | refine SL.det rfl rfl rfl (V.gtr rfl ⟨_, rfl, rfl⟩ ⟨_, rfl, rfl⟩) ?_ | refine SL.det rfl rfl rfl (V.not rfl ⟨_, rfl, rfl⟩) ?_ | refine SL.det rfl rfl rfl (V.add rfl ⟨_, rfl, rfl⟩ ⟨_, rfl, rfl⟩ ⟨by omega, by omega⟩) ?_ | refine SL.det rfl rfl rfl (V.sub rfl ⟨_, rfl, rfl⟩ ⟨_, rfl, rfl⟩ ⟨by omega, by omega⟩) ?_ | fail) 
  have hK : Keep [] H H2 := (hK0.then hK1 (fun b hb => .inr (by simp at hb; omega))).then hK2 (fun b hb => .inr (by simp at hb; omega))
  have hsz1 : (putC cur2 (0 + i * 2) us).size = cur2.size := putC_size (by omega)
  refine ret1 hQ rfl rfl ⟨_, rfl, rfl⟩ ⟨⟨by simp only [List.length_append, hat, hul, hb]; omega, .inr ⟨H.size, 0, gc, _, 100, rfl, hH2, by omega, k2, by rw [putC_size (by omega), hsz1]; omega, ?_⟩⟩, hK.mono (fun b hb => by cases hb), fun b hb => .inr (by simp [obs] at hb; omega)⟩
  have := put_ins (cur := cur2) (off := 0) (a := cs.take (i * 2)) (us := us) (b := cs.drop (i * 2)) (by rw [hat, List.drop_zero]; exact k4) (by rw [hat, hul, hb]; omega)
  rw [hat, hul, hb] at this
  rw [show (n + 1) * 2 = i * 2 + 1 * 2 + (n - i) * 2 by omega, show 0 + (i + 1) * 2 = 0 + (i * 2 + 1 * 2) by omega]
  exact this
 ·have h2 : ¬ ((cap + 1 : Nat) : Int) < (n : Int) + (1 : Nat) := of_decide_eq_false h2
  repeat' first
       | with_reducible refine WC.seq ?_
       | with_reducible refine WC.skip ?_
       | with_reducible refine WC.region ?_
       | with_reducible refine WL.nil ?_
       | with_reducible refine SL.nil ?_
       | with_reducible refine NX.go ?_
       | with_reducible refine WC.ret ?_
       | with_reducible refine NX.of_ret ?_
       | ((with_reducible refine wlMark ?_); first | refine WL.det rfl rfl rfl (V.move rfl ⟨_, rfl, rfl⟩) ?_ | refine WL.det rfl rfl rfl (V.assign rfl ⟨_, rfl, rfl⟩) ?_ | refine WL.det rfl rfl rfl (V.len' Tryz.underlying52 rfl ⟨_, rfl, rfl⟩) ?_ | refine WL.det rfl rfl rfl (V.cap Tryz.underlying52 rfl ⟨_, rfl, rfl⟩) ?_ | refine WL.det rfl rfl rfl (V.eql rfl ⟨_, rfl, rfl⟩ ⟨_, rfl, rfl⟩) ?_ | refine WL.det rfl rfl rfl (V.gtr rfl ⟨_, rfl, rfl⟩ ⟨_, rfl, rfl⟩) ?_ | refine WL.det rfl rfl rfl (V.not rfl ⟨_, rfl, rfl⟩) ?_ | refine WL.det rfl rfl rfl (V.add rfl ⟨_, rfl, rfl⟩ ⟨_, rfl, rfl⟩ ⟨by omega, by omega⟩) ?_ | refine WL.det rfl rfl rfl (V.sub rfl ⟨_, rfl, rfl⟩ ⟨_, rfl, rfl⟩ ⟨by omega, by omega⟩) ?_ | fail) 
       | ((with_reducible refine slMark ?_); first | refine SL.det rfl rfl rfl (V.move rfl ⟨_, rfl, rfl⟩) ?_ | refine SL.det rfl rfl rfl (V.assign rfl ⟨_, rfl, rfl⟩) ?_ | refine SL.det rfl rfl rfl (V.len' Tryz.underlying52 rfl ⟨_, rfl, rfl⟩) ?_ | refine SL.det rfl rfl rfl (V.cap Tryz.underlying52 rfl ⟨_, rfl, rfl⟩) ?_ | refine SL.det rfl rfl rfl (V.eql rfl ⟨_, rfl, rfl⟩ ⟨_, rfl, rfl⟩) ?_ | refine SL.det rfl rfl rfl (V.gtr rfl ⟨_, rfl, rfl⟩ ⟨_, rfl, rfl⟩) ?_ | refine SL.det rfl rfl rfl (V.not rfl ⟨_, rfl, rfl⟩) ?_ | refine SL.det rfl rfl rfl (V.add rfl ⟨_, rfl, rfl⟩ ⟨_, rfl, rfl⟩ ⟨by omega, by omega⟩) ?_ | refine SL.det rfl rfl rfl (V.sub rfl ⟨_, rfl, rfl⟩ ⟨_, rfl, rfl⟩ ⟨by omega, by omega⟩) ?_ | fail) 
  refine WL.det rfl rfl rfl (V.slHi (hi := n + 1) Tryz.underlying52 Tryz.sizeOf100 rfl ⟨_, rfl, rfl⟩ ⟨_, rfl, rfl⟩ rfl (by omega)) ?_
  repeat' first
       | with_reducible refine WC.seq ?_
       | with_reducible refine WC.skip ?_
       | with_reducible refine WC.region ?_
       | with_reducible refine WL.nil ?_
       | with_reducible refine SL.nil ?_
       | with_reducible refine NX.go ?_
       | with_reducible refine WC.ret ?_
       | with_reducible refine NX.of_ret ?_
       | ((with_reducible refine wlMark ?_); first | refine WL.det rfl rfl rfl (V.move rfl ⟨_, rfl, rfl⟩) ?_ | refine WL.det rfl rfl rfl (V.assign rfl ⟨_, rfl, rfl⟩) ?_ | refine WL.det rfl rfl rfl (V.len' Tryz.underlying52 rfl ⟨_, rfl, rfl⟩) ?_ | refine WL.det rfl rfl rfl (V.cap Tryz.underlying52 rfl ⟨_, rfl, rfl⟩) ?_ | refine WL.det rfl rfl rfl (V.eql rfl ⟨_, rfl, rfl⟩ ⟨_, rfl, rfl⟩) ?_ | refine WL.det rfl rfl rfl (V.gtr rfl ⟨_, rfl, rfl⟩ ⟨_, rfl, rfl⟩) ?_ | refine WL.det rfl rfl rfl (V.not rfl ⟨_, rfl, rfl⟩) ?_ | refine WL.det rfl rfl rfl (V.add rfl ⟨_, rfl, rfl⟩ ⟨_, rfl, rfl⟩ ⟨by omega, by omega⟩) ?_ | refine WL.det rfl rfl rfl (V.sub rfl ⟨_, rfl, rfl⟩ ⟨_, rfl, rfl⟩ ⟨by omega, by omega⟩) ?_ | fail) 
       | ((with_reducible refine slMark ?_); first | refine SL.det rfl rfl rfl (V.move rfl ⟨_, rfl, rfl⟩) ?_ | refine SL.det rfl rfl rfl (V.assign rfl ⟨_, rfl, rfl⟩) ?_ | refine SL.det rfl rfl rfl (V.len' Tryz.underlying52 rfl ⟨_, rfl, rfl⟩) ?_ | refine SL.det rfl rfl rfl (V.cap Tryz.underlying52 rfl ⟨_, rfl, rfl⟩) ?_ | refine SL.det rfl rfl rfl (V.eql rfl ⟨_, rfl, rfl⟩ ⟨_, rfl, rfl⟩) ?_ | refine SL.det rfl rfl rfl (V.gtr rfl ⟨_, rfl, rfl⟩ ⟨_, rfl, rfl⟩) ?_ | refine SL.det rfl rfl rfl (V.not rfl ⟨_, rfl, rfl⟩) ?_ | refine SL.det rfl rfl rfl (V.add rfl ⟨_, rfl, rfl⟩ ⟨_, rfl, rfl⟩ ⟨by omega, by omega⟩) ?_ | refine SL.det rfl rfl rfl (V.sub rfl ⟨_, rfl, rfl⟩ ⟨_, rfl, rfl⟩ ⟨by omega, by omega⟩) ?_ | fail) 
  refine WL.det rfl rfl rfl (V.slLoC (lo := i + 1) Tryz.underlying52 Tryz.sizeOf100 rfl ⟨_, rfl, rfl⟩ ⟨_, rfl, rfl⟩ rfl (by omega) (by omega)) ?_
  refine WL.call rfl rfl rfl rfl (.cons ⟨_, rfl, rfl⟩ (.cons ⟨_, rfl, rfl⟩ .nil)) (overlaps_raw Tryz.func281 (by kernel_rfl) (by kernel_rfl) (by kernel_rfl) (by kernel_rfl) Tryz.underlying52 Tryz.sizeOf100 hne q1 hv1 (by omega)) (fun v H' hR => ?_)
  obtain ⟨rfl, rfl⟩ := hR
  repeat' first
       | with_reducible refine WC.seq ?_
       | with_reducible refine WC.skip ?_
       | with_reducible refine WC.region ?_
       | with_reducible refine WL.nil ?_
       | with_reducible refine SL.nil ?_
       | with_reducible refine NX.go ?_
       | with_reducible refine WC.ret ?_
       | with_reducible refine NX.of_ret ?_
       | ((with_reducible refine wlMark ?_); first | refine WL.det rfl rfl rfl (V.move rfl ⟨_, rfl, rfl⟩) ?_ | refine WL.det rfl rfl rfl (V.assign rfl ⟨_, rfl, rfl⟩) ?_ | refine WL.det rfl rfl rfl (V.len' Tryz.underlying52 rfl ⟨_, rfl, rfl⟩) ?_ | refine WL.det rfl rfl rfl (V.cap Tryz.underlying52 rfl ⟨_, rfl, rfl⟩) ?_ | refine WL.det rfl rfl rfl (V.eql rfl ⟨_, rfl, rfl⟩ ⟨_, rfl, rfl⟩) ?_ | refine WL.det rfl rfl rfl (V.gtr rfl ⟨_, rfl, rfl⟩ ⟨_, rfl, rfl⟩) ?_ | refine WL.det rfl rfl rfl (V.not rfl ⟨_, rfl, rfl⟩) ?_ | refine WL.det rfl rfl rfl (V.add rfl ⟨_, rfl, rfl⟩ ⟨_, rfl, rfl⟩ ⟨by omega, by omega⟩) ?_ | refine WL.det rfl rfl rfl (V.sub rfl ⟨_, rfl, rfl⟩ ⟨_, rfl, rfl⟩ ⟨by omega, by omega⟩) ?_ | fail) 
       | ((with_reducible refine slMark ?_); first | refine SL.det rfl rfl rfl (V.move rfl ⟨_, rfl, rfl⟩) ?_ | refine SL.det rfl rfl rfl (V.assign rfl ⟨_, rfl, rfl⟩) ?_ | refine SL.det rfl rfl rfl (V.len' Tryz.underlying52 rfl ⟨_, rfl, rfl⟩) ?_ | refine SL.det rfl rfl rfl (V.cap Tryz.underlying52 rfl ⟨_, rfl, rfl⟩) ?_ | refine SL.det rfl rfl rfl (V.eql rfl ⟨_, rfl, rfl⟩ ⟨_, rfl, rfl⟩) ?_ | refine SL.det rfl rfl rfl (V.gtr rfl ⟨_, rfl, rfl⟩ ⟨_, rfl, rfl⟩) ?_ | refine SL.det rfl rfl rfl (V.not rfl ⟨_, rfl, rfl⟩) ?_ | refine SL.det rfl rfl rfl (V.add rfl ⟨_, rfl, rfl⟩ ⟨_, rfl, rfl⟩ ⟨by omega, by omega⟩) ?_ | refine SL.det rfl rfl rfl (V.sub rfl ⟨_, rfl, rfl⟩ ⟨_, rfl, rfl⟩ ⟨by omega, by omega⟩) ?_ | fail) 
  refine WC.cond ⟨_, rfl, rfl⟩ (fun _ => ?_) (fun h => by cases h)
  repeat' first
       | with_reducible refine WC.seq ?_
       | with_reducible refine WC.skip ?_
       | with_reducible refine WC.region ?_
       | with_reducible refine WL.nil ?_
       | with_reducible refine SL.nil ?_
       | with_reducible refine NX.go ?_
       | with_reducible refine WC.ret ?_
       | with_reducible refine NX.of_ret ?_
       | ((with_reducible refine wlMark ?_); first | refine WL.det rfl rfl rfl (V.move rfl ⟨_, rfl, rfl⟩) ?_ | refine WL.det rfl rfl rfl (V.assign rfl ⟨_, rfl, rfl⟩) ?_ | refine WL.det rfl rfl rfl (V.len' Tryz.underlying52 rfl ⟨_, rfl, rfl⟩) ?_ | refine WL.det rfl rfl rfl (V.cap Tryz.underlying52 rfl ⟨_, rfl, rfl⟩) ?_ | refine WL.det rfl rfl rfl (V.eql rfl ⟨_, rfl, rfl⟩ ⟨_, rfl, rfl⟩) ?_ | refine WL.det rfl rfl rfl (V.gtr rfl ⟨_, rfl, rfl⟩ ⟨_, rfl, rfl⟩) ?_ | refine WL.det rfl rfl rfl (V.not rfl ⟨_, rfl, rfl⟩) ?_ | refine WL.det rfl rfl rfl (V.add rfl ⟨_, rfl, rfl⟩ ⟨_, rfl, rfl⟩ ⟨by omega, by omega⟩) ?_ | refine WL.det rfl rfl rfl (V.sub rfl ⟨_, rfl, rfl⟩ ⟨_, rfl, rfl⟩ ⟨by omega, by omega⟩) ?_ | fail) 
       | ((with_reducible refine slMark ?_); first | refine SL.det rfl rfl rfl (V.move rfl ⟨_, rfl, rfl⟩) ?_ | refine SL.det rfl rfl rfl (V.assign rfl ⟨_, rfl, rfl⟩) ?_ | refine SL.det rfl rfl rfl (V.len' Tryz.underlying52 rfl ⟨_, rfl, rfl⟩) ?_ | refine SL.det rfl rfl rfl (V.cap Tryz.underlying52 rfl ⟨_, rfl, rfl⟩) ?_ | refine SL.det rfl rfl rfl (V.eql rfl ⟨_, rfl, rfl⟩ ⟨_, rfl, rfl⟩) ?_ | refine SL.det rfl rfl rfl (V.gtr rfl ⟨_, rfl, rfl⟩ ⟨_, rfl, rfl⟩) ?_ | refine SL.det rfl rfl rfl (V.not rfl ⟨_, rfl, rfl⟩) ?_ | refine SL.det rfl rfl rfl (V.add rfl ⟨_, rfl, rfl⟩ ⟨_, rfl, rfl⟩ ⟨by omega, by omega⟩) ?_ | refine SL.det rfl rfl rfl (V.sub rfl ⟨_, rfl, rfl⟩ ⟨_, rfl, rfl⟩ ⟨by omega, by omega⟩) ?_ | fail) 
  refine WC.tail 8 (by kernel_rfl) (by kernel_rfl) ?_
  repeat' first
       | with_reducible refine WC.seq ?_
       | with_reducible refine WC.skip ?_
       | with_reducible refine WC.region ?_
       | with_reducible refine WL.nil ?_
       | with_reducible refine SL.nil ?_
       | with_reducible refine NX.go ?_
       | with_reducible refine WC.ret ?_
       | with_reducible refine NX.of_ret ?_
       | ((with_reducible refine wlMark ?_); first | refine WL.det rfl rfl rfl (V.move rfl ⟨_, rfl, rfl⟩) ?_ | refine WL.det rfl rfl rfl (V.assign rfl ⟨_, rfl, rfl⟩) ?_ | refine WL.det rfl rfl rfl (V.len' Tryz.underlying52 rfl ⟨_, rfl, rfl⟩) ?_ | refine WL.det rfl rfl rfl (V.cap Tryz.underlying52 rfl ⟨_, rfl, rfl⟩) ?_ | refine WL.det rfl rfl rfl (V.eql rfl ⟨_, rfl, rfl⟩ ⟨_, rfl, rfl⟩) ?_ | refine WL.det rfl rfl rfl (V.gtr rfl ⟨_, rfl, rfl⟩ ⟨_, rfl, rfl⟩) ?_ | refine WL.det rfl rfl rfl (V.not rfl ⟨_, rfl, rfl⟩) ?_ | refine WL.det rfl rfl rfl (V.add rfl ⟨_, rfl, rfl⟩ ⟨_, rfl, rfl⟩ ⟨by omega, by omega⟩) ?_ | refine WL.det rfl rfl rfl (V.sub rfl ⟨_, rfl, rfl⟩ ⟨_, rfl, rfl⟩ ⟨by omega, by omega⟩) ?_ | fail) 
       | ((with_reducible refine slMark ?_); first | refine SL.det rfl rfl rfl (V.move rfl ⟨_, rfl, rfl⟩) ?_ | refine SL.det rfl rfl rfl (V.assign rfl ⟨_, rfl, rfl⟩) ?_ | refine SL.det rfl rfl rfl (V.len' Tryz.underlying52 rfl ⟨_, rfl, rfl⟩) ?_ | refine SL.det rfl rfl rfl (V.cap Tryz.underlying52 rfl ⟨_, rfl, rfl⟩) ?_ | refine SL.det rfl rfl rfl (V.eql rfl ⟨_, rfl, rfl⟩ ⟨_, rfl, rfl⟩) ?_ | refine SL.det rfl rfl rfl (V.gtr rfl ⟨_, rfl, rfl⟩ ⟨_, rfl, rfl⟩) ?_ | refine SL.det rfl rfl rfl (V.not rfl ⟨_, rfl, rfl⟩) ?_ | refine SL.det rfl rfl rfl (V.add rfl ⟨_, rfl, rfl⟩ ⟨_, rfl, rfl⟩ ⟨by omega, by omega⟩) ?_ | refine SL.det rfl rfl rfl (V.sub rfl ⟨_, rfl, rfl⟩ ⟨_, rfl, rfl⟩ ⟨by omega, by omega⟩) ?_ | fail) 
  refine SL.det rfl rfl rfl (V.slLoC (lo := i + 1) Tryz.underlying52 Tryz.sizeOf100 rfl ⟨_, rfl, rfl⟩ ⟨_, rfl, rfl⟩ rfl (by omega) (by omega)) ?_
  repeat' first
       | with_reducible refine WC.seq ?_
       | with_reducible refine WC.skip ?_
       | with_reducible refine WC.region ?_
       | with_reducible refine WL.nil ?_
       | with_reducible refine SL.nil ?_
       | with_reducible refine NX.go ?_
       | with_reducible refine WC.ret ?_
       | with_reducible refine NX.of_ret ?_
       | ((with_reducible refine wlMark ?_); first | refine WL.det rfl rfl rfl (V.move rfl ⟨_, rfl, rfl⟩) ?_ | refine WL.det rfl rfl rfl (V.assign rfl ⟨_, rfl, rfl⟩) ?_ | refine WL.det rfl rfl rfl (V.len' Tryz.underlying52 rfl ⟨_, rfl, rfl⟩) ?_ | refine WL.det rfl rfl rfl (V.cap Tryz.underlying52 rfl ⟨_, rfl, rfl⟩) ?_ | refine WL.det rfl rfl rfl (V.eql rfl ⟨_, rfl, rfl⟩ ⟨_, rfl, rfl⟩) ?_ | refine WL.det rfl rfl rfl (V.gtr rfl ⟨_, rfl, rfl⟩ ⟨_, rfl, rfl⟩) ?_ | refine WL.det rfl rfl rfl (V.not rfl ⟨_, rfl, rfl⟩) ?_ | refine WL.det rfl rfl rfl (V.add rfl ⟨_, rfl, rfl⟩ ⟨_, rfl, rfl⟩ ⟨by omega, by omega⟩) ?_ | refine WL.det rfl rfl rfl (V.sub rfl ⟨_, rfl, rfl⟩ ⟨_, rfl, rfl⟩ ⟨by omega, by omega⟩) ?_ | fail) 
       | ((with_reducible refine slMark ?_); first | refine SL.det rfl rfl rfl (V.move rfl ⟨_, rfl, rfl⟩) ?_ | refine SL.det rfl rfl rfl (V.assign rfl ⟨_, rfl, rfl⟩) ?_ | refine SL.det rfl rfl rfl (V.len' Tryz.underlying52 rfl ⟨_, rfl, rfl⟩) ?_ | refine SL.det rfl rfl rfl (V.cap Tryz.underlying52 rfl ⟨_, rfl, rfl⟩) ?_ | refine SL.det rfl rfl rfl (V.eql rfl ⟨_, rfl, rfl⟩ ⟨_, rfl, rfl⟩) ?_ | refine SL.det rfl rfl rfl (V.gtr rfl ⟨_, rfl, rfl⟩ ⟨_, rfl, rfl⟩) ?_ | refine SL.det rfl rfl rfl (V.not rfl ⟨_, rfl, rfl⟩) ?_ | refine SL.det rfl rfl rfl (V.add rfl ⟨_, rfl, rfl⟩ ⟨_, rfl, rfl⟩ ⟨by omega, by omega⟩) ?_ | refine SL.det rfl rfl rfl (V.sub rfl ⟨_, rfl, rfl⟩ ⟨_, rfl, rfl⟩ ⟨by omega, by omega⟩) ?_ | fail) 
  refine SL.det rfl rfl rfl (V.slLoC (lo := i) Tryz.underlying52 Tryz.sizeOf100 rfl ⟨_, rfl, rfl⟩ ⟨_, rfl, rfl⟩ rfl (by omega) (by omega)) ?_
  repeat' first
       | with_reducible refine WC.seq ?_
       | with_reducible refine WC.skip ?_
       | with_reducible refine WC.region ?_
       | with_reducible refine WL.nil ?_
       | with_reducible refine SL.nil ?_
       | with_reducible refine NX.go ?_
       | with_reducible refine WC.ret ?_
       | with_reducible refine NX.of_ret ?_
       | ((with_reducible refine wlMark ?_); first | refine WL.det rfl rfl rfl (V.move rfl ⟨_, rfl, rfl⟩) ?_ | refine WL.det rfl rfl rfl (V.assign rfl ⟨_, rfl, rfl⟩) ?_ | refine WL.det rfl rfl rfl (V.len' Tryz.underlying52 rfl ⟨_, rfl, rfl⟩) ?_ | refine WL.det rfl rfl rfl (V.cap Tryz.underlying52 rfl ⟨_, rfl, rfl⟩) ?_ | refine WL.det rfl rfl rfl (V.eql rfl ⟨_, rfl, rfl⟩ ⟨_, rfl, rfl⟩) ?_ | refine WL.det rfl rfl rfl (V.gtr rfl ⟨_, rfl, rfl⟩ ⟨_, rfl, rfl⟩) ?_ | refine WL.det rfl rfl rfl (V.not rfl ⟨_, rfl, rfl⟩) ?_ | refine WL.det rfl rfl rfl (V.add rfl ⟨_, rfl, rfl⟩ ⟨_, rfl, rfl⟩ ⟨by omega, by omega⟩) ?_ | refine WL.det rfl rfl rfl (V.sub rfl ⟨_, rfl, rfl⟩ ⟨_, rfl, rfl⟩ ⟨by omega, by omega⟩) ?_ | fail) 
       | ((with_reducible refine slMark ?_); first | refine SL.det rfl rfl rfl (V.move rfl ⟨_, rfl, rfl⟩) ?_ | refine SL.det rfl rfl rfl (V.assign rfl ⟨_, rfl, rfl⟩) ?_ | refine SL.det rfl rfl rfl (V.len' Tryz.underlying52 rfl ⟨_, rfl, rfl⟩) ?_ | refine SL.det rfl rfl rfl (V.cap Tryz.underlying52 rfl ⟨_, rfl, rfl⟩) ?_ | refine SL.det rfl rfl rfl (V.eql rfl ⟨_, rfl, rfl⟩ ⟨_, rfl, rfl⟩) ?_ | refine SL.det rfl rfl rfl (V.gtr rfl ⟨_, rfl, rfl⟩ ⟨_, rfl, rfl⟩) ?_ | refine SL.det rfl rfl rfl (V.not rfl ⟨_, rfl, rfl⟩) ?_ | refine SL.det rfl rfl rfl (V.add rfl ⟨_, rfl, rfl⟩ ⟨_, rfl, rfl⟩ ⟨by omega, by omega⟩) ?_ | refine SL.det rfl rfl rfl (V.sub rfl ⟨_, rfl, rfl⟩ ⟨_, rfl, rfl⟩ ⟨by omega, by omega⟩) ?_ | fail) 
  refine WL.copyN (sz := 2) (k := n - i) (news := cs.drop (i * 2)) (cur := cur) (et := e) Tryz.underlying52 Tryz.sizeOf100 rfl rfl rfl rfl ⟨_, rfl, rfl⟩ ⟨_, rfl, rfl⟩ (by simp only [Nat.min_def]; split <;> omega) hb hcb q1 (by omega) hob (fun H1 hH1 hK1 => ?_)
  repeat' first
       | with_reducible refine WC.seq ?_
       | with_reducible refine WC.skip ?_
       | with_reducible refine WC.region ?_
       | with_reducible refine WL.nil ?_
       | with_reducible refine SL.nil ?_
       | with_reducible refine NX.go ?_
       | with_reducible refine WC.ret ?_
       | with_reducible refine NX.of_ret ?_
       | ((with_reducible refine wlMark ?_); first | refine WL.det rfl rfl rfl (V.move rfl ⟨_, rfl, rfl⟩) ?_ | refine WL.det rfl rfl rfl (V.assign rfl ⟨_, rfl, rfl⟩) ?_ | refine WL.det rfl rfl rfl (V.len' Tryz.underlying52 rfl ⟨_, rfl, rfl⟩) ?_ | refine WL.det rfl rfl rfl (V.cap Tryz.underlying52 rfl ⟨_, rfl, rfl⟩) ?_ | refine WL.det rfl rfl rfl (V.eql rfl ⟨_, rfl, rfl⟩ ⟨_, rfl, rfl⟩) ?_ | refine WL.det rfl rfl rfl (V.gtr rfl ⟨_, rfl, rfl⟩ ⟨_, rfl, rfl⟩) ?_ | refine WL.det rfl rfl rfl (V.not rfl ⟨_, rfl, rfl⟩) ?_ | refine WL.det rfl rfl rfl (V.add rfl ⟨_, rfl, rfl⟩ ⟨_, rfl, rfl⟩ ⟨by omega, by omega⟩) ?_ | refine WL.det rfl rfl rfl (V.sub rfl ⟨_, rfl, rfl⟩ ⟨_, rfl, rfl⟩ ⟨by omega, by omega⟩) ?_ | fail) 
       | ((with_reducible refine slMark ?_); first | refine SL.det rfl rfl rfl (V.move rfl ⟨_, rfl, rfl⟩) ?_ | refine SL.det rfl rfl rfl (V.assign rfl ⟨_, rfl, rfl⟩) ?_ | refine SL.det rfl rfl rfl (V.len' Tryz.underlying52 rfl ⟨_, rfl, rfl⟩) ?_ | refine SL.det rfl rfl rfl (V.cap Tryz.underlying52 rfl ⟨_, rfl, rfl⟩) ?_ | refine SL.det rfl rfl rfl (V.eql rfl ⟨_, rfl, rfl⟩ ⟨_, rfl, rfl⟩) ?_ | refine SL.det rfl rfl rfl (V.gtr rfl ⟨_, rfl, rfl⟩ ⟨_, rfl, rfl⟩) ?_ | refine SL.det rfl rfl rfl (V.not rfl ⟨_, rfl, rfl⟩) ?_ | refine SL.det rfl rfl rfl (V.add rfl ⟨_, rfl, rfl⟩ ⟨_, rfl, rfl⟩ ⟨by omega, by omega⟩) ?_ | refine SL.det rfl rfl rfl (V.sub rfl ⟨_, rfl, rfl⟩ ⟨_, rfl, rfl⟩ ⟨by omega, by omega⟩) ?_ | fail) 
  refine WL.det rfl rfl rfl (V.slLoC (lo := i) Tryz.underlying52 Tryz.sizeOf100 rfl ⟨_, rfl, rfl⟩ ⟨_, rfl, rfl⟩ rfl (by omega) (by omega)) ?_
  repeat' first
       | with_reducible refine WC.seq ?_
       | with_reducible refine WC.skip ?_
       | with_reducible refine WC.region ?_
       | with_reducible refine WL.nil ?_
       | with_reducible refine SL.nil ?_
       | with_reducible refine NX.go ?_
       | with_reducible refine WC.ret ?_
       | with_reducible refine NX.of_ret ?_
       | ((with_reducible refine wlMark ?_); first | refine WL.det rfl rfl rfl (V.move rfl ⟨_, rfl, rfl⟩) ?_ | refine WL.det rfl rfl rfl (V.assign rfl ⟨_, rfl, rfl⟩) ?_ | refine WL.det rfl rfl rfl (V.len' Tryz.underlying52 rfl ⟨_, rfl, rfl⟩) ?_ | refine WL.det rfl rfl rfl (V.cap Tryz.underlying52 rfl ⟨_, rfl, rfl⟩) ?_ | refine WL.det rfl rfl rfl (V.eql rfl ⟨_, rfl, rfl⟩ ⟨_, rfl, rfl⟩) ?_ | refine WL.det rfl rfl rfl (V.gtr rfl ⟨_, rfl, rfl⟩ ⟨_, rfl, rfl⟩) ?_ | refine WL.det rfl rfl rfl (V.not rfl ⟨_, rfl, rfl⟩) ?_ | refine WL.det rfl rfl rfl (V.add rfl ⟨_, rfl, rfl⟩ ⟨_, rfl, rfl⟩ ⟨by omega, by omega⟩) ?_ | refine WL.det rfl rfl rfl (V.sub rfl ⟨_, rfl, rfl⟩ ⟨_, rfl, rfl⟩ ⟨by omega, by omega⟩) ?_ | fail) 
       | ((with_reducible refine slMark ?_); first | refine SL.det rfl rfl rfl (V.move rfl ⟨_, rfl, rfl⟩) ?_ | refine SL.det rfl rfl rfl (V.assign rfl ⟨_, rfl, rfl⟩) ?_ | refine SL.det rfl rfl rfl (V.len' Tryz.underlying52 rfl ⟨_, rfl, rfl⟩) ?_ | refine SL.det rfl rfl rfl (V.cap Tryz.underlying52 rfl ⟨_, rfl, rfl⟩) ?_ | refine SL.det rfl rfl rfl (V.eql rfl ⟨_, rfl, rfl⟩ ⟨_, rfl, rfl⟩) ?_ | refine SL.det rfl rfl rfl (V.gtr rfl ⟨_, rfl, rfl⟩ ⟨_, rfl, rfl⟩) ?_ | refine SL.det rfl rfl rfl (V.not rfl ⟨_, rfl, rfl⟩) ?_ | refine SL.det rfl rfl rfl (V.add rfl ⟨_, rfl, rfl⟩ ⟨_, rfl, rfl⟩ ⟨by omega, by omega⟩) ?_ | refine SL.det rfl rfl rfl (V.sub rfl ⟨_, rfl, rfl⟩ ⟨_, rfl, rfl⟩ ⟨by omega, by omega⟩) ?_ | fail) 
  refine WL.copyN (sz := 2) (k := 1) (news := us) (et := e) Tryz.underlying52 Tryz.sizeOf100 rfl rfl rfl rfl ⟨_, rfl, rfl⟩ ⟨_, rfl, rfl⟩ (by simp only [Nat.min_def]; split <;> omega) hul (fun j v hj => cell_keep (hcu j v hj) hK1 (by simpa using hne)) hH1 (by rw [putC_size (by omega)]; omega) ho1 (fun H2 hH2 hK2 => ?_)
  repeat' first
       | with_reducible refine WC.seq ?_
       | with_reducible refine WC.skip ?_
       | with_reducible refine WC.region ?_
       | with_reducible refine WL.nil ?_
       | with_reducible refine SL.nil ?_
       | with_reducible refine NX.go ?_
       | with_reducible refine WC.ret ?_
       | with_reducible refine NX.of_ret ?_
       | ((with_reducible refine wlMark ?_); first | refine WL.det rfl rfl rfl (V.move rfl ⟨_, rfl, rfl⟩) ?_ | refine WL.det rfl rfl rfl (V.assign rfl ⟨_, rfl, rfl⟩) ?_ | refine WL.det rfl rfl rfl (V.len' Tryz.underlying52 rfl ⟨_, rfl, rfl⟩) ?_ | refine WL.det rfl rfl rfl (V.cap Tryz.underlying52 rfl ⟨_, rfl, rfl⟩) ?_ | refine WL.det rfl rfl rfl (V.eql rfl ⟨_, rfl, rfl⟩ ⟨_, rfl, rfl⟩) ?_ | refine WL.det rfl rfl rfl (V.gtr rfl ⟨_, rfl, rfl⟩ ⟨_, rfl, rfl⟩) ?_ | refine WL.det rfl rfl rfl (V.not rfl ⟨_, rfl, rfl⟩) ?_ | refine WL.det rfl rfl rfl (V.add rfl ⟨_, rfl, rfl⟩ ⟨_, rfl, rfl⟩ ⟨by omega, by omega⟩) ?_ | refine WL.det rfl rfl rfl (V.sub rfl ⟨_, rfl, rfl⟩ ⟨_, rfl, rfl⟩ ⟨by omega, by omega⟩) ?_ | fail) 
       | ((with_reducible refine slMark ?_); first | refine SL.det rfl rfl rfl (V.move rfl ⟨_, rfl, rfl⟩) ?_ | refine SL.det rfl rfl rfl (V.assign rfl ⟨_, rfl, rfl⟩) ?_ | refine SL.det rfl rfl rfl (V.len' Tryz.underlying52 rfl ⟨_, rfl, rfl⟩) ?_ | refine SL.det rfl rfl rfl (V.cap Tryz.underlying52 rfl ⟨_, rfl, rfl⟩) ?_ | refine SL.det rfl rfl rfl (V.eql rfl ⟨_, rfl, rfl⟩ ⟨_, rfl, rfl⟩) ?_ | refine SL.det rfl rfl rfl (V.gtr rfl ⟨_, rfl, rfl⟩ ⟨_, rfl, rfl⟩) ?_ | refine SL.det rfl rfl rfl (V.not rfl ⟨_, rfl, rfl⟩) ?_ | refine SL.det rfl rfl rfl (V.add rfl ⟨_, rfl, rfl⟩ ⟨_, rfl, rfl⟩ ⟨by omega, by omega⟩) ?_ | refine SL.det rfl rfl rfl (V.sub rfl ⟨_, rfl, rfl⟩ ⟨_, rfl, rfl⟩ ⟨by omega, by omega⟩) ?_ | fail) 
  have hsz1 : (putC cur (off + (i + 1) * 2) (cs.drop (i * 2))).size = cur.size := putC_size (by omega)
  refine ret1 hQ rfl rfl ⟨_, rfl, rfl⟩ ⟨⟨by simp only [List.length_append, hat, hul, hb]; omega, .inr ⟨g, off, cap, _, e, rfl, hH2, by omega, q3, by rw [putC_size (by omega), hsz1]; omega, ?_⟩⟩, hK1.trans hK2, fun b hb => .inl hb⟩
  have := put_ins2 (cur := cur) (off := off) (a := cs.take (i * 2)) (us := us) (b := cs.drop (i * 2)) hseg (by rw [hat, hul, hb]; omega)
  rw [hat, hul, hb] at this
  rw [show (n + 1) * 2 = i * 2 + 1 * 2 + (n - i) * 2 by omega, show off + (i + 1) * 2 = off + (i * 2 + 1 * 2) by omega]
  exact this
set_option maxHeartbeats 400000 in
theorem delete_raw {H : Heap} {v0 : Value} {n i : Nat} {cs : List Value} (h0 : RowG H 2 v0 n cs) (hi : i < n) (hn : n ≤ 1000000) (ho0 : ∀ u ∈ cs, u.oneCell' = true) :
  CallsH Tryz.prog 216 #[v0, iv i, iv (i + 1 : Nat)] H (fun v H' => RowG H' 2 v (n - 1) (cs.take (i * 2) ++ cs.drop ((i + 1) * 2)) ∧ Keep (obs v0) H H' ∧ ∀ b ∈ obs v, b ∈ obs v0 ∨ H.size ≤ b) := by
 obtain ⟨g, off, cap, cur, e, rfl, q1, q2, q3, q4, q5⟩ := h0.2.resolve_left (by rintro ⟨_, _, hz⟩; omega)
 have hc : cap + 1 ≤ 9223372036854775807 := q3
 have hcl := h0.1
 obtain ⟨inf, z, zs, y1, y2, y3, y4, y5, y6⟩ := tabOk.info 100 _ rfl
 have hzero : ∀ w, (zeroValue 100).run Tryz.prog w = .ok z w := fun w => by simp [zeroValue, y1, y4]
 have hzr := y6 (fun _ => False) H m0
 have hzl : zs.length = 2 := hzr.length.symm
 have hb : (cs.drop ((i + 1) * 2)).length = (n - (i + 1)) * 2 := by rw [List.length_drop, hcl]; omega
 have hat : (cs.take (i * 2)).length = i * 2 := by rw [List.length_take, hcl]; omega
 have hcb := seg_cell q1 q5 ((i + 1) * 2) rfl
 have hob : ∀ u ∈ cs.drop ((i + 1) * 2), u.oneCell' = true := fun u hu => ho0 u (List.mem_of_mem_drop hu)
 have hseg : (cur.toList.drop off).take (cs.take (i * 2)).length = cs.take (i * 2) := by
  rw [hat, ← q5, List.take_take, Nat.min_eq_left (by omega)]
 obtain ⟨o2, e2, hc2⟩ : ∃ o2, (if cap + 1 = i + 1 then (some ⟨g, off, none⟩ : Option Addr) else (some ⟨g, off, none⟩ : Option Addr).map (·.add ((i + 1) * 2))) = some ⟨g, o2, none⟩ ∧ ∀ j v, (cs.drop ((i + 1) * 2))[j]? = some v → NB.cell H g (o2 + j) = some v := by
  by_cases h : cap + 1 = i + 1
  ·refine ⟨off, by rw [if_pos h], fun j v hj => ?_⟩
   have : (cs.drop ((i + 1) * 2)) = [] := List.eq_nil_of_length_eq_zero (by rw [hb]; omega)
   rw [this] at hj; cases hj
  ·exact ⟨off + (i + 1) * 2, by rw [if_neg h]; simp [Addr.add_lit], hcb⟩
 refine enter (args := [.slice (some ⟨g, off, none⟩) n (cap + 1), iv i, iv (i + 1 : Nat)]) Tryz.call216 Tryz.func216 rfl Tryz.ntmps216 (Nat.le_of_ble_eq_true rfl) (fun W0 Q hQ => ?_)
 repeat' first
      | with_reducible refine WC.seq ?_
      | with_reducible refine WC.skip ?_
      | with_reducible refine WC.region ?_
      | with_reducible refine WL.nil ?_
      | with_reducible refine SL.nil ?_
      | with_reducible refine NX.go ?_
      | with_reducible refine WC.ret ?_
      | with_reducible refine NX.of_ret ?_
      | ((with_reducible refine wlMark ?_); first | refine WL.det rfl rfl rfl (V.move rfl ⟨_, rfl, rfl⟩) ?_ | refine WL.det rfl rfl rfl (V.assign rfl ⟨_, rfl, rfl⟩) ?_ | refine WL.det rfl rfl rfl (V.len' Tryz.underlying52 rfl ⟨_, rfl, rfl⟩) ?_ | refine WL.det rfl rfl rfl (V.cap Tryz.underlying52 rfl ⟨_, rfl, rfl⟩) ?_ | refine WL.det rfl rfl rfl (V.eql rfl ⟨_, rfl, rfl⟩ ⟨_, rfl, rfl⟩) ?_ | refine WL.det rfl rfl rfl (V.gtr rfl ⟨_, rfl, rfl⟩ ⟨_, rfl, rfl⟩) ?_ | refine WL.det rfl rfl rfl (V.not rfl ⟨_, rfl, rfl⟩) ?_ | refine WL.det rfl rfl rfl (V.add rfl ⟨_, rfl, rfl⟩ ⟨_, rfl, rfl⟩ ⟨by omega, by omega⟩) ?_ | refine WL.det rfl rfl rfl (V.sub rfl ⟨_, rfl, rfl⟩ ⟨_, rfl, rfl⟩ ⟨by omega, by omega⟩) ?_ | fail) 
      | ((with_reducible refine slMark ?_); first | refine SL.det rfl rfl rfl (V.move rfl ⟨_, rfl, rfl⟩) ?_ | refine SL.det rfl rfl rfl (V.assign rfl ⟨_, rfl, rfl⟩) ?_ | refine SL.det rfl rfl rfl (V.len' Tryz.underlying52 rfl ⟨_, rfl, rfl⟩) ?_ | refine SL.det rfl rfl rfl (V.cap Tryz.underlying52 rfl ⟨_, rfl, rfl⟩) ?_ | refine SL.det rfl rfl rfl (V.eql rfl ⟨_, rfl, rfl⟩ ⟨_, rfl, rfl⟩) ?_ | refine SL.det rfl rfl rfl (V.gtr rfl ⟨_, rfl, rfl⟩ ⟨_, rfl, rfl⟩) ?_ | refine SL.det rfl rfl rfl (V.not rfl ⟨_, rfl, rfl⟩) ?_ | refine SL.det rfl rfl rfl (V.add rfl ⟨_, rfl, rfl⟩ ⟨_, rfl, rfl⟩ ⟨by omega, by omega⟩) ?_ | refine SL.det rfl rfl rfl (V.sub rfl ⟨_, rfl, rfl⟩ ⟨_, rfl, rfl⟩ ⟨by omega, by omega⟩) ?_ | fail) 
 refine WL.det rfl rfl rfl (V.slThree (lo := i) (hi := i + 1) (mx := n) Tryz.underlying52 Tryz.sizeOf100 rfl ⟨_, rfl, rfl⟩ ⟨_, rfl, rfl⟩ ⟨_, rfl, rfl⟩ ⟨_, rfl, rfl⟩ rfl rfl rfl (by omega) (by omega) (by omega)) ?_
 repeat' first
      | with_reducible refine WC.seq ?_
      | with_reducible refine WC.skip ?_
      | with_reducible refine WC.region ?_
      | with_reducible refine WL.nil ?_
      | with_reducible refine SL.nil ?_
      | with_reducible refine NX.go ?_
      | with_reducible refine WC.ret ?_
      | with_reducible refine NX.of_ret ?_
      | ((with_reducible refine wlMark ?_); first | refine WL.det rfl rfl rfl (V.move rfl ⟨_, rfl, rfl⟩) ?_ | refine WL.det rfl rfl rfl (V.assign rfl ⟨_, rfl, rfl⟩) ?_ | refine WL.det rfl rfl rfl (V.len' Tryz.underlying52 rfl ⟨_, rfl, rfl⟩) ?_ | refine WL.det rfl rfl rfl (V.cap Tryz.underlying52 rfl ⟨_, rfl, rfl⟩) ?_ | refine WL.det rfl rfl rfl (V.eql rfl ⟨_, rfl, rfl⟩ ⟨_, rfl, rfl⟩) ?_ | refine WL.det rfl rfl rfl (V.gtr rfl ⟨_, rfl, rfl⟩ ⟨_, rfl, rfl⟩) ?_ | refine WL.det rfl rfl rfl (V.not rfl ⟨_, rfl, rfl⟩) ?_ | refine WL.det rfl rfl rfl (V.add rfl ⟨_, rfl, rfl⟩ ⟨_, rfl, rfl⟩ ⟨by omega, by omega⟩) ?_ | refine WL.det rfl rfl rfl (V.sub rfl ⟨_, rfl, rfl⟩ ⟨_, rfl, rfl⟩ ⟨by omega, by omega⟩) ?_ | fail) 
      | ((with_reducible refine slMark ?_); first | refine SL.det rfl rfl rfl (V.move rfl ⟨_, rfl, rfl⟩) ?_ | refine SL.det rfl rfl rfl (V.assign rfl ⟨_, rfl, rfl⟩) ?_ | refine SL.det rfl rfl rfl (V.len' Tryz.underlying52 rfl ⟨_, rfl, rfl⟩) ?_ | refine SL.det rfl rfl rfl (V.cap Tryz.underlying52 rfl ⟨_, rfl, rfl⟩) ?_ | refine SL.det rfl rfl rfl (V.eql rfl ⟨_, rfl, rfl⟩ ⟨_, rfl, rfl⟩) ?_ | refine SL.det rfl rfl rfl (V.gtr rfl ⟨_, rfl, rfl⟩ ⟨_, rfl, rfl⟩) ?_ | refine SL.det rfl rfl rfl (V.not rfl ⟨_, rfl, rfl⟩) ?_ | refine SL.det rfl rfl rfl (V.add rfl ⟨_, rfl, rfl⟩ ⟨_, rfl, rfl⟩ ⟨by omega, by omega⟩) ?_ | refine SL.det rfl rfl rfl (V.sub rfl ⟨_, rfl, rfl⟩ ⟨_, rfl, rfl⟩ ⟨by omega, by omega⟩) ?_ | fail) 
 refine WC.cond ⟨_, rfl, rfl⟩ (fun h => absurd (of_decide_eq_true h) (by omega)) (fun _ => ?_)
 repeat' first
      | with_reducible refine WC.seq ?_
      | with_reducible refine WC.skip ?_
      | with_reducible refine WC.region ?_
      | with_reducible refine WL.nil ?_
      | with_reducible refine SL.nil ?_
      | with_reducible refine NX.go ?_
      | with_reducible refine WC.ret ?_
      | with_reducible refine NX.of_ret ?_
      | ((with_reducible refine wlMark ?_); first | refine WL.det rfl rfl rfl (V.move rfl ⟨_, rfl, rfl⟩) ?_ | refine WL.det rfl rfl rfl (V.assign rfl ⟨_, rfl, rfl⟩) ?_ | refine WL.det rfl rfl rfl (V.len' Tryz.underlying52 rfl ⟨_, rfl, rfl⟩) ?_ | refine WL.det rfl rfl rfl (V.cap Tryz.underlying52 rfl ⟨_, rfl, rfl⟩) ?_ | refine WL.det rfl rfl rfl (V.eql rfl ⟨_, rfl, rfl⟩ ⟨_, rfl, rfl⟩) ?_ | refine WL.det rfl rfl rfl (V.gtr rfl ⟨_, rfl, rfl⟩ ⟨_, rfl, rfl⟩) ?_ | refine WL.det rfl rfl rfl (V.not rfl ⟨_, rfl, rfl⟩) ?_ | refine WL.det rfl rfl rfl (V.add rfl ⟨_, rfl, rfl⟩ ⟨_, rfl, rfl⟩ ⟨by omega, by omega⟩) ?_ | refine WL.det rfl rfl rfl (V.sub rfl ⟨_, rfl, rfl⟩ ⟨_, rfl, rfl⟩ ⟨by omega, by omega⟩) ?_ | fail) 
      | ((with_reducible refine slMark ?_); first | refine SL.det rfl rfl rfl (V.move rfl ⟨_, rfl, rfl⟩) ?_ | refine SL.det rfl rfl rfl (V.assign rfl ⟨_, rfl, rfl⟩) ?_ | refine SL.det rfl rfl rfl (V.len' Tryz.underlying52 rfl ⟨_, rfl, rfl⟩) ?_ | refine SL.det rfl rfl rfl (V.cap Tryz.underlying52 rfl ⟨_, rfl, rfl⟩) ?_ | refine SL.det rfl rfl rfl (V.eql rfl ⟨_, rfl, rfl⟩ ⟨_, rfl, rfl⟩) ?_ | refine SL.det rfl rfl rfl (V.gtr rfl ⟨_, rfl, rfl⟩ ⟨_, rfl, rfl⟩) ?_ | refine SL.det rfl rfl rfl (V.not rfl ⟨_, rfl, rfl⟩) ?_ | refine SL.det rfl rfl rfl (V.add rfl ⟨_, rfl, rfl⟩ ⟨_, rfl, rfl⟩ ⟨by omega, by omega⟩) ?_ | refine SL.det rfl rfl rfl (V.sub rfl ⟨_, rfl, rfl⟩ ⟨_, rfl, rfl⟩ ⟨by omega, by omega⟩) ?_ | fail) 
 refine WC.tail 6 (by kernel_rfl) (by kernel_rfl) ?_
 repeat' first
      | with_reducible refine WC.seq ?_
      | with_reducible refine WC.skip ?_
      | with_reducible refine WC.region ?_
      | with_reducible refine WL.nil ?_
      | with_reducible refine SL.nil ?_
      | with_reducible refine NX.go ?_
      | with_reducible refine WC.ret ?_
      | with_reducible refine NX.of_ret ?_
      | ((with_reducible refine wlMark ?_); first | refine WL.det rfl rfl rfl (V.move rfl ⟨_, rfl, rfl⟩) ?_ | refine WL.det rfl rfl rfl (V.assign rfl ⟨_, rfl, rfl⟩) ?_ | refine WL.det rfl rfl rfl (V.len' Tryz.underlying52 rfl ⟨_, rfl, rfl⟩) ?_ | refine WL.det rfl rfl rfl (V.cap Tryz.underlying52 rfl ⟨_, rfl, rfl⟩) ?_ | refine WL.det rfl rfl rfl (V.eql rfl ⟨_, rfl, rfl⟩ ⟨_, rfl, rfl⟩) ?_ | refine WL.det rfl rfl rfl (V.gtr rfl ⟨_, rfl, rfl⟩ ⟨_, rfl, rfl⟩) ?_ | refine WL.det rfl rfl rfl (V.not rfl ⟨_, rfl, rfl⟩) ?_ | refine WL.det rfl rfl rfl (V.add rfl ⟨_, rfl, rfl⟩ ⟨_, rfl, rfl⟩ ⟨by omega, by omega⟩) ?_ | refine WL.det rfl rfl rfl (V.sub rfl ⟨_, rfl, rfl⟩ ⟨_, rfl, rfl⟩ ⟨by omega, by omega⟩) ?_ | fail) 
      | ((with_reducible refine slMark ?_); first | refine SL.det rfl rfl rfl (V.move rfl ⟨_, rfl, rfl⟩) ?_ | refine SL.det rfl rfl rfl (V.assign rfl ⟨_, rfl, rfl⟩) ?_ | refine SL.det rfl rfl rfl (V.len' Tryz.underlying52 rfl ⟨_, rfl, rfl⟩) ?_ | refine SL.det rfl rfl rfl (V.cap Tryz.underlying52 rfl ⟨_, rfl, rfl⟩) ?_ | refine SL.det rfl rfl rfl (V.eql rfl ⟨_, rfl, rfl⟩ ⟨_, rfl, rfl⟩) ?_ | refine SL.det rfl rfl rfl (V.gtr rfl ⟨_, rfl, rfl⟩ ⟨_, rfl, rfl⟩) ?_ | refine SL.det rfl rfl rfl (V.not rfl ⟨_, rfl, rfl⟩) ?_ | refine SL.det rfl rfl rfl (V.add rfl ⟨_, rfl, rfl⟩ ⟨_, rfl, rfl⟩ ⟨by omega, by omega⟩) ?_ | refine SL.det rfl rfl rfl (V.sub rfl ⟨_, rfl, rfl⟩ ⟨_, rfl, rfl⟩ ⟨by omega, by omega⟩) ?_ | fail) 
 refine SL.det rfl rfl rfl (V.slHi (hi := i) Tryz.underlying52 Tryz.sizeOf100 rfl ⟨_, rfl, rfl⟩ ⟨_, rfl, rfl⟩ rfl (by omega)) ?_
 repeat' first
      | with_reducible refine WC.seq ?_
      | with_reducible refine WC.skip ?_
      | with_reducible refine WC.region ?_
      | with_reducible refine WL.nil ?_
      | with_reducible refine SL.nil ?_
      | with_reducible refine NX.go ?_
      | with_reducible refine WC.ret ?_
      | with_reducible refine NX.of_ret ?_
      | ((with_reducible refine wlMark ?_); first | refine WL.det rfl rfl rfl (V.move rfl ⟨_, rfl, rfl⟩) ?_ | refine WL.det rfl rfl rfl (V.assign rfl ⟨_, rfl, rfl⟩) ?_ | refine WL.det rfl rfl rfl (V.len' Tryz.underlying52 rfl ⟨_, rfl, rfl⟩) ?_ | refine WL.det rfl rfl rfl (V.cap Tryz.underlying52 rfl ⟨_, rfl, rfl⟩) ?_ | refine WL.det rfl rfl rfl (V.eql rfl ⟨_, rfl, rfl⟩ ⟨_, rfl, rfl⟩) ?_ | refine WL.det rfl rfl rfl (V.gtr rfl ⟨_, rfl, rfl⟩ ⟨_, rfl, rfl⟩) ?_ | refine WL.det rfl rfl rfl (V.not rfl ⟨_, rfl, rfl⟩) ?_ | refine WL.det rfl rfl rfl (V.add rfl ⟨_, rfl, rfl⟩ ⟨_, rfl, rfl⟩ ⟨by omega, by omega⟩) ?_ | refine WL.det rfl rfl rfl (V.sub rfl ⟨_, rfl, rfl⟩ ⟨_, rfl, rfl⟩ ⟨by omega, by omega⟩) ?_ | fail) 
      | ((with_reducible refine slMark ?_); first | refine SL.det rfl rfl rfl (V.move rfl ⟨_, rfl, rfl⟩) ?_ | refine SL.det rfl rfl rfl (V.assign rfl ⟨_, rfl, rfl⟩) ?_ | refine SL.det rfl rfl rfl (V.len' Tryz.underlying52 rfl ⟨_, rfl, rfl⟩) ?_ | refine SL.det rfl rfl rfl (V.cap Tryz.underlying52 rfl ⟨_, rfl, rfl⟩) ?_ | refine SL.det rfl rfl rfl (V.eql rfl ⟨_, rfl, rfl⟩ ⟨_, rfl, rfl⟩) ?_ | refine SL.det rfl rfl rfl (V.gtr rfl ⟨_, rfl, rfl⟩ ⟨_, rfl, rfl⟩) ?_ | refine SL.det rfl rfl rfl (V.not rfl ⟨_, rfl, rfl⟩) ?_ | refine SL.det rfl rfl rfl (V.add rfl ⟨_, rfl, rfl⟩ ⟨_, rfl, rfl⟩ ⟨by omega, by omega⟩) ?_ | refine SL.det rfl rfl rfl (V.sub rfl ⟨_, rfl, rfl⟩ ⟨_, rfl, rfl⟩ ⟨by omega, by omega⟩) ?_ | fail) 
 have key := fun (c : Cx) (o : Oper) (env : Env) (S : Heap → Prop) (x y : Operand) => V.slLo (c := c) (o := o) (env := env) (S := S) (x := x) (y := y) (t := 52) (e := 100) (sz := 2) (p := some ⟨g, off, none⟩) (n := n) (cap := cap + 1) (lo := i + 1) (k := ((i + 1 : Nat) : Int))
 rw [e2] at key
 refine SL.det rfl rfl rfl (key _ _ _ _ _ _ Tryz.underlying52 Tryz.sizeOf100 rfl ⟨_, rfl, rfl⟩ ⟨_, rfl, rfl⟩ rfl (by omega)) ?_
 repeat' first
      | with_reducible refine WC.seq ?_
      | with_reducible refine WC.skip ?_
      | with_reducible refine WC.region ?_
      | with_reducible refine WL.nil ?_
      | with_reducible refine SL.nil ?_
      | with_reducible refine NX.go ?_
      | with_reducible refine WC.ret ?_
      | with_reducible refine NX.of_ret ?_
      | ((with_reducible refine wlMark ?_); first | refine WL.det rfl rfl rfl (V.move rfl ⟨_, rfl, rfl⟩) ?_ | refine WL.det rfl rfl rfl (V.assign rfl ⟨_, rfl, rfl⟩) ?_ | refine WL.det rfl rfl rfl (V.len' Tryz.underlying52 rfl ⟨_, rfl, rfl⟩) ?_ | refine WL.det rfl rfl rfl (V.cap Tryz.underlying52 rfl ⟨_, rfl, rfl⟩) ?_ | refine WL.det rfl rfl rfl (V.eql rfl ⟨_, rfl, rfl⟩ ⟨_, rfl, rfl⟩) ?_ | refine WL.det rfl rfl rfl (V.gtr rfl ⟨_, rfl, rfl⟩ ⟨_, rfl, rfl⟩) ?_ | refine WL.det rfl rfl rfl (V.not rfl ⟨_, rfl, rfl⟩) ?_ | refine WL.det rfl rfl rfl (V.add rfl ⟨_, rfl, rfl⟩ ⟨_, rfl, rfl⟩ ⟨by omega, by omega⟩) ?_ | refine WL.det rfl rfl rfl (V.sub rfl ⟨_, rfl, rfl⟩ ⟨_, rfl, rfl⟩ ⟨by omega, by omega⟩) ?_ | fail) 
      | ((with_reducible refine slMark ?_); first | refine SL.det rfl rfl rfl (V.move rfl ⟨_, rfl, rfl⟩) ?_ | refine SL.det rfl rfl rfl (V.assign rfl ⟨_, rfl, rfl⟩) ?_ | refine SL.det rfl rfl rfl (V.len' Tryz.underlying52 rfl ⟨_, rfl, rfl⟩) ?_ | refine SL.det rfl rfl rfl (V.cap Tryz.underlying52 rfl ⟨_, rfl, rfl⟩) ?_ | refine SL.det rfl rfl rfl (V.eql rfl ⟨_, rfl, rfl⟩ ⟨_, rfl, rfl⟩) ?_ | refine SL.det rfl rfl rfl (V.gtr rfl ⟨_, rfl, rfl⟩ ⟨_, rfl, rfl⟩) ?_ | refine SL.det rfl rfl rfl (V.not rfl ⟨_, rfl, rfl⟩) ?_ | refine SL.det rfl rfl rfl (V.add rfl ⟨_, rfl, rfl⟩ ⟨_, rfl, rfl⟩ ⟨by omega, by omega⟩) ?_ | refine SL.det rfl rfl rfl (V.sub rfl ⟨_, rfl, rfl⟩ ⟨_, rfl, rfl⟩ ⟨by omega, by omega⟩) ?_ | fail) 
 refine WL.appendR (sz := 2) (m := n - (i + 1)) (news := cs.drop ((i + 1) * 2)) (et := e) Tryz.underlying52 Tryz.sizeOf100 rfl rfl rfl rfl ⟨_, rfl, rfl⟩ ⟨_, rfl, rfl⟩ (by omega) hb hc2 q1 (by rw [hb]; omega) hob (fun H1 hH1 hK1 => ?_)
 rw [show i + (n - (i + 1)) = n - 1 by omega]
 repeat' first
      | with_reducible refine WC.seq ?_
      | with_reducible refine WC.skip ?_
      | with_reducible refine WC.region ?_
      | with_reducible refine WL.nil ?_
      | with_reducible refine SL.nil ?_
      | with_reducible refine NX.go ?_
      | with_reducible refine WC.ret ?_
      | with_reducible refine NX.of_ret ?_
      | ((with_reducible refine wlMark ?_); first | refine WL.det rfl rfl rfl (V.move rfl ⟨_, rfl, rfl⟩) ?_ | refine WL.det rfl rfl rfl (V.assign rfl ⟨_, rfl, rfl⟩) ?_ | refine WL.det rfl rfl rfl (V.len' Tryz.underlying52 rfl ⟨_, rfl, rfl⟩) ?_ | refine WL.det rfl rfl rfl (V.cap Tryz.underlying52 rfl ⟨_, rfl, rfl⟩) ?_ | refine WL.det rfl rfl rfl (V.eql rfl ⟨_, rfl, rfl⟩ ⟨_, rfl, rfl⟩) ?_ | refine WL.det rfl rfl rfl (V.gtr rfl ⟨_, rfl, rfl⟩ ⟨_, rfl, rfl⟩) ?_ | refine WL.det rfl rfl rfl (V.not rfl ⟨_, rfl, rfl⟩) ?_ | refine WL.det rfl rfl rfl (V.add rfl ⟨_, rfl, rfl⟩ ⟨_, rfl, rfl⟩ ⟨by omega, by omega⟩) ?_ | refine WL.det rfl rfl rfl (V.sub rfl ⟨_, rfl, rfl⟩ ⟨_, rfl, rfl⟩ ⟨by omega, by omega⟩) ?_ | fail) 
      | ((with_reducible refine slMark ?_); first | refine SL.det rfl rfl rfl (V.move rfl ⟨_, rfl, rfl⟩) ?_ | refine SL.det rfl rfl rfl (V.assign rfl ⟨_, rfl, rfl⟩) ?_ | refine SL.det rfl rfl rfl (V.len' Tryz.underlying52 rfl ⟨_, rfl, rfl⟩) ?_ | refine SL.det rfl rfl rfl (V.cap Tryz.underlying52 rfl ⟨_, rfl, rfl⟩) ?_ | refine SL.det rfl rfl rfl (V.eql rfl ⟨_, rfl, rfl⟩ ⟨_, rfl, rfl⟩) ?_ | refine SL.det rfl rfl rfl (V.gtr rfl ⟨_, rfl, rfl⟩ ⟨_, rfl, rfl⟩) ?_ | refine SL.det rfl rfl rfl (V.not rfl ⟨_, rfl, rfl⟩) ?_ | refine SL.det rfl rfl rfl (V.add rfl ⟨_, rfl, rfl⟩ ⟨_, rfl, rfl⟩ ⟨by omega, by omega⟩) ?_ | refine SL.det rfl rfl rfl (V.sub rfl ⟨_, rfl, rfl⟩ ⟨_, rfl, rfl⟩ ⟨by omega, by omega⟩) ?_ | fail) 
 refine WL.det rfl rfl rfl (V.slBothC (lo := n - 1) (hi := n) Tryz.underlying52 Tryz.sizeOf100 rfl ⟨_, rfl, rfl⟩ ⟨_, rfl, rfl⟩ ⟨_, rfl, rfl⟩ rfl rfl (by omega) (by omega) (by omega)) ?_
 have hsz1 : (putC cur (off + i * 2) (cs.drop ((i + 1) * 2))).size = cur.size := putC_size (by rw [hb]; omega)
 refine WL.clearN (sz := 2) (et := e) Tryz.underlying52 hzero y5 hzl (by decide) hzr.one rfl rfl rfl ⟨_, rfl, rfl⟩ (by omega) hH1 (by rw [hsz1]; omega) (fun H2 news hnl hH2 hK2 => ?_)
 repeat' first
      | with_reducible refine WC.seq ?_
      | with_reducible refine WC.skip ?_
      | with_reducible refine WC.region ?_
      | with_reducible refine WL.nil ?_
      | with_reducible refine SL.nil ?_
      | with_reducible refine NX.go ?_
      | with_reducible refine WC.ret ?_
      | with_reducible refine NX.of_ret ?_
      | ((with_reducible refine wlMark ?_); first | refine WL.det rfl rfl rfl (V.move rfl ⟨_, rfl, rfl⟩) ?_ | refine WL.det rfl rfl rfl (V.assign rfl ⟨_, rfl, rfl⟩) ?_ | refine WL.det rfl rfl rfl (V.len' Tryz.underlying52 rfl ⟨_, rfl, rfl⟩) ?_ | refine WL.det rfl rfl rfl (V.cap Tryz.underlying52 rfl ⟨_, rfl, rfl⟩) ?_ | refine WL.det rfl rfl rfl (V.eql rfl ⟨_, rfl, rfl⟩ ⟨_, rfl, rfl⟩) ?_ | refine WL.det rfl rfl rfl (V.gtr rfl ⟨_, rfl, rfl⟩ ⟨_, rfl, rfl⟩) ?_ | refine WL.det rfl rfl rfl (V.not rfl ⟨_, rfl, rfl⟩) ?_ | refine WL.det rfl rfl rfl (V.add rfl ⟨_, rfl, rfl⟩ ⟨_, rfl, rfl⟩ ⟨by omega, by omega⟩) ?_ | refine WL.det rfl rfl rfl (V.sub rfl ⟨_, rfl, rfl⟩ ⟨_, rfl, rfl⟩ ⟨by omega, by omega⟩) ?_ | fail) 
      | ((with_reducible refine slMark ?_); first | refine SL.det rfl rfl rfl (V.move rfl ⟨_, rfl, rfl⟩) ?_ | refine SL.det rfl rfl rfl (V.assign rfl ⟨_, rfl, rfl⟩) ?_ | refine SL.det rfl rfl rfl (V.len' Tryz.underlying52 rfl ⟨_, rfl, rfl⟩) ?_ | refine SL.det rfl rfl rfl (V.cap Tryz.underlying52 rfl ⟨_, rfl, rfl⟩) ?_ | refine SL.det rfl rfl rfl (V.eql rfl ⟨_, rfl, rfl⟩ ⟨_, rfl, rfl⟩) ?_ | refine SL.det rfl rfl rfl (V.gtr rfl ⟨_, rfl, rfl⟩ ⟨_, rfl, rfl⟩) ?_ | refine SL.det rfl rfl rfl (V.not rfl ⟨_, rfl, rfl⟩) ?_ | refine SL.det rfl rfl rfl (V.add rfl ⟨_, rfl, rfl⟩ ⟨_, rfl, rfl⟩ ⟨by omega, by omega⟩) ?_ | refine SL.det rfl rfl rfl (V.sub rfl ⟨_, rfl, rfl⟩ ⟨_, rfl, rfl⟩ ⟨by omega, by omega⟩) ?_ | fail) 
 have hnl : news.length = 2 := by rw [hnl]; omega
 refine ret1 hQ rfl rfl ⟨_, rfl, rfl⟩ ⟨⟨by rw [List.length_append, hat, hb]; omega, .inr ⟨g, off, cap, _, e, rfl, hH2, by omega, q3, by rw [putC_size (by rw [hsz1, hnl]; omega), hsz1]; omega, ?_⟩⟩, hK1.trans hK2, fun b hb => .inl hb⟩
 have := put_ins (cur := cur) (off := off) (a := cs.take (i * 2)) (us := cs.drop ((i + 1) * 2)) (b := news) hseg (by rw [hat, hb, hnl]; omega)
 rw [hat, hb, hnl] at this
 have h3 := congrArg (List.take ((n - 1) * 2)) this
 rw [List.take_take, Nat.min_eq_left (by omega), show off + (i * 2 + (n - (i + 1)) * 2) = off + (n - 1) * 2 by omega] at h3
 rw [h3]
 exact List.take_left' (by rw [List.length_append, hat, hb]; omega)
theorem insert_spec (l : List Rf) (x : Rf) (i : Nat) (hi : i ≤ l.length) (hn : l.length ≤ 1000000) : Does Tryz.prog 215 [.c (.rw 0), .c (.int .i64 i), .c (.rw 1)] [.row 2 Rf encRf l, .row 2 Rf encRf [x]] (Rt (.c (.rw 2)) [.dead, .row 2 Rf encRf [x], .row 2 Rf encRf (l.take i ++ x :: l.drop i)]) :=
 Does.of_insert insert_raw l x i hi hn
theorem delete_spec (l : List Rf) (i : Nat) (hi : i < l.length) (hn : l.length ≤ 1000000) : Does Tryz.prog 216 [.c (.rw 0), .c (.int .i64 i), .c (.int .i64 (i + 1 : Nat))] [.row 2 Rf encRf l] (Rt (.c (.rw 1)) [.dead, .row 2 Rf encRf (l.take i ++ l.drop (i + 1))]) :=
 Does.of_delete delete_raw l i hi hn
end Go.Nest
