/- part -/
import Derived.Test.YtpechfcbnoggfaaGreatDoorAmI
import Derived.Test.YtpechfcbnoggfaaGreatDoorAmG
import Derived.Test.YtpechfcbnoggfaaGreatDoorL0
set_option linter.unusedVariables false
set_option linter.unusedSimpArgs false
section

namespace Go.Nest
open Go Go.AM Go.NB Go.Proofs
open Go.Proofs.YtpechfcbnoggfaaGreatDoor (tab tabOk)
set_option maxRecDepth 4000
theorem seg_cell {H : Heap} {g off : Nat} {et : TypeId} {cur : Array Value} {cs : List Value} {N : Nat} (hg : H[g]? = some (.cells cur et (0, 0))) (h : (cur.toList.drop off).take N = cs) (k : Nat) {o : Nat} (ho : o = off + k) : ∀ j v, (cs.drop k)[j]? = some v → NB.cell H g (o + j) = some v := by
 intro j v hj
 subst ho
 unfold NB.cell
 rw [hg]
 rw [← h, List.getElem?_drop, List.getElem?_take] at hj
 split at hj
 ·rw [List.getElem?_drop] at hj
  rw [Nat.add_assoc]
  simpa using hj
 ·cases hj
theorem overlaps_raw {f t : Nat} {fn : Func} {e sz : Nat} (hf : Tryz.prog.funcs[f]? = some fn) (h1 : (fn.name == "runtime.NumGoroutine") = false) (h2 : fn.body.isNone = true) (h3 : Extern.findNext fn = none)
  (h4 : Extern.find fn = some (Extern.SlicesOverlaps.overlaps #[t, t] #[4])) (ht : Tryz.prog.underlying t = some (.slice e)) (hz : ∀ w, (sizeOf e).run Tryz.prog w = .ok sz w)
  {H : Heap} {g o lb cb vb vo m vc : Nat} {et et' : TypeId} {cur cur' : Array Value} (hne : vb ≠ g) (hg : H[g]? = some (.cells cur et (0, 0))) (hv : H[vb]? = some (.cells cur' et' (0, 0))) (hs : cur.size ≠ 0) :
  CallsH Tryz.prog f #[.slice (some ⟨vb, vo, none⟩) m vc, .slice (some ⟨g, o, none⟩) lb cb] H (fun v H' => v = .bool false ∧ H' = H) := by
 intro w hw
 subst hw
 rw [run_callFunc_extern hf h1 h2 h3 h4, Lib.run_overlaps_apart w t 4 e ht sz hz ⟨vb, vo, none⟩ ⟨g, o, none⟩ m vc lb cb hne et' et cur'.size cur.size (by simp [World.shape?, hv]) (by simp [World.shape?, hg]) hs (by simp [World.frozen?, hv]) (by simp [World.frozen?, hv])]
 exact ⟨rfl, rfl, rfl⟩
theorem wlMark {c : Cx} {ops : Array Oper} {l : List Oper} {env : Env} {H : Heap} {Q : Exit → Act → World → Prop} (h : WL c ops l env H Q) : WL c ops l env H Q := h
theorem slMark {c : Cx} {ops : Array Oper} {l T : List Oper} {env : Env} {H : Heap} {Q : Exit → Act → World → Prop} (h : SL c ops l env H T Q) : SL c ops l env H T Q := h
end Go.Nest
end
/- part -/
section

namespace Go.Nest
open Go Go.AM Go.NB Go.Proofs
open Go.Proofs.YtpechfcbnoggfaaGreatDoor (tab tabOk)
set_option maxRecDepth 4000
set_option maxHeartbeats 400000 in
theorem insertI_raw {H : Heap} {v0 v1 : Value} {n i : Nat} {cs us : List Value} (h0 : RowG H 5 v0 n cs) (h1 : RowG H 5 v1 1 us) (hd : ∀ b ∈ obs v0, b ∉ obs v1) (hi : i ≤ n) (hn : n ≤ 1000000) (ho0 : ∀ u ∈ cs, u.oneCell' = true) (ho1 : ∀ u ∈ us, u.oneCell' = true) :
  CallsH Tryz.prog 198 #[v0, iv i, v1] H (fun v H' => RowG H' 5 v (n + 1) (cs.take (i * 5) ++ us ++ cs.drop (i * 5)) ∧ Keep (obs v0) H H' ∧ ∀ b ∈ obs v, b ∈ obs v0 ∨ H.size ≤ b) := by
 obtain ⟨p, c, rfl, hnc, hc⟩ : ∃ p c, v0 = .slice p n c ∧ n ≤ c ∧ c ≤ maxLen := by
  rcases h0.2 with ⟨p, rfl, rfl⟩ | ⟨g, off, cap, cur, e, rfl, _, h2, h3, _⟩
  ·exact ⟨p, 0, rfl, by omega, by omega⟩
  ·exact ⟨_, _, rfl, h2, h3⟩
 have hc : c ≤ 9223372036854775807 := hc
 have hcl := h0.1
 have hul := h1.1
 obtain ⟨gv, ov, cv, curv, ev, rfl, hv1, hv2, hv3, hv4, hv5⟩ : ∃ gv ov cv curv ev, v1 = .slice (some ⟨gv, ov, none⟩) 1 (cv + 1) ∧ H[gv]? = some (.cells curv ev (0, 0)) ∧ 1 ≤ cv + 1 ∧ cv + 1 ≤ maxLen ∧ ov + (cv + 1) * 5 ≤ curv.size ∧ (curv.toList.drop ov).take (1 * 5) = us := by
  rcases h1.2 with ⟨p, _, h⟩ | h
  ·cases h
  ·exact h
 refine enter (args := [.slice p n c, iv i, .slice (some ⟨gv, ov, none⟩) 1 (cv + 1)]) Tryz.call198 Tryz.func198 rfl Tryz.ntmps198 (Nat.le_of_ble_eq_true rfl) (fun W0 Q hQ => ?_)
 repeat' first
      | with_reducible refine WC.seq ?_
      | with_reducible refine WC.skip ?_
      | with_reducible refine WC.region ?_
      | with_reducible refine WL.nil ?_
      | with_reducible refine SL.nil ?_
      | with_reducible refine NX.go ?_
      | with_reducible refine WC.ret ?_
      | with_reducible refine NX.of_ret ?_
      | ((with_reducible refine wlMark ?_); first | refine WL.det rfl rfl rfl (V.move rfl ⟨_, rfl, rfl⟩) ?_ | refine WL.det rfl rfl rfl (V.assign rfl ⟨_, rfl, rfl⟩) ?_ | refine WL.det rfl rfl rfl (V.len' Tryz.underlying187 rfl ⟨_, rfl, rfl⟩) ?_ | refine WL.det rfl rfl rfl (V.cap Tryz.underlying187 rfl ⟨_, rfl, rfl⟩) ?_ | refine WL.det rfl rfl rfl (V.eql rfl ⟨_, rfl, rfl⟩ ⟨_, rfl, rfl⟩) ?_ | refine WL.det rfl rfl rfl (V.gtr rfl ⟨_, rfl, rfl⟩ ⟨_, rfl, rfl⟩) ?_ | refine WL.det rfl rfl rfl (V.not rfl ⟨_, rfl, rfl⟩) ?_ | refine WL.det rfl rfl rfl (V.add rfl ⟨_, rfl, rfl⟩ ⟨_, rfl, rfl⟩ ⟨by omega, by omega⟩) ?_ | refine WL.det rfl rfl rfl (V.sub rfl ⟨_, rfl, rfl⟩ ⟨_, rfl, rfl⟩ ⟨by omega, by omega⟩) ?_ | fail) 
      | ((with_reducible refine slMark ?_); first | refine SL.det rfl rfl rfl (V.move rfl ⟨_, rfl, rfl⟩) ?_ | refine SL.det rfl rfl rfl (V.assign rfl ⟨_, rfl, rfl⟩) ?_ | refine SL.det rfl rfl rfl (V.len' Tryz.underlying187 rfl ⟨_, rfl, rfl⟩) ?_ | refine SL.det rfl rfl rfl (V.cap Tryz.underlying187 rfl ⟨_, rfl, rfl⟩) ?_ | refine SL.det rfl rfl rfl (V.eql rfl ⟨_, rfl, rfl⟩ ⟨_, rfl, rfl⟩) ?_ | refine SL.det rfl rfl rfl (V.gtr rfl ⟨_, rfl, rfl⟩ ⟨_, rfl, rfl⟩) ?_ | refine SL.det rfl rfl rfl (V.not rfl ⟨_, rfl, rfl⟩) ?_ | refine SL.det rfl rfl rfl (V.add rfl ⟨_, rfl, rfl⟩ ⟨_, rfl, rfl⟩ ⟨by omega, by omega⟩) ?_ | refine SL.det rfl rfl rfl (V.sub rfl ⟨_, rfl, rfl⟩ ⟨_, rfl, rfl⟩ ⟨by omega, by omega⟩) ?_ | fail) 
 refine WL.det rfl rfl rfl (V.slLo (lo := i) Tryz.underlying187 Tryz.sizeOf193 rfl ⟨_, rfl, rfl⟩ ⟨_, rfl, rfl⟩ rfl hi) ?_
 repeat' first
      | with_reducible refine WC.seq ?_
      | with_reducible refine WC.skip ?_
      | with_reducible refine WC.region ?_
      | with_reducible refine WL.nil ?_
      | with_reducible refine SL.nil ?_
      | with_reducible refine NX.go ?_
      | with_reducible refine WC.ret ?_
      | with_reducible refine NX.of_ret ?_
      | ((with_reducible refine wlMark ?_); first | refine WL.det rfl rfl rfl (V.move rfl ⟨_, rfl, rfl⟩) ?_ | refine WL.det rfl rfl rfl (V.assign rfl ⟨_, rfl, rfl⟩) ?_ | refine WL.det rfl rfl rfl (V.len' Tryz.underlying187 rfl ⟨_, rfl, rfl⟩) ?_ | refine WL.det rfl rfl rfl (V.cap Tryz.underlying187 rfl ⟨_, rfl, rfl⟩) ?_ | refine WL.det rfl rfl rfl (V.eql rfl ⟨_, rfl, rfl⟩ ⟨_, rfl, rfl⟩) ?_ | refine WL.det rfl rfl rfl (V.gtr rfl ⟨_, rfl, rfl⟩ ⟨_, rfl, rfl⟩) ?_ | refine WL.det rfl rfl rfl (V.not rfl ⟨_, rfl, rfl⟩) ?_ | refine WL.det rfl rfl rfl (V.add rfl ⟨_, rfl, rfl⟩ ⟨_, rfl, rfl⟩ ⟨by omega, by omega⟩) ?_ | refine WL.det rfl rfl rfl (V.sub rfl ⟨_, rfl, rfl⟩ ⟨_, rfl, rfl⟩ ⟨by omega, by omega⟩) ?_ | fail) 
      | ((with_reducible refine slMark ?_); first | refine SL.det rfl rfl rfl (V.move rfl ⟨_, rfl, rfl⟩) ?_ | refine SL.det rfl rfl rfl (V.assign rfl ⟨_, rfl, rfl⟩) ?_ | refine SL.det rfl rfl rfl (V.len' Tryz.underlying187 rfl ⟨_, rfl, rfl⟩) ?_ | refine SL.det rfl rfl rfl (V.cap Tryz.underlying187 rfl ⟨_, rfl, rfl⟩) ?_ | refine SL.det rfl rfl rfl (V.eql rfl ⟨_, rfl, rfl⟩ ⟨_, rfl, rfl⟩) ?_ | refine SL.det rfl rfl rfl (V.gtr rfl ⟨_, rfl, rfl⟩ ⟨_, rfl, rfl⟩) ?_ | refine SL.det rfl rfl rfl (V.not rfl ⟨_, rfl, rfl⟩) ?_ | refine SL.det rfl rfl rfl (V.add rfl ⟨_, rfl, rfl⟩ ⟨_, rfl, rfl⟩ ⟨by omega, by omega⟩) ?_ | refine SL.det rfl rfl rfl (V.sub rfl ⟨_, rfl, rfl⟩ ⟨_, rfl, rfl⟩ ⟨by omega, by omega⟩) ?_ | fail) 
 refine WC.cond ⟨_, rfl, rfl⟩ (fun h => absurd (of_decide_eq_true h) (by omega)) (fun _ => ?_)
 repeat' first
      | with_reducible refine WC.seq ?_
      | with_reducible refine WC.skip ?_
      | with_reducible refine WC.region ?_
      | with_reducible refine WL.nil ?_
      | with_reducible refine SL.nil ?_
      | with_reducible refine NX.go ?_
      | with_reducible refine WC.ret ?_
      | with_reducible refine NX.of_ret ?_
      | ((with_reducible refine wlMark ?_); first | refine WL.det rfl rfl rfl (V.move rfl ⟨_, rfl, rfl⟩) ?_ | refine WL.det rfl rfl rfl (V.assign rfl ⟨_, rfl, rfl⟩) ?_ | refine WL.det rfl rfl rfl (V.len' Tryz.underlying187 rfl ⟨_, rfl, rfl⟩) ?_ | refine WL.det rfl rfl rfl (V.cap Tryz.underlying187 rfl ⟨_, rfl, rfl⟩) ?_ | refine WL.det rfl rfl rfl (V.eql rfl ⟨_, rfl, rfl⟩ ⟨_, rfl, rfl⟩) ?_ | refine WL.det rfl rfl rfl (V.gtr rfl ⟨_, rfl, rfl⟩ ⟨_, rfl, rfl⟩) ?_ | refine WL.det rfl rfl rfl (V.not rfl ⟨_, rfl, rfl⟩) ?_ | refine WL.det rfl rfl rfl (V.add rfl ⟨_, rfl, rfl⟩ ⟨_, rfl, rfl⟩ ⟨by omega, by omega⟩) ?_ | refine WL.det rfl rfl rfl (V.sub rfl ⟨_, rfl, rfl⟩ ⟨_, rfl, rfl⟩ ⟨by omega, by omega⟩) ?_ | fail) 
      | ((with_reducible refine slMark ?_); first | refine SL.det rfl rfl rfl (V.move rfl ⟨_, rfl, rfl⟩) ?_ | refine SL.det rfl rfl rfl (V.assign rfl ⟨_, rfl, rfl⟩) ?_ | refine SL.det rfl rfl rfl (V.len' Tryz.underlying187 rfl ⟨_, rfl, rfl⟩) ?_ | refine SL.det rfl rfl rfl (V.cap Tryz.underlying187 rfl ⟨_, rfl, rfl⟩) ?_ | refine SL.det rfl rfl rfl (V.eql rfl ⟨_, rfl, rfl⟩ ⟨_, rfl, rfl⟩) ?_ | refine SL.det rfl rfl rfl (V.gtr rfl ⟨_, rfl, rfl⟩ ⟨_, rfl, rfl⟩) ?_ | refine SL.det rfl rfl rfl (V.not rfl ⟨_, rfl, rfl⟩) ?_ | refine SL.det rfl rfl rfl (V.add rfl ⟨_, rfl, rfl⟩ ⟨_, rfl, rfl⟩ ⟨by omega, by omega⟩) ?_ | refine SL.det rfl rfl rfl (V.sub rfl ⟨_, rfl, rfl⟩ ⟨_, rfl, rfl⟩ ⟨by omega, by omega⟩) ?_ | fail) 
 refine WC.cond ⟨_, rfl, rfl⟩ (fun h => ?_) (fun h => ?_)
 ·have h : (i : Int) = (n : Int) := of_decide_eq_true h
  repeat' first
       | with_reducible refine WC.seq ?_
       | with_reducible refine WC.skip ?_
       | with_reducible refine WC.region ?_
       | with_reducible refine WL.nil ?_
       | with_reducible refine SL.nil ?_
       | with_reducible refine NX.go ?_
       | with_reducible refine WC.ret ?_
       | with_reducible refine NX.of_ret ?_
       | ((with_reducible refine wlMark ?_); first | refine WL.det rfl rfl rfl (V.move rfl ⟨_, rfl, rfl⟩) ?_ | refine WL.det rfl rfl rfl (V.assign rfl ⟨_, rfl, rfl⟩) ?_ | refine WL.det rfl rfl rfl (V.len' Tryz.underlying187 rfl ⟨_, rfl, rfl⟩) ?_ | refine WL.det rfl rfl rfl (V.cap Tryz.underlying187 rfl ⟨_, rfl, rfl⟩) ?_ | refine WL.det rfl rfl rfl (V.eql rfl ⟨_, rfl, rfl⟩ ⟨_, rfl, rfl⟩) ?_ | refine WL.det rfl rfl rfl (V.gtr rfl ⟨_, rfl, rfl⟩ ⟨_, rfl, rfl⟩) ?_ | refine WL.det rfl rfl rfl (V.not rfl ⟨_, rfl, rfl⟩) ?_ | refine WL.det rfl rfl rfl (V.add rfl ⟨_, rfl, rfl⟩ ⟨_, rfl, rfl⟩ ⟨by omega, by omega⟩) ?_ | refine WL.det rfl rfl rfl (V.sub rfl ⟨_, rfl, rfl⟩ ⟨_, rfl, rfl⟩ ⟨by omega, by omega⟩) ?_ | fail) 
       | ((with_reducible refine slMark ?_); first | refine SL.det rfl rfl rfl (V.move rfl ⟨_, rfl, rfl⟩) ?_ | refine SL.det rfl rfl rfl (V.assign rfl ⟨_, rfl, rfl⟩) ?_ | refine SL.det rfl rfl rfl (V.len' Tryz.underlying187 rfl ⟨_, rfl, rfl⟩) ?_ | refine SL.det rfl rfl rfl (V.cap Tryz.underlying187 rfl ⟨_, rfl, rfl⟩) ?_ | refine SL.det rfl rfl rfl (V.eql rfl ⟨_, rfl, rfl⟩ ⟨_, rfl, rfl⟩) ?_ | refine SL.det rfl rfl rfl (V.gtr rfl ⟨_, rfl, rfl⟩ ⟨_, rfl, rfl⟩) ?_ | refine SL.det rfl rfl rfl (V.not rfl ⟨_, rfl, rfl⟩) ?_ | refine SL.det rfl rfl rfl (V.add rfl ⟨_, rfl, rfl⟩ ⟨_, rfl, rfl⟩ ⟨by omega, by omega⟩) ?_ | refine SL.det rfl rfl rfl (V.sub rfl ⟨_, rfl, rfl⟩ ⟨_, rfl, rfl⟩ ⟨by omega, by omega⟩) ?_ | fail) 
  refine WL.appendG (m := 1) (news := us) Tryz.underlying187 Tryz.typeInfo193 rfl rfl rfl rfl rfl rfl rfl ⟨_, rfl, rfl⟩ ⟨_, rfl, rfl⟩ h0 h1.src ho1 hul (by show (n + 1) * 64 ≤ _; omega) (by omega) (fun v' H' k1 k2 k3 => ?_)
  repeat' first
       | with_reducible refine WC.seq ?_
       | with_reducible refine WC.skip ?_
       | with_reducible refine WC.region ?_
       | with_reducible refine WL.nil ?_
       | with_reducible refine SL.nil ?_
       | with_reducible refine NX.go ?_
       | with_reducible refine WC.ret ?_
       | with_reducible refine NX.of_ret ?_
       | ((with_reducible refine wlMark ?_); first | refine WL.det rfl rfl rfl (V.move rfl ⟨_, rfl, rfl⟩) ?_ | refine WL.det rfl rfl rfl (V.assign rfl ⟨_, rfl, rfl⟩) ?_ | refine WL.det rfl rfl rfl (V.len' Tryz.underlying187 rfl ⟨_, rfl, rfl⟩) ?_ | refine WL.det rfl rfl rfl (V.cap Tryz.underlying187 rfl ⟨_, rfl, rfl⟩) ?_ | refine WL.det rfl rfl rfl (V.eql rfl ⟨_, rfl, rfl⟩ ⟨_, rfl, rfl⟩) ?_ | refine WL.det rfl rfl rfl (V.gtr rfl ⟨_, rfl, rfl⟩ ⟨_, rfl, rfl⟩) ?_ | refine WL.det rfl rfl rfl (V.not rfl ⟨_, rfl, rfl⟩) ?_ | refine WL.det rfl rfl rfl (V.add rfl ⟨_, rfl, rfl⟩ ⟨_, rfl, rfl⟩ ⟨by omega, by omega⟩) ?_ | refine WL.det rfl rfl rfl (V.sub rfl ⟨_, rfl, rfl⟩ ⟨_, rfl, rfl⟩ ⟨by omega, by omega⟩) ?_ | fail) 
       | ((with_reducible refine slMark ?_); first | refine SL.det rfl rfl rfl (V.move rfl ⟨_, rfl, rfl⟩) ?_ | refine SL.det rfl rfl rfl (V.assign rfl ⟨_, rfl, rfl⟩) ?_ | refine SL.det rfl rfl rfl (V.len' Tryz.underlying187 rfl ⟨_, rfl, rfl⟩) ?_ | refine SL.det rfl rfl rfl (V.cap Tryz.underlying187 rfl ⟨_, rfl, rfl⟩) ?_ | refine SL.det rfl rfl rfl (V.eql rfl ⟨_, rfl, rfl⟩ ⟨_, rfl, rfl⟩) ?_ | refine SL.det rfl rfl rfl (V.gtr rfl ⟨_, rfl, rfl⟩ ⟨_, rfl, rfl⟩) ?_ | refine SL.det rfl rfl rfl (V.not rfl ⟨_, rfl, rfl⟩) ?_ | refine SL.det rfl rfl rfl (V.add rfl ⟨_, rfl, rfl⟩ ⟨_, rfl, rfl⟩ ⟨by omega, by omega⟩) ?_ | refine SL.det rfl rfl rfl (V.sub rfl ⟨_, rfl, rfl⟩ ⟨_, rfl, rfl⟩ ⟨by omega, by omega⟩) ?_ | fail) 
  refine ret1 hQ rfl rfl ⟨_, rfl, rfl⟩ ⟨?_, k2, k3⟩
  have e : i * 5 = cs.length := by rw [h0.1]; omega
  rw [e, List.take_length, List.drop_length, List.append_nil]
  exact k1
 have h : ¬ (i : Int) = (n : Int) := of_decide_eq_false h
 obtain ⟨g, off, cap, cur, e, hv0, q1, q2, q3, q4, q5⟩ := h0.2.resolve_left (by rintro ⟨_, _, hz⟩; omega)
 obtain ⟨rfl, rfl⟩ : p = some ⟨g, off, none⟩ ∧ c = cap + 1 := by simpa using hv0
 have hne : gv ≠ g := fun h => hd g (by simp [obs]) (by simp [obs, h])
 have hb : (cs.drop (i * 5)).length = (n - i) * 5 := by rw [List.length_drop, hcl]; omega
 have hat : (cs.take (i * 5)).length = i * 5 := by rw [List.length_take, hcl]; omega
 have hcb := seg_cell q1 q5 (i * 5) rfl
 have hca := seg_cell q1 q5 0 rfl
 have hcu := seg_cell hv1 hv5 0 rfl
 rw [List.drop_zero, Nat.add_zero] at hcu hca
 have hta : ∀ j v, (cs.take (i * 5))[j]? = some v → NB.cell H g (off + j) = some v := fun j v hj => by
  rw [List.getElem?_take] at hj
  split at hj
  ·exact hca j v hj
  ·cases hj
 have hob : ∀ u ∈ cs.drop (i * 5), u.oneCell' = true := fun u hu => ho0 u (List.mem_of_mem_drop hu)
 have hseg : (cur.toList.drop off).take (cs.take (i * 5)).length = cs.take (i * 5) := by
  rw [hat, ← q5, List.take_take, Nat.min_eq_left (by omega)]
 repeat' first
      | with_reducible refine WC.seq ?_
      | with_reducible refine WC.skip ?_
      | with_reducible refine WC.region ?_
      | with_reducible refine WL.nil ?_
      | with_reducible refine SL.nil ?_
      | with_reducible refine NX.go ?_
      | with_reducible refine WC.ret ?_
      | with_reducible refine NX.of_ret ?_
      | ((with_reducible refine wlMark ?_); first | refine WL.det rfl rfl rfl (V.move rfl ⟨_, rfl, rfl⟩) ?_ | refine WL.det rfl rfl rfl (V.assign rfl ⟨_, rfl, rfl⟩) ?_ | refine WL.det rfl rfl rfl (V.len' Tryz.underlying187 rfl ⟨_, rfl, rfl⟩) ?_ | refine WL.det rfl rfl rfl (V.cap Tryz.underlying187 rfl ⟨_, rfl, rfl⟩) ?_ | refine WL.det rfl rfl rfl (V.eql rfl ⟨_, rfl, rfl⟩ ⟨_, rfl, rfl⟩) ?_ | refine WL.det rfl rfl rfl (V.gtr rfl ⟨_, rfl, rfl⟩ ⟨_, rfl, rfl⟩) ?_ | refine WL.det rfl rfl rfl (V.not rfl ⟨_, rfl, rfl⟩) ?_ | refine WL.det rfl rfl rfl (V.add rfl ⟨_, rfl, rfl⟩ ⟨_, rfl, rfl⟩ ⟨by omega, by omega⟩) ?_ | refine WL.det rfl rfl rfl (V.sub rfl ⟨_, rfl, rfl⟩ ⟨_, rfl, rfl⟩ ⟨by omega, by omega⟩) ?_ | fail) 
      | ((with_reducible refine slMark ?_); first | refine SL.det rfl rfl rfl (V.move rfl ⟨_, rfl, rfl⟩) ?_ | refine SL.det rfl rfl rfl (V.assign rfl ⟨_, rfl, rfl⟩) ?_ | refine SL.det rfl rfl rfl (V.len' Tryz.underlying187 rfl ⟨_, rfl, rfl⟩) ?_ | refine SL.det rfl rfl rfl (V.cap Tryz.underlying187 rfl ⟨_, rfl, rfl⟩) ?_ | refine SL.det rfl rfl rfl (V.eql rfl ⟨_, rfl, rfl⟩ ⟨_, rfl, rfl⟩) ?_ | refine SL.det rfl rfl rfl (V.gtr rfl ⟨_, rfl, rfl⟩ ⟨_, rfl, rfl⟩) ?_ | refine SL.det rfl rfl rfl (V.not rfl ⟨_, rfl, rfl⟩) ?_ | refine SL.det rfl rfl rfl (V.add rfl ⟨_, rfl, rfl⟩ ⟨_, rfl, rfl⟩ ⟨by omega, by omega⟩) ?_ | refine SL.det rfl rfl rfl (V.sub rfl ⟨_, rfl, rfl⟩ ⟨_, rfl, rfl⟩ ⟨by omega, by omega⟩) ?_ | fail) 
 refine WC.cond ⟨_, rfl, rfl⟩ (fun h2 => ?_) (fun h2 => ?_)
 ·have h2 : ((cap + 1 : Nat) : Int) < (n : Int) + (1 : Nat) := of_decide_eq_true h2
  repeat' first
       | with_reducible refine WC.seq ?_
       | with_reducible refine WC.skip ?_
       | with_reducible refine WC.region ?_
       | with_reducible refine WL.nil ?_
       | with_reducible refine SL.nil ?_
       | with_reducible refine NX.go ?_
       | with_reducible refine WC.ret ?_
       | with_reducible refine NX.of_ret ?_
       | ((with_reducible refine wlMark ?_); first | refine WL.det rfl rfl rfl (V.move rfl ⟨_, rfl, rfl⟩) ?_ | refine WL.det rfl rfl rfl (V.assign rfl ⟨_, rfl, rfl⟩) ?_ | refine WL.det rfl rfl rfl (V.len' Tryz.underlying187 rfl ⟨_, rfl, rfl⟩) ?_ | refine WL.det rfl rfl rfl (V.cap Tryz.underlying187 rfl ⟨_, rfl, rfl⟩) ?_ | refine WL.det rfl rfl rfl (V.eql rfl ⟨_, rfl, rfl⟩ ⟨_, rfl, rfl⟩) ?_ | refine WL.det rfl rfl rfl (V.gtr rfl ⟨_, rfl, rfl⟩ ⟨_, rfl, rfl⟩) ?_ | refine WL.det rfl rfl rfl (V.not rfl ⟨_, rfl, rfl⟩) ?_ | refine WL.det rfl rfl rfl (V.add rfl ⟨_, rfl, rfl⟩ ⟨_, rfl, rfl⟩ ⟨by omega, by omega⟩) ?_ | refine WL.det rfl rfl rfl (V.sub rfl ⟨_, rfl, rfl⟩ ⟨_, rfl, rfl⟩ ⟨by omega, by omega⟩) ?_ | fail) 
       | ((with_reducible refine slMark ?_); first | refine SL.det rfl rfl rfl (V.move rfl ⟨_, rfl, rfl⟩) ?_ | refine SL.det rfl rfl rfl (V.assign rfl ⟨_, rfl, rfl⟩) ?_ | refine SL.det rfl rfl rfl (V.len' Tryz.underlying187 rfl ⟨_, rfl, rfl⟩) ?_ | refine SL.det rfl rfl rfl (V.cap Tryz.underlying187 rfl ⟨_, rfl, rfl⟩) ?_ | refine SL.det rfl rfl rfl (V.eql rfl ⟨_, rfl, rfl⟩ ⟨_, rfl, rfl⟩) ?_ | refine SL.det rfl rfl rfl (V.gtr rfl ⟨_, rfl, rfl⟩ ⟨_, rfl, rfl⟩) ?_ | refine SL.det rfl rfl rfl (V.not rfl ⟨_, rfl, rfl⟩) ?_ | refine SL.det rfl rfl rfl (V.add rfl ⟨_, rfl, rfl⟩ ⟨_, rfl, rfl⟩ ⟨by omega, by omega⟩) ?_ | refine SL.det rfl rfl rfl (V.sub rfl ⟨_, rfl, rfl⟩ ⟨_, rfl, rfl⟩ ⟨by omega, by omega⟩) ?_ | fail) 
  refine WL.det rfl rfl rfl (V.slHi (hi := i) Tryz.underlying187 Tryz.sizeOf193 rfl ⟨_, rfl, rfl⟩ ⟨_, rfl, rfl⟩ rfl (by omega)) ?_
  repeat' first
       | with_reducible refine WC.seq ?_
       | with_reducible refine WC.skip ?_
       | with_reducible refine WC.region ?_
       | with_reducible refine WL.nil ?_
       | with_reducible refine SL.nil ?_
       | with_reducible refine NX.go ?_
       | with_reducible refine WC.ret ?_
       | with_reducible refine NX.of_ret ?_
       | ((with_reducible refine wlMark ?_); first | refine WL.det rfl rfl rfl (V.move rfl ⟨_, rfl, rfl⟩) ?_ | refine WL.det rfl rfl rfl (V.assign rfl ⟨_, rfl, rfl⟩) ?_ | refine WL.det rfl rfl rfl (V.len' Tryz.underlying187 rfl ⟨_, rfl, rfl⟩) ?_ | refine WL.det rfl rfl rfl (V.cap Tryz.underlying187 rfl ⟨_, rfl, rfl⟩) ?_ | refine WL.det rfl rfl rfl (V.eql rfl ⟨_, rfl, rfl⟩ ⟨_, rfl, rfl⟩) ?_ | refine WL.det rfl rfl rfl (V.gtr rfl ⟨_, rfl, rfl⟩ ⟨_, rfl, rfl⟩) ?_ | refine WL.det rfl rfl rfl (V.not rfl ⟨_, rfl, rfl⟩) ?_ | refine WL.det rfl rfl rfl (V.add rfl ⟨_, rfl, rfl⟩ ⟨_, rfl, rfl⟩ ⟨by omega, by omega⟩) ?_ | refine WL.det rfl rfl rfl (V.sub rfl ⟨_, rfl, rfl⟩ ⟨_, rfl, rfl⟩ ⟨by omega, by omega⟩) ?_ | fail) 
       | ((with_reducible refine slMark ?_); first | refine SL.det rfl rfl rfl (V.move rfl ⟨_, rfl, rfl⟩) ?_ | refine SL.det rfl rfl rfl (V.assign rfl ⟨_, rfl, rfl⟩) ?_ | refine SL.det rfl rfl rfl (V.len' Tryz.underlying187 rfl ⟨_, rfl, rfl⟩) ?_ | refine SL.det rfl rfl rfl (V.cap Tryz.underlying187 rfl ⟨_, rfl, rfl⟩) ?_ | refine SL.det rfl rfl rfl (V.eql rfl ⟨_, rfl, rfl⟩ ⟨_, rfl, rfl⟩) ?_ | refine SL.det rfl rfl rfl (V.gtr rfl ⟨_, rfl, rfl⟩ ⟨_, rfl, rfl⟩) ?_ | refine SL.det rfl rfl rfl (V.not rfl ⟨_, rfl, rfl⟩) ?_ | refine SL.det rfl rfl rfl (V.add rfl ⟨_, rfl, rfl⟩ ⟨_, rfl, rfl⟩ ⟨by omega, by omega⟩) ?_ | refine SL.det rfl rfl rfl (V.sub rfl ⟨_, rfl, rfl⟩ ⟨_, rfl, rfl⟩ ⟨by omega, by omega⟩) ?_ | fail) 
  refine WL.appendZ (m := n + 1 - i) (sz := 5) (cs := cs.take (i * 5)) Tryz.underlying187 Tryz.underlying3 Tryz.typeInfo193 rfl rfl rfl rfl (by decide) rfl rfl rfl rfl ⟨_, rfl, rfl⟩ ⟨_, rfl, rfl⟩ (by omega) (by omega) (by omega) hat hta (by show (i + (n + 1 - i)) * 64 ≤ _; omega) (by omega) (fun gc cur2 k1 k2 k3 k4 => ?_)
  rw [show i + (n + 1 - i) = n + 1 by omega]
  have hgl := (Array.getElem?_eq_some_iff.1 q1).1
  have hgvl := (Array.getElem?_eq_some_iff.1 hv1).1
  have hK0 : Keep [] H (H.push (.cells cur2 193 (0, 0))) := Keep.push [] H _
  repeat' first
       | with_reducible refine WC.seq ?_
       | with_reducible refine WC.skip ?_
       | with_reducible refine WC.region ?_
       | with_reducible refine WL.nil ?_
       | with_reducible refine SL.nil ?_
       | with_reducible refine NX.go ?_
       | with_reducible refine WC.ret ?_
       | with_reducible refine NX.of_ret ?_
       | ((with_reducible refine wlMark ?_); first | refine WL.det rfl rfl rfl (V.move rfl ⟨_, rfl, rfl⟩) ?_ | refine WL.det rfl rfl rfl (V.assign rfl ⟨_, rfl, rfl⟩) ?_ | refine WL.det rfl rfl rfl (V.len' Tryz.underlying187 rfl ⟨_, rfl, rfl⟩) ?_ | refine WL.det rfl rfl rfl (V.cap Tryz.underlying187 rfl ⟨_, rfl, rfl⟩) ?_ | refine WL.det rfl rfl rfl (V.eql rfl ⟨_, rfl, rfl⟩ ⟨_, rfl, rfl⟩) ?_ | refine WL.det rfl rfl rfl (V.gtr rfl ⟨_, rfl, rfl⟩ ⟨_, rfl, rfl⟩) ?_ | refine WL.det rfl rfl rfl (V.not rfl ⟨_, rfl, rfl⟩) ?_ | refine WL.det rfl rfl rfl (V.add rfl ⟨_, rfl, rfl⟩ ⟨_, rfl, rfl⟩ ⟨by omega, by omega⟩) ?_ | refine WL.det rfl rfl rfl (V.sub rfl ⟨_, rfl, rfl⟩ ⟨_, rfl, rfl⟩ ⟨by omega, by omega⟩) ?_ | fail) 
       | ((with_reducible refine slMark ?_); first | refine SL.det rfl rfl rfl (V.move rfl ⟨_, rfl, rfl⟩) ?_ | refine SL.det rfl rfl rfl (V.assign rfl ⟨_, rfl, rfl⟩) ?_ | refine SL.det rfl rfl rfl (V.len' Tryz.underlying187 rfl ⟨_, rfl, rfl⟩) ?_ | refine SL.det rfl rfl rfl (V.cap Tryz.underlying187 rfl ⟨_, rfl, rfl⟩) ?_ | refine SL.det rfl rfl rfl (V.eql rfl ⟨_, rfl, rfl⟩ ⟨_, rfl, rfl⟩) ?_ | refine SL.det rfl rfl rfl (V.gtr rfl ⟨_, rfl, rfl⟩ ⟨_, rfl, rfl⟩) ?_ | refine SL.det rfl rfl rfl (V.not rfl ⟨_, rfl, rfl⟩) ?_ | refine SL.det rfl rfl rfl (V.add rfl ⟨_, rfl, rfl⟩ ⟨_, rfl, rfl⟩ ⟨by omega, by omega⟩) ?_ | refine SL.det rfl rfl rfl (V.sub rfl ⟨_, rfl, rfl⟩ ⟨_, rfl, rfl⟩ ⟨by omega, by omega⟩) ?_ | fail) 
  refine WL.det rfl rfl rfl (V.slLoC (lo := i) Tryz.underlying187 Tryz.sizeOf193 rfl ⟨_, rfl, rfl⟩ ⟨_, rfl, rfl⟩ rfl (by omega) (by omega)) ?_
  repeat' first
       | with_reducible refine WC.seq ?_
       | with_reducible refine WC.skip ?_
       | with_reducible refine WC.region ?_
       | with_reducible refine WL.nil ?_
       | with_reducible refine SL.nil ?_
       | with_reducible refine NX.go ?_
       | with_reducible refine WC.ret ?_
       | with_reducible refine NX.of_ret ?_
       | ((with_reducible refine wlMark ?_); first | refine WL.det rfl rfl rfl (V.move rfl ⟨_, rfl, rfl⟩) ?_ | refine WL.det rfl rfl rfl (V.assign rfl ⟨_, rfl, rfl⟩) ?_ | refine WL.det rfl rfl rfl (V.len' Tryz.underlying187 rfl ⟨_, rfl, rfl⟩) ?_ | refine WL.det rfl rfl rfl (V.cap Tryz.underlying187 rfl ⟨_, rfl, rfl⟩) ?_ | refine WL.det rfl rfl rfl (V.eql rfl ⟨_, rfl, rfl⟩ ⟨_, rfl, rfl⟩) ?_ | refine WL.det rfl rfl rfl (V.gtr rfl ⟨_, rfl, rfl⟩ ⟨_, rfl, rfl⟩) ?_ | refine WL.det rfl rfl rfl (V.not rfl ⟨_, rfl, rfl⟩) ?_ | refine WL.det rfl rfl rfl (V.add rfl ⟨_, rfl, rfl⟩ ⟨_, rfl, rfl⟩ ⟨by omega, by omega⟩) ?_ | refine WL.det rfl rfl rfl (V.sub rfl ⟨_, rfl, rfl⟩ ⟨_, rfl, rfl⟩ ⟨by omega, by omega⟩) ?_ | fail) 
       | ((with_reducible refine slMark ?_); first | refine SL.det rfl rfl rfl (V.move rfl ⟨_, rfl, rfl⟩) ?_ | refine SL.det rfl rfl rfl (V.assign rfl ⟨_, rfl, rfl⟩) ?_ | refine SL.det rfl rfl rfl (V.len' Tryz.underlying187 rfl ⟨_, rfl, rfl⟩) ?_ | refine SL.det rfl rfl rfl (V.cap Tryz.underlying187 rfl ⟨_, rfl, rfl⟩) ?_ | refine SL.det rfl rfl rfl (V.eql rfl ⟨_, rfl, rfl⟩ ⟨_, rfl, rfl⟩) ?_ | refine SL.det rfl rfl rfl (V.gtr rfl ⟨_, rfl, rfl⟩ ⟨_, rfl, rfl⟩) ?_ | refine SL.det rfl rfl rfl (V.not rfl ⟨_, rfl, rfl⟩) ?_ | refine SL.det rfl rfl rfl (V.add rfl ⟨_, rfl, rfl⟩ ⟨_, rfl, rfl⟩ ⟨by omega, by omega⟩) ?_ | refine SL.det rfl rfl rfl (V.sub rfl ⟨_, rfl, rfl⟩ ⟨_, rfl, rfl⟩ ⟨by omega, by omega⟩) ?_ | fail) 
  refine WL.copyN (sz := 5) (k := 1) (news := us) (cur := cur2) (et := 193) Tryz.underlying187 Tryz.sizeOf193 rfl rfl rfl rfl ⟨_, rfl, rfl⟩ ⟨_, rfl, rfl⟩ (by simp only [Nat.min_def]; split <;> omega) hul (fun j v hj => cell_keep (hcu j v hj) hK0 (by simp)) (by simp) (by omega) ho1 (fun H1 hH1 hK1 => ?_)
  repeat' first
       | with_reducible refine WC.seq ?_
       | with_reducible refine WC.skip ?_
       | with_reducible refine WC.region ?_
       | with_reducible refine WL.nil ?_
       | with_reducible refine SL.nil ?_
       | with_reducible refine NX.go ?_
       | with_reducible refine WC.ret ?_
       | with_reducible refine NX.of_ret ?_
       | ((with_reducible refine wlMark ?_); first | refine WL.det rfl rfl rfl (V.move rfl ⟨_, rfl, rfl⟩) ?_ | refine WL.det rfl rfl rfl (V.assign rfl ⟨_, rfl, rfl⟩) ?_ | refine WL.det rfl rfl rfl (V.len' Tryz.underlying187 rfl ⟨_, rfl, rfl⟩) ?_ | refine WL.det rfl rfl rfl (V.cap Tryz.underlying187 rfl ⟨_, rfl, rfl⟩) ?_ | refine WL.det rfl rfl rfl (V.eql rfl ⟨_, rfl, rfl⟩ ⟨_, rfl, rfl⟩) ?_ | refine WL.det rfl rfl rfl (V.gtr rfl ⟨_, rfl, rfl⟩ ⟨_, rfl, rfl⟩) ?_ | refine WL.det rfl rfl rfl (V.not rfl ⟨_, rfl, rfl⟩) ?_ | refine WL.det rfl rfl rfl (V.add rfl ⟨_, rfl, rfl⟩ ⟨_, rfl, rfl⟩ ⟨by omega, by omega⟩) ?_ | refine WL.det rfl rfl rfl (V.sub rfl ⟨_, rfl, rfl⟩ ⟨_, rfl, rfl⟩ ⟨by omega, by omega⟩) ?_ | fail) 
       | ((with_reducible refine slMark ?_); first | refine SL.det rfl rfl rfl (V.move rfl ⟨_, rfl, rfl⟩) ?_ | refine SL.det rfl rfl rfl (V.assign rfl ⟨_, rfl, rfl⟩) ?_ | refine SL.det rfl rfl rfl (V.len' Tryz.underlying187 rfl ⟨_, rfl, rfl⟩) ?_ | refine SL.det rfl rfl rfl (V.cap Tryz.underlying187 rfl ⟨_, rfl, rfl⟩) ?_ | refine SL.det rfl rfl rfl (V.eql rfl ⟨_, rfl, rfl⟩ ⟨_, rfl, rfl⟩) ?_ | refine SL.det rfl rfl rfl (V.gtr rfl ⟨_, rfl, rfl⟩ ⟨_, rfl, rfl⟩) ?_ | refine SL.det rfl rfl rfl (V.not rfl ⟨_, rfl, rfl⟩) ?_ | refine SL.det rfl rfl rfl (V.add rfl ⟨_, rfl, rfl⟩ ⟨_, rfl, rfl⟩ ⟨by omega, by omega⟩) ?_ | refine SL.det rfl rfl rfl (V.sub rfl ⟨_, rfl, rfl⟩ ⟨_, rfl, rfl⟩ ⟨by omega, by omega⟩) ?_ | fail) 
  refine WC.tail 8 (by kernel_rfl) (by kernel_rfl) ?_
  repeat' first
       | with_reducible refine WC.seq ?_
       | with_reducible refine WC.skip ?_
       | with_reducible refine WC.region ?_
       | with_reducible refine WL.nil ?_
       | with_reducible refine SL.nil ?_
       | with_reducible refine NX.go ?_
       | with_reducible refine WC.ret ?_
       | with_reducible refine NX.of_ret ?_
       | ((with_reducible refine wlMark ?_); first | refine WL.det rfl rfl rfl (V.move rfl ⟨_, rfl, rfl⟩) ?_ | refine WL.det rfl rfl rfl (V.assign rfl ⟨_, rfl, rfl⟩) ?_ | refine WL.det rfl rfl rfl (V.len' Tryz.underlying187 rfl ⟨_, rfl, rfl⟩) ?_ | refine WL.det rfl rfl rfl (V.cap Tryz.underlying187 rfl ⟨_, rfl, rfl⟩) ?_ | refine WL.det rfl rfl rfl (V.eql rfl ⟨_, rfl, rfl⟩ ⟨_, rfl, rfl⟩) ?_ | refine WL.det rfl rfl rfl (V.gtr rfl ⟨_, rfl, rfl⟩ ⟨_, rfl, rfl⟩) ?_ | refine WL.det rfl rfl rfl (V.not rfl ⟨_, rfl, rfl⟩) ?_ | refine WL.det rfl rfl rfl (V.add rfl ⟨_, rfl, rfl⟩ ⟨_, rfl, rfl⟩ ⟨by omega, by omega⟩) ?_ | refine WL.det rfl rfl rfl (V.sub rfl ⟨_, rfl, rfl⟩ ⟨_, rfl, rfl⟩ ⟨by omega, by omega⟩) ?_ | fail) 
       | ((with_reducible refine slMark ?_); first | refine SL.det rfl rfl rfl (V.move rfl ⟨_, rfl, rfl⟩) ?_ | refine SL.det rfl rfl rfl (V.assign rfl ⟨_, rfl, rfl⟩) ?_ | refine SL.det rfl rfl rfl (V.len' Tryz.underlying187 rfl ⟨_, rfl, rfl⟩) ?_ | refine SL.det rfl rfl rfl (V.cap Tryz.underlying187 rfl ⟨_, rfl, rfl⟩) ?_ | refine SL.det rfl rfl rfl (V.eql rfl ⟨_, rfl, rfl⟩ ⟨_, rfl, rfl⟩) ?_ | refine SL.det rfl rfl rfl (V.gtr rfl ⟨_, rfl, rfl⟩ ⟨_, rfl, rfl⟩) ?_ | refine SL.det rfl rfl rfl (V.not rfl ⟨_, rfl, rfl⟩) ?_ | refine SL.det rfl rfl rfl (V.add rfl ⟨_, rfl, rfl⟩ ⟨_, rfl, rfl⟩ ⟨by omega, by omega⟩) ?_ | refine SL.det rfl rfl rfl (V.sub rfl ⟨_, rfl, rfl⟩ ⟨_, rfl, rfl⟩ ⟨by omega, by omega⟩) ?_ | fail) 
  refine SL.det rfl rfl rfl (V.slLoC (lo := i + 1) Tryz.underlying187 Tryz.sizeOf193 rfl ⟨_, rfl, rfl⟩ ⟨_, rfl, rfl⟩ rfl (by omega) (by omega)) ?_
  repeat' first
       | with_reducible refine WC.seq ?_
       | with_reducible refine WC.skip ?_
       | with_reducible refine WC.region ?_
       | with_reducible refine WL.nil ?_
       | with_reducible refine SL.nil ?_
       | with_reducible refine NX.go ?_
       | with_reducible refine WC.ret ?_
       | with_reducible refine NX.of_ret ?_
       | ((with_reducible refine wlMark ?_); first | refine WL.det rfl rfl rfl (V.move rfl ⟨_, rfl, rfl⟩) ?_ | refine WL.det rfl rfl rfl (V.assign rfl ⟨_, rfl, rfl⟩) ?_ | refine WL.det rfl rfl rfl (V.len' Tryz.underlying187 rfl ⟨_, rfl, rfl⟩) ?_ | refine WL.det rfl rfl rfl (V.cap Tryz.underlying187 rfl ⟨_, rfl, rfl⟩) ?_ | refine WL.det rfl rfl rfl (V.eql rfl ⟨_, rfl, rfl⟩ ⟨_, rfl, rfl⟩) ?_ | refine WL.det rfl rfl rfl (V.gtr rfl ⟨_, rfl, rfl⟩ ⟨_, rfl, rfl⟩) ?_ | refine WL.det rfl rfl rfl (V.not rfl ⟨_, rfl, rfl⟩) ?_ | refine WL.det rfl rfl rfl (V.add rfl ⟨_, rfl, rfl⟩ ⟨_, rfl, rfl⟩ ⟨by omega, by omega⟩) ?_ | refine WL.det rfl rfl rfl (V.sub rfl ⟨_, rfl, rfl⟩ ⟨_, rfl, rfl⟩ ⟨by omega, by omega⟩) ?_ | fail) 
       | ((with_reducible refine slMark ?_); first | refine SL.det rfl rfl rfl (V.move rfl ⟨_, rfl, rfl⟩) ?_ | refine SL.det rfl rfl rfl (V.assign rfl ⟨_, rfl, rfl⟩) ?_ | refine SL.det rfl rfl rfl (V.len' Tryz.underlying187 rfl ⟨_, rfl, rfl⟩) ?_ | refine SL.det rfl rfl rfl (V.cap Tryz.underlying187 rfl ⟨_, rfl, rfl⟩) ?_ | refine SL.det rfl rfl rfl (V.eql rfl ⟨_, rfl, rfl⟩ ⟨_, rfl, rfl⟩) ?_ | refine SL.det rfl rfl rfl (V.gtr rfl ⟨_, rfl, rfl⟩ ⟨_, rfl, rfl⟩) ?_ | refine SL.det rfl rfl rfl (V.not rfl ⟨_, rfl, rfl⟩) ?_ | refine SL.det rfl rfl rfl (V.add rfl ⟨_, rfl, rfl⟩ ⟨_, rfl, rfl⟩ ⟨by omega, by omega⟩) ?_ | refine SL.det rfl rfl rfl (V.sub rfl ⟨_, rfl, rfl⟩ ⟨_, rfl, rfl⟩ ⟨by omega, by omega⟩) ?_ | fail) 
  refine SL.det rfl rfl rfl (V.slLoC (lo := i) Tryz.underlying187 Tryz.sizeOf193 rfl ⟨_, rfl, rfl⟩ ⟨_, rfl, rfl⟩ rfl (by omega) (by omega)) ?_
  repeat' first
       | with_reducible refine WC.seq ?_
       | with_reducible refine WC.skip ?_
       | with_reducible refine WC.region ?_
       | with_reducible refine WL.nil ?_
       | with_reducible refine SL.nil ?_
       | with_reducible refine NX.go ?_
       | with_reducible refine WC.ret ?_
       | with_reducible refine NX.of_ret ?_
       | ((with_reducible refine wlMark ?_); first | refine WL.det rfl rfl rfl (V.move rfl ⟨_, rfl, rfl⟩) ?_ | refine WL.det rfl rfl rfl (V.assign rfl ⟨_, rfl, rfl⟩) ?_ | refine WL.det rfl rfl rfl (V.len' Tryz.underlying187 rfl ⟨_, rfl, rfl⟩) ?_ | refine WL.det rfl rfl rfl (V.cap Tryz.underlying187 rfl ⟨_, rfl, rfl⟩) ?_ | refine WL.det rfl rfl rfl (V.eql rfl ⟨_, rfl, rfl⟩ ⟨_, rfl, rfl⟩) ?_ | refine WL.det rfl rfl rfl (V.gtr rfl ⟨_, rfl, rfl⟩ ⟨_, rfl, rfl⟩) ?_ | refine WL.det rfl rfl rfl (V.not rfl ⟨_, rfl, rfl⟩) ?_ | refine WL.det rfl rfl rfl (V.add rfl ⟨_, rfl, rfl⟩ ⟨_, rfl, rfl⟩ ⟨by omega, by omega⟩) ?_ | refine WL.det rfl rfl rfl (V.sub rfl ⟨_, rfl, rfl⟩ ⟨_, rfl, rfl⟩ ⟨by omega, by omega⟩) ?_ | fail) 
       | ((with_reducible refine slMark ?_); first | refine SL.det rfl rfl rfl (V.move rfl ⟨_, rfl, rfl⟩) ?_ | refine SL.det rfl rfl rfl (V.assign rfl ⟨_, rfl, rfl⟩) ?_ | refine SL.det rfl rfl rfl (V.len' Tryz.underlying187 rfl ⟨_, rfl, rfl⟩) ?_ | refine SL.det rfl rfl rfl (V.cap Tryz.underlying187 rfl ⟨_, rfl, rfl⟩) ?_ | refine SL.det rfl rfl rfl (V.eql rfl ⟨_, rfl, rfl⟩ ⟨_, rfl, rfl⟩) ?_ | refine SL.det rfl rfl rfl (V.gtr rfl ⟨_, rfl, rfl⟩ ⟨_, rfl, rfl⟩) ?_ | refine SL.det rfl rfl rfl (V.not rfl ⟨_, rfl, rfl⟩) ?_ | refine SL.det rfl rfl rfl (V.add rfl ⟨_, rfl, rfl⟩ ⟨_, rfl, rfl⟩ ⟨by omega, by omega⟩) ?_ | refine SL.det rfl rfl rfl (V.sub rfl ⟨_, rfl, rfl⟩ ⟨_, rfl, rfl⟩ ⟨by omega, by omega⟩) ?_ | fail) 
  refine WL.copyN (sz := 5) (k := n - i) (news := cs.drop (i * 5)) (cur := putC cur2 (0 + i * 5) us) (et := 193) Tryz.underlying187 Tryz.sizeOf193 rfl rfl rfl rfl ⟨_, rfl, rfl⟩ ⟨_, rfl, rfl⟩ (by simp only [Nat.min_def]; split <;> omega) hb (fun j v hj => cell_keep (cell_keep (hcb j v hj) hK0 (by simp)) hK1 (by simp; omega)) hH1 (by rw [putC_size (by omega)]; omega) hob (fun H2 hH2 hK2 => ?_)
  repeat' first
       | with_reducible refine WC.seq ?_
       | with_reducible refine WC.skip ?_
       | with_reducible refine WC.region ?_
       | with_reducible refine WL.nil ?_
       | with_reducible refine SL.nil ?_
       | with_reducible refine NX.go ?_
       | with_reducible refine WC.ret ?_
       | with_reducible refine NX.of_ret ?_
       | ((with_reducible refine wlMark ?_); first | refine WL.det rfl rfl rfl (V.move rfl ⟨_, rfl, rfl⟩) ?_ | refine WL.det rfl rfl rfl (V.assign rfl ⟨_, rfl, rfl⟩) ?_ | refine WL.det rfl rfl rfl (V.len' Tryz.underlying187 rfl ⟨_, rfl, rfl⟩) ?_ | refine WL.det rfl rfl rfl (V.cap Tryz.underlying187 rfl ⟨_, rfl, rfl⟩) ?_ | refine WL.det rfl rfl rfl (V.eql rfl ⟨_, rfl, rfl⟩ ⟨_, rfl, rfl⟩) ?_ | refine WL.det rfl rfl rfl (V.gtr rfl ⟨_, rfl, rfl⟩ ⟨_, rfl, rfl⟩) ?_ | refine WL.det rfl rfl rfl (V.not rfl ⟨_, rfl, rfl⟩) ?_ | refine WL.det rfl rfl rfl (V.add rfl ⟨_, rfl, rfl⟩ ⟨_, rfl, rfl⟩ ⟨by omega, by omega⟩) ?_ | refine WL.det rfl rfl rfl (V.sub rfl ⟨_, rfl, rfl⟩ ⟨_, rfl, rfl⟩ ⟨by omega, by omega⟩) ?_ | fail) 
       | ((with_reducible refine slMark ?_); first | refine SL.det rfl rfl rfl (V.move rfl ⟨_, rfl, rfl⟩) ?_ | refine SL.det rfl rfl rfl (V.assign rfl ⟨_, rfl, rfl⟩) ?_ | refine SL.det rfl rfl rfl (V.len' Tryz.underlying187 rfl ⟨_, rfl, rfl⟩) ?_ | refine SL.det rfl rfl rfl (V.cap Tryz.underlying187 rfl ⟨_, rfl, rfl⟩) ?_ | refine SL.det rfl rfl rfl (V.eql rfl ⟨_, rfl, rfl⟩ ⟨_, rfl, rfl⟩) ?_ | refine SL.det rfl rfl rfl (V.gtr rfl ⟨_, rfl, rfl⟩ ⟨_, rfl, rfl⟩) ?_ | refine SL.det rfl rfl rfl (V.not rfl ⟨_, rfl, rfl⟩) ?_ | refine SL.det rfl rfl rfl (V.add rfl ⟨_, rfl, rfl⟩ ⟨_, rfl, rfl⟩ ⟨by omega, by omega⟩) ?_ | refine SL.det rfl rfl rfl (V.sub rfl ⟨_, rfl, rfl⟩ ⟨_, rfl, rfl⟩ ⟨by omega, by omega⟩) ?_ | fail) 
  have hK : Keep [] H H2 := (hK0.then hK1 (fun b hb => .inr (by simp at hb; omega))).then hK2 (fun b hb => .inr (by simp at hb; omega))
  have hsz1 : (putC cur2 (0 + i * 5) us).size = cur2.size := putC_size (by omega)
  refine ret1 hQ rfl rfl ⟨_, rfl, rfl⟩ ⟨⟨by simp only [List.length_append, hat, hul, hb]; omega, .inr ⟨H.size, 0, gc, _, 193, rfl, hH2, by omega, k2, by rw [putC_size (by omega), hsz1]; omega, ?_⟩⟩, hK.mono (fun b hb => by cases hb), fun b hb => .inr (by simp [obs] at hb; omega)⟩
  have := put_ins (cur := cur2) (off := 0) (a := cs.take (i * 5)) (us := us) (b := cs.drop (i * 5)) (by rw [hat, List.drop_zero]; exact k4) (by rw [hat, hul, hb]; omega)
  rw [hat, hul, hb] at this
  rw [show (n + 1) * 5 = i * 5 + 1 * 5 + (n - i) * 5 by omega, show 0 + (i + 1) * 5 = 0 + (i * 5 + 1 * 5) by omega]
  exact this
 ·have h2 : ¬ ((cap + 1 : Nat) : Int) < (n : Int) + (1 : Nat) := of_decide_eq_false h2
  repeat' first
       | with_reducible refine WC.seq ?_
       | with_reducible refine WC.skip ?_
       | with_reducible refine WC.region ?_
       | with_reducible refine WL.nil ?_
       | with_reducible refine SL.nil ?_
       | with_reducible refine NX.go ?_
       | with_reducible refine WC.ret ?_
       | with_reducible refine NX.of_ret ?_
       | ((with_reducible refine wlMark ?_); first | refine WL.det rfl rfl rfl (V.move rfl ⟨_, rfl, rfl⟩) ?_ | refine WL.det rfl rfl rfl (V.assign rfl ⟨_, rfl, rfl⟩) ?_ | refine WL.det rfl rfl rfl (V.len' Tryz.underlying187 rfl ⟨_, rfl, rfl⟩) ?_ | refine WL.det rfl rfl rfl (V.cap Tryz.underlying187 rfl ⟨_, rfl, rfl⟩) ?_ | refine WL.det rfl rfl rfl (V.eql rfl ⟨_, rfl, rfl⟩ ⟨_, rfl, rfl⟩) ?_ | refine WL.det rfl rfl rfl (V.gtr rfl ⟨_, rfl, rfl⟩ ⟨_, rfl, rfl⟩) ?_ | refine WL.det rfl rfl rfl (V.not rfl ⟨_, rfl, rfl⟩) ?_ | refine WL.det rfl rfl rfl (V.add rfl ⟨_, rfl, rfl⟩ ⟨_, rfl, rfl⟩ ⟨by omega, by omega⟩) ?_ | refine WL.det rfl rfl rfl (V.sub rfl ⟨_, rfl, rfl⟩ ⟨_, rfl, rfl⟩ ⟨by omega, by omega⟩) ?_ | fail) 
       | ((with_reducible refine slMark ?_); first | refine SL.det rfl rfl rfl (V.move rfl ⟨_, rfl, rfl⟩) ?_ | refine SL.det rfl rfl rfl (V.assign rfl ⟨_, rfl, rfl⟩) ?_ | refine SL.det rfl rfl rfl (V.len' Tryz.underlying187 rfl ⟨_, rfl, rfl⟩) ?_ | refine SL.det rfl rfl rfl (V.cap Tryz.underlying187 rfl ⟨_, rfl, rfl⟩) ?_ | refine SL.det rfl rfl rfl (V.eql rfl ⟨_, rfl, rfl⟩ ⟨_, rfl, rfl⟩) ?_ | refine SL.det rfl rfl rfl (V.gtr rfl ⟨_, rfl, rfl⟩ ⟨_, rfl, rfl⟩) ?_ | refine SL.det rfl rfl rfl (V.not rfl ⟨_, rfl, rfl⟩) ?_ | refine SL.det rfl rfl rfl (V.add rfl ⟨_, rfl, rfl⟩ ⟨_, rfl, rfl⟩ ⟨by omega, by omega⟩) ?_ | refine SL.det rfl rfl rfl (V.sub rfl ⟨_, rfl, rfl⟩ ⟨_, rfl, rfl⟩ ⟨by omega, by omega⟩) ?_ | fail) 
  refine WL.det rfl rfl rfl (V.slHi (hi := n + 1) Tryz.underlying187 Tryz.sizeOf193 rfl ⟨_, rfl, rfl⟩ ⟨_, rfl, rfl⟩ rfl (by omega)) ?_
  repeat' first
       | with_reducible refine WC.seq ?_
       | with_reducible refine WC.skip ?_
       | with_reducible refine WC.region ?_
       | with_reducible refine WL.nil ?_
       | with_reducible refine SL.nil ?_
       | with_reducible refine NX.go ?_
       | with_reducible refine WC.ret ?_
       | with_reducible refine NX.of_ret ?_
       | ((with_reducible refine wlMark ?_); first | refine WL.det rfl rfl rfl (V.move rfl ⟨_, rfl, rfl⟩) ?_ | refine WL.det rfl rfl rfl (V.assign rfl ⟨_, rfl, rfl⟩) ?_ | refine WL.det rfl rfl rfl (V.len' Tryz.underlying187 rfl ⟨_, rfl, rfl⟩) ?_ | refine WL.det rfl rfl rfl (V.cap Tryz.underlying187 rfl ⟨_, rfl, rfl⟩) ?_ | refine WL.det rfl rfl rfl (V.eql rfl ⟨_, rfl, rfl⟩ ⟨_, rfl, rfl⟩) ?_ | refine WL.det rfl rfl rfl (V.gtr rfl ⟨_, rfl, rfl⟩ ⟨_, rfl, rfl⟩) ?_ | refine WL.det rfl rfl rfl (V.not rfl ⟨_, rfl, rfl⟩) ?_ | refine WL.det rfl rfl rfl (V.add rfl ⟨_, rfl, rfl⟩ ⟨_, rfl, rfl⟩ ⟨by omega, by omega⟩) ?_ | refine WL.det rfl rfl rfl (V.sub rfl ⟨_, rfl, rfl⟩ ⟨_, rfl, rfl⟩ ⟨by omega, by omega⟩) ?_ | fail) 
       | ((with_reducible refine slMark ?_); first | refine SL.det rfl rfl rfl (V.move rfl ⟨_, rfl, rfl⟩) ?_ | refine SL.det rfl rfl rfl (V.assign rfl ⟨_, rfl, rfl⟩) ?_ | refine SL.det rfl rfl rfl (V.len' Tryz.underlying187 rfl ⟨_, rfl, rfl⟩) ?_ | refine SL.det rfl rfl rfl (V.cap Tryz.underlying187 rfl ⟨_, rfl, rfl⟩) ?_ | refine SL.det rfl rfl rfl (V.eql rfl ⟨_, rfl, rfl⟩ ⟨_, rfl, rfl⟩) ?_ | refine SL.det rfl rfl rfl (V.gtr rfl ⟨_, rfl, rfl⟩ ⟨_, rfl, rfl⟩) ?_ | refine SL.det rfl rfl rfl (V.not rfl ⟨_, rfl, rfl⟩) ?_ | refine SL.det rfl rfl rfl (V.add rfl ⟨_, rfl, rfl⟩ ⟨_, rfl, rfl⟩ ⟨by omega, by omega⟩) ?_ | refine SL.det rfl rfl rfl (V.sub rfl ⟨_, rfl, rfl⟩ ⟨_, rfl, rfl⟩ ⟨by omega, by omega⟩) ?_ | fail) 
  refine WL.det rfl rfl rfl (V.slLoC (lo := i + 1) Tryz.underlying187 Tryz.sizeOf193 rfl ⟨_, rfl, rfl⟩ ⟨_, rfl, rfl⟩ rfl (by omega) (by omega)) ?_
  refine WL.call rfl rfl rfl rfl (.cons ⟨_, rfl, rfl⟩ (.cons ⟨_, rfl, rfl⟩ .nil)) (overlaps_raw Tryz.func267 (by kernel_rfl) (by kernel_rfl) (by kernel_rfl) (by kernel_rfl) Tryz.underlying187 Tryz.sizeOf193 hne q1 hv1 (by omega)) (fun v H' hR => ?_)
  obtain ⟨rfl, rfl⟩ := hR
  repeat' first
       | with_reducible refine WC.seq ?_
       | with_reducible refine WC.skip ?_
       | with_reducible refine WC.region ?_
       | with_reducible refine WL.nil ?_
       | with_reducible refine SL.nil ?_
       | with_reducible refine NX.go ?_
       | with_reducible refine WC.ret ?_
       | with_reducible refine NX.of_ret ?_
       | ((with_reducible refine wlMark ?_); first | refine WL.det rfl rfl rfl (V.move rfl ⟨_, rfl, rfl⟩) ?_ | refine WL.det rfl rfl rfl (V.assign rfl ⟨_, rfl, rfl⟩) ?_ | refine WL.det rfl rfl rfl (V.len' Tryz.underlying187 rfl ⟨_, rfl, rfl⟩) ?_ | refine WL.det rfl rfl rfl (V.cap Tryz.underlying187 rfl ⟨_, rfl, rfl⟩) ?_ | refine WL.det rfl rfl rfl (V.eql rfl ⟨_, rfl, rfl⟩ ⟨_, rfl, rfl⟩) ?_ | refine WL.det rfl rfl rfl (V.gtr rfl ⟨_, rfl, rfl⟩ ⟨_, rfl, rfl⟩) ?_ | refine WL.det rfl rfl rfl (V.not rfl ⟨_, rfl, rfl⟩) ?_ | refine WL.det rfl rfl rfl (V.add rfl ⟨_, rfl, rfl⟩ ⟨_, rfl, rfl⟩ ⟨by omega, by omega⟩) ?_ | refine WL.det rfl rfl rfl (V.sub rfl ⟨_, rfl, rfl⟩ ⟨_, rfl, rfl⟩ ⟨by omega, by omega⟩) ?_ | fail) 
       | ((with_reducible refine slMark ?_); first | refine SL.det rfl rfl rfl (V.move rfl ⟨_, rfl, rfl⟩) ?_ | refine SL.det rfl rfl rfl (V.assign rfl ⟨_, rfl, rfl⟩) ?_ | refine SL.det rfl rfl rfl (V.len' Tryz.underlying187 rfl ⟨_, rfl, rfl⟩) ?_ | refine SL.det rfl rfl rfl (V.cap Tryz.underlying187 rfl ⟨_, rfl, rfl⟩) ?_ | refine SL.det rfl rfl rfl (V.eql rfl ⟨_, rfl, rfl⟩ ⟨_, rfl, rfl⟩) ?_ | refine SL.det rfl rfl rfl (V.gtr rfl ⟨_, rfl, rfl⟩ ⟨_, rfl, rfl⟩) ?_ | refine SL.det rfl rfl rfl (V.not rfl ⟨_, rfl, rfl⟩) ?_ | refine SL.det rfl rfl rfl (V.add rfl ⟨_, rfl, rfl⟩ ⟨_, rfl, rfl⟩ ⟨by omega, by omega⟩) ?_ | refine SL.det rfl rfl rfl (V.sub rfl ⟨_, rfl, rfl⟩ ⟨_, rfl, rfl⟩ ⟨by omega, by omega⟩) ?_ | fail) 
  refine WC.cond ⟨_, rfl, rfl⟩ (fun _ => ?_) (fun h => by cases h)
  repeat' first
       | with_reducible refine WC.seq ?_
       | with_reducible refine WC.skip ?_
       | with_reducible refine WC.region ?_
       | with_reducible refine WL.nil ?_
       | with_reducible refine SL.nil ?_
       | with_reducible refine NX.go ?_
       | with_reducible refine WC.ret ?_
       | with_reducible refine NX.of_ret ?_
       | ((with_reducible refine wlMark ?_); first | refine WL.det rfl rfl rfl (V.move rfl ⟨_, rfl, rfl⟩) ?_ | refine WL.det rfl rfl rfl (V.assign rfl ⟨_, rfl, rfl⟩) ?_ | refine WL.det rfl rfl rfl (V.len' Tryz.underlying187 rfl ⟨_, rfl, rfl⟩) ?_ | refine WL.det rfl rfl rfl (V.cap Tryz.underlying187 rfl ⟨_, rfl, rfl⟩) ?_ | refine WL.det rfl rfl rfl (V.eql rfl ⟨_, rfl, rfl⟩ ⟨_, rfl, rfl⟩) ?_ | refine WL.det rfl rfl rfl (V.gtr rfl ⟨_, rfl, rfl⟩ ⟨_, rfl, rfl⟩) ?_ | refine WL.det rfl rfl rfl (V.not rfl ⟨_, rfl, rfl⟩) ?_ | refine WL.det rfl rfl rfl (V.add rfl ⟨_, rfl, rfl⟩ ⟨_, rfl, rfl⟩ ⟨by omega, by omega⟩) ?_ | refine WL.det rfl rfl rfl (V.sub rfl ⟨_, rfl, rfl⟩ ⟨_, rfl, rfl⟩ ⟨by omega, by omega⟩) ?_ | fail) 
       | ((with_reducible refine slMark ?_); first | refine SL.det rfl rfl rfl (V.move rfl ⟨_, rfl, rfl⟩) ?_ | refine SL.det rfl rfl rfl (V.assign rfl ⟨_, rfl, rfl⟩) ?_ | refine SL.det rfl rfl rfl (V.len' Tryz.underlying187 rfl ⟨_, rfl, rfl⟩) ?_ | refine SL.det rfl rfl rfl (V.cap Tryz.underlying187 rfl ⟨_, rfl, rfl⟩) ?_ | refine SL.det rfl rfl rfl (V.eql rfl ⟨_, rfl, rfl⟩ ⟨_, rfl, rfl⟩) ?_ | refine SL.det rfl rfl rfl (V.gtr rfl ⟨_, rfl, rfl⟩ ⟨_, rfl, rfl⟩) ?_ | refine SL.det rfl rfl rfl (V.not rfl ⟨_, rfl, rfl⟩) ?_ | refine SL.det rfl rfl rfl (V.add rfl ⟨_, rfl, rfl⟩ ⟨_, rfl, rfl⟩ ⟨by omega, by omega⟩) ?_ | refine SL.det rfl rfl rfl (V.sub rfl ⟨_, rfl, rfl⟩ ⟨_, rfl, rfl⟩ ⟨by omega, by omega⟩) ?_ | fail) 
  refine WC.tail 8 (by kernel_rfl) (by kernel_rfl) ?_
  repeat' first
       | with_reducible refine WC.seq ?_
       | with_reducible refine WC.skip ?_
       | with_reducible refine WC.region ?_
       | with_reducible refine WL.nil ?_
       | with_reducible refine SL.nil ?_
       | with_reducible refine NX.go ?_
       | with_reducible refine WC.ret ?_
       | with_reducible refine NX.of_ret ?_
       | ((with_reducible refine wlMark ?_); first | refine WL.det rfl rfl rfl (V.move rfl ⟨_, rfl, rfl⟩) ?_ | refine WL.det rfl rfl rfl (V.assign rfl ⟨_, rfl, rfl⟩) ?_ | refine WL.det rfl rfl rfl (V.len' Tryz.underlying187 rfl ⟨_, rfl, rfl⟩) ?_ | refine WL.det rfl rfl rfl (V.cap Tryz.underlying187 rfl ⟨_, rfl, rfl⟩) ?_ | refine WL.det rfl rfl rfl (V.eql rfl ⟨_, rfl, rfl⟩ ⟨_, rfl, rfl⟩) ?_ | refine WL.det rfl rfl rfl (V.gtr rfl ⟨_, rfl, rfl⟩ ⟨_, rfl, rfl⟩) ?_ | refine WL.det rfl rfl rfl (V.not rfl ⟨_, rfl, rfl⟩) ?_ | refine WL.det rfl rfl rfl (V.add rfl ⟨_, rfl, rfl⟩ ⟨_, rfl, rfl⟩ ⟨by omega, by omega⟩) ?_ | refine WL.det rfl rfl rfl (V.sub rfl ⟨_, rfl, rfl⟩ ⟨_, rfl, rfl⟩ ⟨by omega, by omega⟩) ?_ | fail) 
       | ((with_reducible refine slMark ?_); first | refine SL.det rfl rfl rfl (V.move rfl ⟨_, rfl, rfl⟩) ?_ | refine SL.det rfl rfl rfl (V.assign rfl ⟨_, rfl, rfl⟩) ?_ | refine SL.det rfl rfl rfl (V.len' Tryz.underlying187 rfl ⟨_, rfl, rfl⟩) ?_ | refine SL.det rfl rfl rfl (V.cap Tryz.underlying187 rfl ⟨_, rfl, rfl⟩) ?_ | refine SL.det rfl rfl rfl (V.eql rfl ⟨_, rfl, rfl⟩ ⟨_, rfl, rfl⟩) ?_ | refine SL.det rfl rfl rfl (V.gtr rfl ⟨_, rfl, rfl⟩ ⟨_, rfl, rfl⟩) ?_ | refine SL.det rfl rfl rfl (V.not rfl ⟨_, rfl, rfl⟩) ?_ | refine SL.det rfl rfl rfl (V.add rfl ⟨_, rfl, rfl⟩ ⟨_, rfl, rfl⟩ ⟨by omega, by omega⟩) ?_ | refine SL.det rfl rfl rfl (V.sub rfl ⟨_, rfl, rfl⟩ ⟨_, rfl, rfl⟩ ⟨by omega, by omega⟩) ?_ | fail) 
  refine SL.det rfl rfl rfl (V.slLoC (lo := i + 1) Tryz.underlying187 Tryz.sizeOf193 rfl ⟨_, rfl, rfl⟩ ⟨_, rfl, rfl⟩ rfl (by omega) (by omega)) ?_
  repeat' first
       | with_reducible refine WC.seq ?_
       | with_reducible refine WC.skip ?_
       | with_reducible refine WC.region ?_
       | with_reducible refine WL.nil ?_
       | with_reducible refine SL.nil ?_
       | with_reducible refine NX.go ?_
       | with_reducible refine WC.ret ?_
       | with_reducible refine NX.of_ret ?_
       | ((with_reducible refine wlMark ?_); first | refine WL.det rfl rfl rfl (V.move rfl ⟨_, rfl, rfl⟩) ?_ | refine WL.det rfl rfl rfl (V.assign rfl ⟨_, rfl, rfl⟩) ?_ | refine WL.det rfl rfl rfl (V.len' Tryz.underlying187 rfl ⟨_, rfl, rfl⟩) ?_ | refine WL.det rfl rfl rfl (V.cap Tryz.underlying187 rfl ⟨_, rfl, rfl⟩) ?_ | refine WL.det rfl rfl rfl (V.eql rfl ⟨_, rfl, rfl⟩ ⟨_, rfl, rfl⟩) ?_ | refine WL.det rfl rfl rfl (V.gtr rfl ⟨_, rfl, rfl⟩ ⟨_, rfl, rfl⟩) ?_ | refine WL.det rfl rfl rfl (V.not rfl ⟨_, rfl, rfl⟩) ?_ | refine WL.det rfl rfl rfl (V.add rfl ⟨_, rfl, rfl⟩ ⟨_, rfl, rfl⟩ ⟨by omega, by omega⟩) ?_ | refine WL.det rfl rfl rfl (V.sub rfl ⟨_, rfl, rfl⟩ ⟨_, rfl, rfl⟩ ⟨by omega, by omega⟩) ?_ | fail) 
       | ((with_reducible refine slMark ?_); first | refine SL.det rfl rfl rfl (V.move rfl ⟨_, rfl, rfl⟩) ?_ | refine SL.det rfl rfl rfl (V.assign rfl ⟨_, rfl, rfl⟩) ?_ | refine SL.det rfl rfl rfl (V.len' Tryz.underlying187 rfl ⟨_, rfl, rfl⟩) ?_ | refine SL.det rfl rfl rfl (V.cap Tryz.underlying187 rfl ⟨_, rfl, rfl⟩) ?_ | refine SL.det rfl rfl rfl (V.eql rfl ⟨_, rfl, rfl⟩ ⟨_, rfl, rfl⟩) ?_ | refine SL.det rfl rfl rfl (V.gtr rfl ⟨_, rfl, rfl⟩ ⟨_, rfl, rfl⟩) ?_ | refine SL.det rfl rfl rfl (V.not rfl ⟨_, rfl, rfl⟩) ?_ | refine SL.det rfl rfl rfl (V.add rfl ⟨_, rfl, rfl⟩ ⟨_, rfl, rfl⟩ ⟨by omega, by omega⟩) ?_ | refine SL.det rfl rfl rfl (V.sub rfl ⟨_, rfl, rfl⟩ ⟨_, rfl, rfl⟩ ⟨by omega, by omega⟩) ?_ | fail) 
  refine SL.det rfl rfl rfl (V.slLoC (lo := i) Tryz.underlying187 Tryz.sizeOf193 rfl ⟨_, rfl, rfl⟩ ⟨_, rfl, rfl⟩ rfl (by omega) (by omega)) ?_
  repeat' first
       | with_reducible refine WC.seq ?_
       | with_reducible refine WC.skip ?_
       | with_reducible refine WC.region ?_
       | with_reducible refine WL.nil ?_
       | with_reducible refine SL.nil ?_
       | with_reducible refine NX.go ?_
       | with_reducible refine WC.ret ?_
       | with_reducible refine NX.of_ret ?_
       | ((with_reducible refine wlMark ?_); first | refine WL.det rfl rfl rfl (V.move rfl ⟨_, rfl, rfl⟩) ?_ | refine WL.det rfl rfl rfl (V.assign rfl ⟨_, rfl, rfl⟩) ?_ | refine WL.det rfl rfl rfl (V.len' Tryz.underlying187 rfl ⟨_, rfl, rfl⟩) ?_ | refine WL.det rfl rfl rfl (V.cap Tryz.underlying187 rfl ⟨_, rfl, rfl⟩) ?_ | refine WL.det rfl rfl rfl (V.eql rfl ⟨_, rfl, rfl⟩ ⟨_, rfl, rfl⟩) ?_ | refine WL.det rfl rfl rfl (V.gtr rfl ⟨_, rfl, rfl⟩ ⟨_, rfl, rfl⟩) ?_ | refine WL.det rfl rfl rfl (V.not rfl ⟨_, rfl, rfl⟩) ?_ | refine WL.det rfl rfl rfl (V.add rfl ⟨_, rfl, rfl⟩ ⟨_, rfl, rfl⟩ ⟨by omega, by omega⟩) ?_ | refine WL.det rfl rfl rfl (V.sub rfl ⟨_, rfl, rfl⟩ ⟨_, rfl, rfl⟩ ⟨by omega, by omega⟩) ?_ | fail) 
       | ((with_reducible refine slMark ?_); first | refine SL.det rfl rfl rfl (V.move rfl ⟨_, rfl, rfl⟩) ?_ | refine SL.det rfl rfl rfl (V.assign rfl ⟨_, rfl, rfl⟩) ?_ | refine SL.det rfl rfl rfl (V.len' Tryz.underlying187 rfl ⟨_, rfl, rfl⟩) ?_ | refine SL.det rfl rfl rfl (V.cap Tryz.underlying187 rfl ⟨_, rfl, rfl⟩) ?_ | refine SL.det rfl rfl rfl (V.eql rfl ⟨_, rfl, rfl⟩ ⟨_, rfl, rfl⟩) ?_ | refine SL.det rfl rfl rfl (V.gtr rfl ⟨_, rfl, rfl⟩ ⟨_, rfl, rfl⟩) ?_ | refine SL.det rfl rfl rfl (V.not rfl ⟨_, rfl, rfl⟩) ?_ | refine SL.det rfl rfl rfl (V.add rfl ⟨_, rfl, rfl⟩ ⟨_, rfl, rfl⟩ ⟨by omega, by omega⟩) ?_ | refine SL.det rfl rfl rfl (V.sub rfl ⟨_, rfl, rfl⟩ ⟨_, rfl, rfl⟩ ⟨by omega, by omega⟩) ?_ | fail) 
  refine WL.copyN (sz := 5) (k := n - i) (news := cs.drop (i * 5)) (cur := cur) (et := e) Tryz.underlying187 Tryz.sizeOf193 rfl rfl rfl rfl ⟨_, rfl, rfl⟩ ⟨_, rfl, rfl⟩ (by simp only [Nat.min_def]; split <;> omega) hb hcb q1 (by omega) hob (fun H1 hH1 hK1 => ?_)
  repeat' first
       | with_reducible refine WC.seq ?_
       | with_reducible refine WC.skip ?_
       | with_reducible refine WC.region ?_
       | with_reducible refine WL.nil ?_
       | with_reducible refine SL.nil ?_
       | with_reducible refine NX.go ?_
       | with_reducible refine WC.ret ?_
       | with_reducible refine NX.of_ret ?_
       | ((with_reducible refine wlMark ?_); first | refine WL.det rfl rfl rfl (V.move rfl ⟨_, rfl, rfl⟩) ?_ | refine WL.det rfl rfl rfl (V.assign rfl ⟨_, rfl, rfl⟩) ?_ | refine WL.det rfl rfl rfl (V.len' Tryz.underlying187 rfl ⟨_, rfl, rfl⟩) ?_ | refine WL.det rfl rfl rfl (V.cap Tryz.underlying187 rfl ⟨_, rfl, rfl⟩) ?_ | refine WL.det rfl rfl rfl (V.eql rfl ⟨_, rfl, rfl⟩ ⟨_, rfl, rfl⟩) ?_ | refine WL.det rfl rfl rfl (V.gtr rfl ⟨_, rfl, rfl⟩ ⟨_, rfl, rfl⟩) ?_ | refine WL.det rfl rfl rfl (V.not rfl ⟨_, rfl, rfl⟩) ?_ | refine WL.det rfl rfl rfl (V.add rfl ⟨_, rfl, rfl⟩ ⟨_, rfl, rfl⟩ ⟨by omega, by omega⟩) ?_ | refine WL.det rfl rfl rfl (V.sub rfl ⟨_, rfl, rfl⟩ ⟨_, rfl, rfl⟩ ⟨by omega, by omega⟩) ?_ | fail) 
       | ((with_reducible refine slMark ?_); first | refine SL.det rfl rfl rfl (V.move rfl ⟨_, rfl, rfl⟩) ?_ | refine SL.det rfl rfl rfl (V.assign rfl ⟨_, rfl, rfl⟩) ?_ | refine SL.det rfl rfl rfl (V.len' Tryz.underlying187 rfl ⟨_, rfl, rfl⟩) ?_ | refine SL.det rfl rfl rfl (V.cap Tryz.underlying187 rfl ⟨_, rfl, rfl⟩) ?_ | refine SL.det rfl rfl rfl (V.eql rfl ⟨_, rfl, rfl⟩ ⟨_, rfl, rfl⟩) ?_ | refine SL.det rfl rfl rfl (V.gtr rfl ⟨_, rfl, rfl⟩ ⟨_, rfl, rfl⟩) ?_ | refine SL.det rfl rfl rfl (V.not rfl ⟨_, rfl, rfl⟩) ?_ | refine SL.det rfl rfl rfl (V.add rfl ⟨_, rfl, rfl⟩ ⟨_, rfl, rfl⟩ ⟨by omega, by omega⟩) ?_ | refine SL.det rfl rfl rfl (V.sub rfl ⟨_, rfl, rfl⟩ ⟨_, rfl, rfl⟩ ⟨by omega, by omega⟩) ?_ | fail) 
  refine WL.det rfl rfl rfl (V.slLoC (lo := i) Tryz.underlying187 Tryz.sizeOf193 rfl ⟨_, rfl, rfl⟩ ⟨_, rfl, rfl⟩ rfl (by omega) (by omega)) ?_
  repeat' first
       | with_reducible refine WC.seq ?_
       | with_reducible refine WC.skip ?_
       | with_reducible refine WC.region ?_
       | with_reducible refine WL.nil ?_
       | with_reducible refine SL.nil ?_
       | with_reducible refine NX.go ?_
       | with_reducible refine WC.ret ?_
       | with_reducible refine NX.of_ret ?_
       | ((with_reducible refine wlMark ?_); first | refine WL.det rfl rfl rfl (V.move rfl ⟨_, rfl, rfl⟩) ?_ | refine WL.det rfl rfl rfl (V.assign rfl ⟨_, rfl, rfl⟩) ?_ | refine WL.det rfl rfl rfl (V.len' Tryz.underlying187 rfl ⟨_, rfl, rfl⟩) ?_ | refine WL.det rfl rfl rfl (V.cap Tryz.underlying187 rfl ⟨_, rfl, rfl⟩) ?_ | refine WL.det rfl rfl rfl (V.eql rfl ⟨_, rfl, rfl⟩ ⟨_, rfl, rfl⟩) ?_ | refine WL.det rfl rfl rfl (V.gtr rfl ⟨_, rfl, rfl⟩ ⟨_, rfl, rfl⟩) ?_ | refine WL.det rfl rfl rfl (V.not rfl ⟨_, rfl, rfl⟩) ?_ | refine WL.det rfl rfl rfl (V.add rfl ⟨_, rfl, rfl⟩ ⟨_, rfl, rfl⟩ ⟨by omega, by omega⟩) ?_ | refine WL.det rfl rfl rfl (V.sub rfl ⟨_, rfl, rfl⟩ ⟨_, rfl, rfl⟩ ⟨by omega, by omega⟩) ?_ | fail) 
       | ((with_reducible refine slMark ?_); first | refine SL.det rfl rfl rfl (V.move rfl ⟨_, rfl, rfl⟩) ?_ | refine SL.det rfl rfl rfl (V.assign rfl ⟨_, rfl, rfl⟩) ?_ | refine SL.det rfl rfl rfl (V.len' Tryz.underlying187 rfl ⟨_, rfl, rfl⟩) ?_ | refine SL.det rfl rfl rfl (V.cap Tryz.underlying187 rfl ⟨_, rfl, rfl⟩) ?_ | refine SL.det rfl rfl rfl (V.eql rfl ⟨_, rfl, rfl⟩ ⟨_, rfl, rfl⟩) ?_ | refine SL.det rfl rfl rfl (V.gtr rfl ⟨_, rfl, rfl⟩ ⟨_, rfl, rfl⟩) ?_ | refine SL.det rfl rfl rfl (V.not rfl ⟨_, rfl, rfl⟩) ?_ | refine SL.det rfl rfl rfl (V.add rfl ⟨_, rfl, rfl⟩ ⟨_, rfl, rfl⟩ ⟨by omega, by omega⟩) ?_ | refine SL.det rfl rfl rfl (V.sub rfl ⟨_, rfl, rfl⟩ ⟨_, rfl, rfl⟩ ⟨by omega, by omega⟩) ?_ | fail) 
  refine WL.copyN (sz := 5) (k := 1) (news := us) (et := e) Tryz.underlying187 Tryz.sizeOf193 rfl rfl rfl rfl ⟨_, rfl, rfl⟩ ⟨_, rfl, rfl⟩ (by simp only [Nat.min_def]; split <;> omega) hul (fun j v hj => cell_keep (hcu j v hj) hK1 (by simpa using hne)) hH1 (by rw [putC_size (by omega)]; omega) ho1 (fun H2 hH2 hK2 => ?_)
  repeat' first
       | with_reducible refine WC.seq ?_
       | with_reducible refine WC.skip ?_
       | with_reducible refine WC.region ?_
       | with_reducible refine WL.nil ?_
       | with_reducible refine SL.nil ?_
       | with_reducible refine NX.go ?_
       | with_reducible refine WC.ret ?_
       | with_reducible refine NX.of_ret ?_
       | ((with_reducible refine wlMark ?_); first | refine WL.det rfl rfl rfl (V.move rfl ⟨_, rfl, rfl⟩) ?_ | refine WL.det rfl rfl rfl (V.assign rfl ⟨_, rfl, rfl⟩) ?_ | refine WL.det rfl rfl rfl (V.len' Tryz.underlying187 rfl ⟨_, rfl, rfl⟩) ?_ | refine WL.det rfl rfl rfl (V.cap Tryz.underlying187 rfl ⟨_, rfl, rfl⟩) ?_ | refine WL.det rfl rfl rfl (V.eql rfl ⟨_, rfl, rfl⟩ ⟨_, rfl, rfl⟩) ?_ | refine WL.det rfl rfl rfl (V.gtr rfl ⟨_, rfl, rfl⟩ ⟨_, rfl, rfl⟩) ?_ | refine WL.det rfl rfl rfl (V.not rfl ⟨_, rfl, rfl⟩) ?_ | refine WL.det rfl rfl rfl (V.add rfl ⟨_, rfl, rfl⟩ ⟨_, rfl, rfl⟩ ⟨by omega, by omega⟩) ?_ | refine WL.det rfl rfl rfl (V.sub rfl ⟨_, rfl, rfl⟩ ⟨_, rfl, rfl⟩ ⟨by omega, by omega⟩) ?_ | fail) 
       | ((with_reducible refine slMark ?_); first | refine SL.det rfl rfl rfl (V.move rfl ⟨_, rfl, rfl⟩) ?_ | refine SL.det rfl rfl rfl (V.assign rfl ⟨_, rfl, rfl⟩) ?_ | refine SL.det rfl rfl rfl (V.len' Tryz.underlying187 rfl ⟨_, rfl, rfl⟩) ?_ | refine SL.det rfl rfl rfl (V.cap Tryz.underlying187 rfl ⟨_, rfl, rfl⟩) ?_ | refine SL.det rfl rfl rfl (V.eql rfl ⟨_, rfl, rfl⟩ ⟨_, rfl, rfl⟩) ?_ | refine SL.det rfl rfl rfl (V.gtr rfl ⟨_, rfl, rfl⟩ ⟨_, rfl, rfl⟩) ?_ | refine SL.det rfl rfl rfl (V.not rfl ⟨_, rfl, rfl⟩) ?_ | refine SL.det rfl rfl rfl (V.add rfl ⟨_, rfl, rfl⟩ ⟨_, rfl, rfl⟩ ⟨by omega, by omega⟩) ?_ | refine SL.det rfl rfl rfl (V.sub rfl ⟨_, rfl, rfl⟩ ⟨_, rfl, rfl⟩ ⟨by omega, by omega⟩) ?_ | fail) 
  have hsz1 : (putC cur (off + (i + 1) * 5) (cs.drop (i * 5))).size = cur.size := putC_size (by omega)
  refine ret1 hQ rfl rfl ⟨_, rfl, rfl⟩ ⟨⟨by simp only [List.length_append, hat, hul, hb]; omega, .inr ⟨g, off, cap, _, e, rfl, hH2, by omega, q3, by rw [putC_size (by omega), hsz1]; omega, ?_⟩⟩, hK1.trans hK2, fun b hb => .inl hb⟩
  have := put_ins2 (cur := cur) (off := off) (a := cs.take (i * 5)) (us := us) (b := cs.drop (i * 5)) hseg (by rw [hat, hul, hb]; omega)
  rw [hat, hul, hb] at this
  rw [show (n + 1) * 5 = i * 5 + 1 * 5 + (n - i) * 5 by omega, show off + (i + 1) * 5 = off + (i * 5 + 1 * 5) by omega]
  exact this
theorem insertI_spec (l : List It) (x : It) (i : Nat) (hi : i ≤ l.length) (hn : l.length ≤ 1000000) : Does Tryz.prog 198 [.c (.rw 0), .c (.int .i64 i), .c (.rw 1)] [.row 5 It encIt l, .row 5 It encIt [x]] (Rt (.c (.rw 2)) [.dead, .row 5 It encIt [x], .row 5 It encIt (l.take i ++ x :: l.drop i)]) :=
 Does.of_insert insertI_raw l x i hi hn
end Go.Nest
end
