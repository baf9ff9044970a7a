/- part -/
import Derived.Test.YtpmjnbidmcnhnaaGreatDoorBytes1
import Derived.Test.YtpmjnbidmcnhnaaGreatDoorArr
import Derived.Test.YtpmjnbidmcnhnaaGreatDoorLinesMixed
import Derived.Test.YtpmjnbidmcnhnaaGreatDoorCommon1
set_option linter.unusedVariables false
set_option linter.unusedSimpArgs false
section
namespace Go.Proofs.YtpmjnbidmcnhnaaGreatDoor
open Go.NB
set_option maxRecDepth 20000
theorem cloneBytes {H0 : Heap} {M : List Nat} {v : Value} {xs : List UInt8} (hv : Sl tByte H0 M v xs) (hfit : xs.length * 1 ≤ 140737488355328) (hM : ∀ i ∈ M, i < H0.size) :
    CallsH Tryz.prog 109 #[v] H0 (fun u H => Own tByte H (ob u ++ M) 5 u xs ∧ Keep [] H0 H ∧ ∀ i ∈ ob u, H0.size ≤ i) := by
  refine enter (args := [v]) Tryz.call109 Tryz.func109 rfl Tryz.ntmps109 (Nat.le_of_ble_eq_true rfl) (fun W0 Q hQ => ?_)
  refine WC.sub (e' := [(0, true, v)]) ⟨rfl, trivial⟩ ?_
  have K : Keep [] H0 H0 := Keep.refl _ _
  refine WC.seq ?_
  refine WC.region ?_
  refine WL.det rfl rfl rfl (V.assign rfl ⟨_, rfl, rfl⟩) ?_
  refine WL.nil ?_
  refine NX.go ?_
  refine WC.sub (e' := [(0, true, _)]) ⟨rfl, trivial⟩ ?_
  refine WC.seq ?_
  refine WC.seq ?_
  refine WC.region ?_
  refine WL.det rfl rfl rfl (V.move rfl ⟨_, rfl, rfl⟩) ?_
  refine WL.ex rfl rfl rfl (X.slNil rfl Tryz.underlying41 ⟨_, rfl, rfl⟩ (hv.at K)) (fun v4 h4 => ?_)
  obtain ⟨b4, rfl, hb4⟩ := h4
  refine WL.nil ?_
  refine NX.go ?_
  refine WC.sub (e' := [(0, true, _), (4, true, _)]) ⟨rfl, rfl, trivial⟩ ?_
  refine WC.cond ⟨_, rfl, rfl⟩ (fun hc4 => ?_) (fun hc4 => ?_)
  · -- hc4 true
    try simp only [Bool.and_eq_true, Bool.or_eq_true, Bool.not_eq_true', Bool.not_eq_false', Bool.and_eq_false_iff, Bool.or_eq_false_iff, decide_eq_true_eq, decide_eq_false_iff_not, Int.not_lt, Int.not_le] at hc4
    have hx := hb4 hc4
    subst hx
    refine WC.seq ?_
    refine WC.region ?_
    refine WL.det rfl rfl rfl (V.assign rfl ⟨_, rfl, rfl⟩) ?_
    refine WL.nil ?_
    refine NX.go ?_
    refine WC.sub (e' := [(2, true, _)]) ⟨rfl, trivial⟩ ?_
    refine WC.ret ?_
    refine NX.of_ret ?_
    refine ret1 hQ Tryz.results109 rfl ⟨_, rfl, rfl⟩ ?_
    first | exact ⟨Own.nil tByte _ _ _, K, fun i hi => by simp [ob] at hi⟩ | exact ⟨by simpa using hO7, K, hob7⟩
  · -- hc4 false
    try simp only [Bool.and_eq_true, Bool.or_eq_true, Bool.not_eq_true', Bool.not_eq_false', Bool.and_eq_false_iff, Bool.or_eq_false_iff, decide_eq_true_eq, decide_eq_false_iff_not, Int.not_lt, Int.not_le] at hc4
    refine WC.skip ?_
    refine NX.go ?_
    refine WC.seq ?_
    refine WC.region ?_
    refine WL.buildSlice (size := 1) (xs := []) (vs := []) (css := []) rfl rfl rfl rfl Tryz.underlying41 Tryz.sizeOf5 Tryz.zeroValue5 .nil rfl (by decide) (fun _ h => by cases h) rfl (fun g5 H1 hB5 hg5 k1 => ?_)
    have hO5 : Own tByte H1 (ob (.slice (some ⟨g5, 0, none⟩) 0 0) ++ M) 5 (.slice (some ⟨g5, 0, none⟩) 0 0) [] := Own.empty tByte hB5
    have hob5 : ∀ i ∈ ob (.slice (some ⟨g5, 0, none⟩) 0 0), H0.size ≤ i := fun i hi => by simp [ob] at hi; omega
    replace K := K.trans k1
    refine WL.det rfl rfl rfl (V.move rfl ⟨_, rfl, rfl⟩) ?_
    refine WL.app (T := tByte) (M := M) rfl rfl rfl rfl Tryz.underlying41 Tryz.underlying41 (fun _ h => by cases h) Tryz.typeInfo5 rfl rfl rfl ⟨_, rfl, rfl⟩ ⟨_, rfl, rfl⟩ hO5 (Src.sl (hv.in K hob5)) (by show (_ + _) * 1 ≤ 140737488355328; simp; omega) (by decide) (fun v7 H1 hO7 a1 => ?_)
    have hob7 := a1.new K hob5
    replace K := a1.K K hob5
    refine WL.det rfl rfl rfl (V.assign rfl ⟨_, rfl, rfl⟩) ?_
    refine WL.nil ?_
    refine NX.go ?_
    refine WC.sub (e' := [(2, true, _)]) ⟨rfl, trivial⟩ ?_
    refine WC.ret ?_
    refine ret1 hQ Tryz.results109 rfl ⟨_, rfl, rfl⟩ ?_
    first | exact ⟨Own.nil tByte _ _ _, K, fun i hi => by simp [ob] at hi⟩ | exact ⟨by simpa using hO7, K, hob7⟩
theorem indexByte0 {H0 : Heap} {M : List Nat} {v : Value} {l : List UInt8} (hl : Sl tByte H0 M v l) (b : UInt8) : CallsH Tryz.prog 190 #[v, bv b] H0 (fun u H => u = iv (Lib.indexByte l b) ∧ H = H0) :=
  indexByteExt Tryz.func190 (by kernel_rfl) (by kernel_rfl) (by kernel_rfl) (by kernel_rfl) hl b
theorem indexByte {H0 : Heap} {M : List Nat} {v : Value} {l : List UInt8} (hl : Sl tByte H0 M v l) (b : UInt8) :
    CallsH Tryz.prog 171 #[v, bv b] H0 (fun u H => u = iv (Lib.indexByte l b) ∧ H = H0) := by
  refine enter (args := [v, bv b]) Tryz.call171 Tryz.func171 rfl Tryz.ntmps171 (Nat.le_of_ble_eq_true rfl) (fun W0 Q hQ => ?_)
  refine WC.sub (e' := [(0, true, v), (1, true, bv b)]) ⟨rfl, rfl, trivial⟩ ?_
  have K : Keep [] H0 H0 := Keep.refl _ _
  refine WC.seq ?_
  refine WC.region ?_
  refine WL.det rfl rfl rfl (V.assign rfl ⟨_, rfl, rfl⟩) ?_
  refine WL.nil ?_
  refine NX.go ?_
  refine WC.sub (e' := [(0, true, _), (1, true, _)]) ⟨rfl, rfl, trivial⟩ ?_
  refine WC.seq ?_
  refine WC.region ?_
  refine WL.det rfl rfl rfl (V.move rfl ⟨_, rfl, rfl⟩) ?_
  refine WL.det rfl rfl rfl (V.move rfl ⟨_, rfl, rfl⟩) ?_
  refine WL.call rfl rfl rfl rfl (.cons ⟨_, rfl, rfl⟩ (.cons ⟨_, rfl, rfl⟩ .nil)) (indexByte0 hl b) ?_
  rintro _ _ ⟨rfl, rfl⟩
  refine WL.det rfl rfl rfl (V.assign rfl ⟨_, rfl, rfl⟩) ?_
  refine WL.nil ?_
  refine NX.go ?_
  refine WC.sub (e' := [(4, true, _)]) ⟨rfl, trivial⟩ ?_
  refine WC.ret ?_
  refine ret1 hQ Tryz.results171 rfl ⟨_, rfl, rfl⟩ ?_
  exact ⟨rfl, rfl⟩
theorem lines {H0 : Heap} {M : List Nat} {vb : Value} {b : List UInt8} (hb : Sl tByte H0 M vb b) (hM : ∀ i ∈ M, i < H0.size) (hn : b.length ≤ 1000000) :
    CallsH Tryz.prog 145 #[vb] H0 (fun u H => Sl (tSl tByte) H M u (L.linesOf b) ∧ Keep [] H0 H) := by
  refine enter (args := [vb]) Tryz.call145 Tryz.func145 rfl Tryz.ntmps145 (Nat.le_of_ble_eq_true rfl) (fun W0 Q hQ => ?_)
  refine WC.sub (e' := [(0, true, vb)]) ⟨rfl, trivial⟩ ?_
  have K : Keep [] H0 H0 := Keep.refl _ _
  refine WC.seq ?_
  refine WC.region ?_
  refine WL.det rfl rfl rfl (V.assign rfl ⟨_, rfl, rfl⟩) ?_
  refine WL.nil ?_
  refine NX.go ?_
  refine WC.sub (e' := [(0, true, _)]) ⟨rfl, trivial⟩ ?_
  refine WC.seq ?_
  refine WC.region ?_
  refine WL.det rfl rfl rfl (V.assign rfl ⟨_, rfl, rfl⟩) ?_
  refine WL.nil ?_
  refine NX.go ?_
  refine WC.sub (e' := [(0, true, _), (3, true, _)]) ⟨rfl, rfl, trivial⟩ ?_
  refine WC.seq ?_
  refine WC.block ?_
  refine WC.loop (fun m e H => ∃ (k : Nat) (ls : List (List UInt8)) (vs vout : Value), (k ≤ b.length) ∧ (Sl tByte H (ob vout ++ M) vs (b.drop k)) ∧ (Own (tSl tByte) H (ob vout ++ M) 41 vout ls) ∧ (∀ i ∈ ob vout, H0.size ≤ i) ∧ (L.linesOf b = ls ++ L.linesOf (b.drop k)) ∧ e = [(0, true, vs), (3, true, vout)] ∧ b.length - k = m ∧ Keep [] H0 H) (m0 := _) (e0 := _) ⟨0, [], vb, .slice none 0 0, by omega, hb, Own.nil _ _ _ _, fun i hi => by simp [ob] at hi, by simp, rfl, rfl, K⟩ ⟨rfl, rfl, trivial⟩ ?_
  clear K
  rintro _ _ H1 ⟨k, ls, vs, vout, hk, hs, hO, hob, hls, rfl, rfl, K⟩
  have hdl : (b.drop k).length = b.length - k := List.length_drop
  have hll : ls.length ≤ b.length := by have h1 := congrArg List.length hls; have h2 := L.linesOf_length b; rw [List.length_append] at h1; omega
  have hfle := L.firstLen_le (b.drop k)
  have hge := Lib.indexByte_ge (b.drop k) 10
  have hle := L.indexByte_le (b.drop k) 10
  refine WC.seq ?_
  refine WC.seq ?_
  refine WC.region ?_
  refine WL.det rfl rfl rfl (V.move rfl ⟨_, rfl, rfl⟩) ?_
  refine WL.det rfl rfl rfl (V.len rfl Tryz.underlying41 ⟨_, rfl, rfl⟩ hs) ?_
  refine WL.det rfl rfl rfl (V.gtr rfl ⟨_, rfl, rfl⟩ ⟨_, rfl, rfl⟩) ?_
  refine WL.nil ?_
  refine NX.go ?_
  refine WC.sub (e' := [(0, true, _), (3, true, _), (7, true, _)]) ⟨rfl, rfl, rfl, trivial⟩ ?_
  refine WC.cond ⟨_, rfl, rfl⟩ (fun hc7 => ?_) (fun hc7 => ?_)
  · -- hc7 true
    try simp only [Bool.and_eq_true, Bool.or_eq_true, Bool.not_eq_true', Bool.not_eq_false', Bool.and_eq_false_iff, Bool.or_eq_false_iff, decide_eq_true_eq, decide_eq_false_iff_not, Int.not_lt, Int.not_le] at hc7
    refine WC.skip ?_
    refine NX.go ?_
    refine WC.block ?_
    refine WC.seq ?_
    refine WC.region ?_
    refine WL.det rfl rfl rfl (V.move rfl ⟨_, rfl, rfl⟩) ?_
    refine WL.call rfl rfl rfl rfl (.cons ⟨_, rfl, rfl⟩ (.cons ⟨_, rfl, rfl⟩ .nil)) (indexByte hs 10) ?_
    rintro _ _ ⟨rfl, rfl⟩
    refine WL.det rfl rfl rfl (V.add rfl ⟨_, rfl, rfl⟩ ⟨_, rfl, rfl⟩ (by unfold I64; omega)) ?_
    refine WL.det rfl rfl rfl (V.assign rfl ⟨_, rfl, rfl⟩) ?_
    refine WL.nil ?_
    refine NX.go ?_
    refine WC.sub (e' := [(0, true, _), (3, true, _), (4, true, _)]) ⟨rfl, rfl, rfl, trivial⟩ ?_
    refine WC.seq ?_
    refine WC.seq ?_
    refine WC.region ?_
    refine WL.det rfl rfl rfl (V.move rfl ⟨_, rfl, rfl⟩) ?_
    refine WL.det rfl rfl rfl (V.eql rfl ⟨_, rfl, rfl⟩ ⟨_, rfl, rfl⟩) ?_
    refine WL.nil ?_
    refine NX.go ?_
    refine WC.sub (e' := [(0, true, _), (3, true, _), (4, true, _), (12, true, _)]) ⟨rfl, rfl, rfl, rfl, trivial⟩ ?_
    refine WC.cond ⟨_, rfl, rfl⟩ (fun hc12 => ?_) (fun hc12 => ?_)
    · -- hc12 true
      try simp only [Bool.and_eq_true, Bool.or_eq_true, Bool.not_eq_true', Bool.not_eq_false', Bool.and_eq_false_iff, Bool.or_eq_false_iff, decide_eq_true_eq, decide_eq_false_iff_not, Int.not_lt, Int.not_le] at hc12
      have hfl := (L.indexByte_first (b.drop k)).1 (by omega)
      refine WC.region ?_
      refine WL.det rfl rfl rfl (V.move rfl ⟨_, rfl, rfl⟩) ?_
      refine WL.det rfl rfl rfl (V.len rfl Tryz.underlying41 ⟨_, rfl, rfl⟩ hs) ?_
      refine WL.det rfl rfl rfl (V.assign rfl ⟨_, rfl, rfl⟩) ?_
      refine WL.nil ?_
      refine NX.go ?_
      refine WC.sub (e' := [(0, true, _), (3, true, _), (4, true, _)]) ⟨rfl, rfl, rfl, trivial⟩ ?_
      refine WC.seq ?_
      refine WC.region ?_
      refine WL.det rfl rfl rfl (V.move rfl ⟨_, rfl, rfl⟩) ?_
      refine WL.det rfl rfl rfl (V.move rfl ⟨_, rfl, rfl⟩) ?_
      refine WL.det rfl rfl rfl (V.move rfl ⟨_, rfl, rfl⟩) ?_
      refine WL.ex rfl rfl rfl (X.sliceTo (hi := L.firstLen (b.drop k)) rfl Tryz.underlying41 Tryz.sizeOf5 hs ⟨_, rfl, rfl⟩ ⟨_, rfl, rfl⟩ (by omega) hfle) (fun v18 h18 => ?_)
      have hm19 := hO.mlt K hM
      refine WL.call rfl rfl rfl rfl (.cons ⟨_, rfl, rfl⟩ .nil) (cloneBytes h18 (by rw [List.length_take]; omega) hm19) ?_
      rintro v19 H2 ⟨hO19, k2, hob19⟩
      replace hs := hs.at k2
      replace hO := hO.at k2
      replace K := K.trans k2
      replace h18 := hO19.give hob19 hm19
      refine WL.app1 (T := (tSl tByte)) (M := M) rfl rfl rfl rfl rfl rfl rfl rfl Tryz.underlying142 Tryz.typeInfo41 rfl rfl rfl (by decide) ⟨_, rfl, rfl⟩ (tSl_V.2 h18) (fun _ => ⟨_, rfl, rfl⟩) hO (by show (_ + 1) * 24 ≤ 140737488355328; omega) (by decide) (fun v21 H3 tmp3 hO21 a3 => ?_)
      replace hs := hs.app a3
      replace h18 := h18.app a3
      have hob21 := a3.new K hob
      replace K := a3.K K hob
      refine WL.det rfl rfl rfl (V.assign rfl ⟨_, rfl, rfl⟩) ?_
      refine WL.nil ?_
      refine NX.go ?_
      refine WC.sub (e' := [(0, true, _), (3, true, _), (4, true, _)]) ⟨rfl, rfl, rfl, trivial⟩ ?_
      refine WC.region ?_
      refine WL.det rfl rfl rfl (V.move rfl ⟨_, rfl, rfl⟩) ?_
      refine WL.det rfl rfl rfl (V.move rfl ⟨_, rfl, rfl⟩) ?_
      refine WL.ex rfl rfl rfl (X.sliceFrom (lo := L.firstLen (b.drop k)) rfl Tryz.underlying41 Tryz.sizeOf5 hs ⟨_, rfl, rfl⟩ ⟨_, rfl, rfl⟩ (by omega) hfle) (fun v24 h24 => ?_)
      refine WL.det rfl rfl rfl (V.assign rfl ⟨_, rfl, rfl⟩) ?_
      refine WL.nil ?_
      refine NX.block_normal ?_
      have hne : b.drop k ≠ [] := fun e => by rw [e] at hc7; simp at hc7
      have hfp := L.firstLen_pos _ hne
      refine Head.mk ⟨k + L.firstLen (b.drop k), ls ++ [(b.drop k).take (L.firstLen (b.drop k))], v24, v21, by omega, ?_, hO21, hob21, ?_, rfl, rfl, K⟩ ⟨rfl, rfl, trivial⟩ (by omega)
      · rw [List.drop_drop] at h24; exact h24
      · rw [hls, L.linesOf_cut _ hne, List.drop_drop, List.append_assoc, List.singleton_append]
    · -- hc12 false
      try simp only [Bool.and_eq_true, Bool.or_eq_true, Bool.not_eq_true', Bool.not_eq_false', Bool.and_eq_false_iff, Bool.or_eq_false_iff, decide_eq_true_eq, decide_eq_false_iff_not, Int.not_lt, Int.not_le] at hc12
      have hfl := (L.indexByte_first (b.drop k)).2 (by omega)
      refine WC.skip ?_
      refine NX.go ?_
      refine WC.seq ?_
      refine WC.region ?_
      refine WL.det rfl rfl rfl (V.move rfl ⟨_, rfl, rfl⟩) ?_
      refine WL.det rfl rfl rfl (V.move rfl ⟨_, rfl, rfl⟩) ?_
      refine WL.det rfl rfl rfl (V.move rfl ⟨_, rfl, rfl⟩) ?_
      refine WL.ex rfl rfl rfl (X.sliceTo (hi := L.firstLen (b.drop k)) rfl Tryz.underlying41 Tryz.sizeOf5 hs ⟨_, rfl, rfl⟩ ⟨_, rfl, rfl⟩ (by omega) hfle) (fun v18 h18 => ?_)
      have hm19 := hO.mlt K hM
      refine WL.call rfl rfl rfl rfl (.cons ⟨_, rfl, rfl⟩ .nil) (cloneBytes h18 (by rw [List.length_take]; omega) hm19) ?_
      rintro v19 H2 ⟨hO19, k2, hob19⟩
      replace hs := hs.at k2
      replace hO := hO.at k2
      replace K := K.trans k2
      replace h18 := hO19.give hob19 hm19
      refine WL.app1 (T := (tSl tByte)) (M := M) rfl rfl rfl rfl rfl rfl rfl rfl Tryz.underlying142 Tryz.typeInfo41 rfl rfl rfl (by decide) ⟨_, rfl, rfl⟩ (tSl_V.2 h18) (fun _ => ⟨_, rfl, rfl⟩) hO (by show (_ + 1) * 24 ≤ 140737488355328; omega) (by decide) (fun v21 H3 tmp3 hO21 a3 => ?_)
      replace hs := hs.app a3
      replace h18 := h18.app a3
      have hob21 := a3.new K hob
      replace K := a3.K K hob
      refine WL.det rfl rfl rfl (V.assign rfl ⟨_, rfl, rfl⟩) ?_
      refine WL.nil ?_
      refine NX.go ?_
      refine WC.sub (e' := [(0, true, _), (3, true, _), (4, true, _)]) ⟨rfl, rfl, rfl, trivial⟩ ?_
      refine WC.region ?_
      refine WL.det rfl rfl rfl (V.move rfl ⟨_, rfl, rfl⟩) ?_
      refine WL.det rfl rfl rfl (V.move rfl ⟨_, rfl, rfl⟩) ?_
      refine WL.ex rfl rfl rfl (X.sliceFrom (lo := L.firstLen (b.drop k)) rfl Tryz.underlying41 Tryz.sizeOf5 hs ⟨_, rfl, rfl⟩ ⟨_, rfl, rfl⟩ (by omega) hfle) (fun v24 h24 => ?_)
      refine WL.det rfl rfl rfl (V.assign rfl ⟨_, rfl, rfl⟩) ?_
      refine WL.nil ?_
      refine NX.block_normal ?_
      have hne : b.drop k ≠ [] := fun e => by rw [e] at hc7; simp at hc7
      have hfp := L.firstLen_pos _ hne
      refine Head.mk ⟨k + L.firstLen (b.drop k), ls ++ [(b.drop k).take (L.firstLen (b.drop k))], v24, v21, by omega, ?_, hO21, hob21, ?_, rfl, rfl, K⟩ ⟨rfl, rfl, trivial⟩ (by omega)
      · rw [List.drop_drop] at h24; exact h24
      · rw [hls, L.linesOf_cut _ hne, List.drop_drop, List.append_assoc, List.singleton_append]
  · -- hc7 false
    try simp only [Bool.and_eq_true, Bool.or_eq_true, Bool.not_eq_true', Bool.not_eq_false', Bool.and_eq_false_iff, Bool.or_eq_false_iff, decide_eq_true_eq, decide_eq_false_iff_not, Int.not_lt, Int.not_le] at hc7
    refine WC.exit ?_
    refine NX.of_exit ?_
    refine NX.of_exit ?_
    refine NX.block_hit ?_
    refine NX.go ?_
    refine WC.seq ?_
    refine WC.region ?_
    refine WL.det rfl rfl rfl (V.move rfl ⟨_, rfl, rfl⟩) ?_
    refine WL.det rfl rfl rfl (V.assign rfl ⟨_, rfl, rfl⟩) ?_
    refine WL.nil ?_
    refine NX.go ?_
    refine WC.sub (e' := [(2, true, _)]) ⟨rfl, trivial⟩ ?_
    refine WC.ret ?_
    refine ret1 hQ Tryz.results145 rfl ⟨_, rfl, rfl⟩ ?_
    have e : b.drop k = [] := List.eq_nil_of_length_eq_zero (by omega)
    rw [e] at hls
    simp [L.linesOf] at hls
    rw [hls]
    exact ⟨hO.give hob hM, K⟩
theorem linesOf {H0 : Heap} {M : List Nat} {vb : Value} {b : List UInt8} (hb : Sl tByte H0 M vb b) (hM : ∀ i ∈ M, i < H0.size) (hn : b.length ≤ 1000000) :
    CallsH Tryz.prog 86 #[vb] H0 (fun u H => Sl (tSl tByte) H M u (L.linesOf b) ∧ Keep [] H0 H) := by
  refine enter (args := [vb]) Tryz.call86 Tryz.func86 rfl Tryz.ntmps86 (Nat.le_of_ble_eq_true rfl) (fun W0 Q hQ => ?_)
  refine WC.sub (e' := [(0, true, vb)]) ⟨rfl, trivial⟩ ?_
  have K : Keep [] H0 H0 := Keep.refl _ _
  refine WC.seq ?_
  refine WC.region ?_
  refine WL.det rfl rfl rfl (V.assign rfl ⟨_, rfl, rfl⟩) ?_
  refine WL.nil ?_
  refine NX.go ?_
  refine WC.sub (e' := [(0, true, _)]) ⟨rfl, trivial⟩ ?_
  refine WC.seq ?_
  refine WC.region ?_
  refine WL.det rfl rfl rfl (V.assign rfl ⟨_, rfl, rfl⟩) ?_
  refine WL.nil ?_
  refine NX.go ?_
  refine WC.sub (e' := [(0, true, _), (3, true, _)]) ⟨rfl, rfl, trivial⟩ ?_
  refine WC.seq ?_
  refine WC.region ?_
  refine WL.det rfl rfl rfl (V.assign rfl ⟨_, rfl, rfl⟩) ?_
  refine WL.nil ?_
  refine NX.go ?_
  refine WC.sub (e' := [(0, true, _), (3, true, _), (4, true, _)]) ⟨rfl, rfl, rfl, trivial⟩ ?_
  refine WC.seq ?_
  refine WC.seq ?_
  refine WC.region ?_
  refine WL.det rfl rfl rfl (V.assign rfl ⟨_, rfl, rfl⟩) ?_
  refine WL.nil ?_
  refine NX.go ?_
  refine WC.sub (e' := [(0, true, _), (3, true, _), (4, true, _), (5, true, _)]) ⟨rfl, rfl, rfl, rfl, trivial⟩ ?_
  refine WC.block ?_
  refine WC.loop (fun m e H => ∃ (k : Nat) (ls : List (List UInt8)) (cur : List UInt8) (vo vl : Value), (k ≤ b.length) ∧ (Own (tSl tByte) H (ob vo ++ (ob vl ++ M)) 41 vo ls) ∧ (Own tByte H (ob vl ++ M) 5 vl cur) ∧ (∀ i ∈ ob vo, H0.size ≤ i) ∧ (∀ i ∈ ob vl, H0.size ≤ i) ∧ (∀ i ∈ ob vo, i ∉ ob vl) ∧ (L.linesOf b = ls ++ L.linesOf (cur ++ b.drop k)) ∧ ((10 : UInt8) ∉ cur) ∧ (k = b.length → cur = []) ∧ (cur.length ≤ k) ∧ (ls.length ≤ k) ∧ e = [(0, true, vb), (3, true, vo), (4, true, vl), (5, true, iv (k : Nat))] ∧ b.length - k = m ∧ Keep [] H0 H) (m0 := _) (e0 := _) ⟨0, [], [], .slice none 0 0, .slice none 0 0, by omega, Own.nil _ _ _ _, Own.nil _ _ _ _, fun i hi => by simp [ob] at hi, fun i hi => by simp [ob] at hi, fun i hi => by simp [ob] at hi, by simp, by simp, by simp, by simp, by simp, rfl, rfl, K⟩ ⟨rfl, rfl, rfl, rfl, trivial⟩ ?_
  clear K
  rintro _ _ H1 ⟨k, ls, cur, vo, vl, hk, hO, hL, hob, hobl, hdj, hls, h10, hcur, hcl, hll, rfl, rfl, K⟩
  refine WC.seq ?_
  refine WC.seq ?_
  refine WC.region ?_
  refine WL.det rfl rfl rfl (V.move rfl ⟨_, rfl, rfl⟩) ?_
  refine WL.det rfl rfl rfl (V.move rfl ⟨_, rfl, rfl⟩) ?_
  refine WL.det rfl rfl rfl (V.len rfl Tryz.underlying41 ⟨_, rfl, rfl⟩ (hb.at K)) ?_
  refine WL.det rfl rfl rfl (V.lss rfl ⟨_, rfl, rfl⟩ ⟨_, rfl, rfl⟩) ?_
  refine WL.nil ?_
  refine NX.go ?_
  refine WC.sub (e' := [(0, true, _), (3, true, _), (4, true, _), (5, true, _), (9, true, _)]) ⟨rfl, rfl, rfl, rfl, rfl, trivial⟩ ?_
  refine WC.cond ⟨_, rfl, rfl⟩ (fun hc9 => ?_) (fun hc9 => ?_)
  · -- hc9 true
    try simp only [Bool.and_eq_true, Bool.or_eq_true, Bool.not_eq_true', Bool.not_eq_false', Bool.and_eq_false_iff, Bool.or_eq_false_iff, decide_eq_true_eq, decide_eq_false_iff_not, Int.not_lt, Int.not_le] at hc9
    refine WC.skip ?_
    refine NX.go ?_
    refine WC.seq ?_
    refine WC.block ?_
    refine WC.seq ?_
    refine WC.region ?_
    refine WL.det rfl rfl rfl (V.move rfl ⟨_, rfl, rfl⟩) ?_
    refine WL.det rfl rfl rfl (V.move rfl ⟨_, rfl, rfl⟩) ?_
    refine WL.det rfl rfl rfl (V.move rfl ⟨_, rfl, rfl⟩) ?_
    refine WL.ex rfl rfl rfl (X.idx rfl Tryz.underlying41 Tryz.sizeOf5 (hb.at K) ⟨_, rfl, rfl⟩ ⟨_, rfl, rfl⟩ rfl (gi (by omega))) (fun v15 h15 => ?_)
    refine WL.det rfl rfl rfl (V.loadByte rfl Tryz.isAgg5 Tryz.sizeOf5 h15 ⟨_, rfl, rfl⟩ (Reach.is _)) ?_
    refine WL.app1 (T := tByte) (M := M) rfl rfl rfl rfl rfl rfl rfl rfl Tryz.underlying41 Tryz.typeInfo5 rfl rfl rfl (by decide) ⟨_, rfl, rfl⟩ (tByte_V.2 rfl) (fun _ => ⟨_, rfl, rfl⟩) hL (by show (_ + 1) * 1 ≤ 140737488355328; omega) (by decide) (fun v18 H2 tmp2 hO18 a2 => ?_)
    have hdj18 := a2.disj hdj hO.lt
    replace hO := hO.app2 a2 hdj
    have hob18 := a2.new K hobl
    replace K := a2.K K hobl
    refine WL.det rfl rfl rfl (V.assign rfl ⟨_, rfl, rfl⟩) ?_
    refine WL.nil ?_
    refine NX.go ?_
    refine WC.sub (e' := [(0, true, _), (3, true, _), (4, true, _), (5, true, _)]) ⟨rfl, rfl, rfl, rfl, trivial⟩ ?_
    refine WC.seq ?_
    refine WC.region ?_
    refine WL.det rfl rfl rfl (V.move rfl ⟨_, rfl, rfl⟩) ?_
    refine WL.det rfl rfl rfl (V.move rfl ⟨_, rfl, rfl⟩) ?_
    refine WL.ex rfl rfl rfl (X.idx rfl Tryz.underlying41 Tryz.sizeOf5 (hb.at K) ⟨_, rfl, rfl⟩ ⟨_, rfl, rfl⟩ rfl (gi (by omega))) (fun v21 h21 => ?_)
    refine WL.det rfl rfl rfl (V.loadByte rfl Tryz.isAgg5 Tryz.sizeOf5 h21 ⟨_, rfl, rfl⟩ (Reach.is _)) ?_
    refine WL.det rfl rfl rfl (V.eql rfl ⟨_, rfl, rfl⟩ ⟨_, rfl, rfl⟩) ?_
    refine WL.det rfl rfl rfl (V.move rfl ⟨_, rfl, rfl⟩) ?_
    refine WL.gdet (Gd.no1 rfl rfl rfl rfl) rfl rfl (fun hg => V.move rfl ⟨_, rfl, rfl⟩) ?_
    refine WL.gdet (Gd.no1 rfl rfl rfl rfl) rfl rfl (fun hg => V.move rfl ⟨_, rfl, rfl⟩) ?_
    refine WL.gdet (Gd.no1 rfl rfl rfl rfl) rfl rfl (fun hg => V.len rfl Tryz.underlying41 ⟨_, rfl, hg⟩ (hb.at K)) ?_
    refine WL.gdet (Gd.no1 rfl rfl rfl rfl) rfl rfl (fun hg => V.sub rfl ⟨_, rfl, hg⟩ ⟨_, rfl, rfl⟩ (by unfold I64; omega)) ?_
    refine WL.gdet (Gd.no1 rfl rfl rfl rfl) rfl rfl (fun hg => V.eql rfl ⟨_, rfl, hg⟩ ⟨_, rfl, hg⟩) ?_
    refine WL.det rfl rfl rfl (V.or rfl ⟨_, rfl, rfl⟩ (fun hb => ⟨_, rfl, (congrArg Bool.not hb)⟩)) ?_
    refine WL.nil ?_
    refine NX.go ?_
    refine WC.sub (e' := [(0, true, _), (3, true, _), (4, true, _), (5, true, _), (30, true, _)]) ⟨rfl, rfl, rfl, rfl, rfl, trivial⟩ ?_
    refine WC.cond ⟨_, rfl, rfl⟩ (fun hc30 => ?_) (fun hc30 => ?_)
    · -- hc30 true
      try simp only [Bool.and_eq_true, Bool.or_eq_true, Bool.not_eq_true', Bool.not_eq_false', Bool.and_eq_false_iff, Bool.or_eq_false_iff, decide_eq_true_eq, decide_eq_false_iff_not, Int.not_lt, Int.not_le] at hc30
      refine WC.seq ?_
      refine WC.region ?_
      refine WL.det rfl rfl rfl (V.move rfl ⟨_, rfl, rfl⟩) ?_
      refine WL.det rfl rfl rfl (V.move rfl ⟨_, rfl, rfl⟩) ?_
      replace hO := hO.skip
      refine WL.app1 (T := (tSl tByte)) (M := M) rfl rfl rfl rfl rfl rfl rfl rfl Tryz.underlying142 Tryz.typeInfo41 rfl rfl rfl (by decide) ⟨_, rfl, rfl⟩ (tSl_V.2 ((hO18.any (M' := ob vo ++ M)).sl (fun i hi hm => (List.mem_append.1 hm).elim (fun h => hdj18 i h hi) (fun h => by have h1 := hob18 i hi; have h2 := hM i h; omega)) (fun _ hk => hk))) (fun _ => ⟨_, rfl, rfl⟩) hO (by show (_ + 1) * 24 ≤ 140737488355328; omega) (by decide) (fun v34 H3 tmp3 hO34 a3 => ?_)
      have hob34 := a3.new K hob
      replace K := a3.K K hob
      refine WL.det rfl rfl rfl (V.assign rfl ⟨_, rfl, rfl⟩) ?_
      refine WL.nil ?_
      refine NX.go ?_
      refine WC.sub (e' := [(0, true, _), (3, true, _), (5, true, _)]) ⟨rfl, rfl, rfl, trivial⟩ ?_
      refine WC.region ?_
      refine WL.det rfl rfl rfl (V.assign rfl ⟨_, rfl, rfl⟩) ?_
      refine WL.nil ?_
      refine NX.block_normal ?_
      refine NX.go ?_
      refine WC.sub (e' := [(0, true, _), (3, true, _), (4, true, _), (5, true, _)]) ⟨rfl, rfl, rfl, rfl, trivial⟩ ?_
      refine WC.region ?_
      refine WL.det rfl rfl rfl (V.move rfl ⟨_, rfl, rfl⟩) ?_
      refine WL.det rfl rfl rfl (V.add rfl ⟨_, rfl, rfl⟩ ⟨_, rfl, rfl⟩ (by unfold I64; omega)) ?_
      refine WL.det rfl rfl rfl (V.assign rfl ⟨_, rfl, rfl⟩) ?_
      refine WL.nil ?_
      have hdr : b.drop k = b[k] :: b.drop (k + 1) := List.drop_eq_getElem_cons (by omega)
      first
        | (have hsp : L.linesOf (cur ++ b.drop k) = (cur ++ [b[k]]) :: L.linesOf (b.drop (k + 1)) := by
             rw [hdr]
             rcases hc30 with h | h
             · have h' : b[k] = 10 := by
                 have := b[k].toNat_lt
                 exact UInt8.toNat_inj.1 (by show b[k].toNat = 10; omega)
               rw [h']; exact L.linesOf_at _ _ h10
             · rw [List.drop_of_length_le (show b.length ≤ k + 1 by omega), L.linesOf_last _ _ h10]; rfl
           exact Head.mk ⟨k + 1, ls ++ [cur ++ [b[k]]], [], v34, .slice none 0 0, by omega, hO34, Own.nil _ _ _ _, hob34, fun i hi => by simp [ob] at hi, fun i _ h => by simp [ob] at h, by rw [hls, hsp]; simp, by simp, by simp, by simp, by simp; omega, rfl, rfl, K⟩ ⟨rfl, rfl, rfl, rfl, trivial⟩ (by omega))
        | (have h10' : (10 : UInt8) ∉ cur ++ [b[k]] := by
             intro h
             rcases List.mem_append.1 h with h | h
             · exact h10 h
             · have h' : b[k] = 10 := (List.mem_singleton.1 h).symm
               have := hc30.1
               rw [h'] at this
               exact this rfl
           exact Head.mk ⟨k + 1, ls, cur ++ [b[k]], vo, v18, by omega, hO, hO18, hob, hob18, hdj18, by rw [hls, hdr]; simp, h10', fun e => by have := hc30.2; omega, by simp; omega, by omega, rfl, rfl, K⟩ ⟨rfl, rfl, rfl, rfl, trivial⟩ (by omega))
    · -- hc30 false
      try simp only [Bool.and_eq_true, Bool.or_eq_true, Bool.not_eq_true', Bool.not_eq_false', Bool.and_eq_false_iff, Bool.or_eq_false_iff, decide_eq_true_eq, decide_eq_false_iff_not, Int.not_lt, Int.not_le] at hc30
      refine WC.skip ?_
      refine NX.block_normal ?_
      refine NX.go ?_
      refine WC.region ?_
      refine WL.det rfl rfl rfl (V.move rfl ⟨_, rfl, rfl⟩) ?_
      refine WL.det rfl rfl rfl (V.add rfl ⟨_, rfl, rfl⟩ ⟨_, rfl, rfl⟩ (by unfold I64; omega)) ?_
      refine WL.det rfl rfl rfl (V.assign rfl ⟨_, rfl, rfl⟩) ?_
      refine WL.nil ?_
      have hdr : b.drop k = b[k] :: b.drop (k + 1) := List.drop_eq_getElem_cons (by omega)
      first
        | (have hsp : L.linesOf (cur ++ b.drop k) = (cur ++ [b[k]]) :: L.linesOf (b.drop (k + 1)) := by
             rw [hdr]
             rcases hc30 with h | h
             · have h' : b[k] = 10 := by
                 have := b[k].toNat_lt
                 exact UInt8.toNat_inj.1 (by show b[k].toNat = 10; omega)
               rw [h']; exact L.linesOf_at _ _ h10
             · rw [List.drop_of_length_le (show b.length ≤ k + 1 by omega), L.linesOf_last _ _ h10]; rfl
           exact Head.mk ⟨k + 1, ls ++ [cur ++ [b[k]]], [], v34, .slice none 0 0, by omega, hO34, Own.nil _ _ _ _, hob34, fun i hi => by simp [ob] at hi, fun i _ h => by simp [ob] at h, by rw [hls, hsp]; simp, by simp, by simp, by simp, by simp; omega, rfl, rfl, K⟩ ⟨rfl, rfl, rfl, rfl, trivial⟩ (by omega))
        | (have h10' : (10 : UInt8) ∉ cur ++ [b[k]] := by
             intro h
             rcases List.mem_append.1 h with h | h
             · exact h10 h
             · have h' : b[k] = 10 := (List.mem_singleton.1 h).symm
               have := hc30.1
               rw [h'] at this
               exact this rfl
           exact Head.mk ⟨k + 1, ls, cur ++ [b[k]], vo, v18, by omega, hO, hO18, hob, hob18, hdj18, by rw [hls, hdr]; simp, h10', fun e => by have := hc30.2; omega, by simp; omega, by omega, rfl, rfl, K⟩ ⟨rfl, rfl, rfl, rfl, trivial⟩ (by omega))
  · -- hc9 false
    try simp only [Bool.and_eq_true, Bool.or_eq_true, Bool.not_eq_true', Bool.not_eq_false', Bool.and_eq_false_iff, Bool.or_eq_false_iff, decide_eq_true_eq, decide_eq_false_iff_not, Int.not_lt, Int.not_le] at hc9
    refine WC.exit ?_
    refine NX.of_exit ?_
    refine NX.of_exit ?_
    refine NX.block_hit ?_
    refine NX.go ?_
    refine WC.seq ?_
    refine WC.region ?_
    refine WL.det rfl rfl rfl (V.move rfl ⟨_, rfl, rfl⟩) ?_
    refine WL.det rfl rfl rfl (V.assign rfl ⟨_, rfl, rfl⟩) ?_
    refine WL.nil ?_
    refine NX.go ?_
    refine WC.sub (e' := [(2, true, _)]) ⟨rfl, trivial⟩ ?_
    refine WC.ret ?_
    refine ret1 hQ Tryz.results86 rfl ⟨_, rfl, rfl⟩ ?_
    have hc := hcur (by omega)
    subst hc
    rw [List.drop_of_length_le (by omega)] at hls
    simp [L.linesOf] at hls
    rw [hls]
    exact ⟨hO.skip.give hob hM, K⟩
end Go.Proofs.YtpmjnbidmcnhnaaGreatDoor
end
/- part -/
section
namespace Go.Proofs.YtpmjnbidmcnhnaaGreatDoor
open Go.NB
set_option maxRecDepth 20000
theorem indexPair {H0 : Heap} {M : List Nat} {v : Value} {xs : List (Nat × Nat)} {f : Nat} {caps : List Value} {p : Nat × Nat → Bool} (hv : Sl tPair H0 M v xs) (hp : ∀ H' u x, Keep [] H0 H' → tPair.V H' M u x → x ∈ xs → CallsH Tryz.prog f (([] ++ [u]) ++ caps).toArray H' fun r H'' => r = .bool (p x) ∧ Keep [] H' H'') :
    CallsH Tryz.prog 187 #[v, .func (.func f) #[] caps.toArray] H0 (fun r H => r = iv (L.findI p xs) ∧ Keep [] H0 H) := by
  refine enter (args := [v, .func (.func f) #[] caps.toArray]) Tryz.call187 Tryz.func187 rfl Tryz.ntmps187 (Nat.le_of_ble_eq_true rfl) (fun W0 Q hQ => ?_)
  refine WC.sub (e' := [(0, true, v), (1, true, .func (.func f) #[] caps.toArray)]) ⟨rfl, rfl, trivial⟩ ?_
  have K : Keep [] H0 H0 := Keep.refl _ _
  have hLn := hv.len
  refine WC.seq ?_
  refine WC.region ?_
  refine WL.det rfl rfl rfl (V.assign rfl ⟨_, rfl, rfl⟩) ?_
  refine WL.nil ?_
  refine NX.go ?_
  refine WC.sub (e' := [(0, true, _), (1, true, _)]) ⟨rfl, rfl, trivial⟩ ?_
  refine WC.seq ?_
  refine WC.seq ?_
  refine WC.region ?_
  refine WL.det rfl rfl rfl (V.move rfl ⟨_, rfl, rfl⟩) ?_
  refine WL.det rfl rfl rfl (V.len rfl Tryz.underlying215 ⟨_, rfl, rfl⟩ (hv.at K)) ?_
  refine WL.det rfl rfl rfl (V.move rfl ⟨_, rfl, rfl⟩) ?_
  refine WL.nil ?_
  refine NX.go ?_
  refine WC.sub (e' := [(0, true, _), (1, true, _), (7, true, _), (8, true, _)]) ⟨rfl, rfl, rfl, rfl, trivial⟩ ?_
  refine WC.block ?_
  refine WC.loop (fun m e H => ∃ (k : Nat), (k ≤ xs.length) ∧ (∀ j (h : j < xs.length), j < k → p xs[j] = false) ∧ e = [(0, true, v), (1, true, .func (.func f) #[] caps.toArray), (7, true, iv (xs.length : Nat)), (8, true, iv (k : Nat))] ∧ xs.length - k = m ∧ Keep [] H0 H) (m0 := _) (e0 := _) ⟨0, by omega, fun j _ h => by omega, rfl, rfl, K⟩ ⟨rfl, rfl, rfl, rfl, trivial⟩ ?_
  clear K
  rintro _ _ H1 ⟨k, hk, hno, rfl, rfl, K⟩
  refine WC.seq ?_
  refine WC.region ?_
  refine WL.det rfl rfl rfl (V.lss rfl ⟨_, rfl, rfl⟩ ⟨_, rfl, rfl⟩) ?_
  refine WL.nil ?_
  refine NX.go ?_
  refine WC.sub (e' := [(0, true, _), (1, true, _), (7, true, _), (8, true, _), (9, true, _)]) ⟨rfl, rfl, rfl, rfl, rfl, trivial⟩ ?_
  refine WC.seq ?_
  refine WC.cond ⟨_, rfl, rfl⟩ (fun hc9 => ?_) (fun hc9 => ?_)
  · -- hc9 true
    try simp only [Bool.and_eq_true, Bool.or_eq_true, Bool.not_eq_true', Bool.not_eq_false', Bool.and_eq_false_iff, Bool.or_eq_false_iff, decide_eq_true_eq, decide_eq_false_iff_not, Int.not_lt, Int.not_le] at hc9
    refine WC.skip ?_
    refine NX.go ?_
    refine WC.seq ?_
    refine WC.block ?_
    refine WC.seq ?_
    refine WC.region ?_
    refine WL.det rfl rfl rfl (V.move rfl ⟨_, rfl, rfl⟩) ?_
    refine WL.det rfl rfl rfl (V.assign rfl ⟨_, rfl, rfl⟩) ?_
    refine WL.nil ?_
    refine NX.go ?_
    refine WC.sub (e' := [(0, true, _), (1, true, _), (5, true, _), (7, true, _), (8, true, _)]) ⟨rfl, rfl, rfl, rfl, rfl, trivial⟩ ?_
    refine WC.seq ?_
    refine WC.region ?_
    refine WL.det rfl rfl rfl (V.move rfl ⟨_, rfl, rfl⟩) ?_
    refine WL.det rfl rfl rfl (V.move rfl ⟨_, rfl, rfl⟩) ?_
    refine WL.det rfl rfl rfl (V.move rfl ⟨_, rfl, rfl⟩) ?_
    refine WL.ex rfl rfl rfl (X.idx (i := k) rfl Tryz.underlying215 Tryz.sizeOf228 (hv.at K) ⟨_, rfl, rfl⟩ ⟨_, rfl, rfl⟩ rfl (gi (by omega))) (fun v14 h14 => ?_)
    refine WL.ex rfl rfl rfl (X.load rfl Tryz.isAgg228 Tryz.sizeOf228 h14 ⟨_, rfl, rfl⟩ (Reach.is _)) (fun v15 h15 => ?_)
    refine WL.callC (first := []) (caps := caps) rfl rfl rfl rfl ⟨_, rfl, rfl⟩ (.cons ⟨_, rfl, rfl⟩ .nil) (hp _ _ _ K h15 (List.getElem_mem _)) ?_
    rintro _ H8 ⟨rfl, k8⟩
    replace K := K.trans k8
    refine WL.nil ?_
    refine NX.go ?_
    refine WC.sub (e' := [(0, true, _), (1, true, _), (5, true, _), (7, true, _), (8, true, _), (16, true, _)]) ⟨rfl, rfl, rfl, rfl, rfl, rfl, trivial⟩ ?_
    refine WC.cond ⟨_, rfl, rfl⟩ (fun hc16 => ?_) (fun hc16 => ?_)
    · -- hc16 true
      try simp only [Bool.and_eq_true, Bool.or_eq_true, Bool.not_eq_true', Bool.not_eq_false', Bool.and_eq_false_iff, Bool.or_eq_false_iff, decide_eq_true_eq, decide_eq_false_iff_not, Int.not_lt, Int.not_le] at hc16
      refine WC.seq ?_
      refine WC.region ?_
      refine WL.det rfl rfl rfl (V.move rfl ⟨_, rfl, rfl⟩) ?_
      refine WL.det rfl rfl rfl (V.assign rfl ⟨_, rfl, rfl⟩) ?_
      refine WL.nil ?_
      refine NX.go ?_
      refine WC.sub (e' := [(4, true, _)]) ⟨rfl, trivial⟩ ?_
      refine WC.ret ?_
      refine NX.block_ret ?_
      refine NX.of_ret ?_
      refine NX.of_ret ?_
      refine NX.block_ret ?_
      refine NX.of_ret ?_
      refine ret1 hQ Tryz.results187 rfl ⟨_, rfl, rfl⟩ ?_
      first
        | (refine ⟨?_, K⟩
           rw [L.findI_some (by omega) hc16 (fun j h => hno j (by omega) h)]; done)
        | (refine ⟨?_, K⟩
           rw [L.findI_none (fun x hx => by obtain ⟨j, hj, rfl⟩ := List.getElem_of_mem hx; exact hno j hj (by omega))]
           rfl)
    · -- hc16 false
      try simp only [Bool.and_eq_true, Bool.or_eq_true, Bool.not_eq_true', Bool.not_eq_false', Bool.and_eq_false_iff, Bool.or_eq_false_iff, decide_eq_true_eq, decide_eq_false_iff_not, Int.not_lt, Int.not_le] at hc16
      refine WC.skip ?_
      refine NX.block_normal ?_
      refine NX.go ?_
      refine WC.region ?_
      refine WL.det rfl rfl rfl (V.add rfl ⟨_, rfl, rfl⟩ ⟨_, rfl, rfl⟩ (by unfold I64; omega)) ?_
      refine WL.det rfl rfl rfl (V.move rfl ⟨_, rfl, rfl⟩) ?_
      refine WL.nil ?_
      exact Head.mk ⟨k + 1, by omega, fun j h1 h2 => (Nat.lt_succ_iff_lt_or_eq.1 h2).elim (hno j h1) (fun e => by subst e; exact hc16), rfl, rfl, K⟩ ⟨rfl, rfl, rfl, rfl, trivial⟩ (by omega)
  · -- hc9 false
    try simp only [Bool.and_eq_true, Bool.or_eq_true, Bool.not_eq_true', Bool.not_eq_false', Bool.and_eq_false_iff, Bool.or_eq_false_iff, decide_eq_true_eq, decide_eq_false_iff_not, Int.not_lt, Int.not_le] at hc9
    refine WC.exit ?_
    refine NX.of_exit ?_
    refine NX.of_exit ?_
    refine NX.block_hit ?_
    refine NX.go ?_
    refine WC.seq ?_
    refine WC.region ?_
    refine WL.det rfl rfl rfl (V.assign rfl ⟨_, rfl, rfl⟩) ?_
    refine WL.nil ?_
    refine NX.go ?_
    refine WC.sub (e' := [(4, true, _)]) ⟨rfl, trivial⟩ ?_
    refine WC.ret ?_
    refine ret1 hQ Tryz.results187 rfl ⟨_, rfl, rfl⟩ ?_
    first
      | (refine ⟨?_, K⟩
         rw [L.findI_some (by omega) hc16 (fun j h => hno j (by omega) h)]; done)
      | (refine ⟨?_, K⟩
         rw [L.findI_none (fun x hx => by obtain ⟨j, hj, rfl⟩ := List.getElem_of_mem hx; exact hno j hj (by omega))]
         rfl)
theorem at1 {H0 : Heap} {g : Nat} {k : Int} (p : Nat × Nat) (hg : cell H0 g 0 = some (iv k)) :
    CallsH Tryz.prog 188 #[.agg #[iv p.1, iv p.2], .pointer (some ⟨g, 0, none⟩)] H0 (fun r H => r = .bool (decide ((p.1 : Int) = k)) ∧ Keep [] H0 H) := by
  refine enter (args := [.agg #[iv p.1, iv p.2], .pointer (some ⟨g, 0, none⟩)]) Tryz.call188 Tryz.func188 rfl Tryz.ntmps188 (Nat.le_of_ble_eq_true rfl) (fun W0 Q hQ => ?_)
  refine WC.sub (e' := [(0, true, .agg #[iv p.1, iv p.2]), (1, true, .pointer (some ⟨g, 0, none⟩))]) ⟨rfl, rfl, trivial⟩ ?_
  have K : Keep [] H0 H0 := Keep.refl _ _
  refine WC.seq ?_
  refine WC.region ?_
  refine WL.box (cs := [iv p.1, iv p.2]) rfl rfl rfl rfl ⟨_, rfl, rfl⟩ rfl (fun g2 H1 hB2 hn2 k1 => ?_)
  replace K := K.trans k1
  refine WL.det rfl rfl rfl (V.assign rfl ⟨_, rfl, rfl⟩) ?_
  refine WL.nil ?_
  refine NX.go ?_
  refine WC.sub (e' := [(1, true, _), (2, true, _)]) ⟨rfl, rfl, trivial⟩ ?_
  refine WC.seq ?_
  refine WC.region ?_
  refine WL.det rfl rfl rfl (V.fieldAddr 0 rfl Tryz.underlying228 rfl Tryz.sizeOf3 (by decide) ⟨_, rfl, rfl⟩ rfl) ?_
  refine WL.det rfl rfl rfl (G.load rfl Tryz.isAgg3 ⟨_, rfl, rfl⟩ (hB2.get rfl) (Reach.is _)) ?_
  refine WL.det rfl rfl rfl (G.load rfl Tryz.isAgg3 ⟨_, rfl, rfl⟩ hg (Reach.of K (Reach.is _))) ?_
  refine WL.det rfl rfl rfl (V.eql rfl ⟨_, rfl, rfl⟩ ⟨_, rfl, rfl⟩) ?_
  refine WL.det rfl rfl rfl (V.assign rfl ⟨_, rfl, rfl⟩) ?_
  refine WL.nil ?_
  refine NX.go ?_
  refine WC.sub (e' := [(3, true, _)]) ⟨rfl, trivial⟩ ?_
  refine WC.ret ?_
  refine ret1 hQ Tryz.results188 rfl ⟨_, rfl, rfl⟩ ?_
  exact ⟨rfl, K⟩
theorem at0 {H0 : Heap} {M : List Nat} {v : Value} {ps : List (Nat × Nat)} (hv : Sl tPair H0 M v ps) (k : Nat) :
    CallsH Tryz.prog 169 #[v, iv (k : Nat)] H0 (fun r H => r = iv (L.at_ ps k) ∧ Keep [] H0 H) := by
  refine enter (args := [v, iv (k : Nat)]) Tryz.call169 Tryz.func169 rfl Tryz.ntmps169 (Nat.le_of_ble_eq_true rfl) (fun W0 Q hQ => ?_)
  refine WC.sub (e' := [(0, true, v), (1, true, iv (k : Nat))]) ⟨rfl, rfl, trivial⟩ ?_
  have K : Keep [] H0 H0 := Keep.refl _ _
  refine WC.seq ?_
  refine WC.region ?_
  refine WL.box (cs := [_]) rfl rfl rfl rfl ⟨_, rfl, rfl⟩ rfl (fun g3 H1 hB3 hn3 k1 => ?_)
  replace K := K.trans k1
  refine WL.det rfl rfl rfl (V.assign rfl ⟨_, rfl, rfl⟩) ?_
  refine WL.nil ?_
  refine NX.go ?_
  refine WC.sub (e' := [(0, true, _), (3, true, _)]) ⟨rfl, rfl, trivial⟩ ?_
  refine WC.seq ?_
  refine WC.region ?_
  refine WL.det rfl rfl rfl (V.move rfl ⟨_, rfl, rfl⟩) ?_
  refine WL.det rfl rfl rfl (V.makeFunc (caps := [.tmp 3]) (vs := [.pointer (some ⟨g3, 0, none⟩)]) rfl (fun a hf => by simp [hf.eval (x := .tmp 3) ⟨_, rfl, rfl⟩])) ?_
  refine WL.call rfl rfl rfl rfl (.cons ⟨_, rfl, rfl⟩ (.cons ⟨_, rfl, rfl⟩ .nil)) (indexPair (f := 188) (caps := [.pointer (some ⟨g3, 0, none⟩)]) (p := fun p => decide ((p.1 : Int) = k)) (hv.at K) (fun H' u x k' hu _ => by
    obtain ⟨cs, ⟨rfl, _⟩, rfl⟩ := hu
    exact at1 x ((hB3.at k').get rfl))) ?_
  rintro _ H2 ⟨rfl, k2⟩
  replace hB3 := hB3.at k2
  replace K := K.trans k2
  refine WL.det rfl rfl rfl (V.assign rfl ⟨_, rfl, rfl⟩) ?_
  refine WL.nil ?_
  refine NX.go ?_
  refine WC.sub (e' := [(0, true, _), (5, true, _)]) ⟨rfl, rfl, trivial⟩ ?_
  refine WC.seq ?_
  refine WC.seq ?_
  refine WC.region ?_
  refine WL.det rfl rfl rfl (V.move rfl ⟨_, rfl, rfl⟩) ?_
  refine WL.det rfl rfl rfl (V.lss rfl ⟨_, rfl, rfl⟩ ⟨_, rfl, rfl⟩) ?_
  refine WL.nil ?_
  refine NX.go ?_
  refine WC.sub (e' := [(0, true, _), (5, true, _), (10, true, _)]) ⟨rfl, rfl, rfl, trivial⟩ ?_
  refine WC.cond ⟨_, rfl, rfl⟩ (fun hc10 => ?_) (fun hc10 => ?_)
  · -- hc10 true
    try simp only [Bool.and_eq_true, Bool.or_eq_true, Bool.not_eq_true', Bool.not_eq_false', Bool.and_eq_false_iff, Bool.or_eq_false_iff, decide_eq_true_eq, decide_eq_false_iff_not, Int.not_lt, Int.not_le] at hc10
    refine WC.seq ?_
    refine WC.region ?_
    refine WL.det rfl rfl rfl (V.assign rfl ⟨_, rfl, rfl⟩) ?_
    refine WL.nil ?_
    refine NX.go ?_
    refine WC.sub (e' := [(4, true, _)]) ⟨rfl, trivial⟩ ?_
    refine WC.ret ?_
    refine NX.of_ret ?_
    refine ret1 hQ Tryz.results169 rfl ⟨_, rfl, rfl⟩ ?_
    first
      | (rw [L.at_none hc10]; exact ⟨rfl, K⟩)
      | (rw [L.at_some hi hi1]; exact ⟨rfl, K⟩)
  · -- hc10 false
    try simp only [Bool.and_eq_true, Bool.or_eq_true, Bool.not_eq_true', Bool.not_eq_false', Bool.and_eq_false_iff, Bool.or_eq_false_iff, decide_eq_true_eq, decide_eq_false_iff_not, Int.not_lt, Int.not_le] at hc10
    obtain ⟨i, hi, hi1, hi2, hi3⟩ : ∃ i : Nat, ∃ h : i < ps.length, L.findI (fun p => decide ((p.1 : Int) = k)) ps = i ∧ (decide ((ps[i].1 : Int) = k)) = true ∧ ∀ j (h : j < i), (decide ((ps[j].1 : Int) = k)) = false := by
      rcases L.findI_cases (fun p : Nat × Nat => decide ((p.1 : Int) = k)) ps with ⟨h1, _⟩ | h
      · omega
      · exact h
    refine WC.skip ?_
    refine NX.go ?_
    refine WC.seq ?_
    refine WC.region ?_
    refine WL.det rfl rfl rfl (V.move rfl ⟨_, rfl, rfl⟩) ?_
    refine WL.det rfl rfl rfl (V.move rfl ⟨_, rfl, rfl⟩) ?_
    refine WL.ex rfl rfl rfl (X.idx (i := i) rfl Tryz.underlying215 Tryz.sizeOf228 (hv.at K) ⟨_, rfl, rfl⟩ ⟨_, rfl, rfl⟩ hi1 (gi (by omega))) (fun v13 h13 => ?_)
    refine WL.ex rfl rfl rfl (X.field rfl Tryz.underlying228 rfl Tryz.sizeOf3 (by decide) pairB rfl h13 ⟨_, rfl, rfl⟩) (fun v14 h14 => ?_)
    refine WL.det rfl rfl rfl (V.loadInt rfl Tryz.isAgg3 Tryz.sizeOf3 h14 ⟨_, rfl, rfl⟩ (Reach.is _)) ?_
    refine WL.det rfl rfl rfl (V.assign rfl ⟨_, rfl, rfl⟩) ?_
    refine WL.nil ?_
    refine NX.go ?_
    refine WC.sub (e' := [(4, true, _)]) ⟨rfl, trivial⟩ ?_
    refine WC.ret ?_
    refine ret1 hQ Tryz.results169 rfl ⟨_, rfl, rfl⟩ ?_
    first
      | (rw [L.at_none hc10]; exact ⟨rfl, K⟩)
      | (rw [L.at_some hi hi1]; exact ⟨rfl, K⟩)
theorem equalLines {H0 : Heap} {M : List Nat} {va vb : Value} {a b : List (List UInt8)} {f : Nat} {p : List UInt8 → List UInt8 → Bool} (ha : Sl (tSl tByte) H0 M va a) (hb : Sl (tSl tByte) H0 M vb b) (hp : ∀ H' u w x y, Keep [] H0 H' → (tSl tByte).V H' M u x → (tSl tByte).V H' M w y → CallsH Tryz.prog f #[u, w] H' fun r H'' => r = .bool (p x y) ∧ Keep [] H' H'') :
    CallsH Tryz.prog 189 #[va, vb, .func (.func f) #[] #[]] H0 (fun r H => r = .bool (L.eqBy p a b) ∧ Keep [] H0 H) := by
  refine enter (args := [va, vb, .func (.func f) #[] #[]]) Tryz.call189 Tryz.func189 rfl Tryz.ntmps189 (Nat.le_of_ble_eq_true rfl) (fun W0 Q hQ => ?_)
  refine WC.sub (e' := [(0, true, va), (1, true, vb), (2, true, .func (.func f) #[] #[])]) ⟨rfl, rfl, rfl, trivial⟩ ?_
  have K : Keep [] H0 H0 := Keep.refl _ _
  have hLa := ha.len
  have hLb := hb.len
  refine WC.seq ?_
  refine WC.region ?_
  refine WL.det rfl rfl rfl (V.assign rfl ⟨_, rfl, rfl⟩) ?_
  refine WL.nil ?_
  refine NX.go ?_
  refine WC.sub (e' := [(0, true, _), (1, true, _), (2, true, _)]) ⟨rfl, rfl, rfl, trivial⟩ ?_
  refine WC.seq ?_
  refine WC.seq ?_
  refine WC.region ?_
  refine WL.det rfl rfl rfl (V.move rfl ⟨_, rfl, rfl⟩) ?_
  refine WL.det rfl rfl rfl (V.len rfl Tryz.underlying142 ⟨_, rfl, rfl⟩ (ha.at K)) ?_
  refine WL.det rfl rfl rfl (V.move rfl ⟨_, rfl, rfl⟩) ?_
  refine WL.det rfl rfl rfl (V.len rfl Tryz.underlying142 ⟨_, rfl, rfl⟩ (hb.at K)) ?_
  refine WL.det rfl rfl rfl (V.neq rfl ⟨_, rfl, rfl⟩ ⟨_, rfl, rfl⟩) ?_
  refine WL.nil ?_
  refine NX.go ?_
  refine WC.sub (e' := [(0, true, _), (1, true, _), (2, true, _), (14, true, _)]) ⟨rfl, rfl, rfl, rfl, trivial⟩ ?_
  refine WC.cond ⟨_, rfl, rfl⟩ (fun hc14 => ?_) (fun hc14 => ?_)
  · -- hc14 true
    try simp only [Bool.and_eq_true, Bool.or_eq_true, Bool.not_eq_true', Bool.not_eq_false', Bool.and_eq_false_iff, Bool.or_eq_false_iff, decide_eq_true_eq, decide_eq_false_iff_not, Int.not_lt, Int.not_le] at hc14
    refine WC.seq ?_
    refine WC.region ?_
    refine WL.det rfl rfl rfl (V.assign rfl ⟨_, rfl, rfl⟩) ?_
    refine WL.nil ?_
    refine NX.go ?_
    refine WC.sub (e' := [(6, true, _)]) ⟨rfl, trivial⟩ ?_
    refine WC.ret ?_
    refine NX.of_ret ?_
    refine ret1 hQ Tryz.results189 rfl ⟨_, rfl, rfl⟩ ?_
    first
      | (refine ⟨?_, K⟩
         rw [L.eqBy_len (fun e => by rw [e] at hc14; omega)]; done)
      | (refine ⟨?_, K⟩
         rw [L.eqBy_no (i := k) (by omega) (by omega) hc30]; done)
      | (refine ⟨?_, K⟩
         rw [L.eqBy_yes hlen (fun j h1 h2 => hyes j h1 h2 (by omega))]; done)
  · -- hc14 false
    try simp only [Bool.and_eq_true, Bool.or_eq_true, Bool.not_eq_true', Bool.not_eq_false', Bool.and_eq_false_iff, Bool.or_eq_false_iff, decide_eq_true_eq, decide_eq_false_iff_not, Int.not_lt, Int.not_le] at hc14
    have hlen : a.length = b.length := by omega
    refine WC.skip ?_
    refine NX.go ?_
    refine WC.seq ?_
    refine WC.seq ?_
    refine WC.region ?_
    refine WL.det rfl rfl rfl (V.move rfl ⟨_, rfl, rfl⟩) ?_
    refine WL.det rfl rfl rfl (V.len rfl Tryz.underlying142 ⟨_, rfl, rfl⟩ (ha.at K)) ?_
    refine WL.det rfl rfl rfl (V.move rfl ⟨_, rfl, rfl⟩) ?_
    refine WL.nil ?_
    refine NX.go ?_
    refine WC.sub (e' := [(1, true, _), (2, true, _), (15, true, _), (16, true, _), (17, true, _)]) ⟨rfl, rfl, rfl, rfl, rfl, trivial⟩ ?_
    refine WC.block ?_
    refine WC.loop (fun m e H => ∃ (k : Nat), (k ≤ a.length) ∧ (∀ j (h1 : j < a.length) (h2 : j < b.length), j < k → p a[j] b[j] = true) ∧ e = [(1, true, vb), (2, true, .func (.func f) #[] #[]), (15, true, va), (16, true, iv (a.length : Nat)), (17, true, iv (k : Nat))] ∧ a.length - k = m ∧ Keep [] H0 H) (m0 := _) (e0 := _) ⟨0, by omega, fun j _ _ h => by omega, rfl, rfl, K⟩ ⟨rfl, rfl, rfl, rfl, rfl, trivial⟩ ?_
    clear K
    rintro _ _ H1 ⟨k, hk, hyes, rfl, rfl, K⟩
    refine WC.seq ?_
    refine WC.region ?_
    refine WL.det rfl rfl rfl (V.lss rfl ⟨_, rfl, rfl⟩ ⟨_, rfl, rfl⟩) ?_
    refine WL.nil ?_
    refine NX.go ?_
    refine WC.sub (e' := [(1, true, _), (2, true, _), (15, true, _), (16, true, _), (17, true, _), (18, true, _)]) ⟨rfl, rfl, rfl, rfl, rfl, rfl, trivial⟩ ?_
    refine WC.seq ?_
    refine WC.cond ⟨_, rfl, rfl⟩ (fun hc18 => ?_) (fun hc18 => ?_)
    · -- hc18 true
      try simp only [Bool.and_eq_true, Bool.or_eq_true, Bool.not_eq_true', Bool.not_eq_false', Bool.and_eq_false_iff, Bool.or_eq_false_iff, decide_eq_true_eq, decide_eq_false_iff_not, Int.not_lt, Int.not_le] at hc18
      refine WC.skip ?_
      refine NX.go ?_
      refine WC.seq ?_
      refine WC.block ?_
      refine WC.seq ?_
      refine WC.region ?_
      refine WL.det rfl rfl rfl (V.move rfl ⟨_, rfl, rfl⟩) ?_
      refine WL.ex rfl rfl rfl (X.idx (i := k) rfl Tryz.underlying142 Tryz.sizeOf41 (ha.at K) ⟨_, rfl, rfl⟩ ⟨_, rfl, rfl⟩ rfl (gi (by omega))) (fun v20 h20 => ?_)
      refine WL.ex rfl rfl rfl (X.loadSl rfl Tryz.isAgg41 Tryz.sizeOf41 h20 ⟨_, rfl, rfl⟩ (Reach.is _)) (fun v21 h21 => ?_)
      have l21 := h21.len
      refine WL.det rfl rfl rfl (V.assign rfl ⟨_, rfl, rfl⟩) ?_
      refine WL.det rfl rfl rfl (V.assign rfl ⟨_, rfl, rfl⟩) ?_
      refine WL.nil ?_
      refine NX.go ?_
      refine WC.sub (e' := [(1, true, _), (2, true, _), (7, true, _), (8, true, _), (15, true, _), (16, true, _), (17, true, _)]) ⟨rfl, rfl, rfl, rfl, rfl, rfl, rfl, trivial⟩ ?_
      refine WC.seq ?_
      refine WC.region ?_
      refine WL.det rfl rfl rfl (V.move rfl ⟨_, rfl, rfl⟩) ?_
      refine WL.det rfl rfl rfl (V.move rfl ⟨_, rfl, rfl⟩) ?_
      refine WL.ex rfl rfl rfl (X.idx (i := k) rfl Tryz.underlying142 Tryz.sizeOf41 (hb.at K) ⟨_, rfl, rfl⟩ ⟨_, rfl, rfl⟩ rfl (gi (by omega))) (fun v24 h24 => ?_)
      refine WL.ex rfl rfl rfl (X.loadSl rfl Tryz.isAgg41 Tryz.sizeOf41 h24 ⟨_, rfl, rfl⟩ (Reach.is _)) (fun v25 h25 => ?_)
      have l25 := h25.len
      refine WL.det rfl rfl rfl (V.assign rfl ⟨_, rfl, rfl⟩) ?_
      refine WL.nil ?_
      refine NX.go ?_
      refine WC.sub (e' := [(1, true, _), (2, true, _), (8, true, _), (9, true, _), (15, true, _), (16, true, _), (17, true, _)]) ⟨rfl, rfl, rfl, rfl, rfl, rfl, rfl, trivial⟩ ?_
      refine WC.seq ?_
      refine WC.region ?_
      refine WL.det rfl rfl rfl (V.move rfl ⟨_, rfl, rfl⟩) ?_
      refine WL.det rfl rfl rfl (V.move rfl ⟨_, rfl, rfl⟩) ?_
      refine WL.det rfl rfl rfl (V.move rfl ⟨_, rfl, rfl⟩) ?_
      refine WL.callC (first := []) (caps := []) rfl rfl rfl rfl ⟨_, rfl, rfl⟩ (.cons ⟨_, rfl, rfl⟩ (.cons ⟨_, rfl, rfl⟩ .nil)) (hp _ _ _ _ _ K (tSl_V.2 h21) (tSl_V.2 h25)) ?_
      rintro _ H8 ⟨rfl, k8⟩
      replace K := K.trans k8
      refine WL.det rfl rfl rfl (V.not rfl ⟨_, rfl, rfl⟩) ?_
      refine WL.nil ?_
      refine NX.go ?_
      refine WC.sub (e' := [(1, true, _), (2, true, _), (15, true, _), (16, true, _), (17, true, _), (30, true, _)]) ⟨rfl, rfl, rfl, rfl, rfl, rfl, trivial⟩ ?_
      refine WC.cond ⟨_, rfl, rfl⟩ (fun hc30 => ?_) (fun hc30 => ?_)
      · -- hc30 true
        try simp only [Bool.and_eq_true, Bool.or_eq_true, Bool.not_eq_true', Bool.not_eq_false', Bool.and_eq_false_iff, Bool.or_eq_false_iff, decide_eq_true_eq, decide_eq_false_iff_not, Int.not_lt, Int.not_le] at hc30
        refine WC.seq ?_
        refine WC.region ?_
        refine WL.det rfl rfl rfl (V.assign rfl ⟨_, rfl, rfl⟩) ?_
        refine WL.nil ?_
        refine NX.go ?_
        refine WC.sub (e' := [(6, true, _)]) ⟨rfl, trivial⟩ ?_
        refine WC.ret ?_
        refine NX.block_ret ?_
        refine NX.of_ret ?_
        refine NX.of_ret ?_
        refine NX.block_ret ?_
        refine NX.of_ret ?_
        refine ret1 hQ Tryz.results189 rfl ⟨_, rfl, rfl⟩ ?_
        first
          | (refine ⟨?_, K⟩
             rw [L.eqBy_len (fun e => by rw [e] at hc14; omega)]; done)
          | (refine ⟨?_, K⟩
             rw [L.eqBy_no (i := k) (by omega) (by omega) hc30]; done)
          | (refine ⟨?_, K⟩
             rw [L.eqBy_yes hlen (fun j h1 h2 => hyes j h1 h2 (by omega))]; done)
      · -- hc30 false
        try simp only [Bool.and_eq_true, Bool.or_eq_true, Bool.not_eq_true', Bool.not_eq_false', Bool.and_eq_false_iff, Bool.or_eq_false_iff, decide_eq_true_eq, decide_eq_false_iff_not, Int.not_lt, Int.not_le] at hc30
        refine WC.skip ?_
        refine NX.block_normal ?_
        refine NX.go ?_
        refine WC.region ?_
        refine WL.det rfl rfl rfl (V.add rfl ⟨_, rfl, rfl⟩ ⟨_, rfl, rfl⟩ (by unfold I64; omega)) ?_
        refine WL.det rfl rfl rfl (V.move rfl ⟨_, rfl, rfl⟩) ?_
        refine WL.nil ?_
        exact Head.mk ⟨k + 1, by omega, fun j h1 h2 h3 => (Nat.lt_succ_iff_lt_or_eq.1 h3).elim (hyes j h1 h2) (fun e => by subst e; exact hc30), rfl, rfl, K⟩ ⟨rfl, rfl, rfl, rfl, rfl, trivial⟩ (by omega)
    · -- hc18 false
      try simp only [Bool.and_eq_true, Bool.or_eq_true, Bool.not_eq_true', Bool.not_eq_false', Bool.and_eq_false_iff, Bool.or_eq_false_iff, decide_eq_true_eq, decide_eq_false_iff_not, Int.not_lt, Int.not_le] at hc18
      refine WC.exit ?_
      refine NX.of_exit ?_
      refine NX.of_exit ?_
      refine NX.block_hit ?_
      refine NX.go ?_
      refine WC.seq ?_
      refine WC.region ?_
      refine WL.det rfl rfl rfl (V.assign rfl ⟨_, rfl, rfl⟩) ?_
      refine WL.nil ?_
      refine NX.go ?_
      refine WC.sub (e' := [(6, true, _)]) ⟨rfl, trivial⟩ ?_
      refine WC.ret ?_
      refine ret1 hQ Tryz.results189 rfl ⟨_, rfl, rfl⟩ ?_
      first
        | (refine ⟨?_, K⟩
           rw [L.eqBy_len (fun e => by rw [e] at hc14; omega)]; done)
        | (refine ⟨?_, K⟩
           rw [L.eqBy_no (i := k) (by omega) (by omega) hc30]; done)
        | (refine ⟨?_, K⟩
           rw [L.eqBy_yes hlen (fun j h1 h2 => hyes j h1 h2 (by omega))]; done)
theorem same0 {H0 : Heap} {M : List Nat} {va vb : Value} {a b : List (List UInt8)} (ha : Sl (tSl tByte) H0 M va a) (hb : Sl (tSl tByte) H0 M vb b) :
    CallsH Tryz.prog 170 #[va, vb] H0 (fun r H => r = .bool (decide (a = b)) ∧ Keep [] H0 H) := by
  refine enter (args := [va, vb]) Tryz.call170 Tryz.func170 rfl Tryz.ntmps170 (Nat.le_of_ble_eq_true rfl) (fun W0 Q hQ => ?_)
  refine WC.sub (e' := [(0, true, va), (1, true, vb)]) ⟨rfl, rfl, trivial⟩ ?_
  have K : Keep [] H0 H0 := Keep.refl _ _
  refine WC.seq ?_
  refine WC.region ?_
  refine WL.det rfl rfl rfl (V.assign rfl ⟨_, rfl, rfl⟩) ?_
  refine WL.nil ?_
  refine NX.go ?_
  refine WC.sub (e' := [(0, true, _), (1, true, _)]) ⟨rfl, rfl, trivial⟩ ?_
  refine WC.seq ?_
  refine WC.region ?_
  refine WL.det rfl rfl rfl (V.move rfl ⟨_, rfl, rfl⟩) ?_
  refine WL.det rfl rfl rfl (V.move rfl ⟨_, rfl, rfl⟩) ?_
  refine WL.call rfl rfl rfl rfl (.cons ⟨_, rfl, rfl⟩ (.cons ⟨_, rfl, rfl⟩ (.cons ⟨_, rfl, rfl⟩ .nil))) (equalLines (f := 186) (p := fun x y => decide (x = y)) (ha.at K) (hb.at K) (fun H' u w x y _ h1 h2 => (bytesEqual (tSl_V.1 h1) (tSl_V.1 h2)).mono fun _ _ h => ⟨h.1, by rw [h.2]; exact Keep.refl _ _⟩)) ?_
  rintro _ H1 ⟨rfl, k1⟩
  replace K := K.trans k1
  refine WL.det rfl rfl rfl (V.assign rfl ⟨_, rfl, rfl⟩) ?_
  refine WL.nil ?_
  refine NX.go ?_
  refine WC.sub (e' := [(4, true, _)]) ⟨rfl, trivial⟩ ?_
  refine WC.ret ?_
  refine ret1 hQ Tryz.results170 rfl ⟨_, rfl, rfl⟩ ?_
  rw [L.eqBy_dec]; exact ⟨rfl, K⟩
end Go.Proofs.YtpmjnbidmcnhnaaGreatDoor
end
