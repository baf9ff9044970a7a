/- part -/
import Derived.Test.YtpmjnbidmcnhnaaGreatDoorLines3
import Derived.Test.YtpmjnbidmcnhnaaGreatDoorLinesMixed
set_option linter.unusedVariables false
set_option linter.unusedSimpArgs false
namespace Go.Proofs.YtpmjnbidmcnhnaaGreatDoor
open Go.NB
set_option maxRecDepth 20000
theorem pairsRise (a b : L.Ls) : L.Rise (L.pairs a b 0 0) := L.pairs_rise a b 0 0
theorem pairsIn {a b : L.Ls} {u : Nat × Nat} (h : u ∈ L.pairs a b 0 0) : u.1 < a.length ∧ u.2 < b.length := by
  have := L.pairs_mem a b 0 0 u h
  omega
set_option maxRecDepth 20000 in
set_option maxHeartbeats 1000000 in
theorem merge {H0 : Heap} {M : List Nat} {vs va vb : Value} {base a b : L.Ls} (hs : Sl (tSl tByte) H0 M vs base) (ha : Sl (tSl tByte) H0 M va a) (hb : Sl (tSl tByte) H0 M vb b) (hM : ∀ i ∈ M, i < H0.size) (hls : base.length ≤ 1000) (hla : a.length ≤ 1000) (hlb : b.length ≤ 1000) :
    CallsH Tryz.prog 144 #[vs, va, vb] H0 (fun r H => (∃ v l, L.merge base a b = some l ∧ r = .tuple #[v, .bool true] ∧ Sl (tSl tByte) H M v l ∧ Keep [] H0 H) ∨ (L.merge base a b = none ∧ r = .tuple #[.slice none 0 0, .bool false] ∧ Keep [] H0 H)) := by
  refine enter (args := [vs, va, vb]) Tryz.call144 Tryz.func144 rfl Tryz.ntmps144 (Nat.le_of_ble_eq_true rfl) (fun W0 Q hQ => ?_)
  refine WC.sub (e' := [(0, true, vs), (1, true, va), (2, true, vb)]) ⟨rfl, rfl, rfl, trivial⟩ ?_
  have K : Keep [] H0 H0 := Keep.refl _ _
  refine WC.seq ?_
  refine WC.region ?_
  refine WL.det rfl rfl rfl (V.assign rfl ⟨_, rfl, rfl⟩) ?_
  refine WL.det rfl rfl rfl (V.assign rfl ⟨_, rfl, rfl⟩) ?_
  refine WL.nil ?_
  refine NX.go ?_
  refine WC.sub (e' := [(0, true, _), (1, true, _), (2, true, _)]) ⟨rfl, rfl, rfl, trivial⟩ ?_
  refine WC.seq ?_
  refine WC.region ?_
  refine WL.det rfl rfl rfl (V.move rfl ⟨_, rfl, rfl⟩) ?_
  refine WL.det rfl rfl rfl (V.move rfl ⟨_, rfl, rfl⟩) ?_
  refine WL.call rfl rfl rfl rfl (.cons ⟨_, rfl, rfl⟩ (.cons ⟨_, rfl, rfl⟩ .nil)) (common hs ha hM hls hla) ?_
  rintro vx H1 ⟨hx, k1⟩
  replace K := K.trans k1
  refine WL.det rfl rfl rfl (V.move rfl ⟨_, rfl, rfl⟩) ?_
  refine WL.det rfl rfl rfl (V.move rfl ⟨_, rfl, rfl⟩) ?_
  refine WL.call rfl rfl rfl rfl (.cons ⟨_, rfl, rfl⟩ (.cons ⟨_, rfl, rfl⟩ .nil)) (common (hs.at K) (hb.at K) (mlt K hM) hls hlb) ?_
  rintro vy H2 ⟨hy, k2⟩
  replace hx := hx.at k2
  replace K := K.trans k2
  refine WL.det rfl rfl rfl (V.assign rfl ⟨_, rfl, rfl⟩) ?_
  refine WL.det rfl rfl rfl (V.assign rfl ⟨_, rfl, rfl⟩) ?_
  refine WL.nil ?_
  refine NX.go ?_
  refine WC.sub (e' := [(0, true, _), (1, true, _), (2, true, _), (8, true, _), (9, true, _)]) ⟨rfl, rfl, rfl, rfl, rfl, trivial⟩ ?_
  refine WC.seq ?_
  refine WC.region ?_
  refine WL.det rfl rfl rfl (V.assign rfl ⟨_, rfl, rfl⟩) ?_
  refine WL.nil ?_
  refine NX.go ?_
  refine WC.sub (e' := [(0, true, _), (1, true, _), (2, true, _), (8, true, _), (9, true, _), (10, true, _)]) ⟨rfl, rfl, rfl, rfl, rfl, rfl, trivial⟩ ?_
  refine WC.seq ?_
  refine WC.region ?_
  refine WL.det rfl rfl rfl (V.assign rfl ⟨_, rfl, rfl⟩) ?_
  refine WL.det rfl rfl rfl (V.assign rfl ⟨_, rfl, rfl⟩) ?_
  refine WL.det rfl rfl rfl (V.assign rfl ⟨_, rfl, rfl⟩) ?_
  refine WL.nil ?_
  refine NX.go ?_
  refine WC.sub (e' := [(0, true, _), (1, true, _), (2, true, _), (8, true, _), (9, true, _), (10, true, _), (11, true, _), (12, true, _), (13, true, _)]) ⟨rfl, rfl, rfl, rfl, rfl, rfl, rfl, rfl, rfl, trivial⟩ ?_
  refine WC.seq ?_
  refine WC.seq ?_
  refine WC.region ?_
  refine WL.det rfl rfl rfl (V.assign rfl ⟨_, rfl, rfl⟩) ?_
  refine WL.nil ?_
  refine NX.go ?_
  refine WC.sub (e' := [(0, true, _), (1, true, _), (2, true, _), (8, true, _), (9, true, _), (10, true, _), (11, true, _), (12, true, _), (13, true, _), (14, true, _)]) ⟨rfl, rfl, rfl, rfl, rfl, rfl, rfl, rfl, rfl, rfl, trivial⟩ ?_
  refine WC.block ?_
  refine WC.loop (fun m e H => ∃ (n i j k : Nat) (vx vy vo : Value) (out : L.Ls), (n ≤ base.length + 1) ∧ (n ≤ base.length → i ≤ n) ∧ (n ≤ base.length → j ≤ a.length ∧ k ≤ b.length) ∧ (∀ u ∈ L.pairs base a 0 0, n ≤ u.1 → j ≤ u.2) ∧ (∀ u ∈ L.pairs base b 0 0, n ≤ u.1 → k ≤ u.2) ∧ (Sl tPair H (ob vo ++ M) vx (L.pairs base a 0 0)) ∧ (Sl tPair H (ob vo ++ M) vy (L.pairs base b 0 0)) ∧ (Own (tSl tByte) H (ob vo ++ M) 41 vo out) ∧ (∀ i ∈ ob vo, H0.size ≤ i) ∧ (out.length ≤ i + j + k) ∧ (i ≤ 1001 ∧ j ≤ 1001 ∧ k ≤ 1001) ∧ (L.merge base a b = (L.rest base a b n i j k).map fun r => out ++ r) ∧ e = [(0, true, vs), (1, true, va), (2, true, vb), (8, true, vx), (9, true, vy), (10, true, vo), (11, true, iv (i : Nat)), (12, true, iv (j : Nat)), (13, true, iv (k : Nat)), (14, true, iv (n : Nat))] ∧ base.length + 1 - n = m ∧ Keep [] H0 H) (m0 := _) (e0 := _) ⟨0, 0, 0, 0, vx, vy, .slice none 0 0, [], by omega, by omega, by omega, by simp, by simp, hx, hy, Own.nil _ _ _ _, fun i hi => by simp [ob] at hi, by simp, by omega, by rw [L.rest_zero]; simp, rfl, rfl, K⟩ ⟨rfl, rfl, rfl, rfl, rfl, rfl, rfl, rfl, rfl, rfl, trivial⟩ ?_
  clear K
  clear hx
  clear hy
  rintro _ _ H3 ⟨n, i, j, k, vx, vy, vo, out, hn, hin, hja, hxj, hyk, hx, hy, hO, hob, hsum, hb1, hgo, rfl, rfl, K⟩
  have hsI := hs.in K hob
  have haI := ha.in K hob
  have hbI := hb.in K hob
  obtain ⟨hb1, hb2, hb3⟩ := hb1
  refine WC.seq ?_
  refine WC.seq ?_
  refine WC.region ?_
  refine WL.det rfl rfl rfl (V.move rfl ⟨_, rfl, rfl⟩) ?_
  refine WL.det rfl rfl rfl (V.move rfl ⟨_, rfl, rfl⟩) ?_
  refine WL.det rfl rfl rfl (V.len rfl Tryz.underlying142 ⟨_, rfl, rfl⟩ hsI) ?_
  refine WL.det rfl rfl rfl (V.leq rfl ⟨_, rfl, rfl⟩ ⟨_, rfl, rfl⟩) ?_
  refine WL.nil ?_
  refine NX.go ?_
  refine WC.sub (e' := [(0, true, _), (1, true, _), (2, true, _), (8, true, _), (9, true, _), (10, true, _), (11, true, _), (12, true, _), (13, true, _), (14, true, _), (29, true, _)]) ⟨rfl, rfl, rfl, rfl, rfl, rfl, rfl, rfl, rfl, rfl, rfl, trivial⟩ ?_
  refine WC.cond ⟨_, rfl, rfl⟩ (fun hc29 => ?_) (fun hc29 => ?_)
  · -- hc29 true
    try simp only [Bool.and_eq_true, Bool.or_eq_true, Bool.not_eq_true', Bool.not_eq_false', Bool.and_eq_false_iff, Bool.or_eq_false_iff, decide_eq_true_eq, decide_eq_false_iff_not, Int.not_lt, Int.not_le] at hc29
    refine WC.skip ?_
    refine NX.go ?_
    refine WC.seq ?_
    refine WC.block ?_
    refine WC.seq ?_
    refine WC.region ?_
    refine WL.det rfl rfl rfl (V.move rfl ⟨_, rfl, rfl⟩) ?_
    refine WL.det rfl rfl rfl (V.len rfl Tryz.underlying142 ⟨_, rfl, rfl⟩ haI) ?_
    refine WL.det rfl rfl rfl (V.move rfl ⟨_, rfl, rfl⟩) ?_
    refine WL.det rfl rfl rfl (V.len rfl Tryz.underlying142 ⟨_, rfl, rfl⟩ hbI) ?_
    refine WL.det rfl rfl rfl (V.assign rfl ⟨_, rfl, rfl⟩) ?_
    refine WL.det rfl rfl rfl (V.assign rfl ⟨_, rfl, rfl⟩) ?_
    refine WL.nil ?_
    refine NX.go ?_
    refine WC.sub (e' := [(0, true, _), (1, true, _), (2, true, _), (8, true, _), (9, true, _), (10, true, _), (11, true, _), (12, true, _), (13, true, _), (14, true, _), (15, true, _), (16, true, _)]) ⟨rfl, rfl, rfl, rfl, rfl, rfl, rfl, rfl, rfl, rfl, rfl, rfl, trivial⟩ ?_
    refine WC.seq ?_
    refine WC.seq ?_
    refine WC.region ?_
    refine WL.det rfl rfl rfl (V.move rfl ⟨_, rfl, rfl⟩) ?_
    refine WL.det rfl rfl rfl (V.move rfl ⟨_, rfl, rfl⟩) ?_
    refine WL.det rfl rfl rfl (V.len rfl Tryz.underlying142 ⟨_, rfl, rfl⟩ hsI) ?_
    refine WL.det rfl rfl rfl (V.lss rfl ⟨_, rfl, rfl⟩ ⟨_, rfl, rfl⟩) ?_
    refine WL.nil ?_
    refine NX.go ?_
    refine WC.sub (e' := [(0, true, _), (1, true, _), (2, true, _), (8, true, _), (9, true, _), (10, true, _), (11, true, _), (12, true, _), (13, true, _), (14, true, _), (15, true, _), (16, true, _), (39, true, _)]) ⟨rfl, rfl, rfl, rfl, rfl, rfl, rfl, rfl, rfl, rfl, rfl, rfl, rfl, trivial⟩ ?_
    refine WC.cond ⟨_, rfl, rfl⟩ (fun hc39 => ?_) (fun hc39 => ?_)
    · -- hc39 true
      try simp only [Bool.and_eq_true, Bool.or_eq_true, Bool.not_eq_true', Bool.not_eq_false', Bool.and_eq_false_iff, Bool.or_eq_false_iff, decide_eq_true_eq, decide_eq_false_iff_not, Int.not_lt, Int.not_le] at hc39
      refine WC.seq ?_
      refine WC.region ?_
      refine WL.det rfl rfl rfl (V.move rfl ⟨_, rfl, rfl⟩) ?_
      refine WL.det rfl rfl rfl (V.move rfl ⟨_, rfl, rfl⟩) ?_
      refine WL.call rfl rfl rfl rfl (.cons ⟨_, rfl, rfl⟩ (.cons ⟨_, rfl, rfl⟩ .nil)) (at0 hx n) ?_
      rintro _ H4 ⟨rfl, k4⟩
      replace hx := hx.at k4
      replace hy := hy.at k4
      replace hO := hO.at k4
      replace hsI := hsI.at k4
      replace haI := haI.at k4
      replace hbI := hbI.at k4
      replace K := K.trans k4
      refine WL.det rfl rfl rfl (V.move rfl ⟨_, rfl, rfl⟩) ?_
      refine WL.det rfl rfl rfl (V.move rfl ⟨_, rfl, rfl⟩) ?_
      refine WL.call rfl rfl rfl rfl (.cons ⟨_, rfl, rfl⟩ (.cons ⟨_, rfl, rfl⟩ .nil)) (at0 hy n) ?_
      rintro _ H5 ⟨rfl, k5⟩
      replace hx := hx.at k5
      replace hy := hy.at k5
      replace hO := hO.at k5
      replace hsI := hsI.at k5
      replace haI := haI.at k5
      replace hbI := hbI.at k5
      replace K := K.trans k5
      refine WL.det rfl rfl rfl (V.assign rfl ⟨_, rfl, rfl⟩) ?_
      refine WL.det rfl rfl rfl (V.assign rfl ⟨_, rfl, rfl⟩) ?_
      refine WL.nil ?_
      refine NX.go ?_
      refine WC.sub (e' := [(0, true, _), (1, true, _), (2, true, _), (8, true, _), (9, true, _), (10, true, _), (11, true, _), (12, true, _), (13, true, _), (14, true, _), (15, true, _), (16, true, _)]) ⟨rfl, rfl, rfl, rfl, rfl, rfl, rfl, rfl, rfl, rfl, rfl, rfl, trivial⟩ ?_
      refine WC.seq ?_
      refine WC.region ?_
      refine WL.det rfl rfl rfl (V.move rfl ⟨_, rfl, rfl⟩) ?_
      refine WL.det rfl rfl rfl (V.lss rfl ⟨_, rfl, rfl⟩ ⟨_, rfl, rfl⟩) ?_
      refine WL.det rfl rfl rfl (V.move rfl ⟨_, rfl, rfl⟩) ?_
      refine WL.gdet (Gd.no1 rfl rfl rfl rfl) rfl rfl (fun hg => V.move rfl ⟨_, rfl, rfl⟩) ?_
      refine WL.gdet (Gd.no1 rfl rfl rfl rfl) rfl rfl (fun hg => V.lss rfl ⟨_, rfl, hg⟩ ⟨_, rfl, rfl⟩) ?_
      refine WL.det rfl rfl rfl (V.or rfl ⟨_, rfl, rfl⟩ (fun hb => ⟨_, rfl, (congrArg Bool.not hb)⟩)) ?_
      refine WL.nil ?_
      refine NX.go ?_
      refine WC.sub (e' := [(0, true, _), (1, true, _), (2, true, _), (8, true, _), (9, true, _), (10, true, _), (11, true, _), (12, true, _), (13, true, _), (14, true, _), (15, true, _), (16, true, _), (51, true, _)]) ⟨rfl, rfl, rfl, rfl, rfl, rfl, rfl, rfl, rfl, rfl, rfl, rfl, rfl, trivial⟩ ?_
      refine WC.cond ⟨_, rfl, rfl⟩ (fun hc51 => ?_) (fun hc51 => ?_)
      · -- hc51 true
        try simp only [Bool.and_eq_true, Bool.or_eq_true, Bool.not_eq_true', Bool.not_eq_false', Bool.and_eq_false_iff, Bool.or_eq_false_iff, decide_eq_true_eq, decide_eq_false_iff_not, Int.not_lt, Int.not_le] at hc51
        refine WC.exit ?_
        refine NX.of_exit ?_
        refine NX.block_hit ?_
        refine NX.go ?_
        refine WC.region ?_
        refine WL.det rfl rfl rfl (V.move rfl ⟨_, rfl, rfl⟩) ?_
        refine WL.det rfl rfl rfl (V.add rfl ⟨_, rfl, rfl⟩ ⟨_, rfl, rfl⟩ (by unfold I64; omega)) ?_
        refine WL.det rfl rfl rfl (V.assign rfl ⟨_, rfl, rfl⟩) ?_
        refine WL.nil ?_
        first
          | (exact Head.mk ⟨n + 1, i, j, k, vx, vy, vo, out, by omega, by omega, by omega, fun u h1 h2 => hxj u h1 (by omega), fun u h1 h2 => hyk u h1 (by omega), hx, hy, hO, hob, hsum, by omega, by rw [hgo, L.rest_skip (by omega) hc51], rfl, rfl, K⟩ ⟨rfl, rfl, rfl, rfl, rfl, rfl, rfl, rfl, rfl, rfl, trivial⟩ (by omega))
          | (exfalso; omega)
          | (have hmx := L.mix_two hc64
             have hl1 := L.cut_length b k q (by omega)
             unfold L.cut at hl1
             refine Head.mk ⟨n + 1, n + 1, p + 1, q + 1, vx, vy, v93, _, by omega, by omega, by omega, fun u h1 h2 => (pairsRise base a).lt hpm h1 (by simp only []; omega), fun u h1 h2 => (pairsRise base b).lt hqm h1 (by simp only []; omega), hx, hy, hO93, hob93, by simp only [List.length_append, List.length_singleton]; omega, by omega, L.step_held hgo (by omega) hp hq hmx, rfl, rfl, K⟩ ⟨rfl, rfl, rfl, rfl, rfl, rfl, rfl, by rw [hp]; rfl, by rw [hq]; rfl, rfl, trivial⟩ (by omega))
          | (have hmx := L.mix_one (not_or.2 hc64) hc76
             have hl1 := L.cut_length a j p (by omega)
             unfold L.cut at hl1
             exact Head.mk ⟨n + 1, n + 1, p + 1, q + 1, vx, vy, v93, _, by omega, by omega, by omega, fun u h1 h2 => (pairsRise base a).lt hpm h1 (by simp only []; omega), fun u h1 h2 => (pairsRise base b).lt hqm h1 (by simp only []; omega), hx, hy, hO93, hob93, by simp only [List.length_append, List.length_singleton]; omega, by omega, L.step_held hgo (by omega) hp hq hmx, rfl, rfl, K⟩ ⟨rfl, rfl, rfl, rfl, rfl, rfl, rfl, by rw [hp]; rfl, by rw [hq]; rfl, rfl, trivial⟩ (by omega))
          | (have hmx := L.mix_two hc64
             obtain rfl : n = base.length := by omega
             subst hp hq
             have hl1 := L.cut_length b k b.length (by omega)
             unfold L.cut at hl1
             exact Head.mk ⟨base.length + 1, base.length + 1, a.length + 1, b.length + 1, vx, vy, v75, _, by omega, by omega, by omega, fun u h1 h2 => by (have := pairsIn h1; omega), fun u h1 h2 => by (have := pairsIn h1; omega), hx, hy, hO75, hob75, by rw [List.length_append]; omega, by omega, L.step_end hgo hmx, rfl, rfl, K⟩ ⟨rfl, rfl, rfl, rfl, rfl, rfl, rfl, rfl, rfl, rfl, trivial⟩ (by omega))
          | (have hmx := L.mix_one (not_or.2 hc64) hc76
             obtain rfl : n = base.length := by omega
             subst hp hq
             have hl1 := L.cut_length a j a.length (by omega)
             unfold L.cut at hl1
             exact Head.mk ⟨base.length + 1, base.length + 1, a.length + 1, b.length + 1, vx, vy, v82, _, by omega, by omega, by omega, fun u h1 h2 => by (have := pairsIn h1; omega), fun u h1 h2 => by (have := pairsIn h1; omega), hx, hy, hO82, hob82, by rw [List.length_append]; omega, by omega, L.step_end hgo hmx, rfl, rfl, K⟩ ⟨rfl, rfl, rfl, rfl, rfl, rfl, rfl, rfl, rfl, rfl, trivial⟩ (by omega))
      · -- hc51 false
        try simp only [Bool.and_eq_true, Bool.or_eq_true, Bool.not_eq_true', Bool.not_eq_false', Bool.and_eq_false_iff, Bool.or_eq_false_iff, decide_eq_true_eq, decide_eq_false_iff_not, Int.not_lt, Int.not_le] at hc51
        obtain ⟨p, hp⟩ : ∃ p : Nat, L.at_ (L.pairs base a 0 0) n = p := ⟨_, (Int.toNat_of_nonneg (by omega)).symm⟩
        obtain ⟨q, hq⟩ : ∃ q : Nat, L.at_ (L.pairs base b 0 0) n = q := ⟨_, (Int.toNat_of_nonneg (by omega)).symm⟩
        have hpm := L.at_mem hp
        have hqm := L.at_mem hq
        have hpl := (pairsIn hpm).2
        have hql := (pairsIn hqm).2
        have hjp : j ≤ p := hxj _ hpm (Nat.le_refl _)
        have hkq : k ≤ q := hyk _ hqm (Nat.le_refl _)
        refine WC.skip ?_
        refine NX.go ?_
        refine WC.seq ?_
        refine WC.draw (Is _) rfl (by kernel_rfl) (by kernel_rfl) ?_
        refine QL.det rfl rfl rfl (V.move rfl ⟨_, rfl, rfl⟩) ?_
        refine QL.det rfl rfl rfl (V.move rfl ⟨_, rfl, rfl⟩) ?_
        refine QL.det rfl rfl rfl (V.move rfl ⟨_, rfl, rfl⟩) ?_
        refine QL.ex rfl rfl rfl (X.sliceBoth (lo := i) (hi := n) rfl Tryz.underlying142 Tryz.sizeOf41 hsI ⟨_, rfl, rfl⟩ ⟨_, rfl, rfl⟩ ⟨_, rfl, rfl⟩ rfl rfl (by omega) (by omega)) (fun v55 h55 => ?_)
        refine QL.det rfl rfl rfl (V.move rfl ⟨_, rfl, rfl⟩) ?_
        refine QL.det rfl rfl rfl (V.move rfl ⟨_, rfl, rfl⟩) ?_
        refine QL.det rfl rfl rfl (V.move rfl ⟨_, rfl, rfl⟩) ?_
        refine QL.ex rfl rfl rfl (X.sliceBoth (lo := j) (hi := p) rfl Tryz.underlying142 Tryz.sizeOf41 haI ⟨_, rfl, rfl⟩ ⟨_, rfl, rfl⟩ ⟨_, rfl, rfl⟩ rfl (by omega) (by omega) (by omega)) (fun v59 h59 => ?_)
        refine QL.det rfl rfl rfl (V.move rfl ⟨_, rfl, rfl⟩) ?_
        refine QL.det rfl rfl rfl (V.move rfl ⟨_, rfl, rfl⟩) ?_
        refine QL.det rfl rfl rfl (V.move rfl ⟨_, rfl, rfl⟩) ?_
        refine QL.ex rfl rfl rfl (X.sliceBoth (lo := k) (hi := q) rfl Tryz.underlying142 Tryz.sizeOf41 hbI ⟨_, rfl, rfl⟩ ⟨_, rfl, rfl⟩ ⟨_, rfl, rfl⟩ rfl (by omega) (by omega) (by omega)) (fun v63 h63 => ?_)
        refine QL.det rfl rfl rfl (V.assign rfl ⟨_, rfl, rfl⟩) ?_
        refine QL.det rfl rfl rfl (V.assign rfl ⟨_, rfl, rfl⟩) ?_
        refine QL.det rfl rfl rfl (V.assign rfl ⟨_, rfl, rfl⟩) ?_
        refine QL.nil (fun _ hS => ?_)
        cases hS
        refine NX.go ?_
        refine WC.sub (e' := [(0, true, _), (1, true, _), (2, true, _), (8, true, _), (9, true, _), (10, true, _), (14, true, _), (15, true, _), (16, true, _), (17, true, _), (18, true, _), (19, true, _)]) ⟨rfl, rfl, rfl, rfl, rfl, rfl, rfl, rfl, rfl, rfl, rfl, rfl, trivial⟩ ?_
        refine WC.seq ?_
        refine WC.block ?_
        refine WC.seq ?_
        refine WC.region ?_
        refine WL.det rfl rfl rfl (V.move rfl ⟨_, rfl, rfl⟩) ?_
        refine WL.det rfl rfl rfl (V.move rfl ⟨_, rfl, rfl⟩) ?_
        refine WL.call rfl rfl rfl rfl (.cons ⟨_, rfl, rfl⟩ (.cons ⟨_, rfl, rfl⟩ .nil)) (same0 h55 h59) ?_
        rintro _ H6 ⟨rfl, k6⟩
        replace hx := hx.at k6
        replace hy := hy.at k6
        replace hO := hO.at k6
        replace hsI := hsI.at k6
        replace haI := haI.at k6
        replace hbI := hbI.at k6
        replace h55 := h55.at k6
        replace h59 := h59.at k6
        replace h63 := h63.at k6
        replace K := K.trans k6
        refine WL.det rfl rfl rfl (V.move rfl ⟨_, rfl, rfl⟩) ?_
        refine WL.gdet (Gd.no1 rfl rfl rfl rfl) rfl rfl (fun hg => V.move rfl ⟨_, rfl, rfl⟩) ?_
        refine WL.gdet (Gd.no1 rfl rfl rfl rfl) rfl rfl (fun hg => V.move rfl ⟨_, rfl, rfl⟩) ?_
        refine WL.gcall (Gd.no1 rfl rfl rfl rfl) rfl rfl rfl (fun hg => (.cons ⟨_, rfl, hg⟩ (.cons ⟨_, rfl, hg⟩ .nil))) (fun hg => same0 h59 h63) (fun H7 k7 => ?_)
        replace hx := hx.at k7
        replace hy := hy.at k7
        replace hO := hO.at k7
        replace hsI := hsI.at k7
        replace haI := haI.at k7
        replace hbI := hbI.at k7
        replace h55 := h55.at k7
        replace h59 := h59.at k7
        replace h63 := h63.at k7
        replace K := K.trans k7
        refine WL.det rfl rfl rfl (V.or rfl ⟨_, rfl, rfl⟩ (fun hb => ⟨_, rfl, (congrArg Bool.not hb)⟩)) ?_
        refine WL.det rfl rfl rfl (V.assign rfl ⟨_, rfl, rfl⟩) ?_
        refine WL.nil ?_
        refine NX.go ?_
        refine WC.sub (e' := [(0, true, _), (1, true, _), (2, true, _), (8, true, _), (9, true, _), (10, true, _), (14, true, _), (15, true, _), (16, true, _), (17, true, _), (18, true, _), (19, true, _), (64, true, _)]) ⟨rfl, rfl, rfl, rfl, rfl, rfl, rfl, rfl, rfl, rfl, rfl, rfl, rfl, trivial⟩ ?_
        refine WC.cond ⟨_, rfl, rfl⟩ (fun hc64 => ?_) (fun hc64 => ?_)
        · -- hc64 true
          try simp only [Bool.and_eq_true, Bool.or_eq_true, Bool.not_eq_true', Bool.not_eq_false', Bool.and_eq_false_iff, Bool.or_eq_false_iff, decide_eq_true_eq, decide_eq_false_iff_not, Int.not_lt, Int.not_le] at hc64
          refine WC.region ?_
          refine WL.det rfl rfl rfl (V.move rfl ⟨_, rfl, rfl⟩) ?_
          refine WL.det rfl rfl rfl (V.move rfl ⟨_, rfl, rfl⟩) ?_
          refine WL.app (T := (tSl tByte)) (M := M) rfl rfl rfl rfl Tryz.underlying142 Tryz.underlying142 (fun _ h => by cases h) Tryz.typeInfo41 rfl rfl rfl ⟨_, rfl, rfl⟩ ⟨_, rfl, rfl⟩ hO (Src.sl h63) (by show (_ + _) * 24 ≤ 140737488355328; (have := L.cut_length b k q (by omega); unfold L.cut at this; omega)) (by decide) (fun v75 H8 hO75 a8 => ?_)
          replace hx := hx.app a8
          replace hy := hy.app a8
          replace hsI := hsI.app a8
          replace haI := haI.app a8
          replace hbI := hbI.app a8
          replace h55 := h55.app a8
          replace h59 := h59.app a8
          replace h63 := h63.app a8
          have hob75 := a8.new K hob
          replace K := a8.K K hob
          refine WL.det rfl rfl rfl (V.assign rfl ⟨_, rfl, rfl⟩) ?_
          refine WL.nil ?_
          refine NX.block_normal ?_
          refine NX.go ?_
          refine WC.sub (e' := [(0, true, _), (1, true, _), (2, true, _), (8, true, _), (9, true, _), (10, true, _), (14, true, _), (15, true, _), (16, true, _)]) ⟨rfl, rfl, rfl, rfl, rfl, rfl, rfl, rfl, rfl, trivial⟩ ?_
          refine WC.seq ?_
          refine WC.seq ?_
          refine WC.region ?_
          refine WL.det rfl rfl rfl (V.move rfl ⟨_, rfl, rfl⟩) ?_
          refine WL.det rfl rfl rfl (V.move rfl ⟨_, rfl, rfl⟩) ?_
          refine WL.det rfl rfl rfl (V.len rfl Tryz.underlying142 ⟨_, rfl, rfl⟩ hsI) ?_
          refine WL.det rfl rfl rfl (V.lss rfl ⟨_, rfl, rfl⟩ ⟨_, rfl, rfl⟩) ?_
          refine WL.nil ?_
          refine NX.go ?_
          refine WC.sub (e' := [(0, true, _), (1, true, _), (2, true, _), (8, true, _), (9, true, _), (10, true, _), (14, true, _), (15, true, _), (16, true, _), (86, true, _)]) ⟨rfl, rfl, rfl, rfl, rfl, rfl, rfl, rfl, rfl, rfl, trivial⟩ ?_
          refine WC.cond ⟨_, rfl, rfl⟩ (fun hc86 => ?_) (fun hc86 => ?_)
          · -- hc86 true
            try simp only [Bool.and_eq_true, Bool.or_eq_true, Bool.not_eq_true', Bool.not_eq_false', Bool.and_eq_false_iff, Bool.or_eq_false_iff, decide_eq_true_eq, decide_eq_false_iff_not, Int.not_lt, Int.not_le] at hc86
            refine WC.region ?_
            refine WL.det rfl rfl rfl (V.move rfl ⟨_, rfl, rfl⟩) ?_
            refine WL.det rfl rfl rfl (V.move rfl ⟨_, rfl, rfl⟩) ?_
            refine WL.det rfl rfl rfl (V.move rfl ⟨_, rfl, rfl⟩) ?_
            refine WL.ex rfl rfl rfl (X.idx (i := n) rfl Tryz.underlying142 Tryz.sizeOf41 hsI ⟨_, rfl, rfl⟩ ⟨_, rfl, rfl⟩ rfl (gi (by omega))) (fun v90 h90 => ?_)
            refine WL.ex rfl rfl rfl (X.loadSl rfl Tryz.isAgg41 Tryz.sizeOf41 h90 ⟨_, rfl, rfl⟩ (Reach.is _)) (fun v91 h91 => ?_)
            have l91 := h91.len
            refine WL.app1 (T := (tSl tByte)) (M := M) rfl rfl rfl rfl rfl rfl rfl rfl Tryz.underlying142 Tryz.typeInfo41 rfl rfl rfl (by decide) ⟨_, rfl, rfl⟩ (tSl_V.2 h91) (fun _ => ⟨_, rfl, rfl⟩) hO75 (by show (_ + 1) * 24 ≤ 140737488355328; (have h1 := L.cut_length b k q (by omega); have h2 := L.cut_length a j p (by omega); unfold L.cut at h1 h2; rw [List.length_append]; omega)) (by decide) (fun v93 H9 tmp9 hO93 a9 => ?_)
            replace hx := hx.app a9
            replace hy := hy.app a9
            replace hsI := hsI.app a9
            replace haI := haI.app a9
            replace hbI := hbI.app a9
            replace h55 := h55.app a9
            replace h59 := h59.app a9
            replace h63 := h63.app a9
            have hob93 := a9.new K hob75
            replace K := a9.K K hob75
            refine WL.det rfl rfl rfl (V.assign rfl ⟨_, rfl, rfl⟩) ?_
            refine WL.nil ?_
            refine NX.go ?_
            refine WC.sub (e' := [(0, true, _), (1, true, _), (2, true, _), (8, true, _), (9, true, _), (10, true, _), (14, true, _), (15, true, _), (16, true, _)]) ⟨rfl, rfl, rfl, rfl, rfl, rfl, rfl, rfl, rfl, trivial⟩ ?_
            refine WC.region ?_
            refine WL.det rfl rfl rfl (V.move rfl ⟨_, rfl, rfl⟩) ?_
            refine WL.det rfl rfl rfl (V.add rfl ⟨_, rfl, rfl⟩ ⟨_, rfl, rfl⟩ (by unfold I64; omega)) ?_
            refine WL.det rfl rfl rfl (V.move rfl ⟨_, rfl, rfl⟩) ?_
            refine WL.det rfl rfl rfl (V.add rfl ⟨_, rfl, rfl⟩ ⟨_, rfl, rfl⟩ (by unfold I64; omega)) ?_
            refine WL.det rfl rfl rfl (V.move rfl ⟨_, rfl, rfl⟩) ?_
            refine WL.det rfl rfl rfl (V.add rfl ⟨_, rfl, rfl⟩ ⟨_, rfl, rfl⟩ (by unfold I64; omega)) ?_
            refine WL.det rfl rfl rfl (V.assign rfl ⟨_, rfl, rfl⟩) ?_
            refine WL.det rfl rfl rfl (V.assign rfl ⟨_, rfl, rfl⟩) ?_
            refine WL.det rfl rfl rfl (V.assign rfl ⟨_, rfl, rfl⟩) ?_
            refine WL.nil ?_
            refine NX.block_normal ?_
            refine NX.go ?_
            refine WC.sub (e' := [(0, true, _), (1, true, _), (2, true, _), (8, true, _), (9, true, _), (10, true, _), (11, true, _), (12, true, _), (13, true, _), (14, true, _)]) ⟨rfl, rfl, rfl, rfl, rfl, rfl, rfl, rfl, rfl, rfl, trivial⟩ ?_
            refine WC.region ?_
            refine WL.det rfl rfl rfl (V.move rfl ⟨_, rfl, rfl⟩) ?_
            refine WL.det rfl rfl rfl (V.add rfl ⟨_, rfl, rfl⟩ ⟨_, rfl, rfl⟩ (by unfold I64; omega)) ?_
            refine WL.det rfl rfl rfl (V.assign rfl ⟨_, rfl, rfl⟩) ?_
            refine WL.nil ?_
            first
              | (exact Head.mk ⟨n + 1, i, j, k, vx, vy, vo, out, by omega, by omega, by omega, fun u h1 h2 => hxj u h1 (by omega), fun u h1 h2 => hyk u h1 (by omega), hx, hy, hO, hob, hsum, by omega, by rw [hgo, L.rest_skip (by omega) hc51], rfl, rfl, K⟩ ⟨rfl, rfl, rfl, rfl, rfl, rfl, rfl, rfl, rfl, rfl, trivial⟩ (by omega))
              | (exfalso; omega)
              | (have hmx := L.mix_two hc64
                 have hl1 := L.cut_length b k q (by omega)
                 unfold L.cut at hl1
                 refine Head.mk ⟨n + 1, n + 1, p + 1, q + 1, vx, vy, v93, _, by omega, by omega, by omega, fun u h1 h2 => (pairsRise base a).lt hpm h1 (by simp only []; omega), fun u h1 h2 => (pairsRise base b).lt hqm h1 (by simp only []; omega), hx, hy, hO93, hob93, by simp only [List.length_append, List.length_singleton]; omega, by omega, L.step_held hgo (by omega) hp hq hmx, rfl, rfl, K⟩ ⟨rfl, rfl, rfl, rfl, rfl, rfl, rfl, by rw [hp]; rfl, by rw [hq]; rfl, rfl, trivial⟩ (by omega))
              | (have hmx := L.mix_one (not_or.2 hc64) hc76
                 have hl1 := L.cut_length a j p (by omega)
                 unfold L.cut at hl1
                 exact Head.mk ⟨n + 1, n + 1, p + 1, q + 1, vx, vy, v93, _, by omega, by omega, by omega, fun u h1 h2 => (pairsRise base a).lt hpm h1 (by simp only []; omega), fun u h1 h2 => (pairsRise base b).lt hqm h1 (by simp only []; omega), hx, hy, hO93, hob93, by simp only [List.length_append, List.length_singleton]; omega, by omega, L.step_held hgo (by omega) hp hq hmx, rfl, rfl, K⟩ ⟨rfl, rfl, rfl, rfl, rfl, rfl, rfl, by rw [hp]; rfl, by rw [hq]; rfl, rfl, trivial⟩ (by omega))
              | (have hmx := L.mix_two hc64
                 obtain rfl : n = base.length := by omega
                 subst hp hq
                 have hl1 := L.cut_length b k b.length (by omega)
                 unfold L.cut at hl1
                 exact Head.mk ⟨base.length + 1, base.length + 1, a.length + 1, b.length + 1, vx, vy, v75, _, by omega, by omega, by omega, fun u h1 h2 => by (have := pairsIn h1; omega), fun u h1 h2 => by (have := pairsIn h1; omega), hx, hy, hO75, hob75, by rw [List.length_append]; omega, by omega, L.step_end hgo hmx, rfl, rfl, K⟩ ⟨rfl, rfl, rfl, rfl, rfl, rfl, rfl, rfl, rfl, rfl, trivial⟩ (by omega))
              | (have hmx := L.mix_one (not_or.2 hc64) hc76
                 obtain rfl : n = base.length := by omega
                 subst hp hq
                 have hl1 := L.cut_length a j a.length (by omega)
                 unfold L.cut at hl1
                 exact Head.mk ⟨base.length + 1, base.length + 1, a.length + 1, b.length + 1, vx, vy, v82, _, by omega, by omega, by omega, fun u h1 h2 => by (have := pairsIn h1; omega), fun u h1 h2 => by (have := pairsIn h1; omega), hx, hy, hO82, hob82, by rw [List.length_append]; omega, by omega, L.step_end hgo hmx, rfl, rfl, K⟩ ⟨rfl, rfl, rfl, rfl, rfl, rfl, rfl, rfl, rfl, rfl, trivial⟩ (by omega))
          · -- hc86 false
            try simp only [Bool.and_eq_true, Bool.or_eq_true, Bool.not_eq_true', Bool.not_eq_false', Bool.and_eq_false_iff, Bool.or_eq_false_iff, decide_eq_true_eq, decide_eq_false_iff_not, Int.not_lt, Int.not_le] at hc86
            refine WC.skip ?_
            refine NX.go ?_
            refine WC.region ?_
            refine WL.det rfl rfl rfl (V.move rfl ⟨_, rfl, rfl⟩) ?_
            refine WL.det rfl rfl rfl (V.add rfl ⟨_, rfl, rfl⟩ ⟨_, rfl, rfl⟩ (by unfold I64; omega)) ?_
            refine WL.det rfl rfl rfl (V.move rfl ⟨_, rfl, rfl⟩) ?_
            refine WL.det rfl rfl rfl (V.add rfl ⟨_, rfl, rfl⟩ ⟨_, rfl, rfl⟩ (by unfold I64; omega)) ?_
            refine WL.det rfl rfl rfl (V.move rfl ⟨_, rfl, rfl⟩) ?_
            refine WL.det rfl rfl rfl (V.add rfl ⟨_, rfl, rfl⟩ ⟨_, rfl, rfl⟩ (by unfold I64; omega)) ?_
            refine WL.det rfl rfl rfl (V.assign rfl ⟨_, rfl, rfl⟩) ?_
            refine WL.det rfl rfl rfl (V.assign rfl ⟨_, rfl, rfl⟩) ?_
            refine WL.det rfl rfl rfl (V.assign rfl ⟨_, rfl, rfl⟩) ?_
            refine WL.nil ?_
            refine NX.block_normal ?_
            refine NX.go ?_
            refine WC.sub (e' := [(0, true, _), (1, true, _), (2, true, _), (8, true, _), (9, true, _), (10, true, _), (11, true, _), (12, true, _), (13, true, _), (14, true, _)]) ⟨rfl, rfl, rfl, rfl, rfl, rfl, rfl, rfl, rfl, rfl, trivial⟩ ?_
            refine WC.region ?_
            refine WL.det rfl rfl rfl (V.move rfl ⟨_, rfl, rfl⟩) ?_
            refine WL.det rfl rfl rfl (V.add rfl ⟨_, rfl, rfl⟩ ⟨_, rfl, rfl⟩ (by unfold I64; omega)) ?_
            refine WL.det rfl rfl rfl (V.assign rfl ⟨_, rfl, rfl⟩) ?_
            refine WL.nil ?_
            first
              | (exact Head.mk ⟨n + 1, i, j, k, vx, vy, vo, out, by omega, by omega, by omega, fun u h1 h2 => hxj u h1 (by omega), fun u h1 h2 => hyk u h1 (by omega), hx, hy, hO, hob, hsum, by omega, by rw [hgo, L.rest_skip (by omega) hc51], rfl, rfl, K⟩ ⟨rfl, rfl, rfl, rfl, rfl, rfl, rfl, rfl, rfl, rfl, trivial⟩ (by omega))
              | (exfalso; omega)
              | (have hmx := L.mix_two hc64
                 have hl1 := L.cut_length b k q (by omega)
                 unfold L.cut at hl1
                 refine Head.mk ⟨n + 1, n + 1, p + 1, q + 1, vx, vy, v93, _, by omega, by omega, by omega, fun u h1 h2 => (pairsRise base a).lt hpm h1 (by simp only []; omega), fun u h1 h2 => (pairsRise base b).lt hqm h1 (by simp only []; omega), hx, hy, hO93, hob93, by simp only [List.length_append, List.length_singleton]; omega, by omega, L.step_held hgo (by omega) hp hq hmx, rfl, rfl, K⟩ ⟨rfl, rfl, rfl, rfl, rfl, rfl, rfl, by rw [hp]; rfl, by rw [hq]; rfl, rfl, trivial⟩ (by omega))
              | (have hmx := L.mix_one (not_or.2 hc64) hc76
                 have hl1 := L.cut_length a j p (by omega)
                 unfold L.cut at hl1
                 exact Head.mk ⟨n + 1, n + 1, p + 1, q + 1, vx, vy, v93, _, by omega, by omega, by omega, fun u h1 h2 => (pairsRise base a).lt hpm h1 (by simp only []; omega), fun u h1 h2 => (pairsRise base b).lt hqm h1 (by simp only []; omega), hx, hy, hO93, hob93, by simp only [List.length_append, List.length_singleton]; omega, by omega, L.step_held hgo (by omega) hp hq hmx, rfl, rfl, K⟩ ⟨rfl, rfl, rfl, rfl, rfl, rfl, rfl, by rw [hp]; rfl, by rw [hq]; rfl, rfl, trivial⟩ (by omega))
              | (have hmx := L.mix_two hc64
                 obtain rfl : n = base.length := by omega
                 subst hp hq
                 have hl1 := L.cut_length b k b.length (by omega)
                 unfold L.cut at hl1
                 exact Head.mk ⟨base.length + 1, base.length + 1, a.length + 1, b.length + 1, vx, vy, v75, _, by omega, by omega, by omega, fun u h1 h2 => by (have := pairsIn h1; omega), fun u h1 h2 => by (have := pairsIn h1; omega), hx, hy, hO75, hob75, by rw [List.length_append]; omega, by omega, L.step_end hgo hmx, rfl, rfl, K⟩ ⟨rfl, rfl, rfl, rfl, rfl, rfl, rfl, rfl, rfl, rfl, trivial⟩ (by omega))
              | (have hmx := L.mix_one (not_or.2 hc64) hc76
                 obtain rfl : n = base.length := by omega
                 subst hp hq
                 have hl1 := L.cut_length a j a.length (by omega)
                 unfold L.cut at hl1
                 exact Head.mk ⟨base.length + 1, base.length + 1, a.length + 1, b.length + 1, vx, vy, v82, _, by omega, by omega, by omega, fun u h1 h2 => by (have := pairsIn h1; omega), fun u h1 h2 => by (have := pairsIn h1; omega), hx, hy, hO82, hob82, by rw [List.length_append]; omega, by omega, L.step_end hgo hmx, rfl, rfl, K⟩ ⟨rfl, rfl, rfl, rfl, rfl, rfl, rfl, rfl, rfl, rfl, trivial⟩ (by omega))
        · -- hc64 false
          try simp only [Bool.and_eq_true, Bool.or_eq_true, Bool.not_eq_true', Bool.not_eq_false', Bool.and_eq_false_iff, Bool.or_eq_false_iff, decide_eq_true_eq, decide_eq_false_iff_not, Int.not_lt, Int.not_le] at hc64
          refine WC.seq ?_
          refine WC.region ?_
          refine WL.det rfl rfl rfl (V.move rfl ⟨_, rfl, rfl⟩) ?_
          refine WL.det rfl rfl rfl (V.move rfl ⟨_, rfl, rfl⟩) ?_
          refine WL.call rfl rfl rfl rfl (.cons ⟨_, rfl, rfl⟩ (.cons ⟨_, rfl, rfl⟩ .nil)) (same0 h55 h63) ?_
          rintro _ H8 ⟨rfl, k8⟩
          replace hx := hx.at k8
          replace hy := hy.at k8
          replace hO := hO.at k8
          replace hsI := hsI.at k8
          replace haI := haI.at k8
          replace hbI := hbI.at k8
          replace h55 := h55.at k8
          replace h59 := h59.at k8
          replace h63 := h63.at k8
          replace K := K.trans k8
          refine WL.det rfl rfl rfl (V.assign rfl ⟨_, rfl, rfl⟩) ?_
          refine WL.nil ?_
          refine NX.go ?_
          refine WC.sub (e' := [(0, true, _), (1, true, _), (2, true, _), (8, true, _), (9, true, _), (10, true, _), (14, true, _), (15, true, _), (16, true, _), (18, true, _), (76, true, _)]) ⟨rfl, rfl, rfl, rfl, rfl, rfl, rfl, rfl, rfl, rfl, rfl, trivial⟩ ?_
          refine WC.cond ⟨_, rfl, rfl⟩ (fun hc76 => ?_) (fun hc76 => ?_)
          · -- hc76 true
            try simp only [Bool.and_eq_true, Bool.or_eq_true, Bool.not_eq_true', Bool.not_eq_false', Bool.and_eq_false_iff, Bool.or_eq_false_iff, decide_eq_true_eq, decide_eq_false_iff_not, Int.not_lt, Int.not_le] at hc76
            refine WC.region ?_
            refine WL.det rfl rfl rfl (V.move rfl ⟨_, rfl, rfl⟩) ?_
            refine WL.det rfl rfl rfl (V.move rfl ⟨_, rfl, rfl⟩) ?_
            refine WL.app (T := (tSl tByte)) (M := M) rfl rfl rfl rfl Tryz.underlying142 Tryz.underlying142 (fun _ h => by cases h) Tryz.typeInfo41 rfl rfl rfl ⟨_, rfl, rfl⟩ ⟨_, rfl, rfl⟩ hO (Src.sl h59) (by show (_ + _) * 24 ≤ 140737488355328; (have := L.cut_length a j p (by omega); unfold L.cut at this; omega)) (by decide) (fun v82 H9 hO82 a9 => ?_)
            replace hx := hx.app a9
            replace hy := hy.app a9
            replace hsI := hsI.app a9
            replace haI := haI.app a9
            replace hbI := hbI.app a9
            replace h55 := h55.app a9
            replace h59 := h59.app a9
            replace h63 := h63.app a9
            have hob82 := a9.new K hob
            replace K := a9.K K hob
            refine WL.det rfl rfl rfl (V.assign rfl ⟨_, rfl, rfl⟩) ?_
            refine WL.nil ?_
            refine NX.block_normal ?_
            refine NX.go ?_
            refine WC.sub (e' := [(0, true, _), (1, true, _), (2, true, _), (8, true, _), (9, true, _), (10, true, _), (14, true, _), (15, true, _), (16, true, _)]) ⟨rfl, rfl, rfl, rfl, rfl, rfl, rfl, rfl, rfl, trivial⟩ ?_
            refine WC.seq ?_
            refine WC.seq ?_
            refine WC.region ?_
            refine WL.det rfl rfl rfl (V.move rfl ⟨_, rfl, rfl⟩) ?_
            refine WL.det rfl rfl rfl (V.move rfl ⟨_, rfl, rfl⟩) ?_
            refine WL.det rfl rfl rfl (V.len rfl Tryz.underlying142 ⟨_, rfl, rfl⟩ hsI) ?_
            refine WL.det rfl rfl rfl (V.lss rfl ⟨_, rfl, rfl⟩ ⟨_, rfl, rfl⟩) ?_
            refine WL.nil ?_
            refine NX.go ?_
            refine WC.sub (e' := [(0, true, _), (1, true, _), (2, true, _), (8, true, _), (9, true, _), (10, true, _), (14, true, _), (15, true, _), (16, true, _), (86, true, _)]) ⟨rfl, rfl, rfl, rfl, rfl, rfl, rfl, rfl, rfl, rfl, trivial⟩ ?_
            refine WC.cond ⟨_, rfl, rfl⟩ (fun hc86 => ?_) (fun hc86 => ?_)
            · -- hc86 true
              try simp only [Bool.and_eq_true, Bool.or_eq_true, Bool.not_eq_true', Bool.not_eq_false', Bool.and_eq_false_iff, Bool.or_eq_false_iff, decide_eq_true_eq, decide_eq_false_iff_not, Int.not_lt, Int.not_le] at hc86
              refine WC.region ?_
              refine WL.det rfl rfl rfl (V.move rfl ⟨_, rfl, rfl⟩) ?_
              refine WL.det rfl rfl rfl (V.move rfl ⟨_, rfl, rfl⟩) ?_
              refine WL.det rfl rfl rfl (V.move rfl ⟨_, rfl, rfl⟩) ?_
              refine WL.ex rfl rfl rfl (X.idx (i := n) rfl Tryz.underlying142 Tryz.sizeOf41 hsI ⟨_, rfl, rfl⟩ ⟨_, rfl, rfl⟩ rfl (gi (by omega))) (fun v90 h90 => ?_)
              refine WL.ex rfl rfl rfl (X.loadSl rfl Tryz.isAgg41 Tryz.sizeOf41 h90 ⟨_, rfl, rfl⟩ (Reach.is _)) (fun v91 h91 => ?_)
              have l91 := h91.len
              refine WL.app1 (T := (tSl tByte)) (M := M) rfl rfl rfl rfl rfl rfl rfl rfl Tryz.underlying142 Tryz.typeInfo41 rfl rfl rfl (by decide) ⟨_, rfl, rfl⟩ (tSl_V.2 h91) (fun _ => ⟨_, rfl, rfl⟩) hO82 (by show (_ + 1) * 24 ≤ 140737488355328; (have h1 := L.cut_length b k q (by omega); have h2 := L.cut_length a j p (by omega); unfold L.cut at h1 h2; rw [List.length_append]; omega)) (by decide) (fun v93 H10 tmp10 hO93 a10 => ?_)
              replace hx := hx.app a10
              replace hy := hy.app a10
              replace hsI := hsI.app a10
              replace haI := haI.app a10
              replace hbI := hbI.app a10
              replace h55 := h55.app a10
              replace h59 := h59.app a10
              replace h63 := h63.app a10
              have hob93 := a10.new K hob82
              replace K := a10.K K hob82
              refine WL.det rfl rfl rfl (V.assign rfl ⟨_, rfl, rfl⟩) ?_
              refine WL.nil ?_
              refine NX.go ?_
              refine WC.sub (e' := [(0, true, _), (1, true, _), (2, true, _), (8, true, _), (9, true, _), (10, true, _), (14, true, _), (15, true, _), (16, true, _)]) ⟨rfl, rfl, rfl, rfl, rfl, rfl, rfl, rfl, rfl, trivial⟩ ?_
              refine WC.region ?_
              refine WL.det rfl rfl rfl (V.move rfl ⟨_, rfl, rfl⟩) ?_
              refine WL.det rfl rfl rfl (V.add rfl ⟨_, rfl, rfl⟩ ⟨_, rfl, rfl⟩ (by unfold I64; omega)) ?_
              refine WL.det rfl rfl rfl (V.move rfl ⟨_, rfl, rfl⟩) ?_
              refine WL.det rfl rfl rfl (V.add rfl ⟨_, rfl, rfl⟩ ⟨_, rfl, rfl⟩ (by unfold I64; omega)) ?_
              refine WL.det rfl rfl rfl (V.move rfl ⟨_, rfl, rfl⟩) ?_
              refine WL.det rfl rfl rfl (V.add rfl ⟨_, rfl, rfl⟩ ⟨_, rfl, rfl⟩ (by unfold I64; omega)) ?_
              refine WL.det rfl rfl rfl (V.assign rfl ⟨_, rfl, rfl⟩) ?_
              refine WL.det rfl rfl rfl (V.assign rfl ⟨_, rfl, rfl⟩) ?_
              refine WL.det rfl rfl rfl (V.assign rfl ⟨_, rfl, rfl⟩) ?_
              refine WL.nil ?_
              refine NX.block_normal ?_
              refine NX.go ?_
              refine WC.sub (e' := [(0, true, _), (1, true, _), (2, true, _), (8, true, _), (9, true, _), (10, true, _), (11, true, _), (12, true, _), (13, true, _), (14, true, _)]) ⟨rfl, rfl, rfl, rfl, rfl, rfl, rfl, rfl, rfl, rfl, trivial⟩ ?_
              refine WC.region ?_
              refine WL.det rfl rfl rfl (V.move rfl ⟨_, rfl, rfl⟩) ?_
              refine WL.det rfl rfl rfl (V.add rfl ⟨_, rfl, rfl⟩ ⟨_, rfl, rfl⟩ (by unfold I64; omega)) ?_
              refine WL.det rfl rfl rfl (V.assign rfl ⟨_, rfl, rfl⟩) ?_
              refine WL.nil ?_
              first
                | (exact Head.mk ⟨n + 1, i, j, k, vx, vy, vo, out, by omega, by omega, by omega, fun u h1 h2 => hxj u h1 (by omega), fun u h1 h2 => hyk u h1 (by omega), hx, hy, hO, hob, hsum, by omega, by rw [hgo, L.rest_skip (by omega) hc51], rfl, rfl, K⟩ ⟨rfl, rfl, rfl, rfl, rfl, rfl, rfl, rfl, rfl, rfl, trivial⟩ (by omega))
                | (exfalso; omega)
                | (have hmx := L.mix_two hc64
                   have hl1 := L.cut_length b k q (by omega)
                   unfold L.cut at hl1
                   refine Head.mk ⟨n + 1, n + 1, p + 1, q + 1, vx, vy, v93, _, by omega, by omega, by omega, fun u h1 h2 => (pairsRise base a).lt hpm h1 (by simp only []; omega), fun u h1 h2 => (pairsRise base b).lt hqm h1 (by simp only []; omega), hx, hy, hO93, hob93, by simp only [List.length_append, List.length_singleton]; omega, by omega, L.step_held hgo (by omega) hp hq hmx, rfl, rfl, K⟩ ⟨rfl, rfl, rfl, rfl, rfl, rfl, rfl, by rw [hp]; rfl, by rw [hq]; rfl, rfl, trivial⟩ (by omega))
                | (have hmx := L.mix_one (not_or.2 hc64) hc76
                   have hl1 := L.cut_length a j p (by omega)
                   unfold L.cut at hl1
                   exact Head.mk ⟨n + 1, n + 1, p + 1, q + 1, vx, vy, v93, _, by omega, by omega, by omega, fun u h1 h2 => (pairsRise base a).lt hpm h1 (by simp only []; omega), fun u h1 h2 => (pairsRise base b).lt hqm h1 (by simp only []; omega), hx, hy, hO93, hob93, by simp only [List.length_append, List.length_singleton]; omega, by omega, L.step_held hgo (by omega) hp hq hmx, rfl, rfl, K⟩ ⟨rfl, rfl, rfl, rfl, rfl, rfl, rfl, by rw [hp]; rfl, by rw [hq]; rfl, rfl, trivial⟩ (by omega))
                | (have hmx := L.mix_two hc64
                   obtain rfl : n = base.length := by omega
                   subst hp hq
                   have hl1 := L.cut_length b k b.length (by omega)
                   unfold L.cut at hl1
                   exact Head.mk ⟨base.length + 1, base.length + 1, a.length + 1, b.length + 1, vx, vy, v75, _, by omega, by omega, by omega, fun u h1 h2 => by (have := pairsIn h1; omega), fun u h1 h2 => by (have := pairsIn h1; omega), hx, hy, hO75, hob75, by rw [List.length_append]; omega, by omega, L.step_end hgo hmx, rfl, rfl, K⟩ ⟨rfl, rfl, rfl, rfl, rfl, rfl, rfl, rfl, rfl, rfl, trivial⟩ (by omega))
                | (have hmx := L.mix_one (not_or.2 hc64) hc76
                   obtain rfl : n = base.length := by omega
                   subst hp hq
                   have hl1 := L.cut_length a j a.length (by omega)
                   unfold L.cut at hl1
                   exact Head.mk ⟨base.length + 1, base.length + 1, a.length + 1, b.length + 1, vx, vy, v82, _, by omega, by omega, by omega, fun u h1 h2 => by (have := pairsIn h1; omega), fun u h1 h2 => by (have := pairsIn h1; omega), hx, hy, hO82, hob82, by rw [List.length_append]; omega, by omega, L.step_end hgo hmx, rfl, rfl, K⟩ ⟨rfl, rfl, rfl, rfl, rfl, rfl, rfl, rfl, rfl, rfl, trivial⟩ (by omega))
            · -- hc86 false
              try simp only [Bool.and_eq_true, Bool.or_eq_true, Bool.not_eq_true', Bool.not_eq_false', Bool.and_eq_false_iff, Bool.or_eq_false_iff, decide_eq_true_eq, decide_eq_false_iff_not, Int.not_lt, Int.not_le] at hc86
              refine WC.skip ?_
              refine NX.go ?_
              refine WC.region ?_
              refine WL.det rfl rfl rfl (V.move rfl ⟨_, rfl, rfl⟩) ?_
              refine WL.det rfl rfl rfl (V.add rfl ⟨_, rfl, rfl⟩ ⟨_, rfl, rfl⟩ (by unfold I64; omega)) ?_
              refine WL.det rfl rfl rfl (V.move rfl ⟨_, rfl, rfl⟩) ?_
              refine WL.det rfl rfl rfl (V.add rfl ⟨_, rfl, rfl⟩ ⟨_, rfl, rfl⟩ (by unfold I64; omega)) ?_
              refine WL.det rfl rfl rfl (V.move rfl ⟨_, rfl, rfl⟩) ?_
              refine WL.det rfl rfl rfl (V.add rfl ⟨_, rfl, rfl⟩ ⟨_, rfl, rfl⟩ (by unfold I64; omega)) ?_
              refine WL.det rfl rfl rfl (V.assign rfl ⟨_, rfl, rfl⟩) ?_
              refine WL.det rfl rfl rfl (V.assign rfl ⟨_, rfl, rfl⟩) ?_
              refine WL.det rfl rfl rfl (V.assign rfl ⟨_, rfl, rfl⟩) ?_
              refine WL.nil ?_
              refine NX.block_normal ?_
              refine NX.go ?_
              refine WC.sub (e' := [(0, true, _), (1, true, _), (2, true, _), (8, true, _), (9, true, _), (10, true, _), (11, true, _), (12, true, _), (13, true, _), (14, true, _)]) ⟨rfl, rfl, rfl, rfl, rfl, rfl, rfl, rfl, rfl, rfl, trivial⟩ ?_
              refine WC.region ?_
              refine WL.det rfl rfl rfl (V.move rfl ⟨_, rfl, rfl⟩) ?_
              refine WL.det rfl rfl rfl (V.add rfl ⟨_, rfl, rfl⟩ ⟨_, rfl, rfl⟩ (by unfold I64; omega)) ?_
              refine WL.det rfl rfl rfl (V.assign rfl ⟨_, rfl, rfl⟩) ?_
              refine WL.nil ?_
              first
                | (exact Head.mk ⟨n + 1, i, j, k, vx, vy, vo, out, by omega, by omega, by omega, fun u h1 h2 => hxj u h1 (by omega), fun u h1 h2 => hyk u h1 (by omega), hx, hy, hO, hob, hsum, by omega, by rw [hgo, L.rest_skip (by omega) hc51], rfl, rfl, K⟩ ⟨rfl, rfl, rfl, rfl, rfl, rfl, rfl, rfl, rfl, rfl, trivial⟩ (by omega))
                | (exfalso; omega)
                | (have hmx := L.mix_two hc64
                   have hl1 := L.cut_length b k q (by omega)
                   unfold L.cut at hl1
                   refine Head.mk ⟨n + 1, n + 1, p + 1, q + 1, vx, vy, v93, _, by omega, by omega, by omega, fun u h1 h2 => (pairsRise base a).lt hpm h1 (by simp only []; omega), fun u h1 h2 => (pairsRise base b).lt hqm h1 (by simp only []; omega), hx, hy, hO93, hob93, by simp only [List.length_append, List.length_singleton]; omega, by omega, L.step_held hgo (by omega) hp hq hmx, rfl, rfl, K⟩ ⟨rfl, rfl, rfl, rfl, rfl, rfl, rfl, by rw [hp]; rfl, by rw [hq]; rfl, rfl, trivial⟩ (by omega))
                | (have hmx := L.mix_one (not_or.2 hc64) hc76
                   have hl1 := L.cut_length a j p (by omega)
                   unfold L.cut at hl1
                   exact Head.mk ⟨n + 1, n + 1, p + 1, q + 1, vx, vy, v93, _, by omega, by omega, by omega, fun u h1 h2 => (pairsRise base a).lt hpm h1 (by simp only []; omega), fun u h1 h2 => (pairsRise base b).lt hqm h1 (by simp only []; omega), hx, hy, hO93, hob93, by simp only [List.length_append, List.length_singleton]; omega, by omega, L.step_held hgo (by omega) hp hq hmx, rfl, rfl, K⟩ ⟨rfl, rfl, rfl, rfl, rfl, rfl, rfl, by rw [hp]; rfl, by rw [hq]; rfl, rfl, trivial⟩ (by omega))
                | (have hmx := L.mix_two hc64
                   obtain rfl : n = base.length := by omega
                   subst hp hq
                   have hl1 := L.cut_length b k b.length (by omega)
                   unfold L.cut at hl1
                   exact Head.mk ⟨base.length + 1, base.length + 1, a.length + 1, b.length + 1, vx, vy, v75, _, by omega, by omega, by omega, fun u h1 h2 => by (have := pairsIn h1; omega), fun u h1 h2 => by (have := pairsIn h1; omega), hx, hy, hO75, hob75, by rw [List.length_append]; omega, by omega, L.step_end hgo hmx, rfl, rfl, K⟩ ⟨rfl, rfl, rfl, rfl, rfl, rfl, rfl, rfl, rfl, rfl, trivial⟩ (by omega))
                | (have hmx := L.mix_one (not_or.2 hc64) hc76
                   obtain rfl : n = base.length := by omega
                   subst hp hq
                   have hl1 := L.cut_length a j a.length (by omega)
                   unfold L.cut at hl1
                   exact Head.mk ⟨base.length + 1, base.length + 1, a.length + 1, b.length + 1, vx, vy, v82, _, by omega, by omega, by omega, fun u h1 h2 => by (have := pairsIn h1; omega), fun u h1 h2 => by (have := pairsIn h1; omega), hx, hy, hO82, hob82, by rw [List.length_append]; omega, by omega, L.step_end hgo hmx, rfl, rfl, K⟩ ⟨rfl, rfl, rfl, rfl, rfl, rfl, rfl, rfl, rfl, rfl, trivial⟩ (by omega))
          · -- hc76 false
            try simp only [Bool.and_eq_true, Bool.or_eq_true, Bool.not_eq_true', Bool.not_eq_false', Bool.and_eq_false_iff, Bool.or_eq_false_iff, decide_eq_true_eq, decide_eq_false_iff_not, Int.not_lt, Int.not_le] at hc76
            refine WC.seq ?_
            refine WC.region ?_
            refine WL.det rfl rfl rfl (V.assign rfl ⟨_, rfl, rfl⟩) ?_
            refine WL.det rfl rfl rfl (V.assign rfl ⟨_, rfl, rfl⟩) ?_
            refine WL.nil ?_
            refine NX.go ?_
            refine WC.sub (e' := [(6, true, _), (7, true, _)]) ⟨rfl, rfl, trivial⟩ ?_
            refine WC.ret ?_
            refine NX.block_ret ?_
            refine NX.of_ret ?_
            refine NX.block_ret ?_
            refine NX.of_ret ?_
            refine NX.of_ret ?_
            refine NX.block_ret ?_
            refine NX.of_ret ?_
            refine ret2 hQ Tryz.results144 rfl ⟨_, rfl, rfl⟩ ⟨_, rfl, rfl⟩ ?_
            first
              | (have hmx := L.mix_none (not_or.2 hc64) hc76
                 exact .inr ⟨L.fail_held hgo (by omega) hp hq hmx, rfl, K⟩)
              | (have hmx := L.mix_none (not_or.2 hc64) hc76
                 obtain rfl : n = base.length := by omega
                 subst hp hq
                 exact .inr ⟨L.fail_end hgo hmx, rfl, K⟩)
              | (obtain rfl : n = base.length + 1 := by omega
                 rw [L.rest_past] at hgo
                 simp at hgo
                 exact .inl ⟨_, _, hgo, rfl, hO.give hob hM, K⟩)
    · -- hc39 false
      try simp only [Bool.and_eq_true, Bool.or_eq_true, Bool.not_eq_true', Bool.not_eq_false', Bool.and_eq_false_iff, Bool.or_eq_false_iff, decide_eq_true_eq, decide_eq_false_iff_not, Int.not_lt, Int.not_le] at hc39
      obtain ⟨p, hp⟩ : ∃ p : Nat, p = a.length := ⟨_, rfl⟩
      obtain ⟨q, hq⟩ : ∃ q : Nat, q = b.length := ⟨_, rfl⟩
      have hjp : j ≤ p := by omega
      have hkq : k ≤ q := by omega
      refine WC.skip ?_
      refine NX.go ?_
      refine WC.seq ?_
      refine WC.draw (Is _) rfl (by kernel_rfl) (by kernel_rfl) ?_
      refine QL.det rfl rfl rfl (V.move rfl ⟨_, rfl, rfl⟩) ?_
      refine QL.det rfl rfl rfl (V.move rfl ⟨_, rfl, rfl⟩) ?_
      refine QL.det rfl rfl rfl (V.move rfl ⟨_, rfl, rfl⟩) ?_
      refine QL.ex rfl rfl rfl (X.sliceBoth (lo := i) (hi := n) rfl Tryz.underlying142 Tryz.sizeOf41 hsI ⟨_, rfl, rfl⟩ ⟨_, rfl, rfl⟩ ⟨_, rfl, rfl⟩ rfl rfl (by omega) (by omega)) (fun v55 h55 => ?_)
      refine QL.det rfl rfl rfl (V.move rfl ⟨_, rfl, rfl⟩) ?_
      refine QL.det rfl rfl rfl (V.move rfl ⟨_, rfl, rfl⟩) ?_
      refine QL.det rfl rfl rfl (V.move rfl ⟨_, rfl, rfl⟩) ?_
      refine QL.ex rfl rfl rfl (X.sliceBoth (lo := j) (hi := p) rfl Tryz.underlying142 Tryz.sizeOf41 haI ⟨_, rfl, rfl⟩ ⟨_, rfl, rfl⟩ ⟨_, rfl, rfl⟩ rfl (by omega) (by omega) (by omega)) (fun v59 h59 => ?_)
      refine QL.det rfl rfl rfl (V.move rfl ⟨_, rfl, rfl⟩) ?_
      refine QL.det rfl rfl rfl (V.move rfl ⟨_, rfl, rfl⟩) ?_
      refine QL.det rfl rfl rfl (V.move rfl ⟨_, rfl, rfl⟩) ?_
      refine QL.ex rfl rfl rfl (X.sliceBoth (lo := k) (hi := q) rfl Tryz.underlying142 Tryz.sizeOf41 hbI ⟨_, rfl, rfl⟩ ⟨_, rfl, rfl⟩ ⟨_, rfl, rfl⟩ rfl (by omega) (by omega) (by omega)) (fun v63 h63 => ?_)
      refine QL.det rfl rfl rfl (V.assign rfl ⟨_, rfl, rfl⟩) ?_
      refine QL.det rfl rfl rfl (V.assign rfl ⟨_, rfl, rfl⟩) ?_
      refine QL.det rfl rfl rfl (V.assign rfl ⟨_, rfl, rfl⟩) ?_
      refine QL.nil (fun _ hS => ?_)
      cases hS
      refine NX.go ?_
      refine WC.sub (e' := [(0, true, _), (1, true, _), (2, true, _), (8, true, _), (9, true, _), (10, true, _), (14, true, _), (15, true, _), (16, true, _), (17, true, _), (18, true, _), (19, true, _)]) ⟨rfl, rfl, rfl, rfl, rfl, rfl, rfl, rfl, rfl, rfl, rfl, rfl, trivial⟩ ?_
      refine WC.seq ?_
      refine WC.block ?_
      refine WC.seq ?_
      refine WC.region ?_
      refine WL.det rfl rfl rfl (V.move rfl ⟨_, rfl, rfl⟩) ?_
      refine WL.det rfl rfl rfl (V.move rfl ⟨_, rfl, rfl⟩) ?_
      refine WL.call rfl rfl rfl rfl (.cons ⟨_, rfl, rfl⟩ (.cons ⟨_, rfl, rfl⟩ .nil)) (same0 h55 h59) ?_
      rintro _ H4 ⟨rfl, k4⟩
      replace hx := hx.at k4
      replace hy := hy.at k4
      replace hO := hO.at k4
      replace hsI := hsI.at k4
      replace haI := haI.at k4
      replace hbI := hbI.at k4
      replace h55 := h55.at k4
      replace h59 := h59.at k4
      replace h63 := h63.at k4
      replace K := K.trans k4
      refine WL.det rfl rfl rfl (V.move rfl ⟨_, rfl, rfl⟩) ?_
      refine WL.gdet (Gd.no1 rfl rfl rfl rfl) rfl rfl (fun hg => V.move rfl ⟨_, rfl, rfl⟩) ?_
      refine WL.gdet (Gd.no1 rfl rfl rfl rfl) rfl rfl (fun hg => V.move rfl ⟨_, rfl, rfl⟩) ?_
      refine WL.gcall (Gd.no1 rfl rfl rfl rfl) rfl rfl rfl (fun hg => (.cons ⟨_, rfl, hg⟩ (.cons ⟨_, rfl, hg⟩ .nil))) (fun hg => same0 h59 h63) (fun H5 k5 => ?_)
      replace hx := hx.at k5
      replace hy := hy.at k5
      replace hO := hO.at k5
      replace hsI := hsI.at k5
      replace haI := haI.at k5
      replace hbI := hbI.at k5
      replace h55 := h55.at k5
      replace h59 := h59.at k5
      replace h63 := h63.at k5
      replace K := K.trans k5
      refine WL.det rfl rfl rfl (V.or rfl ⟨_, rfl, rfl⟩ (fun hb => ⟨_, rfl, (congrArg Bool.not hb)⟩)) ?_
      refine WL.det rfl rfl rfl (V.assign rfl ⟨_, rfl, rfl⟩) ?_
      refine WL.nil ?_
      refine NX.go ?_
      refine WC.sub (e' := [(0, true, _), (1, true, _), (2, true, _), (8, true, _), (9, true, _), (10, true, _), (14, true, _), (15, true, _), (16, true, _), (17, true, _), (18, true, _), (19, true, _), (64, true, _)]) ⟨rfl, rfl, rfl, rfl, rfl, rfl, rfl, rfl, rfl, rfl, rfl, rfl, rfl, trivial⟩ ?_
      refine WC.cond ⟨_, rfl, rfl⟩ (fun hc64 => ?_) (fun hc64 => ?_)
      · -- hc64 true
        try simp only [Bool.and_eq_true, Bool.or_eq_true, Bool.not_eq_true', Bool.not_eq_false', Bool.and_eq_false_iff, Bool.or_eq_false_iff, decide_eq_true_eq, decide_eq_false_iff_not, Int.not_lt, Int.not_le] at hc64
        refine WC.region ?_
        refine WL.det rfl rfl rfl (V.move rfl ⟨_, rfl, rfl⟩) ?_
        refine WL.det rfl rfl rfl (V.move rfl ⟨_, rfl, rfl⟩) ?_
        refine WL.app (T := (tSl tByte)) (M := M) rfl rfl rfl rfl Tryz.underlying142 Tryz.underlying142 (fun _ h => by cases h) Tryz.typeInfo41 rfl rfl rfl ⟨_, rfl, rfl⟩ ⟨_, rfl, rfl⟩ hO (Src.sl h63) (by show (_ + _) * 24 ≤ 140737488355328; (have := L.cut_length b k q (by omega); unfold L.cut at this; omega)) (by decide) (fun v75 H6 hO75 a6 => ?_)
        replace hx := hx.app a6
        replace hy := hy.app a6
        replace hsI := hsI.app a6
        replace haI := haI.app a6
        replace hbI := hbI.app a6
        replace h55 := h55.app a6
        replace h59 := h59.app a6
        replace h63 := h63.app a6
        have hob75 := a6.new K hob
        replace K := a6.K K hob
        refine WL.det rfl rfl rfl (V.assign rfl ⟨_, rfl, rfl⟩) ?_
        refine WL.nil ?_
        refine NX.block_normal ?_
        refine NX.go ?_
        refine WC.sub (e' := [(0, true, _), (1, true, _), (2, true, _), (8, true, _), (9, true, _), (10, true, _), (14, true, _), (15, true, _), (16, true, _)]) ⟨rfl, rfl, rfl, rfl, rfl, rfl, rfl, rfl, rfl, trivial⟩ ?_
        refine WC.seq ?_
        refine WC.seq ?_
        refine WC.region ?_
        refine WL.det rfl rfl rfl (V.move rfl ⟨_, rfl, rfl⟩) ?_
        refine WL.det rfl rfl rfl (V.move rfl ⟨_, rfl, rfl⟩) ?_
        refine WL.det rfl rfl rfl (V.len rfl Tryz.underlying142 ⟨_, rfl, rfl⟩ hsI) ?_
        refine WL.det rfl rfl rfl (V.lss rfl ⟨_, rfl, rfl⟩ ⟨_, rfl, rfl⟩) ?_
        refine WL.nil ?_
        refine NX.go ?_
        refine WC.sub (e' := [(0, true, _), (1, true, _), (2, true, _), (8, true, _), (9, true, _), (10, true, _), (14, true, _), (15, true, _), (16, true, _), (86, true, _)]) ⟨rfl, rfl, rfl, rfl, rfl, rfl, rfl, rfl, rfl, rfl, trivial⟩ ?_
        refine WC.cond ⟨_, rfl, rfl⟩ (fun hc86 => ?_) (fun hc86 => ?_)
        · -- hc86 true
          try simp only [Bool.and_eq_true, Bool.or_eq_true, Bool.not_eq_true', Bool.not_eq_false', Bool.and_eq_false_iff, Bool.or_eq_false_iff, decide_eq_true_eq, decide_eq_false_iff_not, Int.not_lt, Int.not_le] at hc86
          refine WC.region ?_
          refine WL.det rfl rfl rfl (V.move rfl ⟨_, rfl, rfl⟩) ?_
          refine WL.det rfl rfl rfl (V.move rfl ⟨_, rfl, rfl⟩) ?_
          refine WL.det rfl rfl rfl (V.move rfl ⟨_, rfl, rfl⟩) ?_
          refine WL.ex rfl rfl rfl (X.idx (i := n) rfl Tryz.underlying142 Tryz.sizeOf41 hsI ⟨_, rfl, rfl⟩ ⟨_, rfl, rfl⟩ rfl (gi (by omega))) (fun v90 h90 => ?_)
          refine WL.ex rfl rfl rfl (X.loadSl rfl Tryz.isAgg41 Tryz.sizeOf41 h90 ⟨_, rfl, rfl⟩ (Reach.is _)) (fun v91 h91 => ?_)
          have l91 := h91.len
          refine WL.app1 (T := (tSl tByte)) (M := M) rfl rfl rfl rfl rfl rfl rfl rfl Tryz.underlying142 Tryz.typeInfo41 rfl rfl rfl (by decide) ⟨_, rfl, rfl⟩ (tSl_V.2 h91) (fun _ => ⟨_, rfl, rfl⟩) hO75 (by show (_ + 1) * 24 ≤ 140737488355328; (have h1 := L.cut_length b k q (by omega); have h2 := L.cut_length a j p (by omega); unfold L.cut at h1 h2; rw [List.length_append]; omega)) (by decide) (fun v93 H7 tmp7 hO93 a7 => ?_)
          replace hx := hx.app a7
          replace hy := hy.app a7
          replace hsI := hsI.app a7
          replace haI := haI.app a7
          replace hbI := hbI.app a7
          replace h55 := h55.app a7
          replace h59 := h59.app a7
          replace h63 := h63.app a7
          have hob93 := a7.new K hob75
          replace K := a7.K K hob75
          refine WL.det rfl rfl rfl (V.assign rfl ⟨_, rfl, rfl⟩) ?_
          refine WL.nil ?_
          refine NX.go ?_
          refine WC.sub (e' := [(0, true, _), (1, true, _), (2, true, _), (8, true, _), (9, true, _), (10, true, _), (14, true, _), (15, true, _), (16, true, _)]) ⟨rfl, rfl, rfl, rfl, rfl, rfl, rfl, rfl, rfl, trivial⟩ ?_
          refine WC.region ?_
          refine WL.det rfl rfl rfl (V.move rfl ⟨_, rfl, rfl⟩) ?_
          refine WL.det rfl rfl rfl (V.add rfl ⟨_, rfl, rfl⟩ ⟨_, rfl, rfl⟩ (by unfold I64; omega)) ?_
          refine WL.det rfl rfl rfl (V.move rfl ⟨_, rfl, rfl⟩) ?_
          refine WL.det rfl rfl rfl (V.add rfl ⟨_, rfl, rfl⟩ ⟨_, rfl, rfl⟩ (by unfold I64; omega)) ?_
          refine WL.det rfl rfl rfl (V.move rfl ⟨_, rfl, rfl⟩) ?_
          refine WL.det rfl rfl rfl (V.add rfl ⟨_, rfl, rfl⟩ ⟨_, rfl, rfl⟩ (by unfold I64; omega)) ?_
          refine WL.det rfl rfl rfl (V.assign rfl ⟨_, rfl, rfl⟩) ?_
          refine WL.det rfl rfl rfl (V.assign rfl ⟨_, rfl, rfl⟩) ?_
          refine WL.det rfl rfl rfl (V.assign rfl ⟨_, rfl, rfl⟩) ?_
          refine WL.nil ?_
          refine NX.block_normal ?_
          refine NX.go ?_
          refine WC.sub (e' := [(0, true, _), (1, true, _), (2, true, _), (8, true, _), (9, true, _), (10, true, _), (11, true, _), (12, true, _), (13, true, _), (14, true, _)]) ⟨rfl, rfl, rfl, rfl, rfl, rfl, rfl, rfl, rfl, rfl, trivial⟩ ?_
          refine WC.region ?_
          refine WL.det rfl rfl rfl (V.move rfl ⟨_, rfl, rfl⟩) ?_
          refine WL.det rfl rfl rfl (V.add rfl ⟨_, rfl, rfl⟩ ⟨_, rfl, rfl⟩ (by unfold I64; omega)) ?_
          refine WL.det rfl rfl rfl (V.assign rfl ⟨_, rfl, rfl⟩) ?_
          refine WL.nil ?_
          first
            | (exact Head.mk ⟨n + 1, i, j, k, vx, vy, vo, out, by omega, by omega, by omega, fun u h1 h2 => hxj u h1 (by omega), fun u h1 h2 => hyk u h1 (by omega), hx, hy, hO, hob, hsum, by omega, by rw [hgo, L.rest_skip (by omega) hc51], rfl, rfl, K⟩ ⟨rfl, rfl, rfl, rfl, rfl, rfl, rfl, rfl, rfl, rfl, trivial⟩ (by omega))
            | (exfalso; omega)
            | (have hmx := L.mix_two hc64
               have hl1 := L.cut_length b k q (by omega)
               unfold L.cut at hl1
               refine Head.mk ⟨n + 1, n + 1, p + 1, q + 1, vx, vy, v93, _, by omega, by omega, by omega, fun u h1 h2 => (pairsRise base a).lt hpm h1 (by simp only []; omega), fun u h1 h2 => (pairsRise base b).lt hqm h1 (by simp only []; omega), hx, hy, hO93, hob93, by simp only [List.length_append, List.length_singleton]; omega, by omega, L.step_held hgo (by omega) hp hq hmx, rfl, rfl, K⟩ ⟨rfl, rfl, rfl, rfl, rfl, rfl, rfl, by rw [hp]; rfl, by rw [hq]; rfl, rfl, trivial⟩ (by omega))
            | (have hmx := L.mix_one (not_or.2 hc64) hc76
               have hl1 := L.cut_length a j p (by omega)
               unfold L.cut at hl1
               exact Head.mk ⟨n + 1, n + 1, p + 1, q + 1, vx, vy, v93, _, by omega, by omega, by omega, fun u h1 h2 => (pairsRise base a).lt hpm h1 (by simp only []; omega), fun u h1 h2 => (pairsRise base b).lt hqm h1 (by simp only []; omega), hx, hy, hO93, hob93, by simp only [List.length_append, List.length_singleton]; omega, by omega, L.step_held hgo (by omega) hp hq hmx, rfl, rfl, K⟩ ⟨rfl, rfl, rfl, rfl, rfl, rfl, rfl, by rw [hp]; rfl, by rw [hq]; rfl, rfl, trivial⟩ (by omega))
            | (have hmx := L.mix_two hc64
               obtain rfl : n = base.length := by omega
               subst hp hq
               have hl1 := L.cut_length b k b.length (by omega)
               unfold L.cut at hl1
               exact Head.mk ⟨base.length + 1, base.length + 1, a.length + 1, b.length + 1, vx, vy, v75, _, by omega, by omega, by omega, fun u h1 h2 => by (have := pairsIn h1; omega), fun u h1 h2 => by (have := pairsIn h1; omega), hx, hy, hO75, hob75, by rw [List.length_append]; omega, by omega, L.step_end hgo hmx, rfl, rfl, K⟩ ⟨rfl, rfl, rfl, rfl, rfl, rfl, rfl, rfl, rfl, rfl, trivial⟩ (by omega))
            | (have hmx := L.mix_one (not_or.2 hc64) hc76
               obtain rfl : n = base.length := by omega
               subst hp hq
               have hl1 := L.cut_length a j a.length (by omega)
               unfold L.cut at hl1
               exact Head.mk ⟨base.length + 1, base.length + 1, a.length + 1, b.length + 1, vx, vy, v82, _, by omega, by omega, by omega, fun u h1 h2 => by (have := pairsIn h1; omega), fun u h1 h2 => by (have := pairsIn h1; omega), hx, hy, hO82, hob82, by rw [List.length_append]; omega, by omega, L.step_end hgo hmx, rfl, rfl, K⟩ ⟨rfl, rfl, rfl, rfl, rfl, rfl, rfl, rfl, rfl, rfl, trivial⟩ (by omega))
        · -- hc86 false
          try simp only [Bool.and_eq_true, Bool.or_eq_true, Bool.not_eq_true', Bool.not_eq_false', Bool.and_eq_false_iff, Bool.or_eq_false_iff, decide_eq_true_eq, decide_eq_false_iff_not, Int.not_lt, Int.not_le] at hc86
          refine WC.skip ?_
          refine NX.go ?_
          refine WC.region ?_
          refine WL.det rfl rfl rfl (V.move rfl ⟨_, rfl, rfl⟩) ?_
          refine WL.det rfl rfl rfl (V.add rfl ⟨_, rfl, rfl⟩ ⟨_, rfl, rfl⟩ (by unfold I64; omega)) ?_
          refine WL.det rfl rfl rfl (V.move rfl ⟨_, rfl, rfl⟩) ?_
          refine WL.det rfl rfl rfl (V.add rfl ⟨_, rfl, rfl⟩ ⟨_, rfl, rfl⟩ (by unfold I64; omega)) ?_
          refine WL.det rfl rfl rfl (V.move rfl ⟨_, rfl, rfl⟩) ?_
          refine WL.det rfl rfl rfl (V.add rfl ⟨_, rfl, rfl⟩ ⟨_, rfl, rfl⟩ (by unfold I64; omega)) ?_
          refine WL.det rfl rfl rfl (V.assign rfl ⟨_, rfl, rfl⟩) ?_
          refine WL.det rfl rfl rfl (V.assign rfl ⟨_, rfl, rfl⟩) ?_
          refine WL.det rfl rfl rfl (V.assign rfl ⟨_, rfl, rfl⟩) ?_
          refine WL.nil ?_
          refine NX.block_normal ?_
          refine NX.go ?_
          refine WC.sub (e' := [(0, true, _), (1, true, _), (2, true, _), (8, true, _), (9, true, _), (10, true, _), (11, true, _), (12, true, _), (13, true, _), (14, true, _)]) ⟨rfl, rfl, rfl, rfl, rfl, rfl, rfl, rfl, rfl, rfl, trivial⟩ ?_
          refine WC.region ?_
          refine WL.det rfl rfl rfl (V.move rfl ⟨_, rfl, rfl⟩) ?_
          refine WL.det rfl rfl rfl (V.add rfl ⟨_, rfl, rfl⟩ ⟨_, rfl, rfl⟩ (by unfold I64; omega)) ?_
          refine WL.det rfl rfl rfl (V.assign rfl ⟨_, rfl, rfl⟩) ?_
          refine WL.nil ?_
          first
            | (exact Head.mk ⟨n + 1, i, j, k, vx, vy, vo, out, by omega, by omega, by omega, fun u h1 h2 => hxj u h1 (by omega), fun u h1 h2 => hyk u h1 (by omega), hx, hy, hO, hob, hsum, by omega, by rw [hgo, L.rest_skip (by omega) hc51], rfl, rfl, K⟩ ⟨rfl, rfl, rfl, rfl, rfl, rfl, rfl, rfl, rfl, rfl, trivial⟩ (by omega))
            | (exfalso; omega)
            | (have hmx := L.mix_two hc64
               have hl1 := L.cut_length b k q (by omega)
               unfold L.cut at hl1
               refine Head.mk ⟨n + 1, n + 1, p + 1, q + 1, vx, vy, v93, _, by omega, by omega, by omega, fun u h1 h2 => (pairsRise base a).lt hpm h1 (by simp only []; omega), fun u h1 h2 => (pairsRise base b).lt hqm h1 (by simp only []; omega), hx, hy, hO93, hob93, by simp only [List.length_append, List.length_singleton]; omega, by omega, L.step_held hgo (by omega) hp hq hmx, rfl, rfl, K⟩ ⟨rfl, rfl, rfl, rfl, rfl, rfl, rfl, by rw [hp]; rfl, by rw [hq]; rfl, rfl, trivial⟩ (by omega))
            | (have hmx := L.mix_one (not_or.2 hc64) hc76
               have hl1 := L.cut_length a j p (by omega)
               unfold L.cut at hl1
               exact Head.mk ⟨n + 1, n + 1, p + 1, q + 1, vx, vy, v93, _, by omega, by omega, by omega, fun u h1 h2 => (pairsRise base a).lt hpm h1 (by simp only []; omega), fun u h1 h2 => (pairsRise base b).lt hqm h1 (by simp only []; omega), hx, hy, hO93, hob93, by simp only [List.length_append, List.length_singleton]; omega, by omega, L.step_held hgo (by omega) hp hq hmx, rfl, rfl, K⟩ ⟨rfl, rfl, rfl, rfl, rfl, rfl, rfl, by rw [hp]; rfl, by rw [hq]; rfl, rfl, trivial⟩ (by omega))
            | (have hmx := L.mix_two hc64
               obtain rfl : n = base.length := by omega
               subst hp hq
               have hl1 := L.cut_length b k b.length (by omega)
               unfold L.cut at hl1
               exact Head.mk ⟨base.length + 1, base.length + 1, a.length + 1, b.length + 1, vx, vy, v75, _, by omega, by omega, by omega, fun u h1 h2 => by (have := pairsIn h1; omega), fun u h1 h2 => by (have := pairsIn h1; omega), hx, hy, hO75, hob75, by rw [List.length_append]; omega, by omega, L.step_end hgo hmx, rfl, rfl, K⟩ ⟨rfl, rfl, rfl, rfl, rfl, rfl, rfl, rfl, rfl, rfl, trivial⟩ (by omega))
            | (have hmx := L.mix_one (not_or.2 hc64) hc76
               obtain rfl : n = base.length := by omega
               subst hp hq
               have hl1 := L.cut_length a j a.length (by omega)
               unfold L.cut at hl1
               exact Head.mk ⟨base.length + 1, base.length + 1, a.length + 1, b.length + 1, vx, vy, v82, _, by omega, by omega, by omega, fun u h1 h2 => by (have := pairsIn h1; omega), fun u h1 h2 => by (have := pairsIn h1; omega), hx, hy, hO82, hob82, by rw [List.length_append]; omega, by omega, L.step_end hgo hmx, rfl, rfl, K⟩ ⟨rfl, rfl, rfl, rfl, rfl, rfl, rfl, rfl, rfl, rfl, trivial⟩ (by omega))
      · -- hc64 false
        try simp only [Bool.and_eq_true, Bool.or_eq_true, Bool.not_eq_true', Bool.not_eq_false', Bool.and_eq_false_iff, Bool.or_eq_false_iff, decide_eq_true_eq, decide_eq_false_iff_not, Int.not_lt, Int.not_le] at hc64
        refine WC.seq ?_
        refine WC.region ?_
        refine WL.det rfl rfl rfl (V.move rfl ⟨_, rfl, rfl⟩) ?_
        refine WL.det rfl rfl rfl (V.move rfl ⟨_, rfl, rfl⟩) ?_
        refine WL.call rfl rfl rfl rfl (.cons ⟨_, rfl, rfl⟩ (.cons ⟨_, rfl, rfl⟩ .nil)) (same0 h55 h63) ?_
        rintro _ H6 ⟨rfl, k6⟩
        replace hx := hx.at k6
        replace hy := hy.at k6
        replace hO := hO.at k6
        replace hsI := hsI.at k6
        replace haI := haI.at k6
        replace hbI := hbI.at k6
        replace h55 := h55.at k6
        replace h59 := h59.at k6
        replace h63 := h63.at k6
        replace K := K.trans k6
        refine WL.det rfl rfl rfl (V.assign rfl ⟨_, rfl, rfl⟩) ?_
        refine WL.nil ?_
        refine NX.go ?_
        refine WC.sub (e' := [(0, true, _), (1, true, _), (2, true, _), (8, true, _), (9, true, _), (10, true, _), (14, true, _), (15, true, _), (16, true, _), (18, true, _), (76, true, _)]) ⟨rfl, rfl, rfl, rfl, rfl, rfl, rfl, rfl, rfl, rfl, rfl, trivial⟩ ?_
        refine WC.cond ⟨_, rfl, rfl⟩ (fun hc76 => ?_) (fun hc76 => ?_)
        · -- hc76 true
          try simp only [Bool.and_eq_true, Bool.or_eq_true, Bool.not_eq_true', Bool.not_eq_false', Bool.and_eq_false_iff, Bool.or_eq_false_iff, decide_eq_true_eq, decide_eq_false_iff_not, Int.not_lt, Int.not_le] at hc76
          refine WC.region ?_
          refine WL.det rfl rfl rfl (V.move rfl ⟨_, rfl, rfl⟩) ?_
          refine WL.det rfl rfl rfl (V.move rfl ⟨_, rfl, rfl⟩) ?_
          refine WL.app (T := (tSl tByte)) (M := M) rfl rfl rfl rfl Tryz.underlying142 Tryz.underlying142 (fun _ h => by cases h) Tryz.typeInfo41 rfl rfl rfl ⟨_, rfl, rfl⟩ ⟨_, rfl, rfl⟩ hO (Src.sl h59) (by show (_ + _) * 24 ≤ 140737488355328; (have := L.cut_length a j p (by omega); unfold L.cut at this; omega)) (by decide) (fun v82 H7 hO82 a7 => ?_)
          replace hx := hx.app a7
          replace hy := hy.app a7
          replace hsI := hsI.app a7
          replace haI := haI.app a7
          replace hbI := hbI.app a7
          replace h55 := h55.app a7
          replace h59 := h59.app a7
          replace h63 := h63.app a7
          have hob82 := a7.new K hob
          replace K := a7.K K hob
          refine WL.det rfl rfl rfl (V.assign rfl ⟨_, rfl, rfl⟩) ?_
          refine WL.nil ?_
          refine NX.block_normal ?_
          refine NX.go ?_
          refine WC.sub (e' := [(0, true, _), (1, true, _), (2, true, _), (8, true, _), (9, true, _), (10, true, _), (14, true, _), (15, true, _), (16, true, _)]) ⟨rfl, rfl, rfl, rfl, rfl, rfl, rfl, rfl, rfl, trivial⟩ ?_
          refine WC.seq ?_
          refine WC.seq ?_
          refine WC.region ?_
          refine WL.det rfl rfl rfl (V.move rfl ⟨_, rfl, rfl⟩) ?_
          refine WL.det rfl rfl rfl (V.move rfl ⟨_, rfl, rfl⟩) ?_
          refine WL.det rfl rfl rfl (V.len rfl Tryz.underlying142 ⟨_, rfl, rfl⟩ hsI) ?_
          refine WL.det rfl rfl rfl (V.lss rfl ⟨_, rfl, rfl⟩ ⟨_, rfl, rfl⟩) ?_
          refine WL.nil ?_
          refine NX.go ?_
          refine WC.sub (e' := [(0, true, _), (1, true, _), (2, true, _), (8, true, _), (9, true, _), (10, true, _), (14, true, _), (15, true, _), (16, true, _), (86, true, _)]) ⟨rfl, rfl, rfl, rfl, rfl, rfl, rfl, rfl, rfl, rfl, trivial⟩ ?_
          refine WC.cond ⟨_, rfl, rfl⟩ (fun hc86 => ?_) (fun hc86 => ?_)
          · -- hc86 true
            try simp only [Bool.and_eq_true, Bool.or_eq_true, Bool.not_eq_true', Bool.not_eq_false', Bool.and_eq_false_iff, Bool.or_eq_false_iff, decide_eq_true_eq, decide_eq_false_iff_not, Int.not_lt, Int.not_le] at hc86
            refine WC.region ?_
            refine WL.det rfl rfl rfl (V.move rfl ⟨_, rfl, rfl⟩) ?_
            refine WL.det rfl rfl rfl (V.move rfl ⟨_, rfl, rfl⟩) ?_
            refine WL.det rfl rfl rfl (V.move rfl ⟨_, rfl, rfl⟩) ?_
            refine WL.ex rfl rfl rfl (X.idx (i := n) rfl Tryz.underlying142 Tryz.sizeOf41 hsI ⟨_, rfl, rfl⟩ ⟨_, rfl, rfl⟩ rfl (gi (by omega))) (fun v90 h90 => ?_)
            refine WL.ex rfl rfl rfl (X.loadSl rfl Tryz.isAgg41 Tryz.sizeOf41 h90 ⟨_, rfl, rfl⟩ (Reach.is _)) (fun v91 h91 => ?_)
            have l91 := h91.len
            refine WL.app1 (T := (tSl tByte)) (M := M) rfl rfl rfl rfl rfl rfl rfl rfl Tryz.underlying142 Tryz.typeInfo41 rfl rfl rfl (by decide) ⟨_, rfl, rfl⟩ (tSl_V.2 h91) (fun _ => ⟨_, rfl, rfl⟩) hO82 (by show (_ + 1) * 24 ≤ 140737488355328; (have h1 := L.cut_length b k q (by omega); have h2 := L.cut_length a j p (by omega); unfold L.cut at h1 h2; rw [List.length_append]; omega)) (by decide) (fun v93 H8 tmp8 hO93 a8 => ?_)
            replace hx := hx.app a8
            replace hy := hy.app a8
            replace hsI := hsI.app a8
            replace haI := haI.app a8
            replace hbI := hbI.app a8
            replace h55 := h55.app a8
            replace h59 := h59.app a8
            replace h63 := h63.app a8
            have hob93 := a8.new K hob82
            replace K := a8.K K hob82
            refine WL.det rfl rfl rfl (V.assign rfl ⟨_, rfl, rfl⟩) ?_
            refine WL.nil ?_
            refine NX.go ?_
            refine WC.sub (e' := [(0, true, _), (1, true, _), (2, true, _), (8, true, _), (9, true, _), (10, true, _), (14, true, _), (15, true, _), (16, true, _)]) ⟨rfl, rfl, rfl, rfl, rfl, rfl, rfl, rfl, rfl, trivial⟩ ?_
            refine WC.region ?_
            refine WL.det rfl rfl rfl (V.move rfl ⟨_, rfl, rfl⟩) ?_
            refine WL.det rfl rfl rfl (V.add rfl ⟨_, rfl, rfl⟩ ⟨_, rfl, rfl⟩ (by unfold I64; omega)) ?_
            refine WL.det rfl rfl rfl (V.move rfl ⟨_, rfl, rfl⟩) ?_
            refine WL.det rfl rfl rfl (V.add rfl ⟨_, rfl, rfl⟩ ⟨_, rfl, rfl⟩ (by unfold I64; omega)) ?_
            refine WL.det rfl rfl rfl (V.move rfl ⟨_, rfl, rfl⟩) ?_
            refine WL.det rfl rfl rfl (V.add rfl ⟨_, rfl, rfl⟩ ⟨_, rfl, rfl⟩ (by unfold I64; omega)) ?_
            refine WL.det rfl rfl rfl (V.assign rfl ⟨_, rfl, rfl⟩) ?_
            refine WL.det rfl rfl rfl (V.assign rfl ⟨_, rfl, rfl⟩) ?_
            refine WL.det rfl rfl rfl (V.assign rfl ⟨_, rfl, rfl⟩) ?_
            refine WL.nil ?_
            refine NX.block_normal ?_
            refine NX.go ?_
            refine WC.sub (e' := [(0, true, _), (1, true, _), (2, true, _), (8, true, _), (9, true, _), (10, true, _), (11, true, _), (12, true, _), (13, true, _), (14, true, _)]) ⟨rfl, rfl, rfl, rfl, rfl, rfl, rfl, rfl, rfl, rfl, trivial⟩ ?_
            refine WC.region ?_
            refine WL.det rfl rfl rfl (V.move rfl ⟨_, rfl, rfl⟩) ?_
            refine WL.det rfl rfl rfl (V.add rfl ⟨_, rfl, rfl⟩ ⟨_, rfl, rfl⟩ (by unfold I64; omega)) ?_
            refine WL.det rfl rfl rfl (V.assign rfl ⟨_, rfl, rfl⟩) ?_
            refine WL.nil ?_
            first
              | (exact Head.mk ⟨n + 1, i, j, k, vx, vy, vo, out, by omega, by omega, by omega, fun u h1 h2 => hxj u h1 (by omega), fun u h1 h2 => hyk u h1 (by omega), hx, hy, hO, hob, hsum, by omega, by rw [hgo, L.rest_skip (by omega) hc51], rfl, rfl, K⟩ ⟨rfl, rfl, rfl, rfl, rfl, rfl, rfl, rfl, rfl, rfl, trivial⟩ (by omega))
              | (exfalso; omega)
              | (have hmx := L.mix_two hc64
                 have hl1 := L.cut_length b k q (by omega)
                 unfold L.cut at hl1
                 refine Head.mk ⟨n + 1, n + 1, p + 1, q + 1, vx, vy, v93, _, by omega, by omega, by omega, fun u h1 h2 => (pairsRise base a).lt hpm h1 (by simp only []; omega), fun u h1 h2 => (pairsRise base b).lt hqm h1 (by simp only []; omega), hx, hy, hO93, hob93, by simp only [List.length_append, List.length_singleton]; omega, by omega, L.step_held hgo (by omega) hp hq hmx, rfl, rfl, K⟩ ⟨rfl, rfl, rfl, rfl, rfl, rfl, rfl, by rw [hp]; rfl, by rw [hq]; rfl, rfl, trivial⟩ (by omega))
              | (have hmx := L.mix_one (not_or.2 hc64) hc76
                 have hl1 := L.cut_length a j p (by omega)
                 unfold L.cut at hl1
                 exact Head.mk ⟨n + 1, n + 1, p + 1, q + 1, vx, vy, v93, _, by omega, by omega, by omega, fun u h1 h2 => (pairsRise base a).lt hpm h1 (by simp only []; omega), fun u h1 h2 => (pairsRise base b).lt hqm h1 (by simp only []; omega), hx, hy, hO93, hob93, by simp only [List.length_append, List.length_singleton]; omega, by omega, L.step_held hgo (by omega) hp hq hmx, rfl, rfl, K⟩ ⟨rfl, rfl, rfl, rfl, rfl, rfl, rfl, by rw [hp]; rfl, by rw [hq]; rfl, rfl, trivial⟩ (by omega))
              | (have hmx := L.mix_two hc64
                 obtain rfl : n = base.length := by omega
                 subst hp hq
                 have hl1 := L.cut_length b k b.length (by omega)
                 unfold L.cut at hl1
                 exact Head.mk ⟨base.length + 1, base.length + 1, a.length + 1, b.length + 1, vx, vy, v75, _, by omega, by omega, by omega, fun u h1 h2 => by (have := pairsIn h1; omega), fun u h1 h2 => by (have := pairsIn h1; omega), hx, hy, hO75, hob75, by rw [List.length_append]; omega, by omega, L.step_end hgo hmx, rfl, rfl, K⟩ ⟨rfl, rfl, rfl, rfl, rfl, rfl, rfl, rfl, rfl, rfl, trivial⟩ (by omega))
              | (have hmx := L.mix_one (not_or.2 hc64) hc76
                 obtain rfl : n = base.length := by omega
                 subst hp hq
                 have hl1 := L.cut_length a j a.length (by omega)
                 unfold L.cut at hl1
                 exact Head.mk ⟨base.length + 1, base.length + 1, a.length + 1, b.length + 1, vx, vy, v82, _, by omega, by omega, by omega, fun u h1 h2 => by (have := pairsIn h1; omega), fun u h1 h2 => by (have := pairsIn h1; omega), hx, hy, hO82, hob82, by rw [List.length_append]; omega, by omega, L.step_end hgo hmx, rfl, rfl, K⟩ ⟨rfl, rfl, rfl, rfl, rfl, rfl, rfl, rfl, rfl, rfl, trivial⟩ (by omega))
          · -- hc86 false
            try simp only [Bool.and_eq_true, Bool.or_eq_true, Bool.not_eq_true', Bool.not_eq_false', Bool.and_eq_false_iff, Bool.or_eq_false_iff, decide_eq_true_eq, decide_eq_false_iff_not, Int.not_lt, Int.not_le] at hc86
            refine WC.skip ?_
            refine NX.go ?_
            refine WC.region ?_
            refine WL.det rfl rfl rfl (V.move rfl ⟨_, rfl, rfl⟩) ?_
            refine WL.det rfl rfl rfl (V.add rfl ⟨_, rfl, rfl⟩ ⟨_, rfl, rfl⟩ (by unfold I64; omega)) ?_
            refine WL.det rfl rfl rfl (V.move rfl ⟨_, rfl, rfl⟩) ?_
            refine WL.det rfl rfl rfl (V.add rfl ⟨_, rfl, rfl⟩ ⟨_, rfl, rfl⟩ (by unfold I64; omega)) ?_
            refine WL.det rfl rfl rfl (V.move rfl ⟨_, rfl, rfl⟩) ?_
            refine WL.det rfl rfl rfl (V.add rfl ⟨_, rfl, rfl⟩ ⟨_, rfl, rfl⟩ (by unfold I64; omega)) ?_
            refine WL.det rfl rfl rfl (V.assign rfl ⟨_, rfl, rfl⟩) ?_
            refine WL.det rfl rfl rfl (V.assign rfl ⟨_, rfl, rfl⟩) ?_
            refine WL.det rfl rfl rfl (V.assign rfl ⟨_, rfl, rfl⟩) ?_
            refine WL.nil ?_
            refine NX.block_normal ?_
            refine NX.go ?_
            refine WC.sub (e' := [(0, true, _), (1, true, _), (2, true, _), (8, true, _), (9, true, _), (10, true, _), (11, true, _), (12, true, _), (13, true, _), (14, true, _)]) ⟨rfl, rfl, rfl, rfl, rfl, rfl, rfl, rfl, rfl, rfl, trivial⟩ ?_
            refine WC.region ?_
            refine WL.det rfl rfl rfl (V.move rfl ⟨_, rfl, rfl⟩) ?_
            refine WL.det rfl rfl rfl (V.add rfl ⟨_, rfl, rfl⟩ ⟨_, rfl, rfl⟩ (by unfold I64; omega)) ?_
            refine WL.det rfl rfl rfl (V.assign rfl ⟨_, rfl, rfl⟩) ?_
            refine WL.nil ?_
            first
              | (exact Head.mk ⟨n + 1, i, j, k, vx, vy, vo, out, by omega, by omega, by omega, fun u h1 h2 => hxj u h1 (by omega), fun u h1 h2 => hyk u h1 (by omega), hx, hy, hO, hob, hsum, by omega, by rw [hgo, L.rest_skip (by omega) hc51], rfl, rfl, K⟩ ⟨rfl, rfl, rfl, rfl, rfl, rfl, rfl, rfl, rfl, rfl, trivial⟩ (by omega))
              | (exfalso; omega)
              | (have hmx := L.mix_two hc64
                 have hl1 := L.cut_length b k q (by omega)
                 unfold L.cut at hl1
                 refine Head.mk ⟨n + 1, n + 1, p + 1, q + 1, vx, vy, v93, _, by omega, by omega, by omega, fun u h1 h2 => (pairsRise base a).lt hpm h1 (by simp only []; omega), fun u h1 h2 => (pairsRise base b).lt hqm h1 (by simp only []; omega), hx, hy, hO93, hob93, by simp only [List.length_append, List.length_singleton]; omega, by omega, L.step_held hgo (by omega) hp hq hmx, rfl, rfl, K⟩ ⟨rfl, rfl, rfl, rfl, rfl, rfl, rfl, by rw [hp]; rfl, by rw [hq]; rfl, rfl, trivial⟩ (by omega))
              | (have hmx := L.mix_one (not_or.2 hc64) hc76
                 have hl1 := L.cut_length a j p (by omega)
                 unfold L.cut at hl1
                 exact Head.mk ⟨n + 1, n + 1, p + 1, q + 1, vx, vy, v93, _, by omega, by omega, by omega, fun u h1 h2 => (pairsRise base a).lt hpm h1 (by simp only []; omega), fun u h1 h2 => (pairsRise base b).lt hqm h1 (by simp only []; omega), hx, hy, hO93, hob93, by simp only [List.length_append, List.length_singleton]; omega, by omega, L.step_held hgo (by omega) hp hq hmx, rfl, rfl, K⟩ ⟨rfl, rfl, rfl, rfl, rfl, rfl, rfl, by rw [hp]; rfl, by rw [hq]; rfl, rfl, trivial⟩ (by omega))
              | (have hmx := L.mix_two hc64
                 obtain rfl : n = base.length := by omega
                 subst hp hq
                 have hl1 := L.cut_length b k b.length (by omega)
                 unfold L.cut at hl1
                 exact Head.mk ⟨base.length + 1, base.length + 1, a.length + 1, b.length + 1, vx, vy, v75, _, by omega, by omega, by omega, fun u h1 h2 => by (have := pairsIn h1; omega), fun u h1 h2 => by (have := pairsIn h1; omega), hx, hy, hO75, hob75, by rw [List.length_append]; omega, by omega, L.step_end hgo hmx, rfl, rfl, K⟩ ⟨rfl, rfl, rfl, rfl, rfl, rfl, rfl, rfl, rfl, rfl, trivial⟩ (by omega))
              | (have hmx := L.mix_one (not_or.2 hc64) hc76
                 obtain rfl : n = base.length := by omega
                 subst hp hq
                 have hl1 := L.cut_length a j a.length (by omega)
                 unfold L.cut at hl1
                 exact Head.mk ⟨base.length + 1, base.length + 1, a.length + 1, b.length + 1, vx, vy, v82, _, by omega, by omega, by omega, fun u h1 h2 => by (have := pairsIn h1; omega), fun u h1 h2 => by (have := pairsIn h1; omega), hx, hy, hO82, hob82, by rw [List.length_append]; omega, by omega, L.step_end hgo hmx, rfl, rfl, K⟩ ⟨rfl, rfl, rfl, rfl, rfl, rfl, rfl, rfl, rfl, rfl, trivial⟩ (by omega))
        · -- hc76 false
          try simp only [Bool.and_eq_true, Bool.or_eq_true, Bool.not_eq_true', Bool.not_eq_false', Bool.and_eq_false_iff, Bool.or_eq_false_iff, decide_eq_true_eq, decide_eq_false_iff_not, Int.not_lt, Int.not_le] at hc76
          refine WC.seq ?_
          refine WC.region ?_
          refine WL.det rfl rfl rfl (V.assign rfl ⟨_, rfl, rfl⟩) ?_
          refine WL.det rfl rfl rfl (V.assign rfl ⟨_, rfl, rfl⟩) ?_
          refine WL.nil ?_
          refine NX.go ?_
          refine WC.sub (e' := [(6, true, _), (7, true, _)]) ⟨rfl, rfl, trivial⟩ ?_
          refine WC.ret ?_
          refine NX.block_ret ?_
          refine NX.of_ret ?_
          refine NX.block_ret ?_
          refine NX.of_ret ?_
          refine NX.of_ret ?_
          refine NX.block_ret ?_
          refine NX.of_ret ?_
          refine ret2 hQ Tryz.results144 rfl ⟨_, rfl, rfl⟩ ⟨_, rfl, rfl⟩ ?_
          first
            | (have hmx := L.mix_none (not_or.2 hc64) hc76
               exact .inr ⟨L.fail_held hgo (by omega) hp hq hmx, rfl, K⟩)
            | (have hmx := L.mix_none (not_or.2 hc64) hc76
               obtain rfl : n = base.length := by omega
               subst hp hq
               exact .inr ⟨L.fail_end hgo hmx, rfl, K⟩)
            | (obtain rfl : n = base.length + 1 := by omega
               rw [L.rest_past] at hgo
               simp at hgo
               exact .inl ⟨_, _, hgo, rfl, hO.give hob hM, K⟩)
  · -- hc29 false
    try simp only [Bool.and_eq_true, Bool.or_eq_true, Bool.not_eq_true', Bool.not_eq_false', Bool.and_eq_false_iff, Bool.or_eq_false_iff, decide_eq_true_eq, decide_eq_false_iff_not, Int.not_lt, Int.not_le] at hc29
    refine WC.exit ?_
    refine NX.of_exit ?_
    refine NX.of_exit ?_
    refine NX.block_hit ?_
    refine NX.go ?_
    refine WC.seq ?_
    refine WC.region ?_
    refine WL.det rfl rfl rfl (V.move rfl ⟨_, rfl, rfl⟩) ?_
    refine WL.det rfl rfl rfl (V.assign rfl ⟨_, rfl, rfl⟩) ?_
    refine WL.det rfl rfl rfl (V.assign rfl ⟨_, rfl, rfl⟩) ?_
    refine WL.nil ?_
    refine NX.go ?_
    refine WC.sub (e' := [(6, true, _), (7, true, _)]) ⟨rfl, rfl, trivial⟩ ?_
    refine WC.ret ?_
    refine ret2 hQ Tryz.results144 rfl ⟨_, rfl, rfl⟩ ⟨_, rfl, rfl⟩ ?_
    first
      | (have hmx := L.mix_none (not_or.2 hc64) hc76
         exact .inr ⟨L.fail_held hgo (by omega) hp hq hmx, rfl, K⟩)
      | (have hmx := L.mix_none (not_or.2 hc64) hc76
         obtain rfl : n = base.length := by omega
         subst hp hq
         exact .inr ⟨L.fail_end hgo hmx, rfl, K⟩)
      | (obtain rfl : n = base.length + 1 := by omega
         rw [L.rest_past] at hgo
         simp at hgo
         exact .inl ⟨_, _, hgo, rfl, hO.give hob hM, K⟩)
end Go.Proofs.YtpmjnbidmcnhnaaGreatDoor
