/- lines: the law of what the functions do -/
import Derived.Test.YtkkjjbejkcgmfaaLaw4
import Derived.Test.YtkkjjbejkcgmfaaLaw5
namespace Go.Proofs.Ytkkjjbejkcgmfaa
open Go.NB
set_option linter.unusedVariables false
set_option linter.unusedSimpArgs false

set_option maxRecDepth 20000 in
set_option maxHeartbeats 1000000 in
theorem lawDoes {H0 : Heap} {vt vs va vb : Value} {tx : List UInt8} {base a b : L.Ls} (ht : Sl tByte H0 [] vt tx) (hs : Sl (tSl tByte) H0 [] vs base) (ha : Sl (tSl tByte) H0 [] va a) (hb : Sl (tSl tByte) H0 [] vb b) :
    CallsH Try.prog 3 #[vt, vs, va, vb] H0 (fun v H => v = .bool true ∧ Keep [] H0 H) := by
  refine enter (args := [vt, vs, va, vb]) Try.call3 Try.func3 rfl Try.ntmps3 (Nat.le_of_ble_eq_true rfl) (fun W0 Q hQ => ?_)
  refine WC.sub (e' := [(0, true, vt), (1, true, vs), (2, true, va), (3, true, vb)]) ⟨rfl, rfl, rfl, rfl, trivial⟩ ?_
  have K : Keep [] H0 H0 := Keep.refl _ _
  refine WC.seq ?_
  refine WC.region ?_
  refine WL.det rfl rfl rfl (V.assign rfl ⟨_, rfl, rfl⟩) ?_
  refine WL.nil ?_
  refine NX.go ?_
  refine WC.sub (e' := [(0, true, _), (1, true, _), (2, true, _), (3, true, _)]) ⟨rfl, rfl, rfl, rfl, trivial⟩ ?_
  refine WC.seq ?_
  refine WC.seq ?_
  refine WC.region ?_
  refine WL.call rfl rfl rfl rfl .nil (begun) ?_
  rintro _ H1 ⟨rfl, k1⟩
  replace K := K.trans k1
  refine WL.det rfl rfl rfl (V.not rfl ⟨_, rfl, rfl⟩) ?_
  refine WL.nil ?_
  refine NX.go ?_
  refine WC.sub (e' := [(0, true, _), (1, true, _), (2, true, _), (3, true, _), (17, true, _)]) ⟨rfl, rfl, rfl, rfl, rfl, trivial⟩ ?_
  refine WC.cond ⟨_, rfl, rfl⟩ (fun hc17 => ?_) (fun hc17 => ?_)
  · -- hc17 true
    try simp only [Bool.and_eq_true, Bool.or_eq_true, Bool.not_eq_true', Bool.not_eq_false', Bool.and_eq_false_iff, Bool.or_eq_false_iff, decide_eq_true_eq, decide_eq_false_iff_not, Int.not_lt, Int.not_le] at hc17
    exact absurd hc17 (by simp)
  · -- hc17 false
    try simp only [Bool.and_eq_true, Bool.or_eq_true, Bool.not_eq_true', Bool.not_eq_false', Bool.and_eq_false_iff, Bool.or_eq_false_iff, decide_eq_true_eq, decide_eq_false_iff_not, Int.not_lt, Int.not_le] at hc17
    refine WC.skip ?_
    refine NX.go ?_
    refine WC.seq ?_
    refine WC.seq ?_
    refine WC.region ?_
    refine WL.det rfl rfl rfl (V.move rfl ⟨_, rfl, rfl⟩) ?_
    refine WL.det rfl rfl rfl (V.len rfl Try.underlying22 ⟨_, rfl, rfl⟩ (ht.at K)) ?_
    refine WL.det rfl rfl rfl (V.gtr rfl ⟨_, rfl, rfl⟩ ⟨_, rfl, rfl⟩) ?_
    refine WL.det rfl rfl rfl (V.move rfl ⟨_, rfl, rfl⟩) ?_
    refine WL.gdet (Gd.no1 rfl rfl rfl rfl) rfl rfl (fun hg => V.move rfl ⟨_, rfl, rfl⟩) ?_
    refine WL.gcall (Gd.no1 rfl rfl rfl rfl) rfl rfl rfl (fun hg => (.cons ⟨_, rfl, hg⟩ .nil)) (fun hg => greatK (hs.at K)) (fun H2 k2 => ?_)
    replace K := K.trans k2
    refine WL.det rfl rfl rfl (V.or rfl ⟨_, rfl, rfl⟩ (fun hb => ⟨_, rfl, (congrArg Bool.not hb)⟩)) ?_
    refine WL.det rfl rfl rfl (V.move rfl ⟨_, rfl, rfl⟩) ?_
    refine WL.gdet (Gd.no1 rfl rfl rfl rfl) rfl rfl (fun hg => V.move rfl ⟨_, rfl, rfl⟩) ?_
    refine WL.gcall (Gd.no1 rfl rfl rfl rfl) rfl rfl rfl (fun hg => (.cons ⟨_, rfl, hg⟩ .nil)) (fun hg => greatK (ha.at K)) (fun H3 k3 => ?_)
    replace K := K.trans k3
    refine WL.det rfl rfl rfl (V.or rfl ⟨_, rfl, rfl⟩ (fun hb => ⟨_, rfl, (congrArg Bool.not hb)⟩)) ?_
    refine WL.det rfl rfl rfl (V.move rfl ⟨_, rfl, rfl⟩) ?_
    refine WL.gdet (Gd.no1 rfl rfl rfl rfl) rfl rfl (fun hg => V.move rfl ⟨_, rfl, rfl⟩) ?_
    refine WL.gcall (Gd.no1 rfl rfl rfl rfl) rfl rfl rfl (fun hg => (.cons ⟨_, rfl, hg⟩ .nil)) (fun hg => greatK (hb.at K)) (fun H4 k4 => ?_)
    replace K := K.trans k4
    refine WL.det rfl rfl rfl (V.or rfl ⟨_, rfl, rfl⟩ (fun hb => ⟨_, rfl, (congrArg Bool.not hb)⟩)) ?_
    refine WL.nil ?_
    refine NX.go ?_
    refine WC.sub (e' := [(0, true, _), (1, true, _), (2, true, _), (3, true, _), (32, true, _)]) ⟨rfl, rfl, rfl, rfl, rfl, trivial⟩ ?_
    refine WC.cond ⟨_, rfl, rfl⟩ (fun hc32 => ?_) (fun hc32 => ?_)
    · -- hc32 true
      try simp only [Bool.and_eq_true, Bool.or_eq_true, Bool.not_eq_true', Bool.not_eq_false', Bool.and_eq_false_iff, Bool.or_eq_false_iff, decide_eq_true_eq, decide_eq_false_iff_not, Int.not_lt, Int.not_le] at hc32
      refine WC.seq ?_
      refine WC.region ?_
      refine WL.det rfl rfl rfl (V.assign rfl ⟨_, rfl, rfl⟩) ?_
      refine WL.nil ?_
      refine NX.go ?_
      refine WC.sub (e' := [(8, true, _)]) ⟨rfl, trivial⟩ ?_
      refine WC.ret ?_
      refine NX.of_ret ?_
      refine ret1 hQ Try.results3 rfl ⟨_, rfl, rfl⟩ ?_
      first
        | exact ⟨rfl, K⟩
        | (refine ⟨?_, K⟩
           simp)
    · -- hc32 false
      try simp only [Bool.and_eq_true, Bool.or_eq_true, Bool.not_eq_true', Bool.not_eq_false', Bool.and_eq_false_iff, Bool.or_eq_false_iff, decide_eq_true_eq, decide_eq_false_iff_not, Int.not_lt, Int.not_le] at hc32
      have hls := great_len hc32.1.1.2
      have hla := great_len hc32.1.2
      have hlb := great_len hc32.2
      have htl := hc32.1.1.1
      refine WC.skip ?_
      refine NX.go ?_
      refine WC.seq ?_
      refine WC.region ?_
      refine WL.det rfl rfl rfl (V.move rfl ⟨_, rfl, rfl⟩) ?_
      refine WL.det rfl rfl rfl (V.move rfl ⟨_, rfl, rfl⟩) ?_
      refine WL.call rfl rfl rfl rfl (.cons ⟨_, rfl, rfl⟩ (.cons ⟨_, rfl, rfl⟩ .nil)) (common (ha.at K) (hb.at K) (fun _ h => by cases h) (by omega) (by omega)) ?_
      rintro v35 H5 ⟨hx, k5⟩
      replace K := K.trans k5
      refine WL.det rfl rfl rfl (V.move rfl ⟨_, rfl, rfl⟩) ?_
      refine WL.det rfl rfl rfl (V.move rfl ⟨_, rfl, rfl⟩) ?_
      refine WL.call rfl rfl rfl rfl (.cons ⟨_, rfl, rfl⟩ (.cons ⟨_, rfl, rfl⟩ .nil)) (pairsOf (ha.at K) (hb.at K) (fun _ h => by cases h) (by omega) (by omega)) ?_
      rintro v38 H6 ⟨hy, k6⟩
      replace hx := hx.at k6
      replace K := K.trans k6
      refine WL.det rfl rfl rfl (V.assign rfl ⟨_, rfl, rfl⟩) ?_
      refine WL.det rfl rfl rfl (V.assign rfl ⟨_, rfl, rfl⟩) ?_
      refine WL.nil ?_
      refine NX.go ?_
      refine WC.sub (e' := [(0, true, _), (1, true, _), (2, true, _), (3, true, _), (9, true, _), (10, true, _)]) ⟨rfl, rfl, rfl, rfl, rfl, rfl, trivial⟩ ?_
      refine WC.seq ?_
      refine WC.seq ?_
      refine WC.region ?_
      refine WL.det rfl rfl rfl (V.move rfl ⟨_, rfl, rfl⟩) ?_
      refine WL.det rfl rfl rfl (V.len rfl Try.underlying26 ⟨_, rfl, rfl⟩ hx) ?_
      refine WL.det rfl rfl rfl (V.move rfl ⟨_, rfl, rfl⟩) ?_
      refine WL.det rfl rfl rfl (V.len rfl Try.underlying28 ⟨_, rfl, rfl⟩ hy) ?_
      refine WL.det rfl rfl rfl (V.neq rfl ⟨_, rfl, rfl⟩ ⟨_, rfl, rfl⟩) ?_
      refine WL.nil ?_
      refine NX.go ?_
      refine WC.sub (e' := [(0, true, _), (1, true, _), (2, true, _), (3, true, _), (9, true, _), (10, true, _), (43, true, _)]) ⟨rfl, rfl, rfl, rfl, rfl, rfl, rfl, trivial⟩ ?_
      refine WC.cond ⟨_, rfl, rfl⟩ (fun hc43 => ?_) (fun hc43 => ?_)
      · -- hc43 true
        try simp only [Bool.and_eq_true, Bool.or_eq_true, Bool.not_eq_true', Bool.not_eq_false', Bool.and_eq_false_iff, Bool.or_eq_false_iff, decide_eq_true_eq, decide_eq_false_iff_not, Int.not_lt, Int.not_le] at hc43
        exact absurd trivial hc43
      · -- hc43 false
        try simp only [Bool.and_eq_true, Bool.or_eq_true, Bool.not_eq_true', Bool.not_eq_false', Bool.and_eq_false_iff, Bool.or_eq_false_iff, decide_eq_true_eq, decide_eq_false_iff_not, Int.not_lt, Int.not_le] at hc43
        refine WC.skip ?_
        refine NX.go ?_
        refine WC.seq ?_
        refine WC.seq ?_
        refine WC.region ?_
        refine WL.det rfl rfl rfl (V.assign rfl ⟨_, rfl, rfl⟩) ?_
        refine WL.nil ?_
        refine NX.go ?_
        refine WC.sub (e' := [(0, true, _), (1, true, _), (2, true, _), (3, true, _), (9, true, _), (10, true, _), (11, true, _)]) ⟨rfl, rfl, rfl, rfl, rfl, rfl, rfl, trivial⟩ ?_
        refine WC.block ?_
        refine WC.loop (fun m e H => ∃ (i : Nat) (vx vy : Value), (i ≤ (L.pairs a b 0 0).length) ∧ (Sl tPair H [] vx (L.pairs a b 0 0)) ∧ (Sl tPair H [] vy (L.pairs a b 0 0)) ∧ e = [(0, true, vt), (1, true, vs), (2, true, va), (3, true, vb), (9, true, vx), (10, true, vy), (11, true, iv (i : Nat))] ∧ (L.pairs a b 0 0).length - i = m ∧ Keep [] H0 H) (m0 := _) (e0 := _) (by exact ⟨0, _, _, by omega, hx, hy, rfl, rfl, K⟩) (by exact ⟨rfl, rfl, rfl, rfl, rfl, rfl, rfl, trivial⟩) ?_
        clear K
        clear hx
        clear hy
        rintro _ _ H7 ⟨i, vx, vy, hi, hx, hy, rfl, rfl, K⟩
        refine WC.seq ?_
        refine WC.seq ?_
        refine WC.region ?_
        refine WL.det rfl rfl rfl (V.move rfl ⟨_, rfl, rfl⟩) ?_
        refine WL.det rfl rfl rfl (V.move rfl ⟨_, rfl, rfl⟩) ?_
        refine WL.det rfl rfl rfl (V.len rfl Try.underlying26 ⟨_, rfl, rfl⟩ hx) ?_
        refine WL.det rfl rfl rfl (V.lss rfl ⟨_, rfl, rfl⟩ ⟨_, rfl, rfl⟩) ?_
        refine WL.nil ?_
        refine NX.go ?_
        refine WC.sub (e' := [(0, true, _), (1, true, _), (2, true, _), (3, true, _), (9, true, _), (10, true, _), (11, true, _), (47, true, _)]) ⟨rfl, rfl, rfl, rfl, rfl, rfl, rfl, rfl, trivial⟩ ?_
        refine WC.cond ⟨_, rfl, rfl⟩ (fun hc47 => ?_) (fun hc47 => ?_)
        · -- hc47 true
          try simp only [Bool.and_eq_true, Bool.or_eq_true, Bool.not_eq_true', Bool.not_eq_false', Bool.and_eq_false_iff, Bool.or_eq_false_iff, decide_eq_true_eq, decide_eq_false_iff_not, Int.not_lt, Int.not_le] at hc47
          replace hc47 : i < (L.pairs a b 0 0).length := by omega
          refine WC.skip ?_
          refine NX.go ?_
          refine WC.seq ?_
          refine WC.block ?_
          refine WC.seq ?_
          refine WC.draw (Is _) rfl (by kernel_rfl) (by kernel_rfl) ?_
          refine QL.det rfl rfl rfl (V.move rfl ⟨_, rfl, rfl⟩) ?_
          refine QL.det rfl rfl rfl (V.move rfl ⟨_, rfl, rfl⟩) ?_
          refine QL.ex rfl rfl rfl (X.idx (i := i) rfl Try.underlying26 Try.sizeOf31 hx ⟨_, rfl, rfl⟩ ⟨_, rfl, rfl⟩ rfl (gi (by omega))) (fun v52 h52 => ?_)
          refine QL.ex rfl rfl rfl (X.field rfl Try.underlying31 rfl Try.sizeOf3 (by decide) pairA rfl h52 ⟨_, rfl, rfl⟩) (fun v53 h53 => ?_)
          refine QL.det rfl rfl rfl (V.loadInt rfl Try.isAgg3 Try.sizeOf3 h53 ⟨_, rfl, rfl⟩ (Reach.is _)) ?_
          refine QL.det rfl rfl rfl (V.move rfl ⟨_, rfl, rfl⟩) ?_
          refine QL.det rfl rfl rfl (V.move rfl ⟨_, rfl, rfl⟩) ?_
          refine QL.ex rfl rfl rfl (X.idx (i := i) rfl Try.underlying28 Try.sizeOf32 hy ⟨_, rfl, rfl⟩ ⟨_, rfl, rfl⟩ rfl (gi (by omega))) (fun v57 h57 => ?_)
          refine QL.ex rfl rfl rfl (X.field rfl Try.underlying32 rfl Try.sizeOf3 (by decide) pairA rfl h57 ⟨_, rfl, rfl⟩) (fun v58 h58 => ?_)
          refine QL.det rfl rfl rfl (V.loadInt rfl Try.isAgg3 Try.sizeOf3 h58 ⟨_, rfl, rfl⟩ (Reach.is _)) ?_
          refine QL.det rfl rfl rfl (V.neq rfl ⟨_, rfl, rfl⟩ ⟨_, rfl, rfl⟩) ?_
          refine QL.det rfl rfl rfl (V.move rfl ⟨_, rfl, rfl⟩) ?_
          refine QL.gdet (Gd.no1 rfl rfl rfl rfl) rfl rfl (fun hg => V.move rfl ⟨_, rfl, rfl⟩) ?_
          refine QL.gdet (Gd.no1 rfl rfl rfl rfl) rfl rfl (fun hg => V.move rfl ⟨_, rfl, rfl⟩) ?_
          refine QL.gex (Gd.no1 rfl rfl rfl rfl) rfl rfl (fun hg => X.idx (i := i) rfl Try.underlying26 Try.sizeOf31 hx ⟨_, rfl, hg⟩ ⟨_, rfl, hg⟩ rfl (gi (show i < (L.pairs a b 0 0).length from hc47))) (fun v64 h64 => ?_)
          refine QL.gex (Gd.no1 rfl rfl rfl rfl) rfl rfl (fun hg => X.field rfl Try.underlying31 rfl Try.sizeOf3 (by decide) pairB rfl (h64 hg) ⟨_, rfl, hg⟩) (fun v65 h65 => ?_)
          refine QL.gdet (Gd.no1 rfl rfl rfl rfl) rfl rfl (fun hg => V.loadInt rfl Try.isAgg3 Try.sizeOf3 (h65 hg) ⟨_, rfl, hg⟩ (Reach.is _)) ?_
          refine QL.gdet (Gd.no1 rfl rfl rfl rfl) rfl rfl (fun hg => V.move rfl ⟨_, rfl, rfl⟩) ?_
          refine QL.gdet (Gd.no1 rfl rfl rfl rfl) rfl rfl (fun hg => V.move rfl ⟨_, rfl, rfl⟩) ?_
          refine QL.gex (Gd.no1 rfl rfl rfl rfl) rfl rfl (fun hg => X.idx (i := i) rfl Try.underlying28 Try.sizeOf32 hy ⟨_, rfl, hg⟩ ⟨_, rfl, hg⟩ rfl (gi (show i < (L.pairs a b 0 0).length from hc47))) (fun v69 h69 => ?_)
          refine QL.gex (Gd.no1 rfl rfl rfl rfl) rfl rfl (fun hg => X.field rfl Try.underlying32 rfl Try.sizeOf3 (by decide) pairB rfl (h69 hg) ⟨_, rfl, hg⟩) (fun v70 h70 => ?_)
          refine QL.gdet (Gd.no1 rfl rfl rfl rfl) rfl rfl (fun hg => V.loadInt rfl Try.isAgg3 Try.sizeOf3 (h70 hg) ⟨_, rfl, hg⟩ (Reach.is _)) ?_
          refine QL.gdet (Gd.no1 rfl rfl rfl rfl) rfl rfl (fun hg => V.neq rfl ⟨_, rfl, hg⟩ ⟨_, rfl, hg⟩) ?_
          refine QL.det rfl rfl rfl (V.or rfl ⟨_, rfl, rfl⟩ (fun hb => ⟨_, rfl, (congrArg Bool.not hb)⟩)) ?_
          refine QL.nil (fun _ hS => ?_)
          cases hS
          refine NX.go ?_
          refine WC.sub (e' := [(0, true, _), (1, true, _), (2, true, _), (3, true, _), (9, true, _), (10, true, _), (11, true, _), (73, true, _)]) ⟨rfl, rfl, rfl, rfl, rfl, rfl, rfl, rfl, trivial⟩ ?_
          refine WC.cond ⟨_, rfl, rfl⟩ (fun hc73 => ?_) (fun hc73 => ?_)
          · -- hc73 true
            try simp only [Bool.and_eq_true, Bool.or_eq_true, Bool.not_eq_true', Bool.not_eq_false', Bool.and_eq_false_iff, Bool.or_eq_false_iff, decide_eq_true_eq, decide_eq_false_iff_not, Int.not_lt, Int.not_le] at hc73
            exfalso
            rcases hc73 with h | h <;> exact h trivial
          · -- hc73 false
            try simp only [Bool.and_eq_true, Bool.or_eq_true, Bool.not_eq_true', Bool.not_eq_false', Bool.and_eq_false_iff, Bool.or_eq_false_iff, decide_eq_true_eq, decide_eq_false_iff_not, Int.not_lt, Int.not_le] at hc73
            refine WC.skip ?_
            refine NX.block_normal ?_
            refine NX.go ?_
            refine WC.region ?_
            refine WL.det rfl rfl rfl (V.move rfl ⟨_, rfl, rfl⟩) ?_
            refine WL.det rfl rfl rfl (V.add rfl ⟨_, rfl, rfl⟩ ⟨_, rfl, rfl⟩ (by have := hx.len; unfold I64; omega)) ?_
            refine WL.det rfl rfl rfl (V.assign rfl ⟨_, rfl, rfl⟩) ?_
            refine WL.nil ?_
            exact Head.mk ⟨i + 1, vx, vy, by omega, hx, hy, rfl, rfl, K⟩ ⟨rfl, rfl, rfl, rfl, rfl, rfl, rfl, trivial⟩ (by omega)
        · -- hc47 false
          try simp only [Bool.and_eq_true, Bool.or_eq_true, Bool.not_eq_true', Bool.not_eq_false', Bool.and_eq_false_iff, Bool.or_eq_false_iff, decide_eq_true_eq, decide_eq_false_iff_not, Int.not_lt, Int.not_le] at hc47
          refine WC.exit ?_
          refine NX.of_exit ?_
          refine NX.of_exit ?_
          refine NX.block_hit ?_
          refine NX.go ?_
          refine WC.seq ?_
          refine WC.region ?_
          refine WL.det rfl rfl rfl (V.move rfl ⟨_, rfl, rfl⟩) ?_
          refine WL.det rfl rfl rfl (V.move rfl ⟨_, rfl, rfl⟩) ?_
          refine WL.det rfl rfl rfl (V.move rfl ⟨_, rfl, rfl⟩) ?_
          refine WL.call rfl rfl rfl rfl (.cons ⟨_, rfl, rfl⟩ (.cons ⟨_, rfl, rfl⟩ (.cons ⟨_, rfl, rfl⟩ .nil))) (mergeK (hs.at K) (ha.at K) (hb.at K) (by omega) (by omega) (by omega)) ?_
          rintro _ H8 ⟨v78, rfl, hm, k8⟩
          replace hx := hx.at k8
          replace hy := hy.at k8
          replace K := K.trans k8
          refine WL.det rfl rfl rfl (V.move rfl ⟨_, rfl, rfl⟩) ?_
          refine WL.det rfl rfl rfl (V.extract rfl ⟨_, rfl, rfl⟩ rfl) ?_
          refine WL.det rfl rfl rfl (V.extract rfl ⟨_, rfl, rfl⟩ rfl) ?_
          refine WL.det rfl rfl rfl (V.assign rfl ⟨_, rfl, rfl⟩) ?_
          refine WL.det rfl rfl rfl (V.assign rfl ⟨_, rfl, rfl⟩) ?_
          refine WL.nil ?_
          refine NX.go ?_
          refine WC.sub (e' := [(0, true, _), (1, true, _), (2, true, _), (3, true, _), (12, true, _), (13, true, _)]) ⟨rfl, rfl, rfl, rfl, rfl, rfl, trivial⟩ ?_
          refine WC.seq ?_
          refine WC.region ?_
          refine WL.det rfl rfl rfl (V.move rfl ⟨_, rfl, rfl⟩) ?_
          refine WL.det rfl rfl rfl (V.move rfl ⟨_, rfl, rfl⟩) ?_
          refine WL.det rfl rfl rfl (V.move rfl ⟨_, rfl, rfl⟩) ?_
          refine WL.call rfl rfl rfl rfl (.cons ⟨_, rfl, rfl⟩ (.cons ⟨_, rfl, rfl⟩ (.cons ⟨_, rfl, rfl⟩ .nil))) (mixed (hs.at K) (ha.at K) (hb.at K) (by omega) (by omega) (by omega)) ?_
          rintro _ H9 ⟨v85, rfl, hn, k9⟩
          replace hx := hx.at k9
          replace hy := hy.at k9
          replace hm := hm.at k9
          replace K := K.trans k9
          refine WL.det rfl rfl rfl (V.move rfl ⟨_, rfl, rfl⟩) ?_
          refine WL.det rfl rfl rfl (V.extract rfl ⟨_, rfl, rfl⟩ rfl) ?_
          refine WL.det rfl rfl rfl (V.extract rfl ⟨_, rfl, rfl⟩ rfl) ?_
          refine WL.det rfl rfl rfl (V.assign rfl ⟨_, rfl, rfl⟩) ?_
          refine WL.det rfl rfl rfl (V.assign rfl ⟨_, rfl, rfl⟩) ?_
          refine WL.nil ?_
          refine NX.go ?_
          refine WC.sub (e' := [(0, true, _), (12, true, _), (13, true, _), (14, true, _), (15, true, _)]) ⟨rfl, rfl, rfl, rfl, rfl, trivial⟩ ?_
          refine WC.seq ?_
          refine WC.region ?_
          refine WL.det rfl rfl rfl (V.move rfl ⟨_, rfl, rfl⟩) ?_
          refine WL.call rfl rfl rfl rfl (.cons ⟨_, rfl, rfl⟩ .nil) (lines (ht.at K) (fun _ h => by cases h) (by omega)) ?_
          rintro v89 H10 ⟨hl, k10⟩
          replace hx := hx.at k10
          replace hy := hy.at k10
          replace hm := hm.at k10
          replace hn := hn.at k10
          replace K := K.trans k10
          refine WL.det rfl rfl rfl (V.move rfl ⟨_, rfl, rfl⟩) ?_
          refine WL.call rfl rfl rfl rfl (.cons ⟨_, rfl, rfl⟩ .nil) (linesOf (ht.at K) (fun _ h => by cases h) (by omega)) ?_
          rintro v91 H11 ⟨hr, k11⟩
          replace hx := hx.at k11
          replace hy := hy.at k11
          replace hm := hm.at k11
          replace hn := hn.at k11
          replace hl := hl.at k11
          replace K := K.trans k11
          refine WL.call rfl rfl rfl rfl (.cons ⟨_, rfl, rfl⟩ (.cons ⟨_, rfl, rfl⟩ .nil)) (sameLinesK hl hr) ?_
          rintro _ H12 ⟨rfl, k12⟩
          replace hx := hx.at k12
          replace hy := hy.at k12
          replace hm := hm.at k12
          replace hn := hn.at k12
          replace hl := hl.at k12
          replace hr := hr.at k12
          replace K := K.trans k12
          refine WL.det rfl rfl rfl (V.move rfl ⟨_, rfl, rfl⟩) ?_
          refine WL.gdet (Gd.yes1 rfl rfl rfl rfl) rfl rfl (fun hg => V.move rfl ⟨_, rfl, rfl⟩) ?_
          refine WL.gdet (Gd.yes1 rfl rfl rfl rfl) rfl rfl (fun hg => V.move rfl ⟨_, rfl, rfl⟩) ?_
          refine WL.gcall (Gd.yes1 rfl rfl rfl rfl) rfl rfl rfl (fun hg => (.cons ⟨_, rfl, hg⟩ (.cons ⟨_, rfl, hg⟩ .nil))) (fun hg => sameLinesK hm hn) (fun H13 k13 => ?_)
          replace hx := hx.at k13
          replace hy := hy.at k13
          replace hm := hm.at k13
          replace hn := hn.at k13
          replace hl := hl.at k13
          replace hr := hr.at k13
          replace K := K.trans k13
          refine WL.det rfl rfl rfl (V.and rfl ⟨_, rfl, rfl⟩ (fun hb => ⟨_, rfl, hb⟩)) ?_
          refine WL.det rfl rfl rfl (V.move rfl ⟨_, rfl, rfl⟩) ?_
          refine WL.gdet (Gd.yes1 rfl rfl rfl rfl) rfl rfl (fun hg => V.move rfl ⟨_, rfl, rfl⟩) ?_
          refine WL.gdet (Gd.yes1 rfl rfl rfl rfl) rfl rfl (fun hg => V.move rfl ⟨_, rfl, rfl⟩) ?_
          refine WL.gdet (Gd.yes1 rfl rfl rfl rfl) rfl rfl (fun hg => V.bEql rfl Try.underlying4 ⟨_, rfl, hg⟩ ⟨_, rfl, hg⟩) ?_
          refine WL.det rfl rfl rfl (V.and rfl ⟨_, rfl, rfl⟩ (fun hb => ⟨_, rfl, hb⟩)) ?_
          refine WL.det rfl rfl rfl (V.assign rfl ⟨_, rfl, rfl⟩) ?_
          refine WL.nil ?_
          refine NX.go ?_
          refine WC.sub (e' := [(8, true, _)]) ⟨rfl, trivial⟩ ?_
          refine WC.ret ?_
          refine ret1 hQ Try.results3 rfl ⟨_, rfl, rfl⟩ ?_
          first
            | exact ⟨rfl, K⟩
            | (refine ⟨?_, K⟩
               simp)

end Go.Proofs.Ytkkjjbejkcgmfaa
