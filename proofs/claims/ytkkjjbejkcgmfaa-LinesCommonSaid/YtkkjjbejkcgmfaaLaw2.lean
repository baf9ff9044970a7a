/- lines: the law of what is common -/
import Derived.Test.YtkkjjbejkcgmfaaLaw1
namespace Go.Proofs.Ytkkjjbejkcgmfaa
open Go.NB
set_option linter.unusedVariables false
set_option linter.unusedSimpArgs false

theorem commonStart {a b : L.Ls} : True := trivial
/-- what is asked of the pairs, each -/
theorem pair_ok {a b : L.Ls} {n : Nat} (hn : n < (L.pairs a b 0 0).length) :
    ∃ h1 : (L.pairs a b 0 0)[n].1 < a.length, ∃ h2 : (L.pairs a b 0 0)[n].2 < b.length, a[(L.pairs a b 0 0)[n].1] = b[(L.pairs a b 0 0)[n].2] := by
  have h := L.pairs_mem a b 0 0 _ (List.getElem_mem hn)
  refine ⟨by omega, by omega, ?_⟩
  have h5 := h.2.2.2.2
  simp only [Nat.sub_zero] at h5
  rw [List.getElem?_eq_getElem (by omega), List.getElem?_eq_getElem (by omega)] at h5
  exact Option.some.inj h5
theorem pair_up {a b : L.Ls} {n : Nat} (hn : n < (L.pairs a b 0 0).length) (h0 : 0 < n) :
    (L.pairs a b 0 0)[n - 1].1 < (L.pairs a b 0 0)[n].1 ∧ (L.pairs a b 0 0)[n - 1].2 < (L.pairs a b 0 0)[n].2 :=
  List.pairwise_iff_getElem.1 (L.pairs_rise a b 0 0) (n - 1) n (by omega) hn (by omega)
theorem lcs_last {a b : L.Ls} (ha : 0 < a.length) (hb : 0 < b.length) : L.lcs a b = if a[0] = b[0] then max (max (L.lcs (a.drop 1) b) (L.lcs a (b.drop 1))) (1 + L.lcs (a.drop 1) (b.drop 1)) else max (L.lcs (a.drop 1) b) (L.lcs a (b.drop 1)) := by
  match a, b, ha, hb with
  | x :: a, y :: b, _, _ =>
    simp only [List.drop_succ_cons, List.drop_zero, List.getElem_cons_zero]
    rw [L.lcs_cons]
    split
    · have h1 := (L.lcs_step a b).2 y
      have h2 := (L.lcs_step a b).1 x
      omega
    · rfl
theorem commonLen {H0 : Heap} {va vb : Value} {a b : L.Ls} (ha : Sl (tSl tByte) H0 [] va a) (hb : Sl (tSl tByte) H0 [] vb b) (hla : a.length ≤ 1000) (hlb : b.length ≤ 1000) {H1 : Heap} (k : Keep [] H1 H0) :
    CallsH Try.prog 14 #[va, vb] H0 fun v H => (∃ p m, v = .slice p (L.pairs a b 0 0).length m) ∧ Keep [] H1 H :=
  (common ha hb (fun _ h => by cases h) hla hlb).mono fun v H h => ⟨Sl_shape h.1, k.trans h.2⟩

set_option maxRecDepth 20000 in
set_option maxHeartbeats 1000000 in
theorem lawCommon {H0 : Heap} {va vb : Value} {a b : L.Ls} (ha : Sl (tSl tByte) H0 [] va a) (hb : Sl (tSl tByte) H0 [] vb b) :
    CallsH Try.prog 4 #[va, vb] H0 (fun v H => v = .bool true ∧ Keep [] H0 H) := by
  refine enter (args := [va, vb]) Try.call4 Try.func4 rfl Try.ntmps4 (Nat.le_of_ble_eq_true rfl) (fun W0 Q hQ => ?_)
  refine WC.sub (e' := [(0, true, va), (1, true, vb)]) ⟨rfl, rfl, trivial⟩ ?_
  have K : Keep [] H0 H0 := Keep.refl _ _
  refine WC.seq ?_
  refine WC.region ?_
  refine WL.det rfl rfl rfl (V.assign rfl ⟨_, rfl, rfl⟩) ?_
  refine WL.nil ?_
  refine NX.go ?_
  refine WC.sub (e' := [(0, true, _), (1, true, _)]) ⟨rfl, rfl, trivial⟩ ?_
  refine WC.seq ?_
  refine WC.seq ?_
  refine WC.region ?_
  refine WL.call rfl rfl rfl rfl .nil (begun) ?_
  rintro _ H1 ⟨rfl, k1⟩
  replace K := K.trans k1
  refine WL.det rfl rfl rfl (V.not rfl ⟨_, rfl, rfl⟩) ?_
  refine WL.nil ?_
  refine NX.go ?_
  refine WC.sub (e' := [(0, true, _), (1, true, _), (10, true, _)]) ⟨rfl, rfl, rfl, trivial⟩ ?_
  refine WC.cond ⟨_, rfl, rfl⟩ (fun hc10 => ?_) (fun hc10 => ?_)
  · -- hc10 true
    try simp only [Bool.and_eq_true, Bool.or_eq_true, Bool.not_eq_true', Bool.not_eq_false', Bool.and_eq_false_iff, Bool.or_eq_false_iff, decide_eq_true_eq, decide_eq_false_iff_not, Int.not_lt, Int.not_le] at hc10
    exact absurd hc10 (by simp)
  · -- hc10 false
    try simp only [Bool.and_eq_true, Bool.or_eq_true, Bool.not_eq_true', Bool.not_eq_false', Bool.and_eq_false_iff, Bool.or_eq_false_iff, decide_eq_true_eq, decide_eq_false_iff_not, Int.not_lt, Int.not_le] at hc10
    refine WC.skip ?_
    refine NX.go ?_
    refine WC.seq ?_
    refine WC.seq ?_
    refine WC.region ?_
    refine WL.det rfl rfl rfl (V.move rfl ⟨_, rfl, rfl⟩) ?_
    refine WL.call rfl rfl rfl rfl (.cons ⟨_, rfl, rfl⟩ .nil) (greatK (ha.at K)) ?_
    rintro _ H2 ⟨rfl, k2⟩
    replace K := K.trans k2
    refine WL.det rfl rfl rfl (V.move rfl ⟨_, rfl, rfl⟩) ?_
    refine WL.gdet (Gd.no1 rfl rfl rfl rfl) rfl rfl (fun hg => V.move rfl ⟨_, rfl, rfl⟩) ?_
    refine WL.gcall (Gd.no1 rfl rfl rfl rfl) rfl rfl rfl (fun hg => (.cons ⟨_, rfl, hg⟩ .nil)) (fun hg => greatK (hb.at K)) (fun H3 k3 => ?_)
    replace K := K.trans k3
    refine WL.det rfl rfl rfl (V.or rfl ⟨_, rfl, rfl⟩ (fun hb => ⟨_, rfl, (congrArg Bool.not hb)⟩)) ?_
    refine WL.nil ?_
    refine NX.go ?_
    refine WC.sub (e' := [(0, true, _), (1, true, _), (16, true, _)]) ⟨rfl, rfl, rfl, trivial⟩ ?_
    refine WC.cond ⟨_, rfl, rfl⟩ (fun hc16 => ?_) (fun hc16 => ?_)
    · -- hc16 true
      try simp only [Bool.and_eq_true, Bool.or_eq_true, Bool.not_eq_true', Bool.not_eq_false', Bool.and_eq_false_iff, Bool.or_eq_false_iff, decide_eq_true_eq, decide_eq_false_iff_not, Int.not_lt, Int.not_le] at hc16
      refine WC.seq ?_
      refine WC.region ?_
      refine WL.det rfl rfl rfl (V.assign rfl ⟨_, rfl, rfl⟩) ?_
      refine WL.nil ?_
      refine NX.go ?_
      refine WC.sub (e' := [(4, true, _)]) ⟨rfl, trivial⟩ ?_
      refine WC.ret ?_
      refine NX.of_ret ?_
      refine ret1 hQ Try.results4 rfl ⟨_, rfl, rfl⟩ ?_
      first
        | exact ⟨rfl, K⟩
        | (refine ⟨congrArg Value.bool (decide_eq_true ?_), K⟩
           rw [L.pairs_length]
           rcases hc115 with h | h
           · rw [List.eq_nil_of_length_eq_zero (by omega : a.length = 0), L.lcs_nil]; rfl
           · rw [List.eq_nil_of_length_eq_zero (by omega : b.length = 0), L.lcs_nil']; rfl)
        | (refine ⟨congrArg Value.bool (decide_eq_true ?_), K⟩
           have hl := lcs_last (a := a) (b := b) (by omega) (by omega)
           simp only [L.pairs_length]
           rw [hl]
           first
             | (rw [if_pos hc136]; omega)
             | (rw [if_neg hc136]; omega))
    · -- hc16 false
      try simp only [Bool.and_eq_true, Bool.or_eq_true, Bool.not_eq_true', Bool.not_eq_false', Bool.and_eq_false_iff, Bool.or_eq_false_iff, decide_eq_true_eq, decide_eq_false_iff_not, Int.not_lt, Int.not_le] at hc16
      have hla := great_len hc16.1
      have hlb := great_len hc16.2
      refine WC.skip ?_
      refine NX.go ?_
      refine WC.seq ?_
      refine WC.region ?_
      refine WL.det rfl rfl rfl (V.move rfl ⟨_, rfl, rfl⟩) ?_
      refine WL.det rfl rfl rfl (V.move rfl ⟨_, rfl, rfl⟩) ?_
      refine WL.call rfl rfl rfl rfl (.cons ⟨_, rfl, rfl⟩ (.cons ⟨_, rfl, rfl⟩ .nil)) (common (ha.at K) (hb.at K) (fun _ h => by cases h) (by omega) (by omega)) ?_
      rintro v19 H4 ⟨hx, k4⟩
      replace K := K.trans k4
      refine WL.det rfl rfl rfl (V.assign rfl ⟨_, rfl, rfl⟩) ?_
      refine WL.nil ?_
      refine NX.go ?_
      refine WC.sub (e' := [(0, true, _), (1, true, _), (5, true, _)]) ⟨rfl, rfl, rfl, trivial⟩ ?_
      refine WC.seq ?_
      refine WC.seq ?_
      refine WC.region ?_
      refine WL.det rfl rfl rfl (V.assign rfl ⟨_, rfl, rfl⟩) ?_
      refine WL.nil ?_
      refine NX.go ?_
      refine WC.sub (e' := [(0, true, _), (1, true, _), (5, true, _), (6, true, _)]) ⟨rfl, rfl, rfl, rfl, trivial⟩ ?_
      refine WC.block ?_
      refine WC.loop (fun m e H => ∃ (n : Nat) (vx : Value), (n ≤ (L.pairs a b 0 0).length) ∧ (Sl tPair H [] vx (L.pairs a b 0 0)) ∧ e = [(0, true, va), (1, true, vb), (5, true, vx), (6, true, iv (n : Nat))] ∧ (L.pairs a b 0 0).length - n = m ∧ Keep [] H0 H) (m0 := _) (e0 := _) ⟨0, _, by omega, hx, rfl, rfl, K⟩ ⟨rfl, rfl, rfl, rfl, trivial⟩ ?_
      clear K
      clear hx
      rintro _ _ H5 ⟨n, vx, hn, hx, rfl, rfl, K⟩
      refine WC.seq ?_
      refine WC.seq ?_
      refine WC.region ?_
      refine WL.det rfl rfl rfl (V.move rfl ⟨_, rfl, rfl⟩) ?_
      refine WL.det rfl rfl rfl (V.move rfl ⟨_, rfl, rfl⟩) ?_
      refine WL.det rfl rfl rfl (V.len rfl Try.underlying26 ⟨_, rfl, rfl⟩ hx) ?_
      refine WL.det rfl rfl rfl (V.lss rfl ⟨_, rfl, rfl⟩ ⟨_, rfl, rfl⟩) ?_
      refine WL.nil ?_
      refine NX.go ?_
      refine WC.sub (e' := [(0, true, _), (1, true, _), (5, true, _), (6, true, _), (23, true, _)]) ⟨rfl, rfl, rfl, rfl, rfl, trivial⟩ ?_
      refine WC.cond ⟨_, rfl, rfl⟩ (fun hc23 => ?_) (fun hc23 => ?_)
      · -- hc23 true
        try simp only [Bool.and_eq_true, Bool.or_eq_true, Bool.not_eq_true', Bool.not_eq_false', Bool.and_eq_false_iff, Bool.or_eq_false_iff, decide_eq_true_eq, decide_eq_false_iff_not, Int.not_lt, Int.not_le] at hc23
        replace hc23 : n < (L.pairs a b 0 0).length := by omega
        refine WC.skip ?_
        refine NX.go ?_
        refine WC.seq ?_
        refine WC.block ?_
        refine WC.seq ?_
        refine WC.region ?_
        refine WL.det rfl rfl rfl (V.move rfl ⟨_, rfl, rfl⟩) ?_
        refine WL.det rfl rfl rfl (V.move rfl ⟨_, rfl, rfl⟩) ?_
        refine WL.ex rfl rfl rfl (X.idx (i := n) rfl Try.underlying26 Try.sizeOf31 hx ⟨_, rfl, rfl⟩ ⟨_, rfl, rfl⟩ rfl (gi hc23)) (fun v28 h28 => ?_)
        refine WL.ex rfl rfl rfl (X.load rfl Try.isAgg31 Try.sizeOf31 h28 ⟨_, rfl, rfl⟩ (Reach.is _)) (fun v29 h29 => ?_)
        obtain ⟨cs29, ⟨rfl, hok29⟩, rfl⟩ := h29
        obtain ⟨hp1, hp2, hpe⟩ := pair_ok hc23
        have hup := fun h0 => pair_up hc23 h0
        generalize hu : (L.pairs a b 0 0)[n] = u at *
        refine WL.alloc (zs := [iv 0, iv 0]) rfl rfl rfl rfl Try.zeroValue31 rfl (fun g7 Ha hB7 hn7 ka => ?_)
        refine WL.store (vs := [iv u.1, iv u.2]) (e := 31) (cs := _) rfl rfl rfl ⟨_, rfl, rfl⟩ ⟨_, rfl, rfl⟩ rfl Try.sizeOf31 (fun u hu => by simp at hu; rcases hu with rfl | rfl <;> rfl) hB7 (by simp) (fun Hb hB7' kb => ?_)
        replace hB7 := hB7'
        simp only [List.take_zero, List.nil_append, List.length_cons, List.length_nil, List.drop_succ_cons, List.drop_nil, List.append_nil, Nat.zero_add] at hB7
        have kab := ka.then kb (fun i hi => by simp at hi; subst hi; exact .inr hn7)
        replace hx := hx.at kab
        replace K := K.trans kab
        refine WL.nil ?_
        refine NX.go ?_
        refine WC.sub (e' := [(0, true, _), (1, true, _), (5, true, _), (6, true, _), (7, true, _)]) ⟨rfl, rfl, rfl, rfl, rfl, trivial⟩ ?_
        refine WC.seq ?_
        refine WC.draw (Is _) rfl (by kernel_rfl) (by kernel_rfl) ?_
        refine QL.det rfl rfl rfl (V.fieldAddr 0 rfl Try.underlying31 rfl Try.sizeOf3 (by decide) ⟨_, rfl, rfl⟩ rfl) ?_
        refine QL.det rfl rfl rfl (G.load rfl Try.isAgg3 ⟨_, rfl, rfl⟩ (hB7.get rfl) (Reach.is _)) ?_
        refine QL.det rfl rfl rfl (V.lss rfl ⟨_, rfl, rfl⟩ ⟨_, rfl, rfl⟩) ?_
        refine QL.det rfl rfl rfl (V.move rfl ⟨_, rfl, rfl⟩) ?_
        refine QL.gdet (Gd.no1 rfl rfl rfl rfl) rfl rfl (fun hg => V.fieldAddr 0 rfl Try.underlying31 rfl Try.sizeOf3 (by decide) ⟨_, rfl, rfl⟩ rfl) ?_
        refine QL.gdet (Gd.no1 rfl rfl rfl rfl) rfl rfl (fun hg => G.load rfl Try.isAgg3 ⟨_, rfl, hg⟩ (hB7.get rfl) (Reach.is _)) ?_
        refine QL.gdet (Gd.no1 rfl rfl rfl rfl) rfl rfl (fun hg => V.move rfl ⟨_, rfl, rfl⟩) ?_
        refine QL.gdet (Gd.no1 rfl rfl rfl rfl) rfl rfl (fun hg => V.len rfl Try.underlying23 ⟨_, rfl, hg⟩ (ha.at K)) ?_
        refine QL.gdet (Gd.no1 rfl rfl rfl rfl) rfl rfl (fun hg => V.geq rfl ⟨_, rfl, hg⟩ ⟨_, rfl, hg⟩) ?_
        refine QL.det rfl rfl rfl (V.or rfl ⟨_, rfl, rfl⟩ (fun hb => ⟨_, rfl, (congrArg Bool.not hb)⟩)) ?_
        refine QL.det rfl rfl rfl (V.move rfl ⟨_, rfl, rfl⟩) ?_
        refine QL.gdet (Gd.no1 rfl rfl rfl rfl) rfl rfl (fun hg => V.fieldAddr 1 rfl Try.underlying31 rfl Try.sizeOf3 (by decide) ⟨_, rfl, rfl⟩ rfl) ?_
        refine QL.gdet (Gd.no1 rfl rfl rfl rfl) rfl rfl (fun hg => G.load rfl Try.isAgg3 ⟨_, rfl, hg⟩ (hB7.get rfl) (Reach.is _)) ?_
        refine QL.gdet (Gd.no1 rfl rfl rfl rfl) rfl rfl (fun hg => V.lss rfl ⟨_, rfl, hg⟩ ⟨_, rfl, rfl⟩) ?_
        refine QL.det rfl rfl rfl (V.or rfl ⟨_, rfl, rfl⟩ (fun hb => ⟨_, rfl, (congrArg Bool.not hb)⟩)) ?_
        refine QL.det rfl rfl rfl (V.move rfl ⟨_, rfl, rfl⟩) ?_
        refine QL.gdet (Gd.no1 rfl rfl rfl rfl) rfl rfl (fun hg => V.fieldAddr 1 rfl Try.underlying31 rfl Try.sizeOf3 (by decide) ⟨_, rfl, rfl⟩ rfl) ?_
        refine QL.gdet (Gd.no1 rfl rfl rfl rfl) rfl rfl (fun hg => G.load rfl Try.isAgg3 ⟨_, rfl, hg⟩ (hB7.get rfl) (Reach.is _)) ?_
        refine QL.gdet (Gd.no1 rfl rfl rfl rfl) rfl rfl (fun hg => V.move rfl ⟨_, rfl, rfl⟩) ?_
        refine QL.gdet (Gd.no1 rfl rfl rfl rfl) rfl rfl (fun hg => V.len rfl Try.underlying23 ⟨_, rfl, hg⟩ (hb.at K)) ?_
        refine QL.gdet (Gd.no1 rfl rfl rfl rfl) rfl rfl (fun hg => V.geq rfl ⟨_, rfl, hg⟩ ⟨_, rfl, hg⟩) ?_
        refine QL.det rfl rfl rfl (V.or rfl ⟨_, rfl, rfl⟩ (fun hb => ⟨_, rfl, (congrArg Bool.not hb)⟩)) ?_
        refine QL.det rfl rfl rfl (V.move rfl ⟨_, rfl, rfl⟩) ?_
        refine QL.gdet (Gd.no1 rfl rfl rfl rfl) rfl rfl (fun hg => V.move rfl ⟨_, rfl, rfl⟩) ?_
        refine QL.gdet (Gd.no1 rfl rfl rfl rfl) rfl rfl (fun hg => V.fieldAddr 0 rfl Try.underlying31 rfl Try.sizeOf3 (by decide) ⟨_, rfl, rfl⟩ rfl) ?_
        refine QL.gdet (Gd.no1 rfl rfl rfl rfl) rfl rfl (fun hg => G.load rfl Try.isAgg3 ⟨_, rfl, hg⟩ (hB7.get rfl) (Reach.is _)) ?_
        refine QL.gex (Gd.no1 rfl rfl rfl rfl) rfl rfl (fun hg => X.idx (i := u.1) rfl Try.underlying23 Try.sizeOf22 (ha.at K) ⟨_, rfl, hg⟩ ⟨_, rfl, hg⟩ rfl (gi hp1)) (fun v56 h56 => ?_)
        refine QL.gex (Gd.no1 rfl rfl rfl rfl) rfl rfl (fun hg => X.loadSl rfl Try.isAgg22 Try.sizeOf22 (h56 hg) ⟨_, rfl, hg⟩ (Reach.is _)) (fun v57 h57 => ?_)
        refine QL.gdet (Gd.no1 rfl rfl rfl rfl) rfl rfl (fun hg => V.move rfl ⟨_, rfl, rfl⟩) ?_
        refine QL.gdet (Gd.no1 rfl rfl rfl rfl) rfl rfl (fun hg => V.fieldAddr 1 rfl Try.underlying31 rfl Try.sizeOf3 (by decide) ⟨_, rfl, rfl⟩ rfl) ?_
        refine QL.gdet (Gd.no1 rfl rfl rfl rfl) rfl rfl (fun hg => G.load rfl Try.isAgg3 ⟨_, rfl, hg⟩ (hB7.get rfl) (Reach.is _)) ?_
        refine QL.gex (Gd.no1 rfl rfl rfl rfl) rfl rfl (fun hg => X.idx (i := u.2) rfl Try.underlying23 Try.sizeOf22 (hb.at K) ⟨_, rfl, hg⟩ ⟨_, rfl, hg⟩ rfl (gi hp2)) (fun v61 h61 => ?_)
        refine QL.gex (Gd.no1 rfl rfl rfl rfl) rfl rfl (fun hg => X.loadSl rfl Try.isAgg22 Try.sizeOf22 (h61 hg) ⟨_, rfl, hg⟩ (Reach.is _)) (fun v62 h62 => ?_)
        refine QL.gcall (Gd.no1 rfl rfl rfl rfl) rfl rfl rfl (fun hg => (.cons ⟨_, rfl, hg⟩ (.cons ⟨_, rfl, hg⟩ .nil))) (fun hg => fun _ hS => by cases hS; exact sameBytes (h57 hg) (h62 hg)) ?_
        refine QL.gdet (Gd.no1 rfl rfl rfl rfl) rfl rfl (fun hg => V.not rfl ⟨_, rfl, hg⟩) ?_
        refine QL.det rfl rfl rfl (V.or rfl ⟨_, rfl, rfl⟩ (fun hb => ⟨_, rfl, (congrArg Bool.not hb)⟩)) ?_
        refine QL.det rfl rfl rfl (V.move rfl ⟨_, rfl, rfl⟩) ?_
        refine QL.gdet (Gd.no1 rfl rfl rfl rfl) rfl rfl (fun hg => V.move rfl ⟨_, rfl, rfl⟩) ?_
        refine QL.gdet (Gd.no1 rfl rfl rfl rfl) rfl rfl (fun hg => V.gtr rfl ⟨_, rfl, hg⟩ ⟨_, rfl, rfl⟩) ?_
        refine QL.gdet (Gd.no1 rfl rfl rfl rfl) rfl rfl (fun hg => V.move rfl ⟨_, rfl, hg⟩) ?_
        refine QL.gdet (Gd.yes rfl rfl rfl rfl) rfl rfl (fun hg => V.move rfl ⟨_, rfl, rfl⟩) ?_
        refine QL.gdet (Gd.yes rfl rfl rfl rfl) rfl rfl (fun hg => V.move rfl ⟨_, rfl, rfl⟩) ?_
        refine QL.gdet (Gd.yes rfl rfl rfl rfl) rfl rfl (fun hg => V.sub rfl ⟨_, rfl, hg⟩ ⟨_, rfl, rfl⟩ (by have := hx.len; unfold I64; omega)) ?_
        refine QL.gex (Gd.yes rfl rfl rfl rfl) rfl rfl (fun hg => X.idx (i := n - 1) rfl Try.underlying26 Try.sizeOf31 hx ⟨_, rfl, hg⟩ ⟨_, rfl, hg⟩ (by have h0 := gr hg; simp at h0; omega) (gi (show n - 1 < (L.pairs a b 0 0).length by omega))) (fun v73 h73 => ?_)
        refine QL.gex (Gd.yes rfl rfl rfl rfl) rfl rfl (fun hg => X.field rfl Try.underlying31 rfl Try.sizeOf3 (by decide) pairA rfl (h73 hg) ⟨_, rfl, hg⟩) (fun v74 h74 => ?_)
        refine QL.gdet (Gd.yes rfl rfl rfl rfl) rfl rfl (fun hg => V.loadInt rfl Try.isAgg3 Try.sizeOf3 (h74 hg) ⟨_, rfl, hg⟩ (Reach.is _)) ?_
        refine QL.gdet (Gd.yes rfl rfl rfl rfl) rfl rfl (fun hg => V.fieldAddr 0 rfl Try.underlying31 rfl Try.sizeOf3 (by decide) ⟨_, rfl, rfl⟩ rfl) ?_
        refine QL.gdet (Gd.yes rfl rfl rfl rfl) rfl rfl (fun hg => G.load rfl Try.isAgg3 ⟨_, rfl, hg⟩ (hB7.get rfl) (Reach.is _)) ?_
        refine QL.gdet (Gd.yes rfl rfl rfl rfl) rfl rfl (fun hg => V.geq rfl ⟨_, rfl, hg⟩ ⟨_, rfl, hg⟩) ?_
        refine QL.gdet (Gd.yes rfl rfl rfl rfl) rfl rfl (fun hg => V.move rfl ⟨_, rfl, hg⟩) ?_
        refine QL.gdet (Gd.no rfl rfl rfl rfl) rfl rfl (fun hg => V.move rfl ⟨_, rfl, rfl⟩) ?_
        refine QL.gdet (Gd.no rfl rfl rfl rfl) rfl rfl (fun hg => V.move rfl ⟨_, rfl, rfl⟩) ?_
        refine QL.gdet (Gd.no rfl rfl rfl rfl) rfl rfl (fun hg => V.sub rfl ⟨_, rfl, hg⟩ ⟨_, rfl, rfl⟩ (by have := hx.len; unfold I64; omega)) ?_
        refine QL.gex (Gd.no rfl rfl rfl rfl) rfl rfl (fun hg => X.idx (i := n - 1) rfl Try.underlying26 Try.sizeOf31 hx ⟨_, rfl, hg⟩ ⟨_, rfl, hg⟩ (by have h0 := gr (gl hg); simp at h0; omega) (gi (show n - 1 < (L.pairs a b 0 0).length by omega))) (fun v83 h83 => ?_)
        refine QL.gex (Gd.no rfl rfl rfl rfl) rfl rfl (fun hg => X.field rfl Try.underlying31 rfl Try.sizeOf3 (by decide) pairB rfl (h83 hg) ⟨_, rfl, hg⟩) (fun v84 h84 => ?_)
        refine QL.gdet (Gd.no rfl rfl rfl rfl) rfl rfl (fun hg => V.loadInt rfl Try.isAgg3 Try.sizeOf3 (h84 hg) ⟨_, rfl, hg⟩ (Reach.is _)) ?_
        refine QL.gdet (Gd.no rfl rfl rfl rfl) rfl rfl (fun hg => V.fieldAddr 1 rfl Try.underlying31 rfl Try.sizeOf3 (by decide) ⟨_, rfl, rfl⟩ rfl) ?_
        refine QL.gdet (Gd.no rfl rfl rfl rfl) rfl rfl (fun hg => G.load rfl Try.isAgg3 ⟨_, rfl, hg⟩ (hB7.get rfl) (Reach.is _)) ?_
        refine QL.gdet (Gd.no rfl rfl rfl rfl) rfl rfl (fun hg => V.geq rfl ⟨_, rfl, hg⟩ ⟨_, rfl, hg⟩) ?_
        refine QL.gdet (Gd.yes rfl rfl rfl rfl) rfl rfl (fun hg => V.or rfl ⟨_, rfl, hg⟩ (fun hb => ⟨_, rfl, (gand hg (congrArg Bool.not hb))⟩)) ?_
        refine QL.gdet (Gd.no1 rfl rfl rfl rfl) rfl rfl (fun hg => V.and rfl ⟨_, rfl, hg⟩ (fun hb => ⟨_, rfl, (gand hg hb)⟩)) ?_
        refine QL.det rfl rfl rfl (V.or rfl ⟨_, rfl, rfl⟩ (fun hb => ⟨_, rfl, (congrArg Bool.not hb)⟩)) ?_
        refine QL.nil (fun _ hS => ?_)
        cases hS
        refine NX.go ?_
        refine WC.sub (e' := [(0, true, _), (1, true, _), (5, true, _), (6, true, _), (91, true, _)]) ⟨rfl, rfl, rfl, rfl, rfl, trivial⟩ ?_
        refine WC.cond ⟨_, rfl, rfl⟩ (fun hc91 => ?_) (fun hc91 => ?_)
        · -- hc91 true
          try simp only [Bool.and_eq_true, Bool.or_eq_true, Bool.not_eq_true', Bool.not_eq_false', Bool.and_eq_false_iff, Bool.or_eq_false_iff, decide_eq_true_eq, decide_eq_false_iff_not, Int.not_lt, Int.not_le] at hc91
          exfalso
          have h3 : (0 : Int) < n → 0 < n := fun h => by omega
          rcases hc91 with ((((h | h) | h) | h) | h) | ⟨h0, h | h⟩
          all_goals first | omega | (exact h hpe) | (have := hup (h3 h0); omega)
        · -- hc91 false
          try simp only [Bool.and_eq_true, Bool.or_eq_true, Bool.not_eq_true', Bool.not_eq_false', Bool.and_eq_false_iff, Bool.or_eq_false_iff, decide_eq_true_eq, decide_eq_false_iff_not, Int.not_lt, Int.not_le] at hc91
          refine WC.skip ?_
          refine NX.block_normal ?_
          refine NX.go ?_
          refine WC.region ?_
          refine WL.det rfl rfl rfl (V.move rfl ⟨_, rfl, rfl⟩) ?_
          refine WL.det rfl rfl rfl (V.add rfl ⟨_, rfl, rfl⟩ ⟨_, rfl, rfl⟩ (by have := hx.len; unfold I64; omega)) ?_
          refine WL.det rfl rfl rfl (V.assign rfl ⟨_, rfl, rfl⟩) ?_
          refine WL.nil ?_
          exact Head.mk ⟨n + 1, vx, by omega, hx, rfl, rfl, K⟩ ⟨rfl, rfl, rfl, rfl, trivial⟩ (by omega)
      · -- hc23 false
        try simp only [Bool.and_eq_true, Bool.or_eq_true, Bool.not_eq_true', Bool.not_eq_false', Bool.and_eq_false_iff, Bool.or_eq_false_iff, decide_eq_true_eq, decide_eq_false_iff_not, Int.not_lt, Int.not_le] at hc23
        refine WC.exit ?_
        refine NX.of_exit ?_
        refine NX.of_exit ?_
        refine NX.block_hit ?_
        refine NX.go ?_
        refine WC.seq ?_
        refine WC.seq ?_
        refine WC.region ?_
        refine WL.det rfl rfl rfl (V.move rfl ⟨_, rfl, rfl⟩) ?_
        refine WL.det rfl rfl rfl (V.move rfl ⟨_, rfl, rfl⟩) ?_
        refine WL.call rfl rfl rfl rfl (.cons ⟨_, rfl, rfl⟩ (.cons ⟨_, rfl, rfl⟩ .nil)) (common (hb.at K) (ha.at K) (fun _ h => by cases h) (by omega) (by omega)) ?_
        rintro v94 H6 ⟨hy, k6⟩
        replace hx := hx.at k6
        replace K := K.trans k6
        refine WL.det rfl rfl rfl (V.len rfl Try.underlying26 ⟨_, rfl, rfl⟩ hy) ?_
        refine WL.det rfl rfl rfl (V.move rfl ⟨_, rfl, rfl⟩) ?_
        refine WL.det rfl rfl rfl (V.len rfl Try.underlying26 ⟨_, rfl, rfl⟩ hx) ?_
        refine WL.det rfl rfl rfl (V.neq rfl ⟨_, rfl, rfl⟩ ⟨_, rfl, rfl⟩) ?_
        refine WL.det rfl rfl rfl (V.move rfl ⟨_, rfl, rfl⟩) ?_
        refine WL.gdet (Gd.no1 rfl rfl rfl rfl) rfl rfl (fun hg => V.move rfl ⟨_, rfl, rfl⟩) ?_
        refine WL.gdet (Gd.no1 rfl rfl rfl rfl) rfl rfl (fun hg => V.move rfl ⟨_, rfl, rfl⟩) ?_
        refine WL.gcallX (Gd.no1 rfl rfl rfl rfl) rfl rfl rfl (fun hg => (.cons ⟨_, rfl, hg⟩ (.cons ⟨_, rfl, hg⟩ .nil))) (fun hg => common (ha.at K) (ha.at K) (fun _ h => by cases h) (by omega) (by omega)) (fun v102 H7 h102 k7 => ?_)
        replace hx := hx.at k7
        replace hy := hy.at k7
        replace K := K.trans k7
        refine WL.gdet (Gd.no1 rfl rfl rfl rfl) rfl rfl (fun hg => V.len rfl Try.underlying26 ⟨_, rfl, hg⟩ (h102 hg)) ?_
        refine WL.gdet (Gd.no1 rfl rfl rfl rfl) rfl rfl (fun hg => V.move rfl ⟨_, rfl, rfl⟩) ?_
        refine WL.gdet (Gd.no1 rfl rfl rfl rfl) rfl rfl (fun hg => V.len rfl Try.underlying23 ⟨_, rfl, hg⟩ (ha.at K)) ?_
        refine WL.gdet (Gd.no1 rfl rfl rfl rfl) rfl rfl (fun hg => V.neq rfl ⟨_, rfl, hg⟩ ⟨_, rfl, hg⟩) ?_
        refine WL.det rfl rfl rfl (V.or rfl ⟨_, rfl, rfl⟩ (fun hb => ⟨_, rfl, (congrArg Bool.not hb)⟩)) ?_
        refine WL.nil ?_
        refine NX.go ?_
        refine WC.sub (e' := [(0, true, _), (1, true, _), (5, true, _), (107, true, _)]) ⟨rfl, rfl, rfl, rfl, trivial⟩ ?_
        refine WC.cond ⟨_, rfl, rfl⟩ (fun hc107 => ?_) (fun hc107 => ?_)
        · -- hc107 true
          try simp only [Bool.and_eq_true, Bool.or_eq_true, Bool.not_eq_true', Bool.not_eq_false', Bool.and_eq_false_iff, Bool.or_eq_false_iff, decide_eq_true_eq, decide_eq_false_iff_not, Int.not_lt, Int.not_le] at hc107
          exfalso
          rw [L.pairs_length, L.pairs_length, L.pairs_length, L.lcs_comm b a, L.lcs_self] at hc107
          rcases hc107 with h | h <;> exact h rfl
        · -- hc107 false
          try simp only [Bool.and_eq_true, Bool.or_eq_true, Bool.not_eq_true', Bool.not_eq_false', Bool.and_eq_false_iff, Bool.or_eq_false_iff, decide_eq_true_eq, decide_eq_false_iff_not, Int.not_lt, Int.not_le] at hc107
          refine WC.skip ?_
          refine NX.go ?_
          refine WC.seq ?_
          refine WC.seq ?_
          refine WC.region ?_
          refine WL.det rfl rfl rfl (V.move rfl ⟨_, rfl, rfl⟩) ?_
          refine WL.det rfl rfl rfl (V.len rfl Try.underlying23 ⟨_, rfl, rfl⟩ (ha.at K)) ?_
          refine WL.det rfl rfl rfl (V.eql rfl ⟨_, rfl, rfl⟩ ⟨_, rfl, rfl⟩) ?_
          refine WL.det rfl rfl rfl (V.move rfl ⟨_, rfl, rfl⟩) ?_
          refine WL.gdet (Gd.no1 rfl rfl rfl rfl) rfl rfl (fun hg => V.move rfl ⟨_, rfl, rfl⟩) ?_
          refine WL.gdet (Gd.no1 rfl rfl rfl rfl) rfl rfl (fun hg => V.len rfl Try.underlying23 ⟨_, rfl, hg⟩ (hb.at K)) ?_
          refine WL.gdet (Gd.no1 rfl rfl rfl rfl) rfl rfl (fun hg => V.eql rfl ⟨_, rfl, hg⟩ ⟨_, rfl, rfl⟩) ?_
          refine WL.det rfl rfl rfl (V.or rfl ⟨_, rfl, rfl⟩ (fun hb => ⟨_, rfl, (congrArg Bool.not hb)⟩)) ?_
          refine WL.nil ?_
          refine NX.go ?_
          refine WC.sub (e' := [(0, true, _), (1, true, _), (5, true, _), (115, true, _)]) ⟨rfl, rfl, rfl, rfl, trivial⟩ ?_
          refine WC.cond ⟨_, rfl, rfl⟩ (fun hc115 => ?_) (fun hc115 => ?_)
          · -- hc115 true
            try simp only [Bool.and_eq_true, Bool.or_eq_true, Bool.not_eq_true', Bool.not_eq_false', Bool.and_eq_false_iff, Bool.or_eq_false_iff, decide_eq_true_eq, decide_eq_false_iff_not, Int.not_lt, Int.not_le] at hc115
            refine WC.seq ?_
            refine WC.region ?_
            refine WL.det rfl rfl rfl (V.move rfl ⟨_, rfl, rfl⟩) ?_
            refine WL.det rfl rfl rfl (V.len rfl Try.underlying26 ⟨_, rfl, rfl⟩ hx) ?_
            refine WL.det rfl rfl rfl (V.eql rfl ⟨_, rfl, rfl⟩ ⟨_, rfl, rfl⟩) ?_
            refine WL.det rfl rfl rfl (V.assign rfl ⟨_, rfl, rfl⟩) ?_
            refine WL.nil ?_
            refine NX.go ?_
            refine WC.sub (e' := [(4, true, _)]) ⟨rfl, trivial⟩ ?_
            refine WC.ret ?_
            refine NX.of_ret ?_
            refine ret1 hQ Try.results4 rfl ⟨_, rfl, rfl⟩ ?_
            first
              | exact ⟨rfl, K⟩
              | (refine ⟨congrArg Value.bool (decide_eq_true ?_), K⟩
                 rw [L.pairs_length]
                 rcases hc115 with h | h
                 · rw [List.eq_nil_of_length_eq_zero (by omega : a.length = 0), L.lcs_nil]; rfl
                 · rw [List.eq_nil_of_length_eq_zero (by omega : b.length = 0), L.lcs_nil']; rfl)
              | (refine ⟨congrArg Value.bool (decide_eq_true ?_), K⟩
                 have hl := lcs_last (a := a) (b := b) (by omega) (by omega)
                 simp only [L.pairs_length]
                 rw [hl]
                 first
                   | (rw [if_pos hc136]; omega)
                   | (rw [if_neg hc136]; omega))
          · -- hc115 false
            try simp only [Bool.and_eq_true, Bool.or_eq_true, Bool.not_eq_true', Bool.not_eq_false', Bool.and_eq_false_iff, Bool.or_eq_false_iff, decide_eq_true_eq, decide_eq_false_iff_not, Int.not_lt, Int.not_le] at hc115
            refine WC.skip ?_
            refine NX.go ?_
            refine WC.seq ?_
            refine WC.any (Up _) (Keep.refl _ _) (by kernel_rfl) ?_
            refine AL.take 0 rfl (by kernel_rfl) (by kernel_rfl) (by kernel_rfl) rfl rfl rfl rfl (V.move rfl ⟨_, rfl, rfl⟩) ?_
            refine AL.ex 1 rfl (by kernel_rfl) (by kernel_rfl) (by kernel_rfl) rfl rfl rfl rfl (X.sliceFrom (lo := 1) rfl Try.underlying23 Try.sizeOf22 (ha.at K) ⟨_, rfl, rfl⟩ ⟨_, rfl, rfl⟩ rfl (by omega)) (fun v120 h120 => ?_)
            refine AL.take 2 rfl (by kernel_rfl) (by kernel_rfl) (by kernel_rfl) rfl rfl rfl rfl (V.move rfl ⟨_, rfl, rfl⟩) ?_
            refine AL.take 5 rfl (by kernel_rfl) (by kernel_rfl) (by kernel_rfl) rfl rfl rfl rfl (V.move rfl ⟨_, rfl, rfl⟩) ?_
            refine AL.take 6 rfl (by kernel_rfl) (by kernel_rfl) (by kernel_rfl) rfl rfl rfl rfl (V.move rfl ⟨_, rfl, rfl⟩) ?_
            refine AL.ex 7 rfl (by kernel_rfl) (by kernel_rfl) (by kernel_rfl) rfl rfl rfl rfl (X.sliceFrom (lo := 1) rfl Try.underlying23 Try.sizeOf22 (hb.at K) ⟨_, rfl, rfl⟩ ⟨_, rfl, rfl⟩ rfl (by omega)) (fun v126 h126 => ?_)
            refine AL.call 3 rfl (by kernel_rfl) rfl rfl rfl rfl rfl (.cons ⟨_, rfl, rfl⟩ (.cons ⟨_, rfl, rfl⟩ .nil)) (fun H' k => commonLen (h120.at k) ((hb.at K).at k) (by simp; omega) (by omega) k) ?_
            rintro _ ⟨p122, m122, rfl⟩
            refine AL.take 4 rfl (by kernel_rfl) (by kernel_rfl) (by kernel_rfl) rfl rfl rfl rfl (V.lenRaw rfl Try.underlying26 ⟨_, rfl, rfl⟩) ?_
            refine AL.call 8 rfl (by kernel_rfl) rfl rfl rfl rfl rfl (.cons ⟨_, rfl, rfl⟩ (.cons ⟨_, rfl, rfl⟩ .nil)) (fun H' k => commonLen ((ha.at K).at k) (h126.at k) (by omega) (by simp; omega) k) ?_
            rintro _ ⟨p127, m127, rfl⟩
            refine AL.take 9 rfl (by kernel_rfl) (by kernel_rfl) (by kernel_rfl) rfl rfl rfl rfl (V.lenRaw rfl Try.underlying26 ⟨_, rfl, rfl⟩) ?_
            refine AL.take 10 rfl (by kernel_rfl) (by kernel_rfl) (by kernel_rfl) rfl rfl rfl rfl (V.max2 rfl ⟨_, rfl, rfl⟩ ⟨_, rfl, rfl⟩) ?_
            refine AL.take 11 rfl (by kernel_rfl) (by kernel_rfl) (by kernel_rfl) rfl rfl rfl rfl (V.assign rfl ⟨_, rfl, rfl⟩) ?_
            refine AL.nil (by kernel_rfl) (fun H8 k8 => ?_)
            replace hx := hx.at k8
            replace hy := hy.at k8
            replace K := K.trans k8
            refine NX.go ?_
            refine WC.sub (e' := [(0, true, _), (1, true, _), (5, true, _), (8, true, _)]) ⟨rfl, rfl, rfl, rfl, trivial⟩ ?_
            refine WC.seq ?_
            refine WC.seq ?_
            refine WC.draw (Is _) rfl (by kernel_rfl) (by kernel_rfl) ?_
            refine QL.det rfl rfl rfl (V.move rfl ⟨_, rfl, rfl⟩) ?_
            refine QL.ex rfl rfl rfl (X.idx (i := 0) rfl Try.underlying23 Try.sizeOf22 (ha.at K) ⟨_, rfl, rfl⟩ ⟨_, rfl, rfl⟩ rfl (gi (by omega))) (fun v131 h131 => ?_)
            refine QL.ex rfl rfl rfl (X.loadSl rfl Try.isAgg22 Try.sizeOf22 h131 ⟨_, rfl, rfl⟩ (Reach.is _)) (fun v132 h132 => ?_)
            have l132 := h132.len
            refine QL.det rfl rfl rfl (V.move rfl ⟨_, rfl, rfl⟩) ?_
            refine QL.ex rfl rfl rfl (X.idx (i := 0) rfl Try.underlying23 Try.sizeOf22 (hb.at K) ⟨_, rfl, rfl⟩ ⟨_, rfl, rfl⟩ rfl (gi (by omega))) (fun v134 h134 => ?_)
            refine QL.ex rfl rfl rfl (X.loadSl rfl Try.isAgg22 Try.sizeOf22 h134 ⟨_, rfl, rfl⟩ (Reach.is _)) (fun v135 h135 => ?_)
            have l135 := h135.len
            refine QL.call rfl rfl rfl rfl (.cons ⟨_, rfl, rfl⟩ (.cons ⟨_, rfl, rfl⟩ .nil)) (fun _ hS => by cases hS; exact sameBytes h132 h135) ?_
            refine QL.nil (fun _ hS => ?_)
            cases hS
            refine NX.go ?_
            refine WC.sub (e' := [(0, true, _), (1, true, _), (5, true, _), (8, true, _), (136, true, _)]) ⟨rfl, rfl, rfl, rfl, rfl, trivial⟩ ?_
            refine WC.cond ⟨_, rfl, rfl⟩ (fun hc136 => ?_) (fun hc136 => ?_)
            · -- hc136 true
              try simp only [Bool.and_eq_true, Bool.or_eq_true, Bool.not_eq_true', Bool.not_eq_false', Bool.and_eq_false_iff, Bool.or_eq_false_iff, decide_eq_true_eq, decide_eq_false_iff_not, Int.not_lt, Int.not_le] at hc136
              refine WC.any (Up _) (Keep.refl _ _) (by kernel_rfl) ?_
              refine AL.take 0 rfl (by kernel_rfl) (by kernel_rfl) (by kernel_rfl) rfl rfl rfl rfl (V.move rfl ⟨_, rfl, rfl⟩) ?_
              refine AL.take 1 rfl (by kernel_rfl) (by kernel_rfl) (by kernel_rfl) rfl rfl rfl rfl (V.move rfl ⟨_, rfl, rfl⟩) ?_
              refine AL.ex 2 rfl (by kernel_rfl) (by kernel_rfl) (by kernel_rfl) rfl rfl rfl rfl (X.sliceFrom (lo := 1) rfl Try.underlying23 Try.sizeOf22 (ha.at K) ⟨_, rfl, rfl⟩ ⟨_, rfl, rfl⟩ rfl (by omega)) (fun v139 h139 => ?_)
              refine AL.take 3 rfl (by kernel_rfl) (by kernel_rfl) (by kernel_rfl) rfl rfl rfl rfl (V.move rfl ⟨_, rfl, rfl⟩) ?_
              refine AL.ex 4 rfl (by kernel_rfl) (by kernel_rfl) (by kernel_rfl) rfl rfl rfl rfl (X.sliceFrom (lo := 1) rfl Try.underlying23 Try.sizeOf22 (hb.at K) ⟨_, rfl, rfl⟩ ⟨_, rfl, rfl⟩ rfl (by omega)) (fun v141 h141 => ?_)
              refine AL.call 5 rfl (by kernel_rfl) rfl rfl rfl rfl rfl (.cons ⟨_, rfl, rfl⟩ (.cons ⟨_, rfl, rfl⟩ .nil)) (fun H' k => commonLen (h139.at k) (h141.at k) (by simp; omega) (by simp; omega) k) ?_
              rintro _ ⟨p142, m142, rfl⟩
              refine AL.take 6 rfl (by kernel_rfl) (by kernel_rfl) (by kernel_rfl) rfl rfl rfl rfl (V.lenRaw rfl Try.underlying26 ⟨_, rfl, rfl⟩) ?_
              refine AL.take 7 rfl (by kernel_rfl) (by kernel_rfl) (by kernel_rfl) rfl rfl rfl rfl (V.add rfl ⟨_, rfl, rfl⟩ ⟨_, rfl, rfl⟩ (by rw [L.pairs_length]; have := L.lcs_le (a.drop 1) (b.drop 1); rw [List.length_drop] at this; unfold I64; omega)) ?_
              refine AL.take 8 rfl (by kernel_rfl) (by kernel_rfl) (by kernel_rfl) rfl rfl rfl rfl (V.max2 rfl ⟨_, rfl, rfl⟩ ⟨_, rfl, rfl⟩) ?_
              refine AL.take 9 rfl (by kernel_rfl) (by kernel_rfl) (by kernel_rfl) rfl rfl rfl rfl (V.assign rfl ⟨_, rfl, rfl⟩) ?_
              refine AL.nil (by kernel_rfl) (fun H9 k9 => ?_)
              replace hx := hx.at k9
              replace hy := hy.at k9
              replace K := K.trans k9
              refine NX.go ?_
              refine WC.sub (e' := [(5, true, _), (8, true, _)]) ⟨rfl, rfl, trivial⟩ ?_
              refine WC.seq ?_
              refine WC.region ?_
              refine WL.det rfl rfl rfl (V.move rfl ⟨_, rfl, rfl⟩) ?_
              refine WL.det rfl rfl rfl (V.move rfl ⟨_, rfl, rfl⟩) ?_
              refine WL.det rfl rfl rfl (V.len rfl Try.underlying26 ⟨_, rfl, rfl⟩ hx) ?_
              refine WL.det rfl rfl rfl (V.eql rfl ⟨_, rfl, rfl⟩ ⟨_, rfl, rfl⟩) ?_
              refine WL.det rfl rfl rfl (V.assign rfl ⟨_, rfl, rfl⟩) ?_
              refine WL.nil ?_
              refine NX.go ?_
              refine WC.sub (e' := [(4, true, _)]) ⟨rfl, trivial⟩ ?_
              refine WC.ret ?_
              refine ret1 hQ Try.results4 rfl ⟨_, rfl, rfl⟩ ?_
              first
                | exact ⟨rfl, K⟩
                | (refine ⟨congrArg Value.bool (decide_eq_true ?_), K⟩
                   rw [L.pairs_length]
                   rcases hc115 with h | h
                   · rw [List.eq_nil_of_length_eq_zero (by omega : a.length = 0), L.lcs_nil]; rfl
                   · rw [List.eq_nil_of_length_eq_zero (by omega : b.length = 0), L.lcs_nil']; rfl)
                | (refine ⟨congrArg Value.bool (decide_eq_true ?_), K⟩
                   have hl := lcs_last (a := a) (b := b) (by omega) (by omega)
                   simp only [L.pairs_length]
                   rw [hl]
                   first
                     | (rw [if_pos hc136]; omega)
                     | (rw [if_neg hc136]; omega))
            · -- hc136 false
              try simp only [Bool.and_eq_true, Bool.or_eq_true, Bool.not_eq_true', Bool.not_eq_false', Bool.and_eq_false_iff, Bool.or_eq_false_iff, decide_eq_true_eq, decide_eq_false_iff_not, Int.not_lt, Int.not_le] at hc136
              refine WC.skip ?_
              refine NX.go ?_
              refine WC.seq ?_
              refine WC.region ?_
              refine WL.det rfl rfl rfl (V.move rfl ⟨_, rfl, rfl⟩) ?_
              refine WL.det rfl rfl rfl (V.move rfl ⟨_, rfl, rfl⟩) ?_
              refine WL.det rfl rfl rfl (V.len rfl Try.underlying26 ⟨_, rfl, rfl⟩ hx) ?_
              refine WL.det rfl rfl rfl (V.eql rfl ⟨_, rfl, rfl⟩ ⟨_, rfl, rfl⟩) ?_
              refine WL.det rfl rfl rfl (V.assign rfl ⟨_, rfl, rfl⟩) ?_
              refine WL.nil ?_
              refine NX.go ?_
              refine WC.sub (e' := [(4, true, _)]) ⟨rfl, trivial⟩ ?_
              refine WC.ret ?_
              refine ret1 hQ Try.results4 rfl ⟨_, rfl, rfl⟩ ?_
              first
                | exact ⟨rfl, K⟩
                | (refine ⟨congrArg Value.bool (decide_eq_true ?_), K⟩
                   rw [L.pairs_length]
                   rcases hc115 with h | h
                   · rw [List.eq_nil_of_length_eq_zero (by omega : a.length = 0), L.lcs_nil]; rfl
                   · rw [List.eq_nil_of_length_eq_zero (by omega : b.length = 0), L.lcs_nil']; rfl)
                | (refine ⟨congrArg Value.bool (decide_eq_true ?_), K⟩
                   have hl := lcs_last (a := a) (b := b) (by omega) (by omega)
                   simp only [L.pairs_length]
                   rw [hl]
                   first
                     | (rw [if_pos hc136]; omega)
                     | (rw [if_neg hc136]; omega))

end Go.Proofs.Ytkkjjbejkcgmfaa
