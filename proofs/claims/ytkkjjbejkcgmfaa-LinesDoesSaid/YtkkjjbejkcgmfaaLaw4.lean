/- lines: the law of the sides -/
import Derived.Test.YtkkjjbejkcgmfaaLaw1
import Derived.Test.YtkkjjbejkcgmfaaMore
namespace Go.Proofs.Ytkkjjbejkcgmfaa
open Go.NB
set_option linter.unusedVariables false
set_option linter.unusedSimpArgs false

theorem mix_swap (old one two : L.Ls) : L.mix old one two = L.mix old two one := by
  unfold L.mix
  by_cases h1 : one = two
  · subst h1; rfl
  · have h1' : ¬ two = one := fun e => h1 e.symm
    by_cases h2 : old = one
    · have h3 : ¬ old = two := fun e => h1 (h2.symm.trans e)
      rw [if_pos (.inl h2), if_neg (fun h => h.elim h3 h1'), if_pos h2]
    · rw [if_neg (fun h => h.elim h2 h1)]
      by_cases h3 : old = two
      · rw [if_pos h3, if_pos (.inl h3)]
      · rw [if_neg h3, if_neg (fun h => h.elim h3 h1'), if_neg h2]
theorem pairs_id (l : L.Ls) (i : Nat) : L.pairs l l i i = (List.range' i l.length).map fun k => (k, k) := by
  induction l generalizing i with
  | nil => rw [L.pairs_nil]; rfl
  | cons x l ih => rw [L.pairs_cons, if_pos rfl, ih, List.length_cons, List.range'_succ]; rfl
theorem at_id {l : L.Ls} {n : Nat} (h : n < l.length) : L.at_ (L.pairs l l 0 0) n = n := by
  have : (n, n) ∈ L.pairs l l 0 0 := by rw [pairs_id]; exact List.mem_map.2 ⟨n, by simp [List.mem_range']; omega, rfl⟩
  exact L.at_of_mem (u := (n, n)) (pairsRise l l) this
theorem pairs_same {a b : L.Ls} {u : Nat × Nat} (h : u ∈ L.pairs a b 0 0) : a[u.1]? = b[u.2]? := by
  have := (L.pairs_mem a b 0 0 u h).2.2.2.2
  simpa using this
theorem cut_drop {a : L.Ls} {j : Nat} : L.cut a j a.length = a.drop j := by unfold L.cut; rw [List.take_length]
theorem cut_next {a : L.Ls} {j p : Nat} (h1 : j ≤ p) (h2 : p < a.length) : L.cut a j p ++ [a[p]] ++ a.drop (p + 1) = a.drop j := by
  unfold L.cut
  rw [List.append_assoc, List.singleton_append, ← List.drop_eq_getElem_cons h2]
  have h3 := (List.take_append_drop (p - j) (a.drop j)).symm
  rw [List.drop_drop, show j + (p - j) = p by omega] at h3
  rw [List.drop_take]
  exact h3.symm
theorem sides_both {base a : L.Ls} : ∀ d n i j : Nat, base.length - n = d → n ≤ base.length → j ≤ a.length → (∀ u ∈ L.pairs base a 0 0, n ≤ u.1 → j ≤ u.2) → L.rest base a a n i j j = some (a.drop j) := by
  intro d
  induction d with
  | zero =>
    intro n i j hd hn hj _
    obtain rfl : n = base.length := by omega
    rw [L.rest_end, L.mix_two (.inr rfl), cut_drop]
  | succ d ih =>
    intro n i j hd hn hj hu
    rcases L.at_range (L.pairs base a 0 0) n with h | ⟨p, hp⟩
    · rw [L.rest_skip (by omega) (by omega)]
      exact ih (n + 1) i j (by omega) (by omega) hj (fun u h1 h2 => hu u h1 (by omega))
    · have hm := L.at_mem hp
      have hin := pairsIn hm
      have hsame := pairs_same hm
      rw [L.rest_held (by omega) hp hp, L.mix_two (.inr rfl)]
      simp only []
      rw [ih (n + 1) (n + 1) (p + 1) (by omega) (by omega) (by omega) (fun u h1 h2 => (pairsRise base a).lt hm h1 (by simp only []; omega))]
      simp only [Option.map_some]
      have hs2 : base[n]?.toList = [a[p]'(by exact hin.2)] := by
        rw [show base[n]? = a[p]? from hsame, List.getElem?_eq_getElem (show p < a.length from hin.2)]; rfl
      rw [hs2, cut_next (hu _ hm (Nat.le_refl _)) hin.2]
theorem sides_one {base b : L.Ls} : ∀ d n i k : Nat, base.length - n = d → n ≤ base.length → k ≤ b.length → (∀ u ∈ L.pairs base b 0 0, n ≤ u.1 → k ≤ u.2) → L.rest base base b n i i k = some (b.drop k) := by
  intro d
  induction d with
  | zero =>
    intro n i k hd hn hk _
    obtain rfl : n = base.length := by omega
    rw [L.rest_end, L.mix_two (.inl rfl), cut_drop]
  | succ d ih =>
    intro n i k hd hn hk hu
    rcases L.at_range (L.pairs base b 0 0) n with h | ⟨q, hq⟩
    · rw [L.rest_skip (by omega) (by omega)]
      exact ih (n + 1) i k (by omega) (by omega) hk (fun u h1 h2 => hu u h1 (by omega))
    · have hm := L.at_mem hq
      have hin := pairsIn hm
      have hsame := pairs_same hm
      rw [L.rest_held (by omega) (at_id (by omega)) hq, L.mix_two (.inl rfl)]
      simp only []
      rw [ih (n + 1) (n + 1) (q + 1) (by omega) (by omega) (by omega) (fun u h1 h2 => (pairsRise base b).lt hm h1 (by simp only []; omega))]
      simp only [Option.map_some]
      have hs2 : base[n]?.toList = [b[q]'(by exact hin.2)] := by
        rw [show base[n]? = b[q]? from hsame, List.getElem?_eq_getElem (show q < b.length from hin.2)]; rfl
      rw [hs2, cut_next (hu _ hm (Nat.le_refl _)) hin.2]
theorem sides_swap {base a b : L.Ls} : ∀ d n i j k : Nat, base.length - n = d → n ≤ base.length → L.rest base a b n i j k = L.rest base b a n i k j := by
  intro d
  induction d with
  | zero =>
    intro n i j k hd hn
    obtain rfl : n = base.length := by omega
    rw [L.rest_end, L.rest_end, mix_swap]
  | succ d ih =>
    intro n i j k hd hn
    rcases L.at_range (L.pairs base a 0 0) n with h | ⟨p, hp⟩
    · rw [L.rest_skip (by omega) (by omega), L.rest_skip (i := i) (j := k) (k := j) (by omega) (by omega)]
      exact ih (n + 1) i j k (by omega) (by omega)
    · rcases L.at_range (L.pairs base b 0 0) n with h | ⟨q, hq⟩
      · rw [L.rest_skip (by omega) (by omega), L.rest_skip (i := i) (j := k) (k := j) (by omega) (by omega)]
        exact ih (n + 1) i j k (by omega) (by omega)
      · rw [L.rest_held (by omega) hp hq, L.rest_held (by omega) hq hp, mix_swap, ih (n + 1) (n + 1) (p + 1) (q + 1) (by omega) (by omega)]
theorem merge_both (base a : L.Ls) : L.merge base a a = some a := by
  rw [← L.rest_zero, sides_both _ 0 0 0 rfl (by omega) (by omega) (fun u _ _ => by omega)]; rfl
theorem merge_first (base b : L.Ls) : L.merge base base b = some b := by
  rw [← L.rest_zero, sides_one _ 0 0 0 rfl (by omega) (by omega) (fun u _ _ => by omega)]; rfl
theorem merge_swap (base a b : L.Ls) : L.merge base a b = L.merge base b a := by
  rw [← L.rest_zero, ← L.rest_zero, sides_swap _ 0 0 0 0 rfl (by omega)]
theorem merge_second (base a : L.Ls) : L.merge base a base = some a := by rw [merge_swap, merge_first]
theorem mergeK {H0 : Heap} {vs va vb : Value} {base a b : L.Ls} (hs : Sl (tSl tByte) H0 [] vs base) (ha : Sl (tSl tByte) H0 [] va a) (hb : Sl (tSl tByte) H0 [] vb b) (hls : base.length ≤ 1000) (hla : a.length ≤ 1000) (hlb : b.length ≤ 1000) :
    CallsH Try.prog 16 #[vs, va, vb] H0 fun r H => ∃ v, r = .tuple #[v, .bool (L.merge base a b).isSome] ∧ Sl (tSl tByte) H [] v ((L.merge base a b).getD []) ∧ Keep [] H0 H :=
  (merge hs ha hb (fun _ h => by cases h) hls hla hlb).mono fun r H h => by
    rcases h with ⟨v, l, h1, h2, h3, h4⟩ | ⟨h1, h2, h3⟩
    · rw [h1]; exact ⟨v, h2, h3, h4⟩
    · rw [h1]; exact ⟨_, h2, .inl ⟨_, rfl, rfl⟩, h3⟩

set_option maxRecDepth 20000 in
set_option maxHeartbeats 1000000 in
theorem lawSides {H0 : Heap} {vs va vb : Value} {base a b : L.Ls} (hs : Sl (tSl tByte) H0 [] vs base) (ha : Sl (tSl tByte) H0 [] va a) (hb : Sl (tSl tByte) H0 [] vb b) :
    CallsH Try.prog 5 #[vs, va, vb] H0 (fun v H => v = .bool true ∧ Keep [] H0 H) := by
  refine enter (args := [vs, va, vb]) Try.call5 Try.func5 rfl Try.ntmps5 (Nat.le_of_ble_eq_true rfl) (fun W0 Q hQ => ?_)
  refine WC.sub (e' := [(0, true, vs), (1, true, va), (2, true, vb)]) ⟨rfl, rfl, rfl, trivial⟩ ?_
  have K : Keep [] H0 H0 := Keep.refl _ _
  refine WC.seq ?_
  refine WC.region ?_
  refine WL.det rfl rfl rfl (V.assign rfl ⟨_, rfl, rfl⟩) ?_
  refine WL.nil ?_
  refine NX.go ?_
  refine WC.sub (e' := [(0, true, _), (1, true, _), (2, true, _)]) ⟨rfl, rfl, rfl, trivial⟩ ?_
  refine WC.seq ?_
  refine WC.seq ?_
  refine WC.region ?_
  refine WL.call rfl rfl rfl rfl .nil (begun) ?_
  rintro _ H1 ⟨rfl, k1⟩
  replace K := K.trans k1
  refine WL.det rfl rfl rfl (V.not rfl ⟨_, rfl, rfl⟩) ?_
  refine WL.nil ?_
  refine NX.go ?_
  refine WC.sub (e' := [(0, true, _), (1, true, _), (2, true, _), (18, true, _)]) ⟨rfl, rfl, rfl, rfl, trivial⟩ ?_
  refine WC.cond ⟨_, rfl, rfl⟩ (fun hc18 => ?_) (fun hc18 => ?_)
  · -- hc18 true
    try simp only [Bool.and_eq_true, Bool.or_eq_true, Bool.not_eq_true', Bool.not_eq_false', Bool.and_eq_false_iff, Bool.or_eq_false_iff, decide_eq_true_eq, decide_eq_false_iff_not, Int.not_lt, Int.not_le] at hc18
    exact absurd hc18 (by simp)
  · -- hc18 false
    try simp only [Bool.and_eq_true, Bool.or_eq_true, Bool.not_eq_true', Bool.not_eq_false', Bool.and_eq_false_iff, Bool.or_eq_false_iff, decide_eq_true_eq, decide_eq_false_iff_not, Int.not_lt, Int.not_le] at hc18
    refine WC.skip ?_
    refine NX.go ?_
    refine WC.seq ?_
    refine WC.seq ?_
    refine WC.region ?_
    refine WL.det rfl rfl rfl (V.move rfl ⟨_, rfl, rfl⟩) ?_
    refine WL.call rfl rfl rfl rfl (.cons ⟨_, rfl, rfl⟩ .nil) (greatK (hs.at K)) ?_
    rintro _ H2 ⟨rfl, k2⟩
    replace K := K.trans k2
    refine WL.det rfl rfl rfl (V.move rfl ⟨_, rfl, rfl⟩) ?_
    refine WL.gdet (Gd.no1 rfl rfl rfl rfl) rfl rfl (fun hg => V.move rfl ⟨_, rfl, rfl⟩) ?_
    refine WL.gcall (Gd.no1 rfl rfl rfl rfl) rfl rfl rfl (fun hg => (.cons ⟨_, rfl, hg⟩ .nil)) (fun hg => greatK (ha.at K)) (fun H3 k3 => ?_)
    replace K := K.trans k3
    refine WL.det rfl rfl rfl (V.or rfl ⟨_, rfl, rfl⟩ (fun hb => ⟨_, rfl, (congrArg Bool.not hb)⟩)) ?_
    refine WL.det rfl rfl rfl (V.move rfl ⟨_, rfl, rfl⟩) ?_
    refine WL.gdet (Gd.no1 rfl rfl rfl rfl) rfl rfl (fun hg => V.move rfl ⟨_, rfl, rfl⟩) ?_
    refine WL.gcall (Gd.no1 rfl rfl rfl rfl) rfl rfl rfl (fun hg => (.cons ⟨_, rfl, hg⟩ .nil)) (fun hg => greatK (hb.at K)) (fun H4 k4 => ?_)
    replace K := K.trans k4
    refine WL.det rfl rfl rfl (V.or rfl ⟨_, rfl, rfl⟩ (fun hb => ⟨_, rfl, (congrArg Bool.not hb)⟩)) ?_
    refine WL.nil ?_
    refine NX.go ?_
    refine WC.sub (e' := [(0, true, _), (1, true, _), (2, true, _), (28, true, _)]) ⟨rfl, rfl, rfl, rfl, trivial⟩ ?_
    refine WC.cond ⟨_, rfl, rfl⟩ (fun hc28 => ?_) (fun hc28 => ?_)
    · -- hc28 true
      try simp only [Bool.and_eq_true, Bool.or_eq_true, Bool.not_eq_true', Bool.not_eq_false', Bool.and_eq_false_iff, Bool.or_eq_false_iff, decide_eq_true_eq, decide_eq_false_iff_not, Int.not_lt, Int.not_le] at hc28
      refine WC.seq ?_
      refine WC.region ?_
      refine WL.det rfl rfl rfl (V.assign rfl ⟨_, rfl, rfl⟩) ?_
      refine WL.nil ?_
      refine NX.go ?_
      refine WC.sub (e' := [(6, true, _)]) ⟨rfl, trivial⟩ ?_
      refine WC.ret ?_
      refine NX.of_ret ?_
      refine ret1 hQ Try.results5 rfl ⟨_, rfl, rfl⟩ ?_
      first
        | exact ⟨rfl, K⟩
        | (refine ⟨?_, K⟩
           rw [merge_first, merge_second, merge_both, merge_swap base b a]
           simp)
    · -- hc28 false
      try simp only [Bool.and_eq_true, Bool.or_eq_true, Bool.not_eq_true', Bool.not_eq_false', Bool.and_eq_false_iff, Bool.or_eq_false_iff, decide_eq_true_eq, decide_eq_false_iff_not, Int.not_lt, Int.not_le] at hc28
      have hls := great_len hc28.1.1
      have hla := great_len hc28.1.2
      have hlb := great_len hc28.2
      refine WC.skip ?_
      refine NX.go ?_
      refine WC.seq ?_
      refine WC.region ?_
      refine WL.det rfl rfl rfl (V.move rfl ⟨_, rfl, rfl⟩) ?_
      refine WL.det rfl rfl rfl (V.move rfl ⟨_, rfl, rfl⟩) ?_
      refine WL.det rfl rfl rfl (V.move rfl ⟨_, rfl, rfl⟩) ?_
      refine WL.call rfl rfl rfl rfl (.cons ⟨_, rfl, rfl⟩ (.cons ⟨_, rfl, rfl⟩ (.cons ⟨_, rfl, rfl⟩ .nil))) (mergeK (hs.at K) (hs.at K) (hb.at K) (by omega) (by omega) (by omega)) ?_
      rintro _ H5 ⟨v33, rfl, hx, k5⟩
      replace K := K.trans k5
      refine WL.det rfl rfl rfl (V.move rfl ⟨_, rfl, rfl⟩) ?_
      refine WL.det rfl rfl rfl (V.extract rfl ⟨_, rfl, rfl⟩ rfl) ?_
      refine WL.det rfl rfl rfl (V.extract rfl ⟨_, rfl, rfl⟩ rfl) ?_
      refine WL.det rfl rfl rfl (V.assign rfl ⟨_, rfl, rfl⟩) ?_
      refine WL.det rfl rfl rfl (V.assign rfl ⟨_, rfl, rfl⟩) ?_
      refine WL.nil ?_
      refine NX.go ?_
      refine WC.sub (e' := [(0, true, _), (1, true, _), (2, true, _), (7, true, _), (8, true, _)]) ⟨rfl, rfl, rfl, rfl, rfl, trivial⟩ ?_
      refine WC.seq ?_
      refine WC.region ?_
      refine WL.det rfl rfl rfl (V.move rfl ⟨_, rfl, rfl⟩) ?_
      refine WL.det rfl rfl rfl (V.move rfl ⟨_, rfl, rfl⟩) ?_
      refine WL.det rfl rfl rfl (V.move rfl ⟨_, rfl, rfl⟩) ?_
      refine WL.call rfl rfl rfl rfl (.cons ⟨_, rfl, rfl⟩ (.cons ⟨_, rfl, rfl⟩ (.cons ⟨_, rfl, rfl⟩ .nil))) (mergeK (hs.at K) (ha.at K) (hs.at K) (by omega) (by omega) (by omega)) ?_
      rintro _ H6 ⟨v40, rfl, hy, k6⟩
      replace hx := hx.at k6
      replace K := K.trans k6
      refine WL.det rfl rfl rfl (V.move rfl ⟨_, rfl, rfl⟩) ?_
      refine WL.det rfl rfl rfl (V.extract rfl ⟨_, rfl, rfl⟩ rfl) ?_
      refine WL.det rfl rfl rfl (V.extract rfl ⟨_, rfl, rfl⟩ rfl) ?_
      refine WL.det rfl rfl rfl (V.assign rfl ⟨_, rfl, rfl⟩) ?_
      refine WL.det rfl rfl rfl (V.assign rfl ⟨_, rfl, rfl⟩) ?_
      refine WL.nil ?_
      refine NX.go ?_
      refine WC.sub (e' := [(0, true, _), (1, true, _), (2, true, _), (7, true, _), (8, true, _), (9, true, _), (10, true, _)]) ⟨rfl, rfl, rfl, rfl, rfl, rfl, rfl, trivial⟩ ?_
      refine WC.seq ?_
      refine WC.region ?_
      refine WL.det rfl rfl rfl (V.move rfl ⟨_, rfl, rfl⟩) ?_
      refine WL.det rfl rfl rfl (V.move rfl ⟨_, rfl, rfl⟩) ?_
      refine WL.det rfl rfl rfl (V.move rfl ⟨_, rfl, rfl⟩) ?_
      refine WL.call rfl rfl rfl rfl (.cons ⟨_, rfl, rfl⟩ (.cons ⟨_, rfl, rfl⟩ (.cons ⟨_, rfl, rfl⟩ .nil))) (mergeK (hs.at K) (ha.at K) (ha.at K) (by omega) (by omega) (by omega)) ?_
      rintro _ H7 ⟨v47, rfl, hz, k7⟩
      replace hx := hx.at k7
      replace hy := hy.at k7
      replace K := K.trans k7
      refine WL.det rfl rfl rfl (V.move rfl ⟨_, rfl, rfl⟩) ?_
      refine WL.det rfl rfl rfl (V.extract rfl ⟨_, rfl, rfl⟩ rfl) ?_
      refine WL.det rfl rfl rfl (V.extract rfl ⟨_, rfl, rfl⟩ rfl) ?_
      refine WL.det rfl rfl rfl (V.assign rfl ⟨_, rfl, rfl⟩) ?_
      refine WL.det rfl rfl rfl (V.assign rfl ⟨_, rfl, rfl⟩) ?_
      refine WL.nil ?_
      refine NX.go ?_
      refine WC.sub (e' := [(0, true, _), (1, true, _), (2, true, _), (7, true, _), (8, true, _), (9, true, _), (10, true, _), (11, true, _), (12, true, _)]) ⟨rfl, rfl, rfl, rfl, rfl, rfl, rfl, rfl, rfl, trivial⟩ ?_
      refine WC.seq ?_
      refine WC.region ?_
      refine WL.det rfl rfl rfl (V.move rfl ⟨_, rfl, rfl⟩) ?_
      refine WL.det rfl rfl rfl (V.move rfl ⟨_, rfl, rfl⟩) ?_
      refine WL.det rfl rfl rfl (V.move rfl ⟨_, rfl, rfl⟩) ?_
      refine WL.call rfl rfl rfl rfl (.cons ⟨_, rfl, rfl⟩ (.cons ⟨_, rfl, rfl⟩ (.cons ⟨_, rfl, rfl⟩ .nil))) (mergeK (hs.at K) (ha.at K) (hb.at K) (by omega) (by omega) (by omega)) ?_
      rintro _ H8 ⟨v54, rfl, hm, k8⟩
      replace hx := hx.at k8
      replace hy := hy.at k8
      replace hz := hz.at k8
      replace K := K.trans k8
      refine WL.det rfl rfl rfl (V.move rfl ⟨_, rfl, rfl⟩) ?_
      refine WL.det rfl rfl rfl (V.extract rfl ⟨_, rfl, rfl⟩ rfl) ?_
      refine WL.det rfl rfl rfl (V.extract rfl ⟨_, rfl, rfl⟩ rfl) ?_
      refine WL.det rfl rfl rfl (V.assign rfl ⟨_, rfl, rfl⟩) ?_
      refine WL.det rfl rfl rfl (V.assign rfl ⟨_, rfl, rfl⟩) ?_
      refine WL.nil ?_
      refine NX.go ?_
      refine WC.sub (e' := [(0, true, _), (1, true, _), (2, true, _), (7, true, _), (8, true, _), (9, true, _), (10, true, _), (11, true, _), (12, true, _), (13, true, _), (14, true, _)]) ⟨rfl, rfl, rfl, rfl, rfl, rfl, rfl, rfl, rfl, rfl, rfl, trivial⟩ ?_
      refine WC.seq ?_
      refine WC.region ?_
      refine WL.det rfl rfl rfl (V.move rfl ⟨_, rfl, rfl⟩) ?_
      refine WL.det rfl rfl rfl (V.move rfl ⟨_, rfl, rfl⟩) ?_
      refine WL.det rfl rfl rfl (V.move rfl ⟨_, rfl, rfl⟩) ?_
      refine WL.call rfl rfl rfl rfl (.cons ⟨_, rfl, rfl⟩ (.cons ⟨_, rfl, rfl⟩ (.cons ⟨_, rfl, rfl⟩ .nil))) (mergeK (hs.at K) (hb.at K) (ha.at K) (by omega) (by omega) (by omega)) ?_
      rintro _ H9 ⟨v61, rfl, hn, k9⟩
      replace hx := hx.at k9
      replace hy := hy.at k9
      replace hz := hz.at k9
      replace hm := hm.at k9
      replace K := K.trans k9
      refine WL.det rfl rfl rfl (V.move rfl ⟨_, rfl, rfl⟩) ?_
      refine WL.det rfl rfl rfl (V.extract rfl ⟨_, rfl, rfl⟩ rfl) ?_
      refine WL.det rfl rfl rfl (V.extract rfl ⟨_, rfl, rfl⟩ rfl) ?_
      refine WL.det rfl rfl rfl (V.assign rfl ⟨_, rfl, rfl⟩) ?_
      refine WL.det rfl rfl rfl (V.assign rfl ⟨_, rfl, rfl⟩) ?_
      refine WL.nil ?_
      refine NX.go ?_
      refine WC.sub (e' := [(1, true, _), (2, true, _), (7, true, _), (8, true, _), (9, true, _), (10, true, _), (11, true, _), (12, true, _), (13, true, _), (14, true, _), (15, true, _), (16, true, _)]) ⟨rfl, rfl, rfl, rfl, rfl, rfl, rfl, rfl, rfl, rfl, rfl, rfl, trivial⟩ ?_
      refine WC.seq ?_
      refine WC.region ?_
      refine WL.det rfl rfl rfl (V.move rfl ⟨_, rfl, rfl⟩) ?_
      refine WL.det rfl rfl rfl (V.move rfl ⟨_, rfl, rfl⟩) ?_
      refine WL.gdet (Gd.yes1 rfl rfl rfl rfl) rfl rfl (fun hg => V.move rfl ⟨_, rfl, rfl⟩) ?_
      refine WL.det rfl rfl rfl (V.and rfl ⟨_, rfl, rfl⟩ (fun hb => ⟨_, rfl, hb⟩)) ?_
      refine WL.det rfl rfl rfl (V.move rfl ⟨_, rfl, rfl⟩) ?_
      refine WL.gdet (Gd.yes1 rfl rfl rfl rfl) rfl rfl (fun hg => V.move rfl ⟨_, rfl, rfl⟩) ?_
      refine WL.det rfl rfl rfl (V.and rfl ⟨_, rfl, rfl⟩ (fun hb => ⟨_, rfl, hb⟩)) ?_
      refine WL.det rfl rfl rfl (V.move rfl ⟨_, rfl, rfl⟩) ?_
      refine WL.gdet (Gd.yes1 rfl rfl rfl rfl) rfl rfl (fun hg => V.move rfl ⟨_, rfl, rfl⟩) ?_
      refine WL.gdet (Gd.yes1 rfl rfl rfl rfl) rfl rfl (fun hg => V.move rfl ⟨_, rfl, rfl⟩) ?_
      refine WL.gcall (Gd.yes1 rfl rfl rfl rfl) rfl rfl rfl (fun hg => (.cons ⟨_, rfl, hg⟩ (.cons ⟨_, rfl, hg⟩ .nil))) (fun hg => sameLinesK hx (hb.at K)) (fun H10 k10 => ?_)
      replace hx := hx.at k10
      replace hy := hy.at k10
      replace hz := hz.at k10
      replace hm := hm.at k10
      replace hn := hn.at k10
      replace K := K.trans k10
      refine WL.det rfl rfl rfl (V.and rfl ⟨_, rfl, rfl⟩ (fun hb => ⟨_, rfl, hb⟩)) ?_
      refine WL.det rfl rfl rfl (V.move rfl ⟨_, rfl, rfl⟩) ?_
      refine WL.gdet (Gd.yes1 rfl rfl rfl rfl) rfl rfl (fun hg => V.move rfl ⟨_, rfl, rfl⟩) ?_
      refine WL.gdet (Gd.yes1 rfl rfl rfl rfl) rfl rfl (fun hg => V.move rfl ⟨_, rfl, rfl⟩) ?_
      refine WL.gcall (Gd.yes1 rfl rfl rfl rfl) rfl rfl rfl (fun hg => (.cons ⟨_, rfl, hg⟩ (.cons ⟨_, rfl, hg⟩ .nil))) (fun hg => sameLinesK hy (ha.at K)) (fun H11 k11 => ?_)
      replace hx := hx.at k11
      replace hy := hy.at k11
      replace hz := hz.at k11
      replace hm := hm.at k11
      replace hn := hn.at k11
      replace K := K.trans k11
      refine WL.det rfl rfl rfl (V.and rfl ⟨_, rfl, rfl⟩ (fun hb => ⟨_, rfl, hb⟩)) ?_
      refine WL.det rfl rfl rfl (V.move rfl ⟨_, rfl, rfl⟩) ?_
      refine WL.gdet (Gd.yes1 rfl rfl rfl rfl) rfl rfl (fun hg => V.move rfl ⟨_, rfl, rfl⟩) ?_
      refine WL.gdet (Gd.yes1 rfl rfl rfl rfl) rfl rfl (fun hg => V.move rfl ⟨_, rfl, rfl⟩) ?_
      refine WL.gcall (Gd.yes1 rfl rfl rfl rfl) rfl rfl rfl (fun hg => (.cons ⟨_, rfl, hg⟩ (.cons ⟨_, rfl, hg⟩ .nil))) (fun hg => sameLinesK hz (ha.at K)) (fun H12 k12 => ?_)
      replace hx := hx.at k12
      replace hy := hy.at k12
      replace hz := hz.at k12
      replace hm := hm.at k12
      replace hn := hn.at k12
      replace K := K.trans k12
      refine WL.det rfl rfl rfl (V.and rfl ⟨_, rfl, rfl⟩ (fun hb => ⟨_, rfl, hb⟩)) ?_
      refine WL.det rfl rfl rfl (V.move rfl ⟨_, rfl, rfl⟩) ?_
      refine WL.gdet (Gd.yes1 rfl rfl rfl rfl) rfl rfl (fun hg => V.move rfl ⟨_, rfl, rfl⟩) ?_
      refine WL.gdet (Gd.yes1 rfl rfl rfl rfl) rfl rfl (fun hg => V.move rfl ⟨_, rfl, rfl⟩) ?_
      refine WL.gdet (Gd.yes1 rfl rfl rfl rfl) rfl rfl (fun hg => V.bEql rfl Try.underlying4 ⟨_, rfl, hg⟩ ⟨_, rfl, hg⟩) ?_
      refine WL.det rfl rfl rfl (V.and rfl ⟨_, rfl, rfl⟩ (fun hb => ⟨_, rfl, hb⟩)) ?_
      refine WL.det rfl rfl rfl (V.move rfl ⟨_, rfl, rfl⟩) ?_
      refine WL.gdet (Gd.yes1 rfl rfl rfl rfl) rfl rfl (fun hg => V.move rfl ⟨_, rfl, rfl⟩) ?_
      refine WL.gdet (Gd.yes1 rfl rfl rfl rfl) rfl rfl (fun hg => V.move rfl ⟨_, rfl, rfl⟩) ?_
      refine WL.gcall (Gd.yes1 rfl rfl rfl rfl) rfl rfl rfl (fun hg => (.cons ⟨_, rfl, hg⟩ (.cons ⟨_, rfl, hg⟩ .nil))) (fun hg => sameLinesK hm hn) (fun H13 k13 => ?_)
      replace hx := hx.at k13
      replace hy := hy.at k13
      replace hz := hz.at k13
      replace hm := hm.at k13
      replace hn := hn.at k13
      replace K := K.trans k13
      refine WL.det rfl rfl rfl (V.and rfl ⟨_, rfl, rfl⟩ (fun hb => ⟨_, rfl, hb⟩)) ?_
      refine WL.det rfl rfl rfl (V.assign rfl ⟨_, rfl, rfl⟩) ?_
      refine WL.nil ?_
      refine NX.go ?_
      refine WC.sub (e' := [(6, true, _)]) ⟨rfl, trivial⟩ ?_
      refine WC.ret ?_
      refine ret1 hQ Try.results5 rfl ⟨_, rfl, rfl⟩ ?_
      first
        | exact ⟨rfl, K⟩
        | (refine ⟨?_, K⟩
           rw [merge_first, merge_second, merge_both, merge_swap base b a]
           simp)

end Go.Proofs.Ytkkjjbejkcgmfaa
