/- lines: the law of all lines being all bytes -/
import Derived.Test.YtkkjjbejkcgmfaaLaw1
namespace Go.Proofs.Ytkkjjbejkcgmfaa
open Go.NB
set_option linter.unusedVariables false
set_option linter.unusedSimpArgs false

theorem lines_flat (b : List UInt8) : (L.linesOf b).flatten = b := by
  induction b with
  | nil => rfl
  | cons x r ih =>
    unfold L.linesOf
    split
    · simp [ih]
    · split
      · rename_i h
        rw [h] at ih
        simp at ih
        simp [← ih]
      · rename_i l ls h
        rw [h] at ih
        simp at ih ⊢
        exact ih
theorem lines_ok (b : List UInt8) : (∀ l ∈ L.linesOf b, ∃ m x, l = m ++ [x] ∧ (10 : UInt8) ∉ m) ∧ (∀ l ∈ (L.linesOf b).dropLast, ∃ m, l = m ++ [(10 : UInt8)]) := by
  induction b with
  | nil => exact ⟨fun l h => by simp [L.linesOf] at h, fun l h => by simp [L.linesOf] at h⟩
  | cons x r ih =>
    unfold L.linesOf
    split
    · rename_i hx
      subst hx
      refine ⟨fun l h => ?_, fun l h => ?_⟩
      · rcases List.mem_cons.1 h with rfl | h
        · exact ⟨[], 10, rfl, by simp⟩
        · exact ih.1 l h
      · cases hr : L.linesOf r with
        | nil => rw [hr] at h; simp at h
        | cons y ys =>
          rw [hr] at h ih
          rw [List.dropLast_cons_cons] at h
          rcases List.mem_cons.1 h with rfl | h
          · exact ⟨[], rfl⟩
          · exact ih.2 l h
    · rename_i hx
      split
      · exact ⟨fun l h => by simp at h; subst h; exact ⟨[], x, rfl, by simp⟩, fun l h => by simp at h⟩
      · rename_i l ls h
        rw [h] at ih
        refine ⟨fun m hm => ?_, fun m hm => ?_⟩
        · rcases List.mem_cons.1 hm with rfl | hm
          · obtain ⟨p, y, rfl, hp⟩ := ih.1 l (by simp)
            exact ⟨x :: p, y, rfl, fun hc => (List.mem_cons.1 hc).elim (fun e => hx e.symm) hp⟩
          · exact ih.1 m (by simp [hm])
        · cases ls with
          | nil => simp at hm
          | cons y ys =>
            rw [List.dropLast_cons_cons] at hm
            rcases List.mem_cons.1 hm with rfl | hm
            · obtain ⟨p, rfl⟩ := ih.2 l (by simp)
              exact ⟨x :: p, rfl⟩
            · exact ih.2 m (by rw [List.dropLast_cons_cons]; exact List.mem_cons_of_mem _ hm)
/-- of one line: it is not empty, it ends in a newline but for the last, and has none elsewhere -/
theorem line_ok {b : List UInt8} {i : Nat} (hi : i < (L.linesOf b).length) :
    0 < (L.linesOf b)[i].length ∧ (i + 1 < (L.linesOf b).length → ∀ h : (L.linesOf b)[i].length - 1 < (L.linesOf b)[i].length, (L.linesOf b)[i][(L.linesOf b)[i].length - 1] = 10) ∧ ∀ k (h : k + 1 < (L.linesOf b)[i].length), (L.linesOf b)[i][k] ≠ 10 := by
  obtain ⟨h1, h2⟩ := lines_ok b
  obtain ⟨m, x, e, hm⟩ := h1 _ (List.getElem_mem hi)
  have h3 : i + 1 < (L.linesOf b).length → ∃ m', (L.linesOf b)[i] = m' ++ [(10 : UInt8)] := fun h =>
    h2 _ (by rw [List.mem_iff_getElem]; exact ⟨i, by rw [List.length_dropLast]; omega, by rw [List.getElem_dropLast]⟩)
  have key : ∀ l : List UInt8, l = m ++ [x] → (i + 1 < (L.linesOf b).length → ∃ m', l = m' ++ [(10 : UInt8)]) →
      0 < l.length ∧ (i + 1 < (L.linesOf b).length → ∀ h : l.length - 1 < l.length, l[l.length - 1] = 10) ∧ ∀ k (h : k + 1 < l.length), l[k] ≠ 10 := by
    intro l e h3
    subst e
    refine ⟨by simp, fun h h' => ?_, fun k h => ?_⟩
    · obtain ⟨m', e⟩ := h3 h
      obtain ⟨rfl, e⟩ := List.append_inj' e rfl
      simp at e
      simp [e]
    · simp at h
      rw [List.getElem_append_left h]
      exact fun e => hm (e ▸ List.getElem_mem h)
  exact key _ e h3
theorem flat_take {b : List UInt8} {i : Nat} (hi : i < (L.linesOf b).length) : ((L.linesOf b).take (i + 1)).flatten = ((L.linesOf b).take i).flatten ++ (L.linesOf b)[i] := by
  rw [List.take_succ_eq_append_getElem hi, List.flatten_append]
  simp
theorem flat_le (b : List UInt8) (i : Nat) : ((L.linesOf b).take i).flatten.length ≤ b.length := by
  have h : ((L.linesOf b).take i).flatten ++ ((L.linesOf b).drop i).flatten = b := by rw [← List.flatten_append, List.take_append_drop, lines_flat]
  have := congrArg List.length h
  rw [List.length_append] at this
  omega
theorem u8_ten (x : UInt8) : ((x.toNat : Int) = 10) ↔ x = 10 := by
  constructor
  · intro h; exact UInt8.toNat_inj.1 (by show x.toNat = 10; omega)
  · rintro rfl; rfl

set_option maxRecDepth 20000 in
set_option maxHeartbeats 1000000 in
theorem lawBack {H0 : Heap} {vb : Value} {b : List UInt8} (hb : Sl tByte H0 [] vb b) :
    CallsH Try.prog 6 #[vb] H0 (fun v H => v = .bool true ∧ Keep [] H0 H) := by
  refine enter (args := [vb]) Try.call6 Try.func6 rfl Try.ntmps6 (Nat.le_of_ble_eq_true rfl) (fun W0 Q hQ => ?_)
  refine WC.sub (e' := [(0, true, vb)]) ⟨rfl, trivial⟩ ?_
  have K : Keep [] H0 H0 := Keep.refl _ _
  have hM : ∀ i ∈ ([] : List Nat), i < H0.size := fun _ h => by cases h
  refine WC.seq ?_
  refine WC.region ?_
  refine WL.det rfl rfl rfl (V.assign rfl ⟨_, rfl, rfl⟩) ?_
  refine WL.nil ?_
  refine NX.go ?_
  refine WC.sub (e' := [(0, true, _)]) ⟨rfl, trivial⟩ ?_
  refine WC.seq ?_
  refine WC.seq ?_
  refine WC.region ?_
  refine WL.call rfl rfl rfl rfl .nil (begun) ?_
  rintro _ H1 ⟨rfl, k1⟩
  replace K := K.trans k1
  refine WL.det rfl rfl rfl (V.not rfl ⟨_, rfl, rfl⟩) ?_
  refine WL.nil ?_
  refine NX.go ?_
  refine WC.sub (e' := [(0, true, _), (9, true, _)]) ⟨rfl, rfl, trivial⟩ ?_
  refine WC.cond ⟨_, rfl, rfl⟩ (fun hc9 => ?_) (fun hc9 => ?_)
  · -- hc9 true
    try simp only [Bool.and_eq_true, Bool.or_eq_true, Bool.not_eq_true', Bool.not_eq_false', Bool.and_eq_false_iff, Bool.or_eq_false_iff, decide_eq_true_eq, decide_eq_false_iff_not, Int.not_lt, Int.not_le] at hc9
    exact absurd hc9 (by simp)
  · -- hc9 false
    try simp only [Bool.and_eq_true, Bool.or_eq_true, Bool.not_eq_true', Bool.not_eq_false', Bool.and_eq_false_iff, Bool.or_eq_false_iff, decide_eq_true_eq, decide_eq_false_iff_not, Int.not_lt, Int.not_le] at hc9
    refine WC.skip ?_
    refine NX.go ?_
    refine WC.seq ?_
    refine WC.seq ?_
    refine WC.region ?_
    refine WL.det rfl rfl rfl (V.move rfl ⟨_, rfl, rfl⟩) ?_
    refine WL.det rfl rfl rfl (V.len rfl Try.underlying22 ⟨_, rfl, rfl⟩ (hb.at K)) ?_
    refine WL.det rfl rfl rfl (V.gtr rfl ⟨_, rfl, rfl⟩ ⟨_, rfl, rfl⟩) ?_
    refine WL.nil ?_
    refine NX.go ?_
    refine WC.sub (e' := [(0, true, _), (12, true, _)]) ⟨rfl, rfl, trivial⟩ ?_
    refine WC.cond ⟨_, rfl, rfl⟩ (fun hc12 => ?_) (fun hc12 => ?_)
    · -- hc12 true
      try simp only [Bool.and_eq_true, Bool.or_eq_true, Bool.not_eq_true', Bool.not_eq_false', Bool.and_eq_false_iff, Bool.or_eq_false_iff, decide_eq_true_eq, decide_eq_false_iff_not, Int.not_lt, Int.not_le] at hc12
      refine WC.seq ?_
      refine WC.region ?_
      refine WL.det rfl rfl rfl (V.assign rfl ⟨_, rfl, rfl⟩) ?_
      refine WL.nil ?_
      refine NX.go ?_
      refine WC.sub (e' := [(2, true, _)]) ⟨rfl, trivial⟩ ?_
      refine WC.ret ?_
      refine NX.of_ret ?_
      refine ret1 hQ Try.results6 rfl ⟨_, rfl, rfl⟩ ?_
      first
        | exact ⟨rfl, K⟩
        | (obtain rfl : i = (L.linesOf b).length := by omega
           refine ⟨congrArg Value.bool (decide_eq_true ?_), K⟩
           rw [List.take_length, lines_flat])
    · -- hc12 false
      try simp only [Bool.and_eq_true, Bool.or_eq_true, Bool.not_eq_true', Bool.not_eq_false', Bool.and_eq_false_iff, Bool.or_eq_false_iff, decide_eq_true_eq, decide_eq_false_iff_not, Int.not_lt, Int.not_le] at hc12
      refine WC.skip ?_
      refine NX.go ?_
      refine WC.seq ?_
      refine WC.region ?_
      refine WL.det rfl rfl rfl (V.move rfl ⟨_, rfl, rfl⟩) ?_
      refine WL.call rfl rfl rfl rfl (.cons ⟨_, rfl, rfl⟩ .nil) (lines (hb.at K) (fun _ h => by cases h) (by omega)) ?_
      rintro v14 H2 ⟨hL, k2⟩
      replace K := K.trans k2
      refine WL.det rfl rfl rfl (V.assign rfl ⟨_, rfl, rfl⟩) ?_
      refine WL.nil ?_
      refine NX.go ?_
      refine WC.sub (e' := [(0, true, _), (3, true, _)]) ⟨rfl, rfl, trivial⟩ ?_
      refine WC.seq ?_
      refine WC.region ?_
      refine WL.det rfl rfl rfl (V.assign rfl ⟨_, rfl, rfl⟩) ?_
      refine WL.nil ?_
      refine NX.go ?_
      refine WC.sub (e' := [(0, true, _), (3, true, _), (4, true, _)]) ⟨rfl, rfl, rfl, trivial⟩ ?_
      refine WC.seq ?_
      refine WC.seq ?_
      refine WC.region ?_
      refine WL.det rfl rfl rfl (V.assign rfl ⟨_, rfl, rfl⟩) ?_
      refine WL.nil ?_
      refine NX.go ?_
      refine WC.sub (e' := [(0, true, _), (3, true, _), (4, true, _), (5, true, _)]) ⟨rfl, rfl, rfl, rfl, trivial⟩ ?_
      refine WC.block ?_
      refine WC.loop (fun m e H => ∃ (i : Nat) (vl vo : Value), (i ≤ (L.linesOf b).length) ∧ (Sl (tSl tByte) H (ob vo ++ []) vl (L.linesOf b)) ∧ (Own tByte H (ob vo ++ []) 5 vo (((L.linesOf b).take i).flatten)) ∧ (∀ i ∈ ob vo, H0.size ≤ i) ∧ e = [(0, true, vb), (3, true, vl), (4, true, vo), (5, true, iv (i : Nat))] ∧ (L.linesOf b).length - i = m ∧ Keep [] H0 H) (m0 := _) (e0 := _) ⟨0, _, .slice none 0 0, by omega, hL, Own.nil _ _ _ _, fun i hi => by simp [ob] at hi, rfl, rfl, K⟩ ⟨rfl, rfl, rfl, rfl, trivial⟩ ?_
      clear K
      clear hL
      rintro _ _ H3 ⟨i, vl, vo, hi, hL, hO, hob, rfl, rfl, K⟩
      refine WC.seq ?_
      refine WC.seq ?_
      refine WC.region ?_
      refine WL.det rfl rfl rfl (V.move rfl ⟨_, rfl, rfl⟩) ?_
      refine WL.det rfl rfl rfl (V.move rfl ⟨_, rfl, rfl⟩) ?_
      refine WL.det rfl rfl rfl (V.len rfl Try.underlying23 ⟨_, rfl, rfl⟩ hL) ?_
      refine WL.det rfl rfl rfl (V.lss rfl ⟨_, rfl, rfl⟩ ⟨_, rfl, rfl⟩) ?_
      refine WL.nil ?_
      refine NX.go ?_
      refine WC.sub (e' := [(0, true, _), (3, true, _), (4, true, _), (5, true, _), (18, true, _)]) ⟨rfl, rfl, rfl, rfl, rfl, trivial⟩ ?_
      refine WC.cond ⟨_, rfl, rfl⟩ (fun hc18 => ?_) (fun hc18 => ?_)
      · -- hc18 true
        try simp only [Bool.and_eq_true, Bool.or_eq_true, Bool.not_eq_true', Bool.not_eq_false', Bool.and_eq_false_iff, Bool.or_eq_false_iff, decide_eq_true_eq, decide_eq_false_iff_not, Int.not_lt, Int.not_le] at hc18
        replace hc18 : i < (L.linesOf b).length := by omega
        obtain ⟨ok1, ok2, ok3⟩ := line_ok hc18
        have hll := flat_le b (i + 1)
        rw [flat_take hc18, List.length_append] at hll
        refine WC.skip ?_
        refine NX.go ?_
        refine WC.seq ?_
        refine WC.block ?_
        refine WC.seq ?_
        refine WC.region ?_
        refine WL.det rfl rfl rfl (V.move rfl ⟨_, rfl, rfl⟩) ?_
        refine WL.det rfl rfl rfl (V.move rfl ⟨_, rfl, rfl⟩) ?_
        refine WL.ex rfl rfl rfl (X.idx (i := i) rfl Try.underlying23 Try.sizeOf22 hL ⟨_, rfl, rfl⟩ ⟨_, rfl, rfl⟩ rfl (gi (by omega))) (fun v23 h23 => ?_)
        refine WL.ex rfl rfl rfl (X.loadSl rfl Try.isAgg22 Try.sizeOf22 h23 ⟨_, rfl, rfl⟩ (Reach.is _)) (fun v24 h24 => ?_)
        have l24 := h24.len
        refine WL.det rfl rfl rfl (V.len rfl Try.underlying22 ⟨_, rfl, rfl⟩ h24) ?_
        refine WL.det rfl rfl rfl (V.assign rfl ⟨_, rfl, rfl⟩) ?_
        refine WL.nil ?_
        refine NX.go ?_
        refine WC.sub (e' := [(0, true, _), (3, true, _), (4, true, _), (5, true, _), (6, true, _)]) ⟨rfl, rfl, rfl, rfl, rfl, trivial⟩ ?_
        refine WC.seq ?_
        refine WC.seq ?_
        refine WC.region ?_
        refine WL.det rfl rfl rfl (V.move rfl ⟨_, rfl, rfl⟩) ?_
        refine WL.det rfl rfl rfl (V.eql rfl ⟨_, rfl, rfl⟩ ⟨_, rfl, rfl⟩) ?_
        refine WL.det rfl rfl rfl (V.move rfl ⟨_, rfl, rfl⟩) ?_
        refine WL.gdet (Gd.no1 rfl rfl rfl rfl) rfl rfl (fun hg => V.move rfl ⟨_, rfl, rfl⟩) ?_
        refine WL.gdet (Gd.no1 rfl rfl rfl rfl) rfl rfl (fun hg => V.move rfl ⟨_, rfl, rfl⟩) ?_
        refine WL.gdet (Gd.no1 rfl rfl rfl rfl) rfl rfl (fun hg => V.len rfl Try.underlying23 ⟨_, rfl, hg⟩ hL) ?_
        refine WL.gdet (Gd.no1 rfl rfl rfl rfl) rfl rfl (fun hg => V.sub rfl ⟨_, rfl, hg⟩ ⟨_, rfl, rfl⟩ (by have := hL.len; unfold I64; omega)) ?_
        refine WL.gdet (Gd.no1 rfl rfl rfl rfl) rfl rfl (fun hg => V.lss rfl ⟨_, rfl, hg⟩ ⟨_, rfl, hg⟩) ?_
        refine WL.gdet (Gd.no1 rfl rfl rfl rfl) rfl rfl (fun hg => V.move rfl ⟨_, rfl, hg⟩) ?_
        refine WL.gdet (Gd.yes rfl rfl rfl rfl) rfl rfl (fun hg => V.move rfl ⟨_, rfl, rfl⟩) ?_
        refine WL.gdet (Gd.yes rfl rfl rfl rfl) rfl rfl (fun hg => V.move rfl ⟨_, rfl, rfl⟩) ?_
        refine WL.gex (Gd.yes rfl rfl rfl rfl) rfl rfl (fun hg => X.idx (i := i) rfl Try.underlying23 Try.sizeOf22 hL ⟨_, rfl, hg⟩ ⟨_, rfl, hg⟩ rfl (gi (show i < (L.linesOf b).length from hc18))) (fun v37 h37 => ?_)
        refine WL.gex (Gd.yes rfl rfl rfl rfl) rfl rfl (fun hg => X.loadSl rfl Try.isAgg22 Try.sizeOf22 (h37 hg) ⟨_, rfl, hg⟩ (Reach.is _)) (fun v38 h38 => ?_)
        refine WL.gdet (Gd.yes rfl rfl rfl rfl) rfl rfl (fun hg => V.move rfl ⟨_, rfl, rfl⟩) ?_
        refine WL.gdet (Gd.yes rfl rfl rfl rfl) rfl rfl (fun hg => V.sub rfl ⟨_, rfl, hg⟩ ⟨_, rfl, rfl⟩ (by unfold I64; omega)) ?_
        refine WL.gex (Gd.yes rfl rfl rfl rfl) rfl rfl (fun hg => X.idx (i := (L.linesOf b)[i].length - 1) rfl Try.underlying22 Try.sizeOf5 (h38 hg) ⟨_, rfl, hg⟩ ⟨_, rfl, hg⟩ (by omega) (gi (show (L.linesOf b)[i].length - 1 < (L.linesOf b)[i].length by omega))) (fun v41 h41 => ?_)
        refine WL.gdet (Gd.yes rfl rfl rfl rfl) rfl rfl (fun hg => V.loadByte rfl Try.isAgg5 Try.sizeOf5 (h41 hg) ⟨_, rfl, hg⟩ (Reach.is _)) ?_
        refine WL.gdet (Gd.yes rfl rfl rfl rfl) rfl rfl (fun hg => V.neq rfl ⟨_, rfl, hg⟩ ⟨_, rfl, rfl⟩) ?_
        refine WL.gdet (Gd.no1 rfl rfl rfl rfl) rfl rfl (fun hg => V.and rfl ⟨_, rfl, hg⟩ (fun hb => ⟨_, rfl, (gand hg hb)⟩)) ?_
        refine WL.det rfl rfl rfl (V.or rfl ⟨_, rfl, rfl⟩ (fun hb => ⟨_, rfl, (congrArg Bool.not hb)⟩)) ?_
        refine WL.nil ?_
        refine NX.go ?_
        refine WC.sub (e' := [(0, true, _), (3, true, _), (4, true, _), (5, true, _), (6, true, _), (45, true, _)]) ⟨rfl, rfl, rfl, rfl, rfl, rfl, trivial⟩ ?_
        refine WC.cond ⟨_, rfl, rfl⟩ (fun hc45 => ?_) (fun hc45 => ?_)
        · -- hc45 true
          try simp only [Bool.and_eq_true, Bool.or_eq_true, Bool.not_eq_true', Bool.not_eq_false', Bool.and_eq_false_iff, Bool.or_eq_false_iff, decide_eq_true_eq, decide_eq_false_iff_not, Int.not_lt, Int.not_le] at hc45
          exfalso
          rcases hc45 with h | ⟨h1, h2⟩
          · omega
          · exact h2 ((u8_ten _).2 (ok2 (by omega) (by omega)))
        · -- hc45 false
          try simp only [Bool.and_eq_true, Bool.or_eq_true, Bool.not_eq_true', Bool.not_eq_false', Bool.and_eq_false_iff, Bool.or_eq_false_iff, decide_eq_true_eq, decide_eq_false_iff_not, Int.not_lt, Int.not_le] at hc45
          refine WC.skip ?_
          refine NX.go ?_
          refine WC.seq ?_
          refine WC.seq ?_
          refine WC.region ?_
          refine WL.det rfl rfl rfl (V.assign rfl ⟨_, rfl, rfl⟩) ?_
          refine WL.nil ?_
          refine NX.go ?_
          refine WC.sub (e' := [(0, true, _), (3, true, _), (4, true, _), (5, true, _), (6, true, _), (7, true, _)]) ⟨rfl, rfl, rfl, rfl, rfl, rfl, trivial⟩ ?_
          refine WC.block ?_
          refine WC.loop (fun m e H => ∃ (k : Nat), (k + 1 ≤ (L.linesOf b)[i].length) ∧ (Sl (tSl tByte) H (ob vo ++ []) vl (L.linesOf b)) ∧ (Own tByte H (ob vo ++ []) 5 vo (((L.linesOf b).take i).flatten)) ∧ e = [(0, true, vb), (3, true, vl), (4, true, vo), (5, true, iv (i : Nat)), (6, true, iv ((L.linesOf b)[i].length : Nat)), (7, true, iv (k : Nat))] ∧ (L.linesOf b)[i].length - k = m ∧ Keep [] H0 H) (m0 := _) (e0 := _) (by exact ⟨0, by omega, hL, hO, rfl, rfl, K⟩) (by exact ⟨rfl, rfl, rfl, rfl, rfl, rfl, trivial⟩) ?_
          clear K
          clear hL
          clear hO
          rintro _ _ H4 ⟨k, hk, hL, hO, rfl, rfl, K⟩
          refine WC.seq ?_
          refine WC.seq ?_
          refine WC.region ?_
          refine WL.det rfl rfl rfl (V.move rfl ⟨_, rfl, rfl⟩) ?_
          refine WL.det rfl rfl rfl (V.move rfl ⟨_, rfl, rfl⟩) ?_
          refine WL.det rfl rfl rfl (V.sub rfl ⟨_, rfl, rfl⟩ ⟨_, rfl, rfl⟩ (by unfold I64; omega)) ?_
          refine WL.det rfl rfl rfl (V.lss rfl ⟨_, rfl, rfl⟩ ⟨_, rfl, rfl⟩) ?_
          refine WL.nil ?_
          refine NX.go ?_
          refine WC.sub (e' := [(0, true, _), (3, true, _), (4, true, _), (5, true, _), (6, true, _), (7, true, _), (49, true, _)]) ⟨rfl, rfl, rfl, rfl, rfl, rfl, rfl, trivial⟩ ?_
          refine WC.cond ⟨_, rfl, rfl⟩ (fun hc49 => ?_) (fun hc49 => ?_)
          · -- hc49 true
            try simp only [Bool.and_eq_true, Bool.or_eq_true, Bool.not_eq_true', Bool.not_eq_false', Bool.and_eq_false_iff, Bool.or_eq_false_iff, decide_eq_true_eq, decide_eq_false_iff_not, Int.not_lt, Int.not_le] at hc49
            refine WC.skip ?_
            refine NX.go ?_
            refine WC.seq ?_
            refine WC.block ?_
            refine WC.seq ?_
            refine WC.region ?_
            refine WL.det rfl rfl rfl (V.move rfl ⟨_, rfl, rfl⟩) ?_
            refine WL.det rfl rfl rfl (V.move rfl ⟨_, rfl, rfl⟩) ?_
            refine WL.ex rfl rfl rfl (X.idx (i := i) rfl Try.underlying23 Try.sizeOf22 hL ⟨_, rfl, rfl⟩ ⟨_, rfl, rfl⟩ rfl (gi (by omega))) (fun v54 h54 => ?_)
            refine WL.ex rfl rfl rfl (X.loadSl rfl Try.isAgg22 Try.sizeOf22 h54 ⟨_, rfl, rfl⟩ (Reach.is _)) (fun v55 h55 => ?_)
            have l55 := h55.len
            refine WL.det rfl rfl rfl (V.move rfl ⟨_, rfl, rfl⟩) ?_
            refine WL.ex rfl rfl rfl (X.idx (i := k) rfl Try.underlying22 Try.sizeOf5 h55 ⟨_, rfl, rfl⟩ ⟨_, rfl, rfl⟩ rfl (gi (by omega))) (fun v57 h57 => ?_)
            refine WL.det rfl rfl rfl (V.loadByte rfl Try.isAgg5 Try.sizeOf5 h57 ⟨_, rfl, rfl⟩ (Reach.is _)) ?_
            refine WL.det rfl rfl rfl (V.eql rfl ⟨_, rfl, rfl⟩ ⟨_, rfl, rfl⟩) ?_
            refine WL.nil ?_
            refine NX.go ?_
            refine WC.sub (e' := [(0, true, _), (3, true, _), (4, true, _), (5, true, _), (6, true, _), (7, true, _), (59, true, _)]) ⟨rfl, rfl, rfl, rfl, rfl, rfl, rfl, trivial⟩ ?_
            refine WC.cond ⟨_, rfl, rfl⟩ (fun hc59 => ?_) (fun hc59 => ?_)
            · -- hc59 true
              try simp only [Bool.and_eq_true, Bool.or_eq_true, Bool.not_eq_true', Bool.not_eq_false', Bool.and_eq_false_iff, Bool.or_eq_false_iff, decide_eq_true_eq, decide_eq_false_iff_not, Int.not_lt, Int.not_le] at hc59
              exact absurd ((u8_ten _).1 hc59) (ok3 k (by omega))
            · -- hc59 false
              try simp only [Bool.and_eq_true, Bool.or_eq_true, Bool.not_eq_true', Bool.not_eq_false', Bool.and_eq_false_iff, Bool.or_eq_false_iff, decide_eq_true_eq, decide_eq_false_iff_not, Int.not_lt, Int.not_le] at hc59
              refine WC.skip ?_
              refine NX.block_normal ?_
              refine NX.go ?_
              refine WC.region ?_
              refine WL.det rfl rfl rfl (V.move rfl ⟨_, rfl, rfl⟩) ?_
              refine WL.det rfl rfl rfl (V.add rfl ⟨_, rfl, rfl⟩ ⟨_, rfl, rfl⟩ (by unfold I64; omega)) ?_
              refine WL.det rfl rfl rfl (V.assign rfl ⟨_, rfl, rfl⟩) ?_
              refine WL.nil ?_
              exact Head.mk ⟨k + 1, by omega, hL, hO, rfl, rfl, K⟩ ⟨rfl, rfl, rfl, rfl, rfl, rfl, trivial⟩ (by omega)
          · -- hc49 false
            try simp only [Bool.and_eq_true, Bool.or_eq_true, Bool.not_eq_true', Bool.not_eq_false', Bool.and_eq_false_iff, Bool.or_eq_false_iff, decide_eq_true_eq, decide_eq_false_iff_not, Int.not_lt, Int.not_le] at hc49
            refine WC.exit ?_
            refine NX.of_exit ?_
            refine NX.of_exit ?_
            refine NX.block_hit ?_
            refine NX.go ?_
            refine WC.region ?_
            refine WL.det rfl rfl rfl (V.move rfl ⟨_, rfl, rfl⟩) ?_
            refine WL.det rfl rfl rfl (V.move rfl ⟨_, rfl, rfl⟩) ?_
            refine WL.det rfl rfl rfl (V.move rfl ⟨_, rfl, rfl⟩) ?_
            refine WL.ex rfl rfl rfl (X.idx (i := i) rfl Try.underlying23 Try.sizeOf22 hL ⟨_, rfl, rfl⟩ ⟨_, rfl, rfl⟩ rfl (gi (by omega))) (fun v63 h63 => ?_)
            refine WL.ex rfl rfl rfl (X.loadSl rfl Try.isAgg22 Try.sizeOf22 h63 ⟨_, rfl, rfl⟩ (Reach.is _)) (fun v64 h64 => ?_)
            have l64 := h64.len
            refine WL.app (T := tByte) (M := []) rfl rfl rfl rfl Try.underlying22 Try.underlying22 (fun _ h => by cases h) Try.typeInfo5 rfl rfl rfl ⟨_, rfl, rfl⟩ ⟨_, rfl, rfl⟩ hO (Src.sl h64) (by show (_ + _) * 1 ≤ 140737488355328; have h1 := flat_le b (i + 1); rw [flat_take hc18] at h1; rw [List.length_append] at h1; omega) (by decide) (fun v65 H5 hO65 a5 => ?_)
            replace hL := hL.app a5
            have hob65 := a5.new K hob
            replace K := a5.K K hob
            refine WL.det rfl rfl rfl (V.assign rfl ⟨_, rfl, rfl⟩) ?_
            refine WL.nil ?_
            refine NX.block_normal ?_
            refine NX.go ?_
            refine WC.sub (e' := [(0, true, _), (3, true, _), (4, true, _), (5, true, _)]) ⟨rfl, rfl, rfl, rfl, trivial⟩ ?_
            refine WC.region ?_
            refine WL.det rfl rfl rfl (V.move rfl ⟨_, rfl, rfl⟩) ?_
            refine WL.det rfl rfl rfl (V.add rfl ⟨_, rfl, rfl⟩ ⟨_, rfl, rfl⟩ (by have := hL.len; unfold I64; omega)) ?_
            refine WL.det rfl rfl rfl (V.assign rfl ⟨_, rfl, rfl⟩) ?_
            refine WL.nil ?_
            rw [← flat_take hc18] at hO65
            exact Head.mk ⟨i + 1, vl, v65, by omega, hL, hO65, hob65, rfl, rfl, K⟩ ⟨rfl, rfl, rfl, rfl, trivial⟩ (by omega)
      · -- hc18 false
        try simp only [Bool.and_eq_true, Bool.or_eq_true, Bool.not_eq_true', Bool.not_eq_false', Bool.and_eq_false_iff, Bool.or_eq_false_iff, decide_eq_true_eq, decide_eq_false_iff_not, Int.not_lt, Int.not_le] at hc18
        refine WC.exit ?_
        refine NX.of_exit ?_
        refine NX.of_exit ?_
        refine NX.block_hit ?_
        refine NX.go ?_
        refine WC.seq ?_
        refine WC.region ?_
        refine WL.det rfl rfl rfl (V.move rfl ⟨_, rfl, rfl⟩) ?_
        refine WL.det rfl rfl rfl (V.move rfl ⟨_, rfl, rfl⟩) ?_
        refine WL.call rfl rfl rfl rfl (.cons ⟨_, rfl, rfl⟩ (.cons ⟨_, rfl, rfl⟩ .nil)) (sameBytes (hO.give hob hM) ((hb.at K))) ?_
        rintro _ _ ⟨rfl, rfl⟩
        refine WL.det rfl rfl rfl (V.assign rfl ⟨_, rfl, rfl⟩) ?_
        refine WL.nil ?_
        refine NX.go ?_
        refine WC.sub (e' := [(2, true, _)]) ⟨rfl, trivial⟩ ?_
        refine WC.ret ?_
        refine ret1 hQ Try.results6 rfl ⟨_, rfl, rfl⟩ ?_
        first
          | exact ⟨rfl, K⟩
          | (obtain rfl : i = (L.linesOf b).length := by omega
             refine ⟨congrArg Value.bool (decide_eq_true ?_), K⟩
             rw [List.take_length, lines_flat])

end Go.Proofs.Ytkkjjbejkcgmfaa
