/- part -/
import Derived.Test.YtpmjnbidmcnhnaaGreatDoorBytes1
import Derived.Test.YtpmjnbidmcnhnaaGreatDoorLinesTy
set_option linter.unusedVariables false
set_option linter.unusedSimpArgs false
namespace Go.Proofs.YtpmjnbidmcnhnaaGreatDoor
open Go.NB
set_option maxRecDepth 20000
theorem build228 (x y : Int) (w : World) : (Instr.build 228 #[(0, iv x), (1, iv y)]).run Tryz.prog w = .ok (.agg #[iv x, iv y]) w := by kernel_rfl
theorem build175 (x y : Int) (w : World) : (Instr.build 175 #[(0, iv x), (1, iv y)]).run Tryz.prog w = .ok (.agg #[iv x, iv y]) w := by kernel_rfl
set_option maxRecDepth 20000 in
set_option maxHeartbeats 1000000 in
theorem common {H0 : Heap} {M : List Nat} {va vb : Value} {a b : List (List UInt8)} (ha : Sl (tSl tByte) H0 M va a) (hb : Sl (tSl tByte) H0 M vb b) (hM : ∀ i ∈ M, i < H0.size) (hla : a.length ≤ 1000) (hlb : b.length ≤ 1000) :
    CallsH Tryz.prog 168 #[va, vb] H0 (fun u H => Sl tPair H M u (L.pairs a b 0 0) ∧ Keep [] H0 H) := by
  refine enter (args := [va, vb]) Tryz.call168 Tryz.func168 rfl Tryz.ntmps168 (Nat.le_of_ble_eq_true rfl) (fun W0 Q hQ => ?_)
  refine WC.sub (e' := [(0, true, va), (1, true, vb)]) ⟨rfl, rfl, trivial⟩ ?_
  have K : Keep [] H0 H0 := Keep.refl _ _
  refine WC.seq ?_
  refine WC.region ?_
  refine WL.det rfl rfl rfl (V.assign rfl ⟨_, rfl, rfl⟩) ?_
  refine WL.nil ?_
  refine NX.go ?_
  refine WC.sub (e' := [(0, true, _), (1, true, _)]) ⟨rfl, rfl, trivial⟩ ?_
  refine WC.seq ?_
  refine WC.region ?_
  refine WL.det rfl rfl rfl (V.move rfl ⟨_, rfl, rfl⟩) ?_
  refine WL.det rfl rfl rfl (V.len rfl Tryz.underlying142 ⟨_, rfl, rfl⟩ (ha.at K)) ?_
  refine WL.det rfl rfl rfl (V.add rfl ⟨_, rfl, rfl⟩ ⟨_, rfl, rfl⟩ (by unfold I64; omega)) ?_
  refine WL.makeBx (a.length + 1) rfl rfl rfl rfl Tryz.underlying190 Tryz.typeInfo30 rfl rfl rfl (zs := [.slice none 0 0]) rfl (by decide) ⟨_, rfl, rfl⟩ ⟨_, rfl, rfl⟩ (by omega) (by omega) (by show _ * ((24 : Nat) : Int) ≤ _; omega) (by decide) (fun g15 Ha hB15 hn15 kHa => ?_)
  have hG0 : Grid Ha 30 3 g15 (a.length + 1) 0 0 (b.length + 1) (fun _ => 0) (fun _ _ => 0) := ⟨by rw [rowCells_none _ (b.length + 1) (fun _ => 0) 0] at hB15; exact hB15, by omega, fun i h1 h2 => by omega, fun i j h1 h2 => by omega⟩
  replace K := K.trans kHa
  refine WL.det rfl rfl rfl (V.assign rfl ⟨_, rfl, rfl⟩) ?_
  refine WL.nil ?_
  refine NX.go ?_
  refine WC.sub (e' := [(0, true, _), (1, true, _), (5, true, _)]) ⟨rfl, rfl, rfl, trivial⟩ ?_
  refine WC.seq ?_
  refine WC.seq ?_
  refine WC.region ?_
  refine WL.det rfl rfl rfl (V.move rfl ⟨_, rfl, rfl⟩) ?_
  refine WL.det rfl rfl rfl (V.lenRaw rfl Tryz.underlying190 ⟨_, rfl, rfl⟩) ?_
  refine WL.det rfl rfl rfl (V.move rfl ⟨_, rfl, rfl⟩) ?_
  refine WL.nil ?_
  refine NX.go ?_
  refine WC.sub (e' := [(0, true, _), (1, true, _), (5, true, _), (17, true, _), (18, true, _)]) ⟨rfl, rfl, rfl, rfl, rfl, trivial⟩ ?_
  refine WC.block ?_
  refine WC.loop (fun m e H => ∃ (k g : Nat) (B : Nat → Nat), (k ≤ a.length + 1) ∧ (Grid H 30 3 g (a.length + 1) 0 k (b.length + 1) B (fun _ _ => 0)) ∧ (H0.size ≤ g) ∧ (∀ i, i < k → H0.size ≤ B i) ∧ e = [(0, true, va), (1, true, vb), (5, true, .slice (some ⟨g, 0, none⟩) (a.length + 1) (a.length + 1)), (17, true, iv (a.length + 1 : Nat)), (18, true, iv (k : Nat))] ∧ a.length + 1 - k = m ∧ Keep [] H0 H) (m0 := _) (e0 := _) ⟨0, g15, fun _ => 0, by omega, hG0, by omega, fun i h => by omega, rfl, rfl, K⟩ ⟨rfl, rfl, rfl, rfl, rfl, trivial⟩ ?_
  clear K
  rintro _ _ H1 ⟨k, g, B, hk, hG, hg0, hgB, rfl, rfl, K⟩
  refine WC.seq ?_
  refine WC.region ?_
  refine WL.det rfl rfl rfl (V.lss rfl ⟨_, rfl, rfl⟩ ⟨_, rfl, rfl⟩) ?_
  refine WL.nil ?_
  refine NX.go ?_
  refine WC.sub (e' := [(0, true, _), (1, true, _), (5, true, _), (17, true, _), (18, true, _), (19, true, _)]) ⟨rfl, rfl, rfl, rfl, rfl, rfl, trivial⟩ ?_
  refine WC.seq ?_
  refine WC.cond ⟨_, rfl, rfl⟩ (fun hc19 => ?_) (fun hc19 => ?_)
  · -- hc19 true
    try simp only [Bool.and_eq_true, Bool.or_eq_true, Bool.not_eq_true', Bool.not_eq_false', Bool.and_eq_false_iff, Bool.or_eq_false_iff, decide_eq_true_eq, decide_eq_false_iff_not, Int.not_lt, Int.not_le] at hc19
    refine WC.skip ?_
    refine NX.go ?_
    refine WC.seq ?_
    refine WC.block ?_
    refine WC.seq ?_
    refine WC.region ?_
    refine WL.det rfl rfl rfl (V.move rfl ⟨_, rfl, rfl⟩) ?_
    refine WL.det rfl rfl rfl (V.assign rfl ⟨_, rfl, rfl⟩) ?_
    refine WL.nil ?_
    refine NX.go ?_
    refine WC.sub (e' := [(0, true, _), (1, true, _), (5, true, _), (6, true, _), (17, true, _), (18, true, _)]) ⟨rfl, rfl, rfl, rfl, rfl, rfl, trivial⟩ ?_
    refine WC.region ?_
    refine WL.det rfl rfl rfl (V.move rfl ⟨_, rfl, rfl⟩) ?_
    refine WL.det rfl rfl rfl (V.move rfl ⟨_, rfl, rfl⟩) ?_
    refine WL.det rfl rfl rfl (V.move rfl ⟨_, rfl, rfl⟩) ?_
    refine WL.det rfl rfl rfl (V.len rfl Tryz.underlying142 ⟨_, rfl, rfl⟩ (hb.at K)) ?_
    refine WL.det rfl rfl rfl (V.add rfl ⟨_, rfl, rfl⟩ ⟨_, rfl, rfl⟩ (by unfold I64; omega)) ?_
    refine WL.makeBx (b.length + 1) rfl rfl rfl rfl Tryz.underlying30 Tryz.typeInfo3 rfl rfl rfl (zs := [iv 0]) rfl (by decide) ⟨_, rfl, rfl⟩ ⟨_, rfl, rfl⟩ (by omega) (by omega) (by show _ * ((8 : Nat) : Int) ≤ _; omega) (by decide) (fun g26 Hb hB26 hn26 kHb => ?_)
    rw [intCells_zero] at hB26
    refine WL.det rfl rfl rfl (G.idx (i := k) rfl Tryz.underlying190 Tryz.sizeOf30 ⟨_, rfl, rfl⟩ ⟨_, rfl, rfl⟩ rfl (by omega)) ?_
    refine WL.store (vs := [rv (b.length + 1) g26]) (e := 30) (cs := _) rfl rfl rfl ⟨_, rfl, rfl⟩ ⟨_, rfl, rfl⟩ rfl Tryz.sizeOf30 (fun u hu => by simp at hu; subst hu; rfl) (hG.outer.at kHb) (by simp [rowCells] <;> omega) (fun Hc hBo kHc => ?_)
    have hG' := hG.row1 (i := k) (by omega) (by omega) kHb hB26 (by omega) hBo kHc
    have K' := (K.trans kHb).then kHc (fun i hi => by simp at hi; subst hi; exact .inr hg0)
    refine WL.nil ?_
    refine NX.block_normal ?_
    refine NX.go ?_
    refine WC.sub (e' := [(0, true, _), (1, true, _), (5, true, _), (17, true, _), (18, true, _)]) ⟨rfl, rfl, rfl, rfl, rfl, trivial⟩ ?_
    refine WC.region ?_
    refine WL.det rfl rfl rfl (V.add rfl ⟨_, rfl, rfl⟩ ⟨_, rfl, rfl⟩ (by unfold I64; omega)) ?_
    refine WL.det rfl rfl rfl (V.move rfl ⟨_, rfl, rfl⟩) ?_
    refine WL.nil ?_
    have hz : (fun (x y : Nat) => if x = k then (0 : Int) else (fun _ _ => (0 : Int)) x y) = fun _ _ => 0 := by funext x y; simp
    rw [hz] at hG'
    simp only [if_true] at hG'
    refine Head.mk ⟨k + 1, g, _, by omega, hG', hg0, fun i h => ?_, rfl, rfl, K'⟩ ⟨rfl, rfl, rfl, rfl, rfl, trivial⟩ (by omega)
    have := K.1
    by_cases e : i = k
    · simp only [if_pos e]; omega
    · simp only [if_neg e]; exact hgB i (by omega)
  · -- hc19 false
    try simp only [Bool.and_eq_true, Bool.or_eq_true, Bool.not_eq_true', Bool.not_eq_false', Bool.and_eq_false_iff, Bool.or_eq_false_iff, decide_eq_true_eq, decide_eq_false_iff_not, Int.not_lt, Int.not_le] at hc19
    refine WC.exit ?_
    refine NX.of_exit ?_
    refine NX.of_exit ?_
    refine NX.block_hit ?_
    refine NX.go ?_
    refine WC.seq ?_
    refine WC.seq ?_
    refine WC.region ?_
    refine WL.det rfl rfl rfl (V.move rfl ⟨_, rfl, rfl⟩) ?_
    refine WL.det rfl rfl rfl (V.len rfl Tryz.underlying142 ⟨_, rfl, rfl⟩ (ha.at K)) ?_
    refine WL.det rfl rfl rfl (V.sub rfl ⟨_, rfl, rfl⟩ ⟨_, rfl, rfl⟩ (by unfold I64; omega)) ?_
    refine WL.det rfl rfl rfl (V.assign rfl ⟨_, rfl, rfl⟩) ?_
    refine WL.nil ?_
    refine NX.go ?_
    refine WC.sub (e' := [(0, true, _), (1, true, _), (5, true, _), (7, true, _)]) ⟨rfl, rfl, rfl, rfl, trivial⟩ ?_
    refine WC.block ?_
    refine WC.loop (fun m e H => ∃ (q g : Nat) (B : Nat → Nat) (F : Nat → Nat → Int), (q ≤ a.length) ∧ (Grid H 30 3 g (a.length + 1) 0 (a.length + 1) (b.length + 1) B F) ∧ (L.Rows a b q F) ∧ (H0.size ≤ g) ∧ (∀ i, 0 ≤ i → i < a.length + 1 → H0.size ≤ B i) ∧ e = [(0, true, va), (1, true, vb), (5, true, .slice (some ⟨g, 0, none⟩) (a.length + 1) (a.length + 1)), (7, true, iv ((q : Int) - 1))] ∧ q = m ∧ Keep [] H0 H) (m0 := _) (e0 := _) ⟨a.length, g, B, _, by omega, (by rw [show a.length + 1 = k by omega]; rw [show a.length + 1 = k by omega] at hG; exact hG), L.Rows.start a b, hg0, fun i _ h => hgB i (by omega), rfl, rfl, K⟩ ⟨rfl, rfl, rfl, rfl, trivial⟩ ?_
    clear K
    clear hG
    rintro _ _ H2 ⟨q, g, B, F, hq, hG, hF, hg0, hgB, rfl, rfl, K⟩
    refine WC.seq ?_
    refine WC.seq ?_
    refine WC.region ?_
    refine WL.det rfl rfl rfl (V.move rfl ⟨_, rfl, rfl⟩) ?_
    refine WL.det rfl rfl rfl (V.geq rfl ⟨_, rfl, rfl⟩ ⟨_, rfl, rfl⟩) ?_
    refine WL.nil ?_
    refine NX.go ?_
    refine WC.sub (e' := [(0, true, _), (1, true, _), (5, true, _), (7, true, _), (33, true, _)]) ⟨rfl, rfl, rfl, rfl, rfl, trivial⟩ ?_
    refine WC.cond ⟨_, rfl, rfl⟩ (fun hc33 => ?_) (fun hc33 => ?_)
    · -- hc33 true
      try simp only [Bool.and_eq_true, Bool.or_eq_true, Bool.not_eq_true', Bool.not_eq_false', Bool.and_eq_false_iff, Bool.or_eq_false_iff, decide_eq_true_eq, decide_eq_false_iff_not, Int.not_lt, Int.not_le] at hc33
      refine WC.skip ?_
      refine NX.go ?_
      refine WC.seq ?_
      refine WC.block ?_
      refine WC.seq ?_
      refine WC.region ?_
      refine WL.det rfl rfl rfl (V.move rfl ⟨_, rfl, rfl⟩) ?_
      refine WL.det rfl rfl rfl (V.len rfl Tryz.underlying142 ⟨_, rfl, rfl⟩ (hb.at K)) ?_
      refine WL.det rfl rfl rfl (V.sub rfl ⟨_, rfl, rfl⟩ ⟨_, rfl, rfl⟩ (by unfold I64; omega)) ?_
      refine WL.det rfl rfl rfl (V.assign rfl ⟨_, rfl, rfl⟩) ?_
      refine WL.nil ?_
      refine NX.go ?_
      refine WC.sub (e' := [(0, true, _), (1, true, _), (5, true, _), (7, true, _), (8, true, _)]) ⟨rfl, rfl, rfl, rfl, rfl, trivial⟩ ?_
      refine WC.block ?_
      refine WC.loop (fun m e H => ∃ (s : Nat) (F : Nat → Nat → Int), (s ≤ b.length) ∧ (Grid H 30 3 g (a.length + 1) 0 (a.length + 1) (b.length + 1) B F) ∧ (L.RowsTo a b q s F) ∧ e = [(0, true, va), (1, true, vb), (5, true, .slice (some ⟨g, 0, none⟩) (a.length + 1) (a.length + 1)), (7, true, iv ((q : Int) - 1)), (8, true, iv ((s : Int) - 1))] ∧ s = m ∧ Keep [] H0 H) (m0 := _) (e0 := _) ⟨b.length, F, by omega, hG, hF.begin, rfl, rfl, K⟩ ⟨rfl, rfl, rfl, rfl, rfl, trivial⟩ ?_
      clear K
      clear hG
      rintro _ _ H3 ⟨s, F, hs, hG, hF, rfl, rfl, K⟩
      refine WC.seq ?_
      refine WC.seq ?_
      refine WC.region ?_
      refine WL.det rfl rfl rfl (V.move rfl ⟨_, rfl, rfl⟩) ?_
      refine WL.det rfl rfl rfl (V.geq rfl ⟨_, rfl, rfl⟩ ⟨_, rfl, rfl⟩) ?_
      refine WL.nil ?_
      refine NX.go ?_
      refine WC.sub (e' := [(0, true, _), (1, true, _), (5, true, _), (7, true, _), (8, true, _), (40, true, _)]) ⟨rfl, rfl, rfl, rfl, rfl, rfl, trivial⟩ ?_
      refine WC.cond ⟨_, rfl, rfl⟩ (fun hc40 => ?_) (fun hc40 => ?_)
      · -- hc40 true
        try simp only [Bool.and_eq_true, Bool.or_eq_true, Bool.not_eq_true', Bool.not_eq_false', Bool.and_eq_false_iff, Bool.or_eq_false_iff, decide_eq_true_eq, decide_eq_false_iff_not, Int.not_lt, Int.not_le] at hc40
        refine WC.skip ?_
        refine NX.go ?_
        refine WC.seq ?_
        refine WC.block ?_
        refine WC.seq ?_
        refine WC.draw (Is _) rfl (by kernel_rfl) (by kernel_rfl) ?_
        refine QL.det rfl rfl rfl (V.move rfl ⟨_, rfl, rfl⟩) ?_
        refine QL.det rfl rfl rfl (V.move rfl ⟨_, rfl, rfl⟩) ?_
        refine QL.ex rfl rfl rfl (X.idx (i := q - 1) rfl Tryz.underlying142 Tryz.sizeOf41 (ha.at K) ⟨_, rfl, rfl⟩ ⟨_, rfl, rfl⟩ (by omega) (gi (by omega))) (fun v45 h45 => ?_)
        refine QL.ex rfl rfl rfl (X.loadSl rfl Tryz.isAgg41 Tryz.sizeOf41 h45 ⟨_, rfl, rfl⟩ (Reach.is _)) (fun v46 h46 => ?_)
        have l46 := h46.len
        refine QL.det rfl rfl rfl (V.move rfl ⟨_, rfl, rfl⟩) ?_
        refine QL.det rfl rfl rfl (V.move rfl ⟨_, rfl, rfl⟩) ?_
        refine QL.ex rfl rfl rfl (X.idx (i := s - 1) rfl Tryz.underlying142 Tryz.sizeOf41 (hb.at K) ⟨_, rfl, rfl⟩ ⟨_, rfl, rfl⟩ (by omega) (gi (by omega))) (fun v49 h49 => ?_)
        refine QL.ex rfl rfl rfl (X.loadSl rfl Tryz.isAgg41 Tryz.sizeOf41 h49 ⟨_, rfl, rfl⟩ (Reach.is _)) (fun v50 h50 => ?_)
        have l50 := h50.len
        refine QL.call rfl rfl rfl rfl (.cons ⟨_, rfl, rfl⟩ (.cons ⟨_, rfl, rfl⟩ .nil)) (fun _ hS => by cases hS; exact bytesEqual h46 h50) ?_
        refine QL.nil (fun _ hS => ?_)
        cases hS
        refine NX.go ?_
        refine WC.sub (e' := [(0, true, _), (1, true, _), (5, true, _), (7, true, _), (8, true, _), (51, true, _)]) ⟨rfl, rfl, rfl, rfl, rfl, rfl, trivial⟩ ?_
        refine WC.cond ⟨_, rfl, rfl⟩ (fun hc51 => ?_) (fun hc51 => ?_)
        · -- hc51 true
          try simp only [Bool.and_eq_true, Bool.or_eq_true, Bool.not_eq_true', Bool.not_eq_false', Bool.and_eq_false_iff, Bool.or_eq_false_iff, decide_eq_true_eq, decide_eq_false_iff_not, Int.not_lt, Int.not_le] at hc51
          refine WC.tail 16 (by kernel_rfl) (by kernel_rfl) ?_
          simp only [List.take_succ_cons, List.take_zero, List.drop_succ_cons, List.drop_zero]
          refine SL.det rfl rfl rfl (V.move rfl ⟨_, rfl, rfl⟩) ?_
          refine SL.det rfl rfl rfl (V.move rfl ⟨_, rfl, rfl⟩) ?_
          refine SL.det rfl rfl rfl (G.idx (i := q - 1) rfl Tryz.underlying190 Tryz.sizeOf30 ⟨_, rfl, rfl⟩ ⟨_, rfl, rfl⟩ (by omega) (by omega)) ?_
          refine SL.det rfl rfl rfl (G.load rfl Tryz.isAgg30 ⟨_, rfl, rfl⟩ (hG.rowAt (i := q - 1) (by omega) (by omega)) (Reach.is _)) ?_
          refine SL.det rfl rfl rfl (V.move rfl ⟨_, rfl, rfl⟩) ?_
          refine SL.det rfl rfl rfl (V.move rfl ⟨_, rfl, rfl⟩) ?_
          refine SL.det rfl rfl rfl (V.move rfl ⟨_, rfl, rfl⟩) ?_
          refine SL.det rfl rfl rfl (V.add rfl ⟨_, rfl, rfl⟩ ⟨_, rfl, rfl⟩ (by unfold I64; omega)) ?_
          refine SL.det rfl rfl rfl (G.idx (i := q) rfl Tryz.underlying190 Tryz.sizeOf30 ⟨_, rfl, rfl⟩ ⟨_, rfl, rfl⟩ (by omega) (by omega)) ?_
          refine SL.det rfl rfl rfl (G.load rfl Tryz.isAgg30 ⟨_, rfl, rfl⟩ (hG.rowAt (i := q) (by omega) (by omega)) (Reach.is _)) ?_
          refine SL.det rfl rfl rfl (V.move rfl ⟨_, rfl, rfl⟩) ?_
          refine SL.det rfl rfl rfl (V.add rfl ⟨_, rfl, rfl⟩ ⟨_, rfl, rfl⟩ (by unfold I64; omega)) ?_
          refine SL.det rfl rfl rfl (G.idx (i := s) rfl Tryz.underlying30 Tryz.sizeOf3 ⟨_, rfl, rfl⟩ ⟨_, rfl, rfl⟩ (by omega) (by omega)) ?_
          refine SL.det rfl rfl rfl (G.load rfl Tryz.isAgg3 ⟨_, rfl, rfl⟩ (hG.val (i := q) (j := s) (by omega) (by omega) (by omega)) (Reach.is _)) ?_
          refine SL.det rfl rfl rfl (V.add rfl ⟨_, rfl, rfl⟩ ⟨_, rfl, rfl⟩ (by have := hF.i64 (by omega) (i := q) (j := s) (by omega) (by omega); unfold I64; omega)) ?_
          refine SL.det rfl rfl rfl (G.idx (i := s - 1) rfl Tryz.underlying30 Tryz.sizeOf3 ⟨_, rfl, rfl⟩ ⟨_, rfl, rfl⟩ (by omega) (by omega)) ?_
          refine SL.nil ?_
          refine WL.store (vs := [iv (F q s + 1)]) (e := 3) (cs := _) rfl rfl rfl ⟨_, rfl, rfl⟩ ⟨_, rfl, rfl⟩ rfl Tryz.sizeOf3 (fun u hu => by simp at hu; subst hu; rfl) (hG.row (q - 1) (by omega) (by omega)).1 (by simp [intCells] <;> omega) (fun Hd hBo kHd => ?_)
          have hG' := hG.store (i := q - 1) (j := s - 1) (x := F q s + 1) (by omega) (by omega) (by omega) hBo kHd
          have K' := K.then kHd (fun i hi => by simp at hi; subst hi; exact .inr (hgB _ (by omega) (by omega)))
          refine WL.nil ?_
          refine NX.block_normal ?_
          refine NX.go ?_
          refine WC.sub (e' := [(0, true, _), (1, true, _), (5, true, _), (7, true, _), (8, true, _)]) ⟨rfl, rfl, rfl, rfl, rfl, trivial⟩ ?_
          refine WC.region ?_
          refine WL.det rfl rfl rfl (V.move rfl ⟨_, rfl, rfl⟩) ?_
          refine WL.det rfl rfl rfl (V.sub rfl ⟨_, rfl, rfl⟩ ⟨_, rfl, rfl⟩ (by unfold I64; omega)) ?_
          refine WL.det rfl rfl rfl (V.assign rfl ⟨_, rfl, rfl⟩) ?_
          refine WL.nil ?_
          first
            | (have hx : F q s + 1 = (L.lcs (a.drop (q - 1)) (b.drop (s - 1)) : Nat) := by
                 rw [L.lcs_at (i := q - 1) (j := s - 1) (by omega) (by omega), if_pos hc51, hF.get (i := q) (j := s) (by omega) (by omega) (.inl (Nat.le_refl _)), show q - 1 + 1 = q by omega, show s - 1 + 1 = s by omega]
                 rfl
               exact Head.mk ⟨s - 1, _, by omega, hG', hF.set (by omega) (by omega) hx, rfl, rfl, K'⟩ ⟨rfl, rfl, rfl, rfl, congrArg (fun z => some (true, iv z)) (by omega), trivial⟩ (by omega))
            | (have hx : max (F q (s - 1)) (F (q - 1) s) = (L.lcs (a.drop (q - 1)) (b.drop (s - 1)) : Nat) := by
                 rw [L.lcs_at (i := q - 1) (j := s - 1) (by omega) (by omega), if_neg hc51, hF.get (i := q) (j := s - 1) (by omega) (by omega) (.inl (Nat.le_refl _)), hF.get (i := q - 1) (j := s) (by omega) (by omega) (.inr ⟨by omega, Nat.le_refl _⟩), show q - 1 + 1 = q by omega, show s - 1 + 1 = s by omega]
                 omega
               exact Head.mk ⟨s - 1, _, by omega, hG', hF.set (by omega) (by omega) hx, rfl, rfl, K'⟩ ⟨rfl, rfl, rfl, rfl, congrArg (fun z => some (true, iv z)) (by omega), trivial⟩ (by omega))
        · -- hc51 false
          try simp only [Bool.and_eq_true, Bool.or_eq_true, Bool.not_eq_true', Bool.not_eq_false', Bool.and_eq_false_iff, Bool.or_eq_false_iff, decide_eq_true_eq, decide_eq_false_iff_not, Int.not_lt, Int.not_le] at hc51
          refine WC.tail 23 (by kernel_rfl) (by kernel_rfl) ?_
          simp only [List.take_succ_cons, List.take_zero, List.drop_succ_cons, List.drop_zero]
          refine SL.det rfl rfl rfl (V.move rfl ⟨_, rfl, rfl⟩) ?_
          refine SL.det rfl rfl rfl (V.move rfl ⟨_, rfl, rfl⟩) ?_
          refine SL.det rfl rfl rfl (G.idx (i := q - 1) rfl Tryz.underlying190 Tryz.sizeOf30 ⟨_, rfl, rfl⟩ ⟨_, rfl, rfl⟩ (by omega) (by omega)) ?_
          refine SL.det rfl rfl rfl (G.load rfl Tryz.isAgg30 ⟨_, rfl, rfl⟩ (hG.rowAt (i := q - 1) (by omega) (by omega)) (Reach.is _)) ?_
          refine SL.det rfl rfl rfl (V.move rfl ⟨_, rfl, rfl⟩) ?_
          refine SL.det rfl rfl rfl (V.move rfl ⟨_, rfl, rfl⟩) ?_
          refine SL.det rfl rfl rfl (V.move rfl ⟨_, rfl, rfl⟩) ?_
          refine SL.det rfl rfl rfl (V.add rfl ⟨_, rfl, rfl⟩ ⟨_, rfl, rfl⟩ (by unfold I64; omega)) ?_
          refine SL.det rfl rfl rfl (G.idx (i := q) rfl Tryz.underlying190 Tryz.sizeOf30 ⟨_, rfl, rfl⟩ ⟨_, rfl, rfl⟩ (by omega) (by omega)) ?_
          refine SL.det rfl rfl rfl (G.load rfl Tryz.isAgg30 ⟨_, rfl, rfl⟩ (hG.rowAt (i := q) (by omega) (by omega)) (Reach.is _)) ?_
          refine SL.det rfl rfl rfl (V.move rfl ⟨_, rfl, rfl⟩) ?_
          refine SL.det rfl rfl rfl (G.idx (i := s - 1) rfl Tryz.underlying30 Tryz.sizeOf3 ⟨_, rfl, rfl⟩ ⟨_, rfl, rfl⟩ (by omega) (by omega)) ?_
          refine SL.det rfl rfl rfl (G.load rfl Tryz.isAgg3 ⟨_, rfl, rfl⟩ (hG.val (i := q) (j := s - 1) (by omega) (by omega) (by omega)) (Reach.is _)) ?_
          refine SL.det rfl rfl rfl (V.move rfl ⟨_, rfl, rfl⟩) ?_
          refine SL.det rfl rfl rfl (V.move rfl ⟨_, rfl, rfl⟩) ?_
          refine SL.det rfl rfl rfl (G.idx (i := q - 1) rfl Tryz.underlying190 Tryz.sizeOf30 ⟨_, rfl, rfl⟩ ⟨_, rfl, rfl⟩ (by omega) (by omega)) ?_
          refine SL.det rfl rfl rfl (G.load rfl Tryz.isAgg30 ⟨_, rfl, rfl⟩ (hG.rowAt (i := q - 1) (by omega) (by omega)) (Reach.is _)) ?_
          refine SL.det rfl rfl rfl (V.move rfl ⟨_, rfl, rfl⟩) ?_
          refine SL.det rfl rfl rfl (V.add rfl ⟨_, rfl, rfl⟩ ⟨_, rfl, rfl⟩ (by unfold I64; omega)) ?_
          refine SL.det rfl rfl rfl (G.idx (i := s) rfl Tryz.underlying30 Tryz.sizeOf3 ⟨_, rfl, rfl⟩ ⟨_, rfl, rfl⟩ (by omega) (by omega)) ?_
          refine SL.det rfl rfl rfl (G.load rfl Tryz.isAgg3 ⟨_, rfl, rfl⟩ (hG.val (i := q - 1) (j := s) (by omega) (by omega) (by omega)) (Reach.is _)) ?_
          refine SL.det rfl rfl rfl (V.max2 rfl ⟨_, rfl, rfl⟩ ⟨_, rfl, rfl⟩) ?_
          refine SL.det rfl rfl rfl (G.idx (i := s - 1) rfl Tryz.underlying30 Tryz.sizeOf3 ⟨_, rfl, rfl⟩ ⟨_, rfl, rfl⟩ (by omega) (by omega)) ?_
          refine SL.nil ?_
          refine WL.store (vs := [iv (max (F q (s - 1)) (F (q - 1) s))]) (e := 3) (cs := _) rfl rfl rfl ⟨_, rfl, rfl⟩ ⟨_, rfl, rfl⟩ rfl Tryz.sizeOf3 (fun u hu => by simp at hu; subst hu; rfl) (hG.row (q - 1) (by omega) (by omega)).1 (by simp [intCells] <;> omega) (fun Hd hBo kHd => ?_)
          have hG' := hG.store (i := q - 1) (j := s - 1) (x := max (F q (s - 1)) (F (q - 1) s)) (by omega) (by omega) (by omega) hBo kHd
          have K' := K.then kHd (fun i hi => by simp at hi; subst hi; exact .inr (hgB _ (by omega) (by omega)))
          refine WL.nil ?_
          refine NX.block_normal ?_
          refine NX.go ?_
          refine WC.sub (e' := [(0, true, _), (1, true, _), (5, true, _), (7, true, _), (8, true, _)]) ⟨rfl, rfl, rfl, rfl, rfl, trivial⟩ ?_
          refine WC.region ?_
          refine WL.det rfl rfl rfl (V.move rfl ⟨_, rfl, rfl⟩) ?_
          refine WL.det rfl rfl rfl (V.sub rfl ⟨_, rfl, rfl⟩ ⟨_, rfl, rfl⟩ (by unfold I64; omega)) ?_
          refine WL.det rfl rfl rfl (V.assign rfl ⟨_, rfl, rfl⟩) ?_
          refine WL.nil ?_
          first
            | (have hx : F q s + 1 = (L.lcs (a.drop (q - 1)) (b.drop (s - 1)) : Nat) := by
                 rw [L.lcs_at (i := q - 1) (j := s - 1) (by omega) (by omega), if_pos hc51, hF.get (i := q) (j := s) (by omega) (by omega) (.inl (Nat.le_refl _)), show q - 1 + 1 = q by omega, show s - 1 + 1 = s by omega]
                 rfl
               exact Head.mk ⟨s - 1, _, by omega, hG', hF.set (by omega) (by omega) hx, rfl, rfl, K'⟩ ⟨rfl, rfl, rfl, rfl, congrArg (fun z => some (true, iv z)) (by omega), trivial⟩ (by omega))
            | (have hx : max (F q (s - 1)) (F (q - 1) s) = (L.lcs (a.drop (q - 1)) (b.drop (s - 1)) : Nat) := by
                 rw [L.lcs_at (i := q - 1) (j := s - 1) (by omega) (by omega), if_neg hc51, hF.get (i := q) (j := s - 1) (by omega) (by omega) (.inl (Nat.le_refl _)), hF.get (i := q - 1) (j := s) (by omega) (by omega) (.inr ⟨by omega, Nat.le_refl _⟩), show q - 1 + 1 = q by omega, show s - 1 + 1 = s by omega]
                 omega
               exact Head.mk ⟨s - 1, _, by omega, hG', hF.set (by omega) (by omega) hx, rfl, rfl, K'⟩ ⟨rfl, rfl, rfl, rfl, congrArg (fun z => some (true, iv z)) (by omega), trivial⟩ (by omega))
      · -- hc40 false
        try simp only [Bool.and_eq_true, Bool.or_eq_true, Bool.not_eq_true', Bool.not_eq_false', Bool.and_eq_false_iff, Bool.or_eq_false_iff, decide_eq_true_eq, decide_eq_false_iff_not, Int.not_lt, Int.not_le] at hc40
        obtain rfl : s = 0 := by omega
        refine WC.exit ?_
        refine NX.of_exit ?_
        refine NX.of_exit ?_
        refine NX.block_hit ?_
        refine NX.block_normal ?_
        refine NX.go ?_
        refine WC.region ?_
        refine WL.det rfl rfl rfl (V.move rfl ⟨_, rfl, rfl⟩) ?_
        refine WL.det rfl rfl rfl (V.sub rfl ⟨_, rfl, rfl⟩ ⟨_, rfl, rfl⟩ (by unfold I64; omega)) ?_
        refine WL.det rfl rfl rfl (V.assign rfl ⟨_, rfl, rfl⟩) ?_
        refine WL.nil ?_
        exact Head.mk ⟨q - 1, g, B, F, by omega, hG, (by have := hF.done (by omega); exact this), hg0, hgB, rfl, rfl, K⟩ ⟨rfl, rfl, rfl, congrArg (fun z => some (true, iv z)) (by omega), trivial⟩ (by omega)
    · -- hc33 false
      try simp only [Bool.and_eq_true, Bool.or_eq_true, Bool.not_eq_true', Bool.not_eq_false', Bool.and_eq_false_iff, Bool.or_eq_false_iff, decide_eq_true_eq, decide_eq_false_iff_not, Int.not_lt, Int.not_le] at hc33
      obtain rfl : q = 0 := by omega
      have hT := hG.sl (M := M) (by omega) (by omega) (fun i j h1 h2 => by have := hF.i64 (by omega) (i := i) (j := j) (by omega) (by omega); unfold I64; omega) (fun h => by have := hM _ h; omega) (fun i h1 h2 => by have := hM _ h2; have := hgB i (by omega) (by omega); omega)
      rw [L.tab_eq hF] at hT
      refine WC.exit ?_
      refine NX.of_exit ?_
      refine NX.of_exit ?_
      refine NX.block_hit ?_
      refine NX.go ?_
      refine WC.seq ?_
      refine WC.region ?_
      refine WL.det rfl rfl rfl (V.assign rfl ⟨_, rfl, rfl⟩) ?_
      refine WL.nil ?_
      refine NX.go ?_
      refine WC.sub (e' := [(0, true, _), (1, true, _), (5, true, _), (9, true, _)]) ⟨rfl, rfl, rfl, rfl, trivial⟩ ?_
      refine WC.seq ?_
      refine WC.seq ?_
      refine WC.region ?_
      refine WL.det rfl rfl rfl (V.assign rfl ⟨_, rfl, rfl⟩) ?_
      refine WL.det rfl rfl rfl (V.assign rfl ⟨_, rfl, rfl⟩) ?_
      refine WL.nil ?_
      refine NX.go ?_
      refine WC.sub (e' := [(0, true, _), (1, true, _), (5, true, _), (9, true, _), (10, true, _), (11, true, _)]) ⟨rfl, rfl, rfl, rfl, rfl, rfl, trivial⟩ ?_
      refine WC.block ?_
      refine WC.loop (fun m e H => ∃ (i j : Nat) (vt vo : Value) (ps : List (Nat × Nat)), (i ≤ a.length) ∧ (j ≤ b.length) ∧ (Sl (tSl tInt) H (ob vo ++ M) vt (L.tab a b)) ∧ (Own tPair H (ob vo ++ M) 228 vo ps) ∧ (∀ i ∈ ob vo, H0.size ≤ i) ∧ (L.pairs a b 0 0 = ps ++ L.pairs (a.drop i) (b.drop j) i j) ∧ (ps.length ≤ i) ∧ e = [(0, true, va), (1, true, vb), (5, true, vt), (9, true, vo), (10, true, iv (i : Nat)), (11, true, iv (j : Nat))] ∧ (a.length - i) + (b.length - j) = m ∧ Keep [] H0 H) (m0 := _) (e0 := _) ⟨0, 0, _, .slice none 0 0, [], by omega, by omega, hT, Own.nil _ _ _ _, fun i hi => by simp [ob] at hi, by simp, by simp, rfl, rfl, K⟩ ⟨rfl, rfl, rfl, rfl, rfl, rfl, trivial⟩ ?_
      clear K
      clear hG
      rintro _ _ H3 ⟨i, j, vt, vo, ps, hi, hj, hT, hO, hob, hps, hpl, rfl, rfl, K⟩
      refine WC.seq ?_
      refine WC.seq ?_
      refine WC.region ?_
      refine WL.det rfl rfl rfl (V.move rfl ⟨_, rfl, rfl⟩) ?_
      refine WL.det rfl rfl rfl (V.move rfl ⟨_, rfl, rfl⟩) ?_
      refine WL.det rfl rfl rfl (V.len rfl Tryz.underlying142 ⟨_, rfl, rfl⟩ (ha.at K)) ?_
      refine WL.det rfl rfl rfl (V.lss rfl ⟨_, rfl, rfl⟩ ⟨_, rfl, rfl⟩) ?_
      refine WL.det rfl rfl rfl (V.move rfl ⟨_, rfl, rfl⟩) ?_
      refine WL.gdet (Gd.yes1 rfl rfl rfl rfl) rfl rfl (fun hg => V.move rfl ⟨_, rfl, rfl⟩) ?_
      refine WL.gdet (Gd.yes1 rfl rfl rfl rfl) rfl rfl (fun hg => V.move rfl ⟨_, rfl, rfl⟩) ?_
      refine WL.gdet (Gd.yes1 rfl rfl rfl rfl) rfl rfl (fun hg => V.len rfl Tryz.underlying142 ⟨_, rfl, hg⟩ (hb.at K)) ?_
      refine WL.gdet (Gd.yes1 rfl rfl rfl rfl) rfl rfl (fun hg => V.lss rfl ⟨_, rfl, hg⟩ ⟨_, rfl, hg⟩) ?_
      refine WL.det rfl rfl rfl (V.and rfl ⟨_, rfl, rfl⟩ (fun hb => ⟨_, rfl, hb⟩)) ?_
      refine WL.nil ?_
      refine NX.go ?_
      refine WC.sub (e' := [(0, true, _), (1, true, _), (5, true, _), (9, true, _), (10, true, _), (11, true, _), (100, true, _)]) ⟨rfl, rfl, rfl, rfl, rfl, rfl, rfl, trivial⟩ ?_
      refine WC.cond ⟨_, rfl, rfl⟩ (fun hc100 => ?_) (fun hc100 => ?_)
      · -- hc100 true
        try simp only [Bool.and_eq_true, Bool.or_eq_true, Bool.not_eq_true', Bool.not_eq_false', Bool.and_eq_false_iff, Bool.or_eq_false_iff, decide_eq_true_eq, decide_eq_false_iff_not, Int.not_lt, Int.not_le] at hc100
        refine WC.skip ?_
        refine NX.go ?_
        refine WC.block ?_
        refine WC.block ?_
        refine WC.seq ?_
        refine WC.draw (Is _) rfl (by kernel_rfl) (by kernel_rfl) ?_
        refine QL.det rfl rfl rfl (V.move rfl ⟨_, rfl, rfl⟩) ?_
        refine QL.det rfl rfl rfl (V.move rfl ⟨_, rfl, rfl⟩) ?_
        refine QL.ex rfl rfl rfl (X.idx rfl Tryz.underlying142 Tryz.sizeOf41 (ha.at K) ⟨_, rfl, rfl⟩ ⟨_, rfl, rfl⟩ rfl (gi (by omega))) (fun v106 h106 => ?_)
        refine QL.ex rfl rfl rfl (X.loadSl rfl Tryz.isAgg41 Tryz.sizeOf41 h106 ⟨_, rfl, rfl⟩ (Reach.is _)) (fun v107 h107 => ?_)
        have l107 := h107.len
        refine QL.det rfl rfl rfl (V.move rfl ⟨_, rfl, rfl⟩) ?_
        refine QL.det rfl rfl rfl (V.move rfl ⟨_, rfl, rfl⟩) ?_
        refine QL.ex rfl rfl rfl (X.idx rfl Tryz.underlying142 Tryz.sizeOf41 (hb.at K) ⟨_, rfl, rfl⟩ ⟨_, rfl, rfl⟩ rfl (gi (by omega))) (fun v110 h110 => ?_)
        refine QL.ex rfl rfl rfl (X.loadSl rfl Tryz.isAgg41 Tryz.sizeOf41 h110 ⟨_, rfl, rfl⟩ (Reach.is _)) (fun v111 h111 => ?_)
        have l111 := h111.len
        refine QL.call rfl rfl rfl rfl (.cons ⟨_, rfl, rfl⟩ (.cons ⟨_, rfl, rfl⟩ .nil)) (fun _ hS => by cases hS; exact bytesEqual h107 h111) ?_
        refine QL.det rfl rfl rfl (V.assign rfl ⟨_, rfl, rfl⟩) ?_
        refine QL.nil (fun _ hS => ?_)
        cases hS
        refine NX.go ?_
        refine WC.sub (e' := [(0, true, _), (1, true, _), (5, true, _), (9, true, _), (10, true, _), (11, true, _), (103, true, _)]) ⟨rfl, rfl, rfl, rfl, rfl, rfl, rfl, trivial⟩ ?_
        refine WC.cond ⟨_, rfl, rfl⟩ (fun hc103 => ?_) (fun hc103 => ?_)
        · -- hc103 true
          try simp only [Bool.and_eq_true, Bool.or_eq_true, Bool.not_eq_true', Bool.not_eq_false', Bool.and_eq_false_iff, Bool.or_eq_false_iff, decide_eq_true_eq, decide_eq_false_iff_not, Int.not_lt, Int.not_le] at hc103
          refine WC.seq ?_
          refine WC.region ?_
          refine WL.det rfl rfl rfl (V.move rfl ⟨_, rfl, rfl⟩) ?_
          refine WL.det rfl rfl rfl (V.move rfl ⟨_, rfl, rfl⟩) ?_
          refine WL.det rfl rfl rfl (V.move rfl ⟨_, rfl, rfl⟩) ?_
          refine WL.det rfl rfl rfl (V.build (vs := [(0, iv i), (1, iv j)]) rfl (fun a hf => by simp [hf.eval (x := .tmp 114) ⟨_, rfl, rfl⟩, hf.eval (x := .tmp 115) ⟨_, rfl, rfl⟩]) (build228 i j)) ?_
          refine WL.app1 (T := tPair) (M := M) rfl rfl rfl rfl rfl rfl rfl rfl Tryz.underlying215 Tryz.typeInfo228 rfl rfl rfl (by decide) ⟨_, rfl, rfl⟩ (show tPair.V _ _ _ ((i : Nat), (j : Nat)) from ⟨_, ⟨rfl, by constructor <;> (simp only []; omega)⟩, rfl⟩) (fun _ => ⟨_, rfl, rfl⟩) hO (by show (_ + 1) * 16 ≤ 140737488355328; omega) (by decide) (fun v118 H4 tmp4 hO118 a4 => ?_)
          replace hT := hT.app a4
          have hob118 := a4.new K hob
          replace K := a4.K K hob
          refine WL.det rfl rfl rfl (V.assign rfl ⟨_, rfl, rfl⟩) ?_
          refine WL.nil ?_
          refine NX.go ?_
          refine WC.sub (e' := [(0, true, _), (1, true, _), (5, true, _), (9, true, _), (10, true, _), (11, true, _)]) ⟨rfl, rfl, rfl, rfl, rfl, rfl, trivial⟩ ?_
          refine WC.region ?_
          refine WL.det rfl rfl rfl (V.move rfl ⟨_, rfl, rfl⟩) ?_
          refine WL.det rfl rfl rfl (V.add rfl ⟨_, rfl, rfl⟩ ⟨_, rfl, rfl⟩ (by unfold I64; omega)) ?_
          refine WL.det rfl rfl rfl (V.move rfl ⟨_, rfl, rfl⟩) ?_
          refine WL.det rfl rfl rfl (V.add rfl ⟨_, rfl, rfl⟩ ⟨_, rfl, rfl⟩ (by unfold I64; omega)) ?_
          refine WL.det rfl rfl rfl (V.assign rfl ⟨_, rfl, rfl⟩) ?_
          refine WL.det rfl rfl rfl (V.assign rfl ⟨_, rfl, rfl⟩) ?_
          refine WL.nil ?_
          refine NX.block_normal ?_
          refine NX.block_normal ?_
          have hpa := L.pairs_at (a := a) (b := b) (i := i) (j := j) (by omega) (by omega)
          first
            | (rw [if_pos hc103] at hpa
               exact Head.mk ⟨i + 1, j + 1, vt, v118, ps ++ [(i, j)], by omega, by omega, hT, hO118, hob118, by rw [hps, hpa]; simp, by simp; omega, rfl, rfl, K⟩ ⟨rfl, rfl, rfl, rfl, rfl, rfl, trivial⟩ (by omega))
            | (rw [if_neg hc103, if_pos (by omega)] at hpa
               exact Head.mk ⟨i + 1, j, vt, vo, ps, by omega, by omega, hT, hO, hob, by rw [hps, hpa], by omega, rfl, rfl, K⟩ ⟨rfl, rfl, rfl, rfl, rfl, rfl, trivial⟩ (by omega))
            | (rw [if_neg hc103, if_neg (by omega)] at hpa
               exact Head.mk ⟨i, j + 1, vt, vo, ps, by omega, by omega, hT, hO, hob, by rw [hps, hpa], by omega, rfl, rfl, K⟩ ⟨rfl, rfl, rfl, rfl, rfl, rfl, trivial⟩ (by omega))
        · -- hc103 false
          try simp only [Bool.and_eq_true, Bool.or_eq_true, Bool.not_eq_true', Bool.not_eq_false', Bool.and_eq_false_iff, Bool.or_eq_false_iff, decide_eq_true_eq, decide_eq_false_iff_not, Int.not_lt, Int.not_le] at hc103
          refine WC.seq ?_
          refine WC.draw (Is _) rfl (by kernel_rfl) (by kernel_rfl) ?_
          refine QL.det rfl rfl rfl (V.move rfl ⟨_, rfl, rfl⟩) ?_
          refine QL.det rfl rfl rfl (V.move rfl ⟨_, rfl, rfl⟩) ?_
          refine QL.det rfl rfl rfl (V.add rfl ⟨_, rfl, rfl⟩ ⟨_, rfl, rfl⟩ (by unfold I64; omega)) ?_
          refine QL.ex rfl rfl rfl (X.idx (i := i + 1) rfl Tryz.underlying190 Tryz.sizeOf30 hT ⟨_, rfl, rfl⟩ ⟨_, rfl, rfl⟩ rfl (L.tab_get (by omega))) (fun v127 h127 => ?_)
          refine QL.ex rfl rfl rfl (X.loadSl rfl Tryz.isAgg30 Tryz.sizeOf30 h127 ⟨_, rfl, rfl⟩ (Reach.is _)) (fun v128 h128 => ?_)
          have l128 := h128.len
          refine QL.det rfl rfl rfl (V.move rfl ⟨_, rfl, rfl⟩) ?_
          refine QL.ex rfl rfl rfl (X.idx (i := j) rfl Tryz.underlying30 Tryz.sizeOf3 h128 ⟨_, rfl, rfl⟩ ⟨_, rfl, rfl⟩ rfl (L.tabRow_get (by omega))) (fun v130 h130 => ?_)
          refine QL.det rfl rfl rfl (V.loadInt rfl Tryz.isAgg3 Tryz.sizeOf3 h130 ⟨_, rfl, rfl⟩ (Reach.is _)) ?_
          refine QL.det rfl rfl rfl (V.move rfl ⟨_, rfl, rfl⟩) ?_
          refine QL.det rfl rfl rfl (V.move rfl ⟨_, rfl, rfl⟩) ?_
          refine QL.ex rfl rfl rfl (X.idx (i := i) rfl Tryz.underlying190 Tryz.sizeOf30 hT ⟨_, rfl, rfl⟩ ⟨_, rfl, rfl⟩ rfl (L.tab_get (by omega))) (fun v134 h134 => ?_)
          refine QL.ex rfl rfl rfl (X.loadSl rfl Tryz.isAgg30 Tryz.sizeOf30 h134 ⟨_, rfl, rfl⟩ (Reach.is _)) (fun v135 h135 => ?_)
          have l135 := h135.len
          refine QL.det rfl rfl rfl (V.move rfl ⟨_, rfl, rfl⟩) ?_
          refine QL.det rfl rfl rfl (V.add rfl ⟨_, rfl, rfl⟩ ⟨_, rfl, rfl⟩ (by unfold I64; omega)) ?_
          refine QL.ex rfl rfl rfl (X.idx (i := j + 1) rfl Tryz.underlying30 Tryz.sizeOf3 h135 ⟨_, rfl, rfl⟩ ⟨_, rfl, rfl⟩ rfl (L.tabRow_get (by omega))) (fun v138 h138 => ?_)
          refine QL.det rfl rfl rfl (V.loadInt rfl Tryz.isAgg3 Tryz.sizeOf3 h138 ⟨_, rfl, rfl⟩ (Reach.is _)) ?_
          refine QL.det rfl rfl rfl (V.geq rfl ⟨_, rfl, rfl⟩ ⟨_, rfl, rfl⟩) ?_
          refine QL.det rfl rfl rfl (V.assign rfl ⟨_, rfl, rfl⟩) ?_
          refine QL.nil (fun _ hS => ?_)
          cases hS
          refine NX.go ?_
          refine WC.sub (e' := [(0, true, _), (1, true, _), (5, true, _), (9, true, _), (10, true, _), (11, true, _), (123, true, _)]) ⟨rfl, rfl, rfl, rfl, rfl, rfl, rfl, trivial⟩ ?_
          refine WC.cond ⟨_, rfl, rfl⟩ (fun hc123 => ?_) (fun hc123 => ?_)
          · -- hc123 true
            try simp only [Bool.and_eq_true, Bool.or_eq_true, Bool.not_eq_true', Bool.not_eq_false', Bool.and_eq_false_iff, Bool.or_eq_false_iff, decide_eq_true_eq, decide_eq_false_iff_not, Int.not_lt, Int.not_le] at hc123
            refine WC.region ?_
            refine WL.det rfl rfl rfl (V.move rfl ⟨_, rfl, rfl⟩) ?_
            refine WL.det rfl rfl rfl (V.add rfl ⟨_, rfl, rfl⟩ ⟨_, rfl, rfl⟩ (by unfold I64; omega)) ?_
            refine WL.det rfl rfl rfl (V.assign rfl ⟨_, rfl, rfl⟩) ?_
            refine WL.nil ?_
            refine NX.block_normal ?_
            refine NX.block_normal ?_
            have hpa := L.pairs_at (a := a) (b := b) (i := i) (j := j) (by omega) (by omega)
            first
              | (rw [if_pos hc103] at hpa
                 exact Head.mk ⟨i + 1, j + 1, vt, v118, ps ++ [(i, j)], by omega, by omega, hT, hO118, hob118, by rw [hps, hpa]; simp, by simp; omega, rfl, rfl, K⟩ ⟨rfl, rfl, rfl, rfl, rfl, rfl, trivial⟩ (by omega))
              | (rw [if_neg hc103, if_pos (by omega)] at hpa
                 exact Head.mk ⟨i + 1, j, vt, vo, ps, by omega, by omega, hT, hO, hob, by rw [hps, hpa], by omega, rfl, rfl, K⟩ ⟨rfl, rfl, rfl, rfl, rfl, rfl, trivial⟩ (by omega))
              | (rw [if_neg hc103, if_neg (by omega)] at hpa
                 exact Head.mk ⟨i, j + 1, vt, vo, ps, by omega, by omega, hT, hO, hob, by rw [hps, hpa], by omega, rfl, rfl, K⟩ ⟨rfl, rfl, rfl, rfl, rfl, rfl, trivial⟩ (by omega))
          · -- hc123 false
            try simp only [Bool.and_eq_true, Bool.or_eq_true, Bool.not_eq_true', Bool.not_eq_false', Bool.and_eq_false_iff, Bool.or_eq_false_iff, decide_eq_true_eq, decide_eq_false_iff_not, Int.not_lt, Int.not_le] at hc123
            refine WC.region ?_
            refine WL.det rfl rfl rfl (V.move rfl ⟨_, rfl, rfl⟩) ?_
            refine WL.det rfl rfl rfl (V.add rfl ⟨_, rfl, rfl⟩ ⟨_, rfl, rfl⟩ (by unfold I64; omega)) ?_
            refine WL.det rfl rfl rfl (V.assign rfl ⟨_, rfl, rfl⟩) ?_
            refine WL.nil ?_
            refine NX.block_normal ?_
            refine NX.block_normal ?_
            have hpa := L.pairs_at (a := a) (b := b) (i := i) (j := j) (by omega) (by omega)
            first
              | (rw [if_pos hc103] at hpa
                 exact Head.mk ⟨i + 1, j + 1, vt, v118, ps ++ [(i, j)], by omega, by omega, hT, hO118, hob118, by rw [hps, hpa]; simp, by simp; omega, rfl, rfl, K⟩ ⟨rfl, rfl, rfl, rfl, rfl, rfl, trivial⟩ (by omega))
              | (rw [if_neg hc103, if_pos (by omega)] at hpa
                 exact Head.mk ⟨i + 1, j, vt, vo, ps, by omega, by omega, hT, hO, hob, by rw [hps, hpa], by omega, rfl, rfl, K⟩ ⟨rfl, rfl, rfl, rfl, rfl, rfl, trivial⟩ (by omega))
              | (rw [if_neg hc103, if_neg (by omega)] at hpa
                 exact Head.mk ⟨i, j + 1, vt, vo, ps, by omega, by omega, hT, hO, hob, by rw [hps, hpa], by omega, rfl, rfl, K⟩ ⟨rfl, rfl, rfl, rfl, rfl, rfl, trivial⟩ (by omega))
      · -- hc100 false
        try simp only [Bool.and_eq_true, Bool.or_eq_true, Bool.not_eq_true', Bool.not_eq_false', Bool.and_eq_false_iff, Bool.or_eq_false_iff, decide_eq_true_eq, decide_eq_false_iff_not, Int.not_lt, Int.not_le] at hc100
        refine WC.exit ?_
        refine NX.of_exit ?_
        refine NX.of_exit ?_
        refine NX.block_hit ?_
        refine NX.go ?_
        refine WC.seq ?_
        refine WC.region ?_
        refine WL.det rfl rfl rfl (V.move rfl ⟨_, rfl, rfl⟩) ?_
        refine WL.det rfl rfl rfl (V.assign rfl ⟨_, rfl, rfl⟩) ?_
        refine WL.nil ?_
        refine NX.go ?_
        refine WC.sub (e' := [(4, true, _)]) ⟨rfl, trivial⟩ ?_
        refine WC.ret ?_
        refine ret1 hQ Tryz.results168 rfl ⟨_, rfl, rfl⟩ ?_
        have he : L.pairs (a.drop i) (b.drop j) i j = [] := by
          rcases hc100 with h | h
          · rw [List.drop_of_length_le (by omega), L.pairs_nil]
          · rw [List.drop_of_length_le (show b.length ≤ j by omega), L.pairs_nil']
        rw [he, List.append_nil] at hps
        rw [hps]
        exact ⟨hO.give hob hM, K⟩
end Go.Proofs.YtpmjnbidmcnhnaaGreatDoor
