/- part -/
import Derived.Test.YtpmjnbidmcnhnaaGreatDoorCommon1
set_option linter.unusedVariables false
set_option linter.unusedSimpArgs false
namespace Go.Proofs.YtpmjnbidmcnhnaaGreatDoor
open Go.NB
set_option maxRecDepth 20000
theorem rows_same {a b : List (List UInt8)} {q : Nat} {F : Nat → Nat → Int} (h : L.Rows a b q F) (hq : 0 < q) : L.Rows a b q (fun i j => if i = q - 1 then 0 else F i j) := fun i j hi hj => by
  show (if i = q - 1 then 0 else F i j) = _
  by_cases e : i = q - 1
  · rw [if_pos e, if_neg (by omega)]; rfl
  · rw [if_neg e]; exact h i j hi hj
set_option maxRecDepth 20000 in
set_option maxHeartbeats 1000000 in
theorem counts {H0 : Heap} {M : List Nat} {va vb : Value} {a b : List (List UInt8)} (ha : Sl (tSl tByte) H0 M va a) (hb : Sl (tSl tByte) H0 M vb b) (hM : ∀ i ∈ M, i < H0.size) (hla : a.length ≤ 1000) (hlb : b.length ≤ 1000) :
    CallsH Tryz.prog 150 #[va, vb] H0 (fun u H => Sl (tSl tInt) H M u (L.tab a b) ∧ Keep [] H0 H) := by
  refine enter (args := [va, vb]) Tryz.call150 Tryz.func150 rfl Tryz.ntmps150 (Nat.le_of_ble_eq_true rfl) (fun W0 Q hQ => ?_)
  refine WC.sub (e' := [(0, true, va), (1, true, vb)]) ⟨rfl, rfl, trivial⟩ ?_
  have K : Keep [] H0 H0 := Keep.refl _ _
  refine WC.seq ?_
  refine WC.region ?_
  refine WL.det rfl rfl rfl (V.assign rfl ⟨_, rfl, rfl⟩) ?_
  refine WL.nil ?_
  refine NX.go ?_
  refine WC.sub (e' := [(0, true, _), (1, true, _)]) ⟨rfl, rfl, trivial⟩ ?_
  refine WC.seq ?_
  refine WC.region ?_
  refine WL.det rfl rfl rfl (V.move rfl ⟨_, rfl, rfl⟩) ?_
  refine WL.det rfl rfl rfl (V.len rfl Tryz.underlying142 ⟨_, rfl, rfl⟩ (ha.at K)) ?_
  refine WL.det rfl rfl rfl (V.add rfl ⟨_, rfl, rfl⟩ ⟨_, rfl, rfl⟩ (by unfold I64; omega)) ?_
  refine WL.makeBx (a.length + 1) rfl rfl rfl rfl Tryz.underlying190 Tryz.typeInfo30 rfl rfl rfl (zs := [.slice none 0 0]) rfl (by decide) ⟨_, rfl, rfl⟩ ⟨_, rfl, rfl⟩ (by omega) (by omega) (by show _ * ((24 : Nat) : Int) ≤ _; omega) (by decide) (fun g12 Ha hB12 hn12 kHa => ?_)
  have hG : Grid Ha 30 3 g12 (a.length + 1) (a.length + 1) (a.length + 1) (b.length + 1) (fun _ => 0) (fun _ _ => 0) := ⟨by rw [rowCells_none _ (b.length + 1) (fun _ => 0) (a.length + 1)] at hB12; exact hB12, by omega, fun i h1 h2 => by omega, fun i j h1 h2 => by omega⟩
  replace K := K.trans kHa
  have hg0 : H0.size ≤ g12 := by omega
  refine WL.det rfl rfl rfl (V.assign rfl ⟨_, rfl, rfl⟩) ?_
  refine WL.nil ?_
  refine NX.go ?_
  refine WC.sub (e' := [(0, true, _), (1, true, _), (5, true, _)]) ⟨rfl, rfl, rfl, trivial⟩ ?_
  refine WC.seq ?_
  refine WC.region ?_
  refine WL.det rfl rfl rfl (V.move rfl ⟨_, rfl, rfl⟩) ?_
  refine WL.det rfl rfl rfl (V.move rfl ⟨_, rfl, rfl⟩) ?_
  refine WL.det rfl rfl rfl (V.len rfl Tryz.underlying142 ⟨_, rfl, rfl⟩ (ha.at K)) ?_
  refine WL.det rfl rfl rfl (V.move rfl ⟨_, rfl, rfl⟩) ?_
  refine WL.det rfl rfl rfl (V.len rfl Tryz.underlying142 ⟨_, rfl, rfl⟩ (hb.at K)) ?_
  refine WL.det rfl rfl rfl (V.add rfl ⟨_, rfl, rfl⟩ ⟨_, rfl, rfl⟩ (by unfold I64; omega)) ?_
  refine WL.makeBx (b.length + 1) rfl rfl rfl rfl Tryz.underlying30 Tryz.typeInfo3 rfl rfl rfl (zs := [iv 0]) rfl (by decide) ⟨_, rfl, rfl⟩ ⟨_, rfl, rfl⟩ (by omega) (by omega) (by show _ * ((8 : Nat) : Int) ≤ _; omega) (by decide) (fun g19 Hb hB19 hn19 kHb => ?_)
  rw [intCells_zero] at hB19
  refine WL.det rfl rfl rfl (G.idx (i := a.length) rfl Tryz.underlying190 Tryz.sizeOf30 ⟨_, rfl, rfl⟩ ⟨_, rfl, rfl⟩ rfl (by omega)) ?_
  refine WL.store (vs := [rv (b.length + 1) g19]) (e := 30) (cs := _) rfl rfl rfl ⟨_, rfl, rfl⟩ ⟨_, rfl, rfl⟩ rfl Tryz.sizeOf30 (fun u hu => by simp at hu; subst hu; rfl) (hG.outer.at kHb) (by simp [rowCells] <;> omega) (fun Hc hBo kHc => ?_)
  have hG' := hG.row1 (i := a.length) (by omega) (by omega) kHb hB19 (by omega) hBo kHc
  have K' := (K.trans kHb).then kHc (fun i hi => by simp at hi; subst hi; exact .inr hg0)
  rw [if_neg (by omega), if_neg (by omega)] at hG'
  have hz : (fun (x y : Nat) => if x = a.length then (0 : Int) else (fun _ _ => (0 : Int)) x y) = fun _ _ => 0 := by funext x y; simp
  rw [hz] at hG'
  replace hG := hG'
  replace K := K'
  refine WL.nil ?_
  refine NX.go ?_
  refine WC.sub (e' := [(0, true, _), (1, true, _), (5, true, _)]) ⟨rfl, rfl, rfl, trivial⟩ ?_
  refine WC.seq ?_
  refine WC.seq ?_
  refine WC.region ?_
  refine WL.det rfl rfl rfl (V.move rfl ⟨_, rfl, rfl⟩) ?_
  refine WL.det rfl rfl rfl (V.len rfl Tryz.underlying142 ⟨_, rfl, rfl⟩ (ha.at K)) ?_
  refine WL.det rfl rfl rfl (V.sub rfl ⟨_, rfl, rfl⟩ ⟨_, rfl, rfl⟩ (by unfold I64; omega)) ?_
  refine WL.det rfl rfl rfl (V.assign rfl ⟨_, rfl, rfl⟩) ?_
  refine WL.nil ?_
  refine NX.go ?_
  refine WC.sub (e' := [(0, true, _), (1, true, _), (5, true, _), (6, true, _)]) ⟨rfl, rfl, rfl, rfl, trivial⟩ ?_
  refine WC.block ?_
  refine WC.loop (fun m e H => ∃ (q g : Nat) (B : Nat → Nat) (F : Nat → Nat → Int), (q ≤ a.length) ∧ (Grid H 30 3 g (a.length + 1) q (a.length + 1) (b.length + 1) B F) ∧ (L.Rows a b q F) ∧ (H0.size ≤ g) ∧ (∀ i, q ≤ i → i < a.length + 1 → H0.size ≤ B i) ∧ e = [(0, true, va), (1, true, vb), (5, true, .slice (some ⟨g, 0, none⟩) (a.length + 1) (a.length + 1)), (6, true, iv ((q : Int) - 1))] ∧ q = m ∧ Keep [] H0 H) (m0 := _) (e0 := _) ⟨a.length, g12, _, _, by omega, hG, L.Rows.start a b, hg0, fun i h1 h2 => by (have e : i = a.length := by omega); subst e; simp only [if_true]; have := kHa.1; first | omega | skip, rfl, rfl, K⟩ ⟨rfl, rfl, rfl, rfl, trivial⟩ ?_
  clear K
  rintro _ _ H1 ⟨q, g, B, F, hq, hG, hF, hg0, hgB, rfl, rfl, K⟩
  refine WC.seq ?_
  refine WC.seq ?_
  refine WC.region ?_
  refine WL.det rfl rfl rfl (V.move rfl ⟨_, rfl, rfl⟩) ?_
  refine WL.det rfl rfl rfl (V.geq rfl ⟨_, rfl, rfl⟩ ⟨_, rfl, rfl⟩) ?_
  refine WL.nil ?_
  refine NX.go ?_
  refine WC.sub (e' := [(0, true, _), (1, true, _), (5, true, _), (6, true, _), (25, true, _)]) ⟨rfl, rfl, rfl, rfl, rfl, trivial⟩ ?_
  refine WC.cond ⟨_, rfl, rfl⟩ (fun hc25 => ?_) (fun hc25 => ?_)
  · -- hc25 true
    try simp only [Bool.and_eq_true, Bool.or_eq_true, Bool.not_eq_true', Bool.not_eq_false', Bool.and_eq_false_iff, Bool.or_eq_false_iff, decide_eq_true_eq, decide_eq_false_iff_not, Int.not_lt, Int.not_le] at hc25
    refine WC.skip ?_
    refine NX.go ?_
    refine WC.seq ?_
    refine WC.block ?_
    refine WC.seq ?_
    refine WC.region ?_
    refine WL.det rfl rfl rfl (V.move rfl ⟨_, rfl, rfl⟩) ?_
    refine WL.det rfl rfl rfl (V.move rfl ⟨_, rfl, rfl⟩) ?_
    refine WL.det rfl rfl rfl (V.move rfl ⟨_, rfl, rfl⟩) ?_
    refine WL.det rfl rfl rfl (V.len rfl Tryz.underlying142 ⟨_, rfl, rfl⟩ (hb.at K)) ?_
    refine WL.det rfl rfl rfl (V.add rfl ⟨_, rfl, rfl⟩ ⟨_, rfl, rfl⟩ (by unfold I64; omega)) ?_
    refine WL.makeBx (b.length + 1) rfl rfl rfl rfl Tryz.underlying30 Tryz.typeInfo3 rfl rfl rfl (zs := [iv 0]) rfl (by decide) ⟨_, rfl, rfl⟩ ⟨_, rfl, rfl⟩ (by omega) (by omega) (by show _ * ((8 : Nat) : Int) ≤ _; omega) (by decide) (fun g33 Hb hB33 hn33 kHb => ?_)
    rw [intCells_zero] at hB33
    refine WL.det rfl rfl rfl (G.idx (i := q - 1) rfl Tryz.underlying190 Tryz.sizeOf30 ⟨_, rfl, rfl⟩ ⟨_, rfl, rfl⟩ (by omega) (by omega)) ?_
    refine WL.store (vs := [rv (b.length + 1) g33]) (e := 30) (cs := _) rfl rfl rfl ⟨_, rfl, rfl⟩ ⟨_, rfl, rfl⟩ rfl Tryz.sizeOf30 (fun u hu => by simp at hu; subst hu; rfl) (hG.outer.at kHb) (by simp [rowCells] <;> omega) (fun Hc hBo kHc => ?_)
    have hG' := hG.row1 (i := q - 1) (by omega) (by omega) kHb hB33 (by omega) hBo kHc
    have K' := (K.trans kHb).then kHc (fun i hi => by simp at hi; subst hi; exact .inr hg0)
    rw [if_neg (by omega), if_neg (by omega)] at hG'
    replace hG := hG'
    have hgB' : ∀ i, q - 1 ≤ i → i < a.length + 1 → H0.size ≤ (fun k => if k = q - 1 then g33 else B k) i := fun i h1 h2 => by
      have := K.1
      show H0.size ≤ (if i = q - 1 then g33 else B i)
      split
      · omega
      · exact hgB i (by omega) h2
    have hF1 := rows_same hF (by omega)
    replace K := K'
    refine WL.nil ?_
    refine NX.go ?_
    refine WC.sub (e' := [(0, true, _), (1, true, _), (5, true, _), (6, true, _)]) ⟨rfl, rfl, rfl, rfl, trivial⟩ ?_
    refine WC.seq ?_
    refine WC.region ?_
    refine WL.det rfl rfl rfl (V.move rfl ⟨_, rfl, rfl⟩) ?_
    refine WL.det rfl rfl rfl (V.len rfl Tryz.underlying142 ⟨_, rfl, rfl⟩ (hb.at K)) ?_
    refine WL.det rfl rfl rfl (V.sub rfl ⟨_, rfl, rfl⟩ ⟨_, rfl, rfl⟩ (by unfold I64; omega)) ?_
    refine WL.det rfl rfl rfl (V.assign rfl ⟨_, rfl, rfl⟩) ?_
    refine WL.nil ?_
    refine NX.go ?_
    refine WC.sub (e' := [(0, true, _), (1, true, _), (5, true, _), (6, true, _), (7, true, _)]) ⟨rfl, rfl, rfl, rfl, rfl, trivial⟩ ?_
    refine WC.block ?_
    refine WC.loop (fun m e H => ∃ (s : Nat) (B : Nat → Nat) (F : Nat → Nat → Int), (s ≤ b.length) ∧ (Grid H 30 3 g (a.length + 1) (q - 1) (a.length + 1) (b.length + 1) B F) ∧ (L.RowsTo a b q s F) ∧ (∀ i, q - 1 ≤ i → i < a.length + 1 → H0.size ≤ B i) ∧ e = [(0, true, va), (1, true, vb), (5, true, .slice (some ⟨g, 0, none⟩) (a.length + 1) (a.length + 1)), (6, true, iv ((q : Int) - 1)), (7, true, iv ((s : Int) - 1))] ∧ s = m ∧ Keep [] H0 H) (m0 := _) (e0 := _) ⟨b.length, _, _, by omega, hG, hF1.begin, hgB', rfl, rfl, K⟩ ⟨rfl, rfl, rfl, rfl, rfl, trivial⟩ ?_
    clear K
    clear hG
    rintro _ _ H2 ⟨s, B, F, hs, hG, hF, hgB, rfl, rfl, K⟩
    refine WC.seq ?_
    refine WC.seq ?_
    refine WC.region ?_
    refine WL.det rfl rfl rfl (V.move rfl ⟨_, rfl, rfl⟩) ?_
    refine WL.det rfl rfl rfl (V.geq rfl ⟨_, rfl, rfl⟩ ⟨_, rfl, rfl⟩) ?_
    refine WL.nil ?_
    refine NX.go ?_
    refine WC.sub (e' := [(0, true, _), (1, true, _), (5, true, _), (6, true, _), (7, true, _), (39, true, _)]) ⟨rfl, rfl, rfl, rfl, rfl, rfl, trivial⟩ ?_
    refine WC.cond ⟨_, rfl, rfl⟩ (fun hc39 => ?_) (fun hc39 => ?_)
    · -- hc39 true
      try simp only [Bool.and_eq_true, Bool.or_eq_true, Bool.not_eq_true', Bool.not_eq_false', Bool.and_eq_false_iff, Bool.or_eq_false_iff, decide_eq_true_eq, decide_eq_false_iff_not, Int.not_lt, Int.not_le] at hc39
      refine WC.skip ?_
      refine NX.go ?_
      refine WC.seq ?_
      refine WC.block ?_
      refine WC.seq ?_
      refine WC.region ?_
      refine WL.det rfl rfl rfl (V.move rfl ⟨_, rfl, rfl⟩) ?_
      refine WL.det rfl rfl rfl (V.move rfl ⟨_, rfl, rfl⟩) ?_
      refine WL.det rfl rfl rfl (V.add rfl ⟨_, rfl, rfl⟩ ⟨_, rfl, rfl⟩ (by unfold I64; omega)) ?_
      refine WL.det rfl rfl rfl (G.idx (i := q) rfl Tryz.underlying190 Tryz.sizeOf30 ⟨_, rfl, rfl⟩ ⟨_, rfl, rfl⟩ (by omega) (by omega)) ?_
      refine WL.det rfl rfl rfl (G.load rfl Tryz.isAgg30 ⟨_, rfl, rfl⟩ (hG.rowAt (i := q) (by omega) (by omega)) (Reach.is _)) ?_
      refine WL.det rfl rfl rfl (V.move rfl ⟨_, rfl, rfl⟩) ?_
      refine WL.det rfl rfl rfl (G.idx (i := s - 1) rfl Tryz.underlying30 Tryz.sizeOf3 ⟨_, rfl, rfl⟩ ⟨_, rfl, rfl⟩ (by omega) (by omega)) ?_
      refine WL.det rfl rfl rfl (G.load rfl Tryz.isAgg3 ⟨_, rfl, rfl⟩ (hG.val (i := q) (j := s - 1) (by omega) (by omega) (by omega)) (Reach.is _)) ?_
      refine WL.det rfl rfl rfl (V.assign rfl ⟨_, rfl, rfl⟩) ?_
      refine WL.nil ?_
      refine NX.go ?_
      refine WC.sub (e' := [(0, true, _), (1, true, _), (5, true, _), (6, true, _), (7, true, _), (8, true, _)]) ⟨rfl, rfl, rfl, rfl, rfl, rfl, trivial⟩ ?_
      refine WC.seq ?_
      refine WC.seq ?_
      refine WC.region ?_
      refine WL.det rfl rfl rfl (V.move rfl ⟨_, rfl, rfl⟩) ?_
      refine WL.det rfl rfl rfl (V.move rfl ⟨_, rfl, rfl⟩) ?_
      refine WL.det rfl rfl rfl (G.idx (i := q - 1) rfl Tryz.underlying190 Tryz.sizeOf30 ⟨_, rfl, rfl⟩ ⟨_, rfl, rfl⟩ (by omega) (by omega)) ?_
      refine WL.det rfl rfl rfl (G.load rfl Tryz.isAgg30 ⟨_, rfl, rfl⟩ (hG.rowAt (i := q - 1) (by omega) (by omega)) (Reach.is _)) ?_
      refine WL.det rfl rfl rfl (V.move rfl ⟨_, rfl, rfl⟩) ?_
      refine WL.det rfl rfl rfl (V.add rfl ⟨_, rfl, rfl⟩ ⟨_, rfl, rfl⟩ (by unfold I64; omega)) ?_
      refine WL.det rfl rfl rfl (G.idx (i := s) rfl Tryz.underlying30 Tryz.sizeOf3 ⟨_, rfl, rfl⟩ ⟨_, rfl, rfl⟩ (by omega) (by omega)) ?_
      refine WL.det rfl rfl rfl (G.load rfl Tryz.isAgg3 ⟨_, rfl, rfl⟩ (hG.val (i := q - 1) (j := s) (by omega) (by omega) (by omega)) (Reach.is _)) ?_
      refine WL.det rfl rfl rfl (V.move rfl ⟨_, rfl, rfl⟩) ?_
      refine WL.det rfl rfl rfl (V.gtr rfl ⟨_, rfl, rfl⟩ ⟨_, rfl, rfl⟩) ?_
      refine WL.nil ?_
      refine NX.go ?_
      refine WC.sub (e' := [(0, true, _), (1, true, _), (5, true, _), (6, true, _), (7, true, _), (8, true, _), (59, true, _)]) ⟨rfl, rfl, rfl, rfl, rfl, rfl, rfl, trivial⟩ ?_
      refine WC.cond ⟨_, rfl, rfl⟩ (fun hc59 => ?_) (fun hc59 => ?_)
      · -- hc59 true
        try simp only [Bool.and_eq_true, Bool.or_eq_true, Bool.not_eq_true', Bool.not_eq_false', Bool.and_eq_false_iff, Bool.or_eq_false_iff, decide_eq_true_eq, decide_eq_false_iff_not, Int.not_lt, Int.not_le] at hc59
        refine WC.region ?_
        refine WL.det rfl rfl rfl (V.move rfl ⟨_, rfl, rfl⟩) ?_
        refine WL.det rfl rfl rfl (V.move rfl ⟨_, rfl, rfl⟩) ?_
        refine WL.det rfl rfl rfl (G.idx (i := q - 1) rfl Tryz.underlying190 Tryz.sizeOf30 ⟨_, rfl, rfl⟩ ⟨_, rfl, rfl⟩ (by omega) (by omega)) ?_
        refine WL.det rfl rfl rfl (G.load rfl Tryz.isAgg30 ⟨_, rfl, rfl⟩ (hG.rowAt (i := q - 1) (by omega) (by omega)) (Reach.is _)) ?_
        refine WL.det rfl rfl rfl (V.move rfl ⟨_, rfl, rfl⟩) ?_
        refine WL.det rfl rfl rfl (V.add rfl ⟨_, rfl, rfl⟩ ⟨_, rfl, rfl⟩ (by unfold I64; omega)) ?_
        refine WL.det rfl rfl rfl (G.idx (i := s) rfl Tryz.underlying30 Tryz.sizeOf3 ⟨_, rfl, rfl⟩ ⟨_, rfl, rfl⟩ (by omega) (by omega)) ?_
        refine WL.det rfl rfl rfl (G.load rfl Tryz.isAgg3 ⟨_, rfl, rfl⟩ (hG.val (i := q - 1) (j := s) (by omega) (by omega) (by omega)) (Reach.is _)) ?_
        refine WL.det rfl rfl rfl (V.assign rfl ⟨_, rfl, rfl⟩) ?_
        refine WL.nil ?_
        refine NX.go ?_
        refine WC.sub (e' := [(0, true, _), (1, true, _), (5, true, _), (6, true, _), (7, true, _), (8, true, _)]) ⟨rfl, rfl, rfl, rfl, rfl, rfl, trivial⟩ ?_
        refine WC.seq ?_
        refine WC.seq ?_
        refine WC.draw (Is _) rfl (by kernel_rfl) (by kernel_rfl) ?_
        refine QL.det rfl rfl rfl (V.move rfl ⟨_, rfl, rfl⟩) ?_
        refine QL.det rfl rfl rfl (V.move rfl ⟨_, rfl, rfl⟩) ?_
        refine QL.ex rfl rfl rfl (X.idx (i := q - 1) rfl Tryz.underlying142 Tryz.sizeOf41 (ha.at K) ⟨_, rfl, rfl⟩ ⟨_, rfl, rfl⟩ (by omega) (gi (by omega))) (fun v70 h70 => ?_)
        refine QL.ex rfl rfl rfl (X.loadSl rfl Tryz.isAgg41 Tryz.sizeOf41 h70 ⟨_, rfl, rfl⟩ (Reach.is _)) (fun v71 h71 => ?_)
        have l71 := h71.len
        refine QL.det rfl rfl rfl (V.move rfl ⟨_, rfl, rfl⟩) ?_
        refine QL.det rfl rfl rfl (V.move rfl ⟨_, rfl, rfl⟩) ?_
        refine QL.ex rfl rfl rfl (X.idx (i := s - 1) rfl Tryz.underlying142 Tryz.sizeOf41 (hb.at K) ⟨_, rfl, rfl⟩ ⟨_, rfl, rfl⟩ (by omega) (gi (by omega))) (fun v74 h74 => ?_)
        refine QL.ex rfl rfl rfl (X.loadSl rfl Tryz.isAgg41 Tryz.sizeOf41 h74 ⟨_, rfl, rfl⟩ (Reach.is _)) (fun v75 h75 => ?_)
        have l75 := h75.len
        refine QL.call rfl rfl rfl rfl (.cons ⟨_, rfl, rfl⟩ (.cons ⟨_, rfl, rfl⟩ .nil)) (fun _ hS => by cases hS; exact sameBytes h71 h75) ?_
        refine QL.det rfl rfl rfl (V.move rfl ⟨_, rfl, rfl⟩) ?_
        refine QL.gdet (Gd.yes1 rfl rfl rfl rfl) rfl rfl (fun hg => V.move rfl ⟨_, rfl, rfl⟩) ?_
        refine QL.gdet (Gd.yes1 rfl rfl rfl rfl) rfl rfl (fun hg => V.move rfl ⟨_, rfl, rfl⟩) ?_
        refine QL.gdet (Gd.yes1 rfl rfl rfl rfl) rfl rfl (fun hg => V.add rfl ⟨_, rfl, hg⟩ ⟨_, rfl, rfl⟩ (by unfold I64; omega)) ?_
        refine QL.gdet (Gd.yes1 rfl rfl rfl rfl) rfl rfl (fun hg => G.idx (i := q) rfl Tryz.underlying190 Tryz.sizeOf30 ⟨_, rfl, hg⟩ ⟨_, rfl, hg⟩ (by omega) (by omega)) ?_
        refine QL.gdet (Gd.yes1 rfl rfl rfl rfl) rfl rfl (fun hg => G.load rfl Tryz.isAgg30 ⟨_, rfl, hg⟩ (hG.rowAt (i := q) (by omega) (by omega)) (Reach.is _)) ?_
        refine QL.gdet (Gd.yes1 rfl rfl rfl rfl) rfl rfl (fun hg => V.move rfl ⟨_, rfl, rfl⟩) ?_
        refine QL.gdet (Gd.yes1 rfl rfl rfl rfl) rfl rfl (fun hg => V.add rfl ⟨_, rfl, hg⟩ ⟨_, rfl, rfl⟩ (by unfold I64; omega)) ?_
        refine QL.gdet (Gd.yes1 rfl rfl rfl rfl) rfl rfl (fun hg => G.idx (i := s) rfl Tryz.underlying30 Tryz.sizeOf3 ⟨_, rfl, hg⟩ ⟨_, rfl, hg⟩ (by omega) (by omega)) ?_
        refine QL.gdet (Gd.yes1 rfl rfl rfl rfl) rfl rfl (fun hg => G.load rfl Tryz.isAgg3 ⟨_, rfl, hg⟩ (hG.val (i := q) (j := s) (by omega) (by omega) (by omega)) (Reach.is _)) ?_
        refine QL.gdet (Gd.yes1 rfl rfl rfl rfl) rfl rfl (fun hg => V.add rfl ⟨_, rfl, hg⟩ ⟨_, rfl, rfl⟩ (by have := hF.i64 (by omega) (i := q) (j := s) (by omega) (by omega); unfold I64; omega)) ?_
        refine QL.gdet (Gd.yes1 rfl rfl rfl rfl) rfl rfl (fun hg => V.move rfl ⟨_, rfl, rfl⟩) ?_
        refine QL.gdet (Gd.yes1 rfl rfl rfl rfl) rfl rfl (fun hg => V.gtr rfl ⟨_, rfl, hg⟩ ⟨_, rfl, hg⟩) ?_
        refine QL.det rfl rfl rfl (V.and rfl ⟨_, rfl, rfl⟩ (fun hb => ⟨_, rfl, hb⟩)) ?_
        refine QL.nil (fun _ hS => ?_)
        cases hS
        refine NX.go ?_
        refine WC.sub (e' := [(0, true, _), (1, true, _), (5, true, _), (6, true, _), (7, true, _), (8, true, _), (90, true, _)]) ⟨rfl, rfl, rfl, rfl, rfl, rfl, rfl, trivial⟩ ?_
        refine WC.cond ⟨_, rfl, rfl⟩ (fun hc90 => ?_) (fun hc90 => ?_)
        · -- hc90 true
          try simp only [Bool.and_eq_true, Bool.or_eq_true, Bool.not_eq_true', Bool.not_eq_false', Bool.and_eq_false_iff, Bool.or_eq_false_iff, decide_eq_true_eq, decide_eq_false_iff_not, Int.not_lt, Int.not_le] at hc90
          refine WC.region ?_
          refine WL.det rfl rfl rfl (V.move rfl ⟨_, rfl, rfl⟩) ?_
          refine WL.det rfl rfl rfl (V.move rfl ⟨_, rfl, rfl⟩) ?_
          refine WL.det rfl rfl rfl (V.add rfl ⟨_, rfl, rfl⟩ ⟨_, rfl, rfl⟩ (by unfold I64; omega)) ?_
          refine WL.det rfl rfl rfl (G.idx (i := q) rfl Tryz.underlying190 Tryz.sizeOf30 ⟨_, rfl, rfl⟩ ⟨_, rfl, rfl⟩ (by omega) (by omega)) ?_
          refine WL.det rfl rfl rfl (G.load rfl Tryz.isAgg30 ⟨_, rfl, rfl⟩ (hG.rowAt (i := q) (by omega) (by omega)) (Reach.is _)) ?_
          refine WL.det rfl rfl rfl (V.move rfl ⟨_, rfl, rfl⟩) ?_
          refine WL.det rfl rfl rfl (V.add rfl ⟨_, rfl, rfl⟩ ⟨_, rfl, rfl⟩ (by unfold I64; omega)) ?_
          refine WL.det rfl rfl rfl (G.idx (i := s) rfl Tryz.underlying30 Tryz.sizeOf3 ⟨_, rfl, rfl⟩ ⟨_, rfl, rfl⟩ (by omega) (by omega)) ?_
          refine WL.det rfl rfl rfl (G.load rfl Tryz.isAgg3 ⟨_, rfl, rfl⟩ (hG.val (i := q) (j := s) (by omega) (by omega) (by omega)) (Reach.is _)) ?_
          refine WL.det rfl rfl rfl (V.add rfl ⟨_, rfl, rfl⟩ ⟨_, rfl, rfl⟩ (by have := hF.i64 (by omega) (i := q) (j := s) (by omega) (by omega); unfold I64; omega)) ?_
          refine WL.det rfl rfl rfl (V.assign rfl ⟨_, rfl, rfl⟩) ?_
          refine WL.nil ?_
          refine NX.go ?_
          refine WC.sub (e' := [(0, true, _), (1, true, _), (5, true, _), (6, true, _), (7, true, _), (8, true, _)]) ⟨rfl, rfl, rfl, rfl, rfl, rfl, trivial⟩ ?_
          refine WC.region ?_
          refine WL.det rfl rfl rfl (V.move rfl ⟨_, rfl, rfl⟩) ?_
          refine WL.det rfl rfl rfl (V.move rfl ⟨_, rfl, rfl⟩) ?_
          refine WL.det rfl rfl rfl (G.idx (i := q - 1) rfl Tryz.underlying190 Tryz.sizeOf30 ⟨_, rfl, rfl⟩ ⟨_, rfl, rfl⟩ (by omega) (by omega)) ?_
          refine WL.det rfl rfl rfl (G.load rfl Tryz.isAgg30 ⟨_, rfl, rfl⟩ (hG.rowAt (i := q - 1) (by omega) (by omega)) (Reach.is _)) ?_
          refine WL.det rfl rfl rfl (V.move rfl ⟨_, rfl, rfl⟩) ?_
          refine WL.det rfl rfl rfl (V.move rfl ⟨_, rfl, rfl⟩) ?_
          refine WL.det rfl rfl rfl (G.idx (i := s - 1) rfl Tryz.underlying30 Tryz.sizeOf3 ⟨_, rfl, rfl⟩ ⟨_, rfl, rfl⟩ (by omega) (by omega)) ?_
          refine WL.store (vs := [_]) (e := 3) (cs := _) rfl rfl rfl ⟨_, rfl, rfl⟩ ⟨_, rfl, rfl⟩ rfl Tryz.sizeOf3 (fun u hu => by simp at hu; subst hu; rfl) (hG.row (q - 1) (by omega) (by omega)).1 (by simp [intCells] <;> omega) (fun Hd hBo kHd => ?_)
          have hG' := hG.store (i := q - 1) (j := s - 1) (x := _) (by omega) (by omega) (by omega) hBo kHd
          have K' := K.then kHd (fun i hi => by simp at hi; subst hi; exact .inr (hgB _ (by omega) (by omega)))
          refine WL.nil ?_
          refine NX.block_normal ?_
          refine NX.go ?_
          refine WC.sub (e' := [(0, true, _), (1, true, _), (5, true, _), (6, true, _), (7, true, _)]) ⟨rfl, rfl, rfl, rfl, rfl, trivial⟩ ?_
          refine WC.region ?_
          refine WL.det rfl rfl rfl (V.move rfl ⟨_, rfl, rfl⟩) ?_
          refine WL.det rfl rfl rfl (V.sub rfl ⟨_, rfl, rfl⟩ ⟨_, rfl, rfl⟩ (by unfold I64; omega)) ?_
          refine WL.det rfl rfl rfl (V.assign rfl ⟨_, rfl, rfl⟩) ?_
          refine WL.nil ?_
          have e1 := hF.get (i := q) (j := s) (by omega) (by omega) (.inl (Nat.le_refl _))
          have e2 := hF.get (i := q) (j := s - 1) (by omega) (by omega) (.inl (Nat.le_refl _))
          have e3 := hF.get (i := q - 1) (j := s) (by omega) (by omega) (.inr ⟨by omega, Nat.le_refl _⟩)
          have hl := L.lcs_at_ref (a := a) (b := b) (i := q - 1) (j := s - 1) (by omega) (by omega)
          rw [show q - 1 + 1 = q by omega, show s - 1 + 1 = s by omega] at hl
          refine Head.mk ⟨s - 1, B, _, by omega, hG', hF.set (by omega) (by omega) ?_, hgB, rfl, rfl, K'⟩ ⟨rfl, rfl, rfl, rfl, congrArg (fun z => some (true, iv z)) (by omega), trivial⟩ (by omega)
          rw [hl]
          first
            | (rw [if_pos ⟨hc90.1, by omega⟩]; omega)
            | (rw [if_neg (fun h => by
                 rcases hc90 with h1 | h1
                 · exact h1 h.1
                 · have := h.2; omega)]; omega)
        · -- hc90 false
          try simp only [Bool.and_eq_true, Bool.or_eq_true, Bool.not_eq_true', Bool.not_eq_false', Bool.and_eq_false_iff, Bool.or_eq_false_iff, decide_eq_true_eq, decide_eq_false_iff_not, Int.not_lt, Int.not_le] at hc90
          refine WC.skip ?_
          refine NX.go ?_
          refine WC.region ?_
          refine WL.det rfl rfl rfl (V.move rfl ⟨_, rfl, rfl⟩) ?_
          refine WL.det rfl rfl rfl (V.move rfl ⟨_, rfl, rfl⟩) ?_
          refine WL.det rfl rfl rfl (G.idx (i := q - 1) rfl Tryz.underlying190 Tryz.sizeOf30 ⟨_, rfl, rfl⟩ ⟨_, rfl, rfl⟩ (by omega) (by omega)) ?_
          refine WL.det rfl rfl rfl (G.load rfl Tryz.isAgg30 ⟨_, rfl, rfl⟩ (hG.rowAt (i := q - 1) (by omega) (by omega)) (Reach.is _)) ?_
          refine WL.det rfl rfl rfl (V.move rfl ⟨_, rfl, rfl⟩) ?_
          refine WL.det rfl rfl rfl (V.move rfl ⟨_, rfl, rfl⟩) ?_
          refine WL.det rfl rfl rfl (G.idx (i := s - 1) rfl Tryz.underlying30 Tryz.sizeOf3 ⟨_, rfl, rfl⟩ ⟨_, rfl, rfl⟩ (by omega) (by omega)) ?_
          refine WL.store (vs := [_]) (e := 3) (cs := _) rfl rfl rfl ⟨_, rfl, rfl⟩ ⟨_, rfl, rfl⟩ rfl Tryz.sizeOf3 (fun u hu => by simp at hu; subst hu; rfl) (hG.row (q - 1) (by omega) (by omega)).1 (by simp [intCells] <;> omega) (fun Hd hBo kHd => ?_)
          have hG' := hG.store (i := q - 1) (j := s - 1) (x := _) (by omega) (by omega) (by omega) hBo kHd
          have K' := K.then kHd (fun i hi => by simp at hi; subst hi; exact .inr (hgB _ (by omega) (by omega)))
          refine WL.nil ?_
          refine NX.block_normal ?_
          refine NX.go ?_
          refine WC.sub (e' := [(0, true, _), (1, true, _), (5, true, _), (6, true, _), (7, true, _)]) ⟨rfl, rfl, rfl, rfl, rfl, trivial⟩ ?_
          refine WC.region ?_
          refine WL.det rfl rfl rfl (V.move rfl ⟨_, rfl, rfl⟩) ?_
          refine WL.det rfl rfl rfl (V.sub rfl ⟨_, rfl, rfl⟩ ⟨_, rfl, rfl⟩ (by unfold I64; omega)) ?_
          refine WL.det rfl rfl rfl (V.assign rfl ⟨_, rfl, rfl⟩) ?_
          refine WL.nil ?_
          have e1 := hF.get (i := q) (j := s) (by omega) (by omega) (.inl (Nat.le_refl _))
          have e2 := hF.get (i := q) (j := s - 1) (by omega) (by omega) (.inl (Nat.le_refl _))
          have e3 := hF.get (i := q - 1) (j := s) (by omega) (by omega) (.inr ⟨by omega, Nat.le_refl _⟩)
          have hl := L.lcs_at_ref (a := a) (b := b) (i := q - 1) (j := s - 1) (by omega) (by omega)
          rw [show q - 1 + 1 = q by omega, show s - 1 + 1 = s by omega] at hl
          refine Head.mk ⟨s - 1, B, _, by omega, hG', hF.set (by omega) (by omega) ?_, hgB, rfl, rfl, K'⟩ ⟨rfl, rfl, rfl, rfl, congrArg (fun z => some (true, iv z)) (by omega), trivial⟩ (by omega)
          rw [hl]
          first
            | (rw [if_pos ⟨hc90.1, by omega⟩]; omega)
            | (rw [if_neg (fun h => by
                 rcases hc90 with h1 | h1
                 · exact h1 h.1
                 · have := h.2; omega)]; omega)
      · -- hc59 false
        try simp only [Bool.and_eq_true, Bool.or_eq_true, Bool.not_eq_true', Bool.not_eq_false', Bool.and_eq_false_iff, Bool.or_eq_false_iff, decide_eq_true_eq, decide_eq_false_iff_not, Int.not_lt, Int.not_le] at hc59
        refine WC.skip ?_
        refine NX.go ?_
        refine WC.seq ?_
        refine WC.seq ?_
        refine WC.draw (Is _) rfl (by kernel_rfl) (by kernel_rfl) ?_
        refine QL.det rfl rfl rfl (V.move rfl ⟨_, rfl, rfl⟩) ?_
        refine QL.det rfl rfl rfl (V.move rfl ⟨_, rfl, rfl⟩) ?_
        refine QL.ex rfl rfl rfl (X.idx (i := q - 1) rfl Tryz.underlying142 Tryz.sizeOf41 (ha.at K) ⟨_, rfl, rfl⟩ ⟨_, rfl, rfl⟩ (by omega) (gi (by omega))) (fun v70 h70 => ?_)
        refine QL.ex rfl rfl rfl (X.loadSl rfl Tryz.isAgg41 Tryz.sizeOf41 h70 ⟨_, rfl, rfl⟩ (Reach.is _)) (fun v71 h71 => ?_)
        have l71 := h71.len
        refine QL.det rfl rfl rfl (V.move rfl ⟨_, rfl, rfl⟩) ?_
        refine QL.det rfl rfl rfl (V.move rfl ⟨_, rfl, rfl⟩) ?_
        refine QL.ex rfl rfl rfl (X.idx (i := s - 1) rfl Tryz.underlying142 Tryz.sizeOf41 (hb.at K) ⟨_, rfl, rfl⟩ ⟨_, rfl, rfl⟩ (by omega) (gi (by omega))) (fun v74 h74 => ?_)
        refine QL.ex rfl rfl rfl (X.loadSl rfl Tryz.isAgg41 Tryz.sizeOf41 h74 ⟨_, rfl, rfl⟩ (Reach.is _)) (fun v75 h75 => ?_)
        have l75 := h75.len
        refine QL.call rfl rfl rfl rfl (.cons ⟨_, rfl, rfl⟩ (.cons ⟨_, rfl, rfl⟩ .nil)) (fun _ hS => by cases hS; exact sameBytes h71 h75) ?_
        refine QL.det rfl rfl rfl (V.move rfl ⟨_, rfl, rfl⟩) ?_
        refine QL.gdet (Gd.yes1 rfl rfl rfl rfl) rfl rfl (fun hg => V.move rfl ⟨_, rfl, rfl⟩) ?_
        refine QL.gdet (Gd.yes1 rfl rfl rfl rfl) rfl rfl (fun hg => V.move rfl ⟨_, rfl, rfl⟩) ?_
        refine QL.gdet (Gd.yes1 rfl rfl rfl rfl) rfl rfl (fun hg => V.add rfl ⟨_, rfl, hg⟩ ⟨_, rfl, rfl⟩ (by unfold I64; omega)) ?_
        refine QL.gdet (Gd.yes1 rfl rfl rfl rfl) rfl rfl (fun hg => G.idx (i := q) rfl Tryz.underlying190 Tryz.sizeOf30 ⟨_, rfl, hg⟩ ⟨_, rfl, hg⟩ (by omega) (by omega)) ?_
        refine QL.gdet (Gd.yes1 rfl rfl rfl rfl) rfl rfl (fun hg => G.load rfl Tryz.isAgg30 ⟨_, rfl, hg⟩ (hG.rowAt (i := q) (by omega) (by omega)) (Reach.is _)) ?_
        refine QL.gdet (Gd.yes1 rfl rfl rfl rfl) rfl rfl (fun hg => V.move rfl ⟨_, rfl, rfl⟩) ?_
        refine QL.gdet (Gd.yes1 rfl rfl rfl rfl) rfl rfl (fun hg => V.add rfl ⟨_, rfl, hg⟩ ⟨_, rfl, rfl⟩ (by unfold I64; omega)) ?_
        refine QL.gdet (Gd.yes1 rfl rfl rfl rfl) rfl rfl (fun hg => G.idx (i := s) rfl Tryz.underlying30 Tryz.sizeOf3 ⟨_, rfl, hg⟩ ⟨_, rfl, hg⟩ (by omega) (by omega)) ?_
        refine QL.gdet (Gd.yes1 rfl rfl rfl rfl) rfl rfl (fun hg => G.load rfl Tryz.isAgg3 ⟨_, rfl, hg⟩ (hG.val (i := q) (j := s) (by omega) (by omega) (by omega)) (Reach.is _)) ?_
        refine QL.gdet (Gd.yes1 rfl rfl rfl rfl) rfl rfl (fun hg => V.add rfl ⟨_, rfl, hg⟩ ⟨_, rfl, rfl⟩ (by have := hF.i64 (by omega) (i := q) (j := s) (by omega) (by omega); unfold I64; omega)) ?_
        refine QL.gdet (Gd.yes1 rfl rfl rfl rfl) rfl rfl (fun hg => V.move rfl ⟨_, rfl, rfl⟩) ?_
        refine QL.gdet (Gd.yes1 rfl rfl rfl rfl) rfl rfl (fun hg => V.gtr rfl ⟨_, rfl, hg⟩ ⟨_, rfl, hg⟩) ?_
        refine QL.det rfl rfl rfl (V.and rfl ⟨_, rfl, rfl⟩ (fun hb => ⟨_, rfl, hb⟩)) ?_
        refine QL.nil (fun _ hS => ?_)
        cases hS
        refine NX.go ?_
        refine WC.sub (e' := [(0, true, _), (1, true, _), (5, true, _), (6, true, _), (7, true, _), (8, true, _), (90, true, _)]) ⟨rfl, rfl, rfl, rfl, rfl, rfl, rfl, trivial⟩ ?_
        refine WC.cond ⟨_, rfl, rfl⟩ (fun hc90 => ?_) (fun hc90 => ?_)
        · -- hc90 true
          try simp only [Bool.and_eq_true, Bool.or_eq_true, Bool.not_eq_true', Bool.not_eq_false', Bool.and_eq_false_iff, Bool.or_eq_false_iff, decide_eq_true_eq, decide_eq_false_iff_not, Int.not_lt, Int.not_le] at hc90
          refine WC.region ?_
          refine WL.det rfl rfl rfl (V.move rfl ⟨_, rfl, rfl⟩) ?_
          refine WL.det rfl rfl rfl (V.move rfl ⟨_, rfl, rfl⟩) ?_
          refine WL.det rfl rfl rfl (V.add rfl ⟨_, rfl, rfl⟩ ⟨_, rfl, rfl⟩ (by unfold I64; omega)) ?_
          refine WL.det rfl rfl rfl (G.idx (i := q) rfl Tryz.underlying190 Tryz.sizeOf30 ⟨_, rfl, rfl⟩ ⟨_, rfl, rfl⟩ (by omega) (by omega)) ?_
          refine WL.det rfl rfl rfl (G.load rfl Tryz.isAgg30 ⟨_, rfl, rfl⟩ (hG.rowAt (i := q) (by omega) (by omega)) (Reach.is _)) ?_
          refine WL.det rfl rfl rfl (V.move rfl ⟨_, rfl, rfl⟩) ?_
          refine WL.det rfl rfl rfl (V.add rfl ⟨_, rfl, rfl⟩ ⟨_, rfl, rfl⟩ (by unfold I64; omega)) ?_
          refine WL.det rfl rfl rfl (G.idx (i := s) rfl Tryz.underlying30 Tryz.sizeOf3 ⟨_, rfl, rfl⟩ ⟨_, rfl, rfl⟩ (by omega) (by omega)) ?_
          refine WL.det rfl rfl rfl (G.load rfl Tryz.isAgg3 ⟨_, rfl, rfl⟩ (hG.val (i := q) (j := s) (by omega) (by omega) (by omega)) (Reach.is _)) ?_
          refine WL.det rfl rfl rfl (V.add rfl ⟨_, rfl, rfl⟩ ⟨_, rfl, rfl⟩ (by have := hF.i64 (by omega) (i := q) (j := s) (by omega) (by omega); unfold I64; omega)) ?_
          refine WL.det rfl rfl rfl (V.assign rfl ⟨_, rfl, rfl⟩) ?_
          refine WL.nil ?_
          refine NX.go ?_
          refine WC.sub (e' := [(0, true, _), (1, true, _), (5, true, _), (6, true, _), (7, true, _), (8, true, _)]) ⟨rfl, rfl, rfl, rfl, rfl, rfl, trivial⟩ ?_
          refine WC.region ?_
          refine WL.det rfl rfl rfl (V.move rfl ⟨_, rfl, rfl⟩) ?_
          refine WL.det rfl rfl rfl (V.move rfl ⟨_, rfl, rfl⟩) ?_
          refine WL.det rfl rfl rfl (G.idx (i := q - 1) rfl Tryz.underlying190 Tryz.sizeOf30 ⟨_, rfl, rfl⟩ ⟨_, rfl, rfl⟩ (by omega) (by omega)) ?_
          refine WL.det rfl rfl rfl (G.load rfl Tryz.isAgg30 ⟨_, rfl, rfl⟩ (hG.rowAt (i := q - 1) (by omega) (by omega)) (Reach.is _)) ?_
          refine WL.det rfl rfl rfl (V.move rfl ⟨_, rfl, rfl⟩) ?_
          refine WL.det rfl rfl rfl (V.move rfl ⟨_, rfl, rfl⟩) ?_
          refine WL.det rfl rfl rfl (G.idx (i := s - 1) rfl Tryz.underlying30 Tryz.sizeOf3 ⟨_, rfl, rfl⟩ ⟨_, rfl, rfl⟩ (by omega) (by omega)) ?_
          refine WL.store (vs := [_]) (e := 3) (cs := _) rfl rfl rfl ⟨_, rfl, rfl⟩ ⟨_, rfl, rfl⟩ rfl Tryz.sizeOf3 (fun u hu => by simp at hu; subst hu; rfl) (hG.row (q - 1) (by omega) (by omega)).1 (by simp [intCells] <;> omega) (fun Hd hBo kHd => ?_)
          have hG' := hG.store (i := q - 1) (j := s - 1) (x := _) (by omega) (by omega) (by omega) hBo kHd
          have K' := K.then kHd (fun i hi => by simp at hi; subst hi; exact .inr (hgB _ (by omega) (by omega)))
          refine WL.nil ?_
          refine NX.block_normal ?_
          refine NX.go ?_
          refine WC.sub (e' := [(0, true, _), (1, true, _), (5, true, _), (6, true, _), (7, true, _)]) ⟨rfl, rfl, rfl, rfl, rfl, trivial⟩ ?_
          refine WC.region ?_
          refine WL.det rfl rfl rfl (V.move rfl ⟨_, rfl, rfl⟩) ?_
          refine WL.det rfl rfl rfl (V.sub rfl ⟨_, rfl, rfl⟩ ⟨_, rfl, rfl⟩ (by unfold I64; omega)) ?_
          refine WL.det rfl rfl rfl (V.assign rfl ⟨_, rfl, rfl⟩) ?_
          refine WL.nil ?_
          have e1 := hF.get (i := q) (j := s) (by omega) (by omega) (.inl (Nat.le_refl _))
          have e2 := hF.get (i := q) (j := s - 1) (by omega) (by omega) (.inl (Nat.le_refl _))
          have e3 := hF.get (i := q - 1) (j := s) (by omega) (by omega) (.inr ⟨by omega, Nat.le_refl _⟩)
          have hl := L.lcs_at_ref (a := a) (b := b) (i := q - 1) (j := s - 1) (by omega) (by omega)
          rw [show q - 1 + 1 = q by omega, show s - 1 + 1 = s by omega] at hl
          refine Head.mk ⟨s - 1, B, _, by omega, hG', hF.set (by omega) (by omega) ?_, hgB, rfl, rfl, K'⟩ ⟨rfl, rfl, rfl, rfl, congrArg (fun z => some (true, iv z)) (by omega), trivial⟩ (by omega)
          rw [hl]
          first
            | (rw [if_pos ⟨hc90.1, by omega⟩]; omega)
            | (rw [if_neg (fun h => by
                 rcases hc90 with h1 | h1
                 · exact h1 h.1
                 · have := h.2; omega)]; omega)
        · -- hc90 false
          try simp only [Bool.and_eq_true, Bool.or_eq_true, Bool.not_eq_true', Bool.not_eq_false', Bool.and_eq_false_iff, Bool.or_eq_false_iff, decide_eq_true_eq, decide_eq_false_iff_not, Int.not_lt, Int.not_le] at hc90
          refine WC.skip ?_
          refine NX.go ?_
          refine WC.region ?_
          refine WL.det rfl rfl rfl (V.move rfl ⟨_, rfl, rfl⟩) ?_
          refine WL.det rfl rfl rfl (V.move rfl ⟨_, rfl, rfl⟩) ?_
          refine WL.det rfl rfl rfl (G.idx (i := q - 1) rfl Tryz.underlying190 Tryz.sizeOf30 ⟨_, rfl, rfl⟩ ⟨_, rfl, rfl⟩ (by omega) (by omega)) ?_
          refine WL.det rfl rfl rfl (G.load rfl Tryz.isAgg30 ⟨_, rfl, rfl⟩ (hG.rowAt (i := q - 1) (by omega) (by omega)) (Reach.is _)) ?_
          refine WL.det rfl rfl rfl (V.move rfl ⟨_, rfl, rfl⟩) ?_
          refine WL.det rfl rfl rfl (V.move rfl ⟨_, rfl, rfl⟩) ?_
          refine WL.det rfl rfl rfl (G.idx (i := s - 1) rfl Tryz.underlying30 Tryz.sizeOf3 ⟨_, rfl, rfl⟩ ⟨_, rfl, rfl⟩ (by omega) (by omega)) ?_
          refine WL.store (vs := [_]) (e := 3) (cs := _) rfl rfl rfl ⟨_, rfl, rfl⟩ ⟨_, rfl, rfl⟩ rfl Tryz.sizeOf3 (fun u hu => by simp at hu; subst hu; rfl) (hG.row (q - 1) (by omega) (by omega)).1 (by simp [intCells] <;> omega) (fun Hd hBo kHd => ?_)
          have hG' := hG.store (i := q - 1) (j := s - 1) (x := _) (by omega) (by omega) (by omega) hBo kHd
          have K' := K.then kHd (fun i hi => by simp at hi; subst hi; exact .inr (hgB _ (by omega) (by omega)))
          refine WL.nil ?_
          refine NX.block_normal ?_
          refine NX.go ?_
          refine WC.sub (e' := [(0, true, _), (1, true, _), (5, true, _), (6, true, _), (7, true, _)]) ⟨rfl, rfl, rfl, rfl, rfl, trivial⟩ ?_
          refine WC.region ?_
          refine WL.det rfl rfl rfl (V.move rfl ⟨_, rfl, rfl⟩) ?_
          refine WL.det rfl rfl rfl (V.sub rfl ⟨_, rfl, rfl⟩ ⟨_, rfl, rfl⟩ (by unfold I64; omega)) ?_
          refine WL.det rfl rfl rfl (V.assign rfl ⟨_, rfl, rfl⟩) ?_
          refine WL.nil ?_
          have e1 := hF.get (i := q) (j := s) (by omega) (by omega) (.inl (Nat.le_refl _))
          have e2 := hF.get (i := q) (j := s - 1) (by omega) (by omega) (.inl (Nat.le_refl _))
          have e3 := hF.get (i := q - 1) (j := s) (by omega) (by omega) (.inr ⟨by omega, Nat.le_refl _⟩)
          have hl := L.lcs_at_ref (a := a) (b := b) (i := q - 1) (j := s - 1) (by omega) (by omega)
          rw [show q - 1 + 1 = q by omega, show s - 1 + 1 = s by omega] at hl
          refine Head.mk ⟨s - 1, B, _, by omega, hG', hF.set (by omega) (by omega) ?_, hgB, rfl, rfl, K'⟩ ⟨rfl, rfl, rfl, rfl, congrArg (fun z => some (true, iv z)) (by omega), trivial⟩ (by omega)
          rw [hl]
          first
            | (rw [if_pos ⟨hc90.1, by omega⟩]; omega)
            | (rw [if_neg (fun h => by
                 rcases hc90 with h1 | h1
                 · exact h1 h.1
                 · have := h.2; omega)]; omega)
    · -- hc39 false
      try simp only [Bool.and_eq_true, Bool.or_eq_true, Bool.not_eq_true', Bool.not_eq_false', Bool.and_eq_false_iff, Bool.or_eq_false_iff, decide_eq_true_eq, decide_eq_false_iff_not, Int.not_lt, Int.not_le] at hc39
      obtain rfl : s = 0 := by omega
      refine WC.exit ?_
      refine NX.of_exit ?_
      refine NX.of_exit ?_
      refine NX.block_hit ?_
      refine NX.block_normal ?_
      refine NX.go ?_
      refine WC.region ?_
      refine WL.det rfl rfl rfl (V.move rfl ⟨_, rfl, rfl⟩) ?_
      refine WL.det rfl rfl rfl (V.sub rfl ⟨_, rfl, rfl⟩ ⟨_, rfl, rfl⟩ (by unfold I64; omega)) ?_
      refine WL.det rfl rfl rfl (V.assign rfl ⟨_, rfl, rfl⟩) ?_
      refine WL.nil ?_
      exact Head.mk ⟨q - 1, g, B, F, by omega, hG, (by have := hF.done (by omega); exact this), hg0, hgB, rfl, rfl, K⟩ ⟨rfl, rfl, rfl, congrArg (fun z => some (true, iv z)) (by omega), trivial⟩ (by omega)
  · -- hc25 false
    try simp only [Bool.and_eq_true, Bool.or_eq_true, Bool.not_eq_true', Bool.not_eq_false', Bool.and_eq_false_iff, Bool.or_eq_false_iff, decide_eq_true_eq, decide_eq_false_iff_not, Int.not_lt, Int.not_le] at hc25
    obtain rfl : q = 0 := by omega
    have hT := hG.sl (M := M) (by omega) (by omega) (fun i j h1 h2 => by have := hF.i64 (by omega) (i := i) (j := j) (by omega) (by omega); unfold I64; omega) (fun h => by have := hM _ h; omega) (fun i h1 h2 => by have := hM _ h2; have := hgB i (by omega) (by omega); omega)
    rw [L.tab_eq hF] at hT
    refine WC.exit ?_
    refine NX.of_exit ?_
    refine NX.of_exit ?_
    refine NX.block_hit ?_
    refine NX.go ?_
    refine WC.seq ?_
    refine WC.region ?_
    refine WL.det rfl rfl rfl (V.move rfl ⟨_, rfl, rfl⟩) ?_
    refine WL.det rfl rfl rfl (V.assign rfl ⟨_, rfl, rfl⟩) ?_
    refine WL.nil ?_
    refine NX.go ?_
    refine WC.sub (e' := [(4, true, _)]) ⟨rfl, trivial⟩ ?_
    refine WC.ret ?_
    refine ret1 hQ Tryz.results150 rfl ⟨_, rfl, rfl⟩ ?_
    exact ⟨hT, K⟩
theorem pairsOf {H0 : Heap} {M : List Nat} {va vb : Value} {a b : List (List UInt8)} (ha : Sl (tSl tByte) H0 M va a) (hb : Sl (tSl tByte) H0 M vb b) (hM : ∀ i ∈ M, i < H0.size) (hla : a.length ≤ 1000) (hlb : b.length ≤ 1000) :
    CallsH Tryz.prog 128 #[va, vb] H0 (fun u H => Sl tPair H M u (L.pairs a b 0 0) ∧ Keep [] H0 H) := by
  refine enter (args := [va, vb]) Tryz.call128 Tryz.func128 rfl Tryz.ntmps128 (Nat.le_of_ble_eq_true rfl) (fun W0 Q hQ => ?_)
  refine WC.sub (e' := [(0, true, va), (1, true, vb)]) ⟨rfl, rfl, trivial⟩ ?_
  have K : Keep [] H0 H0 := Keep.refl _ _
  refine WC.seq ?_
  refine WC.region ?_
  refine WL.det rfl rfl rfl (V.assign rfl ⟨_, rfl, rfl⟩) ?_
  refine WL.nil ?_
  refine NX.go ?_
  refine WC.sub (e' := [(0, true, _), (1, true, _)]) ⟨rfl, rfl, trivial⟩ ?_
  refine WC.seq ?_
  refine WC.region ?_
  refine WL.det rfl rfl rfl (V.move rfl ⟨_, rfl, rfl⟩) ?_
  refine WL.det rfl rfl rfl (V.move rfl ⟨_, rfl, rfl⟩) ?_
  refine WL.call rfl rfl rfl rfl (.cons ⟨_, rfl, rfl⟩ (.cons ⟨_, rfl, rfl⟩ .nil)) (counts ha hb hM hla hlb) ?_
  rintro vt H1 ⟨hT, k1⟩
  replace K := K.trans k1
  refine WL.det rfl rfl rfl (V.assign rfl ⟨_, rfl, rfl⟩) ?_
  refine WL.nil ?_
  refine NX.go ?_
  refine WC.sub (e' := [(0, true, _), (1, true, _), (5, true, _)]) ⟨rfl, rfl, rfl, trivial⟩ ?_
  refine WC.seq ?_
  refine WC.region ?_
  refine WL.det rfl rfl rfl (V.assign rfl ⟨_, rfl, rfl⟩) ?_
  refine WL.nil ?_
  refine NX.go ?_
  refine WC.sub (e' := [(0, true, _), (1, true, _), (5, true, _), (6, true, _)]) ⟨rfl, rfl, rfl, rfl, trivial⟩ ?_
  refine WC.seq ?_
  refine WC.region ?_
  refine WL.det rfl rfl rfl (V.assign rfl ⟨_, rfl, rfl⟩) ?_
  refine WL.det rfl rfl rfl (V.assign rfl ⟨_, rfl, rfl⟩) ?_
  refine WL.nil ?_
  refine NX.go ?_
  refine WC.sub (e' := [(0, true, _), (1, true, _), (5, true, _), (6, true, _), (7, true, _), (8, true, _)]) ⟨rfl, rfl, rfl, rfl, rfl, rfl, trivial⟩ ?_
  refine WC.seq ?_
  refine WC.block ?_
  refine WC.loop (fun m e H => ∃ (i j : Nat) (vt vo : Value) (ps : List (Nat × Nat)), (i ≤ a.length) ∧ (j ≤ b.length) ∧ (Sl (tSl tInt) H (ob vo ++ M) vt (L.tab a b)) ∧ (Own tPair H (ob vo ++ M) 175 vo ps) ∧ (∀ i ∈ ob vo, H0.size ≤ i) ∧ (L.pairs a b 0 0 = ps ++ L.pairs (a.drop i) (b.drop j) i j) ∧ (ps.length ≤ i) ∧ e = [(0, true, va), (1, true, vb), (5, true, vt), (6, true, vo), (7, true, iv (i : Nat)), (8, true, iv (j : Nat))] ∧ (a.length - i) + (b.length - j) = m ∧ Keep [] H0 H) (m0 := _) (e0 := _) ⟨0, 0, _, .slice none 0 0, [], by omega, by omega, hT, Own.nil _ _ _ _, fun i hi => by simp [ob] at hi, by simp, by simp, rfl, rfl, K⟩ ⟨rfl, rfl, rfl, rfl, rfl, rfl, trivial⟩ ?_
  clear K
  clear hT
  rintro _ _ H2 ⟨i, j, vt, vo, ps, hi, hj, hT, hO, hob, hps, hpl, rfl, rfl, K⟩
  refine WC.seq ?_
  refine WC.seq ?_
  refine WC.region ?_
  refine WL.det rfl rfl rfl (V.move rfl ⟨_, rfl, rfl⟩) ?_
  refine WL.det rfl rfl rfl (V.move rfl ⟨_, rfl, rfl⟩) ?_
  refine WL.det rfl rfl rfl (V.len rfl Tryz.underlying142 ⟨_, rfl, rfl⟩ (ha.at K)) ?_
  refine WL.det rfl rfl rfl (V.lss rfl ⟨_, rfl, rfl⟩ ⟨_, rfl, rfl⟩) ?_
  refine WL.det rfl rfl rfl (V.move rfl ⟨_, rfl, rfl⟩) ?_
  refine WL.gdet (Gd.yes1 rfl rfl rfl rfl) rfl rfl (fun hg => V.move rfl ⟨_, rfl, rfl⟩) ?_
  refine WL.gdet (Gd.yes1 rfl rfl rfl rfl) rfl rfl (fun hg => V.move rfl ⟨_, rfl, rfl⟩) ?_
  refine WL.gdet (Gd.yes1 rfl rfl rfl rfl) rfl rfl (fun hg => V.len rfl Tryz.underlying142 ⟨_, rfl, hg⟩ (hb.at K)) ?_
  refine WL.gdet (Gd.yes1 rfl rfl rfl rfl) rfl rfl (fun hg => V.lss rfl ⟨_, rfl, hg⟩ ⟨_, rfl, hg⟩) ?_
  refine WL.det rfl rfl rfl (V.and rfl ⟨_, rfl, rfl⟩ (fun hb => ⟨_, rfl, hb⟩)) ?_
  refine WL.nil ?_
  refine NX.go ?_
  refine WC.sub (e' := [(0, true, _), (1, true, _), (5, true, _), (6, true, _), (7, true, _), (8, true, _), (21, true, _)]) ⟨rfl, rfl, rfl, rfl, rfl, rfl, rfl, trivial⟩ ?_
  refine WC.cond ⟨_, rfl, rfl⟩ (fun hc21 => ?_) (fun hc21 => ?_)
  · -- hc21 true
    try simp only [Bool.and_eq_true, Bool.or_eq_true, Bool.not_eq_true', Bool.not_eq_false', Bool.and_eq_false_iff, Bool.or_eq_false_iff, decide_eq_true_eq, decide_eq_false_iff_not, Int.not_lt, Int.not_le] at hc21
    refine WC.skip ?_
    refine NX.go ?_
    refine WC.block ?_
    refine WC.seq ?_
    refine WC.draw (Is _) rfl (by kernel_rfl) (by kernel_rfl) ?_
    refine QL.det rfl rfl rfl (V.move rfl ⟨_, rfl, rfl⟩) ?_
    refine QL.det rfl rfl rfl (V.move rfl ⟨_, rfl, rfl⟩) ?_
    refine QL.ex rfl rfl rfl (X.idx rfl Tryz.underlying142 Tryz.sizeOf41 (ha.at K) ⟨_, rfl, rfl⟩ ⟨_, rfl, rfl⟩ rfl (gi (by omega))) (fun v24 h24 => ?_)
    refine QL.ex rfl rfl rfl (X.loadSl rfl Tryz.isAgg41 Tryz.sizeOf41 h24 ⟨_, rfl, rfl⟩ (Reach.is _)) (fun v25 h25 => ?_)
    have l25 := h25.len
    refine QL.det rfl rfl rfl (V.move rfl ⟨_, rfl, rfl⟩) ?_
    refine QL.det rfl rfl rfl (V.move rfl ⟨_, rfl, rfl⟩) ?_
    refine QL.ex rfl rfl rfl (X.idx rfl Tryz.underlying142 Tryz.sizeOf41 (hb.at K) ⟨_, rfl, rfl⟩ ⟨_, rfl, rfl⟩ rfl (gi (by omega))) (fun v28 h28 => ?_)
    refine QL.ex rfl rfl rfl (X.loadSl rfl Tryz.isAgg41 Tryz.sizeOf41 h28 ⟨_, rfl, rfl⟩ (Reach.is _)) (fun v29 h29 => ?_)
    have l29 := h29.len
    refine QL.call rfl rfl rfl rfl (.cons ⟨_, rfl, rfl⟩ (.cons ⟨_, rfl, rfl⟩ .nil)) (fun _ hS => by cases hS; exact sameBytes h25 h29) ?_
    refine QL.nil (fun _ hS => ?_)
    cases hS
    refine NX.go ?_
    refine WC.sub (e' := [(0, true, _), (1, true, _), (5, true, _), (6, true, _), (7, true, _), (8, true, _), (30, true, _)]) ⟨rfl, rfl, rfl, rfl, rfl, rfl, rfl, trivial⟩ ?_
    refine WC.cond ⟨_, rfl, rfl⟩ (fun hc30 => ?_) (fun hc30 => ?_)
    · -- hc30 true
      try simp only [Bool.and_eq_true, Bool.or_eq_true, Bool.not_eq_true', Bool.not_eq_false', Bool.and_eq_false_iff, Bool.or_eq_false_iff, decide_eq_true_eq, decide_eq_false_iff_not, Int.not_lt, Int.not_le] at hc30
      refine WC.seq ?_
      refine WC.region ?_
      refine WL.det rfl rfl rfl (V.move rfl ⟨_, rfl, rfl⟩) ?_
      refine WL.det rfl rfl rfl (V.move rfl ⟨_, rfl, rfl⟩) ?_
      refine WL.det rfl rfl rfl (V.move rfl ⟨_, rfl, rfl⟩) ?_
      refine WL.det rfl rfl rfl (V.build (vs := [(0, iv i), (1, iv j)]) rfl (fun a hf => by simp [hf.eval (x := .tmp 32) ⟨_, rfl, rfl⟩, hf.eval (x := .tmp 33) ⟨_, rfl, rfl⟩]) (build175 i j)) ?_
      refine WL.app1 (T := tPair) (M := M) rfl rfl rfl rfl rfl rfl rfl rfl Tryz.underlying170 Tryz.typeInfo175 rfl rfl rfl (by decide) ⟨_, rfl, rfl⟩ (show tPair.V _ _ _ ((i : Nat), (j : Nat)) from ⟨_, ⟨rfl, by constructor <;> (simp only []; omega)⟩, rfl⟩) (fun _ => ⟨_, rfl, rfl⟩) hO (by show (_ + 1) * 16 ≤ 140737488355328; omega) (by decide) (fun v36 H3 tmp3 hO36 a3 => ?_)
      replace hT := hT.app a3
      have hob36 := a3.new K hob
      replace K := a3.K K hob
      refine WL.det rfl rfl rfl (V.assign rfl ⟨_, rfl, rfl⟩) ?_
      refine WL.nil ?_
      refine NX.go ?_
      refine WC.sub (e' := [(0, true, _), (1, true, _), (5, true, _), (6, true, _), (7, true, _), (8, true, _)]) ⟨rfl, rfl, rfl, rfl, rfl, rfl, trivial⟩ ?_
      refine WC.seq ?_
      refine WC.region ?_
      refine WL.det rfl rfl rfl (V.move rfl ⟨_, rfl, rfl⟩) ?_
      refine WL.det rfl rfl rfl (V.add rfl ⟨_, rfl, rfl⟩ ⟨_, rfl, rfl⟩ (by unfold I64; omega)) ?_
      refine WL.det rfl rfl rfl (V.assign rfl ⟨_, rfl, rfl⟩) ?_
      refine WL.nil ?_
      refine NX.go ?_
      refine WC.sub (e' := [(0, true, _), (1, true, _), (5, true, _), (6, true, _), (7, true, _), (8, true, _)]) ⟨rfl, rfl, rfl, rfl, rfl, rfl, trivial⟩ ?_
      refine WC.region ?_
      refine WL.det rfl rfl rfl (V.move rfl ⟨_, rfl, rfl⟩) ?_
      refine WL.det rfl rfl rfl (V.add rfl ⟨_, rfl, rfl⟩ ⟨_, rfl, rfl⟩ (by unfold I64; omega)) ?_
      refine WL.det rfl rfl rfl (V.assign rfl ⟨_, rfl, rfl⟩) ?_
      refine WL.nil ?_
      refine NX.block_normal ?_
      have hpa := L.pairs_at (a := a) (b := b) (i := i) (j := j) (by omega) (by omega)
      first
        | (rw [if_pos hc30] at hpa
           exact Head.mk ⟨i + 1, j + 1, vt, v36, ps ++ [(i, j)], by omega, by omega, hT, hO36, hob36, by rw [hps, hpa]; simp, by simp; omega, rfl, rfl, K⟩ ⟨rfl, rfl, rfl, rfl, rfl, rfl, trivial⟩ (by omega))
        | (rw [if_neg hc30, if_pos (by omega)] at hpa
           exact Head.mk ⟨i + 1, j, vt, vo, ps, by omega, by omega, hT, hO, hob, by rw [hps, hpa], by omega, rfl, rfl, K⟩ ⟨rfl, rfl, rfl, rfl, rfl, rfl, trivial⟩ (by omega))
        | (rw [if_neg hc30, if_neg (by omega)] at hpa
           exact Head.mk ⟨i, j + 1, vt, vo, ps, by omega, by omega, hT, hO, hob, by rw [hps, hpa], by omega, rfl, rfl, K⟩ ⟨rfl, rfl, rfl, rfl, rfl, rfl, trivial⟩ (by omega))
    · -- hc30 false
      try simp only [Bool.and_eq_true, Bool.or_eq_true, Bool.not_eq_true', Bool.not_eq_false', Bool.and_eq_false_iff, Bool.or_eq_false_iff, decide_eq_true_eq, decide_eq_false_iff_not, Int.not_lt, Int.not_le] at hc30
      refine WC.seq ?_
      refine WC.draw (Is _) rfl (by kernel_rfl) (by kernel_rfl) ?_
      refine QL.det rfl rfl rfl (V.move rfl ⟨_, rfl, rfl⟩) ?_
      refine QL.det rfl rfl rfl (V.move rfl ⟨_, rfl, rfl⟩) ?_
      refine QL.det rfl rfl rfl (V.add rfl ⟨_, rfl, rfl⟩ ⟨_, rfl, rfl⟩ (by unfold I64; omega)) ?_
      refine QL.ex rfl rfl rfl (X.idx (i := i + 1) rfl Tryz.underlying190 Tryz.sizeOf30 hT ⟨_, rfl, rfl⟩ ⟨_, rfl, rfl⟩ rfl (L.tab_get (by omega))) (fun v44 h44 => ?_)
      refine QL.ex rfl rfl rfl (X.loadSl rfl Tryz.isAgg30 Tryz.sizeOf30 h44 ⟨_, rfl, rfl⟩ (Reach.is _)) (fun v45 h45 => ?_)
      have l45 := h45.len
      refine QL.det rfl rfl rfl (V.move rfl ⟨_, rfl, rfl⟩) ?_
      refine QL.ex rfl rfl rfl (X.idx (i := j) rfl Tryz.underlying30 Tryz.sizeOf3 h45 ⟨_, rfl, rfl⟩ ⟨_, rfl, rfl⟩ rfl (L.tabRow_get (by omega))) (fun v47 h47 => ?_)
      refine QL.det rfl rfl rfl (V.loadInt rfl Tryz.isAgg3 Tryz.sizeOf3 h47 ⟨_, rfl, rfl⟩ (Reach.is _)) ?_
      refine QL.det rfl rfl rfl (V.move rfl ⟨_, rfl, rfl⟩) ?_
      refine QL.det rfl rfl rfl (V.move rfl ⟨_, rfl, rfl⟩) ?_
      refine QL.ex rfl rfl rfl (X.idx (i := i) rfl Tryz.underlying190 Tryz.sizeOf30 hT ⟨_, rfl, rfl⟩ ⟨_, rfl, rfl⟩ rfl (L.tab_get (by omega))) (fun v51 h51 => ?_)
      refine QL.ex rfl rfl rfl (X.loadSl rfl Tryz.isAgg30 Tryz.sizeOf30 h51 ⟨_, rfl, rfl⟩ (Reach.is _)) (fun v52 h52 => ?_)
      have l52 := h52.len
      refine QL.det rfl rfl rfl (V.move rfl ⟨_, rfl, rfl⟩) ?_
      refine QL.det rfl rfl rfl (V.add rfl ⟨_, rfl, rfl⟩ ⟨_, rfl, rfl⟩ (by unfold I64; omega)) ?_
      refine QL.ex rfl rfl rfl (X.idx (i := j + 1) rfl Tryz.underlying30 Tryz.sizeOf3 h52 ⟨_, rfl, rfl⟩ ⟨_, rfl, rfl⟩ rfl (L.tabRow_get (by omega))) (fun v55 h55 => ?_)
      refine QL.det rfl rfl rfl (V.loadInt rfl Tryz.isAgg3 Tryz.sizeOf3 h55 ⟨_, rfl, rfl⟩ (Reach.is _)) ?_
      refine QL.det rfl rfl rfl (V.geq rfl ⟨_, rfl, rfl⟩ ⟨_, rfl, rfl⟩) ?_
      refine QL.nil (fun _ hS => ?_)
      cases hS
      refine NX.go ?_
      refine WC.sub (e' := [(0, true, _), (1, true, _), (5, true, _), (6, true, _), (7, true, _), (8, true, _), (57, true, _)]) ⟨rfl, rfl, rfl, rfl, rfl, rfl, rfl, trivial⟩ ?_
      refine WC.cond ⟨_, rfl, rfl⟩ (fun hc57 => ?_) (fun hc57 => ?_)
      · -- hc57 true
        try simp only [Bool.and_eq_true, Bool.or_eq_true, Bool.not_eq_true', Bool.not_eq_false', Bool.and_eq_false_iff, Bool.or_eq_false_iff, decide_eq_true_eq, decide_eq_false_iff_not, Int.not_lt, Int.not_le] at hc57
        refine WC.region ?_
        refine WL.det rfl rfl rfl (V.move rfl ⟨_, rfl, rfl⟩) ?_
        refine WL.det rfl rfl rfl (V.add rfl ⟨_, rfl, rfl⟩ ⟨_, rfl, rfl⟩ (by unfold I64; omega)) ?_
        refine WL.det rfl rfl rfl (V.assign rfl ⟨_, rfl, rfl⟩) ?_
        refine WL.nil ?_
        refine NX.block_normal ?_
        have hpa := L.pairs_at (a := a) (b := b) (i := i) (j := j) (by omega) (by omega)
        first
          | (rw [if_pos hc30] at hpa
             exact Head.mk ⟨i + 1, j + 1, vt, v36, ps ++ [(i, j)], by omega, by omega, hT, hO36, hob36, by rw [hps, hpa]; simp, by simp; omega, rfl, rfl, K⟩ ⟨rfl, rfl, rfl, rfl, rfl, rfl, trivial⟩ (by omega))
          | (rw [if_neg hc30, if_pos (by omega)] at hpa
             exact Head.mk ⟨i + 1, j, vt, vo, ps, by omega, by omega, hT, hO, hob, by rw [hps, hpa], by omega, rfl, rfl, K⟩ ⟨rfl, rfl, rfl, rfl, rfl, rfl, trivial⟩ (by omega))
          | (rw [if_neg hc30, if_neg (by omega)] at hpa
             exact Head.mk ⟨i, j + 1, vt, vo, ps, by omega, by omega, hT, hO, hob, by rw [hps, hpa], by omega, rfl, rfl, K⟩ ⟨rfl, rfl, rfl, rfl, rfl, rfl, trivial⟩ (by omega))
      · -- hc57 false
        try simp only [Bool.and_eq_true, Bool.or_eq_true, Bool.not_eq_true', Bool.not_eq_false', Bool.and_eq_false_iff, Bool.or_eq_false_iff, decide_eq_true_eq, decide_eq_false_iff_not, Int.not_lt, Int.not_le] at hc57
        refine WC.region ?_
        refine WL.det rfl rfl rfl (V.move rfl ⟨_, rfl, rfl⟩) ?_
        refine WL.det rfl rfl rfl (V.add rfl ⟨_, rfl, rfl⟩ ⟨_, rfl, rfl⟩ (by unfold I64; omega)) ?_
        refine WL.det rfl rfl rfl (V.assign rfl ⟨_, rfl, rfl⟩) ?_
        refine WL.nil ?_
        refine NX.block_normal ?_
        have hpa := L.pairs_at (a := a) (b := b) (i := i) (j := j) (by omega) (by omega)
        first
          | (rw [if_pos hc30] at hpa
             exact Head.mk ⟨i + 1, j + 1, vt, v36, ps ++ [(i, j)], by omega, by omega, hT, hO36, hob36, by rw [hps, hpa]; simp, by simp; omega, rfl, rfl, K⟩ ⟨rfl, rfl, rfl, rfl, rfl, rfl, trivial⟩ (by omega))
          | (rw [if_neg hc30, if_pos (by omega)] at hpa
             exact Head.mk ⟨i + 1, j, vt, vo, ps, by omega, by omega, hT, hO, hob, by rw [hps, hpa], by omega, rfl, rfl, K⟩ ⟨rfl, rfl, rfl, rfl, rfl, rfl, trivial⟩ (by omega))
          | (rw [if_neg hc30, if_neg (by omega)] at hpa
             exact Head.mk ⟨i, j + 1, vt, vo, ps, by omega, by omega, hT, hO, hob, by rw [hps, hpa], by omega, rfl, rfl, K⟩ ⟨rfl, rfl, rfl, rfl, rfl, rfl, trivial⟩ (by omega))
  · -- hc21 false
    try simp only [Bool.and_eq_true, Bool.or_eq_true, Bool.not_eq_true', Bool.not_eq_false', Bool.and_eq_false_iff, Bool.or_eq_false_iff, decide_eq_true_eq, decide_eq_false_iff_not, Int.not_lt, Int.not_le] at hc21
    refine WC.exit ?_
    refine NX.of_exit ?_
    refine NX.of_exit ?_
    refine NX.block_hit ?_
    refine NX.go ?_
    refine WC.seq ?_
    refine WC.region ?_
    refine WL.det rfl rfl rfl (V.move rfl ⟨_, rfl, rfl⟩) ?_
    refine WL.det rfl rfl rfl (V.assign rfl ⟨_, rfl, rfl⟩) ?_
    refine WL.nil ?_
    refine NX.go ?_
    refine WC.sub (e' := [(4, true, _)]) ⟨rfl, trivial⟩ ?_
    refine WC.ret ?_
    refine ret1 hQ Tryz.results128 rfl ⟨_, rfl, rfl⟩ ?_
    have he : L.pairs (a.drop i) (b.drop j) i j = [] := by
      rcases hc21 with h | h
      · rw [List.drop_of_length_le (by omega), L.pairs_nil]
      · rw [List.drop_of_length_le (show b.length ≤ j by omega), L.pairs_nil']
    rw [he, List.append_nil] at hps
    rw [hps]
    exact ⟨hO.give hob hM, K⟩
end Go.Proofs.YtpmjnbidmcnhnaaGreatDoor
