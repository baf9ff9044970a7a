/- part -/
import Derived.Test.YtpmjnbidmcnhnaaGreatDoorCommon2
import Derived.Test.YtpmjnbidmcnhnaaGreatDoorLines1
import Derived.Test.YtpmjnbidmcnhnaaGreatDoorLate
import Derived.Test.YtpmjnbidmcnhnaaGreatDoorLinesMixed
set_option linter.unusedVariables false
set_option linter.unusedSimpArgs false
namespace Go.Proofs.YtpmjnbidmcnhnaaGreatDoor
open Go.NB
set_option maxRecDepth 20000
theorem build3 (x y z : Int) (w : World) : (Instr.build 172 #[(0, iv x), (1, iv y), (2, iv z)]).run Tryz.prog w = .ok (.agg #[iv x, iv y, iv z]) w := by kernel_rfl
theorem trip_in {base a b : L.Ls} {u v : Nat × Nat} (hu : u ∈ L.pairs base a 0 0) (hv : v ∈ L.pairs base b 0 0) (hls : base.length ≤ 1000) (hla : a.length ≤ 1000) (hlb : b.length ≤ 1000) :
    I64 (u.1 : Int) ∧ I64 (u.2 : Int) ∧ I64 (v.2 : Int) := by
  have h1 := L.pairs_mem base a 0 0 u hu
  have h2 := L.pairs_mem base b 0 0 v hv
  unfold I64
  omega
theorem sameLinesM {H0 : Heap} {M : List Nat} {va vb : Value} {a b : L.Ls} (ha : Sl (tSl tByte) H0 M va a) (hb : Sl (tSl tByte) H0 M vb b) : CallsH Tryz.prog 129 #[va, vb] H0 fun v H => v = .bool (decide (a = b)) ∧ Keep [] H0 H :=
  (sameLines ha hb).mono fun _ _ h => ⟨h.1, h.2 ▸ Keep.refl _ _⟩
theorem mx_pl (base a b : L.Ls) (hls : base.length ≤ 1000) (hla : a.length ≤ 1000) : (L.pairs base a 0 0).length ≤ 1000 := by
  rw [L.pairs_length]
  have := L.lcs_le base a
  omega
def fullT (base a b : L.Ls) : List (Int × Int × Int) := ((-1, -1, -1) :: (L.MX base a b).map L.tr) ++ [((base.length : Int), (a.length : Int), (b.length : Int))]
theorem fullT_len (base a b : L.Ls) : (fullT base a b).length = (L.MX base a b).length + 2 := by simp [fullT]
theorem fullT_last (base a b : L.Ls) : (fullT base a b)[(L.MX base a b).length + 1]? = some ((base.length : Int), (a.length : Int), (b.length : Int)) := by
  unfold fullT
  rw [List.getElem?_append_right (by simp)]
  simp
theorem fullT_mid (base a b : L.Ls) (m : Nat) (h : m < (L.MX base a b).length) : (fullT base a b)[m + 1]? = some (L.tr (L.MX base a b)[m]) := by
  unfold fullT
  rw [List.getElem?_append_left (by simp; omega)]
  simp [h]
theorem fullT_first (base a b : L.Ls) : (fullT base a b)[0]? = some (-1, -1, -1) := by simp [fullT]
def At (base a b : L.Ls) (m i j k : Nat) (out : L.Ls) : Prop :=
  (m ≤ (L.MX base a b).length → (fullT base a b)[m]? = some ((i : Int) - 1, (j : Int) - 1, (k : Int) - 1) ∧ L.Chain base a b ((L.MX base a b).drop m) i j k ∧ L.merge base a b = (L.go base a b ((L.MX base a b).drop m) i j k).map fun r => out ++ r) ∧
  ((L.MX base a b).length < m → L.merge base a b = some out)
theorem At.start (base a b : L.Ls) : At base a b 0 0 0 0 [] := by
  refine ⟨fun _ => ⟨by rw [fullT_first]; rfl, L.mx_chain base a b, ?_⟩, fun h => by omega⟩
  rw [L.mx_merge]
  simp
theorem At.next {base a b : L.Ls} {m i j k : Nat} {out : L.Ls} (h : At base a b m i j k out) (hm : m ≤ (L.MX base a b).length) :
    ∃ n p q : Nat, (fullT base a b)[m]? = some ((i : Int) - 1, (j : Int) - 1, (k : Int) - 1) ∧ (fullT base a b)[m + 1]? = some ((n : Int), (p : Int), (q : Int)) ∧ i ≤ n ∧ j ≤ p ∧ k ≤ q ∧ n ≤ base.length ∧ p ≤ a.length ∧ q ≤ b.length ∧
      (m < (L.MX base a b).length → n < base.length ∧ p < a.length ∧ q < b.length) ∧
      (L.mix (L.cut base i n) (L.cut a j p) (L.cut b k q) = none → L.merge base a b = none) ∧
      (∀ seg, L.mix (L.cut base i n) (L.cut a j p) (L.cut b k q) = some seg →
        (m = (L.MX base a b).length → At base a b (m + 1) (n + 1) (p + 1) (q + 1) (out ++ seg)) ∧
        (m < (L.MX base a b).length → ∀ h : n < base.length, At base a b (m + 1) (n + 1) (p + 1) (q + 1) (out ++ seg ++ [base[n]]))) := by
  obtain ⟨h1, h2, h3⟩ := h.1 hm
  by_cases e : m = (L.MX base a b).length
  · rw [List.drop_of_length_le (by omega)] at h2 h3
    refine ⟨base.length, a.length, b.length, h1, by rw [e]; exact fullT_last base a b, h2.1, h2.2.1, h2.2.2, by omega, by omega, by omega, fun h => by omega, fun hx => ?_, fun seg hx => ⟨fun _ => ⟨fun h => by omega, fun _ => ?_⟩, fun h => by omega⟩⟩
    · rw [h3, L.go, hx]; rfl
    · rw [h3, L.go, hx]; rfl
  · have hlt : m < (L.MX base a b).length := by omega
    have hd := List.drop_eq_getElem_cons hlt
    rw [hd] at h2 h3
    have hmid := fullT_mid base a b m hlt
    generalize (L.MX base a b)[m] = t at hd h2 h3 hmid
    obtain ⟨n, p, q⟩ := t
    obtain ⟨c1, c2, c3, c4, c5, c6, c7⟩ := h2
    refine ⟨n, p, q, h1, hmid, c1, c3, c5, by omega, by omega, by omega, fun _ => ⟨c2, c4, c6⟩, fun hx => ?_, fun seg hx => ⟨fun h => by omega, fun _ hn => ⟨fun _ => ⟨?_, c7, ?_⟩, fun h => by omega⟩⟩⟩
    · rw [h3, L.go, hx]; rfl
    · rw [hmid]
      show some (((n : Nat) : Int), ((p : Nat) : Int), ((q : Nat) : Int)) = _
      congr 2
      · omega
      · congr 1 <;> omega
    · rw [h3, L.go, hx]
      simp only [Option.map_map]
      congr 1
      funext r
      simp [hn]
set_option maxRecDepth 20000 in
set_option maxHeartbeats 1000000 in
theorem mixed {H0 : Heap} {M : List Nat} {vs va vb : Value} {base a b : L.Ls} (hs : Sl (tSl tByte) H0 M vs base) (ha : Sl (tSl tByte) H0 M va a) (hb : Sl (tSl tByte) H0 M vb b) (hM : ∀ i ∈ M, i < H0.size) (hls : base.length ≤ 1000) (hla : a.length ≤ 1000) (hlb : b.length ≤ 1000) :
    CallsH Tryz.prog 85 #[vs, va, vb] H0 (fun r H => ∃ v, r = .tuple #[v, .bool (L.merge base a b).isSome] ∧ Sl (tSl tByte) H M v ((L.merge base a b).getD []) ∧ Keep [] H0 H) := by
  refine enter (args := [vs, va, vb]) Tryz.call85 Tryz.func85 rfl Tryz.ntmps85 (Nat.le_of_ble_eq_true rfl) (fun W0 Q hQ => ?_)
  refine WC.sub (e' := [(0, true, vs), (1, true, va), (2, true, vb)]) ⟨rfl, rfl, rfl, trivial⟩ ?_
  have K : Keep [] H0 H0 := Keep.refl _ _
  have hxl := mx_pl base a b hls hla
  have hyl := mx_pl base b a hls hlb
  refine WC.seq ?_
  refine WC.region ?_
  refine WL.det rfl rfl rfl (V.assign rfl ⟨_, rfl, rfl⟩) ?_
  refine WL.det rfl rfl rfl (V.assign rfl ⟨_, rfl, rfl⟩) ?_
  refine WL.nil ?_
  refine NX.go ?_
  refine WC.sub (e' := [(0, true, _), (1, true, _), (2, true, _)]) ⟨rfl, rfl, rfl, trivial⟩ ?_
  refine WC.seq ?_
  refine WC.region ?_
  refine WL.det rfl rfl rfl (V.move rfl ⟨_, rfl, rfl⟩) ?_
  refine WL.det rfl rfl rfl (V.move rfl ⟨_, rfl, rfl⟩) ?_
  refine WL.call rfl rfl rfl rfl (.cons ⟨_, rfl, rfl⟩ (.cons ⟨_, rfl, rfl⟩ .nil)) (pairsOf (hs.at K) (ha.at K) (mlt K hM) hls hla) ?_
  rintro v22 H1 ⟨hx, k1⟩
  replace K := K.trans k1
  refine WL.det rfl rfl rfl (V.move rfl ⟨_, rfl, rfl⟩) ?_
  refine WL.det rfl rfl rfl (V.move rfl ⟨_, rfl, rfl⟩) ?_
  refine WL.call rfl rfl rfl rfl (.cons ⟨_, rfl, rfl⟩ (.cons ⟨_, rfl, rfl⟩ .nil)) (pairsOf (hs.at K) (hb.at K) (mlt K hM) hls hlb) ?_
  rintro v25 H2 ⟨hy, k2⟩
  replace hx := hx.at k2
  replace K := K.trans k2
  refine WL.det rfl rfl rfl (V.assign rfl ⟨_, rfl, rfl⟩) ?_
  refine WL.det rfl rfl rfl (V.assign rfl ⟨_, rfl, rfl⟩) ?_
  refine WL.nil ?_
  refine NX.go ?_
  refine WC.sub (e' := [(0, true, _), (1, true, _), (2, true, _), (8, true, _), (9, true, _)]) ⟨rfl, rfl, rfl, rfl, rfl, trivial⟩ ?_
  refine WC.seq ?_
  refine WC.region ?_
  refine WL.det rfl rfl rfl (V.build (vs := [(0, iv (-1)), (1, iv (-1)), (2, iv (-1))]) rfl (fun a hf => by simp [Act.eval, iv]) (build3 (-1) (-1) (-1))) ?_
  refine WL.buildSlice (n := 1) (size := 3) (xs := [_]) (vs := [_]) (css := [iv (-1), iv (-1), iv (-1)]) rfl rfl rfl rfl Tryz.underlying173 Tryz.sizeOf172 Tryz.zeroValue172 (.cons ⟨_, rfl, rfl⟩ .nil) rfl (by decide) (fun v hv => by simp at hv; subst hv; rfl) rfl (fun g27 Hb hB27 hn27 kb => ?_)
  have hO27 : Own tTrip Hb (ob (.slice (some ⟨g27, 0, none⟩) 1 1) ++ M) 172 (.slice (some ⟨g27, 0, none⟩) 1 1) ((-1, -1, -1) :: ([]).map L.tr) := Own.ofBx1 hB27 ⟨rfl, by unfold I64; decide, by unfold I64; decide, by unfold I64; decide⟩
  have hob27 : ∀ i ∈ ob (.slice (some ⟨g27, 0, none⟩) 1 1), H0.size ≤ i := fun i hi => by simp [ob] at hi; subst hi; exact Nat.le_trans K.1 hn27
  have hx27 : Sl tPair Hb (ob (.slice (some ⟨g27, 0, none⟩) 1 1) ++ M) _ _ := (hx.tr kb.nil (Mv.own (fun i hi => by simp [ob] at hi; subst hi; exact hn27)))
  have hy27 : Sl tPair Hb (ob (.slice (some ⟨g27, 0, none⟩) 1 1) ++ M) _ _ := (hy.tr kb.nil (Mv.own (fun i hi => by simp [ob] at hi; subst hi; exact hn27)))
  replace K := K.trans kb
  refine WL.det rfl rfl rfl (V.assign rfl ⟨_, rfl, rfl⟩) ?_
  refine WL.nil ?_
  refine NX.go ?_
  refine WC.sub (e' := [(0, true, _), (1, true, _), (2, true, _), (8, true, _), (9, true, _), (10, true, _)]) ⟨rfl, rfl, rfl, rfl, rfl, rfl, trivial⟩ ?_
  refine WC.seq ?_
  refine WC.seq ?_
  refine WC.region ?_
  refine WL.det rfl rfl rfl (V.assign rfl ⟨_, rfl, rfl⟩) ?_
  refine WL.nil ?_
  refine NX.go ?_
  refine WC.sub (e' := [(0, true, _), (1, true, _), (2, true, _), (8, true, _), (9, true, _), (10, true, _), (11, true, _)]) ⟨rfl, rfl, rfl, rfl, rfl, rfl, rfl, trivial⟩ ?_
  refine WC.block ?_
  refine WC.loop (fun m e H => ∃ (i : Nat) (vx vy vh : Value), (i ≤ (L.pairs base a 0 0).length) ∧ (Sl tPair H (ob vh ++ M) vx (L.pairs base a 0 0)) ∧ (Sl tPair H (ob vh ++ M) vy (L.pairs base b 0 0)) ∧ (Own tTrip H (ob vh ++ M) 172 vh ((-1, -1, -1) :: (L.mids ((L.pairs base a 0 0).take i) (L.pairs base b 0 0)).map L.tr)) ∧ (∀ i ∈ ob vh, H0.size ≤ i) ∧ ((L.mids ((L.pairs base a 0 0).take i) (L.pairs base b 0 0)).length ≤ i * 1000) ∧ e = [(0, true, vs), (1, true, va), (2, true, vb), (8, true, vx), (9, true, vy), (10, true, vh), (11, true, iv (i : Nat))] ∧ (L.pairs base a 0 0).length - i = m ∧ Keep [] H0 H) (m0 := _) (e0 := _) (by exact ⟨0, _, _, _, by omega, hx27, hy27, hO27, hob27, by simp [L.mids], rfl, rfl, K⟩) (by exact ⟨rfl, rfl, rfl, rfl, rfl, rfl, rfl, trivial⟩) ?_
  clear K
  clear hx
  clear hy
  rintro _ _ H3 ⟨i, vx, vy, vh, hi, hx, hy, hO, hob, hml, rfl, rfl, K⟩
  refine WC.seq ?_
  refine WC.seq ?_
  refine WC.region ?_
  refine WL.det rfl rfl rfl (V.move rfl ⟨_, rfl, rfl⟩) ?_
  refine WL.det rfl rfl rfl (V.move rfl ⟨_, rfl, rfl⟩) ?_
  refine WL.det rfl rfl rfl (V.len rfl Tryz.underlying170 ⟨_, rfl, rfl⟩ hx) ?_
  refine WL.det rfl rfl rfl (V.lss rfl ⟨_, rfl, rfl⟩ ⟨_, rfl, rfl⟩) ?_
  refine WL.nil ?_
  refine NX.go ?_
  refine WC.sub (e' := [(0, true, _), (1, true, _), (2, true, _), (8, true, _), (9, true, _), (10, true, _), (11, true, _), (31, true, _)]) ⟨rfl, rfl, rfl, rfl, rfl, rfl, rfl, rfl, trivial⟩ ?_
  refine WC.cond ⟨_, rfl, rfl⟩ (fun hc31 => ?_) (fun hc31 => ?_)
  · -- hc31 true
    try simp only [Bool.and_eq_true, Bool.or_eq_true, Bool.not_eq_true', Bool.not_eq_false', Bool.and_eq_false_iff, Bool.or_eq_false_iff, decide_eq_true_eq, decide_eq_false_iff_not, Int.not_lt, Int.not_le] at hc31
    replace hc31 : i < (L.pairs base a 0 0).length := by omega
    refine WC.skip ?_
    refine NX.go ?_
    refine WC.seq ?_
    refine WC.block ?_
    refine WC.seq ?_
    refine WC.region ?_
    refine WL.det rfl rfl rfl (V.assign rfl ⟨_, rfl, rfl⟩) ?_
    refine WL.nil ?_
    refine NX.go ?_
    refine WC.sub (e' := [(0, true, _), (1, true, _), (2, true, _), (8, true, _), (9, true, _), (10, true, _), (11, true, _), (12, true, _)]) ⟨rfl, rfl, rfl, rfl, rfl, rfl, rfl, rfl, trivial⟩ ?_
    refine WC.block ?_
    refine WC.loop (fun m e H => ∃ (k : Nat) (vx vy vh : Value), (k ≤ (L.pairs base b 0 0).length) ∧ (Sl tPair H (ob vh ++ M) vx (L.pairs base a 0 0)) ∧ (Sl tPair H (ob vh ++ M) vy (L.pairs base b 0 0)) ∧ (Own tTrip H (ob vh ++ M) 172 vh ((-1, -1, -1) :: (L.mids ((L.pairs base a 0 0).take i) (L.pairs base b 0 0) ++ L.row (L.pairs base a 0 0)[i] ((L.pairs base b 0 0).take k)).map L.tr)) ∧ (∀ i ∈ ob vh, H0.size ≤ i) ∧ e = [(0, true, vs), (1, true, va), (2, true, vb), (8, true, vx), (9, true, vy), (10, true, vh), (11, true, iv (i : Nat)), (12, true, iv (k : Nat))] ∧ (L.pairs base b 0 0).length - k = m ∧ Keep [] H0 H) (m0 := _) (e0 := _) (by exact ⟨0, vx, vy, vh, by omega, hx, hy, by simpa [L.row] using hO, hob, rfl, rfl, K⟩) (by exact ⟨rfl, rfl, rfl, rfl, rfl, rfl, rfl, rfl, trivial⟩) ?_
    clear K
    clear hx
    clear hy
    clear hO
    rintro _ _ H4 ⟨k, vx, vy, vh, hk, hx, hy, hO, hob, rfl, rfl, K⟩
    refine WC.seq ?_
    refine WC.seq ?_
    refine WC.region ?_
    refine WL.det rfl rfl rfl (V.move rfl ⟨_, rfl, rfl⟩) ?_
    refine WL.det rfl rfl rfl (V.move rfl ⟨_, rfl, rfl⟩) ?_
    refine WL.det rfl rfl rfl (V.len rfl Tryz.underlying170 ⟨_, rfl, rfl⟩ hy) ?_
    refine WL.det rfl rfl rfl (V.lss rfl ⟨_, rfl, rfl⟩ ⟨_, rfl, rfl⟩) ?_
    refine WL.nil ?_
    refine NX.go ?_
    refine WC.sub (e' := [(0, true, _), (1, true, _), (2, true, _), (8, true, _), (9, true, _), (10, true, _), (11, true, _), (12, true, _), (37, true, _)]) ⟨rfl, rfl, rfl, rfl, rfl, rfl, rfl, rfl, rfl, trivial⟩ ?_
    refine WC.cond ⟨_, rfl, rfl⟩ (fun hc37 => ?_) (fun hc37 => ?_)
    · -- hc37 true
      try simp only [Bool.and_eq_true, Bool.or_eq_true, Bool.not_eq_true', Bool.not_eq_false', Bool.and_eq_false_iff, Bool.or_eq_false_iff, decide_eq_true_eq, decide_eq_false_iff_not, Int.not_lt, Int.not_le] at hc37
      replace hc37 : k < (L.pairs base b 0 0).length := by omega
      refine WC.skip ?_
      refine NX.go ?_
      refine WC.seq ?_
      refine WC.block ?_
      refine WC.seq ?_
      refine WC.draw (Is _) rfl (by kernel_rfl) (by kernel_rfl) ?_
      refine QL.det rfl rfl rfl (V.move rfl ⟨_, rfl, rfl⟩) ?_
      refine QL.det rfl rfl rfl (V.move rfl ⟨_, rfl, rfl⟩) ?_
      refine QL.ex rfl rfl rfl (X.idx (i := i) rfl Tryz.underlying170 Tryz.sizeOf175 hx ⟨_, rfl, rfl⟩ ⟨_, rfl, rfl⟩ rfl (gi (by omega))) (fun v42 h42 => ?_)
      refine QL.ex rfl rfl rfl (X.field rfl Tryz.underlying175 rfl Tryz.sizeOf3 (by decide) pairA rfl h42 ⟨_, rfl, rfl⟩) (fun v43 h43 => ?_)
      refine QL.det rfl rfl rfl (V.loadInt rfl Tryz.isAgg3 Tryz.sizeOf3 h43 ⟨_, rfl, rfl⟩ (Reach.is _)) ?_
      refine QL.det rfl rfl rfl (V.move rfl ⟨_, rfl, rfl⟩) ?_
      refine QL.det rfl rfl rfl (V.move rfl ⟨_, rfl, rfl⟩) ?_
      refine QL.ex rfl rfl rfl (X.idx (i := k) rfl Tryz.underlying170 Tryz.sizeOf175 hy ⟨_, rfl, rfl⟩ ⟨_, rfl, rfl⟩ rfl (gi (by omega))) (fun v47 h47 => ?_)
      refine QL.ex rfl rfl rfl (X.field rfl Tryz.underlying175 rfl Tryz.sizeOf3 (by decide) pairA rfl h47 ⟨_, rfl, rfl⟩) (fun v48 h48 => ?_)
      refine QL.det rfl rfl rfl (V.loadInt rfl Tryz.isAgg3 Tryz.sizeOf3 h48 ⟨_, rfl, rfl⟩ (Reach.is _)) ?_
      refine QL.det rfl rfl rfl (V.eql rfl ⟨_, rfl, rfl⟩ ⟨_, rfl, rfl⟩) ?_
      refine QL.nil (fun _ hS => ?_)
      cases hS
      refine NX.go ?_
      refine WC.sub (e' := [(0, true, _), (1, true, _), (2, true, _), (8, true, _), (9, true, _), (10, true, _), (11, true, _), (12, true, _), (50, true, _)]) ⟨rfl, rfl, rfl, rfl, rfl, rfl, rfl, rfl, rfl, trivial⟩ ?_
      refine WC.cond ⟨_, rfl, rfl⟩ (fun hc50 => ?_) (fun hc50 => ?_)
      · -- hc50 true
        try simp only [Bool.and_eq_true, Bool.or_eq_true, Bool.not_eq_true', Bool.not_eq_false', Bool.and_eq_false_iff, Bool.or_eq_false_iff, decide_eq_true_eq, decide_eq_false_iff_not, Int.not_lt, Int.not_le] at hc50
        refine WC.late 18 (by kernel_rfl) ?_
        refine TL.take 0 rfl rfl rfl (by kernel_rfl) (by kernel_rfl) (by kernel_rfl) (by kernel_rfl) rfl rfl rfl rfl (V.move rfl ⟨_, rfl, rfl⟩) ?_
        refine TL.take 1 rfl rfl rfl (by kernel_rfl) (by kernel_rfl) (by kernel_rfl) (by kernel_rfl) rfl rfl rfl rfl (V.move rfl ⟨_, rfl, rfl⟩) ?_
        refine TL.take 2 rfl rfl rfl (by kernel_rfl) (by kernel_rfl) (by kernel_rfl) (by kernel_rfl) rfl rfl rfl rfl (V.move rfl ⟨_, rfl, rfl⟩) ?_
        refine TL.ex 3 rfl rfl rfl (by kernel_rfl) (by kernel_rfl) (by kernel_rfl) (by kernel_rfl) rfl rfl rfl rfl (X.idx (i := i) rfl Tryz.underlying170 Tryz.sizeOf175 hx ⟨_, rfl, rfl⟩ ⟨_, rfl, rfl⟩ rfl (gi (by omega))) (fun v54 h54 => ?_)
        refine TL.ex 4 rfl rfl rfl (by kernel_rfl) (by kernel_rfl) (by kernel_rfl) (by kernel_rfl) rfl rfl rfl rfl (X.field rfl Tryz.underlying175 rfl Tryz.sizeOf3 (by decide) pairA rfl h54 ⟨_, rfl, rfl⟩) (fun v55 h55 => ?_)
        refine TL.take 5 rfl rfl rfl (by kernel_rfl) (by kernel_rfl) (by kernel_rfl) (by kernel_rfl) rfl rfl rfl rfl (V.loadInt rfl Tryz.isAgg3 Tryz.sizeOf3 h55 ⟨_, rfl, rfl⟩ (Reach.up _)) ?_
        refine TL.take 6 rfl rfl rfl (by kernel_rfl) (by kernel_rfl) (by kernel_rfl) (by kernel_rfl) rfl rfl rfl rfl (V.move rfl ⟨_, rfl, rfl⟩) ?_
        refine TL.take 7 rfl rfl rfl (by kernel_rfl) (by kernel_rfl) (by kernel_rfl) (by kernel_rfl) rfl rfl rfl rfl (V.move rfl ⟨_, rfl, rfl⟩) ?_
        refine TL.ex 8 rfl rfl rfl (by kernel_rfl) (by kernel_rfl) (by kernel_rfl) (by kernel_rfl) rfl rfl rfl rfl (X.idx (i := i) rfl Tryz.underlying170 Tryz.sizeOf175 hx ⟨_, rfl, rfl⟩ ⟨_, rfl, rfl⟩ rfl (gi (by omega))) (fun v59 h59 => ?_)
        refine TL.ex 9 rfl rfl rfl (by kernel_rfl) (by kernel_rfl) (by kernel_rfl) (by kernel_rfl) rfl rfl rfl rfl (X.field rfl Tryz.underlying175 rfl Tryz.sizeOf3 (by decide) pairB rfl h59 ⟨_, rfl, rfl⟩) (fun v60 h60 => ?_)
        refine TL.take 10 rfl rfl rfl (by kernel_rfl) (by kernel_rfl) (by kernel_rfl) (by kernel_rfl) rfl rfl rfl rfl (V.loadInt rfl Tryz.isAgg3 Tryz.sizeOf3 h60 ⟨_, rfl, rfl⟩ (Reach.up _)) ?_
        refine TL.take 11 rfl rfl rfl (by kernel_rfl) (by kernel_rfl) (by kernel_rfl) (by kernel_rfl) rfl rfl rfl rfl (V.move rfl ⟨_, rfl, rfl⟩) ?_
        refine TL.take 12 rfl rfl rfl (by kernel_rfl) (by kernel_rfl) (by kernel_rfl) (by kernel_rfl) rfl rfl rfl rfl (V.move rfl ⟨_, rfl, rfl⟩) ?_
        refine TL.ex 13 rfl rfl rfl (by kernel_rfl) (by kernel_rfl) (by kernel_rfl) (by kernel_rfl) rfl rfl rfl rfl (X.idx (i := k) rfl Tryz.underlying170 Tryz.sizeOf175 hy ⟨_, rfl, rfl⟩ ⟨_, rfl, rfl⟩ rfl (gi (by omega))) (fun v64 h64 => ?_)
        refine TL.ex 14 rfl rfl rfl (by kernel_rfl) (by kernel_rfl) (by kernel_rfl) (by kernel_rfl) rfl rfl rfl rfl (X.field rfl Tryz.underlying175 rfl Tryz.sizeOf3 (by decide) pairB rfl h64 ⟨_, rfl, rfl⟩) (fun v65 h65 => ?_)
        refine TL.take 15 rfl rfl rfl (by kernel_rfl) (by kernel_rfl) (by kernel_rfl) (by kernel_rfl) rfl rfl rfl rfl (V.loadInt rfl Tryz.isAgg3 Tryz.sizeOf3 h65 ⟨_, rfl, rfl⟩ (Reach.up _)) ?_
        refine TL.take 16 rfl rfl rfl (by kernel_rfl) (by kernel_rfl) (by kernel_rfl) (by kernel_rfl) rfl rfl rfl rfl (V.build (vs := [(0, iv (((L.pairs base a 0 0)[i].1 : Nat))), (1, iv (((L.pairs base a 0 0)[i].2 : Nat))), (2, iv (((L.pairs base b 0 0)[k].2 : Nat)))]) rfl (fun a hf => by simp [hf.eval (x := .tmp 56) ⟨_, rfl, rfl⟩, hf.eval (x := .tmp 61) ⟨_, rfl, rfl⟩, hf.eval (x := .tmp 66) ⟨_, rfl, rfl⟩]) (build3 (((L.pairs base a 0 0)[i].1 : Nat)) (((L.pairs base a 0 0)[i].2 : Nat)) (((L.pairs base b 0 0)[k].2 : Nat)))) ?_
        refine TL.one 17 rfl (by kernel_rfl) rfl rfl ?_
        refine WL.buildSlice (n := 1) (size := tTrip.size) (xs := [_]) (vs := [_]) (css := [iv ((L.pairs base a 0 0)[i].1 : Nat), iv ((L.pairs base a 0 0)[i].2 : Nat), iv ((L.pairs base b 0 0)[k].2 : Nat)]) rfl rfl rfl rfl Tryz.underlying173 Tryz.sizeOf172 Tryz.zeroValue172 (.cons ⟨_, rfl, rfl⟩ .nil) rfl (by decide) (fun v hv => by simp at hv; subst hv; rfl) rfl (fun g68 H5 hB68 hn68 k5 => ?_)
        refine TL.rest k5 rfl (by kernel_rfl) rfl (by kernel_rfl) ?_
        replace hx := hx.at k5
        replace hy := hy.at k5
        replace hO := hO.at k5
        replace K := K.trans k5
        refine WL.app (T := tTrip) (M := M) (ys := [L.tr ((L.pairs base a 0 0)[i].1, (L.pairs base a 0 0)[i].2, (L.pairs base b 0 0)[k].2)]) rfl rfl rfl rfl Tryz.underlying173 Tryz.underlying173 (fun _ h => by cases h) Tryz.typeInfo172 rfl rfl rfl ⟨_, rfl, rfl⟩ ⟨_, rfl, rfl⟩ hO ⟨_, Src.bx (m := 1) hB68 rfl, Elems.single (show tTrip.R _ _ _ (L.tr ((L.pairs base a 0 0)[i].1, (L.pairs base a 0 0)[i].2, (L.pairs base b 0 0)[k].2)) from ⟨rfl, trip_in (u := (L.pairs base a 0 0)[i]) (v := (L.pairs base b 0 0)[k]) (List.getElem_mem _) (List.getElem_mem _) hls hla hlb⟩)⟩ (by show (_ + _) * 24 ≤ 140737488355328; have h1 := L.row_le (L.pairs base a 0 0)[i] ((L.pairs base b 0 0).take k); rw [List.length_take] at h1; simp; omega) (by decide) (fun v69 H6 hO69 a6 => ?_)
        replace hx := hx.app a6
        replace hy := hy.app a6
        have hob69 := a6.new K hob
        replace K := a6.K K hob
        refine WL.det rfl rfl rfl (V.assign rfl ⟨_, rfl, rfl⟩) ?_
        refine WL.nilN ?_
        refine NX.block_normal ?_
        refine NX.go ?_
        refine WC.sub (e' := [(0, true, _), (1, true, _), (2, true, _), (8, true, _), (9, true, _), (10, true, _), (11, true, _), (12, true, _)]) ⟨rfl, rfl, rfl, rfl, rfl, rfl, rfl, rfl, trivial⟩ ?_
        refine WC.region ?_
        refine WL.det rfl rfl rfl (V.move rfl ⟨_, rfl, rfl⟩) ?_
        refine WL.det rfl rfl rfl (V.add rfl ⟨_, rfl, rfl⟩ ⟨_, rfl, rfl⟩ (by unfold I64; omega)) ?_
        refine WL.det rfl rfl rfl (V.assign rfl ⟨_, rfl, rfl⟩) ?_
        refine WL.nil ?_
        have hrt := L.row_take (L.pairs base a 0 0)[i] (L.pairs base b 0 0) k hc37
        first
          | (rw [if_neg (by omega), List.append_nil] at hrt
             exact Head.mk ⟨k + 1, vx, vy, vh, by omega, hx, hy, by rw [hrt]; exact hO, hob, rfl, rfl, K⟩ ⟨rfl, rfl, rfl, rfl, rfl, rfl, rfl, rfl, trivial⟩ (by omega))
          | (rw [if_pos (by omega)] at hrt
             exact Head.mk ⟨k + 1, vx, vy, v69, by omega, hx, hy, by rw [hrt]; simpa using hO69, hob69, rfl, rfl, K⟩ ⟨rfl, rfl, rfl, rfl, rfl, rfl, rfl, rfl, trivial⟩ (by omega))
      · -- hc50 false
        try simp only [Bool.and_eq_true, Bool.or_eq_true, Bool.not_eq_true', Bool.not_eq_false', Bool.and_eq_false_iff, Bool.or_eq_false_iff, decide_eq_true_eq, decide_eq_false_iff_not, Int.not_lt, Int.not_le] at hc50
        refine WC.skip ?_
        refine NX.block_normal ?_
        refine NX.go ?_
        refine WC.region ?_
        refine WL.det rfl rfl rfl (V.move rfl ⟨_, rfl, rfl⟩) ?_
        refine WL.det rfl rfl rfl (V.add rfl ⟨_, rfl, rfl⟩ ⟨_, rfl, rfl⟩ (by unfold I64; omega)) ?_
        refine WL.det rfl rfl rfl (V.assign rfl ⟨_, rfl, rfl⟩) ?_
        refine WL.nil ?_
        have hrt := L.row_take (L.pairs base a 0 0)[i] (L.pairs base b 0 0) k hc37
        first
          | (rw [if_neg (by omega), List.append_nil] at hrt
             exact Head.mk ⟨k + 1, vx, vy, vh, by omega, hx, hy, by rw [hrt]; exact hO, hob, rfl, rfl, K⟩ ⟨rfl, rfl, rfl, rfl, rfl, rfl, rfl, rfl, trivial⟩ (by omega))
          | (rw [if_pos (by omega)] at hrt
             exact Head.mk ⟨k + 1, vx, vy, v69, by omega, hx, hy, by rw [hrt]; simpa using hO69, hob69, rfl, rfl, K⟩ ⟨rfl, rfl, rfl, rfl, rfl, rfl, rfl, rfl, trivial⟩ (by omega))
    · -- hc37 false
      try simp only [Bool.and_eq_true, Bool.or_eq_true, Bool.not_eq_true', Bool.not_eq_false', Bool.and_eq_false_iff, Bool.or_eq_false_iff, decide_eq_true_eq, decide_eq_false_iff_not, Int.not_lt, Int.not_le] at hc37
      refine WC.exit ?_
      refine NX.of_exit ?_
      refine NX.of_exit ?_
      refine NX.block_hit ?_
      refine NX.block_normal ?_
      refine NX.go ?_
      refine WC.region ?_
      refine WL.det rfl rfl rfl (V.move rfl ⟨_, rfl, rfl⟩) ?_
      refine WL.det rfl rfl rfl (V.add rfl ⟨_, rfl, rfl⟩ ⟨_, rfl, rfl⟩ (by unfold I64; omega)) ?_
      refine WL.det rfl rfl rfl (V.assign rfl ⟨_, rfl, rfl⟩) ?_
      refine WL.nil ?_
      obtain rfl : k = (L.pairs base b 0 0).length := by omega
      rw [List.take_length] at hO
      have hmt := L.mids_take (L.pairs base a 0 0) (L.pairs base b 0 0) i hc31
      rw [← hmt] at hO
      exact Head.mk ⟨i + 1, vx, vy, vh, by omega, hx, hy, hO, hob, by rw [hmt, List.length_append]; have := L.row_le (L.pairs base a 0 0)[i] (L.pairs base b 0 0); omega, rfl, rfl, K⟩ ⟨rfl, rfl, rfl, rfl, rfl, rfl, rfl, trivial⟩ (by omega)
  · -- hc31 false
    try simp only [Bool.and_eq_true, Bool.or_eq_true, Bool.not_eq_true', Bool.not_eq_false', Bool.and_eq_false_iff, Bool.or_eq_false_iff, decide_eq_true_eq, decide_eq_false_iff_not, Int.not_lt, Int.not_le] at hc31
    obtain rfl : i = (L.pairs base a 0 0).length := by omega
    rw [List.take_length] at hO hml
    have hmx : L.mids (L.pairs base a 0 0) (L.pairs base b 0 0) = L.MX base a b := rfl
    rw [hmx] at hO hml
    refine WC.exit ?_
    refine NX.of_exit ?_
    refine NX.of_exit ?_
    refine NX.block_hit ?_
    refine NX.go ?_
    refine WC.seq ?_
    refine WC.region ?_
    refine WL.det rfl rfl rfl (V.move rfl ⟨_, rfl, rfl⟩) ?_
    refine WL.det rfl rfl rfl (V.move rfl ⟨_, rfl, rfl⟩) ?_
    refine WL.det rfl rfl rfl (V.len rfl Tryz.underlying142 ⟨_, rfl, rfl⟩ (hs.at K)) ?_
    refine WL.det rfl rfl rfl (V.move rfl ⟨_, rfl, rfl⟩) ?_
    refine WL.det rfl rfl rfl (V.len rfl Tryz.underlying142 ⟨_, rfl, rfl⟩ (ha.at K)) ?_
    refine WL.det rfl rfl rfl (V.move rfl ⟨_, rfl, rfl⟩) ?_
    refine WL.det rfl rfl rfl (V.len rfl Tryz.underlying142 ⟨_, rfl, rfl⟩ (hb.at K)) ?_
    refine WL.det rfl rfl rfl (V.build (vs := [(0, iv ((base.length : Nat))), (1, iv ((a.length : Nat))), (2, iv ((b.length : Nat)))]) rfl (fun a hf => by simp [hf.eval (x := .tmp 72) ⟨_, rfl, rfl⟩, hf.eval (x := .tmp 74) ⟨_, rfl, rfl⟩, hf.eval (x := .tmp 76) ⟨_, rfl, rfl⟩]) (build3 ((base.length : Nat)) ((a.length : Nat)) ((b.length : Nat)))) ?_
    refine WL.app1 (T := tTrip) (M := M) rfl rfl rfl rfl rfl rfl rfl rfl Tryz.underlying173 Tryz.typeInfo172 rfl rfl rfl (by decide) ⟨_, rfl, rfl⟩ (show tTrip.V _ _ _ ((base.length : Int), (a.length : Int), (b.length : Int)) from ⟨_, ⟨rfl, by dsimp only; unfold I64; omega, by dsimp only; unfold I64; omega, by dsimp only; unfold I64; omega⟩, rfl⟩) (fun _ => ⟨_, rfl, rfl⟩) hO (by show (_ + 1) * 24 ≤ 140737488355328; simp; omega) (by decide) (fun v79 H4 tmp4 hO79 a4 => ?_)
    replace hx := hx.app a4
    replace hy := hy.app a4
    have hob79 := a4.new K hob
    replace K := a4.K K hob
    have hF : Sl tTrip _ M _ (fullT base a b) := hO79.give hob79 hM
    refine WL.det rfl rfl rfl (V.assign rfl ⟨_, rfl, rfl⟩) ?_
    refine WL.nil ?_
    refine NX.go ?_
    refine WC.sub (e' := [(0, true, _), (1, true, _), (2, true, _), (10, true, _)]) ⟨rfl, rfl, rfl, rfl, trivial⟩ ?_
    refine WC.seq ?_
    refine WC.region ?_
    refine WL.det rfl rfl rfl (V.assign rfl ⟨_, rfl, rfl⟩) ?_
    refine WL.nil ?_
    refine NX.go ?_
    refine WC.sub (e' := [(0, true, _), (1, true, _), (2, true, _), (10, true, _), (13, true, _)]) ⟨rfl, rfl, rfl, rfl, rfl, trivial⟩ ?_
    refine WC.seq ?_
    refine WC.seq ?_
    refine WC.region ?_
    refine WL.det rfl rfl rfl (V.assign rfl ⟨_, rfl, rfl⟩) ?_
    refine WL.nil ?_
    refine NX.go ?_
    refine WC.sub (e' := [(0, true, _), (1, true, _), (2, true, _), (10, true, _), (13, true, _), (14, true, _)]) ⟨rfl, rfl, rfl, rfl, rfl, rfl, trivial⟩ ?_
    refine WC.block ?_
    refine WC.loop (fun m e H => ∃ (w i0 j0 k0 : Nat) (vh vo : Value) (out : L.Ls), (w ≤ (L.MX base a b).length + 1) ∧ (Sl tTrip H (ob vo ++ M) vh (fullT base a b)) ∧ (Own (tSl tByte) H (ob vo ++ M) 41 vo out) ∧ (∀ i ∈ ob vo, H0.size ≤ i) ∧ (At base a b w i0 j0 k0 out) ∧ (out.length ≤ i0 + j0 + k0) ∧ (i0 ≤ 1001 ∧ j0 ≤ 1001 ∧ k0 ≤ 1001) ∧ e = [(0, true, vs), (1, true, va), (2, true, vb), (10, true, vh), (13, true, vo), (14, true, iv ((w + 1 : Nat) : Int))] ∧ (L.MX base a b).length + 1 - w = m ∧ Keep [] H0 H) (m0 := _) (e0 := _) (by exact ⟨0, 0, 0, 0, v79, .slice none 0 0, [], by omega, hF, Own.nil _ _ _ _, fun i hi => by simp [ob] at hi, At.start base a b, by simp, by omega, rfl, rfl, K⟩) (by exact ⟨rfl, rfl, rfl, rfl, rfl, rfl, trivial⟩) ?_
    clear K
    clear hx
    clear hy
    clear hO79
    rintro _ _ H5 ⟨w, i0, j0, k0, vh, vo, out, hm, hF, hO, hob, hA, hsum, hb1, rfl, rfl, K⟩
    have hsI := hs.in K hob
    have haI := ha.in K hob
    have hbI := hb.in K hob
    obtain ⟨hb1, hb2, hb3⟩ := hb1
    have hfl := fullT_len base a b
    refine WC.seq ?_
    refine WC.seq ?_
    refine WC.region ?_
    refine WL.det rfl rfl rfl (V.move rfl ⟨_, rfl, rfl⟩) ?_
    refine WL.det rfl rfl rfl (V.move rfl ⟨_, rfl, rfl⟩) ?_
    refine WL.det rfl rfl rfl (V.len rfl Tryz.underlying173 ⟨_, rfl, rfl⟩ hF) ?_
    refine WL.det rfl rfl rfl (V.lss rfl ⟨_, rfl, rfl⟩ ⟨_, rfl, rfl⟩) ?_
    refine WL.nil ?_
    refine NX.go ?_
    refine WC.sub (e' := [(0, true, _), (1, true, _), (2, true, _), (10, true, _), (13, true, _), (14, true, _), (83, true, _)]) ⟨rfl, rfl, rfl, rfl, rfl, rfl, rfl, trivial⟩ ?_
    refine WC.cond ⟨_, rfl, rfl⟩ (fun hc83 => ?_) (fun hc83 => ?_)
    · -- hc83 true
      try simp only [Bool.and_eq_true, Bool.or_eq_true, Bool.not_eq_true', Bool.not_eq_false', Bool.and_eq_false_iff, Bool.or_eq_false_iff, decide_eq_true_eq, decide_eq_false_iff_not, Int.not_lt, Int.not_le] at hc83
      obtain ⟨n, p, q, f1, f2, g1, g2, g3, g4, g5, g6, g7, g8, g9⟩ := hA.next (show w ≤ (L.MX base a b).length by omega)
      refine WC.skip ?_
      refine NX.go ?_
      refine WC.seq ?_
      refine WC.block ?_
      refine WC.seq ?_
      refine WC.fresh (by kernel_rfl) ?_
      refine TA.take 0 rfl (by kernel_rfl) (by kernel_rfl) (by kernel_rfl) rfl rfl rfl rfl (V.move rfl ⟨_, rfl, rfl⟩) ?_
      refine TA.take 1 rfl (by kernel_rfl) (by kernel_rfl) (by kernel_rfl) rfl rfl rfl rfl (V.move rfl ⟨_, rfl, rfl⟩) ?_
      refine TA.take 2 rfl (by kernel_rfl) (by kernel_rfl) (by kernel_rfl) rfl rfl rfl rfl (V.sub rfl ⟨_, rfl, rfl⟩ ⟨_, rfl, rfl⟩ (by unfold I64; omega)) ?_
      refine TA.ex 3 rfl (by kernel_rfl) (by kernel_rfl) (by kernel_rfl) rfl rfl rfl rfl (X.idx (i := w) rfl Tryz.underlying173 Tryz.sizeOf172 hF ⟨_, rfl, rfl⟩ ⟨_, rfl, rfl⟩ (by omega) f1) (fun v89 h89 => ?_)
      refine TA.ex 4 rfl (by kernel_rfl) (by kernel_rfl) (by kernel_rfl) rfl rfl rfl rfl (X.load rfl Tryz.isAgg172 Tryz.sizeOf172 h89 ⟨_, rfl, rfl⟩ (Reach.up _)) (fun v90 h90 => ?_)
      refine TA.take 5 rfl (by kernel_rfl) (by kernel_rfl) (by kernel_rfl) rfl rfl rfl rfl (V.move rfl ⟨_, rfl, rfl⟩) ?_
      refine TA.take 6 rfl (by kernel_rfl) (by kernel_rfl) (by kernel_rfl) rfl rfl rfl rfl (V.move rfl ⟨_, rfl, rfl⟩) ?_
      refine TA.ex 7 rfl (by kernel_rfl) (by kernel_rfl) (by kernel_rfl) rfl rfl rfl rfl (X.idx (i := w + 1) rfl Tryz.underlying173 Tryz.sizeOf172 hF ⟨_, rfl, rfl⟩ ⟨_, rfl, rfl⟩ (by omega) f2) (fun v93 h93 => ?_)
      refine TA.ex 8 rfl (by kernel_rfl) (by kernel_rfl) (by kernel_rfl) rfl rfl rfl rfl (X.load rfl Tryz.isAgg172 Tryz.sizeOf172 h93 ⟨_, rfl, rfl⟩ (Reach.up _)) (fun v94 h94 => ?_)
      obtain ⟨cs90, ⟨rfl, hok90⟩, rfl⟩ := h90
      obtain ⟨cs94, ⟨rfl, hok94⟩, rfl⟩ := h94
      have hol := hO.lt
      refine TA.boxes2 (zs1 := [iv 0, iv 0, iv 0]) (zs2 := [iv 0, iv 0, iv 0]) (cs1 := [iv ((i0 : Int) - 1), iv ((j0 : Int) - 1), iv ((k0 : Int) - 1)]) (cs2 := [iv (n : Nat), iv (p : Nat), iv (q : Nat)]) 9 rfl rfl rfl rfl (by kernel_rfl) (by kernel_rfl) (by kernel_rfl) (by kernel_rfl) (by kernel_rfl) (by kernel_rfl) rfl rfl rfl rfl rfl rfl rfl rfl rfl rfl (by decide) rfl rfl rfl rfl Tryz.zeroValue172 Tryz.zeroValue172 rfl rfl (fun _ _ => ⟨_, rfl, rfl⟩) (fun _ _ => ⟨_, rfl, rfl⟩) rfl rfl Tryz.sizeOf172 Tryz.sizeOf172 (fun u hu => by simp at hu; rcases hu with rfl | rfl | rfl <;> rfl) (fun u hu => by simp at hu; rcases hu with rfl | rfl | rfl <;> rfl) rfl rfl (fun g15 g16 H6 hB15 hB16 hn15 hn16 hne15 k6 => ?_)
      replace hF := hF.at k6
      replace hO := hO.at k6
      replace hsI := hsI.at k6
      replace haI := haI.at k6
      replace hbI := hbI.at k6
      replace K := K.trans k6
      refine NX.go ?_
      refine WC.sub (e' := [(0, true, _), (1, true, _), (2, true, _), (10, true, _), (13, true, _), (14, true, _), (15, true, _), (16, true, _)]) ⟨rfl, rfl, rfl, rfl, rfl, rfl, rfl, rfl, trivial⟩ ?_
      refine WC.seq ?_
      refine WC.draw (Is _) rfl (by kernel_rfl) (by kernel_rfl) ?_
      refine QL.det rfl rfl rfl (V.move rfl ⟨_, rfl, rfl⟩) ?_
      refine QL.det rfl rfl rfl (V.indexArr 0 rfl Tryz.underlying172 Tryz.sizeOf3 ⟨_, rfl, rfl⟩ (show Ev _ _ (.int _ ((0 : Nat) : Int)) from ⟨_, rfl, rfl⟩) (by decide) rfl) ?_
      refine QL.det rfl rfl rfl (G.load rfl Tryz.isAgg3 ⟨_, rfl, rfl⟩ (hB15.get rfl) (Reach.is _)) ?_
      refine QL.det rfl rfl rfl (V.add rfl ⟨_, rfl, rfl⟩ ⟨_, rfl, rfl⟩ (by unfold I64; omega)) ?_
      refine QL.det rfl rfl rfl (V.indexArr 0 rfl Tryz.underlying172 Tryz.sizeOf3 ⟨_, rfl, rfl⟩ (show Ev _ _ (.int _ ((0 : Nat) : Int)) from ⟨_, rfl, rfl⟩) (by decide) rfl) ?_
      refine QL.det rfl rfl rfl (G.load rfl Tryz.isAgg3 ⟨_, rfl, rfl⟩ (hB16.get rfl) (Reach.is _)) ?_
      refine QL.ex rfl rfl rfl (X.sliceBoth (lo := i0) (hi := n) rfl Tryz.underlying142 Tryz.sizeOf41 hsI ⟨_, rfl, rfl⟩ ⟨_, rfl, rfl⟩ ⟨_, rfl, rfl⟩ (by omega) rfl (by omega) (by omega)) (fun v101 h101 => ?_)
      refine QL.det rfl rfl rfl (V.move rfl ⟨_, rfl, rfl⟩) ?_
      refine QL.det rfl rfl rfl (V.indexArr 1 rfl Tryz.underlying172 Tryz.sizeOf3 ⟨_, rfl, rfl⟩ (show Ev _ _ (.int _ ((1 : Nat) : Int)) from ⟨_, rfl, rfl⟩) (by decide) rfl) ?_
      refine QL.det rfl rfl rfl (G.load rfl Tryz.isAgg3 ⟨_, rfl, rfl⟩ (hB15.get rfl) (Reach.is _)) ?_
      refine QL.det rfl rfl rfl (V.add rfl ⟨_, rfl, rfl⟩ ⟨_, rfl, rfl⟩ (by unfold I64; omega)) ?_
      refine QL.det rfl rfl rfl (V.indexArr 1 rfl Tryz.underlying172 Tryz.sizeOf3 ⟨_, rfl, rfl⟩ (show Ev _ _ (.int _ ((1 : Nat) : Int)) from ⟨_, rfl, rfl⟩) (by decide) rfl) ?_
      refine QL.det rfl rfl rfl (G.load rfl Tryz.isAgg3 ⟨_, rfl, rfl⟩ (hB16.get rfl) (Reach.is _)) ?_
      refine QL.ex rfl rfl rfl (X.sliceBoth (lo := j0) (hi := p) rfl Tryz.underlying142 Tryz.sizeOf41 haI ⟨_, rfl, rfl⟩ ⟨_, rfl, rfl⟩ ⟨_, rfl, rfl⟩ (by omega) rfl (by omega) (by omega)) (fun v108 h108 => ?_)
      refine QL.det rfl rfl rfl (V.move rfl ⟨_, rfl, rfl⟩) ?_
      refine QL.det rfl rfl rfl (V.indexArr 2 rfl Tryz.underlying172 Tryz.sizeOf3 ⟨_, rfl, rfl⟩ (show Ev _ _ (.int _ ((2 : Nat) : Int)) from ⟨_, rfl, rfl⟩) (by decide) rfl) ?_
      refine QL.det rfl rfl rfl (G.load rfl Tryz.isAgg3 ⟨_, rfl, rfl⟩ (hB15.get rfl) (Reach.is _)) ?_
      refine QL.det rfl rfl rfl (V.add rfl ⟨_, rfl, rfl⟩ ⟨_, rfl, rfl⟩ (by unfold I64; omega)) ?_
      refine QL.det rfl rfl rfl (V.indexArr 2 rfl Tryz.underlying172 Tryz.sizeOf3 ⟨_, rfl, rfl⟩ (show Ev _ _ (.int _ ((2 : Nat) : Int)) from ⟨_, rfl, rfl⟩) (by decide) rfl) ?_
      refine QL.det rfl rfl rfl (G.load rfl Tryz.isAgg3 ⟨_, rfl, rfl⟩ (hB16.get rfl) (Reach.is _)) ?_
      refine QL.ex rfl rfl rfl (X.sliceBoth (lo := k0) (hi := q) rfl Tryz.underlying142 Tryz.sizeOf41 hbI ⟨_, rfl, rfl⟩ ⟨_, rfl, rfl⟩ ⟨_, rfl, rfl⟩ (by omega) rfl (by omega) (by omega)) (fun v115 h115 => ?_)
      refine QL.det rfl rfl rfl (V.assign rfl ⟨_, rfl, rfl⟩) ?_
      refine QL.det rfl rfl rfl (V.assign rfl ⟨_, rfl, rfl⟩) ?_
      refine QL.det rfl rfl rfl (V.assign rfl ⟨_, rfl, rfl⟩) ?_
      refine QL.nil (fun _ hS => ?_)
      cases hS
      refine NX.go ?_
      refine WC.sub (e' := [(0, true, _), (1, true, _), (2, true, _), (10, true, _), (13, true, _), (14, true, _), (16, true, _), (17, true, _), (18, true, _), (19, true, _)]) ⟨rfl, rfl, rfl, rfl, rfl, rfl, rfl, rfl, rfl, rfl, trivial⟩ ?_
      refine WC.seq ?_
      refine WC.seq ?_
      refine WC.region ?_
      refine WL.det rfl rfl rfl (V.move rfl ⟨_, rfl, rfl⟩) ?_
      refine WL.det rfl rfl rfl (V.move rfl ⟨_, rfl, rfl⟩) ?_
      refine WL.call rfl rfl rfl rfl (.cons ⟨_, rfl, rfl⟩ (.cons ⟨_, rfl, rfl⟩ .nil)) (sameLinesM h108 h101) ?_
      rintro _ H7 ⟨rfl, k7⟩
      replace hF := hF.at k7
      replace hO := hO.at k7
      replace hsI := hsI.at k7
      replace haI := haI.at k7
      replace hbI := hbI.at k7
      replace hB15 := hB15.at k7
      replace hB16 := hB16.at k7
      replace h101 := h101.at k7
      replace h108 := h108.at k7
      replace h115 := h115.at k7
      replace K := K.trans k7
      refine WL.det rfl rfl rfl (V.move rfl ⟨_, rfl, rfl⟩) ?_
      refine WL.gdet (Gd.no1 rfl rfl rfl rfl) rfl rfl (fun hg => V.move rfl ⟨_, rfl, rfl⟩) ?_
      refine WL.gdet (Gd.no1 rfl rfl rfl rfl) rfl rfl (fun hg => V.move rfl ⟨_, rfl, rfl⟩) ?_
      refine WL.gcall (Gd.no1 rfl rfl rfl rfl) rfl rfl rfl (fun hg => (.cons ⟨_, rfl, hg⟩ (.cons ⟨_, rfl, hg⟩ .nil))) (fun hg => sameLinesM h108 h115) (fun H8 k8 => ?_)
      replace hF := hF.at k8
      replace hO := hO.at k8
      replace hsI := hsI.at k8
      replace haI := haI.at k8
      replace hbI := hbI.at k8
      replace hB15 := hB15.at k8
      replace hB16 := hB16.at k8
      replace h101 := h101.at k8
      replace h108 := h108.at k8
      replace h115 := h115.at k8
      replace K := K.trans k8
      refine WL.det rfl rfl rfl (V.or rfl ⟨_, rfl, rfl⟩ (fun hb => ⟨_, rfl, (congrArg Bool.not hb)⟩)) ?_
      refine WL.nil ?_
      refine NX.go ?_
      refine WC.sub (e' := [(0, true, _), (1, true, _), (2, true, _), (10, true, _), (13, true, _), (14, true, _), (16, true, _), (17, true, _), (18, true, _), (19, true, _), (123, true, _)]) ⟨rfl, rfl, rfl, rfl, rfl, rfl, rfl, rfl, rfl, rfl, rfl, trivial⟩ ?_
      refine WC.cond ⟨_, rfl, rfl⟩ (fun hc123 => ?_) (fun hc123 => ?_)
      · -- hc123 true
        try simp only [Bool.and_eq_true, Bool.or_eq_true, Bool.not_eq_true', Bool.not_eq_false', Bool.and_eq_false_iff, Bool.or_eq_false_iff, decide_eq_true_eq, decide_eq_false_iff_not, Int.not_lt, Int.not_le] at hc123
        refine WC.region ?_
        refine WL.det rfl rfl rfl (V.move rfl ⟨_, rfl, rfl⟩) ?_
        refine WL.det rfl rfl rfl (V.move rfl ⟨_, rfl, rfl⟩) ?_
        refine WL.app (T := (tSl tByte)) (M := M) rfl rfl rfl rfl Tryz.underlying142 Tryz.underlying142 (fun _ h => by cases h) Tryz.typeInfo41 rfl rfl rfl ⟨_, rfl, rfl⟩ ⟨_, rfl, rfl⟩ hO (Src.sl h115) (by show (_ + _) * 24 ≤ 140737488355328; (have := L.cut_length b k0 q (by omega); unfold L.cut at this; omega)) (by decide) (fun v126 H9 hO126 a9 => ?_)
        replace hF := hF.app a9
        replace hsI := hsI.app a9
        replace haI := haI.app a9
        replace hbI := hbI.app a9
        replace hB15 := hB15.keep a9.keep (fun hm => by have := hol _ hm; omega)
        replace hB16 := hB16.keep a9.keep (fun hm => by have := hol _ hm; omega)
        replace h101 := h101.app a9
        replace h108 := h108.app a9
        replace h115 := h115.app a9
        have hob126 := a9.new K hob
        replace K := a9.K K hob
        refine WL.det rfl rfl rfl (V.assign rfl ⟨_, rfl, rfl⟩) ?_
        refine WL.nil ?_
        refine NX.go ?_
        refine WC.sub (e' := [(0, true, _), (1, true, _), (2, true, _), (10, true, _), (13, true, _), (14, true, _), (16, true, _)]) ⟨rfl, rfl, rfl, rfl, rfl, rfl, rfl, trivial⟩ ?_
        refine WC.seq ?_
        refine WC.region ?_
        refine WL.det rfl rfl rfl (V.move rfl ⟨_, rfl, rfl⟩) ?_
        refine WL.det rfl rfl rfl (V.move rfl ⟨_, rfl, rfl⟩) ?_
        refine WL.det rfl rfl rfl (V.len rfl Tryz.underlying173 ⟨_, rfl, rfl⟩ hF) ?_
        refine WL.det rfl rfl rfl (V.sub rfl ⟨_, rfl, rfl⟩ ⟨_, rfl, rfl⟩ (by unfold I64; omega)) ?_
        refine WL.det rfl rfl rfl (V.lss rfl ⟨_, rfl, rfl⟩ ⟨_, rfl, rfl⟩) ?_
        refine WL.nil ?_
        refine NX.go ?_
        refine WC.sub (e' := [(0, true, _), (1, true, _), (2, true, _), (10, true, _), (13, true, _), (14, true, _), (16, true, _), (137, true, _)]) ⟨rfl, rfl, rfl, rfl, rfl, rfl, rfl, rfl, trivial⟩ ?_
        refine WC.cond ⟨_, rfl, rfl⟩ (fun hc137 => ?_) (fun hc137 => ?_)
        · -- hc137 true
          try simp only [Bool.and_eq_true, Bool.or_eq_true, Bool.not_eq_true', Bool.not_eq_false', Bool.and_eq_false_iff, Bool.or_eq_false_iff, decide_eq_true_eq, decide_eq_false_iff_not, Int.not_lt, Int.not_le] at hc137
          refine WC.region ?_
          refine WL.det rfl rfl rfl (V.move rfl ⟨_, rfl, rfl⟩) ?_
          refine WL.det rfl rfl rfl (V.move rfl ⟨_, rfl, rfl⟩) ?_
          refine WL.det rfl rfl rfl (V.indexArr 0 rfl Tryz.underlying172 Tryz.sizeOf3 ⟨_, rfl, rfl⟩ (show Ev _ _ (.int _ ((0 : Nat) : Int)) from ⟨_, rfl, rfl⟩) (by decide) rfl) ?_
          refine WL.det rfl rfl rfl (G.load rfl Tryz.isAgg3 ⟨_, rfl, rfl⟩ (hB16.get rfl) (Reach.is _)) ?_
          refine WL.ex rfl rfl rfl (X.idx (i := n) rfl Tryz.underlying142 Tryz.sizeOf41 hsI ⟨_, rfl, rfl⟩ ⟨_, rfl, rfl⟩ rfl (gi (by omega))) (fun v142 h142 => ?_)
          refine WL.ex rfl rfl rfl (X.loadSl rfl Tryz.isAgg41 Tryz.sizeOf41 h142 ⟨_, rfl, rfl⟩ (Reach.is _)) (fun v143 h143 => ?_)
          have l143 := h143.len
          refine WL.app1 (T := (tSl tByte)) (M := M) rfl rfl rfl rfl rfl rfl rfl rfl Tryz.underlying142 Tryz.typeInfo41 rfl rfl rfl (by decide) ⟨_, rfl, rfl⟩ (tSl_V.2 h143) (fun _ => ⟨_, rfl, rfl⟩) hO126 (by show (_ + 1) * 24 ≤ 140737488355328; (have h1 := L.cut_length b k0 q (by omega); have h2 := L.cut_length a j0 p (by omega); unfold L.cut at h1 h2; rw [List.length_append]; omega)) (by decide) (fun v145 H10 tmp10 hO145 a10 => ?_)
          replace hF := hF.app a10
          replace hsI := hsI.app a10
          replace haI := haI.app a10
          replace hbI := hbI.app a10
          replace h101 := h101.app a10
          replace h108 := h108.app a10
          replace h115 := h115.app a10
          have hob145 := a10.new K hob126
          replace K := a10.K K hob126
          refine WL.det rfl rfl rfl (V.assign rfl ⟨_, rfl, rfl⟩) ?_
          refine WL.nil ?_
          refine NX.block_normal ?_
          refine NX.go ?_
          refine WC.sub (e' := [(0, true, _), (1, true, _), (2, true, _), (10, true, _), (13, true, _), (14, true, _)]) ⟨rfl, rfl, rfl, rfl, rfl, rfl, trivial⟩ ?_
          refine WC.region ?_
          refine WL.det rfl rfl rfl (V.move rfl ⟨_, rfl, rfl⟩) ?_
          refine WL.det rfl rfl rfl (V.add rfl ⟨_, rfl, rfl⟩ ⟨_, rfl, rfl⟩ (by unfold I64; omega)) ?_
          refine WL.det rfl rfl rfl (V.assign rfl ⟨_, rfl, rfl⟩) ?_
          refine WL.nil ?_
          first
            | (obtain ⟨hw1, hw2, hw3⟩ := g7 (by omega)
               have hmx := L.mix_two (hc123.imp Eq.symm id)
               have hA' := (g9 _ hmx).2 (by omega) hw1
               exact Head.mk ⟨w + 1, n + 1, p + 1, q + 1, vh, v145, _, by omega, hF, hO145, hob145, hA', by have h1 := L.cut_length b k0 q (by omega); have h2 := L.cut_length a j0 p (by omega); unfold L.cut at h1 h2; simp only [List.length_append, List.length_singleton]; omega, by omega, rfl, rfl, K⟩ ⟨rfl, rfl, rfl, rfl, rfl, rfl, trivial⟩ (by omega))
            | (obtain ⟨hw1, hw2, hw3⟩ := g7 (by omega)
               have hmx := L.mix_one (fun h => h.elim (fun e => hc123.1 e.symm) hc123.2) hc129.symm
               have hA' := (g9 _ hmx).2 (by omega) hw1
               exact Head.mk ⟨w + 1, n + 1, p + 1, q + 1, vh, v145, _, by omega, hF, hO145, hob145, hA', by have h1 := L.cut_length b k0 q (by omega); have h2 := L.cut_length a j0 p (by omega); unfold L.cut at h1 h2; simp only [List.length_append, List.length_singleton]; omega, by omega, rfl, rfl, K⟩ ⟨rfl, rfl, rfl, rfl, rfl, rfl, trivial⟩ (by omega))
            | (have hmx := L.mix_two (hc123.imp Eq.symm id)
               have hA' := (g9 _ hmx).1 (by omega)
               exact Head.mk ⟨w + 1, n + 1, p + 1, q + 1, vh, v126, _, by omega, hF, hO126, hob126, hA', by have h1 := L.cut_length b k0 q (by omega); have h2 := L.cut_length a j0 p (by omega); unfold L.cut at h1 h2; rw [List.length_append]; omega, by omega, rfl, rfl, K⟩ ⟨rfl, rfl, rfl, rfl, rfl, rfl, trivial⟩ (by omega))
            | (have hmx := L.mix_one (fun h => h.elim (fun e => hc123.1 e.symm) hc123.2) hc129.symm
               have hA' := (g9 _ hmx).1 (by omega)
               exact Head.mk ⟨w + 1, n + 1, p + 1, q + 1, vh, v132, _, by omega, hF, hO132, hob132, hA', by have h1 := L.cut_length b k0 q (by omega); have h2 := L.cut_length a j0 p (by omega); unfold L.cut at h1 h2; rw [List.length_append]; omega, by omega, rfl, rfl, K⟩ ⟨rfl, rfl, rfl, rfl, rfl, rfl, trivial⟩ (by omega))
        · -- hc137 false
          try simp only [Bool.and_eq_true, Bool.or_eq_true, Bool.not_eq_true', Bool.not_eq_false', Bool.and_eq_false_iff, Bool.or_eq_false_iff, decide_eq_true_eq, decide_eq_false_iff_not, Int.not_lt, Int.not_le] at hc137
          refine WC.skip ?_
          refine NX.block_normal ?_
          refine NX.go ?_
          refine WC.region ?_
          refine WL.det rfl rfl rfl (V.move rfl ⟨_, rfl, rfl⟩) ?_
          refine WL.det rfl rfl rfl (V.add rfl ⟨_, rfl, rfl⟩ ⟨_, rfl, rfl⟩ (by unfold I64; omega)) ?_
          refine WL.det rfl rfl rfl (V.assign rfl ⟨_, rfl, rfl⟩) ?_
          refine WL.nil ?_
          first
            | (obtain ⟨hw1, hw2, hw3⟩ := g7 (by omega)
               have hmx := L.mix_two (hc123.imp Eq.symm id)
               have hA' := (g9 _ hmx).2 (by omega) hw1
               exact Head.mk ⟨w + 1, n + 1, p + 1, q + 1, vh, v145, _, by omega, hF, hO145, hob145, hA', by have h1 := L.cut_length b k0 q (by omega); have h2 := L.cut_length a j0 p (by omega); unfold L.cut at h1 h2; simp only [List.length_append, List.length_singleton]; omega, by omega, rfl, rfl, K⟩ ⟨rfl, rfl, rfl, rfl, rfl, rfl, trivial⟩ (by omega))
            | (obtain ⟨hw1, hw2, hw3⟩ := g7 (by omega)
               have hmx := L.mix_one (fun h => h.elim (fun e => hc123.1 e.symm) hc123.2) hc129.symm
               have hA' := (g9 _ hmx).2 (by omega) hw1
               exact Head.mk ⟨w + 1, n + 1, p + 1, q + 1, vh, v145, _, by omega, hF, hO145, hob145, hA', by have h1 := L.cut_length b k0 q (by omega); have h2 := L.cut_length a j0 p (by omega); unfold L.cut at h1 h2; simp only [List.length_append, List.length_singleton]; omega, by omega, rfl, rfl, K⟩ ⟨rfl, rfl, rfl, rfl, rfl, rfl, trivial⟩ (by omega))
            | (have hmx := L.mix_two (hc123.imp Eq.symm id)
               have hA' := (g9 _ hmx).1 (by omega)
               exact Head.mk ⟨w + 1, n + 1, p + 1, q + 1, vh, v126, _, by omega, hF, hO126, hob126, hA', by have h1 := L.cut_length b k0 q (by omega); have h2 := L.cut_length a j0 p (by omega); unfold L.cut at h1 h2; rw [List.length_append]; omega, by omega, rfl, rfl, K⟩ ⟨rfl, rfl, rfl, rfl, rfl, rfl, trivial⟩ (by omega))
            | (have hmx := L.mix_one (fun h => h.elim (fun e => hc123.1 e.symm) hc123.2) hc129.symm
               have hA' := (g9 _ hmx).1 (by omega)
               exact Head.mk ⟨w + 1, n + 1, p + 1, q + 1, vh, v132, _, by omega, hF, hO132, hob132, hA', by have h1 := L.cut_length b k0 q (by omega); have h2 := L.cut_length a j0 p (by omega); unfold L.cut at h1 h2; rw [List.length_append]; omega, by omega, rfl, rfl, K⟩ ⟨rfl, rfl, rfl, rfl, rfl, rfl, trivial⟩ (by omega))
      · -- hc123 false
        try simp only [Bool.and_eq_true, Bool.or_eq_true, Bool.not_eq_true', Bool.not_eq_false', Bool.and_eq_false_iff, Bool.or_eq_false_iff, decide_eq_true_eq, decide_eq_false_iff_not, Int.not_lt, Int.not_le] at hc123
        refine WC.seq ?_
        refine WC.region ?_
        refine WL.det rfl rfl rfl (V.move rfl ⟨_, rfl, rfl⟩) ?_
        refine WL.det rfl rfl rfl (V.move rfl ⟨_, rfl, rfl⟩) ?_
        refine WL.call rfl rfl rfl rfl (.cons ⟨_, rfl, rfl⟩ (.cons ⟨_, rfl, rfl⟩ .nil)) (sameLinesM h115 h101) ?_
        rintro _ H9 ⟨rfl, k9⟩
        replace hF := hF.at k9
        replace hO := hO.at k9
        replace hsI := hsI.at k9
        replace haI := haI.at k9
        replace hbI := hbI.at k9
        replace hB15 := hB15.at k9
        replace hB16 := hB16.at k9
        replace h101 := h101.at k9
        replace h108 := h108.at k9
        replace h115 := h115.at k9
        replace K := K.trans k9
        refine WL.nil ?_
        refine NX.go ?_
        refine WC.sub (e' := [(0, true, _), (1, true, _), (2, true, _), (10, true, _), (13, true, _), (14, true, _), (16, true, _), (18, true, _), (129, true, _)]) ⟨rfl, rfl, rfl, rfl, rfl, rfl, rfl, rfl, rfl, trivial⟩ ?_
        refine WC.cond ⟨_, rfl, rfl⟩ (fun hc129 => ?_) (fun hc129 => ?_)
        · -- hc129 true
          try simp only [Bool.and_eq_true, Bool.or_eq_true, Bool.not_eq_true', Bool.not_eq_false', Bool.and_eq_false_iff, Bool.or_eq_false_iff, decide_eq_true_eq, decide_eq_false_iff_not, Int.not_lt, Int.not_le] at hc129
          refine WC.region ?_
          refine WL.det rfl rfl rfl (V.move rfl ⟨_, rfl, rfl⟩) ?_
          refine WL.det rfl rfl rfl (V.move rfl ⟨_, rfl, rfl⟩) ?_
          refine WL.app (T := (tSl tByte)) (M := M) rfl rfl rfl rfl Tryz.underlying142 Tryz.underlying142 (fun _ h => by cases h) Tryz.typeInfo41 rfl rfl rfl ⟨_, rfl, rfl⟩ ⟨_, rfl, rfl⟩ hO (Src.sl h108) (by show (_ + _) * 24 ≤ 140737488355328; (have := L.cut_length a j0 p (by omega); unfold L.cut at this; omega)) (by decide) (fun v132 H10 hO132 a10 => ?_)
          replace hF := hF.app a10
          replace hsI := hsI.app a10
          replace haI := haI.app a10
          replace hbI := hbI.app a10
          replace hB15 := hB15.keep a10.keep (fun hm => by have := hol _ hm; omega)
          replace hB16 := hB16.keep a10.keep (fun hm => by have := hol _ hm; omega)
          replace h101 := h101.app a10
          replace h108 := h108.app a10
          replace h115 := h115.app a10
          have hob132 := a10.new K hob
          replace K := a10.K K hob
          refine WL.det rfl rfl rfl (V.assign rfl ⟨_, rfl, rfl⟩) ?_
          refine WL.nil ?_
          refine NX.go ?_
          refine WC.sub (e' := [(0, true, _), (1, true, _), (2, true, _), (10, true, _), (13, true, _), (14, true, _), (16, true, _)]) ⟨rfl, rfl, rfl, rfl, rfl, rfl, rfl, trivial⟩ ?_
          refine WC.seq ?_
          refine WC.region ?_
          refine WL.det rfl rfl rfl (V.move rfl ⟨_, rfl, rfl⟩) ?_
          refine WL.det rfl rfl rfl (V.move rfl ⟨_, rfl, rfl⟩) ?_
          refine WL.det rfl rfl rfl (V.len rfl Tryz.underlying173 ⟨_, rfl, rfl⟩ hF) ?_
          refine WL.det rfl rfl rfl (V.sub rfl ⟨_, rfl, rfl⟩ ⟨_, rfl, rfl⟩ (by unfold I64; omega)) ?_
          refine WL.det rfl rfl rfl (V.lss rfl ⟨_, rfl, rfl⟩ ⟨_, rfl, rfl⟩) ?_
          refine WL.nil ?_
          refine NX.go ?_
          refine WC.sub (e' := [(0, true, _), (1, true, _), (2, true, _), (10, true, _), (13, true, _), (14, true, _), (16, true, _), (137, true, _)]) ⟨rfl, rfl, rfl, rfl, rfl, rfl, rfl, rfl, trivial⟩ ?_
          refine WC.cond ⟨_, rfl, rfl⟩ (fun hc137 => ?_) (fun hc137 => ?_)
          · -- hc137 true
            try simp only [Bool.and_eq_true, Bool.or_eq_true, Bool.not_eq_true', Bool.not_eq_false', Bool.and_eq_false_iff, Bool.or_eq_false_iff, decide_eq_true_eq, decide_eq_false_iff_not, Int.not_lt, Int.not_le] at hc137
            refine WC.region ?_
            refine WL.det rfl rfl rfl (V.move rfl ⟨_, rfl, rfl⟩) ?_
            refine WL.det rfl rfl rfl (V.move rfl ⟨_, rfl, rfl⟩) ?_
            refine WL.det rfl rfl rfl (V.indexArr 0 rfl Tryz.underlying172 Tryz.sizeOf3 ⟨_, rfl, rfl⟩ (show Ev _ _ (.int _ ((0 : Nat) : Int)) from ⟨_, rfl, rfl⟩) (by decide) rfl) ?_
            refine WL.det rfl rfl rfl (G.load rfl Tryz.isAgg3 ⟨_, rfl, rfl⟩ (hB16.get rfl) (Reach.is _)) ?_
            refine WL.ex rfl rfl rfl (X.idx (i := n) rfl Tryz.underlying142 Tryz.sizeOf41 hsI ⟨_, rfl, rfl⟩ ⟨_, rfl, rfl⟩ rfl (gi (by omega))) (fun v142 h142 => ?_)
            refine WL.ex rfl rfl rfl (X.loadSl rfl Tryz.isAgg41 Tryz.sizeOf41 h142 ⟨_, rfl, rfl⟩ (Reach.is _)) (fun v143 h143 => ?_)
            have l143 := h143.len
            refine WL.app1 (T := (tSl tByte)) (M := M) rfl rfl rfl rfl rfl rfl rfl rfl Tryz.underlying142 Tryz.typeInfo41 rfl rfl rfl (by decide) ⟨_, rfl, rfl⟩ (tSl_V.2 h143) (fun _ => ⟨_, rfl, rfl⟩) hO132 (by show (_ + 1) * 24 ≤ 140737488355328; (have h1 := L.cut_length b k0 q (by omega); have h2 := L.cut_length a j0 p (by omega); unfold L.cut at h1 h2; rw [List.length_append]; omega)) (by decide) (fun v145 H11 tmp11 hO145 a11 => ?_)
            replace hF := hF.app a11
            replace hsI := hsI.app a11
            replace haI := haI.app a11
            replace hbI := hbI.app a11
            replace h101 := h101.app a11
            replace h108 := h108.app a11
            replace h115 := h115.app a11
            have hob145 := a11.new K hob132
            replace K := a11.K K hob132
            refine WL.det rfl rfl rfl (V.assign rfl ⟨_, rfl, rfl⟩) ?_
            refine WL.nil ?_
            refine NX.block_normal ?_
            refine NX.go ?_
            refine WC.sub (e' := [(0, true, _), (1, true, _), (2, true, _), (10, true, _), (13, true, _), (14, true, _)]) ⟨rfl, rfl, rfl, rfl, rfl, rfl, trivial⟩ ?_
            refine WC.region ?_
            refine WL.det rfl rfl rfl (V.move rfl ⟨_, rfl, rfl⟩) ?_
            refine WL.det rfl rfl rfl (V.add rfl ⟨_, rfl, rfl⟩ ⟨_, rfl, rfl⟩ (by unfold I64; omega)) ?_
            refine WL.det rfl rfl rfl (V.assign rfl ⟨_, rfl, rfl⟩) ?_
            refine WL.nil ?_
            first
              | (obtain ⟨hw1, hw2, hw3⟩ := g7 (by omega)
                 have hmx := L.mix_two (hc123.imp Eq.symm id)
                 have hA' := (g9 _ hmx).2 (by omega) hw1
                 exact Head.mk ⟨w + 1, n + 1, p + 1, q + 1, vh, v145, _, by omega, hF, hO145, hob145, hA', by have h1 := L.cut_length b k0 q (by omega); have h2 := L.cut_length a j0 p (by omega); unfold L.cut at h1 h2; simp only [List.length_append, List.length_singleton]; omega, by omega, rfl, rfl, K⟩ ⟨rfl, rfl, rfl, rfl, rfl, rfl, trivial⟩ (by omega))
              | (obtain ⟨hw1, hw2, hw3⟩ := g7 (by omega)
                 have hmx := L.mix_one (fun h => h.elim (fun e => hc123.1 e.symm) hc123.2) hc129.symm
                 have hA' := (g9 _ hmx).2 (by omega) hw1
                 exact Head.mk ⟨w + 1, n + 1, p + 1, q + 1, vh, v145, _, by omega, hF, hO145, hob145, hA', by have h1 := L.cut_length b k0 q (by omega); have h2 := L.cut_length a j0 p (by omega); unfold L.cut at h1 h2; simp only [List.length_append, List.length_singleton]; omega, by omega, rfl, rfl, K⟩ ⟨rfl, rfl, rfl, rfl, rfl, rfl, trivial⟩ (by omega))
              | (have hmx := L.mix_two (hc123.imp Eq.symm id)
                 have hA' := (g9 _ hmx).1 (by omega)
                 exact Head.mk ⟨w + 1, n + 1, p + 1, q + 1, vh, v126, _, by omega, hF, hO126, hob126, hA', by have h1 := L.cut_length b k0 q (by omega); have h2 := L.cut_length a j0 p (by omega); unfold L.cut at h1 h2; rw [List.length_append]; omega, by omega, rfl, rfl, K⟩ ⟨rfl, rfl, rfl, rfl, rfl, rfl, trivial⟩ (by omega))
              | (have hmx := L.mix_one (fun h => h.elim (fun e => hc123.1 e.symm) hc123.2) hc129.symm
                 have hA' := (g9 _ hmx).1 (by omega)
                 exact Head.mk ⟨w + 1, n + 1, p + 1, q + 1, vh, v132, _, by omega, hF, hO132, hob132, hA', by have h1 := L.cut_length b k0 q (by omega); have h2 := L.cut_length a j0 p (by omega); unfold L.cut at h1 h2; rw [List.length_append]; omega, by omega, rfl, rfl, K⟩ ⟨rfl, rfl, rfl, rfl, rfl, rfl, trivial⟩ (by omega))
          · -- hc137 false
            try simp only [Bool.and_eq_true, Bool.or_eq_true, Bool.not_eq_true', Bool.not_eq_false', Bool.and_eq_false_iff, Bool.or_eq_false_iff, decide_eq_true_eq, decide_eq_false_iff_not, Int.not_lt, Int.not_le] at hc137
            refine WC.skip ?_
            refine NX.block_normal ?_
            refine NX.go ?_
            refine WC.region ?_
            refine WL.det rfl rfl rfl (V.move rfl ⟨_, rfl, rfl⟩) ?_
            refine WL.det rfl rfl rfl (V.add rfl ⟨_, rfl, rfl⟩ ⟨_, rfl, rfl⟩ (by unfold I64; omega)) ?_
            refine WL.det rfl rfl rfl (V.assign rfl ⟨_, rfl, rfl⟩) ?_
            refine WL.nil ?_
            first
              | (obtain ⟨hw1, hw2, hw3⟩ := g7 (by omega)
                 have hmx := L.mix_two (hc123.imp Eq.symm id)
                 have hA' := (g9 _ hmx).2 (by omega) hw1
                 exact Head.mk ⟨w + 1, n + 1, p + 1, q + 1, vh, v145, _, by omega, hF, hO145, hob145, hA', by have h1 := L.cut_length b k0 q (by omega); have h2 := L.cut_length a j0 p (by omega); unfold L.cut at h1 h2; simp only [List.length_append, List.length_singleton]; omega, by omega, rfl, rfl, K⟩ ⟨rfl, rfl, rfl, rfl, rfl, rfl, trivial⟩ (by omega))
              | (obtain ⟨hw1, hw2, hw3⟩ := g7 (by omega)
                 have hmx := L.mix_one (fun h => h.elim (fun e => hc123.1 e.symm) hc123.2) hc129.symm
                 have hA' := (g9 _ hmx).2 (by omega) hw1
                 exact Head.mk ⟨w + 1, n + 1, p + 1, q + 1, vh, v145, _, by omega, hF, hO145, hob145, hA', by have h1 := L.cut_length b k0 q (by omega); have h2 := L.cut_length a j0 p (by omega); unfold L.cut at h1 h2; simp only [List.length_append, List.length_singleton]; omega, by omega, rfl, rfl, K⟩ ⟨rfl, rfl, rfl, rfl, rfl, rfl, trivial⟩ (by omega))
              | (have hmx := L.mix_two (hc123.imp Eq.symm id)
                 have hA' := (g9 _ hmx).1 (by omega)
                 exact Head.mk ⟨w + 1, n + 1, p + 1, q + 1, vh, v126, _, by omega, hF, hO126, hob126, hA', by have h1 := L.cut_length b k0 q (by omega); have h2 := L.cut_length a j0 p (by omega); unfold L.cut at h1 h2; rw [List.length_append]; omega, by omega, rfl, rfl, K⟩ ⟨rfl, rfl, rfl, rfl, rfl, rfl, trivial⟩ (by omega))
              | (have hmx := L.mix_one (fun h => h.elim (fun e => hc123.1 e.symm) hc123.2) hc129.symm
                 have hA' := (g9 _ hmx).1 (by omega)
                 exact Head.mk ⟨w + 1, n + 1, p + 1, q + 1, vh, v132, _, by omega, hF, hO132, hob132, hA', by have h1 := L.cut_length b k0 q (by omega); have h2 := L.cut_length a j0 p (by omega); unfold L.cut at h1 h2; rw [List.length_append]; omega, by omega, rfl, rfl, K⟩ ⟨rfl, rfl, rfl, rfl, rfl, rfl, trivial⟩ (by omega))
        · -- hc129 false
          try simp only [Bool.and_eq_true, Bool.or_eq_true, Bool.not_eq_true', Bool.not_eq_false', Bool.and_eq_false_iff, Bool.or_eq_false_iff, decide_eq_true_eq, decide_eq_false_iff_not, Int.not_lt, Int.not_le] at hc129
          refine WC.seq ?_
          refine WC.region ?_
          refine WL.det rfl rfl rfl (V.assign rfl ⟨_, rfl, rfl⟩) ?_
          refine WL.det rfl rfl rfl (V.assign rfl ⟨_, rfl, rfl⟩) ?_
          refine WL.nil ?_
          refine NX.go ?_
          refine WC.sub (e' := [(6, true, _), (7, true, _)]) ⟨rfl, rfl, trivial⟩ ?_
          refine WC.ret ?_
          refine NX.of_ret ?_
          refine NX.block_ret ?_
          refine NX.of_ret ?_
          refine NX.of_ret ?_
          refine NX.block_ret ?_
          refine NX.of_ret ?_
          refine ret2 hQ Tryz.results85 rfl ⟨_, rfl, rfl⟩ ⟨_, rfl, rfl⟩ ?_
          first
            | (have hg := g8 (L.mix_none (fun h => h.elim (fun e => hc123.1 e.symm) hc123.2) (fun e => hc129 e.symm))
               exact ⟨_, by rw [hg]; rfl, by rw [hg]; exact .inl ⟨_, rfl, rfl⟩, K⟩)
            | (have hg := hA.2 (by omega)
               exact ⟨vo, by rw [hg]; rfl, by rw [hg]; exact hO.give hob hM, K⟩)
    · -- hc83 false
      try simp only [Bool.and_eq_true, Bool.or_eq_true, Bool.not_eq_true', Bool.not_eq_false', Bool.and_eq_false_iff, Bool.or_eq_false_iff, decide_eq_true_eq, decide_eq_false_iff_not, Int.not_lt, Int.not_le] at hc83
      refine WC.exit ?_
      refine NX.of_exit ?_
      refine NX.of_exit ?_
      refine NX.block_hit ?_
      refine NX.go ?_
      refine WC.seq ?_
      refine WC.region ?_
      refine WL.det rfl rfl rfl (V.move rfl ⟨_, rfl, rfl⟩) ?_
      refine WL.det rfl rfl rfl (V.assign rfl ⟨_, rfl, rfl⟩) ?_
      refine WL.det rfl rfl rfl (V.assign rfl ⟨_, rfl, rfl⟩) ?_
      refine WL.nil ?_
      refine NX.go ?_
      refine WC.sub (e' := [(6, true, _), (7, true, _)]) ⟨rfl, rfl, trivial⟩ ?_
      refine WC.ret ?_
      refine ret2 hQ Tryz.results85 rfl ⟨_, rfl, rfl⟩ ⟨_, rfl, rfl⟩ ?_
      first
        | (have hg := g8 (L.mix_none (fun h => h.elim (fun e => hc123.1 e.symm) hc123.2) (fun e => hc129 e.symm))
           exact ⟨_, by rw [hg]; rfl, by rw [hg]; exact .inl ⟨_, rfl, rfl⟩, K⟩)
        | (have hg := hA.2 (by omega)
           exact ⟨vo, by rw [hg]; rfl, by rw [hg]; exact hO.give hob hM, K⟩)
end Go.Proofs.YtpmjnbidmcnhnaaGreatDoor
