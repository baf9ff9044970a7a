/- what every law of lines asks first -/
import Derived.Test.YtkkjjbejkcgmfaaLines4
import Derived.Test.YtkkjjbejkcgmfaaAny
namespace Go.Proofs.Ytkkjjbejkcgmfaa
open Go.NB
set_option linter.unusedVariables false
set_option linter.unusedSimpArgs false

theorem begunA : L.linesOf [97, 10, 98, 10, 99, 10] = [[97, 10], [98, 10], [99, 10]] := by decide +kernel
theorem begunB : L.linesOf [65, 10, 98, 10, 99, 10] = [[65, 10], [98, 10], [99, 10]] := by decide +kernel
theorem begunC : L.linesOf [97, 10, 98, 10, 67] = [[97, 10], [98, 10], [67]] := by decide +kernel
theorem begunM : L.merge [[97, 10], [98, 10], [99, 10]] [[65, 10], [98, 10], [99, 10]] [[97, 10], [98, 10], [67]] = some [[65, 10], [98, 10], [67]] := by decide +kernel
theorem begunP : (L.pairs ([[65, 10], [98, 10], [99, 10]] : L.Ls) [[97, 10], [98, 10], [67]] 0 0).length = 1 := by decide +kernel
theorem begunMerge {H0 : Heap} {vs va vb : Value} (hs : Sl (tSl tByte) H0 [] vs [[97, 10], [98, 10], [99, 10]]) (ha : Sl (tSl tByte) H0 [] va [[65, 10], [98, 10], [99, 10]]) (hb : Sl (tSl tByte) H0 [] vb [[97, 10], [98, 10], [67]]) :
    CallsH Try.prog 16 #[vs, va, vb] H0 fun r H => ∃ v, r = .tuple #[v, .bool true] ∧ Sl (tSl tByte) H [] v [[65, 10], [98, 10], [67]] ∧ Keep [] H0 H :=
  (merge hs ha hb (fun _ h => by cases h) (by decide) (by decide) (by decide)).mono fun r H h => by
    rw [begunM] at h
    rcases h with ⟨v, l, h1, h2, h3, h4⟩ | ⟨h, _⟩
    · cases h1; exact ⟨v, h2, h3, h4⟩
    · cases h
theorem greatK {H0 : Heap} {vl : Value} {l : List (List UInt8)} (hl : Sl (tSl tByte) H0 [] vl l) : CallsH Try.prog 13 #[vl] H0 fun v H => v = .bool (L.great l) ∧ Keep [] H0 H :=
  (greatBytes hl).mono fun _ _ h => ⟨h.1, h.2 ▸ Keep.refl _ _⟩
theorem sameLinesK {H0 : Heap} {va vb : Value} {a b : List (List UInt8)} (ha : Sl (tSl tByte) H0 [] va a) (hb : Sl (tSl tByte) H0 [] vb b) : CallsH Try.prog 18 #[va, vb] H0 fun v H => v = .bool (decide (a = b)) ∧ Keep [] H0 H :=
  (sameLines ha hb).mono fun _ _ h => ⟨h.1, h.2 ▸ Keep.refl _ _⟩
theorem great_len {l : List (List UInt8)} (h : L.great l = false) : l.length ≤ 60 := by
  unfold L.great at h
  simp only [Bool.or_eq_false_iff, decide_eq_false_iff_not] at h
  omega
theorem Sl_shape {α : Type} {T : Ty α} {H : Heap} {M : List Nat} {v : Value} {xs : List α} (h : Sl T H M v xs) : ∃ p m, v = .slice p xs.length m := by
  rcases h with ⟨_, rfl, rfl⟩ | ⟨b, off, cap, rfl, _⟩
  · exact ⟨_, _, rfl⟩
  · exact ⟨_, _, rfl⟩

set_option maxRecDepth 20000 in
set_option maxHeartbeats 1000000 in
theorem begun {H0 : Heap} :
    CallsH Try.prog 12 #[] H0 (fun v H => v = .bool true ∧ Keep [] H0 H) := by
  refine enter (args := []) Try.call12 Try.func12 rfl Try.ntmps12 (Nat.le_of_ble_eq_true rfl) (fun W0 Q hQ => ?_)
  refine WC.sub (e' := []) trivial ?_
  have K : Keep [] H0 H0 := Keep.refl _ _
  refine WC.seq ?_
  refine WC.region ?_
  refine WL.det rfl rfl rfl (V.assign rfl ⟨_, rfl, rfl⟩) ?_
  refine WL.nil ?_
  refine NX.go ?_
  refine WC.sub (e' := []) trivial ?_
  refine WC.seq ?_
  refine WC.region ?_
  refine WL.bytesLit (M := []) (l := [97, 10, 98, 10, 99, 10]) rfl rfl rfl rfl rfl rfl rfl rfl Try.underlying22 Try.underlying5 Try.sizeOf5 Try.zeroValue5 (.cons ⟨_, rfl, rfl⟩ (.cons ⟨_, rfl, rfl⟩ (.cons ⟨_, rfl, rfl⟩ (.cons ⟨_, rfl, rfl⟩ (.cons ⟨_, rfl, rfl⟩ (.cons ⟨_, rfl, rfl⟩ .nil)))))) rfl rfl (by decide) (fun _ h => by cases h) (fun v7 tmp1 H1 h7 k1 => ?_)
  replace K := K.trans k1
  refine WL.call rfl rfl rfl rfl (.cons ⟨_, rfl, rfl⟩ .nil) (lines h7 (fun _ h => by cases h) (by decide)) ?_
  rintro v8 H2 ⟨hl1, k2⟩
  replace h7 := h7.at k2
  replace K := K.trans k2
  rw [begunA] at hl1
  refine WL.det rfl rfl rfl (V.assign rfl ⟨_, rfl, rfl⟩) ?_
  refine WL.nil ?_
  refine NX.go ?_
  refine WC.sub (e' := [(1, true, _)]) ⟨rfl, trivial⟩ ?_
  refine WC.seq ?_
  refine WC.region ?_
  refine WL.bytesLit (M := []) (l := [65, 10, 98, 10, 99, 10]) rfl rfl rfl rfl rfl rfl rfl rfl Try.underlying22 Try.underlying5 Try.sizeOf5 Try.zeroValue5 (.cons ⟨_, rfl, rfl⟩ (.cons ⟨_, rfl, rfl⟩ (.cons ⟨_, rfl, rfl⟩ (.cons ⟨_, rfl, rfl⟩ (.cons ⟨_, rfl, rfl⟩ (.cons ⟨_, rfl, rfl⟩ .nil)))))) rfl rfl (by decide) (fun _ h => by cases h) (fun v10 tmp3 H3 h10 k3 => ?_)
  replace h7 := h7.at k3
  replace hl1 := hl1.at k3
  replace K := K.trans k3
  refine WL.call rfl rfl rfl rfl (.cons ⟨_, rfl, rfl⟩ .nil) (lines h10 (fun _ h => by cases h) (by decide)) ?_
  rintro v11 H4 ⟨hl2, k4⟩
  replace h7 := h7.at k4
  replace hl1 := hl1.at k4
  replace h10 := h10.at k4
  replace K := K.trans k4
  rw [begunB] at hl2
  refine WL.det rfl rfl rfl (V.assign rfl ⟨_, rfl, rfl⟩) ?_
  refine WL.nil ?_
  refine NX.go ?_
  refine WC.sub (e' := [(1, true, _), (2, true, _)]) ⟨rfl, rfl, trivial⟩ ?_
  refine WC.seq ?_
  refine WC.region ?_
  refine WL.bytesLit (M := []) (l := [97, 10, 98, 10, 67]) rfl rfl rfl rfl rfl rfl rfl rfl Try.underlying22 Try.underlying5 Try.sizeOf5 Try.zeroValue5 (.cons ⟨_, rfl, rfl⟩ (.cons ⟨_, rfl, rfl⟩ (.cons ⟨_, rfl, rfl⟩ (.cons ⟨_, rfl, rfl⟩ (.cons ⟨_, rfl, rfl⟩ .nil))))) rfl rfl (by decide) (fun _ h => by cases h) (fun v13 tmp5 H5 h13 k5 => ?_)
  replace h7 := h7.at k5
  replace hl1 := hl1.at k5
  replace h10 := h10.at k5
  replace hl2 := hl2.at k5
  replace K := K.trans k5
  refine WL.call rfl rfl rfl rfl (.cons ⟨_, rfl, rfl⟩ .nil) (lines h13 (fun _ h => by cases h) (by decide)) ?_
  rintro v14 H6 ⟨hl3, k6⟩
  replace h7 := h7.at k6
  replace hl1 := hl1.at k6
  replace h10 := h10.at k6
  replace hl2 := hl2.at k6
  replace h13 := h13.at k6
  replace K := K.trans k6
  rw [begunC] at hl3
  refine WL.det rfl rfl rfl (V.assign rfl ⟨_, rfl, rfl⟩) ?_
  refine WL.nil ?_
  refine NX.go ?_
  refine WC.sub (e' := [(1, true, _), (2, true, _), (3, true, _)]) ⟨rfl, rfl, rfl, trivial⟩ ?_
  refine WC.seq ?_
  refine WC.region ?_
  refine WL.det rfl rfl rfl (V.move rfl ⟨_, rfl, rfl⟩) ?_
  refine WL.det rfl rfl rfl (V.move rfl ⟨_, rfl, rfl⟩) ?_
  refine WL.det rfl rfl rfl (V.move rfl ⟨_, rfl, rfl⟩) ?_
  refine WL.call rfl rfl rfl rfl (.cons ⟨_, rfl, rfl⟩ (.cons ⟨_, rfl, rfl⟩ (.cons ⟨_, rfl, rfl⟩ .nil))) (begunMerge hl1 hl2 hl3) ?_
  rintro _ H7 ⟨v19, rfl, hm19, k7⟩
  replace h7 := h7.at k7
  replace hl1 := hl1.at k7
  replace h10 := h10.at k7
  replace hl2 := hl2.at k7
  replace h13 := h13.at k7
  replace hl3 := hl3.at k7
  replace K := K.trans k7
  refine WL.det rfl rfl rfl (V.move rfl ⟨_, rfl, rfl⟩) ?_
  refine WL.det rfl rfl rfl (V.extract rfl ⟨_, rfl, rfl⟩ rfl) ?_
  refine WL.det rfl rfl rfl (V.extract rfl ⟨_, rfl, rfl⟩ rfl) ?_
  refine WL.det rfl rfl rfl (V.assign rfl ⟨_, rfl, rfl⟩) ?_
  refine WL.det rfl rfl rfl (V.assign rfl ⟨_, rfl, rfl⟩) ?_
  refine WL.nil ?_
  refine NX.go ?_
  refine WC.sub (e' := [(2, true, _), (3, true, _), (4, true, _), (5, true, _)]) ⟨rfl, rfl, rfl, rfl, trivial⟩ ?_
  refine WC.seq ?_
  refine WC.region ?_
  refine WL.det rfl rfl rfl (V.move rfl ⟨_, rfl, rfl⟩) ?_
  refine WL.det rfl rfl rfl (V.move rfl ⟨_, rfl, rfl⟩) ?_
  refine WL.gdet (Gd.yes1 rfl rfl rfl rfl) rfl rfl (fun hg => V.move rfl ⟨_, rfl, rfl⟩) ?_
  refine WL.gdet (Gd.yes1 rfl rfl rfl rfl) rfl rfl (fun hg => V.len rfl Try.underlying23 ⟨_, rfl, hg⟩ hm19) ?_
  refine WL.gdet (Gd.yes1 rfl rfl rfl rfl) rfl rfl (fun hg => V.eql rfl ⟨_, rfl, hg⟩ ⟨_, rfl, rfl⟩) ?_
  refine WL.det rfl rfl rfl (V.and rfl ⟨_, rfl, rfl⟩ (fun hb => ⟨_, rfl, hb⟩)) ?_
  refine WL.det rfl rfl rfl (V.move rfl ⟨_, rfl, rfl⟩) ?_
  refine WL.gdet (Gd.yes1 rfl rfl rfl rfl) rfl rfl (fun hg => V.move rfl ⟨_, rfl, rfl⟩) ?_
  refine WL.gex (Gd.yes1 rfl rfl rfl rfl) rfl rfl (fun hg => X.idx (i := 0) rfl Try.underlying23 Try.sizeOf22 hm19 ⟨_, rfl, hg⟩ ⟨_, rfl, rfl⟩ rfl rfl) (fun v30 h30 => ?_)
  refine WL.gex (Gd.yes1 rfl rfl rfl rfl) rfl rfl (fun hg => X.loadSl rfl Try.isAgg22 Try.sizeOf22 (h30 hg) ⟨_, rfl, hg⟩ (Reach.is _)) (fun v31 h31 => ?_)
  refine WL.gdet (Gd.yes1 rfl rfl rfl rfl) rfl rfl (fun hg => V.bytesStr rfl Try.underlying22 Try.underlying5 Try.underlying9 (h31 hg) ⟨_, rfl, hg⟩ (Reach.is _)) ?_
  refine WL.gdet (Gd.yes1 rfl rfl rfl rfl) rfl rfl (fun hg => V.strEql rfl ⟨_, rfl, hg⟩ ⟨_, rfl, rfl⟩) ?_
  refine WL.det rfl rfl rfl (V.and rfl ⟨_, rfl, rfl⟩ (fun hb => ⟨_, rfl, hb⟩)) ?_
  refine WL.det rfl rfl rfl (V.move rfl ⟨_, rfl, rfl⟩) ?_
  refine WL.gdet (Gd.yes1 rfl rfl rfl rfl) rfl rfl (fun hg => V.move rfl ⟨_, rfl, rfl⟩) ?_
  refine WL.gex (Gd.yes1 rfl rfl rfl rfl) rfl rfl (fun hg => X.idx (i := 2) rfl Try.underlying23 Try.sizeOf22 hm19 ⟨_, rfl, hg⟩ ⟨_, rfl, rfl⟩ rfl rfl) (fun v37 h37 => ?_)
  refine WL.gex (Gd.yes1 rfl rfl rfl rfl) rfl rfl (fun hg => X.loadSl rfl Try.isAgg22 Try.sizeOf22 (h37 hg) ⟨_, rfl, hg⟩ (Reach.is _)) (fun v38 h38 => ?_)
  refine WL.gdet (Gd.yes1 rfl rfl rfl rfl) rfl rfl (fun hg => V.bytesStr rfl Try.underlying22 Try.underlying5 Try.underlying9 (h38 hg) ⟨_, rfl, hg⟩ (Reach.is _)) ?_
  refine WL.gdet (Gd.yes1 rfl rfl rfl rfl) rfl rfl (fun hg => V.strEql rfl ⟨_, rfl, hg⟩ ⟨_, rfl, rfl⟩) ?_
  refine WL.det rfl rfl rfl (V.and rfl ⟨_, rfl, rfl⟩ (fun hb => ⟨_, rfl, hb⟩)) ?_
  refine WL.det rfl rfl rfl (V.move rfl ⟨_, rfl, rfl⟩) ?_
  refine WL.gdet (Gd.yes1 rfl rfl rfl rfl) rfl rfl (fun hg => V.move rfl ⟨_, rfl, rfl⟩) ?_
  refine WL.gdet (Gd.yes1 rfl rfl rfl rfl) rfl rfl (fun hg => V.move rfl ⟨_, rfl, rfl⟩) ?_
  refine WL.gcallX (Gd.yes1 rfl rfl rfl rfl) rfl rfl rfl (fun hg => (.cons ⟨_, rfl, hg⟩ (.cons ⟨_, rfl, hg⟩ .nil))) (fun hg => common hl2 hl3 (fun _ h => by cases h) (by decide) (by decide)) (fun v45 H8 h45 k8 => ?_)
  replace h7 := h7.at k8
  replace hl1 := hl1.at k8
  replace h10 := h10.at k8
  replace hl2 := hl2.at k8
  replace h13 := h13.at k8
  replace hl3 := hl3.at k8
  replace hm19 := hm19.at k8
  replace K := K.trans k8
  refine WL.gdet (Gd.yes1 rfl rfl rfl rfl) rfl rfl (fun hg => V.len rfl Try.underlying26 ⟨_, rfl, hg⟩ (h45 hg)) ?_
  refine WL.gdet (Gd.yes1 rfl rfl rfl rfl) rfl rfl (fun hg => V.eql rfl ⟨_, rfl, hg⟩ ⟨_, rfl, rfl⟩) ?_
  refine WL.det rfl rfl rfl (V.and rfl ⟨_, rfl, rfl⟩ (fun hb => ⟨_, rfl, hb⟩)) ?_
  refine WL.det rfl rfl rfl (V.assign rfl ⟨_, rfl, rfl⟩) ?_
  refine WL.nil ?_
  refine NX.go ?_
  refine WC.sub (e' := [(0, true, _)]) ⟨rfl, trivial⟩ ?_
  refine WC.ret ?_
  refine ret1 hQ Try.results12 rfl ⟨_, rfl, rfl⟩ ?_
  exact ⟨by rw [begunP]; rfl, K⟩

end Go.Proofs.Ytkkjjbejkcgmfaa
