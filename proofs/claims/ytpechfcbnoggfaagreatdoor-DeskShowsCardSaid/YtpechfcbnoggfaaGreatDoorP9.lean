/- part -/
import Derived.Test.YtpechfcbnoggfaaGreatDoorE0
import Derived.Test.YtpechfcbnoggfaaGreatDoorAmX
import Derived.Test.YtpechfcbnoggfaaGreatDoorL0
import Derived.Test.YtpechfcbnoggfaaGreatDoorG9
set_option linter.unusedVariables false
set_option linter.unusedSimpArgs false
section

namespace Go.Nest
open Go Go.AM Go.Proofs
open Go.Proofs.YtpechfcbnoggfaaGreatDoor (tab tabOk)
set_option maxRecDepth 4000
theorem count_spec {dr : Bool} (l : List UInt8) : DoesD dr Tryz.prog 352 [.c (.str l), .c (.int .u8 47)] [] (Rt (.c (.int .i64 (l.count 47))) []) := by
 refine ext_spec (e := Extern.BytealgCount.count) Tryz.func352 (by decide) rfl rfl rfl rfl (fun F H m vs w h => ?_)
 match vs, h with
 | [v1, v2], ⟨h1, h2, _⟩ =>
  cases h1 with
  | str _ _ =>
   cases h2 with
   | int _ => exact ⟨_, Lib.run_countString ⟨l.toArray⟩ 47 w, fun F H m => .int .nl⟩
theorem idx_spec {dr : Bool} (l : List UInt8) : DoesD dr Tryz.prog 310 [.c (.str l), .c (.int .u8 47)] [] (Rt (.c (.int .i64 (Lib.indexByte l 47))) []) := by
 refine ext_spec (e := Extern.BytealgIndexByte.indexByte) Tryz.func310 (by decide) rfl rfl rfl rfl (fun F H m vs w h => ?_)
 match vs, h with
 | [v1, v2], ⟨h1, h2, _⟩ =>
  cases h1 with
  | str _ _ =>
   cases h2 with
   | int _ => exact ⟨_, Lib.run_indexByteString ⟨l.toArray⟩ 47 w, fun F H m => .int .nl⟩
theorem stringsCount_spec {dr : Bool} (l : List UInt8) : DoesD dr Tryz.prog 335 [.c (.str l), .c (.str [47])] [] (Rt (.c (.int .i64 (l.count 47))) []) := by
 refine X_spec (n := 34) (n0 := 0) tabOk Tryz.call335 Tryz.func335 ?_
 intro hb
 skip
 (conv => whnf)
 refine ⟨0, 47, rfl, rfl, ?_⟩
 (conv => whnf)
 refine cl [] [] (count_spec l) ?_
 (conv => whnf)
 exact rtI rfl
theorem stringsIndexByte_spec {dr : Bool} (l : List UInt8) : DoesD dr Tryz.prog 260 [.c (.str l), .c (.int .u8 47)] [] (Rt (.c (.int .i64 (Lib.indexByte l 47))) []) := by
 refine X_spec (n := 8) (n0 := 0) tabOk Tryz.call260 Tryz.func260 ?_
 intro hb
 (conv => whnf)
 refine cl [] [] (idx_spec l) ?_
 (conv => whnf)
 exact rtI rfl
theorem sliteIndex_spec {dr : Bool} (l : List UInt8) : DoesD dr Tryz.prog 185 [.c (.str l), .c (.str [47])] [] (Rt (.c (.int .i64 (Lib.indexByte l 47))) []) := by
 refine X_spec (n := 143) (n0 := 0) tabOk Tryz.call185 Tryz.func185 ?_
 intro hb
 repeat' ((conv => whnf); first | (refine dec (fun h => ?_) (fun h => ?_) <;> try contradiction) | refine rtI ?_ | fail)
 ·obtain rfl : l = [47] := h.symm
  rfl
 ·(conv => whnf)
  refine ⟨0, 47, rfl, rfl, ?_⟩
  (conv => whnf)
  refine cl [] [] (stringsIndexByte_spec l) ?_
  (conv => whnf)
  exact rtI rfl
theorem stringsIndex_spec {dr : Bool} (l : List UInt8) : DoesD dr Tryz.prog 111 [.c (.str l), .c (.str [47])] [] (Rt (.c (.int .i64 (Lib.indexByte l 47))) []) := by
 refine X_spec (n := 8) (n0 := 0) tabOk Tryz.call111 Tryz.func111 ?_
 intro hb
 (conv => whnf)
 refine cl [] [] (sliteIndex_spec l) ?_
 (conv => whnf)
 exact rtI rfl
structure GS (l : List UInt8) (a : List (List UInt8)) (s : List UInt8) (i : Nat) : Prop where
 len : a.length = l.count 47 + 1
 cnt : i + s.count 47 = l.count 47
 spl : spl l = a.take i ++ spl s
 sl : s.length ≤ l.length
theorem count_len (l : List UInt8) : l.count 47 ≤ l.length := List.count_le_length
set_option maxHeartbeats 1000000 in
theorem genSplit_spec {dr : Bool} (l : List UInt8) (hl : l.length ≤ 4000000) : DoesD dr Tryz.prog 301 [.c (.str l), .c (.str [47]), .c (.int .i64 0), .c (.int .i64 (-1))] [] (Rt (.c (.rw 0)) [.row 1 (List UInt8) encS (spl l)]) := by
 refine X_spM (n := 66) (n0 := 0) tabOk Tryz.call301 Tryz.func301 ?_
 intro hb
 have hc := count_len l
 refine XM.seq ?_
 skip
 refine XM.seq ?_
 skip
 refine XM.seq ?_
 skip
 refine XM.seq ?_
 skip
 (conv => whnf)
 refine cl [] [] (stringsCount_spec l) ?_
 repeat' ((conv => whnf); refine I6 ?_)
 refine XM.seq ?_
 repeat' ((conv => whnf); refine I6 ?_)
 (conv => whnf)
 rw [show min ((l.count 47 : Int) + 1) ((l.length : Int) + 1) = ((l.count 47 + 1 : Nat) : Int) by omega]
 refine XM.seq ?_
 (conv => whnf)
 refine ⟨l.count 47 + 1, [], ⟨rfl, rfl⟩, rfl, by simp only []; omega, ?_⟩
 skip
 refine XM.seq ?_
 repeat' ((conv => whnf); refine I6 ?_)
 refine XM.seq ?_
 skip
 refine XM.join (ι := List (List UInt8) × List UInt8) (fun | (a, s) => ⟨[(0, .c (.str s)), (9, .c (.rw 0)), (10, .c (.int .i64 (l.count 47 : Nat)))], [.row 1 (List UInt8) encS a]⟩) (fun x => GS l x.1 x.2 (l.count 47)) ?_ (fun x hx => ?_)
 ·(conv => whnf)
  refine lp (Nat × List (List UInt8) × List UInt8) (fun | (i, a, s) => ⟨[(0, .c (.str s)), (1, .c (.str [47])), (2, .c (.int .i64 0)), (3, .c (.int .i64 (((l.count 47 + 1 : Nat) : Int) - 1))), (9, .c (.rw 0)), (10, .c (.int .i64 i))], [.row 1 (List UInt8) encS a]⟩)
   (fun x => GS l x.2.1 x.2.2 x.1 ∧ True) (fun x => l.count 47 - x.1) (0, List.replicate (l.count 47 + 1) [], l) [] [.same 0] ?_ ?_ (fun x hx => ?_)
  ·exact ⟨⟨by simp, by simp, by simp, Nat.le_refl _⟩, trivial⟩
  ·repeat' first | exact trivial | exact rfl | refine And.intro ?_ ?_
  obtain ⟨i, a, s⟩ := x
  obtain ⟨hg, _⟩ := hx
  dsimp only at hg
  have g1 := hg.len
  have g2 := hg.cnt
  have g4 := hg.sl
  (conv => whnf)
  refine dec (fun h4 => ?_) (fun h4 => ?_)
  ·obtain ⟨m, m1, m2, m3, m4⟩ := idx_stroke (l := s) (by omega)
   have hs := stringsIndex_spec (dr := dr) s
   rw [m1] at hs
   (conv => whnf)
   refine cl [] [] (hs) ?_
   repeat' ((conv => whnf); refine I6 ?_)
   (conv => whnf)
   refine ⟨0, m, rfl, by omega, by omega, ?_⟩
   (conv => whnf)
   refine ⟨i, ⟨rfl, by omega⟩, ?_⟩
   (conv => whnf)
   refine ⟨_, (s.take m).drop 0, List.getElem?_eq_getElem (by omega), ⟨Nat.le_refl _, rfl⟩, ?_⟩
   skip
   refine ⟨i64 (by simp; omega) (by simp; omega), ?_⟩
   (conv => whnf)
   refine ⟨m + 1, s.length, rfl, rfl, by omega, ?_⟩
   repeat' ((conv => whnf); refine I6 ?_)
   refine ag (i + 1, a.set i ((s.take m).drop 0), (s.take s.length).drop (m + 1)) [] [.same 0] ⟨⟨?_, ?_, ?_, ?_⟩, trivial⟩ (by simp only []; omega) ?_
   ·dsimp only; rw [List.length_set]; exact g1
   ·dsimp only; rw [List.take_length]; omega
   ·dsimp only
    rw [List.take_length, hg.spl, m3, List.drop_zero, List.take_succ_eq_append_getElem (by rw [List.length_set]; omega), List.getElem_set_self, List.take_set_of_le (Nat.le_refl _)]
    simp
   ·dsimp only; rw [List.take_length, List.length_drop]; omega
   ·repeat' first | exact trivial | exact rfl | refine And.intro ?_ ?_
  ·obtain rfl : i = l.count 47 := by omega
   (conv => whnf)
   refine ⟨(a, s), hg, [], [.same 0], ?_⟩
   repeat' first | exact trivial | exact rfl | refine And.intro ?_ ?_
 obtain ⟨a, s⟩ := x
 dsimp only at hx
 have g1 := hx.len
 have g2 := hx.cnt
 have g3 := hx.spl
 rw [spl_none (l := s) (by omega)] at g3
 refine XM.seq ?_
 (conv => whnf)
 refine ⟨l.count 47, ⟨rfl, by omega⟩, ?_⟩
 (conv => whnf)
 refine ⟨_, s, List.getElem?_eq_getElem (by omega), ⟨Nat.le_refl _, rfl⟩, ?_⟩
 skip
 refine XM.of ?_
 (conv => whnf)
 refine ⟨i64 (by omega) (by omega), ?_⟩
 (conv => whnf)
 refine ⟨0, l.count 47 + 1, rfl, by omega, by rw [List.length_set]; omega, ?_⟩
 (conv => whnf)
 have he : (((a.set (l.count 47) s).drop 0).take (l.count 47 + 1 - 0)) = spl l := by
  rw [g3, List.drop_zero, Nat.sub_zero, List.take_succ_eq_append_getElem (by rw [List.length_set]; omega), List.getElem_set_self, List.take_set_of_le (Nat.le_refl _)]
 refine rt [] [.cut 1 0 0 (l.count 47 + 1 - 0)] ?_ rfl ⟨rfl, rfl⟩
 repeat' first | exact trivial | exact rfl | refine And.intro ?_ ?_
 ·rw [List.length_set]; omega
 ·rw [he]
end Go.Nest
end
/- part -/
section

namespace Go.Nest
open Go Go.AM Go.Proofs
open Go.Proofs.YtpechfcbnoggfaaGreatDoor (tab tabOk)
set_option maxRecDepth 4000
theorem stringsSplit_spec {dr : Bool} (l : List UInt8) (hl : l.length ≤ 4000000) : DoesD dr Tryz.prog 252 [.c (.str l), .c (.str [47])] [] (Rt (.c (.rw 0)) [.row 1 (List UInt8) encS (spl l)]) := by
 refine X_spec (n := 8) (n0 := 0) tabOk Tryz.call252 Tryz.func252 ?_
 intro hb
 (conv => whnf)
 refine cl [] [] (genSplit_spec l hl) ?_
 (conv => whnf)
 exact rx [] [.same 0]
def namesF : List (List UInt8) → Int
 | [] => 0
 | x :: r => if nameC x = 0 then namesF r else nameC x
def splitP (l : List UInt8) : List (List UInt8) × Int := if namesF (spl l) = 0 then (if 8 < (spl l).length then ([], 3) else (spl l, 0)) else ([], namesF (spl l))
theorem namesF_at {x : List (List UInt8)} {i : Nat} (h : i < x.length) (hi : namesF x = namesF (x.drop i)) : namesF x = if nameC x[i] = 0 then namesF (x.drop (i + 1)) else nameC x[i] := by
 rw [hi, List.drop_eq_getElem_cons h]; rfl
theorem pathsSplit_spec (l : List UInt8) (hl : l.length ≤ 4000000) : Does Tryz.prog 176 [.c (.str l)] [] (Rt (.tup [(false, [.rw 0]), (false, [.int .i64 (splitP l).2])]) [.row 1 (List UInt8) encS (splitP l).1]) := by
 refine X_spM (n := 26) (n0 := 0) tabOk Tryz.call176 Tryz.func176 ?_
 intro hb
 have hsl : (spl l).length ≤ l.length + 1 := by rw [spl_len]; have := List.count_le_length (a := 47) (l := l); omega
 refine XM.seq ?_
 skip
 refine XM.seq ?_
 (conv => whnf)
 refine cl [] [] (stringsSplit_spec l hl) ?_
 skip
 refine XM.join (ι := Unit) (fun _ => ⟨[(4, .c (.rw 0))], [.row 1 (List UInt8) encS (spl l)]⟩) (fun _ => namesF (spl l) = 0) ?_ (fun _ h1 => ?_)
 ·(conv => whnf)
  refine lp Nat (fun i => ⟨[(4, .c (.rw 0)), (10, .c (.rw 0)), (11, .c (.int .i64 (spl l).length)), (12, .c (.int .i64 i))], [.row 1 (List UInt8) encS (spl l)]⟩) (fun i => i ≤ (spl l).length ∧ namesF (spl l) = namesF ((spl l).drop i)) (fun i => (spl l).length - i) 0 [] [.same 0] ?_ ?_ (fun i hi => ?_)
  ·simp
  ·repeat' first | exact trivial | exact rfl | refine And.intro ?_ ?_
  (conv => whnf)
  refine dec (fun h4 => ?_) (fun h4 => ?_)
  ·have hlt : i < (spl l).length := by omega
   have hat := namesF_at hlt hi.2
   repeat' ((conv => whnf); first | refine ⟨_, ⟨rfl, by omega⟩, ?_⟩ | refine ⟨_, List.getElem?_eq_getElem (by omega), ?_⟩ | fail)
   (conv => whnf)
   refine cl [] [] (name_spec (spl l)[i]) ?_
   repeat' ((conv => whnf); first | (refine decN (fun h => ?_) (fun h => ?_) <;> try contradiction) | refine ⟨i64 (by omega) (by omega), ?_⟩ | fail)
   ·rw [if_neg h] at hat
    have : splitP l = ([], nameC (spl l)[i]) := by unfold splitP; rw [if_neg (by rw [hat]; exact h), hat]
    rw [this]
    (conv => whnf)
    exact rx [] [.new]
   ·rw [if_pos h] at hat
    refine ag (i + 1) [] [.same 0] ⟨hlt, hat⟩ (by simp only []; omega) ?_
    repeat' first | exact trivial | exact rfl | refine And.intro ?_ ?_
  ·have := hi.2
   rw [List.drop_of_length_le (by omega)] at this
   (conv => whnf)
   refine ⟨(), this, [], [.same 0], ?_⟩
   repeat' first | exact trivial | exact rfl | refine And.intro ?_ ?_
 refine XM.of ?_
 repeat' ((conv => whnf); first | (refine dec (fun h => ?_) (fun h => ?_) <;> try contradiction) | fail)
 ·have : splitP l = ([], 3) := by unfold splitP; rw [if_pos h1, if_pos (by omega)]
  rw [this]
  (conv => whnf)
  exact rx [] [.new]
 ·have : splitP l = (spl l, 0) := by unfold splitP; rw [if_pos h1, if_neg (by omega)]
  rw [this]
  (conv => whnf)
  exact rx [] [.same 0]
theorem lessL_at : ∀ {x y : List (List UInt8)} {i : Nat} (hx : i < x.length) (hy : i < y.length), x.take i = y.take i → ¬ x[i] = y[i] → lessL x y = Op.bytesLess x[i] y[i]
 | a :: x, b :: y, 0, _, _, _, h => by simp at h; simp [lessL, h]
 | a :: x, b :: y, i + 1, hx, hy, ht, h => by
  simp at ht h
  obtain ⟨rfl, ht⟩ := ht
  have := lessL_at (x := x) (y := y) (i := i) (by simpa using hx) (by simpa using hy) ht h
  simp [lessL, this]
theorem lessL_end : ∀ {x y : List (List UInt8)} {i : Nat}, x.take i = y.take i → ¬ (i < x.length ∧ i < y.length) → i ≤ x.length → i ≤ y.length → lessL x y = decide (x.length < y.length)
 | [], [], _, _, _, _, _ => rfl
 | [], _ :: _, _, _, _, _, _ => by simp [lessL]
 | _ :: _, [], _, _, _, _, _ => by simp [lessL]
 | a :: x, b :: y, 0, _, h, _, _ => by simp at h
 | a :: x, b :: y, i + 1, ht, h, h1, h2 => by
  simp at ht h h1 h2
  obtain ⟨rfl, ht⟩ := ht
  have := lessL_end (x := x) (y := y) (i := i) ht (by omega) h1 h2
  simp [lessL, this]
set_option maxHeartbeats 1000000 in
theorem less_spec {dr : Bool} (a b : List UInt8) (ha : a.length ≤ 4000000) (hb' : b.length ≤ 4000000) : DoesD dr Tryz.prog 175 [.c (.str a), .c (.str b)] [] (Rt (.c (.bool (lessP a b))) []) := by
 refine X_spec (n := 47) (n0 := 0) tabOk Tryz.call175 Tryz.func175 ?_
 intro hb
 have hsl : (spl a).length ≤ a.length + 1 := by rw [spl_len]; have := List.count_le_length (a := 47) (l := a); omega
 (conv => whnf)
 refine cl [] [] (stringsSplit_spec a ha) ?_
 (conv => whnf)
 refine cl [] [] (stringsSplit_spec b hb') ?_
 (conv => whnf)
 unfold lessP
 refine lp Nat (fun i => ⟨[(5, .c (.rw 0)), (6, .c (.rw 1)), (7, .c (.int .i64 i))], [.row 1 (List UInt8) encS (spl a), .row 1 (List UInt8) encS (spl b)]⟩) (fun i => (i ≤ (spl a).length ∧ i ≤ (spl b).length) ∧ (spl a).take i = (spl b).take i) (fun i => (spl a).length - i) 0 [] [.same 0, .same 1] ?_ ?_ (fun i hi => ?_)
 ·simp
 ·repeat' first | exact trivial | exact rfl | refine And.intro ?_ ?_
 have fin : ¬ (i < (spl a).length ∧ i < (spl b).length) → decide (((spl a).length : Int) < (spl b).length) = lessL (spl a) (spl b) := fun h => by
  rw [lessL_end hi.2 h hi.1.1 hi.1.2, decide_eq_decide]; omega
 (conv => whnf)
 refine dec (fun h4 => ?_) (fun h4 => ?_)
 ·(conv => whnf)
  refine dec (fun h5 => ?_) (fun h5 => ?_)
  ·have hlt : i < (spl a).length := by omega
   have hlt' : i < (spl b).length := by omega
   (conv => whnf)
   refine ⟨false, .grow, (.l [0, 1, 2, 3, 4, 5, 6, 7, 8]), by kernel_rfl, .inl ?_⟩
   repeat' ((conv => whnf); first | (refine decN (fun h => ?_) (fun h => ?_) <;> try contradiction) | refine ⟨i64 (by omega) (by omega), ?_⟩ | refine ⟨_, ⟨rfl, by omega⟩, ?_⟩ | refine ⟨_, List.getElem?_eq_getElem (by omega), ?_⟩ | fail)
   ·(conv => whnf)
    refine ⟨false, .grow, (.l [0, 1, 2, 3, 4, 5, 6, 7, 8, 9]), by kernel_rfl, .inl ?_⟩
    repeat' ((conv => whnf); first | refine ⟨_, ⟨rfl, by omega⟩, ?_⟩ | refine ⟨_, List.getElem?_eq_getElem (by omega), ?_⟩ | refine rtB ?_ | fail)
    exact (lessL_at hlt hlt' hi.2 h).symm
   ·refine ag (i + 1) [] [.same 0, .same 1] ⟨⟨hlt, hlt'⟩, take_step hlt hlt' hi.2 h⟩ (by simp only []; omega) ?_
    repeat' first | exact trivial | exact rfl | refine And.intro ?_ ?_
  ·repeat' ((conv => whnf); first | refine rtB ?_ | fail)
   exact fin (by omega)
 ·repeat' ((conv => whnf); first | refine rtB ?_ | fail)
  exact fin (by omega)
theorem hasPrefix_spec {dr : Bool} (p q : List UInt8) : DoesD dr Tryz.prog 336 [.c (.str p), .c (.str q)] [] (Rt (.c (.bool (q.isPrefixOf p))) []) := by
 refine X_spec (n := 18) (n0 := 0) tabOk Tryz.call336 Tryz.func336 ?_
 intro hb
 have he : q.isPrefixOf p = true ↔ p.take q.length = q := by
  rw [List.isPrefixOf_iff_prefix, List.prefix_iff_eq_take]; exact eq_comm
 (conv => whnf)
 refine dec (fun h => ?_) (fun h => ?_)
 ·(conv => whnf)
  refine ⟨0, q.length, rfl, rfl, by omega, ?_⟩
  (conv => whnf)
  refine rtB ?_
  rw [List.drop_zero, Bool.eq_iff_iff, he, decide_eq_true_iff]
 ·(conv => whnf)
  refine rtB ?_
  symm; rw [Bool.eq_false_iff, Ne, he]
  intro e
  have := congrArg List.length e
  rw [List.length_take] at this
  omega
def underP (p d : List UInt8) : List UInt8 × Bool := match under p d with
 | some r => (r, true)
 | none => (p, false)
theorem cutPrefix_spec {dr : Bool} (p q : List UInt8) : DoesD dr Tryz.prog 302 [.c (.str p), .c (.str q)] [] (Rt (.tup [(false, [.str (if q.isPrefixOf p = true then p.drop q.length else p)]), (false, [.bool (q.isPrefixOf p)])]) []) := by
 refine X_spec (n := 15) (n0 := 0) tabOk Tryz.call302 Tryz.func302 ?_
 intro hb
 (conv => whnf)
 refine cl [] [] (hasPrefix_spec p q) ?_
 repeat' ((conv => whnf); first | refine booN (fun h => ?_) (fun h => ?_) | fail)
 ·rw [if_neg (by simp [h]), h]
  (conv => whnf)
  exact rx [] []
 ·rw [if_pos h, h]
  rw [List.isPrefixOf_iff_prefix] at h
  have := h.length_le
  (conv => whnf)
  refine ⟨q.length, p.length, rfl, rfl, by omega, ?_⟩
  (conv => whnf)
  rw [List.take_length]
  exact rx [] []
theorem sCutPrefix_spec {dr : Bool} (p q : List UInt8) : DoesD dr Tryz.prog 253 [.c (.str p), .c (.str q)] [] (Rt (.tup [(false, [.str (if q.isPrefixOf p = true then p.drop q.length else p)]), (false, [.bool (q.isPrefixOf p)])]) []) := by
 refine X_spec (n := 11) (n0 := 0) tabOk Tryz.call253 Tryz.func253 ?_
 intro hb
 (conv => whnf)
 refine cl [] [] (cutPrefix_spec p q) ?_
 (conv => whnf)
 exact rx [] []
theorem under_spec {dr : Bool} (p d : List UInt8) (hd : d.length ≤ 4000000) : DoesD dr Tryz.prog 177 [.c (.str p), .c (.str d)] [] (Rt (.tup [(false, [.str (underP p d).1]), (false, [.bool (underP p d).2])]) []) := by
 have he : underP p d = (if (d ++ [47]).isPrefixOf p = true then p.drop (d ++ [47]).length else p, (d ++ [47]).isPrefixOf p) := by
  unfold underP under
  cases h : (d ++ [47]).isPrefixOf p <;> simp
 rw [he]
 refine X_spec (n := 12) (n0 := 0) tabOk Tryz.call177 Tryz.func177 ?_
 intro hb
 (conv => whnf)
 refine ⟨by simp; omega, ?_⟩
 (conv => whnf)
 refine cl [] [] (sCutPrefix_spec p (d ++ [47])) ?_
 (conv => whnf)
 exact rx [] []
end Go.Nest
end
/- part -/
section

namespace Go.Nest
open Go Go.AM
def cutP (s : List UInt8) : List UInt8 × List UInt8 × Bool := if 0 ≤ Lib.indexByte s 47 then (s.take (Lib.indexByte s 47).toNat, s.drop ((Lib.indexByte s 47).toNat + 1), true) else (s, [], false)
theorem cut_none {s : List UInt8} (h : s.count 47 = 0) : cutP s = (s, [], false) := by
 unfold cutP; rw [idx_none h, if_neg (by decide)]
theorem cut_of : ∀ {a b : List UInt8}, a.count 47 = 0 → cutP (a ++ 47 :: b) = (a, b, true) := by
 intro a b h
 have key : Lib.indexByte (a ++ 47 :: b) 47 = a.length := by
  induction a with
  | nil => simp [Lib.indexByte]
  | cons c a ih =>
   rw [List.count_cons] at h
   have hc : (c == 47) = false := by
    cases hc : c == 47 with
    | false => rfl
    | true => rw [hc] at h; simp at h
   rw [List.cons_append]
   unfold Lib.indexByte
   rw [hc, ih (by omega)]
   have : ((a.length : Int) == -1) = false := by simp
   simp [this]
 unfold cutP
 rw [key, if_pos (by omega)]
 simp
theorem cut_some {s : List UInt8} (h : ¬ s.count 47 = 0) : ∃ a b, cutP s = (a, b, true) ∧ s = a ++ 47 :: b ∧ a.count 47 = 0 := by
 have key : ∀ {s : List UInt8}, ¬ s.count 47 = 0 → ∃ a b, s = a ++ 47 :: b ∧ a.count 47 = 0 := by
  intro s
  induction s with
  | nil => intro h; simp at h
  | cons c s ih =>
   intro h
   by_cases e : c = 47
   ·exact ⟨[], s, by rw [e]; rfl, rfl⟩
   ·have hc : (c == 47) = false := by simpa using e
    rw [List.count_cons, hc] at h
    obtain ⟨a, b, h1, h2⟩ := ih (by simpa using h)
    exact ⟨c :: a, b, by rw [h1]; rfl, by rw [List.count_cons, hc, h2]; rfl⟩
 obtain ⟨a, b, h1, h2⟩ := key h
 exact ⟨a, b, by rw [h1]; exact cut_of h2, h1, h2⟩
theorem name_stroke {n : List UInt8} (h : nameC n = 0) : n.count 47 = 0 := by
 rw [List.count_eq_zero]
 intro hm
 unfold nameC at h
 rw [if_pos] at h
 ·cases h
 ·refine .inr (.inr (.inr ?_))
  rw [List.any_eq_true]
  exact ⟨47, hm, by decide⟩
def stepE (rec : Int → List (List UInt8) → List Fi → Int × List Fi) (ins : List (List UInt8)) : List Ent → List Fi → Int × List Fi
 | [], out => (0, out)
 | e :: r, out => if e.mode = 2 then (if (rec e.id (ins ++ [e.name]) out).1 ≠ 0 then rec e.id (ins ++ [e.name]) out else stepE rec ins r (rec e.id (ins ++ [e.name]) out).2)
  else if out.length = 60 then (5, out) else stepE rec ins r (out ++ [⟨unsp (ins ++ [e.name]), e.mode, e.id, e.repo⟩])
def goF (L : List Ob) : Nat → Int → List (List UInt8) → List Fi → Int × List Fi
 | 0, _, _, out => (0, out)
 | n + 1, t, ins, out => if kindOf L t ≠ 2 then (9, out) else if 8 ≤ ins.length ∧ 0 < (getP L t).entries.length then (3, out) else stepE (goF L n) ins (getP L t).entries out
def filesP (L : List Ob) (t : Int) : List Fi × Int := if (goF L 9 t [] []).1 = 0 then ((goF L 9 t [] []).2, 0) else ([], (goF L 9 t [] []).1)
def insideP (name : List UInt8) : List Fi → List Fi × List Fi
 | [] => ([], [])
 | f :: r => match under f.path name with
  | none => ([], f :: r)
  | some p => (⟨p, f.mode, f.id, f.repo⟩ :: (insideP name r).1, (insideP name r).2)
def obT (es : List Ent) : Ob := ⟨2, [], es, 0, [], []⟩
def goB : Nat → List Ob → List Ent → List Fi → Int × Int × List Ob
 | 0, L, _, _ => (0, 0, L)
 | n + 1, L, es, [] => putP L (obT es)
 | n + 1, L, es, f :: r => if f.path.count 47 = 0 then goB n L (es ++ [⟨f.path, f.mode, f.id, f.repo⟩]) r
  else if (goB n L [] (insideP (cutP f.path).1 (f :: r)).1).2.1 ≠ 0 then (0, (goB n L [] (insideP (cutP f.path).1 (f :: r)).1).2.1, (goB n L [] (insideP (cutP f.path).1 (f :: r)).1).2.2)
   else goB n (goB n L [] (insideP (cutP f.path).1 (f :: r)).1).2.2 (es ++ [⟨(cutP f.path).1, 2, (goB n L [] (insideP (cutP f.path).1 (f :: r)).1).1, 0⟩]) (insideP (cutP f.path).1 (f :: r)).2
def mu (l : List Fi) : Nat := (l.map fun f => f.path.length + 1).sum
theorem mu_cons {f : Fi} {l : List Fi} : mu (f :: l) = f.path.length + 1 + mu l := by unfold mu; rw [List.map_cons, List.sum_cons]
theorem mu_app {l m : List Fi} : mu (l ++ m) = mu l + mu m := by unfold mu; rw [List.map_append, List.sum_append]
def clashF (p : Option Fi) (f : Fi) : Int := match p with
 | none => 0
 | some g => if lessP g.path f.path = false then 8 else if (under f.path g.path).isSome = true then 10 else 0
def checkF : Option Fi → List Fi → Int
 | _, [] => 0
 | p, f :: r => if (splitP f.path).2 ≠ 0 then (splitP f.path).2 else if f.mode ≠ 1 ∧ f.mode ≠ 3 then 6 else if clashF p f ≠ 0 then clashF p f else checkF (some f) r
def filesF (l : List Fi) : Int := if 60 < l.length then 5 else checkF none l
def buildP (L : List Ob) (l : List Fi) : Int × Int × List Ob := if filesF l ≠ 0 then (0, filesF l, L) else goB (mu l + 1) L [] l
def pre (n : List UInt8) (f : Fi) : Fi := ⟨n ++ 47 :: f.path, f.mode, f.id, f.repo⟩
inductive Ents (ne : Bool) (L : List Ob) : List Ent → List Fi → Prop
 | nil : Ents ne L [] []
 | file {e : Ent} {es : List Ent} {l : List Fi} (hm : e.mode ≠ 2) (h : Ents ne L es l) : Ents ne L (e :: es) (⟨e.name, e.mode, e.id, e.repo⟩ :: l)
 | dir {e : Ent} {es : List Ent} {m l : List Fi} (hm : e.mode = 2) (hk : kindOf L e.id = 2) (hne : ne = true → m ≠ []) (h1 : Ents ne L (getP L e.id).entries m) (h : Ents ne L es l) : Ents ne L (e :: es) (m.map (pre e.name) ++ l)
def TreeOf (ne : Bool) (L : List Ob) (t : Int) (l : List Fi) : Prop := kindOf L t = 2 ∧ Ents ne L (getP L t).entries l
theorem ext_kind {L M : List Ob} (h : L <+: M) {k : Int} (hk : ¬ kindOf L k = 0) : kindOf M k = kindOf L k := by
 obtain ⟨t, rfl⟩ := h; exact kindOf_app hk
theorem ext_get {L M : List Ob} (h : L <+: M) {k : Int} (hk : ¬ kindOf L k = 0) : getP M k = getP L k := by
 obtain ⟨t, rfl⟩ := h
 have := kindOf_pos hk
 exact getP_app (by omega)
theorem Ents.mono {ne : Bool} {L M : List Ob} (hx : L <+: M) {es : List Ent} {l : List Fi} (h : Ents ne L es l) : Ents ne M es l := by
 induction h with
 | nil => exact .nil
 | file hm _ ih => exact .file hm ih
 | @dir e es m l hm hk hne h1 h ih1 ih =>
  refine .dir hm (by rw [ext_kind hx (by omega)]; exact hk) hne ?_ ih
  rw [ext_get hx (by omega)]; exact ih1
theorem PoolOk.tree {L : List Ob} (hp : PoolOk L) {t : Int} (hk : kindOf L t = 2) : getP L t = obT (getP L t).entries ∧ entsF none (getP L t).entries = 0 ∧ (getP L t).entries.length ≤ 60 ∧ (∀ e ∈ (getP L t).entries, kindOf L e.id = e.mode) := by
 have h := hp.get (id := t) (by omega)
 have hk2 := getP_kind (l := L) (id := t)
 rw [hk] at hk2
 have h1 := h.nb (by omega)
 have h2 := h.nc (by omega)
 refine ⟨?_, h.ents, h.entries, ?_⟩
 ·generalize getP L t = o at *
  obtain ⟨a, b, c, d, e, f⟩ := o
  simp only at hk2 h1 h2
  rw [hk2, h1, h2.1, h2.2.1, h2.2.2]; rfl
 ·have hpos := kindOf_pos (l := L) (id := t) (by omega)
  have := (hp.obj (getP L t) (by rw [getP_at hpos.1 hpos.2]; exact List.getElem_mem _)).2
  unfold leadsP at this
  rw [Bool.and_eq_true, List.all_eq_true] at this
  intro e he
  simpa using this.1 e he
def Rise : Option (List UInt8) → List Ent → Prop
 | _, [] => True
 | p, e :: r => (∀ q, p = some q → Op.bytesLess q e.name = true) ∧ Rise (some e.name) r
theorem ents_rise : ∀ {es : List Ent} {p : Option (List UInt8)}, entsF p es = 0 → Rise p es
 | [], _, _ => trivial
 | e :: r, p, h => by
  unfold entsF at h
  split at h
  ·rename_i h0
   refine ⟨fun q hq => ?_, ents_rise h⟩
   subst hq
   unfold entF at h0
   split at h0
   ·exact absurd h0 ‹_›
   split at h0
   ·cases h0
   split at h0
   ·cases h0
   split at h0
   ·cases h0
   simp only at h0
   split at h0
   ·assumption
   ·cases h0
  ·exact absurd h ‹_›
theorem rise_all : ∀ {es : List Ent} {q : List UInt8}, Rise (some q) es → ∀ e ∈ es, Op.bytesLess q e.name = true
 | e :: r, q, ⟨h1, h2⟩, x, hx => by
  rcases List.mem_cons.1 hx with rfl | hx
  ·exact h1 q rfl
  ·exact bl_trans (h1 q rfl) (rise_all h2 x hx)
structure EntOk (L : List Ob) (e : Ent) : Prop where
 name : nameC e.name = 0
 m1 : 1 ≤ e.mode
 m3 : e.mode ≤ 3
 id : 0 ≤ e.id
 repo : 0 ≤ e.repo ∧ e.repo < 4
 link : e.mode = 3 ∨ e.repo = 0
 kind : kindOf L e.id = e.mode
theorem EntOk.mono {L M : List Ob} (hx : L <+: M) {e : Ent} (h : EntOk L e) : EntOk M e :=
 ⟨h.name, h.m1, h.m3, h.id, h.repo, h.link, by have := h.kind; have := h.m1; rw [ext_kind hx (by omega)]; exact h.kind⟩
theorem tree_ok {L : List Ob} (hp : PoolOk L) {t : Int} (hk : kindOf L t = 2) : Rise none (getP L t).entries ∧ ∀ e ∈ (getP L t).entries, EntOk L e := by
 obtain ⟨h1, h2, h3, h4⟩ := hp.tree hk
 refine ⟨ents_rise h2, fun e he => ?_⟩
 obtain ⟨g1, g2, g3, g4, g5⟩ := entsF_ok h2 e he
 exact ⟨g1, g2.1, g2.2, g3, g4, g5, h4 e he⟩
theorem put_ext {L : List Ob} (o : Ob) : L <+: (putP L o).2.2 := by
 unfold putP
 split
 ·exact List.prefix_refl _
 split
 ·exact List.prefix_refl _
 split
 ·exact List.prefix_refl _
 split
 ·exact List.prefix_refl _
 ·exact List.prefix_append _ _
theorem inside_eq (name : List UInt8) : ∀ l : List Fi, l = (insideP name l).1.map (pre name) ++ (insideP name l).2
 | [] => rfl
 | f :: r => by
  have ih := inside_eq name r
  unfold insideP
  cases h : under f.path name with
  | none => rfl
  | some p =>
   simp only [List.map_cons, List.cons_append]
   rw [← ih]
   congr 1
   obtain ⟨a, b, c, d⟩ := f
   have := under_eq h
   simp only at this
   rw [pre, this]
theorem inside_pos {name : List UInt8} {f : Fi} {r : List Fi} {b : List UInt8} (h : f.path = name ++ 47 :: b) : (insideP name (f :: r)).1 ≠ [] := by
 unfold insideP
 rw [h, under_of]; simp
theorem mu_pre (n : List UInt8) : ∀ m : List Fi, mu m + (n.length + 1) * m.length = mu (m.map (pre n))
 | [] => rfl
 | f :: m => by
  have := mu_pre n m
  rw [List.map_cons, mu_cons, mu_cons, List.length_cons, Nat.mul_succ, ← this]
  simp [pre]
  omega
theorem inside_mu {name : List UInt8} {f : Fi} {r : List Fi} {b : List UInt8} (h : f.path = name ++ 47 :: b) : mu (insideP name (f :: r)).1 < mu (f :: r) ∧ mu (insideP name (f :: r)).2 < mu (f :: r) := by
 have h1 := inside_pos (r := r) h
 have h2 := inside_eq name (f :: r)
 have h3 := mu_pre name (insideP name (f :: r)).1
 have h4 : mu (f :: r) = mu ((insideP name (f :: r)).1.map (pre name)) + mu (insideP name (f :: r)).2 := by rw [← mu_app, ← h2]
 have h5 : 0 < (insideP name (f :: r)).1.length := List.length_pos_iff.2 h1
 have h6 : (insideP name (f :: r)).1.length ≤ (name.length + 1) * (insideP name (f :: r)).1.length := Nat.le_mul_of_pos_left _ (by omega)
 omega
theorem spl_pre {n : List UInt8} (h : n.count 47 = 0) (p : List UInt8) : spl (n ++ 47 :: p) = n :: spl p := by rw [spl_append, spl_none h]; rfl
theorem Ents.fst {ne : Bool} {L : List Ob} {es : List Ent} {l : List Fi} (h : Ents ne L es l) : (∀ e ∈ es, nameC e.name = 0) → ∀ f ∈ l, ∃ e ∈ es, ∃ r, spl f.path = e.name :: r := by
 induction h with
 | nil => intro _ f hf; cases hf
 | @file e es l hm _ ih =>
  intro hn f hf
  rcases List.mem_cons.1 hf with rfl | hf
  ·exact ⟨e, by simp, [], spl_none (name_stroke (hn e (by simp)))⟩
  ·obtain ⟨e2, h2, h3⟩ := ih (fun x hx => hn x (by simp [hx])) f hf
   exact ⟨e2, by simp [h2], h3⟩
 | @dir e es m l hm hk hne h1 h ih1 ih =>
  intro hn f hf
  rcases List.mem_append.1 hf with hf | hf
  ·obtain ⟨g, hg, rfl⟩ := List.mem_map.1 hf
   exact ⟨e, by simp, spl g.path, spl_pre (name_stroke (hn e (by simp))) _⟩
  ·obtain ⟨e2, h2, h3⟩ := ih (fun x hx => hn x (by simp [hx])) f hf
   exact ⟨e2, by simp [h2], h3⟩
theorem bl_ne {a b : List UInt8} (h : Op.bytesLess a b = true) : b ≠ a := fun e => by rw [e, bl_irrefl] at h; cases h
theorem Ents.apart {ne : Bool} {L : List Ob} {e : Ent} {es : List Ent} {l : List Fi} {p : Option (List UInt8)} (h : Ents ne L es l) (hn : ∀ x ∈ e :: es, nameC x.name = 0) (hr : Rise p (e :: es)) : ∀ f ∈ l, ∃ x r, spl f.path = x :: r ∧ Op.bytesLess e.name x = true := fun f hf => by
 obtain ⟨e2, h2, r, h3⟩ := h.fst (fun x hx => hn x (by simp [hx])) f hf
 exact ⟨e2.name, r, h3, rise_all hr.2 e2 h2⟩
end Go.Nest
end
/- part -/
section

namespace Go.Nest
open Go Go.AM
theorem goB_ok : ∀ (n : Nat) (L : List Ob) (acc : List Ent) (l : List Fi), PoolOk L → PoolOk (goB n L acc l).2.2 ∧ L <+: (goB n L acc l).2.2
 | 0, L, _, _, h => ⟨h, List.prefix_refl _⟩
 | n + 1, L, acc, [], h => ⟨putP_ok h _, put_ext _⟩
 | n + 1, L, acc, f :: r, h => by
  unfold goB
  split
  ·exact goB_ok n L _ r h
  obtain ⟨h1, h2⟩ := goB_ok n L [] (insideP (cutP f.path).1 (f :: r)).1 h
  split
  ·exact ⟨h1, h2⟩
  obtain ⟨h3, h4⟩ := goB_ok n _ (acc ++ [⟨(cutP f.path).1, 2, (goB n L [] (insideP (cutP f.path).1 (f :: r)).1).1, 0⟩]) (insideP (cutP f.path).1 (f :: r)).2 h1
  exact ⟨h3, h2.trans h4⟩
theorem checkF_all : ∀ {l : List Fi} {p : Option Fi}, checkF p l = 0 → ∀ f ∈ l, (splitP f.path).2 = 0 ∧ (f.mode = 1 ∨ f.mode = 3)
 | f :: r, p, h, g, hg => by
  unfold checkF at h
  split at h
  ·exact absurd h ‹_›
  split at h
  ·cases h
  split at h
  ·exact absurd h ‹_›
  rcases List.mem_cons.1 hg with rfl | hg
  ·exact ⟨by simpa using ‹¬ (splitP _).2 ≠ 0›, by omega⟩
  ·exact checkF_all h g hg
theorem filesF_all {l : List Fi} (h : filesF l = 0) : l.length ≤ 60 ∧ ∀ f ∈ l, (splitP f.path).2 = 0 ∧ (f.mode = 1 ∨ f.mode = 3) := by
 unfold filesF at h
 split at h
 ·cases h
 ·exact ⟨by omega, checkF_all h⟩
theorem split_zero {s : List UInt8} (h : (splitP s).2 = 0) : namesF (spl s) = 0 ∧ (spl s).length ≤ 8 ∧ (splitP s).1 = spl s := by
 unfold splitP at h ⊢
 split at h
 ·rename_i h1
  split at h
  ·cases h
  ·rename_i h2
   rw [if_pos h1, if_neg h2]
   exact ⟨h1, by omega, rfl⟩
 ·exact absurd h ‹_›
theorem split_of {s : List UInt8} (h1 : namesF (spl s) = 0) (h2 : (spl s).length ≤ 8) : (splitP s).2 = 0 := by
 unfold splitP
 rw [if_pos h1, if_neg (by omega)]
theorem buildP_ok {L : List Ob} (hp : PoolOk L) (l : List Fi) : PoolOk (buildP L l).2.2 ∧ L <+: (buildP L l).2.2 := by
 unfold buildP
 split
 ·exact ⟨hp, List.prefix_refl _⟩
 ·exact goB_ok _ _ _ _ hp
def full (ins : List (List UInt8)) (f : Fi) : Fi := ⟨unsp (ins ++ [f.path]), f.mode, f.id, f.repo⟩
theorem unsp_end : ∀ (ins : List (List UInt8)) (a b : List UInt8), unsp (ins ++ [a ++ 47 :: b]) = unsp (ins ++ [a] ++ [b])
 | [], a, b => rfl
 | [x], a, b => by simp [unsp]
 | x :: y :: r, a, b => by
  have := unsp_end (y :: r) a b
  simp [unsp] at this ⊢
  exact this
theorem full_pre (ins : List (List UInt8)) (n : List UInt8) (f : Fi) : full ins (pre n f) = full (ins ++ [n]) f := by
 unfold full pre
 rw [unsp_end]
theorem full_nil : full [] = id := by funext f; rfl
theorem Ents.told {L : List Ob} (hp : PoolOk L) {es : List Ent} {l : List Fi} (h : Ents true L es l) : ∀ (n : Nat) (ins : List (List UInt8)) (out : List Fi), ins.length + n = 8 → (∀ e ∈ es, nameC e.name = 0) → (∀ f ∈ l, (spl f.path).length + ins.length ≤ 8) → out.length + l.length ≤ 60 → stepE (goF L n) ins es out = (0, out ++ l.map (full ins)) := by
 induction h with
 | nil => intro n ins out _ _ _ _; simp [stepE]
 | @file e es l hm _ ih =>
  intro n ins out hn hnm hf hlen
  rw [List.length_cons] at hlen
  unfold stepE
  rw [if_neg hm, if_neg (by omega), ih n ins _ hn (fun x hx => hnm x (by simp [hx])) (fun f h => hf f (by simp [h])) (by rw [List.length_append, List.length_singleton]; omega)]
  simp [full]
 | @dir e es m l hm hk hne h1 h ih1 ih =>
  intro n ins out hn hnm hf hlen
  have hs := name_stroke (hnm e (by simp))
  have hm0 := hne rfl
  obtain ⟨f0, m0, rfl⟩ : ∃ f0 m0, m = f0 :: m0 := by cases m with | nil => exact absurd rfl hm0 | cons a b => exact ⟨a, b, rfl⟩
  have hd : ∀ f ∈ f0 :: m0, (spl f.path).length + 1 + ins.length ≤ 8 := fun f h => by
   have := hf (pre e.name f) (List.mem_append.2 (.inl (List.mem_map.2 ⟨f, h, rfl⟩)))
   rw [show (pre e.name f).path = e.name ++ 47 :: f.path from rfl, spl_pre hs, List.length_cons] at this
   exact this
  have h8 := hd f0 (by simp)
  have h9 := spl_pos f0.path
  obtain ⟨n, rfl⟩ : ∃ m, n = m + 1 := ⟨n - 1, by omega⟩
  rw [List.length_append, List.length_map] at hlen
  have hin : goF L (n + 1) e.id (ins ++ [e.name]) out = (0, out ++ (f0 :: m0).map (full (ins ++ [e.name]))) := by
   unfold goF
   rw [if_neg (by simpa using hk), if_neg (by rw [List.length_append, List.length_singleton]; omega)]
   exact ih1 n (ins ++ [e.name]) out (by rw [List.length_append, List.length_singleton]; omega) (fun x hx => (entsF_ok (hp.tree hk).2.1 x hx).1) (fun f h => by rw [List.length_append, List.length_singleton]; have := hd f h; omega) (by omega)
  unfold stepE
  rw [if_pos hm, hin]
  rw [if_neg (by simp)]
  rw [ih (n + 1) ins _ hn (fun x hx => hnm x (by simp [hx])) (fun f h => hf f (List.mem_append.2 (.inr h))) (by rw [List.length_append, List.length_map]; omega)]
  have hc : full ins ∘ pre e.name = full (ins ++ [e.name]) := funext fun f => full_pre ins e.name f
  rw [List.map_append, List.map_map, hc, List.append_assoc]
theorem stepE_told {L : List Ob} {n : Nat} {ins : List (List UInt8)} (hn : ins.length + n = 8) (rec : ∀ (t : Int) (nm : List UInt8) (out out' : List Fi), ins.length < 8 → out.length ≤ 60 → goF L n t (ins ++ [nm]) out = (0, out') → ∃ l, TreeOf false L t l ∧ out' = out ++ l.map (full (ins ++ [nm])) ∧ out'.length ≤ 60 ∧ ∀ f ∈ l, (spl f.path).length + (ins.length + 1) ≤ 8) : ∀ (es : List Ent) (out out' : List Fi), (∀ e ∈ es, nameC e.name = 0) → (es ≠ [] → ins.length < 8) → out.length ≤ 60 → stepE (goF L n) ins es out = (0, out') → ∃ l, Ents false L es l ∧ out' = out ++ l.map (full ins) ∧ out'.length ≤ 60 ∧ ∀ f ∈ l, (spl f.path).length + ins.length ≤ 8
 | [], out, out', _, _, hlen, h => by
  unfold stepE at h
  cases h
  exact ⟨[], .nil, by simp, hlen, fun f hf => by cases hf⟩
 | e :: r, out, out', hnm, hi, hlen, h => by
  have hs := name_stroke (hnm e (by simp))
  have h8 := hi (by simp)
  unfold stepE at h
  split at h
  ·rename_i hm
   split at h
   ·rename_i h1
    exact absurd (by rw [h]) h1
   ·rename_i h1
    obtain ⟨l1, k1, k2, k3, k4⟩ := rec e.id e.name out (goF L n e.id (ins ++ [e.name]) out).2 h8 hlen (Prod.ext (Classical.not_not.1 h1) rfl)
    obtain ⟨l2, k5, k6, k7, k8⟩ := stepE_told hn rec r _ out' (fun x hx => hnm x (by simp [hx])) (fun _ => h8) k3 h
    refine ⟨l1.map (pre e.name) ++ l2, .dir hm k1.1 (fun h => by cases h) k1.2 k5, ?_, k7, fun f hf => ?_⟩
    ·have hc : full ins ∘ pre e.name = full (ins ++ [e.name]) := funext fun f => full_pre ins e.name f
     rw [k6, k2, List.map_append, List.map_map, hc, List.append_assoc]
    ·rcases List.mem_append.1 hf with hf | hf
     ·obtain ⟨g, hg, rfl⟩ := List.mem_map.1 hf
      have := k4 g hg
      rw [show (pre e.name g).path = e.name ++ 47 :: g.path from rfl, spl_pre hs, List.length_cons]
      omega
     ·exact k8 f hf
  ·rename_i hm
   split at h
   ·cases h
   ·rename_i h1
    obtain ⟨l2, k5, k6, k7, k8⟩ := stepE_told hn rec r _ out' (fun x hx => hnm x (by simp [hx])) (fun _ => h8) (by rw [List.length_append, List.length_singleton]; omega) h
    refine ⟨⟨e.name, e.mode, e.id, e.repo⟩ :: l2, .file hm k5, ?_, k7, fun f hf => ?_⟩
    ·rw [k6]; simp [full]
    ·rcases List.mem_cons.1 hf with rfl | hf
     ·rw [spl_none hs]; simp; omega
     ·exact k8 f hf
theorem goF_told {L : List Ob} (hp : PoolOk L) : ∀ (n : Nat) (t : Int) (ins : List (List UInt8)) (out out' : List Fi), ins.length + n = 8 → out.length ≤ 60 → goF L (n + 1) t ins out = (0, out') → ∃ l, TreeOf false L t l ∧ out' = out ++ l.map (full ins) ∧ out'.length ≤ 60 ∧ ∀ f ∈ l, (spl f.path).length + ins.length ≤ 8 := by
 intro n
 induction n with
 | zero =>
  intro t ins out out' hn hlen h
  unfold goF at h
  split at h
  ·cases h
  split at h
  ·cases h
  rename_i h1 h2
  have h1 : kindOf L t = 2 := Classical.not_not.1 h1
  have he : (getP L t).entries = [] := List.eq_nil_of_length_eq_zero (by omega)
  rw [he] at h
  unfold stepE at h
  cases h
  exact ⟨[], ⟨h1, by rw [he]; exact .nil⟩, by simp, hlen, fun f hf => by cases hf⟩
 | succ n ih =>
  intro t ins out out' hn hlen h
  rw [goF] at h
  split at h
  ·cases h
  split at h
  ·cases h
  rename_i h1 h2
  have h1 : kindOf L t = 2 := Classical.not_not.1 h1
  obtain ⟨l, k1, k2, k3, k4⟩ := stepE_told (L := L) (n := n + 1) (ins := ins) (by omega) (fun t nm out out' h8 hl hg => by
   obtain ⟨l, k1, k2, k3, k4⟩ := ih t (ins ++ [nm]) out out' (by rw [List.length_append, List.length_singleton]; omega) hl hg
   exact ⟨l, k1, k2, k3, fun f hf => by have := k4 f hf; rw [List.length_append, List.length_singleton] at this; exact this⟩) _ out out' (fun x hx => (entsF_ok (hp.tree h1).2.1 x hx).1) (fun _ => by omega) hlen h
  exact ⟨l, ⟨h1, k1⟩, k2, k3, k4⟩
theorem files_told {L : List Ob} (hp : PoolOk L) {t : Int} (h : (filesP L t).2 = 0) : TreeOf false L t (filesP L t).1 ∧ (filesP L t).1.length ≤ 60 ∧ ∀ f ∈ (filesP L t).1, (spl f.path).length ≤ 8 := by
 unfold filesP at h ⊢
 split at h
 ·rename_i h1
  rw [if_pos h1]
  obtain ⟨l, k1, k2, k3, k4⟩ := goF_told hp 8 t [] [] (goF L 9 t [] []).2 rfl (by simp) (Prod.ext h1 rfl)
  rw [List.nil_append, full_nil, List.map_id] at k2
  rw [k2] at k3 ⊢
  exact ⟨k1, k3, fun f hf => by simpa using k4 f hf⟩
 ·exact absurd h ‹_›
theorem files_nil {L : List Ob} {t : Int} (h : (filesP L t).2 ≠ 0) : (filesP L t).1 = [] := by
 unfold filesP at h ⊢
 split
 ·rename_i h1; rw [if_pos h1] at h; exact absurd rfl h
 ·rfl
def Apt (f g : Fi) : Prop := lessP f.path g.path = true ∧ under g.path f.path = none
theorem apt_fst {f g : Fi} {a b : List UInt8} {r s : List (List UInt8)} (hf : spl f.path = a :: r) (hg : spl g.path = b :: s) (h : Op.bytesLess a b = true) : Apt f g := by
 refine ⟨?_, ?_⟩
 ·unfold lessP
  rw [hf, hg, lessL, if_neg (fun e => bl_ne h e.symm)]; exact h
 ·cases hu : under g.path f.path with
  | none => rfl
  | some q =>
   have := under_eq hu
   rw [this, spl_append, hf] at hg
   cases hg
   rw [bl_irrefl] at h; cases h
theorem apt_pre {n : List UInt8} (hn : n.count 47 = 0) {f g : Fi} (h : Apt f g) : Apt (pre n f) (pre n g) := by
 refine ⟨?_, ?_⟩
 ·unfold lessP
  rw [show (pre n f).path = n ++ 47 :: f.path from rfl, show (pre n g).path = n ++ 47 :: g.path from rfl, spl_pre hn, spl_pre hn, lessL, if_pos rfl]
  exact h.1
 ·cases hu : under (pre n g).path (pre n f).path with
  | none => rfl
  | some q =>
   have h1 := under_eq hu
   have h2 : n ++ 47 :: g.path = (n ++ 47 :: f.path) ++ 47 :: q := h1
   rw [List.append_assoc, List.append_cancel_left_eq] at h2
   have h3 : g.path = f.path ++ 47 :: q := by simpa using h2
   have h4 := h.2
   rw [h3, under_of] at h4; cases h4
theorem Ents.apt {ne : Bool} {L : List Ob} (hp : PoolOk L) {es : List Ent} {l : List Fi} (h : Ents ne L es l) : ∀ {p : Option (List UInt8)}, Rise p es → (∀ e ∈ es, EntOk L e) → l.Pairwise Apt ∧ (∀ f ∈ l, namesF (spl f.path) = 0 ∧ (f.mode = 1 ∨ f.mode = 3)) := by
 induction h with
 | nil => intro p _ _; exact ⟨.nil, fun f hf => by cases hf⟩
 | @file e es l hm h ih =>
  intro p hr he
  have hE := he e (by simp)
  have hs := name_stroke hE.name
  obtain ⟨h1, h2⟩ := ih hr.2 (fun x hx => he x (by simp [hx]))
  refine ⟨List.pairwise_cons.2 ⟨fun g hg => ?_, h1⟩, fun f hf => ?_⟩
  ·obtain ⟨x, r, e1, e2⟩ := h.apart (fun x hx => (he x hx).name) hr g hg
   exact apt_fst (spl_none hs) e1 e2
  ·rcases List.mem_cons.1 hf with rfl | hf
   ·refine ⟨?_, ?_⟩
    ·rw [spl_none hs]; simp [namesF, hE.name]
    ·have := hE.m1; have := hE.m3; show e.mode = 1 ∨ e.mode = 3; omega
   ·exact h2 f hf
 | @dir e es m l hm hk hne h1 h ih1 ih =>
  intro p hr he
  have hE := he e (by simp)
  have hs := name_stroke hE.name
  obtain ⟨q1, q2⟩ := tree_ok hp hk
  obtain ⟨g1, g2⟩ := ih1 q1 q2
  obtain ⟨g3, g4⟩ := ih hr.2 (fun x hx => he x (by simp [hx]))
  refine ⟨List.pairwise_append.2 ⟨?_, g3, fun f hf g hg => ?_⟩, fun f hf => ?_⟩
  ·rw [List.pairwise_map]
   exact g1.imp fun h => apt_pre hs h
  ·obtain ⟨f, hf, rfl⟩ := List.mem_map.1 hf
   obtain ⟨x, r, e1, e2⟩ := h.apart (fun x hx => (he x hx).name) hr g hg
   exact apt_fst (spl_pre hs f.path) e1 e2
  ·rcases List.mem_append.1 hf with hf | hf
   ·obtain ⟨g, hg, rfl⟩ := List.mem_map.1 hf
    refine ⟨?_, (g2 g hg).2⟩
    rw [show (pre e.name g).path = e.name ++ 47 :: g.path from rfl, spl_pre hs]
    unfold namesF
    rw [if_pos hE.name]; exact (g2 g hg).1
   ·exact g4 f hf
theorem check_of : ∀ {l : List Fi} {p : Option Fi}, (∀ g, p = some g → ∀ f ∈ l, Apt g f) → l.Pairwise Apt → (∀ f ∈ l, (splitP f.path).2 = 0 ∧ (f.mode = 1 ∨ f.mode = 3)) → checkF p l = 0
 | [], _, _, _, _ => rfl
 | f :: r, p, hp, h, hf => by
  obtain ⟨h1, h2⟩ := List.pairwise_cons.1 h
  have hc : clashF p f = 0 := by
   cases p with
   | none => rfl
   | some g =>
    have := hp g rfl f (by simp)
    unfold clashF
    simp [this.1, this.2]
  have h3 := hf f (by simp)
  unfold checkF
  rw [if_neg (by simpa using h3.1), if_neg (by omega), if_neg (by simpa using hc)]
  exact check_of (fun g hg x hx => by cases hg; exact h1 x hx) h2 fun x hx => hf x (by simp [hx])
theorem tree_check {ne : Bool} {L : List Ob} (hp : PoolOk L) {t : Int} {l : List Fi} (h : TreeOf ne L t l) (h1 : l.length ≤ 60) (h2 : ∀ f ∈ l, (spl f.path).length ≤ 8) : filesF l = 0 := by
 obtain ⟨q1, q2⟩ := tree_ok hp h.1
 obtain ⟨g1, g2⟩ := h.2.apt hp q1 q2
 unfold filesF
 rw [if_neg (by omega)]
 exact check_of (fun g hg => by cases hg) g1 fun f hf => ⟨split_of (g2 f hf).1 (h2 f hf), (g2 f hf).2⟩
def Bare (L : List Ob) (k : Int) : Prop := kindOf L k = 2 ∧ (getP L k).entries = []
theorem led_trans {L : List Ob} {i j k : Int} (h1 : Led L [i] j) (h2 : Led L [j] k) : Led L [i] k := by
 induction h2 with
 | base h hk => rw [List.mem_singleton] at h; subst h; exact h1
 | step _ hk ih => exact .step ih hk
theorem Ents.bare {L : List Ob} {es : List Ent} {l : List Fi} (h : Ents false L es l) : Ents true L es l ∨ ∃ e ∈ es, e.mode = 2 ∧ ∃ k, Led L [e.id] k ∧ Bare L k := by
 induction h with
 | nil => exact .inl .nil
 | @file e es l hm _ ih =>
  rcases ih with h | ⟨e2, h2, h3⟩
  ·exact .inl (.file hm h)
  ·exact .inr ⟨e2, by simp [h2], h3⟩
 | @dir e es m l hm hk hne h1 h ih1 ih =>
  have lb : Led L [e.id] e.id := .base (by simp) (by omega)
  rcases ih1 with g | ⟨e2, h2, h3, k, h4, h5⟩
  ·by_cases hm0 : m = []
   ·subst hm0
    refine .inr ⟨e, by simp, hm, e.id, lb, hk, ?_⟩
    cases hg : (getP L e.id).entries with
    | nil => rfl
    | cons x r =>
     rw [hg] at g
     generalize hq : ([] : List Fi) = q at g
     cases g with
     | file _ _ => cases hq
     | dir _ _ hn _ _ =>
      have := (List.append_eq_nil_iff.1 hq.symm).1
      rw [List.map_eq_nil_iff] at this
      exact absurd this (hn rfl)
   ·rcases ih with h | ⟨e2, h2, h3⟩
    ·exact .inl (.dir hm hk (fun _ => hm0) g h)
    ·exact .inr ⟨e2, by simp [h2], h3⟩
  ·refine .inr ⟨e, by simp, hm, k, ?_, h5⟩
   refine led_trans (.step lb ?_) h4
   unfold nextP
   rw [List.mem_append, List.mem_map]
   exact .inl ⟨e2, List.mem_filter.2 ⟨h2, by simp [h3]⟩, rfl⟩
theorem TreeOf.mono {ne : Bool} {L M : List Ob} (hx : L <+: M) {t : Int} {l : List Fi} (h : TreeOf ne L t l) : TreeOf ne M t l := by
 have hk := h.1
 exact ⟨by rw [ext_kind hx (by omega)]; exact hk, by rw [ext_get hx (by omega)]; exact h.2.mono hx⟩
theorem Bare.mono {L M : List Ob} (hx : L <+: M) {k : Int} (h : Bare L k) : Bare M k := by
 have hk := h.1
 exact ⟨by rw [ext_kind hx (by omega)]; exact hk, by rw [ext_get hx (by omega)]; exact h.2⟩
def isDir (d : List UInt8) (e : Ent) : Bool := decide (e.name = d) && decide (e.mode = 2)
def atL (L : List Ob) : Int → List (List UInt8) → Int × Int
 | t, [] => (t, 0)
 | t, d :: ds => if kindOf L t ≠ 2 then (0, 9) else match (getP L t).entries.find? (isDir d) with
  | some e => atL L e.id ds
  | none => (0, 9)
def atF (L : List Ob) (t : Int) (dir : List UInt8) : Int × Int := if (splitP dir).2 ≠ 0 then (0, (splitP dir).2) else atL L t (splitP dir).1
theorem namesF_all : ∀ {l : List (List UInt8)}, namesF l = 0 → ∀ d ∈ l, nameC d = 0
 | x :: r, h, d, hd => by
  unfold namesF at h
  split at h
  ·rcases List.mem_cons.1 hd with rfl | hd
   ·assumption
   ·exact namesF_all h d hd
  ·exact absurd h ‹_›
end Go.Nest
end
