/- part -/
import Derived.Test.YtpmjnbidmcnhnaaGreatDoorP11
import Derived.Test.YtpmjnbidmcnhnaaGreatDoorZ1
import Derived.Test.YtpmjnbidmcnhnaaGreatDoorL0
set_option linter.unusedVariables false
set_option linter.unusedSimpArgs false
section

namespace Go.Nest
open Go Go.AM Go.Proofs
open Go.Proofs.YtpmjnbidmcnhnaaGreatDoor (tab tabOk)
set_option maxRecDepth 4000
theorem count_spec {dr : Bool} (l : List UInt8) : DoesD dr Tryz.prog 193 [.c (.str l), .c (.int .u8 47)] [] (Rt (.c (.int .i64 (l.count 47))) []) := by
 refine ext_spec (e := Extern.BytealgCount.count) Tryz.func193 (by decide) rfl rfl rfl rfl (fun F H m vs w h => ?_)
 match vs, h with
 | [v1, v2], ⟨h1, h2, _⟩ =>
  cases h1 with
  | str _ _ =>
   cases h2 with
   | int _ => exact ⟨_, Lib.run_countString ⟨l.toArray⟩ 47 w, fun F H m => .int .nl⟩
theorem idx_spec {dr : Bool} (l : List UInt8) : DoesD dr Tryz.prog 202 [.c (.str l), .c (.int .u8 47)] [] (Rt (.c (.int .i64 (Lib.indexByte l 47))) []) := by
 refine ext_spec (e := Extern.BytealgIndexByte.indexByte) Tryz.func202 (by decide) rfl rfl rfl rfl (fun F H m vs w h => ?_)
 match vs, h with
 | [v1, v2], ⟨h1, h2, _⟩ =>
  cases h1 with
  | str _ _ =>
   cases h2 with
   | int _ => exact ⟨_, Lib.run_indexByteString ⟨l.toArray⟩ 47 w, fun F H m => .int .nl⟩
theorem stringsCount_spec {dr : Bool} (l : List UInt8) : DoesD dr Tryz.prog 174 [.c (.str l), .c (.str [47])] [] (Rt (.c (.int .i64 (l.count 47))) []) := by
 refine X_spec (n := 34) (n0 := 0) tabOk Tryz.call174 Tryz.func174 ?_
 intro hb
 repeat' ((conv => whnf); refine I6 ?_)
 (conv => whnf)
 refine ⟨0, 47, rfl, rfl, ?_⟩
 (conv => whnf)
 refine cl [] [] (count_spec l) ?_
 (conv => whnf)
 exact rtI rfl
theorem stringsIndexByte_spec {dr : Bool} (l : List UInt8) : DoesD dr Tryz.prog 194 [.c (.str l), .c (.int .u8 47)] [] (Rt (.c (.int .i64 (Lib.indexByte l 47))) []) := by
 refine X_spec (n := 8) (n0 := 0) tabOk Tryz.call194 Tryz.func194 ?_
 intro hb
 (conv => whnf)
 refine cl [] [] (idx_spec l) ?_
 (conv => whnf)
 exact rtI rfl
theorem sliteIndex_spec {dr : Bool} (l : List UInt8) : DoesD dr Tryz.prog 177 [.c (.str l), .c (.str [47])] [] (Rt (.c (.int .i64 (Lib.indexByte l 47))) []) := by
 refine X_spec (n := 143) (n0 := 0) tabOk Tryz.call177 Tryz.func177 ?_
 intro hb
 repeat' ((conv => whnf); first | (refine dec (fun h => ?_) (fun h => ?_) <;> try contradiction) | (refine decN (fun h => ?_) (fun h => ?_) <;> try contradiction) | refine booN (fun h => ?_) (fun h => ?_) | refine boo (fun h => ?_) (fun h => ?_) | refine ⟨i64 (by omega) (by omega), ?_⟩ | refine ⟨_, _, rfl, List.getElem?_eq_getElem (by omega), ?_⟩ | refine ⟨_, ⟨rfl, by omega⟩, ?_⟩ | refine ⟨_, List.getElem?_eq_getElem (by omega), ?_⟩ | refine rtB ?_ | refine rtI ?_ | refine rtC ?_ rfl | fail)
 ·obtain rfl : l = [47] := h.symm
  rfl
 ·(conv => whnf)
  refine ⟨0, 47, rfl, rfl, ?_⟩
  (conv => whnf)
  refine cl [] [] (stringsIndexByte_spec l) ?_
  (conv => whnf)
  exact rtI rfl
theorem stringsIndex_spec {dr : Bool} (l : List UInt8) : DoesD dr Tryz.prog 175 [.c (.str l), .c (.str [47])] [] (Rt (.c (.int .i64 (Lib.indexByte l 47))) []) := by
 refine X_spec (n := 8) (n0 := 0) tabOk Tryz.call175 Tryz.func175 ?_
 intro hb
 (conv => whnf)
 refine cl [] [] (sliteIndex_spec l) ?_
 (conv => whnf)
 exact rtI rfl
structure GS (l : List UInt8) (a : List (List UInt8)) (s : List UInt8) (i : Nat) : Prop where
 len : a.length = l.count 47 + 1
 cnt : i + s.count 47 = l.count 47
 spl : spl l = a.take i ++ spl s
 sl : s.length ≤ l.length
theorem count_len (l : List UInt8) : l.count 47 ≤ l.length := List.count_le_length
set_option maxHeartbeats 1000000 in
theorem genSplit_spec {dr : Bool} (l : List UInt8) (hl : l.length ≤ 4000000) : DoesD dr Tryz.prog 148 [.c (.str l), .c (.str [47]), .c (.int .i64 0), .c (.int .i64 (-1))] [] (Rt (.c (.rw 0)) [.row 1 (List UInt8) encS (spl l)]) := by
 refine X_spM (n := 66) (n0 := 0) tabOk Tryz.call148 Tryz.func148 ?_
 intro hb
 have hc := count_len l
 refine XM.seq ?_
 repeat' ((conv => whnf); refine I6 ?_)
 refine XM.seq ?_
 repeat' ((conv => whnf); refine I6 ?_)
 refine XM.seq ?_
 repeat' ((conv => whnf); refine I6 ?_)
 refine XM.seq ?_
 repeat' ((conv => whnf); refine I6 ?_)
 (conv => whnf)
 refine cl [] [] (stringsCount_spec l) ?_
 repeat' ((conv => whnf); refine I6 ?_)
 refine XM.seq ?_
 repeat' ((conv => whnf); refine I6 ?_)
 (conv => whnf)
 rw [show min ((l.count 47 : Int) + 1) ((l.length : Int) + 1) = ((l.count 47 + 1 : Nat) : Int) by omega]
 refine XM.seq ?_
 (conv => whnf)
 refine ⟨l.count 47 + 1, [], ⟨rfl, rfl⟩, rfl, by simp only []; omega, ?_⟩
 repeat' ((conv => whnf); refine I6 ?_)
 refine XM.seq ?_
 repeat' ((conv => whnf); refine I6 ?_)
 refine XM.seq ?_
 repeat' ((conv => whnf); refine I6 ?_)
 refine XM.join (ι := List (List UInt8) × List UInt8) (fun | (a, s) => ⟨[(0, .c (.str s)), (9, .c (.rw 0)), (10, .c (.int .i64 (l.count 47 : Nat)))], [.row 1 (List UInt8) encS a]⟩) (fun x => GS l x.1 x.2 (l.count 47)) ?_ (fun x hx => ?_)
 ·(conv => whnf)
  refine lp (Nat × List (List UInt8) × List UInt8) (fun | (i, a, s) => ⟨[(0, .c (.str s)), (1, .c (.str [47])), (2, .c (.int .i64 0)), (3, .c (.int .i64 (((l.count 47 + 1 : Nat) : Int) - 1))), (9, .c (.rw 0)), (10, .c (.int .i64 i))], [.row 1 (List UInt8) encS a]⟩)
   (fun x => GS l x.2.1 x.2.2 x.1 ∧ True) (fun x => l.count 47 - x.1) (0, List.replicate (l.count 47 + 1) [], l) [] [.same 0] ?_ ?_ (fun x hx => ?_)
  ·exact ⟨⟨by simp, by simp, by simp, Nat.le_refl _⟩, trivial⟩
  ·repeat' first | exact trivial | exact rfl | refine And.intro ?_ ?_
  obtain ⟨i, a, s⟩ := x
  obtain ⟨hg, _⟩ := hx
  dsimp only at hg
  have g1 := hg.len
  have g2 := hg.cnt
  have g4 := hg.sl
  (conv => whnf)
  refine dec (fun h4 => ?_) (fun h4 => ?_)
  ·obtain ⟨m, m1, m2, m3, m4⟩ := idx_stroke (l := s) (by omega)
   have hs := stringsIndex_spec (dr := dr) s
   rw [m1] at hs
   (conv => whnf)
   refine cl [] [] (hs) ?_
   repeat' ((conv => whnf); refine I6 ?_)
   (conv => whnf)
   refine ⟨0, m, rfl, by omega, by omega, ?_⟩
   (conv => whnf)
   refine ⟨i, ⟨rfl, by omega⟩, ?_⟩
   (conv => whnf)
   refine ⟨_, (s.take m).drop 0, List.getElem?_eq_getElem (by omega), ⟨Nat.le_refl _, rfl⟩, ?_⟩
   repeat' ((conv => whnf); first | (refine dec (fun h => ?_) (fun h => ?_) <;> try contradiction) | (refine decN (fun h => ?_) (fun h => ?_) <;> try contradiction) | refine booN (fun h => ?_) (fun h => ?_) | refine boo (fun h => ?_) (fun h => ?_) | refine ⟨i64 (by omega) (by omega), ?_⟩ | refine ⟨_, _, rfl, List.getElem?_eq_getElem (by omega), ?_⟩ | refine ⟨_, ⟨rfl, by omega⟩, ?_⟩ | refine ⟨_, List.getElem?_eq_getElem (by omega), ?_⟩ | refine rtB ?_ | refine rtI ?_ | refine rtC ?_ rfl | fail)
   refine ⟨i64 (by simp; omega) (by simp; omega), ?_⟩
   (conv => whnf)
   refine ⟨m + 1, s.length, rfl, rfl, by omega, ?_⟩
   repeat' ((conv => whnf); refine I6 ?_)
   refine ag (i + 1, a.set i ((s.take m).drop 0), (s.take s.length).drop (m + 1)) [] [.same 0] ⟨⟨?_, ?_, ?_, ?_⟩, trivial⟩ (by simp only []; omega) ?_
   ·dsimp only; rw [List.length_set]; exact g1
   ·dsimp only; rw [List.take_length]; omega
   ·dsimp only
    rw [List.take_length, hg.spl, m3, List.drop_zero, List.take_succ_eq_append_getElem (by rw [List.length_set]; omega), List.getElem_set_self, List.take_set_of_le (Nat.le_refl _)]
    simp
   ·dsimp only; rw [List.take_length, List.length_drop]; omega
   ·repeat' first | exact trivial | exact rfl | refine And.intro ?_ ?_
  ·obtain rfl : i = l.count 47 := by omega
   (conv => whnf)
   refine ⟨(a, s), hg, [], [.same 0], ?_⟩
   repeat' first | exact trivial | exact rfl | refine And.intro ?_ ?_
 obtain ⟨a, s⟩ := x
 dsimp only at hx
 have g1 := hx.len
 have g2 := hx.cnt
 have g3 := hx.spl
 rw [spl_none (l := s) (by omega)] at g3
 refine XM.seq ?_
 (conv => whnf)
 refine ⟨l.count 47, ⟨rfl, by omega⟩, ?_⟩
 (conv => whnf)
 refine ⟨_, s, List.getElem?_eq_getElem (by omega), ⟨Nat.le_refl _, rfl⟩, ?_⟩
 repeat' ((conv => whnf); refine I6 ?_)
 refine XM.of ?_
 (conv => whnf)
 refine ⟨i64 (by omega) (by omega), ?_⟩
 (conv => whnf)
 refine ⟨0, l.count 47 + 1, rfl, by omega, by rw [List.length_set]; omega, ?_⟩
 (conv => whnf)
 have he : (((a.set (l.count 47) s).drop 0).take (l.count 47 + 1 - 0)) = spl l := by
  rw [g3, List.drop_zero, Nat.sub_zero, List.take_succ_eq_append_getElem (by rw [List.length_set]; omega), List.getElem_set_self, List.take_set_of_le (Nat.le_refl _)]
 refine rt [] [.cut 1 0 0 (l.count 47 + 1 - 0)] ?_ rfl ⟨rfl, rfl⟩
 repeat' first | exact trivial | exact rfl | refine And.intro ?_ ?_
 ·rw [List.length_set]; omega
 ·rw [he]
end Go.Nest
end
/- part -/
section

namespace Go.Nest
open Go Go.AM Go.Proofs
open Go.Proofs.YtpmjnbidmcnhnaaGreatDoor (tab tabOk)
set_option maxRecDepth 4000
theorem stringsSplit_spec {dr : Bool} (l : List UInt8) (hl : l.length ≤ 4000000) : DoesD dr Tryz.prog 125 [.c (.str l), .c (.str [47])] [] (Rt (.c (.rw 0)) [.row 1 (List UInt8) encS (spl l)]) := by
 refine X_spec (n := 8) (n0 := 0) tabOk Tryz.call125 Tryz.func125 ?_
 intro hb
 (conv => whnf)
 refine cl [] [] (genSplit_spec l hl) ?_
 (conv => whnf)
 exact rx [] [.same 0]
def namesF : List (List UInt8) → Int
 | [] => 0
 | x :: r => if nameC x = 0 then namesF r else nameC x
def splitP (l : List UInt8) : List (List UInt8) × Int := if namesF (spl l) = 0 then (if 8 < (spl l).length then ([], 3) else (spl l, 0)) else ([], namesF (spl l))
theorem namesF_at {x : List (List UInt8)} {i : Nat} (h : i < x.length) (hi : namesF x = namesF (x.drop i)) : namesF x = if nameC x[i] = 0 then namesF (x.drop (i + 1)) else nameC x[i] := by
 rw [hi, List.drop_eq_getElem_cons h]; rfl
theorem pathsSplit_spec (l : List UInt8) (hl : l.length ≤ 4000000) : Does Tryz.prog 81 [.c (.str l)] [] (Rt (.tup [(false, [.rw 0]), (false, [.int .i64 (splitP l).2])]) [.row 1 (List UInt8) encS (splitP l).1]) := by
 refine X_spM (n := 26) (n0 := 0) tabOk Tryz.call81 Tryz.func81 ?_
 intro hb
 have hsl : (spl l).length ≤ l.length + 1 := by rw [spl_len]; have := List.count_le_length (a := 47) (l := l); omega
 refine XM.seq ?_
 repeat' ((conv => whnf); refine I6 ?_)
 refine XM.seq ?_
 (conv => whnf)
 refine cl [] [] (stringsSplit_spec l hl) ?_
 repeat' ((conv => whnf); refine I6 ?_)
 refine XM.join (ι := Unit) (fun _ => ⟨[(4, .c (.rw 0))], [.row 1 (List UInt8) encS (spl l)]⟩) (fun _ => namesF (spl l) = 0) ?_ (fun _ h1 => ?_)
 ·(conv => whnf)
  refine lp Nat (fun i => ⟨[(4, .c (.rw 0)), (10, .c (.rw 0)), (11, .c (.int .i64 (spl l).length)), (12, .c (.int .i64 i))], [.row 1 (List UInt8) encS (spl l)]⟩) (fun i => i ≤ (spl l).length ∧ namesF (spl l) = namesF ((spl l).drop i)) (fun i => (spl l).length - i) 0 [] [.same 0] ?_ ?_ (fun i hi => ?_)
  ·simp
  ·repeat' first | exact trivial | exact rfl | refine And.intro ?_ ?_
  (conv => whnf)
  refine dec (fun h4 => ?_) (fun h4 => ?_)
  ·have hlt : i < (spl l).length := by omega
   have hat := namesF_at hlt hi.2
   repeat' ((conv => whnf); first | (refine dec (fun h => ?_) (fun h => ?_) <;> try contradiction) | (refine decN (fun h => ?_) (fun h => ?_) <;> try contradiction) | refine booN (fun h => ?_) (fun h => ?_) | refine boo (fun h => ?_) (fun h => ?_) | refine ⟨i64 (by omega) (by omega), ?_⟩ | refine ⟨_, _, rfl, List.getElem?_eq_getElem (by omega), ?_⟩ | refine ⟨_, ⟨rfl, by omega⟩, ?_⟩ | refine ⟨_, List.getElem?_eq_getElem (by omega), ?_⟩ | refine rtB ?_ | refine rtI ?_ | refine rtC ?_ rfl | fail)
   (conv => whnf)
   refine cl [] [] (name_spec (spl l)[i]) ?_
   repeat' ((conv => whnf); first | (refine dec (fun h => ?_) (fun h => ?_) <;> try contradiction) | (refine decN (fun h => ?_) (fun h => ?_) <;> try contradiction) | refine booN (fun h => ?_) (fun h => ?_) | refine boo (fun h => ?_) (fun h => ?_) | refine ⟨i64 (by omega) (by omega), ?_⟩ | refine ⟨_, _, rfl, List.getElem?_eq_getElem (by omega), ?_⟩ | refine ⟨_, ⟨rfl, by omega⟩, ?_⟩ | refine ⟨_, List.getElem?_eq_getElem (by omega), ?_⟩ | refine rtB ?_ | refine rtI ?_ | refine rtC ?_ rfl | fail)
   ·rw [if_neg h] at hat
    have : splitP l = ([], nameC (spl l)[i]) := by unfold splitP; rw [if_neg (by rw [hat]; exact h), hat]
    rw [this]
    (conv => whnf)
    exact rx [] [.new]
   ·rw [if_pos h] at hat
    refine ag (i + 1) [] [.same 0] ⟨hlt, hat⟩ (by simp only []; omega) ?_
    repeat' first | exact trivial | exact rfl | refine And.intro ?_ ?_
  ·have := hi.2
   rw [List.drop_of_length_le (by omega)] at this
   (conv => whnf)
   refine ⟨(), this, [], [.same 0], ?_⟩
   repeat' first | exact trivial | exact rfl | refine And.intro ?_ ?_
 refine XM.of ?_
 repeat' ((conv => whnf); first | (refine dec (fun h => ?_) (fun h => ?_) <;> try contradiction) | (refine decN (fun h => ?_) (fun h => ?_) <;> try contradiction) | refine booN (fun h => ?_) (fun h => ?_) | refine boo (fun h => ?_) (fun h => ?_) | refine ⟨i64 (by omega) (by omega), ?_⟩ | refine ⟨_, _, rfl, List.getElem?_eq_getElem (by omega), ?_⟩ | refine ⟨_, ⟨rfl, by omega⟩, ?_⟩ | refine ⟨_, List.getElem?_eq_getElem (by omega), ?_⟩ | refine rtB ?_ | refine rtI ?_ | refine rtC ?_ rfl | fail)
 ·have : splitP l = ([], 3) := by unfold splitP; rw [if_pos h1, if_pos (by omega)]
  rw [this]
  (conv => whnf)
  exact rx [] [.new]
 ·have : splitP l = (spl l, 0) := by unfold splitP; rw [if_pos h1, if_neg (by omega)]
  rw [this]
  (conv => whnf)
  exact rx [] [.same 0]
theorem lessL_at : ∀ {x y : List (List UInt8)} {i : Nat} (hx : i < x.length) (hy : i < y.length), x.take i = y.take i → ¬ x[i] = y[i] → lessL x y = Op.bytesLess x[i] y[i]
 | a :: x, b :: y, 0, _, _, _, h => by simp at h; simp [lessL, h]
 | a :: x, b :: y, i + 1, hx, hy, ht, h => by
  simp at ht h
  obtain ⟨rfl, ht⟩ := ht
  have := lessL_at (x := x) (y := y) (i := i) (by simpa using hx) (by simpa using hy) ht h
  simp [lessL, this]
theorem lessL_end : ∀ {x y : List (List UInt8)} {i : Nat}, x.take i = y.take i → ¬ (i < x.length ∧ i < y.length) → i ≤ x.length → i ≤ y.length → lessL x y = decide (x.length < y.length)
 | [], [], _, _, _, _, _ => rfl
 | [], _ :: _, _, _, _, _, _ => by simp [lessL]
 | _ :: _, [], _, _, _, _, _ => by simp [lessL]
 | a :: x, b :: y, 0, _, h, _, _ => by simp at h
 | a :: x, b :: y, i + 1, ht, h, h1, h2 => by
  simp at ht h h1 h2
  obtain ⟨rfl, ht⟩ := ht
  have := lessL_end (x := x) (y := y) (i := i) ht (by omega) h1 h2
  simp [lessL, this]
set_option maxHeartbeats 1000000 in
theorem less_spec {dr : Bool} (a b : List UInt8) (ha : a.length ≤ 4000000) (hb' : b.length ≤ 4000000) : DoesD dr Tryz.prog 82 [.c (.str a), .c (.str b)] [] (Rt (.c (.bool (lessP a b))) []) := by
 refine X_spec (n := 47) (n0 := 0) tabOk Tryz.call82 Tryz.func82 ?_
 intro hb
 have hsl : (spl a).length ≤ a.length + 1 := by rw [spl_len]; have := List.count_le_length (a := 47) (l := a); omega
 (conv => whnf)
 refine cl [] [] (stringsSplit_spec a ha) ?_
 (conv => whnf)
 refine cl [] [] (stringsSplit_spec b hb') ?_
 (conv => whnf)
 unfold lessP
 refine lp Nat (fun i => ⟨[(5, .c (.rw 0)), (6, .c (.rw 1)), (7, .c (.int .i64 i))], [.row 1 (List UInt8) encS (spl a), .row 1 (List UInt8) encS (spl b)]⟩) (fun i => (i ≤ (spl a).length ∧ i ≤ (spl b).length) ∧ (spl a).take i = (spl b).take i) (fun i => (spl a).length - i) 0 [] [.same 0, .same 1] ?_ ?_ (fun i hi => ?_)
 ·simp
 ·repeat' first | exact trivial | exact rfl | refine And.intro ?_ ?_
 have fin : ¬ (i < (spl a).length ∧ i < (spl b).length) → decide (((spl a).length : Int) < (spl b).length) = lessL (spl a) (spl b) := fun h => by
  rw [lessL_end hi.2 h hi.1.1 hi.1.2, decide_eq_decide]; omega
 (conv => whnf)
 refine dec (fun h4 => ?_) (fun h4 => ?_)
 ·(conv => whnf)
  refine dec (fun h5 => ?_) (fun h5 => ?_)
  ·have hlt : i < (spl a).length := by omega
   have hlt' : i < (spl b).length := by omega
   (conv => whnf)
   refine ⟨false, .grow, (.l [0, 1, 2, 3, 4, 5, 6, 7, 8]), by kernel_rfl, .inl ?_⟩
   repeat' ((conv => whnf); first | (refine dec (fun h => ?_) (fun h => ?_) <;> try contradiction) | (refine decN (fun h => ?_) (fun h => ?_) <;> try contradiction) | refine booN (fun h => ?_) (fun h => ?_) | refine boo (fun h => ?_) (fun h => ?_) | refine ⟨i64 (by omega) (by omega), ?_⟩ | refine ⟨_, _, rfl, List.getElem?_eq_getElem (by omega), ?_⟩ | refine ⟨_, ⟨rfl, by omega⟩, ?_⟩ | refine ⟨_, List.getElem?_eq_getElem (by omega), ?_⟩ | refine rtB ?_ | refine rtI ?_ | refine rtC ?_ rfl | fail)
   ·(conv => whnf)
    refine ⟨false, .grow, (.l [0, 1, 2, 3, 4, 5, 6, 7, 8, 9]), by kernel_rfl, .inl ?_⟩
    repeat' ((conv => whnf); first | (refine dec (fun h => ?_) (fun h => ?_) <;> try contradiction) | (refine decN (fun h => ?_) (fun h => ?_) <;> try contradiction) | refine booN (fun h => ?_) (fun h => ?_) | refine boo (fun h => ?_) (fun h => ?_) | refine ⟨i64 (by omega) (by omega), ?_⟩ | refine ⟨_, _, rfl, List.getElem?_eq_getElem (by omega), ?_⟩ | refine ⟨_, ⟨rfl, by omega⟩, ?_⟩ | refine ⟨_, List.getElem?_eq_getElem (by omega), ?_⟩ | refine rtB ?_ | refine rtI ?_ | refine rtC ?_ rfl | fail)
    exact (lessL_at hlt hlt' hi.2 h).symm
   ·refine ag (i + 1) [] [.same 0, .same 1] ⟨⟨hlt, hlt'⟩, take_step hlt hlt' hi.2 h⟩ (by simp only []; omega) ?_
    repeat' first | exact trivial | exact rfl | refine And.intro ?_ ?_
  ·repeat' ((conv => whnf); first | (refine dec (fun h => ?_) (fun h => ?_) <;> try contradiction) | (refine decN (fun h => ?_) (fun h => ?_) <;> try contradiction) | refine booN (fun h => ?_) (fun h => ?_) | refine boo (fun h => ?_) (fun h => ?_) | refine ⟨i64 (by omega) (by omega), ?_⟩ | refine ⟨_, _, rfl, List.getElem?_eq_getElem (by omega), ?_⟩ | refine ⟨_, ⟨rfl, by omega⟩, ?_⟩ | refine ⟨_, List.getElem?_eq_getElem (by omega), ?_⟩ | refine rtB ?_ | refine rtI ?_ | refine rtC ?_ rfl | fail)
   exact fin (by omega)
 ·repeat' ((conv => whnf); first | (refine dec (fun h => ?_) (fun h => ?_) <;> try contradiction) | (refine decN (fun h => ?_) (fun h => ?_) <;> try contradiction) | refine booN (fun h => ?_) (fun h => ?_) | refine boo (fun h => ?_) (fun h => ?_) | refine ⟨i64 (by omega) (by omega), ?_⟩ | refine ⟨_, _, rfl, List.getElem?_eq_getElem (by omega), ?_⟩ | refine ⟨_, ⟨rfl, by omega⟩, ?_⟩ | refine ⟨_, List.getElem?_eq_getElem (by omega), ?_⟩ | refine rtB ?_ | refine rtI ?_ | refine rtC ?_ rfl | fail)
  exact fin (by omega)
theorem hasPrefix_spec {dr : Bool} (p q : List UInt8) : DoesD dr Tryz.prog 176 [.c (.str p), .c (.str q)] [] (Rt (.c (.bool (q.isPrefixOf p))) []) := by
 refine X_spec (n := 18) (n0 := 0) tabOk Tryz.call176 Tryz.func176 ?_
 intro hb
 have he : q.isPrefixOf p = true ↔ p.take q.length = q := by
  rw [List.isPrefixOf_iff_prefix, List.prefix_iff_eq_take]; exact eq_comm
 (conv => whnf)
 refine dec (fun h => ?_) (fun h => ?_)
 ·(conv => whnf)
  refine ⟨0, q.length, rfl, rfl, by omega, ?_⟩
  (conv => whnf)
  refine rtB ?_
  rw [List.drop_zero, Bool.eq_iff_iff, he, decide_eq_true_iff]
 ·(conv => whnf)
  refine rtB ?_
  symm; rw [Bool.eq_false_iff, Ne, he]
  intro e
  have := congrArg List.length e
  rw [List.length_take] at this
  omega
def underP (p d : List UInt8) : List UInt8 × Bool := match under p d with
 | some r => (r, true)
 | none => (p, false)
theorem cutPrefix_spec {dr : Bool} (p q : List UInt8) : DoesD dr Tryz.prog 149 [.c (.str p), .c (.str q)] [] (Rt (.tup [(false, [.str (if q.isPrefixOf p = true then p.drop q.length else p)]), (false, [.bool (q.isPrefixOf p)])]) []) := by
 refine X_spec (n := 15) (n0 := 0) tabOk Tryz.call149 Tryz.func149 ?_
 intro hb
 (conv => whnf)
 refine cl [] [] (hasPrefix_spec p q) ?_
 repeat' ((conv => whnf); first | (refine dec (fun h => ?_) (fun h => ?_) <;> try contradiction) | (refine decN (fun h => ?_) (fun h => ?_) <;> try contradiction) | refine booN (fun h => ?_) (fun h => ?_) | refine boo (fun h => ?_) (fun h => ?_) | refine ⟨i64 (by omega) (by omega), ?_⟩ | refine ⟨_, _, rfl, List.getElem?_eq_getElem (by omega), ?_⟩ | refine ⟨_, ⟨rfl, by omega⟩, ?_⟩ | refine ⟨_, List.getElem?_eq_getElem (by omega), ?_⟩ | refine rtB ?_ | refine rtI ?_ | refine rtC ?_ rfl | fail)
 ·rw [if_neg (by simp [h]), h]
  (conv => whnf)
  exact rx [] []
 ·rw [if_pos h, h]
  rw [List.isPrefixOf_iff_prefix] at h
  have := h.length_le
  (conv => whnf)
  refine ⟨q.length, p.length, rfl, rfl, by omega, ?_⟩
  (conv => whnf)
  rw [List.take_length]
  exact rx [] []
theorem sCutPrefix_spec {dr : Bool} (p q : List UInt8) : DoesD dr Tryz.prog 127 [.c (.str p), .c (.str q)] [] (Rt (.tup [(false, [.str (if q.isPrefixOf p = true then p.drop q.length else p)]), (false, [.bool (q.isPrefixOf p)])]) []) := by
 refine X_spec (n := 11) (n0 := 0) tabOk Tryz.call127 Tryz.func127 ?_
 intro hb
 (conv => whnf)
 refine cl [] [] (cutPrefix_spec p q) ?_
 (conv => whnf)
 exact rx [] []
theorem under_spec {dr : Bool} (p d : List UInt8) (hd : d.length ≤ 4000000) : DoesD dr Tryz.prog 83 [.c (.str p), .c (.str d)] [] (Rt (.tup [(false, [.str (underP p d).1]), (false, [.bool (underP p d).2])]) []) := by
 have he : underP p d = (if (d ++ [47]).isPrefixOf p = true then p.drop (d ++ [47]).length else p, (d ++ [47]).isPrefixOf p) := by
  unfold underP under
  cases h : (d ++ [47]).isPrefixOf p <;> simp
 rw [he]
 refine X_spec (n := 12) (n0 := 0) tabOk Tryz.call83 Tryz.func83 ?_
 intro hb
 (conv => whnf)
 refine ⟨by simp; omega, ?_⟩
 (conv => whnf)
 refine cl [] [] (sCutPrefix_spec p (d ++ [47])) ?_
 (conv => whnf)
 exact rx [] []
end Go.Nest
end
/- part -/
section

namespace Go.Nest
open Go Go.AM Go.Proofs
open Go.Proofs.YtpmjnbidmcnhnaaGreatDoor (tab tabOk)
set_option maxRecDepth 4000
theorem spl_take {l : List UInt8} {i : Nat} (h : i < l.length) (hc : ¬ l[i] = 47) : ∃ (xs : List (List UInt8)) (x : List UInt8), spl (l.take i) = xs ++ [x] ∧ spl (l.take (i + 1)) = xs ++ [x ++ [l[i]]] := by
 rw [List.take_succ_eq_append_getElem h]; exact spl_snoc _ hc
theorem spl_last_len : ∀ (l : List UInt8) {xs : List (List UInt8)} {x : List UInt8}, spl l = xs ++ [x] → x.length ≤ l.length := by
 intro l xs x h
 have h1 := unsp_spl l
 rw [h] at h1
 have : ∀ (xs : List (List UInt8)) (x : List UInt8), x.length ≤ (unsp (xs ++ [x])).length := by
  intro xs
  induction xs with
  | nil => intro x; simp [unsp]
  | cons y ys ih =>
   intro x
   have := ih x
   cases ys with
   | nil => simp [unsp]; omega
   | cons z zs => simp [unsp] at this ⊢; omega
 have := this xs x
 rw [h1] at this
 exact this
set_option maxHeartbeats 1000000 in
theorem parts_spec (l : List UInt8) (hl : l.length ≤ 4000000) : Does Tryz.prog 113 [.c (.str l)] [] (Rt (.c (.rw 0)) [.row 1 (List UInt8) encS (spl l)]) := by
 refine X_spec (n := 33) (n0 := 0) tabOk Tryz.call113 Tryz.func113 ?_
 intro hb
 (conv => whnf)
 refine ⟨[[]], rfl, ?_⟩
 (conv => whnf)
 refine lp Nat (fun i => ⟨[(0, .c (.str l)), (3, .c (.rw 0)), (4, .c (.int .i64 i))], [.row 1 (List UInt8) encS (spl (l.take i))]⟩) (fun i => i ≤ l.length ∧ True) (fun i => l.length - i) 0 [] [.same 0] ?_ ?_ (fun i hi => ?_)
 ·simp
 ·repeat' first | exact trivial | exact rfl | refine And.intro ?_ ?_
 have hsl : (spl (l.take i)).length ≤ l.length + 1 := by
  rw [spl_len]; have := List.count_le_length (a := 47) (l := l.take i); rw [List.length_take] at this; omega
 (conv => whnf)
 refine dec (fun h4 => ?_) (fun h4 => ?_)
 ·have hlt : i < l.length := by omega
  repeat' ((conv => whnf); first | (refine dec (fun h => ?_) (fun h => ?_) <;> try contradiction) | (refine decN (fun h => ?_) (fun h => ?_) <;> try contradiction) | refine booN (fun h => ?_) (fun h => ?_) | refine boo (fun h => ?_) (fun h => ?_) | refine ⟨i64 (by omega) (by omega), ?_⟩ | refine ⟨_, _, rfl, List.getElem?_eq_getElem (by omega), ?_⟩ | refine ⟨_, ⟨rfl, by omega⟩, ?_⟩ | refine ⟨_, List.getElem?_eq_getElem (by omega), ?_⟩ | refine rtB ?_ | refine rtI ?_ | refine rtC ?_ rfl | fail)
  ·have hc : l[i] = 47 := by
    have h : ((l[i].toNat : Nat) : Int) = 47 := h
    exact UInt8.toNat_inj.1 (by simpa using (show l[i].toNat = 47 by omega))
   have hs : spl (l.take (i + 1)) = spl (l.take i) ++ [[]] := by rw [List.take_succ_eq_append_getElem hlt, hc, spl_snoc_stroke]
   (conv => whnf)
   refine ⟨[[]], rfl, ?_⟩
   (conv => whnf)
   refine ⟨_, _, rfl, rfl, (by simp only [List.length_append, List.length_cons, List.length_nil]; omega), ?_⟩
   repeat' ((conv => whnf); first | (refine dec (fun h => ?_) (fun h => ?_) <;> try contradiction) | (refine decN (fun h => ?_) (fun h => ?_) <;> try contradiction) | refine booN (fun h => ?_) (fun h => ?_) | refine boo (fun h => ?_) (fun h => ?_) | refine ⟨i64 (by omega) (by omega), ?_⟩ | refine ⟨_, _, rfl, List.getElem?_eq_getElem (by omega), ?_⟩ | refine ⟨_, ⟨rfl, by omega⟩, ?_⟩ | refine ⟨_, List.getElem?_eq_getElem (by omega), ?_⟩ | refine rtB ?_ | refine rtI ?_ | refine rtC ?_ rfl | fail)
   refine ag (i + 1) [] [.same 2] ⟨hlt, trivial⟩ (by simp only []; omega) ?_
   repeat' first | exact trivial | exact rfl | refine And.intro ?_ ?_
   rw [hs]; exact rfl
  ·have hc : ¬ l[i] = 47 := fun e => h (by show ((l[i].toNat : Nat) : Int) = 47; rw [e]; rfl)
   obtain ⟨xs, x, e1, e2⟩ := spl_take hlt hc
   have hxl := spl_last_len _ e1
   rw [List.length_take] at hxl
   have hn : (spl (l.take i)).length = xs.length + 1 := by rw [e1]; simp
   (conv => whnf)
   refine ⟨false, .grow, (.l [0, 1, 2, 3, 4, 5, 6, 7, 8, 9, 10, 11, 12, 13]), by kernel_rfl, .inl ?_⟩
   have hdr : (l.take (i + 1)).drop i = [l[i]] := by
    rw [List.take_succ_eq_append_getElem hlt, List.drop_append_of_le_length (by rw [List.length_take]; omega), List.drop_of_length_le (by rw [List.length_take]; omega)]; rfl
   have hset : (spl (l.take i)).set ((spl (l.take i)).length - 1) (x ++ (l.take (i + 1)).drop i) = spl (l.take (i + 1)) := by
    rw [e2, hdr, hn, e1, Nat.add_sub_cancel, List.set_append_right _ _ (Nat.le_refl _)]; simp
   have hget : (spl (l.take i))[(spl (l.take i)).length - 1]? = some x := by
    rw [hn, e1, Nat.add_sub_cancel, List.getElem?_append_right (Nat.le_refl _)]; simp
   (conv => whnf)
   refine ⟨i64 (by omega) (by omega), ?_⟩
   (conv => whnf)
   refine ⟨(spl (l.take i)).length - 1, ⟨by omega, by omega⟩, ?_⟩
   (conv => whnf)
   refine ⟨x, hget, ?_⟩
   (conv => whnf)
   refine ⟨i64 (by omega) (by omega), ?_⟩
   (conv => whnf)
   refine ⟨i, i + 1, rfl, rfl, by omega, ?_⟩
   (conv => whnf)
   refine ⟨by rw [hdr, List.length_singleton]; omega, ?_⟩
   (conv => whnf)
   refine ⟨(spl (l.take i)).length - 1, ⟨by omega, by omega⟩, ?_⟩
   (conv => whnf)
   refine ⟨x, x ++ (l.take (i + 1)).drop i, hget, ⟨Nat.le_refl _, rfl⟩, ?_⟩
   repeat' ((conv => whnf); refine I6 ?_)
   refine ag (i + 1) [] [.same 0] ⟨hlt, trivial⟩ (by simp only []; omega) ?_
   repeat' first | exact trivial | exact rfl | refine And.intro ?_ ?_
   rw [← hset]; exact rfl
 ·(conv => whnf)
  rw [show l.take i = l from List.take_of_length_le (by omega)]
  exact rx [] [.same 0]
theorem pathOf_spec (l : List UInt8) (hl : l.length ≤ 4000000) : Does Tryz.prog 76 [.c (.str l)] [] (Rt (.tup [(false, [.rw 0]), (false, [.int .i64 (splitP l).2])]) [.row 1 (List UInt8) encS (splitP l).1]) := by
 refine X_spM (n := 27) (n0 := 0) tabOk Tryz.call76 Tryz.func76 ?_
 intro hb
 have hsl : (spl l).length ≤ l.length + 1 := by rw [spl_len]; have := List.count_le_length (a := 47) (l := l); omega
 refine XM.seq ?_
 repeat' ((conv => whnf); refine I6 ?_)
 refine XM.seq ?_
 (conv => whnf)
 refine cl [] [] (parts_spec l hl) ?_
 repeat' ((conv => whnf); refine I6 ?_)
 refine XM.join (ι := Unit) (fun _ => ⟨[(4, .c (.rw 0))], [.row 1 (List UInt8) encS (spl l)]⟩) (fun _ => namesF (spl l) = 0) ?_ (fun _ h1 => ?_)
 ·(conv => whnf)
  refine lp Nat (fun i => ⟨[(4, .c (.rw 0)), (5, .c (.int .i64 i))], [.row 1 (List UInt8) encS (spl l)]⟩) (fun i => i ≤ (spl l).length ∧ namesF (spl l) = namesF ((spl l).drop i)) (fun i => (spl l).length - i) 0 [] [.same 0] ?_ ?_ (fun i hi => ?_)
  ·simp
  ·repeat' first | exact trivial | exact rfl | refine And.intro ?_ ?_
  (conv => whnf)
  refine dec (fun h4 => ?_) (fun h4 => ?_)
  ·have hlt : i < (spl l).length := by omega
   have hat := namesF_at hlt hi.2
   repeat' ((conv => whnf); first | (refine dec (fun h => ?_) (fun h => ?_) <;> try contradiction) | (refine decN (fun h => ?_) (fun h => ?_) <;> try contradiction) | refine booN (fun h => ?_) (fun h => ?_) | refine boo (fun h => ?_) (fun h => ?_) | refine ⟨i64 (by omega) (by omega), ?_⟩ | refine ⟨_, _, rfl, List.getElem?_eq_getElem (by omega), ?_⟩ | refine ⟨_, ⟨rfl, by omega⟩, ?_⟩ | refine ⟨_, List.getElem?_eq_getElem (by omega), ?_⟩ | refine rtB ?_ | refine rtI ?_ | refine rtC ?_ rfl | fail)
   (conv => whnf)
   refine cl [] [] (nameF_spec (spl l)[i]) ?_
   repeat' ((conv => whnf); first | (refine dec (fun h => ?_) (fun h => ?_) <;> try contradiction) | (refine decN (fun h => ?_) (fun h => ?_) <;> try contradiction) | refine booN (fun h => ?_) (fun h => ?_) | refine boo (fun h => ?_) (fun h => ?_) | refine ⟨i64 (by omega) (by omega), ?_⟩ | refine ⟨_, _, rfl, List.getElem?_eq_getElem (by omega), ?_⟩ | refine ⟨_, ⟨rfl, by omega⟩, ?_⟩ | refine ⟨_, List.getElem?_eq_getElem (by omega), ?_⟩ | refine rtB ?_ | refine rtI ?_ | refine rtC ?_ rfl | fail)
   ·rw [if_neg h] at hat
    have : splitP l = ([], nameC (spl l)[i]) := by unfold splitP; rw [if_neg (by rw [hat]; exact h), hat]
    rw [this]
    (conv => whnf)
    exact rx [] [.new]
   ·rw [if_pos h] at hat
    refine ag (i + 1) [] [.same 0] ⟨hlt, hat⟩ (by simp only []; omega) ?_
    repeat' first | exact trivial | exact rfl | refine And.intro ?_ ?_
  ·have := hi.2
   rw [List.drop_of_length_le (by omega)] at this
   (conv => whnf)
   refine ⟨(), this, [], [.same 0], ?_⟩
   repeat' first | exact trivial | exact rfl | refine And.intro ?_ ?_
 refine XM.of ?_
 repeat' ((conv => whnf); first | (refine dec (fun h => ?_) (fun h => ?_) <;> try contradiction) | (refine decN (fun h => ?_) (fun h => ?_) <;> try contradiction) | refine booN (fun h => ?_) (fun h => ?_) | refine boo (fun h => ?_) (fun h => ?_) | refine ⟨i64 (by omega) (by omega), ?_⟩ | refine ⟨_, _, rfl, List.getElem?_eq_getElem (by omega), ?_⟩ | refine ⟨_, ⟨rfl, by omega⟩, ?_⟩ | refine ⟨_, List.getElem?_eq_getElem (by omega), ?_⟩ | refine rtB ?_ | refine rtI ?_ | refine rtC ?_ rfl | fail)
 ·have : splitP l = ([], 3) := by unfold splitP; rw [if_pos h1, if_pos (by omega)]
  rw [this]
  (conv => whnf)
  exact rx [] [.new]
 ·have : splitP l = (spl l, 0) := by unfold splitP; rw [if_pos h1, if_neg (by omega)]
  rw [this]
  (conv => whnf)
  exact rx [] [.same 0]
theorem behind_some {p d : List UInt8} (h1 : d.length < p.length) (h2 : p.take d.length = d) (h3 : p[d.length] = 47) : underP p d = (p.drop (d.length + 1), true) := by
 have h4 := List.drop_eq_getElem_cons h1
 rw [h3] at h4
 have h5 := List.take_append_drop d.length p
 rw [h2, h4] at h5
 have hu : under p d = some (p.drop (d.length + 1)) := by
  have := under_of (d := d) (r := p.drop (d.length + 1))
  rwa [h5] at this
 unfold underP; rw [hu]
theorem behind_none {p d : List UInt8} (h : ∀ r, ¬ p = d ++ 47 :: r) : underP p d = (p, false) := by
 unfold underP
 cases hu : under p d with
 | none => rfl
 | some r => exact absurd (under_eq hu) (h r)
theorem behind_spec (p d : List UInt8) (hd : d.length ≤ 4000000) : Does Tryz.prog 77 [.c (.str p), .c (.str d)] [] (Rt (.tup [(false, [.str (underP p d).1]), (false, [.bool (underP p d).2])]) []) := by
 refine X_spec (n := 31) (n0 := 0) tabOk Tryz.call77 Tryz.func77 ?_
 intro hb
 (conv => whnf)
 refine dec (fun h1 => ?_) (fun h1 => ?_)
 ·have hlt : d.length < p.length := by omega
  (conv => whnf)
  refine ⟨0, d.length, rfl, rfl, by omega, ?_⟩
  (conv => whnf)
  refine dec (fun h2 => ?_) (fun h2 => ?_)
  ·rw [List.drop_zero] at h2
   (conv => whnf)
   refine ⟨d.length, p[d.length], rfl, List.getElem?_eq_getElem hlt, ?_⟩
   (conv => whnf)
   refine dec (fun h3 => ?_) (fun h3 => ?_)
   ·have h3 : p[d.length] = 47 := by
     have h : ((p[d.length].toNat : Nat) : Int) = 47 := h3
     exact UInt8.toNat_inj.1 (by simpa using (show p[d.length].toNat = 47 by omega))
    rw [behind_some hlt h2 h3]
    (conv => whnf)
    refine ⟨i64 (by omega) (by omega), ?_⟩
    (conv => whnf)
    refine ⟨d.length + 1, p.length, rfl, rfl, by omega, ?_⟩
    (conv => whnf)
    rw [List.take_length]
    exact rx [] []
   ·rw [behind_none (fun r e => h3 (by subst e; show (((d ++ 47 :: r)[d.length].toNat : Nat) : Int) = 47; simp))]
    (conv => whnf)
    exact rx [] []
  ·rw [List.drop_zero] at h2
   rw [behind_none (fun r e => h2 (by subst e; simp))]
   (conv => whnf)
   exact rx [] []
 ·rw [behind_none (fun r e => h1 (by subst e; simp; omega))]
  (conv => whnf)
  exact rx [] []
set_option maxHeartbeats 1000000 in
theorem ahead_spec (a b : List UInt8) (ha : a.length ≤ 4000000) (hb' : b.length ≤ 4000000) : Does Tryz.prog 64 [.c (.str a), .c (.str b)] [] (Rt (.c (.bool (lessP a b))) []) := by
 refine X_spec (n := 47) (n0 := 0) tabOk Tryz.call64 Tryz.func64 ?_
 intro hb
 have hsl : (spl a).length ≤ a.length + 1 := by rw [spl_len]; have := List.count_le_length (a := 47) (l := a); omega
 (conv => whnf)
 refine cl [] [] (parts_spec a ha) ?_
 (conv => whnf)
 refine cl [] [] (parts_spec b hb') ?_
 (conv => whnf)
 unfold lessP
 refine lp Nat (fun i => ⟨[(5, .c (.rw 0)), (6, .c (.rw 1)), (7, .c (.int .i64 i))], [.row 1 (List UInt8) encS (spl a), .row 1 (List UInt8) encS (spl b)]⟩) (fun i => (i ≤ (spl a).length ∧ i ≤ (spl b).length) ∧ (spl a).take i = (spl b).take i) (fun i => (spl a).length - i) 0 [] [.same 0, .same 1] ?_ ?_ (fun i hi => ?_)
 ·simp
 ·repeat' first | exact trivial | exact rfl | refine And.intro ?_ ?_
 have fin : ¬ (i < (spl a).length ∧ i < (spl b).length) → lessL (spl a) (spl b) = decide ((spl a).length < (spl b).length) := fun h => lessL_end hi.2 h hi.1.1 hi.1.2
 (conv => whnf)
 refine dec (fun h4 => ?_) (fun h4 => ?_)
 ·have hlt : i < (spl a).length := by omega
  (conv => whnf)
  refine ⟨false, .grow, (.l [0, 1, 2, 3, 4, 5, 6, 7, 8, 9, 10, 11, 12, 13, 14]), by kernel_rfl, .inl ?_⟩
  (conv => whnf)
  refine dec (fun h5 => ?_) (fun h5 => ?_)
  ·repeat' ((conv => whnf); first | (refine dec (fun h => ?_) (fun h => ?_) <;> try contradiction) | (refine decN (fun h => ?_) (fun h => ?_) <;> try contradiction) | refine booN (fun h => ?_) (fun h => ?_) | refine boo (fun h => ?_) (fun h => ?_) | refine ⟨i64 (by omega) (by omega), ?_⟩ | refine ⟨_, _, rfl, List.getElem?_eq_getElem (by omega), ?_⟩ | refine ⟨_, ⟨rfl, by omega⟩, ?_⟩ | refine ⟨_, List.getElem?_eq_getElem (by omega), ?_⟩ | refine rtB ?_ | refine rtI ?_ | refine rtC ?_ rfl | fail)
   rw [fin (by omega)]; symm; rw [decide_eq_false_iff_not]; omega
  ·have hlt' : i < (spl b).length := by omega
   repeat' ((conv => whnf); first | (refine dec (fun h => ?_) (fun h => ?_) <;> try contradiction) | (refine decN (fun h => ?_) (fun h => ?_) <;> try contradiction) | refine booN (fun h => ?_) (fun h => ?_) | refine boo (fun h => ?_) (fun h => ?_) | refine ⟨i64 (by omega) (by omega), ?_⟩ | refine ⟨_, _, rfl, List.getElem?_eq_getElem (by omega), ?_⟩ | refine ⟨_, ⟨rfl, by omega⟩, ?_⟩ | refine ⟨_, List.getElem?_eq_getElem (by omega), ?_⟩ | refine rtB ?_ | refine rtI ?_ | refine rtC ?_ rfl | fail)
   ·rw [Bool.or_eq_false_iff, decide_eq_false_iff_not] at h
    rw [lessL_at hlt hlt' hi.2 h.2, h.1]
   ·rw [Bool.or_eq_true, decide_eq_true_iff] at h
    have hor := h
    clear h
    (conv => whnf)
    refine ⟨false, .grow, (.l [0, 1, 2, 3, 4, 5, 6, 7, 8]), by kernel_rfl, .inl ?_⟩
    repeat' ((conv => whnf); first | (refine dec (fun h => ?_) (fun h => ?_) <;> try contradiction) | (refine decN (fun h => ?_) (fun h => ?_) <;> try contradiction) | refine booN (fun h => ?_) (fun h => ?_) | refine boo (fun h => ?_) (fun h => ?_) | refine ⟨i64 (by omega) (by omega), ?_⟩ | refine ⟨_, _, rfl, List.getElem?_eq_getElem (by omega), ?_⟩ | refine ⟨_, ⟨rfl, by omega⟩, ?_⟩ | refine ⟨_, List.getElem?_eq_getElem (by omega), ?_⟩ | refine rtB ?_ | refine rtI ?_ | refine rtC ?_ rfl | fail)
    ·rw [lessL_at hlt hlt' hi.2 (fun e => by rw [e, bl_irrefl] at h; cases h), h]
    ·refine ag (i + 1) [] [.same 0, .same 1] ⟨⟨hlt, hlt'⟩, take_step hlt hlt' hi.2 (hor.resolve_left (by rw [h]; simp))⟩ (by simp only []; omega) ?_
     repeat' first | exact trivial | exact rfl | refine And.intro ?_ ?_
 ·repeat' ((conv => whnf); first | (refine dec (fun h => ?_) (fun h => ?_) <;> try contradiction) | (refine decN (fun h => ?_) (fun h => ?_) <;> try contradiction) | refine booN (fun h => ?_) (fun h => ?_) | refine boo (fun h => ?_) (fun h => ?_) | refine ⟨i64 (by omega) (by omega), ?_⟩ | refine ⟨_, _, rfl, List.getElem?_eq_getElem (by omega), ?_⟩ | refine ⟨_, ⟨rfl, by omega⟩, ?_⟩ | refine ⟨_, List.getElem?_eq_getElem (by omega), ?_⟩ | refine rtB ?_ | refine rtI ?_ | refine rtC ?_ rfl | fail)
  rw [fin (by omega), decide_eq_decide]; omega
end Go.Nest
end
