/- part -/
import Derived.Test.YtpmjnbidmcnhnaaGreatDoorP11
import Derived.Test.YtpmjnbidmcnhnaaGreatDoorZ1
import Derived.Test.YtpmjnbidmcnhnaaGreatDoorG3
import Derived.Test.YtpmjnbidmcnhnaaGreatDoorW7
set_option linter.unusedVariables false
set_option linter.unusedSimpArgs false
section

namespace Go.Nest
open Go Go.AM Go.Proofs
open Go.Proofs.YtpmjnbidmcnhnaaGreatDoor (tab tabOk)
set_option maxRecDepth 4000
theorem count_spec {dr : Bool} (l : List UInt8) : DoesD dr Tryz.prog 193 [.c (.str l), .c (.int .u8 47)] [] (Rt (.c (.int .i64 (l.count 47))) []) := by
 refine ext_spec (e := Extern.BytealgCount.count) Tryz.func193 (by decide) rfl rfl rfl rfl (fun F H m vs w h => ?_)
 match vs, h with
 | [v1, v2], ⟨h1, h2, _⟩ =>
  cases h1 with
  | str _ _ =>
   cases h2 with
   | int _ => exact ⟨_, Lib.run_countString ⟨l.toArray⟩ 47 w, fun F H m => .int .nl⟩
theorem idx_spec {dr : Bool} (l : List UInt8) : DoesD dr Tryz.prog 202 [.c (.str l), .c (.int .u8 47)] [] (Rt (.c (.int .i64 (Lib.indexByte l 47))) []) := by
 refine ext_spec (e := Extern.BytealgIndexByte.indexByte) Tryz.func202 (by decide) rfl rfl rfl rfl (fun F H m vs w h => ?_)
 match vs, h with
 | [v1, v2], ⟨h1, h2, _⟩ =>
  cases h1 with
  | str _ _ =>
   cases h2 with
   | int _ => exact ⟨_, Lib.run_indexByteString ⟨l.toArray⟩ 47 w, fun F H m => .int .nl⟩
theorem stringsCount_spec {dr : Bool} (l : List UInt8) : DoesD dr Tryz.prog 174 [.c (.str l), .c (.str [47])] [] (Rt (.c (.int .i64 (l.count 47))) []) := by
 refine X_spec (n := 34) (n0 := 0) tabOk Tryz.call174 Tryz.func174 ?_
 intro hb
 repeat' ((conv => whnf); refine I6 ?_)
 (conv => whnf)
 refine ⟨0, 47, rfl, rfl, ?_⟩
 (conv => whnf)
 refine cl [] [] (count_spec l) ?_
 (conv => whnf)
 exact rtI rfl
theorem stringsIndexByte_spec {dr : Bool} (l : List UInt8) : DoesD dr Tryz.prog 194 [.c (.str l), .c (.int .u8 47)] [] (Rt (.c (.int .i64 (Lib.indexByte l 47))) []) := by
 refine X_spec (n := 8) (n0 := 0) tabOk Tryz.call194 Tryz.func194 ?_
 intro hb
 (conv => whnf)
 refine cl [] [] (idx_spec l) ?_
 (conv => whnf)
 exact rtI rfl
theorem sliteIndex_spec {dr : Bool} (l : List UInt8) : DoesD dr Tryz.prog 177 [.c (.str l), .c (.str [47])] [] (Rt (.c (.int .i64 (Lib.indexByte l 47))) []) := by
 refine X_spec (n := 143) (n0 := 0) tabOk Tryz.call177 Tryz.func177 ?_
 intro hb
 repeat' ((conv => whnf); first | (refine dec (fun h => ?_) (fun h => ?_) <;> try contradiction) | (refine decN (fun h => ?_) (fun h => ?_) <;> try contradiction) | refine booN (fun h => ?_) (fun h => ?_) | refine boo (fun h => ?_) (fun h => ?_) | refine ⟨i64 (by omega) (by omega), ?_⟩ | refine ⟨_, _, rfl, List.getElem?_eq_getElem (by omega), ?_⟩ | refine ⟨_, ⟨rfl, by omega⟩, ?_⟩ | refine ⟨_, List.getElem?_eq_getElem (by omega), ?_⟩ | refine rtB ?_ | refine rtI ?_ | refine rtC ?_ rfl | fail)
 ·obtain rfl : l = [47] := h.symm
  rfl
 ·(conv => whnf)
  refine ⟨0, 47, rfl, rfl, ?_⟩
  (conv => whnf)
  refine cl [] [] (stringsIndexByte_spec l) ?_
  (conv => whnf)
  exact rtI rfl
theorem stringsIndex_spec {dr : Bool} (l : List UInt8) : DoesD dr Tryz.prog 175 [.c (.str l), .c (.str [47])] [] (Rt (.c (.int .i64 (Lib.indexByte l 47))) []) := by
 refine X_spec (n := 8) (n0 := 0) tabOk Tryz.call175 Tryz.func175 ?_
 intro hb
 (conv => whnf)
 refine cl [] [] (sliteIndex_spec l) ?_
 (conv => whnf)
 exact rtI rfl
structure GS (l : List UInt8) (a : List (List UInt8)) (s : List UInt8) (i : Nat) : Prop where
 len : a.length = l.count 47 + 1
 cnt : i + s.count 47 = l.count 47
 spl : spl l = a.take i ++ spl s
 sl : s.length ≤ l.length
theorem count_len (l : List UInt8) : l.count 47 ≤ l.length := List.count_le_length
set_option maxHeartbeats 1000000 in
theorem genSplit_spec {dr : Bool} (l : List UInt8) (hl : l.length ≤ 4000000) : DoesD dr Tryz.prog 148 [.c (.str l), .c (.str [47]), .c (.int .i64 0), .c (.int .i64 (-1))] [] (Rt (.c (.rw 0)) [.row 1 (List UInt8) encS (spl l)]) := by
 refine X_spM (n := 66) (n0 := 0) tabOk Tryz.call148 Tryz.func148 ?_
 intro hb
 have hc := count_len l
 refine XM.seq ?_
 repeat' ((conv => whnf); refine I6 ?_)
 refine XM.seq ?_
 repeat' ((conv => whnf); refine I6 ?_)
 refine XM.seq ?_
 repeat' ((conv => whnf); refine I6 ?_)
 refine XM.seq ?_
 repeat' ((conv => whnf); refine I6 ?_)
 (conv => whnf)
 refine cl [] [] (stringsCount_spec l) ?_
 repeat' ((conv => whnf); refine I6 ?_)
 refine XM.seq ?_
 repeat' ((conv => whnf); refine I6 ?_)
 (conv => whnf)
 rw [show min ((l.count 47 : Int) + 1) ((l.length : Int) + 1) = ((l.count 47 + 1 : Nat) : Int) by omega]
 refine XM.seq ?_
 (conv => whnf)
 refine ⟨l.count 47 + 1, [], ⟨rfl, rfl⟩, rfl, by simp only []; omega, ?_⟩
 repeat' ((conv => whnf); refine I6 ?_)
 refine XM.seq ?_
 repeat' ((conv => whnf); refine I6 ?_)
 refine XM.seq ?_
 repeat' ((conv => whnf); refine I6 ?_)
 refine XM.join (ι := List (List UInt8) × List UInt8) (fun | (a, s) => ⟨[(0, .c (.str s)), (9, .c (.rw 0)), (10, .c (.int .i64 (l.count 47 : Nat)))], [.row 1 (List UInt8) encS a]⟩) (fun x => GS l x.1 x.2 (l.count 47)) ?_ (fun x hx => ?_)
 ·(conv => whnf)
  refine lp (Nat × List (List UInt8) × List UInt8) (fun | (i, a, s) => ⟨[(0, .c (.str s)), (1, .c (.str [47])), (2, .c (.int .i64 0)), (3, .c (.int .i64 (((l.count 47 + 1 : Nat) : Int) - 1))), (9, .c (.rw 0)), (10, .c (.int .i64 i))], [.row 1 (List UInt8) encS a]⟩)
   (fun x => GS l x.2.1 x.2.2 x.1 ∧ True) (fun x => l.count 47 - x.1) (0, List.replicate (l.count 47 + 1) [], l) [] [.same 0] ?_ ?_ (fun x hx => ?_)
  ·exact ⟨⟨by simp, by simp, by simp, Nat.le_refl _⟩, trivial⟩
  ·repeat' first | exact trivial | exact rfl | refine And.intro ?_ ?_
  obtain ⟨i, a, s⟩ := x
  obtain ⟨hg, _⟩ := hx
  dsimp only at hg
  have g1 := hg.len
  have g2 := hg.cnt
  have g4 := hg.sl
  (conv => whnf)
  refine dec (fun h4 => ?_) (fun h4 => ?_)
  ·obtain ⟨m, m1, m2, m3, m4⟩ := idx_stroke (l := s) (by omega)
   have hs := stringsIndex_spec (dr := dr) s
   rw [m1] at hs
   (conv => whnf)
   refine cl [] [] (hs) ?_
   repeat' ((conv => whnf); refine I6 ?_)
   (conv => whnf)
   refine ⟨0, m, rfl, by omega, by omega, ?_⟩
   (conv => whnf)
   refine ⟨i, ⟨rfl, by omega⟩, ?_⟩
   (conv => whnf)
   refine ⟨_, (s.take m).drop 0, List.getElem?_eq_getElem (by omega), ⟨Nat.le_refl _, rfl⟩, ?_⟩
   repeat' ((conv => whnf); first | (refine dec (fun h => ?_) (fun h => ?_) <;> try contradiction) | (refine decN (fun h => ?_) (fun h => ?_) <;> try contradiction) | refine booN (fun h => ?_) (fun h => ?_) | refine boo (fun h => ?_) (fun h => ?_) | refine ⟨i64 (by omega) (by omega), ?_⟩ | refine ⟨_, _, rfl, List.getElem?_eq_getElem (by omega), ?_⟩ | refine ⟨_, ⟨rfl, by omega⟩, ?_⟩ | refine ⟨_, List.getElem?_eq_getElem (by omega), ?_⟩ | refine rtB ?_ | refine rtI ?_ | refine rtC ?_ rfl | fail)
   refine ⟨i64 (by simp; omega) (by simp; omega), ?_⟩
   (conv => whnf)
   refine ⟨m + 1, s.length, rfl, rfl, by omega, ?_⟩
   repeat' ((conv => whnf); refine I6 ?_)
   refine ag (i + 1, a.set i ((s.take m).drop 0), (s.take s.length).drop (m + 1)) [] [.same 0] ⟨⟨?_, ?_, ?_, ?_⟩, trivial⟩ (by simp only []; omega) ?_
   ·dsimp only; rw [List.length_set]; exact g1
   ·dsimp only; rw [List.take_length]; omega
   ·dsimp only
    rw [List.take_length, hg.spl, m3, List.drop_zero, List.take_succ_eq_append_getElem (by rw [List.length_set]; omega), List.getElem_set_self, List.take_set_of_le (Nat.le_refl _)]
    simp
   ·dsimp only; rw [List.take_length, List.length_drop]; omega
   ·repeat' first | exact trivial | exact rfl | refine And.intro ?_ ?_
  ·obtain rfl : i = l.count 47 := by omega
   (conv => whnf)
   refine ⟨(a, s), hg, [], [.same 0], ?_⟩
   repeat' first | exact trivial | exact rfl | refine And.intro ?_ ?_
 obtain ⟨a, s⟩ := x
 dsimp only at hx
 have g1 := hx.len
 have g2 := hx.cnt
 have g3 := hx.spl
 rw [spl_none (l := s) (by omega)] at g3
 refine XM.seq ?_
 (conv => whnf)
 refine ⟨l.count 47, ⟨rfl, by omega⟩, ?_⟩
 (conv => whnf)
 refine ⟨_, s, List.getElem?_eq_getElem (by omega), ⟨Nat.le_refl _, rfl⟩, ?_⟩
 repeat' ((conv => whnf); refine I6 ?_)
 refine XM.of ?_
 (conv => whnf)
 refine ⟨i64 (by omega) (by omega), ?_⟩
 (conv => whnf)
 refine ⟨0, l.count 47 + 1, rfl, by omega, by rw [List.length_set]; omega, ?_⟩
 (conv => whnf)
 have he : (((a.set (l.count 47) s).drop 0).take (l.count 47 + 1 - 0)) = spl l := by
  rw [g3, List.drop_zero, Nat.sub_zero, List.take_succ_eq_append_getElem (by rw [List.length_set]; omega), List.getElem_set_self, List.take_set_of_le (Nat.le_refl _)]
 refine rt [] [.cut 1 0 0 (l.count 47 + 1 - 0)] ?_ rfl ⟨rfl, rfl⟩
 repeat' first | exact trivial | exact rfl | refine And.intro ?_ ?_
 ·rw [List.length_set]; omega
 ·rw [he]
end Go.Nest
end
/- part -/
section

namespace Go.Nest
open Go Go.AM Go.Proofs
open Go.Proofs.YtpmjnbidmcnhnaaGreatDoor (tab tabOk)
set_option maxRecDepth 4000
theorem stringsSplit_spec {dr : Bool} (l : List UInt8) (hl : l.length ≤ 4000000) : DoesD dr Tryz.prog 125 [.c (.str l), .c (.str [47])] [] (Rt (.c (.rw 0)) [.row 1 (List UInt8) encS (spl l)]) := by
 refine X_spec (n := 8) (n0 := 0) tabOk Tryz.call125 Tryz.func125 ?_
 intro hb
 (conv => whnf)
 refine cl [] [] (genSplit_spec l hl) ?_
 (conv => whnf)
 exact rx [] [.same 0]
def namesF : List (List UInt8) → Int
 | [] => 0
 | x :: r => if nameC x = 0 then namesF r else nameC x
def splitP (l : List UInt8) : List (List UInt8) × Int := if namesF (spl l) = 0 then (if 8 < (spl l).length then ([], 3) else (spl l, 0)) else ([], namesF (spl l))
theorem namesF_at {x : List (List UInt8)} {i : Nat} (h : i < x.length) (hi : namesF x = namesF (x.drop i)) : namesF x = if nameC x[i] = 0 then namesF (x.drop (i + 1)) else nameC x[i] := by
 rw [hi, List.drop_eq_getElem_cons h]; rfl
theorem pathsSplit_spec (l : List UInt8) (hl : l.length ≤ 4000000) : Does Tryz.prog 81 [.c (.str l)] [] (Rt (.tup [(false, [.rw 0]), (false, [.int .i64 (splitP l).2])]) [.row 1 (List UInt8) encS (splitP l).1]) := by
 refine X_spM (n := 26) (n0 := 0) tabOk Tryz.call81 Tryz.func81 ?_
 intro hb
 have hsl : (spl l).length ≤ l.length + 1 := by rw [spl_len]; have := List.count_le_length (a := 47) (l := l); omega
 refine XM.seq ?_
 repeat' ((conv => whnf); refine I6 ?_)
 refine XM.seq ?_
 (conv => whnf)
 refine cl [] [] (stringsSplit_spec l hl) ?_
 repeat' ((conv => whnf); refine I6 ?_)
 refine XM.join (ι := Unit) (fun _ => ⟨[(4, .c (.rw 0))], [.row 1 (List UInt8) encS (spl l)]⟩) (fun _ => namesF (spl l) = 0) ?_ (fun _ h1 => ?_)
 ·(conv => whnf)
  refine lp Nat (fun i => ⟨[(4, .c (.rw 0)), (10, .c (.rw 0)), (11, .c (.int .i64 (spl l).length)), (12, .c (.int .i64 i))], [.row 1 (List UInt8) encS (spl l)]⟩) (fun i => i ≤ (spl l).length ∧ namesF (spl l) = namesF ((spl l).drop i)) (fun i => (spl l).length - i) 0 [] [.same 0] ?_ ?_ (fun i hi => ?_)
  ·simp
  ·repeat' first | exact trivial | exact rfl | refine And.intro ?_ ?_
  (conv => whnf)
  refine dec (fun h4 => ?_) (fun h4 => ?_)
  ·have hlt : i < (spl l).length := by omega
   have hat := namesF_at hlt hi.2
   repeat' ((conv => whnf); first | (refine dec (fun h => ?_) (fun h => ?_) <;> try contradiction) | (refine decN (fun h => ?_) (fun h => ?_) <;> try contradiction) | refine booN (fun h => ?_) (fun h => ?_) | refine boo (fun h => ?_) (fun h => ?_) | refine ⟨i64 (by omega) (by omega), ?_⟩ | refine ⟨_, _, rfl, List.getElem?_eq_getElem (by omega), ?_⟩ | refine ⟨_, ⟨rfl, by omega⟩, ?_⟩ | refine ⟨_, List.getElem?_eq_getElem (by omega), ?_⟩ | refine rtB ?_ | refine rtI ?_ | refine rtC ?_ rfl | fail)
   (conv => whnf)
   refine cl [] [] (name_spec (spl l)[i]) ?_
   repeat' ((conv => whnf); first | (refine dec (fun h => ?_) (fun h => ?_) <;> try contradiction) | (refine decN (fun h => ?_) (fun h => ?_) <;> try contradiction) | refine booN (fun h => ?_) (fun h => ?_) | refine boo (fun h => ?_) (fun h => ?_) | refine ⟨i64 (by omega) (by omega), ?_⟩ | refine ⟨_, _, rfl, List.getElem?_eq_getElem (by omega), ?_⟩ | refine ⟨_, ⟨rfl, by omega⟩, ?_⟩ | refine ⟨_, List.getElem?_eq_getElem (by omega), ?_⟩ | refine rtB ?_ | refine rtI ?_ | refine rtC ?_ rfl | fail)
   ·rw [if_neg h] at hat
    have : splitP l = ([], nameC (spl l)[i]) := by unfold splitP; rw [if_neg (by rw [hat]; exact h), hat]
    rw [this]
    (conv => whnf)
    exact rx [] [.new]
   ·rw [if_pos h] at hat
    refine ag (i + 1) [] [.same 0] ⟨hlt, hat⟩ (by simp only []; omega) ?_
    repeat' first | exact trivial | exact rfl | refine And.intro ?_ ?_
  ·have := hi.2
   rw [List.drop_of_length_le (by omega)] at this
   (conv => whnf)
   refine ⟨(), this, [], [.same 0], ?_⟩
   repeat' first | exact trivial | exact rfl | refine And.intro ?_ ?_
 refine XM.of ?_
 repeat' ((conv => whnf); first | (refine dec (fun h => ?_) (fun h => ?_) <;> try contradiction) | (refine decN (fun h => ?_) (fun h => ?_) <;> try contradiction) | refine booN (fun h => ?_) (fun h => ?_) | refine boo (fun h => ?_) (fun h => ?_) | refine ⟨i64 (by omega) (by omega), ?_⟩ | refine ⟨_, _, rfl, List.getElem?_eq_getElem (by omega), ?_⟩ | refine ⟨_, ⟨rfl, by omega⟩, ?_⟩ | refine ⟨_, List.getElem?_eq_getElem (by omega), ?_⟩ | refine rtB ?_ | refine rtI ?_ | refine rtC ?_ rfl | fail)
 ·have : splitP l = ([], 3) := by unfold splitP; rw [if_pos h1, if_pos (by omega)]
  rw [this]
  (conv => whnf)
  exact rx [] [.new]
 ·have : splitP l = (spl l, 0) := by unfold splitP; rw [if_pos h1, if_neg (by omega)]
  rw [this]
  (conv => whnf)
  exact rx [] [.same 0]
theorem lessL_at : ∀ {x y : List (List UInt8)} {i : Nat} (hx : i < x.length) (hy : i < y.length), x.take i = y.take i → ¬ x[i] = y[i] → lessL x y = Op.bytesLess x[i] y[i]
 | a :: x, b :: y, 0, _, _, _, h => by simp at h; simp [lessL, h]
 | a :: x, b :: y, i + 1, hx, hy, ht, h => by
  simp at ht h
  obtain ⟨rfl, ht⟩ := ht
  have := lessL_at (x := x) (y := y) (i := i) (by simpa using hx) (by simpa using hy) ht h
  simp [lessL, this]
theorem lessL_end : ∀ {x y : List (List UInt8)} {i : Nat}, x.take i = y.take i → ¬ (i < x.length ∧ i < y.length) → i ≤ x.length → i ≤ y.length → lessL x y = decide (x.length < y.length)
 | [], [], _, _, _, _, _ => rfl
 | [], _ :: _, _, _, _, _, _ => by simp [lessL]
 | _ :: _, [], _, _, _, _, _ => by simp [lessL]
 | a :: x, b :: y, 0, _, h, _, _ => by simp at h
 | a :: x, b :: y, i + 1, ht, h, h1, h2 => by
  simp at ht h h1 h2
  obtain ⟨rfl, ht⟩ := ht
  have := lessL_end (x := x) (y := y) (i := i) ht (by omega) h1 h2
  simp [lessL, this]
set_option maxHeartbeats 1000000 in
theorem less_spec {dr : Bool} (a b : List UInt8) (ha : a.length ≤ 4000000) (hb' : b.length ≤ 4000000) : DoesD dr Tryz.prog 82 [.c (.str a), .c (.str b)] [] (Rt (.c (.bool (lessP a b))) []) := by
 refine X_spec (n := 47) (n0 := 0) tabOk Tryz.call82 Tryz.func82 ?_
 intro hb
 have hsl : (spl a).length ≤ a.length + 1 := by rw [spl_len]; have := List.count_le_length (a := 47) (l := a); omega
 (conv => whnf)
 refine cl [] [] (stringsSplit_spec a ha) ?_
 (conv => whnf)
 refine cl [] [] (stringsSplit_spec b hb') ?_
 (conv => whnf)
 unfold lessP
 refine lp Nat (fun i => ⟨[(5, .c (.rw 0)), (6, .c (.rw 1)), (7, .c (.int .i64 i))], [.row 1 (List UInt8) encS (spl a), .row 1 (List UInt8) encS (spl b)]⟩) (fun i => (i ≤ (spl a).length ∧ i ≤ (spl b).length) ∧ (spl a).take i = (spl b).take i) (fun i => (spl a).length - i) 0 [] [.same 0, .same 1] ?_ ?_ (fun i hi => ?_)
 ·simp
 ·repeat' first | exact trivial | exact rfl | refine And.intro ?_ ?_
 have fin : ¬ (i < (spl a).length ∧ i < (spl b).length) → decide (((spl a).length : Int) < (spl b).length) = lessL (spl a) (spl b) := fun h => by
  rw [lessL_end hi.2 h hi.1.1 hi.1.2, decide_eq_decide]; omega
 (conv => whnf)
 refine dec (fun h4 => ?_) (fun h4 => ?_)
 ·(conv => whnf)
  refine dec (fun h5 => ?_) (fun h5 => ?_)
  ·have hlt : i < (spl a).length := by omega
   have hlt' : i < (spl b).length := by omega
   (conv => whnf)
   refine ⟨false, .grow, (.l [0, 1, 2, 3, 4, 5, 6, 7, 8]), by kernel_rfl, .inl ?_⟩
   repeat' ((conv => whnf); first | (refine dec (fun h => ?_) (fun h => ?_) <;> try contradiction) | (refine decN (fun h => ?_) (fun h => ?_) <;> try contradiction) | refine booN (fun h => ?_) (fun h => ?_) | refine boo (fun h => ?_) (fun h => ?_) | refine ⟨i64 (by omega) (by omega), ?_⟩ | refine ⟨_, _, rfl, List.getElem?_eq_getElem (by omega), ?_⟩ | refine ⟨_, ⟨rfl, by omega⟩, ?_⟩ | refine ⟨_, List.getElem?_eq_getElem (by omega), ?_⟩ | refine rtB ?_ | refine rtI ?_ | refine rtC ?_ rfl | fail)
   ·(conv => whnf)
    refine ⟨false, .grow, (.l [0, 1, 2, 3, 4, 5, 6, 7, 8, 9]), by kernel_rfl, .inl ?_⟩
    repeat' ((conv => whnf); first | (refine dec (fun h => ?_) (fun h => ?_) <;> try contradiction) | (refine decN (fun h => ?_) (fun h => ?_) <;> try contradiction) | refine booN (fun h => ?_) (fun h => ?_) | refine boo (fun h => ?_) (fun h => ?_) | refine ⟨i64 (by omega) (by omega), ?_⟩ | refine ⟨_, _, rfl, List.getElem?_eq_getElem (by omega), ?_⟩ | refine ⟨_, ⟨rfl, by omega⟩, ?_⟩ | refine ⟨_, List.getElem?_eq_getElem (by omega), ?_⟩ | refine rtB ?_ | refine rtI ?_ | refine rtC ?_ rfl | fail)
    exact (lessL_at hlt hlt' hi.2 h).symm
   ·refine ag (i + 1) [] [.same 0, .same 1] ⟨⟨hlt, hlt'⟩, take_step hlt hlt' hi.2 h⟩ (by simp only []; omega) ?_
    repeat' first | exact trivial | exact rfl | refine And.intro ?_ ?_
  ·repeat' ((conv => whnf); first | (refine dec (fun h => ?_) (fun h => ?_) <;> try contradiction) | (refine decN (fun h => ?_) (fun h => ?_) <;> try contradiction) | refine booN (fun h => ?_) (fun h => ?_) | refine boo (fun h => ?_) (fun h => ?_) | refine ⟨i64 (by omega) (by omega), ?_⟩ | refine ⟨_, _, rfl, List.getElem?_eq_getElem (by omega), ?_⟩ | refine ⟨_, ⟨rfl, by omega⟩, ?_⟩ | refine ⟨_, List.getElem?_eq_getElem (by omega), ?_⟩ | refine rtB ?_ | refine rtI ?_ | refine rtC ?_ rfl | fail)
   exact fin (by omega)
 ·repeat' ((conv => whnf); first | (refine dec (fun h => ?_) (fun h => ?_) <;> try contradiction) | (refine decN (fun h => ?_) (fun h => ?_) <;> try contradiction) | refine booN (fun h => ?_) (fun h => ?_) | refine boo (fun h => ?_) (fun h => ?_) | refine ⟨i64 (by omega) (by omega), ?_⟩ | refine ⟨_, _, rfl, List.getElem?_eq_getElem (by omega), ?_⟩ | refine ⟨_, ⟨rfl, by omega⟩, ?_⟩ | refine ⟨_, List.getElem?_eq_getElem (by omega), ?_⟩ | refine rtB ?_ | refine rtI ?_ | refine rtC ?_ rfl | fail)
  exact fin (by omega)
theorem hasPrefix_spec {dr : Bool} (p q : List UInt8) : DoesD dr Tryz.prog 176 [.c (.str p), .c (.str q)] [] (Rt (.c (.bool (q.isPrefixOf p))) []) := by
 refine X_spec (n := 18) (n0 := 0) tabOk Tryz.call176 Tryz.func176 ?_
 intro hb
 have he : q.isPrefixOf p = true ↔ p.take q.length = q := by
  rw [List.isPrefixOf_iff_prefix, List.prefix_iff_eq_take]; exact eq_comm
 (conv => whnf)
 refine dec (fun h => ?_) (fun h => ?_)
 ·(conv => whnf)
  refine ⟨0, q.length, rfl, rfl, by omega, ?_⟩
  (conv => whnf)
  refine rtB ?_
  rw [List.drop_zero, Bool.eq_iff_iff, he, decide_eq_true_iff]
 ·(conv => whnf)
  refine rtB ?_
  symm; rw [Bool.eq_false_iff, Ne, he]
  intro e
  have := congrArg List.length e
  rw [List.length_take] at this
  omega
def underP (p d : List UInt8) : List UInt8 × Bool := match under p d with
 | some r => (r, true)
 | none => (p, false)
theorem cutPrefix_spec {dr : Bool} (p q : List UInt8) : DoesD dr Tryz.prog 149 [.c (.str p), .c (.str q)] [] (Rt (.tup [(false, [.str (if q.isPrefixOf p = true then p.drop q.length else p)]), (false, [.bool (q.isPrefixOf p)])]) []) := by
 refine X_spec (n := 15) (n0 := 0) tabOk Tryz.call149 Tryz.func149 ?_
 intro hb
 (conv => whnf)
 refine cl [] [] (hasPrefix_spec p q) ?_
 repeat' ((conv => whnf); first | (refine dec (fun h => ?_) (fun h => ?_) <;> try contradiction) | (refine decN (fun h => ?_) (fun h => ?_) <;> try contradiction) | refine booN (fun h => ?_) (fun h => ?_) | refine boo (fun h => ?_) (fun h => ?_) | refine ⟨i64 (by omega) (by omega), ?_⟩ | refine ⟨_, _, rfl, List.getElem?_eq_getElem (by omega), ?_⟩ | refine ⟨_, ⟨rfl, by omega⟩, ?_⟩ | refine ⟨_, List.getElem?_eq_getElem (by omega), ?_⟩ | refine rtB ?_ | refine rtI ?_ | refine rtC ?_ rfl | fail)
 ·rw [if_neg (by simp [h]), h]
  (conv => whnf)
  exact rx [] []
 ·rw [if_pos h, h]
  rw [List.isPrefixOf_iff_prefix] at h
  have := h.length_le
  (conv => whnf)
  refine ⟨q.length, p.length, rfl, rfl, by omega, ?_⟩
  (conv => whnf)
  rw [List.take_length]
  exact rx [] []
theorem sCutPrefix_spec {dr : Bool} (p q : List UInt8) : DoesD dr Tryz.prog 127 [.c (.str p), .c (.str q)] [] (Rt (.tup [(false, [.str (if q.isPrefixOf p = true then p.drop q.length else p)]), (false, [.bool (q.isPrefixOf p)])]) []) := by
 refine X_spec (n := 11) (n0 := 0) tabOk Tryz.call127 Tryz.func127 ?_
 intro hb
 (conv => whnf)
 refine cl [] [] (cutPrefix_spec p q) ?_
 (conv => whnf)
 exact rx [] []
theorem under_spec {dr : Bool} (p d : List UInt8) (hd : d.length ≤ 4000000) : DoesD dr Tryz.prog 83 [.c (.str p), .c (.str d)] [] (Rt (.tup [(false, [.str (underP p d).1]), (false, [.bool (underP p d).2])]) []) := by
 have he : underP p d = (if (d ++ [47]).isPrefixOf p = true then p.drop (d ++ [47]).length else p, (d ++ [47]).isPrefixOf p) := by
  unfold underP under
  cases h : (d ++ [47]).isPrefixOf p <;> simp
 rw [he]
 refine X_spec (n := 12) (n0 := 0) tabOk Tryz.call83 Tryz.func83 ?_
 intro hb
 (conv => whnf)
 refine ⟨by simp; omega, ?_⟩
 (conv => whnf)
 refine cl [] [] (sCutPrefix_spec p (d ++ [47])) ?_
 (conv => whnf)
 exact rx [] []
end Go.Nest
end
/- part -/
section

namespace Go.Nest
open Go Go.AM Go.Proofs
open Go.Proofs.YtpmjnbidmcnhnaaGreatDoor (tab tabOk)
set_option maxRecDepth 4000
theorem sameTexts_spec (a b : List (List UInt8)) : Does Tryz.prog 36 [.c (.bs 1 (List UInt8) encS a), .c (.bs 1 (List UInt8) encS b)] [] (Rt (.c (.bool (decide (a = b)))) []) := by
 refine X_spec (n := 26) (n0 := 0) tabOk Tryz.call36 Tryz.func36 ?_
 intro hb; have hb : a.length ≤ 9223372036854775807 := hb.1.1
 repeat' ((conv => whnf); first | (refine dec (fun h => ?_) (fun h => ?_) <;> try contradiction) | (refine decN (fun h => ?_) (fun h => ?_) <;> try contradiction) | refine booN (fun h => ?_) (fun h => ?_) | refine boo (fun h => ?_) (fun h => ?_) | refine ⟨i64 (by omega) (by omega), ?_⟩ | refine ⟨_, _, rfl, List.getElem?_eq_getElem (by omega), ?_⟩ | refine ⟨_, ⟨rfl, by omega⟩, ?_⟩ | refine ⟨_, List.getElem?_eq_getElem (by omega), ?_⟩ | refine rtB ?_ | refine rtI ?_ | refine rtC ?_ rfl | fail)
 ·exact ne_len h
 (conv => whnf)
 have hl : a.length = b.length := by omega
 refine lp Nat (fun i => ⟨[(0, .c (.bs 1 (List UInt8) encS a)), (1, .c (.bs 1 (List UInt8) encS b)), (5, .c (.int .i64 i))], []⟩) (fun i => i ≤ a.length ∧ a.take i = b.take i) (fun i => a.length - i) 0 [] [] ?_ ?_ (fun i hi => ?_)
 ·simp
 ·repeat' first | exact trivial | exact rfl | refine And.intro ?_ ?_
 (conv => whnf)
 refine dec (fun h4 => ?_) (fun h4 => ?_)
 ·have hlt : i < a.length := by omega
  have hlt' : i < b.length := by omega
  (conv => whnf)
  refine ⟨false, .grow, (.l [0, 1, 2, 3, 4, 5, 6, 7, 8]), by kernel_rfl, .inl ?_⟩
  repeat' ((conv => whnf); first | (refine dec (fun h => ?_) (fun h => ?_) <;> try contradiction) | (refine decN (fun h => ?_) (fun h => ?_) <;> try contradiction) | refine booN (fun h => ?_) (fun h => ?_) | refine boo (fun h => ?_) (fun h => ?_) | refine ⟨i64 (by omega) (by omega), ?_⟩ | refine ⟨_, _, rfl, List.getElem?_eq_getElem (by omega), ?_⟩ | refine ⟨_, ⟨rfl, by omega⟩, ?_⟩ | refine ⟨_, List.getElem?_eq_getElem (by omega), ?_⟩ | refine rtB ?_ | refine rtI ?_ | refine rtC ?_ rfl | fail)
  ·exact ne_at hlt hlt' h
  ·refine ag (i + 1) [] [] ⟨hlt, take_step hlt hlt' hi.2 h⟩ (by simp only []; omega) ?_
   repeat' first | exact trivial | exact rfl | refine And.intro ?_ ?_
 ·repeat' ((conv => whnf); first | (refine dec (fun h => ?_) (fun h => ?_) <;> try contradiction) | (refine decN (fun h => ?_) (fun h => ?_) <;> try contradiction) | refine booN (fun h => ?_) (fun h => ?_) | refine boo (fun h => ?_) (fun h => ?_) | refine ⟨i64 (by omega) (by omega), ?_⟩ | refine ⟨_, _, rfl, List.getElem?_eq_getElem (by omega), ?_⟩ | refine ⟨_, ⟨rfl, by omega⟩, ?_⟩ | refine ⟨_, List.getElem?_eq_getElem (by omega), ?_⟩ | refine rtB ?_ | refine rtI ?_ | refine rtC ?_ rfl | fail)
  exact take_end (by omega) hl hi.2
theorem spl_take {l : List UInt8} {i : Nat} (h : i < l.length) (hc : ¬ l[i] = 47) : ∃ (xs : List (List UInt8)) (x : List UInt8), spl (l.take i) = xs ++ [x] ∧ spl (l.take (i + 1)) = xs ++ [x ++ [l[i]]] := by
 rw [List.take_succ_eq_append_getElem h]; exact spl_snoc _ hc
theorem spl_last_len : ∀ (l : List UInt8) {xs : List (List UInt8)} {x : List UInt8}, spl l = xs ++ [x] → x.length ≤ l.length := by
 intro l xs x h
 have h1 := unsp_spl l
 rw [h] at h1
 have : ∀ (xs : List (List UInt8)) (x : List UInt8), x.length ≤ (unsp (xs ++ [x])).length := by
  intro xs
  induction xs with
  | nil => intro x; simp [unsp]
  | cons y ys ih =>
   intro x
   have := ih x
   cases ys with
   | nil => simp [unsp]; omega
   | cons z zs => simp [unsp] at this ⊢; omega
 have := this xs x
 rw [h1] at this
 exact this
set_option maxHeartbeats 1000000 in
theorem parts_spec (l : List UInt8) (hl : l.length ≤ 4000000) : Does Tryz.prog 113 [.c (.str l)] [] (Rt (.c (.rw 0)) [.row 1 (List UInt8) encS (spl l)]) := by
 refine X_spec (n := 33) (n0 := 0) tabOk Tryz.call113 Tryz.func113 ?_
 intro hb
 (conv => whnf)
 refine ⟨[[]], rfl, ?_⟩
 (conv => whnf)
 refine lp Nat (fun i => ⟨[(0, .c (.str l)), (3, .c (.rw 0)), (4, .c (.int .i64 i))], [.row 1 (List UInt8) encS (spl (l.take i))]⟩) (fun i => i ≤ l.length ∧ True) (fun i => l.length - i) 0 [] [.same 0] ?_ ?_ (fun i hi => ?_)
 ·simp
 ·repeat' first | exact trivial | exact rfl | refine And.intro ?_ ?_
 have hsl : (spl (l.take i)).length ≤ l.length + 1 := by
  rw [spl_len]; have := List.count_le_length (a := 47) (l := l.take i); rw [List.length_take] at this; omega
 (conv => whnf)
 refine dec (fun h4 => ?_) (fun h4 => ?_)
 ·have hlt : i < l.length := by omega
  repeat' ((conv => whnf); first | (refine dec (fun h => ?_) (fun h => ?_) <;> try contradiction) | (refine decN (fun h => ?_) (fun h => ?_) <;> try contradiction) | refine booN (fun h => ?_) (fun h => ?_) | refine boo (fun h => ?_) (fun h => ?_) | refine ⟨i64 (by omega) (by omega), ?_⟩ | refine ⟨_, _, rfl, List.getElem?_eq_getElem (by omega), ?_⟩ | refine ⟨_, ⟨rfl, by omega⟩, ?_⟩ | refine ⟨_, List.getElem?_eq_getElem (by omega), ?_⟩ | refine rtB ?_ | refine rtI ?_ | refine rtC ?_ rfl | fail)
  ·have hc : l[i] = 47 := by
    have h : ((l[i].toNat : Nat) : Int) = 47 := h
    exact UInt8.toNat_inj.1 (by simpa using (show l[i].toNat = 47 by omega))
   have hs : spl (l.take (i + 1)) = spl (l.take i) ++ [[]] := by rw [List.take_succ_eq_append_getElem hlt, hc, spl_snoc_stroke]
   (conv => whnf)
   refine ⟨[[]], rfl, ?_⟩
   (conv => whnf)
   refine ⟨_, _, rfl, rfl, (by simp only [List.length_append, List.length_cons, List.length_nil]; omega), ?_⟩
   repeat' ((conv => whnf); first | (refine dec (fun h => ?_) (fun h => ?_) <;> try contradiction) | (refine decN (fun h => ?_) (fun h => ?_) <;> try contradiction) | refine booN (fun h => ?_) (fun h => ?_) | refine boo (fun h => ?_) (fun h => ?_) | refine ⟨i64 (by omega) (by omega), ?_⟩ | refine ⟨_, _, rfl, List.getElem?_eq_getElem (by omega), ?_⟩ | refine ⟨_, ⟨rfl, by omega⟩, ?_⟩ | refine ⟨_, List.getElem?_eq_getElem (by omega), ?_⟩ | refine rtB ?_ | refine rtI ?_ | refine rtC ?_ rfl | fail)
   refine ag (i + 1) [] [.same 2] ⟨hlt, trivial⟩ (by simp only []; omega) ?_
   repeat' first | exact trivial | exact rfl | refine And.intro ?_ ?_
   rw [hs]; exact rfl
  ·have hc : ¬ l[i] = 47 := fun e => h (by show ((l[i].toNat : Nat) : Int) = 47; rw [e]; rfl)
   obtain ⟨xs, x, e1, e2⟩ := spl_take hlt hc
   have hxl := spl_last_len _ e1
   rw [List.length_take] at hxl
   have hn : (spl (l.take i)).length = xs.length + 1 := by rw [e1]; simp
   (conv => whnf)
   refine ⟨false, .grow, (.l [0, 1, 2, 3, 4, 5, 6, 7, 8, 9, 10, 11, 12, 13]), by kernel_rfl, .inl ?_⟩
   have hdr : (l.take (i + 1)).drop i = [l[i]] := by
    rw [List.take_succ_eq_append_getElem hlt, List.drop_append_of_le_length (by rw [List.length_take]; omega), List.drop_of_length_le (by rw [List.length_take]; omega)]; rfl
   have hset : (spl (l.take i)).set ((spl (l.take i)).length - 1) (x ++ (l.take (i + 1)).drop i) = spl (l.take (i + 1)) := by
    rw [e2, hdr, hn, e1, Nat.add_sub_cancel, List.set_append_right _ _ (Nat.le_refl _)]; simp
   have hget : (spl (l.take i))[(spl (l.take i)).length - 1]? = some x := by
    rw [hn, e1, Nat.add_sub_cancel, List.getElem?_append_right (Nat.le_refl _)]; simp
   (conv => whnf)
   refine ⟨i64 (by omega) (by omega), ?_⟩
   (conv => whnf)
   refine ⟨(spl (l.take i)).length - 1, ⟨by omega, by omega⟩, ?_⟩
   (conv => whnf)
   refine ⟨x, hget, ?_⟩
   (conv => whnf)
   refine ⟨i64 (by omega) (by omega), ?_⟩
   (conv => whnf)
   refine ⟨i, i + 1, rfl, rfl, by omega, ?_⟩
   (conv => whnf)
   refine ⟨by rw [hdr, List.length_singleton]; omega, ?_⟩
   (conv => whnf)
   refine ⟨(spl (l.take i)).length - 1, ⟨by omega, by omega⟩, ?_⟩
   (conv => whnf)
   refine ⟨x, x ++ (l.take (i + 1)).drop i, hget, ⟨Nat.le_refl _, rfl⟩, ?_⟩
   repeat' ((conv => whnf); refine I6 ?_)
   refine ag (i + 1) [] [.same 0] ⟨hlt, trivial⟩ (by simp only []; omega) ?_
   repeat' first | exact trivial | exact rfl | refine And.intro ?_ ?_
   rw [← hset]; exact rfl
 ·(conv => whnf)
  rw [show l.take i = l from List.take_of_length_le (by omega)]
  exact rx [] [.same 0]
theorem pathOf_spec (l : List UInt8) (hl : l.length ≤ 4000000) : Does Tryz.prog 76 [.c (.str l)] [] (Rt (.tup [(false, [.rw 0]), (false, [.int .i64 (splitP l).2])]) [.row 1 (List UInt8) encS (splitP l).1]) := by
 refine X_spM (n := 27) (n0 := 0) tabOk Tryz.call76 Tryz.func76 ?_
 intro hb
 have hsl : (spl l).length ≤ l.length + 1 := by rw [spl_len]; have := List.count_le_length (a := 47) (l := l); omega
 refine XM.seq ?_
 repeat' ((conv => whnf); refine I6 ?_)
 refine XM.seq ?_
 (conv => whnf)
 refine cl [] [] (parts_spec l hl) ?_
 repeat' ((conv => whnf); refine I6 ?_)
 refine XM.join (ι := Unit) (fun _ => ⟨[(4, .c (.rw 0))], [.row 1 (List UInt8) encS (spl l)]⟩) (fun _ => namesF (spl l) = 0) ?_ (fun _ h1 => ?_)
 ·(conv => whnf)
  refine lp Nat (fun i => ⟨[(4, .c (.rw 0)), (5, .c (.int .i64 i))], [.row 1 (List UInt8) encS (spl l)]⟩) (fun i => i ≤ (spl l).length ∧ namesF (spl l) = namesF ((spl l).drop i)) (fun i => (spl l).length - i) 0 [] [.same 0] ?_ ?_ (fun i hi => ?_)
  ·simp
  ·repeat' first | exact trivial | exact rfl | refine And.intro ?_ ?_
  (conv => whnf)
  refine dec (fun h4 => ?_) (fun h4 => ?_)
  ·have hlt : i < (spl l).length := by omega
   have hat := namesF_at hlt hi.2
   repeat' ((conv => whnf); first | (refine dec (fun h => ?_) (fun h => ?_) <;> try contradiction) | (refine decN (fun h => ?_) (fun h => ?_) <;> try contradiction) | refine booN (fun h => ?_) (fun h => ?_) | refine boo (fun h => ?_) (fun h => ?_) | refine ⟨i64 (by omega) (by omega), ?_⟩ | refine ⟨_, _, rfl, List.getElem?_eq_getElem (by omega), ?_⟩ | refine ⟨_, ⟨rfl, by omega⟩, ?_⟩ | refine ⟨_, List.getElem?_eq_getElem (by omega), ?_⟩ | refine rtB ?_ | refine rtI ?_ | refine rtC ?_ rfl | fail)
   (conv => whnf)
   refine cl [] [] (nameF_spec (spl l)[i]) ?_
   repeat' ((conv => whnf); first | (refine dec (fun h => ?_) (fun h => ?_) <;> try contradiction) | (refine decN (fun h => ?_) (fun h => ?_) <;> try contradiction) | refine booN (fun h => ?_) (fun h => ?_) | refine boo (fun h => ?_) (fun h => ?_) | refine ⟨i64 (by omega) (by omega), ?_⟩ | refine ⟨_, _, rfl, List.getElem?_eq_getElem (by omega), ?_⟩ | refine ⟨_, ⟨rfl, by omega⟩, ?_⟩ | refine ⟨_, List.getElem?_eq_getElem (by omega), ?_⟩ | refine rtB ?_ | refine rtI ?_ | refine rtC ?_ rfl | fail)
   ·rw [if_neg h] at hat
    have : splitP l = ([], nameC (spl l)[i]) := by unfold splitP; rw [if_neg (by rw [hat]; exact h), hat]
    rw [this]
    (conv => whnf)
    exact rx [] [.new]
   ·rw [if_pos h] at hat
    refine ag (i + 1) [] [.same 0] ⟨hlt, hat⟩ (by simp only []; omega) ?_
    repeat' first | exact trivial | exact rfl | refine And.intro ?_ ?_
  ·have := hi.2
   rw [List.drop_of_length_le (by omega)] at this
   (conv => whnf)
   refine ⟨(), this, [], [.same 0], ?_⟩
   repeat' first | exact trivial | exact rfl | refine And.intro ?_ ?_
 refine XM.of ?_
 repeat' ((conv => whnf); first | (refine dec (fun h => ?_) (fun h => ?_) <;> try contradiction) | (refine decN (fun h => ?_) (fun h => ?_) <;> try contradiction) | refine booN (fun h => ?_) (fun h => ?_) | refine boo (fun h => ?_) (fun h => ?_) | refine ⟨i64 (by omega) (by omega), ?_⟩ | refine ⟨_, _, rfl, List.getElem?_eq_getElem (by omega), ?_⟩ | refine ⟨_, ⟨rfl, by omega⟩, ?_⟩ | refine ⟨_, List.getElem?_eq_getElem (by omega), ?_⟩ | refine rtB ?_ | refine rtI ?_ | refine rtC ?_ rfl | fail)
 ·have : splitP l = ([], 3) := by unfold splitP; rw [if_pos h1, if_pos (by omega)]
  rw [this]
  (conv => whnf)
  exact rx [] [.new]
 ·have : splitP l = (spl l, 0) := by unfold splitP; rw [if_pos h1, if_neg (by omega)]
  rw [this]
  (conv => whnf)
  exact rx [] [.same 0]
theorem behind_some {p d : List UInt8} (h1 : d.length < p.length) (h2 : p.take d.length = d) (h3 : p[d.length] = 47) : underP p d = (p.drop (d.length + 1), true) := by
 have h4 := List.drop_eq_getElem_cons h1
 rw [h3] at h4
 have h5 := List.take_append_drop d.length p
 rw [h2, h4] at h5
 have hu : under p d = some (p.drop (d.length + 1)) := by
  have := under_of (d := d) (r := p.drop (d.length + 1))
  rwa [h5] at this
 unfold underP; rw [hu]
theorem behind_none {p d : List UInt8} (h : ∀ r, ¬ p = d ++ 47 :: r) : underP p d = (p, false) := by
 unfold underP
 cases hu : under p d with
 | none => rfl
 | some r => exact absurd (under_eq hu) (h r)
theorem behind_spec (p d : List UInt8) (hd : d.length ≤ 4000000) : Does Tryz.prog 77 [.c (.str p), .c (.str d)] [] (Rt (.tup [(false, [.str (underP p d).1]), (false, [.bool (underP p d).2])]) []) := by
 refine X_spec (n := 31) (n0 := 0) tabOk Tryz.call77 Tryz.func77 ?_
 intro hb
 (conv => whnf)
 refine dec (fun h1 => ?_) (fun h1 => ?_)
 ·have hlt : d.length < p.length := by omega
  (conv => whnf)
  refine ⟨0, d.length, rfl, rfl, by omega, ?_⟩
  (conv => whnf)
  refine dec (fun h2 => ?_) (fun h2 => ?_)
  ·rw [List.drop_zero] at h2
   (conv => whnf)
   refine ⟨d.length, p[d.length], rfl, List.getElem?_eq_getElem hlt, ?_⟩
   (conv => whnf)
   refine dec (fun h3 => ?_) (fun h3 => ?_)
   ·have h3 : p[d.length] = 47 := by
     have h : ((p[d.length].toNat : Nat) : Int) = 47 := h3
     exact UInt8.toNat_inj.1 (by simpa using (show p[d.length].toNat = 47 by omega))
    rw [behind_some hlt h2 h3]
    (conv => whnf)
    refine ⟨i64 (by omega) (by omega), ?_⟩
    (conv => whnf)
    refine ⟨d.length + 1, p.length, rfl, rfl, by omega, ?_⟩
    (conv => whnf)
    rw [List.take_length]
    exact rx [] []
   ·rw [behind_none (fun r e => h3 (by subst e; show (((d ++ 47 :: r)[d.length].toNat : Nat) : Int) = 47; simp))]
    (conv => whnf)
    exact rx [] []
  ·rw [List.drop_zero] at h2
   rw [behind_none (fun r e => h2 (by subst e; simp))]
   (conv => whnf)
   exact rx [] []
 ·rw [behind_none (fun r e => h1 (by subst e; simp; omega))]
  (conv => whnf)
  exact rx [] []
set_option maxHeartbeats 1000000 in
theorem ahead_spec (a b : List UInt8) (ha : a.length ≤ 4000000) (hb' : b.length ≤ 4000000) : Does Tryz.prog 64 [.c (.str a), .c (.str b)] [] (Rt (.c (.bool (lessP a b))) []) := by
 refine X_spec (n := 47) (n0 := 0) tabOk Tryz.call64 Tryz.func64 ?_
 intro hb
 have hsl : (spl a).length ≤ a.length + 1 := by rw [spl_len]; have := List.count_le_length (a := 47) (l := a); omega
 (conv => whnf)
 refine cl [] [] (parts_spec a ha) ?_
 (conv => whnf)
 refine cl [] [] (parts_spec b hb') ?_
 (conv => whnf)
 unfold lessP
 refine lp Nat (fun i => ⟨[(5, .c (.rw 0)), (6, .c (.rw 1)), (7, .c (.int .i64 i))], [.row 1 (List UInt8) encS (spl a), .row 1 (List UInt8) encS (spl b)]⟩) (fun i => (i ≤ (spl a).length ∧ i ≤ (spl b).length) ∧ (spl a).take i = (spl b).take i) (fun i => (spl a).length - i) 0 [] [.same 0, .same 1] ?_ ?_ (fun i hi => ?_)
 ·simp
 ·repeat' first | exact trivial | exact rfl | refine And.intro ?_ ?_
 have fin : ¬ (i < (spl a).length ∧ i < (spl b).length) → lessL (spl a) (spl b) = decide ((spl a).length < (spl b).length) := fun h => lessL_end hi.2 h hi.1.1 hi.1.2
 (conv => whnf)
 refine dec (fun h4 => ?_) (fun h4 => ?_)
 ·have hlt : i < (spl a).length := by omega
  (conv => whnf)
  refine ⟨false, .grow, (.l [0, 1, 2, 3, 4, 5, 6, 7, 8, 9, 10, 11, 12, 13, 14]), by kernel_rfl, .inl ?_⟩
  (conv => whnf)
  refine dec (fun h5 => ?_) (fun h5 => ?_)
  ·repeat' ((conv => whnf); first | (refine dec (fun h => ?_) (fun h => ?_) <;> try contradiction) | (refine decN (fun h => ?_) (fun h => ?_) <;> try contradiction) | refine booN (fun h => ?_) (fun h => ?_) | refine boo (fun h => ?_) (fun h => ?_) | refine ⟨i64 (by omega) (by omega), ?_⟩ | refine ⟨_, _, rfl, List.getElem?_eq_getElem (by omega), ?_⟩ | refine ⟨_, ⟨rfl, by omega⟩, ?_⟩ | refine ⟨_, List.getElem?_eq_getElem (by omega), ?_⟩ | refine rtB ?_ | refine rtI ?_ | refine rtC ?_ rfl | fail)
   rw [fin (by omega)]; symm; rw [decide_eq_false_iff_not]; omega
  ·have hlt' : i < (spl b).length := by omega
   repeat' ((conv => whnf); first | (refine dec (fun h => ?_) (fun h => ?_) <;> try contradiction) | (refine decN (fun h => ?_) (fun h => ?_) <;> try contradiction) | refine booN (fun h => ?_) (fun h => ?_) | refine boo (fun h => ?_) (fun h => ?_) | refine ⟨i64 (by omega) (by omega), ?_⟩ | refine ⟨_, _, rfl, List.getElem?_eq_getElem (by omega), ?_⟩ | refine ⟨_, ⟨rfl, by omega⟩, ?_⟩ | refine ⟨_, List.getElem?_eq_getElem (by omega), ?_⟩ | refine rtB ?_ | refine rtI ?_ | refine rtC ?_ rfl | fail)
   ·rw [Bool.or_eq_false_iff, decide_eq_false_iff_not] at h
    rw [lessL_at hlt hlt' hi.2 h.2, h.1]
   ·rw [Bool.or_eq_true, decide_eq_true_iff] at h
    have hor := h
    clear h
    (conv => whnf)
    refine ⟨false, .grow, (.l [0, 1, 2, 3, 4, 5, 6, 7, 8]), by kernel_rfl, .inl ?_⟩
    repeat' ((conv => whnf); first | (refine dec (fun h => ?_) (fun h => ?_) <;> try contradiction) | (refine decN (fun h => ?_) (fun h => ?_) <;> try contradiction) | refine booN (fun h => ?_) (fun h => ?_) | refine boo (fun h => ?_) (fun h => ?_) | refine ⟨i64 (by omega) (by omega), ?_⟩ | refine ⟨_, _, rfl, List.getElem?_eq_getElem (by omega), ?_⟩ | refine ⟨_, ⟨rfl, by omega⟩, ?_⟩ | refine ⟨_, List.getElem?_eq_getElem (by omega), ?_⟩ | refine rtB ?_ | refine rtI ?_ | refine rtC ?_ rfl | fail)
    ·rw [lessL_at hlt hlt' hi.2 (fun e => by rw [e, bl_irrefl] at h; cases h), h]
    ·refine ag (i + 1) [] [.same 0, .same 1] ⟨⟨hlt, hlt'⟩, take_step hlt hlt' hi.2 (hor.resolve_left (by rw [h]; simp))⟩ (by simp only []; omega) ?_
     repeat' first | exact trivial | exact rfl | refine And.intro ?_ ?_
 ·repeat' ((conv => whnf); first | (refine dec (fun h => ?_) (fun h => ?_) <;> try contradiction) | (refine decN (fun h => ?_) (fun h => ?_) <;> try contradiction) | refine booN (fun h => ?_) (fun h => ?_) | refine boo (fun h => ?_) (fun h => ?_) | refine ⟨i64 (by omega) (by omega), ?_⟩ | refine ⟨_, _, rfl, List.getElem?_eq_getElem (by omega), ?_⟩ | refine ⟨_, ⟨rfl, by omega⟩, ?_⟩ | refine ⟨_, List.getElem?_eq_getElem (by omega), ?_⟩ | refine rtB ?_ | refine rtI ?_ | refine rtC ?_ rfl | fail)
  rw [fin (by omega), decide_eq_decide]; omega
end Go.Nest
end
/- part -/
section

namespace Go.Nest
open Go Go.AM
def cutP (s : List UInt8) : List UInt8 × List UInt8 × Bool := if 0 ≤ Lib.indexByte s 47 then (s.take (Lib.indexByte s 47).toNat, s.drop ((Lib.indexByte s 47).toNat + 1), true) else (s, [], false)
theorem cut_of : ∀ {a b : List UInt8}, a.count 47 = 0 → cutP (a ++ 47 :: b) = (a, b, true) := by
 intro a b h
 have key : Lib.indexByte (a ++ 47 :: b) 47 = a.length := by
  induction a with
  | nil => simp [Lib.indexByte]
  | cons c a ih =>
   rw [List.count_cons] at h
   have hc : (c == 47) = false := by
    cases hc : c == 47 with
    | false => rfl
    | true => rw [hc] at h; simp at h
   rw [List.cons_append]
   unfold Lib.indexByte
   rw [hc, ih (by omega)]
   have : ((a.length : Int) == -1) = false := by simp
   simp [this]
 unfold cutP
 rw [key, if_pos (by omega)]
 simp
theorem cut_some {s : List UInt8} (h : ¬ s.count 47 = 0) : ∃ a b, cutP s = (a, b, true) ∧ s = a ++ 47 :: b ∧ a.count 47 = 0 := by
 have key : ∀ {s : List UInt8}, ¬ s.count 47 = 0 → ∃ a b, s = a ++ 47 :: b ∧ a.count 47 = 0 := by
  intro s
  induction s with
  | nil => intro h; simp at h
  | cons c s ih =>
   intro h
   by_cases e : c = 47
   ·exact ⟨[], s, by rw [e]; rfl, rfl⟩
   ·have hc : (c == 47) = false := by simpa using e
    rw [List.count_cons, hc] at h
    obtain ⟨a, b, h1, h2⟩ := ih (by simpa using h)
    exact ⟨c :: a, b, by rw [h1]; rfl, by rw [List.count_cons, hc, h2]; rfl⟩
 obtain ⟨a, b, h1, h2⟩ := key h
 exact ⟨a, b, by rw [h1]; exact cut_of h2, h1, h2⟩
theorem name_stroke {n : List UInt8} (h : nameC n = 0) : n.count 47 = 0 := by
 rw [List.count_eq_zero]
 intro hm
 unfold nameC at h
 rw [if_pos] at h
 ·cases h
 ·refine .inr (.inr (.inr ?_))
  rw [List.any_eq_true]
  exact ⟨47, hm, by decide⟩
def stepE (rec : Int → List (List UInt8) → List Fi → Int × List Fi) (ins : List (List UInt8)) : List Ent → List Fi → Int × List Fi
 | [], out => (0, out)
 | e :: r, out => if e.mode = 2 then (if (rec e.id (ins ++ [e.name]) out).1 ≠ 0 then rec e.id (ins ++ [e.name]) out else stepE rec ins r (rec e.id (ins ++ [e.name]) out).2)
  else if out.length = 60 then (5, out) else stepE rec ins r (out ++ [⟨unsp (ins ++ [e.name]), e.mode, e.id, e.repo⟩])
def goF (L : List Ob) : Nat → Int → List (List UInt8) → List Fi → Int × List Fi
 | 0, _, _, out => (0, out)
 | n + 1, t, ins, out => if kindOf L t ≠ 2 then (9, out) else if 8 ≤ ins.length ∧ 0 < (getP L t).entries.length then (3, out) else stepE (goF L n) ins (getP L t).entries out
def filesP (L : List Ob) (t : Int) : List Fi × Int := if (goF L 9 t [] []).1 = 0 then ((goF L 9 t [] []).2, 0) else ([], (goF L 9 t [] []).1)
def insideP (name : List UInt8) : List Fi → List Fi × List Fi
 | [] => ([], [])
 | f :: r => match under f.path name with
  | none => ([], f :: r)
  | some p => (⟨p, f.mode, f.id, f.repo⟩ :: (insideP name r).1, (insideP name r).2)
def obT (es : List Ent) : Ob := ⟨2, [], es, 0, [], []⟩
def goB : Nat → List Ob → List Ent → List Fi → Int × Int × List Ob
 | 0, L, _, _ => (0, 0, L)
 | n + 1, L, es, [] => putP L (obT es)
 | n + 1, L, es, f :: r => if f.path.count 47 = 0 then goB n L (es ++ [⟨f.path, f.mode, f.id, f.repo⟩]) r
  else if (goB n L [] (insideP (cutP f.path).1 (f :: r)).1).2.1 ≠ 0 then (0, (goB n L [] (insideP (cutP f.path).1 (f :: r)).1).2.1, (goB n L [] (insideP (cutP f.path).1 (f :: r)).1).2.2)
   else goB n (goB n L [] (insideP (cutP f.path).1 (f :: r)).1).2.2 (es ++ [⟨(cutP f.path).1, 2, (goB n L [] (insideP (cutP f.path).1 (f :: r)).1).1, 0⟩]) (insideP (cutP f.path).1 (f :: r)).2
def mu (l : List Fi) : Nat := (l.map fun f => f.path.length + 1).sum
theorem mu_cons {f : Fi} {l : List Fi} : mu (f :: l) = f.path.length + 1 + mu l := by unfold mu; rw [List.map_cons, List.sum_cons]
theorem mu_app {l m : List Fi} : mu (l ++ m) = mu l + mu m := by unfold mu; rw [List.map_append, List.sum_append]
def clashF (p : Option Fi) (f : Fi) : Int := match p with
 | none => 0
 | some g => if lessP g.path f.path = false then 8 else if (under f.path g.path).isSome = true then 10 else 0
def checkF : Option Fi → List Fi → Int
 | _, [] => 0
 | p, f :: r => if (splitP f.path).2 ≠ 0 then (splitP f.path).2 else if f.mode ≠ 1 ∧ f.mode ≠ 3 then 6 else if clashF p f ≠ 0 then clashF p f else checkF (some f) r
def filesF (l : List Fi) : Int := if 60 < l.length then 5 else checkF none l
def buildP (L : List Ob) (l : List Fi) : Int × Int × List Ob := if filesF l ≠ 0 then (0, filesF l, L) else goB (mu l + 1) L [] l
def pre (n : List UInt8) (f : Fi) : Fi := ⟨n ++ 47 :: f.path, f.mode, f.id, f.repo⟩
inductive Ents (ne : Bool) (L : List Ob) : List Ent → List Fi → Prop
 | nil : Ents ne L [] []
 | file {e : Ent} {es : List Ent} {l : List Fi} (hm : e.mode ≠ 2) (h : Ents ne L es l) : Ents ne L (e :: es) (⟨e.name, e.mode, e.id, e.repo⟩ :: l)
 | dir {e : Ent} {es : List Ent} {m l : List Fi} (hm : e.mode = 2) (hk : kindOf L e.id = 2) (hne : ne = true → m ≠ []) (h1 : Ents ne L (getP L e.id).entries m) (h : Ents ne L es l) : Ents ne L (e :: es) (m.map (pre e.name) ++ l)
def TreeOf (ne : Bool) (L : List Ob) (t : Int) (l : List Fi) : Prop := kindOf L t = 2 ∧ Ents ne L (getP L t).entries l
theorem ext_kind {L M : List Ob} (h : L <+: M) {k : Int} (hk : ¬ kindOf L k = 0) : kindOf M k = kindOf L k := by
 obtain ⟨t, rfl⟩ := h; exact kindOf_app hk
theorem ext_get {L M : List Ob} (h : L <+: M) {k : Int} (hk : ¬ kindOf L k = 0) : getP M k = getP L k := by
 obtain ⟨t, rfl⟩ := h
 have := kindOf_pos hk
 exact getP_app (by omega)
theorem Ents.mono {ne : Bool} {L M : List Ob} (hx : L <+: M) {es : List Ent} {l : List Fi} (h : Ents ne L es l) : Ents ne M es l := by
 induction h with
 | nil => exact .nil
 | file hm _ ih => exact .file hm ih
 | @dir e es m l hm hk hne h1 h ih1 ih =>
  refine .dir hm (by rw [ext_kind hx (by omega)]; exact hk) hne ?_ ih
  rw [ext_get hx (by omega)]; exact ih1
theorem Ents.weak {ne : Bool} {L : List Ob} {es : List Ent} {l : List Fi} (h : Ents ne L es l) : Ents false L es l := by
 induction h with
 | nil => exact .nil
 | file hm _ ih => exact .file hm ih
 | dir hm hk hne h1 h ih1 ih => exact .dir hm hk (fun h => by cases h) ih1 ih
theorem PoolOk.tree {L : List Ob} (hp : PoolOk L) {t : Int} (hk : kindOf L t = 2) : getP L t = obT (getP L t).entries ∧ entsF none (getP L t).entries = 0 ∧ (getP L t).entries.length ≤ 60 ∧ (∀ e ∈ (getP L t).entries, kindOf L e.id = e.mode) := by
 have h := hp.get (id := t) (by omega)
 have hk2 := getP_kind (l := L) (id := t)
 rw [hk] at hk2
 have h1 := h.nb (by omega)
 have h2 := h.nc (by omega)
 refine ⟨?_, h.ents, h.entries, ?_⟩
 ·generalize getP L t = o at *
  obtain ⟨a, b, c, d, e, f⟩ := o
  simp only at hk2 h1 h2
  rw [hk2, h1, h2.1, h2.2.1, h2.2.2]; rfl
 ·have hpos := kindOf_pos (l := L) (id := t) (by omega)
  have := (hp.obj (getP L t) (by rw [getP_at hpos.1 hpos.2]; exact List.getElem_mem _)).2
  unfold leadsP at this
  rw [Bool.and_eq_true, List.all_eq_true] at this
  intro e he
  simpa using this.1 e he
def Rise : Option (List UInt8) → List Ent → Prop
 | _, [] => True
 | p, e :: r => (∀ q, p = some q → Op.bytesLess q e.name = true) ∧ Rise (some e.name) r
theorem ents_rise : ∀ {es : List Ent} {p : Option (List UInt8)}, entsF p es = 0 → Rise p es
 | [], _, _ => trivial
 | e :: r, p, h => by
  unfold entsF at h
  split at h
  ·rename_i h0
   refine ⟨fun q hq => ?_, ents_rise h⟩
   subst hq
   unfold entF at h0
   split at h0
   ·exact absurd h0 ‹_›
   split at h0
   ·cases h0
   split at h0
   ·cases h0
   split at h0
   ·cases h0
   simp only at h0
   split at h0
   ·assumption
   ·cases h0
  ·exact absurd h ‹_›
theorem rise_all : ∀ {es : List Ent} {q : List UInt8}, Rise (some q) es → ∀ e ∈ es, Op.bytesLess q e.name = true
 | e :: r, q, ⟨h1, h2⟩, x, hx => by
  rcases List.mem_cons.1 hx with rfl | hx
  ·exact h1 q rfl
  ·exact bl_trans (h1 q rfl) (rise_all h2 x hx)
theorem rise_weak : ∀ {es : List Ent} {p : Option (List UInt8)}, Rise p es → Rise none es
 | [], _, _ => trivial
 | _ :: _, _, ⟨_, h⟩ => ⟨fun _ hq => (by cases hq), h⟩
theorem rise_low : ∀ {es : List Ent} {q r : List UInt8}, Op.bytesLess q r = true → Rise (some r) es → Rise (some q) es
 | [], _, _, _, _ => trivial
 | _ :: _, _, _, h, ⟨h1, h2⟩ => ⟨fun s hs => (by cases hs; exact bl_trans h (h1 _ rfl)), h2⟩
structure EntOk (L : List Ob) (e : Ent) : Prop where
 name : nameC e.name = 0
 m1 : 1 ≤ e.mode
 m3 : e.mode ≤ 3
 id : 0 ≤ e.id
 repo : 0 ≤ e.repo ∧ e.repo < 4
 link : e.mode = 3 ∨ e.repo = 0
 kind : kindOf L e.id = e.mode
theorem EntOk.mono {L M : List Ob} (hx : L <+: M) {e : Ent} (h : EntOk L e) : EntOk M e :=
 ⟨h.name, h.m1, h.m3, h.id, h.repo, h.link, by have := h.kind; have := h.m1; rw [ext_kind hx (by omega)]; exact h.kind⟩
theorem tree_ok {L : List Ob} (hp : PoolOk L) {t : Int} (hk : kindOf L t = 2) : Rise none (getP L t).entries ∧ ∀ e ∈ (getP L t).entries, EntOk L e := by
 obtain ⟨h1, h2, h3, h4⟩ := hp.tree hk
 refine ⟨ents_rise h2, fun e he => ?_⟩
 obtain ⟨g1, g2, g3, g4, g5⟩ := entsF_ok h2 e he
 exact ⟨g1, g2.1, g2.2, g3, g4, g5, h4 e he⟩
theorem ents_zero {L : List Ob} : ∀ {es : List Ent} {p : Option (List UInt8)}, Rise p es → (∀ e ∈ es, EntOk L e) → entsF p es = 0
 | [], _, _, _ => rfl
 | e :: r, p, ⟨h1, h2⟩, h => by
  have he := h e (by simp)
  have h0 : entF p e = 0 := by
   unfold entF
   have g1 := he.name; have g2 := he.m1; have g3 := he.m3; have g4 := he.id; have g5 := he.repo; have g6 := he.link
   rw [if_neg (by simpa using g1), if_neg (by omega), if_neg (by omega)]
   cases p with
   | none => simp; try omega
   | some q => simp [h1 q rfl]; try omega
  unfold entsF
  rw [if_pos h0]
  exact ents_zero h2 fun x hx => h x (by simp [hx])
theorem put_tree {L : List Ob} (hp : PoolOk L) {es : List Ent} (h1 : Rise none es) (h2 : ∀ e ∈ es, EntOk L e) (h3 : es.length ≤ 60) : (putP L (obT es)).2.1 = 0 ∨ (putP L (obT es)).2.1 = 15 := by
 have hf : objF (obT es) = 0 := by
  unfold objF obT treeC
  simp [ents_zero h1 h2]
  omega
 have hl : leadsP L (obT es) = true := by
  unfold leadsP obT
  simp
  intro e he
  exact (h2 e he).kind
 unfold putP
 rw [if_neg (by simpa using hf), if_neg (by simp [hl])]
 split
 ·exact .inl rfl
 split
 ·exact .inr rfl
 ·exact .inl rfl
theorem put_ext {L : List Ob} (o : Ob) : L <+: (putP L o).2.2 := by
 unfold putP
 split
 ·exact List.prefix_refl _
 split
 ·exact List.prefix_refl _
 split
 ·exact List.prefix_refl _
 split
 ·exact List.prefix_refl _
 ·exact List.prefix_append _ _
theorem put_get {L : List Ob} {o : Ob} (h : (putP L o).2.1 = 0) : 0 ≤ (putP L o).1 ∧ getP (putP L o).2.2 (putP L o).1 = o := by
 unfold putP at h ⊢
 split at h
 ·exact absurd h ‹_›
 split at h
 ·cases h
 split at h
 ·rename_i h1 h2 h3
  rw [if_neg h1, if_neg h2, if_pos h3]
  refine ⟨h3, ?_⟩
  show getP L (idxF (fun x => decide (x = o)) L) = o
  unfold idxF at h3 ⊢
  cases hi : L.findIdx? (fun x => decide (x = o)) with
  | none => rw [hi] at h3; simp at h3
  | some i =>
   rw [List.findIdx?_eq_some_iff_getElem] at hi
   obtain ⟨h4, h5, _⟩ := hi
   rw [getP_at (by simp) (by simpa using h4)]
   simpa using h5
 split at h
 ·cases h
 ·rename_i h1 h2 h3 h4
  rw [if_neg h1, if_neg h2, if_neg h3, if_neg h4]
  exact ⟨by simp, getP_end⟩
theorem put_same {L : List Ob} (hp : PoolOk L) {t : Int} (hk : kindOf L t = 2) : putP L (getP L t) = (t, 0, L) := by
 obtain ⟨h1, h2⟩ := kindOf_pos (l := L) (id := t) (by omega)
 rw [getP_at h1 h2, putP_again hp h2]
 simp
 omega
theorem inside_eq (name : List UInt8) : ∀ l : List Fi, l = (insideP name l).1.map (pre name) ++ (insideP name l).2
 | [] => rfl
 | f :: r => by
  have ih := inside_eq name r
  unfold insideP
  cases h : under f.path name with
  | none => rfl
  | some p =>
   simp only [List.map_cons, List.cons_append]
   rw [← ih]
   congr 1
   obtain ⟨a, b, c, d⟩ := f
   have := under_eq h
   simp only at this
   rw [pre, this]
theorem inside_pos {name : List UInt8} {f : Fi} {r : List Fi} {b : List UInt8} (h : f.path = name ++ 47 :: b) : (insideP name (f :: r)).1 ≠ [] := by
 unfold insideP
 rw [h, under_of]; simp
theorem mu_pre (n : List UInt8) : ∀ m : List Fi, mu m + (n.length + 1) * m.length = mu (m.map (pre n))
 | [] => rfl
 | f :: m => by
  have := mu_pre n m
  rw [List.map_cons, mu_cons, mu_cons, List.length_cons, Nat.mul_succ, ← this]
  simp [pre]
  omega
theorem inside_mu {name : List UInt8} {f : Fi} {r : List Fi} {b : List UInt8} (h : f.path = name ++ 47 :: b) : mu (insideP name (f :: r)).1 < mu (f :: r) ∧ mu (insideP name (f :: r)).2 < mu (f :: r) := by
 have h1 := inside_pos (r := r) h
 have h2 := inside_eq name (f :: r)
 have h3 := mu_pre name (insideP name (f :: r)).1
 have h4 : mu (f :: r) = mu ((insideP name (f :: r)).1.map (pre name)) + mu (insideP name (f :: r)).2 := by rw [← mu_app, ← h2]
 have h5 : 0 < (insideP name (f :: r)).1.length := List.length_pos_iff.2 h1
 have h6 : (insideP name (f :: r)).1.length ≤ (name.length + 1) * (insideP name (f :: r)).1.length := Nat.le_mul_of_pos_left _ (by omega)
 omega
theorem inside_of {name : List UInt8} : ∀ {m l : List Fi}, (∀ f ∈ l, under f.path name = none) → insideP name (m.map (pre name) ++ l) = (m, l)
 | [], [], _ => rfl
 | [], f :: l, h => by
  show insideP name (f :: l) = _
  unfold insideP
  rw [h f (by simp)]
 | f :: m, l, h => by
  show insideP name (pre name f :: (m.map (pre name) ++ l)) = _
  unfold insideP
  rw [show (pre name f).path = name ++ 47 :: f.path from rfl, under_of, inside_of h]
  rfl
theorem spl_pre {n : List UInt8} (h : n.count 47 = 0) (p : List UInt8) : spl (n ++ 47 :: p) = n :: spl p := by rw [spl_append, spl_none h]; rfl
theorem Ents.fst {ne : Bool} {L : List Ob} {es : List Ent} {l : List Fi} (h : Ents ne L es l) : (∀ e ∈ es, nameC e.name = 0) → ∀ f ∈ l, ∃ e ∈ es, ∃ r, spl f.path = e.name :: r := by
 induction h with
 | nil => intro _ f hf; cases hf
 | @file e es l hm _ ih =>
  intro hn f hf
  rcases List.mem_cons.1 hf with rfl | hf
  ·exact ⟨e, by simp, [], spl_none (name_stroke (hn e (by simp)))⟩
  ·obtain ⟨e2, h2, h3⟩ := ih (fun x hx => hn x (by simp [hx])) f hf
   exact ⟨e2, by simp [h2], h3⟩
 | @dir e es m l hm hk hne h1 h ih1 ih =>
  intro hn f hf
  rcases List.mem_append.1 hf with hf | hf
  ·obtain ⟨g, hg, rfl⟩ := List.mem_map.1 hf
   exact ⟨e, by simp, spl g.path, spl_pre (name_stroke (hn e (by simp))) _⟩
  ·obtain ⟨e2, h2, h3⟩ := ih (fun x hx => hn x (by simp [hx])) f hf
   exact ⟨e2, by simp [h2], h3⟩
theorem under_fst {p n : List UInt8} (hn : n.count 47 = 0) {x : List UInt8} {r : List (List UInt8)} (h : spl p = x :: r) (hx : x ≠ n) : under p n = none := by
 cases hu : under p n with
 | none => rfl
 | some q =>
  have := under_eq hu
  rw [this, spl_pre hn] at h
  cases h
  exact absurd rfl hx
theorem bl_ne {a b : List UInt8} (h : Op.bytesLess a b = true) : b ≠ a := fun e => by rw [e, bl_irrefl] at h; cases h
theorem Ents.apart {ne : Bool} {L : List Ob} {e : Ent} {es : List Ent} {l : List Fi} {p : Option (List UInt8)} (h : Ents ne L es l) (hn : ∀ x ∈ e :: es, nameC x.name = 0) (hr : Rise p (e :: es)) : ∀ f ∈ l, ∃ x r, spl f.path = x :: r ∧ Op.bytesLess e.name x = true := fun f hf => by
 obtain ⟨e2, h2, r, h3⟩ := h.fst (fun x hx => hn x (by simp [hx])) f hf
 exact ⟨e2.name, r, h3, rise_all hr.2 e2 h2⟩
def Made (ne : Bool) (L0 L : List Ob) (acc es : List Ent) (p : Option (List UInt8)) (r : Int × Int × List Ob) : Prop :=
 ∃ L', L <+: L' ∧ PoolOk L' ∧ ((r.2.1 = 15 ∧ ne = false) ∨ ∃ es', r = putP L' (obT (acc ++ es')) ∧ Rise p es' ∧ (∀ e ∈ es', EntOk L' e) ∧ es'.length ≤ es.length ∧ (ne = true → es' = es ∧ L' = L))
theorem Ents.rebuild {ne : Bool} {L0 : List Ob} (h0 : PoolOk L0) {es : List Ent} {l : List Fi} (h : Ents ne L0 es l) : ∀ (n : Nat) (L : List Ob) (acc : List Ent) (p : Option (List UInt8)), L0 <+: L → PoolOk L → Rise p es → (∀ e ∈ es, EntOk L0 e) → es.length ≤ 60 → mu l < n → Made ne L0 L acc es p (goB n L acc l) := by
 induction h with
 | nil =>
  intro n L acc p hx hp hr he hlen hn
  obtain ⟨n, rfl⟩ : ∃ m, n = m + 1 := ⟨n - 1, by omega⟩
  refine ⟨L, List.prefix_refl _, hp, .inr ⟨[], ?_, trivial, fun e he => (by cases he), Nat.le_refl _, fun _ => ⟨rfl, rfl⟩⟩⟩
  rw [List.append_nil]; rfl
 | @file e es l hm h ih =>
  intro n L acc p hx hp hr he hlen hn
  obtain ⟨n, rfl⟩ : ∃ m, n = m + 1 := ⟨n - 1, by omega⟩
  rw [mu_cons] at hn
  have hE := he e (by simp)
  unfold goB
  rw [if_pos (name_stroke hE.name)]
  obtain ⟨L', g1, g2, g3⟩ := ih n L (acc ++ [e]) (some e.name) hx hp hr.2 (fun x hx => he x (by simp [hx])) (by simp at hlen; omega) (by omega)
  refine ⟨L', g1, g2, g3.imp id ?_⟩
  rintro ⟨es', k1, k2, k3, k4, k5⟩
  refine ⟨e :: es', ?_, ⟨hr.1, k2⟩, fun x hx2 => ?_, by simp; omega, fun h => ⟨by rw [(k5 h).1], (k5 h).2⟩⟩
  ·rw [show acc ++ e :: es' = (acc ++ [e]) ++ es' by simp]; exact k1
  ·rcases List.mem_cons.1 hx2 with rfl | hx2
   ·exact hE.mono (hx.trans g1)
   ·exact k3 x hx2
 | @dir e es m l hm hk hne h1 h ih1 ih =>
  intro n L acc p hx hp hr he hlen hn
  have hE := he e (by simp)
  have hs := name_stroke hE.name
  by_cases hm0 : m = []
  ·subst hm0
   have hne2 : ne = false := by cases ne with | false => rfl | true => exact absurd rfl (hne rfl)
   obtain ⟨L', g1, g2, g3⟩ := ih n L acc p hx hp (by
    cases p with
    | none => exact rise_weak hr.2
    | some q => exact rise_low (hr.1 q rfl) hr.2) (fun x hx => he x (by simp [hx])) (by simp at hlen; omega) (by simpa using hn)
   refine ⟨L', g1, g2, g3.imp id ?_⟩
   rintro ⟨es', k1, k2, k3, k4, k5⟩
   exact ⟨es', k1, k2, k3, by simp; omega, fun h => by rw [hne2] at h; cases h⟩
  obtain ⟨n, rfl⟩ : ∃ m, n = m + 1 := ⟨n - 1, by omega⟩
  obtain ⟨f0, m0, rfl⟩ : ∃ f0 m0, m = f0 :: m0 := by cases m with | nil => exact absurd rfl hm0 | cons a b => exact ⟨a, b, rfl⟩
  have hcut : cutP (pre e.name f0).path = (e.name, f0.path, true) := cut_of hs
  have hin : insideP e.name (pre e.name f0 :: (m0.map (pre e.name) ++ l)) = (f0 :: m0, l) := inside_of (m := f0 :: m0) fun f hf => by
   obtain ⟨x, r, e1, e2⟩ := h.apart (fun x hx => (he x hx).name) hr f hf
   exact under_fst hs e1 (bl_ne e2)
  have hcnt : ¬ (pre e.name f0).path.count 47 = 0 := by
   show ¬ (e.name ++ 47 :: f0.path).count 47 = 0
   rw [List.count_append, List.count_cons_self]; omega
  have hmu := mu_pre e.name (f0 :: m0)
  rw [mu_app] at hn
  rw [List.length_cons] at hmu
  have hmu2 : 0 < (e.name.length + 1) * (m0.length + 1) := Nat.mul_pos (by omega) (by omega)
  rw [List.map_cons, List.cons_append]
  unfold goB
  rw [if_neg hcnt, hcut, hin]
  dsimp only
  obtain ⟨q1, q2⟩ := tree_ok h0 hk
  obtain ⟨L1, g1, g2, g3⟩ := ih1 n L [] none hx hp q1 q2 (h0.tree hk).2.2.1 (by omega)
  have fin15 : ne = false → ∀ {a : Int} {M : List Ob}, Made ne L0 L acc (e :: es) p (a, 15, M) := fun h a M => ⟨L, List.prefix_refl _, hp, .inl ⟨rfl, h⟩⟩
  rcases g3 with ⟨g3, g4⟩ | ⟨es1, k1, k2, k3, k4, k5⟩
  ·rw [if_pos (by rw [g3]; decide), g3]
   exact fin15 g4
  rw [List.nil_append] at k1
  rw [k1]
  have hlen1 : es1.length ≤ 60 := by have := (h0.tree hk).2.2.1; omega
  have htrue : ne = true → putP L1 (obT es1) = (e.id, 0, L) := fun h => by
   obtain ⟨e1, e2⟩ := k5 h
   rw [e1, e2]
   have hk' : kindOf L e.id = 2 := by rw [ext_kind hx (by omega)]; exact hk
   have hg : getP L e.id = getP L0 e.id := ext_get hx (by omega)
   have := put_same hp hk'
   rw [hg, (h0.tree hk).1] at this
   exact this
  rcases put_tree g2 k2 k3 hlen1 with hz | hz
  ·rw [if_neg (by rw [hz]; simp)]
   obtain ⟨z1, z2⟩ := put_get hz
   have zx : L <+: (putP L1 (obT es1)).2.2 := g1.trans (put_ext _)
   have zk : kindOf (putP L1 (obT es1)).2.2 (putP L1 (obT es1)).1 = 2 := by rw [← getP_kind, z2]; rfl
   have newOk : EntOk (putP L1 (obT es1)).2.2 ⟨e.name, 2, (putP L1 (obT es1)).1, 0⟩ := ⟨hE.name, by simp, by simp, z1, by simp, .inr rfl, zk⟩
   obtain ⟨L', j1, j2, j3⟩ := ih n (putP L1 (obT es1)).2.2 (acc ++ [⟨e.name, 2, (putP L1 (obT es1)).1, 0⟩]) (some e.name) (hx.trans zx) (putP_ok g2 _) hr.2 (fun x hx => he x (by simp [hx])) (by simp at hlen; omega) (by omega)
   refine ⟨L', zx.trans j1, j2, j3.imp id ?_⟩
   rintro ⟨es', t1, t2, t3, t4, t5⟩
   refine ⟨⟨e.name, 2, (putP L1 (obT es1)).1, 0⟩ :: es', ?_, ⟨hr.1, t2⟩, fun x hx2 => ?_, by simp; omega, fun h => ?_⟩
   ·rw [t1]; simp
   ·rcases List.mem_cons.1 hx2 with rfl | hx2
    ·exact newOk.mono j1
    ·exact t3 x hx2
   ·rw [htrue h] at t5 ⊢
    refine ⟨?_, (t5 h).2⟩
    rw [(t5 h).1]
    congr 1
    have hrep : e.repo = 0 := by have := hE.link; omega
    obtain ⟨a, b, c, d⟩ := e
    simp only at hm hrep
    rw [hm, hrep]
  ·cases hne2 : ne with
   | true => rw [htrue hne2] at hz; cases hz
   | false =>
    rw [if_pos (by rw [hz]; decide), hz]
    rw [hne2] at fin15
    exact fin15 rfl
theorem tree_again {ne : Bool} {L : List Ob} (hp : PoolOk L) {t : Int} {l : List Fi} (h : TreeOf ne L t l) {n : Nat} (hn : mu l < n) : ((goB n L [] l).2.1 = 0 ∨ (goB n L [] l).2.1 = 15) ∧ (ne = true → goB n L [] l = (t, 0, L)) := by
 obtain ⟨q1, q2⟩ := tree_ok hp h.1
 have q3 := (hp.tree h.1).2.2.1
 obtain ⟨L', g1, g2, g3⟩ := h.2.rebuild hp n L [] none (List.prefix_refl _) hp q1 q2 q3 hn
 rcases g3 with ⟨g3, g4⟩ | ⟨es', k1, k2, k3, k4, k5⟩
 ·exact ⟨.inr g3, fun h => by rw [g4] at h; cases h⟩
 ·rw [List.nil_append] at k1
  rw [k1]
  refine ⟨put_tree g2 k2 k3 (by omega), fun h2 => ?_⟩
  obtain ⟨e1, e2⟩ := k5 h2
  rw [e1, e2, ← (hp.tree h.1).1]
  exact put_same hp h.1
end Go.Nest
end
