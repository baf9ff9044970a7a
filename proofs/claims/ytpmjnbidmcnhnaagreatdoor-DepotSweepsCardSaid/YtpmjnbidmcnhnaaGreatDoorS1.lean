/- part -/
import Derived.Test.YtpmjnbidmcnhnaaGreatDoorP4
import Derived.Test.YtpmjnbidmcnhnaaGreatDoorAmX
set_option linter.unusedVariables false
set_option linter.unusedSimpArgs false

namespace Go.Nest
open Go Go.AM Go.Proofs
open Go.Proofs.YtpmjnbidmcnhnaaGreatDoor (tab tabOk)
set_option maxRecDepth 4000
theorem count_spec (l : List UInt8) : Does Tryz.prog 193 [.c (.str l), .c (.int .u8 47)] [] (Rt (.c (.int .i64 (l.count 47))) []) := by
 refine ext_spec (e := Extern.BytealgCount.count) Tryz.func193 (by decide) rfl rfl rfl rfl (fun F H m vs w h => ?_)
 match vs, h with
 | [v1, v2], ⟨h1, h2, _⟩ =>
  cases h1 with
  | str _ _ =>
   cases h2 with
   | int _ => exact ⟨_, Lib.run_countString ⟨l.toArray⟩ 47 w, fun F H m => .int .nl⟩
theorem idx_spec (l : List UInt8) : Does Tryz.prog 202 [.c (.str l), .c (.int .u8 47)] [] (Rt (.c (.int .i64 (Lib.indexByte l 47))) []) := by
 refine ext_spec (e := Extern.BytealgIndexByte.indexByte) Tryz.func202 (by decide) rfl rfl rfl rfl (fun F H m vs w h => ?_)
 match vs, h with
 | [v1, v2], ⟨h1, h2, _⟩ =>
  cases h1 with
  | str _ _ =>
   cases h2 with
   | int _ => exact ⟨_, Lib.run_indexByteString ⟨l.toArray⟩ 47 w, fun F H m => .int .nl⟩
theorem stringsCount_spec (l : List UInt8) : Does Tryz.prog 174 [.c (.str l), .c (.str [47])] [] (Rt (.c (.int .i64 (l.count 47))) []) := by
 refine X_spec (n := 34) (n0 := 0) tabOk Tryz.call174 Tryz.func174 ?_
 intro hb
 repeat' ((conv => whnf); refine I6 ?_)
 (conv => whnf)
 refine ⟨0, 47, rfl, rfl, ?_⟩
 (conv => whnf)
 refine cl [] [] (count_spec l) ?_
 (conv => whnf)
 exact rtI rfl
theorem stringsIndexByte_spec (l : List UInt8) : Does Tryz.prog 194 [.c (.str l), .c (.int .u8 47)] [] (Rt (.c (.int .i64 (Lib.indexByte l 47))) []) := by
 refine X_spec (n := 8) (n0 := 0) tabOk Tryz.call194 Tryz.func194 ?_
 intro hb
 (conv => whnf)
 refine cl [] [] (idx_spec l) ?_
 (conv => whnf)
 exact rtI rfl
theorem sliteIndex_spec (l : List UInt8) : Does Tryz.prog 177 [.c (.str l), .c (.str [47])] [] (Rt (.c (.int .i64 (Lib.indexByte l 47))) []) := by
 refine X_spec (n := 143) (n0 := 0) tabOk Tryz.call177 Tryz.func177 ?_
 intro hb
 repeat' ((conv => whnf); first | (refine dec (fun h => ?_) (fun h => ?_) <;> try contradiction) | (refine decN (fun h => ?_) (fun h => ?_) <;> try contradiction) | refine booN (fun h => ?_) (fun h => ?_) | refine boo (fun h => ?_) (fun h => ?_) | refine ⟨i64 (by omega) (by omega), ?_⟩ | refine ⟨_, _, rfl, List.getElem?_eq_getElem (by omega), ?_⟩ | refine ⟨_, ⟨rfl, by omega⟩, ?_⟩ | refine ⟨_, List.getElem?_eq_getElem (by omega), ?_⟩ | refine rtB ?_ | refine rtI ?_ | refine rtC ?_ rfl | fail)
 ·obtain rfl : l = [47] := h.symm
  rfl
 ·(conv => whnf)
  refine ⟨0, 47, rfl, rfl, ?_⟩
  (conv => whnf)
  refine cl [] [] (stringsIndexByte_spec l) ?_
  (conv => whnf)
  exact rtI rfl
theorem stringsIndex_spec (l : List UInt8) : Does Tryz.prog 175 [.c (.str l), .c (.str [47])] [] (Rt (.c (.int .i64 (Lib.indexByte l 47))) []) := by
 refine X_spec (n := 8) (n0 := 0) tabOk Tryz.call175 Tryz.func175 ?_
 intro hb
 (conv => whnf)
 refine cl [] [] (sliteIndex_spec l) ?_
 (conv => whnf)
 exact rtI rfl
structure GS (l : List UInt8) (a : List (List UInt8)) (s : List UInt8) (i : Nat) : Prop where
 len : a.length = l.count 47 + 1
 cnt : i + s.count 47 = l.count 47
 spl : spl l = a.take i ++ spl s
 sl : s.length ≤ l.length
theorem count_len (l : List UInt8) : l.count 47 ≤ l.length := List.count_le_length
set_option maxHeartbeats 1000000 in
theorem genSplit_spec (l : List UInt8) (hl : l.length ≤ 4000000) : Does Tryz.prog 148 [.c (.str l), .c (.str [47]), .c (.int .i64 0), .c (.int .i64 (-1))] [] (Rt (.c (.rw 0)) [.row 1 (List UInt8) encS (spl l)]) := by
 refine X_spM (n := 66) (n0 := 0) tabOk Tryz.call148 Tryz.func148 ?_
 intro hb
 have hc := count_len l
 refine XM.seq ?_
 repeat' ((conv => whnf); refine I6 ?_)
 refine XM.seq ?_
 repeat' ((conv => whnf); refine I6 ?_)
 refine XM.seq ?_
 repeat' ((conv => whnf); refine I6 ?_)
 refine XM.seq ?_
 repeat' ((conv => whnf); refine I6 ?_)
 (conv => whnf)
 refine cl [] [] (stringsCount_spec l) ?_
 repeat' ((conv => whnf); refine I6 ?_)
 refine XM.seq ?_
 repeat' ((conv => whnf); refine I6 ?_)
 (conv => whnf)
 rw [show min ((l.count 47 : Int) + 1) ((l.length : Int) + 1) = ((l.count 47 + 1 : Nat) : Int) by omega]
 refine XM.seq ?_
 (conv => whnf)
 refine ⟨l.count 47 + 1, [], ⟨rfl, rfl⟩, rfl, by simp only []; omega, ?_⟩
 repeat' ((conv => whnf); refine I6 ?_)
 refine XM.seq ?_
 repeat' ((conv => whnf); refine I6 ?_)
 refine XM.seq ?_
 repeat' ((conv => whnf); refine I6 ?_)
 refine XM.join (ι := List (List UInt8) × List UInt8) (fun | (a, s) => ⟨[(0, .c (.str s)), (9, .c (.rw 0)), (10, .c (.int .i64 (l.count 47 : Nat)))], [.row 1 (List UInt8) encS a]⟩) (fun x => GS l x.1 x.2 (l.count 47)) ?_ (fun x hx => ?_)
 ·(conv => whnf)
  refine lp (Nat × List (List UInt8) × List UInt8) (fun | (i, a, s) => ⟨[(0, .c (.str s)), (1, .c (.str [47])), (2, .c (.int .i64 0)), (3, .c (.int .i64 (((l.count 47 + 1 : Nat) : Int) - 1))), (9, .c (.rw 0)), (10, .c (.int .i64 i))], [.row 1 (List UInt8) encS a]⟩)
   (fun x => GS l x.2.1 x.2.2 x.1 ∧ True) (fun x => l.count 47 - x.1) (0, List.replicate (l.count 47 + 1) [], l) [] [.same 0] ?_ ?_ (fun x hx => ?_)
  ·exact ⟨⟨by simp, by simp, by simp, Nat.le_refl _⟩, trivial⟩
  ·repeat' first | exact trivial | exact rfl | refine And.intro ?_ ?_
  obtain ⟨i, a, s⟩ := x
  obtain ⟨hg, _⟩ := hx
  dsimp only at hg
  have g1 := hg.len
  have g2 := hg.cnt
  have g4 := hg.sl
  (conv => whnf)
  refine dec (fun h4 => ?_) (fun h4 => ?_)
  ·obtain ⟨m, m1, m2, m3, m4⟩ := idx_stroke (l := s) (by omega)
   have hs := stringsIndex_spec s
   rw [m1] at hs
   (conv => whnf)
   refine cl [] [] (hs) ?_
   repeat' ((conv => whnf); refine I6 ?_)
   (conv => whnf)
   refine ⟨0, m, rfl, by omega, by omega, ?_⟩
   (conv => whnf)
   refine ⟨i, ⟨rfl, by omega⟩, ?_⟩
   (conv => whnf)
   refine ⟨_, (s.take m).drop 0, List.getElem?_eq_getElem (by omega), ⟨Nat.le_refl _, rfl⟩, ?_⟩
   repeat' ((conv => whnf); first | (refine dec (fun h => ?_) (fun h => ?_) <;> try contradiction) | (refine decN (fun h => ?_) (fun h => ?_) <;> try contradiction) | refine booN (fun h => ?_) (fun h => ?_) | refine boo (fun h => ?_) (fun h => ?_) | refine ⟨i64 (by omega) (by omega), ?_⟩ | refine ⟨_, _, rfl, List.getElem?_eq_getElem (by omega), ?_⟩ | refine ⟨_, ⟨rfl, by omega⟩, ?_⟩ | refine ⟨_, List.getElem?_eq_getElem (by omega), ?_⟩ | refine rtB ?_ | refine rtI ?_ | refine rtC ?_ rfl | fail)
   refine ⟨i64 (by simp; omega) (by simp; omega), ?_⟩
   (conv => whnf)
   refine ⟨m + 1, s.length, rfl, rfl, by omega, ?_⟩
   repeat' ((conv => whnf); refine I6 ?_)
   refine ag (i + 1, a.set i ((s.take m).drop 0), (s.take s.length).drop (m + 1)) [] [.same 0] ⟨⟨?_, ?_, ?_, ?_⟩, trivial⟩ (by simp only []; omega) ?_
   ·dsimp only; rw [List.length_set]; exact g1
   ·dsimp only; rw [List.take_length]; omega
   ·dsimp only
    rw [List.take_length, hg.spl, m3, List.drop_zero, List.take_succ_eq_append_getElem (by rw [List.length_set]; omega), List.getElem_set_self, List.take_set_of_le (Nat.le_refl _)]
    simp
   ·dsimp only; rw [List.take_length, List.length_drop]; omega
   ·repeat' first | exact trivial | exact rfl | refine And.intro ?_ ?_
  ·obtain rfl : i = l.count 47 := by omega
   (conv => whnf)
   refine ⟨(a, s), hg, [], [.same 0], ?_⟩
   repeat' first | exact trivial | exact rfl | refine And.intro ?_ ?_
 obtain ⟨a, s⟩ := x
 dsimp only at hx
 have g1 := hx.len
 have g2 := hx.cnt
 have g3 := hx.spl
 rw [spl_none (l := s) (by omega)] at g3
 refine XM.seq ?_
 (conv => whnf)
 refine ⟨l.count 47, ⟨rfl, by omega⟩, ?_⟩
 (conv => whnf)
 refine ⟨_, s, List.getElem?_eq_getElem (by omega), ⟨Nat.le_refl _, rfl⟩, ?_⟩
 repeat' ((conv => whnf); refine I6 ?_)
 refine XM.of ?_
 (conv => whnf)
 refine ⟨i64 (by omega) (by omega), ?_⟩
 (conv => whnf)
 refine ⟨0, l.count 47 + 1, rfl, by omega, by rw [List.length_set]; omega, ?_⟩
 (conv => whnf)
 have he : (((a.set (l.count 47) s).drop 0).take (l.count 47 + 1 - 0)) = spl l := by
  rw [g3, List.drop_zero, Nat.sub_zero, List.take_succ_eq_append_getElem (by rw [List.length_set]; omega), List.getElem_set_self, List.take_set_of_le (Nat.le_refl _)]
 refine rt [] [.cut 1 0 0 (l.count 47 + 1 - 0)] ?_ rfl ⟨rfl, rfl⟩
 repeat' first | exact trivial | exact rfl | refine And.intro ?_ ?_
 ·rw [List.length_set]; omega
 ·rw [he]
end Go.Nest
