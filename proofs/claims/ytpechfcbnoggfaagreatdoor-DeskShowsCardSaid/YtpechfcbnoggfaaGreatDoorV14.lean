/- part -/
import Derived.Test.YtpechfcbnoggfaaGreatDoorV10
import Derived.Test.YtpechfcbnoggfaaGreatDoorV11
import Derived.Test.YtpechfcbnoggfaaGreatDoorV5
set_option linter.unusedVariables false
set_option linter.unusedSimpArgs false

namespace Go.Nest
open Go Go.AM
set_option maxRecDepth 100000
def bgL : List (List UInt8) := [[119, 114, 105, 116, 101, 32, 48, 32, 97, 32, 120, 92, 110], [99, 111, 109, 109, 105, 116, 32, 48, 32, 109, 32, 111, 110, 101], [115, 116, 97, 116, 117, 115, 32, 48], [100, 111, 99, 115, 32, 48], [114, 101, 102, 115, 32, 48], [119, 104, 111, 108, 101, 32, 48], [111, 119, 110, 32, 48], [120]]
def bgT : List UInt8 := [111, 107, 32, 48, 10, 111, 107, 32, 50, 10, 101, 110, 100, 10, 100, 111, 99, 32, 97, 32, 120, 92, 110, 10, 101, 110, 100, 10, 114, 101, 102, 32, 109, 32, 50, 10, 104, 101, 97, 100, 32, 50, 10, 100, 111, 99, 32, 97, 32, 120, 92, 110, 10, 101, 110, 100, 10, 111, 119, 110, 32, 48, 32, 49, 32, 50, 10, 119, 104, 97, 116, 10]
def dwl : List It := [⟨[97], [120, 10], false, 0, 0⟩]
def oneT : List UInt8 := [111, 110, 101]
def dL : List Ob := (commW [] dwl (-1) oneT []).2.2
theorem dL_ok : PoolOk dL := (commW_ok (L := []) (l := dwl) (h := -1) (text := oneT) (others := []) .nil).1
theorem dL_len : dL.length = 3 := by decide +kernel
def oF0 : Nat → List Bool := fun _ => []
def bF0 : Nat → List Int := fun _ => []
def oF3 : Nat → List Bool := upd oF0 0 [true, true, true]
def fs1 : FS := ⟨[], oF0, bF0, fun _ => [], fun _ => [], upd (fun _ => []) 0 dwl, upd (fun _ => -1) 0 (-1)⟩
def fs2 : FS := ⟨dL, oF3, bF0, upd (fun _ => []) 0 [⟨[109], 2⟩], upd (fun _ => []) 0 [⟨[109], -1, 2⟩], upd (upd (fun _ => []) 0 dwl) 0 dwl, upd (upd (fun _ => -1) 0 (-1)) 0 2⟩
theorem bg1 : wrW [] [97] [120, 10] = (0, dwl) := by decide +kernel
theorem bg1S : writeS fs0 0 [97] [120, 10] = fs1 := by
 show fs0.setW 0 [] (wrW [] [97] [120, 10]).2 (-1) = _
 rw [bg1]; rfl
theorem bg1E : writeE fs0 0 [97] [120, 10] = ⟨0, 0, []⟩ := by
 show evF 0 (wrW [] [97] [120, 10]).1 = _
 rw [bg1]; rfl
theorem three_of {x : Int} (h : 0 ≤ x ∧ x.toNat < dL.length) : x = 0 ∨ x = 1 ∨ x = 2 := by
 rw [dL_len] at h; omega
theorem bl1 : Led dL [1] 1 := .base (by simp) (by decide +kernel)
theorem bl2 : Led dL [2] 2 := .base (by simp) (by decide +kernel)
theorem br1 : reachP dL [1] = [0, 1] := by
 refine rise_uniq reach_rise (by decide) fun x => ⟨fun h => ?_, fun h => ?_⟩
 ·rcases three_of (reach_lt h) with rfl | rfl | rfl
  ·decide
  ·decide
  ·rcases led_how dL_ok ((mem_reach dL_ok).1 h) with h1 | ⟨j, h1, h2⟩
   ·exact absurd h1 (by decide)
   ·rcases three_of (reach_lt h1) with rfl | rfl | rfl
    ·exact absurd h2 (by decide +kernel)
    ·exact absurd h2 (by decide +kernel)
    ·exact absurd h2 (by decide +kernel)
 ·rw [mem_reach dL_ok]
  have : x = 0 ∨ x = 1 := by simpa using h
  rcases this with rfl | rfl
  ·exact bl1.step (by decide +kernel)
  ·exact bl1
theorem br2 : reachP dL [2] = [0, 1, 2] := by
 refine rise_uniq reach_rise (by decide) fun x => ⟨fun h => ?_, fun h => ?_⟩
 ·rcases three_of (reach_lt h) with rfl | rfl | rfl <;> decide
 ·rw [mem_reach dL_ok]
  have : x = 0 ∨ x = 1 ∨ x = 2 := by simpa using h
  have h1 : Led dL [2] 1 := bl2.step (by decide +kernel)
  rcases this with rfl | rfl | rfl
  ·exact h1.step (by decide +kernel)
  ·exact h1
  ·exact bl2
theorem bg2c : (commW [] dwl (-1) oneT []).2.1 = 0 ∧ (commW [] dwl (-1) oneT []).1 = 2 ∧ headW [] dwl (-1) oneT [] = 2 := by decide +kernel
theorem bg2n : namedF [] [109] = 0 := by decide +kernel
theorem bg2a : addC dL 0 [2] = 0 := by decide +kernel
theorem bg2m : (([0, 1, 2] : List Int).foldl (markL oF0 bF0 0) (padL [] dL.length)) = [true, true, true] := by decide +kernel
theorem bg2o : addO dL oF0 bF0 0 [2] = oF3 := by
 unfold addO
 rw [if_neg (by rw [bg2a]; decide)]
 unfold addL
 rw [br2]
 show upd oF0 0 (([0, 1, 2] : List Int).foldl (markL oF0 bF0 0) (padL [] dL.length)) = _
 rw [bg2m]; rfl
def fsm : FS := ⟨dL, oF0, bF0, fun _ => [], fun _ => [], upd (upd (fun _ => []) 0 dwl) 0 dwl, upd (upd (fun _ => -1) 0 (-1)) 0 2⟩
theorem bg2s : comS fs1 0 oneT [] = fsm := by
 show fs1.setW 0 (commW [] dwl (-1) oneT []).2.2 dwl (headW [] dwl (-1) oneT []) = _
 rw [bg2c.2.2]; rfl
theorem bg2k : setC fsm 0 [109] 2 = 0 := by decide +kernel
theorem bg2q : setL [] [109] (-1) 2 = [⟨[109], 2⟩] ∧ setV [] [] [109] (-1) 2 = [⟨[109], -1, 2⟩] ∧ getR [] [109] = -1 := by decide +kernel
theorem bg2l : leadS fsm 0 [109] 2 = fs2 := by
 unfold leadS
 rw [if_neg (by rw [bg2k]; decide)]
 show (setS fsm 0 [109] 2).setO (addO dL oF0 bF0 0 [2]) = _
 rw [bg2o]
 show (fsm.setN 0 (setL [] [109] (getR [] [109]) 2) (setV [] [] [109] (getR [] [109]) 2)).setO oF3 = _
 rw [bg2q.2.2, bg2q.1, bg2q.2.1]; rfl
theorem bg2lc : leadC fsm 0 [109] 2 = 0 := by
 unfold leadC
 rw [if_neg (by rw [bg2k]; decide)]
 exact bg2a
theorem bg2S : commitS fs1 0 [109] oneT = fs2 := by
 unfold commitS
 rw [if_neg (show ¬ namedF (fs1.n 0) [109] ≠ 0 from fun h => h bg2n), if_neg (show ¬ (commW fs1.L (fs1.w 0) (fs1.h 0) oneT []).2.1 ≠ 0 from fun h => h bg2c.1), bg2s]
 show leadS fsm 0 [109] (commW [] dwl (-1) oneT []).1 = _
 rw [bg2c.2.1, bg2l]
theorem bg2E : commitE fs1 0 [109] oneT = ⟨0, 2, []⟩ := by
 unfold commitE
 rw [if_neg (show ¬ namedF (fs1.n 0) [109] ≠ 0 from fun h => h bg2n), if_neg (show ¬ (commW fs1.L (fs1.w 0) (fs1.h 0) oneT []).2.1 ≠ 0 from fun h => h bg2c.1), bg2s]
 show evF (commW [] dwl (-1) oneT []).1 (leadC fsm 0 [109] (commW [] dwl (-1) oneT []).1) = _
 rw [bg2c.2.1, bg2lc]; rfl
theorem bg3f : filesW dL dwl [] = ([⟨[97], 1, 0, 0⟩], 0, dL) := by decide +kernel
theorem bg3S : statS fs2 0 = fs2 := by
 show fs2.setW 0 (filesW dL dwl []).2.2 dwl 2 = fs2
 rw [bg3f]
 unfold FS.setW fs2
 simp only [upd_upd]
theorem bg3R : statF fs2 0 = ([], 0) := by
 show statusW dL dwl 2 = _
 decide +kernel
theorem bg4 : docsF fs2 0 = [⟨[97], [120, 10]⟩] := by decide +kernel
theorem bg5 : refsF fs2 0 = [⟨[109], 2⟩] ∧ headF fs2 0 = 2 := by decide +kernel
theorem bg6g : goneP dL (hasP ⟨oF3, bF0⟩) 0 2 = false := by
 unfold goneP
 rw [show (getP dL 2).tree = 1 by decide +kernel, br1]
 decide +kernel
theorem bg6f : filesP dL (getP dL 2).tree = ([⟨[97], 1, 0, 0⟩], 0) := by decide +kernel
theorem bg6 : wholeF fs2 0 = ([⟨[97], 1, 0, 0⟩], 0) := by
 have h : whW dL (hasP ⟨oF3, bF0⟩) 6 0 2 [] [] = ([⟨[97], 1, 0, 0⟩], 0) := by
  rw [whW, bg6g, bg6f]; rfl
 show wholeP dL (hasP ⟨oF3, bF0⟩) 0 2 = _
 unfold wholeP
 rw [h]; decide +kernel
theorem bg7 : ownF fs2 0 = [0, 1, 2] := by decide +kernel
theorem all4 {p : Nat → Prop} (h0 : p 0) (h1 : p 1) (h2 : p 2) (h3 : p 3) : ∀ k, k < 4 → p k := fun k hk => by
 rcases four hk with rfl | rfl | rfl | rfl <;> assumption
theorem fwf0 : FWf fs0 := ⟨.nil, BorNd.nil.ok, fun k hk => Nat.zero_le _, fun k hk => .nil, fun k hk x h => (by cases h), fun k hk => Nat.zero_le _, fun k hk => Nat.zero_le _, fun k hk x h => (by cases h), fun k hk => Nat.zero_le _, fun k hk x h => (by cases h), fun k hk => .inl (show (-1 : Int) < 0 by decide)⟩
theorem fwf1 : FWf fs1 := ⟨.nil, BorNd.nil.ok, fun k hk => Nat.zero_le _, fun k hk => .nil, fun k hk x h => (by cases h), fun k hk => Nat.zero_le _, fun k hk => Nat.zero_le _,
 all4 (by decide) (by decide) (by decide) (by decide), all4 (by decide) (by decide) (by decide) (by decide), all4 (by decide) (by decide) (by decide) (by decide), all4 (.inl (by decide)) (.inl (by decide)) (.inl (by decide)) (.inl (by decide))⟩
theorem hd2 : HOk dL 2 := .inr (by decide +kernel)
theorem fwfm : FWf fsm := ⟨dL_ok, BorNd.nil.ok, fun k hk => Nat.zero_le _, fun k hk => .nil, fun k hk x h => (by cases h), fun k hk => Nat.zero_le _, fun k hk => Nat.zero_le _,
 all4 (by decide) (by decide) (by decide) (by decide), all4 (by decide) (by decide) (by decide) (by decide), all4 (by decide) (by decide) (by decide) (by decide), all4 hd2 (.inl (by decide)) (.inl (by decide)) (.inl (by decide))⟩
theorem rs1 : RSort [⟨[109], 2⟩] := List.pairwise_singleton _ _
theorem fwf2 : FWf fs2 := ⟨dL_ok, BorNd.nil.ok, all4 (by decide) (by decide) (by decide) (by decide), all4 rs1 .nil .nil .nil, all4 (by decide) (by decide) (by decide) (by decide), all4 (by decide) (by decide) (by decide) (by decide), all4 (by decide) (by decide) (by decide) (by decide),
 all4 (by decide) (by decide) (by decide) (by decide), all4 (by decide) (by decide) (by decide) (by decide), all4 (by decide) (by decide) (by decide) (by decide), all4 hd2 (.inl (by decide)) (.inl (by decide)) (.inl (by decide))⟩
end Go.Nest
