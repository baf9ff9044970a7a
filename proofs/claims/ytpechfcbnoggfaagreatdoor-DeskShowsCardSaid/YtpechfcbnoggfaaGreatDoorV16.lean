/- part -/
import Derived.Test.YtpechfcbnoggfaaGreatDoorV14
import Derived.Test.YtpechfcbnoggfaaGreatDoorV13
import Derived.Test.YtpechfcbnoggfaaGreatDoorV12
import Derived.Test.YtpechfcbnoggfaaGreatDoorE2
set_option linter.unusedVariables false
set_option linter.unusedSimpArgs false
section

namespace Go.Nest
open Go Go.AM Go.Proofs
open Go.Proofs.YtpechfcbnoggfaaGreatDoor (tab tabOk)
set_option maxRecDepth 100000
def bgS : Nat → FS
 | 0 => fs0
 | 1 => fs1
 | _ => fs2
def bT1 : List UInt8 := [] ++ evT ⟨0, 0, []⟩
def bT2 : List UInt8 := bT1 ++ evT ⟨0, 2, []⟩
def bT3 : List UInt8 := bT2 ++ statT ([], 0)
def bT4 : List UInt8 := bT3 ++ docsT [⟨[97], [120, 10]⟩]
def bT5 : List UInt8 := bT4 ++ refsT [⟨[109], 2⟩] 2
def bT6 : List UInt8 := bT5 ++ wholeT dL ([⟨[97], 1, 0, 0⟩], 0)
def bT7 : List UInt8 := bT6 ++ lineT [ownT [0, 1, 2]]
def bT8 : List UInt8 := bT7 ++ whatT
def bgX : Nat → List UInt8
 | 0 => []
 | 1 => bT1
 | 2 => bT2
 | 3 => bT3
 | 4 => bT4
 | 5 => bT5
 | 6 => bT6
 | 7 => bT7
 | _ => bT8
def bgU (i : Nat) : Bool := !Nat.beq i 0
theorem bgX_all : bT8 = bgT := by decide +kernel
theorem bgX_len : bT1.length ≤ 1000 ∧ bT2.length ≤ 1000 ∧ bT3.length ≤ 1000 ∧ bT4.length ≤ 1000 ∧ bT5.length ≤ 1000 ∧ bT6.length ≤ 1000 ∧ bT7.length ≤ 1000 ∧ bT8.length ≤ 1000 := by decide +kernel
theorem le8 {n : Nat} (h : n ≤ 1000) : n ≤ 100000000 := Nat.le_trans h (by decide)
theorem nm0 : NumOk 0 := NumOk.small (i := 0) (by decide)
theorem nm1 : NumOk 1 := NumOk.small (i := 1) (by decide)
theorem nm2 : NumOk 2 := NumOk.small (i := 2) (by decide)
theorem bk0 : cutC 32 [119, 114, 105, 116, 101, 32, 48, 32, 97, 32, 120, 92, 110] = ([119, 114, 105, 116, 101], [48, 32, 97, 32, 120, 92, 110], true) := by decide +kernel
theorem bk1 : cutC 32 [99, 111, 109, 109, 105, 116, 32, 48, 32, 109, 32, 111, 110, 101] = ([99, 111, 109, 109, 105, 116], [48, 32, 109, 32, 111, 110, 101], true) := by decide +kernel
theorem bgl0 : Does Tryz.prog 47 [.c (.ptr 11 0), .c (.str [119, 114, 105, 116, 101, 32, 48, 32, 97, 32, 120, 92, 110])] (dIn false fs0 []) (Rt (.tup []) (dOut true fs1 bT1)) := by
 have p := doWrite_spec fs0 fwf0 (i := 0) (by decide) (r := 0) rfl 0 [97] [] [] [120, 10] (by decide)
 rw [bg1S, bg1E] at p
 have p := do_dspec false fs0 fs1 [] _ _ p (fun h => absurd rfl h) (fun _ => nm0) (by decide) (le8 bgX_len.1)
 exact line_dspec false fs0 fs1 [] bT1 _ _ _ [110, 119, 116] true [0] [[97], [120, 92, 110]] (by decide) bk0 (by decide +kernel) (by decide) (by decide +kernel) (.inl (by decide)) (ask_write false fs0 fs1 [] bT1 0 [97] [120, 92, 110] [120, 10] (by decide) (by decide +kernel) p)
theorem bgl1 : Does Tryz.prog 47 [.c (.ptr 11 0), .c (.str [99, 111, 109, 109, 105, 116, 32, 48, 32, 109, 32, 111, 110, 101])] (dIn true fs1 bT1) (Rt (.tup []) (dOut true fs2 bT2)) := by
 have p := commit_fspec fs1 fwf1 (i := 0) (by decide) ⟨4, (0 : Nat), 0, [], [109], oneT, []⟩ rfl (by rw [bg2s]; exact fwfm)
 rw [bg2S, bg2E] at p
 have p := doCommit_spec fs1 (i := 0) (by decide) 0 [] [109] oneT [] _ _ p
 have p := do_dspec true fs1 fs2 bT1 _ _ p (fun h => absurd rfl h) (fun _ => nm2) (by decide) (le8 bgX_len.2.1)
 exact line_dspec true fs1 fs2 bT1 bT2 _ _ _ [110, 119, 116] true [0] [[109], oneT] (by decide) bk1 (by decide +kernel) (by decide) (by decide +kernel) (.inl (by decide)) (ask_commit true fs1 fs2 bT1 bT2 _ _ _ (step_commit 0 [109] oneT) p)
theorem bq3 : Does Tryz.prog 192 [.c (.ptr 11 0), .c (.int .i64 0)] (dIn true fs2 bT2) (Rt (.tup []) (dOut true fs2 bT3)) := by
 have p := status_dspec true fs2 fwf2 bT2 0
 rw [bg3R, bg3S] at p
 exact p (by decide) (fun x h => by cases h) (fun h => absurd rfl h) (le8 bgX_len.2.2.1)
theorem bq4 : Does Tryz.prog 191 [.c (.ptr 11 0), .c (.int .i64 0)] (dIn true fs2 bT3) (Rt (.tup []) (dOut true fs2 bT4)) := by
 have p := docs_dspec true fs2 fwf2 bT3 0
 rw [bg4] at p
 exact p (le8 bgX_len.2.2.2.1)
theorem bq5 : Does Tryz.prog 193 [.c (.ptr 11 0), .c (.int .i64 0)] (dIn true fs2 bT4) (Rt (.tup []) (dOut true fs2 bT5)) := by
 have p := refs_dspec true fs2 fwf2 bT4 0
 rw [bg5.1, bg5.2] at p
 exact p (fun x h => by rw [List.mem_singleton] at h; subst h; exact nm2) nm2 (le8 bgX_len.2.2.2.2.1)
theorem bq6 : Does Tryz.prog 194 [.c (.ptr 11 0), .c (.int .i64 0)] (dIn true fs2 bT5) (Rt (.tup []) (dOut true fs2 bT6)) := by
 have p := whole_dpspec true fs2 fwf2 bT5 0
 rw [bg6] at p
 exact p (by decide) (fun h => absurd rfl h) (le8 bgX_len.2.2.2.2.2.1)
theorem bq7 : Does Tryz.prog 195 [.c (.ptr 11 0), .c (.int .i64 0)] (dIn true fs2 bT6) (Rt (.tup []) (dOut true fs2 bT7)) := by
 have p := own_dspec true fs2 fwf2 bT6 0
 rw [bg7] at p
 exact p (fun x h => by
  have : x = 0 ∨ x = 1 ∨ x = 2 := by simpa using h
  rcases this with rfl | rfl | rfl
  ·exact nm0
  ·exact nm1
  ·exact nm2) (le8 bgX_len.2.2.2.2.2.2.1)
theorem bgl2 : Does Tryz.prog 47 [.c (.ptr 11 0), .c (.str [115, 116, 97, 116, 117, 115, 32, 48])] (dIn true fs2 bT2) (Rt (.tup []) (dOut true fs2 bT3)) :=
 line_dspec true fs2 fs2 bT2 bT3 _ [115, 116, 97, 116, 117, 115] [48] [110] true [0] [] (by decide) (by decide +kernel) (by decide +kernel) (by decide) (by decide +kernel) (.inl (by decide)) (ask_status true fs2 fs2 bT2 bT3 0 bq3)
theorem bgl3 : Does Tryz.prog 47 [.c (.ptr 11 0), .c (.str [100, 111, 99, 115, 32, 48])] (dIn true fs2 bT3) (Rt (.tup []) (dOut true fs2 bT4)) :=
 line_dspec true fs2 fs2 bT3 bT4 _ [100, 111, 99, 115] [48] [110] true [0] [] (by decide) (by decide +kernel) (by decide +kernel) (by decide) (by decide +kernel) (.inl (by decide)) (ask_docs true fs2 fs2 bT3 bT4 0 bq4)
theorem bgl4 : Does Tryz.prog 47 [.c (.ptr 11 0), .c (.str [114, 101, 102, 115, 32, 48])] (dIn true fs2 bT4) (Rt (.tup []) (dOut true fs2 bT5)) :=
 line_dspec true fs2 fs2 bT4 bT5 _ [114, 101, 102, 115] [48] [110] true [0] [] (by decide) (by decide +kernel) (by decide +kernel) (by decide) (by decide +kernel) (.inl (by decide)) (ask_refs true fs2 fs2 bT4 bT5 0 bq5)
theorem bgl5 : Does Tryz.prog 47 [.c (.ptr 11 0), .c (.str [119, 104, 111, 108, 101, 32, 48])] (dIn true fs2 bT5) (Rt (.tup []) (dOut true fs2 bT6)) :=
 line_dspec true fs2 fs2 bT5 bT6 _ [119, 104, 111, 108, 101] [48] [110] true [0] [] (by decide) (by decide +kernel) (by decide +kernel) (by decide) (by decide +kernel) (.inl (by decide)) (ask_whole true fs2 fs2 bT5 bT6 0 bq6)
theorem bgl6 : Does Tryz.prog 47 [.c (.ptr 11 0), .c (.str [111, 119, 110, 32, 48])] (dIn true fs2 bT6) (Rt (.tup []) (dOut true fs2 bT7)) :=
 line_dspec true fs2 fs2 bT6 bT7 _ [111, 119, 110] [48] [110] true [0] [] (by decide) (by decide +kernel) (by decide +kernel) (by decide) (by decide +kernel) (.inl (by decide)) (ask_own true fs2 fs2 bT6 bT7 0 bq7)
theorem bgl7 : Does Tryz.prog 47 [.c (.ptr 11 0), .c (.str [120])] (dIn true fs2 bT7) (Rt (.tup []) (dOut true fs2 bT8)) :=
 line_what true fs2 bT7 [120] [120] [] false [] [] true (by decide) (by decide +kernel) (by decide +kernel) (by decide +kernel) (by have := bgX_len.2.2.2.2.2.2.2; rw [← List.length_append]; exact le8 this)
def m33 : List Nat := [0, 1, 2, 3, 4, 5, 6, 7, 8, 9, 10, 11, 12, 13, 14, 15, 16, 17, 18, 19, 20, 21, 22, 23, 24, 25, 26, 27, 28, 29, 30, 31, 32]
set_option maxHeartbeats 2000000 in
theorem deskBegun_spec : Does Tryz.prog 10 [] [] (Rt (.c (.bool true)) []) := by
 have p := deskDo_spec false .nil (.inl ⟨rfl, rfl⟩) bgL (by decide) (by decide +kernel) bgU bgS bgX rfl rfl (fun i h => by
  match i, h with
  | 0, _ => exact bgl0
  | 1, _ => exact bgl1
  | 2, _ => exact bgl2
  | 3, _ => exact bgl3
  | 4, _ => exact bgl4
  | 5, _ => exact bgl5
  | 6, _ => exact bgl6
  | 7, _ => exact bgl7) rfl (by rw [show bgX bgL.length = bT8 from rfl, bgX_all]; decide)
 rw [show bgX bgL.length = bgT from bgX_all] at p
 generalize bgS bgL.length = S at p
 have p : Does Tryz.prog 13 [.c (.ptr 11 0), .c (.bs 1 (List UInt8) encS bgL)] (fSt 1 [dNil false .nil] fs0) _ := p
 refine X_spec (n := 16) (n0 := 0) tabOk Tryz.call10 Tryz.func10 ?_
 intro hb
 (conv => whnf)
 refine clF [] (fSt 1 [dNil false .nil] fs0) deskNew_spec ?_
 (conv => whnf)
 refine ⟨bgL, rfl, ?_⟩
 (conv => whnf)
 refine clF m33 (fSt 23 (dNil true (.ls 1 UInt8 bytesC bgT) :: (d21 ++ [.row 1 (List UInt8) encS bgL])) S) p ?_
 (conv => whnf)
 exact rtB (decide_eq_true rfl)
end Go.Nest
end
/- part -/
section

namespace Go.Nest
set_option maxRecDepth 100000
open Go Go.AM Go.Proofs
theorem deskShowsT (b : List UInt8) (s : List UInt8) : Does Tryz.prog 4 [.c (.ls 1 UInt8 bytesC b), .c (.str s)] [] (Rt (.c (.bool true)) []) := deskShows_spec deskBegun_spec b s
end Go.Nest
end
