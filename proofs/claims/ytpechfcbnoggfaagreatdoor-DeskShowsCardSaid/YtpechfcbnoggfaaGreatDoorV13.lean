/- part -/
import Derived.Test.YtpechfcbnoggfaaGreatDoorV12
import Derived.Test.YtpechfcbnoggfaaGreatDoorV4
import Derived.Test.YtpechfcbnoggfaaGreatDoorE6
import Derived.Test.YtpechfcbnoggfaaGreatDoorE10
import Derived.Test.YtpechfcbnoggfaaGreatDoorE12
set_option linter.unusedVariables false
set_option linter.unusedSimpArgs false

namespace Go.Nest
open Go Go.AM Go.Proofs
open Go.Proofs.YtpechfcbnoggfaaGreatDoor (tab tabOk)
set_option maxRecDepth 100000
def r33 : List Rn := [.same 0, .same 1, .same 2, .same 3, .same 4, .same 5, .same 6, .same 7, .same 8, .same 9, .same 10, .same 11, .same 12, .same 13, .same 14, .same 15, .same 16, .same 17, .same 18, .same 19, .same 20, .same 21, .same 22, .same 23, .same 24, .same 25, .same 26, .same 27, .same 28, .same 29, .same 30, .same 31, .same 32]
def d21n : List Rn := [.same 12, .same 13, .same 14, .same 15, .same 16, .same 17, .same 18, .same 19, .same 20, .same 21, .same 22, .same 23, .same 24, .same 25, .same 26, .same 27, .same 28, .same 29, .same 30, .same 31, .same 32]
set_option maxHeartbeats 8000000 in
theorem deskDo_spec (u : Bool) (c : C) (hcc : (u = false ∧ c = .nil) ∨ (u = true ∧ ∃ l0, c = .ls 1 UInt8 bytesC l0)) (lines : List (List UInt8)) (hn : lines.length ≤ 200) (hno : ∀ l ∈ lines, ¬ 0 ≤ Lib.indexByte l 10) (U : Nat → Bool) (S : Nat → FS) (T : Nat → List UInt8) (hU : U 0 = false) (hT : T 0 = [])
  (hs : ∀ (i : Nat) (h : i < lines.length), Does Tryz.prog 47 [.c (.ptr 11 0), .c (.str lines[i])] (dIn (U i) (S i) (T i)) (Rt (.tup []) (dOut (U (i + 1)) (S (i + 1)) (T (i + 1))))) (hE : U lines.length = true) (hTE : T lines.length ≠ []) :
  Does Tryz.prog 13 [.c (.ptr 11 0), .c (.bs 1 (List UInt8) encS lines)] (fSt 1 [dNil u c] (S 0)) (Rt (.tup [(false, [.str (T lines.length)]), (true, [.int .i64 0, .int .i64 0])]) (fSt 22 (dNil true (.ls 1 UInt8 bytesC (T lines.length)) :: d21) (S lines.length))) := by
 have q3 := string_spec (T lines.length) hTE
 have q1 : ∀ l ∈ lines, Does Tryz.prog 45 [.c (.str l), .c (.str [10])] [] (Rt (.c (.bool false)) []) := fun l hl => by
  have := containsC_spec 10 l
  rwa [decide_eq_false (hno l hl)] at this
 have q2 : Does Tryz.prog 46 [.c (.ptr 0 0)] [.box [own1 u, c, .ptr 1 0] (some 111), .dead] (Rt (.tup []) [.box [own1 false, .nil, .ptr 1 0] (some 111), .dead]) := by
  rcases hcc with ⟨_, rfl⟩ | ⟨_, l0, rfl⟩
  ·exact reset0_spec u
  ·exact reset1_spec u l0
 refine X_spec (n := 45) (n0 := 33) tabOk Tryz.call13 Tryz.func13 ?_
 intro hb
 have e : ∃ l0, (u = false ∧ c = .nil) ∨ (u = true ∧ c = .ls 1 UInt8 bytesC l0) := by
  rcases hcc with h | ⟨h, l0, h2⟩
  ·exact ⟨[], .inl h⟩
  ·exact ⟨l0, .inr ⟨h, h2⟩⟩
 obtain ⟨l0, e⟩ := e
 rcases e with ⟨hu, hc⟩ | ⟨hu, hc⟩ <;> (
  rw [hu, hc] at q2 ⊢
  (conv => whnf)
  refine dec (fun h => ?_) (fun _ => ?_)
  ·have h : (200 : Int) < lines.length := h
   omega
  (conv => whnf)
  refine lp Nat (fun i => ⟨[(0, .c (.ptr 11 0)), (1, .c (.bs 1 (List UInt8) encS lines)), (5, .c (.ptr 33 0)), (14, .c (.bs 1 (List UInt8) encS lines)), (15, .c (.int .i64 lines.length)), (16, .c (.int .i64 i))], fSt 1 [dNil u c] (S 0) ++ [.box [.int .i64 0, .int .i64 0]]⟩) (fun i => i ≤ lines.length ∧ True) (fun i => lines.length - i) 0 [] (r33 ++ [.same 33]) ⟨Nat.zero_le _, trivial⟩ (by rw [hu, hc]; exact leF) (fun i hi => ?_)
  obtain ⟨hi, -⟩ := hi
  rw [hu, hc]
  (conv => whnf)
  refine dec (fun h4 => ?_) (fun h4 => ?_)
  ·have hlt : i < lines.length := by have h4 : (i : Int) < lines.length := h4; omega
   have hiy : lines[i]? = some lines[i] := List.getElem?_eq_getElem hlt
   have q := q1 _ (List.getElem_mem hlt)
   generalize lines[i] = y at hiy q
   (conv => whnf)
   refine ⟨i, y, rfl, hiy, ?_⟩
   (conv => whnf)
   refine cl [] [] (q) ?_
   repeat' ((conv => whnf); refine I6 ?_)
   refine ag (i + 1) [] (r33 ++ [.same 33]) ⟨hlt, trivial⟩ (by simp only []; omega) ?_
   exact leF
  (conv => whnf)
  refine clF [11, 0] (fSt 1 [dNil false .nil] (S 0) ++ [.box [.int .i64 0, .int .i64 0]]) q2 ?_
  (conv => whnf)
  refine lp (Nat × Bool) (fun p => ⟨[(0, .c (.ptr 11 0)), (5, .c (.ptr 33 0)), (30, .c (.bs 1 (List UInt8) encS lines)), (31, .c (.int .i64 lines.length)), (32, .c (.int .i64 p.1))], dSt 22 (d21 ++ [.box [.int .i64 0, .int .i64 0]]) p.2 (S p.1) (T p.1)⟩) (fun p => p.1 ≤ lines.length ∧ U p.1 = p.2) (fun p => lines.length - p.1) (0, false) [] (r33 ++ (.same 33 :: (d21n ++ [.new]))) ⟨Nat.zero_le _, hU⟩ (by rw [hT]; repeat' first | exact trivial | exact rfl | refine And.intro ?_ ?_) (fun ⟨i, v⟩ hi => ?_)
  obtain ⟨hi, hv⟩ := hi
  dsimp only at hi hv
  cases v <;> (
   (conv => whnf)
   refine dec (fun h4 => ?_) (fun h4 => ?_)
   ·have hlt : i < lines.length := by have h4 : (i : Int) < lines.length := h4; omega
    have hiy : lines[i]? = some lines[i] := List.getElem?_eq_getElem hlt
    have q := hs i hlt
    rw [hv] at q
    generalize lines[i] = y at hiy q
    (conv => whnf)
    refine ⟨i, y, rfl, hiy, ?_⟩
    (conv => whnf)
    cases hw : U (i + 1) <;> (
     rw [hw] at q
     refine clF (mD 22) (dSt 44 (d21 ++ [.box [.int .i64 0, .int .i64 0]] ++ d22) (U (i + 1)) (S (i + 1)) (T (i + 1))) q ?_ (hZ := by rw [hw]; kernel_rfl)
     rw [hw]
     repeat' ((conv => whnf); refine I6 ?_)
     refine ag (i + 1, U (i + 1)) [] (rD 44) ⟨hlt, rfl⟩ (by simp only []; omega) ?_
     rw [hw]
     exact leF)
   ·obtain rfl : i = lines.length := by have h4 : ¬ (i : Int) < lines.length := h4; omega
    rw [hE] at hv
    (first | exact absurd hv (by decide) | skip) <;> (
     (conv => whnf)
     refine clF [11, 55, 0] (fSt 23 (dNil true (.ls 1 UInt8 bytesC (T lines.length)) :: (d21 ++ [.box [.int .i64 0, .int .i64 0]])) (S lines.length) ++ [.dead]) q3 ?_
     (conv => whnf)
     exact rxF (r33 ++ [.same 34, .same 35, .same 36, .same 37, .same 38, .same 39, .same 40, .same 41, .same 42, .same 43, .same 44, .same 45, .same 46, .same 47, .same 48, .same 49, .same 50, .same 51, .same 52, .same 53, .same 54]))))
end Go.Nest
