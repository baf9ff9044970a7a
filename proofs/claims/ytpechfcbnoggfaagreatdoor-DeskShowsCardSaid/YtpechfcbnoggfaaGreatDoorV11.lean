/- part -/
import Derived.Test.YtpechfcbnoggfaaGreatDoorV4
import Derived.Test.YtpechfcbnoggfaaGreatDoorAmG
import Derived.Test.YtpechfcbnoggfaaGreatDoorE11
import Derived.Test.YtpechfcbnoggfaaGreatDoorE10
import Derived.Test.YtpechfcbnoggfaaGreatDoorE2
set_option linter.unusedVariables false
set_option linter.unusedSimpArgs false

namespace Go.Nest
open Go Go.AM Go.Proofs
open Go.Proofs.YtpechfcbnoggfaaGreatDoor (tab tabOk)
set_option maxRecDepth 100000
theorem ask_docs (u : Bool) (s S : FS) (t T : List UInt8) (r : Int) (p : Does Tryz.prog 191 [.c (.ptr 11 0), .c (.int .i64 r)] (dIn u s t) (Rt (.tup []) (dOut true S T))) : Does Tryz.prog 116 [.c (.ptr 11 0), .c (.str [100, 111, 99, 115]), .c (.bs 1 Int encI [r]), .c (.bs 1 (List UInt8) encS [])] (dIn u s t) (Rt (.tup []) (dOut true S T)) := by
 refine X_spec (n := 76) (n0 := 34) tabOk Tryz.call116 Tryz.func116 ?_
 intro hb
 cases hu : u <;> (
  rw [hu] at p
  (conv => whnf)
  refine ⟨0, r, rfl, rfl, ?_⟩
  (conv => whnf)
  refine clF (mD 0) (dSt 22 d22 true S T) p ?_
  (conv => whnf)
  exact rxF (rD 22))
theorem ask_status (u : Bool) (s S : FS) (t T : List UInt8) (r : Int) (p : Does Tryz.prog 192 [.c (.ptr 11 0), .c (.int .i64 r)] (dIn u s t) (Rt (.tup []) (dOut true S T))) : Does Tryz.prog 116 [.c (.ptr 11 0), .c (.str [115, 116, 97, 116, 117, 115]), .c (.bs 1 Int encI [r]), .c (.bs 1 (List UInt8) encS [])] (dIn u s t) (Rt (.tup []) (dOut true S T)) := by
 refine X_spec (n := 76) (n0 := 34) tabOk Tryz.call116 Tryz.func116 ?_
 intro hb
 cases hu : u <;> (
  rw [hu] at p
  (conv => whnf)
  refine ⟨0, r, rfl, rfl, ?_⟩
  (conv => whnf)
  refine clF (mD 0) (dSt 22 d22 true S T) p ?_
  (conv => whnf)
  exact rxF (rD 22))
theorem ask_refs (u : Bool) (s S : FS) (t T : List UInt8) (r : Int) (p : Does Tryz.prog 193 [.c (.ptr 11 0), .c (.int .i64 r)] (dIn u s t) (Rt (.tup []) (dOut true S T))) : Does Tryz.prog 116 [.c (.ptr 11 0), .c (.str [114, 101, 102, 115]), .c (.bs 1 Int encI [r]), .c (.bs 1 (List UInt8) encS [])] (dIn u s t) (Rt (.tup []) (dOut true S T)) := by
 refine X_spec (n := 76) (n0 := 34) tabOk Tryz.call116 Tryz.func116 ?_
 intro hb
 cases hu : u <;> (
  rw [hu] at p
  (conv => whnf)
  refine ⟨0, r, rfl, rfl, ?_⟩
  (conv => whnf)
  refine clF (mD 0) (dSt 22 d22 true S T) p ?_
  (conv => whnf)
  exact rxF (rD 22))
theorem ask_whole (u : Bool) (s S : FS) (t T : List UInt8) (r : Int) (p : Does Tryz.prog 194 [.c (.ptr 11 0), .c (.int .i64 r)] (dIn u s t) (Rt (.tup []) (dOut true S T))) : Does Tryz.prog 116 [.c (.ptr 11 0), .c (.str [119, 104, 111, 108, 101]), .c (.bs 1 Int encI [r]), .c (.bs 1 (List UInt8) encS [])] (dIn u s t) (Rt (.tup []) (dOut true S T)) := by
 refine X_spec (n := 76) (n0 := 34) tabOk Tryz.call116 Tryz.func116 ?_
 intro hb
 cases hu : u <;> (
  rw [hu] at p
  (conv => whnf)
  refine ⟨0, r, rfl, rfl, ?_⟩
  (conv => whnf)
  refine clF (mD 0) (dSt 22 d22 true S T) p ?_
  (conv => whnf)
  exact rxF (rD 22))
theorem ask_own (u : Bool) (s S : FS) (t T : List UInt8) (r : Int) (p : Does Tryz.prog 195 [.c (.ptr 11 0), .c (.int .i64 r)] (dIn u s t) (Rt (.tup []) (dOut true S T))) : Does Tryz.prog 116 [.c (.ptr 11 0), .c (.str [111, 119, 110]), .c (.bs 1 Int encI [r]), .c (.bs 1 (List UInt8) encS [])] (dIn u s t) (Rt (.tup []) (dOut true S T)) := by
 refine X_spec (n := 76) (n0 := 34) tabOk Tryz.call116 Tryz.func116 ?_
 intro hb
 cases hu : u <;> (
  rw [hu] at p
  (conv => whnf)
  refine ⟨0, r, rfl, rfl, ?_⟩
  (conv => whnf)
  refine clF (mD 0) (dSt 22 d22 true S T) p ?_
  (conv => whnf)
  exact rxF (rD 22))
set_option maxHeartbeats 2000000 in
theorem ask_write (u : Bool) (s S : FS) (t T : List UInt8) (r : Int) (a x b : List UInt8) (hx : x.length ≤ 4000000) (hm : meanT x = some b) (p : Does Tryz.prog 196 [.c (.ptr 11 0), .st (encStp ⟨1, r, 0, a, [], [], b⟩)] (dIn u s t) (Rt (.tup []) (dOut true S T))) :
  Does Tryz.prog 116 [.c (.ptr 11 0), .c (.str [119, 114, 105, 116, 101]), .c (.bs 1 Int encI [r]), .c (.bs 1 (List UInt8) encS [a, x])] (dIn u s t) (Rt (.tup []) (dOut true S T)) := by
 have q := mean_spec x hx
 rw [hm] at q
 refine X_spec (n := 76) (n0 := 34) tabOk Tryz.call116 Tryz.func116 ?_
 intro hb
 cases hu : u <;> (
  rw [hu] at p
  (conv => whnf)
  refine ⟨1, x, rfl, rfl, ?_⟩
  (conv => whnf)
  refine cl [] [] (q) ?_
  (conv => whnf)
  refine ⟨false, .grow, (.l [0, 1, 2, 3, 4, 5, 6, 7, 8, 9]), by kernel_rfl, .inl ?_⟩
  (conv => whnf)
  refine ⟨0, r, rfl, rfl, ?_⟩
  (conv => whnf)
  refine ⟨0, a, rfl, rfl, ?_⟩
  (conv => whnf)
  refine clJ [34] (mD 0) (dSt 23 (d22 ++ [.fro 1 UInt8 bytesC b]) true S T) p ?_
  (conv => whnf)
  exact rxF (rD 23))
theorem step_commit (r : Int) (a x : List UInt8) : Does Tryz.prog 197 [.c (.str [99, 111, 109, 109, 105, 116]), .c (.bs 1 Int encI [r]), .c (.bs 1 (List UInt8) encS [a, x])] [] (Rt (.st (encStp ⟨4, r, 0, [], a, x, []⟩)) []) := by
 refine X_spec (n := 105) (n0 := 0) tabOk Tryz.call197 Tryz.func197 ?_
 intro hb
 (conv => whnf)
 refine ⟨0, r, rfl, rfl, ?_⟩
 (conv => whnf)
 refine ⟨false, .prot [], (.l [0, 1, 2, 3, 4, 5, 6, 7, 8, 9, 10, 11]), by kernel_rfl, .inl ?_⟩
 (conv => whnf)
 refine ⟨0, a, rfl, rfl, ?_⟩
 (conv => whnf)
 refine ⟨1, x, rfl, rfl, ?_⟩
 (conv => whnf)
 exact rx [] []
theorem ask_commit (u : Bool) (s S : FS) (t T : List UInt8) (n : List Int) (w : List (List UInt8)) (x : Stp) (q : Does Tryz.prog 197 [.c (.str [99, 111, 109, 109, 105, 116]), .c (.bs 1 Int encI n), .c (.bs 1 (List UInt8) encS w)] [] (Rt (.st (encStp x)) [])) (p : Does Tryz.prog 196 [.c (.ptr 11 0), .st (encStp x)] (dIn u s t) (Rt (.tup []) (dOut true S T))) :
  Does Tryz.prog 116 [.c (.ptr 11 0), .c (.str [99, 111, 109, 109, 105, 116]), .c (.bs 1 Int encI n), .c (.bs 1 (List UInt8) encS w)] (dIn u s t) (Rt (.tup []) (dOut true S T)) := by
 refine X_spec (n := 76) (n0 := 34) tabOk Tryz.call116 Tryz.func116 ?_
 intro hb
 cases hu : u <;> (
  rw [hu] at p
  (conv => whnf)
  refine cl [] [] (q) ?_
  (conv => whnf)
  refine clF (mD 0) (dSt 22 d22 true S T) p ?_
  (conv => whnf)
  exact rxF (rD 22))
set_option maxHeartbeats 2000000 in
theorem line_dspec (u : Bool) (s S : FS) (t T l word rest form : List UInt8) (more : Bool) (n : List Int) (w : List (List UInt8)) (h0 : l ≠ []) (hcut : cutC 32 l = (word, rest, more)) (hshape : shapeT word = (form, true)) (hfl : form.length ≤ 1000) (hparts : partsT form rest [] [] = some (n, w, true)) (hform : form ≠ [] ∨ l = word)
  (p : Does Tryz.prog 116 [.c (.ptr 11 0), .c (.str word), .c (.bs 1 Int encI n), .c (.bs 1 (List UInt8) encS w)] (dIn u s t) (Rt (.tup []) (dOut true S T))) :
  Does Tryz.prog 47 [.c (.ptr 11 0), .c (.str l)] (dIn u s t) (Rt (.tup []) (dOut true S T)) := by
 have q1 := cutC_spec 32 l
 have q2 := shape_spec word
 have q3 := deskParts_spec rest form hfl _ hparts
 rw [hcut] at q1
 rw [hshape] at q2
 dsimp only at q1 q2 q3
 refine X_spec (n := 55) (n0 := 34) tabOk Tryz.call47 Tryz.func47 ?_
 intro hb
 cases hu : u <;> (
  rw [hu] at p
  (conv => whnf)
  refine dec (fun h => absurd h h0) (fun _ => ?_)
  (conv => whnf)
  refine cl [] [] (q1) ?_
  (conv => whnf)
  refine cl [] [] (q2) ?_
  (conv => whnf)
  refine cl [] [] (q3) ?_
  (conv => whnf)
  refine dec (fun h1 => ?_) (fun h1 => ?_)
  ·have h2 : l = word := hform.resolve_left (fun g => g h1)
   (conv => whnf)
   refine decN (fun h3 => absurd h2 h3) (fun _ => ?_)
   (conv => whnf)
   refine clF (mD 0) (dSt 24 (d22 ++ [.row 1 Int encI n, .row 1 (List UInt8) encS w]) true S T) p ?_
   (conv => whnf)
   exact rxF (rD 24)
  ·(conv => whnf)
   refine clF (mD 0) (dSt 24 (d22 ++ [.row 1 Int encI n, .row 1 (List UInt8) encS w]) true S T) p ?_
   (conv => whnf)
   exact rxF (rD 24))
def whatT : List UInt8 := lineT [[119, 104, 97, 116]]
set_option maxHeartbeats 2000000 in
theorem line_what (u : Bool) (s : FS) (t l word rest : List UInt8) (more : Bool) (n : List Int) (w : List (List UInt8)) (is : Bool) (h0 : l ≠ []) (hcut : cutC 32 l = (word, rest, more)) (hshape : shapeT word = ([], false)) (hparts : partsT [] rest [] [] = some (n, w, is)) (hl : t.length + whatT.length ≤ 100000000) :
  Does Tryz.prog 47 [.c (.ptr 11 0), .c (.str l)] (dIn u s t) (Rt (.tup []) (dOut true s (t ++ whatT))) := by
 have q1 := cutC_spec 32 l
 have q2 := shape_spec word
 have q3 := deskParts_spec rest [] (by decide) _ hparts
 have p := say_dspec u s t [[119, 104, 97, 116]] hl (by decide)
 rw [hcut] at q1
 rw [hshape] at q2
 dsimp only at q1 q2 q3
 refine X_spec (n := 55) (n0 := 34) tabOk Tryz.call47 Tryz.func47 ?_
 intro hb
 cases hu : u <;> (
  rw [hu] at p
  (conv => whnf)
  refine dec (fun h => absurd h h0) (fun _ => ?_)
  (conv => whnf)
  refine cl [] [] (q1) ?_
  (conv => whnf)
  refine cl [] [] (q2) ?_
  (conv => whnf)
  refine cl [] [] (q3) ?_
  (conv => whnf)
  refine ⟨[[119, 104, 97, 116]], rfl, ?_⟩
  (conv => whnf)
  refine clF (mD 0) (dSt 25 (d22 ++ [.row 1 Int encI n, .row 1 (List UInt8) encS w, .row 1 (List UInt8) encS [[119, 104, 97, 116]]]) true s (t ++ whatT)) p ?_
  (conv => whnf)
  exact rxF (rD 25))
end Go.Nest
