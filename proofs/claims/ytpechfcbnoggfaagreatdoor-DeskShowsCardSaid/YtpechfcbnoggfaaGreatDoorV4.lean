/- part -/
import Derived.Test.YtpechfcbnoggfaaGreatDoorW10
import Derived.Test.YtpechfcbnoggfaaGreatDoorE12
import Derived.Test.YtpechfcbnoggfaaGreatDoorV1
set_option linter.unusedVariables false
set_option linter.unusedSimpArgs false
section

namespace Go.Nest
open Go Go.AM Go.Proofs Go.RowKit
open Go.Proofs.YtpechfcbnoggfaaGreatDoor (tab tabOk)
set_option maxRecDepth 4000
theorem joinC_spec (c : UInt8) (l : List (List UInt8)) (hl : l.length ≤ 1000000) (hlen : (Lib.join l [c]).length ≤ 140737488355328) : Does Tryz.prog 190 [.c (.bs 1 (List UInt8) encS l), .c (.str [c])] [] (Rt (.c (.str (Lib.join l [c]))) []) := by
 cases l with
 | nil =>
  refine X_spec (n := 75) (n0 := 0) tabOk Tryz.call190 Tryz.func190 ?_
  intro hb
  (conv => whnf)
  exact rtC rfl rfl
 | cons x0 l0 =>
  generalize hl0 : x0 :: l0 = l at *
  have hne : l ≠ [] := by rw [← hl0]; simp
  refine Does.of_below rfl Tryz.call190 (fun F L γ w vs h hlt => ?_)
  match vs, h with
  | [v1, v2], ⟨h1, h2, _⟩ =>
   cases h2 with
   | str _ _ =>
    cases h1 with
    | bs0 _ => exact absurd rfl hne
    | @bs _ _ _ _ _ b off cap css _ _ hb g1 g2 hr hz hc _ =>
     have e1 := strs_of hr
     have e2 : (List.map (fun x : ByteArray => x.data.toList) (List.map (fun s : List UInt8 => (⟨s.toArray⟩ : ByteArray)) l)) = l := by rw [List.map_map]; exact (List.map_congr_left (fun s _ => by simp)).trans (List.map_id' l)
     have hcon := Any.strings_Join_48 lay156 extra156 b off cap (l.map fun s => ⟨s.toArray⟩) ⟨[c].toArray⟩ w (fun j x hx => ?_) (hlt b hb) (by simp; omega) (by simpa using g1) (by rw [e2]; show (Lib.join l [c]).length ≤ _; omega)
     ·refine ⟨NB.str (Lib.join l [c]), fun F H m => .str (by omega) .nl, ?_⟩
      rw [e2] at hcon
      have e3 : Lib.join l (⟨[c].toArray⟩ : ByteArray).data.toList = Lib.join l [c] := rfl
      rw [e3, List.length_map] at hcon
      exact hcon
     ·rw [List.getElem?_map] at hx
      obtain ⟨s, hs, rfl⟩ := Option.map_eq_some_iff.1 hx
      have := hc j (NB.str s) (by rw [e1, List.getElem?_map, hs]; rfl)
      rw [NB.cell?_of rfl]
      exact this
def lineT (ws : List (List UInt8)) : List UInt8 := Lib.join ws [32] ++ [10]
theorem say_spec (u : Bool) (l : List UInt8) (ws : List (List UInt8)) (hl : l.length + (lineT ws).length ≤ 100000000) (hw : ws.length ≤ 1000000) : Does Tryz.prog 115 [.c (.ptr 0 0), .c (.bs 1 (List UInt8) encS ws)] [.box [own1 u, .rw 1, .ptr 2 0] (some 111), .buf 5 1 UInt8 bytesC l, .dead]
  (Rt (.tup []) [.box [.ptr 0 0, .rw 3, .ptr 2 0] (some 111), .dead, .dead, .buf 5 1 UInt8 bytesC (l ++ lineT ws)]) := by
 have h2 : (lineT ws).length = (Lib.join ws [32]).length + 1 := by simp [lineT]
 cases u
 ·refine X_spec (n := 11) (n0 := 3) tabOk Tryz.call115 Tryz.func115 ?_
  intro hb
  refine ⟨false, .grow, (.l [0, 1, 2, 3, 4, 5, 6]), by kernel_rfl, .inl ?_⟩
  (conv => whnf)
  refine cl [] [] (joinC_spec 32 ws hw (by omega)) ?_
  (conv => whnf)
  refine ⟨by show _ + 1 ≤ _; omega, ?_⟩
  (conv => whnf)
  refine cl [] [0, 1, 2] (writeString_spec false l (lineT ws) hl) ?_
  (conv => whnf)
  exact rx [] [.same 0, .same 1, .same 2, .same 3]
 ·refine X_spec (n := 11) (n0 := 3) tabOk Tryz.call115 Tryz.func115 ?_
  intro hb
  refine ⟨false, .grow, (.l [0, 1, 2, 3, 4, 5, 6]), by kernel_rfl, .inl ?_⟩
  (conv => whnf)
  refine cl [] [] (joinC_spec 32 ws hw (by omega)) ?_
  (conv => whnf)
  refine ⟨by show _ + 1 ≤ _; omega, ?_⟩
  (conv => whnf)
  refine cl [] [0, 1, 2] (writeString_spec true l (lineT ws) hl) ?_
  (conv => whnf)
  exact rx [] [.same 0, .same 1, .same 2, .same 3]
end Go.Nest
end
/- part -/
section

namespace Go.Nest
open Go Go.AM Go.Proofs
open Go.Proofs.YtpechfcbnoggfaaGreatDoor (tab tabOk)
set_option maxRecDepth 4000
def d22 : List B := [.dead, .dead, .dead, .dead, .dead, .dead, .dead, .dead, .dead, .dead, .dead, .dead, .dead, .dead, .dead, .dead, .dead, .dead, .dead, .dead, .dead, .dead]
def ownD (u : Bool) : C := bif u then .ptr 11 0 else .raw (.pointer none)
def dSt (k : Nat) (mid : List B) (u : Bool) (s : FS) (t : List UInt8) : List B := fSt (k + 1) (.box [ownD u, .rw (k + 33), .ptr 0 0] (some 111) :: mid) s ++ [.buf 5 1 UInt8 bytesC t]
abbrev dIn (u : Bool) (s : FS) (t : List UInt8) : List B := dSt 0 [] u s t
abbrev dOut (u : Bool) (s : FS) (t : List UInt8) : List B := dSt 22 d22 u s t
def mD (k : Nat) : List Nat := [0, 1, 2, 3, 4, 5, 6, 7, 8, 9, 10, 11, k + 12, k + 13, k + 14, k + 15, k + 16, k + 17, k + 18, k + 19, k + 20, k + 21, k + 22, k + 23, k + 24, k + 25, k + 26, k + 27, k + 28, k + 29, k + 30, k + 31, k + 32, k + 33]
def rD (k : Nat) : List Rn := [.same 0, .same 1, .same 2, .same 3, .same 4, .same 5, .same 6, .same 7, .same 8, .same 9, .same 10, .same 11, .same 12, .same 13, .same 14, .same 15, .same 16, .same 17, .same 18, .same 19, .same 20, .same 21, .same 22, .same 23, .same 24, .same 25, .same 26, .same 27, .same 28, .same 29, .same 30, .same 31, .same 32, .same 33, .same (k + 12), .same (k + 13), .same (k + 14), .same (k + 15), .same (k + 16), .same (k + 17), .same (k + 18), .same (k + 19), .same (k + 20), .same (k + 21), .same (k + 22), .same (k + 23), .same (k + 24), .same (k + 25), .same (k + 26), .same (k + 27), .same (k + 28), .same (k + 29), .same (k + 30), .same (k + 31), .same (k + 32), .same (k + 33)]
def rDs (l : List Rn) : List Rn := [.same 0, .same 1, .same 2, .same 3, .same 4, .same 5, .same 6, .same 7, .same 8, .same 9, .same 10, .same 11, .same 12, .same 13, .same 14, .same 15, .same 16, .same 17, .same 18, .same 19, .same 20, .same 21, .same 22, .same 23, .same 24, .same 25, .same 26, .same 27, .same 28, .same 29, .same 30, .same 31, .same 32, .same 33] ++ l
theorem onSay {f : FuncId} {rest : List A} {u : Bool} {s : FS} {t t' : List UInt8} (hs : Does Tryz.prog f (.c (.ptr 0 0) :: rest) [.box [bif u then .ptr 0 0 else .raw (.pointer none), .rw 1, .ptr 2 0] (some 111), .buf 5 1 UInt8 bytesC t, .dead]
  (Rt (.tup []) [.box [.ptr 0 0, .rw 3, .ptr 2 0] (some 111), .dead, .dead, .buf 5 1 UInt8 bytesC t'])) (hc : ClosedAs rest := by refine ⟨fun _ _ _ => ?_⟩; repeat' first | exact trivial | exact rfl | refine And.intro ?_ ?_) : Does Tryz.prog f (.c (.ptr 11 0) :: rest) (dIn u s t) (Rt (.tup []) (dOut true s t')) := by
 cases u <;> exact DoesD.frame [11, 33, 0] (rDs [.same 12, .same 13, .same 14, .same 15, .same 16, .same 17, .same 18, .same 19, .same 20, .same 21, .same 22, .same 23, .same 24, .same 25, .same 26, .same 27, .same 28, .same 29, .same 30, .same 31, .same 32, .same 34]) hs (callOk_of (And.intro rfl (hc.m _ _ _))) rfl rfl (lex_of trivial) rfl
theorem onFor {f : FuncId} {args : List A} {X : A} {u : Bool} {s s' : FS} {t : List UInt8} (hs : Does Tryz.prog f args (fIn s) (Rt X (fOut s'))) (hx : ClosedA X) (ha : mAs (frOf (mF 1) (fIn s)) (dIn u s t) (samesR (mF 1)) args args := by repeat' first | exact trivial | exact rfl | refine And.intro ?_ ?_) : Does Tryz.prog f args (dIn u s t) (Rt X (dOut u s' t)) := by
 cases u <;> refine DoesD.frame (mF 1) (rDs [.same 34, .same 35, .same 36, .same 37, .same 38, .same 39, .same 40, .same 41, .same 42, .same 43, .same 44, .same 45, .same 46, .same 47, .same 48, .same 49, .same 50, .same 51, .same 52, .same 53, .same 54, .same 33]) hs (callOk_of ha) rfl (hx.r _) (lex_of (hx.m _ _)) (by rw [hx.c]; rfl)
theorem onForRow {f : FuncId} {args : List A} {u : Bool} {s s' : FS} {t : List UInt8} {c : Int} {sz : Nat} {α : Type} {enc : α → List C} {x : List α} (hs : Does Tryz.prog f args (fIn s) (Rt (.tup [(false, [.rw 53]), (false, [.int .i64 c])]) (fOut s' ++ [.row sz α enc x]))) (ha : mAs (frOf (mF 1) (fIn s)) (dIn u s t) (samesR (mF 1)) args args := by repeat' first | exact trivial | exact rfl | refine And.intro ?_ ?_) :
  Does Tryz.prog f args (dIn u s t) (Rt (.tup [(false, [.rw 56]), (false, [.int .i64 c])]) (dOut u s' t ++ [.row sz α enc x])) := by
 cases u <;> exact DoesD.frame (mF 1) (rDs [.same 34, .same 35, .same 36, .same 37, .same 38, .same 39, .same 40, .same 41, .same 42, .same 43, .same 44, .same 45, .same 46, .same 47, .same 48, .same 49, .same 50, .same 51, .same 52, .same 53, .same 54, .same 33, .same 55]) hs (callOk_of ha) rfl rfl (lex_of ⟨⟨rfl, rfl, trivial⟩, ⟨rfl, rfl, trivial⟩, trivial⟩) rfl
theorem say_dspec (u : Bool) (s : FS) (t : List UInt8) (ws : List (List UInt8)) (hl : t.length + (lineT ws).length ≤ 100000000) (hw : ws.length ≤ 1000000) : Does Tryz.prog 115 [.c (.ptr 11 0), .c (.bs 1 (List UInt8) encS ws)] (dIn u s t) (Rt (.tup []) (dOut true s (t ++ lineT ws))) :=
 onSay (say_spec u t ws hl hw)
end Go.Nest
end
