/- part -/
import Derived.Test.YtpechfcbnoggfaaGreatDoorE8
import Derived.Test.YtpechfcbnoggfaaGreatDoorE10
set_option linter.unusedVariables false
set_option linter.unusedSimpArgs false

namespace Go.Nest
open Go Go.AM Go.Proofs
open Go.Proofs.YtpechfcbnoggfaaGreatDoor (tab tabOk)
set_option maxRecDepth 4000
def numT (a : List UInt8) : Option Nat := (List.range 100).find? (fun k => decide (Lib.decDigits k = a))
theorem numT_some {a : List UInt8} {k : Nat} (h : numT a = some k) : k < 100 ∧ Lib.decDigits k = a := by
 unfold numT at h
 have h1 := List.mem_of_find?_eq_some h
 have h2 := List.find?_some h
 exact ⟨List.mem_range.1 h1, of_decide_eq_true h2⟩
theorem atoi_small : ∀ k : Fin 100, Lib.atoi (Lib.decDigits k.val) = some (k.val : Int) := by decide +kernel
def partsT : List UInt8 → List UInt8 → List Int → List (List UInt8) → Option (List Int × List (List UInt8) × Bool)
 | [], rest, ns, ws => some (ns, ws, decide (rest = []))
 | s :: sh, rest, ns, ws =>
  if s = 116 then some (ns, ws ++ [rest], true)
  else if (cutC 32 rest).2.2 = false ∧ sh ≠ [] then some ([], [], false)
  else if ((cutC 32 rest).2.2 = true ∧ sh = []) ∨ (cutC 32 rest).1 = [] then some ([], [], false)
  else if s = 119 then partsT sh (cutC 32 rest).2.1 ns (ws ++ [(cutC 32 rest).1])
  else match numT (cutC 32 rest).1 with
   | none => none
   | some k => partsT sh (cutC 32 rest).2.1 (ns ++ [(k : Int)]) ws
structure PaS where
 i : Nat
 rest : List UInt8
 ns : List Int
 ws : List (List UInt8)
set_option maxHeartbeats 2000000 in
theorem deskParts_spec (rest sh : List UInt8) (hs : sh.length ≤ 1000) (r : List Int × List (List UInt8) × Bool) (hr : partsT sh rest [] [] = some r) : Does Tryz.prog 114 [.c (.str rest), .c (.str sh)] []
  (Rt (.tup [(false, [.rw 0]), (false, [.rw 1]), (false, [.bool r.2.2])]) [.row 1 Int encI r.1, .row 1 (List UInt8) encS r.2.1]) := by
 refine X_spec (n := 87) (n0 := 0) tabOk Tryz.call114 Tryz.func114 ?_
 intro hb
 (conv => whnf)
 refine lp PaS (fun p => ⟨[(0, .c (.str p.rest)), (1, .c (.str sh)), (7, .c (.rw 0)), (8, .c (.rw 1)), (16, .c (.int .i64 sh.length)), (17, .c (.int .i64 p.i))], [.row 1 Int encI p.ns, .row 1 (List UInt8) encS p.ws]⟩) (fun p => p.i ≤ sh.length ∧ p.ns.length ≤ p.i ∧ p.ws.length ≤ p.i ∧ partsT (sh.drop p.i) p.rest p.ns p.ws = some r) (fun p => sh.length - p.i) ⟨0, rest, [], []⟩ [] [.new, .new] ?_ ?_ (fun p hp => ?_)
 ·exact ⟨Nat.zero_le _, Nat.le_refl _, Nat.le_refl _, hr⟩
 ·repeat' first | exact trivial | exact rfl | refine And.intro ?_ ?_
 obtain ⟨i, rest, ns, ws⟩ := p
 obtain ⟨hi, hn, hw, hp⟩ := hp
 dsimp only at hi hn hw hp
 (conv => whnf)
 refine dec (fun h1 => ?_) (fun h1 => ?_)
 ·have hlt : i < sh.length := by have h1 : (i : Int) < sh.length := h1; omega
  have hd : sh.drop i = sh[i] :: sh.drop (i + 1) := List.drop_eq_getElem_cons hlt
  have hsi : sh[i]? = some sh[i] := List.getElem?_eq_getElem hlt
  have hsd : sh.drop (i + 1) = [] ↔ i + 1 = sh.length := by rw [List.drop_eq_nil_iff]; omega
  rw [hd] at hp
  generalize sh[i] = c at *
  (conv => whnf)
  refine ⟨i, c, rfl, hsi, ?_⟩
  (conv => whnf)
  refine dec (fun h2 => ?_) (fun h2 => ?_)
  ·have h2 : (c.toNat : Int) = 116 := h2
   obtain rfl : c = 116 := UInt8.toNat_inj.1 (by show c.toNat = 116; omega)
   have hp : some (ns, ws ++ [rest], true) = some r := hp
   obtain rfl := Option.some.inj hp
   (conv => whnf)
   refine ⟨[rest], rfl, ?_⟩
   (conv => whnf)
   refine ⟨_, _, rfl, rfl, (by simp only [List.length_append, List.length_cons, List.length_nil]; omega), ?_⟩
   (conv => whnf)
   exact rx [] [.same 0, .same 3]
  have h2 : ¬ (c.toNat : Int) = 116 := h2
  rw [partsT, if_neg (fun e : c = 116 => h2 (by rw [e]; rfl))] at hp
  have hcl : (cutC 32 rest).1.length ≤ rest.length ∧ (cutC 32 rest).2.1.length ≤ rest.length := by
   unfold cutC
   split
   ·exact ⟨by simp; omega, by simp⟩
   ·simp
  (conv => whnf)
  refine cl [] [] (cutC_spec 32 rest) ?_
  generalize cutC 32 rest = q at *
  obtain ⟨a, b, ok⟩ := q
  dsimp only at hp
  cases ok with
  | false =>
   (conv => whnf)
   refine ⟨i64 (by simp only []; omega) (by simp only []; omega), ?_⟩
   (conv => whnf)
   refine dec (fun h3 => ?_) (fun h3 => ?_)
   ·have h3 : (i : Int) + 1 < sh.length := h3
    rw [if_pos ⟨rfl, fun e => by have := hsd.1 e; omega⟩] at hp
    obtain rfl := Option.some.inj hp
    (conv => whnf)
    exact rx [] [.new, .new]
   ·have h3 : ¬ (i : Int) + 1 < sh.length := h3
    have hsd2 : sh.drop (i + 1) = [] := hsd.2 (by omega)
    rw [if_neg (fun h => h.2 hsd2)] at hp
    (conv => whnf)
    refine dec (fun h4 => ?_) (fun h4 => ?_)
    ·have h4 : a = [] := h4
     rw [if_pos (.inr h4)] at hp
     obtain rfl := Option.some.inj hp
     (conv => whnf)
     exact rx [] [.new, .new]
    ·have h4 : ¬ a = [] := h4
     rw [if_neg (fun h => h.elim (fun h => by cases h.1) h4)] at hp
     (conv => whnf)
     refine ⟨i, c, rfl, hsi, ?_⟩
     (conv => whnf)
     refine dec (fun h5 => ?_) (fun h5 => ?_)
     ·have h5 : (c.toNat : Int) = 119 := h5
      rw [if_pos (show c = 119 from UInt8.toNat_inj.1 (by show c.toNat = 119; omega))] at hp
      (conv => whnf)
      refine ⟨[a], rfl, ?_⟩
      (conv => whnf)
      refine ⟨_, _, rfl, rfl, (by simp only [List.length_append, List.length_cons, List.length_nil]; omega), ?_⟩
      (conv => whnf)
      refine ⟨i64 (by simp only []; omega) (by simp only []; omega), ?_⟩
      (conv => whnf)
      refine ag ⟨i + 1, b, ns, ws ++ [a]⟩ [] [.same 0, .same 3] ⟨hlt, by simp only []; omega, by simp; omega, hp⟩ (by simp only []; omega) ?_
      repeat' first | exact trivial | exact rfl | refine And.intro ?_ ?_
     have h5 : ¬ (c.toNat : Int) = 119 := h5
     rw [if_neg (fun e : c = 119 => h5 (by rw [e]; rfl))] at hp
     cases hnum : numT a with
     | none => rw [hnum] at hp; cases hp
     | some k =>
      rw [hnum] at hp
      obtain ⟨hk, hda⟩ := numT_some hnum
      have hal : a.length ≤ 18 := by rw [← hda]; exact Nat.le_trans (ddg_len hk) (by decide)
      (conv => whnf)
      refine cl [] [] (atoi_spec a k hal (by rw [← hda]; exact atoi_small ⟨k, hk⟩)) ?_
      (conv => whnf)
      refine cl [] [] (num_spec k hk) ?_
      (conv => whnf)
      refine decN (fun h6 => ?_) (fun h6 => ?_)
      ·exact absurd hda h6
      ·(conv => whnf)
       refine ⟨[(k : Int)], rfl, ?_⟩
       (conv => whnf)
       refine ⟨_, _, rfl, rfl, (by simp only [List.length_append, List.length_cons, List.length_nil]; omega), ?_⟩
       (conv => whnf)
       refine ⟨i64 (by simp only []; omega) (by simp only []; omega), ?_⟩
       (conv => whnf)
       refine ag ⟨i + 1, b, ns ++ [(k : Int)], ws⟩ [] [.same 3, .same 1] ⟨hlt, by simp; omega, by simp only []; omega, hp⟩ (by simp only []; omega) ?_
       repeat' first | exact trivial | exact rfl | refine And.intro ?_ ?_
  | true =>
   rw [if_neg (fun h => by cases h.1)] at hp
   (conv => whnf)
   refine ⟨i64 (by simp only []; omega) (by simp only []; omega), ?_⟩
   (conv => whnf)
   refine dec (fun h3 => ?_) (fun h3 => ?_)
   ·have h3 : (i : Int) + 1 = sh.length := h3
    rw [if_pos (.inl ⟨rfl, hsd.2 (by omega)⟩)] at hp
    obtain rfl := Option.some.inj hp
    (conv => whnf)
    exact rx [] [.new, .new]
   ·have h3 : ¬ (i : Int) + 1 = sh.length := h3
    (conv => whnf)
    refine dec (fun h4 => ?_) (fun h4 => ?_)
    ·have h4 : a = [] := h4
     rw [if_pos (.inr h4)] at hp
     obtain rfl := Option.some.inj hp
     (conv => whnf)
     exact rx [] [.new, .new]
    ·have h4 : ¬ a = [] := h4
     rw [if_neg (fun h => h.elim (fun h => by have := hsd.1 h.2; omega) h4)] at hp
     (conv => whnf)
     refine ⟨i, c, rfl, hsi, ?_⟩
     (conv => whnf)
     refine dec (fun h5 => ?_) (fun h5 => ?_)
     ·have h5 : (c.toNat : Int) = 119 := h5
      rw [if_pos (show c = 119 from UInt8.toNat_inj.1 (by show c.toNat = 119; omega))] at hp
      (conv => whnf)
      refine ⟨[a], rfl, ?_⟩
      (conv => whnf)
      refine ⟨_, _, rfl, rfl, (by simp only [List.length_append, List.length_cons, List.length_nil]; omega), ?_⟩
      (conv => whnf)
      refine ⟨i64 (by simp only []; omega) (by simp only []; omega), ?_⟩
      (conv => whnf)
      refine ag ⟨i + 1, b, ns, ws ++ [a]⟩ [] [.same 0, .same 3] ⟨hlt, by simp only []; omega, by simp; omega, hp⟩ (by simp only []; omega) ?_
      repeat' first | exact trivial | exact rfl | refine And.intro ?_ ?_
     have h5 : ¬ (c.toNat : Int) = 119 := h5
     rw [if_neg (fun e : c = 119 => h5 (by rw [e]; rfl))] at hp
     cases hnum : numT a with
     | none => rw [hnum] at hp; cases hp
     | some k =>
      rw [hnum] at hp
      obtain ⟨hk, hda⟩ := numT_some hnum
      have hal : a.length ≤ 18 := by rw [← hda]; exact Nat.le_trans (ddg_len hk) (by decide)
      (conv => whnf)
      refine cl [] [] (atoi_spec a k hal (by rw [← hda]; exact atoi_small ⟨k, hk⟩)) ?_
      (conv => whnf)
      refine cl [] [] (num_spec k hk) ?_
      (conv => whnf)
      refine decN (fun h6 => ?_) (fun h6 => ?_)
      ·exact absurd hda h6
      ·(conv => whnf)
       refine ⟨[(k : Int)], rfl, ?_⟩
       (conv => whnf)
       refine ⟨_, _, rfl, rfl, (by simp only [List.length_append, List.length_cons, List.length_nil]; omega), ?_⟩
       (conv => whnf)
       refine ⟨i64 (by simp only []; omega) (by simp only []; omega), ?_⟩
       (conv => whnf)
       refine ag ⟨i + 1, b, ns ++ [(k : Int)], ws⟩ [] [.same 3, .same 1] ⟨hlt, by simp; omega, by simp only []; omega, hp⟩ (by simp only []; omega) ?_
       repeat' first | exact trivial | exact rfl | refine And.intro ?_ ?_
 ·obtain rfl : i = sh.length := by have h1 : ¬ (i : Int) < sh.length := h1; omega
  rw [List.drop_length] at hp
  have hp : some (ns, ws, decide (rest = [])) = some r := hp
  obtain rfl := Option.some.inj hp
  (conv => whnf)
  exact rx [] [.same 0, .same 1]
end Go.Nest
