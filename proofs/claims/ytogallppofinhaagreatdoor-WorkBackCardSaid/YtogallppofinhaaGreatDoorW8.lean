/- WALKS, W8: of the law: great docs, great snaps, one of a list. -/
import Derived.Test.YtogallppofinhaaGreatDoorL0
namespace Go.Nest
open Go Go.AM Go.Proofs
open Go.Proofs.YtogallppofinhaaGreatDoor (tab tabOk)
set_option linter.unusedVariables false
set_option linter.unusedSimpArgs false
set_option maxRecDepth 4000
theorem wrapU (n : Int) : IntKind.u64.wrap n = n % 18446744073709551616 := by
  unfold IntKind.wrap
  simp [IntKind.bits, IntKind.signed]
theorem wrapS {n : Int} (h0 : 0 ≤ n) (h : n ≤ 9223372036854775807) : IntKind.i64.wrap n = n := by
  have e : n % 18446744073709551616 = n := Int.emod_eq_of_lt h0 (by omega)
  unfold IntKind.wrap
  simp only [IntKind.bits, IntKind.signed]
  show (if (true && decide (n % 18446744073709551616 ≥ 9223372036854775808)) = true then n % 18446744073709551616 - 18446744073709551616 else n % 18446744073709551616) = n
  rw [e, if_neg (by simp; omega)]
theorem wrapU_ne {n : Nat} (h0 : n ≠ 0) (h : n ≤ 9223372036854775807) : IntKind.u64.wrap n ≠ 0 := by rw [wrapU]; omega
theorem round_at {k : Int} {n : Nat} (h0 : n ≠ 0) (h : n ≤ 9223372036854775807) : IntKind.i64.wrap ((IntKind.u64.wrap k).tmod (IntKind.u64.wrap n)) = ((k % 18446744073709551616 % n).toNat : Nat) ∧ (k % 18446744073709551616 % n).toNat < n := by
  have e : (n : Int) % 18446744073709551616 = n := Int.emod_eq_of_lt (by omega) (by omega)
  have h1 : 0 ≤ k % 18446744073709551616 := Int.emod_nonneg _ (by decide)
  have h2 : 0 ≤ k % 18446744073709551616 % n := Int.emod_nonneg _ (by omega)
  have h3 : k % 18446744073709551616 % n < n := Int.emod_lt_of_pos _ (by omega)
  rw [wrapU, wrapU, e, Int.tmod_eq_emod_of_nonneg h1, wrapS h2 (by omega)]
  omega
/-- a number, counted round -/
def pick (l : List Int) (k : Int) : Int := (l[(k % 18446744073709551616 % l.length).toNat]?).getD 0
def oneP (l : List Int) (k : Int) : Int := if l.length = 0 then -1 else pick l k
theorem one_spec (l : List Int) (k : Int) : Does Tryz.prog 25 [.c (.bs 1 Int encI l), .c (.int .i64 k)] [] (Rt (.c (.int .i64 (oneP l k))) []) := by
  refine X_spec (n := 18) (n0 := 0) tabOk Tryz.call25 Tryz.func25 ?_
  intro hb; have hb : l.length ≤ 9223372036854775807 := hb.1.1
  (conv => whnf)
  refine dec (fun h4 => ?_) (fun h4 => ?_)
  · have e : oneP l k = -1 := by unfold oneP; rw [if_pos (by omega)]
    (conv => whnf)
    exact rtI e.symm
  · have e : oneP l k = pick l k := by unfold oneP; rw [if_neg (by omega)]
    (conv => whnf)
    refine ⟨wrapU_ne (by omega) hb, ?_⟩
    (conv => whnf)
    obtain ⟨r1, r2⟩ := round_at (k := k) (n := l.length) (by omega) hb
    refine ⟨_, _, r1, List.getElem?_eq_getElem r2, ?_⟩
    (conv => whnf)
    refine rtI ?_
    rw [e]; unfold pick
    rw [List.getElem?_eq_getElem r2]; rfl
end Go.Nest
