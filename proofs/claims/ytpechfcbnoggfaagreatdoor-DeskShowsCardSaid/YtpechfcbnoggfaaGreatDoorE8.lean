/- part -/
import Derived.Test.YtpechfcbnoggfaaGreatDoorJ5
import Derived.Test.YtpechfcbnoggfaaGreatDoorJ6
import Derived.Test.YtpechfcbnoggfaaGreatDoorAmX
import Derived.Test.YtpechfcbnoggfaaGreatDoorL0
set_option linter.unusedVariables false
set_option linter.unusedSimpArgs false

namespace Go.Nest
open Go Go.AM Go.Proofs Go.RowKit
open Go.Proofs.YtpechfcbnoggfaaGreatDoor (tab tabOk)
set_option maxRecDepth 4000
theorem ddg_len {i : Nat} (h : i < 100) : (Lib.decDigits i).length ≤ 2 := by
 unfold Lib.decDigits
 split
 ·simp
 ·unfold Lib.decDigits
  split
  ·simp
  ·omega
theorem itoa_spec (i : Nat) (hi : i < 100) : Does Tryz.prog 256 [.c (.int .i64 i)] [] (Rt (.c (.str (Lib.decDigits i))) []) := by
 refine Does.of_below rfl Tryz.call256 (fun F L γ w vs h hlt => ?_)
 match vs, h with
 | [v], ⟨h1, _⟩ =>
  cases h1 with
  | int _ =>
   refine ⟨NB.str (Lib.decDigits i), fun F H m => .str (Nat.le_trans (ddg_len hi) (by decide)) .nl, ?_⟩
   exact (Any.strconv_Itoa_small lay171 i hi w).mono fun e w' ⟨h1, h2⟩ => ⟨h1, by rw [h2]; exact Below.refl _ _⟩
theorem num_spec (i : Nat) (hi : i < 100) : Does Tryz.prog 188 [.c (.int .i64 i)] [] (Rt (.c (.str (Lib.decDigits i))) []) := by
 refine X_spec (n := 5) (n0 := 0) tabOk Tryz.call188 Tryz.func188 ?_
 intro hb
 (conv => whnf)
 refine cl [] [] (itoa_spec i hi) ?_
 (conv => whnf)
 exact rx [] []
theorem Does.of_belowA {P : Program} {f : FuncId} {args : List A} {x : A} (hx : cleanA x = true) (hcall : ∀ args w, (callFunc f args).run P w = .ok (.enter f args) w)
  (h : ∀ (F L : Nat → Prop) (γ : List Value) (w : World) (vs : List Value), RAs F w.heap ⟨L, γ⟩ args vs → (∀ k, F k ∨ L k → k < w.heap.size) → ∃ v, (∀ F H m, RA F H m x v) ∧ Calls P f vs.toArray w fun e w' => e = .returned v ∧ Below w.heap.size w w') :
  Does P f args [] (Rt x []) := by
 intro F L γ H vs hargs hW w hw
 subst hw
 obtain ⟨v, h1, h2⟩ := h F L γ w vs hargs (fun k hk => hk.elim (hW.fb k) (fun hk => (hW.bb k hk).1))
 rw [hcall]
 refine ⟨rfl, h2.mono fun e w' ⟨he, hb⟩ => .inl ⟨v, he, ⟨.ret x, [], F, γ, ⟨rfl, rfl⟩, hx, rfl, rfl, h1 _ _ _, ?_⟩, ⟨hb.os, hb.tape, hb.output, fun h => by cases h⟩⟩⟩
 exact hW.same ⟨hb.size, fun k hk _ => hb.block k hk⟩
theorem atoi_spec (s : List UInt8) (n : Int) (hl : s.length ≤ 18) (h : Lib.atoi s = some n) : Does Tryz.prog 182 [.c (.str s)] [] (Rt (.tup [(false, [.int .i64 n]), (false, [.raw .nilIface])]) []) := by
 refine Does.of_belowA rfl Tryz.call182 (fun F L γ w vs hv hlt => ?_)
 match vs, hv with
 | [v], ⟨h1, _⟩ =>
  cases h1 with
  | str _ _ =>
   refine ⟨.tuple #[.int .i64 n, .nilIface], fun F H m => ⟨[.int .i64 n, .nilIface], rfl, ⟨_, .int .nl, rfl, fun _ => rfl⟩, ⟨_, .raw rfl .nl, rfl, fun _ => rfl⟩, trivial⟩, ?_⟩
   exact (Any.strconv_Atoi lay172 ⟨s.toArray⟩ n (by show s.toArray.size ≤ 18; simpa using hl) (by simpa using h) w).mono fun e w' ⟨h1, t, h2⟩ => ⟨h1, by rw [h2]; exact ⟨rfl, rfl, rfl, by rw [Lib.bytesWorld_size]; omega, fun k hk => Lib.bytesWorld_at_old w _ t k hk⟩⟩
end Go.Nest
