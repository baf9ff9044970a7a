/- part -/
import Derived.Test.YtpechfcbnoggfaaGreatDoorI2
import Derived.Test.YtpechfcbnoggfaaGreatDoorL0
import Derived.Lib.Builder
import Derived.Test.YtpechfcbnoggfaaGreatDoorAmI
set_option linter.unusedVariables false
set_option linter.unusedSimpArgs false
section

namespace Go.Nest
open Go Go.AM Go.NB Go.Proofs
open Go.Proofs.YtpechfcbnoggfaaGreatDoor (tab tabOk)
set_option maxRecDepth 4000
theorem V.ptrNil {c : Cx} {o : Oper} {env : Env} {S : Heap → Prop} {t u : TypeId} {x y : Operand} {p : Addr} (ht : ∃ e, c.P.underlying t = some (.pointer e)) (ho : o.op = .binOp .eql t x y u) (hx : Ev env x (.pointer (some p))) (hy : Ev env y (.pointer none)) : ValC c o env S (.bool false) :=
 V.bin ho hx hy (fun w => by simp [binOp, equal_nil w ht]) (fun w => by rw [eqGuard_at_pointer]; rfl)
theorem V.nilNil {c : Cx} {o : Oper} {env : Env} {S : Heap → Prop} {t u : TypeId} {x y : Operand} (ht : ∃ e, c.P.underlying t = some (.pointer e)) (ho : o.op = .binOp .eql t x y u) (hx : Ev env x (.pointer none)) (hy : Ev env y (.pointer none)) : ValC c o env S (.bool true) :=
 V.bin ho hx hy (fun w => by obtain ⟨e, ht⟩ := ht; have h : ∀ n, (Op.equalIn (n + 1) t (.pointer none) (.pointer none)).run c.P w = .ok true w := (fun n => by simp [Op.equalIn, run_underlying ht]); simp [binOp, Op.equal, Op.maxDepth, h 9999]) (fun w => by rw [eqGuard_at_pointer]; rfl)
theorem V.ptrSame {c : Cx} {o : Oper} {env : Env} {S : Heap → Prop} {t u te : TypeId} {j : TypeInfo} {x y : Operand} {p : Addr} (ht : c.P.underlying t = some (.pointer te)) (hte : c.P.info? te = some j) (ho : o.op = .binOp .neq t x y u) (hx : Ev env x (.pointer (some p))) (hy : Ev env y (.pointer (some p))) : ValC c o env S (.bool false) :=
 V.bin ho hx hy (fun w => Lib.run_neq_ptr_same w p ht hte) (fun w => by rw [eqGuard_at_pointer]; rfl)
theorem noEscape_raw {H : Heap} (x : Value) : CallsH Tryz.prog 312 #[x] H (fun v H' => v = x ∧ H' = H) := by
 intro w hw
 subst hw
 rw [run_callFunc_extern Tryz.func312 (by kernel_rfl) (by kernel_rfl) (by kernel_rfl) (e := Extern.AbiNoEscape.same) (by kernel_rfl), Lib.run_noEscape]
 exact ⟨rfl, rfl, rfl⟩
theorem copyCheck_new {H : Heap} {b : Nat} {c1 c2 : Value} (hb : H[b]? = some (.cells #[.pointer none, c1, c2] 111 (0, 0))) :
  CallsH Tryz.prog 264 #[.pointer (some ⟨b, 0, none⟩)] H (fun v H' => v = .tuple #[] ∧ H'[b]? = some (.cells #[.pointer (some ⟨b, 0, none⟩), c1, c2] 111 (0, 0)) ∧ Keep [b] H H') := by
 have hc : ∀ H', Is H H' → cell H' b 0 = some (.pointer none) := fun H' h => by rw [h]; unfold cell; rw [hb]; rfl
 have hs : ∀ w : World, Is H w.heap → w.shape? b = some (111, 3) := fun w h => by unfold World.shape?; rw [show w.heap = H from h, hb]; rfl
 obtain ⟨j, hj, hjs⟩ : ∃ j, Tryz.prog.info? 109 = some j ∧ j.size ≠ 0 := ⟨_, rfl, by decide⟩
 refine enter (args := [.pointer (some ⟨b, 0, none⟩)]) Tryz.call264 Tryz.func264 rfl Tryz.ntmps264 (Nat.le_of_ble_eq_true rfl) fun W0 Q hQ => ?_
 repeat' first
      | with_reducible refine WC.seq ?_
      | with_reducible refine WC.skip ?_
      | with_reducible refine WC.region ?_
      | with_reducible refine WL.nil ?_
      | with_reducible refine NX.go ?_
      | with_reducible refine WC.ret ?_
      | with_reducible refine NX.of_ret ?_
      | ((with_reducible refine wlMark ?_); first | refine WL.det rfl rfl rfl (V.move rfl ⟨_, rfl, rfl⟩) ?_ | refine WL.det rfl rfl rfl (V.nilCheck rfl ⟨_, rfl, rfl⟩) ?_ | refine WL.det rfl rfl rfl (V.fieldAddr 0 rfl Tryz.underlying109 rfl Tryz.sizeOf107 (by decide) ⟨_, rfl, rfl⟩ rfl) ?_ | fail)
 refine WL.det rfl rfl rfl (V.load1 rfl Tryz.isAgg107 ⟨_, rfl, rfl⟩ hc) ?_
 refine WL.det rfl rfl rfl (V.nilNil ⟨_, Tryz.underlying107⟩ rfl ⟨_, rfl, rfl⟩ ⟨_, rfl, rfl⟩) ?_
 repeat' first
      | with_reducible refine WC.seq ?_
      | with_reducible refine WC.skip ?_
      | with_reducible refine WC.region ?_
      | with_reducible refine WL.nil ?_
      | with_reducible refine NX.go ?_
      | with_reducible refine WC.ret ?_
      | with_reducible refine NX.of_ret ?_
      | ((with_reducible refine wlMark ?_); first | refine WL.det rfl rfl rfl (V.move rfl ⟨_, rfl, rfl⟩) ?_ | refine WL.det rfl rfl rfl (V.nilCheck rfl ⟨_, rfl, rfl⟩) ?_ | refine WL.det rfl rfl rfl (V.fieldAddr 0 rfl Tryz.underlying109 rfl Tryz.sizeOf107 (by decide) ⟨_, rfl, rfl⟩ rfl) ?_ | fail)
 refine WC.cond ⟨_, rfl, rfl⟩ (fun _ => ?_) (fun h => by cases h)
 repeat' first
      | with_reducible refine WC.seq ?_
      | with_reducible refine WC.skip ?_
      | with_reducible refine WC.region ?_
      | with_reducible refine WL.nil ?_
      | with_reducible refine NX.go ?_
      | with_reducible refine WC.ret ?_
      | with_reducible refine NX.of_ret ?_
      | ((with_reducible refine wlMark ?_); first | refine WL.det rfl rfl rfl (V.move rfl ⟨_, rfl, rfl⟩) ?_ | refine WL.det rfl rfl rfl (V.nilCheck rfl ⟨_, rfl, rfl⟩) ?_ | refine WL.det rfl rfl rfl (V.fieldAddr 0 rfl Tryz.underlying109 rfl Tryz.sizeOf107 (by decide) ⟨_, rfl, rfl⟩ rfl) ?_ | fail)
 refine WL.det rfl rfl rfl (V.conv rfl ⟨_, rfl, rfl⟩ (fun w hw => Lib.run_to_unsafe w ⟨b, 0, none⟩ Tryz.underlying107 Tryz.underlying343 hj hjs (hs w hw) (Nat.zero_lt_succ 2))) ?_
 refine WL.call rfl rfl rfl rfl (.cons ⟨_, rfl, rfl⟩ .nil) (noEscape_raw _) (fun v H' hR => ?_)
 obtain ⟨rfl, rfl⟩ := hR
 refine WL.det rfl rfl rfl (V.conv rfl ⟨_, rfl, rfl⟩ (fun w hw => Lib.run_from_unsafe w ⟨b, 0, none⟩ Tryz.underlying343 Tryz.underlying107 hj (hs w hw) (by kernel_rfl))) ?_
 repeat' first
      | with_reducible refine WC.seq ?_
      | with_reducible refine WC.skip ?_
      | with_reducible refine WC.region ?_
      | with_reducible refine WL.nil ?_
      | with_reducible refine NX.go ?_
      | with_reducible refine WC.ret ?_
      | with_reducible refine NX.of_ret ?_
      | ((with_reducible refine wlMark ?_); first | refine WL.det rfl rfl rfl (V.move rfl ⟨_, rfl, rfl⟩) ?_ | refine WL.det rfl rfl rfl (V.nilCheck rfl ⟨_, rfl, rfl⟩) ?_ | refine WL.det rfl rfl rfl (V.fieldAddr 0 rfl Tryz.underlying109 rfl Tryz.sizeOf107 (by decide) ⟨_, rfl, rfl⟩ rfl) ?_ | fail)
 refine WL.store (e := 111) (cs := [.pointer none, c1, c2]) (vs := [.pointer (some ⟨b, 0, none⟩)]) rfl rfl rfl ⟨_, rfl, rfl⟩ ⟨_, rfl, rfl⟩ rfl Tryz.sizeOf107 (fun u hu => by simp at hu; subst hu; rfl) hb (Nat.le_of_ble_eq_true rfl) (fun H' h1 h2 => ?_)
 repeat' first
      | with_reducible refine WC.seq ?_
      | with_reducible refine WC.skip ?_
      | with_reducible refine WC.region ?_
      | with_reducible refine WL.nil ?_
      | with_reducible refine NX.go ?_
      | with_reducible refine WC.ret ?_
      | with_reducible refine NX.of_ret ?_
      | ((with_reducible refine wlMark ?_); first | refine WL.det rfl rfl rfl (V.move rfl ⟨_, rfl, rfl⟩) ?_ | refine WL.det rfl rfl rfl (V.nilCheck rfl ⟨_, rfl, rfl⟩) ?_ | refine WL.det rfl rfl rfl (V.fieldAddr 0 rfl Tryz.underlying109 rfl Tryz.sizeOf107 (by decide) ⟨_, rfl, rfl⟩ rfl) ?_ | fail)
 exact end0 hQ rfl rfl ⟨rfl, h1, h2⟩
theorem copyCheck_old {H : Heap} {b : Nat} {c1 c2 : Value} (hb : H[b]? = some (.cells #[.pointer (some ⟨b, 0, none⟩), c1, c2] 111 (0, 0))) :
  CallsH Tryz.prog 264 #[.pointer (some ⟨b, 0, none⟩)] H (fun v H' => v = .tuple #[] ∧ H' = H) := by
 have hc : ∀ H', Is H H' → cell H' b 0 = some (.pointer (some ⟨b, 0, none⟩)) := fun H' h => by rw [h]; unfold cell; rw [hb]; rfl
 obtain ⟨j, hj, hjs⟩ : ∃ j, Tryz.prog.info? 109 = some j ∧ j.size ≠ 0 := ⟨_, rfl, by decide⟩
 refine enter (args := [.pointer (some ⟨b, 0, none⟩)]) Tryz.call264 Tryz.func264 rfl Tryz.ntmps264 (Nat.le_of_ble_eq_true rfl) fun W0 Q hQ => ?_
 repeat' first
      | with_reducible refine WC.seq ?_
      | with_reducible refine WC.skip ?_
      | with_reducible refine WC.region ?_
      | with_reducible refine WL.nil ?_
      | with_reducible refine NX.go ?_
      | with_reducible refine WC.ret ?_
      | with_reducible refine NX.of_ret ?_
      | ((with_reducible refine wlMark ?_); first | refine WL.det rfl rfl rfl (V.move rfl ⟨_, rfl, rfl⟩) ?_ | refine WL.det rfl rfl rfl (V.nilCheck rfl ⟨_, rfl, rfl⟩) ?_ | refine WL.det rfl rfl rfl (V.fieldAddr 0 rfl Tryz.underlying109 rfl Tryz.sizeOf107 (by decide) ⟨_, rfl, rfl⟩ rfl) ?_ | fail)
 refine WL.det rfl rfl rfl (V.load1 rfl Tryz.isAgg107 ⟨_, rfl, rfl⟩ hc) ?_
 refine WL.det rfl rfl rfl (V.ptrNil ⟨_, Tryz.underlying107⟩ rfl ⟨_, rfl, rfl⟩ ⟨_, rfl, rfl⟩) ?_
 repeat' first
      | with_reducible refine WC.seq ?_
      | with_reducible refine WC.skip ?_
      | with_reducible refine WC.region ?_
      | with_reducible refine WL.nil ?_
      | with_reducible refine NX.go ?_
      | with_reducible refine WC.ret ?_
      | with_reducible refine NX.of_ret ?_
      | ((with_reducible refine wlMark ?_); first | refine WL.det rfl rfl rfl (V.move rfl ⟨_, rfl, rfl⟩) ?_ | refine WL.det rfl rfl rfl (V.nilCheck rfl ⟨_, rfl, rfl⟩) ?_ | refine WL.det rfl rfl rfl (V.fieldAddr 0 rfl Tryz.underlying109 rfl Tryz.sizeOf107 (by decide) ⟨_, rfl, rfl⟩ rfl) ?_ | fail)
 refine WC.cond ⟨_, rfl, rfl⟩ (fun h => by cases h) (fun _ => ?_)
 repeat' first
      | with_reducible refine WC.seq ?_
      | with_reducible refine WC.skip ?_
      | with_reducible refine WC.region ?_
      | with_reducible refine WL.nil ?_
      | with_reducible refine NX.go ?_
      | with_reducible refine WC.ret ?_
      | with_reducible refine NX.of_ret ?_
      | ((with_reducible refine wlMark ?_); first | refine WL.det rfl rfl rfl (V.move rfl ⟨_, rfl, rfl⟩) ?_ | refine WL.det rfl rfl rfl (V.nilCheck rfl ⟨_, rfl, rfl⟩) ?_ | refine WL.det rfl rfl rfl (V.fieldAddr 0 rfl Tryz.underlying109 rfl Tryz.sizeOf107 (by decide) ⟨_, rfl, rfl⟩ rfl) ?_ | fail)
 refine WL.det rfl rfl rfl (V.load1 rfl Tryz.isAgg107 ⟨_, rfl, rfl⟩ hc) ?_
 repeat' first
      | with_reducible refine WC.seq ?_
      | with_reducible refine WC.skip ?_
      | with_reducible refine WC.region ?_
      | with_reducible refine WL.nil ?_
      | with_reducible refine NX.go ?_
      | with_reducible refine WC.ret ?_
      | with_reducible refine NX.of_ret ?_
      | ((with_reducible refine wlMark ?_); first | refine WL.det rfl rfl rfl (V.move rfl ⟨_, rfl, rfl⟩) ?_ | refine WL.det rfl rfl rfl (V.nilCheck rfl ⟨_, rfl, rfl⟩) ?_ | refine WL.det rfl rfl rfl (V.fieldAddr 0 rfl Tryz.underlying109 rfl Tryz.sizeOf107 (by decide) ⟨_, rfl, rfl⟩ rfl) ?_ | fail)
 refine WL.det rfl rfl rfl (V.ptrSame Tryz.underlying107 hj rfl ⟨_, rfl, rfl⟩ ⟨_, rfl, rfl⟩) ?_
 repeat' first
      | with_reducible refine WC.seq ?_
      | with_reducible refine WC.skip ?_
      | with_reducible refine WC.region ?_
      | with_reducible refine WL.nil ?_
      | with_reducible refine NX.go ?_
      | with_reducible refine WC.ret ?_
      | with_reducible refine NX.of_ret ?_
      | ((with_reducible refine wlMark ?_); first | refine WL.det rfl rfl rfl (V.move rfl ⟨_, rfl, rfl⟩) ?_ | refine WL.det rfl rfl rfl (V.nilCheck rfl ⟨_, rfl, rfl⟩) ?_ | refine WL.det rfl rfl rfl (V.fieldAddr 0 rfl Tryz.underlying109 rfl Tryz.sizeOf107 (by decide) ⟨_, rfl, rfl⟩ rfl) ?_ | fail)
 refine WC.cond ⟨_, rfl, rfl⟩ (fun h => by cases h) (fun _ => ?_)
 repeat' first
      | with_reducible refine WC.seq ?_
      | with_reducible refine WC.skip ?_
      | with_reducible refine WC.region ?_
      | with_reducible refine WL.nil ?_
      | with_reducible refine NX.go ?_
      | with_reducible refine WC.ret ?_
      | with_reducible refine NX.of_ret ?_
      | ((with_reducible refine wlMark ?_); first | refine WL.det rfl rfl rfl (V.move rfl ⟨_, rfl, rfl⟩) ?_ | refine WL.det rfl rfl rfl (V.nilCheck rfl ⟨_, rfl, rfl⟩) ?_ | refine WL.det rfl rfl rfl (V.fieldAddr 0 rfl Tryz.underlying109 rfl Tryz.sizeOf107 (by decide) ⟨_, rfl, rfl⟩ rfl) ?_ | fail)
 exact end0 hQ rfl rfl ⟨rfl, rfl⟩
end Go.Nest
end
/- part -/
section

namespace Go.Nest
open Go Go.AM Go.NB Go.Proofs
open Go.Proofs.YtpechfcbnoggfaaGreatDoor (tab tabOk)
set_option maxRecDepth 4000
def own1 (u : Bool) : C := bif u then .ptr 0 0 else .raw (.pointer none)
theorem copyCheck_spec (u : Bool) (c1 c2 : C) (rest : List B) (hcl : cleanB [c1, c2] = true) (hcr : rest.all cleanBlk = true) :
  Does Tryz.prog 264 [.c (.ptr 0 0)] (.box [own1 u, c1, c2] (some 111) :: rest) (Rt (.tup []) (.box [.ptr 0 0, c1, c2] (some 111) :: rest)) := by
 intro F L γ H vs hargs hW
 match vs, hargs with
 | [v], ⟨hv, _⟩ =>
  have hcb : (B.box [.ptr 0 0, c1, c2] (some 111) :: rest).all cleanBlk = true := by
   rw [List.all_cons, hcr, Bool.and_true]
   exact hcl
  cases hv with
  | @ptr _ _ _ b _ _ hg _ =>
   have hg : γ[0]? = some (.pointer (some ⟨b, 0, none⟩)) := hg
   obtain ⟨k, e, us, he, h1, h2⟩ := hW.br 0 _ _ rfl hg
   obtain rfl : b = k := by simpa using he
   cases u with
   | false =>
    have h2 : RL F H ⟨L, γ⟩ [.raw (.pointer none), c1, c2] us := h2
    cases h2 with
    | @raw _ _ _ us' ho t =>
     obtain ⟨u1, u2, rfl⟩ : ∃ u1 u2, us' = [u1, u2] := by
      have := t.length
      match us', this with
      | [u1, u2], _ => exact ⟨u1, u2, rfl⟩
     refine (CallsH.toP (copyCheck_new h1)).mono fun ok v H' ⟨hok, hv, q1, q2⟩ => ?_
     subst hok hv
     have hob : obv (.box [own1 false, c1, c2] (some 111)) (.pointer (some ⟨b, 0, none⟩)) = [b] := rfl
     have ex := hW.ext (γ' := []) (W := [b]) (fun q hq => hW.nf 0 _ _ q rfl hg (by rw [hob]; exact hq)) q2
     rw [List.append_nil] at ex
     refine ⟨.ret (.tup []), _, F, γ, ⟨rfl, rfl⟩, rfl, hcb, rfl, ⟨[], rfl, trivial⟩, ?_⟩
     exact hW.upd (j := 0) (b1 := .box [.ptr 0 0, c1, c2] (some 111)) rfl hg (by rw [hob]; exact q2) (fun q hq => hq) ⟨b, 111, _, rfl, q1, .ptr hg (t.ext ex)⟩
   | true =>
    have h2 : RL F H ⟨L, γ⟩ [.ptr 0 0, c1, c2] us := h2
    cases h2 with
    | @ptr _ _ _ b2 _ us' hg2 t =>
     have hg2 : γ[0]? = some (.pointer (some ⟨b2, 0, none⟩)) := hg2
     rw [hg] at hg2
     obtain rfl : b = b2 := by simpa using hg2
     obtain ⟨u1, u2, rfl⟩ : ∃ u1 u2, us' = [u1, u2] := by
      have := t.length
      match us', this with
      | [u1, u2], _ => exact ⟨u1, u2, rfl⟩
     refine (CallsH.toP (copyCheck_old h1)).mono fun ok v H' ⟨hok, hv, hH⟩ => ?_
     subst hok hv hH
     exact ⟨.ret (.tup []), _, F, γ, ⟨rfl, rfl⟩, rfl, hcb, rfl, ⟨[], rfl, trivial⟩, hW⟩
end Go.Nest
end
/- part -/
section

namespace Go.Nest
open Go Go.AM Go.Proofs
open Go.Proofs.YtpechfcbnoggfaaGreatDoor (tab tabOk)
set_option maxRecDepth 4000
set_option maxHeartbeats 1000000 in
theorem writeString_spec (u : Bool) (l s : List UInt8) (hl : l.length + s.length ≤ 100000000) : Does Tryz.prog 189 [.c (.ptr 0 0), .c (.str s)] [.box [own1 u, .rw 1, .ptr 2 0] (some 111), .buf 5 1 UInt8 bytesC l, .dead]
  (Rt (.tup [(false, [.int .i64 s.length]), (false, [.raw .nilIface])]) [.box [.ptr 0 0, .rw 3, .ptr 2 0] (some 111), .dead, .dead, .buf 5 1 UInt8 bytesC (l ++ s)]) := by
 cases u
 ·refine X_spec (n := 19) (n0 := 3) tabOk Tryz.call189 Tryz.func189 ?_
  intro hb
  (conv => whnf)
  refine cl [] [0, 1, 2] (copyCheck_spec false (.rw 1) (.ptr 2 0) [.buf 5 1 UInt8 bytesC l, .dead] rfl rfl) ?_
  (conv => whnf)
  refine ⟨l, s, rfl, rfl, by simp only []; omega, ?_⟩
  (conv => whnf)
  exact rx [] [.same 0, .same 1, .same 2, .same 3]
 ·refine X_spec (n := 19) (n0 := 3) tabOk Tryz.call189 Tryz.func189 ?_
  intro hb
  (conv => whnf)
  refine cl [] [0, 1, 2] (copyCheck_spec true (.rw 1) (.ptr 2 0) [.buf 5 1 UInt8 bytesC l, .dead] rfl rfl) ?_
  (conv => whnf)
  refine ⟨l, s, rfl, rfl, by simp only []; omega, ?_⟩
  (conv => whnf)
  exact rx [] [.same 0, .same 1, .same 2, .same 3]
end Go.Nest
end
/- part -/
section

namespace Go.Nest
open Go Go.AM Go.Proofs
open Go.Proofs.YtpechfcbnoggfaaGreatDoor (tab tabOk)
set_option maxRecDepth 4000
theorem reset0_spec (u : Bool) : Does Tryz.prog 46 [.c (.ptr 0 0)] [.box [own1 u, .nil, .ptr 1 0] (some 111), .dead] (Rt (.tup []) [.box [own1 false, .nil, .ptr 1 0] (some 111), .dead]) := by
 cases u <;>
 ·refine X_spec (n := 8) (n0 := 2) tabOk Tryz.call46 Tryz.func46 ?_
  intro hb
  (conv => whnf)
  exact rx [] [.same 0, .same 1]
theorem reset1_spec (u : Bool) (l : List UInt8) : Does Tryz.prog 46 [.c (.ptr 0 0)] [.box [own1 u, .ls 1 UInt8 bytesC l, .ptr 1 0] (some 111), .dead] (Rt (.tup []) [.box [own1 false, .nil, .ptr 1 0] (some 111), .dead]) := by
 cases u <;>
 ·refine X_spec (n := 8) (n0 := 2) tabOk Tryz.call46 Tryz.func46 ?_
  intro hb
  (conv => whnf)
  exact rx [] [.same 0, .same 1]
end Go.Nest
end
