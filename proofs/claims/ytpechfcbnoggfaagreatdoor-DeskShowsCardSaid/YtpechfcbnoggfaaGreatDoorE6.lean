/- part -/
import Derived.Test.YtpechfcbnoggfaaGreatDoorE12
import Derived.Lib.UnsafeStr
set_option linter.unusedVariables false
set_option linter.unusedSimpArgs false

namespace Go.Nest
open Go Go.AM Go.NB Go.Proofs
open Go.Proofs.YtpechfcbnoggfaaGreatDoor (tab tabOk)
set_option maxRecDepth 4000
theorem bytes_of {F : Nat → Prop} {H : Heap} {m : Md} : ∀ {l : List UInt8} {cs : List Value}, RL F H m (l.flatMap bytesC) cs → cs = l.map bv
 | [], cs, h => by cases h; rfl
 | x :: l, cs, h => by
  have h : RL F H m (.int .u8 x.toNat :: l.flatMap bytesC) cs := h
  cases h with
  | int t => rw [bytes_of t]; rfl
theorem WR.addF {E : En} {F : Nat → Prop} {γ : List Value} {ah : List B} {H : Heap} (h : WR E F γ ah H) {k : Nat} (hk : k < H.size) (hno : ∀ (j : Nat) (b : B) (g : Value), ah[j]? = some b → γ[j]? = some g → k ∉ obv b g) (hown : E.own k ∨ E.H0.size ≤ k) :
  WR E (fun q => F q ∨ q = k) γ ah H := by
 have e : Ext F H ⟨E.B, γ⟩ (fun q => F q ∨ q = k) H ⟨E.B, γ⟩ := frozen_ext fun _ h => .inl h
 refine ⟨h.len, fun j b g hj hg => BR.ext e (fun _ _ => rfl) (h.br j b g hj hg), h.disj, fun j b g q hj hg hq => ⟨fun hf => hf.elim (h.nf j b g q hj hg hq).1 (fun he => hno j b g hj hg (he ▸ hq)), (h.nf j b g q hj hg hq).2⟩, fun q hq => hq.elim (h.fb q) (fun he => he ▸ hk), h.bb, h.size, h.keep, fun q hq => .inl (h.fmono q hq), fun q hq => hq.elim (h.fnew q) (fun he => he ▸ .inr hown), h.onew, h.pre⟩
theorem V.sliceData {c : Cx} {o : Oper} {env : Env} {S : Heap → Prop} {x : Operand} {t : TypeId} {k n cap : Nat} (ho : o.op = .call { callee := .builtin .unsafeSliceData, args := #[x], argTypes := #[t] }) (hx : Ev env x (.slice (some ⟨k, 0, none⟩) n (cap + 1))) : ValC c o env S (.pointer (some ⟨k, 0, none⟩)) := fun a w hf _ _ => by
 unfold execOp; rw [ho]; simp [resolve, invoke, builtin, hf.eval hx, Lib.run_unsafeSliceData_row]
theorem run_textOf {P : Program} {o : Oper} {a : Act} {w w' : World} {x y : Operand} {pt it : TypeId} {p q v : Value} (ho : o.op = .call { callee := .builtin .unsafeString, args := #[x, y], argTypes := #[pt, it] }) (hx : a.eval x = p) (hy : a.eval y = q)
  (hr : ∀ ty, (Builtin.unsafeString_ #[pt, it] ty #[p, q]).run P w = .ok v w') : (execOp a.eval o).run P w = .ok (.value v) w' := by
 unfold execOp; rw [ho]; simp [resolve, invoke, builtin, hx, hy, hr]
theorem string_raw {H : Heap} {b k cap : Nat} {a c2 : Value} {cur : Array Value} {l : List UInt8} (hb : H[b]? = some (.cells #[a, .slice (some ⟨k, 0, none⟩) l.length (cap + 1), c2] 111 (0, 0)))
  (hk : H[k]? = some (.cells cur 5 (0, 0))) (h0 : l ≠ []) (hn : l.length ≤ 9223372036854775807) (hl : l.length ≤ cur.size) (hcell : ∀ j x, l[j]? = some x → cell H k (0 + j) = some (bv x)) :
  CallsH Tryz.prog 48 #[.pointer (some ⟨b, 0, none⟩)] H (fun v H' => v = NB.str l ∧ Keep [k] H H' ∧ ∃ fr, H'[k]? = some (.cells cur 5 fr)) := by
 have hc : ∀ H', Is H H' → cell H' b 1 = some (.slice (some ⟨k, 0, none⟩) l.length (cap + 1)) := fun H' h => by rw [h]; unfold cell; rw [hb]; rfl
 refine enter (args := [.pointer (some ⟨b, 0, none⟩)]) Tryz.call48 Tryz.func48 rfl Tryz.ntmps48 (Nat.le_of_ble_eq_true rfl) fun W0 Q hQ => ?_
 repeat' first
      | with_reducible refine WC.seq ?_
      | with_reducible refine WC.region ?_
      | with_reducible refine WL.nil ?_
      | with_reducible refine SL.nil ?_
      | with_reducible refine NX.go ?_
      | with_reducible refine WC.ret ?_
      | with_reducible refine NX.of_ret ?_
      | ((with_reducible refine wlMark ?_); first | refine WL.det rfl rfl rfl (V.move rfl ⟨_, rfl, rfl⟩) ?_ | refine WL.det rfl rfl rfl (V.assign rfl ⟨_, rfl, rfl⟩) ?_ | fail)
      | ((with_reducible refine slMark ?_); first | refine SL.det rfl rfl rfl (V.move rfl ⟨_, rfl, rfl⟩) ?_ | refine SL.det rfl rfl rfl (V.nilCheck rfl ⟨_, rfl, rfl⟩) ?_ | refine SL.det rfl rfl rfl (V.fieldAddr 1 rfl Tryz.underlying109 rfl Tryz.sizeOf33 (by decide) ⟨_, rfl, rfl⟩ rfl) ?_ | refine SL.det rfl rfl rfl (V.load1 rfl Tryz.isAgg33 ⟨_, rfl, rfl⟩ hc) ?_ | refine SL.det rfl rfl rfl (V.len' Tryz.underlying33 rfl ⟨_, rfl, rfl⟩) ?_ | fail)
 refine WC.tail 10 (by kernel_rfl) (by kernel_rfl) ?_
 repeat' first
      | with_reducible refine WC.seq ?_
      | with_reducible refine WC.region ?_
      | with_reducible refine WL.nil ?_
      | with_reducible refine SL.nil ?_
      | with_reducible refine NX.go ?_
      | with_reducible refine WC.ret ?_
      | with_reducible refine NX.of_ret ?_
      | ((with_reducible refine wlMark ?_); first | refine WL.det rfl rfl rfl (V.move rfl ⟨_, rfl, rfl⟩) ?_ | refine WL.det rfl rfl rfl (V.assign rfl ⟨_, rfl, rfl⟩) ?_ | fail)
      | ((with_reducible refine slMark ?_); first | refine SL.det rfl rfl rfl (V.move rfl ⟨_, rfl, rfl⟩) ?_ | refine SL.det rfl rfl rfl (V.nilCheck rfl ⟨_, rfl, rfl⟩) ?_ | refine SL.det rfl rfl rfl (V.fieldAddr 1 rfl Tryz.underlying109 rfl Tryz.sizeOf33 (by decide) ⟨_, rfl, rfl⟩ rfl) ?_ | refine SL.det rfl rfl rfl (V.load1 rfl Tryz.isAgg33 ⟨_, rfl, rfl⟩ hc) ?_ | refine SL.det rfl rfl rfl (V.len' Tryz.underlying33 rfl ⟨_, rfl, rfl⟩) ?_ | fail)
 refine SL.det rfl rfl rfl (V.sliceData rfl ⟨_, rfl, rfl⟩) ?_
 repeat' first
      | with_reducible refine WC.seq ?_
      | with_reducible refine WC.region ?_
      | with_reducible refine WL.nil ?_
      | with_reducible refine SL.nil ?_
      | with_reducible refine NX.go ?_
      | with_reducible refine WC.ret ?_
      | with_reducible refine NX.of_ret ?_
      | ((with_reducible refine wlMark ?_); first | refine WL.det rfl rfl rfl (V.move rfl ⟨_, rfl, rfl⟩) ?_ | refine WL.det rfl rfl rfl (V.assign rfl ⟨_, rfl, rfl⟩) ?_ | fail)
      | ((with_reducible refine slMark ?_); first | refine SL.det rfl rfl rfl (V.move rfl ⟨_, rfl, rfl⟩) ?_ | refine SL.det rfl rfl rfl (V.nilCheck rfl ⟨_, rfl, rfl⟩) ?_ | refine SL.det rfl rfl rfl (V.fieldAddr 1 rfl Tryz.underlying109 rfl Tryz.sizeOf33 (by decide) ⟨_, rfl, rfl⟩ rfl) ?_ | refine SL.det rfl rfl rfl (V.load1 rfl Tryz.isAgg33 ⟨_, rfl, rfl⟩ hc) ?_ | refine SL.det rfl rfl rfl (V.len' Tryz.underlying33 rfl ⟨_, rfl, rfl⟩) ?_ | fail)
 refine WL.newAny (Φ := fun v H' => v = NB.str l ∧ Keep [k] H H' ∧ ∃ fr, H'[k]? = some (.cells cur 5 fr)) rfl rfl rfl (fun a w hf hw => ?_) (fun v H' h => ?_)
 ·subst hw
  refine ⟨NB.str l, w.freeze ⟨k, 0, none⟩ l.length, ?_, ⟨rfl, ?_, ?_⟩, ?_⟩
  ·exact run_textOf rfl (hf.eval ⟨_, rfl, rfl⟩) (hf.eval ⟨_, rfl, rfl⟩) (fun ty => Lib.run_unsafeString_row (P := Tryz.prog) w 183 3 ty 5 Tryz.underlying183 (by kernel_rfl) k cur.size (by unfold World.shape?; rw [hk]) l h0 hl hn (fun j x hj => by rw [Addr.add_lit, cell?_of rfl]; exact hcell j x hj))
  ·have hlz : l.length ≠ 0 := by simpa using h0
   refine ⟨by unfold World.freeze; rw [if_neg hlz]; simp, fun q hq hm => ?_⟩
   unfold World.freeze
   rw [if_neg hlz]
   simp only [Array.getElem?_modify]
   rw [if_neg (fun e => hm (by simp [e]))]
  ·have hlz : l.length ≠ 0 := by simpa using h0
   unfold World.freeze
   rw [if_neg hlz]
   simp only [Array.getElem?_modify, if_true, hk]
   exact ⟨_, rfl⟩
  ·unfold World.freeze
   split
   ·exact Amb.refl _
   ·exact Amb.of rfl rfl rfl
 obtain ⟨rfl, h1, h2⟩ := h
 repeat' first
      | with_reducible refine WC.seq ?_
      | with_reducible refine WC.region ?_
      | with_reducible refine WL.nil ?_
      | with_reducible refine SL.nil ?_
      | with_reducible refine NX.go ?_
      | with_reducible refine WC.ret ?_
      | with_reducible refine NX.of_ret ?_
      | ((with_reducible refine wlMark ?_); first | refine WL.det rfl rfl rfl (V.move rfl ⟨_, rfl, rfl⟩) ?_ | refine WL.det rfl rfl rfl (V.assign rfl ⟨_, rfl, rfl⟩) ?_ | fail)
      | ((with_reducible refine slMark ?_); first | refine SL.det rfl rfl rfl (V.move rfl ⟨_, rfl, rfl⟩) ?_ | refine SL.det rfl rfl rfl (V.nilCheck rfl ⟨_, rfl, rfl⟩) ?_ | refine SL.det rfl rfl rfl (V.fieldAddr 1 rfl Tryz.underlying109 rfl Tryz.sizeOf33 (by decide) ⟨_, rfl, rfl⟩ rfl) ?_ | refine SL.det rfl rfl rfl (V.load1 rfl Tryz.isAgg33 ⟨_, rfl, rfl⟩ hc) ?_ | refine SL.det rfl rfl rfl (V.len' Tryz.underlying33 rfl ⟨_, rfl, rfl⟩) ?_ | fail)
 exact ret1 hQ rfl rfl ⟨_, rfl, rfl⟩ ⟨rfl, h1, h2⟩
theorem string_spec (l : List UInt8) (h0 : l ≠ []) : Does Tryz.prog 48 [.c (.ptr 0 0)] [.box [.ptr 0 0, .rw 1, .ptr 2 0] (some 111), .buf 5 1 UInt8 bytesC l, .dead]
  (Rt (.c (.str l)) [.box [.ptr 0 0, .ls 1 UInt8 bytesC l, .ptr 2 0] (some 111), .dead, .dead]) := by
 intro F L γ H vs hargs hW
 match vs, hargs with
 | [v], ⟨hv, _⟩ =>
  cases hv with
  | @ptr _ _ _ b _ _ hg _ =>
   have hg : γ[0]? = some (.pointer (some ⟨b, 0, none⟩)) := hg
   obtain ⟨kb, e, us, he, h1, h2⟩ := hW.br 0 _ _ rfl hg
   obtain rfl : b = kb := by simpa using he
   have h2 : RL F H ⟨L, γ⟩ [.ptr 0 0, .rw 1, .ptr 2 0] us := h2
   cases h2 with
   | @ptr _ _ _ b0 _ us0 hg0 t0 =>
    cases t0 with
    | @rw _ _ p q n cap _ us1 hg1 hq t1 =>
     have hg1 : γ[1]? = some (.slice p n cap) := hg1
     obtain ⟨u2, rfl⟩ : ∃ u2, us1 = [u2] := by
      have := t1.length
      match us1, this with
      | [u2], _ => exact ⟨u2, rfl⟩
     rcases hW.br 1 _ _ rfl hg1 with ⟨p', hp, hl0⟩ | ⟨k, cap', cur, css, hpe, h3, h4, h5, h6, h7, h8, h9⟩
     ·exact absurd hl0 h0
     obtain ⟨rfl, rfl, rfl⟩ : p = some ⟨k, 0, none⟩ ∧ n = l.length ∧ cap = cap' + 1 := by simpa using hpe
     obtain rfl := hq (by omega)
     obtain rfl := bytes_of h7
     rw [List.length_map] at h9
     have hm : ∀ H2 : Heap, (∃ fr, H2[k]? = some (.cells cur 5 fr)) → ∀ j u, (l.map bv)[j]? = some u → cell H2 k (0 + j) = some u := fun H2 ⟨fr, hk2⟩ j u hj => by
      unfold cell
      rw [hk2, Nat.zero_add]
      have hjl : j < l.length := by
       have := (List.getElem?_eq_some_iff.1 hj).1
       simpa using this
      rw [← h9, List.getElem?_take_of_lt hjl, Array.getElem?_toList] at hj
      exact hj
     have hmx : l.length ≤ 9223372036854775807 := Nat.le_trans h4 h5
     refine (CallsH.toP (string_raw h1 h3 h0 hmx (by omega) (fun j x hj => hm H ⟨_, h3⟩ j _ (by rw [List.getElem?_map, hj]; rfl)))).mono fun ok v H' ⟨hok, hv, q1, q2⟩ => ?_
     subst hok hv
     have hobk : obv (.buf 5 1 UInt8 bytesC l) (.slice (some ⟨k, 0, none⟩) l.length (cap' + 1)) = [k] := rfl
     have hob : obv (.box [.ptr 0 0, .rw 1, .ptr 2 0] (some 111)) (.pointer (some ⟨b, 0, none⟩)) = [b] := rfl
     have hbk : b ≠ k := fun e => hW.disj 0 1 _ _ _ _ (by decide) rfl hg rfl hg1 b (by rw [hob]; simp) (by rw [hobk, e]; simp)
     have hW1 := hW.upd (j := 1) (b1 := .dead) rfl hg1 (by rw [hobk]; exact q1) (fun q hq => by simp [obv] at hq) trivial
     have hks : k < H'.size := by
      obtain ⟨fr, h⟩ := q2
      exact (Array.getElem?_eq_some_iff.1 h).1
     have hW2 := WR.addF hW1 hks (fun j b' g hj hgj hkm => by
      rcases get_set hj with ⟨hne, hj'⟩ | ⟨rfl, _, rfl⟩
      ·exact hW.disj j 1 _ _ _ _ hne hj' hgj rfl hg1 k hkm (by rw [hobk]; simp)
      ·simp [obv] at hkm) (hW.onew 1 _ _ k rfl hg1 (by rw [hobk]; simp))
     have ex := hW.ext (γ' := []) (W := [k]) (fun q hq => hW.nf 1 _ _ q rfl hg1 (by rw [hobk]; exact hq)) q1
     rw [List.append_nil] at ex
     have ex2 : Ext F H' ⟨L, γ⟩ (fun q => F q ∨ q = k) H' ⟨L, γ⟩ := frozen_ext fun _ h => .inl h
     have hb' := q1.2 b (Array.getElem?_eq_some_iff.1 h1).1 (by simpa using hbk)
     have hW3 := hW2.upd (j := 0) (b1 := .box [.ptr 0 0, .ls 1 UInt8 bytesC l, .ptr 2 0] (some 111)) rfl hg (Keep.refl _ _) (fun q hq => hq) ⟨b, 111, _, rfl, hb'.trans h1, .ptr hg0 (.ls (.inr rfl) h4 h5 (flat_bytes l) (fun _ _ => rfl) (hm H' q2) ((t1.ext ex).ext ex2))⟩
     exact ⟨.ret (.c (.str l)), _, _, γ, ⟨rfl, rfl⟩, rfl, rfl, rfl, .str hmx .nl, hW3⟩
end Go.Nest
