/- part -/
import Derived.Test.YtpmjnbidmcnhnaaGreatDoorD9
import Derived.Test.YtpmjnbidmcnhnaaGreatDoorG5
set_option linter.unusedVariables false
set_option linter.unusedSimpArgs false
section

namespace Go.Nest
open Go Go.AM
inductive Nd (L : List Ob) (ro : Nat → List Int) : Nat → Int → Prop
 | root {r : Nat} {x k : Int} (hr : r < 4) (h : x ∈ ro r) (hl : Led L [x] k) : Nd L ro r k
 | link {r : Nat} {k m : Int} {e : Ent} (h : Nd L ro r k) (he : e ∈ (getP L k).entries) (hm : e.mode = 3) (hl : Led L [e.id] m) : Nd L ro e.repo.toNat m
noncomputable def needP (L : List Ob) (ro : Nat → List Int) (r : Nat) : List Int := ((List.range L.length).filter fun k : Nat => @decide (Nd L ro r (k : Int)) (Classical.propDecidable _)).map fun k : Nat => (k : Int)
structure RS where
 ro : Nat → List Int
 out : Nat → List Int
 more : Bool
def sum4 (f : Nat → Nat) : Nat := f 0 + (f 1 + (f 2 + f 3))
def muN (L : List Ob) (n : Nat → Nat) (s : RS) : Nat := sum4 (fun r => 600 + n r - (s.ro r).length) + sum4 (fun r => L.length - (s.out r).length)
structure RInv (L : List Ob) (r0 : Nat → List Int) (s : RS) : Prop where
 sub : ∀ r, r < 4 → ∀ x ∈ r0 r, x ∈ s.ro r
 nd : ∀ r, r < 4 → ∀ x ∈ s.ro r, ∀ k, Led L [x] k → Nd L r0 r k
 ext : ∀ r, r < 4 → ∃ ex, s.ro r = r0 r ++ ex ∧ ex.Nodup ∧ ∀ x ∈ ex, 0 ≤ x ∧ x < (600 : Nat)
 out : ∀ r, r < 4 → ∀ k ∈ s.out r, k ∈ reachP L (s.ro r)
 onod : ∀ r, r < 4 → (s.out r).Nodup
theorem RInv.len {L : List Ob} {r0 : Nat → List Int} {s : RS} (h : RInv L r0 s) {r : Nat} (hr : r < 4) : (s.ro r).length ≤ (r0 r).length + 600 := by
 obtain ⟨ex, e, h1, h2⟩ := h.ext r hr
 rw [e, List.length_append]
 have := nodup_len 600 h1 h2
 omega
structure Fin4 (L : List Ob) (s : RS) : Prop where
 out : ∀ r, r < 4 → s.out r = reachP L (s.ro r)
 clo : ∀ r, r < 4 → ∀ l ∈ linksP L (s.out r), l.2 ∈ s.ro l.1.toNat
theorem led_one {L : List Ob} {ids : List Int} {k : Int} (h : Led L ids k) : ∃ x ∈ ids, Led L [x] k := by
 induction h with
 | base h hk => exact ⟨_, h, .base (by simp) hk⟩
 | step h hk ih =>
  obtain ⟨x, h1, h2⟩ := ih
  exact ⟨x, h1, .step h2 hk⟩
theorem led_in {L : List Ob} {ids : List Int} {x k : Int} (hx : x ∈ ids) (h : Led L [x] k) : Led L ids k := by
 induction h with
 | base h hk => rw [List.mem_singleton] at h; subst h; exact .base hx hk
 | step h hk ih => exact .step ih hk
theorem led_sub {L : List Ob} {ids ids' : List Int} (hs : ∀ x ∈ ids, x ∈ ids') {k : Int} (h : Led L ids k) : Led L ids' k := by
 obtain ⟨x, h1, h2⟩ := led_one h
 exact led_in (hs x h1) h2
theorem Led.pos {L : List Ob} (hL : PoolOk L) {ids : List Int} {k : Int} (h : Led L ids k) : 0 ≤ k ∧ k.toNat < L.length := by
 have h1 := kindOf_pos (h.kind hL)
 omega
theorem mem_links {L : List Ob} {ids : List Int} {l : Int × Int} : l ∈ linksP L ids ↔ ∃ k ∈ ids, ∃ e ∈ (getP L k).entries, e.mode = 3 ∧ l = (e.repo, e.id) := by
 unfold linksP linkE
 rw [List.mem_flatMap]
 constructor
 ·rintro ⟨k, h1, h2⟩
  obtain ⟨e, h3, h4⟩ := List.mem_map.1 h2
  rw [List.mem_filter] at h3
  exact ⟨k, h1, e, h3.1, by simpa using h3.2, h4.symm⟩
 ·rintro ⟨k, h1, e, h2, h3, h4⟩
  refine ⟨k, h1, List.mem_map.2 ⟨e, List.mem_filter.2 ⟨h2, by simpa using h3⟩, h4.symm⟩⟩
theorem ent_repo {L : List Ob} (hL : PoolOk L) {k : Int} {e : Ent} (he : e ∈ (getP L k).entries) : 0 ≤ e.repo ∧ e.repo < 4 ∧ kindOf L e.id = e.mode := by
 have hk : ¬ kindOf L k = 0 := fun h => by rw [hL.kind0 h] at he; cases he
 have ho := hL.get hk
 have hpos := kindOf_pos hk
 have q := entsF_ok ho.ents e he
 have := (hL.obj (getP L k) (by rw [getP_at hpos.1 hpos.2]; exact List.getElem_mem _)).2
 unfold leadsP at this
 rw [Bool.and_eq_true, List.all_eq_true] at this
 have := this.1 e he
 exact ⟨q.2.2.2.1.1, q.2.2.2.1.2, by simpa using this⟩
theorem Nd.lt {L : List Ob} (hL : PoolOk L) {r0 : Nat → List Int} {r : Nat} {k : Int} (h : Nd L r0 r k) : r < 4 := by
 cases h with
 | root hr _ _ => exact hr
 | link h he hm hl => have := ent_repo hL he; omega
theorem Nd.pos {L : List Ob} (hL : PoolOk L) {r0 : Nat → List Int} {r : Nat} {k : Int} (h : Nd L r0 r k) : 0 ≤ k ∧ k.toNat < L.length := by
 cases h with
 | root hr _ hl => exact hl.pos hL
 | link h he hm hl => exact hl.pos hL
theorem mem_need {L : List Ob} (hL : PoolOk L) {r0 : Nat → List Int} {r : Nat} {k : Int} : k ∈ needP L r0 r ↔ Nd L r0 r k := by
 unfold needP
 rw [List.mem_map]
 constructor
 ·rintro ⟨j, hj, rfl⟩
  have := (List.mem_filter.1 hj).2
  simpa using this
 ·intro h
  obtain ⟨h1, h2⟩ := h.pos hL
  have e : ((k.toNat : Nat) : Int) = k := by omega
  refine ⟨k.toNat, List.mem_filter.2 ⟨List.mem_range.2 h2, ?_⟩, e⟩
  rw [e]; simpa using h
theorem need_rise {L : List Ob} {r0 : Nat → List Int} {r : Nat} : (needP L r0 r).Pairwise (· < ·) := by
 unfold needP
 rw [List.pairwise_map]
 exact (List.pairwise_lt_range.filter _).imp fun h => by omega
theorem Fin4.need {L : List Ob} (hL : PoolOk L) {r0 : Nat → List Int} {s : RS} (hi : RInv L r0 s) (hf : Fin4 L s) {r : Nat} (hr : r < 4) : s.out r = needP L r0 r := by
 have key : ∀ r k, Nd L r0 r k → k ∈ s.out r := fun r k h => by
  induction h with
  | @root r x k hr h hl =>
   rw [hf.out r hr, mem_reach hL]
   exact led_in (hi.sub r hr x h) hl
  | @link r k m e h he hm hl ih =>
   have hr := h.lt hL
   have hq := ent_repo hL he
   have := hf.clo r hr (e.repo, e.id) (mem_links.2 ⟨k, ih, e, he, hm, rfl⟩)
   rw [hf.out _ (by omega), mem_reach hL]
   exact led_in this hl
 rw [hf.out r hr]
 refine rise_uniq reach_rise need_rise fun k => ?_
 rw [mem_need hL]
 constructor
 ·intro h
  obtain ⟨x, h1, h2⟩ := led_one ((mem_reach hL).1 h)
  exact hi.nd r hr x h1 k h2
 ·intro h
  have := key r k h
  rwa [hf.out r hr] at this
theorem RInv.start {L : List Ob} {r0 : Nat → List Int} : RInv L r0 ⟨r0, fun _ => [], true⟩ where
 sub := fun r hr x h => h
 nd := fun r hr x h k hl => .root hr h hl
 ext := fun r hr => ⟨[], by simp, List.nodup_nil, fun x h => by cases h⟩
 out := fun r hr k h => by cases h
 onod := fun r hr => List.nodup_nil
theorem sum4_upd {α : Type} {f : α → Nat} {o : Nat → α} {k : Nat} (hk : k < 4) {v : α} : sum4 (fun r => f (upd o k v r)) + f (o k) = sum4 (fun r => f (o r)) + f v := by
 unfold sum4
 rcases four hk with rfl | rfl | rfl | rfl <;> simp only [upd, Nat.beq, cond_true, cond_false] <;> omega
end Go.Nest
end
/- part -/
section

namespace Go.Nest
open Go Go.AM
theorem upd_ne {α : Type} {o : Nat → α} {k j : Nat} {v : α} (h : j ≠ k) : upd o k v j = o j := by
 unfold upd
 have : Nat.beq j k = false := by
  cases hbq : Nat.beq j k with
  | false => rfl
  | true => exact absurd (Nat.eq_of_beq_eq_true hbq) h
 rw [this]; rfl
def n0 (r0 : Nat → List Int) : Nat → Nat := fun r => (r0 r).length
theorem nodup_sub : ∀ {a b : List Int}, a.Nodup → (∀ x ∈ a, x ∈ b) → a.length ≤ b.length
 | [], b, _, _ => Nat.zero_le _
 | x :: a, b, h, hs => by
  rw [List.nodup_cons] at h
  have hx := hs x (by simp)
  have h1 := nodup_sub (b := b.erase x) h.2 (fun y hy => by
   have hne : y ≠ x := fun e => by subst e; exact h.1 hy
   exact (List.mem_erase_of_ne hne).2 (hs y (by simp [hy])))
  rw [List.length_erase_of_mem hx] at h1
  have h2 := List.length_pos_of_mem hx
  rw [List.length_cons]; omega
theorem RInv.found {L : List Ob} (hL : PoolOk L) {r0 : Nat → List Int} {s : RS} (h : RInv L r0 s) {r : Nat} (hr : r < 4) (m : Bool) :
  RInv L r0 ⟨s.ro, upd s.out r (reachP L (s.ro r)), m⟩ ∧ muN L (n0 r0) ⟨s.ro, upd s.out r (reachP L (s.ro r)), m⟩ ≤ muN L (n0 r0) s ∧ ((s.out r).length < (reachP L (s.ro r)).length → muN L (n0 r0) ⟨s.ro, upd s.out r (reachP L (s.ro r)), m⟩ < muN L (n0 r0) s) := by
 have hle : (s.out r).length ≤ (reachP L (s.ro r)).length := nodup_sub (h.onod r hr) (h.out r hr)
 have hlt := reach_len (l := L) (ids := s.ro r)
 have e := sum4_upd (f := fun l : List Int => L.length - l.length) (o := s.out) hr (v := reachP L (s.ro r))
 refine ⟨⟨h.sub, h.nd, h.ext, fun j hj k hk => ?_, fun j hj => ?_⟩, ?_, fun hl => ?_⟩
 ·by_cases e : j = r
  ·subst e
   have hk : k ∈ upd s.out j (reachP L (s.ro j)) j := hk
   rwa [upd_at] at hk
  ·have hk : k ∈ upd s.out r (reachP L (s.ro r)) j := hk
   rw [upd_ne e] at hk
   exact h.out j hj k hk
 ·show (upd s.out r (reachP L (s.ro r)) j).Nodup
  by_cases e : j = r
  ·subst e; rw [upd_at]; exact reach_rise.imp fun h => by omega
  ·rw [upd_ne e]; exact h.onod j hj
 ·unfold muN
  dsimp only at e ⊢
  omega
 ·unfold muN
  dsimp only at e ⊢
  omega
theorem RInv.root {L : List Ob} (hL : PoolOk L) {r0 : Nat → List Int} {s : RS} (h : RInv L r0 s) {q : Nat} (hq : q < 4) {x : Int} (hno : x ∉ s.ro q) (hx : ∀ k, Led L [x] k → Nd L r0 q k) (hx2 : 0 ≤ x ∧ x < (600 : Nat)) :
  RInv L r0 ⟨upd s.ro q (s.ro q ++ [x]), s.out, true⟩ ∧ muN L (n0 r0) ⟨upd s.ro q (s.ro q ++ [x]), s.out, true⟩ < muN L (n0 r0) s := by
 have hin : ∀ j y, y ∈ s.ro j → y ∈ upd s.ro q (s.ro q ++ [x]) j := fun j y hy => by
  by_cases e : j = q
  ·subst e; rw [upd_at]; exact List.mem_append.2 (.inl hy)
  ·rw [upd_ne e]; exact hy
 have hr1 : RInv L r0 ⟨upd s.ro q (s.ro q ++ [x]), s.out, true⟩ := by
  refine ⟨fun j hj y hy => hin j y (h.sub j hj y hy), fun j hj y hy k hl => ?_, fun j hj => ?_, fun j hj k hk => ?_, h.onod⟩
  ·have hy : y ∈ upd s.ro q (s.ro q ++ [x]) j := hy
   by_cases e : j = q
   ·subst e
    rw [upd_at] at hy
    rcases List.mem_append.1 hy with hy | hy
    ·exact h.nd j hj y hy k hl
    ·rw [List.mem_singleton] at hy; subst hy; exact hx k hl
   ·rw [upd_ne e] at hy
    exact h.nd j hj y hy k hl
  ·show ∃ ex, upd s.ro q (s.ro q ++ [x]) j = r0 j ++ ex ∧ _
   by_cases e : j = q
   ·subst e
    rw [upd_at]
    obtain ⟨ex, e1, e2, e3⟩ := h.ext j hj
    refine ⟨ex ++ [x], by rw [e1, List.append_assoc], ?_, fun y hy => ?_⟩
    ·rw [List.nodup_append]
     exact ⟨e2, by simp, fun a ha c hc => by rw [List.mem_singleton] at hc; subst hc; exact fun e => hno (by rw [e1]; exact List.mem_append.2 (.inr (e ▸ ha)))⟩
    ·rcases List.mem_append.1 hy with hy | hy
     ·exact e3 y hy
     ·rw [List.mem_singleton] at hy; subst hy; exact hx2
   ·rw [upd_ne e]; exact h.ext j hj
  ·show k ∈ reachP L (upd s.ro q (s.ro q ++ [x]) j)
   rw [mem_reach hL]
   exact led_sub (hin j) ((mem_reach hL).1 (h.out j hj k hk))
 refine ⟨hr1, ?_⟩
 have hlen := hr1.len hq
 have hlen : (upd s.ro q (s.ro q ++ [x]) q).length ≤ (r0 q).length + 600 := hlen
 rw [upd_at, List.length_append, List.length_singleton] at hlen
 have a : sum4 (fun r => 600 + n0 r0 r - (upd s.ro q (s.ro q ++ [x]) r).length) < sum4 (fun r => 600 + n0 r0 r - (s.ro r).length) := by
  unfold sum4 n0
  rcases four hq with rfl | rfl | rfl | rfl <;> simp only [upd, Nat.beq, cond_true, cond_false, List.length_append, List.length_singleton] <;> omega
 unfold muN
 dsimp only at a ⊢
 omega
structure Mid (L : List Ob) (r0 : Nat → List Int) (mu : Nat) (r : Nat) (s : RS) : Prop where
 inv : RInv L r0 s
 le : muN L (n0 r0) s ≤ mu
 lt : s.more = true → muN L (n0 r0) s < mu
 out : s.more = false → ∀ j, j < r → s.out j = reachP L (s.ro j)
 clo : s.more = false → ∀ j, j < r → ∀ l ∈ linksP L (s.out j), l.2 ∈ s.ro l.1.toNat
structure MidL (L : List Ob) (r0 : Nat → List Int) (mu : Nat) (r : Nat) (all : List Int) (i : Nat) (s : RS) : Prop where
 mid : Mid L r0 mu r s
 here : s.out r = all
 out : s.more = false → s.out r = reachP L (s.ro r)
 done : s.more = false → ∀ l ∈ (linksP L all).take i, l.2 ∈ s.ro l.1.toNat
theorem Mid.found {L : List Ob} (hL : PoolOk L) {r0 : Nat → List Int} {mu r : Nat} {s : RS} (h : Mid L r0 mu r s) (hr : r < 4) :
  MidL L r0 mu r (reachP L (s.ro r)) 0 ⟨s.ro, upd s.out r (reachP L (s.ro r)), s.more || decide ((s.out r).length < (reachP L (s.ro r)).length)⟩ := by
 obtain ⟨a, c, d⟩ := h.inv.found hL hr (s.more || decide ((s.out r).length < (reachP L (s.ro r)).length))
 have hf : (s.more || decide ((s.out r).length < (reachP L (s.ro r)).length)) = false → s.more = false := fun e => by
  cases hm : s.more with
  | false => rfl
  | true => rw [hm] at e; cases e
 refine ⟨⟨a, Nat.le_trans c h.le, fun e => ?_, fun e j hj => ?_, fun e j hj => ?_⟩, upd_at, fun e => upd_at, fun e l hl => by simp at hl⟩
 ·cases hm : s.more with
  | true => exact Nat.lt_of_le_of_lt c (h.lt hm)
  | false =>
   have e : (s.more || decide ((s.out r).length < (reachP L (s.ro r)).length)) = true := e
   rw [hm, Bool.false_or] at e
   exact Nat.lt_of_lt_of_le (d (of_decide_eq_true e)) h.le
 ·show upd s.out r (reachP L (s.ro r)) j = _
  rw [upd_ne (by omega)]
  exact h.out (hf e) j hj
 ·show ∀ l ∈ linksP L (upd s.out r (reachP L (s.ro r)) j), _
  rw [upd_ne (by omega)]
  exact h.clo (hf e) j hj
theorem MidL.skip {L : List Ob} {r0 : Nat → List Int} {mu r i : Nat} {all : List Int} {s : RS} (h : MidL L r0 mu r all i s) (hi : i < (linksP L all).length) (hin : (linksP L all)[i].2 ∈ s.ro (linksP L all)[i].1.toNat) : MidL L r0 mu r all (i + 1) s :=
 ⟨h.mid, h.here, h.out, fun e l hl => by
  rw [List.take_succ_eq_append_getElem hi] at hl
  rcases List.mem_append.1 hl with hl | hl
  ·exact h.done e l hl
  ·rw [List.mem_singleton] at hl; subst hl; exact hin⟩
theorem MidL.add {L : List Ob} (hL : PoolOk L) {r0 : Nat → List Int} {mu r i : Nat} {all : List Int} {s : RS} (h : MidL L r0 mu r all i s) (ha : ∀ k ∈ all, Nd L r0 r k) {q : Nat} (hq : q < 4) {x : Int} (hl : ((q : Int), x) ∈ linksP L all) (hno : x ∉ s.ro q) : MidL L r0 mu r all (i + 1) ⟨upd s.ro q (s.ro q ++ [x]), s.out, true⟩ := by
 obtain ⟨k, k1, e, k2, k3, k4⟩ := mem_links.1 hl
 have e1 : (q : Int) = e.repo := congrArg (·.1) k4
 have e2 : x = e.id := congrArg (·.2) k4
 have hr := ent_repo hL k2
 have hxp := kindOf_pos (l := L) (id := e.id) (by omega)
 have hlen := hL.len
 obtain ⟨a, c⟩ := h.mid.inv.root hL hq hno (fun m hm => by
  have := Nd.link (ha k k1) k2 k3 (e2 ▸ hm)
  rw [← e1] at this
  exact this) (by rw [e2]; omega)
 exact ⟨⟨a, Nat.le_of_lt (Nat.lt_of_lt_of_le c h.mid.le), fun _ => Nat.lt_of_lt_of_le c h.mid.le, fun e => (by cases e), fun e => (by cases e)⟩, h.here, fun e => (by cases e), fun e => (by cases e)⟩
theorem MidL.stop {L : List Ob} {r0 : Nat → List Int} {mu r i : Nat} {all : List Int} {s : RS} (h : MidL L r0 mu r all i s) (hi : ¬ i < (linksP L all).length) : Mid L r0 mu (r + 1) s := by
 refine ⟨h.mid.inv, h.mid.le, h.mid.lt, fun e j hj => ?_, fun e j hj l hl => ?_⟩
 ·rcases Nat.lt_succ_iff_lt_or_eq.1 hj with hj | rfl
  ·exact h.mid.out e j hj
  ·exact h.out e
 ·rcases Nat.lt_succ_iff_lt_or_eq.1 hj with hj | rfl
  ·exact h.mid.clo e j hj l hl
  ·rw [h.here] at hl
   exact h.done e l (by rw [List.take_of_length_le (by omega)]; exact hl)
theorem Mid.start {L : List Ob} {r0 : Nat → List Int} {s : RS} (h : RInv L r0 s) : Mid L r0 (muN L (n0 r0) s) 0 ⟨s.ro, s.out, false⟩ :=
 ⟨⟨h.sub, h.nd, h.ext, h.out, h.onod⟩, Nat.le_refl _, fun e => (by cases e), fun _ j hj => absurd hj (Nat.not_lt_zero _), fun _ j hj => absurd hj (Nat.not_lt_zero _)⟩
theorem Mid.fin {L : List Ob} {r0 : Nat → List Int} {mu : Nat} {s : RS} (h : Mid L r0 mu 4 s) (hm : s.more = false) : Fin4 L s := ⟨fun r hr => h.out hm r hr, fun r hr => h.clo hm r hr⟩
end Go.Nest
end
/- part -/
section

namespace Go.Nest
open Go Go.AM Go.Proofs
open Go.Proofs.YtpmjnbidmcnhnaaGreatDoor (tab tabOk)
set_option maxRecDepth 4000
theorem lpQ {n0 : Nat} {s0 : St} {R : ∀ (ι : Type) (I : ι → St) (inv : ι → Prop) (m : ι → Nat), ι → Prop} {P : Nat → Prop} {q : Nat} (hQ : P q) (ι : Type) (I : Nat → ι → St) (inv : Nat → ι → Prop) (m : ι → Nat) (y : ι) (js : List Nat) (ρ : List Rn) (h1 : inv q y) (h2 : le n0 js ρ s0 (I q y)) (h3 : ∀ x, inv q x → R ι (I q) (inv q) m x) :
  ∃ (ι : Type) (I : ι → St) (inv : ι → Prop) (m : ι → Nat), (∃ y, inv y ∧ LE n0 s0 (I y)) ∧ ∀ x, inv x → R ι I inv m x :=
 ⟨ι, I q, inv q, m, ⟨y, h1, js, ρ, h2⟩, h3⟩
theorem agQ {ι : Type} {n0 : Nat} {I : ι → St} {inv : ι → Prop} {m : ι → Nat} {lt : Nat} {s : St} {P : Nat → Prop} {q : Nat} (hQ : P q) (y : ι) (js : List Nat) (ρ : Nat → List Rn) (h1 : inv y) (h2 : m y < lt) (h3 : le n0 js (ρ q) s (I y)) : ∃ y, (inv y ∧ m y < lt) ∧ LE n0 s (I y) := ⟨y, ⟨h1, h2⟩, js, ρ q, h3⟩
def Qn (_ : Nat) : Prop := True
set_option maxHeartbeats 20000000 in
theorem need_dspec (L : List Ob) (hL : PoolOk L) (o : Nat → List Bool) (b r0 : Nat → List Int) (hr0 : ∀ r, r < 4 → (r0 r).length ≤ 100000) : Does Tryz.prog 28 [.c (.bp [.bp [.bs 6 Ob encOb L], .bs 1 Bool encBo (o 0), .bs 1 Bool encBo (o 1), .bs 1 Bool encBo (o 2), .bs 1 Bool encBo (o 3), .bs 1 Int encI (b 0), .bs 1 Int encI (b 1), .bs 1 Int encI (b 2), .bs 1 Int encI (b 3)]), .st [.bs 1 Int encI (r0 0), .bs 1 Int encI (r0 1), .bs 1 Int encI (r0 2), .bs 1 Int encI (r0 3)]] [] (Rt (.st [.ls 1 Int encI (needP L r0 0), .ls 1 Int encI (needP L r0 1), .ls 1 Int encI (needP L r0 2), .ls 1 Int encI (needP L r0 3)]) []) := by
 have hlen := hL.len
 refine X_spec (n := 67) (n0 := 0) tabOk Tryz.call28 Tryz.func28 ?_
 intro hb
 (conv => whnf)
 refine lp RS (fun s => ⟨[(0, .c (.bp [.bp [.bs 6 Ob encOb L], .bs 1 Bool encBo (o 0), .bs 1 Bool encBo (o 1), .bs 1 Bool encBo (o 2), .bs 1 Bool encBo (o 3), .bs 1 Int encI (b 0), .bs 1 Int encI (b 1), .bs 1 Int encI (b 2), .bs 1 Int encI (b 3)])), (3, .c (.ptr 0 0)), (4, .c (.ptr 1 0)), (5, .c (.ptr 2 0)), (6, .c (.bool s.more))], [.box [.bs 1 Int encI (s.ro 0), .bs 1 Int encI (s.ro 1), .bs 1 Int encI (s.ro 2), .bs 1 Int encI (s.ro 3)], .box [.nil, .nil, .nil, .nil], .box [.ls 1 Int encI (s.out 0), .ls 1 Int encI (s.out 1), .ls 1 Int encI (s.out 2), .ls 1 Int encI (s.out 3)]]⟩) (fun s => (RInv L r0 s ∧ (s.more = false → Fin4 L s)) ∧ True) (fun s => 2 * muN L (n0 r0) s + (if s.more = true then 1 else 0)) ⟨r0, fun _ => [], true⟩ [] [.same 0, .same 1, .same 2] ?_ ?_ (fun s hs => ?_)
 ·exact ⟨⟨RInv.start, fun h => by cases h⟩, trivial⟩
 ·repeat' first | exact trivial | exact rfl | refine And.intro ?_ ?_
 obtain ⟨⟨hs, hfin⟩, -⟩ := hs
 (conv => whnf)
 refine boo (fun hm => ?_) (fun hm => ?_)
 ·have hm : s.more = true := hm
  (conv => whnf)
  refine lp (Nat × RS) (fun p => ⟨[(0, .c (.bp [.bp [.bs 6 Ob encOb L], .bs 1 Bool encBo (o 0), .bs 1 Bool encBo (o 1), .bs 1 Bool encBo (o 2), .bs 1 Bool encBo (o 3), .bs 1 Int encI (b 0), .bs 1 Int encI (b 1), .bs 1 Int encI (b 2), .bs 1 Int encI (b 3)])), (3, .c (.ptr 0 0)), (4, .c (.ptr 1 0)), (5, .c (.ptr 2 0)), (6, .c (.bool p.2.more)), (12, .c (.int .i64 p.1))], [.box [.bs 1 Int encI (p.2.ro 0), .bs 1 Int encI (p.2.ro 1), .bs 1 Int encI (p.2.ro 2), .bs 1 Int encI (p.2.ro 3)], .box [.nil, .nil, .nil, .nil], .box [.ls 1 Int encI (p.2.out 0), .ls 1 Int encI (p.2.out 1), .ls 1 Int encI (p.2.out 2), .ls 1 Int encI (p.2.out 3)]]⟩) (fun p => (p.1 ≤ 4 ∧ Mid L r0 (muN L (n0 r0) s) p.1 p.2) ∧ True) (fun p => 4 - p.1) (0, ⟨s.ro, s.out, false⟩) [] [.same 0, .same 1, .same 2] ?_ ?_ (fun ⟨r, t⟩ ht => ?_)
  ·exact ⟨⟨Nat.zero_le _, Mid.start hs⟩, trivial⟩
  ·repeat' first | exact trivial | exact rfl | refine And.intro ?_ ?_
  obtain ⟨⟨hr4, ht⟩, -⟩ := ht
  have ht : Mid L r0 (muN L (n0 r0) s) r t := ht
  (conv => whnf)
  refine dec (fun h4 => ?_) (fun h4 => ?_)
  ·have hr : r < 4 := by have h4 : (r : Int) < 4 := h4; omega
   have hml := ht.found hL hr
   have hrl := ht.inv.len hr
   have hn := hr0 r hr
   have p1 := reach_spec L hL (t.ro r) (by omega)
   have hal := reach_len (l := L) (ids := t.ro r)
   have hall : ∀ k ∈ reachP L (t.ro r), Nd L r0 r k := fun k hk => by
    obtain ⟨x, h1, h2⟩ := led_one ((mem_reach hL).1 hk)
    exact ht.inv.nd r hr x h1 k h2
   generalize reachP L (t.ro r) = all at p1 hml hall hal
   have p2 := links_dspec L hL o b all (by omega)
   have hll := links_len hL (ids := all)
   have hQ : Qn r := trivial
   have hr1 : r + 1 ≤ 4 := hr
   have hd : decide (((t.out r).length : Int) < all.length) = decide ((t.out r).length < all.length) := decide_eq_decide.2 (by omega)
   (conv => whnf)
   rcases four hr with rfl | rfl | rfl | rfl <;> (
    refine ⟨false, .grow, (.l [0, 1, 2, 3, 4, 5, 6, 7, 8]), by kernel_rfl, .inl ?_⟩
    (conv => whnf)
    refine ⟨_, ⟨rfl, hr⟩, ?_⟩
    (conv => whnf)
    refine cl [] [] (p1) ?_
    (conv => whnf)
    refine boo (fun e1 => ?_) (fun e1 => ?_)
    ·have e1 : t.more = true := e1
     rw [e1, Bool.true_or] at hml
     (conv => whnf)
     refine ⟨_, ⟨rfl, hr⟩, ?_⟩
     (conv => whnf)
     refine cl [] [] (p2) ?_
     (conv => whnf)
     refine lpQ hQ (Nat × RS) (fun q p => ⟨[(0, .c (.bp [.bp [.bs 6 Ob encOb L], .bs 1 Bool encBo (o 0), .bs 1 Bool encBo (o 1), .bs 1 Bool encBo (o 2), .bs 1 Bool encBo (o 3), .bs 1 Int encI (b 0), .bs 1 Int encI (b 1), .bs 1 Int encI (b 2), .bs 1 Int encI (b 3)])), (3, .c (.ptr 0 0)), (4, .c (.ptr 1 0)), (5, .c (.ptr 2 0)), (6, .c (.bool p.2.more)), (12, .c (.int .i64 q)), (38, .c (.rw 3)), (39, .c (.int .i64 (linksP L all).length)), (40, .c (.int .i64 p.1))], [.box [.bs 1 Int encI (p.2.ro 0), .bs 1 Int encI (p.2.ro 1), .bs 1 Int encI (p.2.ro 2), .bs 1 Int encI (p.2.ro 3)], .box [.nil, .nil, .nil, .nil], .box [.ls 1 Int encI (p.2.out 0), .ls 1 Int encI (p.2.out 1), .ls 1 Int encI (p.2.out 2), .ls 1 Int encI (p.2.out 3)], .row 2 (Int × Int) encPr (linksP L all)]⟩) (fun q p => (p.1 ≤ (linksP L all).length ∧ MidL L r0 (muN L (n0 r0) s) q all p.1 p.2) ∧ True) (fun p => (linksP L all).length - p.1) (0, _) [3] [.same 0, .same 1, .same 2, .same 4] ⟨⟨Nat.zero_le _, hml⟩, trivial⟩ ?_ (fun ⟨i, u⟩ hu => ?_)
     ·repeat' first | exact trivial | exact rfl | refine And.intro ?_ ?_
     obtain ⟨⟨hi, hu⟩, -⟩ := hu
     dsimp only at hi hu
     (conv => whnf)
     refine dec (fun h5 => ?_) (fun h5 => ?_)
     ·have hlt : i < (linksP L all).length := by have h5 : (i : Int) < (linksP L all).length := h5; omega
      have hiy : (linksP L all)[i]? = some (linksP L all)[i] := List.getElem?_eq_getElem hlt
      obtain ⟨p, x, hp, hl⟩ : ∃ (p : Nat) (x : Int), p < 4 ∧ (linksP L all)[i] = ((p : Int), x) := by
       obtain ⟨k, k1, e, k2, k3, k4⟩ := mem_links.1 (List.getElem_mem hlt)
       have := ent_repo hL k2
       exact ⟨e.repo.toNat, e.id, by omega, by rw [k4, show ((e.repo.toNat : Nat) : Int) = e.repo by omega]⟩
      rw [hl] at hiy
      have hno : (!hasI (u.ro p) x) = false → MidL L r0 (muN L (n0 r0) s) _ all (i + 1) u := fun h => hu.skip hlt (by rw [hl]; exact hasI_iff.1 (by simpa using h))
      have hadd := fun h : (!hasI (u.ro p) x) = true => hu.add hL hall hp (x := x) (by rw [← hl]; exact List.getElem_mem hlt) (fun hm => by rw [hasI_iff.2 hm] at h; cases h)
      have hrl2 := hu.mid.inv.len hp
      have hn2 := hr0 p hp
      have p5 := cloneInts_spec (u.ro p) (by omega)
      have p6 := contains_spec (u.ro p) x
      (conv => whnf)
      refine ⟨i, ⟨rfl, hlt⟩, ?_⟩
      (conv => whnf)
      refine ⟨((p : Int), x), hiy, ?_⟩
      rcases four hp with rfl | rfl | rfl | rfl <;> (
       (conv => whnf)
       refine ⟨false, .grow, (.l [0, 1, 2, 3, 4, 5, 6, 7]), by kernel_rfl, .inl ?_⟩
       (conv => whnf)
       refine ⟨0, ⟨rfl, by decide⟩, ?_⟩
       (conv => whnf)
       refine ⟨_, ⟨rfl, by decide⟩, ?_⟩
       (conv => whnf)
       refine ⟨1, ⟨rfl, by decide⟩, ?_⟩
       (conv => whnf)
       refine cl [] [] (p6) ?_
       (conv => whnf)
       refine boo (fun h6 => ?_) (fun h6 => ?_)
       ·(conv => whnf)
        refine ⟨false, .prot [0, 4], (.alt [0, 1, 2, 3, 4, 5, 7, 8] [6, 9] fun j => bif Nat.beq j 6 then (.l [9, 10, 11, 12]) else bif Nat.beq j 9 then (.l [6, 10, 11, 12]) else .l []), by kernel_rfl, .inl ?_⟩
        (conv => whnf)
        refine ⟨0, ⟨rfl, by decide⟩, ?_⟩
        (conv => whnf)
        refine ⟨0, ⟨rfl, by decide⟩, ?_⟩
        (conv => whnf)
        refine ⟨_, ⟨rfl, by decide⟩, ?_⟩
        (conv => whnf)
        refine ⟨1, ⟨rfl, by decide⟩, ?_⟩
        (conv => whnf)
        refine And.intro ?_ ?_
        ·(conv => whnf)
         refine cl [] [] (p5) ?_
         (conv => whnf)
         refine ⟨[x], rfl, ?_⟩
         (conv => whnf)
         refine ⟨_, _, rfl, rfl, (by simp only [List.length_append, List.length_cons, List.length_nil]; omega), ?_⟩
         (conv => whnf)
         refine ⟨_, ⟨rfl, by decide⟩, ?_⟩
         repeat' ((conv => whnf); first | (refine dec (fun h => ?_) (fun h => ?_) <;> try contradiction) | (refine decN (fun h => ?_) (fun h => ?_) <;> try contradiction) | refine booN (fun h => ?_) (fun h => ?_) | refine boo (fun h => ?_) (fun h => ?_) | refine ⟨i64 (by omega) (by omega), ?_⟩ | refine ⟨_, _, rfl, List.getElem?_eq_getElem (by omega), ?_⟩ | refine ⟨_, ⟨rfl, by omega⟩, ?_⟩ | refine ⟨_, List.getElem?_eq_getElem (by omega), ?_⟩ | refine rtB ?_ | refine rtI ?_ | refine rtC ?_ rfl | fail)
         refine ag (i + 1, _) [7] [.same 0, .same 1, .same 2, .same 3] ⟨⟨hlt, hadd h6⟩, trivial⟩ (by simp only []; omega) ?_
         repeat' first | exact trivial | exact rfl | refine And.intro ?_ ?_
        ·(conv => whnf)
         refine ⟨[x], rfl, ?_⟩
         (conv => whnf)
         refine cl [] [] (p5) ?_
         (conv => whnf)
         refine ⟨_, _, rfl, rfl, (by simp only [List.length_append, List.length_cons, List.length_nil]; omega), ?_⟩
         (conv => whnf)
         refine ⟨_, ⟨rfl, by decide⟩, ?_⟩
         repeat' ((conv => whnf); first | (refine dec (fun h => ?_) (fun h => ?_) <;> try contradiction) | (refine decN (fun h => ?_) (fun h => ?_) <;> try contradiction) | refine booN (fun h => ?_) (fun h => ?_) | refine boo (fun h => ?_) (fun h => ?_) | refine ⟨i64 (by omega) (by omega), ?_⟩ | refine ⟨_, _, rfl, List.getElem?_eq_getElem (by omega), ?_⟩ | refine ⟨_, ⟨rfl, by omega⟩, ?_⟩ | refine ⟨_, List.getElem?_eq_getElem (by omega), ?_⟩ | refine rtB ?_ | refine rtI ?_ | refine rtC ?_ rfl | fail)
         refine ag (i + 1, _) [7] [.same 0, .same 1, .same 2, .same 3] ⟨⟨hlt, hadd h6⟩, trivial⟩ (by simp only []; omega) ?_
         repeat' first | exact trivial | exact rfl | refine And.intro ?_ ?_
       ·repeat' ((conv => whnf); first | (refine dec (fun h => ?_) (fun h => ?_) <;> try contradiction) | (refine decN (fun h => ?_) (fun h => ?_) <;> try contradiction) | refine booN (fun h => ?_) (fun h => ?_) | refine boo (fun h => ?_) (fun h => ?_) | refine ⟨i64 (by omega) (by omega), ?_⟩ | refine ⟨_, _, rfl, List.getElem?_eq_getElem (by omega), ?_⟩ | refine ⟨_, ⟨rfl, by omega⟩, ?_⟩ | refine ⟨_, List.getElem?_eq_getElem (by omega), ?_⟩ | refine rtB ?_ | refine rtI ?_ | refine rtC ?_ rfl | fail)
        refine ag (i + 1, u) [] [.same 0, .same 1, .same 2, .same 3] ⟨⟨hlt, hno h6⟩, trivial⟩ (by simp only []; omega) ?_
        repeat' first | exact trivial | exact rfl | refine And.intro ?_ ?_)
     ·have h5 : ¬ (i : Int) < (linksP L all).length := h5
      repeat' ((conv => whnf); first | (refine dec (fun h => ?_) (fun h => ?_) <;> try contradiction) | (refine decN (fun h => ?_) (fun h => ?_) <;> try contradiction) | refine booN (fun h => ?_) (fun h => ?_) | refine boo (fun h => ?_) (fun h => ?_) | refine ⟨i64 (by omega) (by omega), ?_⟩ | refine ⟨_, _, rfl, List.getElem?_eq_getElem (by omega), ?_⟩ | refine ⟨_, ⟨rfl, by omega⟩, ?_⟩ | refine ⟨_, List.getElem?_eq_getElem (by omega), ?_⟩ | refine rtB ?_ | refine rtI ?_ | refine rtC ?_ rfl | fail)
      refine ag (_ + 1, u) [] [.same 0, .same 1, .same 2] ⟨⟨hr1, hu.stop (by omega)⟩, trivial⟩ (by simp only []; omega) ?_
      repeat' first | exact trivial | exact rfl | refine And.intro ?_ ?_
    ·have e1 : t.more = false := e1
     rw [e1, Bool.false_or, ← hd] at hml
     (conv => whnf)
     refine ⟨_, ⟨rfl, hr⟩, ?_⟩
     (conv => whnf)
     refine ⟨_, ⟨rfl, hr⟩, ?_⟩
     (conv => whnf)
     refine cl [] [] (p2) ?_
     (conv => whnf)
     refine lpQ hQ (Nat × RS) (fun q p => ⟨[(0, .c (.bp [.bp [.bs 6 Ob encOb L], .bs 1 Bool encBo (o 0), .bs 1 Bool encBo (o 1), .bs 1 Bool encBo (o 2), .bs 1 Bool encBo (o 3), .bs 1 Int encI (b 0), .bs 1 Int encI (b 1), .bs 1 Int encI (b 2), .bs 1 Int encI (b 3)])), (3, .c (.ptr 0 0)), (4, .c (.ptr 1 0)), (5, .c (.ptr 2 0)), (6, .c (.bool p.2.more)), (12, .c (.int .i64 q)), (38, .c (.rw 3)), (39, .c (.int .i64 (linksP L all).length)), (40, .c (.int .i64 p.1))], [.box [.bs 1 Int encI (p.2.ro 0), .bs 1 Int encI (p.2.ro 1), .bs 1 Int encI (p.2.ro 2), .bs 1 Int encI (p.2.ro 3)], .box [.nil, .nil, .nil, .nil], .box [.ls 1 Int encI (p.2.out 0), .ls 1 Int encI (p.2.out 1), .ls 1 Int encI (p.2.out 2), .ls 1 Int encI (p.2.out 3)], .row 2 (Int × Int) encPr (linksP L all)]⟩) (fun q p => (p.1 ≤ (linksP L all).length ∧ MidL L r0 (muN L (n0 r0) s) q all p.1 p.2) ∧ True) (fun p => (linksP L all).length - p.1) (0, _) [3] [.same 0, .same 1, .same 2, .same 4] ⟨⟨Nat.zero_le _, hml⟩, trivial⟩ ?_ (fun ⟨i, u⟩ hu => ?_)
     ·repeat' first | exact trivial | exact rfl | refine And.intro ?_ ?_
     obtain ⟨⟨hi, hu⟩, -⟩ := hu
     dsimp only at hi hu
     (conv => whnf)
     refine dec (fun h5 => ?_) (fun h5 => ?_)
     ·have hlt : i < (linksP L all).length := by have h5 : (i : Int) < (linksP L all).length := h5; omega
      have hiy : (linksP L all)[i]? = some (linksP L all)[i] := List.getElem?_eq_getElem hlt
      obtain ⟨p, x, hp, hl⟩ : ∃ (p : Nat) (x : Int), p < 4 ∧ (linksP L all)[i] = ((p : Int), x) := by
       obtain ⟨k, k1, e, k2, k3, k4⟩ := mem_links.1 (List.getElem_mem hlt)
       have := ent_repo hL k2
       exact ⟨e.repo.toNat, e.id, by omega, by rw [k4, show ((e.repo.toNat : Nat) : Int) = e.repo by omega]⟩
      rw [hl] at hiy
      have hno : (!hasI (u.ro p) x) = false → MidL L r0 (muN L (n0 r0) s) _ all (i + 1) u := fun h => hu.skip hlt (by rw [hl]; exact hasI_iff.1 (by simpa using h))
      have hadd := fun h : (!hasI (u.ro p) x) = true => hu.add hL hall hp (x := x) (by rw [← hl]; exact List.getElem_mem hlt) (fun hm => by rw [hasI_iff.2 hm] at h; cases h)
      have hrl2 := hu.mid.inv.len hp
      have hn2 := hr0 p hp
      have p5 := cloneInts_spec (u.ro p) (by omega)
      have p6 := contains_spec (u.ro p) x
      (conv => whnf)
      refine ⟨i, ⟨rfl, hlt⟩, ?_⟩
      (conv => whnf)
      refine ⟨((p : Int), x), hiy, ?_⟩
      rcases four hp with rfl | rfl | rfl | rfl <;> (
       (conv => whnf)
       refine ⟨false, .grow, (.l [0, 1, 2, 3, 4, 5, 6, 7]), by kernel_rfl, .inl ?_⟩
       (conv => whnf)
       refine ⟨0, ⟨rfl, by decide⟩, ?_⟩
       (conv => whnf)
       refine ⟨_, ⟨rfl, by decide⟩, ?_⟩
       (conv => whnf)
       refine ⟨1, ⟨rfl, by decide⟩, ?_⟩
       (conv => whnf)
       refine cl [] [] (p6) ?_
       (conv => whnf)
       refine boo (fun h6 => ?_) (fun h6 => ?_)
       ·(conv => whnf)
        refine ⟨false, .prot [0, 4], (.alt [0, 1, 2, 3, 4, 5, 7, 8] [6, 9] fun j => bif Nat.beq j 6 then (.l [9, 10, 11, 12]) else bif Nat.beq j 9 then (.l [6, 10, 11, 12]) else .l []), by kernel_rfl, .inl ?_⟩
        (conv => whnf)
        refine ⟨0, ⟨rfl, by decide⟩, ?_⟩
        (conv => whnf)
        refine ⟨0, ⟨rfl, by decide⟩, ?_⟩
        (conv => whnf)
        refine ⟨_, ⟨rfl, by decide⟩, ?_⟩
        (conv => whnf)
        refine ⟨1, ⟨rfl, by decide⟩, ?_⟩
        (conv => whnf)
        refine And.intro ?_ ?_
        ·(conv => whnf)
         refine cl [] [] (p5) ?_
         (conv => whnf)
         refine ⟨[x], rfl, ?_⟩
         (conv => whnf)
         refine ⟨_, _, rfl, rfl, (by simp only [List.length_append, List.length_cons, List.length_nil]; omega), ?_⟩
         (conv => whnf)
         refine ⟨_, ⟨rfl, by decide⟩, ?_⟩
         repeat' ((conv => whnf); first | (refine dec (fun h => ?_) (fun h => ?_) <;> try contradiction) | (refine decN (fun h => ?_) (fun h => ?_) <;> try contradiction) | refine booN (fun h => ?_) (fun h => ?_) | refine boo (fun h => ?_) (fun h => ?_) | refine ⟨i64 (by omega) (by omega), ?_⟩ | refine ⟨_, _, rfl, List.getElem?_eq_getElem (by omega), ?_⟩ | refine ⟨_, ⟨rfl, by omega⟩, ?_⟩ | refine ⟨_, List.getElem?_eq_getElem (by omega), ?_⟩ | refine rtB ?_ | refine rtI ?_ | refine rtC ?_ rfl | fail)
         refine ag (i + 1, _) [7] [.same 0, .same 1, .same 2, .same 3] ⟨⟨hlt, hadd h6⟩, trivial⟩ (by simp only []; omega) ?_
         repeat' first | exact trivial | exact rfl | refine And.intro ?_ ?_
        ·(conv => whnf)
         refine ⟨[x], rfl, ?_⟩
         (conv => whnf)
         refine cl [] [] (p5) ?_
         (conv => whnf)
         refine ⟨_, _, rfl, rfl, (by simp only [List.length_append, List.length_cons, List.length_nil]; omega), ?_⟩
         (conv => whnf)
         refine ⟨_, ⟨rfl, by decide⟩, ?_⟩
         repeat' ((conv => whnf); first | (refine dec (fun h => ?_) (fun h => ?_) <;> try contradiction) | (refine decN (fun h => ?_) (fun h => ?_) <;> try contradiction) | refine booN (fun h => ?_) (fun h => ?_) | refine boo (fun h => ?_) (fun h => ?_) | refine ⟨i64 (by omega) (by omega), ?_⟩ | refine ⟨_, _, rfl, List.getElem?_eq_getElem (by omega), ?_⟩ | refine ⟨_, ⟨rfl, by omega⟩, ?_⟩ | refine ⟨_, List.getElem?_eq_getElem (by omega), ?_⟩ | refine rtB ?_ | refine rtI ?_ | refine rtC ?_ rfl | fail)
         refine ag (i + 1, _) [7] [.same 0, .same 1, .same 2, .same 3] ⟨⟨hlt, hadd h6⟩, trivial⟩ (by simp only []; omega) ?_
         repeat' first | exact trivial | exact rfl | refine And.intro ?_ ?_
       ·repeat' ((conv => whnf); first | (refine dec (fun h => ?_) (fun h => ?_) <;> try contradiction) | (refine decN (fun h => ?_) (fun h => ?_) <;> try contradiction) | refine booN (fun h => ?_) (fun h => ?_) | refine boo (fun h => ?_) (fun h => ?_) | refine ⟨i64 (by omega) (by omega), ?_⟩ | refine ⟨_, _, rfl, List.getElem?_eq_getElem (by omega), ?_⟩ | refine ⟨_, ⟨rfl, by omega⟩, ?_⟩ | refine ⟨_, List.getElem?_eq_getElem (by omega), ?_⟩ | refine rtB ?_ | refine rtI ?_ | refine rtC ?_ rfl | fail)
        refine ag (i + 1, u) [] [.same 0, .same 1, .same 2, .same 3] ⟨⟨hlt, hno h6⟩, trivial⟩ (by simp only []; omega) ?_
        repeat' first | exact trivial | exact rfl | refine And.intro ?_ ?_)
     ·have h5 : ¬ (i : Int) < (linksP L all).length := h5
      repeat' ((conv => whnf); first | (refine dec (fun h => ?_) (fun h => ?_) <;> try contradiction) | (refine decN (fun h => ?_) (fun h => ?_) <;> try contradiction) | refine booN (fun h => ?_) (fun h => ?_) | refine boo (fun h => ?_) (fun h => ?_) | refine ⟨i64 (by omega) (by omega), ?_⟩ | refine ⟨_, _, rfl, List.getElem?_eq_getElem (by omega), ?_⟩ | refine ⟨_, ⟨rfl, by omega⟩, ?_⟩ | refine ⟨_, List.getElem?_eq_getElem (by omega), ?_⟩ | refine rtB ?_ | refine rtI ?_ | refine rtC ?_ rfl | fail)
      refine ag (_ + 1, u) [] [.same 0, .same 1, .same 2] ⟨⟨hr1, hu.stop (by omega)⟩, trivial⟩ (by simp only []; omega) ?_
      repeat' first | exact trivial | exact rfl | refine And.intro ?_ ?_)
  ·obtain rfl : r = 4 := by have h4 : ¬ (r : Int) < 4 := h4; omega
   repeat' ((conv => whnf); first | (refine dec (fun h => ?_) (fun h => ?_) <;> try contradiction) | (refine decN (fun h => ?_) (fun h => ?_) <;> try contradiction) | refine booN (fun h => ?_) (fun h => ?_) | refine boo (fun h => ?_) (fun h => ?_) | refine ⟨i64 (by omega) (by omega), ?_⟩ | refine ⟨_, _, rfl, List.getElem?_eq_getElem (by omega), ?_⟩ | refine ⟨_, ⟨rfl, by omega⟩, ?_⟩ | refine ⟨_, List.getElem?_eq_getElem (by omega), ?_⟩ | refine rtB ?_ | refine rtI ?_ | refine rtC ?_ rfl | fail)
   refine ag t [] [.same 0, .same 1, .same 2] ⟨⟨ht.inv, fun h => ht.fin h⟩, trivial⟩ ?_ ?_
   ·have h1 := ht.le
    have h2 := ht.lt
    simp only [hm, if_true]
    split
    ·rename_i h3; have := h2 h3; omega
    ·omega
   ·repeat' first | exact trivial | exact rfl | refine And.intro ?_ ?_
 ·have hm : s.more = false := hm
  have hf := hfin hm
  rw [← hf.need hL hs (r := 0) (by decide), ← hf.need hL hs (r := 1) (by decide), ← hf.need hL hs (r := 2) (by decide), ← hf.need hL hs (r := 3) (by decide)]
  (conv => whnf)
  exact rx [] []
end Go.Nest
end
/- part -/
section

namespace Go.Nest
open Go Go.AM
noncomputable def keepB (b : Nat → List Int) (need : Nat → List Int) (q : Nat) (k : Int) : Bool := (List.range 4).any fun r : Nat => decide ((q : Int) ∈ lendP b r) && decide (k ∈ need r)
def sweepL (p : Nat → Bool) (l : List Bool) : List Bool := l.mapIdx fun j v => v && p j
noncomputable def sweepO (L : List Ob) (o : Nat → List Bool) (b r0 : Nat → List Int) : Nat → List Bool := fun q => sweepL (fun k => keepB b (needP L r0) q (k : Int)) (o q)
theorem sweepL_len {p : Nat → Bool} {l : List Bool} : (sweepL p l).length = l.length := by unfold sweepL; rw [List.length_mapIdx]
theorem lend_nd {b : Nat → List Int} (hb : BorOk b) {r : Int} (h : isR r = true) : (lendP b r).Nodup ∧ (∀ x ∈ lendP b r, 0 ≤ x ∧ x < (4 : Nat)) := by
 suffices ∀ n i out, 5 - i ≤ n → LenI b r i out → (lendP b r).Nodup ∧ (∀ x ∈ lendP b r, 0 ≤ x ∧ x < (4 : Nat)) from this 5 0 [r] (Nat.le_refl _) (LenI.start h)
 intro n
 induction n with
 | zero =>
  intro i out hn hi
  have := hi.len; have := hi.le
  omega
 | succ n ih =>
  intro i out hn hi
  by_cases hlt : i < out.length
  ·exact ih (i + 1) _ (by omega) (hi.next hb hlt)
  ·rw [hi.stop hlt]; exact ⟨hi.nd, hi.all⟩
theorem lend_len {b : Nat → List Int} (hb : BorOk b) {r : Int} (h : isR r = true) : (lendP b r).length ≤ 4 := nodup_len 4 (lend_nd hb h).1 (lend_nd hb h).2
structure KI (b need : Nat → List Int) (r i : Nat) (k : Nat → List Int) : Prop where
 len : ∀ q, q < 4 → (k q).length ≤ 600 * (4 * r + i)
 mem : ∀ q, q < 4 → ∀ x, x ∈ k q ↔ (∃ r', r' < r ∧ (q : Int) ∈ lendP b r' ∧ x ∈ need r') ∨ ((q : Int) ∈ (lendP b r).take i ∧ x ∈ need r)
theorem KI.start {b need : Nat → List Int} : KI b need 0 0 fun _ => [] := by
 refine ⟨fun q hq => Nat.zero_le _, fun q hq x => ⟨fun h => (by cases h), fun h => ?_⟩⟩
 rcases h with ⟨r', h, _⟩ | ⟨h, _⟩
 ·omega
 ·rw [List.take_zero] at h; cases h
theorem KI.step {b need : Nat → List Int} {r i q : Nat} {k : Nat → List Int} (h : KI b need r i k) (hi : i < (lendP b r).length) (hq : (lendP b r)[i] = (q : Int)) (hq4 : q < 4) (hn : (need r).length ≤ 600) : KI b need r (i + 1) (upd k q (k q ++ need r)) := by
 refine ⟨fun j hj => ?_, fun j hj x => ?_⟩
 ·by_cases e : j = q
  ·subst e; rw [upd_at, List.length_append]
   have := h.len j hj; omega
  ·rw [upd_ne e]
   have := h.len j hj; omega
 ·rw [List.take_succ_eq_append_getElem hi, hq, List.mem_append, List.mem_singleton]
  by_cases e : j = q
  ·subst e
   rw [upd_at, List.mem_append, h.mem j hj x]
   constructor
   ·rintro ((h1 | h1) | h1)
    ·exact .inl h1
    ·exact .inr ⟨.inl h1.1, h1.2⟩
    ·exact .inr ⟨.inr rfl, h1⟩
   ·rintro (h1 | ⟨h1 | h1, h2⟩)
    ·exact .inl (.inl h1)
    ·exact .inl (.inr ⟨h1, h2⟩)
    ·exact .inr h2
  ·rw [upd_ne e, h.mem j hj x]
   constructor
   ·rintro (h1 | ⟨h1, h2⟩)
    ·exact .inl h1
    ·exact .inr ⟨.inl h1, h2⟩
   ·rintro (h1 | ⟨h1 | h1, h2⟩)
    ·exact .inl h1
    ·exact .inr ⟨h1, h2⟩
    ·exact absurd (by omega) e
theorem KI.next {b need : Nat → List Int} {r i : Nat} {k : Nat → List Int} (h : KI b need r i k) (hi : ¬ i < (lendP b r).length) (hi4 : i ≤ 4) : KI b need (r + 1) 0 k := by
 refine ⟨fun q hq => ?_, fun q hq x => ?_⟩
 ·have := h.len q hq; omega
 ·rw [h.mem q hq x, List.take_zero, List.take_of_length_le (by omega)]
  constructor
  ·rintro (⟨r', h1, h2⟩ | h1)
   ·exact .inl ⟨r', by omega, h2⟩
   ·exact .inl ⟨r, by omega, h1⟩
  ·rintro (⟨r', h1, h2⟩ | ⟨h1, _⟩)
   ·rcases Nat.lt_succ_iff_lt_or_eq.1 h1 with h1 | rfl
    ·exact .inl ⟨r', h1, h2⟩
    ·exact .inr h2
   ·cases h1
theorem KI.fin {b need : Nat → List Int} {k : Nat → List Int} (h : KI b need 4 0 k) {q : Nat} (hq : q < 4) (x : Int) : hasI (k q) x = keepB b need q x := by
 rw [Bool.eq_iff_iff, hasI_iff, h.mem q hq x]
 unfold keepB
 rw [List.any_eq_true, List.take_zero]
 constructor
 ·rintro (⟨r', h1, h2, h3⟩ | ⟨h1, _⟩)
  ·exact ⟨r', by simpa using h1, by simpa using ⟨h2, h3⟩⟩
  ·cases h1
 ·rintro ⟨r', h1, h2⟩
  exact .inl ⟨r', by simpa using h1, by simpa using h2⟩
structure RowI (p : Nat → Bool) (l x : List Bool) (k : Nat) : Prop where
 len : x.length = l.length
 ati : ∀ j, x[j]? = if j < k then (l[j]?).map fun v => v && p j else l[j]?
theorem RowI.start {p : Nat → Bool} {l : List Bool} : RowI p l l 0 := ⟨rfl, fun j => by rw [if_neg (Nat.not_lt_zero _)]⟩
theorem RowI.get {p : Nat → Bool} {l x : List Bool} {k : Nat} (h : RowI p l x k) (hk : k < l.length) : x[k]? = some l[k] := by
 rw [h.ati k, if_neg (Nat.lt_irrefl _), List.getElem?_eq_getElem hk]
theorem RowI.step {p : Nat → Bool} {l x : List Bool} {k : Nat} (h : RowI p l x k) (hk : k < l.length) : RowI p l (x.set k (l[k] && p k)) (k + 1) := by
 refine ⟨by rw [List.length_set]; exact h.len, fun j => ?_⟩
 have hl := h.len
 rw [List.getElem?_set]
 by_cases e : k = j
 ·subst e
  rw [if_pos rfl, if_pos (by omega), if_pos (by omega), List.getElem?_eq_getElem hk]; rfl
 ·rw [if_neg e, h.ati j]
  by_cases h1 : j < k
  ·rw [if_pos h1, if_pos (by omega)]
  ·rw [if_neg h1, if_neg (by omega)]
theorem RowI.fin {p : Nat → Bool} {l x : List Bool} {k : Nat} (h : RowI p l x k) (hk : ¬ k < l.length) : x = sweepL p l := by
 refine List.ext_getElem? fun j => ?_
 rw [h.ati j]
 unfold sweepL
 rw [List.getElem?_mapIdx]
 split
 ·rfl
 ·rw [List.getElem?_eq_none (by omega)]; rfl
def OI (L : List Ob) (o : Nat → List Bool) (b r0 : Nat → List Int) (r : Nat) (x : Nat → List Bool) : Prop := ∀ q, q < 4 → x q = if q < r then sweepO L o b r0 q else o q
theorem OI.start {L : List Ob} {o : Nat → List Bool} {b r0 : Nat → List Int} : OI L o b r0 0 o := fun q hq => by rw [if_neg (Nat.not_lt_zero _)]
theorem OI.here {L : List Ob} {o : Nat → List Bool} {b r0 : Nat → List Int} {r : Nat} {x : Nat → List Bool} (h : OI L o b r0 r x) (hr : r < 4) : x r = o r := by rw [h r hr, if_neg (Nat.lt_irrefl _)]
theorem OI.next {L : List Ob} {o : Nat → List Bool} {b r0 : Nat → List Int} {r : Nat} {x : Nat → List Bool} (h : OI L o b r0 r x) (hr : r < 4) : OI L o b r0 (r + 1) (upd x r (sweepO L o b r0 r)) := fun q hq => by
 by_cases e : q = r
 ·subst e; rw [upd_at, if_pos (by omega)]
 ·rw [upd_ne e, h q hq]
  by_cases h1 : q < r
  ·rw [if_pos h1, if_pos (by omega)]
  ·rw [if_neg h1, if_neg (by omega)]
theorem OI.fin {L : List Ob} {o : Nat → List Bool} {b r0 : Nat → List Int} {x : Nat → List Bool} (h : OI L o b r0 4 x) {q : Nat} (hq : q < 4) : x q = sweepO L o b r0 q := by rw [h q hq, if_pos hq]
theorem need_len {L : List Ob} {r0 : Nat → List Int} {r : Nat} : (needP L r0 r).length ≤ L.length := by
 unfold needP
 rw [List.length_map]
 exact Nat.le_trans (List.length_filter_le _ _) (by rw [List.length_range]; exact Nat.le_refl _)
end Go.Nest
end
/- part -/
section

namespace Go.Nest
open Go Go.AM Go.Proofs
open Go.Proofs.YtpmjnbidmcnhnaaGreatDoor (tab tabOk)
set_option maxRecDepth 4000
def rhoK (q a : Nat) : List Rn := (List.range 18).map fun i => bif Nat.beq i (13 + q) then .same a else .same i
theorem nat_lt {i n : Nat} (h : (i : Int) < (n : Int)) : i < n := by omega
set_option maxHeartbeats 20000000 in
theorem sweep_dspec (L : List Ob) (hL : PoolOk L) (o : Nat → List Bool) (b r0 : Nat → List Int) (hb4 : BorOk b) (ho : ∀ k, k < 4 → (o k).length ≤ 1000000) (hr0 : ∀ r, r < 4 → (r0 r).length ≤ 100000) : Does Tryz.prog 29 [.c (.ptr 0 0), .st [.bs 1 Int encI (r0 0), .bs 1 Int encI (r0 1), .bs 1 Int encI (r0 2), .bs 1 Int encI (r0 3)]] [.box [.ptr 1 0, .rw 3, .rw 4, .rw 5, .rw 6, .rw 7, .rw 8, .rw 9, .rw 10], .box [.rw 2], .row 6 Ob encOb L, .row 1 Bool encBo (o 0), .row 1 Bool encBo (o 1), .row 1 Bool encBo (o 2), .row 1 Bool encBo (o 3), .row 1 Int encI (b 0), .row 1 Int encI (b 1), .row 1 Int encI (b 2), .row 1 Int encI (b 3)] (Rt (.tup []) [.box [.ptr 1 0, .rw 3, .rw 4, .rw 5, .rw 6, .rw 7, .rw 8, .rw 9, .rw 10], .box [.rw 2], .row 6 Ob encOb L, .row 1 Bool encBo ((sweepO L o b r0) 0), .row 1 Bool encBo ((sweepO L o b r0) 1), .row 1 Bool encBo ((sweepO L o b r0) 2), .row 1 Bool encBo ((sweepO L o b r0) 3), .row 1 Int encI (b 0), .row 1 Int encI (b 1), .row 1 Int encI (b 2), .row 1 Int encI (b 3)]) := by
 have hlen := hL.len
 have p1 := need_dspec L hL o b r0 hr0
 have hnl : ∀ r, (needP L r0 r).length ≤ 600 := fun r => Nat.le_trans need_len hL.len
 have hOf := fun x (h : OI L o b r0 4 x) q hq => OI.fin h (q := q) hq
 have hOI : ∀ r x, OI L o b r0 r x = OI L o b r0 r x := fun _ _ => rfl
 have hsw : ∀ q, sweepO L o b r0 q = sweepL (fun k => keepB b (needP L r0) q (k : Int)) (o q) := fun q => rfl
 generalize hneed : needP L r0 = need at p1 hnl hsw
 refine X_spec (n := 75) (n0 := 11) tabOk Tryz.call29 Tryz.func29 ?_
 intro hb
 (conv => whnf)
 refine cl [] [] (p1) ?_
 (conv => whnf)
 refine lp (Nat × (Nat → List Int)) (fun p => ⟨[(0, .c (.ptr 0 0)), (4, .c (.ptr 11 0)), (5, .c (.ptr 12 0)), (14, .c (.int .i64 p.1))], [.box [.ptr 1 0, .rw 3, .rw 4, .rw 5, .rw 6, .rw 7, .rw 8, .rw 9, .rw 10], .box [.rw 2], .row 6 Ob encOb L, .row 1 Bool encBo (o 0), .row 1 Bool encBo (o 1), .row 1 Bool encBo (o 2), .row 1 Bool encBo (o 3), .row 1 Int encI (b 0), .row 1 Int encI (b 1), .row 1 Int encI (b 2), .row 1 Int encI (b 3)] ++ [.box [.ls 1 Int encI (need 0), .ls 1 Int encI (need 1), .ls 1 Int encI (need 2), .ls 1 Int encI (need 3)], .box [.rw 13, .rw 14, .rw 15, .rw 16], .row 1 Int encI (p.2 0), .row 1 Int encI (p.2 1), .row 1 Int encI (p.2 2), .row 1 Int encI (p.2 3)]⟩) (fun p => (p.1 ≤ 4 ∧ KI b need p.1 0 p.2) ∧ True) (fun p => 4 - p.1) (0, fun _ => []) [] [.same 0, .same 1, .same 2, .same 3, .same 4, .same 5, .same 6, .same 7, .same 8, .same 9, .same 10, .same 12, .same 13, .new, .new, .new, .new] ⟨⟨Nat.zero_le _, KI.start⟩, trivial⟩ ?_ (fun ⟨r, k⟩ hk => ?_)
 ·repeat' first | exact trivial | exact rfl | refine And.intro ?_ ?_
 obtain ⟨⟨hr4, hk⟩, -⟩ := hk
 have hk : KI b need r 0 k := hk
 (conv => whnf)
 refine dec (fun h4 => ?_) (fun h4 => ?_)
 ·have hr : r < 4 := by have h4 : (r : Int) < 4 := h4; omega
  have hQ : Qn r := trivial
  have hr1 : r + 1 ≤ 4 := hr
  have hlr := lend_nd hb4 (r := (r : Int)) (isR_iff.2 ⟨r, hr, rfl⟩)
  have hll4 := lend_len hb4 (r := (r : Int)) (isR_iff.2 ⟨r, hr, rfl⟩)
  have p2 := lenders_spec L o b hb4 (r : Int) (isR_iff.2 ⟨r, hr, rfl⟩)
  have hnr := hnl r
  have one : ∀ i k, KI b need r i k → (i : Int) < (lendP b r).length → ∃ (_ : i < (lendP b r).length) (p : Nat), p < 4 ∧ (lendP b r)[i]? = some (p : Int) ∧ KI b need r (i + 1) (upd k p (k p ++ need r)) := fun i k hk h5 => by
   have hlt := nat_lt h5
   have := hlr.2 _ (List.getElem_mem hlt)
   have e : (lendP b r)[i] = (((lendP b r)[i]).toNat : Int) := by omega
   exact ⟨hlt, ((lendP b r)[i]).toNat, by omega, by rw [List.getElem?_eq_getElem hlt, ← e], hk.step hlt e (by omega) hnr⟩
  rcases four hr with rfl | rfl | rfl | rfl <;> (
   (conv => whnf)
   refine cl [] [] (p2) ?_
   (conv => whnf)
   refine lpQ hQ (Nat × (Nat → List Int)) (fun r p => ⟨[(0, .c (.ptr 0 0)), (4, .c (.ptr 11 0)), (5, .c (.ptr 12 0)), (14, .c (.int .i64 r)), (6, .c (.int .i64 r)), (19, .c (.rw 17)), (20, .c (.int .i64 (lendP b r).length)), (21, .c (.int .i64 p.1))], [.box [.ptr 1 0, .rw 3, .rw 4, .rw 5, .rw 6, .rw 7, .rw 8, .rw 9, .rw 10], .box [.rw 2], .row 6 Ob encOb L, .row 1 Bool encBo (o 0), .row 1 Bool encBo (o 1), .row 1 Bool encBo (o 2), .row 1 Bool encBo (o 3), .row 1 Int encI (b 0), .row 1 Int encI (b 1), .row 1 Int encI (b 2), .row 1 Int encI (b 3)] ++ [.box [.ls 1 Int encI (need 0), .ls 1 Int encI (need 1), .ls 1 Int encI (need 2), .ls 1 Int encI (need 3)], .box [.rw 13, .rw 14, .rw 15, .rw 16], .row 1 Int encI (p.2 0), .row 1 Int encI (p.2 1), .row 1 Int encI (p.2 2), .row 1 Int encI (p.2 3)] ++ [.row 1 Int encI (lendP b r)]⟩) (fun r p => (p.1 ≤ (lendP b r).length ∧ KI b need r p.1 p.2) ∧ True) (fun p => 4 - p.1) (0, k) [] [.same 0, .same 1, .same 2, .same 3, .same 4, .same 5, .same 6, .same 7, .same 8, .same 9, .same 10, .same 11, .same 12, .same 13, .same 14, .same 15, .same 16, .same 17] ⟨⟨Nat.zero_le _, hk⟩, trivial⟩ ?_ (fun ⟨i, k⟩ hk => ?_)
   ·repeat' first | exact trivial | exact rfl | refine And.intro ?_ ?_
   obtain ⟨⟨hi, hk⟩, -⟩ := hk
   dsimp only at hi hk
   (conv => whnf)
   refine dec (fun h5 => ?_) (fun h5 => ?_)
   ·obtain ⟨hlt, p, hp, hiy, hst⟩ := one i k hk h5
    have hkl := hk.len p hp
    (conv => whnf)
    refine ⟨i, ⟨rfl, hlt⟩, ?_⟩
    (conv => whnf)
    refine ⟨(p : Int), hiy, ?_⟩
    have hP : Qn p := trivial
    rcases four hp with rfl | rfl | rfl | rfl <;> (
     (conv => whnf)
     refine ⟨false, .grow, (.l [0, 1, 2, 3, 4, 5, 6, 7, 8, 9]), by kernel_rfl, .inl ?_⟩
     (conv => whnf)
     refine ⟨_, ⟨rfl, by decide⟩, ?_⟩
     (conv => whnf)
     refine ⟨_, ⟨rfl, hr⟩, ?_⟩
     (conv => whnf)
     refine ⟨_, _, rfl, rfl, (by simp only [List.length_append, List.length_cons, List.length_nil]; omega), ?_⟩
     (conv => whnf)
     refine ⟨_, ⟨rfl, by decide⟩, ?_⟩
     repeat' ((conv => whnf); refine I6 ?_)
     refine agQ hP (i + 1, _) [] (fun p => rhoK p 18) ⟨⟨hlt, hst⟩, trivial⟩ (by simp only []; omega) ?_
     repeat' first | exact trivial | exact rfl | refine And.intro ?_ ?_)
   ·repeat' ((conv => whnf); refine I6 ?_)
    refine ag (_ + 1, k) [] [.same 0, .same 1, .same 2, .same 3, .same 4, .same 5, .same 6, .same 7, .same 8, .same 9, .same 10, .same 11, .same 12, .same 13, .same 14, .same 15, .same 16] ⟨⟨hr1, hk.next (fun h => h5 (by omega)) (by omega)⟩, trivial⟩ (by simp only []; omega) ?_
    repeat' first | exact trivial | exact rfl | refine And.intro ?_ ?_)
 ·obtain rfl : r = 4 := by have h4 : ¬ (r : Int) < 4 := h4; omega
  (conv => whnf)
  refine lp (Nat × (Nat → List Bool)) (fun p => ⟨[(0, .c (.ptr 0 0)), (5, .c (.ptr 11 0)), (36, .c (.int .i64 p.1))], [.box [.ptr 1 0, .rw 3, .rw 4, .rw 5, .rw 6, .rw 7, .rw 8, .rw 9, .rw 10], .box [.rw 2], .row 6 Ob encOb L, .row 1 Bool encBo (p.2 0), .row 1 Bool encBo (p.2 1), .row 1 Bool encBo (p.2 2), .row 1 Bool encBo (p.2 3), .row 1 Int encI (b 0), .row 1 Int encI (b 1), .row 1 Int encI (b 2), .row 1 Int encI (b 3)] ++ [.box [.ls 1 Int encI (k 0), .ls 1 Int encI (k 1), .ls 1 Int encI (k 2), .ls 1 Int encI (k 3)]]⟩) (fun p => (p.1 ≤ 4 ∧ OI L o b r0 p.1 p.2) ∧ True) (fun p => 4 - p.1) (0, o) [13, 14, 15, 16] [.same 0, .same 1, .same 2, .same 3, .same 4, .same 5, .same 6, .same 7, .same 8, .same 9, .same 10, .same 12] ⟨⟨Nat.zero_le _, OI.start⟩, trivial⟩ ?_ (fun ⟨r, x⟩ hx => ?_)
  ·repeat' first | exact trivial | exact rfl | refine And.intro ?_ ?_
  obtain ⟨⟨hr4, hx⟩, -⟩ := hx
  have hx : OI L o b r0 r x := hx
  (conv => whnf)
  refine dec (fun h4 => ?_) (fun h4 => ?_)
  ·have hr : r < 4 := by have h4 : (r : Int) < 4 := h4; omega
   have hQ : Qn r := trivial
   have hr1 : r + 1 ≤ 4 := hr
   have hq := ho r hr
   have hx0 := hx.here hr
   have hkl := hk.len r hr
   have p3 := fun i : Nat => contains_spec (k r) (i : Int)
   have hkf := fun z => hk.fin hr z
   simp only [hkf] at p3
   have hfin : ∀ i y, RowI (fun j => keepB b need r (j : Int)) (o r) y i → ¬ (i : Int) < (o r).length → OI L o b r0 (r + 1) (upd x r y) := fun i y hy h5 => by
    rw [hy.fin (fun h => h5 (by omega)), ← hsw r]; exact hx.next hr
   rcases four hr with rfl | rfl | rfl | rfl <;> (
    (conv => whnf)
    refine ⟨_, ⟨rfl, hr⟩, ?_⟩
    (conv => whnf)
    refine lpQ hQ (Nat × List Bool) (fun q p => ⟨[(0, .c (.ptr 0 0)), (5, .c (.ptr 11 0)), (36, .c (.int .i64 q)), (9, .c (.int .i64 q)), (45, .c (.int .i64 (o q).length)), (46, .c (.int .i64 p.1))], [.box [.ptr 1 0, .rw 3, .rw 4, .rw 5, .rw 6, .rw 7, .rw 8, .rw 9, .rw 10], .box [.rw 2], .row 6 Ob encOb L, .row 1 Bool encBo ((upd x q p.2) 0), .row 1 Bool encBo ((upd x q p.2) 1), .row 1 Bool encBo ((upd x q p.2) 2), .row 1 Bool encBo ((upd x q p.2) 3), .row 1 Int encI (b 0), .row 1 Int encI (b 1), .row 1 Int encI (b 2), .row 1 Int encI (b 3)] ++ [.box [.ls 1 Int encI (k 0), .ls 1 Int encI (k 1), .ls 1 Int encI (k 2), .ls 1 Int encI (k 3)]]⟩) (fun q p => (p.1 ≤ (o q).length ∧ RowI (fun j => keepB b need q (j : Int)) (o q) p.2 p.1) ∧ True) (fun p => 1000000 - p.1) (0, _) [] [.same 0, .same 1, .same 2, .same 3, .same 4, .same 5, .same 6, .same 7, .same 8, .same 9, .same 10, .same 11] ⟨⟨Nat.zero_le _, RowI.start⟩, trivial⟩ ?_ (fun ⟨i, y⟩ hy => ?_)
    ·rw [← hx0]
     repeat' first | exact trivial | exact rfl | refine And.intro ?_ ?_
    obtain ⟨⟨hi, hy⟩, -⟩ := hy
    dsimp only at hi hy
    (conv => whnf)
    refine dec (fun h5 => ?_) (fun h5 => ?_)
    ·have hlt := nat_lt h5
     have hyi := hy.get hlt
     have hst := hy.step hlt
     have hyl := hy.len
     obtain ⟨v, hv⟩ : ∃ v, v = (o _)[i] := ⟨_, rfl⟩
     rw [← hv] at hyi hst
     (conv => whnf)
     refine ⟨false, .grow, (.l [0, 1, 2, 3, 4, 5, 6, 7, 8, 9, 10, 11, 12, 13, 14, 15, 16, 17, 18, 19, 20, 21, 22, 23, 24]), by kernel_rfl, .inl ?_⟩
     (conv => whnf)
     refine ⟨_, ⟨rfl, hr⟩, ?_⟩
     (conv => whnf)
     refine ⟨_, ⟨rfl, hr⟩, ?_⟩
     (conv => whnf)
     refine ⟨i, ⟨rfl, (show i < y.length by omega)⟩, ?_⟩
     (conv => whnf)
     refine ⟨v, hyi, ?_⟩
     (conv => whnf)
     refine boo (fun h6 => ?_) (fun h6 => ?_)
     ·rw [h6, Bool.true_and] at hst
      (conv => whnf)
      refine ⟨_, ⟨rfl, hr⟩, ?_⟩
      (conv => whnf)
      refine cl [] [] (p3 i) ?_
      (conv => whnf)
      refine ⟨i, ⟨rfl, (show i < y.length by omega)⟩, ?_⟩
      (conv => whnf)
      refine ⟨_, _, hyi, ⟨Nat.le_refl 1, rfl⟩, ?_⟩
      repeat' ((conv => whnf); refine I6 ?_)
      refine ag (i + 1, _) [] [.same 0, .same 1, .same 2, .same 3, .same 4, .same 5, .same 6, .same 7, .same 8, .same 9, .same 10, .same 11] ⟨⟨hlt, hst⟩, trivial⟩ (by simp only []; omega) ?_
      repeat' first | exact trivial | exact rfl | refine And.intro ?_ ?_
     ·rw [h6, Bool.false_and] at hst
      (conv => whnf)
      refine ⟨i, ⟨rfl, (show i < y.length by omega)⟩, ?_⟩
      (conv => whnf)
      refine ⟨_, _, hyi, ⟨Nat.le_refl 1, rfl⟩, ?_⟩
      repeat' ((conv => whnf); refine I6 ?_)
      refine ag (i + 1, _) [] [.same 0, .same 1, .same 2, .same 3, .same 4, .same 5, .same 6, .same 7, .same 8, .same 9, .same 10, .same 11] ⟨⟨hlt, hst⟩, trivial⟩ (by simp only []; omega) ?_
      repeat' first | exact trivial | exact rfl | refine And.intro ?_ ?_
    ·repeat' ((conv => whnf); refine I6 ?_)
     refine ag (_ + 1, _) [] [.same 0, .same 1, .same 2, .same 3, .same 4, .same 5, .same 6, .same 7, .same 8, .same 9, .same 10, .same 11] ⟨⟨hr1, hfin i y hy h5⟩, trivial⟩ (by simp only []; omega) ?_
     repeat' first | exact trivial | exact rfl | refine And.intro ?_ ?_)
  ·obtain rfl : r = 4 := by have h4 : ¬ (r : Int) < 4 := h4; omega
   rw [← hx.fin (q := 0) (by decide), ← hx.fin (q := 1) (by decide), ← hx.fin (q := 2) (by decide), ← hx.fin (q := 3) (by decide)]
   (conv => whnf)
   exact rx [] [.same 0, .same 1, .same 2, .same 3, .same 4, .same 5, .same 6, .same 7, .same 8, .same 9, .same 10]
end Go.Nest
end
