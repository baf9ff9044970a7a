/- part -/
import Derived.Test.YtpmjnbidmcnhnaaGreatDoorL0
import Derived.Test.YtpmjnbidmcnhnaaGreatDoorG12
import Derived.Test.YtpmjnbidmcnhnaaGreatDoorL1
import Derived.Test.YtpmjnbidmcnhnaaGreatDoorProg
set_option linter.unusedVariables false
set_option linter.unusedSimpArgs false
section

namespace Go.Nest
open Go Go.AM Go.Proofs
open Go.Proofs.YtpmjnbidmcnhnaaGreatDoor (tab tabOk)
set_option maxRecDepth 4000
def sumD (l : List Dc) : Nat := (l.map fun d => d.path.length + d.bytes.length).sum
theorem sumD_take {l : List Dc} {i : Nat} (h : i < l.length) : sumD (l.take (i + 1)) = sumD (l.take i) + (l[i].path.length + l[i].bytes.length) := by
 unfold sumD
 rw [List.take_succ_eq_append_getElem h, List.map_append, List.sum_append]; simp
theorem sumD_le {l : List Dc} {n : Nat} (h : ∀ d ∈ l, d.path.length + d.bytes.length ≤ n) : sumD l ≤ l.length * n := by
 induction l with
 | nil => simp [sumD]
 | cons f l ih =>
  have h1 := ih (fun x hx => h x (by simp [hx]))
  have h2 := h f (by simp)
  unfold sumD at h1 ⊢
  rw [List.map_cons, List.sum_cons, List.length_cons, Nat.succ_mul]
  omega
theorem sumD_mem {l : List Dc} {d : Dc} (h : d ∈ l) : d.path.length + d.bytes.length ≤ sumD l := by
 induction l with
 | nil => cases h
 | cons g l ih =>
  unfold sumD at ih ⊢
  rw [List.map_cons, List.sum_cons]
  rcases List.mem_cons.1 h with rfl | h
  ·omega
  ·have := ih h; omega
def greatD (l : List Dc) : Bool := decide (40 < l.length) || decide (6000 < sumD (l.take 100))
def DocsOk (l : List Dc) : Prop := l.length ≤ 40 ∧ ∀ d ∈ l, d.path.length ≤ 6000 ∧ d.bytes.length ≤ 6000
theorem greatD_ok {l : List Dc} (h : greatD l = false) : DocsOk l := by
 unfold greatD at h
 rw [Bool.or_eq_false_iff, decide_eq_false_iff_not, decide_eq_false_iff_not] at h
 have h1 : l.length ≤ 40 := by omega
 rw [List.take_of_length_le (by omega)] at h
 exact ⟨h1, fun f hf => by have := sumD_mem hf; omega⟩
def DocsFit (l : List Dc) : Prop := ∀ d ∈ l, d.path.length ≤ 140737488351232 ∧ d.bytes.length ≤ 140737488351232
theorem greatDocs_spec (l : List Dc) (hl : DocsFit l) : Does Tryz.prog 32 [.c (.bs 2 Dc encDc l)] [] (Rt (.c (.bool (greatD l))) []) := by
 refine X_spec (n := 37) (n0 := 0) tabOk Tryz.call32 Tryz.func32 ?_
 intro hb; have hb : l.length ≤ 9223372036854775807 := hb.1.1
 (conv => whnf)
 refine lp Nat (fun i => ⟨[(0, .c (.bs 2 Dc encDc l)), (3, .c (.int .i64 (sumD (l.take i)))), (4, .c (.int .i64 i))], []⟩) (fun i => i ≤ l.length ∧ i ≤ 100) (fun i => l.length - i) 0 [] [] ?_ ?_ (fun i hi => ?_)
 ·simp
 ·repeat' first | exact trivial | exact rfl | refine And.intro ?_ ?_
 have hs : sumD (l.take i) ≤ 100 * 281474976702464 := by
  have h2 : (l.take i).length ≤ 100 := by rw [List.length_take]; omega
  have key : ∀ N, (∀ d ∈ l, d.path.length + d.bytes.length ≤ N) → sumD (l.take i) ≤ 100 * N := fun N h => Nat.le_trans (sumD_le fun f hf => h f (List.mem_of_mem_take hf)) (Nat.mul_le_mul_right N h2)
  exact key _ fun d hd => by have := hl d hd; omega
 have fin : ¬ (i < l.length ∧ i < 100) → sumD (l.take i) = sumD (l.take 100) := fun h => by
  by_cases h3 : i < l.length
  ·have : i = 100 := by omega
   rw [this]
  ·rw [List.take_of_length_le (by omega), List.take_of_length_le (by omega)]
 (conv => whnf)
 refine dec (fun h4 => ?_) (fun h4 => ?_)
 ·(conv => whnf)
  refine dec (fun h5 => ?_) (fun h5 => ?_)
  ·have hlt : i < l.length := by omega
   have hp := hl _ (List.getElem_mem hlt)
   (conv => whnf)
   refine ⟨false, .grow, (.l [0, 1, 2, 3, 4, 5, 6, 7, 8, 9, 10, 11, 12, 13, 14, 15]), by kernel_rfl, .inl ?_⟩
   (conv => whnf)
   refine ⟨i, l[i], rfl, List.getElem?_eq_getElem hlt, ?_⟩
   (conv => whnf)
   refine ⟨i, l[i], rfl, List.getElem?_eq_getElem hlt, ?_⟩
   (conv => whnf)
   refine ⟨i64 (by omega) (by omega), ?_⟩
   (conv => whnf)
   refine ⟨i64 (by omega) (by omega), ?_⟩
   repeat' ((conv => whnf); refine I6 ?_)
   refine ag (i + 1) [] [] ⟨hlt, by omega⟩ (by simp only []; omega) ?_
   rw [sumD_take hlt]
   repeat' first | exact trivial | exact rfl | refine And.intro ?_ ?_
  ·have := fin (by omega)
   rw [this]
   repeat' ((conv => whnf); first | (refine dec (fun h => ?_) (fun h => ?_) <;> try contradiction) | (refine decN (fun h => ?_) (fun h => ?_) <;> try contradiction) | refine booN (fun h => ?_) (fun h => ?_) | refine boo (fun h => ?_) (fun h => ?_) | refine ⟨i64 (by omega) (by omega), ?_⟩ | refine ⟨_, _, rfl, List.getElem?_eq_getElem (by omega), ?_⟩ | refine ⟨_, ⟨rfl, by omega⟩, ?_⟩ | refine ⟨_, List.getElem?_eq_getElem (by omega), ?_⟩ | refine rtB ?_ | refine rtI ?_ | refine rtC ?_ rfl | fail)
   ·have h : 40 < l.length := by omega
    simp [greatD, h]
   ·have h : ¬ 40 < l.length := by omega
    simp [greatD, h]; omega
 ·have := fin (by omega)
  rw [this]
  repeat' ((conv => whnf); first | (refine dec (fun h => ?_) (fun h => ?_) <;> try contradiction) | (refine decN (fun h => ?_) (fun h => ?_) <;> try contradiction) | refine booN (fun h => ?_) (fun h => ?_) | refine boo (fun h => ?_) (fun h => ?_) | refine ⟨i64 (by omega) (by omega), ?_⟩ | refine ⟨_, _, rfl, List.getElem?_eq_getElem (by omega), ?_⟩ | refine ⟨_, ⟨rfl, by omega⟩, ?_⟩ | refine ⟨_, List.getElem?_eq_getElem (by omega), ?_⟩ | refine rtB ?_ | refine rtI ?_ | refine rtC ?_ rfl | fail)
  ·have h : 40 < l.length := by omega
   simp [greatD, h]
  ·have h : ¬ 40 < l.length := by omega
   simp [greatD, h]; omega
theorem wrapU (n : Int) : IntKind.u64.wrap n = n % 18446744073709551616 := by
 unfold IntKind.wrap
 simp [IntKind.bits, IntKind.signed]
theorem wrapS {n : Int} (h0 : 0 ≤ n) (h : n ≤ 9223372036854775807) : IntKind.i64.wrap n = n := by
 have e : n % 18446744073709551616 = n := Int.emod_eq_of_lt h0 (by omega)
 unfold IntKind.wrap
 simp only [IntKind.bits, IntKind.signed]
 show (if (true && decide (n % 18446744073709551616 ≥ 9223372036854775808)) = true then n % 18446744073709551616 - 18446744073709551616 else n % 18446744073709551616) = n
 rw [e, if_neg (by simp; omega)]
theorem wrapU_ne {n : Nat} (h0 : n ≠ 0) (h : n ≤ 9223372036854775807) : IntKind.u64.wrap n ≠ 0 := by rw [wrapU]; omega
theorem round_at {k : Int} {n : Nat} (h0 : n ≠ 0) (h : n ≤ 9223372036854775807) : IntKind.i64.wrap ((IntKind.u64.wrap k).tmod (IntKind.u64.wrap n)) = ((k % 18446744073709551616 % n).toNat : Nat) ∧ (k % 18446744073709551616 % n).toNat < n := by
 have e : (n : Int) % 18446744073709551616 = n := Int.emod_eq_of_lt (by omega) (by omega)
 have h1 : 0 ≤ k % 18446744073709551616 := Int.emod_nonneg _ (by decide)
 have h2 : 0 ≤ k % 18446744073709551616 % n := Int.emod_nonneg _ (by omega)
 have h3 : k % 18446744073709551616 % n < n := Int.emod_lt_of_pos _ (by omega)
 rw [wrapU, wrapU, e, Int.tmod_eq_emod_of_nonneg h1, wrapS h2 (by omega)]
 omega
def pick (l : List Int) (k : Int) : Int := (l[(k % 18446744073709551616 % l.length).toNat]?).getD 0
end Go.Nest
end
/- part -/
section

namespace Go.Nest
open Go Go.AM
inductive Anc (L : List Ob) : Int → Int → Prop
 | refl (id : Int) : Anc L id id
 | step {id j k : Int} (h : j ∈ (getP L id).parents) (h2 : Anc L j k) : Anc L id k
theorem par_next {L : List Ob} {j k : Int} (h : k ∈ (getP L j).parents) : k ∈ nextP L j := by
 unfold nextP
 rw [List.mem_append, List.mem_append]
 exact .inr (.inr h)
theorem par_lt {L : List Ob} (hp : PoolOk L) {j k : Int} (h : k ∈ (getP L j).parents) : 0 ≤ k ∧ k < j ∧ k.toNat < L.length := by
 obtain ⟨h1, h2⟩ := next_lt hp (par_next h)
 obtain ⟨h3, h4⟩ := kindOf_pos h1
 exact ⟨by omega, h2, h4⟩
theorem par_kind {L : List Ob} (hp : PoolOk L) {j k : Int} (hj : kindOf L j = 3) (h : k ∈ (getP L j).parents) : kindOf L k = 3 := by
 obtain ⟨h1, h2⟩ := kindOf_pos (l := L) (id := j) (by omega)
 have := (hp.obj (getP L j) (by rw [getP_at h1 h2]; exact List.getElem_mem _)).2
 unfold leadsP at this
 rw [Bool.and_eq_true, Bool.and_eq_true, List.all_eq_true, List.all_eq_true] at this
 simpa using this.2.1 k h
theorem Anc.kind {L : List Ob} (hp : PoolOk L) {id k : Int} (h : Anc L id k) (hi : kindOf L id = 3) : kindOf L k = 3 := by
 induction h with
 | refl => exact hi
 | step h _ ih => exact ih (par_kind hp hi h)
theorem Anc.le {L : List Ob} (hp : PoolOk L) {id k : Int} (h : Anc L id k) : k ≤ id := by
 induction h with
 | refl => exact Int.le_refl _
 | step h _ ih => have := (par_lt hp h).2.1; omega
end Go.Nest
end
/- part -/
section

namespace Go.Nest
open Go Go.AM
theorem nodup_len : ∀ (n : Nat) {l : List Int}, l.Nodup → (∀ k ∈ l, 0 ≤ k ∧ k < n) → l.length ≤ n
 | 0, l, _, h => by
  cases l with
  | nil => simp
  | cons x r => have := h x (by simp); omega
 | n + 1, l, hn, h => by
  by_cases hm : (n : Int) ∈ l
  ·have := nodup_len n (hn.erase (n : Int)) (fun k hk => by
    obtain ⟨h1, h2⟩ := (hn.mem_erase_iff).1 hk
    have := h k h2; omega)
   rw [List.length_erase_of_mem hm] at this
   omega
  ·have := nodup_len n hn (fun k hk => by
    have h1 := h k hk
    have : k ≠ n := fun e => hm (e ▸ hk)
    omega)
   omega
structure Bfs (L : List Ob) (id : Int) (out : List Int) (i : Nat) : Prop where
 le : i ≤ out.length
 nd : out.Nodup
 mem : id ∈ out
 anc : ∀ k ∈ out, Anc L id k
 clos : ∀ x ∈ out.take i, ∀ k ∈ (getP L x).parents, k ∈ out
theorem Bfs.start {L : List Ob} {id : Int} : Bfs L id [id] 0 := ⟨Nat.zero_le _, by simp, by simp, fun k hk => by rw [List.mem_singleton] at hk; subst hk; exact .refl _, fun x hx => by cases hx⟩
theorem Bfs.len {L : List Ob} (hL : PoolOk L) {id : Int} (hi : kindOf L id = 3) {out : List Int} {i : Nat} (h : Bfs L id out i) : out.length ≤ L.length :=
 nodup_len _ h.nd fun k hk => by
  have := (h.anc k hk).kind hL hi
  obtain ⟨h1, h2⟩ := kindOf_pos (l := L) (id := k) (by omega)
  omega
theorem Bfs.add {L : List Ob} {id : Int} {out : List Int} {i : Nat} (h : Bfs L id out i) {k : Int} (hk : k ∉ out) (ha : Anc L id k) : Bfs L id (out ++ [k]) i := by
 refine ⟨by rw [List.length_append]; have := h.le; omega, ?_, List.mem_append_left _ h.mem, fun x hx => ?_, fun x hx j hj => ?_⟩
 ·rw [List.nodup_append]
  exact ⟨h.nd, by simp, fun a ha2 b hb => by rw [List.mem_singleton] at hb; intro e; exact hk (by rw [← hb, ← e]; exact ha2)⟩
 ·rcases List.mem_append.1 hx with hx | hx
  ·exact h.anc x hx
  ·rw [List.mem_singleton] at hx; subst hx; exact ha
 ·rw [List.take_append_of_le_length h.le] at hx
  exact List.mem_append_left _ (h.clos x hx j hj)
end Go.Nest
end
/- part -/
section

namespace Go.Nest
open Go Go.AM Go.Proofs
open Go.Proofs.YtpmjnbidmcnhnaaGreatDoor (tab tabOk)
set_option maxRecDepth 4000
structure Ln (L : List Ob) (id : Int) (R : List Int) (vis : List Bool) (i : Nat) : Prop where
 len : vis.length = L.length
 sound : ∀ k, Mk vis k → Anc L id k
 me : Mk vis id
 clos : ∀ x ∈ R.drop i, Mk vis x → ∀ p ∈ (getP L x).parents, Mk vis p
theorem Anc.led {L : List Ob} (hL : PoolOk L) {id k : Int} (hi : kindOf L id = 3) (h : Anc L id k) : Led L [id] k := by
 have key : ∀ {a b : Int}, Anc L a b → Led L [id] a → Led L [id] b := fun {a b} h => by
  induction h with
  | refl => exact fun h => h
  | step h _ ih => exact fun h2 => ih (.step h2 (par_next h))
 exact key h (.base (by simp) (by omega))
theorem Ln.start {L : List Ob} {id : Int} {R : List Int} (h : kindOf L id = 3) : Ln L id R ((List.replicate L.length false).set id.toNat true) R.length := by
 have hset : ∀ k, Mk ((List.replicate L.length false).set id.toNat true) k ↔ Mk (List.replicate L.length false) k ∨ k = id := fun k => mk_set (l := L) (by simp) (by omega)
 refine ⟨by simp, fun k hk => ?_, (hset id).2 (.inr rfl), fun x hx => by rw [List.drop_length] at hx; cases hx⟩
 rcases (hset k).1 hk with h | rfl
 ·exact (not_Mk_rep h).elim
 ·exact .refl _
end Go.Nest
end
/- part -/
section

namespace Go.Nest
open Go Go.AM Go.Proofs
open Go.Proofs.YtpmjnbidmcnhnaaGreatDoor (tab tabOk)
set_option maxRecDepth 4000
structure Del (p : Int → Bool) (l r : List Int) (i j : Nat) : Prop where
 le : i ≤ j
 jl : j ≤ l.length
 len : r.length = l.length
 pre : r.take i = (l.take j).filter fun x => !p x
 suf : r.drop j = l.drop j
theorem filter_none {p : Int → Bool} {l : List Int} (h : l.any p = false) : (l.filter fun x => !p x) = l := by
 rw [List.any_eq_false] at h
 exact List.filter_eq_self.2 fun x hx => by have := h x hx; simpa using this
theorem Del.start {p : Int → Bool} {l : List Int} {i : Nat} (h : i < l.length) (h1 : (l.take i).any p = false) (h2 : p l[i] = true) : Del p l l i (i + 1) := by
 refine ⟨by omega, h, rfl, ?_, rfl⟩
 rw [List.take_succ_eq_append_getElem h, List.filter_append, filter_none h1]
 simp [h2]
theorem Del.at {p : Int → Bool} {l r : List Int} {i j : Nat} (h : Del p l r i j) (hj : j < l.length) : r[j]? = some l[j] := by
 have := congrArg (·[0]?) h.suf
 simp only [List.getElem?_drop, Nat.add_zero] at this
 rw [this, List.getElem?_eq_getElem hj]
theorem Del.suf1 {p : Int → Bool} {l r : List Int} {i j : Nat} (h : Del p l r i j) : r.drop (j + 1) = l.drop (j + 1) := by
 rw [← List.drop_drop, h.suf, List.drop_drop]
theorem Del.drop {p : Int → Bool} {l r : List Int} {i j : Nat} (h : Del p l r i j) (hj : j < l.length) (hp : p l[j] = true) : Del p l r i (j + 1) := by
 have := h.le
 refine ⟨by omega, hj, h.len, ?_, h.suf1⟩
 rw [List.take_succ_eq_append_getElem hj, List.filter_append, ← h.pre]
 simp [hp]
theorem Del.keep {p : Int → Bool} {l r : List Int} {i j : Nat} (h : Del p l r i j) (hj : j < l.length) (hp : p l[j] = false) : Del p l (r.set i l[j]) (i + 1) (j + 1) := by
 have := h.le
 have hi : i < r.length := by rw [h.len]; omega
 refine ⟨by omega, hj, by rw [List.length_set]; exact h.len, ?_, ?_⟩
 ·rw [List.take_succ_eq_append_getElem hj, List.filter_append, ← h.pre, List.take_succ_eq_append_getElem (by rw [List.length_set]; exact hi), List.getElem_set_self, List.take_set_of_le (Nat.le_refl _)]
  simp [hp]
 ·rw [List.drop_set_of_lt (by omega), h.suf1]
end Go.Nest
end
/- part -/
section

namespace Go.Nest
open Go Go.AM Go.Proofs
open Go.Proofs.YtpmjnbidmcnhnaaGreatDoor (tab tabOk)
set_option maxRecDepth 4000
def below (x : Int) (out : List Int) : Nat := (out.takeWhile fun y => decide (y < x)).length
end Go.Nest
end
/- part -/
section
namespace Go.Proofs.YtpmjnbidmcnhnaaGreatDoor.T3
open Go Go.AM Go.Nest
def tabL : List (Nat × TD) := [
 (3, ⟨1, false, 8, (.int .i64), [.int .i64 0], false, Int, encI⟩),
 (5, ⟨1, false, 1, (.int .u8), [.int .u8 0], false, UInt8, bytesC⟩),
 (9, ⟨1, false, 16, .str, [.str []], false, (List UInt8), encS⟩),
 (30, ⟨1, false, 24, (.sl 3), [.nil], false, (List Int), (encL 1 encI)⟩),
 (38, ⟨1, false, 24, (.sl 54), [.nil], false, (List Fi), (encL 4 encFi)⟩),
 (41, ⟨1, false, 24, (.sl 5), [.nil], false, (List UInt8), (encL 1 bytesC)⟩),
 (42, ⟨1, false, 24, (.sl 151), [.nil], false, (List Ent), (encL 4 encEn)⟩),
 (44, ⟨6, true, 104, (.struct [(3, 0), (41, 1), (42, 2), (3, 3), (30, 4), (9, 5)]), [.int .i64 0, .nil, .nil, .int .i64 0, .nil, .str []], false, Ob, encOb⟩),
 (47, ⟨1, false, 8, .ptr, [.raw (.pointer none)], false, Unit, (fun _ => [])⟩),
 (54, ⟨4, true, 40, (.struct [(9, 0), (3, 1), (3, 2), (3, 3)]), [.str [], .int .i64 0, .int .i64 0, .int .i64 0], true, Fi, encFi⟩),
 (72, ⟨1, false, 24, (.sl 102), [.nil], false, (List Dc), (encL 2 encDcN)⟩),
 (76, ⟨1, false, 24, (.sl 44), [.nil], false, (List Ob), (encL 6 encOb)⟩),
 (78, ⟨1, true, 24, (.struct [(76, 0)]), [.nil], false, Unit, (fun _ => [])⟩),
 (80, ⟨1, false, 24, (.sl 9), [.nil], false, (List (List UInt8)), (encL 1 encS)⟩),
 (102, ⟨2, true, 40, (.struct [(9, 0), (41, 1)]), [.str [], .nil], false, Dc, encDcN⟩),
 (151, ⟨4, true, 40, (.struct [(9, 0), (3, 1), (3, 2), (3, 3)]), [.str [], .int .i64 0, .int .i64 0, .int .i64 0], true, Ent, encEn⟩)]
def tab : Nat → Option TD := lkT tabL
theorem good3 : ∀ d, tab 3 = some d → Good Tryz.prog tab 3 d := fun d h => by
 cases h
 exact ⟨⟨_, _, _, Tryz.typeInfo3, rfl, rfl, rfl, rfl, fun _ _ _ => by exact (.int .nl)⟩, Tryz.isAgg3, (fun _ => rfl), rfl, Tryz.underlying3, (fun h => by cases h)⟩
theorem good5 : ∀ d, tab 5 = some d → Good Tryz.prog tab 5 d := fun d h => by
 cases h
 exact ⟨⟨_, _, _, Tryz.typeInfo5, rfl, rfl, rfl, rfl, fun _ _ _ => by exact (.int .nl)⟩, Tryz.isAgg5, (fun _ => rfl), rfl, Tryz.underlying5, (fun h => by cases h)⟩
theorem good9 : ∀ d, tab 9 = some d → Good Tryz.prog tab 9 d := fun d h => by
 cases h
 exact ⟨⟨_, _, _, Tryz.typeInfo9, rfl, rfl, rfl, rfl, fun _ _ _ => by exact (.str (Nat.zero_le _) .nl)⟩, Tryz.isAgg9, (fun _ => rfl), rfl, Tryz.underlying9, (fun h => by cases h)⟩
theorem good30 : ∀ d, tab 30 = some d → Good Tryz.prog tab 30 d := fun d h => by
 cases h
 exact ⟨⟨_, _, _, Tryz.typeInfo30, rfl, rfl, rfl, rfl, fun _ _ _ => by exact (.nil .nl)⟩, Tryz.isAgg30, (fun _ => rfl), rfl, Tryz.underlying30, (fun h => by cases h)⟩
theorem good38 : ∀ d, tab 38 = some d → Good Tryz.prog tab 38 d := fun d h => by
 cases h
 exact ⟨⟨_, _, _, Tryz.typeInfo38, rfl, rfl, rfl, rfl, fun _ _ _ => by exact (.nil .nl)⟩, Tryz.isAgg38, (fun _ => rfl), rfl, Tryz.underlying38, (fun h => by cases h)⟩
theorem good41 : ∀ d, tab 41 = some d → Good Tryz.prog tab 41 d := fun d h => by
 cases h
 exact ⟨⟨_, _, _, Tryz.typeInfo41, rfl, rfl, rfl, rfl, fun _ _ _ => by exact (.nil .nl)⟩, Tryz.isAgg41, (fun _ => rfl), rfl, Tryz.underlying41, (fun h => by cases h)⟩
theorem good42 : ∀ d, tab 42 = some d → Good Tryz.prog tab 42 d := fun d h => by
 cases h
 exact ⟨⟨_, _, _, Tryz.typeInfo42, rfl, rfl, rfl, rfl, fun _ _ _ => by exact (.nil .nl)⟩, Tryz.isAgg42, (fun _ => rfl), rfl, Tryz.underlying42, (fun h => by cases h)⟩
theorem good44 : ∀ d, tab 44 = some d → Good Tryz.prog tab 44 d := fun d h => by
 cases h
 exact ⟨⟨_, _, _, Tryz.typeInfo44, rfl, rfl, rfl, rfl, fun _ _ _ => by exact (.int (.nil (.nil (.int (.nil (.str (Nat.zero_le _) .nl))))))⟩, Tryz.isAgg44, (fun h => by cases h), rfl, ⟨_, Tryz.underlying44, rfl, rfl⟩, (fun h => by cases h)⟩
theorem good47 : ∀ d, tab 47 = some d → Good Tryz.prog tab 47 d := fun d h => by
 cases h
 exact ⟨⟨_, _, _, Tryz.typeInfo47, rfl, rfl, rfl, rfl, fun _ _ _ => by exact (.raw rfl .nl)⟩, Tryz.isAgg47, (fun _ => rfl), rfl, ⟨_, Tryz.underlying47⟩, (fun h => by cases h)⟩
theorem good54 : ∀ d, tab 54 = some d → Good Tryz.prog tab 54 d := fun d h => by
 cases h
 exact ⟨⟨_, _, _, Tryz.typeInfo54, rfl, rfl, rfl, rfl, fun _ _ _ => by exact (.str (Nat.zero_le _) (.int (.int (.int .nl))))⟩, Tryz.isAgg54, (fun h => by cases h), rfl, ⟨_, Tryz.underlying54, rfl, rfl⟩, (fun _ => ⟨by kernel_rfl, by exact (CmpAt.struct (by kernel_rfl) (by kernel_rfl) (by rw [fieldsL Tryz.underlying54]; exact ⟨false, [.str []], _, rfl, by decide, rfl, Tryz.isAgg9, sizeOf_of Tryz.typeInfo9 rfl, by decide, (CmpAt.str Tryz.underlying9), ⟨false, [.int .i64 0], _, rfl, by decide, rfl, Tryz.isAgg3, sizeOf_of Tryz.typeInfo3 rfl, by decide, (CmpAt.int Tryz.underlying3), ⟨false, [.int .i64 0], _, rfl, by decide, rfl, Tryz.isAgg3, sizeOf_of Tryz.typeInfo3 rfl, by decide, (CmpAt.int Tryz.underlying3), ⟨false, [.int .i64 0], _, rfl, by decide, rfl, Tryz.isAgg3, sizeOf_of Tryz.typeInfo3 rfl, by decide, (CmpAt.int Tryz.underlying3), rfl⟩⟩⟩⟩))⟩)⟩
theorem good72 : ∀ d, tab 72 = some d → Good Tryz.prog tab 72 d := fun d h => by
 cases h
 exact ⟨⟨_, _, _, Tryz.typeInfo72, rfl, rfl, rfl, rfl, fun _ _ _ => by exact (.nil .nl)⟩, Tryz.isAgg72, (fun _ => rfl), rfl, Tryz.underlying72, (fun h => by cases h)⟩
theorem good76 : ∀ d, tab 76 = some d → Good Tryz.prog tab 76 d := fun d h => by
 cases h
 exact ⟨⟨_, _, _, Tryz.typeInfo76, rfl, rfl, rfl, rfl, fun _ _ _ => by exact (.nil .nl)⟩, Tryz.isAgg76, (fun _ => rfl), rfl, Tryz.underlying76, (fun h => by cases h)⟩
theorem good78 : ∀ d, tab 78 = some d → Good Tryz.prog tab 78 d := fun d h => by
 cases h
 exact ⟨⟨_, _, _, Tryz.typeInfo78, rfl, rfl, rfl, rfl, fun _ _ _ => by exact (.nil .nl)⟩, Tryz.isAgg78, (fun h => by cases h), rfl, ⟨_, Tryz.underlying78, rfl, rfl⟩, (fun h => by cases h)⟩
theorem good80 : ∀ d, tab 80 = some d → Good Tryz.prog tab 80 d := fun d h => by
 cases h
 exact ⟨⟨_, _, _, Tryz.typeInfo80, rfl, rfl, rfl, rfl, fun _ _ _ => by exact (.nil .nl)⟩, Tryz.isAgg80, (fun _ => rfl), rfl, Tryz.underlying80, (fun h => by cases h)⟩
theorem good102 : ∀ d, tab 102 = some d → Good Tryz.prog tab 102 d := fun d h => by
 cases h
 exact ⟨⟨_, _, _, Tryz.typeInfo102, rfl, rfl, rfl, rfl, fun _ _ _ => by exact (.str (Nat.zero_le _) (.nil .nl))⟩, Tryz.isAgg102, (fun h => by cases h), rfl, ⟨_, Tryz.underlying102, rfl, rfl⟩, (fun h => by cases h)⟩
theorem good151 : ∀ d, tab 151 = some d → Good Tryz.prog tab 151 d := fun d h => by
 cases h
 exact ⟨⟨_, _, _, Tryz.typeInfo151, rfl, rfl, rfl, rfl, fun _ _ _ => by exact (.str (Nat.zero_le _) (.int (.int (.int .nl))))⟩, Tryz.isAgg151, (fun h => by cases h), rfl, ⟨_, Tryz.underlying151, rfl, rfl⟩, (fun _ => ⟨by kernel_rfl, by exact (CmpAt.struct (by kernel_rfl) (by kernel_rfl) (by rw [fieldsL Tryz.underlying151]; exact ⟨false, [.str []], _, rfl, by decide, rfl, Tryz.isAgg9, sizeOf_of Tryz.typeInfo9 rfl, by decide, (CmpAt.str Tryz.underlying9), ⟨false, [.int .i64 0], _, rfl, by decide, rfl, Tryz.isAgg3, sizeOf_of Tryz.typeInfo3 rfl, by decide, (CmpAt.int Tryz.underlying3), ⟨false, [.int .i64 0], _, rfl, by decide, rfl, Tryz.isAgg3, sizeOf_of Tryz.typeInfo3 rfl, by decide, (CmpAt.int Tryz.underlying3), ⟨false, [.int .i64 0], _, rfl, by decide, rfl, Tryz.isAgg3, sizeOf_of Tryz.typeInfo3 rfl, by decide, (CmpAt.int Tryz.underlying3), rfl⟩⟩⟩⟩))⟩)⟩
theorem tabOk : TabOk Tryz.prog tab := tabOk_of ⟨good3 _ rfl, good5 _ rfl, good9 _ rfl, good30 _ rfl, good38 _ rfl, good41 _ rfl, good42 _ rfl, good44 _ rfl, good47 _ rfl, good54 _ rfl, good72 _ rfl, good76 _ rfl, good78 _ rfl, good80 _ rfl, good102 _ rfl, good151 _ rfl, trivial⟩
end Go.Proofs.YtpmjnbidmcnhnaaGreatDoor.T3
end
