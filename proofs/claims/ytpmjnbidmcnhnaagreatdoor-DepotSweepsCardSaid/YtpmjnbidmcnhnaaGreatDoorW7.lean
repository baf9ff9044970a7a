/- part -/
import Derived.Test.YtpmjnbidmcnhnaaGreatDoorW1
import Derived.Test.YtpmjnbidmcnhnaaGreatDoorG12
import Derived.Test.YtpmjnbidmcnhnaaGreatDoorP3
import Derived.Test.YtpmjnbidmcnhnaaGreatDoorG9
import Derived.Test.YtpmjnbidmcnhnaaGreatDoorL1
import Derived.Test.YtpmjnbidmcnhnaaGreatDoorG1b
set_option linter.unusedVariables false
set_option linter.unusedSimpArgs false
section

namespace Go.Nest
open Go Go.AM
theorem nodup_len : ∀ (n : Nat) {l : List Int}, l.Nodup → (∀ k ∈ l, 0 ≤ k ∧ k < n) → l.length ≤ n
 | 0, l, _, h => by
  cases l with
  | nil => simp
  | cons x r => have := h x (by simp); omega
 | n + 1, l, hn, h => by
  by_cases hm : (n : Int) ∈ l
  ·have := nodup_len n (hn.erase (n : Int)) (fun k hk => by
    obtain ⟨h1, h2⟩ := (hn.mem_erase_iff).1 hk
    have := h k h2; omega)
   rw [List.length_erase_of_mem hm] at this
   omega
  ·have := nodup_len n hn (fun k hk => by
    have h1 := h k hk
    have : k ≠ n := fun e => hm (e ▸ hk)
    omega)
   omega
structure Bfs (L : List Ob) (id : Int) (out : List Int) (i : Nat) : Prop where
 le : i ≤ out.length
 nd : out.Nodup
 mem : id ∈ out
 anc : ∀ k ∈ out, Anc L id k
 clos : ∀ x ∈ out.take i, ∀ k ∈ (getP L x).parents, k ∈ out
theorem Bfs.start {L : List Ob} {id : Int} : Bfs L id [id] 0 := ⟨Nat.zero_le _, by simp, by simp, fun k hk => by rw [List.mem_singleton] at hk; subst hk; exact .refl _, fun x hx => by cases hx⟩
theorem Bfs.len {L : List Ob} (hL : PoolOk L) {id : Int} (hi : kindOf L id = 3) {out : List Int} {i : Nat} (h : Bfs L id out i) : out.length ≤ L.length :=
 nodup_len _ h.nd fun k hk => by
  have := (h.anc k hk).kind hL hi
  obtain ⟨h1, h2⟩ := kindOf_pos (l := L) (id := k) (by omega)
  omega
theorem Bfs.add {L : List Ob} {id : Int} {out : List Int} {i : Nat} (h : Bfs L id out i) {k : Int} (hk : k ∉ out) (ha : Anc L id k) : Bfs L id (out ++ [k]) i := by
 refine ⟨by rw [List.length_append]; have := h.le; omega, ?_, List.mem_append_left _ h.mem, fun x hx => ?_, fun x hx j hj => ?_⟩
 ·rw [List.nodup_append]
  exact ⟨h.nd, by simp, fun a ha2 b hb => by rw [List.mem_singleton] at hb; intro e; exact hk (by rw [← hb, ← e]; exact ha2)⟩
 ·rcases List.mem_append.1 hx with hx | hx
  ·exact h.anc x hx
  ·rw [List.mem_singleton] at hx; subst hx; exact ha
 ·rw [List.take_append_of_le_length h.le] at hx
  exact List.mem_append_left _ (h.clos x hx j hj)
theorem Bfs.next {L : List Ob} {id : Int} {out : List Int} {i : Nat} (h : Bfs L id out i) {x : Int} (hx : out[i]? = some x) (hc : ∀ k ∈ (getP L x).parents, k ∈ out) : Bfs L id out (i + 1) := by
 obtain ⟨hlt, e⟩ := List.getElem?_eq_some_iff.1 hx
 refine ⟨hlt, h.nd, h.mem, h.anc, fun y hy k hk => ?_⟩
 rw [List.take_succ_eq_append_getElem hlt, List.mem_append, List.mem_singleton, e] at hy
 rcases hy with hy | rfl
 ·exact h.clos y hy k hk
 ·exact hc k hk
theorem closed_anc {L : List Ob} {out : List Int} (hc : ∀ x ∈ out, ∀ k ∈ (getP L x).parents, k ∈ out) {id k : Int} (ha : Anc L id k) : id ∈ out → k ∈ out := by
 induction ha with
 | refl => exact fun h => h
 | step h1 _ ih => exact fun h => ih (hc _ h _ h1)
theorem Bfs.stop {L : List Ob} {id : Int} {out : List Int} {i : Nat} (h : Bfs L id out i) (hi : out.length ≤ i) (k : Int) : k ∈ out ↔ Anc L id k := by
 have hc := h.clos
 rw [List.take_of_length_le hi] at hc
 exact ⟨h.anc k, fun ha => closed_anc hc ha h.mem⟩
end Go.Nest
end
/- part -/
section

namespace Go.Nest
open Go Go.AM Go.Proofs
open Go.Proofs.YtpmjnbidmcnhnaaGreatDoor (tab tabOk)
set_option maxRecDepth 4000
structure Ln (L : List Ob) (id : Int) (R : List Int) (vis : List Bool) (i : Nat) : Prop where
 len : vis.length = L.length
 sound : ∀ k, Mk vis k → Anc L id k
 me : Mk vis id
 clos : ∀ x ∈ R.drop i, Mk vis x → ∀ p ∈ (getP L x).parents, Mk vis p
theorem Anc.led {L : List Ob} (hL : PoolOk L) {id k : Int} (hi : kindOf L id = 3) (h : Anc L id k) : Led L [id] k := by
 have key : ∀ {a b : Int}, Anc L a b → Led L [id] a → Led L [id] b := fun {a b} h => by
  induction h with
  | refl => exact fun h => h
  | step h _ ih => exact fun h2 => ih (.step h2 (par_next h))
 exact key h (.base (by simp) (by omega))
theorem Ln.start {L : List Ob} {id : Int} {R : List Int} (h : kindOf L id = 3) : Ln L id R ((List.replicate L.length false).set id.toNat true) R.length := by
 have hset : ∀ k, Mk ((List.replicate L.length false).set id.toNat true) k ↔ Mk (List.replicate L.length false) k ∨ k = id := fun k => mk_set (l := L) (by simp) (by omega)
 refine ⟨by simp, fun k hk => ?_, (hset id).2 (.inr rfl), fun x hx => by rw [List.drop_length] at hx; cases hx⟩
 rcases (hset k).1 hk with h | rfl
 ·exact (not_Mk_rep h).elim
 ·exact .refl _
theorem Ln.stop {L : List Ob} (hL : PoolOk L) {id : Int} (hi : kindOf L id = 3) {R : List Int} (hR : ∀ k, k ∈ R ↔ Led L [id] k) {vis : List Bool} (h : Ln L id R vis 0) (k : Int) : Mk vis k ↔ Anc L id k := by
 refine ⟨h.sound k, fun ha => ?_⟩
 have hc := h.clos
 rw [List.drop_zero] at hc
 have key : ∀ {a b : Int}, Anc L a b → Anc L id a → Mk vis a → Mk vis b := fun {a b} h => by
  induction h with
  | refl => exact fun _ h => h
  | step h1 _ ih => exact fun g1 g2 => ih (g1.next h1) (hc _ ((hR _).2 (g1.led hL hi)) g2 _ h1)
 exact key ha (.refl _) h.me
end Go.Nest
end
/- part -/
section

namespace Go.Nest
open Go Go.AM Go.Proofs
open Go.Proofs.YtpmjnbidmcnhnaaGreatDoor (tab tabOk)
set_option maxRecDepth 4000
theorem index_spec (l : List Int) (n : Int) : Does Tryz.prog 117 [.c (.bs 1 Int encI l), .c (.int .i64 n)] [] (Rt (.c (.int .i64 (idxF (fun x => decide (x = n)) l))) []) := by
 refine X_spec (n := 19) (n0 := 0) tabOk Tryz.call117 Tryz.func117 ?_
 intro hb; have hb : l.length ≤ 9223372036854775807 := hb.1.1
 (conv => whnf)
 refine lp Nat (fun i => ⟨[(0, .c (.bs 1 Int encI l)), (1, .c (.int .i64 n)), (7, .c (.int .i64 l.length)), (8, .c (.int .i64 i))], []⟩) (fun i => i ≤ l.length ∧ (l.take i).any (fun x => decide (x = n)) = false) (fun i => l.length - i) 0 [] [] ?_ ?_ (fun i hi => ?_)
 ·simp
 ·repeat' first | exact trivial | exact rfl | refine And.intro ?_ ?_
 (conv => whnf)
 refine dec (fun h4 => ?_) (fun h4 => ?_)
 ·have hlt : i < l.length := by omega
  repeat' ((conv => whnf); first | (refine dec (fun h => ?_) (fun h => ?_) <;> try contradiction) | (refine decN (fun h => ?_) (fun h => ?_) <;> try contradiction) | refine booN (fun h => ?_) (fun h => ?_) | refine boo (fun h => ?_) (fun h => ?_) | refine ⟨i64 (by omega) (by omega), ?_⟩ | refine ⟨_, _, rfl, List.getElem?_eq_getElem (by omega), ?_⟩ | refine ⟨_, ⟨rfl, by omega⟩, ?_⟩ | refine ⟨_, List.getElem?_eq_getElem (by omega), ?_⟩ | refine rtB ?_ | refine rtI ?_ | refine rtC ?_ rfl | fail)
  ·exact idxF_at hlt hi.2 (by simpa using h.symm)
  ·refine ag (i + 1) [] [] ⟨hlt, any_take hlt hi.2 (by simpa using fun e => h (Eq.symm e))⟩ (by simp only []; omega) ?_
   repeat' first | exact trivial | exact rfl | refine And.intro ?_ ?_
 ·repeat' ((conv => whnf); first | (refine dec (fun h => ?_) (fun h => ?_) <;> try contradiction) | (refine decN (fun h => ?_) (fun h => ?_) <;> try contradiction) | refine booN (fun h => ?_) (fun h => ?_) | refine boo (fun h => ?_) (fun h => ?_) | refine ⟨i64 (by omega) (by omega), ?_⟩ | refine ⟨_, _, rfl, List.getElem?_eq_getElem (by omega), ?_⟩ | refine ⟨_, ⟨rfl, by omega⟩, ?_⟩ | refine ⟨_, List.getElem?_eq_getElem (by omega), ?_⟩ | refine rtB ?_ | refine rtI ?_ | refine rtC ?_ rfl | fail)
  have := hi.2
  rw [List.take_of_length_le (by omega)] at this
  exact idxF_none this
theorem contains_spec (l : List Int) (n : Int) : Does Tryz.prog 74 [.c (.bs 1 Int encI l), .c (.int .i64 n)] [] (Rt (.c (.bool (hasI l n))) []) := by
 refine X_spec (n := 9) (n0 := 0) tabOk Tryz.call74 Tryz.func74 ?_
 intro hb
 (conv => whnf)
 refine cl [] [] (index_spec l n) ?_
 (conv => whnf)
 exact rtB (idxF_any ..)
end Go.Nest
end
/- part -/
section

namespace Go.Nest
open Go Go.AM Go.Proofs
open Go.Proofs.YtpmjnbidmcnhnaaGreatDoor (tab tabOk)
set_option maxRecDepth 4000
structure Del (p : Int → Bool) (l r : List Int) (i j : Nat) : Prop where
 le : i ≤ j
 jl : j ≤ l.length
 len : r.length = l.length
 pre : r.take i = (l.take j).filter fun x => !p x
 suf : r.drop j = l.drop j
theorem filter_none {p : Int → Bool} {l : List Int} (h : l.any p = false) : (l.filter fun x => !p x) = l := by
 rw [List.any_eq_false] at h
 exact List.filter_eq_self.2 fun x hx => by have := h x hx; simpa using this
theorem Del.start {p : Int → Bool} {l : List Int} {i : Nat} (h : i < l.length) (h1 : (l.take i).any p = false) (h2 : p l[i] = true) : Del p l l i (i + 1) := by
 refine ⟨by omega, h, rfl, ?_, rfl⟩
 rw [List.take_succ_eq_append_getElem h, List.filter_append, filter_none h1]
 simp [h2]
theorem Del.at {p : Int → Bool} {l r : List Int} {i j : Nat} (h : Del p l r i j) (hj : j < l.length) : r[j]? = some l[j] := by
 have := congrArg (·[0]?) h.suf
 simp only [List.getElem?_drop, Nat.add_zero] at this
 rw [this, List.getElem?_eq_getElem hj]
theorem Del.suf1 {p : Int → Bool} {l r : List Int} {i j : Nat} (h : Del p l r i j) : r.drop (j + 1) = l.drop (j + 1) := by
 rw [← List.drop_drop, h.suf, List.drop_drop]
theorem Del.drop {p : Int → Bool} {l r : List Int} {i j : Nat} (h : Del p l r i j) (hj : j < l.length) (hp : p l[j] = true) : Del p l r i (j + 1) := by
 have := h.le
 refine ⟨by omega, hj, h.len, ?_, h.suf1⟩
 rw [List.take_succ_eq_append_getElem hj, List.filter_append, ← h.pre]
 simp [hp]
theorem Del.keep {p : Int → Bool} {l r : List Int} {i j : Nat} (h : Del p l r i j) (hj : j < l.length) (hp : p l[j] = false) : Del p l (r.set i l[j]) (i + 1) (j + 1) := by
 have := h.le
 have hi : i < r.length := by rw [h.len]; omega
 refine ⟨by omega, hj, by rw [List.length_set]; exact h.len, ?_, ?_⟩
 ·rw [List.take_succ_eq_append_getElem hj, List.filter_append, ← h.pre, List.take_succ_eq_append_getElem (by rw [List.length_set]; exact hi), List.getElem_set_self, List.take_set_of_le (Nat.le_refl _)]
  simp [hp]
 ·rw [List.drop_set_of_lt (by omega), h.suf1]
theorem Del.stop {p : Int → Bool} {l r : List Int} {i : Nat} (h : Del p l r i l.length) : r.take i = l.filter fun x => !p x := by
 have := h.pre
 rwa [List.take_length] at this
end Go.Nest
end
/- part -/
section

namespace Go.Nest
open Go Go.AM Go.Proofs
open Go.Proofs.YtpmjnbidmcnhnaaGreatDoor (tab tabOk)
set_option maxRecDepth 4000
end Go.Nest
end
/- part -/
section

namespace Go.Nest
open Go Go.AM Go.Proofs
open Go.Proofs.YtpmjnbidmcnhnaaGreatDoor (tab tabOk)
set_option maxRecDepth 4000
end Go.Nest
end
/- part -/
section

namespace Go.Nest
open Go Go.AM Go.Proofs
open Go.Proofs.YtpmjnbidmcnhnaaGreatDoor (tab tabOk)
set_option maxRecDepth 4000
def below (x : Int) (out : List Int) : Nat := (out.takeWhile fun y => decide (y < x)).length
def insI (out : List Int) (x : Int) : List Int := if out[below x out]? = some x then out else out.take (below x out) ++ x :: out.drop (below x out)
def sortI (l : List Int) : List Int := l.foldl insI []
theorem below_at {x : Int} {out : List Int} {k : Nat} (hk : k ≤ out.length) (h1 : ∀ g ∈ out.take k, g < x) (h2 : ∀ h : k < out.length, ¬ out[k] < x) : below x out = k := by
 unfold below
 rw [(tw_at (p := fun y : Int => decide (y < x)) hk (fun g hg => by simpa using h1 g hg) (fun h => by simpa using h2 h)).1, List.length_take, Nat.min_eq_left hk]
theorem below_le {x : Int} {out : List Int} : below x out ≤ out.length := (List.takeWhile_sublist _).length_le
theorem below_lo {x : Int} {out : List Int} : ∀ g ∈ out.take (below x out), g < x := fun g hg => by
 have e : out.take (below x out) = out.takeWhile fun y => decide (y < x) := by
  unfold below
  have h : out.takeWhile (fun y => decide (y < x)) ++ out.dropWhile (fun y => decide (y < x)) = out := List.takeWhile_append_dropWhile
  calc out.take (out.takeWhile fun y => decide (y < x)).length = (out.takeWhile (fun y => decide (y < x)) ++ out.dropWhile (fun y => decide (y < x))).take (out.takeWhile fun y => decide (y < x)).length := by rw [h]
   _ = _ := List.take_left' rfl
 rw [e] at hg
 have key : ∀ {l : List Int}, g ∈ l.takeWhile (fun y => decide (y < x)) → g < x := by
  intro l
  induction l with
  | nil => intro h; cases h
  | cons y l ih =>
   intro h
   rw [List.takeWhile_cons] at h
   split at h
   ·rename_i hy
    rcases List.mem_cons.1 h with rfl | h
    ·simpa using hy
    ·exact ih h
   ·cases h
 exact key hg
theorem below_hi {x : Int} {out : List Int} (h : below x out < out.length) : ¬ out[below x out] < x := by
 have key : ∀ {l : List Int} (h : below x l < l.length), ¬ l[below x l] < x := by
  intro l
  induction l with
  | nil => intro h; simp at h
  | cons y l ih =>
   intro h
   by_cases hy : y < x
   ·have e : below x (y :: l) = below x l + 1 := by unfold below; rw [List.takeWhile_cons, if_pos (by simpa using hy)]; rfl
    have h' : below x l < l.length := by rw [e] at h; simpa using h
    have := ih h'
    simp only [e, List.getElem_cons_succ]
    exact this
   ·have e : below x (y :: l) = 0 := by unfold below; rw [List.takeWhile_cons, if_neg (by simpa using hy)]; rfl
    simp only [e, List.getElem_cons_zero]
    exact hy
 exact key h
theorem ins_rise {x : Int} {out : List Int} (h : out.Pairwise (· < ·)) : (insI out x).Pairwise (· < ·) := by
 unfold insI
 split
 ·exact h
 rename_i hne
 have hlo := below_lo (x := x) (out := out)
 have hle := below_le (x := x) (out := out)
 have hd : ∀ g ∈ out.drop (below x out), x < g := fun g hg => by
  obtain ⟨i, hi, e⟩ := List.mem_iff_getElem.1 hg
  rw [List.length_drop] at hi
  rw [List.getElem_drop] at e
  have hb : below x out < out.length := by omega
  have h1 := below_hi hb
  rw [List.getElem?_eq_getElem hb] at hne
  have h2 : out[below x out] ≠ x := fun e => hne (by rw [e])
  by_cases h0 : i = 0
  ·subst h0
   simp only [Nat.add_zero] at e
   omega
  ·have := List.pairwise_iff_getElem.1 h (below x out) (below x out + i) hb (by omega) (by omega)
   omega
 rw [List.pairwise_append]
 refine ⟨h.take, List.pairwise_cons.2 ⟨hd, h.drop⟩, fun a ha b hb => ?_⟩
 rcases List.mem_cons.1 hb with rfl | hb
 ·exact hlo a ha
 ·have := hlo a ha; have := hd b hb; omega
theorem ins_mem {x y : Int} {out : List Int} : y ∈ insI out x ↔ y ∈ out ∨ y = x := by
 unfold insI
 split
 ·rename_i he
  constructor
  ·exact .inl
  ·rintro (h | rfl)
   ·exact h
   ·exact List.mem_of_getElem? he
 ·have e : out.take (below x out) ++ out.drop (below x out) = out := List.take_append_drop ..
  constructor
  ·intro h
   rcases List.mem_append.1 h with h | h
   ·exact .inl (List.mem_of_mem_take h)
   ·rcases List.mem_cons.1 h with rfl | h
    ·exact .inr rfl
    ·exact .inl (List.mem_of_mem_drop h)
  ·intro h
   rw [List.mem_append, List.mem_cons]
   rcases h with h | h
   ·rw [← e, List.mem_append] at h
    exact h.imp id .inr
   ·exact .inr (.inl h)
theorem sort_rise : ∀ {l out : List Int}, out.Pairwise (· < ·) → (l.foldl insI out).Pairwise (· < ·)
 | [], _, h => h
 | x :: l, _, h => sort_rise (l := l) (ins_rise h)
theorem sort_mem {y : Int} : ∀ {l out : List Int}, y ∈ l.foldl insI out ↔ y ∈ out ∨ y ∈ l
 | [], out => by simp
 | x :: l, out => by
  rw [List.foldl_cons, sort_mem (l := l), ins_mem, List.mem_cons, or_assoc]
theorem sortI_mem {y : Int} {l : List Int} : y ∈ sortI l ↔ y ∈ l := by unfold sortI; rw [sort_mem]; simp
theorem sortI_rise {l : List Int} : (sortI l).Pairwise (· < ·) := sort_rise List.Pairwise.nil
theorem sortI_succ {l : List Int} {i : Nat} (h : i < l.length) : sortI (l.take (i + 1)) = insI (sortI (l.take i)) l[i] := by
 unfold sortI
 rw [List.take_succ_eq_append_getElem h, List.foldl_append]; rfl
theorem ins_len {out : List Int} {x : Int} : (insI out x).length ≤ out.length + 1 := by
 unfold insI
 have := below_le (x := x) (out := out)
 split
 ·omega
 ·simp; omega
theorem sortI_len : ∀ {l out : List Int}, (l.foldl insI out).length ≤ out.length + l.length
 | [], _ => by simp
 | x :: l, out => by
  have := sortI_len (l := l) (out := insI out x)
  have := ins_len (out := out) (x := x)
  simp only [List.foldl_cons, List.length_cons]; omega
set_option maxHeartbeats 2000000 in
theorem sortedI_spec (l : List Int) (hl : l.length ≤ 1000000) : Does Tryz.prog 101 [.c (.bs 1 Int encI l)] [] (Rt (.c (.rw 0)) [.row 1 Int encI (sortI l)]) := by
 refine X_spec (n := 62) (n0 := 0) tabOk Tryz.call101 Tryz.func101 ?_
 intro hb
 (conv => whnf)
 refine lp Nat (fun i => ⟨[(0, .c (.bs 1 Int encI l)), (3, .c (.rw 0)), (4, .c (.int .i64 i))], [.row 1 Int encI (sortI (l.take i))]⟩) (fun i => i ≤ l.length ∧ True) (fun i => l.length - i) 0 [] [.new] ?_ ?_ (fun i hi => ?_)
 ·simp
 ·repeat' first | exact trivial | exact rfl | refine And.intro ?_ ?_
 have hol : (sortI (l.take i)).length ≤ l.length := by
  have := sortI_len (l := l.take i) (out := [])
  rw [List.length_take] at this
  unfold sortI
  simp at this; omega
 (conv => whnf)
 refine dec (fun h4 => ?_) (fun h4 => ?_)
 ·have hlt : i < l.length := by omega
  have hs := sortI_succ hlt
  generalize sortI (l.take i) = out at *
  (conv => whnf)
  refine lp Nat (fun k => ⟨[(0, .c (.bs 1 Int encI l)), (3, .c (.rw 0)), (4, .c (.int .i64 i)), (5, .c (.int .i64 k))], [.row 1 Int encI out]⟩) (fun k => (k ≤ out.length ∧ True) ∧ ∀ g ∈ out.take k, g < l[i]) (fun k => out.length - k) 0 [] [.same 0] ?_ ?_ (fun k hk => ?_)
  ·simp
  ·repeat' first | exact trivial | exact rfl | refine And.intro ?_ ?_
  obtain ⟨⟨hk1, _⟩, hk2⟩ := hk
  have fin : (∀ h : k < out.length, ¬ out[k] < l[i]) → below l[i] out = k := fun h => below_at hk1 hk2 h
  (conv => whnf)
  refine ⟨false, .grow, (.l [0, 1, 2, 3, 4, 5, 6, 7, 8, 9, 10, 11, 12, 13, 14]), by kernel_rfl, .inl ?_⟩
  (conv => whnf)
  refine dec (fun h5 => ?_) (fun h5 => ?_)
  ·have hkl : k < out.length := by omega
   (conv => whnf)
   refine ⟨k, ⟨rfl, hkl⟩, ?_⟩
   (conv => whnf)
   refine ⟨out[k], List.getElem?_eq_getElem hkl, ?_⟩
   (conv => whnf)
   refine ⟨i, l[i], rfl, List.getElem?_eq_getElem hlt, ?_⟩
   (conv => whnf)
   refine dec (fun h6 => ?_) (fun h6 => ?_)
   ·repeat' ((conv => whnf); refine I6 ?_)
    refine ag (k + 1) [] [.same 0] ⟨⟨hkl, trivial⟩, fun g hg => ?_⟩ (by simp only []; omega) ?_
    ·rw [List.take_succ_eq_append_getElem hkl, List.mem_append, List.mem_singleton] at hg
     rcases hg with hg | rfl
     ·exact hk2 g hg
     ·exact h6
    ·repeat' first | exact trivial | exact rfl | refine And.intro ?_ ?_
   ·have hbk := fin (fun _ => h6)
    (conv => whnf)
    refine ⟨false, .grow, (.l [0, 1, 2, 3, 4, 5, 6, 7, 8, 9, 10, 11, 12, 13, 14]), by kernel_rfl, .inl ?_⟩
    (conv => whnf)
    refine dec (fun _ => ?_) (fun h => absurd h5 h)
    (conv => whnf)
    refine ⟨k, ⟨rfl, hkl⟩, ?_⟩
    (conv => whnf)
    refine ⟨out[k], List.getElem?_eq_getElem hkl, ?_⟩
    (conv => whnf)
    refine ⟨i, l[i], rfl, List.getElem?_eq_getElem hlt, ?_⟩
    (conv => whnf)
    refine dec (fun h7 => ?_) (fun h7 => ?_)
    ·have fin : sortI (l.take (i + 1)) = out := by
      rw [hs]; unfold insI
      rw [hbk, if_pos (by rw [List.getElem?_eq_getElem hkl, h7])]
     repeat' ((conv => whnf); refine I6 ?_)
     refine ag (i + 1) [] [.same 0] ⟨hlt, trivial⟩ (by simp only []; omega) ?_
     rw [fin]
     repeat' first | exact trivial | exact rfl | refine And.intro ?_ ?_
    ·have fin : sortI (l.take (i + 1)) = (([] ++ (out.drop 0).take (k - 0)) ++ [l[i]]) ++ (out.drop k).take (out.length - k) := by
      rw [hs]; unfold insI
      rw [hbk, if_neg (by rw [List.getElem?_eq_getElem hkl]; intro e; exact h7 (Option.some.inj e)), List.take_of_length_le (l := List.drop k out) (by rw [List.length_drop]; exact Nat.le_refl _)]
      simp
     have e : out = out := rfl
     (conv => whnf)
     refine ⟨false, .grow, (.alt [0, 1, 2, 3, 5, 6, 7, 8] [4, 9] fun j => bif Nat.beq j 4 then (.l [9, 10, 11]) else bif Nat.beq j 9 then (.l [4, 10, 11]) else .l []), by kernel_rfl, .inl ?_⟩
     (conv => whnf)
     refine ⟨0, k, rfl, rfl, ⟨Nat.zero_le _, hk1⟩, ?_⟩
     (conv => whnf)
     refine ⟨i, l[i], rfl, List.getElem?_eq_getElem hlt, ?_⟩
     (conv => whnf)
     refine And.intro ?_ ?_
     ·(conv => whnf)
      refine ⟨[], _, rfl, rfl, (by simp only [List.length_take, List.length_drop, List.length_nil]; omega), ?_⟩
      (conv => whnf)
      refine ⟨[l[i]], rfl, ?_⟩
      (conv => whnf)
      refine ⟨_, _, rfl, rfl, (by simp only [List.length_take, List.length_drop, List.length_append, List.length_cons, List.length_nil]; omega), ?_⟩
      (conv => whnf)
      refine ⟨k, out.length, rfl, rfl, ⟨hk1, Nat.le_refl _⟩, ?_⟩
      (conv => whnf)
      refine ⟨_, _, rfl, rfl, (by simp only [List.length_take, List.length_drop, List.length_append, List.length_cons, List.length_nil]; omega), ?_⟩
      repeat' ((conv => whnf); refine I6 ?_)
      refine ag (i + 1) [] [.same 4] ⟨hlt, trivial⟩ (by simp only []; omega) ?_
      rw [fin]
      repeat' first | exact trivial | exact rfl | refine And.intro ?_ ?_
     ·(conv => whnf)
      refine ⟨[l[i]], rfl, ?_⟩
      (conv => whnf)
      refine ⟨[], _, rfl, rfl, (by simp only [List.length_take, List.length_drop, List.length_nil]; omega), ?_⟩
      (conv => whnf)
      refine ⟨_, _, rfl, rfl, (by simp only [List.length_take, List.length_drop, List.length_append, List.length_cons, List.length_nil]; omega), ?_⟩
      (conv => whnf)
      refine ⟨k, out.length, rfl, rfl, ⟨hk1, Nat.le_refl _⟩, ?_⟩
      (conv => whnf)
      refine ⟨_, _, rfl, rfl, (by simp only [List.length_take, List.length_drop, List.length_append, List.length_cons, List.length_nil]; omega), ?_⟩
      repeat' ((conv => whnf); refine I6 ?_)
      refine ag (i + 1) [] [.same 4] ⟨hlt, trivial⟩ (by simp only []; omega) ?_
      rw [fin]
      repeat' first | exact trivial | exact rfl | refine And.intro ?_ ?_
  ·have hbk := fin (fun h => by omega)
   have fin : sortI (l.take (i + 1)) = (([] ++ (out.drop 0).take (k - 0)) ++ [l[i]]) ++ (out.drop k).take (out.length - k) := by
    rw [hs]; unfold insI
    rw [hbk, List.getElem?_eq_none (by omega), if_neg (by simp), List.take_of_length_le (l := List.drop k out) (by rw [List.length_drop]; exact Nat.le_refl _)]
    simp
   (conv => whnf)
   refine ⟨false, .grow, (.l [0, 1, 2, 3, 4, 5, 6, 7, 8, 9, 10, 11, 12, 13, 14]), by kernel_rfl, .inl ?_⟩
   (conv => whnf)
   refine dec (fun h => absurd h (by omega)) (fun _ => ?_)
   have e : out = out := rfl
   (conv => whnf)
   refine ⟨false, .grow, (.alt [0, 1, 2, 3, 5, 6, 7, 8] [4, 9] fun j => bif Nat.beq j 4 then (.l [9, 10, 11]) else bif Nat.beq j 9 then (.l [4, 10, 11]) else .l []), by kernel_rfl, .inl ?_⟩
   (conv => whnf)
   refine ⟨0, k, rfl, rfl, ⟨Nat.zero_le _, hk1⟩, ?_⟩
   (conv => whnf)
   refine ⟨i, l[i], rfl, List.getElem?_eq_getElem hlt, ?_⟩
   (conv => whnf)
   refine And.intro ?_ ?_
   ·(conv => whnf)
    refine ⟨[], _, rfl, rfl, (by simp only [List.length_take, List.length_drop, List.length_nil]; omega), ?_⟩
    (conv => whnf)
    refine ⟨[l[i]], rfl, ?_⟩
    (conv => whnf)
    refine ⟨_, _, rfl, rfl, (by simp only [List.length_take, List.length_drop, List.length_append, List.length_cons, List.length_nil]; omega), ?_⟩
    (conv => whnf)
    refine ⟨k, out.length, rfl, rfl, ⟨hk1, Nat.le_refl _⟩, ?_⟩
    (conv => whnf)
    refine ⟨_, _, rfl, rfl, (by simp only [List.length_take, List.length_drop, List.length_append, List.length_cons, List.length_nil]; omega), ?_⟩
    repeat' ((conv => whnf); refine I6 ?_)
    refine ag (i + 1) [] [.same 4] ⟨hlt, trivial⟩ (by simp only []; omega) ?_
    rw [fin]
    repeat' first | exact trivial | exact rfl | refine And.intro ?_ ?_
   ·(conv => whnf)
    refine ⟨[l[i]], rfl, ?_⟩
    (conv => whnf)
    refine ⟨[], _, rfl, rfl, (by simp only [List.length_take, List.length_drop, List.length_nil]; omega), ?_⟩
    (conv => whnf)
    refine ⟨_, _, rfl, rfl, (by simp only [List.length_take, List.length_drop, List.length_append, List.length_cons, List.length_nil]; omega), ?_⟩
    (conv => whnf)
    refine ⟨k, out.length, rfl, rfl, ⟨hk1, Nat.le_refl _⟩, ?_⟩
    (conv => whnf)
    refine ⟨_, _, rfl, rfl, (by simp only [List.length_take, List.length_drop, List.length_append, List.length_cons, List.length_nil]; omega), ?_⟩
    repeat' ((conv => whnf); refine I6 ?_)
    refine ag (i + 1) [] [.same 4] ⟨hlt, trivial⟩ (by simp only []; omega) ?_
    rw [fin]
    repeat' first | exact trivial | exact rfl | refine And.intro ?_ ?_
 ·have : sortI (l.take i) = sortI l := by rw [List.take_of_length_le (by omega)]
  (conv => whnf)
  rw [this]
  exact rx [] [.same 0]
end Go.Nest
end
