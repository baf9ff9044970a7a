/- PLAIN LAWS, W1b: ancestors, one behind the other. -/
import Derived.Test.YtogallppofinhaaGreatDoorW1
import Derived.Test.YtogallppofinhaaGreatDoorG12
import Derived.Test.YtogallppofinhaaGreatDoorP3
section
namespace Go.Nest
open Go Go.AM
set_option linter.unusedVariables false
set_option linter.unusedSimpArgs false

theorem nodup_len : ∀ (n : Nat) {l : List Int}, l.Nodup → (∀ k ∈ l, 0 ≤ k ∧ k < n) → l.length ≤ n
  | 0, l, _, h => by
    cases l with
    | nil => simp
    | cons x r => have := h x (by simp); omega
  | n + 1, l, hn, h => by
    by_cases hm : (n : Int) ∈ l
    · have := nodup_len n (hn.erase (n : Int)) (fun k hk => by
        obtain ⟨h1, h2⟩ := (hn.mem_erase_iff).1 hk
        have := h k h2; omega)
      rw [List.length_erase_of_mem hm] at this
      omega
    · have := nodup_len n hn (fun k hk => by
        have h1 := h k hk
        have : k ≠ n := fun e => hm (e ▸ hk)
        omega)
      omega
structure Bfs (L : List Ob) (id : Int) (out : List Int) (i : Nat) : Prop where
  le : i ≤ out.length
  nd : out.Nodup
  mem : id ∈ out
  anc : ∀ k ∈ out, Anc L id k
  clos : ∀ x ∈ out.take i, ∀ k ∈ (getP L x).parents, k ∈ out
theorem Bfs.start {L : List Ob} {id : Int} : Bfs L id [id] 0 := ⟨Nat.zero_le _, by simp, by simp, fun k hk => by rw [List.mem_singleton] at hk; subst hk; exact .refl _, fun x hx => by cases hx⟩
theorem Bfs.len {L : List Ob} (hL : PoolOk L) {id : Int} (hi : kindOf L id = 3) {out : List Int} {i : Nat} (h : Bfs L id out i) : out.length ≤ L.length :=
  nodup_len _ h.nd fun k hk => by
    have := (h.anc k hk).kind hL hi
    obtain ⟨h1, h2⟩ := kindOf_pos (l := L) (id := k) (by omega)
    omega
theorem Bfs.add {L : List Ob} {id : Int} {out : List Int} {i : Nat} (h : Bfs L id out i) {k : Int} (hk : k ∉ out) (ha : Anc L id k) : Bfs L id (out ++ [k]) i := by
  refine ⟨by rw [List.length_append]; have := h.le; omega, ?_, List.mem_append_left _ h.mem, fun x hx => ?_, fun x hx j hj => ?_⟩
  · rw [List.nodup_append]
    exact ⟨h.nd, by simp, fun a ha2 b hb => by rw [List.mem_singleton] at hb; intro e; exact hk (by rw [← hb, ← e]; exact ha2)⟩
  · rcases List.mem_append.1 hx with hx | hx
    · exact h.anc x hx
    · rw [List.mem_singleton] at hx; subst hx; exact ha
  · rw [List.take_append_of_le_length h.le] at hx
    exact List.mem_append_left _ (h.clos x hx j hj)
theorem Bfs.next {L : List Ob} {id : Int} {out : List Int} {i : Nat} (h : Bfs L id out i) {x : Int} (hx : out[i]? = some x) (hc : ∀ k ∈ (getP L x).parents, k ∈ out) : Bfs L id out (i + 1) := by
  obtain ⟨hlt, e⟩ := List.getElem?_eq_some_iff.1 hx
  refine ⟨hlt, h.nd, h.mem, h.anc, fun y hy k hk => ?_⟩
  rw [List.take_succ_eq_append_getElem hlt, List.mem_append, List.mem_singleton, e] at hy
  rcases hy with hy | rfl
  · exact h.clos y hy k hk
  · exact hc k hk
theorem closed_anc {L : List Ob} {out : List Int} (hc : ∀ x ∈ out, ∀ k ∈ (getP L x).parents, k ∈ out) {id k : Int} (ha : Anc L id k) : id ∈ out → k ∈ out := by
  induction ha with
  | refl => exact fun h => h
  | step h1 _ ih => exact fun h => ih (hc _ h _ h1)
theorem Bfs.stop {L : List Ob} {id : Int} {out : List Int} {i : Nat} (h : Bfs L id out i) (hi : out.length ≤ i) (k : Int) : k ∈ out ↔ Anc L id k := by
  have hc := h.clos
  rw [List.take_of_length_le hi] at hc
  exact ⟨h.anc k, fun ha => closed_anc hc ha h.mem⟩
end Go.Nest
end
/- WALKS, W5: histories, by the document: Line, IsAhead. -/
section
namespace Go.Nest
open Go Go.AM Go.Proofs
open Go.Proofs.YtogallppofinhaaGreatDoor (tab tabOk)
set_option linter.unusedVariables false
set_option linter.unusedSimpArgs false
set_option maxRecDepth 4000
structure Ln (L : List Ob) (id : Int) (R : List Int) (vis : List Bool) (i : Nat) : Prop where
  len : vis.length = L.length
  sound : ∀ k, Mk vis k → Anc L id k
  me : Mk vis id
  clos : ∀ x ∈ R.drop i, Mk vis x → ∀ p ∈ (getP L x).parents, Mk vis p
theorem Anc.led {L : List Ob} (hL : PoolOk L) {id k : Int} (hi : kindOf L id = 3) (h : Anc L id k) : Led L [id] k := by
  have key : ∀ {a b : Int}, Anc L a b → Led L [id] a → Led L [id] b := fun {a b} h => by
    induction h with
    | refl => exact fun h => h
    | step h _ ih => exact fun h2 => ih (.step h2 (par_next h))
  exact key h (.base (by simp) (by omega))
theorem Ln.start {L : List Ob} {id : Int} {R : List Int} (h : kindOf L id = 3) : Ln L id R ((List.replicate L.length false).set id.toNat true) R.length := by
  have hset : ∀ k, Mk ((List.replicate L.length false).set id.toNat true) k ↔ Mk (List.replicate L.length false) k ∨ k = id := fun k => mk_set (l := L) (by simp) (by omega)
  refine ⟨by simp, fun k hk => ?_, (hset id).2 (.inr rfl), fun x hx => by rw [List.drop_length] at hx; cases hx⟩
  rcases (hset k).1 hk with h | rfl
  · exact (not_Mk_rep h).elim
  · exact .refl _
theorem Ln.stop {L : List Ob} (hL : PoolOk L) {id : Int} (hi : kindOf L id = 3) {R : List Int} (hR : ∀ k, k ∈ R ↔ Led L [id] k) {vis : List Bool} (h : Ln L id R vis 0) (k : Int) : Mk vis k ↔ Anc L id k := by
  refine ⟨h.sound k, fun ha => ?_⟩
  have hc := h.clos
  rw [List.drop_zero] at hc
  have key : ∀ {a b : Int}, Anc L a b → Anc L id a → Mk vis a → Mk vis b := fun {a b} h => by
    induction h with
    | refl => exact fun _ h => h
    | step h1 _ ih => exact fun g1 g2 => ih (g1.next h1) (hc _ ((hR _).2 (g1.led hL hi)) g2 _ h1)
  exact key ha (.refl _) h.me
end Go.Nest
end
