/- part -/
import Derived.Test.YtpmjnbidmcnhnaaGreatDoorAmT
set_option linter.unusedVariables false
set_option linter.unusedSimpArgs false

namespace Go.Nest
open Go Go.AM
theorem tw_at {α : Type} {p : α → Bool} : ∀ {l : List α} {k : Nat}, k ≤ l.length → (∀ g ∈ l.take k, p g = true) → (∀ h : k < l.length, p l[k] = false) → l.takeWhile p = l.take k ∧ l.dropWhile p = l.drop k
 | [], 0, _, _, _ => ⟨rfl, rfl⟩
 | x :: l, 0, _, _, h => by have := h (by simp); simp at this; simp [this]
 | x :: l, k + 1, hk, h1, h2 => by
  have hx := h1 x (by simp)
  obtain ⟨h3, h4⟩ := tw_at (l := l) (k := k) (by simpa using hk) (fun g hg => h1 g (by simp [hg])) (fun h => h2 (by simpa using h))
  simp [hx, h3, h4]
 | [], k + 1, h, _, _ => by simp at h
theorem rise_uniq : ∀ {a b : List Int}, a.Pairwise (· < ·) → b.Pairwise (· < ·) → (∀ x, x ∈ a ↔ x ∈ b) → a = b
 | [], [], _, _, _ => rfl
 | [], y :: b, _, _, h => by have := (h y).2 (by simp); cases this
 | x :: a, [], _, _, h => by have := (h x).1 (by simp); cases this
 | x :: a, y :: b, ha, hb, h => by
  obtain ⟨h1, h2⟩ := List.pairwise_cons.1 ha
  obtain ⟨h3, h4⟩ := List.pairwise_cons.1 hb
  have e : x = y := by
   rcases List.mem_cons.1 ((h x).1 (by simp)) with e | hx
   ·exact e
   rcases List.mem_cons.1 ((h y).2 (by simp)) with e | hy
   ·exact e.symm
   have := h1 y hy; have := h3 x hx; omega
  subst e
  congr 1
  refine rise_uniq h2 h4 fun z => ⟨fun hz => ?_, fun hz => ?_⟩
  ·rcases List.mem_cons.1 ((h z).1 (by simp [hz])) with rfl | h5
   ·have := h1 _ hz; omega
   ·exact h5
  ·rcases List.mem_cons.1 ((h z).2 (by simp [hz])) with rfl | h5
   ·have := h3 _ hz; omega
   ·exact h5
end Go.Nest
