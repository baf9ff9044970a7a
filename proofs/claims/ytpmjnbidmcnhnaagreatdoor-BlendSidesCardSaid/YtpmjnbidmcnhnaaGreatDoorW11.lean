/- part -/
import Derived.Test.YtpmjnbidmcnhnaaGreatDoorP10
import Derived.Test.YtpmjnbidmcnhnaaGreatDoorW9
import Derived.Test.YtpmjnbidmcnhnaaGreatDoorTab3
import Derived.Test.YtpmjnbidmcnhnaaGreatDoorG4
set_option linter.unusedVariables false
set_option linter.unusedSimpArgs false
section

namespace Go.Nest
open Go Go.AM
theorem put_at {L : List Ob} (hp : PoolOk L) {id : Int} (hk : ¬ kindOf L id = 0) : putP L (getP L id) = (id, 0, L) := by
 obtain ⟨h1, h2⟩ := kindOf_pos hk
 rw [getP_at h1 h2, putP_again hp h2]
 simp
 omega
theorem put_more {L M : List Ob} {o : Ob} (ho : o.kind ≠ 0) (h : (putP L o).2.1 = 0) (hM : PoolOk M) (hx : (putP L o).2.2 <+: M) : putP M o = ((putP L o).1, 0, M) ∧ getP M (putP L o).1 = o := by
 obtain ⟨h1, h2⟩ := put_get h
 have hk : ¬ kindOf (putP L o).2.2 (putP L o).1 = 0 := by rw [← getP_kind, h2]; exact ho
 have e := ext_get hx hk
 rw [h2] at e
 have hk2 : ¬ kindOf M (putP L o).1 = 0 := by rw [ext_kind hx hk]; exact hk
 have := put_at hM hk2
 rw [e] at this
 exact ⟨this, e⟩
structure Kept (L : List Ob) (t : Int) (fs : List Fi) : Prop where
 tree : TreeOf true L t fs
 ok : filesF fs = 0
theorem Kept.mono {L M : List Ob} {t : Int} {fs : List Fi} (h : Kept L t fs) (hx : L <+: M) : Kept M t fs := ⟨h.tree.mono hx, h.ok⟩
theorem Kept.files {L : List Ob} {t : Int} {fs : List Fi} (h : Kept L t fs) (hp : PoolOk L) : filesP L t = (fs, 0) :=
 tree_files hp h.tree (filesF_all h.ok).1 fun f hf => (split_zero ((filesF_all h.ok).2 f hf).1).2.1
theorem Kept.build {L : List Ob} {t : Int} {fs : List Fi} (h : Kept L t fs) (hp : PoolOk L) : buildP L fs = (t, 0, L) := by
 unfold buildP
 rw [if_neg (by simpa using h.ok)]
 exact (tree_again hp h.tree (Nat.lt_succ_self _)).2 rfl
theorem Kept.of {L : List Ob} {fs : List Fi} (hp : PoolOk L) (h : (buildP L fs).2.1 = 0) : Kept (buildP L fs).2.2 (buildP L fs).1 fs := ⟨(buildP_tree hp h).2, (buildP_tree hp h).1⟩
end Go.Nest
end
/- part -/
section

namespace Go.Nest
open Go Go.AM
theorem Anc.trans {L : List Ob} {a b c : Int} (h : Anc L a b) (h2 : Anc L b c) : Anc L a c := by
 induction h with
 | refl => exact h2
 | step h _ ih => exact .step h (ih h2)
theorem Anc.first {L : List Ob} {a b : Int} (h : Anc L a b) : b = a ∨ ∃ p ∈ (getP L a).parents, Anc L p b := by
 cases h with
 | refl => exact .inl rfl
 | step h1 h2 => exact .inr ⟨_, h1, h2⟩
theorem docs_ext {L : List Ob} {l : List Dc} : L <+: (docsU L l).1 :=
 docs_fold (P := fun s => L <+: s.1) (fun s d _ h => by
  unfold docStep
  split
  ·exact h
  split
  ·exact h
  split
  ·exact h
  exact h.trans (put_ext _)) (List.prefix_refl _)
end Go.Nest
end
/- part -/
section

namespace Go.AM
open Go Go.NB
theorem Does.conv {P : Program} {f : FuncId} {c c' : C} {args : List A} {ah : List B} {Q : Out → List B → Prop} (h : Does P f (.c c :: args) ah Q) (hc : ∀ {F : Nat → Prop} {H : Heap} {m : Md} {v : Value}, RL F H m [c'] [v] → RL F H m [c] [v]) : Does P f (.c c' :: args) ah Q :=
 fun F L γ H vs h1 h2 => h F L γ H vs (match vs, h1 with | _ :: _, ⟨h3, h4⟩ => ⟨hc h3, h4⟩) h2
end Go.AM
namespace Go.Nest
open Go Go.AM Go.Proofs
open Go.NB (Heap)
open Go.Proofs.YtpmjnbidmcnhnaaGreatDoor.T3 (tab tabOk)
set_option maxRecDepth 4000
theorem nl_ls {F : Nat → Prop} {H : Heap} {m : Md} {sz : Nat} {α : Type} {enc enc' : α → List C} {l : List α} {v : Value} (hz : ∀ x, (enc x).length = (enc' x).length) (hc : ∀ {css}, RL F H m0 (l.flatMap enc') css → RL F H m0 (l.flatMap enc) css) (h : RL F H m [nl sz α enc' l] [v]) : RL F H m [.ls sz α enc l] [v] := by
 cases l with
 | nil => cases h with | nil _ => exact .ls0 .nl
 | cons x l =>
  unfold nl at h
  cases h with
  | ls hb h1 h2 hr hs hq _ => exact .ls hb h1 h2 (hc hr) (fun y hy => by rw [hz]; exact hs y hy) hq .nl
theorem flat_conv {F : Nat → Prop} {H : Heap} {α : Type} {enc enc' : α → List C} (h1 : ∀ x {cs}, RL F H m0 (enc' x) cs → RL F H m0 (enc x) cs) : ∀ {l : List α} {css : List Value}, RL F H m0 (l.flatMap enc') css → RL F H m0 (l.flatMap enc) css
 | [], css, h => h
 | x :: l, css, h => by
  rw [List.flatMap_cons] at h ⊢
  obtain ⟨us, ws, rfl, h2, h3⟩ := h.split
  exact (h1 x h2).append (flat_conv h1 h3)
theorem dc_conv {F : Nat → Prop} {H : Heap} (x : Dc) {cs : List Value} (h : RL F H m0 (encDcN x) cs) : RL F H m0 (encDc x) cs := by
 unfold encDcN at h
 obtain ⟨v1, us, rfl, h1, h2⟩ := h.uncons
 obtain ⟨v2, us, rfl, h3, h4⟩ := h2.uncons
 exact h1.cons ((nl_ls (fun _ => rfl) (fun h => h) h3).cons h4)
end Go.Nest
end
