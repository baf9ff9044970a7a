/- WALKS, W11: of the law: histories begun. -/
import Derived.Test.YtogallppofinhaaGreatDoorU0
import Derived.Test.YtogallppofinhaaGreatDoorW6
import Derived.Test.YtogallppofinhaaGreatDoorTab3
import Derived.Test.YtogallppofinhaaGreatDoorU3
section
namespace Go.AM
open Go Go.NB
theorem Does.conv {P : Program} {f : FuncId} {c c' : C} {args : List A} {ah : List B} {Q : Out → List B → Prop} (h : Does P f (.c c :: args) ah Q) (hc : ∀ {F : Nat → Prop} {H : Heap} {m : Md} {v : Value}, RL F H m [c'] [v] → RL F H m [c] [v]) : Does P f (.c c' :: args) ah Q :=
  fun F L γ H vs h1 h2 => h F L γ H vs (match vs, h1 with | _ :: _, ⟨h3, h4⟩ => ⟨hc h3, h4⟩) h2
end Go.AM
namespace Go.Nest
open Go Go.AM Go.Proofs
open Go.NB (Heap)
open Go.Proofs.YtogallppofinhaaGreatDoor.T3 (tab tabOk)
set_option linter.unusedVariables false
set_option linter.unusedSimpArgs false
set_option maxRecDepth 4000
theorem nl_ls {F : Nat → Prop} {H : Heap} {m : Md} {sz : Nat} {α : Type} {enc enc' : α → List C} {l : List α} {v : Value} (hz : ∀ x, (enc x).length = (enc' x).length) (hc : ∀ {css}, RL F H m0 (l.flatMap enc') css → RL F H m0 (l.flatMap enc) css) (h : RL F H m [nl sz α enc' l] [v]) : RL F H m [.ls sz α enc l] [v] := by
  cases l with
  | nil => cases h with | nil _ => exact .ls0 .nl
  | cons x l =>
    unfold nl at h
    cases h with
    | ls hb h1 h2 hr hs hq _ => exact .ls hb h1 h2 (hc hr) (fun y hy => by rw [hz]; exact hs y hy) hq .nl
theorem flat_conv {F : Nat → Prop} {H : Heap} {α : Type} {enc enc' : α → List C} (h1 : ∀ x {cs}, RL F H m0 (enc' x) cs → RL F H m0 (enc x) cs) : ∀ {l : List α} {css : List Value}, RL F H m0 (l.flatMap enc') css → RL F H m0 (l.flatMap enc) css
  | [], css, h => h
  | x :: l, css, h => by
    rw [List.flatMap_cons] at h ⊢
    obtain ⟨us, ws, rfl, h2, h3⟩ := h.split
    exact (h1 x h2).append (flat_conv h1 h3)
theorem dc_conv {F : Nat → Prop} {H : Heap} (x : Dc) {cs : List Value} (h : RL F H m0 (encDcN x) cs) : RL F H m0 (encDc x) cs := by
  unfold encDcN at h
  obtain ⟨v1, us, rfl, h1, h2⟩ := h.uncons
  obtain ⟨v2, us, rfl, h3, h4⟩ := h2.uncons
  exact h1.cons ((nl_ls (fun _ => rfl) (fun h => h) h3).cons h4)
theorem sn_conv {F : Nat → Prop} {H : Heap} (x : Sn) {cs : List Value} (h : RL F H m0 (encSnN x) cs) : RL F H m0 (encSn x) cs := by
  unfold encSnN at h
  obtain ⟨v1, us, rfl, h1, h2⟩ := h.uncons
  obtain ⟨v2, us, rfl, h3, h4⟩ := h2.uncons
  exact (nl_ls (enc := encDc) (enc' := encDcN) (fun _ => rfl) (flat_conv dc_conv) h1).cons ((nl_ls (fun _ => rfl) (fun h => h) h3).cons h4)
theorem bs_conv {F : Nat → Prop} {H : Heap} {m : Md} {l : List Sn} {v : Value} (h : RL F H m [.bs 3 Sn encSnN l] [v]) : RL F H m [.bs 3 Sn encSn l] [v] := by
  cases h with
  | bs0 _ => exact .bs0 .nl
  | bs hb h1 h2 hr hs hq _ => exact .bs hb h1 h2 (flat_conv sn_conv hr) (fun y hy => rfl) hq .nl
def sb : List Sn := [⟨[], [], []⟩, ⟨[⟨[97], []⟩], [0], []⟩, ⟨[], [0], [120]⟩]
end Go.Nest
end
/- WALKS, U4: the history of a directory alone: it begins. -/
section
namespace Go.Nest
open Go Go.AM Go.Proofs
open Go.Proofs.YtogallppofinhaaGreatDoor.T3 (tab tabOk)
set_option linter.unusedVariables false
set_option linter.unusedSimpArgs false
set_option maxRecDepth 4000
def s2 : List Sn := [⟨[⟨[100, 47, 97], []⟩], [], []⟩, ⟨[⟨[100, 47, 97], []⟩, ⟨[98], []⟩], [0], [120]⟩]
theorem s2_ok : s2.length ≤ 25 ∧ ∀ s ∈ s2, SnapOk s := by
  refine ⟨by decide, fun s hs => ?_⟩
  have hs : s = ⟨[⟨[100, 47, 97], []⟩], [], []⟩ ∨ s = ⟨[⟨[100, 47, 97], []⟩, ⟨[98], []⟩], [0], [120]⟩ := by simpa [s2] using hs
  rcases hs with rfl | rfl
  · refine ⟨⟨by decide, fun d hd => ?_⟩, by decide, by decide⟩
    have : d = ⟨[100, 47, 97], []⟩ := by simpa using hd
    subst this; exact ⟨by decide, by decide⟩
  · refine ⟨⟨by decide, fun d hd => ?_⟩, by decide, by decide⟩
    have : d = ⟨[100, 47, 97], []⟩ ∨ d = ⟨[98], []⟩ := by simpa using hd
    rcases this with rfl | rfl
    · exact ⟨by decide, by decide⟩
    · exact ⟨by decide, by decide⟩
def s2L : List Ob := (growU s2).1
def s2M : List Ob := (splitF s2L 5 [100]).2.2
def s2N : List Ob := (splitF s2M 5 [101]).2.2
theorem sp1 : (growU s2).2 = [3, 5] := by decide +kernel
theorem sp2 : (splitF s2L 5 [100]).1 = 6 ∧ (splitF s2L 5 [100]).2.1 = 0 := by decide +kernel
theorem sp3 : (splitF s2M 5 [101]).1 = 0 ∧ (splitF s2M 5 [101]).2.1 = 9 := by decide +kernel
theorem sp4 : getP s2N 6 = ⟨3, [], [], 1, [], []⟩ := by decide +kernel
theorem s2L_ok : PoolOk s2L := grow_ok
theorem s2M_ok : PoolOk s2M := (split_law s2L_ok (id := 5) (dir := [100]) rfl).1
theorem s2N_ok : PoolOk s2N := (split_law s2M_ok (id := 5) (dir := [101]) rfl).1
theorem grownC_spec : Does Tryz.prog 39 [.c (.bs 3 Sn encSnN s2)] [] (Rt (.tup [(false, [.ptr 0 0]), (false, [.ptr 2 0]), (false, [.rw 4]), (false, [.bool true])]) [.box [.rw 1], .row 6 Ob encOb s2L, .box [.rw 3], .row 6 Ob encOb s2L, .row 1 Int encI [3, 5]]) := by
  have h := grown_spec s2 s2_ok
  rw [sp1] at h
  exact h.conv bs_conv
set_option maxHeartbeats 2000000 in
theorem splitBegun_spec : Does Tryz.prog 37 [] [] (Rt (.c (.bool true)) []) := by
  have p1 := split_spec s2L s2L_ok 5 [100] (by decide)
  have p2 := split_spec s2M s2M_ok 5 [101] (by decide)
  have p3 := get_spec s2N s2N_ok 6
  rw [sp2.1, sp2.2] at p1
  rw [sp3.1, sp3.2] at p2
  rw [sp4] at p3
  refine X_spec (n := 72) (n0 := 0) tabOk Tryz.call37 Tryz.func37 ?_
  intro hb
  (conv => whnf)
  refine ⟨[⟨[100, 47, 97], []⟩], rfl, ?_⟩
  (conv => whnf)
  refine ⟨[⟨[100, 47, 97], []⟩, ⟨[98], []⟩], rfl, ?_⟩
  (conv => whnf)
  refine ⟨[0], rfl, ?_⟩
  (conv => whnf)
  refine ⟨s2, rfl, ?_⟩
  (conv => whnf)
  refine cl [] [] (grownC_spec) ?_
  (conv => whnf)
  refine ⟨1, ⟨rfl, by decide⟩, ?_⟩
  (conv => whnf)
  refine ⟨5, rfl, ?_⟩
  (conv => whnf)
  refine cl [] [4, 5] (p1) ?_
  (conv => whnf)
  refine ⟨1, ⟨rfl, by decide⟩, ?_⟩
  (conv => whnf)
  refine ⟨5, rfl, ?_⟩
  (conv => whnf)
  refine cl [] [4, 9] (p2) ?_
  (conv => whnf)
  refine cl [] [] (p3) ?_
  (conv => whnf)
  exact rtB rfl
end Go.Nest
end
