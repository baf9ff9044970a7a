/- WALKS, W11: of the law: histories begun. -/
import Derived.Test.YtkoiljgjipmhbaaGreatDoorW10
import Derived.Test.YtkoiljgjipmhbaaGreatDoorW4
import Derived.Test.YtkoiljgjipmhbaaGreatDoorTab3
namespace Go.AM
open Go Go.NB
theorem Does.conv {P : Program} {f : FuncId} {c c' : C} {args : List A} {ah : List B} {Q : Out → List B → Prop} (h : Does P f (.c c :: args) ah Q) (hc : ∀ {F : Nat → Prop} {H : Heap} {m : Md} {v : Value}, RL F H m [c'] [v] → RL F H m [c] [v]) : Does P f (.c c' :: args) ah Q :=
  fun F L γ H vs h1 h2 => h F L γ H vs (match vs, h1 with | _ :: _, ⟨h3, h4⟩ => ⟨hc h3, h4⟩) h2
end Go.AM
namespace Go.Nest
open Go Go.AM Go.Proofs
open Go.NB (Heap)
open Go.Proofs.YtkoiljgjipmhbaaGreatDoor.T3 (tab tabOk)
set_option linter.unusedVariables false
set_option linter.unusedSimpArgs false
set_option maxRecDepth 4000
theorem nl_ls {F : Nat → Prop} {H : Heap} {m : Md} {sz : Nat} {α : Type} {enc enc' : α → List C} {l : List α} {v : Value} (hz : ∀ x, (enc x).length = (enc' x).length) (hc : ∀ {css}, RL F H m0 (l.flatMap enc') css → RL F H m0 (l.flatMap enc) css) (h : RL F H m [nl sz α enc' l] [v]) : RL F H m [.ls sz α enc l] [v] := by
  cases l with
  | nil => cases h with | nil _ => exact .ls0 .nl
  | cons x l =>
    unfold nl at h
    cases h with
    | ls hb h1 h2 hr hs hq _ => exact .ls hb h1 h2 (hc hr) (fun y hy => by rw [hz]; exact hs y hy) hq .nl
theorem flat_conv {F : Nat → Prop} {H : Heap} {α : Type} {enc enc' : α → List C} (h1 : ∀ x {cs}, RL F H m0 (enc' x) cs → RL F H m0 (enc x) cs) : ∀ {l : List α} {css : List Value}, RL F H m0 (l.flatMap enc') css → RL F H m0 (l.flatMap enc) css
  | [], css, h => h
  | x :: l, css, h => by
    rw [List.flatMap_cons] at h ⊢
    obtain ⟨us, ws, rfl, h2, h3⟩ := h.split
    exact (h1 x h2).append (flat_conv h1 h3)
theorem dc_conv {F : Nat → Prop} {H : Heap} (x : Dc) {cs : List Value} (h : RL F H m0 (encDcN x) cs) : RL F H m0 (encDc x) cs := by
  unfold encDcN at h
  obtain ⟨v1, us, rfl, h1, h2⟩ := h.uncons
  obtain ⟨v2, us, rfl, h3, h4⟩ := h2.uncons
  exact h1.cons ((nl_ls (fun _ => rfl) (fun h => h) h3).cons h4)
theorem sn_conv {F : Nat → Prop} {H : Heap} (x : Sn) {cs : List Value} (h : RL F H m0 (encSnN x) cs) : RL F H m0 (encSn x) cs := by
  unfold encSnN at h
  obtain ⟨v1, us, rfl, h1, h2⟩ := h.uncons
  obtain ⟨v2, us, rfl, h3, h4⟩ := h2.uncons
  exact (nl_ls (enc := encDc) (enc' := encDcN) (fun _ => rfl) (flat_conv dc_conv) h1).cons ((nl_ls (fun _ => rfl) (fun h => h) h3).cons h4)
theorem bs_conv {F : Nat → Prop} {H : Heap} {m : Md} {l : List Sn} {v : Value} (h : RL F H m [.bs 3 Sn encSnN l] [v]) : RL F H m [.bs 3 Sn encSn l] [v] := by
  cases h with
  | bs0 _ => exact .bs0 .nl
  | bs hb h1 h2 hr hs hq _ => exact .bs hb h1 h2 (flat_conv sn_conv hr) (fun y hy => rfl) hq .nl
def sb : List Sn := [⟨[], [], []⟩, ⟨[⟨[97], []⟩], [0], []⟩, ⟨[], [0], [120]⟩]
theorem sb_ok : sb.length ≤ 25 ∧ ∀ s ∈ sb, SnapOk s := by
  refine ⟨by decide, fun s hs => ?_⟩
  have hs : s = ⟨[], [], []⟩ ∨ s = ⟨[⟨[97], []⟩], [0], []⟩ ∨ s = ⟨[], [0], [120]⟩ := by simpa [sb] using hs
  rcases hs with rfl | rfl | rfl
  · exact ⟨⟨by decide, fun d hd => by cases hd⟩, by decide, by decide⟩
  · refine ⟨⟨by decide, fun d hd => ?_⟩, by decide, by decide⟩
    have : d = ⟨[97], []⟩ := by simpa using hd
    subst this; exact ⟨by decide, by decide⟩
  · exact ⟨⟨by decide, fun d hd => by cases hd⟩, by decide, by decide⟩
def sbL : List Ob := (growU sb).1
theorem wb1 : (growU sb).2 = [1, 4, 5] := by decide +kernel
theorem wb2 : basesP sbL 4 5 = ([1], 0) := by decide +kernel
theorem wb3 : isP sbL 1 5 = true := by decide +kernel
theorem wb4 : isP sbL 4 5 = false := by decide +kernel
theorem sbL_ok : PoolOk sbL := grow_ok
theorem grownB_spec : Does Tryz.prog 27 [.c (.bs 3 Sn encSnN sb)] [] (Rt (.tup [(false, [.ptr 0 0]), (false, [.ptr 2 0]), (false, [.rw 4]), (false, [.bool true])]) [.box [.rw 1], .row 6 Ob encOb sbL, .box [.rw 3], .row 6 Ob encOb sbL, .row 1 Int encI [1, 4, 5]]) := by
  have h := grown_spec sb sb_ok
  rw [wb1] at h
  exact h.conv bs_conv
set_option maxHeartbeats 2000000 in
theorem walkBegun_spec : Does Tryz.prog 25 [] [] (Rt (.c (.bool true)) []) := by
  have p2 := bases_spec sbL sbL_ok 4 5
  have p3 := is_spec sbL sbL_ok 1 5
  have p4 := is_spec sbL sbL_ok 4 5
  rw [wb2] at p2
  rw [wb3] at p3
  rw [wb4] at p4
  dsimp only at p2
  refine X_spec ⟨Tryz.prog, tab, 76, 0⟩ tabOk (by kernel_rfl) Tryz.call25 Tryz.func25 rfl rfl (by kernel_rfl) rfl ?_
  intro hb
  (conv => whnf)
  refine ⟨[⟨[97], []⟩], rfl, ?_⟩
  (conv => whnf)
  refine ⟨[0], rfl, ?_⟩
  (conv => whnf)
  refine ⟨[0], rfl, ?_⟩
  (conv => whnf)
  refine ⟨sb, rfl, ?_⟩
  (conv => whnf)
  refine cl [] [] (grownB_spec) (by (repeat' first | exact trivial | exact rfl | refine And.intro ?_ ?_); first | done | fail) (by first | exact trivial | exact rfl) ?_
  (conv => whnf)
  refine ⟨false, (.l [0, 1, 2, 3, 4, 5, 6, 7, 8, 9, 10, 11, 12]), by kernel_rfl, .inl ?_⟩
  (conv => whnf)
  refine ⟨1, ⟨rfl, by decide⟩, ?_⟩
  (conv => whnf)
  refine ⟨4, rfl, ?_⟩
  (conv => whnf)
  refine ⟨2, ⟨rfl, by decide⟩, ?_⟩
  (conv => whnf)
  refine ⟨5, rfl, ?_⟩
  (conv => whnf)
  refine cl [] [] (p2) (by (repeat' first | exact trivial | exact rfl | refine And.intro ?_ ?_); first | done | fail) (by first | exact trivial | exact rfl) ?_
  (conv => whnf)
  refine ⟨false, (.l [0, 1, 2, 3, 4, 5, 6, 7, 8, 9, 10, 11, 12, 13, 14, 15, 16, 17, 18, 19, 20, 21, 22, 23, 24, 25, 26, 27, 28, 29, 30, 31, 32, 33, 34, 35, 36, 37]), by kernel_rfl, .inl ?_⟩
  (conv => whnf)
  refine ⟨0, ⟨rfl, by decide⟩, ?_⟩
  (conv => whnf)
  refine ⟨1, rfl, ?_⟩
  (conv => whnf)
  refine ⟨0, ⟨rfl, by decide⟩, ?_⟩
  (conv => whnf)
  refine ⟨1, rfl, ?_⟩
  (conv => whnf)
  refine ⟨0, ⟨rfl, by decide⟩, ?_⟩
  (conv => whnf)
  refine ⟨1, rfl, ?_⟩
  (conv => whnf)
  refine ⟨2, ⟨rfl, by decide⟩, ?_⟩
  (conv => whnf)
  refine ⟨5, rfl, ?_⟩
  (conv => whnf)
  refine cl [] [] (p3) (by (repeat' first | exact trivial | exact rfl | refine And.intro ?_ ?_); first | done | fail) (by first | exact trivial | exact rfl) ?_
  (conv => whnf)
  refine ⟨1, ⟨rfl, by decide⟩, ?_⟩
  (conv => whnf)
  refine ⟨4, rfl, ?_⟩
  (conv => whnf)
  refine ⟨2, ⟨rfl, by decide⟩, ?_⟩
  (conv => whnf)
  refine ⟨5, rfl, ?_⟩
  (conv => whnf)
  refine cl [] [] (p4) (by (repeat' first | exact trivial | exact rfl | refine And.intro ?_ ?_); first | done | fail) (by first | exact trivial | exact rfl) ?_
  (conv => whnf)
  exact rtB rfl
end Go.Nest
