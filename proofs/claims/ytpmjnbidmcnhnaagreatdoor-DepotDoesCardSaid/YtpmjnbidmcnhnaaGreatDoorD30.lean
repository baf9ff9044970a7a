/- part -/
import Derived.Test.YtpmjnbidmcnhnaaGreatDoorU0
import Derived.Test.YtpmjnbidmcnhnaaGreatDoorW7
import Derived.Test.YtpmjnbidmcnhnaaGreatDoorTab3
import Derived.Test.YtpmjnbidmcnhnaaGreatDoorD27
import Derived.Test.YtpmjnbidmcnhnaaGreatDoorD25
import Derived.Test.YtpmjnbidmcnhnaaGreatDoorD20
import Derived.Test.YtpmjnbidmcnhnaaGreatDoorR1
section

namespace Go.AM
open Go Go.NB
theorem Does.conv {P : Program} {f : FuncId} {c c' : C} {args : List A} {ah : List B} {Q : Out → List B → Prop} (h : Does P f (.c c :: args) ah Q) (hc : ∀ {F : Nat → Prop} {H : Heap} {m : Md} {v : Value}, RL F H m [c'] [v] → RL F H m [c] [v]) : Does P f (.c c' :: args) ah Q :=
 fun F L γ H vs h1 h2 => h F L γ H vs (match vs, h1 with | _ :: _, ⟨h3, h4⟩ => ⟨hc h3, h4⟩) h2
end Go.AM
namespace Go.Nest
open Go Go.AM Go.Proofs
open Go.NB (Heap)
open Go.Proofs.YtpmjnbidmcnhnaaGreatDoor.T3 (tab tabOk)
set_option maxRecDepth 4000
theorem nl_ls {F : Nat → Prop} {H : Heap} {m : Md} {sz : Nat} {α : Type} {enc enc' : α → List C} {l : List α} {v : Value} (hz : ∀ x, (enc x).length = (enc' x).length) (hc : ∀ {css}, RL F H m0 (l.flatMap enc') css → RL F H m0 (l.flatMap enc) css) (h : RL F H m [nl sz α enc' l] [v]) : RL F H m [.ls sz α enc l] [v] := by
 cases l with
 | nil => cases h with | nil _ => exact .ls0 .nl
 | cons x l =>
  unfold nl at h
  cases h with
  | ls hb h1 h2 hr hs hq _ => exact .ls hb h1 h2 (hc hr) (fun y hy => by rw [hz]; exact hs y hy) hq .nl
theorem flat_conv {F : Nat → Prop} {H : Heap} {α : Type} {enc enc' : α → List C} (h1 : ∀ x {cs}, RL F H m0 (enc' x) cs → RL F H m0 (enc x) cs) : ∀ {l : List α} {css : List Value}, RL F H m0 (l.flatMap enc') css → RL F H m0 (l.flatMap enc) css
 | [], css, h => h
 | x :: l, css, h => by
  rw [List.flatMap_cons] at h ⊢
  obtain ⟨us, ws, rfl, h2, h3⟩ := h.split
  exact (h1 x h2).append (flat_conv h1 h3)
theorem dc_conv {F : Nat → Prop} {H : Heap} (x : Dc) {cs : List Value} (h : RL F H m0 (encDcN x) cs) : RL F H m0 (encDc x) cs := by
 unfold encDcN at h
 obtain ⟨v1, us, rfl, h1, h2⟩ := h.uncons
 obtain ⟨v2, us, rfl, h3, h4⟩ := h2.uncons
 exact h1.cons ((nl_ls (fun _ => rfl) (fun h => h) h3).cons h4)
theorem sn_conv {F : Nat → Prop} {H : Heap} (x : Sn) {cs : List Value} (h : RL F H m0 (encSnN x) cs) : RL F H m0 (encSn x) cs := by
 unfold encSnN at h
 obtain ⟨v1, us, rfl, h1, h2⟩ := h.uncons
 obtain ⟨v2, us, rfl, h3, h4⟩ := h2.uncons
 exact (nl_ls (enc := encDc) (enc' := encDcN) (fun _ => rfl) (flat_conv dc_conv) h1).cons ((nl_ls (fun _ => rfl) (fun h => h) h3).cons h4)
theorem bs_conv {F : Nat → Prop} {H : Heap} {m : Md} {l : List Sn} {v : Value} (h : RL F H m [.bs 3 Sn encSnN l] [v]) : RL F H m [.bs 3 Sn encSn l] [v] := by
 cases h with
 | bs0 _ => exact .bs0 .nl
 | bs hb h1 h2 hr hs hq _ => exact .bs hb h1 h2 (flat_conv sn_conv hr) (fun y hy => rfl) hq .nl
end Go.Nest
end
/- part -/
section

namespace Go.Nest
open Go Go.AM Go.Proofs
open Go.Proofs.YtpmjnbidmcnhnaaGreatDoor.T3 (tab tabOk)
set_option maxRecDepth 4000
def sd : List Sn := [⟨[⟨[97], [120]⟩], [], []⟩]
theorem sd_ok : sd.length ≤ 25 ∧ ∀ s ∈ sd, SnapOk s := by
 refine ⟨by decide, fun s hs => ?_⟩
 have hs : s = ⟨[⟨[97], [120]⟩], [], []⟩ := by simpa [sd] using hs
 subst hs
 refine ⟨⟨by decide, fun d hd => ?_⟩, by decide, by decide⟩
 have : d = ⟨[97], [120]⟩ := by simpa using hd
 subst this; exact ⟨by decide, by decide⟩
def sdL : List Ob := (growU sd).1
theorem db1 : (growU sd).2 = [2] := by decide +kernel
theorem sdL_ok : PoolOk sdL := grow_ok
theorem sdL_len : sdL.length = 3 := by decide +kernel
theorem grownD_spec : Does Tryz.prog 45 [.c (.bs 3 Sn encSnN sd)] [] (Rt (.tup [(false, [.ptr 0 0]), (false, [.ptr 2 0]), (false, [.rw 4]), (false, [.bool true])]) [.box [.rw 1], .row 6 Ob encOb sdL, .box [.rw 3], .row 6 Ob encOb sdL, .row 1 Int encI [2]]) := by
 have h := grown_spec sd sd_ok
 rw [db1] at h
 exact h.conv bs_conv
theorem three_of {x : Int} (h : 0 ≤ x ∧ x.toNat < sdL.length) : x = 0 ∨ x = 1 ∨ x = 2 := by
 rw [sdL_len] at h; omega
theorem dl1 : Led sdL [1] 1 := .base (by simp) (by decide +kernel)
theorem dl2 : Led sdL [2] 2 := .base (by simp) (by decide +kernel)
theorem dr1 : reachP sdL [1] = [0, 1] := by
 refine rise_uniq reach_rise (by decide) fun x => ⟨fun h => ?_, fun h => ?_⟩
 ·rcases three_of (reach_lt h) with rfl | rfl | rfl
  ·decide
  ·decide
  ·rcases led_how sdL_ok ((mem_reach sdL_ok).1 h) with h1 | ⟨j, h1, h2⟩
   ·exact absurd h1 (by decide)
   ·rcases three_of (reach_lt h1) with rfl | rfl | rfl
    ·exact absurd h2 (by decide +kernel)
    ·exact absurd h2 (by decide +kernel)
    ·exact absurd h2 (by decide +kernel)
 ·rw [mem_reach sdL_ok]
  have : x = 0 ∨ x = 1 := by simpa using h
  rcases this with rfl | rfl
  ·exact dl1.step (by decide +kernel)
  ·exact dl1
theorem dr2 : reachP sdL [2] = [0, 1, 2] := by
 refine rise_uniq reach_rise (by decide) fun x => ⟨fun h => ?_, fun h => ?_⟩
 ·rcases three_of (reach_lt h) with rfl | rfl | rfl <;> decide
 ·rw [mem_reach sdL_ok]
  have : x = 0 ∨ x = 1 ∨ x = 2 := by simpa using h
  have h1 : Led sdL [2] 1 := dl2.step (by decide +kernel)
  rcases this with rfl | rfl | rfl
  ·exact h1.step (by decide +kernel)
  ·exact h1
  ·exact dl2
def bN : Nat → List Int := fun _ => []
def oN : Nat → List Bool := fun _ => []
def o1D : Nat → List Bool := upd oN 1 [true, true, true]
def o2D : Nat → List Bool := upd o1D 2 [true, true, true]
def b1D : Nat → List Int := upd bN 3 [2]
theorem da1 : addC sdL 1 [2] = 0 := by decide +kernel
theorem da2 : addC sdL 2 [2] = 0 := by decide +kernel
theorem da3 : (([0, 1, 2] : List Int).foldl (markL oN bN 1) (padL [] sdL.length)) = [true, true, true] := by decide +kernel
theorem da4 : (([0, 1, 2] : List Int).foldl (markL o1D bN 2) (padL [] sdL.length)) = [true, true, true] := by decide +kernel
theorem do1 : addO sdL oN bN 1 [2] = o1D := by
 unfold addO
 rw [if_neg (by rw [da1]; decide)]
 unfold addL
 rw [dr2]
 show upd oN 1 (([0, 1, 2] : List Int).foldl (markL oN bN 1) (padL [] sdL.length)) = _
 rw [da3]; rfl
theorem do2 : addO sdL o1D bN 2 [2] = o2D := by
 unfold addO
 rw [if_neg (by rw [da2]; decide)]
 unfold addL
 rw [dr2]
 show upd o1D 2 (([0, 1, 2] : List Int).foldl (markL o1D bN 2) (padL [] sdL.length)) = _
 rw [da4]; rfl
theorem dlo : lostP sdL ⟨o1D, bN⟩ 1 2 = false := by
 unfold lostP
 rw [dr2]
 decide +kernel
theorem df1 : fetC sdL ⟨o1D, bN⟩ 2 1 2 = 0 := by
 unfold fetC
 rw [dlo, da2]; decide +kernel
theorem df2 : fetO sdL o1D bN 2 1 2 = o2D := by
 unfold fetO
 rw [dlo, do2, if_neg (by decide +kernel), if_neg (by decide)]
theorem dc1 : borC bN 3 2 = 0 := by decide +kernel
theorem dc2 : borC b1D 2 3 = 10 := by decide +kernel
theorem db2 : borO bN 3 2 = b1D := by
 unfold borO
 rw [if_neg (by rw [dc1]; decide)]; rfl
theorem db3 : borO b1D 2 3 = b1D := by
 unfold borO
 rw [if_pos (by rw [dc2]; decide)]
theorem b1_nd : BorNd b1D := by rw [← db2]; exact BorNd.nil.bor 3 2
theorem dw1 : goneP sdL (hasP ⟨o2D, b1D⟩) 3 2 = false := by
 unfold goneP
 rw [show (getP sdL 2).tree = 1 by decide +kernel, dr1]
 decide +kernel
theorem dw2 : filesP sdL (getP sdL 2).tree = ([⟨[97], 1, 0, 0⟩], 0) := by decide +kernel
theorem dw3 : wholeP sdL (hasP ⟨o2D, b1D⟩) 3 2 = ([⟨[97], 1, 0, 0⟩], 0) := by
 have h : whW sdL (hasP ⟨o2D, b1D⟩) 6 3 2 [] [] = ([⟨[97], 1, 0, 0⟩], 0) := by
  rw [whW, dw1, dw2]; rfl
 unfold wholeP
 rw [h]; decide +kernel
theorem dh1 : ownP o2D 2 2 = true := by decide +kernel
theorem dh2 : ownP o2D 3 2 = false := by decide +kernel
theorem dh3 : hasP ⟨o2D, b1D⟩ 3 2 = true := by decide +kernel
set_option maxHeartbeats 4000000 in
theorem depotBegun_spec : Does Tryz.prog 9 [] [] (Rt (.c (.bool true)) []) := by
 have p1 := addD_dspec sdL sdL_ok oN bN BorNd.nil.ok (fun k hk => Nat.zero_le _) 1 [2] (by decide)
 rw [da1, do1] at p1
 have hol : ∀ o : Nat → List Bool, (∀ k, (o k).length ≤ 3) → ∀ k, k < 4 → (o k).length ≤ 1000000 := fun o h k hk => Nat.le_trans (h k) (by decide)
 have p2 := fetD_spec sdL sdL_ok o1D bN BorNd.nil.ok (fun k hk => by rcases four hk with rfl | rfl | rfl | rfl <;> decide) 2 1 2
 rw [df1, df2] at p2
 have p3 := borD_spec sdL o2D bN BorNd.nil.ok 3 2
 rw [dc1, db2] at p3
 have p4 := wholeD_spec sdL sdL_ok o2D b1D b1_nd.ok 3 2
 rw [dw3] at p4
 have p5 := ownD_spec sdL o2D b1D 2 2
 rw [dh1] at p5
 have p6 := ownD_spec sdL o2D b1D 3 2
 rw [dh2] at p6
 have p7 := hasD_spec sdL o2D b1D b1_nd.ok 3 2
 rw [dh3] at p7
 have p8 := borD_spec sdL o2D b1D b1_nd.ok 2 3
 rw [dc2, db3] at p8
 refine X_spec (n := 101) (n0 := 0) tabOk Tryz.call9 Tryz.func9 ?_
 intro hb
 (conv => whnf)
 refine ⟨[120], rfl, ?_⟩
 (conv => whnf)
 refine ⟨[⟨[97], [120]⟩], rfl, ?_⟩
 (conv => whnf)
 refine ⟨sd, rfl, ?_⟩
 (conv => whnf)
 refine cl [] [] (grownD_spec) ?_
 (conv => whnf)
 refine cl [] [3, 4] (depotNew_spec sdL) ?_
 (conv => whnf)
 refine ⟨0, ⟨rfl, by decide⟩, ?_⟩
 (conv => whnf)
 refine ⟨2, rfl, ?_⟩
 (conv => whnf)
 refine ⟨[2], rfl, ?_⟩
 (conv => whnf)
 refine cl [] [8, 3, 4, 9, 10, 11, 12, 13, 14, 15, 16] (p1) ?_
 (conv => whnf)
 refine ⟨0, ⟨rfl, by decide⟩, ?_⟩
 (conv => whnf)
 refine ⟨2, rfl, ?_⟩
 (conv => whnf)
 refine cl [] [8, 3, 4, 18, 19, 20, 21, 13, 14, 15, 16] (p2) ?_
 (conv => whnf)
 refine cl [] [8, 3, 4, 22, 23, 24, 25, 13, 14, 15, 16] (p3) ?_
 (conv => whnf)
 refine ⟨0, ⟨rfl, by decide⟩, ?_⟩
 (conv => whnf)
 refine ⟨2, rfl, ?_⟩
 (conv => whnf)
 refine cl [] [] (p4) ?_
 (conv => whnf)
 refine ⟨0, ⟨rfl, by decide⟩, ?_⟩
 (conv => whnf)
 refine ⟨2, rfl, ?_⟩
 (conv => whnf)
 refine cl [] [] (p5) ?_
 (conv => whnf)
 refine ⟨0, ⟨rfl, by decide⟩, ?_⟩
 (conv => whnf)
 refine ⟨2, rfl, ?_⟩
 (conv => whnf)
 refine cl [] [] (p6) ?_
 (conv => whnf)
 refine ⟨0, ⟨rfl, by decide⟩, ?_⟩
 (conv => whnf)
 refine ⟨2, rfl, ?_⟩
 (conv => whnf)
 refine cl [] [] (p7) ?_
 (conv => whnf)
 refine cl [] [8, 3, 4, 22, 23, 24, 25, 26, 27, 28, 29] (p8) ?_
 (conv => whnf)
 exact rtB rfl
end Go.Nest
end
/- part -/
section

namespace Go.Nest
open Go Go.AM Go.Proofs
open Go.Proofs.YtpmjnbidmcnhnaaGreatDoor (tab tabOk)
set_option maxRecDepth 4000
def ds0 : DS := ⟨fun _ => [], fun _ => [], fun _ => []⟩
theorem ds0_inv {L : List Ob} : DInv L ds0 := ⟨Sm.nil, BorNd.nil⟩
theorem depots_ok {l : List Sn} {m : List Mt} (hl : l.length ≤ 25) (hm : m.length ≤ 15) : PoolOk (depotsU l m).1 ∧ (depotsU l m).2.length ≤ 40 := by
 have h := mount_fold (m := m) (s := growU l) grow_ok
 have h2 : (growU l).2.length ≤ 0 + l.length := grow_len (l := l) (s := ([], []))
 unfold depotsU
 exact ⟨h.1, by omega⟩
set_option maxHeartbeats 8000000 in
theorem depotDoes_spec (l : List Sn) (m : List Mt) (st : List Dt) (hl : ∀ s ∈ l, DocsFit s.docs) : Does Tryz.prog 4 [.c (.ls 3 Sn encSn l), .c (.ls 4 Mt encMt m), .c (.ls 9 Dt encDt st)] [] (Rt (.c (.bool true)) []) := by
 refine X_spec (n := 136) (n0 := 0) tabOk Tryz.call4 Tryz.func4 ?_
 intro hb
 (conv => whnf)
 refine cl [] [] (depotBegun_spec) ?_
 (conv => whnf)
 refine cl [] [] (greatSnaps_spec l hl) ?_
 (conv => whnf)
 refine boo (fun g1 => ?_) (fun g1 => ?_)
 ·(conv => whnf)
  exact rtC rfl rfl
 have hg := greatS_ok g1
 (conv => whnf)
 refine cl [] [] (greatSteps_spec st m) ?_
 (conv => whnf)
 refine boo (fun g2 => ?_) (fun g2 => ?_)
 ·(conv => whnf)
  exact rtC rfl rfl
 obtain ⟨k1, k2, k3, k4⟩ := greatT_ok g2
 have p0 := depots_spec l m hg k2 k4
 obtain ⟨hL, hml⟩ := depots_ok (l := l) (m := m) (by simpa using hg.1) k2
 generalize depotsU l m = U at p0 hL hml
 obtain ⟨L, made⟩ := U
 dsimp only at p0 hL hml
 (conv => whnf)
 refine cl [] [] (p0) ?_
 (conv => whnf)
 refine lp (Nat × DS) (fun p => ⟨[(2, .c (.ls 9 Dt encDt st)), (7, .c (.ptr 0 0)), (8, .c (.ptr 11 0)), (9, .c (.rw 22)), (11, .c (.int .i64 p.1))], [.box [.ptr 1 0, .rw 3, .rw 4, .rw 5, .rw 6, .rw 7, .rw 8, .rw 9, .rw 10], .box [.rw 2], .row 6 Ob encOb L, .row 1 Bool encBo (p.2.o 0), .row 1 Bool encBo (p.2.o 1), .row 1 Bool encBo (p.2.o 2), .row 1 Bool encBo (p.2.o 3), .row 1 Int encI (p.2.b 0), .row 1 Int encI (p.2.b 1), .row 1 Int encI (p.2.b 2), .row 1 Int encI (p.2.b 3), .box [.ptr 12 0, .rw 14, .rw 15, .rw 16, .rw 17, .rw 18, .rw 19, .rw 20, .rw 21], .box [.rw 13], .row 6 Ob encOb L, .row 1 Int encI (p.2.w 0), .row 1 Int encI (p.2.w 1), .row 1 Int encI (p.2.w 2), .row 1 Int encI (p.2.w 3), .row 1 Int encI (p.2.b 0), .row 1 Int encI (p.2.b 1), .row 1 Int encI (p.2.b 2), .row 1 Int encI (p.2.b 3), .row 1 Int encI made]⟩) (fun p => (p.1 ≤ st.length ∧ DInv L p.2) ∧ True) (fun p => st.length - p.1) (0, ds0) [] [.same 0, .same 1, .same 2, .same 3, .same 4, .same 5, .same 6, .same 7, .same 8, .same 9, .same 10, .same 11, .same 12, .same 13, .same 14, .same 15, .same 16, .same 17, .same 18, .same 19, .same 20, .same 21, .same 22] ⟨⟨Nat.zero_le _, ds0_inv⟩, trivial⟩ ?_ (fun ⟨i, s⟩ hi => ?_)
 ·repeat' first | exact trivial | exact rfl | refine And.intro ?_ ?_
 obtain ⟨⟨hi, hs⟩, -⟩ := hi
 dsimp only at hi hs
 (conv => whnf)
 refine dec (fun h4 => ?_) (fun h4 => ?_)
 ·have hlt : i < st.length := by have h4 : (i : Int) < st.length := h4; omega
  have hiy : st[i]? = some st[i] := List.getElem?_eq_getElem hlt
  have hx := k3 _ (List.getElem_mem hlt)
  generalize st[i] = x at hiy hx
  have p1 := depotStep_spec L hL made s hs x hx
  have ht := step_dinv hL (made := made) hs x
  generalize stepD L made s x = t at p1 ht
  have hb4 := ht.nd.ok
  have o1 := one_spec made x.k
  generalize oneP made x.k = k at o1
  (conv => whnf)
  refine ⟨i, x, rfl, hiy, ?_⟩
  (conv => whnf)
  refine clE [] [0, 1, 2, 3, 4, 5, 6, 7, 8, 9, 10, 11, 12, 13, 14, 15, 16, 17, 18, 19, 20, 21] [.box [.ptr 1 0, .rw 23, .rw 24, .rw 25, .rw 26, .rw 27, .rw 28, .rw 29, .rw 30], .box [.rw 2], .row 6 Ob encOb L, .dead, .dead, .dead, .dead, .dead, .dead, .dead, .dead, .box [.ptr 12 0, .rw 31, .rw 32, .rw 33, .rw 34, .rw 35, .rw 36, .rw 37, .rw 38], .box [.rw 13], .row 6 Ob encOb L, .dead, .dead, .dead, .dead, .dead, .dead, .dead, .dead, .row 1 Int encI made, .row 1 Bool encBo (t.o 0), .row 1 Bool encBo (t.o 1), .row 1 Bool encBo (t.o 2), .row 1 Bool encBo (t.o 3), .row 1 Int encI (t.b 0), .row 1 Int encI (t.b 1), .row 1 Int encI (t.b 2), .row 1 Int encI (t.b 3), .row 1 Int encI (t.w 0), .row 1 Int encI (t.w 1), .row 1 Int encI (t.w 2), .row 1 Int encI (t.w 3), .row 1 Int encI (t.b 0), .row 1 Int encI (t.b 1), .row 1 Int encI (t.b 2), .row 1 Int encI (t.b 3)] (.c (.bool true)) p1 (by kernel_rfl) (by kernel_rfl) ?_ (by (repeat' first | exact trivial | exact rfl | refine And.intro ?_ ?_); first | done | fail) rfl
  (conv => whnf)
  refine lp Nat (fun r => ⟨[(2, .c (.ls 9 Dt encDt st)), (7, .c (.ptr 0 0)), (8, .c (.ptr 11 0)), (9, .c (.rw 22)), (11, .c (.int .i64 i)), (12, .c (.int .i64 r))], [.box [.ptr 1 0, .rw 3, .rw 4, .rw 5, .rw 6, .rw 7, .rw 8, .rw 9, .rw 10], .box [.rw 2], .row 6 Ob encOb L, .row 1 Bool encBo (t.o 0), .row 1 Bool encBo (t.o 1), .row 1 Bool encBo (t.o 2), .row 1 Bool encBo (t.o 3), .row 1 Int encI (t.b 0), .row 1 Int encI (t.b 1), .row 1 Int encI (t.b 2), .row 1 Int encI (t.b 3), .box [.ptr 12 0, .rw 14, .rw 15, .rw 16, .rw 17, .rw 18, .rw 19, .rw 20, .rw 21], .box [.rw 13], .row 6 Ob encOb L, .row 1 Int encI (t.w 0), .row 1 Int encI (t.w 1), .row 1 Int encI (t.w 2), .row 1 Int encI (t.w 3), .row 1 Int encI (t.b 0), .row 1 Int encI (t.b 1), .row 1 Int encI (t.b 2), .row 1 Int encI (t.b 3), .row 1 Int encI made]⟩) (fun r => r ≤ 4 ∧ True) (fun r => 4 - r) 0 [] [.same 0, .same 1, .same 2, .same 23, .same 24, .same 25, .same 26, .same 27, .same 28, .same 29, .same 30, .same 11, .same 12, .same 13, .same 31, .same 32, .same 33, .same 34, .same 35, .same 36, .same 37, .same 38, .same 22] ⟨Nat.zero_le _, trivial⟩ ?_ (fun r hr => ?_)
  ·repeat' first | exact trivial | exact rfl | refine And.intro ?_ ?_
  obtain ⟨hr4, -⟩ := hr
  (conv => whnf)
  refine dec (fun h5 => ?_) (fun h5 => ?_)
  ·have hr : r < 4 := by have h5 : (r : Int) < 4 := h5; omega
   have p2 := list_dspec L hL t.o t.b (r : Int)
   have p3 := sameInts_spec (listP t.o (r : Int) L.length) (t.w r)
   rw [decide_eq_true (ht.sm.eq r hr).symm] at p3
   (conv => whnf)
   refine ⟨false, .grow, (.l [0, 1, 3, 4, 5, 6, 7, 8, 2, 9, 10]), by kernel_rfl, .inl ?_⟩
   (conv => whnf)
   rcases four hr with rfl | rfl | rfl | rfl <;> (
    (conv => whnf)
    refine ⟨_, ⟨rfl, by decide⟩, ?_⟩
    (conv => whnf)
    refine cl [] [] (p2) ?_
    (conv => whnf)
    refine cl [] [] (p3) ?_
    repeat' ((conv => whnf); refine I6 ?_)
    refine ag _ [] [.same 0, .same 1, .same 2, .same 3, .same 4, .same 5, .same 6, .same 7, .same 8, .same 9, .same 10, .same 11, .same 12, .same 13, .same 14, .same 15, .same 16, .same 17, .same 18, .same 19, .same 20, .same 21, .same 22] ⟨hr, trivial⟩ (by simp only []; omega) ?_
    repeat' first | exact trivial | exact rfl | refine And.intro ?_ ?_)
  ·(conv => whnf)
   refine ⟨i, x, rfl, hiy, ?_⟩
   (conv => whnf)
   refine cl [] [] (o1) ?_
   (conv => whnf)
   refine lp Int (fun r => ⟨[(2, .c (.ls 9 Dt encDt st)), (7, .c (.ptr 0 0)), (8, .c (.ptr 11 0)), (9, .c (.rw 22)), (11, .c (.int .i64 i)), (13, .c (.int .i64 k)), (14, .c (.int .i64 r))], [.box [.ptr 1 0, .rw 3, .rw 4, .rw 5, .rw 6, .rw 7, .rw 8, .rw 9, .rw 10], .box [.rw 2], .row 6 Ob encOb L, .row 1 Bool encBo (t.o 0), .row 1 Bool encBo (t.o 1), .row 1 Bool encBo (t.o 2), .row 1 Bool encBo (t.o 3), .row 1 Int encI (t.b 0), .row 1 Int encI (t.b 1), .row 1 Int encI (t.b 2), .row 1 Int encI (t.b 3), .box [.ptr 12 0, .rw 14, .rw 15, .rw 16, .rw 17, .rw 18, .rw 19, .rw 20, .rw 21], .box [.rw 13], .row 6 Ob encOb L, .row 1 Int encI (t.w 0), .row 1 Int encI (t.w 1), .row 1 Int encI (t.w 2), .row 1 Int encI (t.w 3), .row 1 Int encI (t.b 0), .row 1 Int encI (t.b 1), .row 1 Int encI (t.b 2), .row 1 Int encI (t.b 3), .row 1 Int encI made]⟩) (fun r => (-1 ≤ r ∧ r ≤ 5) ∧ True) (fun r => (5 - r).toNat) (-1) [] [.same 0, .same 1, .same 2, .same 3, .same 4, .same 5, .same 6, .same 7, .same 8, .same 9, .same 10, .same 11, .same 12, .same 13, .same 14, .same 15, .same 16, .same 17, .same 18, .same 19, .same 20, .same 21, .same 22] ⟨⟨by decide, by decide⟩, trivial⟩ ?_ (fun r hr => ?_)
   ·repeat' first | exact trivial | exact rfl | refine And.intro ?_ ?_
   obtain ⟨⟨hr1, hr5⟩, -⟩ := hr
   (conv => whnf)
   refine dec (fun h6 => ?_) (fun h6 => ?_)
   ·have h6 : r ≤ 4 := h6
    have q1 := wholeD_spec L hL t.o t.b hb4 r k
    have q2 := wholeR_spec L hL t.w t.b hb4 r k
    have q4 := hasD_spec L t.o t.b hb4 r k
    have q5 := hasR_spec L t.w t.b hb4 r k
    rw [ht.sm.hasF hb4] at q2 q5
    have q6 := ownD_spec L t.o t.b r k
    generalize wholeP L (hasP ⟨t.o, t.b⟩) r k = W at q1 q2
    obtain ⟨fs, c⟩ := W
    dsimp only at q1 q2
    have q3 := sameFiles_spec fs fs
    rw [show decide (fs = fs) = true from decide_eq_true rfl] at q3
    generalize hasP ⟨t.o, t.b⟩ r k = hh at q4 q5
    (conv => whnf)
    refine cl [] [] (q1) ?_
    (conv => whnf)
    refine cl [] [] (q2) ?_
    (conv => whnf)
    refine cl [] [] (q3) ?_
    (conv => whnf)
    refine decN (fun h => absurd rfl h) (fun _ => ?_)
    (conv => whnf)
    refine cl [] [] (q4) ?_
    (conv => whnf)
    refine cl [] [] (q5) ?_
    (conv => whnf)
    refine decN (fun h => absurd rfl h) (fun _ => ?_)
    (conv => whnf)
    refine cl [] [] (q6) ?_
    (conv => whnf)
    refine dec (fun h7 => ?_) (fun h7 => ?_)
    ·have h7 : 0 ≤ r := h7
     (conv => whnf)
     refine dec (fun h8 => ?_) (fun h8 => ?_)
     ·have h8 : r < 4 := h8
      obtain ⟨j, hj, hrj⟩ := isR_iff.1 (show isR r = true by unfold isR; rw [decide_eq_true h7, decide_eq_true h8]; rfl)
      have q7 := in_spec (t.w j) k
      rw [show decide (k ∈ t.w j) = ownP t.o r k by rw [Bool.eq_iff_iff, decide_eq_true_iff, ht.sm.mem hj, hrj]] at q7
      generalize ownP t.o r k = ow at q7 ⊢
      (conv => whnf)
      refine ⟨j, ⟨hrj, hj⟩, ?_⟩
      rcases four hj with rfl | rfl | rfl | rfl <;> (
       (conv => whnf)
       refine cl [] [] (q7) ?_
       (conv => whnf)
       refine decN (fun h => absurd rfl h) (fun _ => ?_)
       repeat' ((conv => whnf); refine I6 ?_)
       refine ag (r + 1) [] [.same 0, .same 1, .same 2, .same 3, .same 4, .same 5, .same 6, .same 7, .same 8, .same 9, .same 10, .same 11, .same 12, .same 13, .same 14, .same 15, .same 16, .same 17, .same 18, .same 19, .same 20, .same 21, .same 22] ⟨⟨by omega, by omega⟩, trivial⟩ (by simp only []; omega) ?_
       repeat' first | exact trivial | exact rfl | refine And.intro ?_ ?_)
     ·have h8 : ¬ r < 4 := h8
      rw [show ownP t.o r k = false by unfold ownP isR; rw [decide_eq_false h8, Bool.and_false]; rfl]
      repeat' ((conv => whnf); refine I6 ?_)
      refine ag (r + 1) [] [.same 0, .same 1, .same 2, .same 3, .same 4, .same 5, .same 6, .same 7, .same 8, .same 9, .same 10, .same 11, .same 12, .same 13, .same 14, .same 15, .same 16, .same 17, .same 18, .same 19, .same 20, .same 21, .same 22] ⟨⟨by omega, by omega⟩, trivial⟩ (by simp only []; omega) ?_
      repeat' first | exact trivial | exact rfl | refine And.intro ?_ ?_
    ·have h7 : ¬ 0 ≤ r := h7
     rw [show ownP t.o r k = false by unfold ownP isR; rw [decide_eq_false h7]; rfl]
     repeat' ((conv => whnf); refine I6 ?_)
     refine ag (r + 1) [] [.same 0, .same 1, .same 2, .same 3, .same 4, .same 5, .same 6, .same 7, .same 8, .same 9, .same 10, .same 11, .same 12, .same 13, .same 14, .same 15, .same 16, .same 17, .same 18, .same 19, .same 20, .same 21, .same 22] ⟨⟨by omega, by omega⟩, trivial⟩ (by simp only []; omega) ?_
     repeat' first | exact trivial | exact rfl | refine And.intro ?_ ?_
   ·(conv => whnf)
    refine ⟨i64 (by omega) (by omega), ?_⟩
    repeat' ((conv => whnf); refine I6 ?_)
    refine ag (i + 1, t) [] [.same 0, .same 1, .same 2, .same 3, .same 4, .same 5, .same 6, .same 7, .same 8, .same 9, .same 10, .same 11, .same 12, .same 13, .same 14, .same 15, .same 16, .same 17, .same 18, .same 19, .same 20, .same 21, .same 22] ⟨⟨hlt, ht⟩, trivial⟩ (by simp only []; omega) ?_
    repeat' first | exact trivial | exact rfl | refine And.intro ?_ ?_
 ·(conv => whnf)
  exact rtB rfl
end Go.Nest
end
