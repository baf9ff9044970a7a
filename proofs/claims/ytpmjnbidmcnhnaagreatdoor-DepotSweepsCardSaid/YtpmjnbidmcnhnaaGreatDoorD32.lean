/- part -/
import Derived.Test.YtpmjnbidmcnhnaaGreatDoorU0
import Derived.Test.YtpmjnbidmcnhnaaGreatDoorW7
import Derived.Test.YtpmjnbidmcnhnaaGreatDoorTab3
import Derived.Test.YtpmjnbidmcnhnaaGreatDoorD27
import Derived.Test.YtpmjnbidmcnhnaaGreatDoorD24
import Derived.Test.YtpmjnbidmcnhnaaGreatDoorR1
import Derived.Test.YtpmjnbidmcnhnaaGreatDoorD17
import Derived.Test.YtpmjnbidmcnhnaaGreatDoorP9
set_option linter.unusedVariables false
set_option linter.unusedSimpArgs false
section

namespace Go.AM
open Go Go.NB
theorem Does.conv {P : Program} {f : FuncId} {c c' : C} {args : List A} {ah : List B} {Q : Out → List B → Prop} (h : Does P f (.c c :: args) ah Q) (hc : ∀ {F : Nat → Prop} {H : Heap} {m : Md} {v : Value}, RL F H m [c'] [v] → RL F H m [c] [v]) : Does P f (.c c' :: args) ah Q :=
 fun F L γ H vs h1 h2 => h F L γ H vs (match vs, h1 with | _ :: _, ⟨h3, h4⟩ => ⟨hc h3, h4⟩) h2
end Go.AM
namespace Go.Nest
open Go Go.AM Go.Proofs
open Go.NB (Heap)
open Go.Proofs.YtpmjnbidmcnhnaaGreatDoor.T3 (tab tabOk)
set_option maxRecDepth 4000
theorem nl_ls {F : Nat → Prop} {H : Heap} {m : Md} {sz : Nat} {α : Type} {enc enc' : α → List C} {l : List α} {v : Value} (hz : ∀ x, (enc x).length = (enc' x).length) (hc : ∀ {css}, RL F H m0 (l.flatMap enc') css → RL F H m0 (l.flatMap enc) css) (h : RL F H m [nl sz α enc' l] [v]) : RL F H m [.ls sz α enc l] [v] := by
 cases l with
 | nil => cases h with | nil _ => exact .ls0 .nl
 | cons x l =>
  unfold nl at h
  cases h with
  | ls hb h1 h2 hr hs hq _ => exact .ls hb h1 h2 (hc hr) (fun y hy => by rw [hz]; exact hs y hy) hq .nl
theorem flat_conv {F : Nat → Prop} {H : Heap} {α : Type} {enc enc' : α → List C} (h1 : ∀ x {cs}, RL F H m0 (enc' x) cs → RL F H m0 (enc x) cs) : ∀ {l : List α} {css : List Value}, RL F H m0 (l.flatMap enc') css → RL F H m0 (l.flatMap enc) css
 | [], css, h => h
 | x :: l, css, h => by
  rw [List.flatMap_cons] at h ⊢
  obtain ⟨us, ws, rfl, h2, h3⟩ := h.split
  exact (h1 x h2).append (flat_conv h1 h3)
theorem dc_conv {F : Nat → Prop} {H : Heap} (x : Dc) {cs : List Value} (h : RL F H m0 (encDcN x) cs) : RL F H m0 (encDc x) cs := by
 unfold encDcN at h
 obtain ⟨v1, us, rfl, h1, h2⟩ := h.uncons
 obtain ⟨v2, us, rfl, h3, h4⟩ := h2.uncons
 exact h1.cons ((nl_ls (fun _ => rfl) (fun h => h) h3).cons h4)
theorem sn_conv {F : Nat → Prop} {H : Heap} (x : Sn) {cs : List Value} (h : RL F H m0 (encSnN x) cs) : RL F H m0 (encSn x) cs := by
 unfold encSnN at h
 obtain ⟨v1, us, rfl, h1, h2⟩ := h.uncons
 obtain ⟨v2, us, rfl, h3, h4⟩ := h2.uncons
 exact (nl_ls (enc := encDc) (enc' := encDcN) (fun _ => rfl) (flat_conv dc_conv) h1).cons ((nl_ls (fun _ => rfl) (fun h => h) h3).cons h4)
theorem bs_conv {F : Nat → Prop} {H : Heap} {m : Md} {l : List Sn} {v : Value} (h : RL F H m [.bs 3 Sn encSnN l] [v]) : RL F H m [.bs 3 Sn encSn l] [v] := by
 cases h with
 | bs0 _ => exact .bs0 .nl
 | bs hb h1 h2 hr hs hq _ => exact .bs hb h1 h2 (flat_conv sn_conv hr) (fun y hy => rfl) hq .nl
end Go.Nest
end
/- part -/
section

namespace Go.Nest
open Go Go.AM Go.Proofs
open Go.Proofs.YtpmjnbidmcnhnaaGreatDoor.T3 (tab tabOk)
set_option maxRecDepth 4000
def sd : List Sn := [⟨[⟨[97], [120]⟩], [], []⟩]
theorem sd_ok : sd.length ≤ 25 ∧ ∀ s ∈ sd, SnapOk s := by
 refine ⟨by decide, fun s hs => ?_⟩
 have hs : s = ⟨[⟨[97], [120]⟩], [], []⟩ := by simpa [sd] using hs
 subst hs
 refine ⟨⟨by decide, fun d hd => ?_⟩, by decide, by decide⟩
 have : d = ⟨[97], [120]⟩ := by simpa using hd
 subst this; exact ⟨by decide, by decide⟩
def sdL : List Ob := (growU sd).1
theorem db1 : (growU sd).2 = [2] := by decide +kernel
theorem sdL_ok : PoolOk sdL := grow_ok
theorem sdL_len : sdL.length = 3 := by decide +kernel
theorem grownD_spec : Does Tryz.prog 45 [.c (.bs 3 Sn encSnN sd)] [] (Rt (.tup [(false, [.ptr 0 0]), (false, [.ptr 2 0]), (false, [.rw 4]), (false, [.bool true])]) [.box [.rw 1], .row 6 Ob encOb sdL, .box [.rw 3], .row 6 Ob encOb sdL, .row 1 Int encI [2]]) := by
 have h := grown_spec sd sd_ok
 rw [db1] at h
 exact h.conv bs_conv
theorem three_of {x : Int} (h : 0 ≤ x ∧ x.toNat < sdL.length) : x = 0 ∨ x = 1 ∨ x = 2 := by
 rw [sdL_len] at h; omega
theorem dl1 : Led sdL [1] 1 := .base (by simp) (by decide +kernel)
theorem dl2 : Led sdL [2] 2 := .base (by simp) (by decide +kernel)
theorem dr1 : reachP sdL [1] = [0, 1] := by
 refine rise_uniq reach_rise (by decide) fun x => ⟨fun h => ?_, fun h => ?_⟩
 ·rcases three_of (reach_lt h) with rfl | rfl | rfl
  ·decide
  ·decide
  ·rcases led_how sdL_ok ((mem_reach sdL_ok).1 h) with h1 | ⟨j, h1, h2⟩
   ·exact absurd h1 (by decide)
   ·rcases three_of (reach_lt h1) with rfl | rfl | rfl
    ·exact absurd h2 (by decide +kernel)
    ·exact absurd h2 (by decide +kernel)
    ·exact absurd h2 (by decide +kernel)
 ·rw [mem_reach sdL_ok]
  have : x = 0 ∨ x = 1 := by simpa using h
  rcases this with rfl | rfl
  ·exact dl1.step (by decide +kernel)
  ·exact dl1
theorem dr2 : reachP sdL [2] = [0, 1, 2] := by
 refine rise_uniq reach_rise (by decide) fun x => ⟨fun h => ?_, fun h => ?_⟩
 ·rcases three_of (reach_lt h) with rfl | rfl | rfl <;> decide
 ·rw [mem_reach sdL_ok]
  have : x = 0 ∨ x = 1 ∨ x = 2 := by simpa using h
  have h1 : Led sdL [2] 1 := dl2.step (by decide +kernel)
  rcases this with rfl | rfl | rfl
  ·exact h1.step (by decide +kernel)
  ·exact h1
  ·exact dl2
def bN : Nat → List Int := fun _ => []
def oN : Nat → List Bool := fun _ => []
def o1D : Nat → List Bool := upd oN 1 [true, true, true]
def o2D : Nat → List Bool := upd o1D 2 [true, true, true]
def b1D : Nat → List Int := upd bN 3 [2]
theorem da1 : addC sdL 1 [2] = 0 := by decide +kernel
theorem da2 : addC sdL 2 [2] = 0 := by decide +kernel
theorem da3 : (([0, 1, 2] : List Int).foldl (markL oN bN 1) (padL [] sdL.length)) = [true, true, true] := by decide +kernel
theorem da4 : (([0, 1, 2] : List Int).foldl (markL o1D bN 2) (padL [] sdL.length)) = [true, true, true] := by decide +kernel
theorem do1 : addO sdL oN bN 1 [2] = o1D := by
 unfold addO
 rw [if_neg (by rw [da1]; decide)]
 unfold addL
 rw [dr2]
 show upd oN 1 (([0, 1, 2] : List Int).foldl (markL oN bN 1) (padL [] sdL.length)) = _
 rw [da3]; rfl
theorem do2 : addO sdL o1D bN 2 [2] = o2D := by
 unfold addO
 rw [if_neg (by rw [da2]; decide)]
 unfold addL
 rw [dr2]
 show upd o1D 2 (([0, 1, 2] : List Int).foldl (markL o1D bN 2) (padL [] sdL.length)) = _
 rw [da4]; rfl
theorem dlo : lostP sdL ⟨o1D, bN⟩ 1 2 = false := by
 unfold lostP
 rw [dr2]
 decide +kernel
theorem df1 : fetC sdL ⟨o1D, bN⟩ 2 1 2 = 0 := by
 unfold fetC
 rw [dlo, da2]; decide +kernel
theorem df2 : fetO sdL o1D bN 2 1 2 = o2D := by
 unfold fetO
 rw [dlo, do2, if_neg (by decide +kernel), if_neg (by decide)]
theorem dc1 : borC bN 3 2 = 0 := by decide +kernel
theorem dc2 : borC b1D 2 3 = 10 := by decide +kernel
theorem db2 : borO bN 3 2 = b1D := by
 unfold borO
 rw [if_neg (by rw [dc1]; decide)]; rfl
theorem db3 : borO b1D 2 3 = b1D := by
 unfold borO
 rw [if_pos (by rw [dc2]; decide)]
theorem b1_nd : BorNd b1D := by rw [← db2]; exact BorNd.nil.bor 3 2
theorem dw1 : goneP sdL (hasP ⟨o2D, b1D⟩) 3 2 = false := by
 unfold goneP
 rw [show (getP sdL 2).tree = 1 by decide +kernel, dr1]
 decide +kernel
theorem dw2 : filesP sdL (getP sdL 2).tree = ([⟨[97], 1, 0, 0⟩], 0) := by decide +kernel
theorem dw3 : wholeP sdL (hasP ⟨o2D, b1D⟩) 3 2 = ([⟨[97], 1, 0, 0⟩], 0) := by
 have h : whW sdL (hasP ⟨o2D, b1D⟩) 6 3 2 [] [] = ([⟨[97], 1, 0, 0⟩], 0) := by
  rw [whW, dw1, dw2]; rfl
 unfold wholeP
 rw [h]; decide +kernel
theorem dh1 : ownP o2D 2 2 = true := by decide +kernel
theorem dh2 : ownP o2D 3 2 = false := by decide +kernel
theorem dh3 : hasP ⟨o2D, b1D⟩ 3 2 = true := by decide +kernel
set_option maxHeartbeats 4000000 in
theorem depotBegun_spec : Does Tryz.prog 9 [] [] (Rt (.c (.bool true)) []) := by
 have p1 := addD_dspec sdL sdL_ok oN bN BorNd.nil.ok (fun k hk => Nat.zero_le _) 1 [2] (by decide)
 rw [da1, do1] at p1
 have hol : ∀ o : Nat → List Bool, (∀ k, (o k).length ≤ 3) → ∀ k, k < 4 → (o k).length ≤ 1000000 := fun o h k hk => Nat.le_trans (h k) (by decide)
 have p2 := fetD_spec sdL sdL_ok o1D bN BorNd.nil.ok (fun k hk => by rcases four hk with rfl | rfl | rfl | rfl <;> decide) 2 1 2
 rw [df1, df2] at p2
 have p3 := borD_spec sdL o2D bN BorNd.nil.ok 3 2
 rw [dc1, db2] at p3
 have p4 := wholeD_spec sdL sdL_ok o2D b1D b1_nd.ok 3 2
 rw [dw3] at p4
 have p5 := ownD_spec sdL o2D b1D 2 2
 rw [dh1] at p5
 have p6 := ownD_spec sdL o2D b1D 3 2
 rw [dh2] at p6
 have p7 := hasD_spec sdL o2D b1D b1_nd.ok 3 2
 rw [dh3] at p7
 have p8 := borD_spec sdL o2D b1D b1_nd.ok 2 3
 rw [dc2, db3] at p8
 refine X_spec (n := 101) (n0 := 0) tabOk Tryz.call9 Tryz.func9 ?_
 intro hb
 (conv => whnf)
 refine ⟨[120], rfl, ?_⟩
 (conv => whnf)
 refine ⟨[⟨[97], [120]⟩], rfl, ?_⟩
 (conv => whnf)
 refine ⟨sd, rfl, ?_⟩
 (conv => whnf)
 refine cl [] [] (grownD_spec) ?_
 (conv => whnf)
 refine cl [] [3, 4] (depotNew_spec sdL) ?_
 (conv => whnf)
 refine ⟨0, ⟨rfl, by decide⟩, ?_⟩
 (conv => whnf)
 refine ⟨2, rfl, ?_⟩
 (conv => whnf)
 refine ⟨[2], rfl, ?_⟩
 (conv => whnf)
 refine cl [] [8, 3, 4, 9, 10, 11, 12, 13, 14, 15, 16] (p1) ?_
 (conv => whnf)
 refine ⟨0, ⟨rfl, by decide⟩, ?_⟩
 (conv => whnf)
 refine ⟨2, rfl, ?_⟩
 (conv => whnf)
 refine cl [] [8, 3, 4, 18, 19, 20, 21, 13, 14, 15, 16] (p2) ?_
 (conv => whnf)
 refine cl [] [8, 3, 4, 22, 23, 24, 25, 13, 14, 15, 16] (p3) ?_
 (conv => whnf)
 refine ⟨0, ⟨rfl, by decide⟩, ?_⟩
 (conv => whnf)
 refine ⟨2, rfl, ?_⟩
 (conv => whnf)
 refine cl [] [] (p4) ?_
 (conv => whnf)
 refine ⟨0, ⟨rfl, by decide⟩, ?_⟩
 (conv => whnf)
 refine ⟨2, rfl, ?_⟩
 (conv => whnf)
 refine cl [] [] (p5) ?_
 (conv => whnf)
 refine ⟨0, ⟨rfl, by decide⟩, ?_⟩
 (conv => whnf)
 refine ⟨2, rfl, ?_⟩
 (conv => whnf)
 refine cl [] [] (p6) ?_
 (conv => whnf)
 refine ⟨0, ⟨rfl, by decide⟩, ?_⟩
 (conv => whnf)
 refine ⟨2, rfl, ?_⟩
 (conv => whnf)
 refine cl [] [] (p7) ?_
 (conv => whnf)
 refine cl [] [8, 3, 4, 22, 23, 24, 25, 26, 27, 28, 29] (p8) ?_
 (conv => whnf)
 exact rtB rfl
end Go.Nest
end
/- part -/
section

namespace Go.Nest
open Go Go.AM Go.Proofs
open Go.Proofs.YtpmjnbidmcnhnaaGreatDoor (tab tabOk)
set_option maxRecDepth 4000
def ds0 : DS := ⟨fun _ => [], fun _ => [], fun _ => []⟩
theorem ds0_inv {L : List Ob} : DInv L ds0 := ⟨Sm.nil, BorNd.nil⟩
theorem depots_ok {l : List Sn} {m : List Mt} (hl : l.length ≤ 25) (hm : m.length ≤ 15) : PoolOk (depotsU l m).1 ∧ (depotsU l m).2.length ≤ 40 := by
 have h := mount_fold (m := m) (s := growU l) grow_ok
 have h2 : (growU l).2.length ≤ 0 + l.length := grow_len (l := l) (s := ([], []))
 unfold depotsU
 exact ⟨h.1, by omega⟩
end Go.Nest
end
/- part -/
section

namespace Go.Nest
open Go Go.AM
theorem led_thru {L : List Ob} {ids : List Int} {j k : Int} (h : Led L ids j) (g : Led L [j] k) : Led L ids k := by
 induction g with
 | base h1 h2 => rw [List.mem_singleton] at h1; subst h1; exact h
 | step _ h2 ih => exact ih.step h2
theorem ent_next {L : List Ob} {j : Int} {e : Ent} (h : e ∈ (getP L j).entries) (hm : e.mode ≠ 3) : e.id ∈ nextP L j := by
 unfold nextP
 exact List.mem_append.2 (.inl (List.mem_map.2 ⟨e, List.mem_filter.2 ⟨h, decide_eq_true hm⟩, rfl⟩))
theorem tree_next {L : List Ob} {j : Int} (h : kindOf L j = 3) : (getP L j).tree ∈ nextP L j := by
 unfold nextP
 rw [getP_kind, if_pos h]
 exact List.mem_append.2 (.inr (List.mem_append.2 (.inl (by simp))))
def LinkAt (L : List Ob) (f : Fi) (e : Ent) : Prop := e.mode = 3 ∧ e.id = f.id ∧ e.repo = f.repo
theorem Ents.link {ne : Bool} {L : List Ob} {es : List Ent} {l : List Fi} (h : Ents ne L es l) : ∀ f ∈ l, f.mode = 3 → (∃ e ∈ es, LinkAt L f e) ∨ ∃ d ∈ es, d.mode = 2 ∧ ∃ k, Led L [d.id] k ∧ ∃ e ∈ (getP L k).entries, LinkAt L f e := by
 induction h with
 | nil => intro f hf; cases hf
 | @file e es l hm h ih =>
  intro f hf hm3
  rcases List.mem_cons.1 hf with rfl | hf
  ·exact .inl ⟨e, by simp, hm3, rfl, rfl⟩
  ·rcases ih f hf hm3 with ⟨x, h1, h2⟩ | ⟨d, h1, h2⟩
   ·exact .inl ⟨x, List.mem_cons_of_mem _ h1, h2⟩
   ·exact .inr ⟨d, List.mem_cons_of_mem _ h1, h2⟩
 | @dir e es m l hm hk hne h1 h2 ih1 ih2 =>
  intro f hf hm3
  rcases List.mem_append.1 hf with hf | hf
  ·obtain ⟨g, hg, rfl⟩ := List.mem_map.1 hf
   have hb : Led L [e.id] e.id := .base (by simp) (by rw [hk]; decide)
   refine .inr ⟨e, by simp, hm, ?_⟩
   rcases ih1 g hg hm3 with ⟨x, k1, k2⟩ | ⟨d, k1, k2, k, k3, k4⟩
   ·exact ⟨e.id, hb, x, k1, k2⟩
   ·exact ⟨k, led_thru (hb.step (ent_next k1 (by omega))) k3, k4⟩
  ·rcases ih2 f hf hm3 with ⟨x, h1, h2⟩ | ⟨d, h1, h2⟩
   ·exact .inl ⟨x, List.mem_cons_of_mem _ h1, h2⟩
   ·exact .inr ⟨d, List.mem_cons_of_mem _ h1, h2⟩
theorem file_link {L : List Ob} (hL : PoolOk L) {t : Int} {f : Fi} (h : f ∈ (filesP L t).1) (hm : f.mode = 3) : ∃ k, Led L [t] k ∧ ∃ e ∈ (getP L k).entries, LinkAt L f e := by
 have h0 : (filesP L t).2 = 0 := Decidable.byContradiction fun h0 => by rw [files_nil h0] at h; cases h
 obtain ⟨⟨h1, h2⟩, -⟩ := files_told hL h0
 have hb : Led L [t] t := .base (by simp) (by rw [h1]; decide)
 rcases h2.link f h hm with ⟨x, k1, k2⟩ | ⟨d, k1, k2, k, k3, k4⟩
 ·exact ⟨t, hb, x, k1, k2⟩
 ·exact ⟨k, led_thru (hb.step (ent_next k1 (by omega))) k3, k4⟩
theorem Nd.led {L : List Ob} {r0 : Nat → List Int} {r : Nat} {k m : Int} (h : Nd L r0 r k) (hl : Led L [k] m) : Nd L r0 r m := by
 induction hl with
 | base h1 h2 => rw [List.mem_singleton] at h1; subst h1; exact h
 | step _ h2 ih => exact ih.next h2
theorem any_same {α : Type} {p q : α → Bool} : ∀ {l : List α}, (∀ x ∈ l, p x = q x) → l.any p = l.any q
 | [], _ => rfl
 | x :: l, h => by rw [List.any_cons, List.any_cons, h x (by simp), any_same fun y hy => h y (List.mem_cons_of_mem _ hy)]
theorem whL_same {f g : Int → Int → List UInt8 → List Fi → List Fi × Int} {pre : List UInt8} : ∀ {l out : List Fi}, (∀ x ∈ l, x.mode = 3 → ∀ p out, f x.repo x.id p out = g x.repo x.id p out) → whL f pre l out = whL g pre l out
 | [], out, _ => rfl
 | x :: l, out, h => by
  have hl : ∀ out, whL f pre l out = whL g pre l out := fun out => whL_same fun y hy => h y (List.mem_cons_of_mem _ hy)
  rw [whL, whL, hl, hl]
  split
  ·rename_i hm
   rw [h x (by simp) hm]
  ·rfl
theorem whW_same {L : List Ob} (hL : PoolOk L) {r0 : Nat → List Int} {h1 h2 : Int → Int → Bool} (hh : ∀ (r : Nat) (k : Int), Nd L r0 r k → h1 r k = h2 r k) : ∀ (n r : Nat) (id : Int) (pre : List UInt8) (out : List Fi), (¬ kindOf L id = 0 → Nd L r0 r id) → whW L h1 n r id pre out = whW L h2 n r id pre out := by
 intro n
 induction n with
 | zero => intro r id pre out hid; rfl
 | succ n ih =>
  intro r id pre out hid
  have hg : goneP L h1 r id = goneP L h2 r id := by
   unfold goneP
   by_cases hk : kindOf L id = 3
   ·have hn := hid (by omega)
    rw [hh r id hn, any_same (p := fun k => !h1 r k) (q := fun k => !h2 r k) fun k hk' => by rw [hh r k ((hn.next (tree_next hk)).led ((mem_reach hL).1 hk'))]]
   ·rw [decide_eq_false hk]; rfl
  rw [whW, whW, hg]
  split
  ·rfl
  ·rename_i h3
   split
   ·refine whL_same fun x hx hm p out => ?_
    have hk : kindOf L id = 3 := Decidable.byContradiction fun hk => h3 (by unfold goneP; rw [decide_eq_false hk]; rfl)
    have hn := (hid (by omega)).next (tree_next hk)
    obtain ⟨k, k1, e, k2, k3, k4, k5⟩ := file_link hL hx hm
    have hq := ent_repo hL k2
    have := ih x.repo.toNat x.id p out fun _ => by
     have := (hn.led k1).ent hL k2 k3
     rwa [k4, k5] at this
    rwa [show ((x.repo.toNat : Nat) : Int) = x.repo by omega] at this
   ·rfl
theorem whole_same {L : List Ob} (hL : PoolOk L) {r0 : Nat → List Int} {h1 h2 : Int → Int → Bool} (hh : ∀ (r : Nat) (k : Int), Nd L r0 r k → h1 r k = h2 r k) {r : Nat} {id : Int} (hr : r < 4) (hid : id ∈ r0 r) : wholeP L h1 r id = wholeP L h2 r id := by
 unfold wholeP
 rw [whW_same hL hh 6 r id [] [] fun hk => .root hr hid (.base (by simp) hk)]
theorem keep_of {b need : Nat → List Int} {q : Nat} {r : Nat} {k : Int} (hr : r < 4) (h1 : (q : Int) ∈ lendP b r) (h2 : k ∈ need r) : keepB b need q k = true := by
 unfold keepB
 rw [List.any_eq_true]
 exact ⟨r, List.mem_range.2 hr, by rw [Bool.and_eq_true, decide_eq_true_iff, decide_eq_true_iff]; exact ⟨h1, h2⟩⟩
theorem has_sweep {L : List Ob} (hL : PoolOk L) {o : Nat → List Bool} {b r0 : Nat → List Int} (hb : BorOk b) (r : Nat) (k : Int) (h : Nd L r0 r k) : hasP ⟨sweepO L o b r0, b⟩ r k = hasP ⟨o, b⟩ r k := by
 have hr := h.lt hL
 unfold hasP
 congr 1
 refine any_same fun q hq => ?_
 have hq4 := (lend_nd hb (isR_iff.2 ⟨r, hr, rfl⟩)).2 q hq
 have e : ((q.toNat : Nat) : Int) = q := by omega
 dsimp only
 have := sweep_own (L := L) (o := o) (b := b) (r0 := r0) (q := q.toNat) (by omega) (z := k)
 rw [e] at this
 rw [this, keep_of hr (by rw [e]; exact hq) ((mem_need hL).2 h), Bool.and_true]
theorem sweep_twice {L : List Ob} {o : Nat → List Bool} {b r0 : Nat → List Int} {q : Nat} (hq : q < 4) {n : Nat} : listP (sweepO L (sweepO L o b r0) b r0) q n = listP (sweepO L o b r0) q n := by
 unfold listP
 congr 1
 refine List.filter_congr fun j _ => ?_
 rw [sweep_own hq, sweep_own hq, Bool.and_assoc, Bool.and_self]
theorem swept_wanted {L : List Ob} {o : Nat → List Bool} {b r0 : Nat → List Int} {q n : Nat} (hq : q < 4) {x : Int} (h : x ∈ listP (sweepO L o b r0) q n) : ∃ r : Nat, r < 4 ∧ (q : Int) ∈ lendP b r ∧ x ∈ needP L r0 r := by
 obtain ⟨j, h1, h2, rfl⟩ := mem_list.1 h
 rw [sweep_own hq, Bool.and_eq_true] at h2
 have h3 := h2.2
 unfold keepB at h3
 rw [List.any_eq_true] at h3
 obtain ⟨r, h4, h5⟩ := h3
 rw [Bool.and_eq_true, decide_eq_true_iff, decide_eq_true_iff] at h5
 exact ⟨r, List.mem_range.1 h4, h5⟩
end Go.Nest
end
/- part -/
section

namespace Go.Nest
open Go Go.AM Go.Proofs
open Go.Proofs.YtpmjnbidmcnhnaaGreatDoor (tab tabOk)
set_option maxRecDepth 4000
structure SW where
 h : Nat → List Int
 w : Nat → List (List Fi)
 c : Nat → List Int
structure SAi (hd : Nat → List Int) (wh : Nat → List (List Fi)) (cd : Nat → List Int) (r : Nat) (g : SW) : Prop where
 h : ∀ j, j < 4 → g.h j = if j < r then hd j else []
 w : ∀ j, j < 4 → g.w j = if j < r then wh j else []
 c : ∀ j, j < 4 → g.c j = if j < r then cd j else []
theorem SAi.start {hd : Nat → List Int} {wh : Nat → List (List Fi)} {cd : Nat → List Int} : SAi hd wh cd 0 ⟨fun _ => [], fun _ => [], fun _ => []⟩ :=
 ⟨fun j hj => by rw [if_neg (Nat.not_lt_zero _)], fun j hj => by rw [if_neg (Nat.not_lt_zero _)], fun j hj => by rw [if_neg (Nat.not_lt_zero _)]⟩
theorem SAi.here {hd : Nat → List Int} {wh : Nat → List (List Fi)} {cd : Nat → List Int} {r : Nat} {g : SW} (h : SAi hd wh cd r g) (hr : r < 4) : g.h r = [] ∧ g.w r = [] ∧ g.c r = [] :=
 ⟨(h.h r hr).trans (if_neg (Nat.lt_irrefl _)), (h.w r hr).trans (if_neg (Nat.lt_irrefl _)), (h.c r hr).trans (if_neg (Nat.lt_irrefl _))⟩
theorem upd_next {α : Type} {a hd : Nat → List α} {r : Nat} (h : ∀ j, j < 4 → a j = if j < r then hd j else []) : ∀ j, j < 4 → upd a r (hd r) j = if j < r + 1 then hd j else [] := fun j hj => by
 by_cases e : j = r
 ·subst e; rw [upd_at, if_pos (by omega)]
 ·rw [upd_ne e, h j hj]
  by_cases h : j < r
  ·rw [if_pos h, if_pos (by omega)]
  ·rw [if_neg h, if_neg (by omega)]
theorem SAi.next {hd : Nat → List Int} {wh : Nat → List (List Fi)} {cd : Nat → List Int} {r : Nat} {g : SW} (h : SAi hd wh cd r g) : SAi hd wh cd (r + 1) ⟨upd g.h r (hd r), upd g.w r (wh r), upd g.c r (cd r)⟩ := ⟨upd_next h.h, upd_next h.w, upd_next h.c⟩
def rhoA (q a : Nat) : List Rn := (List.range 39).map fun i => bif Nat.beq i (27 + q) then .same a else .same i
def rhoB (q a c : Nat) : List Rn := (List.range 39).map fun i => bif Nat.beq i (31 + q) then .same a else bif Nat.beq i (35 + q) then .same c else .same i
theorem nat_eq {i n : Nat} (h : ¬ (i : Int) < (n : Int)) (hi : i ≤ n) : i = n := by omega
set_option maxHeartbeats 40000000 in
theorem depotSweeps_spec (l : List Sn) (m : List Mt) (st : List Dt) (x0 : Dt) (h0 : x0 = ⟨0, 0, 0, 0, false, x0.r0, x0.r1, x0.r2, x0.r3⟩) (hl : ∀ s ∈ l, DocsFit s.docs) : Does Tryz.prog 5 [.c (.ls 3 Sn encSn l), .c (.ls 4 Mt encMt m), .c (.ls 9 Dt encDt st), .st [.ls 1 Int encI x0.r0, .ls 1 Int encI x0.r1, .ls 1 Int encI x0.r2, .ls 1 Int encI x0.r3]] [] (Rt (.c (.bool true)) []) := by
 refine X_spec (n := 269) (n0 := 0) tabOk Tryz.call5 Tryz.func5 ?_
 intro hb
 (conv => whnf)
 refine cl [] [] (depotBegun_spec) ?_
 (conv => whnf)
 refine cl [] [] (greatSnaps_spec l hl) ?_
 (conv => whnf)
 refine boo (fun g1 => ?_) (fun g1 => ?_)
 ·(conv => whnf)
  exact rtC rfl rfl
 have hg := greatS_ok g1
 (conv => whnf)
 refine cl [] [] (greatSteps_spec st m) ?_
 (conv => whnf)
 refine boo (fun g2 => ?_) (fun g2 => ?_)
 ·(conv => whnf)
  exact rtC rfl rfl
 obtain ⟨k1, k2, k3, k4⟩ := greatT_ok g2
 have p0 := depots_spec l m hg k2 k4
 obtain ⟨hL, hml⟩ := depots_ok (l := l) (m := m) (by simpa using hg.1) k2
 generalize depotsU l m = U at p0 hL hml
 obtain ⟨L, made⟩ := U
 dsimp only at p0 hL hml
 (conv => whnf)
 refine ⟨[⟨0, 0, 0, 0, false, x0.r0, x0.r1, x0.r2, x0.r3⟩], rfl, ?_⟩
 rw [← h0]
 (conv => whnf)
 refine cl [] [] (greatSteps_spec [x0] []) ?_
 (conv => whnf)
 refine boo (fun g3 => ?_) (fun g3 => ?_)
 ·(conv => whnf)
  exact rtC rfl rfl
 have hx0 := (greatT_ok g3).2.2.1 x0 (by simp)
 (conv => whnf)
 refine cl [] [] (p0) ?_
 (conv => whnf)
 refine lp (Nat × DS) (fun p => ⟨[(2, .c (.ls 9 Dt encDt st)), (7, .c (.ptr 23 0)), (9, .c (.ptr 0 0)), (10, .c (.ptr 11 0)), (11, .c (.rw 22)), (13, .c (.int .i64 p.1))], [.box [.ptr 1 0, .rw 3, .rw 4, .rw 5, .rw 6, .rw 7, .rw 8, .rw 9, .rw 10], .box [.rw 2], .row 6 Ob encOb L, .row 1 Bool encBo (p.2.o 0), .row 1 Bool encBo (p.2.o 1), .row 1 Bool encBo (p.2.o 2), .row 1 Bool encBo (p.2.o 3), .row 1 Int encI (p.2.b 0), .row 1 Int encI (p.2.b 1), .row 1 Int encI (p.2.b 2), .row 1 Int encI (p.2.b 3), .box [.ptr 12 0, .rw 14, .rw 15, .rw 16, .rw 17, .rw 18, .rw 19, .rw 20, .rw 21], .box [.rw 13], .row 6 Ob encOb L, .row 1 Int encI (p.2.w 0), .row 1 Int encI (p.2.w 1), .row 1 Int encI (p.2.w 2), .row 1 Int encI (p.2.w 3), .row 1 Int encI (p.2.b 0), .row 1 Int encI (p.2.b 1), .row 1 Int encI (p.2.b 2), .row 1 Int encI (p.2.b 3), .row 1 Int encI made, .box [.ls 1 Int encI x0.r0, .ls 1 Int encI x0.r1, .ls 1 Int encI x0.r2, .ls 1 Int encI x0.r3]]⟩) (fun p => (p.1 ≤ st.length ∧ DInv L p.2) ∧ True) (fun p => st.length - p.1) (0, ds0) [] [.same 2, .same 3, .same 4, .same 5, .same 6, .same 7, .same 8, .same 9, .same 10, .same 11, .same 12, .same 13, .same 14, .same 15, .same 16, .same 17, .same 18, .same 19, .same 20, .same 21, .same 22, .same 23, .same 24, .same 0] ⟨⟨Nat.zero_le _, ds0_inv⟩, trivial⟩ ?_ (fun ⟨i, s⟩ hi => ?_)
 ·repeat' first | exact trivial | exact rfl | refine And.intro ?_ ?_
 obtain ⟨⟨hi, hs⟩, -⟩ := hi
 dsimp only at hi hs
 (conv => whnf)
 refine dec (fun h4 => ?_) (fun h4 => ?_)
 ·have hlt : i < st.length := by have h4 : (i : Int) < st.length := h4; omega
  have hiy : st[i]? = some st[i] := List.getElem?_eq_getElem hlt
  have hx := k3 _ (List.getElem_mem hlt)
  generalize st[i] = x at hiy hx
  have p1 := depotStep_spec L hL made s hs x hx
  have ht := step_dinv hL (made := made) hs x
  generalize stepD L made s x = t at p1 ht
  (conv => whnf)
  refine ⟨i, x, rfl, hiy, ?_⟩
  (conv => whnf)
  refine clE [] [0, 1, 2, 3, 4, 5, 6, 7, 8, 9, 10, 11, 12, 13, 14, 15, 16, 17, 18, 19, 20, 21] [.box [.ptr 1 0, .rw 24, .rw 25, .rw 26, .rw 27, .rw 28, .rw 29, .rw 30, .rw 31], .box [.rw 2], .row 6 Ob encOb L, .dead, .dead, .dead, .dead, .dead, .dead, .dead, .dead, .box [.ptr 12 0, .rw 32, .rw 33, .rw 34, .rw 35, .rw 36, .rw 37, .rw 38, .rw 39], .box [.rw 13], .row 6 Ob encOb L, .dead, .dead, .dead, .dead, .dead, .dead, .dead, .dead, .row 1 Int encI made, .box [.ls 1 Int encI x0.r0, .ls 1 Int encI x0.r1, .ls 1 Int encI x0.r2, .ls 1 Int encI x0.r3], .row 1 Bool encBo (t.o 0), .row 1 Bool encBo (t.o 1), .row 1 Bool encBo (t.o 2), .row 1 Bool encBo (t.o 3), .row 1 Int encI (t.b 0), .row 1 Int encI (t.b 1), .row 1 Int encI (t.b 2), .row 1 Int encI (t.b 3), .row 1 Int encI (t.w 0), .row 1 Int encI (t.w 1), .row 1 Int encI (t.w 2), .row 1 Int encI (t.w 3), .row 1 Int encI (t.b 0), .row 1 Int encI (t.b 1), .row 1 Int encI (t.b 2), .row 1 Int encI (t.b 3)] (.c (.bool true)) p1 (by kernel_rfl) (by kernel_rfl) ?_ (by (repeat' first | exact trivial | exact rfl | refine And.intro ?_ ?_); first | done | fail) rfl
  repeat' ((conv => whnf); refine I6 ?_)
  refine ag (i + 1, t) [] [.same 0, .same 1, .same 2, .same 24, .same 25, .same 26, .same 27, .same 28, .same 29, .same 30, .same 31, .same 11, .same 12, .same 13, .same 32, .same 33, .same 34, .same 35, .same 36, .same 37, .same 38, .same 39, .same 22, .same 23] ⟨⟨hlt, ht⟩, trivial⟩ (by simp only []; omega) ?_
  repeat' first | exact trivial | exact rfl | refine And.intro ?_ ?_
 ·have hb4 := hs.nd.ok
  have q1 := pick_spec made (rootsT x0) hx0
  have hal : ∀ r, r < 4 → (pickP made (rootsT x0) r).length ≤ 20 := fun r hr => by
   rw [pickP_at]
   have := pickN_len (made := made) (l := rootsT x0 r)
   have := hx0 r hr
   omega
  generalize pickP made (rootsT x0) = al at q1 hal
  have hal2 : ∀ r, r < 4 → (al r).length ≤ 100000 := fun r hr => Nat.le_trans (hal r hr) (by decide)
  have q2 := need_dspec L hL s.o s.b al hal2
  (conv => whnf)
  refine cl [] [] (q1) ?_
  (conv => whnf)
  refine cl [] [] (q2) ?_
  have hnl : ∀ r, (needP L al r).length ≤ 600 := fun r => Nat.le_trans need_len hL.len
  have hol := hs.ol hL
  obtain ⟨o2, ho2⟩ : ∃ o2, o2 = sweepO L s.o s.b al := ⟨_, rfl⟩
  have hol2 : ∀ k, k < 4 → (o2 k).length ≤ 1000000 := fun k hk => by rw [ho2]; unfold sweepO; rw [sweepL_len]; exact hol k hk
  have q4 := sweep_dspec L hL s.o s.b al hb4 hol hal2
  have q5 := sweep_dspec L hL o2 s.b al hb4 hol2 hal2
  have hOw : ∀ r : Nat, r < 4 → ∀ x ∈ listP o2 (r : Int) L.length, kpR s.b (needP L al) r x 4 = true := fun r hr x hx => by
   rw [ho2] at hx
   obtain ⟨j, j1, j2, j3⟩ := swept_wanted hr hx
   exact keep_of j1 j2 j3
  have hTw : ∀ r : Nat, r < 4 → listP (sweepO L o2 s.b al) (r : Int) L.length = listP o2 (r : Int) L.length := fun r hr => by
   rw [ho2]; exact sweep_twice hr
  have hHs : ∀ (r : Nat) x, x ∈ needP L al r → hasP ⟨o2, s.b⟩ r x = hasP ⟨s.o, s.b⟩ r x := fun r x hx => by
   rw [ho2]; exact has_sweep hL hb4 r x ((mem_need hL).1 hx)
  have hWs : ∀ r : Nat, r < 4 → ∀ id ∈ al r, wholeP L (hasP ⟨o2, s.b⟩) r id = wholeP L (hasP ⟨s.o, s.b⟩) r id := fun r hr id hid =>
   whole_same hL (r0 := al) (fun r k h => by rw [ho2]; exact has_sweep hL hb4 r k h) hr hid
  rw [← ho2] at q4
  generalize sweepO L o2 s.b al = o3 at q5 hTw
  generalize needP L al = nd at q2 hnl hOw hHs
  have pH := fun (r x : Int) => hasD_spec L s.o s.b hb4 r x
  have pW := fun (r x : Int) => wholeD_spec L hL s.o s.b hb4 r x
  have pH2 := fun (r x : Int) => hasD_spec L o2 s.b hb4 r x
  have pW2 := fun (r x : Int) => wholeD_spec L hL o2 s.b hb4 r x
  have pL := fun (q0 : Int) (r : Nat) (hr : r < 4) => lends_spec L s.w s.b hb4 q0 (r : Int) (isR_iff.2 ⟨r, hr, rfl⟩)
  have pO2 := fun (r : Int) => list_dspec L hL o2 s.b r
  have pO3 := fun (r : Int) => list_dspec L hL o3 s.b r
  -- what was had, and read: piece by piece
  obtain ⟨H, hHe⟩ : ∃ H : Nat → Int → Bool, H = fun (r : Nat) x => hasP ⟨s.o, s.b⟩ (r : Int) x := ⟨_, rfl⟩
  obtain ⟨F, hFe⟩ : ∃ F : Nat → Nat → List Int, F = fun (r i : Nat) => ((nd r).take i).filter (H r) := ⟨_, rfl⟩
  obtain ⟨Fw, hFwe⟩ : ∃ F : Nat → Nat → List (List Fi), F = fun (r i : Nat) => ((al r).take i).map fun id => (wholeP L (hasP ⟨s.o, s.b⟩) (r : Int) id).1 := ⟨_, rfl⟩
  obtain ⟨Fc, hFce⟩ : ∃ F : Nat → Nat → List Int, F = fun (r i : Nat) => ((al r).take i).map fun id => (wholeP L (hasP ⟨s.o, s.b⟩) (r : Int) id).2 := ⟨_, rfl⟩
  have eH : ∀ r i, i < (nd r).length → ∃ x, (nd r)[i]? = some x ∧ F r (i + 1) = F r i ++ (if H r x = true then [x] else []) := fun r i hi => by
   rw [hFe]
   exact ⟨_, List.getElem?_eq_getElem hi, filt_one hi⟩
  have lH : ∀ r i, (F r i).length ≤ i := fun r i => by
   rw [hFe]
   exact Nat.le_trans (List.length_filter_le _ _) (by rw [List.length_take]; omega)
  have pHr : ∀ (r : Nat) x, Does Tryz.prog 23 [.c (.bp [.bp [.bs 6 Ob encOb L], .bs 1 Bool encBo (s.o 0), .bs 1 Bool encBo (s.o 1), .bs 1 Bool encBo (s.o 2), .bs 1 Bool encBo (s.o 3), .bs 1 Int encI (s.b 0), .bs 1 Int encI (s.b 1), .bs 1 Int encI (s.b 2), .bs 1 Int encI (s.b 3)]), .c (.int .i64 r), .c (.int .i64 x)] [] (Rt (.c (.bool (H r x))) []) := fun r x => by rw [hHe]; exact pH r x
  have eW : ∀ r i, i < (al r).length → ∃ id fs c, (al r)[i]? = some id ∧ Does Tryz.prog 15 [.c (.bp [.bp [.bs 6 Ob encOb L], .bs 1 Bool encBo (s.o 0), .bs 1 Bool encBo (s.o 1), .bs 1 Bool encBo (s.o 2), .bs 1 Bool encBo (s.o 3), .bs 1 Int encI (s.b 0), .bs 1 Int encI (s.b 1), .bs 1 Int encI (s.b 2), .bs 1 Int encI (s.b 3)]), .c (.int .i64 r), .c (.int .i64 id)] [] (Rt (.tup [(false, [.rw 0]), (false, [.int .i64 c])]) [.row 4 Fi encFi fs]) ∧ Fw r (i + 1) = Fw r i ++ [fs] ∧ Fc r (i + 1) = Fc r i ++ [c] := fun r i hi => by
   refine ⟨_, _, _, List.getElem?_eq_getElem hi, pW r _, ?_, ?_⟩
   ·rw [hFwe]
    show ((al r).take (i + 1)).map _ = _
    rw [List.take_succ_eq_append_getElem hi, List.map_append]; rfl
   ·rw [hFce]
    show ((al r).take (i + 1)).map _ = _
    rw [List.take_succ_eq_append_getElem hi, List.map_append]; rfl
  have lW : ∀ r i, (Fw r i).length ≤ i ∧ (Fc r i).length ≤ i := fun r i => by
   rw [hFwe, hFce]
   simp only [List.length_map, List.length_take]
   omega
  obtain ⟨hd, hhd⟩ : ∃ hd : Nat → List Int, hd = fun r => F r (nd r).length := ⟨_, rfl⟩
  obtain ⟨wh, hwh⟩ : ∃ wh : Nat → List (List Fi), wh = fun r => Fw r (al r).length := ⟨_, rfl⟩
  obtain ⟨cd, hcd⟩ : ∃ cd : Nat → List Int, cd = fun r => Fc r (al r).length := ⟨_, rfl⟩
  have eH2 : ∀ r, r < 4 → ∀ i, i < (hd r).length → ∃ x, (hd r)[i]? = some x ∧ Does Tryz.prog 23 [.c (.bp [.bp [.bs 6 Ob encOb L], .bs 1 Bool encBo (o2 0), .bs 1 Bool encBo (o2 1), .bs 1 Bool encBo (o2 2), .bs 1 Bool encBo (o2 3), .bs 1 Int encI (s.b 0), .bs 1 Int encI (s.b 1), .bs 1 Int encI (s.b 2), .bs 1 Int encI (s.b 3)]), .c (.int .i64 r), .c (.int .i64 x)] [] (Rt (.c (.bool true)) []) := fun r hr i hi => by
   have hm := List.getElem_mem hi
   refine ⟨_, List.getElem?_eq_getElem hi, ?_⟩
   generalize (hd r)[i] = x at hm
   rw [hhd, hFe] at hm
   dsimp only at hm
   rw [List.take_length, List.mem_filter, hHe] at hm
   have h2 : hasP ⟨s.o, s.b⟩ (r : Int) x = true := hm.2
   have := pH2 r x
   rwa [hHs r x hm.1, h2] at this
  have eW2 : ∀ r, r < 4 → ∀ i, i < (al r).length → ∃ id fs c, (al r)[i]? = some id ∧ Does Tryz.prog 15 [.c (.bp [.bp [.bs 6 Ob encOb L], .bs 1 Bool encBo (o2 0), .bs 1 Bool encBo (o2 1), .bs 1 Bool encBo (o2 2), .bs 1 Bool encBo (o2 3), .bs 1 Int encI (s.b 0), .bs 1 Int encI (s.b 1), .bs 1 Int encI (s.b 2), .bs 1 Int encI (s.b 3)]), .c (.int .i64 r), .c (.int .i64 id)] [] (Rt (.tup [(false, [.rw 0]), (false, [.int .i64 c])]) [.row 4 Fi encFi fs]) ∧ (wh r)[i]? = some fs ∧ (cd r)[i]? = some c := fun r hr i hi => by
   have hm := List.getElem_mem hi
   have := pW2 r (al r)[i]
   rw [hWs r hr _ hm] at this
   refine ⟨_, _, _, List.getElem?_eq_getElem hi, this, ?_, ?_⟩
   ·rw [hwh, hFwe]
    dsimp only
    rw [List.take_length, List.getElem?_map, List.getElem?_eq_getElem hi]; rfl
   ·rw [hcd, hFce]
    dsimp only
    rw [List.take_length, List.getElem?_map, List.getElem?_eq_getElem hi]; rfl
  obtain ⟨ow, how⟩ : ∃ ow : Nat → List Int, ow = fun (r : Nat) => listP o2 (r : Int) L.length := ⟨_, rfl⟩
  obtain ⟨kf, hkf⟩ : ∃ kf : Nat → Int → Nat → Bool, kf = kpR s.b nd := ⟨_, rfl⟩
  have eO : ∀ r, r < 4 → ∀ i, i < (ow r).length → ∃ x, (ow r)[i]? = some x ∧ kf r x 4 = true := fun r hr i hi => by
   have hm := List.getElem_mem hi
   refine ⟨_, List.getElem?_eq_getElem hi, ?_⟩
   generalize (ow r)[i] = x at hm
   rw [how] at hm
   rw [hkf]; exact hOw r hr x hm
  have eK : ∀ r x j, kf r x (j + 1) = (kf r x j || (decide ((r : Int) ∈ lendP s.b j) && decide (x ∈ nd j))) := fun r x j => by rw [hkf]; exact kpR_succ
  have eK0 : ∀ r x, kf r x 0 = false := fun r x => by rw [hkf]; rfl
  have pOr : ∀ r : Nat, Does Tryz.prog 21 [.c (.bp [.bp [.bs 6 Ob encOb L], .bs 1 Bool encBo (o2 0), .bs 1 Bool encBo (o2 1), .bs 1 Bool encBo (o2 2), .bs 1 Bool encBo (o2 3), .bs 1 Int encI (s.b 0), .bs 1 Int encI (s.b 1), .bs 1 Int encI (s.b 2), .bs 1 Int encI (s.b 3)]), .c (.int .i64 r)] [] (Rt (.c (.rw 0)) [.row 1 Int encI (ow r)]) := fun r => by rw [how]; exact pO2 r
  have pOr3 : ∀ r : Nat, r < 4 → Does Tryz.prog 21 [.c (.bp [.bp [.bs 6 Ob encOb L], .bs 1 Bool encBo (o3 0), .bs 1 Bool encBo (o3 1), .bs 1 Bool encBo (o3 2), .bs 1 Bool encBo (o3 3), .bs 1 Int encI (s.b 0), .bs 1 Int encI (s.b 1), .bs 1 Int encI (s.b 2), .bs 1 Int encI (s.b 3)]), .c (.int .i64 r)] [] (Rt (.c (.rw 0)) [.row 1 Int encI (ow r)]) := fun r hr => by
   have := pO3 r
   rw [hTw r hr] at this
   rw [how]; exact this
  have hOl : ∀ r, (ow r).length ≤ 600 := fun r => by rw [how]; exact Nat.le_trans list_len hL.len
  clear pH pW pH2 pW2 pO2 pO3 hOw hTw hHs hWs hFe hFwe hFce hHe how hkf
  (conv => whnf)
  refine lp (Nat × SW) (fun p => ⟨[(9, .c (.ptr 0 0)), (10, .c (.ptr 11 0)), (14, .c (.ptr 22 0)), (15, .c (.ptr 23 0)), (16, .c (.ptr 24 0)), (17, .c (.ptr 25 0)), (18, .c (.ptr 26 0)), (19, .c (.int .i64 p.1))], [.box [.ptr 1 0, .rw 3, .rw 4, .rw 5, .rw 6, .rw 7, .rw 8, .rw 9, .rw 10], .box [.rw 2], .row 6 Ob encOb L, .row 1 Bool encBo (s.o 0), .row 1 Bool encBo (s.o 1), .row 1 Bool encBo (s.o 2), .row 1 Bool encBo (s.o 3), .row 1 Int encI (s.b 0), .row 1 Int encI (s.b 1), .row 1 Int encI (s.b 2), .row 1 Int encI (s.b 3), .box [.ptr 12 0, .rw 14, .rw 15, .rw 16, .rw 17, .rw 18, .rw 19, .rw 20, .rw 21], .box [.rw 13], .row 6 Ob encOb L, .row 1 Int encI (s.w 0), .row 1 Int encI (s.w 1), .row 1 Int encI (s.w 2), .row 1 Int encI (s.w 3), .row 1 Int encI (s.b 0), .row 1 Int encI (s.b 1), .row 1 Int encI (s.b 2), .row 1 Int encI (s.b 3), .box [.ls 1 Int encI (al 0), .ls 1 Int encI (al 1), .ls 1 Int encI (al 2), .ls 1 Int encI (al 3)], .box [.ls 1 Int encI (nd 0), .ls 1 Int encI (nd 1), .ls 1 Int encI (nd 2), .ls 1 Int encI (nd 3)], .box [.rw 27, .rw 28, .rw 29, .rw 30], .box [.rw 31, .rw 32, .rw 33, .rw 34], .box [.rw 35, .rw 36, .rw 37, .rw 38], .row 1 Int encI (p.2.h 0), .row 1 Int encI (p.2.h 1), .row 1 Int encI (p.2.h 2), .row 1 Int encI (p.2.h 3), .row 1 (List Fi) (encL 4 encFi) (p.2.w 0), .row 1 (List Fi) (encL 4 encFi) (p.2.w 1), .row 1 (List Fi) (encL 4 encFi) (p.2.w 2), .row 1 (List Fi) (encL 4 encFi) (p.2.w 3), .row 1 Int encI (p.2.c 0), .row 1 Int encI (p.2.c 1), .row 1 Int encI (p.2.c 2), .row 1 Int encI (p.2.c 3)]⟩) (fun p => (p.1 ≤ 4 ∧ SAi hd wh cd p.1 p.2) ∧ True) (fun p => 4 - p.1) (0, ⟨fun _ => [], fun _ => [], fun _ => []⟩) [] [.same 0, .same 1, .same 2, .same 3, .same 4, .same 5, .same 6, .same 7, .same 8, .same 9, .same 10, .same 11, .same 12, .same 13, .same 14, .same 15, .same 16, .same 17, .same 18, .same 19, .same 20, .same 21, .same 24, .same 25, .same 26, .same 27, .same 28, .new, .new, .new, .new, .new, .new, .new, .new, .new, .new, .new, .new] ⟨⟨Nat.zero_le _, SAi.start⟩, trivial⟩ ?_ (fun ⟨r, g⟩ hr => ?_)
  ·repeat' first | exact trivial | exact rfl | refine And.intro ?_ ?_
  obtain ⟨⟨hr4, hG⟩, -⟩ := hr
  dsimp only at hr4 hG
  (conv => whnf)
  refine dec (fun h5 => ?_) (fun h5 => ?_)
  ·have hr : r < 4 := nat_lt h5
   have hQ : Qn r := trivial
   have hr1 : r + 1 ≤ 4 := hr
   have hG2 := hG.next
   have e1 := eH r
   have e2 := eW r
   have f1 : upd g.h r (F r 0) = g.h := by
    have : F r 0 = g.h r := by rw [(hG.here hr).1]; exact List.eq_nil_of_length_eq_zero (Nat.le_zero.1 (lH r 0))
    rw [this, upd_same]
   have f2 : upd g.w r (Fw r 0) = g.w := by
    have : Fw r 0 = g.w r := by rw [(hG.here hr).2.1]; exact List.eq_nil_of_length_eq_zero (Nat.le_zero.1 (lW r 0).1)
    rw [this, upd_same]
   have f3 : upd g.c r (Fc r 0) = g.c := by
    have : Fc r 0 = g.c r := by rw [(hG.here hr).2.2]; exact List.eq_nil_of_length_eq_zero (Nat.le_zero.1 (lW r 0).2)
    rw [this, upd_same]
   have u1 : ∀ i, (upd g.h r (F r i) r).length ≤ i := fun i => by rw [upd_at]; exact lH r i
   have u2 : ∀ i, (upd g.w r (Fw r i) r).length ≤ i := fun i => by rw [upd_at]; exact (lW r i).1
   have u3 : ∀ i, (upd g.c r (Fc r i) r).length ≤ i := fun i => by rw [upd_at]; exact (lW r i).2
   have v1 := hnl r
   have v2 := hal r hr
   have p1 := pHr r
   have x1 : F r (nd r).length = hd r := by rw [hhd]
   have x2 : Fw r (al r).length = wh r := by rw [hwh]
   have x3 : Fc r (al r).length = cd r := by rw [hcd]
   (conv => whnf)
   rcases four hr with rfl | rfl | rfl | rfl <;> (
    (conv => whnf)
    refine lpQ hQ Nat (fun q i => ⟨[(9, .c (.ptr 0 0)), (10, .c (.ptr 11 0)), (14, .c (.ptr 22 0)), (15, .c (.ptr 23 0)), (16, .c (.ptr 24 0)), (17, .c (.ptr 25 0)), (18, .c (.ptr 26 0)), (19, .c (.int .i64 q)), (20, .c (.int .i64 i))], [.box [.ptr 1 0, .rw 3, .rw 4, .rw 5, .rw 6, .rw 7, .rw 8, .rw 9, .rw 10], .box [.rw 2], .row 6 Ob encOb L, .row 1 Bool encBo (s.o 0), .row 1 Bool encBo (s.o 1), .row 1 Bool encBo (s.o 2), .row 1 Bool encBo (s.o 3), .row 1 Int encI (s.b 0), .row 1 Int encI (s.b 1), .row 1 Int encI (s.b 2), .row 1 Int encI (s.b 3), .box [.ptr 12 0, .rw 14, .rw 15, .rw 16, .rw 17, .rw 18, .rw 19, .rw 20, .rw 21], .box [.rw 13], .row 6 Ob encOb L, .row 1 Int encI (s.w 0), .row 1 Int encI (s.w 1), .row 1 Int encI (s.w 2), .row 1 Int encI (s.w 3), .row 1 Int encI (s.b 0), .row 1 Int encI (s.b 1), .row 1 Int encI (s.b 2), .row 1 Int encI (s.b 3), .box [.ls 1 Int encI (al 0), .ls 1 Int encI (al 1), .ls 1 Int encI (al 2), .ls 1 Int encI (al 3)], .box [.ls 1 Int encI (nd 0), .ls 1 Int encI (nd 1), .ls 1 Int encI (nd 2), .ls 1 Int encI (nd 3)], .box [.rw 27, .rw 28, .rw 29, .rw 30], .box [.rw 31, .rw 32, .rw 33, .rw 34], .box [.rw 35, .rw 36, .rw 37, .rw 38], .row 1 Int encI ((SW.mk (upd g.h q (F q i)) g.w g.c).h 0), .row 1 Int encI ((SW.mk (upd g.h q (F q i)) g.w g.c).h 1), .row 1 Int encI ((SW.mk (upd g.h q (F q i)) g.w g.c).h 2), .row 1 Int encI ((SW.mk (upd g.h q (F q i)) g.w g.c).h 3), .row 1 (List Fi) (encL 4 encFi) ((SW.mk (upd g.h q (F q i)) g.w g.c).w 0), .row 1 (List Fi) (encL 4 encFi) ((SW.mk (upd g.h q (F q i)) g.w g.c).w 1), .row 1 (List Fi) (encL 4 encFi) ((SW.mk (upd g.h q (F q i)) g.w g.c).w 2), .row 1 (List Fi) (encL 4 encFi) ((SW.mk (upd g.h q (F q i)) g.w g.c).w 3), .row 1 Int encI ((SW.mk (upd g.h q (F q i)) g.w g.c).c 0), .row 1 Int encI ((SW.mk (upd g.h q (F q i)) g.w g.c).c 1), .row 1 Int encI ((SW.mk (upd g.h q (F q i)) g.w g.c).c 2), .row 1 Int encI ((SW.mk (upd g.h q (F q i)) g.w g.c).c 3)]⟩) (fun q i => i ≤ (nd q).length ∧ True) (fun i => 600 - i) 0 [] [.same 0, .same 1, .same 2, .same 3, .same 4, .same 5, .same 6, .same 7, .same 8, .same 9, .same 10, .same 11, .same 12, .same 13, .same 14, .same 15, .same 16, .same 17, .same 18, .same 19, .same 20, .same 21, .same 22, .same 23, .same 24, .same 25, .same 26, .same 27, .same 28, .same 29, .same 30, .same 31, .same 32, .same 33, .same 34, .same 35, .same 36, .same 37, .same 38] ⟨Nat.zero_le _, trivial⟩ ?_ (fun i hi => ?_)
    ·rw [f1]
     repeat' first | exact trivial | exact rfl | refine And.intro ?_ ?_
    obtain ⟨hi, -⟩ := hi
    have u1 := u1 i
    (conv => whnf)
    refine ⟨_, ⟨rfl, by decide⟩, ?_⟩
    (conv => whnf)
    refine dec (fun h6 => ?_) (fun h6 => ?_)
    ·have hi' := nat_lt h6
     obtain ⟨x, hiy, hst⟩ := e1 i hi'
     (conv => whnf)
     refine ⟨_, ⟨rfl, by decide⟩, ?_⟩
     (conv => whnf)
     refine ⟨i, x, rfl, hiy, ?_⟩
     (conv => whnf)
     refine cl [] [] (p1 x) ?_
     (conv => whnf)
     refine boo (fun h7 => ?_) (fun h7 => ?_)
     ·rw [if_pos h7] at hst
      (conv => whnf)
      refine ⟨false, .grow, (.l [0, 1, 2, 3, 4, 5, 6, 7, 8, 9, 10, 11, 12, 13]), by kernel_rfl, .inl ?_⟩
      (conv => whnf)
      refine ⟨_, ⟨rfl, by decide⟩, ?_⟩
      (conv => whnf)
      refine ⟨_, ⟨rfl, by decide⟩, ?_⟩
      (conv => whnf)
      refine ⟨i, x, rfl, hiy, ?_⟩
      (conv => whnf)
      refine ⟨[x], rfl, ?_⟩
      (conv => whnf)
      refine ⟨_, _, rfl, rfl, (by simp only [List.length_append, List.length_cons, List.length_nil]; omega), ?_⟩
      (conv => whnf)
      refine ⟨_, ⟨rfl, by decide⟩, ?_⟩
      repeat' ((conv => whnf); refine I6 ?_)
      refine agQ hQ (i + 1) [] (fun q => rhoA q 40) ⟨hi', trivial⟩ (by simp only []; omega) ?_
      rw [hst]
      repeat' first | exact trivial | exact rfl | refine And.intro ?_ ?_
     ·rw [if_neg (by rw [h7]; decide), List.append_nil] at hst
      repeat' ((conv => whnf); refine I6 ?_)
      refine ag (i + 1) [] [.same 0, .same 1, .same 2, .same 3, .same 4, .same 5, .same 6, .same 7, .same 8, .same 9, .same 10, .same 11, .same 12, .same 13, .same 14, .same 15, .same 16, .same 17, .same 18, .same 19, .same 20, .same 21, .same 22, .same 23, .same 24, .same 25, .same 26, .same 27, .same 28, .same 29, .same 30, .same 31, .same 32, .same 33, .same 34, .same 35, .same 36, .same 37, .same 38] ⟨hi', trivial⟩ (by simp only []; omega) ?_
      rw [hst]
      repeat' first | exact trivial | exact rfl | refine And.intro ?_ ?_
    ·obtain rfl := nat_eq h6 hi
     rw [x1]
     (conv => whnf)
     refine lpQ hQ Nat (fun q i => ⟨[(9, .c (.ptr 0 0)), (10, .c (.ptr 11 0)), (14, .c (.ptr 22 0)), (15, .c (.ptr 23 0)), (16, .c (.ptr 24 0)), (17, .c (.ptr 25 0)), (18, .c (.ptr 26 0)), (19, .c (.int .i64 q)), (21, .c (.int .i64 i))], [.box [.ptr 1 0, .rw 3, .rw 4, .rw 5, .rw 6, .rw 7, .rw 8, .rw 9, .rw 10], .box [.rw 2], .row 6 Ob encOb L, .row 1 Bool encBo (s.o 0), .row 1 Bool encBo (s.o 1), .row 1 Bool encBo (s.o 2), .row 1 Bool encBo (s.o 3), .row 1 Int encI (s.b 0), .row 1 Int encI (s.b 1), .row 1 Int encI (s.b 2), .row 1 Int encI (s.b 3), .box [.ptr 12 0, .rw 14, .rw 15, .rw 16, .rw 17, .rw 18, .rw 19, .rw 20, .rw 21], .box [.rw 13], .row 6 Ob encOb L, .row 1 Int encI (s.w 0), .row 1 Int encI (s.w 1), .row 1 Int encI (s.w 2), .row 1 Int encI (s.w 3), .row 1 Int encI (s.b 0), .row 1 Int encI (s.b 1), .row 1 Int encI (s.b 2), .row 1 Int encI (s.b 3), .box [.ls 1 Int encI (al 0), .ls 1 Int encI (al 1), .ls 1 Int encI (al 2), .ls 1 Int encI (al 3)], .box [.ls 1 Int encI (nd 0), .ls 1 Int encI (nd 1), .ls 1 Int encI (nd 2), .ls 1 Int encI (nd 3)], .box [.rw 27, .rw 28, .rw 29, .rw 30], .box [.rw 31, .rw 32, .rw 33, .rw 34], .box [.rw 35, .rw 36, .rw 37, .rw 38], .row 1 Int encI ((SW.mk (upd g.h q (hd q)) (upd g.w q (Fw q i)) (upd g.c q (Fc q i))).h 0), .row 1 Int encI ((SW.mk (upd g.h q (hd q)) (upd g.w q (Fw q i)) (upd g.c q (Fc q i))).h 1), .row 1 Int encI ((SW.mk (upd g.h q (hd q)) (upd g.w q (Fw q i)) (upd g.c q (Fc q i))).h 2), .row 1 Int encI ((SW.mk (upd g.h q (hd q)) (upd g.w q (Fw q i)) (upd g.c q (Fc q i))).h 3), .row 1 (List Fi) (encL 4 encFi) ((SW.mk (upd g.h q (hd q)) (upd g.w q (Fw q i)) (upd g.c q (Fc q i))).w 0), .row 1 (List Fi) (encL 4 encFi) ((SW.mk (upd g.h q (hd q)) (upd g.w q (Fw q i)) (upd g.c q (Fc q i))).w 1), .row 1 (List Fi) (encL 4 encFi) ((SW.mk (upd g.h q (hd q)) (upd g.w q (Fw q i)) (upd g.c q (Fc q i))).w 2), .row 1 (List Fi) (encL 4 encFi) ((SW.mk (upd g.h q (hd q)) (upd g.w q (Fw q i)) (upd g.c q (Fc q i))).w 3), .row 1 Int encI ((SW.mk (upd g.h q (hd q)) (upd g.w q (Fw q i)) (upd g.c q (Fc q i))).c 0), .row 1 Int encI ((SW.mk (upd g.h q (hd q)) (upd g.w q (Fw q i)) (upd g.c q (Fc q i))).c 1), .row 1 Int encI ((SW.mk (upd g.h q (hd q)) (upd g.w q (Fw q i)) (upd g.c q (Fc q i))).c 2), .row 1 Int encI ((SW.mk (upd g.h q (hd q)) (upd g.w q (Fw q i)) (upd g.c q (Fc q i))).c 3)]⟩) (fun q i => i ≤ (al q).length ∧ True) (fun i => 600 - i) 0 [] [.same 0, .same 1, .same 2, .same 3, .same 4, .same 5, .same 6, .same 7, .same 8, .same 9, .same 10, .same 11, .same 12, .same 13, .same 14, .same 15, .same 16, .same 17, .same 18, .same 19, .same 20, .same 21, .same 22, .same 23, .same 24, .same 25, .same 26, .same 27, .same 28, .same 29, .same 30, .same 31, .same 32, .same 33, .same 34, .same 35, .same 36, .same 37, .same 38] ⟨Nat.zero_le _, trivial⟩ ?_ (fun i hi => ?_)
     ·rw [f2, f3]
      repeat' first | exact trivial | exact rfl | refine And.intro ?_ ?_
     obtain ⟨hi, -⟩ := hi
     have u2 := u2 i
     have u3 := u3 i
     (conv => whnf)
     refine ⟨_, ⟨rfl, by decide⟩, ?_⟩
     (conv => whnf)
     refine dec (fun h6 => ?_) (fun h6 => ?_)
     ·have hi' := nat_lt h6
      obtain ⟨id, fs, c, hiy, q6, hs2, hs3⟩ := e2 i hi'
      (conv => whnf)
      refine ⟨_, ⟨rfl, by decide⟩, ?_⟩
      (conv => whnf)
      refine ⟨i, id, rfl, hiy, ?_⟩
      (conv => whnf)
      refine cl [] [] (q6) ?_
      (conv => whnf)
      refine ⟨false, .prot [25, 26], (.alt [0, 1, 2, 3, 4, 5, 8, 9, 10, 11] [6, 12] fun j => bif Nat.beq j 6 then (.alt [] [7, 12] fun j => bif Nat.beq j 7 then (.l [14, 12, 13, 15, 16, 17]) else bif Nat.beq j 12 then (.l [7, 14, 13, 15, 16, 17]) else .l []) else bif Nat.beq j 12 then (.l [6, 7, 14, 13, 15, 16, 17]) else .l []), by kernel_rfl, .inl ?_⟩
      (conv => whnf)
      refine ⟨_, ⟨rfl, by decide⟩, ?_⟩
      (conv => whnf)
      refine ⟨_, ⟨rfl, by decide⟩, ?_⟩
      (conv => whnf)
      refine And.intro ?_ ?_
      ·(conv => whnf)
       refine ⟨[fs], rfl, ?_⟩
       (conv => whnf)
       refine And.intro ?_ ?_
       ·(conv => whnf)
        refine ⟨_, _, rfl, rfl, (by simp only [List.length_append, List.length_cons, List.length_nil]; omega), ?_⟩
        (conv => whnf)
        refine ⟨_, ⟨rfl, by decide⟩, ?_⟩
        (conv => whnf)
        refine ⟨[c], rfl, ?_⟩
        (conv => whnf)
        refine ⟨_, _, rfl, rfl, (by simp only [List.length_append, List.length_cons, List.length_nil]; omega), ?_⟩
        (conv => whnf)
        refine ⟨_, ⟨rfl, by decide⟩, ?_⟩
        repeat' ((conv => whnf); refine I6 ?_)
        refine agQ hQ (i + 1) [] (fun q => rhoB q 41 43) ⟨hi', trivial⟩ (by simp only []; omega) ?_
        rw [hs2, hs3]
        repeat' first | exact trivial | exact rfl | refine And.intro ?_ ?_
       ·(conv => whnf)
        refine ⟨[c], rfl, ?_⟩
        (conv => whnf)
        refine ⟨_, _, rfl, rfl, (by simp only [List.length_append, List.length_cons, List.length_nil]; omega), ?_⟩
        (conv => whnf)
        refine ⟨_, ⟨rfl, by decide⟩, ?_⟩
        (conv => whnf)
        refine ⟨_, _, rfl, rfl, (by simp only [List.length_append, List.length_cons, List.length_nil]; omega), ?_⟩
        (conv => whnf)
        refine ⟨_, ⟨rfl, by decide⟩, ?_⟩
        repeat' ((conv => whnf); refine I6 ?_)
        refine agQ hQ (i + 1) [] (fun q => rhoB q 42 43) ⟨hi', trivial⟩ (by simp only []; omega) ?_
        rw [hs2, hs3]
        repeat' first | exact trivial | exact rfl | refine And.intro ?_ ?_
      ·(conv => whnf)
       refine ⟨[c], rfl, ?_⟩
       (conv => whnf)
       refine ⟨[fs], rfl, ?_⟩
       (conv => whnf)
       refine ⟨_, _, rfl, rfl, (by simp only [List.length_append, List.length_cons, List.length_nil]; omega), ?_⟩
       (conv => whnf)
       refine ⟨_, ⟨rfl, by decide⟩, ?_⟩
       (conv => whnf)
       refine ⟨_, _, rfl, rfl, (by simp only [List.length_append, List.length_cons, List.length_nil]; omega), ?_⟩
       (conv => whnf)
       refine ⟨_, ⟨rfl, by decide⟩, ?_⟩
       repeat' ((conv => whnf); refine I6 ?_)
       refine agQ hQ (i + 1) [] (fun q => rhoB q 42 43) ⟨hi', trivial⟩ (by simp only []; omega) ?_
       rw [hs2, hs3]
       repeat' first | exact trivial | exact rfl | refine And.intro ?_ ?_
     ·obtain rfl := nat_eq h6 hi
      rw [x2, x3]
      repeat' ((conv => whnf); refine I6 ?_)
      refine ag (_ + 1, _) [] [.same 0, .same 1, .same 2, .same 3, .same 4, .same 5, .same 6, .same 7, .same 8, .same 9, .same 10, .same 11, .same 12, .same 13, .same 14, .same 15, .same 16, .same 17, .same 18, .same 19, .same 20, .same 21, .same 22, .same 23, .same 24, .same 25, .same 26, .same 27, .same 28, .same 29, .same 30, .same 31, .same 32, .same 33, .same 34, .same 35, .same 36, .same 37, .same 38] ⟨⟨hr1, hG2⟩, trivial⟩ (by simp only []; omega) ?_
      repeat' first | exact trivial | exact rfl | refine And.intro ?_ ?_)
  ·obtain rfl : r = 4 := nat_eq h5 hr4
   have a1 := fun j hj => (hG.h j hj).trans (if_pos hj)
   have a2 := fun j hj => (hG.w j hj).trans (if_pos hj)
   have a3 := fun j hj => (hG.c j hj).trans (if_pos hj)
   (conv => whnf)
   refine clE [] [0, 1, 2, 3, 4, 5, 6, 7, 8, 9, 10] [.box [.ptr 1 0, .rw 3, .rw 4, .rw 5, .rw 6, .rw 7, .rw 8, .rw 9, .rw 10], .box [.rw 2], .row 6 Ob encOb L, .row 1 Bool encBo (o2 0), .row 1 Bool encBo (o2 1), .row 1 Bool encBo (o2 2), .row 1 Bool encBo (o2 3), .row 1 Int encI (s.b 0), .row 1 Int encI (s.b 1), .row 1 Int encI (s.b 2), .row 1 Int encI (s.b 3), .box [.ptr 12 0, .rw 14, .rw 15, .rw 16, .rw 17, .rw 18, .rw 19, .rw 20, .rw 21], .box [.rw 13], .row 6 Ob encOb L, .row 1 Int encI (s.w 0), .row 1 Int encI (s.w 1), .row 1 Int encI (s.w 2), .row 1 Int encI (s.w 3), .row 1 Int encI (s.b 0), .row 1 Int encI (s.b 1), .row 1 Int encI (s.b 2), .row 1 Int encI (s.b 3), .box [.ls 1 Int encI (al 0), .ls 1 Int encI (al 1), .ls 1 Int encI (al 2), .ls 1 Int encI (al 3)], .box [.ls 1 Int encI (nd 0), .ls 1 Int encI (nd 1), .ls 1 Int encI (nd 2), .ls 1 Int encI (nd 3)], .box [.rw 27, .rw 28, .rw 29, .rw 30], .box [.rw 31, .rw 32, .rw 33, .rw 34], .box [.rw 35, .rw 36, .rw 37, .rw 38], .row 1 Int encI (g.h 0), .row 1 Int encI (g.h 1), .row 1 Int encI (g.h 2), .row 1 Int encI (g.h 3), .row 1 (List Fi) (encL 4 encFi) (g.w 0), .row 1 (List Fi) (encL 4 encFi) (g.w 1), .row 1 (List Fi) (encL 4 encFi) (g.w 2), .row 1 (List Fi) (encL 4 encFi) (g.w 3), .row 1 Int encI (g.c 0), .row 1 Int encI (g.c 1), .row 1 Int encI (g.c 2), .row 1 Int encI (g.c 3)] (.tup []) q4 (by kernel_rfl) (by kernel_rfl) ?_ (by (repeat' first | exact trivial | exact rfl | refine And.intro ?_ ?_); first | done | fail) rfl
   (conv => whnf)
   refine lp Nat (fun r => ⟨[(9, .c (.ptr 0 0)), (10, .c (.ptr 11 0)), (14, .c (.ptr 22 0)), (15, .c (.ptr 23 0)), (16, .c (.ptr 24 0)), (17, .c (.ptr 25 0)), (18, .c (.ptr 26 0)), (24, .c (.int .i64 r))], [.box [.ptr 1 0, .rw 3, .rw 4, .rw 5, .rw 6, .rw 7, .rw 8, .rw 9, .rw 10], .box [.rw 2], .row 6 Ob encOb L, .row 1 Bool encBo (o2 0), .row 1 Bool encBo (o2 1), .row 1 Bool encBo (o2 2), .row 1 Bool encBo (o2 3), .row 1 Int encI (s.b 0), .row 1 Int encI (s.b 1), .row 1 Int encI (s.b 2), .row 1 Int encI (s.b 3), .box [.ptr 12 0, .rw 14, .rw 15, .rw 16, .rw 17, .rw 18, .rw 19, .rw 20, .rw 21], .box [.rw 13], .row 6 Ob encOb L, .row 1 Int encI (s.w 0), .row 1 Int encI (s.w 1), .row 1 Int encI (s.w 2), .row 1 Int encI (s.w 3), .row 1 Int encI (s.b 0), .row 1 Int encI (s.b 1), .row 1 Int encI (s.b 2), .row 1 Int encI (s.b 3), .box [.ls 1 Int encI (al 0), .ls 1 Int encI (al 1), .ls 1 Int encI (al 2), .ls 1 Int encI (al 3)], .box [.ls 1 Int encI (nd 0), .ls 1 Int encI (nd 1), .ls 1 Int encI (nd 2), .ls 1 Int encI (nd 3)], .box [.rw 27, .rw 28, .rw 29, .rw 30], .box [.rw 31, .rw 32, .rw 33, .rw 34], .box [.rw 35, .rw 36, .rw 37, .rw 38], .row 1 Int encI (g.h 0), .row 1 Int encI (g.h 1), .row 1 Int encI (g.h 2), .row 1 Int encI (g.h 3), .row 1 (List Fi) (encL 4 encFi) (g.w 0), .row 1 (List Fi) (encL 4 encFi) (g.w 1), .row 1 (List Fi) (encL 4 encFi) (g.w 2), .row 1 (List Fi) (encL 4 encFi) (g.w 3), .row 1 Int encI (g.c 0), .row 1 Int encI (g.c 1), .row 1 Int encI (g.c 2), .row 1 Int encI (g.c 3)]⟩) (fun r => r ≤ 4 ∧ True) (fun r => 4 - r) 0 [] [.same 0, .same 1, .same 2, .same 3, .same 4, .same 5, .same 6, .same 7, .same 8, .same 9, .same 10, .same 11, .same 12, .same 13, .same 14, .same 15, .same 16, .same 17, .same 18, .same 19, .same 20, .same 21, .same 22, .same 23, .same 24, .same 25, .same 26, .same 27, .same 28, .same 29, .same 30, .same 31, .same 32, .same 33, .same 34, .same 35, .same 36, .same 37, .same 38] ⟨Nat.zero_le _, trivial⟩ ?_ (fun r hr => ?_)
   ·repeat' first | exact trivial | exact rfl | refine And.intro ?_ ?_
   obtain ⟨hr4, -⟩ := hr
   (conv => whnf)
   refine dec (fun h6 => ?_) (fun h6 => ?_)
   ·have hr : r < 4 := nat_lt h6
    have hQ : Qn r := trivial
    have hr1 : r + 1 ≤ 4 := hr
    have e1 := eH2 r hr
    have e2 := eW2 r hr
    have v3 : (hd r).length ≤ 600 := by rw [hhd]; exact Nat.le_trans (lH r _) (hnl r)
    rw [← a1 r hr] at e1 v3
    rw [← a2 r hr, ← a3 r hr] at e2
    have e3 := eO r hr
    have e4 := eK r
    have e5 := eK0 r
    have p1 := pOr r
    have p2 := pL (r : Int)
    have v1 := hal r hr
    have v4 : (ow r).length ≤ 600 := hOl r
    (conv => whnf)
    rcases four hr with rfl | rfl | rfl | rfl <;> (
     (conv => whnf)
     refine lpQ hQ Nat (fun q i => ⟨[(9, .c (.ptr 0 0)), (10, .c (.ptr 11 0)), (14, .c (.ptr 22 0)), (15, .c (.ptr 23 0)), (16, .c (.ptr 24 0)), (17, .c (.ptr 25 0)), (18, .c (.ptr 26 0)), (24, .c (.int .i64 q)), (25, .c (.int .i64 i))], [.box [.ptr 1 0, .rw 3, .rw 4, .rw 5, .rw 6, .rw 7, .rw 8, .rw 9, .rw 10], .box [.rw 2], .row 6 Ob encOb L, .row 1 Bool encBo (o2 0), .row 1 Bool encBo (o2 1), .row 1 Bool encBo (o2 2), .row 1 Bool encBo (o2 3), .row 1 Int encI (s.b 0), .row 1 Int encI (s.b 1), .row 1 Int encI (s.b 2), .row 1 Int encI (s.b 3), .box [.ptr 12 0, .rw 14, .rw 15, .rw 16, .rw 17, .rw 18, .rw 19, .rw 20, .rw 21], .box [.rw 13], .row 6 Ob encOb L, .row 1 Int encI (s.w 0), .row 1 Int encI (s.w 1), .row 1 Int encI (s.w 2), .row 1 Int encI (s.w 3), .row 1 Int encI (s.b 0), .row 1 Int encI (s.b 1), .row 1 Int encI (s.b 2), .row 1 Int encI (s.b 3), .box [.ls 1 Int encI (al 0), .ls 1 Int encI (al 1), .ls 1 Int encI (al 2), .ls 1 Int encI (al 3)], .box [.ls 1 Int encI (nd 0), .ls 1 Int encI (nd 1), .ls 1 Int encI (nd 2), .ls 1 Int encI (nd 3)], .box [.rw 27, .rw 28, .rw 29, .rw 30], .box [.rw 31, .rw 32, .rw 33, .rw 34], .box [.rw 35, .rw 36, .rw 37, .rw 38], .row 1 Int encI (g.h 0), .row 1 Int encI (g.h 1), .row 1 Int encI (g.h 2), .row 1 Int encI (g.h 3), .row 1 (List Fi) (encL 4 encFi) (g.w 0), .row 1 (List Fi) (encL 4 encFi) (g.w 1), .row 1 (List Fi) (encL 4 encFi) (g.w 2), .row 1 (List Fi) (encL 4 encFi) (g.w 3), .row 1 Int encI (g.c 0), .row 1 Int encI (g.c 1), .row 1 Int encI (g.c 2), .row 1 Int encI (g.c 3)]⟩) (fun q i => i ≤ (g.h q).length ∧ True) (fun i => 600 - i) 0 [] [.same 0, .same 1, .same 2, .same 3, .same 4, .same 5, .same 6, .same 7, .same 8, .same 9, .same 10, .same 11, .same 12, .same 13, .same 14, .same 15, .same 16, .same 17, .same 18, .same 19, .same 20, .same 21, .same 22, .same 23, .same 24, .same 25, .same 26, .same 27, .same 28, .same 29, .same 30, .same 31, .same 32, .same 33, .same 34, .same 35, .same 36, .same 37, .same 38] ⟨Nat.zero_le _, trivial⟩ ?_ (fun i hi => ?_)
     ·repeat' first | exact trivial | exact rfl | refine And.intro ?_ ?_
     obtain ⟨hi, -⟩ := hi
     (conv => whnf)
     refine ⟨_, ⟨rfl, by decide⟩, ?_⟩
     (conv => whnf)
     refine dec (fun h7 => ?_) (fun h7 => ?_)
     ·have hi' := nat_lt h7
      obtain ⟨x, hiy, q6⟩ := e1 i hi'
      (conv => whnf)
      refine ⟨_, ⟨rfl, by decide⟩, ?_⟩
      (conv => whnf)
      refine ⟨i, ⟨rfl, hi'⟩, ?_⟩
      (conv => whnf)
      refine ⟨x, hiy, ?_⟩
      (conv => whnf)
      refine cl [] [] (q6) ?_
      repeat' ((conv => whnf); refine I6 ?_)
      refine ag (i + 1) [] [.same 0, .same 1, .same 2, .same 3, .same 4, .same 5, .same 6, .same 7, .same 8, .same 9, .same 10, .same 11, .same 12, .same 13, .same 14, .same 15, .same 16, .same 17, .same 18, .same 19, .same 20, .same 21, .same 22, .same 23, .same 24, .same 25, .same 26, .same 27, .same 28, .same 29, .same 30, .same 31, .same 32, .same 33, .same 34, .same 35, .same 36, .same 37, .same 38] ⟨hi', trivial⟩ (by simp only []; omega) ?_
      repeat' first | exact trivial | exact rfl | refine And.intro ?_ ?_
     ·(conv => whnf)
      refine lpQ hQ Nat (fun q i => ⟨[(9, .c (.ptr 0 0)), (10, .c (.ptr 11 0)), (14, .c (.ptr 22 0)), (15, .c (.ptr 23 0)), (16, .c (.ptr 24 0)), (17, .c (.ptr 25 0)), (18, .c (.ptr 26 0)), (24, .c (.int .i64 q)), (26, .c (.int .i64 i))], [.box [.ptr 1 0, .rw 3, .rw 4, .rw 5, .rw 6, .rw 7, .rw 8, .rw 9, .rw 10], .box [.rw 2], .row 6 Ob encOb L, .row 1 Bool encBo (o2 0), .row 1 Bool encBo (o2 1), .row 1 Bool encBo (o2 2), .row 1 Bool encBo (o2 3), .row 1 Int encI (s.b 0), .row 1 Int encI (s.b 1), .row 1 Int encI (s.b 2), .row 1 Int encI (s.b 3), .box [.ptr 12 0, .rw 14, .rw 15, .rw 16, .rw 17, .rw 18, .rw 19, .rw 20, .rw 21], .box [.rw 13], .row 6 Ob encOb L, .row 1 Int encI (s.w 0), .row 1 Int encI (s.w 1), .row 1 Int encI (s.w 2), .row 1 Int encI (s.w 3), .row 1 Int encI (s.b 0), .row 1 Int encI (s.b 1), .row 1 Int encI (s.b 2), .row 1 Int encI (s.b 3), .box [.ls 1 Int encI (al 0), .ls 1 Int encI (al 1), .ls 1 Int encI (al 2), .ls 1 Int encI (al 3)], .box [.ls 1 Int encI (nd 0), .ls 1 Int encI (nd 1), .ls 1 Int encI (nd 2), .ls 1 Int encI (nd 3)], .box [.rw 27, .rw 28, .rw 29, .rw 30], .box [.rw 31, .rw 32, .rw 33, .rw 34], .box [.rw 35, .rw 36, .rw 37, .rw 38], .row 1 Int encI (g.h 0), .row 1 Int encI (g.h 1), .row 1 Int encI (g.h 2), .row 1 Int encI (g.h 3), .row 1 (List Fi) (encL 4 encFi) (g.w 0), .row 1 (List Fi) (encL 4 encFi) (g.w 1), .row 1 (List Fi) (encL 4 encFi) (g.w 2), .row 1 (List Fi) (encL 4 encFi) (g.w 3), .row 1 Int encI (g.c 0), .row 1 Int encI (g.c 1), .row 1 Int encI (g.c 2), .row 1 Int encI (g.c 3)]⟩) (fun q i => i ≤ (al q).length ∧ True) (fun i => 600 - i) 0 [] [.same 0, .same 1, .same 2, .same 3, .same 4, .same 5, .same 6, .same 7, .same 8, .same 9, .same 10, .same 11, .same 12, .same 13, .same 14, .same 15, .same 16, .same 17, .same 18, .same 19, .same 20, .same 21, .same 22, .same 23, .same 24, .same 25, .same 26, .same 27, .same 28, .same 29, .same 30, .same 31, .same 32, .same 33, .same 34, .same 35, .same 36, .same 37, .same 38] ⟨Nat.zero_le _, trivial⟩ ?_ (fun i hi => ?_)
      ·repeat' first | exact trivial | exact rfl | refine And.intro ?_ ?_
      obtain ⟨hi, -⟩ := hi
      (conv => whnf)
      refine ⟨_, ⟨rfl, by decide⟩, ?_⟩
      (conv => whnf)
      refine dec (fun h8 => ?_) (fun h8 => ?_)
      ·have hi' := nat_lt h8
       obtain ⟨id, fs, c, hiy, q6, hiw, hic⟩ := e2 i hi'
       have q7 := sameFiles_spec fs fs
       rw [show decide (fs = fs) = true from decide_eq_true rfl] at q7
       (conv => whnf)
       refine ⟨_, ⟨rfl, by decide⟩, ?_⟩
       (conv => whnf)
       refine ⟨i, id, rfl, hiy, ?_⟩
       (conv => whnf)
       refine cl [] [] (q6) ?_
       (conv => whnf)
       refine ⟨_, ⟨rfl, by decide⟩, ?_⟩
       (conv => whnf)
       refine ⟨i, ⟨rfl, (List.getElem?_eq_some_iff.1 hic).1⟩, ?_⟩
       (conv => whnf)
       refine ⟨c, hic, ?_⟩
       (conv => whnf)
       refine decN (fun h => absurd rfl h) (fun _ => ?_)
       (conv => whnf)
       refine ⟨_, ⟨rfl, by decide⟩, ?_⟩
       (conv => whnf)
       refine ⟨i, ⟨rfl, (List.getElem?_eq_some_iff.1 hiw).1⟩, ?_⟩
       (conv => whnf)
       refine ⟨fs, hiw, ?_⟩
       (conv => whnf)
       refine cl [] [] (q7) ?_
       repeat' ((conv => whnf); refine I6 ?_)
       refine ag (i + 1) [] [.same 0, .same 1, .same 2, .same 3, .same 4, .same 5, .same 6, .same 7, .same 8, .same 9, .same 10, .same 11, .same 12, .same 13, .same 14, .same 15, .same 16, .same 17, .same 18, .same 19, .same 20, .same 21, .same 22, .same 23, .same 24, .same 25, .same 26, .same 27, .same 28, .same 29, .same 30, .same 31, .same 32, .same 33, .same 34, .same 35, .same 36, .same 37, .same 38] ⟨hi', trivial⟩ (by simp only []; omega) ?_
       repeat' first | exact trivial | exact rfl | refine And.intro ?_ ?_
      ·(conv => whnf)
       refine cl [] [] (p1) ?_
       (conv => whnf)
       refine lpQ hQ Nat (fun q i => ⟨[(9, .c (.ptr 0 0)), (10, .c (.ptr 11 0)), (14, .c (.ptr 22 0)), (15, .c (.ptr 23 0)), (16, .c (.ptr 24 0)), (17, .c (.ptr 25 0)), (18, .c (.ptr 26 0)), (24, .c (.int .i64 q)), (29, .c (.rw 39)), (30, .c (.int .i64 i))], [.box [.ptr 1 0, .rw 3, .rw 4, .rw 5, .rw 6, .rw 7, .rw 8, .rw 9, .rw 10], .box [.rw 2], .row 6 Ob encOb L, .row 1 Bool encBo (o2 0), .row 1 Bool encBo (o2 1), .row 1 Bool encBo (o2 2), .row 1 Bool encBo (o2 3), .row 1 Int encI (s.b 0), .row 1 Int encI (s.b 1), .row 1 Int encI (s.b 2), .row 1 Int encI (s.b 3), .box [.ptr 12 0, .rw 14, .rw 15, .rw 16, .rw 17, .rw 18, .rw 19, .rw 20, .rw 21], .box [.rw 13], .row 6 Ob encOb L, .row 1 Int encI (s.w 0), .row 1 Int encI (s.w 1), .row 1 Int encI (s.w 2), .row 1 Int encI (s.w 3), .row 1 Int encI (s.b 0), .row 1 Int encI (s.b 1), .row 1 Int encI (s.b 2), .row 1 Int encI (s.b 3), .box [.ls 1 Int encI (al 0), .ls 1 Int encI (al 1), .ls 1 Int encI (al 2), .ls 1 Int encI (al 3)], .box [.ls 1 Int encI (nd 0), .ls 1 Int encI (nd 1), .ls 1 Int encI (nd 2), .ls 1 Int encI (nd 3)], .box [.rw 27, .rw 28, .rw 29, .rw 30], .box [.rw 31, .rw 32, .rw 33, .rw 34], .box [.rw 35, .rw 36, .rw 37, .rw 38], .row 1 Int encI (g.h 0), .row 1 Int encI (g.h 1), .row 1 Int encI (g.h 2), .row 1 Int encI (g.h 3), .row 1 (List Fi) (encL 4 encFi) (g.w 0), .row 1 (List Fi) (encL 4 encFi) (g.w 1), .row 1 (List Fi) (encL 4 encFi) (g.w 2), .row 1 (List Fi) (encL 4 encFi) (g.w 3), .row 1 Int encI (g.c 0), .row 1 Int encI (g.c 1), .row 1 Int encI (g.c 2), .row 1 Int encI (g.c 3)] ++ [.row 1 Int encI (ow q)]⟩) (fun q i => i ≤ (ow q).length ∧ True) (fun i => 600 - i) 0 [] [.same 0, .same 1, .same 2, .same 3, .same 4, .same 5, .same 6, .same 7, .same 8, .same 9, .same 10, .same 11, .same 12, .same 13, .same 14, .same 15, .same 16, .same 17, .same 18, .same 19, .same 20, .same 21, .same 22, .same 23, .same 24, .same 25, .same 26, .same 27, .same 28, .same 29, .same 30, .same 31, .same 32, .same 33, .same 34, .same 35, .same 36, .same 37, .same 38, .same 39] ⟨Nat.zero_le _, trivial⟩ ?_ (fun i hi => ?_)
       ·repeat' first | exact trivial | exact rfl | refine And.intro ?_ ?_
       obtain ⟨hi, -⟩ := hi
       (conv => whnf)
       refine dec (fun h9 => ?_) (fun h9 => ?_)
       ·have hi' := nat_lt h9
        obtain ⟨x, hiy, hx4⟩ := e3 i hi'
        have e4 := e4 x
        have e5 := e5 x
        (conv => whnf)
        refine lpQ hQ Nat (fun q j => ⟨[(9, .c (.ptr 0 0)), (10, .c (.ptr 11 0)), (14, .c (.ptr 22 0)), (15, .c (.ptr 23 0)), (16, .c (.ptr 24 0)), (17, .c (.ptr 25 0)), (18, .c (.ptr 26 0)), (24, .c (.int .i64 q)), (29, .c (.rw 39)), (30, .c (.int .i64 i)), (31, .c (.bool (kf q x j))), (32, .c (.int .i64 j))], [.box [.ptr 1 0, .rw 3, .rw 4, .rw 5, .rw 6, .rw 7, .rw 8, .rw 9, .rw 10], .box [.rw 2], .row 6 Ob encOb L, .row 1 Bool encBo (o2 0), .row 1 Bool encBo (o2 1), .row 1 Bool encBo (o2 2), .row 1 Bool encBo (o2 3), .row 1 Int encI (s.b 0), .row 1 Int encI (s.b 1), .row 1 Int encI (s.b 2), .row 1 Int encI (s.b 3), .box [.ptr 12 0, .rw 14, .rw 15, .rw 16, .rw 17, .rw 18, .rw 19, .rw 20, .rw 21], .box [.rw 13], .row 6 Ob encOb L, .row 1 Int encI (s.w 0), .row 1 Int encI (s.w 1), .row 1 Int encI (s.w 2), .row 1 Int encI (s.w 3), .row 1 Int encI (s.b 0), .row 1 Int encI (s.b 1), .row 1 Int encI (s.b 2), .row 1 Int encI (s.b 3), .box [.ls 1 Int encI (al 0), .ls 1 Int encI (al 1), .ls 1 Int encI (al 2), .ls 1 Int encI (al 3)], .box [.ls 1 Int encI (nd 0), .ls 1 Int encI (nd 1), .ls 1 Int encI (nd 2), .ls 1 Int encI (nd 3)], .box [.rw 27, .rw 28, .rw 29, .rw 30], .box [.rw 31, .rw 32, .rw 33, .rw 34], .box [.rw 35, .rw 36, .rw 37, .rw 38], .row 1 Int encI (g.h 0), .row 1 Int encI (g.h 1), .row 1 Int encI (g.h 2), .row 1 Int encI (g.h 3), .row 1 (List Fi) (encL 4 encFi) (g.w 0), .row 1 (List Fi) (encL 4 encFi) (g.w 1), .row 1 (List Fi) (encL 4 encFi) (g.w 2), .row 1 (List Fi) (encL 4 encFi) (g.w 3), .row 1 Int encI (g.c 0), .row 1 Int encI (g.c 1), .row 1 Int encI (g.c 2), .row 1 Int encI (g.c 3)] ++ [.row 1 Int encI (ow q)]⟩) (fun q j => j ≤ 4 ∧ True) (fun j => 4 - j) 0 [] [.same 0, .same 1, .same 2, .same 3, .same 4, .same 5, .same 6, .same 7, .same 8, .same 9, .same 10, .same 11, .same 12, .same 13, .same 14, .same 15, .same 16, .same 17, .same 18, .same 19, .same 20, .same 21, .same 22, .same 23, .same 24, .same 25, .same 26, .same 27, .same 28, .same 29, .same 30, .same 31, .same 32, .same 33, .same 34, .same 35, .same 36, .same 37, .same 38, .same 39] ⟨Nat.zero_le _, trivial⟩ ?_ (fun j hj => ?_)
        ·rw [e5]
         repeat' first | exact trivial | exact rfl | refine And.intro ?_ ?_
        obtain ⟨hj4, -⟩ := hj
        (conv => whnf)
        refine dec (fun h10 => ?_) (fun h10 => ?_)
        ·have hj : j < 4 := nat_lt h10
         have e4 := e4 j
         have p2 := p2 j hj
         have p3 := in_spec (nd j) x
         (conv => whnf)
         refine ⟨false, .grow, (.l [0, 1, 2, 3, 4, 5, 6, 7, 8, 9, 10, 11, 12, 13, 14, 15, 16, 17]), by kernel_rfl, .inl ?_⟩
         (conv => whnf)
         refine boo (fun h11 => ?_) (fun h11 => ?_)
         ·rw [h11, Bool.true_or] at e4
          repeat' ((conv => whnf); refine I6 ?_)
          refine ag (j + 1) [] [.same 0, .same 1, .same 2, .same 3, .same 4, .same 5, .same 6, .same 7, .same 8, .same 9, .same 10, .same 11, .same 12, .same 13, .same 14, .same 15, .same 16, .same 17, .same 18, .same 19, .same 20, .same 21, .same 22, .same 23, .same 24, .same 25, .same 26, .same 27, .same 28, .same 29, .same 30, .same 31, .same 32, .same 33, .same 34, .same 35, .same 36, .same 37, .same 38, .same 39] ⟨hj, trivial⟩ (by simp only []; omega) ?_
          rw [e4]
          repeat' first | exact trivial | exact rfl | refine And.intro ?_ ?_
         ·rw [h11, Bool.false_or] at e4
          (conv => whnf)
          refine cl [] [] (p2) ?_
          (conv => whnf)
          refine boo (fun h12 => ?_) (fun h12 => ?_)
          ·rw [h12, Bool.true_and] at e4
           (conv => whnf)
           rcases four hj with rfl | rfl | rfl | rfl <;> (
            (conv => whnf)
            refine ⟨_, ⟨rfl, by decide⟩, ?_⟩
            (conv => whnf)
            refine ⟨i, ⟨rfl, hi'⟩, ?_⟩
            (conv => whnf)
            refine ⟨x, hiy, ?_⟩
            (conv => whnf)
            refine cl [] [] (p3) ?_
            repeat' ((conv => whnf); refine I6 ?_)
            refine ag _ [] [.same 0, .same 1, .same 2, .same 3, .same 4, .same 5, .same 6, .same 7, .same 8, .same 9, .same 10, .same 11, .same 12, .same 13, .same 14, .same 15, .same 16, .same 17, .same 18, .same 19, .same 20, .same 21, .same 22, .same 23, .same 24, .same 25, .same 26, .same 27, .same 28, .same 29, .same 30, .same 31, .same 32, .same 33, .same 34, .same 35, .same 36, .same 37, .same 38, .same 39] ⟨hj, trivial⟩ (by simp only []; omega) ?_
            rw [e4]
            repeat' first | exact trivial | exact rfl | refine And.intro ?_ ?_)
          ·rw [h12, Bool.false_and] at e4
           repeat' ((conv => whnf); refine I6 ?_)
           refine ag (j + 1) [] [.same 0, .same 1, .same 2, .same 3, .same 4, .same 5, .same 6, .same 7, .same 8, .same 9, .same 10, .same 11, .same 12, .same 13, .same 14, .same 15, .same 16, .same 17, .same 18, .same 19, .same 20, .same 21, .same 22, .same 23, .same 24, .same 25, .same 26, .same 27, .same 28, .same 29, .same 30, .same 31, .same 32, .same 33, .same 34, .same 35, .same 36, .same 37, .same 38, .same 39] ⟨hj, trivial⟩ (by simp only []; omega) ?_
           rw [e4]
           repeat' first | exact trivial | exact rfl | refine And.intro ?_ ?_
        ·obtain rfl : j = 4 := nat_eq h10 hj4
         rw [hx4]
         repeat' ((conv => whnf); refine I6 ?_)
         refine ag (i + 1) [] [.same 0, .same 1, .same 2, .same 3, .same 4, .same 5, .same 6, .same 7, .same 8, .same 9, .same 10, .same 11, .same 12, .same 13, .same 14, .same 15, .same 16, .same 17, .same 18, .same 19, .same 20, .same 21, .same 22, .same 23, .same 24, .same 25, .same 26, .same 27, .same 28, .same 29, .same 30, .same 31, .same 32, .same 33, .same 34, .same 35, .same 36, .same 37, .same 38, .same 39] ⟨hi', trivial⟩ (by simp only []; omega) ?_
         repeat' first | exact trivial | exact rfl | refine And.intro ?_ ?_
       ·repeat' ((conv => whnf); refine I6 ?_)
        refine ag (_ + 1) [] [.same 0, .same 1, .same 2, .same 3, .same 4, .same 5, .same 6, .same 7, .same 8, .same 9, .same 10, .same 11, .same 12, .same 13, .same 14, .same 15, .same 16, .same 17, .same 18, .same 19, .same 20, .same 21, .same 22, .same 23, .same 24, .same 25, .same 26, .same 27, .same 28, .same 29, .same 30, .same 31, .same 32, .same 33, .same 34, .same 35, .same 36, .same 37, .same 38] ⟨hr1, trivial⟩ (by simp only []; omega) ?_
        repeat' first | exact trivial | exact rfl | refine And.intro ?_ ?_)
   ·(conv => whnf)
    refine lp (Nat × (Nat → List Int)) (fun p => ⟨[(9, .c (.ptr 0 0)), (14, .c (.ptr 22 0)), (33, .c (.ptr 23 0)), (34, .c (.int .i64 p.1))], [.box [.ptr 1 0, .rw 3, .rw 4, .rw 5, .rw 6, .rw 7, .rw 8, .rw 9, .rw 10], .box [.rw 2], .row 6 Ob encOb L, .row 1 Bool encBo (o2 0), .row 1 Bool encBo (o2 1), .row 1 Bool encBo (o2 2), .row 1 Bool encBo (o2 3), .row 1 Int encI (s.b 0), .row 1 Int encI (s.b 1), .row 1 Int encI (s.b 2), .row 1 Int encI (s.b 3), .box [.ptr 12 0, .rw 14, .rw 15, .rw 16, .rw 17, .rw 18, .rw 19, .rw 20, .rw 21], .box [.rw 13], .row 6 Ob encOb L, .row 1 Int encI (s.w 0), .row 1 Int encI (s.w 1), .row 1 Int encI (s.w 2), .row 1 Int encI (s.w 3), .row 1 Int encI (s.b 0), .row 1 Int encI (s.b 1), .row 1 Int encI (s.b 2), .row 1 Int encI (s.b 3), .box [.ls 1 Int encI (al 0), .ls 1 Int encI (al 1), .ls 1 Int encI (al 2), .ls 1 Int encI (al 3)], .box [.ls 1 Int encI (p.2 0), .ls 1 Int encI (p.2 1), .ls 1 Int encI (p.2 2), .ls 1 Int encI (p.2 3)]]⟩) (fun p => (p.1 ≤ 4 ∧ ∀ j, j < 4 → p.2 j = if j < p.1 then ow j else []) ∧ True) (fun p => 4 - p.1) (0, fun _ => []) [] [.same 0, .same 1, .same 2, .same 3, .same 4, .same 5, .same 6, .same 7, .same 8, .same 9, .same 10, .same 11, .same 12, .same 13, .same 14, .same 15, .same 16, .same 17, .same 18, .same 19, .same 20, .same 21, .same 22, .same 39] ⟨⟨Nat.zero_le _, fun j hj => by rw [if_neg (Nat.not_lt_zero _)]⟩, trivial⟩ ?_ (fun ⟨r, wa⟩ hr => ?_)
    ·repeat' first | exact trivial | exact rfl | refine And.intro ?_ ?_
    obtain ⟨⟨hr4, hwa⟩, -⟩ := hr
    dsimp only at hr4 hwa
    (conv => whnf)
    refine dec (fun h7 => ?_) (fun h7 => ?_)
    ·have hr : r < 4 := nat_lt h7
     have hr1 : r + 1 ≤ 4 := hr
     have hnx := upd_next hwa
     have p1 := pOr r
     rcases four hr with rfl | rfl | rfl | rfl <;> (
      (conv => whnf)
      refine cl [] [] (p1) ?_
      (conv => whnf)
      refine ⟨_, ⟨rfl, hr⟩, ?_⟩
      repeat' ((conv => whnf); refine I6 ?_)
      refine ag (_ + 1, _) [24] [.same 0, .same 1, .same 2, .same 3, .same 4, .same 5, .same 6, .same 7, .same 8, .same 9, .same 10, .same 11, .same 12, .same 13, .same 14, .same 15, .same 16, .same 17, .same 18, .same 19, .same 20, .same 21, .same 22, .same 23] ⟨⟨hr1, hnx⟩, trivial⟩ (by simp only []; omega) ?_
      repeat' first | exact trivial | exact rfl | refine And.intro ?_ ?_)
    ·obtain rfl : r = 4 := nat_eq h7 hr4
     have b1 := fun j hj => (hwa j hj).trans (if_pos hj)
     (conv => whnf)
     refine clE [] [0, 1, 2, 3, 4, 5, 6, 7, 8, 9, 10] [.box [.ptr 1 0, .rw 3, .rw 4, .rw 5, .rw 6, .rw 7, .rw 8, .rw 9, .rw 10], .box [.rw 2], .row 6 Ob encOb L, .row 1 Bool encBo (o3 0), .row 1 Bool encBo (o3 1), .row 1 Bool encBo (o3 2), .row 1 Bool encBo (o3 3), .row 1 Int encI (s.b 0), .row 1 Int encI (s.b 1), .row 1 Int encI (s.b 2), .row 1 Int encI (s.b 3), .box [.ptr 12 0, .rw 14, .rw 15, .rw 16, .rw 17, .rw 18, .rw 19, .rw 20, .rw 21], .box [.rw 13], .row 6 Ob encOb L, .row 1 Int encI (s.w 0), .row 1 Int encI (s.w 1), .row 1 Int encI (s.w 2), .row 1 Int encI (s.w 3), .row 1 Int encI (s.b 0), .row 1 Int encI (s.b 1), .row 1 Int encI (s.b 2), .row 1 Int encI (s.b 3), .box [.ls 1 Int encI (al 0), .ls 1 Int encI (al 1), .ls 1 Int encI (al 2), .ls 1 Int encI (al 3)], .box [.ls 1 Int encI (wa 0), .ls 1 Int encI (wa 1), .ls 1 Int encI (wa 2), .ls 1 Int encI (wa 3)]] (.tup []) q5 (by kernel_rfl) (by kernel_rfl) ?_ (by (repeat' first | exact trivial | exact rfl | refine And.intro ?_ ?_); first | done | fail) rfl
     (conv => whnf)
     refine lp Nat (fun r => ⟨[(9, .c (.ptr 0 0)), (33, .c (.ptr 23 0)), (35, .c (.int .i64 r))], [.box [.ptr 1 0, .rw 3, .rw 4, .rw 5, .rw 6, .rw 7, .rw 8, .rw 9, .rw 10], .box [.rw 2], .row 6 Ob encOb L, .row 1 Bool encBo (o3 0), .row 1 Bool encBo (o3 1), .row 1 Bool encBo (o3 2), .row 1 Bool encBo (o3 3), .row 1 Int encI (s.b 0), .row 1 Int encI (s.b 1), .row 1 Int encI (s.b 2), .row 1 Int encI (s.b 3), .box [.ptr 12 0, .rw 14, .rw 15, .rw 16, .rw 17, .rw 18, .rw 19, .rw 20, .rw 21], .box [.rw 13], .row 6 Ob encOb L, .row 1 Int encI (s.w 0), .row 1 Int encI (s.w 1), .row 1 Int encI (s.w 2), .row 1 Int encI (s.w 3), .row 1 Int encI (s.b 0), .row 1 Int encI (s.b 1), .row 1 Int encI (s.b 2), .row 1 Int encI (s.b 3), .box [.ls 1 Int encI (al 0), .ls 1 Int encI (al 1), .ls 1 Int encI (al 2), .ls 1 Int encI (al 3)], .box [.ls 1 Int encI (wa 0), .ls 1 Int encI (wa 1), .ls 1 Int encI (wa 2), .ls 1 Int encI (wa 3)]]⟩) (fun r => r ≤ 4 ∧ True) (fun r => 4 - r) 0 [] [.same 0, .same 1, .same 2, .same 3, .same 4, .same 5, .same 6, .same 7, .same 8, .same 9, .same 10, .same 11, .same 12, .same 13, .same 14, .same 15, .same 16, .same 17, .same 18, .same 19, .same 20, .same 21, .same 22, .same 23] ⟨Nat.zero_le _, trivial⟩ ?_ (fun r hr => ?_)
     ·repeat' first | exact trivial | exact rfl | refine And.intro ?_ ?_
     obtain ⟨hr4, -⟩ := hr
     (conv => whnf)
     refine dec (fun h8 => ?_) (fun h8 => ?_)
     ·have hr : r < 4 := nat_lt h8
      have p3 := pOr3 r hr
      have p4 := sameI_eq (ow r)
      rw [← b1 r hr] at p3 p4
      rcases four hr with rfl | rfl | rfl | rfl <;> (
       (conv => whnf)
       refine ⟨false, .grow, (.l [0, 1, 2, 3, 4, 5, 6, 7]), by kernel_rfl, .inl ?_⟩
       (conv => whnf)
       refine ⟨_, ⟨rfl, by decide⟩, ?_⟩
       (conv => whnf)
       refine cl [] [] (p3) ?_
       (conv => whnf)
       refine cl [] [] (p4) ?_
       repeat' ((conv => whnf); refine I6 ?_)
       refine ag _ [] [.same 0, .same 1, .same 2, .same 3, .same 4, .same 5, .same 6, .same 7, .same 8, .same 9, .same 10, .same 11, .same 12, .same 13, .same 14, .same 15, .same 16, .same 17, .same 18, .same 19, .same 20, .same 21, .same 22, .same 23] ⟨hr, trivial⟩ (by simp only []; omega) ?_
       repeat' first | exact trivial | exact rfl | refine And.intro ?_ ?_)
     ·(conv => whnf)
      exact rtB rfl
end Go.Nest
end
