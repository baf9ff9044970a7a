/- part -/
import Derived.Test.YtpmjnbidmcnhnaaGreatDoorU0
import Derived.Test.YtpmjnbidmcnhnaaGreatDoorW7
import Derived.Test.YtpmjnbidmcnhnaaGreatDoorTab3
import Derived.Test.YtpmjnbidmcnhnaaGreatDoorD27
import Derived.Test.YtpmjnbidmcnhnaaGreatDoorD26
import Derived.Test.YtpmjnbidmcnhnaaGreatDoorD21
import Derived.Test.YtpmjnbidmcnhnaaGreatDoorR1
import Derived.Test.YtpmjnbidmcnhnaaGreatDoorD17
import Derived.Test.YtpmjnbidmcnhnaaGreatDoorP9
import Derived.Test.YtpmjnbidmcnhnaaGreatDoorP10
section

namespace Go.AM
open Go Go.NB
theorem Does.conv {P : Program} {f : FuncId} {c c' : C} {args : List A} {ah : List B} {Q : Out → List B → Prop} (h : Does P f (.c c :: args) ah Q) (hc : ∀ {F : Nat → Prop} {H : Heap} {m : Md} {v : Value}, RL F H m [c'] [v] → RL F H m [c] [v]) : Does P f (.c c' :: args) ah Q :=
 fun F L γ H vs h1 h2 => h F L γ H vs (match vs, h1 with | _ :: _, ⟨h3, h4⟩ => ⟨hc h3, h4⟩) h2
end Go.AM
namespace Go.Nest
open Go Go.AM Go.Proofs
open Go.NB (Heap)
open Go.Proofs.YtpmjnbidmcnhnaaGreatDoor.T3 (tab tabOk)
set_option linter.unusedVariables false
set_option linter.unusedSimpArgs false
set_option maxRecDepth 4000
theorem nl_ls {F : Nat → Prop} {H : Heap} {m : Md} {sz : Nat} {α : Type} {enc enc' : α → List C} {l : List α} {v : Value} (hz : ∀ x, (enc x).length = (enc' x).length) (hc : ∀ {css}, RL F H m0 (l.flatMap enc') css → RL F H m0 (l.flatMap enc) css) (h : RL F H m [nl sz α enc' l] [v]) : RL F H m [.ls sz α enc l] [v] := by
 cases l with
 | nil => cases h with | nil _ => exact .ls0 .nl
 | cons x l =>
  unfold nl at h
  cases h with
  | ls hb h1 h2 hr hs hq _ => exact .ls hb h1 h2 (hc hr) (fun y hy => by rw [hz]; exact hs y hy) hq .nl
theorem flat_conv {F : Nat → Prop} {H : Heap} {α : Type} {enc enc' : α → List C} (h1 : ∀ x {cs}, RL F H m0 (enc' x) cs → RL F H m0 (enc x) cs) : ∀ {l : List α} {css : List Value}, RL F H m0 (l.flatMap enc') css → RL F H m0 (l.flatMap enc) css
 | [], css, h => h
 | x :: l, css, h => by
  rw [List.flatMap_cons] at h ⊢
  obtain ⟨us, ws, rfl, h2, h3⟩ := h.split
  exact (h1 x h2).append (flat_conv h1 h3)
theorem dc_conv {F : Nat → Prop} {H : Heap} (x : Dc) {cs : List Value} (h : RL F H m0 (encDcN x) cs) : RL F H m0 (encDc x) cs := by
 unfold encDcN at h
 obtain ⟨v1, us, rfl, h1, h2⟩ := h.uncons
 obtain ⟨v2, us, rfl, h3, h4⟩ := h2.uncons
 exact h1.cons ((nl_ls (fun _ => rfl) (fun h => h) h3).cons h4)
theorem sn_conv {F : Nat → Prop} {H : Heap} (x : Sn) {cs : List Value} (h : RL F H m0 (encSnN x) cs) : RL F H m0 (encSn x) cs := by
 unfold encSnN at h
 obtain ⟨v1, us, rfl, h1, h2⟩ := h.uncons
 obtain ⟨v2, us, rfl, h3, h4⟩ := h2.uncons
 exact (nl_ls (enc := encDc) (enc' := encDcN) (fun _ => rfl) (flat_conv dc_conv) h1).cons ((nl_ls (fun _ => rfl) (fun h => h) h3).cons h4)
theorem bs_conv {F : Nat → Prop} {H : Heap} {m : Md} {l : List Sn} {v : Value} (h : RL F H m [.bs 3 Sn encSnN l] [v]) : RL F H m [.bs 3 Sn encSn l] [v] := by
 cases h with
 | bs0 _ => exact .bs0 .nl
 | bs hb h1 h2 hr hs hq _ => exact .bs hb h1 h2 (flat_conv sn_conv hr) (fun y hy => rfl) hq .nl
end Go.Nest
end
/- part -/
section

namespace Go.Nest
open Go Go.AM Go.Proofs
open Go.Proofs.YtpmjnbidmcnhnaaGreatDoor.T3 (tab tabOk)
set_option linter.unusedVariables false
set_option linter.unusedSimpArgs false
set_option maxRecDepth 4000
def sd : List Sn := [⟨[⟨[97], [120]⟩], [], []⟩]
theorem sd_ok : sd.length ≤ 25 ∧ ∀ s ∈ sd, SnapOk s := by
 refine ⟨by decide, fun s hs => ?_⟩
 have hs : s = ⟨[⟨[97], [120]⟩], [], []⟩ := by simpa [sd] using hs
 subst hs
 refine ⟨⟨by decide, fun d hd => ?_⟩, by decide, by decide⟩
 have : d = ⟨[97], [120]⟩ := by simpa using hd
 subst this; exact ⟨by decide, by decide⟩
def sdL : List Ob := (growU sd).1
theorem db1 : (growU sd).2 = [2] := by decide +kernel
theorem sdL_ok : PoolOk sdL := grow_ok
theorem sdL_len : sdL.length = 3 := by decide +kernel
theorem grownD_spec : Does Tryz.prog 45 [.c (.bs 3 Sn encSnN sd)] [] (Rt (.tup [(false, [.ptr 0 0]), (false, [.ptr 2 0]), (false, [.rw 4]), (false, [.bool true])]) [.box [.rw 1], .row 6 Ob encOb sdL, .box [.rw 3], .row 6 Ob encOb sdL, .row 1 Int encI [2]]) := by
 have h := grown_spec sd sd_ok
 rw [db1] at h
 exact h.conv bs_conv
theorem three_of {x : Int} (h : 0 ≤ x ∧ x.toNat < sdL.length) : x = 0 ∨ x = 1 ∨ x = 2 := by
 rw [sdL_len] at h; omega
theorem dl1 : Led sdL [1] 1 := .base (by simp) (by decide +kernel)
theorem dl2 : Led sdL [2] 2 := .base (by simp) (by decide +kernel)
theorem dr1 : reachP sdL [1] = [0, 1] := by
 refine rise_uniq reach_rise (by decide) fun x => ⟨fun h => ?_, fun h => ?_⟩
 ·rcases three_of (reach_lt h) with rfl | rfl | rfl
  ·decide
  ·decide
  ·rcases led_how sdL_ok ((mem_reach sdL_ok).1 h) with h1 | ⟨j, h1, h2⟩
   ·exact absurd h1 (by decide)
   ·rcases three_of (reach_lt h1) with rfl | rfl | rfl
    ·exact absurd h2 (by decide +kernel)
    ·exact absurd h2 (by decide +kernel)
    ·exact absurd h2 (by decide +kernel)
 ·rw [mem_reach sdL_ok]
  have : x = 0 ∨ x = 1 := by simpa using h
  rcases this with rfl | rfl
  ·exact dl1.step (by decide +kernel)
  ·exact dl1
theorem dr2 : reachP sdL [2] = [0, 1, 2] := by
 refine rise_uniq reach_rise (by decide) fun x => ⟨fun h => ?_, fun h => ?_⟩
 ·rcases three_of (reach_lt h) with rfl | rfl | rfl <;> decide
 ·rw [mem_reach sdL_ok]
  have : x = 0 ∨ x = 1 ∨ x = 2 := by simpa using h
  have h1 : Led sdL [2] 1 := dl2.step (by decide +kernel)
  rcases this with rfl | rfl | rfl
  ·exact h1.step (by decide +kernel)
  ·exact h1
  ·exact dl2
def bN : Nat → List Int := fun _ => []
def oN : Nat → List Bool := fun _ => []
def o1D : Nat → List Bool := upd oN 1 [true, true, true]
def o2D : Nat → List Bool := upd o1D 2 [true, true, true]
def b1D : Nat → List Int := upd bN 3 [2]
theorem da1 : addC sdL 1 [2] = 0 := by decide +kernel
theorem da2 : addC sdL 2 [2] = 0 := by decide +kernel
theorem da3 : (([0, 1, 2] : List Int).foldl (markL oN bN 1) (padL [] sdL.length)) = [true, true, true] := by decide +kernel
theorem da4 : (([0, 1, 2] : List Int).foldl (markL o1D bN 2) (padL [] sdL.length)) = [true, true, true] := by decide +kernel
theorem do1 : addO sdL oN bN 1 [2] = o1D := by
 unfold addO
 rw [if_neg (by rw [da1]; decide)]
 unfold addL
 rw [dr2]
 show upd oN 1 (([0, 1, 2] : List Int).foldl (markL oN bN 1) (padL [] sdL.length)) = _
 rw [da3]; rfl
theorem do2 : addO sdL o1D bN 2 [2] = o2D := by
 unfold addO
 rw [if_neg (by rw [da2]; decide)]
 unfold addL
 rw [dr2]
 show upd o1D 2 (([0, 1, 2] : List Int).foldl (markL o1D bN 2) (padL [] sdL.length)) = _
 rw [da4]; rfl
theorem dlo : lostP sdL ⟨o1D, bN⟩ 1 2 = false := by
 unfold lostP
 rw [dr2]
 decide +kernel
theorem df1 : fetC sdL ⟨o1D, bN⟩ 2 1 2 = 0 := by
 unfold fetC
 rw [dlo, da2]; decide +kernel
theorem df2 : fetO sdL o1D bN 2 1 2 = o2D := by
 unfold fetO
 rw [dlo, do2, if_neg (by decide +kernel), if_neg (by decide)]
theorem dc1 : borC bN 3 2 = 0 := by decide +kernel
theorem dc2 : borC b1D 2 3 = 10 := by decide +kernel
theorem db2 : borO bN 3 2 = b1D := by
 unfold borO
 rw [if_neg (by rw [dc1]; decide)]; rfl
theorem db3 : borO b1D 2 3 = b1D := by
 unfold borO
 rw [if_pos (by rw [dc2]; decide)]
theorem b1_nd : BorNd b1D := by rw [← db2]; exact BorNd.nil.bor 3 2
theorem dw1 : goneP sdL (hasP ⟨o2D, b1D⟩) 3 2 = false := by
 unfold goneP
 rw [show (getP sdL 2).tree = 1 by decide +kernel, dr1]
 decide +kernel
theorem dw2 : filesP sdL (getP sdL 2).tree = ([⟨[97], 1, 0, 0⟩], 0) := by decide +kernel
theorem dw3 : wholeP sdL (hasP ⟨o2D, b1D⟩) 3 2 = ([⟨[97], 1, 0, 0⟩], 0) := by
 have h : whW sdL (hasP ⟨o2D, b1D⟩) 6 3 2 [] [] = ([⟨[97], 1, 0, 0⟩], 0) := by
  rw [whW, dw1, dw2]; rfl
 unfold wholeP
 rw [h]; decide +kernel
theorem dh1 : ownP o2D 2 2 = true := by decide +kernel
theorem dh2 : ownP o2D 3 2 = false := by decide +kernel
theorem dh3 : hasP ⟨o2D, b1D⟩ 3 2 = true := by decide +kernel
set_option maxHeartbeats 4000000 in
theorem depotBegun_spec : Does Tryz.prog 9 [] [] (Rt (.c (.bool true)) []) := by
 have p1 := addD_dspec sdL sdL_ok oN bN BorNd.nil.ok (fun k hk => Nat.zero_le _) 1 [2] (by decide)
 rw [da1, do1] at p1
 have hol : ∀ o : Nat → List Bool, (∀ k, (o k).length ≤ 3) → ∀ k, k < 4 → (o k).length ≤ 1000000 := fun o h k hk => Nat.le_trans (h k) (by decide)
 have p2 := fetD_spec sdL sdL_ok o1D bN BorNd.nil.ok (fun k hk => by rcases four hk with rfl | rfl | rfl | rfl <;> decide) 2 1 2
 rw [df1, df2] at p2
 have p3 := borD_spec sdL o2D bN BorNd.nil.ok 3 2
 rw [dc1, db2] at p3
 have p4 := wholeD_spec sdL sdL_ok o2D b1D b1_nd.ok 3 2
 rw [dw3] at p4
 have p5 := ownD_spec sdL o2D b1D 2 2
 rw [dh1] at p5
 have p6 := ownD_spec sdL o2D b1D 3 2
 rw [dh2] at p6
 have p7 := hasD_spec sdL o2D b1D b1_nd.ok 3 2
 rw [dh3] at p7
 have p8 := borD_spec sdL o2D b1D b1_nd.ok 2 3
 rw [dc2, db3] at p8
 refine X_spec (n := 101) (n0 := 0) tabOk Tryz.call9 Tryz.func9 ?_
 intro hb
 (conv => whnf)
 refine ⟨[120], rfl, ?_⟩
 (conv => whnf)
 refine ⟨[⟨[97], [120]⟩], rfl, ?_⟩
 (conv => whnf)
 refine ⟨sd, rfl, ?_⟩
 (conv => whnf)
 refine cl [] [] (grownD_spec) ?_
 (conv => whnf)
 refine cl [] [3, 4] (depotNew_spec sdL) ?_
 (conv => whnf)
 refine ⟨0, ⟨rfl, by decide⟩, ?_⟩
 (conv => whnf)
 refine ⟨2, rfl, ?_⟩
 (conv => whnf)
 refine ⟨[2], rfl, ?_⟩
 (conv => whnf)
 refine cl [] [8, 3, 4, 9, 10, 11, 12, 13, 14, 15, 16] (p1) ?_
 (conv => whnf)
 refine ⟨0, ⟨rfl, by decide⟩, ?_⟩
 (conv => whnf)
 refine ⟨2, rfl, ?_⟩
 (conv => whnf)
 refine cl [] [8, 3, 4, 18, 19, 20, 21, 13, 14, 15, 16] (p2) ?_
 (conv => whnf)
 refine cl [] [8, 3, 4, 22, 23, 24, 25, 13, 14, 15, 16] (p3) ?_
 (conv => whnf)
 refine ⟨0, ⟨rfl, by decide⟩, ?_⟩
 (conv => whnf)
 refine ⟨2, rfl, ?_⟩
 (conv => whnf)
 refine cl [] [] (p4) ?_
 (conv => whnf)
 refine ⟨0, ⟨rfl, by decide⟩, ?_⟩
 (conv => whnf)
 refine ⟨2, rfl, ?_⟩
 (conv => whnf)
 refine cl [] [] (p5) ?_
 (conv => whnf)
 refine ⟨0, ⟨rfl, by decide⟩, ?_⟩
 (conv => whnf)
 refine ⟨2, rfl, ?_⟩
 (conv => whnf)
 refine cl [] [] (p6) ?_
 (conv => whnf)
 refine ⟨0, ⟨rfl, by decide⟩, ?_⟩
 (conv => whnf)
 refine ⟨2, rfl, ?_⟩
 (conv => whnf)
 refine cl [] [] (p7) ?_
 (conv => whnf)
 refine cl [] [8, 3, 4, 22, 23, 24, 25, 26, 27, 28, 29] (p8) ?_
 (conv => whnf)
 exact rtB rfl
end Go.Nest
end
/- part -/
section

namespace Go.Nest
open Go Go.AM Go.Proofs
open Go.Proofs.YtpmjnbidmcnhnaaGreatDoor (tab tabOk)
set_option linter.unusedVariables false
set_option linter.unusedSimpArgs false
set_option maxRecDepth 4000
def ds0 : DS := ⟨fun _ => [], fun _ => [], fun _ => []⟩
theorem ds0_inv {L : List Ob} : DInv L ds0 := ⟨Sm.nil, BorNd.nil⟩
theorem depots_ok {l : List Sn} {m : List Mt} (hl : l.length ≤ 25) (hm : m.length ≤ 15) : PoolOk (depotsU l m).1 ∧ (depotsU l m).2.length ≤ 40 := by
 have h := mount_fold (m := m) (s := growU l) grow_ok
 have h2 : (growU l).2.length ≤ 0 + l.length := grow_len (l := l) (s := ([], []))
 unfold depotsU
 exact ⟨h.1, by omega⟩
end Go.Nest
end
/- part -/
section

namespace Go.Nest
open Go Go.AM
set_option linter.unusedVariables false
set_option linter.unusedSimpArgs false
theorem led_thru {L : List Ob} {ids : List Int} {j k : Int} (h : Led L ids j) (g : Led L [j] k) : Led L ids k := by
 induction g with
 | base h1 h2 => rw [List.mem_singleton] at h1; subst h1; exact h
 | step _ h2 ih => exact ih.step h2
theorem ent_next {L : List Ob} {j : Int} {e : Ent} (h : e ∈ (getP L j).entries) (hm : e.mode ≠ 3) : e.id ∈ nextP L j := by
 unfold nextP
 exact List.mem_append.2 (.inl (List.mem_map.2 ⟨e, List.mem_filter.2 ⟨h, decide_eq_true hm⟩, rfl⟩))
def LinkAt (L : List Ob) (f : Fi) (e : Ent) : Prop := e.mode = 3 ∧ e.id = f.id ∧ e.repo = f.repo
theorem Ents.link {ne : Bool} {L : List Ob} {es : List Ent} {l : List Fi} (h : Ents ne L es l) : ∀ f ∈ l, f.mode = 3 → (∃ e ∈ es, LinkAt L f e) ∨ ∃ d ∈ es, d.mode = 2 ∧ ∃ k, Led L [d.id] k ∧ ∃ e ∈ (getP L k).entries, LinkAt L f e := by
 induction h with
 | nil => intro f hf; cases hf
 | @file e es l hm h ih =>
  intro f hf hm3
  rcases List.mem_cons.1 hf with rfl | hf
  ·exact .inl ⟨e, by simp, hm3, rfl, rfl⟩
  ·rcases ih f hf hm3 with ⟨x, h1, h2⟩ | ⟨d, h1, h2⟩
   ·exact .inl ⟨x, List.mem_cons_of_mem _ h1, h2⟩
   ·exact .inr ⟨d, List.mem_cons_of_mem _ h1, h2⟩
 | @dir e es m l hm hk hne h1 h2 ih1 ih2 =>
  intro f hf hm3
  rcases List.mem_append.1 hf with hf | hf
  ·obtain ⟨g, hg, rfl⟩ := List.mem_map.1 hf
   have hb : Led L [e.id] e.id := .base (by simp) (by rw [hk]; decide)
   refine .inr ⟨e, by simp, hm, ?_⟩
   rcases ih1 g hg hm3 with ⟨x, k1, k2⟩ | ⟨d, k1, k2, k, k3, k4⟩
   ·exact ⟨e.id, hb, x, k1, k2⟩
   ·exact ⟨k, led_thru (hb.step (ent_next k1 (by omega))) k3, k4⟩
  ·rcases ih2 f hf hm3 with ⟨x, h1, h2⟩ | ⟨d, h1, h2⟩
   ·exact .inl ⟨x, List.mem_cons_of_mem _ h1, h2⟩
   ·exact .inr ⟨d, List.mem_cons_of_mem _ h1, h2⟩
theorem Nd.led {L : List Ob} {r0 : Nat → List Int} {r : Nat} {k m : Int} (h : Nd L r0 r k) (hl : Led L [k] m) : Nd L r0 r m := by
 induction hl with
 | base h1 h2 => rw [List.mem_singleton] at h1; subst h1; exact h
 | step _ h2 ih => exact ih.next h2
end Go.Nest
end
/- part -/
section

namespace Go.Nest
open Go Go.AM
set_option linter.unusedVariables false
set_option linter.unusedSimpArgs false
def addQ (p : List UInt8) (f : Fi) : Fi := ⟨p ++ f.path, f.mode, f.id, f.repo⟩
theorem addQ_nil : addQ [] = id := by funext f; rfl
theorem addQ_two (p q : List UInt8) : addQ p ∘ addQ q = addQ (p ++ q) := by
 funext f
 show addQ p (addQ q f) = _
 unfold addQ
 rw [List.append_assoc]
theorem addQ_pre (q : List UInt8) : addQ (q ++ [47]) = pre q := by
 funext f
 unfold addQ pre
 rw [List.append_assoc]; rfl
def rdL (f : Int → Int → Option (List Fi)) : List Fi → Option (List Fi)
 | [] => some []
 | x :: l => if x.mode = 3 then (f x.repo x.id).bind fun m => (rdL f l).map fun k => m.map (addQ (x.path ++ [47])) ++ k else (rdL f l).map fun k => x :: k
noncomputable def rd (L : List Ob) (has : Int → Int → Bool) : Nat → Int → Int → Option (List Fi)
 | 0, _, _ => none
 | n + 1, r, id => if goneP L has r id = true then none else if (filesP L (getP L id).tree).2 = 0 then rdL (rd L has n) (filesP L (getP L id).tree).1 else none
theorem rdL_of {f : Int → Int → List UInt8 → List Fi → List Fi × Int} {g : Int → Int → Option (List Fi)} (hf : ∀ r id p out o', out.length ≤ 60 → f r id p out = (o', 0) → ∃ m, g r id = some m ∧ o' = out ++ m.map (addQ p) ∧ o'.length ≤ 60) {pre : List UInt8} : ∀ {l out o' : List Fi}, out.length ≤ 60 → whL f pre l out = (o', 0) → ∃ m, rdL g l = some m ∧ o' = out ++ m.map (addQ pre) ∧ o'.length ≤ 60
 | [], out, o', hl, h => by
  unfold whL at h
  cases h
  exact ⟨[], rfl, by simp, hl⟩
 | x :: l, out, o', hl, h => by
  unfold whL at h
  split at h
  ·rename_i hm
   split at h
   ·rename_i h1
    obtain ⟨m1, k1, k2, k3⟩ := hf x.repo x.id ((pre ++ x.path) ++ [47]) out _ hl (Prod.ext rfl h1)
    obtain ⟨m2, k4, k5, k6⟩ := rdL_of hf k3 h
    refine ⟨m1.map (addQ (x.path ++ [47])) ++ m2, ?_, ?_, k6⟩
    ·rw [rdL, if_pos hm, k1, k4]; rfl
    ·rw [k5, k2]
     simp only [List.map_append, List.map_map, addQ_two, List.append_assoc]
   ·rename_i h1
    exact absurd (by rw [h]) h1
  ·rename_i hm
   split at h
   ·cases h
   ·rename_i h1
    obtain ⟨m2, k4, k5, k6⟩ := rdL_of hf (by rw [List.length_append, List.length_singleton]; omega) h
    refine ⟨x :: m2, ?_, ?_, k6⟩
    ·rw [rdL, if_neg hm, k4]; rfl
    ·rw [k5, List.map_cons, List.append_assoc]; rfl
theorem rd_of {L : List Ob} {has : Int → Int → Bool} : ∀ {n : Nat} {r id : Int} {p : List UInt8} {out o' : List Fi}, out.length ≤ 60 → whW L has n r id p out = (o', 0) → ∃ m, rd L has n r id = some m ∧ o' = out ++ m.map (addQ p) ∧ o'.length ≤ 60 := by
 intro n
 induction n with
 | zero => intro r id p out o' hl h; cases h
 | succ n ih =>
  intro r id p out o' hl h
  rw [whW] at h
  split at h
  ·cases h
  rename_i h1
  split at h
  ·rename_i h2
   rw [rd, if_neg h1, if_pos h2]
   exact rdL_of (f := whW L has n) (g := rd L has n) (fun r id p out o' => ih) hl h
  ·rename_i h2
   exact absurd (congrArg (·.2) h) h2
theorem rdL_to {f : Int → Int → List UInt8 → List Fi → List Fi × Int} {g : Int → Int → Option (List Fi)} (hf : ∀ r id p out m, g r id = some m → out.length + m.length ≤ 60 → f r id p out = (out ++ m.map (addQ p), 0)) {pre : List UInt8} : ∀ {l out m : List Fi}, rdL g l = some m → out.length + m.length ≤ 60 → whL f pre l out = (out ++ m.map (addQ pre), 0)
 | [], out, m, h, hl => by
  unfold rdL at h
  cases h
  unfold whL; simp
 | x :: l, out, m, h, hl => by
  rw [rdL] at h
  rw [whL]
  split at h
  ·rename_i hm
   obtain ⟨m1, h1, h2⟩ := Option.bind_eq_some_iff.1 h
   obtain ⟨k, h3, rfl⟩ := Option.map_eq_some_iff.1 h2
   rw [List.length_append, List.length_map] at hl
   rw [if_pos hm, hf x.repo x.id _ out m1 h1 (by omega), if_pos rfl, rdL_to hf h3 (by rw [List.length_append, List.length_map]; omega)]
   simp only [List.map_append, List.map_map, addQ_two, List.append_assoc]
  ·rename_i hm
   obtain ⟨k, h3, rfl⟩ := Option.map_eq_some_iff.1 h
   rw [List.length_cons] at hl
   rw [if_neg hm, if_neg (by omega), rdL_to hf h3 (by rw [List.length_append, List.length_singleton]; omega), List.map_cons, List.append_assoc]
   rfl
theorem rd_to {L : List Ob} {has : Int → Int → Bool} : ∀ {n : Nat} {r id : Int} {p : List UInt8} {out m : List Fi}, rd L has n r id = some m → out.length + m.length ≤ 60 → whW L has n r id p out = (out ++ m.map (addQ p), 0) := by
 intro n
 induction n with
 | zero => intro r id p out m h; cases h
 | succ n ih =>
  intro r id p out m h hl
  rw [rd] at h
  split at h
  ·cases h
  rename_i h1
  split at h
  ·rename_i h2
   rw [whW, if_neg h1, if_pos h2]
   exact rdL_to (f := whW L has n) (g := rd L has n) (fun r id p out m => ih) h hl
  ·cases h
theorem rdL_mono {f g : Int → Int → Option (List Fi)} (hf : ∀ r id m, f r id = some m → g r id = some m) : ∀ {l m : List Fi}, rdL f l = some m → rdL g l = some m
 | [], m, h => h
 | x :: l, m, h => by
  rw [rdL] at h ⊢
  split at h
  ·rename_i hm
   obtain ⟨m1, h1, h2⟩ := Option.bind_eq_some_iff.1 h
   obtain ⟨k, h3, rfl⟩ := Option.map_eq_some_iff.1 h2
   rw [if_pos hm, hf _ _ _ h1, rdL_mono hf h3]; rfl
  ·rename_i hm
   obtain ⟨k, h3, rfl⟩ := Option.map_eq_some_iff.1 h
   rw [if_neg hm, rdL_mono hf h3]; rfl
theorem rd_mono {L : List Ob} {has : Int → Int → Bool} : ∀ {n : Nat} {r id : Int} {m : List Fi}, rd L has n r id = some m → rd L has (n + 1) r id = some m := by
 intro n
 induction n with
 | zero => intro r id m h; cases h
 | succ n ih =>
  intro r id m h
  rw [rd] at h ⊢
  split at h
  ·cases h
  rename_i h1
  split at h
  ·rename_i h2
   rw [if_neg h1, if_pos h2]
   exact rdL_mono (f := rd L has n) (g := rd L has (n + 1)) (fun r id m => ih) h
  ·cases h
theorem rdL_mode {g : Int → Int → Option (List Fi)} (hg : ∀ r id m, g r id = some m → ∀ f ∈ m, f.mode ≠ 3) : ∀ {l m : List Fi}, rdL g l = some m → ∀ f ∈ m, f.mode ≠ 3
 | [], m, h, f, hf => by cases h; cases hf
 | x :: l, m, h, f, hf => by
  rw [rdL] at h
  split at h
  ·obtain ⟨m1, h1, h2⟩ := Option.bind_eq_some_iff.1 h
   obtain ⟨k, h3, rfl⟩ := Option.map_eq_some_iff.1 h2
   rcases List.mem_append.1 hf with hf | hf
   ·obtain ⟨y, hy, rfl⟩ := List.mem_map.1 hf
    exact hg _ _ _ h1 y hy
   ·exact rdL_mode hg h3 f hf
  ·rename_i hm
   obtain ⟨k, h3, rfl⟩ := Option.map_eq_some_iff.1 h
   rcases List.mem_cons.1 hf with rfl | hf
   ·exact hm
   ·exact rdL_mode hg h3 f hf
theorem rd_mode {L : List Ob} {has : Int → Int → Bool} : ∀ {n : Nat} {r id : Int} {m : List Fi}, rd L has n r id = some m → ∀ f ∈ m, f.mode ≠ 3 := by
 intro n
 induction n with
 | zero => intro r id m h; cases h
 | succ n ih =>
  intro r id m h
  rw [rd] at h
  split at h
  ·cases h
  split at h
  ·exact rdL_mode (fun r id m => ih) h
  ·cases h
theorem rdL_part {g : Int → Int → Option (List Fi)} : ∀ {l m : List Fi}, rdL g l = some m → ∀ x ∈ l, x.mode = 3 → ∃ k, g x.repo x.id = some k ∧ (k.map (Nest.pre x.path)).Sublist m
 | [], m, h, x, hx, _ => by cases hx
 | y :: l, m, h, x, hx, hm => by
  rw [rdL] at h
  split at h
  ·obtain ⟨m1, h1, h2⟩ := Option.bind_eq_some_iff.1 h
   obtain ⟨k, h3, rfl⟩ := Option.map_eq_some_iff.1 h2
   rcases List.mem_cons.1 hx with rfl | hx
   ·exact ⟨m1, h1, by rw [addQ_pre]; exact List.sublist_append_left _ _⟩
   ·obtain ⟨k', k1, k2⟩ := rdL_part h3 x hx hm
    exact ⟨k', k1, k2.trans (List.sublist_append_right _ _)⟩
  ·rename_i hn
   obtain ⟨k, h3, rfl⟩ := Option.map_eq_some_iff.1 h
   rcases List.mem_cons.1 hx with rfl | hx
   ·exact absurd hm hn
   ·obtain ⟨k', k1, k2⟩ := rdL_part h3 x hx hm
    exact ⟨k', k1, k2.trans (List.sublist_cons_self _ _)⟩
def wantL (W : Int → Int → List Fi) (l : List Fi) : List Fi := l.flatMap fun x => if x.mode = 3 then (W x.repo x.id).map (Nest.pre x.path) else [x]
theorem wantL_perm {g : Int → Int → Option (List Fi)} {W : Int → Int → List Fi} : ∀ {l m : List Fi}, rdL g l = some m → (∀ x ∈ l, x.mode = 3 → ∀ k, g x.repo x.id = some k → (W x.repo x.id).Perm k) → (wantL W l).Perm m
 | [], m, h, _ => by cases h; exact .nil
 | x :: l, m, h, hW => by
  rw [rdL] at h
  unfold wantL
  rw [List.flatMap_cons]
  split at h
  ·rename_i hm
   obtain ⟨m1, h1, h2⟩ := Option.bind_eq_some_iff.1 h
   obtain ⟨k, h3, rfl⟩ := Option.map_eq_some_iff.1 h2
   rw [if_pos hm, addQ_pre]
   exact ((hW x (by simp) hm m1 h1).map _).append (wantL_perm h3 fun y hy => hW y (List.mem_cons_of_mem _ hy))
  ·rename_i hm
   obtain ⟨k, h3, rfl⟩ := Option.map_eq_some_iff.1 h
   rw [if_neg hm]
   exact (wantL_perm h3 fun y hy => hW y (List.mem_cons_of_mem _ hy)).cons x
theorem apt_unpre' : ∀ (k : Nat) {n : List UInt8} {f g : Fi}, n.length ≤ k → Apt (Nest.pre n f) (Nest.pre n g) → Apt f g := by
 intro k
 induction k with
 | zero =>
  intro n f g hn h
  have : n = [] := List.eq_nil_of_length_eq_zero (by omega)
  subst this
  exact apt_unpre (by rfl) h
 | succ k ih =>
  intro n f g hn h
  by_cases hc : n.count 47 = 0
  ·exact apt_unpre hc h
  ·obtain ⟨a, b, -, rfl, h3⟩ := cut_some hc
   have e : ∀ f, Nest.pre (a ++ 47 :: b) f = Nest.pre a (Nest.pre b f) := fun f => by unfold Nest.pre; rw [List.append_assoc]; rfl
   rw [e, e] at h
   refine ih ?_ (apt_unpre h3 h)
   rw [List.length_append, List.length_cons] at hn; omega
theorem pair_or {α : Type} {R : α → α → Prop} : ∀ {l : List α}, l.Pairwise R → ∀ x ∈ l, ∀ y ∈ l, x ≠ y → R x y ∨ R y x
 | [], _, x, hx, _, _, _ => by cases hx
 | a :: l, h, x, hx, y, hy, hne => by
  rw [List.pairwise_cons] at h
  rcases List.mem_cons.1 hx with e1 | hx1
  ·rcases List.mem_cons.1 hy with e2 | hy1
   ·exact absurd (e1.trans e2.symm) hne
   ·exact .inl (e1 ▸ h.1 y hy1)
  ·rcases List.mem_cons.1 hy with e2 | hy1
   ·exact .inr (e2 ▸ h.1 x hx1)
   ·exact pair_or h.2 x hx1 y hy1 hne
theorem namesF_of : ∀ {l : List (List UInt8)}, (∀ x ∈ l, nameC x = 0) → namesF l = 0
 | [], _ => rfl
 | x :: l, h => by
  unfold namesF
  rw [if_pos (h x (by simp))]
  exact namesF_of fun y hy => h y (List.mem_cons_of_mem _ hy)
theorem dir_back {dir p : List UInt8} (h : (splitP (dir ++ 47 :: p)).2 = 0) : (splitP p).2 = 0 := by
 obtain ⟨h1, h2, -⟩ := split_zero h
 rw [spl_append] at h1 h2
 rw [List.length_append] at h2
 exact split_of (namesF_of fun x hx => namesF_all h1 x (List.mem_append.2 (.inr hx))) (by omega)
theorem part_ok {p : List UInt8} {k m : List Fi} (hs : (k.map (Nest.pre p)).Sublist m) (hm : checkF none (inOrdP m) = 0) : checkF none (inOrdP k) = 0 := by
 have hA := (check_apt hm).1
 have hC := checkF_all hm
 have hd : m.Pairwise fun x y => x.path ≠ y.path := ((inOrd_perm m).pairwise_iff fun h => Ne.symm h).1 (hA.imp fun h => less_ne h.1)
 have hk : k.Pairwise fun x y => x.path ≠ y.path := by
  have := hd.sublist hs
  rw [List.pairwise_map] at this
  exact this.imp fun h e => h (by unfold Nest.pre; rw [e])
 have hr := inOrd_ris hk
 have hin : ∀ x ∈ inOrdP k, Nest.pre p x ∈ inOrdP m := fun x hx => (inOrd_perm m).mem_iff.2 (hs.subset (List.mem_map.2 ⟨x, (inOrd_perm k).mem_iff.1 hx, rfl⟩))
 refine check_of (fun g hg => by cases hg) (hr.imp_of_mem fun {x y} hx hy hl => ?_) fun f hf => ?_
 ·have hne : Nest.pre p x ≠ Nest.pre p y := fun e => less_ne hl (by
   have := congrArg (·.path) e
   have this : p ++ 47 :: x.path = p ++ 47 :: y.path := this
   exact List.cons.inj (List.append_cancel_left this) |>.2)
  rcases pair_or hA _ (hin x hx) _ (hin y hy) hne with h | h
  ·exact apt_unpre' p.length (Nat.le_refl _) h
  ·have h2 := (apt_unpre' p.length (Nat.le_refl _) h).1
   exact absurd (lessP_trans hl h2) (by rw [lessP_irrefl]; decide)
 ·obtain ⟨h1, h2⟩ := hC _ (hin f hf)
  exact ⟨dir_back h1, h2⟩
theorem whole_want {L : List Ob} {has : Int → Int → Bool} {r id : Int} {all : List Fi} (h : wholeP L has r id = (all, 0)) :
  kindOf L id = 3 ∧ (filesP L (getP L id).tree).2 = 0 ∧ (∀ x ∈ (filesP L (getP L id).tree).1, x.mode = 3 → (wholeP L has x.repo x.id).2 = 0) ∧ inOrdP (wantL (fun r id => (wholeP L has r id).1) (filesP L (getP L id).tree).1) = all ∧ (∀ f ∈ all, f.mode = 1) ∧ all.length ≤ 60 ∧ (wantL (fun r id => (wholeP L has r id).1) (filesP L (getP L id).tree).1).Perm all := by
 unfold wholeP at h
 split at h
 ·rename_i h1
  split at h
  ·rename_i h2
   obtain rfl : inOrdP (whW L has 6 r id [] []).1 = all := congrArg (·.1) h
   obtain ⟨m, k1, k2, k3⟩ := rd_of (by simp) (Prod.ext (x := whW L has 6 r id [] []) (y := (_, 0)) rfl h1)
   rw [List.nil_append, addQ_nil, List.map_id] at k2
   have k2 : (whW L has 6 r id [] []).fst = m := k2
   have k3 : (whW L has 6 r id [] []).fst.length ≤ 60 := k3
   rw [k2] at h2 k3 ⊢
   have k1' := k1
   rw [rd] at k1
   split at k1
   ·cases k1
   rename_i h3
   split at k1
   ·rename_i h4
    have hk : kindOf L id = 3 := Decidable.byContradiction fun hk => h3 (by unfold goneP; rw [decide_eq_false hk]; rfl)
    have hW : ∀ x ∈ (filesP L (getP L id).tree).1, x.mode = 3 → ∀ k, rd L has 5 x.repo x.id = some k → wholeP L has x.repo x.id = (inOrdP k, 0) := fun x hx hm k hk => by
     obtain ⟨k', q1, q2⟩ := rdL_part k1 x hx hm
     rw [q1] at hk
     cases hk
     have hl := q2.length_le
     rw [List.length_map] at hl
     have hw := rd_to (p := []) (out := []) (rd_mono q1) (by rw [List.length_nil]; omega)
     rw [List.nil_append, addQ_nil, List.map_id] at hw
     unfold wholeP
     rw [hw, if_pos rfl, if_pos (part_ok q2 h2)]
    have hp : (wantL (fun r id => (wholeP L has r id).1) (filesP L (getP L id).tree).1).Perm m := wantL_perm k1 fun x hx hm k hk => by rw [hW x hx hm k hk]; exact inOrd_perm k
    have hA := (check_apt h2).1
    have hd : m.Pairwise fun x y => x.path ≠ y.path := ((inOrd_perm m).pairwise_iff fun h => Ne.symm h).1 (hA.imp fun h => less_ne h.1)
    refine ⟨hk, h4, fun x hx hm => ?_, ?_, fun f hf => ?_, by rw [inOrd_len]; exact k3, hp.trans (inOrd_perm m).symm⟩
    ·obtain ⟨k', q1, q2⟩ := rdL_part k1 x hx hm
     rw [hW x hx hm k' q1]
    ·refine ris_ext (inOrd_ris ((hp.pairwise_iff fun h => Ne.symm h).2 hd)) (inOrd_ris hd) fun x => ?_
     rw [(inOrd_perm _).mem_iff, (inOrd_perm _).mem_iff, hp.mem_iff]
    ·have := rd_mode k1' f ((inOrd_perm m).mem_iff.1 hf)
     exact (checkF_all h2 f hf).2.resolve_right this
   ·cases k1
  ·rename_i h2
   exact absurd (congrArg (·.2) h) h2
 ·rename_i h1
  exact absurd (congrArg (·.2) h) h1
theorem whole_none {L : List Ob} {has : Int → Int → Bool} {r id : Int} (h : (wholeP L has r id).2 ≠ 0) : (wholeP L has r id).1 = [] := by
 unfold wholeP at h ⊢
 split
 ·rename_i h1
  rw [if_pos h1] at h
  split
  ·rename_i h2
   rw [if_pos h2] at h; exact absurd rfl h
  ·rfl
 ·rfl
end Go.Nest
end
/- part -/
section

namespace Go.Nest
open Go Go.AM Go.Proofs
open Go.Proofs.YtpmjnbidmcnhnaaGreatDoor (tab tabOk)
set_option linter.unusedVariables false
set_option linter.unusedSimpArgs false
set_option maxRecDepth 4000
theorem whole_path {L : List Ob} (hL : PoolOk L) {has : Int → Int → Bool} {r id : Int} : ∀ f ∈ (wholeP L has r id).1, f.path.length ≤ 40000 := by
 have hf := whW_fit hL (has := has) (k := 40000) (n := 6) (r := r) (id := id) (pre := []) (out := []) (by decide) ⟨by simp, fun f h => by cases h⟩
 unfold wholeP
 split
 ·split
  ·exact (inOrd_fit hf).path
  ·intro f h; cases h
 ·intro f h; cases h
theorem want_take {W : Int → Int → List Fi} {l : List Fi} {i : Nat} (h : i < l.length) : wantL W (l.take (i + 1)) = wantL W (l.take i) ++ (if l[i].mode = 3 then (W l[i].repo l[i].id).map (Nest.pre l[i].path) else [l[i]]) := by
 unfold wantL
 rw [List.take_succ_eq_append_getElem h, List.flatMap_append, List.flatMap_singleton]
theorem want_len {W : Int → Int → List Fi} {l : List Fi} {i : Nat} : (wantL W (l.take i)).length ≤ (wantL W l).length := by
 conv => rhs; rw [← List.take_append_drop i l]
 unfold wantL
 rw [List.flatMap_append, List.length_append]
 omega
set_option maxHeartbeats 8000000 in
theorem depotWhole_spec (l : List Sn) (m : List Mt) (st : List Dt) (r k : Int) (hl : ∀ s ∈ l, DocsFit s.docs) : Does Tryz.prog 3 [.c (.ls 3 Sn encSn l), .c (.ls 4 Mt encMt m), .c (.ls 9 Dt encDt st), .c (.int .i64 r), .c (.int .i64 k)] [] (Rt (.c (.bool true)) []) := by
 refine X_spec (n := 176) (n0 := 0) tabOk Tryz.call3 Tryz.func3 ?_
 intro hb
 (conv => whnf)
 refine cl [] [] (depotBegun_spec) ?_
 (conv => whnf)
 refine cl [] [] (greatSnaps_spec l hl) ?_
 (conv => whnf)
 refine boo (fun g1 => ?_) (fun g1 => ?_)
 ·(conv => whnf)
  exact rtC rfl rfl
 have hg := greatS_ok g1
 (conv => whnf)
 refine cl [] [] (greatSteps_spec st m) ?_
 (conv => whnf)
 refine boo (fun g2 => ?_) (fun g2 => ?_)
 ·(conv => whnf)
  exact rtC rfl rfl
 obtain ⟨k1, k2, k3, k4⟩ := greatT_ok g2
 have p0 := depots_spec l m hg k2 k4
 obtain ⟨hL, hml⟩ := depots_ok (l := l) (m := m) (by simpa using hg.1) k2
 generalize depotsU l m = U at p0 hL hml
 obtain ⟨L, made⟩ := U
 dsimp only at p0 hL hml
 (conv => whnf)
 refine cl [] [] (p0) ?_
 (conv => whnf)
 refine lp (Nat × DS) (fun p => ⟨[(2, .c (.ls 9 Dt encDt st)), (3, .c (.int .i64 r)), (4, .c (.int .i64 k)), (11, .c (.ptr 0 0)), (12, .c (.ptr 11 0)), (13, .c (.rw 22)), (15, .c (.int .i64 p.1))], [.box [.ptr 1 0, .rw 3, .rw 4, .rw 5, .rw 6, .rw 7, .rw 8, .rw 9, .rw 10], .box [.rw 2], .row 6 Ob encOb L, .row 1 Bool encBo (p.2.o 0), .row 1 Bool encBo (p.2.o 1), .row 1 Bool encBo (p.2.o 2), .row 1 Bool encBo (p.2.o 3), .row 1 Int encI (p.2.b 0), .row 1 Int encI (p.2.b 1), .row 1 Int encI (p.2.b 2), .row 1 Int encI (p.2.b 3), .box [.ptr 12 0, .rw 14, .rw 15, .rw 16, .rw 17, .rw 18, .rw 19, .rw 20, .rw 21], .box [.rw 13], .row 6 Ob encOb L, .row 1 Int encI (p.2.w 0), .row 1 Int encI (p.2.w 1), .row 1 Int encI (p.2.w 2), .row 1 Int encI (p.2.w 3), .row 1 Int encI (p.2.b 0), .row 1 Int encI (p.2.b 1), .row 1 Int encI (p.2.b 2), .row 1 Int encI (p.2.b 3), .row 1 Int encI made]⟩) (fun p => (p.1 ≤ st.length ∧ DInv L p.2) ∧ True) (fun p => st.length - p.1) (0, ds0) [] [.same 0, .same 1, .same 2, .same 3, .same 4, .same 5, .same 6, .same 7, .same 8, .same 9, .same 10, .same 11, .same 12, .same 13, .same 14, .same 15, .same 16, .same 17, .same 18, .same 19, .same 20, .same 21, .same 22] ⟨⟨Nat.zero_le _, ds0_inv⟩, trivial⟩ ?_ (fun ⟨i, s⟩ hi => ?_)
 ·repeat' first | exact trivial | exact rfl | refine And.intro ?_ ?_
 obtain ⟨⟨hi, hs⟩, -⟩ := hi
 dsimp only at hi hs
 (conv => whnf)
 refine dec (fun h4 => ?_) (fun h4 => ?_)
 ·have hlt : i < st.length := by have h4 : (i : Int) < st.length := h4; omega
  have hiy : st[i]? = some st[i] := List.getElem?_eq_getElem hlt
  have hx := k3 _ (List.getElem_mem hlt)
  generalize st[i] = x at hiy hx
  have p1 := depotStep_spec L hL made s hs x hx
  have ht := step_dinv hL (made := made) hs x
  generalize stepD L made s x = t at p1 ht
  (conv => whnf)
  refine ⟨i, x, rfl, hiy, ?_⟩
  (conv => whnf)
  refine clE [] [0, 1, 2, 3, 4, 5, 6, 7, 8, 9, 10, 11, 12, 13, 14, 15, 16, 17, 18, 19, 20, 21] [.box [.ptr 1 0, .rw 23, .rw 24, .rw 25, .rw 26, .rw 27, .rw 28, .rw 29, .rw 30], .box [.rw 2], .row 6 Ob encOb L, .dead, .dead, .dead, .dead, .dead, .dead, .dead, .dead, .box [.ptr 12 0, .rw 31, .rw 32, .rw 33, .rw 34, .rw 35, .rw 36, .rw 37, .rw 38], .box [.rw 13], .row 6 Ob encOb L, .dead, .dead, .dead, .dead, .dead, .dead, .dead, .dead, .row 1 Int encI made, .row 1 Bool encBo (t.o 0), .row 1 Bool encBo (t.o 1), .row 1 Bool encBo (t.o 2), .row 1 Bool encBo (t.o 3), .row 1 Int encI (t.b 0), .row 1 Int encI (t.b 1), .row 1 Int encI (t.b 2), .row 1 Int encI (t.b 3), .row 1 Int encI (t.w 0), .row 1 Int encI (t.w 1), .row 1 Int encI (t.w 2), .row 1 Int encI (t.w 3), .row 1 Int encI (t.b 0), .row 1 Int encI (t.b 1), .row 1 Int encI (t.b 2), .row 1 Int encI (t.b 3)] (.c (.bool true)) p1 (by kernel_rfl) (by kernel_rfl) ?_ (by (repeat' first | exact trivial | exact rfl | refine And.intro ?_ ?_); first | done | fail) rfl
  repeat' ((conv => whnf); refine I6 ?_)
  refine ag (i + 1, t) [] [.same 0, .same 1, .same 2, .same 23, .same 24, .same 25, .same 26, .same 27, .same 28, .same 29, .same 30, .same 11, .same 12, .same 13, .same 31, .same 32, .same 33, .same 34, .same 35, .same 36, .same 37, .same 38, .same 22] ⟨⟨hlt, ht⟩, trivial⟩ (by simp only []; omega) ?_
  repeat' first | exact trivial | exact rfl | refine And.intro ?_ ?_
 ·have hb4 := hs.nd.ok
  have o1 := one_spec made k
  generalize oneP made k = id at o1
  have q1 := wholeD_spec L hL s.o s.b hb4 r id
  have hwn := whole_none (L := L) (has := hasP ⟨s.o, s.b⟩) (r := r) (id := id)
  have hww := fun a h => whole_want (L := L) (has := hasP ⟨s.o, s.b⟩) (r := r) (id := id) (all := a) h
  have hpa := whole_path hL (has := hasP ⟨s.o, s.b⟩) (r := r) (id := id)
  generalize wholeP L (hasP ⟨s.o, s.b⟩) r id = R at q1 hwn hww hpa
  obtain ⟨all, c⟩ := R
  dsimp only at q1 hwn hpa
  (conv => whnf)
  refine dec (fun h5 => ?_) (fun h5 => ?_)
  ·(conv => whnf)
   exact rtC rfl rfl
  (conv => whnf)
  refine cl [] [] (o1) ?_
  (conv => whnf)
  refine cl [] [] (q1) ?_
  (conv => whnf)
  refine decN (fun h6 => ?_) (fun h6 => ?_)
  ·have h6 : ¬ c = 0 := h6
   rw [hwn h6]
   (conv => whnf)
   exact rtB rfl
  obtain rfl : c = 0 := h6
  obtain ⟨w1, w2, w3, w4, w5, w6, w7⟩ := hww all rfl
  have g1 := get_spec L hL id
  have f1 := flatFiles_spec L hL (getP L id).tree
  obtain ⟨hfl, hfp⟩ := files_sum hL (getP L id).tree
  generalize getP L id = ob at g1 f1 hfl hfp w2 w3 w4 w7
  generalize filesP L ob.tree = fs at f1 hfl hfp w2 w3 w4 w7
  obtain ⟨fs, fc⟩ := fs
  dsimp only at f1 hfl hfp w2 w3 w4 w7
  have hW := fun r id => wholeD_spec L hL s.o s.b hb4 r id
  have hWp := fun r id => whole_path hL (has := hasP ⟨s.o, s.b⟩) (r := r) (id := id)
  generalize hWe : (fun r id => (wholeP L (hasP ⟨s.o, s.b⟩) r id).1) = W at w4 w7
  have hwl := w7.length_eq
  (conv => whnf)
  refine cl [] [] (g1) ?_
  (conv => whnf)
  refine ⟨false, .grow, (.l [0, 1, 2, 3, 4, 5, 6, 7, 8, 9, 10, 11]), by kernel_rfl, .inl ?_⟩
  (conv => whnf)
  refine cl [] [] (f1) ?_
  (conv => whnf)
  refine lp Nat (fun i => ⟨[(11, .c (.ptr 0 0)), (17, .c (.rw 11)), (21, .c (.rw 12)), (23, .c (.rw 13)), (24, .c (.int .i64 i))], [.box [.ptr 1 0, .rw 3, .rw 4, .rw 5, .rw 6, .rw 7, .rw 8, .rw 9, .rw 10], .box [.rw 2], .row 6 Ob encOb L, .row 1 Bool encBo (s.o 0), .row 1 Bool encBo (s.o 1), .row 1 Bool encBo (s.o 2), .row 1 Bool encBo (s.o 3), .row 1 Int encI (s.b 0), .row 1 Int encI (s.b 1), .row 1 Int encI (s.b 2), .row 1 Int encI (s.b 3), .row 4 Fi encFi all, .row 4 Fi encFi fs, .row 4 Fi encFi (wantL W (fs.take i))]⟩) (fun i => i ≤ fs.length ∧ True) (fun i => fs.length - i) 0 [] [.same 0, .same 1, .same 2, .same 3, .same 4, .same 5, .same 6, .same 7, .same 8, .same 9, .same 10, .same 23, .same 25, .new] ⟨Nat.zero_le _, trivial⟩ ?_ (fun i hi => ?_)
  ·repeat' first | exact trivial | exact rfl | refine And.intro ?_ ?_
  obtain ⟨hi, -⟩ := hi
  have hcl := want_len (W := W) (l := fs) (i := i)
  (conv => whnf)
  refine dec (fun h7 => ?_) (fun h7 => ?_)
  ·have hlt : i < fs.length := by have h7 : (i : Int) < fs.length := h7; omega
   have hiy : fs[i]? = some fs[i] := List.getElem?_eq_getElem hlt
   have hst := want_take (W := W) hlt
   have hxp := hfp _ (List.getElem_mem hlt)
   have hx3 := w3 _ (List.getElem_mem hlt)
   have hnl := want_len (W := W) (l := fs) (i := i + 1)
   generalize fs[i] = x at hiy hst hxp hx3
   generalize wantL W (fs.take i) = cur at hst hcl ⊢
   (conv => whnf)
   refine ⟨i, ⟨rfl, hlt⟩, ?_⟩
   (conv => whnf)
   refine ⟨x, hiy, ?_⟩
   (conv => whnf)
   refine decN (fun h8 => ?_) (fun h8 => ?_)
   ·have h8 : ¬ x.mode = 3 := h8
    rw [if_neg h8] at hst
    rw [hst, List.length_append, List.length_singleton] at hnl
    (conv => whnf)
    refine ⟨i, ⟨rfl, hlt⟩, ?_⟩
    (conv => whnf)
    refine ⟨x, hiy, ?_⟩
    (conv => whnf)
    refine ⟨[x], rfl, ?_⟩
    (conv => whnf)
    refine ⟨_, _, rfl, rfl, (by simp only [List.length_append, List.length_cons, List.length_nil]; omega), ?_⟩
    repeat' ((conv => whnf); refine I6 ?_)
    refine ag (i + 1) [] [.same 0, .same 1, .same 2, .same 3, .same 4, .same 5, .same 6, .same 7, .same 8, .same 9, .same 10, .same 11, .same 12, .same 15] ⟨hlt, trivial⟩ (by simp only []; omega) ?_
    rw [hst]
    repeat' first | exact trivial | exact rfl | refine And.intro ?_ ?_
   ·have h8 : x.mode = 3 := h8
    rw [if_pos h8] at hst
    (conv => whnf)
    refine ⟨false, .grow, (.l [0, 1, 2, 3, 4, 5, 6, 7, 8, 9, 10, 11, 12, 13, 14, 15, 16]), by kernel_rfl, .inl ?_⟩
    (conv => whnf)
    refine ⟨i, ⟨rfl, hlt⟩, ?_⟩
    (conv => whnf)
    refine ⟨x, hiy, ?_⟩
    (conv => whnf)
    refine ⟨i, ⟨rfl, hlt⟩, ?_⟩
    (conv => whnf)
    refine ⟨x, hiy, ?_⟩
    have q2 := hW x.repo x.id
    have hip := hWp x.repo x.id
    have hx3 := hx3 h8
    have hWi : W x.repo x.id = (wholeP L (hasP ⟨s.o, s.b⟩) x.repo x.id).1 := by rw [← hWe]
    rw [hWi] at hst
    generalize wholeP L (hasP ⟨s.o, s.b⟩) x.repo x.id = Z at q2 hip hx3 hst
    obtain ⟨inn, e⟩ := Z
    dsimp only at q2 hip hx3 hst
    obtain rfl : e = 0 := hx3
    rw [← addQ_pre] at hst
    rw [hst, List.length_append, List.length_map] at hnl
    (conv => whnf)
    refine cl [] [] (q2) ?_
    (conv => whnf)
    refine lp Nat (fun n => ⟨[(11, .c (.ptr 0 0)), (17, .c (.rw 11)), (21, .c (.rw 12)), (23, .c (.rw 13)), (24, .c (.int .i64 i)), (25, .c (.rw 14)), (27, .c (.int .i64 n))], [.box [.ptr 1 0, .rw 3, .rw 4, .rw 5, .rw 6, .rw 7, .rw 8, .rw 9, .rw 10], .box [.rw 2], .row 6 Ob encOb L, .row 1 Bool encBo (s.o 0), .row 1 Bool encBo (s.o 1), .row 1 Bool encBo (s.o 2), .row 1 Bool encBo (s.o 3), .row 1 Int encI (s.b 0), .row 1 Int encI (s.b 1), .row 1 Int encI (s.b 2), .row 1 Int encI (s.b 3), .row 4 Fi encFi all, .row 4 Fi encFi fs, .row 4 Fi encFi (cur ++ (inn.take n).map (addQ (x.path ++ [47]))), .row 4 Fi encFi inn]⟩) (fun n => n ≤ inn.length ∧ True) (fun n => inn.length - n) 0 [] [.same 0, .same 1, .same 2, .same 3, .same 4, .same 5, .same 6, .same 7, .same 8, .same 9, .same 10, .same 11, .same 12, .same 13, .same 14] ⟨Nat.zero_le _, trivial⟩ ?_ (fun n hn => ?_)
    ·rw [List.take_zero, List.map_nil, List.append_nil]
     repeat' first | exact trivial | exact rfl | refine And.intro ?_ ?_
    obtain ⟨hn, -⟩ := hn
    (conv => whnf)
    refine dec (fun h9 => ?_) (fun h9 => ?_)
    ·have hnt : n < inn.length := by have h9 : (n : Int) < inn.length := h9; omega
     have hny : inn[n]? = some inn[n] := List.getElem?_eq_getElem hnt
     have hyp := hip _ (List.getElem_mem hnt)
     have hs2 : (inn.take (n + 1)).map (addQ (x.path ++ [47])) = (inn.take n).map (addQ (x.path ++ [47])) ++ [addQ (x.path ++ [47]) inn[n]] := by rw [List.take_succ_eq_append_getElem hnt, List.map_append]; rfl
     have hcl2 : (cur ++ (inn.take n).map (addQ (x.path ++ [47]))).length ≤ 60 := by
      rw [List.length_append, List.length_map, List.length_take]; omega
     have hs3 : cur ++ (inn.take (n + 1)).map (addQ (x.path ++ [47])) = (cur ++ (inn.take n).map (addQ (x.path ++ [47]))) ++ [addQ (x.path ++ [47]) inn[n]] := by rw [hs2, List.append_assoc]
     generalize inn[n] = y at hny hyp hs3
     generalize cur ++ (inn.take n).map (addQ (x.path ++ [47])) = cu at hs3 hcl2 ⊢
     (conv => whnf)
     refine ⟨n, ⟨rfl, hnt⟩, ?_⟩
     (conv => whnf)
     refine ⟨y, hny, ?_⟩
     (conv => whnf)
     refine ⟨false, .grow, (.l [0, 1, 2, 3, 4, 5, 6, 7, 8, 9, 10]), by kernel_rfl, .inl ?_⟩
     (conv => whnf)
     refine ⟨i, ⟨rfl, hlt⟩, ?_⟩
     (conv => whnf)
     refine ⟨x, hiy, ?_⟩
     (conv => whnf)
     refine ⟨(show x.path.length + 1 ≤ 9223372036854775807 by omega), ?_⟩
     (conv => whnf)
     refine ⟨(show (x.path ++ [47]).length + y.path.length ≤ 9223372036854775807 by rw [List.length_append, List.length_singleton]; omega), ?_⟩
     (conv => whnf)
     refine ⟨[addQ (x.path ++ [47]) y], rfl, ?_⟩
     (conv => whnf)
     refine ⟨_, _, rfl, rfl, (by simp only [List.length_append, List.length_cons, List.length_nil]; omega), ?_⟩
     repeat' ((conv => whnf); refine I6 ?_)
     refine ag (n + 1) [] [.same 0, .same 1, .same 2, .same 3, .same 4, .same 5, .same 6, .same 7, .same 8, .same 9, .same 10, .same 11, .same 12, .same 17, .same 14] ⟨hnt, trivial⟩ (by simp only []; omega) ?_
     rw [hs3]
     repeat' first | exact trivial | exact rfl | refine And.intro ?_ ?_
    ·obtain rfl : n = inn.length := by have h9 : ¬ (n : Int) < inn.length := h9; omega
     rw [List.take_length, ← hst]
     repeat' ((conv => whnf); refine I6 ?_)
     refine ag (i + 1) [] [.same 0, .same 1, .same 2, .same 3, .same 4, .same 5, .same 6, .same 7, .same 8, .same 9, .same 10, .same 11, .same 12, .same 13] ⟨hlt, trivial⟩ (by simp only []; omega) ?_
     repeat' first | exact trivial | exact rfl | refine And.intro ?_ ?_
  ·obtain rfl : i = fs.length := by have h7 : ¬ (i : Int) < fs.length := h7; omega
   rw [List.take_length]
   generalize hwe : wantL W fs = wl at w4 w7 hwl hcl ⊢
   (conv => whnf)
   refine lp Nat (fun i => ⟨[(17, .c (.rw 11)), (23, .c (.rw 13)), (29, .c (.int .i64 i))], [.box [.ptr 1 0, .rw 3, .rw 4, .rw 5, .rw 6, .rw 7, .rw 8, .rw 9, .rw 10], .box [.rw 2], .row 6 Ob encOb L, .row 1 Bool encBo (s.o 0), .row 1 Bool encBo (s.o 1), .row 1 Bool encBo (s.o 2), .row 1 Bool encBo (s.o 3), .row 1 Int encI (s.b 0), .row 1 Int encI (s.b 1), .row 1 Int encI (s.b 2), .row 1 Int encI (s.b 3), .row 4 Fi encFi all, .row 4 Fi encFi fs, .row 4 Fi encFi wl]⟩) (fun i => i ≤ all.length ∧ True) (fun i => all.length - i) 0 [] [.same 0, .same 1, .same 2, .same 3, .same 4, .same 5, .same 6, .same 7, .same 8, .same 9, .same 10, .same 11, .same 12, .same 13] ⟨Nat.zero_le _, trivial⟩ ?_ (fun i hi => ?_)
   ·repeat' first | exact trivial | exact rfl | refine And.intro ?_ ?_
   (conv => whnf)
   refine dec (fun h8 => ?_) (fun h8 => ?_)
   ·have hlt : i < all.length := by have h8 : (i : Int) < all.length := h8; omega
    have hiy : all[i]? = some all[i] := List.getElem?_eq_getElem hlt
    have hm1 := w5 _ (List.getElem_mem hlt)
    generalize all[i] = x at hiy hm1
    (conv => whnf)
    refine ⟨i, ⟨rfl, hlt⟩, ?_⟩
    (conv => whnf)
    refine ⟨x, hiy, ?_⟩
    (conv => whnf)
    refine decN (fun h => absurd hm1 h) (fun _ => ?_)
    repeat' ((conv => whnf); refine I6 ?_)
    refine ag (i + 1) [] [.same 0, .same 1, .same 2, .same 3, .same 4, .same 5, .same 6, .same 7, .same 8, .same 9, .same 10, .same 11, .same 12, .same 13] ⟨hlt, trivial⟩ (by simp only []; omega) ?_
    repeat' first | exact trivial | exact rfl | refine And.intro ?_ ?_
   ·have n1 := inOrder_spec wl (by omega) (fun f hf => by have := hpa f (w7.mem_iff.1 hf); omega)
    rw [w4] at n1
    have n2 := sameFiles_spec all all
    rw [show decide (all = all) = true from decide_eq_true rfl] at n2
    (conv => whnf)
    refine cl [] [] (n1) ?_
    (conv => whnf)
    refine cl [] [] (n2) ?_
    (conv => whnf)
    exact rtB rfl
end Go.Nest
end
