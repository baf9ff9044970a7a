/- part -/
import Derived.Test.YtpmjnbidmcnhnaaGreatDoorW7
import Derived.Test.YtpmjnbidmcnhnaaGreatDoorP8
import Derived.Test.YtpmjnbidmcnhnaaGreatDoorR5
import Derived.Test.YtpmjnbidmcnhnaaGreatDoorP10
import Derived.Test.YtpmjnbidmcnhnaaGreatDoorG3
import Derived.Test.YtpmjnbidmcnhnaaGreatDoorTab3
set_option linter.unusedVariables false
set_option linter.unusedSimpArgs false
section

namespace Go.Nest
open Go Go.AM Go.Proofs
open Go.Proofs.YtpmjnbidmcnhnaaGreatDoor (tab tabOk)
set_option maxRecDepth 4000
def meets (p : List UInt8) (f : Fi) : Bool := (underP f.path p).2 || ((underP p f.path).2 || decide (f.path = p))
def blobO (b : List UInt8) : Ob := ⟨1, b, [], 0, [], []⟩
def docStep (s : List Ob × List Fi) (d : Dc) : List Ob × List Fi :=
 if (splitP d.path).2 ≠ 0 then s else if 400 < d.bytes.length then s else if s.2.any (meets d.path) = true then s
 else ((putP s.1 (blobO d.bytes)).2.2, if (putP s.1 (blobO d.bytes)).2.1 = 0 then s.2 ++ [⟨d.path, 1, (putP s.1 (blobO d.bytes)).1, 0⟩] else s.2)
def docsU (L : List Ob) (l : List Dc) : List Ob × List Fi := l.foldl docStep (L, [])
theorem docsU_succ {L : List Ob} {l : List Dc} {i : Nat} (h : i < l.length) : docsU L (l.take (i + 1)) = docStep (docsU L (l.take i)) l[i] := by
 unfold docsU
 rw [List.take_succ_eq_append_getElem h, List.foldl_append]; rfl
theorem docStep_ok {s : List Ob × List Fi} {d : Dc} (h : PoolOk s.1) : PoolOk (docStep s d).1 := by
 unfold docStep
 split
 ·exact h
 split
 ·exact h
 split
 ·exact h
 exact putP_ok h _
theorem docStep_out {s : List Ob × List Fi} {d : Dc} : (docStep s d).2 = s.2 ∨ ∃ id, (docStep s d).2 = s.2 ++ [⟨d.path, 1, id, 0⟩] := by
 unfold docStep
 split
 ·exact .inl rfl
 split
 ·exact .inl rfl
 split
 ·exact .inl rfl
 dsimp only
 split
 ·exact .inr ⟨_, rfl⟩
 ·exact .inl rfl
theorem docs_fold {P : List Ob × List Fi → Prop} {l : List Dc} (hs : ∀ s d, d ∈ l → P s → P (docStep s d)) {s : List Ob × List Fi} (h : P s) : P (l.foldl docStep s) := by
 induction l generalizing s with
 | nil => exact h
 | cons d l ih => exact ih (fun s d hd => hs s d (by simp [hd])) (hs s d (by simp) h)
theorem docs_ok {L : List Ob} {l : List Dc} (h : PoolOk L) : PoolOk (docsU L l).1 := docs_fold (P := fun s => PoolOk s.1) (fun s d _ h => docStep_ok h) h
theorem docs_path {L : List Ob} {l : List Dc} : ∀ f ∈ (docsU L l).2, ∃ d ∈ l, f.path = d.path :=
 docs_fold (P := fun s => ∀ f ∈ s.2, ∃ d ∈ l, f.path = d.path) (fun s d hd h f hf => by
  rcases docStep_out (s := s) (d := d) with e | ⟨id, e⟩
  ·rw [e] at hf; exact h f hf
  ·rw [e, List.mem_append, List.mem_singleton] at hf
   rcases hf with hf | rfl
   ·exact h f hf
   ·exact ⟨d, hd, rfl⟩) (fun f hf => by cases hf)
theorem docs_len : ∀ {l : List Dc} {s : List Ob × List Fi}, (l.foldl docStep s).2.length ≤ s.2.length + l.length
 | [], s => by simp
 | d :: l, s => by
  have := docs_len (l := l) (s := docStep s d)
  have : (docStep s d).2.length ≤ s.2.length + 1 := by
   rcases docStep_out (s := s) (d := d) with e | ⟨id, e⟩ <;> rw [e] <;> simp
  simp only [List.foldl_cons, List.length_cons]; omega
set_option maxHeartbeats 4000000 in
theorem docFiles_spec (L : List Ob) (hL : PoolOk L) (l : List Dc) (hl : DocsOk l) : Does Tryz.prog 34 [.c (.ptr 0 0), .c (.ptr 2 0), .c (.bs 2 Dc encDc l)] [.box [.rw 1], .row 6 Ob encOb L, .box [.rw 3], .row 6 Ob encOb L]
  (Rt (.c (.rw 6)) [.box [.rw 4], .dead, .box [.rw 5], .dead, .row 6 Ob encOb (docsU L l).1, .row 6 Ob encOb (docsU L l).1, .row 4 Fi encFi (inOrdP (docsU L l).2)]) := by
 refine X_spec (n := 139) (n0 := 4) tabOk Tryz.call34 Tryz.func34 ?_
 intro hb
 have hll := hl.1
 (conv => whnf)
 refine lp Nat (fun i => ⟨[(0, .c (.ptr 0 0)), (1, .c (.ptr 2 0)), (2, .c (.bs 2 Dc encDc l)), (7, .c (.rw 6)), (8, .c (.int .i64 i))],
  [.box [.rw 4], .dead, .box [.rw 5], .dead, .row 6 Ob encOb (docsU L (l.take i)).1, .row 6 Ob encOb (docsU L (l.take i)).1, .row 4 Fi encFi (docsU L (l.take i)).2]⟩) (fun i => i ≤ l.length ∧ True) (fun i => l.length - i) 0 [] [.same 0, .same 1, .same 2, .same 3, .same 1, .same 3, .new] ?_ ?_ (fun i hi => ?_)
 ·simp
 ·repeat' first | exact trivial | exact rfl | refine And.intro ?_ ?_
 have hM : PoolOk (docsU L (l.take i)).1 := docs_ok hL
 have hfp : ∀ f ∈ (docsU L (l.take i)).2, f.path.length ≤ 6000 := fun f hf => by
  obtain ⟨d, hd, e⟩ := docs_path f hf
  rw [e]; exact (hl.2 d (List.mem_of_mem_take hd)).1
 have hol : (docsU L (l.take i)).2.length ≤ l.length := by
  have := docs_len (l := l.take i) (s := (L, []))
  rw [List.length_take] at this
  unfold docsU
  simp at this; omega
 (conv => whnf)
 refine dec (fun h4 => ?_) (fun h4 => ?_)
 ·have hlt : i < l.length := by omega
  have hsu := docsU_succ (L := L) hlt
  generalize docsU L (l.take i) = s at *
  obtain ⟨M, out⟩ := s
  dsimp only at hM hfp hol hsu
  have hML := hM.len
  obtain ⟨hp, hbl⟩ := hl.2 _ (List.getElem_mem hlt)
  generalize hd : l[i] = d at *
  have hld : l[i]? = some d := by rw [List.getElem?_eq_getElem hlt, hd]
  (conv => whnf)
  refine ⟨i, d, rfl, hld, ?_⟩
  (conv => whnf)
  refine cl [] [] (pathOf_spec d.path (by omega)) ?_
  (conv => whnf)
  refine decN (fun h5 => ?_) (fun h5 => ?_)
  ·have e : docStep (M, out) d = (M, out) := by unfold docStep; rw [if_pos h5]
   rw [e] at hsu
   repeat' ((conv => whnf); refine I6 ?_)
   refine ag (i + 1) [] [.same 0, .same 1, .same 2, .same 3, .same 4, .same 5, .same 6] ⟨hlt, trivial⟩ (by simp only []; omega) ?_
   rw [hsu]
   repeat' first | exact trivial | exact rfl | refine And.intro ?_ ?_
  have h5 : ¬ (splitP d.path).2 ≠ 0 := by simpa using h5
  (conv => whnf)
  refine ⟨i, d, rfl, hld, ?_⟩
  (conv => whnf)
  refine dec (fun h6 => ?_) (fun h6 => ?_)
  ·have e : docStep (M, out) d = (M, out) := by unfold docStep; rw [if_neg h5, if_pos (by omega)]
   rw [e] at hsu
   repeat' ((conv => whnf); refine I6 ?_)
   refine ag (i + 1) [] [.same 0, .same 1, .same 2, .same 3, .same 4, .same 5, .same 6] ⟨hlt, trivial⟩ (by simp only []; omega) ?_
   rw [hsu]
   repeat' first | exact trivial | exact rfl | refine And.intro ?_ ?_
  (conv => whnf)
  refine lp Nat (fun k => ⟨[(0, .c (.ptr 0 0)), (1, .c (.ptr 2 0)), (2, .c (.bs 2 Dc encDc l)), (7, .c (.rw 6)), (8, .c (.int .i64 i)), (11, .c (.bool ((out.take k).any (meets d.path)))), (12, .c (.int .i64 k))], [.box [.rw 4], .dead, .box [.rw 5], .dead, .row 6 Ob encOb M, .row 6 Ob encOb M, .row 4 Fi encFi out]⟩) (fun k => k ≤ out.length ∧ True) (fun k => out.length - k) 0 [] [.same 0, .same 1, .same 2, .same 3, .same 4, .same 5, .same 6] ?_ ?_ (fun k hk => ?_)
  ·simp
  ·repeat' first | exact trivial | exact rfl | refine And.intro ?_ ?_
  (conv => whnf)
  refine dec (fun h7 => ?_) (fun h7 => ?_)
  ·have hkl : k < out.length := by omega
   have hfk := hfp _ (List.getElem_mem hkl)
   have hst : (out.take (k + 1)).any (meets d.path) = ((out.take k).any (meets d.path) || ((underP out[k].path d.path).2 || ((underP d.path out[k].path).2 || decide (out[k].path = d.path)))) := by
    rw [List.take_succ_eq_append_getElem hkl, List.any_append, List.any_cons, List.any_nil, Bool.or_false]; rfl
   (conv => whnf)
   refine ⟨false, .grow, (.l [0, 1, 2, 3, 4, 5, 6, 7, 8, 9, 10, 11, 12, 13, 14, 15]), by kernel_rfl, .inl ?_⟩
   (conv => whnf)
   refine ⟨k, ⟨rfl, hkl⟩, ?_⟩
   (conv => whnf)
   refine ⟨out[k], List.getElem?_eq_getElem hkl, ?_⟩
   (conv => whnf)
   refine ⟨i, d, rfl, hld, ?_⟩
   (conv => whnf)
   refine cl [] [] (behind_spec out[k].path d.path (by omega)) ?_
   (conv => whnf)
   refine ⟨false, .grow, (.l [0, 1, 2, 3, 4, 5, 6, 7, 8, 9, 10, 11, 12, 13, 14, 15]), by kernel_rfl, .inl ?_⟩
   (conv => whnf)
   refine ⟨i, d, rfl, hld, ?_⟩
   (conv => whnf)
   refine ⟨k, ⟨rfl, hkl⟩, ?_⟩
   (conv => whnf)
   refine ⟨out[k], List.getElem?_eq_getElem hkl, ?_⟩
   (conv => whnf)
   refine cl [] [] (behind_spec d.path out[k].path (by omega)) ?_
   (conv => whnf)
   refine ⟨false, .grow, (.l [0, 1, 2, 3, 4, 5, 6, 7, 8, 9, 10, 11, 12, 13, 14, 15, 16, 17, 18, 19, 20]), by kernel_rfl, .inl ?_⟩
   (conv => whnf)
   refine boo (fun q1 => ?_) (fun q1 => ?_)
   ·rw [q1, Bool.true_or] at hst
    repeat' ((conv => whnf); refine I6 ?_)
    refine ag (k + 1) [] [.same 0, .same 1, .same 2, .same 3, .same 4, .same 5, .same 6] ⟨hkl, trivial⟩ (by simp only []; omega) ?_
    rw [hst]
    repeat' first | exact trivial | exact rfl | refine And.intro ?_ ?_
   rw [q1, Bool.false_or] at hst
   (conv => whnf)
   refine boo (fun q2 => ?_) (fun q2 => ?_)
   ·rw [q2, Bool.true_or] at hst
    repeat' ((conv => whnf); refine I6 ?_)
    refine ag (k + 1) [] [.same 0, .same 1, .same 2, .same 3, .same 4, .same 5, .same 6] ⟨hkl, trivial⟩ (by simp only []; omega) ?_
    rw [hst]
    repeat' first | exact trivial | exact rfl | refine And.intro ?_ ?_
   rw [q2, Bool.false_or] at hst
   (conv => whnf)
   refine boo (fun q3 => ?_) (fun q3 => ?_)
   ·rw [q3, Bool.true_or] at hst
    repeat' ((conv => whnf); refine I6 ?_)
    refine ag (k + 1) [] [.same 0, .same 1, .same 2, .same 3, .same 4, .same 5, .same 6] ⟨hkl, trivial⟩ (by simp only []; omega) ?_
    rw [hst]
    repeat' first | exact trivial | exact rfl | refine And.intro ?_ ?_
   rw [q3, Bool.false_or] at hst
   (conv => whnf)
   refine ⟨k, ⟨rfl, hkl⟩, ?_⟩
   (conv => whnf)
   refine ⟨out[k], List.getElem?_eq_getElem hkl, ?_⟩
   (conv => whnf)
   refine ⟨i, d, rfl, hld, ?_⟩
   repeat' ((conv => whnf); refine I6 ?_)
   refine ag (k + 1) [] [.same 0, .same 1, .same 2, .same 3, .same 4, .same 5, .same 6] ⟨hkl, trivial⟩ (by simp only []; omega) ?_
   rw [hst]
   repeat' first | exact trivial | exact rfl | refine And.intro ?_ ?_
  ·obtain rfl : k = out.length := by omega
   rw [List.take_length]
   have hid : ∀ x, docStep (M, out) d = x → docsU L (l.take (i + 1)) = x := fun x e => by rw [hsu, e]
   (conv => whnf)
   refine boo (fun h8 => ?_) (fun h8 => ?_)
   ·have e := hid (M, out) (by unfold docStep; rw [if_neg h5, if_neg (by omega), if_pos h8])
    repeat' ((conv => whnf); refine I6 ?_)
    refine ag (i + 1) [] [.same 0, .same 1, .same 2, .same 3, .same 4, .same 5, .same 6] ⟨hlt, trivial⟩ (by simp only []; omega) ?_
    rw [e]
    repeat' first | exact trivial | exact rfl | refine And.intro ?_ ?_
   have e := hid _ (by unfold docStep; rw [if_neg h5, if_neg (by omega), if_neg (by simp [h8])])
   (conv => whnf)
   refine ⟨i, d, rfl, hld, ?_⟩
   (conv => whnf)
   refine cl [] [0, 4] (put_spec M (blobO d.bytes) hML) ?_
   (conv => whnf)
   refine cl [] [2, 5] (putR_spec M (blobO d.bytes) hML) ?_
   generalize putP M (blobO d.bytes) = R at *
   (conv => whnf)
   refine dec (fun h9 => ?_) (fun h9 => ?_)
   ·rw [if_pos h9] at e
    (conv => whnf)
    refine dec (fun _ => ?_) (fun h => absurd h9 h)
    (conv => whnf)
    refine ⟨i, d, rfl, hld, ?_⟩
    (conv => whnf)
    refine ⟨[⟨d.path, 1, R.1, 0⟩], rfl, ?_⟩
    (conv => whnf)
    refine ⟨_, _, rfl, rfl, (by simp only [List.length_append, List.length_cons, List.length_nil]; omega), ?_⟩
    repeat' ((conv => whnf); refine I6 ?_)
    refine ag (i + 1) [] [.same 0, .same 1, .same 2, .same 3, .same 8, .same 9, .same 11] ⟨hlt, trivial⟩ (by simp only []; omega) ?_
    rw [e]
    repeat' first | exact trivial | exact rfl | refine And.intro ?_ ?_
   ·rw [if_neg h9] at e
    repeat' ((conv => whnf); refine I6 ?_)
    refine ag (i + 1) [] [.same 0, .same 1, .same 2, .same 3, .same 8, .same 9, .same 6] ⟨hlt, trivial⟩ (by simp only []; omega) ?_
    rw [e]
    repeat' first | exact trivial | exact rfl | refine And.intro ?_ ?_
 ·have e : l.take i = l := List.take_of_length_le (by omega)
  rw [e]
  (conv => whnf)
  refine cl [] [] (inOrder_spec (docsU L l).2 (by rw [e] at hol; omega) (fun f hf => by rw [e] at hfp; have := hfp f hf; omega)) ?_
  (conv => whnf)
  exact rx [] [.same 0, .same 1, .same 2, .same 3, .same 4, .same 5, .same 7]
end Go.Nest
end
/- part -/
section

namespace Go.Nest
open Go Go.AM
structure Kept (L : List Ob) (t : Int) (fs : List Fi) : Prop where
 tree : TreeOf true L t fs
 ok : filesF fs = 0
theorem Kept.mono {L M : List Ob} {t : Int} {fs : List Fi} (h : Kept L t fs) (hx : L <+: M) : Kept M t fs := ⟨h.tree.mono hx, h.ok⟩
theorem Kept.files {L : List Ob} {t : Int} {fs : List Fi} (h : Kept L t fs) (hp : PoolOk L) : filesP L t = (fs, 0) :=
 tree_files hp h.tree (filesF_all h.ok).1 fun f hf => (split_zero ((filesF_all h.ok).2 f hf).1).2.1
theorem Kept.build {L : List Ob} {t : Int} {fs : List Fi} (h : Kept L t fs) (hp : PoolOk L) : buildP L fs = (t, 0, L) := by
 unfold buildP
 rw [if_neg (by simpa using h.ok)]
 exact (tree_again hp h.tree (Nat.lt_succ_self _)).2 rfl
theorem Kept.of {L : List Ob} {fs : List Fi} (hp : PoolOk L) (h : (buildP L fs).2.1 = 0) : Kept (buildP L fs).2.2 (buildP L fs).1 fs := ⟨(buildP_tree hp h).2, (buildP_tree hp h).1⟩
end Go.Nest
end
/- part -/
section

namespace Go.Nest
open Go Go.AM
theorem Anc.trans {L : List Ob} {a b c : Int} (h : Anc L a b) (h2 : Anc L b c) : Anc L a c := by
 induction h with
 | refl => exact h2
 | step h _ ih => exact .step h (ih h2)
theorem Anc.first {L : List Ob} {a b : Int} (h : Anc L a b) : b = a ∨ ∃ p ∈ (getP L a).parents, Anc L p b := by
 cases h with
 | refl => exact .inl rfl
 | step h1 h2 => exact .inr ⟨_, h1, h2⟩
end Go.Nest
end
/- part -/
section

namespace Go.AM
open Go Go.NB
theorem Does.conv {P : Program} {f : FuncId} {c c' : C} {args : List A} {ah : List B} {Q : Out → List B → Prop} (h : Does P f (.c c :: args) ah Q) (hc : ∀ {F : Nat → Prop} {H : Heap} {m : Md} {v : Value}, RL F H m [c'] [v] → RL F H m [c] [v]) : Does P f (.c c' :: args) ah Q :=
 fun F L γ H vs h1 h2 => h F L γ H vs (match vs, h1 with | _ :: _, ⟨h3, h4⟩ => ⟨hc h3, h4⟩) h2
end Go.AM
namespace Go.Nest
open Go Go.AM Go.Proofs
open Go.NB (Heap)
open Go.Proofs.YtpmjnbidmcnhnaaGreatDoor.T3 (tab tabOk)
set_option maxRecDepth 4000
theorem nl_ls {F : Nat → Prop} {H : Heap} {m : Md} {sz : Nat} {α : Type} {enc enc' : α → List C} {l : List α} {v : Value} (hz : ∀ x, (enc x).length = (enc' x).length) (hc : ∀ {css}, RL F H m0 (l.flatMap enc') css → RL F H m0 (l.flatMap enc) css) (h : RL F H m [nl sz α enc' l] [v]) : RL F H m [.ls sz α enc l] [v] := by
 cases l with
 | nil => cases h with | nil _ => exact .ls0 .nl
 | cons x l =>
  unfold nl at h
  cases h with
  | ls hb h1 h2 hr hs hq _ => exact .ls hb h1 h2 (hc hr) (fun y hy => by rw [hz]; exact hs y hy) hq .nl
theorem flat_conv {F : Nat → Prop} {H : Heap} {α : Type} {enc enc' : α → List C} (h1 : ∀ x {cs}, RL F H m0 (enc' x) cs → RL F H m0 (enc x) cs) : ∀ {l : List α} {css : List Value}, RL F H m0 (l.flatMap enc') css → RL F H m0 (l.flatMap enc) css
 | [], css, h => h
 | x :: l, css, h => by
  rw [List.flatMap_cons] at h ⊢
  obtain ⟨us, ws, rfl, h2, h3⟩ := h.split
  exact (h1 x h2).append (flat_conv h1 h3)
theorem dc_conv {F : Nat → Prop} {H : Heap} (x : Dc) {cs : List Value} (h : RL F H m0 (encDcN x) cs) : RL F H m0 (encDc x) cs := by
 unfold encDcN at h
 obtain ⟨v1, us, rfl, h1, h2⟩ := h.uncons
 obtain ⟨v2, us, rfl, h3, h4⟩ := h2.uncons
 exact h1.cons ((nl_ls (fun _ => rfl) (fun h => h) h3).cons h4)
end Go.Nest
end
