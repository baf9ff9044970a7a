/- WALKS, Q8: numbers in order: by the kit's contract of the sort. -/
import Derived.Test.YtgbppkcebaoebaaAmX
import Derived.Test.YtgbppkcebaoebaaL1
import Derived.Test.YtgbppkcebaoebaaG1b
import Derived.Test.YtgbppkcebaoebaaJ2
namespace Go.Nest
open Go Go.AM Go.NB Go.Proofs Go.Sort
open Go.Proofs.Ytgbppkcebaoebaa (tab tabOk)
set_option linter.unusedVariables false
set_option linter.unusedSimpArgs false
set_option maxRecDepth 4000

theorem ints_of {F : Nat → Prop} {H : Heap} {m : Md} : ∀ {l : List Int} {css : List Value}, RL F H m (l.flatMap encI) css → css = l.map (Value.int .i64)
  | [], _, h => by cases h; rfl
  | x :: l, css, h => by
    rw [List.flatMap_cons] at h
    cases h with
    | int t => rw [ints_of t]; rfl
theorem of_ints {F : Nat → Prop} {H : Heap} {m : Md} : ∀ (l : List Int), RL F H m (l.flatMap encI) (l.map (Value.int .i64))
  | [] => .nl
  | x :: l => .int (of_ints l)
theorem Does.of_sort {P : Program} {f : FuncId} {l l' : List Int} (hne : l ≠ []) (hlen : l'.length = l.length) (hcall : ∀ args w, (callFunc f args).run P w = .ok (.enter f args) w)
    (h : ∀ (blk off cap : Nat) (w : World), Holds (Value.int .i64) w blk off l.toArray → blk < w.heap.size → Calls P f #[.slice (some ⟨blk, off, none⟩) l.length cap] w fun e w' =>
      e = .returned (.tuple #[]) ∧ ∃ n os, w' = grow (putRow (Value.int .i64) (Sort.ahead w n) blk off l'.toArray) os) :
    Does P f [.c (.rw 0)] [.row 1 Int encI l] (Rt (.tup []) [.row 1 Int encI l']) := by
  intro F L γ H vs hargs hW w hw
  subst hw
  match vs, hargs with
  | [v], ⟨hv, _⟩ =>
    cases hv with
    | @rw _ _ p q n0 cap0 _ _ hg hq _ =>
      have hbr := hW.br 0 _ _ rfl hg
      rcases hbr with ⟨p', _, hl0⟩ | ⟨k, off, cap, cur, e, css, hpe, h1, h2, h3, h4, h5, h6, h7⟩
      · exact absurd hl0 hne
      obtain ⟨rfl, rfl, rfl⟩ : p = some ⟨k, off, none⟩ ∧ n0 = l.length ∧ cap0 = cap + 1 := by simpa using hpe
      obtain rfl := hq (by omega)
      have hk : k < w.heap.size := (Array.getElem?_eq_some_iff.1 h1).1
      have hcss := ints_of h5
      have hcl : css.length = l.length := by rw [hcss, List.length_map]
      have hget : ∀ j, j < l.length → cur[off + j]? = some (Value.int .i64 (l.toArray[j]!)) := fun j hj => by
        have h8 : ((cur.toList.drop off).take css.length)[j]? = css[j]? := by rw [h7]
        rw [List.getElem?_take_of_lt (by omega), List.getElem?_drop, hcss] at h8
        rw [← Array.getElem?_toList, h8, List.getElem?_map, List.getElem?_eq_getElem hj]
        simp [hj]
      have hH : Holds (Value.int .i64) w k off l.toArray := fun j hj => by
        have hj : j < l.length := by simpa using hj
        refine ⟨?_, ?_⟩
        · unfold World.cell?
          simp only [h1, Option.isSome_none]
          exact hget j hj
        · unfold World.frozen?
          simp only [h1]
          simp
      have hcon := h k off (cap + 1) w hH hk
      rw [hcall]
      refine ⟨rfl, hcon.mono fun e' w' ⟨he, n, os, hw'⟩ => .inl ⟨_, he, ?_, ?_⟩⟩
      · subst hw'
        have hob : obv (.row 1 Int encI l) (.slice (some ⟨k, off, none⟩) l.length (cap + 1)) = [k] := rfl
        obtain ⟨H1, hH1⟩ : ∃ H1, H1 = (putRow (Value.int .i64) (Sort.ahead w n) k off l'.toArray).heap := ⟨_, rfl⟩
        have hH1s : H1.size = w.heap.size := by rw [hH1]; unfold putRow mapBlock Sort.ahead; simp
        have hH1o : ∀ i, i ≠ k → H1[i]? = w.heap[i]? := fun i hi => by
          rw [hH1]; unfold putRow mapBlock Sort.ahead
          simp only [Array.getElem?_modify, if_neg (Ne.symm hi)]
        have hH1k : H1[k]? = some (.cells (putCells (Value.int .i64) off l'.toArray cur) e (0, 0)) := by
          rw [hH1]; unfold putRow mapBlock Sort.ahead
          simp only [Array.getElem?_modify, if_true, h1]
          rfl
        have hK : Keep [k] w.heap H1 := ⟨by rw [hH1s]; exact Nat.le_refl _, fun i _ hi => hH1o i (by simpa using hi)⟩
        have hcs : (putCells (Value.int .i64) off l'.toArray cur).size = cur.size := by unfold putCells; simp
        have hW1 := hW.upd (j := 0) (b1 := .row 1 Int encI l') rfl hg (by rw [hob]; exact hK) (fun q hq => by simpa [obv] using hq) (.inr ⟨k, off, cap, _, e, l'.map (Value.int .i64), by rw [hlen], hH1k, by omega, h3, by rw [hcs]; exact h4, of_ints l', fun x _ => rfl, ?_⟩)
        · have hW2 := hW1.same (H' := H1 ++ os) ⟨by simp, fun i hi _ => by rw [Array.getElem?_append_left hi]⟩
          refine ⟨.ret (.tup []), [.row 1 Int encI l'], F, γ, ⟨rfl, rfl⟩, rfl, rfl, rfl, ⟨[], rfl, trivial⟩, ?_⟩
          show WR _ F γ _ ((putRow (Value.int .i64) (Sort.ahead w n) k off l'.toArray).heap ++ os)
          rw [← hH1]
          exact hW2
        · refine List.ext_getElem? fun j => ?_
          by_cases hj : j < l'.length
          · rw [List.getElem?_take_of_lt (by simpa using hj), List.getElem?_drop, Array.getElem?_toList]
            have hoj : off + j < cur.size := by omega
            unfold putCells
            rw [Array.getElem?_mapIdx, Array.getElem?_eq_getElem hoj]
            simp [hj]
          · rw [List.getElem?_eq_none (by simp; omega), List.getElem?_eq_none (by simp; omega)]
      · subst hw'
        exact ⟨rfl, rfl, rfl⟩
theorem sortInts_spec (l : List Int) (hne : l ≠ []) (hl : l.length ≤ 1000000) : Does Try.prog 25 [.c (.rw 0)] [.row 1 Int encI l] (Rt (.tup []) [.row 1 Int encI (l.mergeSort fun x y => decide (x ≤ y))]) :=
  Does.of_sort hne (List.length_mergeSort l) Try.call25 (fun blk off cap w hH hblk => Any.slices_Sort_int lay189 blk off cap l w hH hblk (by omega))
end Go.Nest
