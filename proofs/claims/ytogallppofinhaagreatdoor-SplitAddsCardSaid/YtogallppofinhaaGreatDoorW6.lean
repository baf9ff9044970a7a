/- WALKS, Q8: numbers in order: by the kit's contract of the sort. -/
import Derived.Test.YtogallppofinhaaGreatDoorAmX
import Derived.Test.YtogallppofinhaaGreatDoorAmT
import Derived.Test.YtogallppofinhaaGreatDoorG1b
import Derived.Test.YtogallppofinhaaGreatDoorJ2
import Derived.Test.YtogallppofinhaaGreatDoorW5
import Derived.Test.YtogallppofinhaaGreatDoorG9
section
namespace Go.Nest
open Go Go.AM Go.NB Go.Proofs Go.Sort
open Go.Proofs.YtogallppofinhaaGreatDoor (tab tabOk)
set_option linter.unusedVariables false
set_option linter.unusedSimpArgs false
set_option maxRecDepth 4000

theorem ints_of {F : Nat → Prop} {H : Heap} {m : Md} : ∀ {l : List Int} {css : List Value}, RL F H m (l.flatMap encI) css → css = l.map (Value.int .i64)
  | [], _, h => by cases h; rfl
  | x :: l, css, h => by
    rw [List.flatMap_cons] at h
    cases h with
    | int t => rw [ints_of t]; rfl
theorem of_ints {F : Nat → Prop} {H : Heap} {m : Md} : ∀ (l : List Int), RL F H m (l.flatMap encI) (l.map (Value.int .i64))
  | [] => .nl
  | x :: l => .int (of_ints l)
theorem Does.of_sort {P : Program} {f : FuncId} {l l' : List Int} (hne : l ≠ []) (hlen : l'.length = l.length) (hcall : ∀ args w, (callFunc f args).run P w = .ok (.enter f args) w)
    (h : ∀ (blk off cap : Nat) (w : World), Holds (Value.int .i64) w blk off l.toArray → blk < w.heap.size → Calls P f #[.slice (some ⟨blk, off, none⟩) l.length cap] w fun e w' =>
      e = .returned (.tuple #[]) ∧ ∃ n os, w' = grow (putRow (Value.int .i64) (Sort.ahead w n) blk off l'.toArray) os) :
    Does P f [.c (.rw 0)] [.row 1 Int encI l] (Rt (.tup []) [.row 1 Int encI l']) := by
  intro F L γ H vs hargs hW w hw
  subst hw
  match vs, hargs with
  | [v], ⟨hv, _⟩ =>
    cases hv with
    | @rw _ _ p q n0 cap0 _ _ hg hq _ =>
      have hbr := hW.br 0 _ _ rfl hg
      rcases hbr with ⟨p', _, hl0⟩ | ⟨k, off, cap, cur, e, css, hpe, h1, h2, h3, h4, h5, h6, h7⟩
      · exact absurd hl0 hne
      obtain ⟨rfl, rfl, rfl⟩ : p = some ⟨k, off, none⟩ ∧ n0 = l.length ∧ cap0 = cap + 1 := by simpa using hpe
      obtain rfl := hq (by omega)
      have hk : k < w.heap.size := (Array.getElem?_eq_some_iff.1 h1).1
      have hcss := ints_of h5
      have hcl : css.length = l.length := by rw [hcss, List.length_map]
      have hget : ∀ j, j < l.length → cur[off + j]? = some (Value.int .i64 (l.toArray[j]!)) := fun j hj => by
        have h8 : ((cur.toList.drop off).take css.length)[j]? = css[j]? := by rw [h7]
        rw [List.getElem?_take_of_lt (by omega), List.getElem?_drop, hcss] at h8
        rw [← Array.getElem?_toList, h8, List.getElem?_map, List.getElem?_eq_getElem hj]
        simp [hj]
      have hH : Holds (Value.int .i64) w k off l.toArray := fun j hj => by
        have hj : j < l.length := by simpa using hj
        refine ⟨?_, ?_⟩
        · unfold World.cell?
          simp only [h1, Option.isSome_none]
          exact hget j hj
        · unfold World.frozen?
          simp only [h1]
          simp
      have hcon := h k off (cap + 1) w hH hk
      rw [hcall]
      refine ⟨rfl, hcon.mono fun e' w' ⟨he, n, os, hw'⟩ => .inl ⟨_, he, ?_, ?_⟩⟩
      · subst hw'
        have hob : obv (.row 1 Int encI l) (.slice (some ⟨k, off, none⟩) l.length (cap + 1)) = [k] := rfl
        obtain ⟨H1, hH1⟩ : ∃ H1, H1 = (putRow (Value.int .i64) (Sort.ahead w n) k off l'.toArray).heap := ⟨_, rfl⟩
        have hH1s : H1.size = w.heap.size := by rw [hH1]; unfold putRow mapBlock Sort.ahead; simp
        have hH1o : ∀ i, i ≠ k → H1[i]? = w.heap[i]? := fun i hi => by
          rw [hH1]; unfold putRow mapBlock Sort.ahead
          simp only [Array.getElem?_modify, if_neg (Ne.symm hi)]
        have hH1k : H1[k]? = some (.cells (putCells (Value.int .i64) off l'.toArray cur) e (0, 0)) := by
          rw [hH1]; unfold putRow mapBlock Sort.ahead
          simp only [Array.getElem?_modify, if_true, h1]
          rfl
        have hK : Keep [k] w.heap H1 := ⟨by rw [hH1s]; exact Nat.le_refl _, fun i _ hi => hH1o i (by simpa using hi)⟩
        have hcs : (putCells (Value.int .i64) off l'.toArray cur).size = cur.size := by unfold putCells; simp
        have hW1 := hW.upd (j := 0) (b1 := .row 1 Int encI l') rfl hg (by rw [hob]; exact hK) (fun q hq => by simpa [obv] using hq) (.inr ⟨k, off, cap, _, e, l'.map (Value.int .i64), by rw [hlen], hH1k, by omega, h3, by rw [hcs]; exact h4, of_ints l', fun x _ => rfl, ?_⟩)
        · have hW2 := hW1.same (H' := H1 ++ os) ⟨by simp, fun i hi _ => by rw [Array.getElem?_append_left hi]⟩
          refine ⟨.ret (.tup []), [.row 1 Int encI l'], F, γ, ⟨rfl, rfl⟩, rfl, rfl, rfl, ⟨[], rfl, trivial⟩, ?_⟩
          show WR _ F γ _ ((putRow (Value.int .i64) (Sort.ahead w n) k off l'.toArray).heap ++ os)
          rw [← hH1]
          exact hW2
        · refine List.ext_getElem? fun j => ?_
          by_cases hj : j < l'.length
          · rw [List.getElem?_take_of_lt (by simpa using hj), List.getElem?_drop, Array.getElem?_toList]
            have hoj : off + j < cur.size := by omega
            unfold putCells
            rw [Array.getElem?_mapIdx, Array.getElem?_eq_getElem hoj]
            simp [hj]
          · rw [List.getElem?_eq_none (by simp; omega), List.getElem?_eq_none (by simp; omega)]
      · subst hw'
        exact ⟨rfl, rfl, rfl⟩
theorem sortInts_spec (l : List Int) (hne : l ≠ []) (hl : l.length ≤ 1000000) : Does Tryz.prog 106 [.c (.rw 0)] [.row 1 Int encI l] (Rt (.tup []) [.row 1 Int encI (l.mergeSort fun x y => decide (x ≤ y))]) :=
  Does.of_sort hne (List.length_mergeSort l) Tryz.call106 (fun blk off cap w hH hblk => Any.slices_Sort_int lay189 blk off cap l w hH hblk (by omega))
end Go.Nest
end
/- WALKS, W2: histories: Index, Contains, commit, Ancestors. -/
section
namespace Go.Nest
open Go Go.AM Go.Proofs
open Go.Proofs.YtogallppofinhaaGreatDoor (tab tabOk)
set_option linter.unusedVariables false
set_option linter.unusedSimpArgs false
set_option maxRecDepth 4000
theorem index_spec (l : List Int) (n : Int) : Does Tryz.prog 166 [.c (.bs 1 Int encI l), .c (.int .i64 n)] [] (Rt (.c (.int .i64 (idxF (fun x => decide (x = n)) l))) []) := by
  refine X_spec (n := 19) (n0 := 0) tabOk Tryz.call166 Tryz.func166 ?_
  intro hb; have hb : l.length ≤ 9223372036854775807 := hb.1.1
  (conv => whnf)
  refine lp Nat (fun i => ⟨[(0, .c (.bs 1 Int encI l)), (1, .c (.int .i64 n)), (7, .c (.int .i64 l.length)), (8, .c (.int .i64 i))], []⟩) (fun i => i ≤ l.length ∧ (l.take i).any (fun x => decide (x = n)) = false) (fun i => l.length - i) 0 [] [] ?_ ?_ (fun i hi => ?_)
  · simp
  · repeat' first | exact trivial | exact rfl | refine And.intro ?_ ?_
  (conv => whnf)
  refine dec (fun h4 => ?_) (fun h4 => ?_)
  · have hlt : i < l.length := by omega
    repeat' ((conv => whnf); first | (refine dec (fun h => ?_) (fun h => ?_) <;> try contradiction) | (refine decN (fun h => ?_) (fun h => ?_) <;> try contradiction) | refine booN (fun h => ?_) (fun h => ?_) | refine boo (fun h => ?_) (fun h => ?_) | refine ⟨i64 (by omega) (by omega), ?_⟩ | refine ⟨_, _, rfl, List.getElem?_eq_getElem (by omega), ?_⟩ | refine ⟨_, ⟨rfl, by omega⟩, ?_⟩ | refine ⟨_, List.getElem?_eq_getElem (by omega), ?_⟩ | refine rtB ?_ | refine rtI ?_ | refine rtC ?_ rfl | fail)
    · exact idxF_at hlt hi.2 (by simpa using h.symm)
    · refine ag (i + 1) [] [] ⟨hlt, any_take hlt hi.2 (by simpa using fun e => h (Eq.symm e))⟩ (by simp only []; omega) ?_
      repeat' first | exact trivial | exact rfl | refine And.intro ?_ ?_
  · repeat' ((conv => whnf); first | (refine dec (fun h => ?_) (fun h => ?_) <;> try contradiction) | (refine decN (fun h => ?_) (fun h => ?_) <;> try contradiction) | refine booN (fun h => ?_) (fun h => ?_) | refine boo (fun h => ?_) (fun h => ?_) | refine ⟨i64 (by omega) (by omega), ?_⟩ | refine ⟨_, _, rfl, List.getElem?_eq_getElem (by omega), ?_⟩ | refine ⟨_, ⟨rfl, by omega⟩, ?_⟩ | refine ⟨_, List.getElem?_eq_getElem (by omega), ?_⟩ | refine rtB ?_ | refine rtI ?_ | refine rtC ?_ rfl | fail)
    have := hi.2
    rw [List.take_of_length_le (by omega)] at this
    exact idxF_none this
theorem contains_spec (l : List Int) (n : Int) : Does Tryz.prog 105 [.c (.bs 1 Int encI l), .c (.int .i64 n)] [] (Rt (.c (.bool (hasI l n))) []) := by
  refine X_spec (n := 9) (n0 := 0) tabOk Tryz.call105 Tryz.func105 ?_
  intro hb
  (conv => whnf)
  refine cl [] [] (index_spec l n) ?_
  (conv => whnf)
  exact rtB (idxF_any ..)
theorem commit_spec (L : List Ob) (hL : PoolOk L) (id : Int) : Does Tryz.prog 104 [.c (.bp [.bs 6 Ob encOb L]), .c (.int .i64 id)] [] (Rt (.tup [(true, encOb (if kindOf L id = 3 then getP L id else ob0)), (false, [.int .i64 (if kindOf L id = 3 then 0 else 9)])]) []) := by
  refine X_spec (n := 23) (n0 := 0) tabOk Tryz.call104 Tryz.func104 ?_
  intro hb
  have hk : (getP L id).kind = kindOf L id := getP_kind
  (conv => whnf)
  refine cl [] [] (get_spec L hL id) ?_
  by_cases h3 : kindOf L id = 3
  · rw [if_pos h3, if_pos h3, decide_eq_true (show kindOf L id ≠ 0 by omega)]
    repeat' ((conv => whnf); first | (refine dec (fun h => ?_) (fun h => ?_) <;> try contradiction) | (refine decN (fun h => ?_) (fun h => ?_) <;> try contradiction) | refine booN (fun h => ?_) (fun h => ?_) | refine boo (fun h => ?_) (fun h => ?_) | refine ⟨i64 (by omega) (by omega), ?_⟩ | refine ⟨_, _, rfl, List.getElem?_eq_getElem (by omega), ?_⟩ | refine ⟨_, ⟨rfl, by omega⟩, ?_⟩ | refine ⟨_, List.getElem?_eq_getElem (by omega), ?_⟩ | refine rtB ?_ | refine rtI ?_ | refine rtC ?_ rfl | fail)
    · omega
    (conv => whnf)
    exact rx [] []
  · rw [if_neg h3, if_neg h3]
    by_cases h0 : kindOf L id = 0
    · rw [decide_eq_false (show ¬ kindOf L id ≠ 0 by omega)]
      repeat' ((conv => whnf); first | (refine dec (fun h => ?_) (fun h => ?_) <;> try contradiction) | (refine decN (fun h => ?_) (fun h => ?_) <;> try contradiction) | refine booN (fun h => ?_) (fun h => ?_) | refine boo (fun h => ?_) (fun h => ?_) | refine ⟨i64 (by omega) (by omega), ?_⟩ | refine ⟨_, _, rfl, List.getElem?_eq_getElem (by omega), ?_⟩ | refine ⟨_, ⟨rfl, by omega⟩, ?_⟩ | refine ⟨_, List.getElem?_eq_getElem (by omega), ?_⟩ | refine rtB ?_ | refine rtI ?_ | refine rtC ?_ rfl | fail)
      (conv => whnf)
      exact rx [] []
    · rw [decide_eq_true (show kindOf L id ≠ 0 by omega)]
      repeat' ((conv => whnf); first | (refine dec (fun h => ?_) (fun h => ?_) <;> try contradiction) | (refine decN (fun h => ?_) (fun h => ?_) <;> try contradiction) | refine booN (fun h => ?_) (fun h => ?_) | refine boo (fun h => ?_) (fun h => ?_) | refine ⟨i64 (by omega) (by omega), ?_⟩ | refine ⟨_, _, rfl, List.getElem?_eq_getElem (by omega), ?_⟩ | refine ⟨_, ⟨rfl, by omega⟩, ?_⟩ | refine ⟨_, List.getElem?_eq_getElem (by omega), ?_⟩ | refine rtB ?_ | refine rtI ?_ | refine rtC ?_ rfl | fail)
      · (conv => whnf)
        exact rx [] []
      · omega
set_option maxHeartbeats 1000000 in
theorem ancestors_spec (L : List Ob) (hL : PoolOk L) (id : Int) : Does Tryz.prog 41 [.c (.bp [.bs 6 Ob encOb L]), .c (.int .i64 id)] [] (Rt (.tup [(false, [.rw 0]), (false, [.int .i64 (ancP L id).2])]) [.row 1 Int encI (ancP L id).1]) := by
  refine X_spec (n := 59) (n0 := 0) tabOk Tryz.call41 Tryz.func41 ?_
  intro hb
  have hlen := hL.len
  (conv => whnf)
  refine cl [] [] (commit_spec L hL id) ?_
  by_cases h3 : kindOf L id = 3
  · rw [show ancP L id = (ancL L id, 0) by unfold ancP; rw [if_pos h3], if_pos h3, if_pos h3]
    (conv => whnf)
    refine ⟨[id], rfl, ?_⟩
    (conv => whnf)
    refine lp (Nat × List Int) (fun x => ⟨[(0, .c (.bp [.bs 6 Ob encOb L])), (8, .c (.rw 0)), (9, .c (.int .i64 x.1))], [.row 1 Int encI x.2]⟩) (fun x => Bfs L id x.2 x.1 ∧ True) (fun x => L.length - x.1) (0, [id]) [] [.same 1] ?_ ?_ (fun x hx => ?_)
    · exact ⟨Bfs.start, trivial⟩
    · repeat' first | exact trivial | exact rfl | refine And.intro ?_ ?_
    obtain ⟨i, out⟩ := x
    obtain ⟨hx, _⟩ := hx
    dsimp only at hx
    have hol := hx.len hL h3
    (conv => whnf)
    refine dec (fun h4 => ?_) (fun h4 => ?_)
    · have hlt : i < out.length := by have h4 : (i : Int) < out.length := h4; omega
      have hax := hx.anc _ (List.getElem_mem hlt)
      have hkx := hax.kind hL h3
      have hpl := (hL.get (id := out[i]) (by omega)).parents
      repeat' ((conv => whnf); first | (refine dec (fun h => ?_) (fun h => ?_) <;> try contradiction) | (refine decN (fun h => ?_) (fun h => ?_) <;> try contradiction) | refine booN (fun h => ?_) (fun h => ?_) | refine boo (fun h => ?_) (fun h => ?_) | refine ⟨i64 (by omega) (by omega), ?_⟩ | refine ⟨_, _, rfl, List.getElem?_eq_getElem (by omega), ?_⟩ | refine ⟨_, ⟨rfl, by omega⟩, ?_⟩ | refine ⟨_, List.getElem?_eq_getElem (by omega), ?_⟩ | refine rtB ?_ | refine rtI ?_ | refine rtC ?_ rfl | fail)
      (conv => whnf)
      refine cl [] [] (commit_spec L hL out[i]) ?_
      rw [if_pos hkx]
      repeat' ((conv => whnf); first | (refine dec (fun h => ?_) (fun h => ?_) <;> try contradiction) | (refine decN (fun h => ?_) (fun h => ?_) <;> try contradiction) | refine booN (fun h => ?_) (fun h => ?_) | refine boo (fun h => ?_) (fun h => ?_) | refine ⟨i64 (by omega) (by omega), ?_⟩ | refine ⟨_, _, rfl, List.getElem?_eq_getElem (by omega), ?_⟩ | refine ⟨_, ⟨rfl, by omega⟩, ?_⟩ | refine ⟨_, List.getElem?_eq_getElem (by omega), ?_⟩ | refine rtB ?_ | refine rtI ?_ | refine rtC ?_ rfl | fail)
      (conv => whnf)
      refine lp (Nat × List Int) (fun y => ⟨[(0, .c (.bp [.bs 6 Ob encOb L])), (8, .c (.rw 0)), (9, .c (.int .i64 i)), (41, .c (.bs 1 Int encI (getP L out[i]).parents)), (42, .c (.int .i64 (getP L out[i]).parents.length)), (43, .c (.int .i64 y.1))], [.row 1 Int encI y.2]⟩)
        (fun y => Bfs L id y.2 i ∧ (y.1 ≤ (getP L out[i]).parents.length ∧ y.2[i]? = some out[i]) ∧ ∀ k ∈ (getP L out[i]).parents.take y.1, k ∈ y.2) (fun y => (getP L out[i]).parents.length - y.1) (0, out) [] [.same 0] ?_ ?_ (fun y hy => ?_)
      · exact ⟨hx, ⟨Nat.zero_le _, List.getElem?_eq_getElem hlt⟩, fun k hk => by cases hk⟩
      · repeat' first | exact trivial | exact rfl | refine And.intro ?_ ?_
      obtain ⟨d, o2⟩ := y
      obtain ⟨hy, ⟨hd, ho⟩, hk⟩ := hy
      dsimp only at hy hd ho hk
      have ho2 := hy.len hL h3
      (conv => whnf)
      refine dec (fun h5 => ?_) (fun h5 => ?_)
      · have hdt : d < (getP L out[i]).parents.length := by omega
        have htk := List.take_succ_eq_append_getElem hdt
        (conv => whnf)
        refine ⟨d, (getP L out[i]).parents[d], rfl, List.getElem?_eq_getElem hdt, ?_⟩
        generalize hkk : (getP L out[i]).parents[d] = k at *
        have hkm : k ∈ (getP L out[i]).parents := by rw [← hkk]; exact List.getElem_mem hdt
        (conv => whnf)
        refine cl [] [] (contains_spec o2 k) ?_
        (conv => whnf)
        refine boo (fun h6 => ?_) (fun h6 => ?_)
        · have h6 : k ∉ o2 := fun h => by rw [hasI_iff.2 h] at h6; cases h6
          (conv => whnf)
          refine ⟨[k], rfl, ?_⟩
          (conv => whnf)
          refine ⟨_, _, rfl, rfl, (by simp only [List.length_append, List.length_cons, List.length_nil]; omega), ?_⟩
          repeat' ((conv => whnf); first | (refine dec (fun h => ?_) (fun h => ?_) <;> try contradiction) | (refine decN (fun h => ?_) (fun h => ?_) <;> try contradiction) | refine booN (fun h => ?_) (fun h => ?_) | refine boo (fun h => ?_) (fun h => ?_) | refine ⟨i64 (by omega) (by omega), ?_⟩ | refine ⟨_, _, rfl, List.getElem?_eq_getElem (by omega), ?_⟩ | refine ⟨_, ⟨rfl, by omega⟩, ?_⟩ | refine ⟨_, List.getElem?_eq_getElem (by omega), ?_⟩ | refine rtB ?_ | refine rtI ?_ | refine rtC ?_ rfl | fail)
          refine ag (d + 1, o2 ++ [k]) [] [.same 2] ⟨hy.add h6 (hax.next hkm), ⟨hdt, ?_⟩, fun j hj => ?_⟩ (by simp only []; omega) ?_
          · dsimp only
            rw [List.getElem?_append_left (List.getElem?_eq_some_iff.1 ho).1]; exact ho
          · dsimp only at hj ⊢
            rw [htk, List.mem_append] at hj
            exact List.mem_append.2 (hj.imp (hk j) fun h => h)
          · repeat' first | exact trivial | exact rfl | refine And.intro ?_ ?_
        · have h6 : k ∈ o2 := hasI_iff.1 (by cases hh : hasI o2 k; rw [hh] at h6; cases h6; rfl)
          repeat' ((conv => whnf); first | (refine dec (fun h => ?_) (fun h => ?_) <;> try contradiction) | (refine decN (fun h => ?_) (fun h => ?_) <;> try contradiction) | refine booN (fun h => ?_) (fun h => ?_) | refine boo (fun h => ?_) (fun h => ?_) | refine ⟨i64 (by omega) (by omega), ?_⟩ | refine ⟨_, _, rfl, List.getElem?_eq_getElem (by omega), ?_⟩ | refine ⟨_, ⟨rfl, by omega⟩, ?_⟩ | refine ⟨_, List.getElem?_eq_getElem (by omega), ?_⟩ | refine rtB ?_ | refine rtI ?_ | refine rtC ?_ rfl | fail)
          refine ag (d + 1, o2) [] [.same 0] ⟨hy, ⟨hdt, ho⟩, fun j hj => ?_⟩ (by simp only []; omega) ?_
          · dsimp only at hj ⊢
            rw [htk, List.mem_append, List.mem_singleton] at hj
            rcases hj with hj | rfl
            · exact hk j hj
            · exact h6
          · repeat' first | exact trivial | exact rfl | refine And.intro ?_ ?_
      · rw [List.take_of_length_le (by omega)] at hk
        repeat' ((conv => whnf); first | (refine dec (fun h => ?_) (fun h => ?_) <;> try contradiction) | (refine decN (fun h => ?_) (fun h => ?_) <;> try contradiction) | refine booN (fun h => ?_) (fun h => ?_) | refine boo (fun h => ?_) (fun h => ?_) | refine ⟨i64 (by omega) (by omega), ?_⟩ | refine ⟨_, _, rfl, List.getElem?_eq_getElem (by omega), ?_⟩ | refine ⟨_, ⟨rfl, by omega⟩, ?_⟩ | refine ⟨_, List.getElem?_eq_getElem (by omega), ?_⟩ | refine rtB ?_ | refine rtI ?_ | refine rtC ?_ rfl | fail)
        refine ag (i + 1, o2) [] [.same 0] ⟨hy.next ho hk, trivial⟩ (by simp only []; omega) ?_
        repeat' first | exact trivial | exact rfl | refine And.intro ?_ ?_
    · have hm := hx.stop (by have h4 : ¬ (i : Int) < out.length := h4; omega)
      have hne : out ≠ [] := fun e => by have := hx.mem; rw [e] at this; cases this
      (conv => whnf)
      refine cl [] [0] (sortInts_spec out hne (by omega)) ?_
      rw [sort_anc hL h3 hx.nd hm]
      (conv => whnf)
      exact rx [] [.same 0]
  · rw [show ancP L id = ([], 9) by unfold ancP; rw [if_neg h3], if_neg h3, if_neg h3]
    (conv => whnf)
    exact rx [] [.new]
end Go.Nest
end
/- WALKS, W3: histories: Bases. -/
section
namespace Go.Nest
open Go Go.AM Go.Proofs
open Go.Proofs.YtogallppofinhaaGreatDoor (tab tabOk)
set_option linter.unusedVariables false
set_option linter.unusedSimpArgs false
set_option maxRecDepth 4000
/-- where deleting stands -/
structure Del (p : Int → Bool) (l r : List Int) (i j : Nat) : Prop where
  le : i ≤ j
  jl : j ≤ l.length
  len : r.length = l.length
  pre : r.take i = (l.take j).filter fun x => !p x
  suf : r.drop j = l.drop j
theorem filter_none {p : Int → Bool} {l : List Int} (h : l.any p = false) : (l.filter fun x => !p x) = l := by
  rw [List.any_eq_false] at h
  exact List.filter_eq_self.2 fun x hx => by have := h x hx; simpa using this
theorem Del.start {p : Int → Bool} {l : List Int} {i : Nat} (h : i < l.length) (h1 : (l.take i).any p = false) (h2 : p l[i] = true) : Del p l l i (i + 1) := by
  refine ⟨by omega, h, rfl, ?_, rfl⟩
  rw [List.take_succ_eq_append_getElem h, List.filter_append, filter_none h1]
  simp [h2]
theorem Del.at {p : Int → Bool} {l r : List Int} {i j : Nat} (h : Del p l r i j) (hj : j < l.length) : r[j]? = some l[j] := by
  have := congrArg (·[0]?) h.suf
  simp only [List.getElem?_drop, Nat.add_zero] at this
  rw [this, List.getElem?_eq_getElem hj]
theorem Del.suf1 {p : Int → Bool} {l r : List Int} {i j : Nat} (h : Del p l r i j) : r.drop (j + 1) = l.drop (j + 1) := by
  rw [← List.drop_drop, h.suf, List.drop_drop]
theorem Del.drop {p : Int → Bool} {l r : List Int} {i j : Nat} (h : Del p l r i j) (hj : j < l.length) (hp : p l[j] = true) : Del p l r i (j + 1) := by
  have := h.le
  refine ⟨by omega, hj, h.len, ?_, h.suf1⟩
  rw [List.take_succ_eq_append_getElem hj, List.filter_append, ← h.pre]
  simp [hp]
theorem Del.keep {p : Int → Bool} {l r : List Int} {i j : Nat} (h : Del p l r i j) (hj : j < l.length) (hp : p l[j] = false) : Del p l (r.set i l[j]) (i + 1) (j + 1) := by
  have := h.le
  have hi : i < r.length := by rw [h.len]; omega
  refine ⟨by omega, hj, by rw [List.length_set]; exact h.len, ?_, ?_⟩
  · rw [List.take_succ_eq_append_getElem hj, List.filter_append, ← h.pre, List.take_succ_eq_append_getElem (by rw [List.length_set]; exact hi), List.getElem_set_self, List.take_set_of_le (Nat.le_refl _)]
    simp [hp]
  · rw [List.drop_set_of_lt (by omega), h.suf1]
theorem Del.stop {p : Int → Bool} {l r : List Int} {i : Nat} (h : Del p l r i l.length) : r.take i = l.filter fun x => !p x := by
  have := h.pre
  rwa [List.take_length] at this
end Go.Nest
end
/- WALKS, W4: histories: Bases. -/
section
namespace Go.Nest
open Go Go.AM Go.Proofs
open Go.Proofs.YtogallppofinhaaGreatDoor (tab tabOk)
set_option linter.unusedVariables false
set_option linter.unusedSimpArgs false
set_option maxRecDepth 4000
end Go.Nest
end
/- WALKS, W6: histories, by the document: BasesOf. -/
section
namespace Go.Nest
open Go Go.AM Go.Proofs
open Go.Proofs.YtogallppofinhaaGreatDoor (tab tabOk)
set_option linter.unusedVariables false
set_option linter.unusedSimpArgs false
set_option maxRecDepth 4000
end Go.Nest
end
