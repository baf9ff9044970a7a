/- WALKS, W7: numbers in order, each once, by the document: Sorted. -/
import Derived.Test.YtgbppkcebaoebaaL1
import Derived.Test.YtgbppkcebaoebaaG1b
namespace Go.Nest
open Go Go.AM Go.Proofs
open Go.Proofs.Ytgbppkcebaoebaa (tab tabOk)
set_option linter.unusedVariables false
set_option linter.unusedSimpArgs false
set_option maxRecDepth 4000
def below (x : Int) (out : List Int) : Nat := (out.takeWhile fun y => decide (y < x)).length
def insI (out : List Int) (x : Int) : List Int := if out[below x out]? = some x then out else out.take (below x out) ++ x :: out.drop (below x out)
def sortI (l : List Int) : List Int := l.foldl insI []
theorem below_at {x : Int} {out : List Int} {k : Nat} (hk : k ≤ out.length) (h1 : ∀ g ∈ out.take k, g < x) (h2 : ∀ h : k < out.length, ¬ out[k] < x) : below x out = k := by
  unfold below
  rw [(tw_at (p := fun y : Int => decide (y < x)) hk (fun g hg => by simpa using h1 g hg) (fun h => by simpa using h2 h)).1, List.length_take, Nat.min_eq_left hk]
theorem below_le {x : Int} {out : List Int} : below x out ≤ out.length := (List.takeWhile_sublist _).length_le
theorem below_lo {x : Int} {out : List Int} : ∀ g ∈ out.take (below x out), g < x := fun g hg => by
  have e : out.take (below x out) = out.takeWhile fun y => decide (y < x) := by
    unfold below
    have h : out.takeWhile (fun y => decide (y < x)) ++ out.dropWhile (fun y => decide (y < x)) = out := List.takeWhile_append_dropWhile
    calc out.take (out.takeWhile fun y => decide (y < x)).length = (out.takeWhile (fun y => decide (y < x)) ++ out.dropWhile (fun y => decide (y < x))).take (out.takeWhile fun y => decide (y < x)).length := by rw [h]
      _ = _ := List.take_left' rfl
  rw [e] at hg
  have key : ∀ {l : List Int}, g ∈ l.takeWhile (fun y => decide (y < x)) → g < x := by
    intro l
    induction l with
    | nil => intro h; cases h
    | cons y l ih =>
      intro h
      rw [List.takeWhile_cons] at h
      split at h
      · rename_i hy
        rcases List.mem_cons.1 h with rfl | h
        · simpa using hy
        · exact ih h
      · cases h
  exact key hg
theorem below_hi {x : Int} {out : List Int} (h : below x out < out.length) : ¬ out[below x out] < x := by
  have key : ∀ {l : List Int} (h : below x l < l.length), ¬ l[below x l] < x := by
    intro l
    induction l with
    | nil => intro h; simp at h
    | cons y l ih =>
      intro h
      by_cases hy : y < x
      · have e : below x (y :: l) = below x l + 1 := by unfold below; rw [List.takeWhile_cons, if_pos (by simpa using hy)]; rfl
        have h' : below x l < l.length := by rw [e] at h; simpa using h
        have := ih h'
        simp only [e, List.getElem_cons_succ]
        exact this
      · have e : below x (y :: l) = 0 := by unfold below; rw [List.takeWhile_cons, if_neg (by simpa using hy)]; rfl
        simp only [e, List.getElem_cons_zero]
        exact hy
  exact key h
theorem ins_rise {x : Int} {out : List Int} (h : out.Pairwise (· < ·)) : (insI out x).Pairwise (· < ·) := by
  unfold insI
  split
  · exact h
  rename_i hne
  have hlo := below_lo (x := x) (out := out)
  have hle := below_le (x := x) (out := out)
  have hd : ∀ g ∈ out.drop (below x out), x < g := fun g hg => by
    obtain ⟨i, hi, e⟩ := List.mem_iff_getElem.1 hg
    rw [List.length_drop] at hi
    rw [List.getElem_drop] at e
    have hb : below x out < out.length := by omega
    have h1 := below_hi hb
    rw [List.getElem?_eq_getElem hb] at hne
    have h2 : out[below x out] ≠ x := fun e => hne (by rw [e])
    by_cases h0 : i = 0
    · subst h0
      simp only [Nat.add_zero] at e
      omega
    · have := List.pairwise_iff_getElem.1 h (below x out) (below x out + i) hb (by omega) (by omega)
      omega
  rw [List.pairwise_append]
  refine ⟨h.take, List.pairwise_cons.2 ⟨hd, h.drop⟩, fun a ha b hb => ?_⟩
  rcases List.mem_cons.1 hb with rfl | hb
  · exact hlo a ha
  · have := hlo a ha; have := hd b hb; omega
theorem ins_mem {x y : Int} {out : List Int} : y ∈ insI out x ↔ y ∈ out ∨ y = x := by
  unfold insI
  split
  · rename_i he
    constructor
    · exact .inl
    · rintro (h | rfl)
      · exact h
      · exact List.mem_of_getElem? he
  · have e : out.take (below x out) ++ out.drop (below x out) = out := List.take_append_drop ..
    constructor
    · intro h
      rcases List.mem_append.1 h with h | h
      · exact .inl (List.mem_of_mem_take h)
      · rcases List.mem_cons.1 h with rfl | h
        · exact .inr rfl
        · exact .inl (List.mem_of_mem_drop h)
    · intro h
      rw [List.mem_append, List.mem_cons]
      rcases h with h | h
      · rw [← e, List.mem_append] at h
        exact h.imp id .inr
      · exact .inr (.inl h)
theorem sort_rise : ∀ {l out : List Int}, out.Pairwise (· < ·) → (l.foldl insI out).Pairwise (· < ·)
  | [], _, h => h
  | x :: l, _, h => sort_rise (l := l) (ins_rise h)
theorem sort_mem {y : Int} : ∀ {l out : List Int}, y ∈ l.foldl insI out ↔ y ∈ out ∨ y ∈ l
  | [], out => by simp
  | x :: l, out => by
    rw [List.foldl_cons, sort_mem (l := l), ins_mem, List.mem_cons, or_assoc]
theorem sortI_mem {y : Int} {l : List Int} : y ∈ sortI l ↔ y ∈ l := by unfold sortI; rw [sort_mem]; simp
theorem sortI_rise {l : List Int} : (sortI l).Pairwise (· < ·) := sort_rise List.Pairwise.nil
theorem sortI_succ {l : List Int} {i : Nat} (h : i < l.length) : sortI (l.take (i + 1)) = insI (sortI (l.take i)) l[i] := by
  unfold sortI
  rw [List.take_succ_eq_append_getElem h, List.foldl_append]; rfl
theorem ins_len {out : List Int} {x : Int} : (insI out x).length ≤ out.length + 1 := by
  unfold insI
  have := below_le (x := x) (out := out)
  split
  · omega
  · simp; omega
theorem sortI_len : ∀ {l out : List Int}, (l.foldl insI out).length ≤ out.length + l.length
  | [], _ => by simp
  | x :: l, out => by
    have := sortI_len (l := l) (out := insI out x)
    have := ins_len (out := out) (x := x)
    simp only [List.foldl_cons, List.length_cons]; omega
set_option maxHeartbeats 2000000 in
theorem sortedI_spec (l : List Int) (hl : l.length ≤ 1000000) : Does Try.prog 27 [.c (.bs 1 Int encI l)] [] (Rt (.c (.rw 0)) [.row 1 Int encI (sortI l)]) := by
  refine X_spec (n := 62) (n0 := 0) tabOk Try.call27 Try.func27 ?_
  intro hb
  (conv => whnf)
  refine lp Nat (fun i => ⟨[(0, .c (.bs 1 Int encI l)), (3, .c (.rw 0)), (4, .c (.int .i64 i))], [.row 1 Int encI (sortI (l.take i))]⟩) (fun i => i ≤ l.length ∧ True) (fun i => l.length - i) 0 [] [.new] ?_ ?_ (fun i hi => ?_)
  · simp
  · repeat' first | exact trivial | exact rfl | refine And.intro ?_ ?_
  have hol : (sortI (l.take i)).length ≤ l.length := by
    have := sortI_len (l := l.take i) (out := [])
    rw [List.length_take] at this
    unfold sortI
    simp at this; omega
  (conv => whnf)
  refine dec (fun h4 => ?_) (fun h4 => ?_)
  · have hlt : i < l.length := by omega
    have hs := sortI_succ hlt
    generalize sortI (l.take i) = out at *
    (conv => whnf)
    refine lp Nat (fun k => ⟨[(0, .c (.bs 1 Int encI l)), (3, .c (.rw 0)), (4, .c (.int .i64 i)), (5, .c (.int .i64 k))], [.row 1 Int encI out]⟩) (fun k => (k ≤ out.length ∧ True) ∧ ∀ g ∈ out.take k, g < l[i]) (fun k => out.length - k) 0 [] [.same 0] ?_ ?_ (fun k hk => ?_)
    · simp
    · repeat' first | exact trivial | exact rfl | refine And.intro ?_ ?_
    obtain ⟨⟨hk1, _⟩, hk2⟩ := hk
    have fin : (∀ h : k < out.length, ¬ out[k] < l[i]) → below l[i] out = k := fun h => below_at hk1 hk2 h
    (conv => whnf)
    refine ⟨false, .grow, (.l [0, 1, 2, 3, 4, 5, 6, 7, 8, 9, 10, 11, 12, 13, 14]), by kernel_rfl, .inl ?_⟩
    (conv => whnf)
    refine dec (fun h5 => ?_) (fun h5 => ?_)
    · have hkl : k < out.length := by omega
      (conv => whnf)
      refine ⟨k, ⟨rfl, hkl⟩, ?_⟩
      (conv => whnf)
      refine ⟨out[k], List.getElem?_eq_getElem hkl, ?_⟩
      (conv => whnf)
      refine ⟨i, l[i], rfl, List.getElem?_eq_getElem hlt, ?_⟩
      (conv => whnf)
      refine dec (fun h6 => ?_) (fun h6 => ?_)
      · repeat' ((conv => whnf); first | (refine dec (fun h => ?_) (fun h => ?_) <;> try contradiction) | (refine decN (fun h => ?_) (fun h => ?_) <;> try contradiction) | refine booN (fun h => ?_) (fun h => ?_) | refine boo (fun h => ?_) (fun h => ?_) | refine ⟨i64 (by omega) (by omega), ?_⟩ | refine ⟨_, _, rfl, List.getElem?_eq_getElem (by omega), ?_⟩ | refine ⟨_, ⟨rfl, by omega⟩, ?_⟩ | refine ⟨_, List.getElem?_eq_getElem (by omega), ?_⟩ | refine rtB ?_ | refine rtI ?_ | refine rtC ?_ rfl | fail)
        refine ag (k + 1) [] [.same 0] ⟨⟨hkl, trivial⟩, fun g hg => ?_⟩ (by simp only []; omega) ?_
        · rw [List.take_succ_eq_append_getElem hkl, List.mem_append, List.mem_singleton] at hg
          rcases hg with hg | rfl
          · exact hk2 g hg
          · exact h6
        · repeat' first | exact trivial | exact rfl | refine And.intro ?_ ?_
      · have hbk := fin (fun _ => h6)
        (conv => whnf)
        refine ⟨false, .grow, (.l [0, 1, 2, 3, 4, 5, 6, 7, 8, 9, 10, 11, 12, 13, 14]), by kernel_rfl, .inl ?_⟩
        (conv => whnf)
        refine dec (fun _ => ?_) (fun h => absurd h5 h)
        (conv => whnf)
        refine ⟨k, ⟨rfl, hkl⟩, ?_⟩
        (conv => whnf)
        refine ⟨out[k], List.getElem?_eq_getElem hkl, ?_⟩
        (conv => whnf)
        refine ⟨i, l[i], rfl, List.getElem?_eq_getElem hlt, ?_⟩
        (conv => whnf)
        refine dec (fun h7 => ?_) (fun h7 => ?_)
        · have fin : sortI (l.take (i + 1)) = out := by
            rw [hs]; unfold insI
            rw [hbk, if_pos (by rw [List.getElem?_eq_getElem hkl, h7])]
          repeat' ((conv => whnf); first | (refine dec (fun h => ?_) (fun h => ?_) <;> try contradiction) | (refine decN (fun h => ?_) (fun h => ?_) <;> try contradiction) | refine booN (fun h => ?_) (fun h => ?_) | refine boo (fun h => ?_) (fun h => ?_) | refine ⟨i64 (by omega) (by omega), ?_⟩ | refine ⟨_, _, rfl, List.getElem?_eq_getElem (by omega), ?_⟩ | refine ⟨_, ⟨rfl, by omega⟩, ?_⟩ | refine ⟨_, List.getElem?_eq_getElem (by omega), ?_⟩ | refine rtB ?_ | refine rtI ?_ | refine rtC ?_ rfl | fail)
          refine ag (i + 1) [] [.same 0] ⟨hlt, trivial⟩ (by simp only []; omega) ?_
          rw [fin]
          repeat' first | exact trivial | exact rfl | refine And.intro ?_ ?_
        · have fin : sortI (l.take (i + 1)) = (([] ++ (out.drop 0).take (k - 0)) ++ [l[i]]) ++ (out.drop k).take (out.length - k) := by
            rw [hs]; unfold insI
            rw [hbk, if_neg (by rw [List.getElem?_eq_getElem hkl]; intro e; exact h7 (Option.some.inj e)), List.take_of_length_le (l := List.drop k out) (by rw [List.length_drop]; exact Nat.le_refl _)]
            simp
          have e : out = out := rfl
          (conv => whnf)
          refine ⟨false, .grow, (.alt [0, 1, 2, 3, 5, 6, 7, 8] [4, 9] fun j => bif Nat.beq j 4 then (.l [9, 10, 11]) else bif Nat.beq j 9 then (.l [4, 10, 11]) else .l []), by kernel_rfl, .inl ?_⟩
          (conv => whnf)
          refine ⟨0, k, rfl, rfl, ⟨Nat.zero_le _, hk1⟩, ?_⟩
          (conv => whnf)
          refine ⟨i, l[i], rfl, List.getElem?_eq_getElem hlt, ?_⟩
          (conv => whnf)
          refine And.intro ?_ ?_
          · (conv => whnf)
            refine ⟨[], _, rfl, rfl, (by simp only [List.length_take, List.length_drop, List.length_nil]; omega), ?_⟩
            (conv => whnf)
            refine ⟨[l[i]], rfl, ?_⟩
            (conv => whnf)
            refine ⟨_, _, rfl, rfl, (by simp only [List.length_take, List.length_drop, List.length_append, List.length_cons, List.length_nil]; omega), ?_⟩
            (conv => whnf)
            refine ⟨k, out.length, rfl, rfl, ⟨hk1, Nat.le_refl _⟩, ?_⟩
            (conv => whnf)
            refine ⟨_, _, rfl, rfl, (by simp only [List.length_take, List.length_drop, List.length_append, List.length_cons, List.length_nil]; omega), ?_⟩
            repeat' ((conv => whnf); first | (refine dec (fun h => ?_) (fun h => ?_) <;> try contradiction) | (refine decN (fun h => ?_) (fun h => ?_) <;> try contradiction) | refine booN (fun h => ?_) (fun h => ?_) | refine boo (fun h => ?_) (fun h => ?_) | refine ⟨i64 (by omega) (by omega), ?_⟩ | refine ⟨_, _, rfl, List.getElem?_eq_getElem (by omega), ?_⟩ | refine ⟨_, ⟨rfl, by omega⟩, ?_⟩ | refine ⟨_, List.getElem?_eq_getElem (by omega), ?_⟩ | refine rtB ?_ | refine rtI ?_ | refine rtC ?_ rfl | fail)
            refine ag (i + 1) [] [.same 4] ⟨hlt, trivial⟩ (by simp only []; omega) ?_
            rw [fin]
            repeat' first | exact trivial | exact rfl | refine And.intro ?_ ?_
          · (conv => whnf)
            refine ⟨[l[i]], rfl, ?_⟩
            (conv => whnf)
            refine ⟨[], _, rfl, rfl, (by simp only [List.length_take, List.length_drop, List.length_nil]; omega), ?_⟩
            (conv => whnf)
            refine ⟨_, _, rfl, rfl, (by simp only [List.length_take, List.length_drop, List.length_append, List.length_cons, List.length_nil]; omega), ?_⟩
            (conv => whnf)
            refine ⟨k, out.length, rfl, rfl, ⟨hk1, Nat.le_refl _⟩, ?_⟩
            (conv => whnf)
            refine ⟨_, _, rfl, rfl, (by simp only [List.length_take, List.length_drop, List.length_append, List.length_cons, List.length_nil]; omega), ?_⟩
            repeat' ((conv => whnf); first | (refine dec (fun h => ?_) (fun h => ?_) <;> try contradiction) | (refine decN (fun h => ?_) (fun h => ?_) <;> try contradiction) | refine booN (fun h => ?_) (fun h => ?_) | refine boo (fun h => ?_) (fun h => ?_) | refine ⟨i64 (by omega) (by omega), ?_⟩ | refine ⟨_, _, rfl, List.getElem?_eq_getElem (by omega), ?_⟩ | refine ⟨_, ⟨rfl, by omega⟩, ?_⟩ | refine ⟨_, List.getElem?_eq_getElem (by omega), ?_⟩ | refine rtB ?_ | refine rtI ?_ | refine rtC ?_ rfl | fail)
            refine ag (i + 1) [] [.same 4] ⟨hlt, trivial⟩ (by simp only []; omega) ?_
            rw [fin]
            repeat' first | exact trivial | exact rfl | refine And.intro ?_ ?_
    · have hbk := fin (fun h => by omega)
      have fin : sortI (l.take (i + 1)) = (([] ++ (out.drop 0).take (k - 0)) ++ [l[i]]) ++ (out.drop k).take (out.length - k) := by
        rw [hs]; unfold insI
        rw [hbk, List.getElem?_eq_none (by omega), if_neg (by simp), List.take_of_length_le (l := List.drop k out) (by rw [List.length_drop]; exact Nat.le_refl _)]
        simp
      (conv => whnf)
      refine ⟨false, .grow, (.l [0, 1, 2, 3, 4, 5, 6, 7, 8, 9, 10, 11, 12, 13, 14]), by kernel_rfl, .inl ?_⟩
      (conv => whnf)
      refine dec (fun h => absurd h (by omega)) (fun _ => ?_)
      have e : out = out := rfl
      (conv => whnf)
      refine ⟨false, .grow, (.alt [0, 1, 2, 3, 5, 6, 7, 8] [4, 9] fun j => bif Nat.beq j 4 then (.l [9, 10, 11]) else bif Nat.beq j 9 then (.l [4, 10, 11]) else .l []), by kernel_rfl, .inl ?_⟩
      (conv => whnf)
      refine ⟨0, k, rfl, rfl, ⟨Nat.zero_le _, hk1⟩, ?_⟩
      (conv => whnf)
      refine ⟨i, l[i], rfl, List.getElem?_eq_getElem hlt, ?_⟩
      (conv => whnf)
      refine And.intro ?_ ?_
      · (conv => whnf)
        refine ⟨[], _, rfl, rfl, (by simp only [List.length_take, List.length_drop, List.length_nil]; omega), ?_⟩
        (conv => whnf)
        refine ⟨[l[i]], rfl, ?_⟩
        (conv => whnf)
        refine ⟨_, _, rfl, rfl, (by simp only [List.length_take, List.length_drop, List.length_append, List.length_cons, List.length_nil]; omega), ?_⟩
        (conv => whnf)
        refine ⟨k, out.length, rfl, rfl, ⟨hk1, Nat.le_refl _⟩, ?_⟩
        (conv => whnf)
        refine ⟨_, _, rfl, rfl, (by simp only [List.length_take, List.length_drop, List.length_append, List.length_cons, List.length_nil]; omega), ?_⟩
        repeat' ((conv => whnf); first | (refine dec (fun h => ?_) (fun h => ?_) <;> try contradiction) | (refine decN (fun h => ?_) (fun h => ?_) <;> try contradiction) | refine booN (fun h => ?_) (fun h => ?_) | refine boo (fun h => ?_) (fun h => ?_) | refine ⟨i64 (by omega) (by omega), ?_⟩ | refine ⟨_, _, rfl, List.getElem?_eq_getElem (by omega), ?_⟩ | refine ⟨_, ⟨rfl, by omega⟩, ?_⟩ | refine ⟨_, List.getElem?_eq_getElem (by omega), ?_⟩ | refine rtB ?_ | refine rtI ?_ | refine rtC ?_ rfl | fail)
        refine ag (i + 1) [] [.same 4] ⟨hlt, trivial⟩ (by simp only []; omega) ?_
        rw [fin]
        repeat' first | exact trivial | exact rfl | refine And.intro ?_ ?_
      · (conv => whnf)
        refine ⟨[l[i]], rfl, ?_⟩
        (conv => whnf)
        refine ⟨[], _, rfl, rfl, (by simp only [List.length_take, List.length_drop, List.length_nil]; omega), ?_⟩
        (conv => whnf)
        refine ⟨_, _, rfl, rfl, (by simp only [List.length_take, List.length_drop, List.length_append, List.length_cons, List.length_nil]; omega), ?_⟩
        (conv => whnf)
        refine ⟨k, out.length, rfl, rfl, ⟨hk1, Nat.le_refl _⟩, ?_⟩
        (conv => whnf)
        refine ⟨_, _, rfl, rfl, (by simp only [List.length_take, List.length_drop, List.length_append, List.length_cons, List.length_nil]; omega), ?_⟩
        repeat' ((conv => whnf); first | (refine dec (fun h => ?_) (fun h => ?_) <;> try contradiction) | (refine decN (fun h => ?_) (fun h => ?_) <;> try contradiction) | refine booN (fun h => ?_) (fun h => ?_) | refine boo (fun h => ?_) (fun h => ?_) | refine ⟨i64 (by omega) (by omega), ?_⟩ | refine ⟨_, _, rfl, List.getElem?_eq_getElem (by omega), ?_⟩ | refine ⟨_, ⟨rfl, by omega⟩, ?_⟩ | refine ⟨_, List.getElem?_eq_getElem (by omega), ?_⟩ | refine rtB ?_ | refine rtI ?_ | refine rtC ?_ rfl | fail)
        refine ag (i + 1) [] [.same 4] ⟨hlt, trivial⟩ (by simp only []; omega) ?_
        rw [fin]
        repeat' first | exact trivial | exact rfl | refine And.intro ?_ ?_
  · have : sortI (l.take i) = sortI l := by rw [List.take_of_length_le (by omega)]
    (conv => whnf)
    rw [this]
    exact rx [] [.same 0]
end Go.Nest
