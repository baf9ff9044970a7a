/- WALKS, N5: refs: all commits to which they lead, or ever led. -/
import Derived.Test.YtgbppkcebaoebaaN4
import Derived.Test.YtgbppkcebaoebaaQ8
import Derived.Test.YtgbppkcebaoebaaW7
namespace Go.Nest
open Go Go.AM Go.Proofs
open Go.Proofs.Ytgbppkcebaoebaa (tab tabOk)
set_option linter.unusedVariables false
set_option linter.unusedSimpArgs false
set_option maxRecDepth 4000
/-! ### what stands twice, one behind the other, once -/
def dds (out : List Int) (x : Int) : List Int := if out.getLast? = some x then out else out ++ [x]
def ddI (l : List Int) : List Int := l.foldl dds []
theorem ddI_succ {l : List Int} {i : Nat} (h : i < l.length) : ddI (l.take (i + 1)) = dds (ddI (l.take i)) l[i] := by
  unfold ddI
  rw [List.take_succ_eq_append_getElem h, List.foldl_append]; rfl
theorem dds_last {out : List Int} {x : Int} : (dds out x).getLast? = some x := by
  unfold dds
  split
  · assumption
  · simp
theorem dds_mem {out : List Int} {x y : Int} : y ∈ dds out x ↔ y ∈ out ∨ y = x := by
  unfold dds
  split
  · rename_i h
    exact ⟨.inl, fun h2 => h2.elim id fun e => by rw [e]; exact List.mem_of_getLast? h⟩
  · simp
theorem ddI_last {l : List Int} {i : Nat} (h0 : 0 < i) (h : i ≤ l.length) : (ddI (l.take i)).getLast? = some (l[i - 1]'(by omega)) := by
  obtain ⟨j, rfl⟩ : ∃ j, i = j + 1 := ⟨i - 1, by omega⟩
  rw [ddI_succ (by omega)]
  exact dds_last
theorem ddI_mem {y : Int} : ∀ {l out : List Int}, y ∈ l.foldl dds out ↔ y ∈ out ∨ y ∈ l
  | [], out => by simp
  | x :: l, out => by rw [List.foldl_cons, ddI_mem (l := l), dds_mem, List.mem_cons, or_assoc]
theorem dd_rise : ∀ {l out : List Int}, out.Pairwise (· < ·) → l.Pairwise (· ≤ ·) → (∀ x ∈ out, ∀ y ∈ l, x ≤ y) → (l.foldl dds out).Pairwise (· < ·)
  | [], _, h, _, _ => h
  | x :: l, out, h, h1, h2 => by
    obtain ⟨h3, h4⟩ := List.pairwise_cons.1 h1
    refine dd_rise (l := l) ?_ h4 fun a ha b hb => ?_
    · unfold dds
      split
      · exact h
      · rename_i hne
        rw [List.pairwise_append]
        refine ⟨h, List.pairwise_singleton .., fun a ha b hb => ?_⟩
        rw [List.mem_singleton] at hb
        rw [hb]
        have h5 := h2 a ha x (by simp)
        rcases List.eq_nil_or_concat out with e | ⟨init, last, e⟩
        · subst e; cases ha
        · subst e
          rw [List.concat_eq_append] at *
          simp at hne
          rcases List.mem_append.1 ha with ha | ha
          · have := (List.pairwise_append.1 h).2.2 a ha last (by simp)
            have := h2 last (by simp) x (by simp)
            omega
          · rw [List.mem_singleton] at ha; rw [ha] at h5 ⊢; omega
    · rcases dds_mem.1 ha with ha | rfl
      · exact h2 a ha b (by simp [hb])
      · exact h3 b hb
/-- where it stands: k are kept of j -/
structure Cpt (l r : List Int) (k j : Nat) : Prop where
  kj : k < j
  jl : j ≤ l.length
  len : r.length = l.length
  pre : r.take k = ddI (l.take j)
  suf : r.drop (j - 1) = l.drop (j - 1)
theorem Cpt.at {l r : List Int} {k j : Nat} (h : Cpt l r k j) {i : Nat} (hj : j - 1 ≤ i) (hi : i < l.length) : r[i]? = some l[i] := by
  have := congrArg (·[i - (j - 1)]?) h.suf
  simp only [List.getElem?_drop] at this
  rw [show j - 1 + (i - (j - 1)) = i by omega] at this
  rw [this, List.getElem?_eq_getElem hi]
theorem Cpt.suf1 {l r : List Int} {k j : Nat} (h : Cpt l r k j) : r.drop j = l.drop j := by
  have h0 := h.kj
  have := congrArg (List.drop 1) h.suf
  rwa [List.drop_drop, List.drop_drop, show j - 1 + 1 = j by omega] at this
theorem Cpt.skip {l r : List Int} {k j : Nat} (h : Cpt l r k j) (hj : j < l.length) (he : l[j] = l[j - 1]'(by omega)) : Cpt l r k (j + 1) := by
  have h0 := h.kj
  refine ⟨by omega, hj, h.len, ?_, h.suf1⟩
  rw [ddI_succ hj, h.pre]
  unfold dds
  rw [if_pos (by rw [ddI_last (by omega) (by omega), he])]
theorem Cpt.keep {l r : List Int} {k j : Nat} (h : Cpt l r k j) (hj : j < l.length) (he : l[j] ≠ l[j - 1]'(by omega)) : Cpt l (r.set k l[j]) (k + 1) (j + 1) := by
  have h0 := h.kj
  have hi : k < r.length := by rw [h.len]; omega
  refine ⟨by omega, hj, by rw [List.length_set]; exact h.len, ?_, ?_⟩
  · rw [ddI_succ hj, ← h.pre, List.take_succ_eq_append_getElem (by rw [List.length_set]; exact hi), List.getElem_set_self, List.take_set_of_le (Nat.le_refl _)]
    unfold dds
    rw [if_neg]
    rw [h.pre, ddI_last (by omega) (by omega)]
    intro e
    exact he (Option.some.inj e).symm
  · rw [Nat.add_sub_cancel, List.drop_set_of_lt (by omega), h.suf1]
theorem compact_spec (l : List Int) (hl : l.length ≤ 1000000) : Does Try.prog 26 [.c (.rw 0)] [.row 1 Int encI l] (Rt (.c (.rw 1)) [.dead, .row 1 Int encI (ddI l)]) := by
  refine X_spec (n := 61) (n0 := 1) tabOk Try.call26 Try.func26 ?_
  intro hb
  (conv => whnf)
  refine dec (fun h => ?_) (fun h => ?_)
  · have e : ddI l = l := by
      match l, h with
      | [], _ => rfl
      | [x], _ => rfl
      | _ :: _ :: _, h => simp only [List.length_cons] at h; omega
    rw [e]
    (conv => whnf)
    exact rx [] [.same 0, .same 0]
  have h : 2 ≤ l.length := by omega
  (conv => whnf)
  refine lp Nat (fun k => ⟨[(0, .c (.rw 0)), (3, .c (.int .i64 k))], [.row 1 Int encI l]⟩) (fun k => (1 ≤ k ∧ k ≤ l.length) ∧ ddI (l.take k) = l.take k) (fun k => l.length - k) 1 [] [.same 0] ?_ ?_ (fun k hk => ?_)
  · refine ⟨⟨Nat.le_refl _, by omega⟩, ?_⟩
    match l, h with
    | x :: l, _ => rfl
  · repeat' first | exact trivial | exact rfl | refine And.intro ?_ ?_
  obtain ⟨⟨h1, h2⟩, h3⟩ := hk
  (conv => whnf)
  refine dec (fun h4 => ?_) (fun h4 => ?_)
  · have hlt : k < l.length := by omega
    (conv => whnf)
    refine ⟨false, .grow, (.l [0, 1, 2, 3, 4, 5, 6, 7, 8, 9]), by kernel_rfl, .inl ?_⟩
    (conv => whnf)
    refine ⟨k, ⟨rfl, hlt⟩, ?_⟩
    (conv => whnf)
    refine ⟨l[k], List.getElem?_eq_getElem hlt, ?_⟩
    (conv => whnf)
    refine ⟨i64 (by omega) (by omega), ?_⟩
    (conv => whnf)
    refine ⟨k - 1, ⟨by omega, by omega⟩, ?_⟩
    (conv => whnf)
    refine ⟨l[k - 1], List.getElem?_eq_getElem (by omega), ?_⟩
    (conv => whnf)
    refine dec (fun h5 => ?_) (fun h5 => ?_)
    · (conv => whnf)
      refine ⟨k, l.length, rfl, rfl, ⟨h2, Nat.le_refl _⟩, ?_⟩
      (conv => whnf)
      refine lp (Nat × Nat × List Int) (fun | (i, j, r) => ⟨[(0, .c (.rw 0)), (3, .c (.int .i64 i)), (4, .c (.sw 1 0 k (l.length - k))), (5, .c (.int .i64 ((j : Int) - k)))], [.row 1 Int encI r]⟩) (fun x => Cpt l x.2.2 x.1 x.2.1 ∧ k ≤ x.1) (fun x => l.length - x.2.1) (k, k + 1, l) [] [.same 0] ?_ ?_ (fun x hx => ?_)
      · refine ⟨⟨Nat.lt_succ_self _, hlt, rfl, ?_, rfl⟩, Nat.le_refl _⟩
        rw [ddI_succ hlt, h3]
        unfold dds
        rw [if_pos]
        rw [← h3, ddI_last (by omega) (by omega), h5]
      · repeat' first | exact trivial | exact rfl | refine And.intro ?_ ?_
        show C.int IntKind.i64 _ = C.int IntKind.i64 _
        congr 1; omega
      obtain ⟨i, j, r⟩ := x
      obtain ⟨hx, hki⟩ := hx
      dsimp only at hx hki
      have g1 := hx.kj
      have g2 := hx.jl
      have g3 := hx.len
      (conv => whnf)
      refine dec (fun h6 => ?_) (fun h6 => ?_)
      · have h6 : (j : Int) - k < ((l.length - k : Nat) : Int) := by
          have e : ((List.drop k r).take (l.length - k)).length = l.length - k := by simp; omega
          rw [← e]; exact h6
        have hj : j < l.length := by omega
        (conv => whnf)
        refine ⟨false, .grow, (.l [0, 1, 2, 3, 4, 5, 6, 7, 8, 9]), by kernel_rfl, .inl ?_⟩
        (conv => whnf)
        refine ⟨j - k, ⟨by omega, by omega⟩, ?_⟩
        (conv => whnf)
        refine ⟨l[j], ?_, ?_⟩
        · have := hx.at (i := j) (by omega) hj
          first | exact this | (rw [show k + (j - k) = j by omega]; exact this)
        (conv => whnf)
        refine ⟨i64 (by omega) (by omega), ?_⟩
        (conv => whnf)
        refine ⟨j - k - 1, ⟨by omega, by omega⟩, ?_⟩
        (conv => whnf)
        refine ⟨l[j - 1], ?_, ?_⟩
        · have := hx.at (i := j - 1) (by omega) (by omega)
          first | exact this | (rw [show k + (j - k - 1) = j - 1 by omega]; exact this)
        (conv => whnf)
        refine decN (fun h7 => ?_) (fun h7 => ?_)
        · (conv => whnf)
          refine ⟨j - k, ⟨by omega, by omega⟩, ?_⟩
          (conv => whnf)
          refine ⟨l[j], ?_, ?_⟩
          · have := hx.at (i := j) (by omega) hj
            first | exact this | (rw [show k + (j - k) = j by omega]; exact this)
          (conv => whnf)
          refine ⟨i, ⟨rfl, by omega⟩, ?_⟩
          (conv => whnf)
          refine ⟨_, l[j], List.getElem?_eq_getElem (by omega), ⟨Nat.le_refl _, rfl⟩, ?_⟩
          repeat' ((conv => whnf); first | (refine dec (fun h => ?_) (fun h => ?_) <;> try contradiction) | (refine decN (fun h => ?_) (fun h => ?_) <;> try contradiction) | refine booN (fun h => ?_) (fun h => ?_) | refine boo (fun h => ?_) (fun h => ?_) | refine ⟨i64 (by omega) (by omega), ?_⟩ | refine ⟨_, _, rfl, List.getElem?_eq_getElem (by omega), ?_⟩ | refine ⟨_, ⟨rfl, by omega⟩, ?_⟩ | refine ⟨_, List.getElem?_eq_getElem (by omega), ?_⟩ | refine rtB ?_ | refine rtI ?_ | refine rtC ?_ rfl | fail)
          refine ag (i + 1, j + 1, r.set i l[j]) [] [.same 0] ⟨hx.keep hj h7, by omega⟩ (by simp only []; omega) ?_
          repeat' first | exact trivial | exact rfl | refine And.intro ?_ ?_
          show C.int IntKind.i64 _ = C.int IntKind.i64 _
          congr 1; omega
        · repeat' ((conv => whnf); first | (refine dec (fun h => ?_) (fun h => ?_) <;> try contradiction) | (refine decN (fun h => ?_) (fun h => ?_) <;> try contradiction) | refine booN (fun h => ?_) (fun h => ?_) | refine boo (fun h => ?_) (fun h => ?_) | refine ⟨i64 (by omega) (by omega), ?_⟩ | refine ⟨_, _, rfl, List.getElem?_eq_getElem (by omega), ?_⟩ | refine ⟨_, ⟨rfl, by omega⟩, ?_⟩ | refine ⟨_, List.getElem?_eq_getElem (by omega), ?_⟩ | refine rtB ?_ | refine rtI ?_ | refine rtC ?_ rfl | fail)
          refine ag (i, j + 1, r) [] [.same 0] ⟨hx.skip hj h7, hki⟩ (by simp only []; omega) ?_
          repeat' first | exact trivial | exact rfl | refine And.intro ?_ ?_
          show C.int IntKind.i64 _ = C.int IntKind.i64 _
          congr 1; omega
      · have h6 : ¬ (j : Int) - k < ((l.length - k : Nat) : Int) := by
          have e : ((List.drop k r).take (l.length - k)).length = l.length - k := by simp; omega
          rw [← e]; exact h6
        obtain rfl : j = l.length := by omega
        have hp := hx.pre
        rw [List.take_length] at hp
        (conv => whnf)
        refine ⟨i, r.length, rfl, by omega, by omega, ?_⟩
        (conv => whnf)
        have hrl : (r.take i ++ (List.replicate (r.length - i) (0 : Int) ++ r.drop (i + (r.length - i)))).length = r.length := by simp; omega
        refine ⟨0, rfl, by omega, ?_⟩
        (conv => whnf)
        refine ⟨0, i, rfl, rfl, ⟨Nat.zero_le _, by rw [hrl]; omega⟩, ?_⟩
        (conv => whnf)
        have he : ((r.take i ++ (List.replicate (r.length - i) (0 : Int) ++ r.drop (i + (r.length - i)))).drop 0).take (i - 0) = ddI l := by
          rw [List.drop_zero, Nat.sub_zero, List.take_append_of_le_length (by rw [List.length_take]; omega), List.take_take, Nat.min_self]
          exact hp
        refine rt [] [.same 0, .cut 1 0 0 (i - 0)] ?_ rfl ⟨rfl, rfl⟩
        repeat' first | exact trivial | exact rfl | refine And.intro ?_ ?_
        · omega
        · rw [he]
    · repeat' ((conv => whnf); first | (refine dec (fun h => ?_) (fun h => ?_) <;> try contradiction) | (refine decN (fun h => ?_) (fun h => ?_) <;> try contradiction) | refine booN (fun h => ?_) (fun h => ?_) | refine boo (fun h => ?_) (fun h => ?_) | refine ⟨i64 (by omega) (by omega), ?_⟩ | refine ⟨_, _, rfl, List.getElem?_eq_getElem (by omega), ?_⟩ | refine ⟨_, ⟨rfl, by omega⟩, ?_⟩ | refine ⟨_, List.getElem?_eq_getElem (by omega), ?_⟩ | refine rtB ?_ | refine rtI ?_ | refine rtC ?_ rfl | fail)
      refine ag (k + 1) [] [.same 0] ⟨⟨by omega, hlt⟩, ?_⟩ (by simp only []; omega) ?_
      · rw [ddI_succ hlt]
        unfold dds
        rw [if_neg (by rw [ddI_last (by omega) (by omega)]; intro e; exact h5 (Option.some.inj e).symm), h3, List.take_succ_eq_append_getElem hlt]
      · repeat' first | exact trivial | exact rfl | refine And.intro ?_ ?_
  · obtain rfl : k = l.length := by omega
    rw [List.take_length] at h3
    rw [h3]
    (conv => whnf)
    exact rx [] [.same 0, .same 0]
end Go.Nest
