/- WALKS, S6: the laws PathsBack and PathsDoes. -/
import Derived.Test.YtkkjjbejkcgmfaaDoorS4
import Derived.Test.YtkkjjbejkcgmfaaDoorS5
namespace Go.Nest
open Go Go.AM Go.Proofs
open Go.Proofs.YtkkjjbejkcgmfaaDoor (tab tabOk)
set_option linter.unusedVariables false
set_option linter.unusedSimpArgs false
set_option maxRecDepth 4000

theorem nameC_ok {x : List UInt8} (h : nameC x = 0) : x.length ≤ 20 ∧ x.count 47 = 0 := by
  unfold nameC at h
  split at h
  · cases h
  · rename_i h1
    split at h
    · cases h
    · refine ⟨by omega, ?_⟩
      rw [List.count_eq_zero]
      intro hm
      apply h1
      exact .inr (.inr (.inr (List.any_eq_true.2 ⟨47, hm, by decide⟩)))
theorem spl_unsp : ∀ {l : List (List UInt8)}, l ≠ [] → (∀ x ∈ l, x.count 47 = 0) → spl (unsp l) = l
  | [], h, _ => absurd rfl h
  | [x], _, h => by unfold unsp; exact spl_none (h x (by simp))
  | x :: y :: r, _, h => by
    show spl (x ++ 47 :: unsp (y :: r)) = _
    rw [spl_append, spl_none (h x (by simp)), spl_unsp (by simp) (fun z hz => h z (List.mem_cons_of_mem _ hz))]
    rfl
theorem namesF_ok : ∀ {l : List (List UInt8)}, (∀ x ∈ l, nameC x = 0) → namesF l = 0
  | [], _ => rfl
  | x :: r, h => by unfold namesF; rw [if_pos (h x (by simp))]; exact namesF_ok (fun y hy => h y (by simp [hy]))
def lens (l : List (List UInt8)) : Nat := (l.map List.length).sum
theorem unsp_len : ∀ l : List (List UInt8), (unsp l).length ≤ lens l + l.length
  | [] => by simp [unsp]
  | [x] => by simp [unsp, lens]
  | x :: y :: r => by
    have := unsp_len (y :: r)
    simp [unsp, lens] at this ⊢
    omega
theorem lens_le {l : List (List UInt8)} {n : Nat} (h : ∀ x ∈ l, x.length ≤ n) : lens l ≤ l.length * n := by
  induction l with
  | nil => simp [lens]
  | cons x r ih =>
    have h1 := h x (by simp)
    have h2 := ih (fun y hy => h y (by simp [hy]))
    simp only [lens, List.map_cons, List.sum_cons, List.length_cons, Nat.succ_mul] at h2 ⊢
    omega
theorem lens_take {l : List (List UInt8)} {i : Nat} (h : i < l.length) : lens (l.take (i + 1)) = lens (l.take i) + l[i].length := by
  unfold lens; rw [List.take_succ_eq_append_getElem h, List.map_append, List.sum_append]; simp

set_option maxHeartbeats 1000000 in
theorem pathsBack_spec (s : List UInt8) (l : List (List UInt8)) : Does Tryd.prog 5 [.c (.str s), .c (.ls 1 (List UInt8) encS l)] [] (Rt (.c (.bool true)) []) := by
  refine X_specM ⟨Tryd.prog, tab, 66, 0⟩ tabOk (by kernel_rfl) Tryd.call5 Tryd.func5 rfl rfl (by kernel_rfl) rfl ?_
  intro hb
  have hbl : l.length ≤ 9223372036854775807 := hb.1.2.1
  refine XM.seq ?_
  repeat' ((conv => whnf); first | (refine dec (fun h => ?_) (fun h => ?_) <;> try contradiction) | (refine decN (fun h => ?_) (fun h => ?_) <;> try contradiction) | refine booN (fun h => ?_) (fun h => ?_) | refine boo (fun h => ?_) (fun h => ?_) | refine ⟨i64 (by omega) (by omega), ?_⟩ | refine ⟨_, _, rfl, List.getElem?_eq_getElem (by omega), ?_⟩ | refine ⟨_, ⟨rfl, by omega⟩, ?_⟩ | refine ⟨_, List.getElem?_eq_getElem (by omega), ?_⟩ | refine rtB ?_ | refine rtI ?_ | refine rtC ?_ rfl | fail)
  refine XM.seq ?_
  (conv => whnf)
  refine cl [] [] (pathsBegun_spec) (by (repeat' first | exact trivial | exact rfl | refine And.intro ?_ ?_); done) (by first | exact trivial | exact rfl) ?_
  repeat' ((conv => whnf); first | (refine dec (fun h => ?_) (fun h => ?_) <;> try contradiction) | (refine decN (fun h => ?_) (fun h => ?_) <;> try contradiction) | refine booN (fun h => ?_) (fun h => ?_) | refine boo (fun h => ?_) (fun h => ?_) | refine ⟨i64 (by omega) (by omega), ?_⟩ | refine ⟨_, _, rfl, List.getElem?_eq_getElem (by omega), ?_⟩ | refine ⟨_, ⟨rfl, by omega⟩, ?_⟩ | refine ⟨_, List.getElem?_eq_getElem (by omega), ?_⟩ | refine rtB ?_ | refine rtI ?_ | refine rtC ?_ rfl | fail)
  refine XM.seq ?_
  repeat' ((conv => whnf); first | (refine dec (fun h => ?_) (fun h => ?_) <;> try contradiction) | (refine decN (fun h => ?_) (fun h => ?_) <;> try contradiction) | refine booN (fun h => ?_) (fun h => ?_) | refine boo (fun h => ?_) (fun h => ?_) | refine ⟨i64 (by omega) (by omega), ?_⟩ | refine ⟨_, _, rfl, List.getElem?_eq_getElem (by omega), ?_⟩ | refine ⟨_, ⟨rfl, by omega⟩, ?_⟩ | refine ⟨_, List.getElem?_eq_getElem (by omega), ?_⟩ | refine rtB ?_ | refine rtI ?_ | refine rtC ?_ rfl | fail)
  all_goals try rfl
  have hs : s.length ≤ 2000 := by omega
  have hl : l.length ≤ 50 := by omega
  have hsl : (spl s).length ≤ s.length + 1 := by rw [spl_len]; have := List.count_le_length (a := 47) (l := s); omega
  refine XM.seq ?_
  (conv => whnf)
  refine cl [] [] (pathsSplit_spec s (by omega)) (by (repeat' first | exact trivial | exact rfl | refine And.intro ?_ ?_); done) (by first | exact trivial | exact rfl) ?_
  repeat' ((conv => whnf); first | (refine dec (fun h => ?_) (fun h => ?_) <;> try contradiction) | (refine decN (fun h => ?_) (fun h => ?_) <;> try contradiction) | refine booN (fun h => ?_) (fun h => ?_) | refine boo (fun h => ?_) (fun h => ?_) | refine ⟨i64 (by omega) (by omega), ?_⟩ | refine ⟨_, _, rfl, List.getElem?_eq_getElem (by omega), ?_⟩ | refine ⟨_, ⟨rfl, by omega⟩, ?_⟩ | refine ⟨_, List.getElem?_eq_getElem (by omega), ?_⟩ | refine rtB ?_ | refine rtI ?_ | refine rtC ?_ rfl | fail)
  refine XM.join (ι := Unit) (fun _ => ⟨[(1, .c (.ls 1 (List UInt8) encS l))], []⟩) (fun _ => True) ?_ (fun _ _ => ?_)
  · (conv => whnf)
    refine dec (fun h => ?_) (fun h => ?_)
    · have hsp : splitP s = (spl s, 0) := by
        unfold splitP at h ⊢
        split
        · split
          · rename_i h1 h2; rw [if_pos h1, if_pos h2] at h; cases h
          · rfl
        · rename_i h1; rw [if_neg h1] at h; exact absurd h h1
      rw [hsp]
      (conv => whnf)
      refine cl [] [] (pathsJoin_spec (spl s) (by omega) (by rw [unsp_spl]; omega)) (by (repeat' first | exact trivial | exact rfl | refine And.intro ?_ ?_); done) (by first | exact trivial | exact rfl) ?_
      rw [unsp_spl]
      (conv => whnf)
      refine decN (fun h => absurd rfl h) (fun _ => ?_)
      (conv => whnf)
      refine ⟨(), trivial, [], [], ?_⟩
      repeat' first | exact trivial | exact rfl | refine And.intro ?_ ?_
    · (conv => whnf)
      refine ⟨(), trivial, [], [], ?_⟩
      repeat' first | exact trivial | exact rfl | refine And.intro ?_ ?_
  refine XM.join (ι := Unit) (fun _ => ⟨[(1, .c (.ls 1 (List UInt8) encS l))], []⟩) (fun _ => ∀ x ∈ l, nameC x = 0) ?_ (fun _ hn => ?_)
  · (conv => whnf)
    refine lp Nat (fun i => ⟨[(1, .c (.ls 1 (List UInt8) encS l)), (7, .c (.int .i64 i))], []⟩) (fun i => i ≤ l.length ∧ ∀ x ∈ l.take i, nameC x = 0) (fun i => l.length - i) 0 [] [] ?_ ?_ (fun i hi => ?_)
    · simp
    · repeat' first | exact trivial | exact rfl | refine And.intro ?_ ?_
    (conv => whnf)
    refine dec (fun h4 => ?_) (fun h4 => ?_)
    · have hlt : i < l.length := by omega
      repeat' ((conv => whnf); first | (refine dec (fun h => ?_) (fun h => ?_) <;> try contradiction) | (refine decN (fun h => ?_) (fun h => ?_) <;> try contradiction) | refine booN (fun h => ?_) (fun h => ?_) | refine boo (fun h => ?_) (fun h => ?_) | refine ⟨i64 (by omega) (by omega), ?_⟩ | refine ⟨_, _, rfl, List.getElem?_eq_getElem (by omega), ?_⟩ | refine ⟨_, ⟨rfl, by omega⟩, ?_⟩ | refine ⟨_, List.getElem?_eq_getElem (by omega), ?_⟩ | refine rtB ?_ | refine rtI ?_ | refine rtC ?_ rfl | fail)
      (conv => whnf)
      refine cl [] [] (name_spec l[i]) (by (repeat' first | exact trivial | exact rfl | refine And.intro ?_ ?_); done) (by first | exact trivial | exact rfl) ?_
      repeat' ((conv => whnf); first | (refine dec (fun h => ?_) (fun h => ?_) <;> try contradiction) | (refine decN (fun h => ?_) (fun h => ?_) <;> try contradiction) | refine booN (fun h => ?_) (fun h => ?_) | refine boo (fun h => ?_) (fun h => ?_) | refine ⟨i64 (by omega) (by omega), ?_⟩ | refine ⟨_, _, rfl, List.getElem?_eq_getElem (by omega), ?_⟩ | refine ⟨_, ⟨rfl, by omega⟩, ?_⟩ | refine ⟨_, List.getElem?_eq_getElem (by omega), ?_⟩ | refine rtB ?_ | refine rtI ?_ | refine rtC ?_ rfl | fail)
      · rfl
      · refine ag (i + 1) [] [] ⟨hlt, fun x hx => ?_⟩ (by simp only []; omega) ?_
        · rw [List.take_succ_eq_append_getElem hlt, List.mem_append, List.mem_singleton] at hx
          exact hx.elim (hi.2 x) (fun e => by rw [e]; exact h)
        · repeat' first | exact trivial | exact rfl | refine And.intro ?_ ?_
    · have := hi.2
      rw [List.take_of_length_le (by omega)] at this
      (conv => whnf)
      refine ⟨(), this, [], [], ?_⟩
      repeat' first | exact trivial | exact rfl | refine And.intro ?_ ?_
  refine XM.seq ?_
  repeat' ((conv => whnf); first | (refine dec (fun h => ?_) (fun h => ?_) <;> try contradiction) | (refine decN (fun h => ?_) (fun h => ?_) <;> try contradiction) | refine booN (fun h => ?_) (fun h => ?_) | refine boo (fun h => ?_) (fun h => ?_) | refine ⟨i64 (by omega) (by omega), ?_⟩ | refine ⟨_, _, rfl, List.getElem?_eq_getElem (by omega), ?_⟩ | refine ⟨_, ⟨rfl, by omega⟩, ?_⟩ | refine ⟨_, List.getElem?_eq_getElem (by omega), ?_⟩ | refine rtB ?_ | refine rtI ?_ | refine rtC ?_ rfl | fail)
  all_goals try rfl
  have hne : l ≠ [] := fun e => by subst e; simp at *
  have hl8 : l.length ≤ 8 := by omega
  have hul : (unsp l).length ≤ 168 := by
    have h1 := unsp_len l
    have h2 := lens_le (l := l) (n := 20) (fun x hx => (nameC_ok (hn x hx)).1)
    omega
  have hsp : splitP (unsp l) = (l, 0) := by
    unfold splitP
    rw [spl_unsp hne (fun x hx => (nameC_ok (hn x hx)).2), if_pos (namesF_ok hn), if_neg (by omega)]
  have p1 := pathsSplit_spec (unsp l) (by omega)
  rw [hsp] at p1
  dsimp only at p1
  refine XM.seq ?_
  (conv => whnf)
  refine cl [] [] (pathsJoin_spec l (by omega) (by omega)) (by (repeat' first | exact trivial | exact rfl | refine And.intro ?_ ?_); done) (by first | exact trivial | exact rfl) ?_
  (conv => whnf)
  refine cl [] [] (p1) (by (repeat' first | exact trivial | exact rfl | refine And.intro ?_ ?_); done) (by first | exact trivial | exact rfl) ?_
  repeat' ((conv => whnf); first | (refine dec (fun h => ?_) (fun h => ?_) <;> try contradiction) | (refine decN (fun h => ?_) (fun h => ?_) <;> try contradiction) | refine booN (fun h => ?_) (fun h => ?_) | refine boo (fun h => ?_) (fun h => ?_) | refine ⟨i64 (by omega) (by omega), ?_⟩ | refine ⟨_, _, rfl, List.getElem?_eq_getElem (by omega), ?_⟩ | refine ⟨_, ⟨rfl, by omega⟩, ?_⟩ | refine ⟨_, List.getElem?_eq_getElem (by omega), ?_⟩ | refine rtB ?_ | refine rtI ?_ | refine rtC ?_ rfl | fail)
  refine XM.of ?_
  repeat' ((conv => whnf); first | (refine dec (fun h => ?_) (fun h => ?_) <;> try contradiction) | (refine decN (fun h => ?_) (fun h => ?_) <;> try contradiction) | refine booN (fun h => ?_) (fun h => ?_) | refine boo (fun h => ?_) (fun h => ?_) | refine ⟨i64 (by omega) (by omega), ?_⟩ | refine ⟨_, _, rfl, List.getElem?_eq_getElem (by omega), ?_⟩ | refine ⟨_, ⟨rfl, by omega⟩, ?_⟩ | refine ⟨_, List.getElem?_eq_getElem (by omega), ?_⟩ | refine rtB ?_ | refine rtI ?_ | refine rtC ?_ rfl | fail)
  (conv => whnf)
  refine cl [] [] (sameTexts_spec l l) (by (repeat' first | exact trivial | exact rfl | refine And.intro ?_ ?_); done) (by first | exact trivial | exact rfl) ?_
  (conv => whnf)
  exact rtB (by simp)
end Go.Nest
