/- WALKS, N4: refs: set. -/
import Derived.Test.YtgbppkcebaoebaaN3
import Derived.Test.YtgbppkcebaoebaaG1b
namespace Go.Nest
open Go Go.AM Go.Proofs
open Go.Proofs.Ytgbppkcebaoebaa (tab tabOk)
set_option linter.unusedVariables false
set_option linter.unusedSimpArgs false
set_option maxRecDepth 4000
theorem fault_spec (m : List Mv) (n : List UInt8) (old id : Int) (hm : m.length ≤ 1000) : Does Try.prog 24 [.c (.bp [.bs 3 Mv encMv m]), .c (.str n), .c (.int .i64 old), .c (.int .i64 id)] [] (Rt (.c (.int .i64 (faultM m n old id))) []) := by
  refine X_spec (n := 37) (n0 := 0) tabOk Try.call24 Try.func24 ?_
  intro hb
  unfold faultM
  (conv => whnf)
  refine cl [] [] (nameF_spec n) ?_
  (conv => whnf)
  refine decN (fun h1 => ?_) (fun h1 => ?_)
  · rw [if_pos h1]
    repeat' ((conv => whnf); first | (refine dec (fun h => ?_) (fun h => ?_) <;> try contradiction) | (refine decN (fun h => ?_) (fun h => ?_) <;> try contradiction) | refine booN (fun h => ?_) (fun h => ?_) | refine boo (fun h => ?_) (fun h => ?_) | refine ⟨i64 (by omega) (by omega), ?_⟩ | refine ⟨_, _, rfl, List.getElem?_eq_getElem (by omega), ?_⟩ | refine ⟨_, ⟨rfl, by omega⟩, ?_⟩ | refine ⟨_, List.getElem?_eq_getElem (by omega), ?_⟩ | refine rtB ?_ | refine rtI ?_ | refine rtC ?_ rfl | fail)
    rfl
  rw [if_neg (fun h => h h1)]
  (conv => whnf)
  refine dec (fun h2 => ?_) (fun h2 => ?_)
  · rw [if_pos h2]
    repeat' ((conv => whnf); first | (refine dec (fun h => ?_) (fun h => ?_) <;> try contradiction) | (refine decN (fun h => ?_) (fun h => ?_) <;> try contradiction) | refine booN (fun h => ?_) (fun h => ?_) | refine boo (fun h => ?_) (fun h => ?_) | refine ⟨i64 (by omega) (by omega), ?_⟩ | refine ⟨_, _, rfl, List.getElem?_eq_getElem (by omega), ?_⟩ | refine ⟨_, ⟨rfl, by omega⟩, ?_⟩ | refine ⟨_, List.getElem?_eq_getElem (by omega), ?_⟩ | refine rtB ?_ | refine rtI ?_ | refine rtC ?_ rfl | fail)
    rfl
  rw [if_neg h2]
  (conv => whnf)
  refine cl [] [] (getN_spec m n hm) ?_
  (conv => whnf)
  refine decN (fun h3 => ?_) (fun h3 => ?_)
  · rw [if_pos h3]
    repeat' ((conv => whnf); first | (refine dec (fun h => ?_) (fun h => ?_) <;> try contradiction) | (refine decN (fun h => ?_) (fun h => ?_) <;> try contradiction) | refine booN (fun h => ?_) (fun h => ?_) | refine boo (fun h => ?_) (fun h => ?_) | refine ⟨i64 (by omega) (by omega), ?_⟩ | refine ⟨_, _, rfl, List.getElem?_eq_getElem (by omega), ?_⟩ | refine ⟨_, ⟨rfl, by omega⟩, ?_⟩ | refine ⟨_, List.getElem?_eq_getElem (by omega), ?_⟩ | refine rtB ?_ | refine rtI ?_ | refine rtC ?_ rfl | fail)
    rfl
  rw [if_neg (fun h => h h3)]
  have fin : ∀ {p : Prop} [Decidable p] {a b : Int}, p → (if p then a else b) = a := fun h => if_pos h
  (conv => whnf)
  refine dec (fun h4 => ?_) (fun h4 => ?_)
  · (conv => whnf)
    refine dec (fun h5 => ?_) (fun h5 => ?_)
    · (conv => whnf)
      refine cl [] [] (listN_spec m hm) ?_
      (conv => whnf)
      refine dec (fun h6 => ?_) (fun h6 => ?_)
      · rw [if_pos ⟨h4, h5, by have h6 : (8 : Int) ≤ (listM m).length := h6; omega⟩]
        repeat' ((conv => whnf); first | (refine dec (fun h => ?_) (fun h => ?_) <;> try contradiction) | (refine decN (fun h => ?_) (fun h => ?_) <;> try contradiction) | refine booN (fun h => ?_) (fun h => ?_) | refine boo (fun h => ?_) (fun h => ?_) | refine ⟨i64 (by omega) (by omega), ?_⟩ | refine ⟨_, _, rfl, List.getElem?_eq_getElem (by omega), ?_⟩ | refine ⟨_, ⟨rfl, by omega⟩, ?_⟩ | refine ⟨_, List.getElem?_eq_getElem (by omega), ?_⟩ | refine rtB ?_ | refine rtI ?_ | refine rtC ?_ rfl | fail)
        rfl
      · rw [if_neg (fun h => h6 (by have := h.2.2; show (8 : Int) ≤ (listM m).length; omega))]
        (conv => whnf)
        refine dec (fun h7 => ?_) (fun h7 => ?_)
        · rw [if_pos h7]
          repeat' ((conv => whnf); first | (refine dec (fun h => ?_) (fun h => ?_) <;> try contradiction) | (refine decN (fun h => ?_) (fun h => ?_) <;> try contradiction) | refine booN (fun h => ?_) (fun h => ?_) | refine boo (fun h => ?_) (fun h => ?_) | refine ⟨i64 (by omega) (by omega), ?_⟩ | refine ⟨_, _, rfl, List.getElem?_eq_getElem (by omega), ?_⟩ | refine ⟨_, ⟨rfl, by omega⟩, ?_⟩ | refine ⟨_, List.getElem?_eq_getElem (by omega), ?_⟩ | refine rtB ?_ | refine rtI ?_ | refine rtC ?_ rfl | fail)
          rfl
        · rw [if_neg h7]
          repeat' ((conv => whnf); first | (refine dec (fun h => ?_) (fun h => ?_) <;> try contradiction) | (refine decN (fun h => ?_) (fun h => ?_) <;> try contradiction) | refine booN (fun h => ?_) (fun h => ?_) | refine boo (fun h => ?_) (fun h => ?_) | refine ⟨i64 (by omega) (by omega), ?_⟩ | refine ⟨_, _, rfl, List.getElem?_eq_getElem (by omega), ?_⟩ | refine ⟨_, ⟨rfl, by omega⟩, ?_⟩ | refine ⟨_, List.getElem?_eq_getElem (by omega), ?_⟩ | refine rtB ?_ | refine rtI ?_ | refine rtC ?_ rfl | fail)
          rfl
    · rw [if_neg (fun h => h5 h.2.1)]
      (conv => whnf)
      refine dec (fun h7 => ?_) (fun h7 => ?_)
      · rw [if_pos h7]
        repeat' ((conv => whnf); first | (refine dec (fun h => ?_) (fun h => ?_) <;> try contradiction) | (refine decN (fun h => ?_) (fun h => ?_) <;> try contradiction) | refine booN (fun h => ?_) (fun h => ?_) | refine boo (fun h => ?_) (fun h => ?_) | refine ⟨i64 (by omega) (by omega), ?_⟩ | refine ⟨_, _, rfl, List.getElem?_eq_getElem (by omega), ?_⟩ | refine ⟨_, ⟨rfl, by omega⟩, ?_⟩ | refine ⟨_, List.getElem?_eq_getElem (by omega), ?_⟩ | refine rtB ?_ | refine rtI ?_ | refine rtC ?_ rfl | fail)
        rfl
      · rw [if_neg h7]
        repeat' ((conv => whnf); first | (refine dec (fun h => ?_) (fun h => ?_) <;> try contradiction) | (refine decN (fun h => ?_) (fun h => ?_) <;> try contradiction) | refine booN (fun h => ?_) (fun h => ?_) | refine boo (fun h => ?_) (fun h => ?_) | refine ⟨i64 (by omega) (by omega), ?_⟩ | refine ⟨_, _, rfl, List.getElem?_eq_getElem (by omega), ?_⟩ | refine ⟨_, ⟨rfl, by omega⟩, ?_⟩ | refine ⟨_, List.getElem?_eq_getElem (by omega), ?_⟩ | refine rtB ?_ | refine rtI ?_ | refine rtC ?_ rfl | fail)
        rfl
  · rw [if_neg (fun h => h4 h.1)]
    (conv => whnf)
    refine dec (fun h7 => ?_) (fun h7 => ?_)
    · rw [if_pos h7]
      repeat' ((conv => whnf); first | (refine dec (fun h => ?_) (fun h => ?_) <;> try contradiction) | (refine decN (fun h => ?_) (fun h => ?_) <;> try contradiction) | refine booN (fun h => ?_) (fun h => ?_) | refine boo (fun h => ?_) (fun h => ?_) | refine ⟨i64 (by omega) (by omega), ?_⟩ | refine ⟨_, _, rfl, List.getElem?_eq_getElem (by omega), ?_⟩ | refine ⟨_, ⟨rfl, by omega⟩, ?_⟩ | refine ⟨_, List.getElem?_eq_getElem (by omega), ?_⟩ | refine rtB ?_ | refine rtI ?_ | refine rtC ?_ rfl | fail)
      rfl
    · rw [if_neg h7]
      repeat' ((conv => whnf); first | (refine dec (fun h => ?_) (fun h => ?_) <;> try contradiction) | (refine decN (fun h => ?_) (fun h => ?_) <;> try contradiction) | refine booN (fun h => ?_) (fun h => ?_) | refine boo (fun h => ?_) (fun h => ?_) | refine ⟨i64 (by omega) (by omega), ?_⟩ | refine ⟨_, _, rfl, List.getElem?_eq_getElem (by omega), ?_⟩ | refine ⟨_, ⟨rfl, by omega⟩, ?_⟩ | refine ⟨_, List.getElem?_eq_getElem (by omega), ?_⟩ | refine rtB ?_ | refine rtI ?_ | refine rtC ?_ rfl | fail)
      rfl
def setM (m : List Mv) (n : List UInt8) (old id : Int) : List Mv := if faultM m n old id = 0 then m ++ [⟨n, old, id⟩] else m
theorem setN_spec (m : List Mv) (n : List UInt8) (old id : Int) (hm : m.length ≤ 999) : Does Try.prog 12 [.c (.ptr 0 0), .c (.str n), .c (.int .i64 old), .c (.int .i64 id)] [.box [.rw 1], .row 3 Mv encMv m]
    (Rt (.c (.int .i64 (faultM m n old id))) [.box [.rw 2], .dead, .row 3 Mv encMv (setM m n old id)]) := by
  refine X_spec (n := 31) (n0 := 2) tabOk Try.call12 Try.func12 ?_
  intro hb
  (conv => whnf)
  refine cl [] [] (fault_spec m n old id (by omega)) ?_
  (conv => whnf)
  refine dec (fun h1 => ?_) (fun h1 => ?_)
  · rw [show setM m n old id = m ++ [⟨n, old, id⟩] from if_pos h1]
    (conv => whnf)
    refine ⟨[⟨n, old, id⟩], rfl, ?_⟩
    (conv => whnf)
    refine ⟨_, _, rfl, rfl, (by simp only [List.length_append, List.length_cons, List.length_nil]; omega), ?_⟩
    (conv => whnf)
    exact rx [] [.same 0, .same 1, .same 3]
  · rw [show setM m n old id = m from if_neg h1]
    (conv => whnf)
    exact rx [] [.same 0, .same 1, .same 1]
def setL (l : List Rf) (n : List UInt8) (old id : Int) : List Rf := if codeR l n old id = 0 then updR l n id else l
def setV (l : List Rf) (m : List Mv) (n : List UInt8) (old id : Int) : List Mv := if codeR l n old id = 0 then m ++ [⟨n, old, id⟩] else m
set_option maxHeartbeats 4000000 in
theorem setR_spec (l : List Rf) (m : List Mv) (n : List UInt8) (old id : Int) (hs : RSort l) (hi : ∀ r ∈ l, 0 ≤ r.id) (hl : l.length ≤ 8) (hm : m.length ≤ 999) : Does Try.prog 9 [.c (.ptr 0 0), .c (.str n), .c (.int .i64 old), .c (.int .i64 id)] [.box [.rw 1, .rw 2], .row 2 Rf encRf l, .row 3 Mv encMv m]
    (Rt (.c (.int .i64 (codeR l n old id))) [.box [.rw 3, .rw 4], .dead, .dead, .row 2 Rf encRf (setL l n old id), .row 3 Mv encMv (setV l m n old id)]) := by
  refine X_spec (n := 102) (n0 := 3) tabOk Try.call9 Try.func9 ?_
  intro hb
  (conv => whnf)
  refine cl [] [] (at_spec l m n hs (by omega)) ?_
  have no : codeR l n old id ≠ 0 → setL l n old id = l ∧ setV l m n old id = m := fun h => ⟨if_neg h, if_neg h⟩
  have yes : codeR l n old id = 0 → setL l n old id = updR l n id ∧ setV l m n old id = m ++ [⟨n, old, id⟩] := fun h => ⟨if_pos h, if_pos h⟩
  (conv => whnf)
  refine cl [] [] (name_spec n) ?_
  (conv => whnf)
  refine decN (fun h1 => ?_) (fun h1 => ?_)
  · have e : codeR l n old id = nameC n := if_pos h1
    obtain ⟨e1, e2⟩ := no (by rw [e]; exact h1)
    rw [e, e1, e2]
    (conv => whnf)
    refine cl [] [] (name_spec n) ?_
    (conv => whnf)
    exact rx [] [.same 0, .same 1, .same 2, .same 1, .same 2]
  have c1 : codeR l n old id = _ := if_neg (fun h => h h1)
  (conv => whnf)
  refine dec (fun h2 => ?_) (fun h2 => ?_)
  · have e := c1.trans (if_pos h2)
    obtain ⟨e1, e2⟩ := no (by rw [e]; decide)
    rw [e, e1, e2]
    (conv => whnf)
    exact rx [] [.same 0, .same 1, .same 2, .same 1, .same 2]
  have c2 := c1.trans (if_neg h2)
  (conv => whnf)
  refine cl [] [] (getRefs_spec l m n hs (by omega)) ?_
  (conv => whnf)
  refine decN (fun h3 => ?_) (fun h3 => ?_)
  · have e := c2.trans (if_pos h3)
    obtain ⟨e1, e2⟩ := no (by rw [e]; decide)
    rw [e, e1, e2]
    (conv => whnf)
    exact rx [] [.same 0, .same 1, .same 2, .same 1, .same 2]
  have c3 := c2.trans (if_neg (fun h => h h3))
  have h3 : old = getR l n := h3
  have hp := posR_le (l := l) (n := n)
  (conv => whnf)
  refine booN (fun h4 => ?_) (fun h4 => ?_)
  · have ho : old = -1 := by rw [h3, getR_no h4]
    (conv => whnf)
    refine dec (fun h5 => ?_) (fun h5 => ?_)
    · have h5 : 0 ≤ id := h5
      (conv => whnf)
      refine dec (fun h6 => ?_) (fun h6 => ?_)
      · have h6 : (l.length : Int) = 8 := h6
        have e := c3.trans (if_pos ⟨h4, h5, by omega⟩)
        obtain ⟨e1, e2⟩ := no (by rw [e]; decide)
        rw [e, e1, e2]
        (conv => whnf)
        exact rx [] [.same 0, .same 1, .same 2, .same 1, .same 2]
      · have h6 : ¬ (l.length : Int) = 8 := h6
        have e := (c3.trans (if_neg (fun h => h6 (by rw [h.2.2]; rfl)))).trans (if_neg (by omega))
        obtain ⟨e1, e2⟩ := yes e
        rw [e, e1, e2, show updR l n id = insR l ⟨n, id⟩ from if_pos h4]
        (conv => whnf)
        refine dec (fun h7 => absurd h7 (by omega)) (fun _ => ?_)
        rw [h4]
        (conv => whnf)
        refine ⟨[⟨n, id⟩], rfl, ?_⟩
        (conv => whnf)
        refine cl [] [1, 3] (insert_spec l ⟨n, id⟩ (posR l n) posR_le (by omega)) ?_
        (conv => whnf)
        refine ⟨[⟨n, old, id⟩], rfl, ?_⟩
        (conv => whnf)
        refine ⟨_, _, rfl, rfl, (by simp only [List.length_append, List.length_cons, List.length_nil]; omega), ?_⟩
        (conv => whnf)
        exact rx [] [.same 0, .same 1, .same 2, .same 4, .same 6]
    · have h5 : ¬ 0 ≤ id := h5
      have h2 : ¬ id < -1 := h2
      have e := (c3.trans (if_neg (fun h => h5 h.2.1))).trans (if_pos (by omega))
      obtain ⟨e1, e2⟩ := no (by rw [e]; decide)
      rw [e, e1, e2]
      (conv => whnf)
      refine dec (fun _ => ?_) (fun h7 => absurd (show id = old by omega) h7)
      (conv => whnf)
      exact rx [] [.same 0, .same 1, .same 2, .same 1, .same 2]
  · obtain ⟨hlt, q1, q2⟩ := getR_has h4
    have c4 := c3.trans (if_neg (fun h => by rw [h4] at h; cases h.1))
    (conv => whnf)
    refine dec (fun h5 => ?_) (fun h5 => ?_)
    · have e := c4.trans (if_pos h5)
      obtain ⟨e1, e2⟩ := no (by rw [e]; decide)
      rw [e, e1, e2]
      (conv => whnf)
      exact rx [] [.same 0, .same 1, .same 2, .same 1, .same 2]
    have e := c4.trans (if_neg h5)
    obtain ⟨e1, e2⟩ := yes e
    rw [e, e1, e2, show updR l n id = _ from if_neg (by rw [h4]; decide), h4]
    (conv => whnf)
    refine dec (fun h6 => ?_) (fun h6 => ?_)
    · rw [if_pos h6]
      (conv => whnf)
      refine ⟨i64 (by omega) (by omega), ?_⟩
      (conv => whnf)
      refine cl [] [1] (delete_spec l (posR l n) hlt (by omega)) ?_
      (conv => whnf)
      refine ⟨[⟨n, old, id⟩], rfl, ?_⟩
      (conv => whnf)
      refine ⟨_, _, rfl, rfl, (by simp only [List.length_append, List.length_cons, List.length_nil]; omega), ?_⟩
      (conv => whnf)
      exact rx [] [.same 0, .same 1, .same 2, .same 3, .same 5]
    · rw [if_neg h6]
      (conv => whnf)
      refine ⟨posR l n, ⟨rfl, hlt⟩, ?_⟩
      (conv => whnf)
      refine ⟨l[posR l n], ⟨n, id⟩, List.getElem?_eq_getElem hlt, ⟨Nat.le_refl 2, by simp [encRf, q1]⟩, ?_⟩
      (conv => whnf)
      refine ⟨[⟨n, old, id⟩], rfl, ?_⟩
      (conv => whnf)
      refine ⟨_, _, rfl, rfl, (by simp only [List.length_append, List.length_cons, List.length_nil]; omega), ?_⟩
      (conv => whnf)
      exact rx [] [.same 0, .same 1, .same 2, .same 1, .same 4]
end Go.Nest
