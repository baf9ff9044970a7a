/- WALKS, F3: files in order, all paths, all changes. -/
import Derived.Test.YtogallppofinhaaGreatDoorF2
import Derived.Test.YtogallppofinhaaGreatDoorL1
import Derived.Test.YtogallppofinhaaGreatDoorW8
import Derived.Test.YtogallppofinhaaGreatDoorS3
import Derived.Test.YtogallppofinhaaGreatDoorG9
import Derived.Test.YtogallppofinhaaGreatDoorP9
section
namespace Go.Nest
open Go Go.AM Go.Proofs
open Go.Proofs.YtogallppofinhaaGreatDoor (tab tabOk)
set_option linter.unusedVariables false
set_option linter.unusedSimpArgs false
set_option maxRecDepth 4000

end Go.Nest
end
/- WALKS, W9: of the law: docs become files. -/
section
namespace Go.Nest
open Go Go.AM Go.Proofs
open Go.Proofs.YtogallppofinhaaGreatDoor (tab tabOk)
set_option linter.unusedVariables false
set_option linter.unusedSimpArgs false
set_option maxRecDepth 4000
def blobO (b : List UInt8) : Ob := ⟨1, b, [], 0, [], []⟩
end Go.Nest
end
/- PLAIN LAWS, K1: what lies in front of one: put, removed. -/
section
namespace Go.Nest
open Go Go.AM
set_option linter.unusedVariables false
set_option linter.unusedSimpArgs false
def hitW (p : List UInt8) (y : It) : Bool := (underP p y.path).2 || (underP y.path p).2
def atW (p : List UInt8) (y : It) : Bool := decide (y.path = p)
def posW (l : List It) (p : List UInt8) : Nat := (l.takeWhile fun y => lessP y.path p).length
def putW (l : List It) (x : It) : Int × List It :=
  if (splitP x.path).2 ≠ 0 then ((splitP x.path).2, l) else if l.any (hitW x.path) = true then (10, l) else
  if 0 ≤ idxF (atW x.path) l then (0, l.set (idxF (atW x.path) l).toNat x) else if l.length = 60 then (5, l) else (0, l.take (posW l x.path) ++ x :: l.drop (posW l x.path))
def remW (l : List It) (p : List UInt8) : Int × List It :=
  if idxF (atW p) l < 0 then (9, l) else (0, l.take (idxF (atW p) l).toNat ++ l.drop ((idxF (atW p) l).toNat + 1))
/-- by the document -/
def newW (l : List It) (x : It) : List It := l.takeWhile (fun y => lessP y.path x.path) ++ x :: (l.dropWhile fun y => lessP y.path x.path).filter fun y => decide (y.path ≠ x.path)
def putD (l : List It) (x : It) : Int × List It :=
  if (splitP x.path).2 ≠ 0 then ((splitP x.path).2, l) else if l.any (hitW x.path) = true then (10, l) else if 60 < (newW l x).length then (5, l) else (0, newW l x)
def remD (l : List It) (p : List UInt8) : Int × List It :=
  if (l.filter fun y => decide (y.path ≠ p)).length = l.length then (9, l) else (0, l.filter fun y => decide (y.path ≠ p))
/-- things in order, that may be -/
structure WOk (l : List It) : Prop where
  ris : Ris (·.path) l
  len : l.length ≤ 60
  path : ∀ x ∈ l, (splitP x.path).2 = 0
  apart : ∀ x ∈ l, ∀ y ∈ l, (underP x.path y.path).2 = false
theorem WOk.nil : WOk [] := ⟨.nil, by decide, fun x h => (by cases h), fun x h => (by cases h)⟩
theorem posW_le {l : List It} {p : List UInt8} : posW l p ≤ l.length := (List.takeWhile_sublist _).length_le
theorem take_pos (l : List It) (p : List UInt8) : l.take (posW l p) = l.takeWhile fun y => lessP y.path p := by
  unfold posW
  have h : l.takeWhile (fun y => lessP y.path p) ++ l.dropWhile (fun y => lessP y.path p) = l := List.takeWhile_append_dropWhile
  calc l.take (l.takeWhile fun y => lessP y.path p).length = (l.takeWhile (fun y => lessP y.path p) ++ l.dropWhile (fun y => lessP y.path p)).take (l.takeWhile fun y => lessP y.path p).length := by rw [h]
    _ = _ := List.take_left' rfl
theorem drop_pos (l : List It) (p : List UInt8) : l.drop (posW l p) = l.dropWhile fun y => lessP y.path p := by
  unfold posW
  have h : l.takeWhile (fun y => lessP y.path p) ++ l.dropWhile (fun y => lessP y.path p) = l := List.takeWhile_append_dropWhile
  calc l.drop (l.takeWhile fun y => lessP y.path p).length = (l.takeWhile (fun y => lessP y.path p) ++ l.dropWhile (fun y => lessP y.path p)).drop (l.takeWhile fun y => lessP y.path p).length := by rw [h]
    _ = _ := List.drop_left' rfl
theorem mem_takeWhile' {α : Type} {p : α → Bool} : ∀ {l : List α} {x : α}, x ∈ l.takeWhile p → p x = true ∧ x ∈ l
  | [], x, h => by cases h
  | y :: l, x, h => by
    rw [List.takeWhile_cons] at h
    split at h
    · rename_i hy
      rcases List.mem_cons.1 h with rfl | h
      · exact ⟨hy, by simp⟩
      · have := mem_takeWhile' h; exact ⟨this.1, by simp [this.2]⟩
    · cases h
/-- what is behind what is not ahead is not ahead -/
theorem drop_ge {p : List UInt8} : ∀ {l : List It}, Ris (·.path) l → ∀ y ∈ l.dropWhile (fun y => lessP y.path p), lessP y.path p = false
  | [], _, y, h => by cases h
  | x :: l, hr, y, h => by
    obtain ⟨h1, h2⟩ := List.pairwise_cons.1 hr
    rw [List.dropWhile_cons] at h
    split at h
    · exact drop_ge h2 y h
    · rename_i hx
      have hx : lessP x.path p = false := by simpa using hx
      rcases List.mem_cons.1 h with rfl | h
      · exact hx
      · cases hy : lessP y.path p with
        | false => rfl
        | true => rw [lessP_trans (h1 y h) hy] at hx; cases hx
theorem atW_iff {p : List UInt8} {y : It} : atW p y = true ↔ y.path = p := by unfold atW; simp
theorem idxF_iff {α : Type} {p : α → Bool} {l : List α} : 0 ≤ idxF p l ↔ ∃ x ∈ l, p x = true := by
  have := idxF_any (p := p) (l := l)
  constructor
  · intro h
    have h2 : l.any p = true := by rw [← this]; simpa using h
    simpa using h2
  · rintro ⟨x, hx, h⟩
    have h2 : l.any p = true := List.any_eq_true.2 ⟨x, hx, h⟩
    rw [← this] at h2; simpa using h2
theorem idx_case {α : Type} {p : α → Bool} {l : List α} : (idxF p l = -1 ∧ l.any p = false) ∨ ∃ (i : Nat) (h : i < l.length), idxF p l = i ∧ (l.take i).any p = false ∧ p l[i] = true := by
  unfold idxF
  cases h : l.findIdx? p with
  | none =>
    rw [List.findIdx?_eq_none_iff] at h
    exact .inl ⟨rfl, by rw [List.any_eq_false]; intro x hx; simp [h x hx]⟩
  | some i =>
    rw [List.findIdx?_eq_some_iff_getElem] at h
    obtain ⟨h1, h2, h3⟩ := h
    refine .inr ⟨i, h1, rfl, ?_, h2⟩
    rw [List.any_eq_false]
    intro x hx
    obtain ⟨j, hj, e⟩ := List.mem_take_iff_getElem.1 hx
    rw [← e]
    exact h3 j (by omega)
/-- where it stands, if it stands there -/
theorem at_split {l : List It} (h : Ris (·.path) l) {k : Nat} (hk : k < l.length) : l.takeWhile (fun y => lessP y.path l[k].path) = l.take k ∧ l.dropWhile (fun y => lessP y.path l[k].path) = l.drop k := by
  refine tw_at (p := fun y : It => lessP y.path l[k].path) (by omega) (fun g hg => ?_) (fun _ => lessP_irrefl)
  obtain ⟨j, hj, e⟩ := List.mem_take_iff_getElem.1 hg
  subst e
  exact List.pairwise_iff_getElem.1 h j k (by omega) hk (by omega)
theorem idx_ris {l : List It} (h : Ris (·.path) l) {k : Nat} (hk : k < l.length) : idxF (atW l[k].path) l = k := by
  rcases idx_case (p := atW l[k].path) (l := l) with ⟨_, e⟩ | ⟨i, hi, e1, e2, e3⟩
  · rw [List.any_eq_false] at e
    exact absurd (atW_iff.2 rfl) (e _ (List.getElem_mem hk))
  · rw [e1]
    have e3 := atW_iff.1 e3
    rcases Nat.lt_trichotomy i k with hlt | rfl | hlt
    · have := List.pairwise_iff_getElem.1 h i k hi hk hlt
      exact absurd e3 (less_ne this)
    · rfl
    · have := List.pairwise_iff_getElem.1 h k i hk hi hlt
      exact absurd e3.symm (less_ne this)
theorem put_same' {l : List It} (h : WOk l) (x : It) : putW l x = putD l x := by
  unfold putW putD
  split
  · rfl
  split
  · rfl
  have hl := h.len
  by_cases h3 : 0 ≤ idxF (atW x.path) l
  · rw [if_pos h3]
    obtain ⟨y, hy, hyp⟩ := idxF_iff.1 h3
    obtain ⟨k, hk, e⟩ := List.mem_iff_getElem.1 hy
    subst e
    have hyp := atW_iff.1 hyp
    have hi := idx_ris h.ris hk
    obtain ⟨t1, t2⟩ := at_split h.ris hk
    rw [hyp] at hi t1 t2
    have hf : (l.drop (k + 1)).filter (fun y => decide (y.path ≠ x.path)) = l.drop (k + 1) := by
      refine List.filter_eq_self.2 fun y hy => ?_
      obtain ⟨j, hj, e⟩ := List.mem_iff_getElem.1 hy
      rw [List.getElem_drop] at e
      rw [List.length_drop] at hj
      have := List.pairwise_iff_getElem.1 h.ris k (k + 1 + j) hk (by omega) (by omega)
      rw [e] at this
      simpa [hyp] using (less_ne this).symm
    have e : newW l x = l.set k x := by
      unfold newW
      rw [t1, t2, List.drop_eq_getElem_cons hk, List.filter_cons_of_neg (by simp [hyp]), hf, List.set_eq_take_append_cons_drop, if_pos hk]
    rw [e, hi, if_neg (by rw [List.length_set]; omega)]
    rfl
  · rw [if_neg h3]
    have hf : (l.dropWhile fun y => lessP y.path x.path).filter (fun y => decide (y.path ≠ x.path)) = l.dropWhile fun y => lessP y.path x.path := by
      refine List.filter_eq_self.2 fun y hy => ?_
      have hm : y ∈ l := (List.dropWhile_suffix _).subset hy
      simp only [ne_eq, decide_not, Bool.not_eq_true', decide_eq_false_iff_not]
      exact fun e => h3 (idxF_iff.2 ⟨y, hm, atW_iff.2 e⟩)
    have e : newW l x = l.take (posW l x.path) ++ x :: l.drop (posW l x.path) := by
      unfold newW
      rw [hf, take_pos, drop_pos]
    have hlen : (newW l x).length = l.length + 1 := by
      have := posW_le (l := l) (p := x.path)
      rw [e, List.length_append, List.length_cons, List.length_take, List.length_drop]; omega
    rw [hlen, e]
    by_cases h4 : l.length = 60
    · rw [if_pos h4, if_pos (by omega)]
    · rw [if_neg h4, if_neg (by omega)]
theorem rem_same {l : List It} (h : WOk l) (p : List UInt8) : remW l p = remD l p := by
  unfold remW remD
  by_cases h3 : 0 ≤ idxF (atW p) l
  · obtain ⟨y, hy, hyp⟩ := idxF_iff.1 h3
    obtain ⟨k, hk, e⟩ := List.mem_iff_getElem.1 hy
    subst e
    have hyp := atW_iff.1 hyp
    subst hyp
    have hi := idx_ris h.ris hk
    have e : (l.filter fun y => decide (y.path ≠ l[k].path)) = l.take k ++ l.drop (k + 1) := by
      have e0 : l.take k ++ l[k] :: l.drop (k + 1) = l := by rw [← List.drop_eq_getElem_cons hk, List.take_append_drop]
      calc (l.filter fun y => decide (y.path ≠ l[k].path)) = (l.take k ++ l[k] :: l.drop (k + 1)).filter (fun y => decide (y.path ≠ l[k].path)) := by rw [e0]
        _ = (l.take k).filter (fun y => decide (y.path ≠ l[k].path)) ++ (l.drop (k + 1)).filter (fun y => decide (y.path ≠ l[k].path)) := by rw [List.filter_append, List.filter_cons_of_neg (by simp)]
        _ = _ := ?_
      congr 1
      · refine List.filter_eq_self.2 fun y hy => ?_
        obtain ⟨j, hj, e⟩ := List.mem_take_iff_getElem.1 hy
        have := List.pairwise_iff_getElem.1 h.ris j k (by omega) hk (by omega)
        rw [e] at this
        simpa using less_ne this
      · refine List.filter_eq_self.2 fun y hy => ?_
        obtain ⟨j, hj, e⟩ := List.mem_iff_getElem.1 hy
        rw [List.getElem_drop] at e
        rw [List.length_drop] at hj
        have := List.pairwise_iff_getElem.1 h.ris k (k + 1 + j) hk (by omega) (by omega)
        rw [e] at this
        simpa using (less_ne this).symm
    rw [hi, if_neg (by omega), e, if_neg (by rw [List.length_append, List.length_take, List.length_drop]; omega)]
    rfl
  · rw [if_pos (by omega)]
    have e : (l.filter fun y => decide (y.path ≠ p)) = l := List.filter_eq_self.2 fun y hy => by
      simp only [ne_eq, decide_not, Bool.not_eq_true', decide_eq_false_iff_not]
      exact fun e => h3 (idxF_iff.2 ⟨y, hy, atW_iff.2 e⟩)
    rw [e, if_pos rfl]
end Go.Nest
end
