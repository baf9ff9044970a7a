/- THE ENGINE, part 7: a slice of slices of integers that a function makes and fills. -/
import Derived.Test.YtkkjjbejkcgmfaaTyped
namespace Go.NB

section
variable {c : Cx} {o : Oper} {env : Env} {S : Heap → Prop}
theorem G.idx {t e : TypeId} {x y : Operand} {g n m i : Nat} {k : IntKind} {z : Int} (ho : o.op = .indexAddr t x y) (ht : c.P.underlying t = some (.slice e)) (hz : ∀ w, (sizeOf e).run c.P w = .ok 1 w)
    (hx : Ev env x (.slice (some ⟨g, 0, none⟩) n m)) (hy : Ev env y (.int k z)) (hn : z = (i : Int)) (hi : i < n) : ValC c o env S (.pointer (some ⟨g, i, none⟩)) := by
  subst hn
  have := V.indexRaw (S := S) ho ht hz hx hy hi
  simpa using this
end

def rv (m b : Nat) : Value := .slice (some ⟨b, 0, none⟩) m m
def rowCells (n p r m : Nat) (B : Nat → Nat) : List Value := (List.range n).map fun i => if p ≤ i ∧ i < r then rv m (B i) else .slice none 0 0
def intCells (m : Nat) (f : Nat → Int) : List Value := (List.range m).map fun j => iv (f j)

/-- n rows, of which those from p to r are there, each of m integers -/
structure Grid (H : Heap) (eo er : TypeId) (g n p r m : Nat) (B : Nat → Nat) (F : Nat → Nat → Int) : Prop where
  outer : Bx H g eo (rowCells n p r m B)
  le : r ≤ n
  row : ∀ i, p ≤ i → i < r → Bx H (B i) er (intCells m (F i)) ∧ B i ≠ g
  apart : ∀ i j, p ≤ i → i < r → p ≤ j → j < r → i ≠ j → B i ≠ B j

section
variable {H : Heap} {eo er : TypeId} {g n p r m : Nat} {B : Nat → Nat} {F : Nat → Nat → Int}

theorem Grid.at {H' : Heap} (h : Grid H eo er g n p r m B F) (k : Keep [] H H') : Grid H' eo er g n p r m B F :=
  ⟨h.outer.at k, h.le, fun i h1 h2 => ⟨(h.row i h1 h2).1.at k, (h.row i h1 h2).2⟩, h.apart⟩

theorem Grid.rowAt (h : Grid H eo er g n p r m B F) {i : Nat} (h1 : p ≤ i) (h2 : i < r) : cell H g i = some (rv m (B i)) := by
  rw [h.outer.cell]
  have := h.le
  simp [rowCells, show i < n by omega, h1, h2]

theorem Grid.val (h : Grid H eo er g n p r m B F) {i j : Nat} (h1 : p ≤ i) (h2 : i < r) (h3 : j < m) : cell H (B i) j = some (iv (F i j)) := by
  rw [(h.row i h1 h2).1.cell]
  simp [intCells, h3]

theorem intCells_set (m : Nat) (f : Nat → Int) (j : Nat) (x : Int) (h : j < m) : (intCells m f).take j ++ [iv x] ++ (intCells m f).drop (j + 1) = intCells m (fun k => if k = j then x else f k) := by
  refine List.ext_getElem? fun k => ?_
  unfold intCells
  by_cases h1 : k < j
  · rw [List.append_assoc, List.getElem?_append_left (by simp; omega), List.getElem?_take_of_lt h1]
    simp [show k < m by omega, show k ≠ j by omega]
  · by_cases h2 : k = j
    · subst h2
      rw [List.append_assoc, List.getElem?_append_right (by simp; omega)]
      simp [show min k m = k by omega, h]
    · rw [List.append_assoc, List.getElem?_append_right (by simp; omega), List.getElem?_append_right (by simp; omega)]
      simp only [List.length_take, List.length_map, List.length_range, List.length_singleton, List.getElem?_drop, List.getElem?_map]
      rw [show j + 1 + (k - min j m - 1) = k by omega]
      by_cases h3 : k < m
      · simp [h3, h2]
      · simp [h3]

/-- a number more is known -/
theorem Grid.store {H' : Heap} {i j : Nat} {x : Int} (h : Grid H eo er g n p r m B F) (h1 : p ≤ i) (h2 : i < r) (h3 : j < m) (hb : Bx H' (B i) er ((intCells m (F i)).take j ++ [iv x] ++ (intCells m (F i)).drop (j + 1))) (k : Keep [B i] H H') :
    Grid H' eo er g n p r m B (fun a b => if a = i ∧ b = j then x else F a b) := by
  refine ⟨h.outer.keep k (by simpa using Ne.symm (h.row i h1 h2).2), h.le, fun a h4 h5 => ⟨?_, (h.row a h4 h5).2⟩, h.apart⟩
  by_cases e : a = i
  · subst e
    rw [intCells_set m _ j x h3] at hb
    simpa using hb
  · have := (h.row a h4 h5).1.keep k (by simpa using h.apart a i h4 h5 h1 h2 e)
    simpa [e] using this

theorem rowCells_set (n p r m : Nat) (B : Nat → Nat) (i b : Nat) (h : i < n) (hi : i = r ∧ p ≤ r ∨ i + 1 = p ∧ p ≤ r) :
    (rowCells n p r m B).take i ++ [rv m b] ++ (rowCells n p r m B).drop (i + 1) = rowCells n (if i = r then p else i) (if i = r then r + 1 else r) m (fun k => if k = i then b else B k) := by
  refine List.ext_getElem? fun k => ?_
  unfold rowCells
  by_cases h1 : k < i
  · rw [List.append_assoc, List.getElem?_append_left (by simp; omega), List.getElem?_take_of_lt h1]
    simp only [List.getElem?_map, List.getElem?_range (show k < n by omega), Option.map_some]
    congr 1
    rw [if_neg (show k ≠ i by omega)]
    rcases hi with ⟨rfl, hi⟩ | ⟨rfl, hi⟩
    · simp only [if_pos]
      by_cases h2 : p ≤ k
      · rw [if_pos ⟨h2, h1⟩, if_pos ⟨h2, by omega⟩]
      · rw [if_neg (by omega), if_neg (by omega)]
    · rw [if_neg (by omega), if_neg (by split <;> omega)]
  · by_cases h2 : k = i
    · subst h2
      rw [List.append_assoc, List.getElem?_append_right (by simp; omega)]
      simp only [List.length_take, List.length_map, List.length_range, show min k n = k by omega, Nat.sub_self, List.singleton_append, List.getElem?_cons_zero, List.getElem?_map, List.getElem?_range h, Option.map_some]
      congr 1
      rw [if_pos]
      · simp
      rcases hi with ⟨rfl, hi⟩ | ⟨rfl, hi⟩
      · simp only [if_pos]; omega
      · rw [if_neg (by omega), if_neg (by omega)]; omega
    · rw [List.append_assoc, List.getElem?_append_right (by simp; omega), List.getElem?_append_right (by simp; omega)]
      simp only [List.length_take, List.length_map, List.length_range, List.length_singleton, List.getElem?_drop, List.getElem?_map]
      rw [show i + 1 + (k - min i n - 1) = k by omega]
      by_cases h3 : k < n
      · simp only [List.getElem?_range h3, Option.map_some]
        congr 1
        rw [if_neg h2]
        rcases hi with ⟨rfl, hi⟩ | ⟨rfl, hi⟩
        · simp only [if_pos]
          rw [if_neg (by omega), if_neg (by omega)]
        · have e : ¬ i = r := by omega
          simp only [if_neg e]
          by_cases h4 : k < r
          · rw [if_pos ⟨by omega, h4⟩, if_pos ⟨by omega, h4⟩]
          · rw [if_neg (by omega), if_neg (by omega)]
      · rw [List.getElem?_eq_none (by simpa using h3)]; rfl

theorem intCells_zero (m : Nat) : (List.replicate m [iv 0]).flatten = intCells m (fun _ => 0) := by
  refine List.ext_getElem? fun k => ?_
  have e : (List.replicate m [iv 0]).flatten = List.replicate m (iv 0) := by
    induction m with
    | zero => rfl
    | succ m ih => rw [List.replicate_succ, List.flatten_cons, ih]; rfl
  rw [e]
  unfold intCells
  by_cases h : k < m
  · simp [h]
  · simp [h]

theorem rowCells_none (n m : Nat) (B : Nat → Nat) (q : Nat) : (List.replicate n [Value.slice none 0 0]).flatten = rowCells n q q m B := by
  refine List.ext_getElem? fun k => ?_
  have e : (List.replicate n [Value.slice none 0 0]).flatten = List.replicate n (.slice none 0 0) := by
    induction n with
    | zero => rfl
    | succ m ih => rw [List.replicate_succ, List.flatten_cons, ih]; rfl
  rw [e]
  unfold rowCells
  by_cases h : k < n
  · simp [h]
    intro h1 h2
    omega
  · simp [h]

/-- a row more, of zeros -/
theorem Grid.row1 {H1 H' : Heap} {i b : Nat} (h : Grid H eo er g n p r m B F) (hi : i < n) (hir : i = r ∧ p ≤ r ∨ i + 1 = p ∧ p ≤ r) (k1 : Keep [] H H1) (hb : Bx H1 b er (intCells m (fun _ => 0))) (hbn : H.size ≤ b)
    (ho : Bx H' g eo ((rowCells n p r m B).take i ++ [rv m b] ++ (rowCells n p r m B).drop (i + 1))) (k2 : Keep [g] H1 H') :
    Grid H' eo er g n (if i = r then p else i) (if i = r then r + 1 else r) m (fun k => if k = i then b else B k) (fun a c => if a = i then 0 else F a c) := by
  have hg : g < H.size := h.outer.lt
  have hrow : ∀ a, p ≤ a → a < r → B a < H.size := fun a h1 h2 => (h.row a h1 h2).1.lt
  rw [rowCells_set n p r m B i b hi hir] at ho
  refine ⟨ho, ?_, fun a h1 h2 => ?_, fun a a' h1 h2 h3 h4 hne => ?_⟩
  · have := h.le; split <;> omega
  · by_cases e : a = i
    · subst e
      simp only [if_true]
      exact ⟨hb.keep k2 (by simp; omega), by omega⟩
    · have h5 : p ≤ a ∧ a < r := by
        rcases hir with ⟨rfl, _⟩ | ⟨rfl, _⟩
        · simp only [if_pos] at h1 h2; omega
        · have e2 : ¬ i = r := by omega
          simp only [if_neg e2] at h1 h2; omega
      simp only [if_neg e]
      refine ⟨((h.row a h5.1 h5.2).1.at k1).keep k2 (by simpa using (h.row a h5.1 h5.2).2), (h.row a h5.1 h5.2).2⟩
  · have key : ∀ a, (if i = r then p else i) ≤ a → a < (if i = r then r + 1 else r) → a ≠ i → p ≤ a ∧ a < r := by
      intro a h1 h2 e
      rcases hir with ⟨rfl, _⟩ | ⟨rfl, _⟩
      · simp only [if_pos] at h1 h2; omega
      · have e2 : ¬ i = r := by omega
        simp only [if_neg e2] at h1 h2; omega
    by_cases e1 : a = i
    · by_cases e2 : a' = i
      · omega
      · have := key a' h3 h4 e2
        simp only [if_pos e1, if_neg e2]
        have := hrow a' this.1 this.2
        omega
    · by_cases e2 : a' = i
      · have := key a h1 h2 e1
        simp only [if_neg e1, if_pos e2]
        have := hrow a this.1 this.2
        omega
      · have k3 := key a h1 h2 e1
        have k4 := key a' h3 h4 e2
        simp only [if_neg e1, if_neg e2]
        exact h.apart a a' k3.1 k3.2 k4.1 k4.2 hne

/-- the whole, when nobody writes it any more -/
theorem Grid.sl {M : List Nat} (h : Grid H eo er g n 0 n m B F) (hn : n ≤ 140737488355328) (hm : m ≤ 140737488355328) (hI : ∀ i j, i < n → j < m → I64 (F i j)) (hg : g ∉ M) (hB : ∀ i, i < n → B i ∉ M) :
    Sl (tSl tInt) H M (.slice (some ⟨g, 0, none⟩) n n) ((List.range n).map fun i => (List.range m).map fun j => F i j) := by
  refine .inr ⟨g, 0, n, by simp, h.outer.lt, hg, by simp, by unfold maxLen; omega, by simp; omega, fun i hi => ?_⟩
  simp at hi
  refine ⟨h.outer.lt, hg, [rv m (B i)], ⟨_, rfl, .inr ⟨B i, 0, m, by simp [rv], (h.row i (by omega) hi).1.lt, hB i hi, by simp, by unfold maxLen; omega, by simp; omega, fun j hj => ?_⟩⟩, fun j u hu => ?_⟩
  · simp at hj
    refine ⟨(h.row i (by omega) hi).1.lt, hB i hi, [iv (F i j)], ⟨by simp, by simpa using hI i j hi hj⟩, fun q u hu => ?_⟩
    have e1 : tInt.size = 1 := rfl
    cases q with
    | zero =>
      simp at hu
      subst hu
      have := h.val (by omega) hi hj
      simpa [e1] using this
    | succ q => simp at hu
  · have e1 : (tSl tInt).size = 1 := rfl
    cases j with
    | zero =>
      simp at hu
      subst hu
      have := h.rowAt (by omega) hi
      simpa [e1] using this
    | succ q => simp at hu

theorem Row.bx {cs : List Value} {size : Nat} {e : TypeId} (h : Row H e size (.slice (some ⟨g, 0, none⟩) n n) n cs) : Bx H g e cs := by
  obtain ⟨hl, h⟩ := h
  rcases h with ⟨h, _⟩ | ⟨g', cap, cur, hv, hg, h1, h2, h3, h4⟩
  · cases h
  · simp at hv
    obtain ⟨rfl, rfl⟩ := hv
    unfold Bx
    rw [hg]
    rw [List.take_of_length_le (by simp [h3])] at h4
    rw [← h4]
end

theorem WL.makeBx {c : Cx} {env : Env} {H : Heap} {Q : Exit → Act → World → Prop} {ops : Array Oper} {o : Oper} {rest : List Oper} {d : Nat} {t e : TypeId} {i : TypeInfo} {z : Value} {x y : Operand} {size : Nat} {zs : List Value} {p q : Int} (n : Nat) (hg : o.guard = .none) (hd : o.dst = some d) (hlt : Nat.blt d c.n = true)
    (ho : o.op = .makeSlice t x y) (ht : c.P.underlying t = some (.slice e)) (hi : ∀ w, (typeInfo e).run c.P w = .ok i w) (hsz : i.size = size) (hz : i.zero = some z) (hzs : z.cells = zs.toArray) (hzl : zs.length = size) (hpos : 0 < size)
    (hx : Ev env x (iv p)) (hy : Ev env y (iv q)) (hp : p = (n : Int)) (hq : q = (n : Int)) (hfit : (n : Int) * i.bytes ≤ 140737488355328) (hb : 0 < i.bytes)
    (k : ∀ g H', Bx H' g e (List.replicate n zs).flatten → H.size ≤ g → Keep [] H H' → WL c ops rest ((d, true, .slice (some ⟨g, 0, none⟩) n n) :: env) H' Q) : WL c ops (o :: rest) env H Q :=
  WL.make hg hd hlt ho ht hi hsz hz hzs hzl hpos hx hy hp hq hfit hb fun v H' hr hk hob ⟨g, hv⟩ => by
    subst hv
    exact k g H' hr.bx (hob g (by simp [ob])) hk
end Go.NB
