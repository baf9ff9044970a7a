/- PLAIN LAWS, N1: refs, by their names. -/
import Derived.Test.YtgbppkcebaoebaaL1
import Derived.Test.YtgbppkcebaoebaaP4
import Derived.Test.YtgbppkcebaoebaaG1b
namespace Go.Nest
open Go Go.AM
set_option linter.unusedVariables false
set_option linter.unusedSimpArgs false
def cmpN (a b : List UInt8) : Int := if Op.bytesLess a b = true then -1 else if a = b then 0 else 1
theorem cmpN_lt {a b : List UInt8} : cmpN a b < 0 ↔ Op.bytesLess a b = true := by
  unfold cmpN
  split
  · rename_i h; simp [h]
  · rename_i h
    split <;> simp [h]
theorem cmpN_eq {a b : List UInt8} (h : Op.bytesLess a b = false) : cmpN a b = 0 ↔ a = b := by
  unfold cmpN
  rw [if_neg (by simp [h])]
  split
  · rename_i h2; simp [h2]
  · rename_i h2; simp [h2]
def RSort (l : List Rf) : Prop := l.Pairwise fun a b => Op.bytesLess a.name b.name = true
def posR (l : List Rf) (n : List UInt8) : Nat := (l.takeWhile fun r => Op.bytesLess r.name n).length
def hasR (l : List Rf) (n : List UInt8) : Bool := decide ((l[posR l n]?).map (·.name) = some n)
def getR (l : List Rf) (n : List UInt8) : Int := match l[posR l n]? with | some r => if r.name = n then r.id else -1 | none => -1
theorem posR_le {l : List Rf} {n : List UInt8} : posR l n ≤ l.length := (List.takeWhile_sublist _).length_le
theorem posR_at {l : List Rf} {n : List UInt8} {k : Nat} (hk : k ≤ l.length) (h1 : ∀ g ∈ l.take k, Op.bytesLess g.name n = true) (h2 : ∀ h : k < l.length, Op.bytesLess l[k].name n = false) : posR l n = k := by
  unfold posR
  rw [(tw_at (p := fun r : Rf => Op.bytesLess r.name n) hk h1 h2).1, List.length_take, Nat.min_eq_left hk]
theorem posR_lo {n : List UInt8} : ∀ {l : List Rf}, ∀ g ∈ l.take (posR l n), Op.bytesLess g.name n = true
  | [], g, h => by simp at h
  | x :: l, g, h => by
    unfold posR at h
    rw [List.takeWhile_cons] at h
    split at h
    · rename_i hx
      rw [List.length_cons, List.take_succ_cons] at h
      rcases List.mem_cons.1 h with rfl | h
      · exact hx
      · exact posR_lo g h
    · simp at h
theorem posR_hi {n : List UInt8} : ∀ {l : List Rf} (h : posR l n < l.length), Op.bytesLess l[posR l n].name n = false
  | [], h => by simp at h
  | x :: l, h => by
    by_cases hx : Op.bytesLess x.name n = true
    · have e : posR (x :: l) n = posR l n + 1 := by unfold posR; rw [List.takeWhile_cons, if_pos hx]; rfl
      have h' : posR l n < l.length := by rw [e] at h; simpa using h
      simp only [e, List.getElem_cons_succ]
      exact posR_hi h'
    · have e : posR (x :: l) n = 0 := by unfold posR; rw [List.takeWhile_cons, if_neg hx]; rfl
      simp only [e, List.getElem_cons_zero]
      simpa using hx
theorem hasR_at {l : List Rf} {n : List UInt8} (h : hasR l n = true) : ∃ hlt : posR l n < l.length, l[posR l n].name = n := by
  unfold hasR at h
  rw [decide_eq_true_iff] at h
  by_cases hlt : posR l n < l.length
  · refine ⟨hlt, ?_⟩
    rw [List.getElem?_eq_getElem hlt] at h
    simpa using h
  · rw [List.getElem?_eq_none (by omega)] at h; cases h
theorem hasR_no {l : List Rf} {n : List UInt8} (h : hasR l n = false) (hlt : posR l n < l.length) : l[posR l n].name ≠ n := fun e => by
  unfold hasR at h
  rw [decide_eq_false_iff_not, List.getElem?_eq_getElem hlt] at h
  exact h (by simp [e])
theorem getR_has {l : List Rf} {n : List UInt8} (h : hasR l n = true) : ∃ hlt : posR l n < l.length, l[posR l n].name = n ∧ getR l n = l[posR l n].id := by
  obtain ⟨hlt, e⟩ := hasR_at h
  refine ⟨hlt, e, ?_⟩
  unfold getR
  rw [List.getElem?_eq_getElem hlt]
  simp [e]
theorem getR_no {l : List Rf} {n : List UInt8} (h : hasR l n = false) : getR l n = -1 := by
  unfold getR
  by_cases hlt : posR l n < l.length
  · rw [List.getElem?_eq_getElem hlt]
    simp [hasR_no h hlt]
  · rw [List.getElem?_eq_none (by omega)]
/-- in a list that rises, each stands at its place -/
theorem posR_mem {l : List Rf} (hs : RSort l) {i : Nat} (hi : i < l.length) : posR l l[i].name = i := by
  refine posR_at (by omega) (fun g hg => ?_) (fun _ => bl_irrefl)
  obtain ⟨k, hk, e⟩ := List.mem_take_iff_getElem.1 hg
  subst e
  exact List.pairwise_iff_getElem.1 hs k i (by omega) hi (by omega)
theorem hasR_mem {l : List Rf} (hs : RSort l) {r : Rf} (h : r ∈ l) : hasR l r.name = true ∧ getR l r.name = r.id := by
  obtain ⟨i, hi, e⟩ := List.mem_iff_getElem.1 h
  subst e
  have hp := posR_mem hs hi
  constructor
  · unfold hasR; rw [hp, List.getElem?_eq_getElem hi]; simp
  · unfold getR; rw [hp, List.getElem?_eq_getElem hi]; simp
theorem mem_of_get {l : List Rf} {n : List UInt8} (h : 0 ≤ getR l n) : ⟨n, getR l n⟩ ∈ l := by
  cases hh : hasR l n with
  | false => rw [getR_no hh] at h; omega
  | true =>
    obtain ⟨hlt, e1, e2⟩ := getR_has hh
    have hm := List.getElem_mem hlt
    rw [e2]
    generalize l[posR l n] = r at e1 hm ⊢
    subst e1
    exact hm
/-- two lists that rise and say the same of each name -/
theorem rsort_uniq : ∀ {a b : List Rf}, RSort a → RSort b → (∀ x, x ∈ a ↔ x ∈ b) → a = b
  | [], [], _, _, _ => rfl
  | [], y :: b, _, _, h => by have := (h y).2 (by simp); cases this
  | x :: a, [], _, _, h => by have := (h x).1 (by simp); cases this
  | x :: a, y :: b, ha, hb, h => by
    obtain ⟨h1, h2⟩ := List.pairwise_cons.1 ha
    obtain ⟨h3, h4⟩ := List.pairwise_cons.1 hb
    have e : x = y := by
      rcases List.mem_cons.1 ((h x).1 (by simp)) with e | hx
      · exact e
      rcases List.mem_cons.1 ((h y).2 (by simp)) with e | hy
      · exact e.symm
      have q1 := h1 y hy; have q2 := h3 x hx
      rw [bl_asymm q1] at q2; cases q2
    subst e
    congr 1
    refine rsort_uniq h2 h4 fun z => ⟨fun hz => ?_, fun hz => ?_⟩
    · rcases List.mem_cons.1 ((h z).1 (by simp [hz])) with rfl | h5
      · have := h1 _ hz; rw [bl_irrefl] at this; cases this
      · exact h5
    · rcases List.mem_cons.1 ((h z).2 (by simp [hz])) with rfl | h5
      · have := h3 _ hz; rw [bl_irrefl] at this; cases this
      · exact h5
def insR (l : List Rf) (x : Rf) : List Rf := l.take (posR l x.name) ++ x :: l.drop (posR l x.name)
theorem insR_sort {l : List Rf} {x : Rf} (hs : RSort l) (hn : hasR l x.name = false) : RSort (insR l x) := by
  unfold insR RSort
  rw [List.pairwise_append, List.pairwise_cons]
  have hi : ∀ y ∈ l.drop (posR l x.name), Op.bytesLess x.name y.name = true := fun y hy => by
    by_cases hlt : posR l x.name < l.length
    · have h0 : Op.bytesLess x.name l[posR l x.name].name = true := by
        rcases bl_tri l[posR l x.name].name x.name with h | h | h
        · rw [posR_hi hlt] at h; cases h
        · exact absurd h (hasR_no hn hlt)
        · exact h
      rw [List.drop_eq_getElem_cons hlt] at hy
      rcases List.mem_cons.1 hy with rfl | hy
      · exact h0
      · have := (List.pairwise_cons.1 (by have := List.Pairwise.drop (i := posR l x.name) hs; rwa [List.drop_eq_getElem_cons hlt] at this)).1 y hy
        exact bl_trans h0 this
    · rw [List.drop_of_length_le (by omega)] at hy; cases hy
  refine ⟨List.Pairwise.take hs, ⟨hi, List.Pairwise.drop hs⟩, fun a ha b hb => ?_⟩
  have h1 := posR_lo a ha
  rcases List.mem_cons.1 hb with rfl | hb
  · exact h1
  · exact bl_trans h1 (hi b hb)
theorem insR_mem {l : List Rf} {x y : Rf} : y ∈ insR l x ↔ y = x ∨ y ∈ l := by
  unfold insR
  rw [List.mem_append, List.mem_cons]
  constructor
  · rintro (h | h | h)
    · exact .inr (List.mem_of_mem_take h)
    · exact .inl h
    · exact .inr (List.mem_of_mem_drop h)
  · rintro (h | h)
    · exact .inr (.inl h)
    · rw [← List.take_append_drop (posR l x.name) l, List.mem_append] at h
      exact h.imp id .inr
theorem insR_len {l : List Rf} {x : Rf} : (insR l x).length = l.length + 1 := by
  unfold insR
  have := posR_le (l := l) (n := x.name)
  simp; omega
/-- where a ref leads, as moves say -/
def getM (m : List Mv) (n : List UInt8) : Int := m.foldl (fun id x => if x.name = n then x.new else id) (-1)
theorem getM_snoc {m : List Mv} {x : Mv} {n : List UInt8} : getM (m ++ [x]) n = if x.name = n then x.new else getM m n := by
  unfold getM
  rw [List.foldl_append]; rfl
theorem getM_succ {m : List Mv} {n : List UInt8} {i : Nat} (h : i < m.length) : getM (m.take (i + 1)) n = if m[i].name = n then m[i].new else getM (m.take i) n := by
  rw [List.take_succ_eq_append_getElem h, getM_snoc]
theorem getM_memU {m : List Mv} {n : List UInt8} : ∀ {k : Nat}, k ≤ m.length → getM (m.take k) n ≠ -1 → ∃ x ∈ m.take k, x.name = n ∧ x.new = getM (m.take k) n
  | 0, _, h => absurd rfl h
  | k + 1, hk, h => by
    have hlt : k < m.length := hk
    rw [getM_succ hlt] at h ⊢
    rw [List.take_succ_eq_append_getElem hlt]
    split at h
    · rename_i e
      rw [if_pos e]
      exact ⟨_, List.mem_append_right _ (List.mem_singleton.2 rfl), e, rfl⟩
    · rename_i e
      rw [if_neg e]
      obtain ⟨y, h1, h2⟩ := getM_memU (by omega) h
      exact ⟨y, List.mem_append_left _ h1, h2⟩
theorem getM_mem {m : List Mv} {n : List UInt8} (h : getM m n ≠ -1) : ∃ x ∈ m, x.name = n ∧ x.new = getM m n := by
  have := getM_memU (m := m) (n := n) (k := m.length) (Nat.le_refl _)
  rw [List.take_length] at this
  exact this h
/-- the list of refs, as moves say -/
def metM (m : List Mv) (i : Nat) (n : List UInt8) : Bool := (m.take i).any fun x => decide (x.name = n)
def lstep (m : List Mv) (out : List Rf) (i : Nat) : List Rf := match m[i]? with
  | some x => if (decide (getM m x.name < 0) || metM m i x.name) = true then out else insR out ⟨x.name, getM m x.name⟩
  | none => out
def listU (m : List Mv) (k : Nat) : List Rf := (List.range k).foldl (lstep m) []
def listM (m : List Mv) : List Rf := listU m m.length
theorem listU_succ {m : List Mv} {k : Nat} : listU m (k + 1) = lstep m (listU m k) k := by
  unfold listU
  rw [List.range_succ, List.foldl_append]; rfl
theorem metM_iff {m : List Mv} {i : Nat} {n : List UInt8} : metM m i n = true ↔ ∃ x ∈ m.take i, x.name = n := by
  unfold metM
  rw [List.any_eq_true]
  simp
theorem listU_ok {m : List Mv} : ∀ {k : Nat}, k ≤ m.length → RSort (listU m k) ∧ ∀ r, r ∈ listU m k ↔ 0 ≤ r.id ∧ r.id = getM m r.name ∧ ∃ x ∈ m.take k, x.name = r.name
  | 0, _ => ⟨.nil, fun r => by simp [listU]⟩
  | k + 1, hk => by
    obtain ⟨h1, h2⟩ := listU_ok (m := m) (k := k) (by omega)
    have hlt : k < m.length := hk
    rw [listU_succ]
    unfold lstep
    rw [List.getElem?_eq_getElem hlt]
    dsimp only
    have tk : ∀ n, (∃ x ∈ m.take (k + 1), x.name = n) ↔ (∃ x ∈ m.take k, x.name = n) ∨ m[k].name = n := fun n => by
      rw [List.take_succ_eq_append_getElem hlt]
      simp only [List.mem_append, List.mem_singleton]
      constructor
      · rintro ⟨x, h | rfl, e⟩
        · exact .inl ⟨x, h, e⟩
        · exact .inr e
      · rintro (⟨x, h, e⟩ | e)
        · exact ⟨x, .inl h, e⟩
        · exact ⟨_, .inr rfl, e⟩
    split
    · rename_i hc
      refine ⟨h1, fun r => ?_⟩
      rw [h2, tk]
      rw [Bool.or_eq_true, decide_eq_true_iff, metM_iff] at hc
      refine and_congr_right fun h3 => and_congr_right fun h4 => ⟨.inl, ?_⟩
      rintro (h | e)
      · exact h
      · rcases hc with hc | hc
        · rw [e] at hc; omega
        · rwa [e] at hc
    · rename_i hc
      rw [Bool.not_eq_true, Bool.or_eq_false_iff, decide_eq_false_iff_not] at hc
      have hnm : ¬ ∃ x ∈ m.take k, x.name = m[k].name := fun h => by rw [← metM_iff, hc.2] at h; cases h
      have hno : hasR (listU m k) m[k].name = false := by
        cases hh : hasR (listU m k) m[k].name with
        | false => rfl
        | true =>
          obtain ⟨hlt, e⟩ := hasR_at hh
          have := ((h2 _).1 (List.getElem_mem hlt)).2.2
          rw [e] at this
          exact absurd this hnm
      refine ⟨insR_sort h1 hno, fun r => ?_⟩
      rw [insR_mem, h2, tk]
      constructor
      · rintro (rfl | ⟨h3, h4, h5⟩)
        · exact ⟨by show 0 ≤ getM m m[k].name; omega, rfl, .inr rfl⟩
        · exact ⟨h3, h4, .inl h5⟩
      · rintro ⟨h3, h4, h5 | h5⟩
        · exact .inr ⟨h3, h4, h5⟩
        · refine .inl ?_
          cases r
          simp_all
theorem listU_len {m : List Mv} : ∀ {k : Nat}, (listU m k).length ≤ k
  | 0 => by simp [listU]
  | k + 1 => by
    have := listU_len (m := m) (k := k)
    rw [listU_succ]
    unfold lstep
    split
    · split
      · omega
      · rw [insR_len]; omega
    · omega
/-! ### a step -/
def updR (l : List Rf) (n : List UInt8) (id : Int) : List Rf :=
  if hasR l n = false then insR l ⟨n, id⟩ else if id < 0 then l.take (posR l n) ++ l.drop (posR l n + 1) else l.set (posR l n) ⟨n, id⟩
def codeR (l : List Rf) (n : List UInt8) (old id : Int) : Int :=
  if nameC n ≠ 0 then nameC n else if id < -1 then 1 else if old ≠ getR l n then 12 else if hasR l n = false ∧ 0 ≤ id ∧ l.length = 8 then 5 else if id = old then 17 else 0
def faultM (m : List Mv) (n : List UInt8) (old id : Int) : Int :=
  if nameC n ≠ 0 then nameC n else if id < -1 then 1 else if getM m n ≠ old then 12 else if old < 0 ∧ 0 ≤ id ∧ 8 ≤ (listM m).length then 5 else if old = id then 17 else 0
/-- how refs come about -/
inductive Refd : List Rf → List Mv → Prop
  | nil : Refd [] []
  | snoc {l : List Rf} {m : List Mv} {n : List UInt8} {old id : Int} (h : Refd l m) (hc : codeR l n old id = 0) : Refd (updR l n id) (m ++ [⟨n, old, id⟩])
theorem codeR_0 {l : List Rf} {n : List UInt8} {old id : Int} (h : codeR l n old id = 0) : nameC n = 0 ∧ -1 ≤ id ∧ old = getR l n ∧ ¬ (hasR l n = false ∧ 0 ≤ id ∧ l.length = 8) ∧ id ≠ old := by
  unfold codeR at h
  split at h
  · rename_i h1; exact absurd h h1
  rename_i h1
  split at h
  · cases h
  rename_i h2
  split at h
  · cases h
  rename_i h3
  split at h
  · cases h
  rename_i h4
  split at h
  · cases h
  rename_i h5
  exact ⟨by omega, by omega, Decidable.not_not.1 h3, h4, h5⟩
structure RInv (l : List Rf) (m : List Mv) : Prop where
  sort : RSort l
  ids : ∀ r ∈ l, 0 ≤ r.id
  len : l.length ≤ 8
  get : ∀ n, getR l n = getM m n
theorem get_of_mem {l : List Rf} (hs : RSort l) {n : List UInt8} {k : Int} (h : (⟨n, k⟩ : Rf) ∈ l) : getR l n = k := (hasR_mem hs h).2
theorem get_none {l : List Rf} (hs : RSort l) {n : List UInt8} (h : ∀ r ∈ l, r.name ≠ n) : getR l n = -1 := by
  cases hh : hasR l n with
  | false => exact getR_no hh
  | true => obtain ⟨hlt, e⟩ := hasR_at hh; exact absurd e (h _ (List.getElem_mem hlt))
/-- two lists of which each says of a name what the other one says -/
theorem get_same {l k : List Rf} (hl : RSort l) (hk : RSort k) {n : List UInt8} (h : ∀ r : Rf, r.name = n → (r ∈ l ↔ r ∈ k)) : getR l n = getR k n := by
  cases hh : hasR l n with
  | false =>
    rw [getR_no hh, get_none hk fun r hr e => ?_]
    have := (h r e).2 hr
    have h2 := (hasR_mem hl this).1
    rw [e, hh] at h2; cases h2
  | true =>
    obtain ⟨hlt, e1, e2⟩ := getR_has hh
    rw [e2]
    have := (hasR_mem hk ((h _ e1).1 (List.getElem_mem hlt))).2
    rw [e1] at this
    exact this.symm
theorem upd_inv {l : List Rf} {m : List Mv} (h : RInv l m) {n : List UInt8} {old id : Int} (hc : codeR l n old id = 0) : RInv (updR l n id) (m ++ [⟨n, old, id⟩]) := by
  obtain ⟨c1, c2, c3, c4, c5⟩ := codeR_0 hc
  have fin : ∀ {k : List Rf}, RSort k → (∀ r ∈ k, 0 ≤ r.id) → k.length ≤ 8 → (∀ r : Rf, r.name ≠ n → (r ∈ l ↔ r ∈ k)) → getR k n = id → RInv k (m ++ [⟨n, old, id⟩]) := fun hs hi hl hm hg => ⟨hs, hi, hl, fun q => by
    rw [getM_snoc]
    show getR _ q = if n = q then id else getM m q
    split
    · rename_i e; rw [← e]; exact hg
    · rename_i e
      rw [← h.get q]
      exact (get_same h.sort hs (fun r hr => hm r (fun e2 => e (e2.symm.trans hr)))).symm⟩
  unfold updR
  split
  · rename_i hh
    have hid : 0 ≤ id := by rw [getR_no hh] at c3; omega
    refine fin (insR_sort h.sort hh) (fun r hr => ?_) ?_ (fun r hr => ?_) ?_
    · rcases insR_mem.1 hr with rfl | hr
      · exact hid
      · exact h.ids r hr
    · rw [insR_len]; have := h.len; have : ¬ l.length = 8 := fun e => c4 ⟨hh, hid, e⟩; omega
    · rw [insR_mem]; exact ⟨.inr, fun h2 => h2.resolve_left fun e => hr (by rw [e])⟩
    · exact get_of_mem (insR_sort h.sort hh) (insR_mem.2 (.inl rfl))
  · rename_i hh
    rw [Bool.not_eq_false] at hh
    obtain ⟨hlt, e1, e2⟩ := getR_has hh
    split
    · rename_i hid
      have hs : RSort (l.take (posR l n) ++ l.drop (posR l n + 1)) := by
        refine List.Pairwise.sublist ?_ h.sort
        conv => rhs; rw [← List.take_append_drop (posR l n) l]
        exact List.Sublist.append (List.Sublist.refl _) (by rw [List.drop_eq_getElem_cons hlt]; exact List.sublist_cons_self _ _)
      have hm : ∀ r : Rf, r ∈ l ↔ r ∈ l.take (posR l n) ∨ r = l[posR l n] ∨ r ∈ l.drop (posR l n + 1) := fun r => by
        conv => lhs; rw [← List.take_append_drop (posR l n) l, List.drop_eq_getElem_cons hlt, List.mem_append, List.mem_cons]
      refine fin hs (fun r hr => ?_) ?_ (fun r hr => ?_) ?_
      · refine h.ids r ((hm r).2 ?_)
        rcases List.mem_append.1 hr with hr | hr
        · exact .inl hr
        · exact .inr (.inr hr)
      · have := h.len; simp; omega
      · rw [hm, List.mem_append]
        constructor
        · rintro (h2 | rfl | h2)
          · exact .inl h2
          · exact absurd e1 hr
          · exact .inr h2
        · rintro (h2 | h2)
          · exact .inl h2
          · exact .inr (.inr h2)
      · have hid2 : id = -1 := by omega
        rw [hid2]
        refine get_none hs fun r hr e => ?_
        have hi := List.pairwise_iff_getElem.1 h.sort
        rcases List.mem_append.1 hr with hr | hr
        · have := posR_lo r hr
          rw [e, bl_irrefl] at this; cases this
        · obtain ⟨k, hk, e3⟩ := List.mem_iff_getElem.1 hr
          rw [List.getElem_drop] at e3
          have := hi (posR l n) (posR l n + 1 + k) hlt (by rw [List.length_drop] at hk; omega) (by omega)
          rw [e3, e1, e, bl_irrefl] at this; cases this
    · rename_i hid
      have hs : RSort (l.set (posR l n) ⟨n, id⟩) := by
        refine List.pairwise_iff_getElem.2 fun i j hi hj hij => ?_
        have key := List.pairwise_iff_getElem.1 h.sort i j (by simpa using hi) (by simpa using hj) hij
        rw [List.getElem_set, List.getElem_set]
        split
        · rename_i e3; subst e3
          rw [if_neg (by omega)]
          rw [e1] at key; exact key
        · split
          · rename_i e3; subst e3
            show Op.bytesLess _ n = true
            rw [e1] at key; exact key
          · exact key
      refine fin hs (fun r hr => ?_) (by rw [List.length_set]; exact h.len) (fun r hr => ?_) (get_of_mem hs (List.mem_set hlt _))
      · rcases List.mem_or_eq_of_mem_set hr with hr | rfl
        · exact h.ids r hr
        · show 0 ≤ id; omega
      · constructor
        · intro h2
          obtain ⟨k, hk, e3⟩ := List.mem_iff_getElem.1 h2
          refine List.mem_iff_getElem.2 ⟨k, by simpa using hk, ?_⟩
          rw [List.getElem_set, if_neg (fun e4 => hr (by subst e4; rw [← e3]; exact e1))]
          exact e3
        · intro h2
          exact (List.mem_or_eq_of_mem_set h2).resolve_right fun e => hr (by rw [e])
theorem Refd.inv {l : List Rf} {m : List Mv} (h : Refd l m) : RInv l m := by
  induction h with
  | nil => exact ⟨.nil, fun r h => (by cases h), by decide, fun n => rfl⟩
  | snoc _ hc ih => exact upd_inv ih hc
theorem RInv.list {l : List Rf} {m : List Mv} (h : RInv l m) : listM m = l := by
  obtain ⟨h1, h2⟩ := listU_ok (m := m) (k := m.length) (Nat.le_refl _)
  refine rsort_uniq h1 h.sort fun r => ?_
  show r ∈ listU m m.length ↔ _
  rw [h2, List.take_length]
  constructor
  · rintro ⟨h3, h4, _⟩
    have := mem_of_get (l := l) (n := r.name) (by rw [h.get, ← h4]; exact h3)
    rwa [h.get, ← h4] at this
  · intro hr
    have h3 := h.ids r hr
    have h4 := (hasR_mem h.sort hr).2
    rw [h.get] at h4
    obtain ⟨x, hx, e, _⟩ := getM_mem (m := m) (n := r.name) (by rw [h4]; omega)
    exact ⟨h3, h4.symm, x, hx, e⟩
theorem RInv.has {l : List Rf} {m : List Mv} (h : RInv l m) {n : List UInt8} : hasR l n = false ↔ getR l n < 0 := by
  constructor
  · intro hh; rw [getR_no hh]; decide
  · intro hg
    cases hh : hasR l n with
    | false => rfl
    | true =>
      obtain ⟨hlt, e1, e2⟩ := getR_has hh
      have := h.ids _ (List.getElem_mem hlt)
      omega
theorem RInv.code {l : List Rf} {m : List Mv} (h : RInv l m) {n : List UInt8} {old id : Int} : codeR l n old id = faultM m n old id := by
  unfold codeR faultM
  rw [h.list, ← h.get n]
  split
  · rfl
  split
  · rfl
  by_cases h3 : old = getR l n
  · rw [if_neg (show ¬ (old ≠ getR l n) from fun h => h h3), if_neg (show ¬ (getR l n ≠ old) from fun h => h h3.symm)]
    have e : (hasR l n = false ∧ 0 ≤ id ∧ l.length = 8) ↔ (old < 0 ∧ 0 ≤ id ∧ 8 ≤ l.length) := by
      rw [h.has, ← h3]
      have := h.len
      constructor
      · rintro ⟨a, b, c⟩; exact ⟨a, b, by omega⟩
      · rintro ⟨a, b, c⟩; exact ⟨a, b, by omega⟩
    by_cases h4 : old < 0 ∧ 0 ≤ id ∧ 8 ≤ l.length
    · rw [if_pos (e.2 h4), if_pos h4]
    · rw [if_neg (fun h5 => h4 (e.1 h5)), if_neg h4]
      by_cases h5 : id = old
      · rw [if_pos h5, if_pos h5.symm]
      · rw [if_neg h5, if_neg (fun e => h5 e.symm)]
  · rw [if_pos h3, if_pos (fun e => h3 e.symm)]
end Go.Nest
