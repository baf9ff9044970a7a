/- WALKS, 16: an object as bytes. -/
import Derived.Test.YtkkjjbejkcgmfaaP5
namespace Go.Nest
open Go Go.AM Go.Proofs
open Go.Proofs.Ytkkjjbejkcgmfaa (tab tabOk)
set_option linter.unusedVariables false
set_option linter.unusedSimpArgs false
set_option maxRecDepth 4000

theorem txB_len (s : List UInt8) : (txB s).length = s.length + 3 := by simp [txB, num3]
theorem num3_len (n : Int) : (num3 n).length = 3 := rfl

theorem num_spec (l : List UInt8) (hl : l.length ≤ 10000000) (n : Int) : Does Try.prog 59 [.c (.ptr 0 0), .c (.int .i64 n)] [.box [.rw 1], .row 1 UInt8 bytesC l] (Rt (.tup []) [.box [.rw 2], .dead, .row 1 UInt8 bytesC (l ++ num3 n)]) := by
  refine X_spec ⟨Try.prog, tab, 21, 2⟩ tabOk (by kernel_rfl) Try.call59 Try.func59 rfl rfl (by kernel_rfl) rfl ?_
  intro hb
  (conv => whnf)
  refine ⟨by decide, ?_⟩
  (conv => whnf)
  refine ⟨by decide, ?_⟩
  (conv => whnf)
  refine ⟨num3 n, (by simp [num3, bytesC, byt_spec]; exact ⟨rfl, rfl⟩), ?_⟩
  (conv => whnf)
  refine ⟨_, _, rfl, rfl, (by simp only [num3_len]; omega), ?_⟩
  (conv => whnf)
  refine rt [] [.same 0, .same 1, .same 3] (by repeat' first | exact trivial | exact rfl | refine And.intro ?_ ?_) rfl ⟨rfl, rfl⟩

theorem text_spec (l : List UInt8) (hl : l.length ≤ 1000000) (s : List UInt8) (hs : s.length ≤ 1000000) : Does Try.prog 58 [.c (.ptr 0 0), .c (.str s)] [.box [.rw 1], .row 1 UInt8 bytesC l] (Rt (.tup []) [.box [.rw 2], .dead, .row 1 UInt8 bytesC (l ++ num3 s.length ++ s)]) := by
  refine X_spec ⟨Try.prog, tab, 17, 2⟩ tabOk (by kernel_rfl) Try.call58 Try.func58 rfl rfl (by kernel_rfl) rfl ?_
  intro hb
  (conv => whnf)
  refine cl [] [0, 1] (num_spec l (by omega) s.length) (by (repeat' first | exact trivial | exact rfl | refine And.intro ?_ ?_); done) (by first | exact trivial | exact rfl) ?_
  (conv => whnf)
  refine ⟨_, _, rfl, rfl, (by simp only [List.length_append, num3_len]; omega), ?_⟩
  (conv => whnf)
  refine rt [] [.same 0, .same 1, .same 3] (by repeat' first | exact trivial | exact rfl | refine And.intro ?_ ?_) rfl ⟨rfl, rfl⟩

theorem few_spec (n : Int) : Does Try.prog 53 [.c (.int .i64 n)] [] (Rt (.c (.bool (few n))) []) := by
  refine X_spec ⟨Try.prog, tab, 9, 0⟩ tabOk (by kernel_rfl) Try.call53 Try.func53 rfl rfl (by kernel_rfl) rfl ?_
  intro hb
  repeat' ((conv => whnf); first | (refine dec (fun h => ?_) (fun h => ?_) <;> try contradiction) | (refine decN (fun h => ?_) (fun h => ?_) <;> try contradiction) | refine booN (fun h => ?_) (fun h => ?_) | refine boo (fun h => ?_) (fun h => ?_) | refine ⟨i64 (by omega) (by omega), ?_⟩ | refine ⟨_, _, rfl, List.getElem?_eq_getElem (by omega), ?_⟩ | refine ⟨_, ⟨rfl, by omega⟩, ?_⟩ | refine ⟨_, List.getElem?_eq_getElem (by omega), ?_⟩ | refine rtB ?_ | refine rtI ?_ | refine rtC ?_ rfl | fail)
  all_goals (simp [few]; omega)
theorem enc1_spec (n : Int) : Does Try.prog 55 [.c (.int .i64 n)] [] (Rt (.c (.bool (!few n))) []) := by
  refine X_spec ⟨Try.prog, tab, 6, 0⟩ tabOk (by kernel_rfl) Try.call55 Try.func55 rfl rfl (by kernel_rfl) rfl ?_
  intro hb
  (conv => whnf)
  refine cl [] [] (few_spec n) (by (repeat' first | exact trivial | exact rfl | refine And.intro ?_ ?_); done) (by first | exact trivial | exact rfl) ?_
  (conv => whnf)
  exact rtB rfl
theorem enc2_spec (e : Ent) : Does Try.prog 57 [.st (encEn e)] [] (Rt (.c (.bool (!few e.id))) []) := by
  refine X_spec ⟨Try.prog, tab, 7, 0⟩ tabOk (by kernel_rfl) Try.call57 Try.func57 rfl rfl (by kernel_rfl) rfl ?_
  intro hb
  (conv => whnf)
  refine cl [] [] (few_spec e.id) (by (repeat' first | exact trivial | exact rfl | refine And.intro ?_ ?_); done) (by first | exact trivial | exact rfl) ?_
  (conv => whnf)
  exact rtB rfl

theorem flat_len {l : List Ent} (h : ∀ e ∈ l, e.name.length ≤ 20) : (l.flatMap enB).length ≤ l.length * 28 := by
  induction l with
  | nil => simp
  | cons e l ih =>
    rw [List.flatMap_cons, List.length_append, List.length_cons]
    have := ih (fun x hx => h x (by simp [hx]))
    have h1 := h e (by simp)
    have : (enB e).length = e.name.length + 8 := by simp [enB, txB_len, num3_len]
    omega
theorem flat3_len {l : List Int} : (l.flatMap num3).length = l.length * 3 := by
  induction l with
  | nil => rfl
  | cons e l ih => rw [List.flatMap_cons, List.length_append, List.length_cons, ih, num3_len]; omega

set_option maxHeartbeats 4000000 in
theorem encode_spec (o : Ob) : Does Try.prog 24 [.st (bOb o)] [] (Rt (.tup [(false, [.rw 0]), (false, [.int .i64 (encC o)])]) [.row 1 UInt8 bytesC (encB o)]) := by
  refine X_specM ⟨Try.prog, tab, 112, 0⟩ tabOk (by kernel_rfl) Try.call24 Try.func24 rfl rfl (by kernel_rfl) rfl ?_
  intro hb
  refine XM.seq ?_
  repeat' ((conv => whnf); first | (refine dec (fun h => ?_) (fun h => ?_) <;> try contradiction) | (refine decN (fun h => ?_) (fun h => ?_) <;> try contradiction) | refine booN (fun h => ?_) (fun h => ?_) | refine boo (fun h => ?_) (fun h => ?_) | refine ⟨i64 (by omega) (by omega), ?_⟩ | refine ⟨_, _, rfl, List.getElem?_eq_getElem (by omega), ?_⟩ | refine ⟨_, ⟨rfl, by omega⟩, ?_⟩ | refine ⟨_, List.getElem?_eq_getElem (by omega), ?_⟩ | refine rtB ?_ | refine rtI ?_ | refine rtC ?_ rfl | fail)
  refine XM.seq ?_
  (conv => whnf)
  refine cl [] [] (check_spec o) (by (repeat' first | exact trivial | exact rfl | refine And.intro ?_ ?_); done) (by first | exact trivial | exact rfl) ?_
  repeat' ((conv => whnf); first | (refine dec (fun h => ?_) (fun h => ?_) <;> try contradiction) | (refine decN (fun h => ?_) (fun h => ?_) <;> try contradiction) | refine booN (fun h => ?_) (fun h => ?_) | refine boo (fun h => ?_) (fun h => ?_) | refine ⟨i64 (by omega) (by omega), ?_⟩ | refine ⟨_, _, rfl, List.getElem?_eq_getElem (by omega), ?_⟩ | refine ⟨_, ⟨rfl, by omega⟩, ?_⟩ | refine ⟨_, List.getElem?_eq_getElem (by omega), ?_⟩ | refine rtB ?_ | refine rtI ?_ | refine rtC ?_ rfl | fail)
  · have e1 : encC o = objF o := by unfold encC; rw [if_neg (by simpa using h)]
    have e2 : encB o = [] := by unfold encB; rw [if_neg (by rw [e1]; simpa using h)]
    rw [e1, e2]
    (conv => whnf)
    refine rt [] [.new] (by repeat' first | exact trivial | exact rfl | refine And.intro ?_ ?_) rfl ⟨rfl, rfl⟩
  have h0 : objF o = 0 := by simpa using h
  have hk := objF_ok h0
  clear h
  refine XM.join (ι := Bool) (fun b => ⟨[(1, .c (.ptr 0 0)), (5, .c (.bool b))], [.box (bOb o)]⟩) (fun b => b = bigO o) ?_ (fun b hj => ?_)
  · (conv => whnf)
    refine cl [] [] (few_spec o.tree) (by (repeat' first | exact trivial | exact rfl | refine And.intro ?_ ?_); done) (by first | exact trivial | exact rfl) ?_
    repeat' ((conv => whnf); first | (refine dec (fun h => ?_) (fun h => ?_) <;> try contradiction) | (refine decN (fun h => ?_) (fun h => ?_) <;> try contradiction) | refine booN (fun h => ?_) (fun h => ?_) | refine boo (fun h => ?_) (fun h => ?_) | refine ⟨i64 (by omega) (by omega), ?_⟩ | refine ⟨_, _, rfl, List.getElem?_eq_getElem (by omega), ?_⟩ | refine ⟨_, ⟨rfl, by omega⟩, ?_⟩ | refine ⟨_, List.getElem?_eq_getElem (by omega), ?_⟩ | refine rtB ?_ | refine rtI ?_ | refine rtC ?_ rfl | fail)
    · refine ⟨true, ?_, [], [.same 0], ?_⟩
      · simp [bigO, h]
      · repeat' first | exact trivial | exact rfl | refine And.intro ?_ ?_
    · have h1 := h
      (conv => whnf)
      refine cl [] [] (containsInts_spec enc1_spec o.parents) (by (repeat' first | exact trivial | exact rfl | refine And.intro ?_ ?_); done) (by first | exact trivial | exact rfl) ?_
      repeat' ((conv => whnf); first | (refine dec (fun h => ?_) (fun h => ?_) <;> try contradiction) | (refine decN (fun h => ?_) (fun h => ?_) <;> try contradiction) | refine booN (fun h => ?_) (fun h => ?_) | refine boo (fun h => ?_) (fun h => ?_) | refine ⟨i64 (by omega) (by omega), ?_⟩ | refine ⟨_, _, rfl, List.getElem?_eq_getElem (by omega), ?_⟩ | refine ⟨_, ⟨rfl, by omega⟩, ?_⟩ | refine ⟨_, List.getElem?_eq_getElem (by omega), ?_⟩ | refine rtB ?_ | refine rtI ?_ | refine rtC ?_ rfl | fail)
      · refine ⟨true, ?_, [], [.same 0], ?_⟩
        · unfold bigO; rw [h]; simp
        · repeat' first | exact trivial | exact rfl | refine And.intro ?_ ?_
      · have h2 := h
        (conv => whnf)
        refine cl [] [] (containsEns_spec enc2_spec o.entries) (by (repeat' first | exact trivial | exact rfl | refine And.intro ?_ ?_); done) (by first | exact trivial | exact rfl) ?_
        (conv => whnf)
        refine ⟨o.entries.any fun e => !few e.id, ?_, [], [.same 0], ?_⟩
        · unfold bigO; rw [h2, h1]; rfl
        · repeat' first | exact trivial | exact rfl | refine And.intro ?_ ?_
  refine XM.seq ?_
  repeat' ((conv => whnf); first | (refine dec (fun h => ?_) (fun h => ?_) <;> try contradiction) | (refine decN (fun h => ?_) (fun h => ?_) <;> try contradiction) | refine booN (fun h => ?_) (fun h => ?_) | refine boo (fun h => ?_) (fun h => ?_) | refine ⟨i64 (by omega) (by omega), ?_⟩ | refine ⟨_, _, rfl, List.getElem?_eq_getElem (by omega), ?_⟩ | refine ⟨_, ⟨rfl, by omega⟩, ?_⟩ | refine ⟨_, List.getElem?_eq_getElem (by omega), ?_⟩ | refine rtB ?_ | refine rtI ?_ | refine rtC ?_ rfl | fail)
  · have e1 : encC o = 1 := by unfold encC; rw [if_pos h0, ← hj, h]; rfl
    have e2 : encB o = [] := by unfold encB; rw [if_neg (by rw [e1]; decide)]
    rw [e1, e2]
    (conv => whnf)
    refine rt [] [.new] (by repeat' first | exact trivial | exact rfl | refine And.intro ?_ ?_) rfl ⟨rfl, rfl⟩
  rw [h] at hj
  clear h
  have e1 : encC o = 0 := encC_of h0 hj.symm
  have e2 : encB o = encP o := by unfold encB; rw [if_pos e1]
  rw [e1, e2]
  have g1 := hk.entries; have g2 := hk.parents; have g3 := hk.bytes; have g4 := hk.text
  refine XM.seq ?_
  (conv => whnf)
  refine ⟨[byt o.kind], (by simp [bytesC, byt_spec]), ?_⟩
  (conv => whnf)
  refine XM.join (ι := List UInt8) (fun l => ⟨[(6, .c (.ptr 0 0))], [.box [.rw 1], .row 1 UInt8 bytesC l]⟩) (fun l => l = encP o) ?_ (fun l hl => ?_)
  · repeat' ((conv => whnf); first | (refine dec (fun h => ?_) (fun h => ?_) <;> try contradiction) | (refine decN (fun h => ?_) (fun h => ?_) <;> try contradiction) | refine booN (fun h => ?_) (fun h => ?_) | refine boo (fun h => ?_) (fun h => ?_) | refine ⟨i64 (by omega) (by omega), ?_⟩ | refine ⟨_, _, rfl, List.getElem?_eq_getElem (by omega), ?_⟩ | refine ⟨_, ⟨rfl, by omega⟩, ?_⟩ | refine ⟨_, List.getElem?_eq_getElem (by omega), ?_⟩ | refine rtB ?_ | refine rtI ?_ | refine rtC ?_ rfl | fail)
    · have hk1 : o.kind = 1 := h
      (conv => whnf)
      refine ⟨o.bytes, rfl, ?_⟩
      (conv => whnf)
      refine cl [] [2, 1] (text_spec [byt o.kind] (by simp) o.bytes (by omega)) (by (repeat' first | exact trivial | exact rfl | refine And.intro ?_ ?_); done) (by first | exact trivial | exact rfl) ?_
      (conv => whnf)
      refine ⟨[byt o.kind] ++ num3 o.bytes.length ++ o.bytes, ?_, [], [.same 2, .same 3], ?_⟩
      · unfold encP txB; rw [if_pos hk1]; simp
      · repeat' first | exact trivial | exact rfl | refine And.intro ?_ ?_
    · have hk2 : o.kind = 2 := h
      (conv => whnf)
      refine cl [] [2, 1] (num_spec [byt o.kind] (by simp) o.entries.length) (by (repeat' first | exact trivial | exact rfl | refine And.intro ?_ ?_); done) (by first | exact trivial | exact rfl) ?_
      (conv => whnf)
      refine lp (Nat × List UInt8) (fun x => ⟨[(6, .c (.ptr 0 0)), (78, .c (.bs 4 Ent encEn o.entries)), (79, .c (.int .i64 o.entries.length)), (80, .c (.int .i64 x.1))], [.box [.rw 1], .row 1 UInt8 bytesC x.2]⟩) (fun x => x.1 ≤ o.entries.length ∧ x.2 = [byt o.kind] ++ num3 o.entries.length ++ (o.entries.take x.1).flatMap enB) (fun x => o.entries.length - x.1) (0, [byt o.kind] ++ num3 o.entries.length) [] [.same 2, .same 3] ?_ ?_ (fun x hi => ?_)
      · simp
      · repeat' first | exact trivial | exact rfl | refine And.intro ?_ ?_
      obtain ⟨i, l⟩ := x
      dsimp only at hi
      have hnm : ∀ e ∈ o.entries, e.name.length ≤ 20 := fun e he => nameC_len (entsF_ok hk.ents e he).1
      have hll : l.length ≤ 4 + 60 * 28 := by
        rw [hi.2, List.length_append]
        have := flat_len (l := o.entries.take i) (fun e he => hnm e (List.mem_of_mem_take he))
        have h5 : (o.entries.take i).length ≤ 60 := by rw [List.length_take]; omega
        simp only [List.length_append, List.length_singleton, num3_len]
        omega
      (conv => whnf)
      refine dec (fun h4 => ?_) (fun h4 => ?_)
      · have hlt : i < o.entries.length := by omega
        have hn := hnm _ (List.getElem_mem hlt)
        repeat' ((conv => whnf); first | (refine dec (fun h => ?_) (fun h => ?_) <;> try contradiction) | (refine decN (fun h => ?_) (fun h => ?_) <;> try contradiction) | refine booN (fun h => ?_) (fun h => ?_) | refine boo (fun h => ?_) (fun h => ?_) | refine ⟨i64 (by omega) (by omega), ?_⟩ | refine ⟨_, _, rfl, List.getElem?_eq_getElem (by omega), ?_⟩ | refine ⟨_, ⟨rfl, by omega⟩, ?_⟩ | refine ⟨_, List.getElem?_eq_getElem (by omega), ?_⟩ | refine rtB ?_ | refine rtI ?_ | refine rtC ?_ rfl | fail)
        (conv => whnf)
        refine cl [] [0, 1] (text_spec l (by omega) o.entries[i].name (by omega)) (by (repeat' first | exact trivial | exact rfl | refine And.intro ?_ ?_); done) (by first | exact trivial | exact rfl) ?_
        (conv => whnf)
        refine ⟨false, (.l [0, 1, 2, 3, 4, 5, 6, 7, 8, 9, 10, 11, 12, 13, 14, 15]), by kernel_rfl, .inl ?_⟩
        repeat' ((conv => whnf); first | (refine dec (fun h => ?_) (fun h => ?_) <;> try contradiction) | (refine decN (fun h => ?_) (fun h => ?_) <;> try contradiction) | refine booN (fun h => ?_) (fun h => ?_) | refine boo (fun h => ?_) (fun h => ?_) | refine ⟨i64 (by omega) (by omega), ?_⟩ | refine ⟨_, _, rfl, List.getElem?_eq_getElem (by omega), ?_⟩ | refine ⟨_, ⟨rfl, by omega⟩, ?_⟩ | refine ⟨_, List.getElem?_eq_getElem (by omega), ?_⟩ | refine rtB ?_ | refine rtI ?_ | refine rtC ?_ rfl | fail)
        (conv => whnf)
        refine ⟨[byt o.entries[i].mode, byt o.entries[i].repo], (by simp [bytesC, byt_spec]), ?_⟩
        (conv => whnf)
        refine ⟨_, _, rfl, rfl, (by simp only [List.length_append, List.length_cons, List.length_nil, num3_len]; omega), ?_⟩
        (conv => whnf)
        refine cl [] [0, 5] (num_spec (l ++ num3 o.entries[i].name.length ++ o.entries[i].name ++ [byt o.entries[i].mode, byt o.entries[i].repo]) (by simp only [List.length_append, List.length_cons, List.length_nil, num3_len]; omega) o.entries[i].id) (by (repeat' first | exact trivial | exact rfl | refine And.intro ?_ ?_); done) (by first | exact trivial | exact rfl) ?_
        repeat' ((conv => whnf); first | (refine dec (fun h => ?_) (fun h => ?_) <;> try contradiction) | (refine decN (fun h => ?_) (fun h => ?_) <;> try contradiction) | refine booN (fun h => ?_) (fun h => ?_) | refine boo (fun h => ?_) (fun h => ?_) | refine ⟨i64 (by omega) (by omega), ?_⟩ | refine ⟨_, _, rfl, List.getElem?_eq_getElem (by omega), ?_⟩ | refine ⟨_, ⟨rfl, by omega⟩, ?_⟩ | refine ⟨_, List.getElem?_eq_getElem (by omega), ?_⟩ | refine rtB ?_ | refine rtI ?_ | refine rtC ?_ rfl | fail)
        refine ag (i + 1, l ++ num3 o.entries[i].name.length ++ o.entries[i].name ++ [byt o.entries[i].mode, byt o.entries[i].repo] ++ num3 o.entries[i].id) [] [.same 0, .same 6] ⟨hlt, ?_⟩ (by simp only []; omega) ?_
        · rw [List.take_succ_eq_append_getElem hlt, List.flatMap_append, ← List.append_assoc, ← hi.2]
          simp [enB, txB]
        · repeat' first | exact trivial | exact rfl | refine And.intro ?_ ?_
      · (conv => whnf)
        refine ⟨l, ?_, [], [.same 0, .same 1], ?_⟩
        · have := hi.2
          rw [List.take_of_length_le (by omega)] at this
          rw [this]
          unfold encP; rw [if_neg (by omega), if_pos hk2]; simp
        · repeat' first | exact trivial | exact rfl | refine And.intro ?_ ?_
    · have hn1 : ¬ o.kind = 1 := by assumption
      have hn2 : ¬ o.kind = 2 := h
      (conv => whnf)
      refine cl [] [2, 1] (num_spec [byt o.kind] (by simp) o.tree) (by (repeat' first | exact trivial | exact rfl | refine And.intro ?_ ?_); done) (by first | exact trivial | exact rfl) ?_
      (conv => whnf)
      refine cl [] [2, 3] (num_spec ([byt o.kind] ++ num3 o.tree) (by simp [num3_len]) o.parents.length) (by (repeat' first | exact trivial | exact rfl | refine And.intro ?_ ?_); done) (by first | exact trivial | exact rfl) ?_
      (conv => whnf)
      refine lp (Nat × List UInt8) (fun x => ⟨[(1, .c (.ptr 0 0)), (6, .c (.ptr 1 0)), (49, .c (.bs 1 Int encI o.parents)), (50, .c (.int .i64 o.parents.length)), (51, .c (.int .i64 x.1))], [.box (bOb o), .box [.rw 2], .row 1 UInt8 bytesC x.2]⟩) (fun x => x.1 ≤ o.parents.length ∧ x.2 = [byt o.kind] ++ num3 o.tree ++ num3 o.parents.length ++ (o.parents.take x.1).flatMap num3) (fun x => o.parents.length - x.1) (0, [byt o.kind] ++ num3 o.tree ++ num3 o.parents.length) [] [.same 0, .same 2, .same 4] ?_ ?_ (fun x hi => ?_)
      · simp
      · repeat' first | exact trivial | exact rfl | refine And.intro ?_ ?_
      obtain ⟨i, l⟩ := x
      dsimp only at hi
      have hll : l.length ≤ 20 := by
        rw [hi.2]
        have h5 : (o.parents.take i).length ≤ 3 := by rw [List.length_take]; omega
        simp only [List.length_append, List.length_singleton, num3_len, flat3_len]
        omega
      (conv => whnf)
      refine dec (fun h4 => ?_) (fun h4 => ?_)
      · have hlt : i < o.parents.length := by omega
        repeat' ((conv => whnf); first | (refine dec (fun h => ?_) (fun h => ?_) <;> try contradiction) | (refine decN (fun h => ?_) (fun h => ?_) <;> try contradiction) | refine booN (fun h => ?_) (fun h => ?_) | refine boo (fun h => ?_) (fun h => ?_) | refine ⟨i64 (by omega) (by omega), ?_⟩ | refine ⟨_, _, rfl, List.getElem?_eq_getElem (by omega), ?_⟩ | refine ⟨_, ⟨rfl, by omega⟩, ?_⟩ | refine ⟨_, List.getElem?_eq_getElem (by omega), ?_⟩ | refine rtB ?_ | refine rtI ?_ | refine rtC ?_ rfl | fail)
        (conv => whnf)
        refine cl [] [1, 2] (num_spec l (by omega) o.parents[i]) (by (repeat' first | exact trivial | exact rfl | refine And.intro ?_ ?_); done) (by first | exact trivial | exact rfl) ?_
        repeat' ((conv => whnf); first | (refine dec (fun h => ?_) (fun h => ?_) <;> try contradiction) | (refine decN (fun h => ?_) (fun h => ?_) <;> try contradiction) | refine booN (fun h => ?_) (fun h => ?_) | refine boo (fun h => ?_) (fun h => ?_) | refine ⟨i64 (by omega) (by omega), ?_⟩ | refine ⟨_, _, rfl, List.getElem?_eq_getElem (by omega), ?_⟩ | refine ⟨_, ⟨rfl, by omega⟩, ?_⟩ | refine ⟨_, List.getElem?_eq_getElem (by omega), ?_⟩ | refine rtB ?_ | refine rtI ?_ | refine rtC ?_ rfl | fail)
        refine ag (i + 1, l ++ num3 o.parents[i]) [] [.same 0, .same 1, .same 3] ⟨hlt, ?_⟩ (by simp only []; omega) ?_
        · rw [List.take_succ_eq_append_getElem hlt, List.flatMap_append, ← List.append_assoc, ← hi.2]
          simp
        · repeat' first | exact trivial | exact rfl | refine And.intro ?_ ?_
      · have h6 := hi.2
        rw [List.take_of_length_le (by omega)] at h6
        (conv => whnf)
        refine cl [] [1, 2] (text_spec l (by omega) o.text (by omega)) (by (repeat' first | exact trivial | exact rfl | refine And.intro ?_ ?_); done) (by first | exact trivial | exact rfl) ?_
        (conv => whnf)
        refine ⟨l ++ num3 o.text.length ++ o.text, ?_, [], [.same 1, .same 3], ?_⟩
        · rw [h6]
          unfold encP; rw [if_neg hn1, if_neg hn2]; simp [txB]
        · repeat' first | exact trivial | exact rfl | refine And.intro ?_ ?_
  · subst hl
    refine XM.of ?_
    (conv => whnf)
    refine rt [] [.same 1] (by repeat' first | exact trivial | exact rfl | refine And.intro ?_ ?_) rfl ⟨rfl, rfl⟩
end Go.Nest
