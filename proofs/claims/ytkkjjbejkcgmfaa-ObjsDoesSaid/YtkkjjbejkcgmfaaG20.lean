/- WALKS, 20: the law ObjsBack. -/
import Derived.Test.YtkkjjbejkcgmfaaG19
namespace Go.Nest
open Go Go.AM Go.Proofs
open Go.Proofs.Ytkkjjbejkcgmfaa (tab tabOk)
set_option linter.unusedVariables false
set_option linter.unusedSimpArgs false
set_option maxRecDepth 4000

def oB : Ob := ⟨2, [], [⟨[97], 1, 5, 0⟩], 0, [], []⟩
theorem ob1 : encC oB = 0 := by decide
theorem ob2 : encB oB = [2, 1, 0, 0, 1, 0, 0, 97, 1, 0, 5, 0, 0] := by decide
theorem ob3 : decC (encB oB) = 0 ∧ decO (encB oB) = oB := by
  have : encB oB = encP oB := by unfold encB; rw [if_pos ob1]
  rw [this]
  exact back1 ob1
set_option maxHeartbeats 1000000 in
theorem objsBegun_spec : Does Try.prog 22 [] [] (Rt (.c (.bool true)) []) := by
  have e1 := encode_spec oB
  have d1 := decode_spec (encB oB) (by rw [ob2]; decide)
  have c0 := check_spec ob0
  have c1 := check_spec oB
  rw [ob3.1, ob3.2] at d1
  rw [ob1, ob2] at e1
  rw [ob2] at d1
  rw [show objF ob0 = 6 by decide] at c0
  rw [show objF oB = 0 by decide] at c1
  have s1 := same_spec oB oB
  rw [decide_eq_true rfl] at s1
  refine X_spec ⟨Try.prog, tab, 45, 0⟩ tabOk (by kernel_rfl) Try.call22 Try.func22 rfl rfl (by kernel_rfl) rfl ?_
  intro hb
  (conv => whnf)
  refine ⟨[⟨[97], 1, 5, 0⟩], rfl, ?_⟩
  (conv => whnf)
  refine cl [] [] (e1) (by (repeat' first | exact trivial | exact rfl | refine And.intro ?_ ?_); done) (by first | exact trivial | exact rfl) ?_
  (conv => whnf)
  refine cl [2] [] (d1) (by (repeat' first | exact trivial | exact rfl | refine And.intro ?_ ?_); done) (by first | exact trivial | exact rfl) ?_
  (conv => whnf)
  refine cl [] [] (s1) (by (repeat' first | exact trivial | exact rfl | refine And.intro ?_ ?_); done) (by first | exact trivial | exact rfl) ?_
  (conv => whnf)
  refine cl [] [] (c0) (by (repeat' first | exact trivial | exact rfl | refine And.intro ?_ ?_); done) (by first | exact trivial | exact rfl) ?_
  (conv => whnf)
  refine cl [] [] (c1) (by (repeat' first | exact trivial | exact rfl | refine And.intro ?_ ?_); done) (by first | exact trivial | exact rfl) ?_
  (conv => whnf)
  exact rtB rfl

theorem great_ok {o : Ob} (h : greatO o = false) : o.bytes.length ≤ 2000 ∧ o.entries.length ≤ 200 ∧ o.parents.length ≤ 50 ∧ o.text.length ≤ 2000 := by
  unfold greatO at h
  simp only [Bool.or_eq_false_iff, decide_eq_false_iff_not] at h
  omega
theorem encB_len (o : Ob) : (encB o).length ≤ 10000 := by
  unfold encB
  split
  · rename_i h
    have hk := objF_ok (encC_ok h).1
    have h1 := hk.bytes; have h2 := hk.entries; have h3 := hk.parents; have h4 := hk.text
    have h5 := flat_len (l := o.entries) (fun e he => nameC_len (entsF_ok hk.ents e he).1)
    unfold encP
    split
    · simp only [List.length_cons, List.length_append, num3_len, txB_len, flat3_len]; omega
    split
    · simp only [List.length_cons, List.length_append, num3_len, txB_len, flat3_len]; omega
    · simp only [List.length_cons, List.length_append, num3_len, txB_len, flat3_len]; omega
  · simp

set_option maxHeartbeats 4000000 in
theorem objsBack_spec (o u : Ob) (b : List UInt8) : Does Try.prog 7 [.st (encOb o), .st (encOb u), .c (.ls 1 UInt8 bytesC b)] [] (Rt (.c (.bool true)) []) := by
  refine X_specM ⟨Try.prog, tab, 88, 0⟩ tabOk (by kernel_rfl) Try.call7 Try.func7 rfl rfl (by kernel_rfl) rfl ?_
  intro hb
  refine XM.seq ?_
  repeat' ((conv => whnf); first | (refine dec (fun h => ?_) (fun h => ?_) <;> try contradiction) | (refine decN (fun h => ?_) (fun h => ?_) <;> try contradiction) | refine booN (fun h => ?_) (fun h => ?_) | refine boo (fun h => ?_) (fun h => ?_) | refine ⟨i64 (by omega) (by omega), ?_⟩ | refine ⟨_, _, rfl, List.getElem?_eq_getElem (by omega), ?_⟩ | refine ⟨_, ⟨rfl, by omega⟩, ?_⟩ | refine ⟨_, List.getElem?_eq_getElem (by omega), ?_⟩ | refine rtB ?_ | refine rtI ?_ | refine rtC ?_ rfl | fail)
  refine XM.seq ?_
  (conv => whnf)
  refine cl [] [] (objsBegun_spec) (by (repeat' first | exact trivial | exact rfl | refine And.intro ?_ ?_); done) (by first | exact trivial | exact rfl) ?_
  repeat' ((conv => whnf); first | (refine dec (fun h => ?_) (fun h => ?_) <;> try contradiction) | (refine decN (fun h => ?_) (fun h => ?_) <;> try contradiction) | refine booN (fun h => ?_) (fun h => ?_) | refine boo (fun h => ?_) (fun h => ?_) | refine ⟨i64 (by omega) (by omega), ?_⟩ | refine ⟨_, _, rfl, List.getElem?_eq_getElem (by omega), ?_⟩ | refine ⟨_, ⟨rfl, by omega⟩, ?_⟩ | refine ⟨_, List.getElem?_eq_getElem (by omega), ?_⟩ | refine rtB ?_ | refine rtI ?_ | refine rtC ?_ rfl | fail)
  refine XM.seq ?_
  (conv => whnf)
  refine cl [] [] (greatObject_spec o) (by (repeat' first | exact trivial | exact rfl | refine And.intro ?_ ?_); done) (by first | exact trivial | exact rfl) ?_
  repeat' ((conv => whnf); first | (refine dec (fun h => ?_) (fun h => ?_) <;> try contradiction) | (refine decN (fun h => ?_) (fun h => ?_) <;> try contradiction) | refine booN (fun h => ?_) (fun h => ?_) | refine boo (fun h => ?_) (fun h => ?_) | refine ⟨i64 (by omega) (by omega), ?_⟩ | refine ⟨_, _, rfl, List.getElem?_eq_getElem (by omega), ?_⟩ | refine ⟨_, ⟨rfl, by omega⟩, ?_⟩ | refine ⟨_, List.getElem?_eq_getElem (by omega), ?_⟩ | refine rtB ?_ | refine rtI ?_ | refine rtC ?_ rfl | fail)
  · rfl
  have g1 := great_ok h
  (conv => whnf)
  refine cl [] [] (greatObject_spec u) (by (repeat' first | exact trivial | exact rfl | refine And.intro ?_ ?_); done) (by first | exact trivial | exact rfl) ?_
  repeat' ((conv => whnf); first | (refine dec (fun h => ?_) (fun h => ?_) <;> try contradiction) | (refine decN (fun h => ?_) (fun h => ?_) <;> try contradiction) | refine booN (fun h => ?_) (fun h => ?_) | refine boo (fun h => ?_) (fun h => ?_) | refine ⟨i64 (by omega) (by omega), ?_⟩ | refine ⟨_, _, rfl, List.getElem?_eq_getElem (by omega), ?_⟩ | refine ⟨_, ⟨rfl, by omega⟩, ?_⟩ | refine ⟨_, List.getElem?_eq_getElem (by omega), ?_⟩ | refine rtB ?_ | refine rtI ?_ | refine rtC ?_ rfl | fail)
  · rfl
  · rfl
  have g2 : b.length ≤ 5000 := by omega
  refine XM.seq ?_
  (conv => whnf)
  refine cl [] [] (encode_spec o) (by (repeat' first | exact trivial | exact rfl | refine And.intro ?_ ?_); done) (by first | exact trivial | exact rfl) ?_
  repeat' ((conv => whnf); first | (refine dec (fun h => ?_) (fun h => ?_) <;> try contradiction) | (refine decN (fun h => ?_) (fun h => ?_) <;> try contradiction) | refine booN (fun h => ?_) (fun h => ?_) | refine boo (fun h => ?_) (fun h => ?_) | refine ⟨i64 (by omega) (by omega), ?_⟩ | refine ⟨_, _, rfl, List.getElem?_eq_getElem (by omega), ?_⟩ | refine ⟨_, ⟨rfl, by omega⟩, ?_⟩ | refine ⟨_, List.getElem?_eq_getElem (by omega), ?_⟩ | refine rtB ?_ | refine rtI ?_ | refine rtC ?_ rfl | fail)
  refine XM.seq ?_
  (conv => whnf)
  refine cl [] [] (encode_spec u) (by (repeat' first | exact trivial | exact rfl | refine And.intro ?_ ?_); done) (by first | exact trivial | exact rfl) ?_
  repeat' ((conv => whnf); first | (refine dec (fun h => ?_) (fun h => ?_) <;> try contradiction) | (refine decN (fun h => ?_) (fun h => ?_) <;> try contradiction) | refine booN (fun h => ?_) (fun h => ?_) | refine boo (fun h => ?_) (fun h => ?_) | refine ⟨i64 (by omega) (by omega), ?_⟩ | refine ⟨_, _, rfl, List.getElem?_eq_getElem (by omega), ?_⟩ | refine ⟨_, ⟨rfl, by omega⟩, ?_⟩ | refine ⟨_, List.getElem?_eq_getElem (by omega), ?_⟩ | refine rtB ?_ | refine rtI ?_ | refine rtC ?_ rfl | fail)
  refine XM.join (ι := Unit) (fun _ => ⟨[(2, .c (.ls 1 UInt8 bytesC b))], []⟩) (fun _ => True) ?_ (fun _ _ => ?_)
  · repeat' ((conv => whnf); first | (refine dec (fun h => ?_) (fun h => ?_) <;> try contradiction) | (refine decN (fun h => ?_) (fun h => ?_) <;> try contradiction) | refine booN (fun h => ?_) (fun h => ?_) | refine boo (fun h => ?_) (fun h => ?_) | refine ⟨i64 (by omega) (by omega), ?_⟩ | refine ⟨_, _, rfl, List.getElem?_eq_getElem (by omega), ?_⟩ | refine ⟨_, ⟨rfl, by omega⟩, ?_⟩ | refine ⟨_, List.getElem?_eq_getElem (by omega), ?_⟩ | refine rtB ?_ | refine rtI ?_ | refine rtC ?_ rfl | fail)
    · have ho : encC o = 0 := h
      have he : encB o = encP o := by unfold encB; rw [if_pos ho]
      have d1 := decode_spec (encB o) (by have := encB_len o; omega)
      rw [he, (back1 ho).1, (back1 ho).2, ← he] at d1
      (conv => whnf)
      refine cl [2] [] (d1) (by (repeat' first | exact trivial | exact rfl | refine And.intro ?_ ?_); done) (by first | exact trivial | exact rfl) ?_
      (conv => whnf)
      refine ⟨false, (.l [0, 1, 2, 3, 4, 5, 6, 7, 8, 9, 10, 11, 12, 13, 15, 16, 14, 17, 18, 19, 20]), by kernel_rfl, .inl ?_⟩
      (conv => whnf)
      refine cl [] [] (sameObject_spec o o) (by (repeat' first | exact trivial | exact rfl | refine And.intro ?_ ?_); done) (by first | exact trivial | exact rfl) ?_
      rw [decide_eq_true (rfl : o = o)]
      repeat' ((conv => whnf); first | (refine dec (fun h => ?_) (fun h => ?_) <;> try contradiction) | (refine decN (fun h => ?_) (fun h => ?_) <;> try contradiction) | refine booN (fun h => ?_) (fun h => ?_) | refine boo (fun h => ?_) (fun h => ?_) | refine ⟨i64 (by omega) (by omega), ?_⟩ | refine ⟨_, _, rfl, List.getElem?_eq_getElem (by omega), ?_⟩ | refine ⟨_, ⟨rfl, by omega⟩, ?_⟩ | refine ⟨_, List.getElem?_eq_getElem (by omega), ?_⟩ | refine rtB ?_ | refine rtI ?_ | refine rtC ?_ rfl | fail)
      · have hu : encC u = 0 := h
        have he2 : encB u = encP u := by unfold encB; rw [if_pos hu]
        (conv => whnf)
        refine cl [] [] (sameBytes_spec (encB o) (encB u)) (by (repeat' first | exact trivial | exact rfl | refine And.intro ?_ ?_); done) (by first | exact trivial | exact rfl) ?_
        (conv => whnf)
        refine cl [] [] (sameObject_spec o u) (by (repeat' first | exact trivial | exact rfl | refine And.intro ?_ ?_); done) (by first | exact trivial | exact rfl) ?_
        have : decide (encB o = encB u) = decide (o = u) := by
          rw [he, he2]
          exact decide_eq_decide.2 (encP_inj ho hu)
        rw [this]
        repeat' ((conv => whnf); first | (refine dec (fun h => ?_) (fun h => ?_) <;> try contradiction) | (refine decN (fun h => ?_) (fun h => ?_) <;> try contradiction) | refine booN (fun h => ?_) (fun h => ?_) | refine boo (fun h => ?_) (fun h => ?_) | refine ⟨i64 (by omega) (by omega), ?_⟩ | refine ⟨_, _, rfl, List.getElem?_eq_getElem (by omega), ?_⟩ | refine ⟨_, ⟨rfl, by omega⟩, ?_⟩ | refine ⟨_, List.getElem?_eq_getElem (by omega), ?_⟩ | refine rtB ?_ | refine rtI ?_ | refine rtC ?_ rfl | fail)
        all_goals
          refine ⟨(), trivial, [], [], ?_⟩
          repeat' first | exact trivial | exact rfl | refine And.intro ?_ ?_
      · refine ⟨(), trivial, [], [], ?_⟩
        repeat' first | exact trivial | exact rfl | refine And.intro ?_ ?_
    · refine ⟨(), trivial, [], [], ?_⟩
      repeat' first | exact trivial | exact rfl | refine And.intro ?_ ?_
  refine XM.seq ?_
  (conv => whnf)
  refine cl [] [] (decode_spec b (by omega)) (by (repeat' first | exact trivial | exact rfl | refine And.intro ?_ ?_); done) (by first | exact trivial | exact rfl) ?_
  repeat' ((conv => whnf); first | (refine dec (fun h => ?_) (fun h => ?_) <;> try contradiction) | (refine decN (fun h => ?_) (fun h => ?_) <;> try contradiction) | refine booN (fun h => ?_) (fun h => ?_) | refine boo (fun h => ?_) (fun h => ?_) | refine ⟨i64 (by omega) (by omega), ?_⟩ | refine ⟨_, _, rfl, List.getElem?_eq_getElem (by omega), ?_⟩ | refine ⟨_, ⟨rfl, by omega⟩, ?_⟩ | refine ⟨_, List.getElem?_eq_getElem (by omega), ?_⟩ | refine rtB ?_ | refine rtI ?_ | refine rtC ?_ rfl | fail)
  refine XM.seq ?_
  repeat' ((conv => whnf); first | (refine dec (fun h => ?_) (fun h => ?_) <;> try contradiction) | (refine decN (fun h => ?_) (fun h => ?_) <;> try contradiction) | refine booN (fun h => ?_) (fun h => ?_) | refine boo (fun h => ?_) (fun h => ?_) | refine ⟨i64 (by omega) (by omega), ?_⟩ | refine ⟨_, _, rfl, List.getElem?_eq_getElem (by omega), ?_⟩ | refine ⟨_, ⟨rfl, by omega⟩, ?_⟩ | refine ⟨_, List.getElem?_eq_getElem (by omega), ?_⟩ | refine rtB ?_ | refine rtI ?_ | refine rtC ?_ rfl | fail)
  · have hn := decO_no h
    rw [hn]
    (conv => whnf)
    refine cl [] [] (sameObject_spec ob0 ob0) (by (repeat' first | exact trivial | exact rfl | refine And.intro ?_ ?_); done) (by first | exact trivial | exact rfl) ?_
    (conv => whnf)
    exact rtB (decide_eq_true rfl)
  have hc : decC b = 0 := by simpa using h
  obtain ⟨k1, k2⟩ := back2 hc
  have e1 := encode_spec (decO b)
  have he : encB (decO b) = b := by unfold encB; rw [if_pos k1, k2]
  rw [he, k1] at e1
  refine XM.seq ?_
  (conv => whnf)
  refine cl [] [] (e1) (by (repeat' first | exact trivial | exact rfl | refine And.intro ?_ ?_); done) (by first | exact trivial | exact rfl) ?_
  repeat' ((conv => whnf); first | (refine dec (fun h => ?_) (fun h => ?_) <;> try contradiction) | (refine decN (fun h => ?_) (fun h => ?_) <;> try contradiction) | refine booN (fun h => ?_) (fun h => ?_) | refine boo (fun h => ?_) (fun h => ?_) | refine ⟨i64 (by omega) (by omega), ?_⟩ | refine ⟨_, _, rfl, List.getElem?_eq_getElem (by omega), ?_⟩ | refine ⟨_, ⟨rfl, by omega⟩, ?_⟩ | refine ⟨_, List.getElem?_eq_getElem (by omega), ?_⟩ | refine rtB ?_ | refine rtI ?_ | refine rtC ?_ rfl | fail)
  refine XM.of ?_
  (conv => whnf)
  refine cl [] [] (sameBytes_spec b b) (by (repeat' first | exact trivial | exact rfl | refine And.intro ?_ ?_); done) (by first | exact trivial | exact rfl) ?_
  (conv => whnf)
  exact rtB (decide_eq_true rfl)
end Go.Nest
