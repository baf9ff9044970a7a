/- WALKS, 21: an object as bytes, by the document. -/
import Derived.Test.YtkkjjbejkcgmfaaG16
namespace Go.Nest
open Go Go.AM Go.Proofs
open Go.Proofs.Ytkkjjbejkcgmfaa (tab tabOk)
set_option linter.unusedVariables false
set_option linter.unusedSimpArgs false
set_option maxRecDepth 4000

theorem bytMap2 (a b : Int) : List.map bytesC [byt a, byt b] = [[.int .u8 (IntKind.u8.wrap a)], [.int .u8 (IntKind.u8.wrap b)]] := by simp [bytesC, byt_spec]
theorem three_eq {n : Int} (h1 : 0 ≤ n) : IntKind.u8.wrap (n.tmod 256) = IntKind.u8.wrap n ∧ IntKind.u8.wrap ((n.tdiv 256).tmod 256) = IntKind.u8.wrap (n.fdiv 256) ∧ IntKind.u8.wrap (n.tdiv 65536) = IntKind.u8.wrap (n.fdiv 65536) := by
  rw [wrap8, wrap8, wrap8, wrap8, wrap8, wrap8, Int.fdiv_eq_ediv_of_nonneg _ (by omega), Int.fdiv_eq_ediv_of_nonneg _ (by omega), Int.tdiv_eq_ediv_of_nonneg h1, Int.tdiv_eq_ediv_of_nonneg h1, Int.tmod_eq_emod_of_nonneg h1, Int.tmod_eq_emod_of_nonneg (by omega)]
  omega
theorem three_spec (n : Int) (h1 : 0 ≤ n) (h2 : n < 16777216) : Does Try.prog 70 [.c (.int .i64 n)] [] (Rt (.c (.rw 0)) [.row 1 UInt8 bytesC (num3 n)]) := by
  refine X_spec ⟨Try.prog, tab, 14, 0⟩ tabOk (by kernel_rfl) Try.call70 Try.func70 rfl rfl (by kernel_rfl) rfl ?_
  intro hb
  have t1 : n.tdiv 256 = n / 256 := Int.tdiv_eq_ediv_of_nonneg h1
  have t2 : n.tdiv 65536 = n / 65536 := Int.tdiv_eq_ediv_of_nonneg h1
  (conv => whnf)
  refine ⟨by decide, ?_⟩
  (conv => whnf)
  refine ⟨⟨by decide, i64 (by rw [t1]; omega) (by rw [t1]; omega)⟩, ?_⟩
  (conv => whnf)
  refine ⟨by decide, ?_⟩
  (conv => whnf)
  refine ⟨⟨by decide, i64 (by rw [t2]; omega) (by rw [t2]; omega)⟩, ?_⟩
  (conv => whnf)
  refine ⟨num3 n, ?_, ?_⟩
  · obtain ⟨e1, e2, e3⟩ := three_eq h1
    simp [num3, bytesC, byt_spec, e1, e2, e3]
  (conv => whnf)
  refine rt [] [.same 0] (by repeat' first | exact trivial | exact rfl | refine And.intro ?_ ?_) rfl ⟨rfl, rfl⟩

def numsOf (o : Ob) : List Int := [o.tree] ++ o.parents ++ o.entries.map (·.id)
theorem big_iff {o : Ob} (hk : OkO o) : bigO o = (numsOf o).any fun k => decide (16777216 ≤ k) := by
  have h1 := hk.tree; have h2 := hk.par; have h3 := hk.ids
  have e : ∀ k : Int, 0 ≤ k → (!few k) = decide (16777216 ≤ k) := fun k hk => by
    unfold few; rw [decide_eq_true hk, Bool.true_and, ← decide_not]; exact decide_eq_decide.2 (by omega)
  unfold bigO numsOf
  rw [List.any_append, List.any_append, List.any_cons, List.any_nil, Bool.or_false, List.any_map, e _ h1]
  congr 1
  · congr 1
    rw [Bool.eq_iff_iff, List.any_eq_true, List.any_eq_true]
    constructor
    · rintro ⟨x, hx, h⟩; exact ⟨x, hx, by rw [← e x (h2 x hx)]; exact h⟩
    · rintro ⟨x, hx, h⟩; exact ⟨x, hx, by rw [e x (h2 x hx)]; exact h⟩
  · rw [Bool.eq_iff_iff, List.any_eq_true, List.any_eq_true]
    constructor
    · rintro ⟨x, hx, h⟩; exact ⟨x, hx, by show decide _ = true; rw [← e _ (h3 x hx)]; exact h⟩
    · rintro ⟨x, hx, h⟩; exact ⟨x, hx, by rw [e _ (h3 x hx)]; exact h⟩

set_option maxHeartbeats 4000000 in
theorem objectBytes_spec (o : Ob) : Does Try.prog 41 [.st (bOb o)] [] (Rt (.tup [(false, [.rw 0]), (false, [.int .i64 (encC o)])]) [.row 1 UInt8 bytesC (encB o)]) := by
  refine X_specM ⟨Try.prog, tab, 144, 0⟩ tabOk (by kernel_rfl) Try.call41 Try.func41 rfl rfl (by kernel_rfl) rfl ?_
  intro hb
  refine XM.seq ?_
  repeat' ((conv => whnf); first | (refine dec (fun h => ?_) (fun h => ?_) <;> try contradiction) | (refine decN (fun h => ?_) (fun h => ?_) <;> try contradiction) | refine booN (fun h => ?_) (fun h => ?_) | refine boo (fun h => ?_) (fun h => ?_) | refine ⟨i64 (by omega) (by omega), ?_⟩ | refine ⟨_, _, rfl, List.getElem?_eq_getElem (by omega), ?_⟩ | refine ⟨_, ⟨rfl, by omega⟩, ?_⟩ | refine ⟨_, List.getElem?_eq_getElem (by omega), ?_⟩ | refine rtB ?_ | refine rtI ?_ | refine rtC ?_ rfl | fail)
  refine XM.seq ?_
  (conv => whnf)
  refine cl [] [] (objectFault_spec o) (by (repeat' first | exact trivial | exact rfl | refine And.intro ?_ ?_); first | done | fail) (by first | exact trivial | exact rfl) ?_
  repeat' ((conv => whnf); first | (refine dec (fun h => ?_) (fun h => ?_) <;> try contradiction) | (refine decN (fun h => ?_) (fun h => ?_) <;> try contradiction) | refine booN (fun h => ?_) (fun h => ?_) | refine boo (fun h => ?_) (fun h => ?_) | refine ⟨i64 (by omega) (by omega), ?_⟩ | refine ⟨_, _, rfl, List.getElem?_eq_getElem (by omega), ?_⟩ | refine ⟨_, ⟨rfl, by omega⟩, ?_⟩ | refine ⟨_, List.getElem?_eq_getElem (by omega), ?_⟩ | refine rtB ?_ | refine rtI ?_ | refine rtC ?_ rfl | fail)
  · have e1 : encC o = objF o := by unfold encC; rw [if_neg (by simpa using h)]
    have e2 : encB o = [] := by unfold encB; rw [if_neg (by rw [e1]; simpa using h)]
    rw [e1, e2]
    (conv => whnf)
    refine rt [] [.new] (by repeat' first | exact trivial | exact rfl | refine And.intro ?_ ?_) rfl ⟨rfl, rfl⟩
  have h0 : objF o = 0 := by simpa using h
  have hk := objF_ok h0
  clear h
  have g1 := hk.entries; have g2 := hk.parents; have g3 := hk.bytes; have g4 := hk.text
  refine XM.seq ?_
  (conv => whnf)
  refine ⟨[o.tree], rfl, ?_⟩
  (conv => whnf)
  refine ⟨_, _, rfl, rfl, (by simp only [List.length_append, List.length_cons, List.length_nil]; omega), ?_⟩
  refine XM.join (ι := Unit) (fun _ => ⟨[(1, .c (.ptr 0 0)), (5, .c (.rw 1))], [.box (bOb o), .row 1 Int encI (numsOf o)]⟩) (fun _ => True) ?_ (fun _ _ => ?_)
  · (conv => whnf)
    refine lp (Nat × List Int) (fun x => ⟨[(1, .c (.ptr 0 0)), (5, .c (.rw 1)), (6, .c (.int .i64 x.1))], [.box (bOb o), .row 1 Int encI x.2]⟩) (fun x => x.1 ≤ o.entries.length ∧ x.2 = [o.tree] ++ o.parents ++ (o.entries.take x.1).map (·.id)) (fun x => o.entries.length - x.1) (0, [o.tree] ++ o.parents) [] [.same 0, .same 2] ?_ ?_ (fun x hi => ?_)
    · simp
    · repeat' first | exact trivial | exact rfl | refine And.intro ?_ ?_
    obtain ⟨i, l⟩ := x
    dsimp only at hi
    (conv => whnf)
    refine dec (fun h4 => ?_) (fun h4 => ?_)
    · have hlt : i < o.entries.length := by omega
      have hl : l.length ≤ 100 := by rw [hi.2]; simp; omega
      repeat' ((conv => whnf); first | (refine dec (fun h => ?_) (fun h => ?_) <;> try contradiction) | (refine decN (fun h => ?_) (fun h => ?_) <;> try contradiction) | refine booN (fun h => ?_) (fun h => ?_) | refine boo (fun h => ?_) (fun h => ?_) | refine ⟨i64 (by omega) (by omega), ?_⟩ | refine ⟨_, _, rfl, List.getElem?_eq_getElem (by omega), ?_⟩ | refine ⟨_, ⟨rfl, by omega⟩, ?_⟩ | refine ⟨_, List.getElem?_eq_getElem (by omega), ?_⟩ | refine rtB ?_ | refine rtI ?_ | refine rtC ?_ rfl | fail)
      (conv => whnf)
      refine ⟨[o.entries[i].id], rfl, ?_⟩
      (conv => whnf)
      refine ⟨_, _, rfl, rfl, (by simp only [List.length_append, List.length_cons, List.length_nil]; omega), ?_⟩
      repeat' ((conv => whnf); first | (refine dec (fun h => ?_) (fun h => ?_) <;> try contradiction) | (refine decN (fun h => ?_) (fun h => ?_) <;> try contradiction) | refine booN (fun h => ?_) (fun h => ?_) | refine boo (fun h => ?_) (fun h => ?_) | refine ⟨i64 (by omega) (by omega), ?_⟩ | refine ⟨_, _, rfl, List.getElem?_eq_getElem (by omega), ?_⟩ | refine ⟨_, ⟨rfl, by omega⟩, ?_⟩ | refine ⟨_, List.getElem?_eq_getElem (by omega), ?_⟩ | refine rtB ?_ | refine rtI ?_ | refine rtC ?_ rfl | fail)
      refine ag (i + 1, l ++ [o.entries[i].id]) [] [.same 0, .same 3] ⟨hlt, ?_⟩ (by simp only []; omega) ?_
      · rw [List.take_succ_eq_append_getElem hlt, List.map_append, ← List.append_assoc, ← hi.2]; rfl
      · repeat' first | exact trivial | exact rfl | refine And.intro ?_ ?_
    · have h6 := hi.2
      rw [List.take_of_length_le (by omega)] at h6
      have h6 : l = numsOf o := h6
      rw [h6]
      (conv => whnf)
      refine ⟨(), trivial, [], [.same 0, .same 1], ?_⟩
      repeat' first | exact trivial | exact rfl | refine And.intro ?_ ?_
  have hbig := big_iff hk
  have hnl : (numsOf o).length ≤ 100 := by simp [numsOf]; omega
  refine XM.join (ι := Unit) (fun _ => ⟨[(1, .c (.ptr 0 0))], [.box (bOb o)]⟩) (fun _ => bigO o = false) ?_ (fun _ hb0 => ?_)
  · (conv => whnf)
    refine lp Nat (fun i => ⟨[(1, .c (.ptr 0 0)), (5, .c (.rw 1)), (7, .c (.int .i64 i))], [.box (bOb o), .row 1 Int encI (numsOf o)]⟩) (fun i => i ≤ (numsOf o).length ∧ ((numsOf o).take i).any (fun k => decide (16777216 ≤ k)) = false) (fun i => (numsOf o).length - i) 0 [] [.same 0, .same 1] ?_ ?_ (fun i hi => ?_)
    · simp
    · repeat' first | exact trivial | exact rfl | refine And.intro ?_ ?_
    (conv => whnf)
    refine dec (fun h4 => ?_) (fun h4 => ?_)
    · have hlt : i < (numsOf o).length := by omega
      repeat' ((conv => whnf); first | (refine dec (fun h => ?_) (fun h => ?_) <;> try contradiction) | (refine decN (fun h => ?_) (fun h => ?_) <;> try contradiction) | refine booN (fun h => ?_) (fun h => ?_) | refine boo (fun h => ?_) (fun h => ?_) | refine ⟨i64 (by omega) (by omega), ?_⟩ | refine ⟨_, _, rfl, List.getElem?_eq_getElem (by omega), ?_⟩ | refine ⟨_, ⟨rfl, by omega⟩, ?_⟩ | refine ⟨_, List.getElem?_eq_getElem (by omega), ?_⟩ | refine rtB ?_ | refine rtI ?_ | refine rtC ?_ rfl | fail)
      · have hbo : bigO o = true := by rw [hbig]; exact any_at hlt (by rw [decide_eq_true_iff]; exact h)
        have e1 : encC o = 1 := by unfold encC; rw [if_pos h0, hbo]; rfl
        have e2 : encB o = [] := by unfold encB; rw [if_neg (by rw [e1]; decide)]
        rw [e1, e2]
        (conv => whnf)
        refine rt [] [.new] (by repeat' first | exact trivial | exact rfl | refine And.intro ?_ ?_) rfl ⟨rfl, rfl⟩
      · refine ag (i + 1) [] [.same 0, .same 1] ⟨hlt, any_take hlt hi.2 (decide_eq_false h)⟩ (by simp only []; omega) ?_
        repeat' first | exact trivial | exact rfl | refine And.intro ?_ ?_
    · have h6 := hi.2
      rw [List.take_of_length_le (by omega), ← hbig] at h6
      (conv => whnf)
      refine ⟨(), h6, [], [.same 0], ?_⟩
      repeat' first | exact trivial | exact rfl | refine And.intro ?_ ?_
  have e1 : encC o = 0 := encC_of h0 hb0
  have e2 : encB o = encP o := by unfold encB; rw [if_pos e1]
  obtain ⟨b1, b2, b3⟩ := big_no hb0
  rw [e1, e2]
  refine XM.seq ?_
  (conv => whnf)
  refine ⟨[byt o.kind], (by simp [bytesC, byt_spec]), ?_⟩
  (conv => whnf)
  refine XM.seq ?_
  repeat' ((conv => whnf); first | (refine dec (fun h => ?_) (fun h => ?_) <;> try contradiction) | (refine decN (fun h => ?_) (fun h => ?_) <;> try contradiction) | refine booN (fun h => ?_) (fun h => ?_) | refine boo (fun h => ?_) (fun h => ?_) | refine ⟨i64 (by omega) (by omega), ?_⟩ | refine ⟨_, _, rfl, List.getElem?_eq_getElem (by omega), ?_⟩ | refine ⟨_, ⟨rfl, by omega⟩, ?_⟩ | refine ⟨_, List.getElem?_eq_getElem (by omega), ?_⟩ | refine rtB ?_ | refine rtI ?_ | refine rtC ?_ rfl | fail)
  · have hk1 : o.kind = 1 := h
    have : encP o = [byt o.kind] ++ num3 o.bytes.length ++ o.bytes := by unfold encP txB; rw [if_pos hk1]; simp
    rw [this]
    (conv => whnf)
    refine ⟨true, (.alt [0, 1, 6] [2, 7] fun j => bif Nat.beq j 2 then (.alt [3] [4, 7] fun j => bif Nat.beq j 4 then (.alt [] [5, 7] fun j => bif Nat.beq j 5 then (.l [7, 8, 9, 10]) else bif Nat.beq j 7 then (.l [5, 8, 9, 10]) else .l []) else bif Nat.beq j 7 then (.l [4, 5, 8, 9, 10]) else .l []) else bif Nat.beq j 7 then (.l [2, 3, 4, 5, 8, 9, 10]) else .l []), by kernel_rfl, .inl ?_⟩
    repeat' ((conv => whnf); first | refine And.intro ?_ ?_ | (refine ⟨_, _, rfl, rfl, (by simp only [List.length_append, List.length_cons, List.length_nil, num3_len]; omega), ?_⟩) | (refine cl [] [] (three_spec o.bytes.length (by omega) (by omega)) (by (repeat' first | exact trivial | exact rfl | refine And.intro ?_ ?_); first | done | fail) (by first | exact trivial | exact rfl) ?_) | fail)
    all_goals
      (conv => whnf)
      refine rt [] [.same 4] (by repeat' first | exact trivial | exact rfl | refine And.intro ?_ ?_) rfl ⟨rfl, rfl⟩
  have hn1 : ¬ o.kind = 1 := h
  refine XM.seq ?_
  repeat' ((conv => whnf); first | (refine dec (fun h => ?_) (fun h => ?_) <;> try contradiction) | (refine decN (fun h => ?_) (fun h => ?_) <;> try contradiction) | refine booN (fun h => ?_) (fun h => ?_) | refine boo (fun h => ?_) (fun h => ?_) | refine ⟨i64 (by omega) (by omega), ?_⟩ | refine ⟨_, _, rfl, List.getElem?_eq_getElem (by omega), ?_⟩ | refine ⟨_, ⟨rfl, by omega⟩, ?_⟩ | refine ⟨_, List.getElem?_eq_getElem (by omega), ?_⟩ | refine rtB ?_ | refine rtI ?_ | refine rtC ?_ rfl | fail)
  · have hk2 : o.kind = 2 := h
    (conv => whnf)
    refine cl [] [] (three_spec o.entries.length (by omega) (by omega)) (by (repeat' first | exact trivial | exact rfl | refine And.intro ?_ ?_); first | done | fail) (by first | exact trivial | exact rfl) ?_
    (conv => whnf)
    refine ⟨_, _, rfl, rfl, (by simp only [List.length_append, List.length_cons, List.length_nil, num3_len]; omega), ?_⟩
    (conv => whnf)
    refine lp (Nat × List UInt8) (fun x => ⟨[(1, .c (.ptr 0 0)), (8, .c (.rw 1)), (9, .c (.int .i64 x.1))], [.box (bOb o), .row 1 UInt8 bytesC x.2]⟩) (fun x => x.1 ≤ o.entries.length ∧ x.2 = [byt o.kind] ++ num3 o.entries.length ++ (o.entries.take x.1).flatMap enB) (fun x => o.entries.length - x.1) (0, [byt o.kind] ++ num3 o.entries.length) [] [.same 0, .same 3] ?_ ?_ (fun x hi => ?_)
    · simp
    · repeat' first | exact trivial | exact rfl | refine And.intro ?_ ?_
    obtain ⟨i, l⟩ := x
    dsimp only at hi
    have hnm : ∀ e ∈ o.entries, e.name.length ≤ 20 := fun e he => nameC_len (entsF_ok hk.ents e he).1
    have hll : l.length ≤ 4 + 60 * 28 := by
      rw [hi.2, List.length_append]
      have := flat_len (l := o.entries.take i) (fun e he => hnm e (List.mem_of_mem_take he))
      have h5 : (o.entries.take i).length ≤ 60 := by rw [List.length_take]; omega
      simp only [List.length_append, List.length_singleton, num3_len]
      omega
    (conv => whnf)
    refine dec (fun h4 => ?_) (fun h4 => ?_)
    · have hlt : i < o.entries.length := by omega
      have hn := hnm _ (List.getElem_mem hlt)
      have hid := b3 _ (List.getElem_mem hlt)
      repeat' ((conv => whnf); first | (refine dec (fun h => ?_) (fun h => ?_) <;> try contradiction) | (refine decN (fun h => ?_) (fun h => ?_) <;> try contradiction) | refine booN (fun h => ?_) (fun h => ?_) | refine boo (fun h => ?_) (fun h => ?_) | refine ⟨i64 (by omega) (by omega), ?_⟩ | refine ⟨_, _, rfl, List.getElem?_eq_getElem (by omega), ?_⟩ | refine ⟨_, ⟨rfl, by omega⟩, ?_⟩ | refine ⟨_, List.getElem?_eq_getElem (by omega), ?_⟩ | refine rtB ?_ | refine rtI ?_ | refine rtC ?_ rfl | fail)
      (conv => whnf)
      refine ⟨true, (.alt [0, 1, 6] [2, 7] fun j => bif Nat.beq j 2 then (.alt [3] [4, 7] fun j => bif Nat.beq j 4 then (.alt [] [5, 7] fun j => bif Nat.beq j 5 then (.l [7, 8, 9]) else bif Nat.beq j 7 then (.l [5, 8, 9]) else .l []) else bif Nat.beq j 7 then (.l [4, 5, 8, 9]) else .l []) else bif Nat.beq j 7 then (.l [2, 3, 4, 5, 8, 9]) else .l []), by kernel_rfl, .inr ⟨List UInt8, fun x => ⟨[(1, .c (.ptr 0 0)), (8, .c (.rw 1)), (9, .c (.int .i64 i)), (10, .c (.ptr 2 0))], [.box (bOb o), .row 1 UInt8 bytesC x, .box (encEn o.entries[i])]⟩, fun x => x = l ++ num3 o.entries[i].name.length ++ o.entries[i].name, ?_, ?_⟩⟩
      · repeat' ((conv => whnf); first | refine And.intro ?_ ?_ | (refine ⟨_, _, rfl, rfl, (by simp only [List.length_append, List.length_cons, List.length_nil, num3_len]; omega), ?_⟩) | (refine cl [] [] (three_spec o.entries[i].name.length (by omega) (by omega)) (by (repeat' first | exact trivial | exact rfl | refine And.intro ?_ ?_); first | done | fail) (by first | exact trivial | exact rfl) ?_) | fail)
        all_goals
          (conv => whnf)
          refine ⟨_, rfl, [], [.same 0, .same 5, .same 2], ?_⟩
          repeat' first | exact trivial | exact rfl | refine And.intro ?_ ?_
      intro x hx
      have hxl : x.length ≤ 2000 := by rw [hx]; simp only [List.length_append, num3_len]; omega
      (conv => whnf)
      refine ⟨true, (.alt [0, 1, 4, 9] [2, 5, 10] fun j => bif Nat.beq j 2 then (.alt [] [3, 5, 10] fun j => bif Nat.beq j 3 then (.alt [] [5, 10] fun j => bif Nat.beq j 5 then (.alt [] [6, 10] fun j => bif Nat.beq j 6 then (.alt [] [7, 10] fun j => bif Nat.beq j 7 then (.alt [] [8, 10] fun j => bif Nat.beq j 8 then (.l [10, 11, 12, 13]) else bif Nat.beq j 10 then (.l [8, 11, 12, 13]) else .l []) else bif Nat.beq j 10 then (.l [7, 8, 11, 12, 13]) else .l []) else bif Nat.beq j 10 then (.l [6, 7, 8, 11, 12, 13]) else .l []) else bif Nat.beq j 10 then (.l [5, 6, 7, 8, 11, 12, 13]) else .l []) else bif Nat.beq j 5 then (.alt [] [3, 6, 10] fun j => bif Nat.beq j 3 then (.alt [] [6, 10] fun j => bif Nat.beq j 6 then (.alt [] [7, 10] fun j => bif Nat.beq j 7 then (.alt [] [8, 10] fun j => bif Nat.beq j 8 then (.l [10, 11, 12, 13]) else bif Nat.beq j 10 then (.l [8, 11, 12, 13]) else .l []) else bif Nat.beq j 10 then (.l [7, 8, 11, 12, 13]) else .l []) else bif Nat.beq j 10 then (.l [6, 7, 8, 11, 12, 13]) else .l []) else bif Nat.beq j 6 then (.alt [] [3, 10] fun j => bif Nat.beq j 3 then (.alt [] [7, 10] fun j => bif Nat.beq j 7 then (.alt [] [8, 10] fun j => bif Nat.beq j 8 then (.l [10, 11, 12, 13]) else bif Nat.beq j 10 then (.l [8, 11, 12, 13]) else .l []) else bif Nat.beq j 10 then (.l [7, 8, 11, 12, 13]) else .l []) else bif Nat.beq j 10 then (.l [3, 7, 8, 11, 12, 13]) else .l []) else bif Nat.beq j 10 then (.alt [] [3, 6] fun j => bif Nat.beq j 3 then (.l [6, 7, 8, 11, 12, 13]) else bif Nat.beq j 6 then (.l [3, 7, 8, 11, 12, 13]) else .l []) else .l []) else bif Nat.beq j 10 then (.alt [] [3, 5] fun j => bif Nat.beq j 3 then (.l [5, 6, 7, 8, 11, 12, 13]) else bif Nat.beq j 5 then (.alt [] [3, 6] fun j => bif Nat.beq j 3 then (.l [6, 7, 8, 11, 12, 13]) else bif Nat.beq j 6 then (.l [3, 7, 8, 11, 12, 13]) else .l []) else .l []) else .l []) else bif Nat.beq j 5 then (.alt [] [2, 6, 10] fun j => bif Nat.beq j 2 then (.alt [] [3, 6, 10] fun j => bif Nat.beq j 3 then (.alt [] [6, 10] fun j => bif Nat.beq j 6 then (.alt [] [7, 10] fun j => bif Nat.beq j 7 then (.alt [] [8, 10] fun j => bif Nat.beq j 8 then (.l [10, 11, 12, 13]) else bif Nat.beq j 10 then (.l [8, 11, 12, 13]) else .l []) else bif Nat.beq j 10 then (.l [7, 8, 11, 12, 13]) else .l []) else bif Nat.beq j 10 then (.l [6, 7, 8, 11, 12, 13]) else .l []) else bif Nat.beq j 6 then (.alt [] [3, 10] fun j => bif Nat.beq j 3 then (.alt [] [7, 10] fun j => bif Nat.beq j 7 then (.alt [] [8, 10] fun j => bif Nat.beq j 8 then (.l [10, 11, 12, 13]) else bif Nat.beq j 10 then (.l [8, 11, 12, 13]) else .l []) else bif Nat.beq j 10 then (.l [7, 8, 11, 12, 13]) else .l []) else bif Nat.beq j 10 then (.l [3, 7, 8, 11, 12, 13]) else .l []) else bif Nat.beq j 10 then (.alt [] [3, 6] fun j => bif Nat.beq j 3 then (.l [6, 7, 8, 11, 12, 13]) else bif Nat.beq j 6 then (.l [3, 7, 8, 11, 12, 13]) else .l []) else .l []) else bif Nat.beq j 6 then (.alt [] [2, 10] fun j => bif Nat.beq j 2 then (.alt [] [3, 10] fun j => bif Nat.beq j 3 then (.alt [] [7, 10] fun j => bif Nat.beq j 7 then (.alt [] [8, 10] fun j => bif Nat.beq j 8 then (.l [10, 11, 12, 13]) else bif Nat.beq j 10 then (.l [8, 11, 12, 13]) else .l []) else bif Nat.beq j 10 then (.l [7, 8, 11, 12, 13]) else .l []) else bif Nat.beq j 10 then (.l [3, 7, 8, 11, 12, 13]) else .l []) else bif Nat.beq j 10 then (.l [2, 3, 7, 8, 11, 12, 13]) else .l []) else bif Nat.beq j 10 then (.alt [] [2, 6] fun j => bif Nat.beq j 2 then (.alt [] [3, 6] fun j => bif Nat.beq j 3 then (.l [6, 7, 8, 11, 12, 13]) else bif Nat.beq j 6 then (.l [3, 7, 8, 11, 12, 13]) else .l []) else bif Nat.beq j 6 then (.l [2, 3, 7, 8, 11, 12, 13]) else .l []) else .l []) else bif Nat.beq j 10 then (.alt [] [2, 5] fun j => bif Nat.beq j 2 then (.alt [] [3, 5] fun j => bif Nat.beq j 3 then (.l [5, 6, 7, 8, 11, 12, 13]) else bif Nat.beq j 5 then (.alt [] [3, 6] fun j => bif Nat.beq j 3 then (.l [6, 7, 8, 11, 12, 13]) else bif Nat.beq j 6 then (.l [3, 7, 8, 11, 12, 13]) else .l []) else .l []) else bif Nat.beq j 5 then (.alt [] [2, 6] fun j => bif Nat.beq j 2 then (.alt [] [3, 6] fun j => bif Nat.beq j 3 then (.l [6, 7, 8, 11, 12, 13]) else bif Nat.beq j 6 then (.l [3, 7, 8, 11, 12, 13]) else .l []) else bif Nat.beq j 6 then (.l [2, 3, 7, 8, 11, 12, 13]) else .l []) else .l []) else .l []), by kernel_rfl, .inr ⟨List UInt8, fun x => ⟨[(1, .c (.ptr 0 0)), (8, .c (.rw 1)), (9, .c (.int .i64 i))], [.box (bOb o), .row 1 UInt8 bytesC x]⟩, fun y => y = x ++ [byt o.entries[i].mode, byt o.entries[i].repo] ++ num3 o.entries[i].id, ?_, ?_⟩⟩
      · repeat' ((conv => whnf); first | refine And.intro ?_ ?_ | (refine ⟨_, _, rfl, rfl, (by simp only [List.length_append, List.length_cons, List.length_nil, num3_len]; omega), ?_⟩) | (refine cl [] [] (three_spec o.entries[i].id hid.1 hid.2) (by (repeat' first | exact trivial | exact rfl | refine And.intro ?_ ?_); first | done | fail) (by first | exact trivial | exact rfl) ?_) | (refine ⟨[byt o.entries[i].mode, byt o.entries[i].repo], bytMap2 _ _, ?_⟩) | fail)
        all_goals
          (conv => whnf)
          refine ⟨_, rfl, [], [.same 0, .same 6], ?_⟩
          repeat' first | exact trivial | exact rfl | refine And.intro ?_ ?_
      intro y hy
      repeat' ((conv => whnf); first | (refine dec (fun h => ?_) (fun h => ?_) <;> try contradiction) | (refine decN (fun h => ?_) (fun h => ?_) <;> try contradiction) | refine booN (fun h => ?_) (fun h => ?_) | refine boo (fun h => ?_) (fun h => ?_) | refine ⟨i64 (by omega) (by omega), ?_⟩ | refine ⟨_, _, rfl, List.getElem?_eq_getElem (by omega), ?_⟩ | refine ⟨_, ⟨rfl, by omega⟩, ?_⟩ | refine ⟨_, List.getElem?_eq_getElem (by omega), ?_⟩ | refine rtB ?_ | refine rtI ?_ | refine rtC ?_ rfl | fail)
      refine ag (i + 1, y) [] [.same 0, .same 1] ⟨hlt, ?_⟩ (by simp only []; omega) ?_
      · rw [List.take_succ_eq_append_getElem hlt, List.flatMap_append, ← List.append_assoc, ← hi.2, hy, hx]
        simp [enB, txB]
      · repeat' first | exact trivial | exact rfl | refine And.intro ?_ ?_
    · have h6 := hi.2
      rw [List.take_of_length_le (by omega)] at h6
      have : encP o = l := by rw [h6]; unfold encP; rw [if_neg hn1, if_pos hk2]; simp
      rw [this]
      (conv => whnf)
      refine rt [] [.same 1] (by repeat' first | exact trivial | exact rfl | refine And.intro ?_ ?_) rfl ⟨rfl, rfl⟩
  have hn2 : ¬ o.kind = 2 := h
  refine XM.seq ?_
  (conv => whnf)
  refine ⟨true, (.alt [0, 1, 5] [2, 6] fun j => bif Nat.beq j 2 then (.alt [] [3, 6] fun j => bif Nat.beq j 3 then (.alt [] [4, 6] fun j => bif Nat.beq j 4 then (.l [6, 7, 8, 9, 10]) else bif Nat.beq j 6 then (.l [7, 4, 8, 9, 10]) else .l []) else bif Nat.beq j 6 then (.l [7, 3, 4, 8, 9, 10]) else .l []) else bif Nat.beq j 6 then (.l [7, 2, 3, 4, 8, 9, 10]) else .l []), by kernel_rfl, .inr ⟨List UInt8, fun x => ⟨[(1, .c (.ptr 0 0)), (8, .c (.rw 1))], [.box (bOb o), .row 1 UInt8 bytesC x]⟩, fun x => x = [byt o.kind] ++ num3 o.tree ++ num3 o.parents.length, ?_, ?_⟩⟩
  · repeat' ((conv => whnf); first | refine And.intro ?_ ?_ | (refine ⟨_, _, rfl, rfl, (by simp only [List.length_append, List.length_cons, List.length_nil, num3_len]; omega), ?_⟩) | (refine cl [] [] (three_spec o.tree b1.1 b1.2) (by (repeat' first | exact trivial | exact rfl | refine And.intro ?_ ?_); first | done | fail) (by first | exact trivial | exact rfl) ?_) | (refine cl [] [] (three_spec o.parents.length (by omega) (by omega)) (by (repeat' first | exact trivial | exact rfl | refine And.intro ?_ ?_); first | done | fail) (by first | exact trivial | exact rfl) ?_) | fail)
    all_goals
      (conv => whnf)
      refine ⟨_, rfl, [], [.same 0, .same 5], ?_⟩
      repeat' first | exact trivial | exact rfl | refine And.intro ?_ ?_
  intro x hx
  have hxl : x.length = 7 := by rw [hx]; rfl
  refine XM.join (ι := List UInt8) (fun l => ⟨[(1, .c (.ptr 0 0)), (8, .c (.rw 1))], [.box (bOb o), .row 1 UInt8 bytesC l]⟩) (fun l => l = x ++ o.parents.flatMap num3) ?_ (fun l hl => ?_)
  · (conv => whnf)
    refine lp (Nat × List UInt8) (fun y => ⟨[(1, .c (.ptr 0 0)), (8, .c (.rw 1)), (11, .c (.int .i64 y.1))], [.box (bOb o), .row 1 UInt8 bytesC y.2]⟩) (fun y => y.1 ≤ o.parents.length ∧ y.2 = x ++ (o.parents.take y.1).flatMap num3) (fun y => o.parents.length - y.1) (0, x) [] [.same 0, .same 1] ?_ ?_ (fun y hi => ?_)
    · simp
    · repeat' first | exact trivial | exact rfl | refine And.intro ?_ ?_
    obtain ⟨i, l⟩ := y
    dsimp only at hi
    have hll : l.length ≤ 20 := by
      rw [hi.2]
      have h5 : (o.parents.take i).length ≤ 3 := by rw [List.length_take]; omega
      simp only [List.length_append, flat3_len]
      omega
    (conv => whnf)
    refine dec (fun h4 => ?_) (fun h4 => ?_)
    · have hlt : i < o.parents.length := by omega
      have hp := b2 _ (List.getElem_mem hlt)
      repeat' ((conv => whnf); first | (refine dec (fun h => ?_) (fun h => ?_) <;> try contradiction) | (refine decN (fun h => ?_) (fun h => ?_) <;> try contradiction) | refine booN (fun h => ?_) (fun h => ?_) | refine boo (fun h => ?_) (fun h => ?_) | refine ⟨i64 (by omega) (by omega), ?_⟩ | refine ⟨_, _, rfl, List.getElem?_eq_getElem (by omega), ?_⟩ | refine ⟨_, ⟨rfl, by omega⟩, ?_⟩ | refine ⟨_, List.getElem?_eq_getElem (by omega), ?_⟩ | refine rtB ?_ | refine rtI ?_ | refine rtC ?_ rfl | fail)
      (conv => whnf)
      refine cl [] [] (three_spec o.parents[i] hp.1 hp.2) (by (repeat' first | exact trivial | exact rfl | refine And.intro ?_ ?_); first | done | fail) (by first | exact trivial | exact rfl) ?_
      (conv => whnf)
      refine ⟨_, _, rfl, rfl, (by simp only [List.length_append, List.length_cons, List.length_nil, num3_len]; omega), ?_⟩
      repeat' ((conv => whnf); first | (refine dec (fun h => ?_) (fun h => ?_) <;> try contradiction) | (refine decN (fun h => ?_) (fun h => ?_) <;> try contradiction) | refine booN (fun h => ?_) (fun h => ?_) | refine boo (fun h => ?_) (fun h => ?_) | refine ⟨i64 (by omega) (by omega), ?_⟩ | refine ⟨_, _, rfl, List.getElem?_eq_getElem (by omega), ?_⟩ | refine ⟨_, ⟨rfl, by omega⟩, ?_⟩ | refine ⟨_, List.getElem?_eq_getElem (by omega), ?_⟩ | refine rtB ?_ | refine rtI ?_ | refine rtC ?_ rfl | fail)
      refine ag (i + 1, l ++ num3 o.parents[i]) [] [.same 0, .same 3] ⟨hlt, ?_⟩ (by simp only []; omega) ?_
      · rw [List.take_succ_eq_append_getElem hlt, List.flatMap_append, ← List.append_assoc, ← hi.2]
        simp
      · repeat' first | exact trivial | exact rfl | refine And.intro ?_ ?_
    · have h6 := hi.2
      rw [List.take_of_length_le (by omega)] at h6
      (conv => whnf)
      refine ⟨l, h6, [], [.same 0, .same 1], ?_⟩
      repeat' first | exact trivial | exact rfl | refine And.intro ?_ ?_
  have hll : l.length ≤ 20 := by
    rw [hl]
    simp only [List.length_append, flat3_len]
    omega
  have he : encP o = l ++ num3 o.text.length ++ o.text := by
    rw [hl, hx]; unfold encP txB; rw [if_neg hn1, if_neg hn2]; simp
  rw [he]
  refine XM.of ?_
  (conv => whnf)
  refine ⟨true, (.alt [0, 1, 6] [2, 7] fun j => bif Nat.beq j 2 then (.alt [3] [4, 7] fun j => bif Nat.beq j 4 then (.alt [] [5, 7] fun j => bif Nat.beq j 5 then (.l [7, 8, 9, 10]) else bif Nat.beq j 7 then (.l [5, 8, 9, 10]) else .l []) else bif Nat.beq j 7 then (.l [4, 5, 8, 9, 10]) else .l []) else bif Nat.beq j 7 then (.l [2, 3, 4, 5, 8, 9, 10]) else .l []), by kernel_rfl, .inl ?_⟩
  repeat' ((conv => whnf); first | refine And.intro ?_ ?_ | (refine ⟨_, _, rfl, rfl, (by simp only [List.length_append, List.length_cons, List.length_nil, num3_len]; omega), ?_⟩) | (refine cl [] [] (three_spec o.text.length (by omega) (by omega)) (by (repeat' first | exact trivial | exact rfl | refine And.intro ?_ ?_); first | done | fail) (by first | exact trivial | exact rfl) ?_) | fail)
  all_goals
    (conv => whnf)
    refine rt [] [.same 4] (by repeat' first | exact trivial | exact rfl | refine And.intro ?_ ?_) rfl ⟨rfl, rfl⟩
end Go.Nest
