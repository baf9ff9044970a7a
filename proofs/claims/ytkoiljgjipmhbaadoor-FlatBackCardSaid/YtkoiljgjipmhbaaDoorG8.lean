/- WALKS, 8: of pools: Get, Next, New. -/
import Derived.Test.YtkoiljgjipmhbaaDoorP1
namespace Go.Nest
open Go Go.AM Go.Proofs
open Go.Proofs.YtkoiljgjipmhbaaDoor (tab tabOk)
set_option linter.unusedVariables false
set_option linter.unusedSimpArgs false
set_option maxRecDepth 4000
theorem new_spec : Does Tryd.prog 23 [] [] (Rt (.c (.ptr 0 0)) [.box [.rw 1], .row 6 Ob encOb []]) := by
  refine X_spec ⟨Tryd.prog, tab, 3, 0⟩ tabOk (by kernel_rfl) Tryd.call23 Tryd.func23 rfl rfl (by kernel_rfl) rfl ?_
  intro hb
  (conv => whnf)
  refine rt [] [.same 0, .new] (by repeat' first | exact trivial | exact rfl | refine And.intro ?_ ?_) rfl ⟨rfl, rfl⟩

theorem get_spec (l : List Ob) (hl : PoolOk l) (id : Int) : Does Tryd.prog 22 [.c (.bp [.bs 6 Ob encOb l]), .c (.int .i64 id)] [] (Rt (.tup [(true, encOb (getP l id)), (false, [.bool (decide (kindOf l id ≠ 0))])]) []) := by
  refine X_spec ⟨Tryd.prog, tab, 19, 0⟩ tabOk (by kernel_rfl) Tryd.call22 Tryd.func22 rfl rfl (by kernel_rfl) rfl ?_
  intro hb
  repeat' ((conv => whnf); first | (refine dec (fun h => ?_) (fun h => ?_) <;> try contradiction) | (refine decN (fun h => ?_) (fun h => ?_) <;> try contradiction) | refine booN (fun h => ?_) (fun h => ?_) | refine boo (fun h => ?_) (fun h => ?_) | refine ⟨i64 (by omega) (by omega), ?_⟩ | refine ⟨_, _, rfl, List.getElem?_eq_getElem (by omega), ?_⟩ | refine ⟨_, ⟨rfl, by omega⟩, ?_⟩ | refine ⟨_, List.getElem?_eq_getElem (by omega), ?_⟩ | refine rtB ?_ | refine rtI ?_ | refine rtC ?_ rfl | fail)
  (conv => whnf)
  refine cl [] [] (kind_spec l id) (by (repeat' first | exact trivial | exact rfl | refine And.intro ?_ ?_); first | done | fail) (by first | exact trivial | exact rfl) ?_
  repeat' ((conv => whnf); first | (refine dec (fun h => ?_) (fun h => ?_) <;> try contradiction) | (refine decN (fun h => ?_) (fun h => ?_) <;> try contradiction) | refine booN (fun h => ?_) (fun h => ?_) | refine boo (fun h => ?_) (fun h => ?_) | refine ⟨i64 (by omega) (by omega), ?_⟩ | refine ⟨_, _, rfl, List.getElem?_eq_getElem (by omega), ?_⟩ | refine ⟨_, ⟨rfl, by omega⟩, ?_⟩ | refine ⟨_, List.getElem?_eq_getElem (by omega), ?_⟩ | refine rtB ?_ | refine rtI ?_ | refine rtC ?_ rfl | fail)
  · rw [hl.kind0 h, h]
    (conv => whnf)
    refine rt [] [] (by repeat' first | exact trivial | exact rfl | refine And.intro ?_ ?_) rfl ⟨rfl, rfl⟩
  · obtain ⟨h1, h2⟩ := kindOf_pos h
    have hk := hl.get h
    rw [show decide (kindOf l id ≠ 0) = true from decide_eq_true h]
    rw [getP_at h1 h2] at hk ⊢
    (conv => whnf)
    refine ⟨id.toNat, l[id.toNat], by omega, List.getElem?_eq_getElem h2, ?_⟩
    repeat' ((conv => whnf); first | (refine dec (fun h => ?_) (fun h => ?_) <;> try contradiction) | (refine decN (fun h => ?_) (fun h => ?_) <;> try contradiction) | refine booN (fun h => ?_) (fun h => ?_) | refine boo (fun h => ?_) (fun h => ?_) | refine ⟨i64 (by omega) (by omega), ?_⟩ | refine ⟨_, _, rfl, List.getElem?_eq_getElem (by omega), ?_⟩ | refine ⟨_, ⟨rfl, by omega⟩, ?_⟩ | refine ⟨_, List.getElem?_eq_getElem (by omega), ?_⟩ | refine rtB ?_ | refine rtI ?_ | refine rtC ?_ rfl | fail)
    (conv => whnf)
    refine cl [] [] (own_spec l[id.toNat] (by have := hk.bytes; omega) (by have := hk.entries; omega) (by have := hk.parents; omega)) (by (repeat' first | exact trivial | exact rfl | refine And.intro ?_ ?_); first | done | fail) (by first | exact trivial | exact rfl) ?_
    (conv => whnf)
    refine rt [] [] (by repeat' first | exact trivial | exact rfl | refine And.intro ?_ ?_) rfl ⟨rfl, rfl⟩

theorem filt_step {es : List Ent} {i : Nat} (h : i < es.length) : ((es.take (i + 1)).filter fun e => decide (e.mode ≠ 3)).map (·.id) = ((es.take i).filter fun e => decide (e.mode ≠ 3)).map (·.id) ++ (if es[i].mode = 3 then [] else [es[i].id]) := by
  rw [List.take_succ_eq_append_getElem h, List.filter_append, List.map_append]
  congr 1
  by_cases h3 : es[i].mode = 3 <;> simp [h3]
theorem filt_len {es : List Ent} {i : Nat} (h : es.length ≤ 60) : (((es.take i).filter fun e => decide (e.mode ≠ 3)).map (·.id)).length ≤ 60 := by
  rw [List.length_map]
  refine Nat.le_trans (List.length_filter_le _ _) ?_
  rw [List.length_take]; omega

set_option maxHeartbeats 1000000 in
theorem next_spec (l : List Ob) (hl : PoolOk l) (id : Int) : Does Tryd.prog 41 [.c (.bp [.bs 6 Ob encOb l]), .c (.int .i64 id)] [] (Rt (.c (.rw 0)) [.row 1 Int encI (nextP l id)]) := by
  refine X_specM ⟨Tryd.prog, tab, 46, 0⟩ tabOk (by kernel_rfl) Tryd.call41 Tryd.func41 rfl rfl (by kernel_rfl) rfl ?_
  intro hb
  refine XM.seq ?_
  repeat' ((conv => whnf); first | (refine dec (fun h => ?_) (fun h => ?_) <;> try contradiction) | (refine decN (fun h => ?_) (fun h => ?_) <;> try contradiction) | refine booN (fun h => ?_) (fun h => ?_) | refine boo (fun h => ?_) (fun h => ?_) | refine ⟨i64 (by omega) (by omega), ?_⟩ | refine ⟨_, _, rfl, List.getElem?_eq_getElem (by omega), ?_⟩ | refine ⟨_, ⟨rfl, by omega⟩, ?_⟩ | refine ⟨_, List.getElem?_eq_getElem (by omega), ?_⟩ | refine rtB ?_ | refine rtI ?_ | refine rtC ?_ rfl | fail)
  refine XM.seq ?_
  repeat' ((conv => whnf); first | (refine dec (fun h => ?_) (fun h => ?_) <;> try contradiction) | (refine decN (fun h => ?_) (fun h => ?_) <;> try contradiction) | refine booN (fun h => ?_) (fun h => ?_) | refine boo (fun h => ?_) (fun h => ?_) | refine ⟨i64 (by omega) (by omega), ?_⟩ | refine ⟨_, _, rfl, List.getElem?_eq_getElem (by omega), ?_⟩ | refine ⟨_, ⟨rfl, by omega⟩, ?_⟩ | refine ⟨_, List.getElem?_eq_getElem (by omega), ?_⟩ | refine rtB ?_ | refine rtI ?_ | refine rtC ?_ rfl | fail)
  (conv => whnf)
  refine cl [] [] (get_spec l hl id) (by (repeat' first | exact trivial | exact rfl | refine And.intro ?_ ?_); first | done | fail) (by first | exact trivial | exact rfl) ?_
  repeat' ((conv => whnf); first | (refine dec (fun h => ?_) (fun h => ?_) <;> try contradiction) | (refine decN (fun h => ?_) (fun h => ?_) <;> try contradiction) | refine booN (fun h => ?_) (fun h => ?_) | refine boo (fun h => ?_) (fun h => ?_) | refine ⟨i64 (by omega) (by omega), ?_⟩ | refine ⟨_, _, rfl, List.getElem?_eq_getElem (by omega), ?_⟩ | refine ⟨_, ⟨rfl, by omega⟩, ?_⟩ | refine ⟨_, List.getElem?_eq_getElem (by omega), ?_⟩ | refine rtB ?_ | refine rtI ?_ | refine rtC ?_ rfl | fail)
  refine XM.seq ?_
  repeat' ((conv => whnf); first | (refine dec (fun h => ?_) (fun h => ?_) <;> try contradiction) | (refine decN (fun h => ?_) (fun h => ?_) <;> try contradiction) | refine booN (fun h => ?_) (fun h => ?_) | refine boo (fun h => ?_) (fun h => ?_) | refine ⟨i64 (by omega) (by omega), ?_⟩ | refine ⟨_, _, rfl, List.getElem?_eq_getElem (by omega), ?_⟩ | refine ⟨_, ⟨rfl, by omega⟩, ?_⟩ | refine ⟨_, List.getElem?_eq_getElem (by omega), ?_⟩ | refine rtB ?_ | refine rtI ?_ | refine rtC ?_ rfl | fail)
  · (conv => whnf)
    rw [show nextP l id = [] by unfold nextP; rw [hl.kind0 (Decidable.not_not.1 h)]; rfl]
    refine rt [] [.new] (by repeat' first | exact trivial | exact rfl | refine And.intro ?_ ?_) rfl ⟨rfl, rfl⟩
  have hk := hl.get h
  have he := hk.entries
  refine XM.seq ?_
  repeat' ((conv => whnf); first | (refine dec (fun h => ?_) (fun h => ?_) <;> try contradiction) | (refine decN (fun h => ?_) (fun h => ?_) <;> try contradiction) | refine booN (fun h => ?_) (fun h => ?_) | refine boo (fun h => ?_) (fun h => ?_) | refine ⟨i64 (by omega) (by omega), ?_⟩ | refine ⟨_, _, rfl, List.getElem?_eq_getElem (by omega), ?_⟩ | refine ⟨_, ⟨rfl, by omega⟩, ?_⟩ | refine ⟨_, List.getElem?_eq_getElem (by omega), ?_⟩ | refine rtB ?_ | refine rtI ?_ | refine rtC ?_ rfl | fail)
  refine XM.join (ι := Unit) (fun _ => ⟨[(5, .c (.ptr 0 0)), (7, .c (.rw 1))], [.box (encOb (getP l id)), .row 1 Int encI (((getP l id).entries.filter fun e => decide (e.mode ≠ 3)).map (·.id))]⟩) (fun _ => True) ?_ (fun _ _ => ?_)
  · (conv => whnf)
    refine lp Nat (fun i => ⟨[(5, .c (.ptr 0 0)), (7, .c (.rw 1)), (19, .c (.bs 4 Ent encEn (getP l id).entries)), (20, .c (.int .i64 (getP l id).entries.length)), (21, .c (.int .i64 i))],
      [.box (encOb (getP l id)), .row 1 Int encI ((((getP l id).entries.take i).filter fun e => decide (e.mode ≠ 3)).map (·.id))]⟩) (fun i => i ≤ (getP l id).entries.length ∧ True) (fun i => (getP l id).entries.length - i) 0 [] [.same 0, .new] ?_ ?_ (fun i hi => ?_)
    · exact ⟨Nat.zero_le _, trivial⟩
    · repeat' first | exact trivial | exact rfl | refine And.intro ?_ ?_
    (conv => whnf)
    refine dec (fun h4 => ?_) (fun h4 => ?_)
    · have hlt : i < (getP l id).entries.length := by omega
      have hs := filt_step hlt
      have hle := filt_len (i := i) hk.entries
      repeat' ((conv => whnf); first | (refine dec (fun h => ?_) (fun h => ?_) <;> try contradiction) | (refine decN (fun h => ?_) (fun h => ?_) <;> try contradiction) | refine booN (fun h => ?_) (fun h => ?_) | refine boo (fun h => ?_) (fun h => ?_) | refine ⟨i64 (by omega) (by omega), ?_⟩ | refine ⟨_, _, rfl, List.getElem?_eq_getElem (by omega), ?_⟩ | refine ⟨_, ⟨rfl, by omega⟩, ?_⟩ | refine ⟨_, List.getElem?_eq_getElem (by omega), ?_⟩ | refine rtB ?_ | refine rtI ?_ | refine rtC ?_ rfl | fail)
      · rw [if_neg h] at hs
        (conv => whnf)
        refine ⟨[(getP l id).entries[i].id], rfl, ?_⟩
        (conv => whnf)
        refine ⟨_, _, rfl, rfl, (by simp only [List.length_append, List.length_cons, List.length_nil]; omega), ?_⟩
        repeat' ((conv => whnf); first | (refine dec (fun h => ?_) (fun h => ?_) <;> try contradiction) | (refine decN (fun h => ?_) (fun h => ?_) <;> try contradiction) | refine booN (fun h => ?_) (fun h => ?_) | refine boo (fun h => ?_) (fun h => ?_) | refine ⟨i64 (by omega) (by omega), ?_⟩ | refine ⟨_, _, rfl, List.getElem?_eq_getElem (by omega), ?_⟩ | refine ⟨_, ⟨rfl, by omega⟩, ?_⟩ | refine ⟨_, List.getElem?_eq_getElem (by omega), ?_⟩ | refine rtB ?_ | refine rtI ?_ | refine rtC ?_ rfl | fail)
        refine ag (i + 1) [] [.same 0, .same 4] ⟨hlt, trivial⟩ (by simp only []; omega) ?_
        repeat' first | exact trivial | exact rfl | refine And.intro ?_ ?_
        rw [hs]; exact rfl
      · rw [if_pos h, List.append_nil] at hs
        repeat' ((conv => whnf); first | (refine dec (fun h => ?_) (fun h => ?_) <;> try contradiction) | (refine decN (fun h => ?_) (fun h => ?_) <;> try contradiction) | refine booN (fun h => ?_) (fun h => ?_) | refine boo (fun h => ?_) (fun h => ?_) | refine ⟨i64 (by omega) (by omega), ?_⟩ | refine ⟨_, _, rfl, List.getElem?_eq_getElem (by omega), ?_⟩ | refine ⟨_, ⟨rfl, by omega⟩, ?_⟩ | refine ⟨_, List.getElem?_eq_getElem (by omega), ?_⟩ | refine rtB ?_ | refine rtI ?_ | refine rtC ?_ rfl | fail)
        refine ag (i + 1) [] [.same 0, .same 1] ⟨hlt, trivial⟩ (by simp only []; omega) ?_
        repeat' first | exact trivial | exact rfl | refine And.intro ?_ ?_
        rw [hs]; exact rfl
    · have : (getP l id).entries.take i = (getP l id).entries := List.take_of_length_le (by omega)
      rw [this]
      (conv => whnf)
      refine ⟨(), trivial, [], [.same 0, .same 1], ?_⟩
      repeat' first | exact trivial | exact rfl | refine And.intro ?_ ?_
  have hle := filt_len (i := (getP l id).entries.length) hk.entries
  rw [List.take_length] at hle
  have hp := hk.parents
  refine XM.join (ι := Unit) (fun _ => ⟨[(5, .c (.ptr 0 0)), (7, .c (.rw 1))], [.box (encOb (getP l id)), .row 1 Int encI (((getP l id).entries.filter fun e => decide (e.mode ≠ 3)).map (·.id) ++ (if (getP l id).kind = 3 then [(getP l id).tree] else []))]⟩) (fun _ => True) ?_ (fun _ _ => ?_)
  · repeat' ((conv => whnf); first | (refine dec (fun h => ?_) (fun h => ?_) <;> try contradiction) | (refine decN (fun h => ?_) (fun h => ?_) <;> try contradiction) | refine booN (fun h => ?_) (fun h => ?_) | refine boo (fun h => ?_) (fun h => ?_) | refine ⟨i64 (by omega) (by omega), ?_⟩ | refine ⟨_, _, rfl, List.getElem?_eq_getElem (by omega), ?_⟩ | refine ⟨_, ⟨rfl, by omega⟩, ?_⟩ | refine ⟨_, List.getElem?_eq_getElem (by omega), ?_⟩ | refine rtB ?_ | refine rtI ?_ | refine rtC ?_ rfl | fail)
    · (conv => whnf)
      refine ⟨[(getP l id).tree], rfl, ?_⟩
      (conv => whnf)
      refine ⟨_, _, rfl, rfl, (by simp only [List.length_append, List.length_cons, List.length_nil]; omega), ?_⟩
      (conv => whnf)
      rw [if_pos ‹(getP l id).kind = 3›]
      refine ⟨(), trivial, [], [.same 0, .same 3], ?_⟩
      repeat' first | exact trivial | exact rfl | refine And.intro ?_ ?_
    · (conv => whnf)
      rw [if_neg ‹¬ (getP l id).kind = 3›, List.append_nil]
      refine ⟨(), trivial, [], [.same 0, .same 1], ?_⟩
      repeat' first | exact trivial | exact rfl | refine And.intro ?_ ?_
  have h1 : (if (getP l id).kind = 3 then [(getP l id).tree] else []).length ≤ 1 := by split <;> simp
  refine XM.of ?_
  (conv => whnf)
  refine ⟨_, _, rfl, rfl, (by simp only [List.length_append, List.length_cons, List.length_nil]; omega), ?_⟩
  (conv => whnf)
  rw [show nextP l id = _ from (List.append_assoc _ _ _).symm]
  refine rt [] [.same 2] (by repeat' first | exact trivial | exact rfl | refine And.intro ?_ ?_) rfl ⟨rfl, rfl⟩

end Go.Nest
