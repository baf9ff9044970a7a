/- WALKS, 10: of pools: Reach. -/
import Derived.Test.YtkoiljgjipmhbaaDoorG9
import Derived.Test.YtkoiljgjipmhbaaDoorP3
section
namespace Go.Nest
open Go Go.AM Go.Proofs
open Go.Proofs.YtkoiljgjipmhbaaDoor (tab tabOk)
set_option linter.unusedVariables false
set_option linter.unusedSimpArgs false
set_option maxRecDepth 4000
/-- where it stands -/
structure Dfs (l : List Ob) (ids : List Int) (vis : List Bool) (todo : List Int) : Prop where
  len : vis.length = l.length
  sound : ∀ k, Mk vis k → Led l ids k
  td : ∀ k ∈ todo, ¬ kindOf l k = 0 → Led l ids k
  base : ∀ k ∈ ids, ¬ kindOf l k = 0 → k ∈ todo ∨ Mk vis k
  clos : ∀ j, Mk vis j → ∀ k ∈ nextP l j, k ∈ todo ∨ Mk vis k
  size : todo.length ≤ ids.length + 64 * vis.count true

def cutT (todo : List Int) : List Int := (todo.drop 0).take (todo.length - 1 - 0)
theorem todo_last {todo : List Int} (h : 0 < todo.length) : todo = cutT todo ++ [todo[todo.length - 1]'(by omega)] := by
  unfold cutT
  rw [List.drop_zero, Nat.sub_zero]
  have := List.take_succ_eq_append_getElem (l := todo) (i := todo.length - 1) (by omega)
  rw [← this, Nat.sub_add_cancel (by omega), List.take_length]
theorem cutT_len {todo : List Int} : (cutT todo).length = todo.length - 1 := by unfold cutT; simp

theorem Dfs.skip {l : List Ob} (hl : PoolOk l) {ids : List Int} {vis : List Bool} {todo : List Int} (h : Dfs l ids vis todo) (ht : 0 < todo.length) {id : Int} (hid : id = todo[todo.length - 1]'(by omega)) (hk : kindOf l id = 0 ∨ Mk vis id) :
    Dfs l ids vis (cutT todo) := by
  have e := todo_last ht
  rw [← hid] at e
  refine ⟨h.len, h.sound, fun k hk1 => h.td k (by rw [e]; exact List.mem_append_left _ hk1), fun k h1 h2 => ?_, fun j hj k h1 => ?_, ?_⟩
  · rcases h.base k h1 h2 with h3 | h3
    · rw [e, List.mem_append, List.mem_singleton] at h3
      rcases h3 with h3 | h3
      · exact .inl h3
      · subst h3; exact .inr (hk.resolve_left h2)
    · exact .inr h3
  · rcases h.clos j hj k h1 with h3 | h3
    · rw [e, List.mem_append, List.mem_singleton] at h3
      rcases h3 with h3 | h3
      · exact .inl h3
      · subst h3; exact .inr (hk.resolve_left (next_lt hl h1).1)
    · exact .inr h3
  · have := h.size; rw [cutT_len]; omega

theorem Dfs.visit {l : List Ob} (hl : PoolOk l) {ids : List Int} {vis : List Bool} {todo : List Int} (h : Dfs l ids vis todo) (ht : 0 < todo.length) {id : Int} (hid : id = todo[todo.length - 1]'(by omega)) (hk : ¬ kindOf l id = 0) (hm : vis[id.toNat]? = some false) :
    Dfs l ids (vis.set id.toNat true) (cutT todo ++ nextP l id) := by
  obtain ⟨h0, hlt⟩ := kindOf_pos hk
  have e := todo_last ht
  rw [← hid] at e
  have hled : Led l ids id := h.td id (by rw [e]; simp) hk
  have hset : ∀ k, Mk (vis.set id.toNat true) k ↔ Mk vis k ∨ k = id := fun k => by
    rw [Mk.set (by rw [h.len]; exact hlt)]
    rw [show ((id.toNat : Nat) : Int) = id by omega]
  refine ⟨by rw [List.length_set, h.len], fun k hk1 => ?_, fun k hk1 h2 => ?_, fun k h1 h2 => ?_, fun j hj k h1 => ?_, ?_⟩
  · rcases (hset k).1 hk1 with h3 | rfl
    · exact h.sound k h3
    · exact hled
  · rcases List.mem_append.1 hk1 with h3 | h3
    · exact h.td k (by rw [e]; exact List.mem_append_left _ h3) h2
    · exact .step hled h3
  · rw [hset, List.mem_append]
    rcases h.base k h1 h2 with h3 | h3
    · rw [e, List.mem_append, List.mem_singleton] at h3
      rcases h3 with h3 | h3
      · exact .inl (.inl h3)
      · exact .inr (.inr h3)
    · exact .inr (.inl h3)
  · rw [hset, List.mem_append]
    rcases (hset j).1 hj with h3 | rfl
    · rcases h.clos j h3 k h1 with h3 | h3
      · rw [e, List.mem_append, List.mem_singleton] at h3
        rcases h3 with h3 | h3
        · exact .inl (.inl h3)
        · exact .inr (.inr h3)
      · exact .inr (.inl h3)
    · exact .inl (.inr h1)
  · have := h.size
    have h2 := nextP_len hl id
    rw [List.length_append, cutT_len, count_set hm]; omega

theorem Dfs.start {l : List Ob} {ids : List Int} : Dfs l ids (List.replicate l.length false) ids :=
  ⟨by simp, fun k h => (not_Mk_rep h).elim, fun k h1 h2 => .base h1 h2, fun k h1 _ => .inl h1, fun j h => (not_Mk_rep h).elim, by omega⟩
theorem Dfs.stop {l : List Ob} {ids : List Int} {vis : List Bool} {todo : List Int} (h : Dfs l ids vis todo) (ht : todo.length = 0) : vis.length = l.length ∧ ∀ k, Mk vis k ↔ Led l ids k := by
  have : todo = [] := List.eq_nil_of_length_eq_zero ht
  subst this
  exact ⟨h.len, fun k => ⟨h.sound k, Led.of_closed (fun k h1 h2 => (h.base k h1 h2).resolve_left (by simp)) (fun j hj k h1 => (h.clos j hj k h1).resolve_left (by simp))⟩⟩

theorem reach_spec (l : List Ob) (hl : PoolOk l) (ids : List Int) (hi : ids.length ≤ 1000000) : Does Tryd.prog 21 [.c (.bp [.bs 6 Ob encOb l]), .c (.bs 1 Int encI ids)] [] (Rt (.c (.rw 0)) [.row 1 Int encI (reachP l ids)]) := by
  refine X_specM ⟨Tryd.prog, tab, 66, 0⟩ tabOk (by kernel_rfl) Tryd.call21 Tryd.func21 rfl rfl (by kernel_rfl) rfl ?_
  intro hb
  have hlen := hl.len
  refine XM.seq ?_
  repeat' ((conv => whnf); first | (refine dec (fun h => ?_) (fun h => ?_) <;> try contradiction) | (refine decN (fun h => ?_) (fun h => ?_) <;> try contradiction) | refine booN (fun h => ?_) (fun h => ?_) | refine boo (fun h => ?_) (fun h => ?_) | refine ⟨i64 (by omega) (by omega), ?_⟩ | refine ⟨_, _, rfl, List.getElem?_eq_getElem (by omega), ?_⟩ | refine ⟨_, ⟨rfl, by omega⟩, ?_⟩ | refine ⟨_, List.getElem?_eq_getElem (by omega), ?_⟩ | refine rtB ?_ | refine rtI ?_ | refine rtC ?_ rfl | fail)
  refine XM.seq ?_
  (conv => whnf)
  refine ⟨l.length, false, ⟨rfl, rfl⟩, rfl, by simp only []; omega, ?_⟩
  repeat' ((conv => whnf); first | (refine dec (fun h => ?_) (fun h => ?_) <;> try contradiction) | (refine decN (fun h => ?_) (fun h => ?_) <;> try contradiction) | refine booN (fun h => ?_) (fun h => ?_) | refine boo (fun h => ?_) (fun h => ?_) | refine ⟨i64 (by omega) (by omega), ?_⟩ | refine ⟨_, _, rfl, List.getElem?_eq_getElem (by omega), ?_⟩ | refine ⟨_, ⟨rfl, by omega⟩, ?_⟩ | refine ⟨_, List.getElem?_eq_getElem (by omega), ?_⟩ | refine rtB ?_ | refine rtI ?_ | refine rtC ?_ rfl | fail)
  refine XM.seq ?_
  (conv => whnf)
  refine cl [] [] (cloneInts_spec ids (by omega)) (by (repeat' first | exact trivial | exact rfl | refine And.intro ?_ ?_); first | done | fail) (by first | exact trivial | exact rfl) ?_
  repeat' ((conv => whnf); first | (refine dec (fun h => ?_) (fun h => ?_) <;> try contradiction) | (refine decN (fun h => ?_) (fun h => ?_) <;> try contradiction) | refine booN (fun h => ?_) (fun h => ?_) | refine boo (fun h => ?_) (fun h => ?_) | refine ⟨i64 (by omega) (by omega), ?_⟩ | refine ⟨_, _, rfl, List.getElem?_eq_getElem (by omega), ?_⟩ | refine ⟨_, ⟨rfl, by omega⟩, ?_⟩ | refine ⟨_, List.getElem?_eq_getElem (by omega), ?_⟩ | refine rtB ?_ | refine rtI ?_ | refine rtC ?_ rfl | fail)
  refine XM.join (ι := List Bool) (fun vis => ⟨[(5, .c (.rw 0))], [.row 1 Bool encBo vis]⟩) (fun vis => vis.length = l.length ∧ ∀ k, Mk vis k ↔ Led l ids k) ?_ (fun vis hv => ?_)
  · (conv => whnf)
    refine lp (List Bool × List Int) (fun | (vis, todo) => ⟨[(0, .c (.bp [.bs 6 Ob encOb l])), (5, .c (.rw 0)), (6, .c (.rw 1))], [.row 1 Bool encBo vis, .row 1 Int encI todo]⟩) (fun x => Dfs l ids x.1 x.2 ∧ True) (fun x => 65 * (l.length - x.1.count true) + x.2.length) (List.replicate l.length false, ids) [] [.same 0, .same 1] ?_ ?_ (fun x hx => ?_)
    · exact ⟨Dfs.start, trivial⟩
    · repeat' first | exact trivial | exact rfl | refine And.intro ?_ ?_
    obtain ⟨vis, todo⟩ := x
    obtain ⟨hx, _⟩ := hx
    dsimp only at hx
    have hvl := hx.len
    have hsz := hx.size
    have hct : vis.count true ≤ vis.length := List.count_le_length
    (conv => whnf)
    refine dec (fun h4 => ?_) (fun h4 => ?_)
    · have ht : 0 < todo.length := by omega
      have hcl : ((todo.drop 0).take (todo.length - 1 - 0)).length = todo.length - 1 := cutT_len
      (conv => whnf)
      refine ⟨i64 (by omega) (by omega), ?_⟩
      (conv => whnf)
      refine ⟨todo.length - 1, ⟨by omega, by omega⟩, ?_⟩
      (conv => whnf)
      refine ⟨todo[todo.length - 1], List.getElem?_eq_getElem (by omega), ?_⟩
      generalize hid : todo[todo.length - 1]'(by omega) = id
      (conv => whnf)
      refine ⟨i64 (by omega) (by omega), ?_⟩
      (conv => whnf)
      refine ⟨0, todo.length - 1, rfl, by omega, by omega, ?_⟩
      (conv => whnf)
      refine cl [] [] (kind_spec l id) (by (repeat' first | exact trivial | exact rfl | refine And.intro ?_ ?_); first | done | fail) (by first | exact trivial | exact rfl) ?_
      (conv => whnf)
      have hnl := nextP_len hl id
      have skip : kindOf l id = 0 ∨ Mk vis id → 65 * (l.length - vis.count true) + (cutT todo).length < 65 * (l.length - vis.count true) + todo.length ∧ Dfs l ids vis (cutT todo) := fun h => ⟨by rw [cutT_len]; omega, hx.skip hl ht hid.symm h⟩
      refine dec (fun h5 => ?_) (fun h5 => ?_)
      · obtain ⟨k1, k2⟩ := kindOf_pos (l := l) (id := id) (by omega)
        (conv => whnf)
        refine ⟨id.toNat, ⟨by omega, by omega⟩, ?_⟩
        (conv => whnf)
        refine ⟨vis[id.toNat], List.getElem?_eq_getElem (by omega), ?_⟩
        (conv => whnf)
        refine booN (fun h6 => ?_) (fun h6 => ?_)
        · have hm : vis[id.toNat]? = some false := by rw [List.getElem?_eq_getElem (by omega), h6]
          have hv := hx.visit hl ht hid.symm (by omega) hm
          have hc := count_set hm
          have hc2 : (vis.set id.toNat true).count true ≤ (vis.set id.toNat true).length := List.count_le_length
          rw [List.length_set] at hc2
          (conv => whnf)
          refine ⟨id.toNat, ⟨by omega, by omega⟩, ?_⟩
          (conv => whnf)
          refine ⟨_, true, List.getElem?_eq_getElem (by omega), ⟨by decide, rfl⟩, ?_⟩
          (conv => whnf)
          refine cl [] [] (next_spec l hl id) (by (repeat' first | exact trivial | exact rfl | refine And.intro ?_ ?_); first | done | fail) (by first | exact trivial | exact rfl) ?_
          (conv => whnf)
          refine ⟨_, _, rfl, rfl, (by simp only [List.length_append, List.length_cons, List.length_nil]; omega), ?_⟩
          (conv => whnf)
          refine ag (vis.set id.toNat true, cutT todo ++ nextP l id) [] [.same 0, .same 3] ⟨hv, trivial⟩ (by dsimp only; rw [List.length_append, cutT_len]; omega) ?_
          repeat' first | exact trivial | exact rfl | refine And.intro ?_ ?_
        · (conv => whnf)
          obtain ⟨s1, s2⟩ := skip (.inr ⟨id.toNat, by omega, by rw [List.getElem?_eq_getElem (by omega), h6]⟩)
          refine ag (vis, cutT todo) [] [.same 0, .cut 1 1 0 (todo.length - 1 - 0)] ⟨s2, trivial⟩ s1 ?_
          repeat' first | exact trivial | exact rfl | refine And.intro ?_ ?_
          omega
      · (conv => whnf)
        have : kindOf l id = 0 := by
          by_cases h0 : kindOf l id = 0
          · exact h0
          · have := (hl.get h0).k1; rw [getP_kind] at this; omega
        obtain ⟨s1, s2⟩ := skip (.inl this)
        refine ag (vis, cutT todo) [] [.same 0, .cut 1 1 0 (todo.length - 1 - 0)] ⟨s2, trivial⟩ s1 ?_
        repeat' first | exact trivial | exact rfl | refine And.intro ?_ ?_
        omega
    · (conv => whnf)
      refine ⟨vis, hx.stop (by omega), [], [.same 0], ?_⟩
      repeat' first | exact trivial | exact rfl | refine And.intro ?_ ?_
  obtain ⟨hvl, hv⟩ := hv
  rw [← outOf_reach hvl hv]
  refine XM.seq ?_
  repeat' ((conv => whnf); first | (refine dec (fun h => ?_) (fun h => ?_) <;> try contradiction) | (refine decN (fun h => ?_) (fun h => ?_) <;> try contradiction) | refine booN (fun h => ?_) (fun h => ?_) | refine boo (fun h => ?_) (fun h => ?_) | refine ⟨i64 (by omega) (by omega), ?_⟩ | refine ⟨_, _, rfl, List.getElem?_eq_getElem (by omega), ?_⟩ | refine ⟨_, ⟨rfl, by omega⟩, ?_⟩ | refine ⟨_, List.getElem?_eq_getElem (by omega), ?_⟩ | refine rtB ?_ | refine rtI ?_ | refine rtC ?_ rfl | fail)
  refine XM.seq ?_
  (conv => whnf)
  refine lp Nat (fun i => ⟨[(8, .c (.rw 1)), (52, .c (.rw 0)), (53, .c (.int .i64 vis.length)), (54, .c (.int .i64 i))], [.row 1 Bool encBo vis, .row 1 Int encI (outOf vis i)]⟩) (fun i => i ≤ vis.length ∧ True) (fun i => vis.length - i) 0 [] [.same 0, .new] ?_ ?_ (fun i hi => ?_)
  · simp
  · repeat' first | exact trivial | exact rfl | refine And.intro ?_ ?_
  (conv => whnf)
  refine dec (fun h4 => ?_) (fun h4 => ?_)
  · have hlt : i < vis.length := by omega
    have ho := outOf_succ hlt
    have hol := outOf_len (vis := vis) (i := i)
    repeat' ((conv => whnf); first | (refine dec (fun h => ?_) (fun h => ?_) <;> try contradiction) | (refine decN (fun h => ?_) (fun h => ?_) <;> try contradiction) | refine booN (fun h => ?_) (fun h => ?_) | refine boo (fun h => ?_) (fun h => ?_) | refine ⟨i64 (by omega) (by omega), ?_⟩ | refine ⟨_, _, rfl, List.getElem?_eq_getElem (by omega), ?_⟩ | refine ⟨_, ⟨rfl, by omega⟩, ?_⟩ | refine ⟨_, List.getElem?_eq_getElem (by omega), ?_⟩ | refine rtB ?_ | refine rtI ?_ | refine rtC ?_ rfl | fail)
    · rw [if_pos h] at ho
      (conv => whnf)
      refine ⟨[(i : Int)], rfl, ?_⟩
      (conv => whnf)
      refine ⟨_, _, rfl, rfl, (by simp only [List.length_append, List.length_cons, List.length_nil]; omega), ?_⟩
      repeat' ((conv => whnf); first | (refine dec (fun h => ?_) (fun h => ?_) <;> try contradiction) | (refine decN (fun h => ?_) (fun h => ?_) <;> try contradiction) | refine booN (fun h => ?_) (fun h => ?_) | refine boo (fun h => ?_) (fun h => ?_) | refine ⟨i64 (by omega) (by omega), ?_⟩ | refine ⟨_, _, rfl, List.getElem?_eq_getElem (by omega), ?_⟩ | refine ⟨_, ⟨rfl, by omega⟩, ?_⟩ | refine ⟨_, List.getElem?_eq_getElem (by omega), ?_⟩ | refine rtB ?_ | refine rtI ?_ | refine rtC ?_ rfl | fail)
      refine ag (i + 1) [] [.same 0, .same 3] ⟨hlt, trivial⟩ (by simp only []; omega) ?_
      repeat' first | exact trivial | exact rfl | refine And.intro ?_ ?_
      rw [ho]; exact rfl
    · rw [if_neg (by simp [h]), List.append_nil] at ho
      repeat' ((conv => whnf); first | (refine dec (fun h => ?_) (fun h => ?_) <;> try contradiction) | (refine decN (fun h => ?_) (fun h => ?_) <;> try contradiction) | refine booN (fun h => ?_) (fun h => ?_) | refine boo (fun h => ?_) (fun h => ?_) | refine ⟨i64 (by omega) (by omega), ?_⟩ | refine ⟨_, _, rfl, List.getElem?_eq_getElem (by omega), ?_⟩ | refine ⟨_, ⟨rfl, by omega⟩, ?_⟩ | refine ⟨_, List.getElem?_eq_getElem (by omega), ?_⟩ | refine rtB ?_ | refine rtI ?_ | refine rtC ?_ rfl | fail)
      refine ag (i + 1) [] [.same 0, .same 1] ⟨hlt, trivial⟩ (by simp only []; omega) ?_
      repeat' first | exact trivial | exact rfl | refine And.intro ?_ ?_
      rw [ho]; exact rfl
  · obtain rfl : i = vis.length := by omega
    rw [← hvl]
    (conv => whnf)
    refine XM.of ?_
    (conv => whnf)
    refine rt [] [.same 1] (by repeat' first | exact trivial | exact rfl | refine And.intro ?_ ?_) rfl ⟨rfl, rfl⟩
end Go.Nest
end
/- WALKS, 11: of pools, by the document: Reach. -/
section
namespace Go.Nest
open Go Go.AM Go.Proofs
open Go.Proofs.YtkoiljgjipmhbaaDoor (tab tabOk)
set_option linter.unusedVariables false
set_option linter.unusedSimpArgs false
set_option maxRecDepth 4000
/-- all above k is closed -/
structure Swp (l : List Ob) (ids : List Int) (vis : List Bool) (k : Int) : Prop where
  len : vis.length = l.length
  sound : ∀ j, Mk vis j → Led l ids j
  base : ∀ j ∈ ids, ¬ kindOf l j = 0 → Mk vis j
  clos : ∀ j, k < j → Mk vis j → ∀ m ∈ nextP l j, Mk vis m

theorem mk_set {l : List Ob} {vis : List Bool} (hv : vis.length = l.length) {id : Int} (h : ¬ kindOf l id = 0) {k : Int} : Mk (vis.set id.toNat true) k ↔ Mk vis k ∨ k = id := by
  obtain ⟨h0, hlt⟩ := kindOf_pos h
  rw [Mk.set (by rw [hv]; exact hlt), show ((id.toNat : Nat) : Int) = id by omega]

end Go.Nest
end
/- WALKS, 12: of the law: great objects, a pool begun, pools. -/
section
namespace Go.Nest
open Go Go.AM Go.Proofs
open Go.Proofs.YtkoiljgjipmhbaaDoor (tab tabOk)
set_option linter.unusedVariables false
set_option linter.unusedSimpArgs false
set_option maxRecDepth 4000
def greatOs (l : List Ob) : Bool := (l.take 100).any greatO || decide (80 < l.length)
theorem greatObjects_spec (l : List Ob) : Does Tryd.prog 14 [.c (.bs 6 Ob encOb l)] [] (Rt (.c (.bool (greatOs l))) []) := by
  refine X_spec ⟨Tryd.prog, tab, 22, 0⟩ tabOk (by kernel_rfl) Tryd.call14 Tryd.func14 rfl rfl (by kernel_rfl) rfl ?_
  intro hb; have hb : l.length ≤ 9223372036854775807 := hb.1.1
  (conv => whnf)
  refine lp Nat (fun i => ⟨[(0, .c (.bs 6 Ob encOb l)), (3, .c (.int .i64 i))], []⟩) (fun i => (i ≤ l.length ∧ i ≤ 100) ∧ (l.take i).any greatO = false) (fun i => l.length - i) 0 [] [] ?_ ?_ (fun i hi => ?_)
  · simp
  · repeat' first | exact trivial | exact rfl | refine And.intro ?_ ?_
  have fin : ¬ (i < l.length ∧ i < 100) → greatOs l = decide (80 < l.length) := fun h => by
    unfold greatOs
    have : l.take 100 = l.take i := by
      by_cases h1 : i = 100
      · rw [h1]
      · rw [List.take_of_length_le (by omega), List.take_of_length_le (by omega)]
    rw [this, hi.2]; rfl
  (conv => whnf)
  refine dec (fun h4 => ?_) (fun h4 => ?_)
  · (conv => whnf)
    refine dec (fun h5 => ?_) (fun h5 => ?_)
    · have hlt : i < l.length := by omega
      repeat' ((conv => whnf); first | (refine dec (fun h => ?_) (fun h => ?_) <;> try contradiction) | (refine decN (fun h => ?_) (fun h => ?_) <;> try contradiction) | refine booN (fun h => ?_) (fun h => ?_) | refine boo (fun h => ?_) (fun h => ?_) | refine ⟨i64 (by omega) (by omega), ?_⟩ | refine ⟨_, _, rfl, List.getElem?_eq_getElem (by omega), ?_⟩ | refine ⟨_, ⟨rfl, by omega⟩, ?_⟩ | refine ⟨_, List.getElem?_eq_getElem (by omega), ?_⟩ | refine rtB ?_ | refine rtI ?_ | refine rtC ?_ rfl | fail)
      (conv => whnf)
      refine cl [] [] (greatObject_spec l[i]) (by (repeat' first | exact trivial | exact rfl | refine And.intro ?_ ?_); first | done | fail) (by first | exact trivial | exact rfl) ?_
      repeat' ((conv => whnf); first | (refine dec (fun h => ?_) (fun h => ?_) <;> try contradiction) | (refine decN (fun h => ?_) (fun h => ?_) <;> try contradiction) | refine booN (fun h => ?_) (fun h => ?_) | refine boo (fun h => ?_) (fun h => ?_) | refine ⟨i64 (by omega) (by omega), ?_⟩ | refine ⟨_, _, rfl, List.getElem?_eq_getElem (by omega), ?_⟩ | refine ⟨_, ⟨rfl, by omega⟩, ?_⟩ | refine ⟨_, List.getElem?_eq_getElem (by omega), ?_⟩ | refine rtB ?_ | refine rtI ?_ | refine rtC ?_ rfl | fail)
      · unfold greatOs
        rw [any_at (l := l.take 100) (i := i) (by rw [List.length_take]; omega) (by rw [List.getElem_take]; exact h)]; rfl
      · refine ag (i + 1) [] [] ⟨⟨hlt, by omega⟩, any_take hlt hi.2 h⟩ (by simp only []; omega) ?_
        repeat' first | exact trivial | exact rfl | refine And.intro ?_ ?_
    · repeat' ((conv => whnf); first | (refine dec (fun h => ?_) (fun h => ?_) <;> try contradiction) | (refine decN (fun h => ?_) (fun h => ?_) <;> try contradiction) | refine booN (fun h => ?_) (fun h => ?_) | refine boo (fun h => ?_) (fun h => ?_) | refine ⟨i64 (by omega) (by omega), ?_⟩ | refine ⟨_, _, rfl, List.getElem?_eq_getElem (by omega), ?_⟩ | refine ⟨_, ⟨rfl, by omega⟩, ?_⟩ | refine ⟨_, List.getElem?_eq_getElem (by omega), ?_⟩ | refine rtB ?_ | refine rtI ?_ | refine rtC ?_ rfl | fail)
      rw [fin (by omega)]; rw [decide_eq_decide]; omega
  · repeat' ((conv => whnf); first | (refine dec (fun h => ?_) (fun h => ?_) <;> try contradiction) | (refine decN (fun h => ?_) (fun h => ?_) <;> try contradiction) | refine booN (fun h => ?_) (fun h => ?_) | refine boo (fun h => ?_) (fun h => ?_) | refine ⟨i64 (by omega) (by omega), ?_⟩ | refine ⟨_, _, rfl, List.getElem?_eq_getElem (by omega), ?_⟩ | refine ⟨_, ⟨rfl, by omega⟩, ?_⟩ | refine ⟨_, List.getElem?_eq_getElem (by omega), ?_⟩ | refine rtB ?_ | refine rtI ?_ | refine rtC ?_ rfl | fail)
    rw [fin (by omega)]; rw [decide_eq_decide]; omega

def o1 : Ob := ⟨1, [120], [], 0, [], []⟩
def o2 : Ob := ⟨2, [], [⟨[102], 1, 0, 0⟩], 0, [], []⟩
def o3 : Ob := ⟨3, [], [], 0, [], []⟩
theorem pb1 : putP [] o1 = (0, 0, [o1]) := by decide +kernel
theorem pb2 : putP [o1] o2 = (1, 0, [o1, o2]) := by decide +kernel
theorem pb3 : putP [o1, o2] o1 = (0, 0, [o1, o2]) := by decide +kernel
theorem pb4 : putP [o1, o2] o3 = (0, 14, [o1, o2]) := by decide +kernel
theorem pok : PoolOk [o1, o2] := by
  have h1 := putP_ok .nil o1
  rw [pb1] at h1
  have h2 := putP_ok h1 o2
  rwa [pb2] at h2
theorem preach : (reachP [o1, o2] [1]).length = 2 := by
  have h1 : Led [o1, o2] [1] 1 := .base (by simp) (by decide +kernel)
  have h0 : Led [o1, o2] [1] 0 := .step h1 (by decide +kernel)
  have : ∀ k : Nat, k < 2 → Led [o1, o2] [1] (k : Int) := fun k hk => by
    have : k = 0 ∨ k = 1 := by omega
    rcases this with rfl | rfl
    · exact h0
    · exact h1
  unfold reachP
  rw [List.length_map, List.filter_eq_self.2 (fun k hk => by rw [List.mem_range] at hk; exact (@decide_eq_true_iff _ (Classical.propDecidable _)).2 (this k hk))]
  rfl

/-- the pool that comes of putting these, one behind the other, from number i on -/
def putAll (l : List Ob) : List Ob → List Ob
  | [] => l
  | o :: r => putAll (putP l o).2.2 r
theorem putAll_snoc : ∀ {l r : List Ob} {o : Ob}, putAll l (r ++ [o]) = (putP (putAll l r) o).2.2
  | l, [], o => rfl
  | l, x :: r, o => putAll_snoc (l := (putP l x).2.2) (r := r)
theorem putAll_ok : ∀ {r l : List Ob}, PoolOk l → PoolOk (putAll l r)
  | [], l, h => h
  | o :: r, l, h => putAll_ok (r := r) (l := (putP l o).2.2) (putP_ok h o)
theorem putAll_take {l r : List Ob} {i : Nat} (h : i < r.length) : putAll l (r.take (i + 1)) = (putP (putAll l (r.take i)) r[i]).2.2 := by
  rw [List.take_succ_eq_append_getElem h, putAll_snoc]

theorem pools_spec (l : List Ob) : Does Tryd.prog 15 [.c (.bs 6 Ob encOb l)] [] (Rt (.tup [(false, [.ptr 0 0]), (false, [.ptr 2 0]), (false, [.bool true])]) [.box [.rw 1], .row 6 Ob encOb (putAll [] l), .box [.rw 3], .row 6 Ob encOb (putAll [] l)]) := by
  refine X_spec ⟨Tryd.prog, tab, 54, 0⟩ tabOk (by kernel_rfl) Tryd.call15 Tryd.func15 rfl rfl (by kernel_rfl) rfl ?_
  intro hb; have hb : l.length ≤ 9223372036854775807 := hb.1.1
  (conv => whnf)
  refine cl [] [] (new_spec) (by (repeat' first | exact trivial | exact rfl | refine And.intro ?_ ?_); first | done | fail) (by first | exact trivial | exact rfl) ?_
  (conv => whnf)
  refine lp Nat (fun i => ⟨[(0, .c (.bs 6 Ob encOb l)), (5, .c (.ptr 0 0)), (6, .c (.ptr 2 0)), (7, .c (.bool true)), (8, .c (.int .i64 i))], [.box [.rw 1], .row 6 Ob encOb (putAll [] (l.take i)), .box [.rw 3], .row 6 Ob encOb (putAll [] (l.take i))]⟩)
    (fun i => i ≤ l.length ∧ True) (fun i => l.length - i) 0 [] [.same 0, .same 1, .same 2, .new] ?_ ?_ (fun i hi => ?_)
  · simp
  · repeat' first | exact trivial | exact rfl | refine And.intro ?_ ?_
  (conv => whnf)
  refine dec (fun h4 => ?_) (fun h4 => ?_)
  · have hlt : i < l.length := by omega
    have hlen := (putAll_ok (r := l.take i) .nil).len
    have ht := putAll_take (l := []) hlt
    repeat' ((conv => whnf); first | (refine dec (fun h => ?_) (fun h => ?_) <;> try contradiction) | (refine decN (fun h => ?_) (fun h => ?_) <;> try contradiction) | refine booN (fun h => ?_) (fun h => ?_) | refine boo (fun h => ?_) (fun h => ?_) | refine ⟨i64 (by omega) (by omega), ?_⟩ | refine ⟨_, _, rfl, List.getElem?_eq_getElem (by omega), ?_⟩ | refine ⟨_, ⟨rfl, by omega⟩, ?_⟩ | refine ⟨_, List.getElem?_eq_getElem (by omega), ?_⟩ | refine rtB ?_ | refine rtI ?_ | refine rtC ?_ rfl | fail)
    (conv => whnf)
    refine cl [] [0, 1] (put_spec (putAll [] (l.take i)) l[i] hlen) (by (repeat' first | exact trivial | exact rfl | refine And.intro ?_ ?_); first | done | fail) (by first | exact trivial | exact rfl) ?_
    repeat' ((conv => whnf); first | (refine dec (fun h => ?_) (fun h => ?_) <;> try contradiction) | (refine decN (fun h => ?_) (fun h => ?_) <;> try contradiction) | refine booN (fun h => ?_) (fun h => ?_) | refine boo (fun h => ?_) (fun h => ?_) | refine ⟨i64 (by omega) (by omega), ?_⟩ | refine ⟨_, _, rfl, List.getElem?_eq_getElem (by omega), ?_⟩ | refine ⟨_, ⟨rfl, by omega⟩, ?_⟩ | refine ⟨_, List.getElem?_eq_getElem (by omega), ?_⟩ | refine rtB ?_ | refine rtI ?_ | refine rtC ?_ rfl | fail)
    (conv => whnf)
    refine cl [] [2, 3] (putR_spec (putAll [] (l.take i)) l[i] hlen) (by (repeat' first | exact trivial | exact rfl | refine And.intro ?_ ?_); first | done | fail) (by first | exact trivial | exact rfl) ?_
    (conv => whnf)
    refine dec (fun _ => ?_) (fun h => absurd rfl h)
    repeat' ((conv => whnf); first | (refine dec (fun h => ?_) (fun h => ?_) <;> try contradiction) | (refine decN (fun h => ?_) (fun h => ?_) <;> try contradiction) | refine booN (fun h => ?_) (fun h => ?_) | refine boo (fun h => ?_) (fun h => ?_) | refine ⟨i64 (by omega) (by omega), ?_⟩ | refine ⟨_, _, rfl, List.getElem?_eq_getElem (by omega), ?_⟩ | refine ⟨_, ⟨rfl, by omega⟩, ?_⟩ | refine ⟨_, List.getElem?_eq_getElem (by omega), ?_⟩ | refine rtB ?_ | refine rtI ?_ | refine rtC ?_ rfl | fail)
    refine ag (i + 1) [] [.same 0, .same 4, .same 2, .same 5] ⟨hlt, trivial⟩ (by simp only []; omega) ?_
    repeat' first | exact trivial | exact rfl | refine And.intro ?_ ?_
    · exact congrArg C.bool (decide_eq_true rfl)
    · rw [ht]; exact rfl
    · rw [ht]; exact rfl
  · rw [List.take_of_length_le (by omega)]
    (conv => whnf)
    refine rt [] [.same 0, .same 1, .same 2, .same 3] (by repeat' first | exact trivial | exact rfl | refine And.intro ?_ ?_) rfl ⟨rfl, rfl⟩
end Go.Nest
end
