/- part -/
import Derived.Test.YtpmjnbidmcnhnaaGreatDoorG9
import Derived.Test.YtpmjnbidmcnhnaaGreatDoorP3
set_option linter.unusedVariables false
set_option linter.unusedSimpArgs false
section

namespace Go.Nest
open Go Go.AM Go.Proofs
open Go.Proofs.YtpmjnbidmcnhnaaGreatDoor (tab tabOk)
set_option maxRecDepth 4000
structure Dfs (l : List Ob) (ids : List Int) (vis : List Bool) (todo : List Int) : Prop where
 len : vis.length = l.length
 sound : ∀ k, Mk vis k → Led l ids k
 td : ∀ k ∈ todo, ¬ kindOf l k = 0 → Led l ids k
 base : ∀ k ∈ ids, ¬ kindOf l k = 0 → k ∈ todo ∨ Mk vis k
 clos : ∀ j, Mk vis j → ∀ k ∈ nextP l j, k ∈ todo ∨ Mk vis k
 size : todo.length ≤ ids.length + 64 * vis.count true
def cutT (todo : List Int) : List Int := (todo.drop 0).take (todo.length - 1 - 0)
theorem todo_last {todo : List Int} (h : 0 < todo.length) : todo = cutT todo ++ [todo[todo.length - 1]'(by omega)] := by
 unfold cutT
 rw [List.drop_zero, Nat.sub_zero]
 have := List.take_succ_eq_append_getElem (l := todo) (i := todo.length - 1) (by omega)
 rw [← this, Nat.sub_add_cancel (by omega), List.take_length]
theorem cutT_len {todo : List Int} : (cutT todo).length = todo.length - 1 := by unfold cutT; simp
theorem Dfs.skip {l : List Ob} (hl : PoolOk l) {ids : List Int} {vis : List Bool} {todo : List Int} (h : Dfs l ids vis todo) (ht : 0 < todo.length) {id : Int} (hid : id = todo[todo.length - 1]'(by omega)) (hk : kindOf l id = 0 ∨ Mk vis id) :
  Dfs l ids vis (cutT todo) := by
 have e := todo_last ht
 rw [← hid] at e
 refine ⟨h.len, h.sound, fun k hk1 => h.td k (by rw [e]; exact List.mem_append_left _ hk1), fun k h1 h2 => ?_, fun j hj k h1 => ?_, ?_⟩
 ·rcases h.base k h1 h2 with h3 | h3
  ·rw [e, List.mem_append, List.mem_singleton] at h3
   rcases h3 with h3 | h3
   ·exact .inl h3
   ·subst h3; exact .inr (hk.resolve_left h2)
  ·exact .inr h3
 ·rcases h.clos j hj k h1 with h3 | h3
  ·rw [e, List.mem_append, List.mem_singleton] at h3
   rcases h3 with h3 | h3
   ·exact .inl h3
   ·subst h3; exact .inr (hk.resolve_left (next_lt hl h1).1)
  ·exact .inr h3
 ·have := h.size; rw [cutT_len]; omega
theorem Dfs.visit {l : List Ob} (hl : PoolOk l) {ids : List Int} {vis : List Bool} {todo : List Int} (h : Dfs l ids vis todo) (ht : 0 < todo.length) {id : Int} (hid : id = todo[todo.length - 1]'(by omega)) (hk : ¬ kindOf l id = 0) (hm : vis[id.toNat]? = some false) :
  Dfs l ids (vis.set id.toNat true) (cutT todo ++ nextP l id) := by
 obtain ⟨h0, hlt⟩ := kindOf_pos hk
 have e := todo_last ht
 rw [← hid] at e
 have hled : Led l ids id := h.td id (by rw [e]; simp) hk
 have hset : ∀ k, Mk (vis.set id.toNat true) k ↔ Mk vis k ∨ k = id := fun k => by
  rw [Mk.set (by rw [h.len]; exact hlt)]
  rw [show ((id.toNat : Nat) : Int) = id by omega]
 refine ⟨by rw [List.length_set, h.len], fun k hk1 => ?_, fun k hk1 h2 => ?_, fun k h1 h2 => ?_, fun j hj k h1 => ?_, ?_⟩
 ·rcases (hset k).1 hk1 with h3 | rfl
  ·exact h.sound k h3
  ·exact hled
 ·rcases List.mem_append.1 hk1 with h3 | h3
  ·exact h.td k (by rw [e]; exact List.mem_append_left _ h3) h2
  ·exact .step hled h3
 ·rw [hset, List.mem_append]
  rcases h.base k h1 h2 with h3 | h3
  ·rw [e, List.mem_append, List.mem_singleton] at h3
   rcases h3 with h3 | h3
   ·exact .inl (.inl h3)
   ·exact .inr (.inr h3)
  ·exact .inr (.inl h3)
 ·rw [hset, List.mem_append]
  rcases (hset j).1 hj with h3 | rfl
  ·rcases h.clos j h3 k h1 with h3 | h3
   ·rw [e, List.mem_append, List.mem_singleton] at h3
    rcases h3 with h3 | h3
    ·exact .inl (.inl h3)
    ·exact .inr (.inr h3)
   ·exact .inr (.inl h3)
  ·exact .inl (.inr h1)
 ·have := h.size
  have h2 := nextP_len hl id
  rw [List.length_append, cutT_len, count_set hm]; omega
theorem Dfs.start {l : List Ob} {ids : List Int} : Dfs l ids (List.replicate l.length false) ids :=
 ⟨by simp, fun k h => (not_Mk_rep h).elim, fun k h1 h2 => .base h1 h2, fun k h1 _ => .inl h1, fun j h => (not_Mk_rep h).elim, by omega⟩
theorem Dfs.stop {l : List Ob} {ids : List Int} {vis : List Bool} {todo : List Int} (h : Dfs l ids vis todo) (ht : todo.length = 0) : vis.length = l.length ∧ ∀ k, Mk vis k ↔ Led l ids k := by
 have : todo = [] := List.eq_nil_of_length_eq_zero ht
 subst this
 exact ⟨h.len, fun k => ⟨h.sound k, Led.of_closed (fun k h1 h2 => (h.base k h1 h2).resolve_left (by simp)) (fun j hj k h1 => (h.clos j hj k h1).resolve_left (by simp))⟩⟩
theorem reach_spec (l : List Ob) (hl : PoolOk l) (ids : List Int) (hi : ids.length ≤ 1000000) : Does Tryz.prog 72 [.c (.bp [.bs 6 Ob encOb l]), .c (.bs 1 Int encI ids)] [] (Rt (.c (.rw 0)) [.row 1 Int encI (reachP l ids)]) := by
 refine X_spM (n := 66) (n0 := 0) tabOk Tryz.call72 Tryz.func72 ?_
 intro hb
 have hlen := hl.len
 refine XM.seq ?_
 repeat' ((conv => whnf); refine I6 ?_)
 refine XM.seq ?_
 (conv => whnf)
 refine ⟨l.length, false, ⟨rfl, rfl⟩, rfl, by simp only []; omega, ?_⟩
 repeat' ((conv => whnf); refine I6 ?_)
 refine XM.seq ?_
 (conv => whnf)
 refine cl [] [] (cloneInts_spec ids (by omega)) ?_
 repeat' ((conv => whnf); refine I6 ?_)
 refine XM.join (ι := List Bool) (fun vis => ⟨[(5, .c (.rw 0))], [.row 1 Bool encBo vis]⟩) (fun vis => vis.length = l.length ∧ ∀ k, Mk vis k ↔ Led l ids k) ?_ (fun vis hv => ?_)
 ·(conv => whnf)
  refine lp (List Bool × List Int) (fun | (vis, todo) => ⟨[(0, .c (.bp [.bs 6 Ob encOb l])), (5, .c (.rw 0)), (6, .c (.rw 1))], [.row 1 Bool encBo vis, .row 1 Int encI todo]⟩) (fun x => Dfs l ids x.1 x.2 ∧ True) (fun x => 65 * (l.length - x.1.count true) + x.2.length) (List.replicate l.length false, ids) [] [.same 0, .same 1] ?_ ?_ (fun x hx => ?_)
  ·exact ⟨Dfs.start, trivial⟩
  ·repeat' first | exact trivial | exact rfl | refine And.intro ?_ ?_
  obtain ⟨vis, todo⟩ := x
  obtain ⟨hx, _⟩ := hx
  dsimp only at hx
  have hvl := hx.len
  have hsz := hx.size
  have hct : vis.count true ≤ vis.length := List.count_le_length
  (conv => whnf)
  refine dec (fun h4 => ?_) (fun h4 => ?_)
  ·have ht : 0 < todo.length := by omega
   have hcl : ((todo.drop 0).take (todo.length - 1 - 0)).length = todo.length - 1 := cutT_len
   (conv => whnf)
   refine ⟨i64 (by omega) (by omega), ?_⟩
   (conv => whnf)
   refine ⟨todo.length - 1, ⟨by omega, by omega⟩, ?_⟩
   (conv => whnf)
   refine ⟨todo[todo.length - 1], List.getElem?_eq_getElem (by omega), ?_⟩
   generalize hid : todo[todo.length - 1]'(by omega) = id
   (conv => whnf)
   refine ⟨i64 (by omega) (by omega), ?_⟩
   (conv => whnf)
   refine ⟨0, todo.length - 1, rfl, by omega, by omega, ?_⟩
   (conv => whnf)
   refine cl [] [] (kind_spec l id) ?_
   (conv => whnf)
   have hnl := nextP_len hl id
   have skip : kindOf l id = 0 ∨ Mk vis id → 65 * (l.length - vis.count true) + (cutT todo).length < 65 * (l.length - vis.count true) + todo.length ∧ Dfs l ids vis (cutT todo) := fun h => ⟨by rw [cutT_len]; omega, hx.skip hl ht hid.symm h⟩
   refine dec (fun h5 => ?_) (fun h5 => ?_)
   ·obtain ⟨k1, k2⟩ := kindOf_pos (l := l) (id := id) (by omega)
    (conv => whnf)
    refine ⟨id.toNat, ⟨by omega, by omega⟩, ?_⟩
    (conv => whnf)
    refine ⟨vis[id.toNat], List.getElem?_eq_getElem (by omega), ?_⟩
    (conv => whnf)
    refine booN (fun h6 => ?_) (fun h6 => ?_)
    ·have hm : vis[id.toNat]? = some false := by rw [List.getElem?_eq_getElem (by omega), h6]
     have hv := hx.visit hl ht hid.symm (by omega) hm
     have hc := count_set hm
     have hc2 : (vis.set id.toNat true).count true ≤ (vis.set id.toNat true).length := List.count_le_length
     rw [List.length_set] at hc2
     (conv => whnf)
     refine ⟨id.toNat, ⟨by omega, by omega⟩, ?_⟩
     (conv => whnf)
     refine ⟨_, true, List.getElem?_eq_getElem (by omega), ⟨by decide, rfl⟩, ?_⟩
     (conv => whnf)
     refine cl [] [] (next_spec l hl id) ?_
     (conv => whnf)
     refine ⟨_, _, rfl, rfl, (by simp only [List.length_append, List.length_cons, List.length_nil]; omega), ?_⟩
     (conv => whnf)
     refine ag (vis.set id.toNat true, cutT todo ++ nextP l id) [] [.same 0, .same 3] ⟨hv, trivial⟩ (by dsimp only; rw [List.length_append, cutT_len]; omega) ?_
     repeat' first | exact trivial | exact rfl | refine And.intro ?_ ?_
    ·(conv => whnf)
     obtain ⟨s1, s2⟩ := skip (.inr ⟨id.toNat, by omega, by rw [List.getElem?_eq_getElem (by omega), h6]⟩)
     refine ag (vis, cutT todo) [] [.same 0, .cut 1 1 0 (todo.length - 1 - 0)] ⟨s2, trivial⟩ s1 ?_
     repeat' first | exact trivial | exact rfl | refine And.intro ?_ ?_
     omega
   ·(conv => whnf)
    have : kindOf l id = 0 := by
     by_cases h0 : kindOf l id = 0
     ·exact h0
     ·have := (hl.get h0).k1; rw [getP_kind] at this; omega
    obtain ⟨s1, s2⟩ := skip (.inl this)
    refine ag (vis, cutT todo) [] [.same 0, .cut 1 1 0 (todo.length - 1 - 0)] ⟨s2, trivial⟩ s1 ?_
    repeat' first | exact trivial | exact rfl | refine And.intro ?_ ?_
    omega
  ·(conv => whnf)
   refine ⟨vis, hx.stop (by omega), [], [.same 0], ?_⟩
   repeat' first | exact trivial | exact rfl | refine And.intro ?_ ?_
 obtain ⟨hvl, hv⟩ := hv
 rw [← outOf_reach hvl hv]
 refine XM.seq ?_
 repeat' ((conv => whnf); refine I6 ?_)
 refine XM.seq ?_
 (conv => whnf)
 refine lp Nat (fun i => ⟨[(8, .c (.rw 1)), (52, .c (.rw 0)), (53, .c (.int .i64 vis.length)), (54, .c (.int .i64 i))], [.row 1 Bool encBo vis, .row 1 Int encI (outOf vis i)]⟩) (fun i => i ≤ vis.length ∧ True) (fun i => vis.length - i) 0 [] [.same 0, .new] ?_ ?_ (fun i hi => ?_)
 ·simp
 ·repeat' first | exact trivial | exact rfl | refine And.intro ?_ ?_
 (conv => whnf)
 refine dec (fun h4 => ?_) (fun h4 => ?_)
 ·have hlt : i < vis.length := by omega
  have ho := outOf_succ hlt
  have hol := outOf_len (vis := vis) (i := i)
  repeat' ((conv => whnf); first | (refine dec (fun h => ?_) (fun h => ?_) <;> try contradiction) | (refine decN (fun h => ?_) (fun h => ?_) <;> try contradiction) | refine booN (fun h => ?_) (fun h => ?_) | refine boo (fun h => ?_) (fun h => ?_) | refine ⟨i64 (by omega) (by omega), ?_⟩ | refine ⟨_, _, rfl, List.getElem?_eq_getElem (by omega), ?_⟩ | refine ⟨_, ⟨rfl, by omega⟩, ?_⟩ | refine ⟨_, List.getElem?_eq_getElem (by omega), ?_⟩ | refine rtB ?_ | refine rtI ?_ | refine rtC ?_ rfl | fail)
  ·rw [if_pos h] at ho
   (conv => whnf)
   refine ⟨[(i : Int)], rfl, ?_⟩
   (conv => whnf)
   refine ⟨_, _, rfl, rfl, (by simp only [List.length_append, List.length_cons, List.length_nil]; omega), ?_⟩
   repeat' ((conv => whnf); first | (refine dec (fun h => ?_) (fun h => ?_) <;> try contradiction) | (refine decN (fun h => ?_) (fun h => ?_) <;> try contradiction) | refine booN (fun h => ?_) (fun h => ?_) | refine boo (fun h => ?_) (fun h => ?_) | refine ⟨i64 (by omega) (by omega), ?_⟩ | refine ⟨_, _, rfl, List.getElem?_eq_getElem (by omega), ?_⟩ | refine ⟨_, ⟨rfl, by omega⟩, ?_⟩ | refine ⟨_, List.getElem?_eq_getElem (by omega), ?_⟩ | refine rtB ?_ | refine rtI ?_ | refine rtC ?_ rfl | fail)
   refine ag (i + 1) [] [.same 0, .same 3] ⟨hlt, trivial⟩ (by simp only []; omega) ?_
   repeat' first | exact trivial | exact rfl | refine And.intro ?_ ?_
   rw [ho]; exact rfl
  ·rw [if_neg (by simp [h]), List.append_nil] at ho
   repeat' ((conv => whnf); refine I6 ?_)
   refine ag (i + 1) [] [.same 0, .same 1] ⟨hlt, trivial⟩ (by simp only []; omega) ?_
   repeat' first | exact trivial | exact rfl | refine And.intro ?_ ?_
   rw [ho]; exact rfl
 ·obtain rfl : i = vis.length := by omega
  rw [← hvl]
  (conv => whnf)
  refine XM.of ?_
  (conv => whnf)
  exact rx [] [.same 1]
end Go.Nest
end
/- part -/
section

namespace Go.Nest
open Go Go.AM Go.Proofs
open Go.Proofs.YtpmjnbidmcnhnaaGreatDoor (tab tabOk)
set_option maxRecDepth 4000
structure Swp (l : List Ob) (ids : List Int) (vis : List Bool) (k : Int) : Prop where
 len : vis.length = l.length
 sound : ∀ j, Mk vis j → Led l ids j
 base : ∀ j ∈ ids, ¬ kindOf l j = 0 → Mk vis j
 clos : ∀ j, k < j → Mk vis j → ∀ m ∈ nextP l j, Mk vis m
theorem mk_set {l : List Ob} {vis : List Bool} (hv : vis.length = l.length) {id : Int} (h : ¬ kindOf l id = 0) {k : Int} : Mk (vis.set id.toNat true) k ↔ Mk vis k ∨ k = id := by
 obtain ⟨h0, hlt⟩ := kindOf_pos h
 rw [Mk.set (by rw [hv]; exact hlt), show ((id.toNat : Nat) : Int) = id by omega]
set_option maxHeartbeats 1000000 in
theorem reachR_spec (l : List Ob) (hl : PoolOk l) (ids : List Int) (hi : ids.length ≤ 1000000) : Does Tryz.prog 100 [.c (.bp [.bs 6 Ob encOb l]), .c (.bs 1 Int encI ids)] [] (Rt (.c (.rw 0)) [.row 1 Int encI (reachP l ids)]) := by
 refine X_spM (n := 81) (n0 := 0) tabOk Tryz.call100 Tryz.func100 ?_
 intro hb
 have hlen := hl.len
 refine XM.seq ?_
 repeat' ((conv => whnf); refine I6 ?_)
 refine XM.seq ?_
 (conv => whnf)
 refine ⟨l.length, false, ⟨rfl, rfl⟩, rfl, by simp only []; omega, ?_⟩
 repeat' ((conv => whnf); refine I6 ?_)
 refine XM.join (ι := List Bool) (fun vis => ⟨[(0, .c (.bp [.bs 6 Ob encOb l])), (5, .c (.rw 0))], [.row 1 Bool encBo vis]⟩) (fun vis => Swp l ids vis (l.length - 1)) ?_ (fun vis hv => ?_)
 ·(conv => whnf)
  refine lp (Nat × List Bool) (fun | (i, vis) => ⟨[(0, .c (.bp [.bs 6 Ob encOb l])), (1, .c (.bs 1 Int encI ids)), (5, .c (.rw 0)), (6, .c (.int .i64 i))], [.row 1 Bool encBo vis]⟩)
   (fun x => (x.1 ≤ ids.length ∧ x.2.length = l.length) ∧ (∀ j, Mk x.2 j → Led l ids j) ∧ ∀ j ∈ ids.take x.1, ¬ kindOf l j = 0 → Mk x.2 j) (fun x => ids.length - x.1) (0, List.replicate l.length false) [] [.same 0] ?_ ?_ (fun x hx => ?_)
  ·exact ⟨⟨Nat.zero_le _, by simp⟩, fun j h => (not_Mk_rep h).elim, fun j h => by cases h⟩
  ·repeat' first | exact trivial | exact rfl | refine And.intro ?_ ?_
  obtain ⟨i, vis⟩ := x
  obtain ⟨⟨h1, hvl⟩, hs, hbs⟩ := hx
  dsimp only at h1 hvl hs hbs
  (conv => whnf)
  refine dec (fun h4 => ?_) (fun h4 => ?_)
  ·have hlt : i < ids.length := by omega
   have htk := List.take_succ_eq_append_getElem hlt
   repeat' ((conv => whnf); first | (refine dec (fun h => ?_) (fun h => ?_) <;> try contradiction) | (refine decN (fun h => ?_) (fun h => ?_) <;> try contradiction) | refine booN (fun h => ?_) (fun h => ?_) | refine boo (fun h => ?_) (fun h => ?_) | refine ⟨i64 (by omega) (by omega), ?_⟩ | refine ⟨_, _, rfl, List.getElem?_eq_getElem (by omega), ?_⟩ | refine ⟨_, ⟨rfl, by omega⟩, ?_⟩ | refine ⟨_, List.getElem?_eq_getElem (by omega), ?_⟩ | refine rtB ?_ | refine rtI ?_ | refine rtC ?_ rfl | fail)
   (conv => whnf)
   refine cl [] [] (kindR_spec l ids[i]) ?_
   repeat' ((conv => whnf); first | (refine dec (fun h => ?_) (fun h => ?_) <;> try contradiction) | (refine decN (fun h => ?_) (fun h => ?_) <;> try contradiction) | refine booN (fun h => ?_) (fun h => ?_) | refine boo (fun h => ?_) (fun h => ?_) | refine ⟨i64 (by omega) (by omega), ?_⟩ | refine ⟨_, _, rfl, List.getElem?_eq_getElem (by omega), ?_⟩ | refine ⟨_, ⟨rfl, by omega⟩, ?_⟩ | refine ⟨_, List.getElem?_eq_getElem (by omega), ?_⟩ | refine rtB ?_ | refine rtI ?_ | refine rtC ?_ rfl | fail)
   ·obtain ⟨k1, k2⟩ := kindOf_pos (l := l) (id := ids[i]) (by omega)
    (conv => whnf)
    refine ⟨ids[i].toNat, ⟨by omega, by omega⟩, ?_⟩
    (conv => whnf)
    refine ⟨_, true, List.getElem?_eq_getElem (by omega), ⟨by decide, rfl⟩, ?_⟩
    repeat' ((conv => whnf); first | (refine dec (fun h => ?_) (fun h => ?_) <;> try contradiction) | (refine decN (fun h => ?_) (fun h => ?_) <;> try contradiction) | refine booN (fun h => ?_) (fun h => ?_) | refine boo (fun h => ?_) (fun h => ?_) | refine ⟨i64 (by omega) (by omega), ?_⟩ | refine ⟨_, _, rfl, List.getElem?_eq_getElem (by omega), ?_⟩ | refine ⟨_, ⟨rfl, by omega⟩, ?_⟩ | refine ⟨_, List.getElem?_eq_getElem (by omega), ?_⟩ | refine rtB ?_ | refine rtI ?_ | refine rtC ?_ rfl | fail)
    refine ag (i + 1, vis.set ids[i].toNat true) [] [.same 0] ⟨⟨hlt, by rw [List.length_set]; exact hvl⟩, fun j hj => ?_, fun j hj hk => ?_⟩ (by simp only []; omega) ?_
    ·rcases (mk_set hvl (by omega)).1 hj with h3 | rfl
     ·exact hs j h3
     ·exact .base (List.getElem_mem hlt) (by omega)
    ·rw [mk_set hvl (by omega)]
     dsimp only at hj
     rw [htk, List.mem_append, List.mem_singleton] at hj
     exact hj.imp (fun h => hbs j h hk) id
    ·repeat' first | exact trivial | exact rfl | refine And.intro ?_ ?_
   ·refine ag (i + 1, vis) [] [.same 0] ⟨⟨hlt, hvl⟩, hs, fun j hj hk => ?_⟩ (by simp only []; omega) ?_
    ·dsimp only at hj
     rw [htk, List.mem_append, List.mem_singleton] at hj
     rcases hj with hj | rfl
     ·exact hbs j hj hk
     ·exfalso
      have := (hl.get hk).k1; rw [getP_kind] at this; omega
    ·repeat' first | exact trivial | exact rfl | refine And.intro ?_ ?_
  ·rw [List.take_of_length_le (by omega)] at hbs
   (conv => whnf)
   refine ⟨vis, ⟨hvl, hs, hbs, fun j hj hm => ?_⟩, [], [.same 0], ?_⟩
   ·exfalso
    obtain ⟨h2, h3⟩ := kindOf_pos ((hs j hm).kind hl)
    omega
   repeat' first | exact trivial | exact rfl | refine And.intro ?_ ?_
 refine XM.join (ι := List Bool) (fun vis => ⟨[(5, .c (.rw 0))], [.row 1 Bool encBo vis]⟩) (fun vis => vis.length = l.length ∧ ∀ k, Mk vis k ↔ Led l ids k) ?_ (fun vis hv => ?_)
 ·(conv => whnf)
  refine ⟨i64 (by omega) (by omega), ?_⟩
  (conv => whnf)
  refine lp (Nat × List Bool) (fun | (i, vis) => ⟨[(0, .c (.bp [.bs 6 Ob encOb l])), (5, .c (.rw 0)), (7, .c (.int .i64 ((i : Int) - 1)))], [.row 1 Bool encBo vis]⟩)
   (fun x => x.1 ≤ l.length ∧ Swp l ids x.2 ((x.1 : Int) - 1)) (fun x => x.1) (l.length, vis) [] [.same 0] ?_ ?_ (fun x hx => ?_)
  ·exact ⟨Nat.le_refl _, hv⟩
  ·repeat' first | exact trivial | exact rfl | refine And.intro ?_ ?_
  obtain ⟨i, vis⟩ := x
  obtain ⟨h1, hx⟩ := hx
  dsimp only at h1 hx
  have hvl := hx.len
  (conv => whnf)
  refine dec (fun h4 => ?_) (fun h4 => ?_)
  ·have hlt : i - 1 < vis.length := by omega
   have hag : ∀ {vis' : List Bool}, Swp l ids vis' (i - 1 - 1) → Swp l ids vis' (((i - 1 : Nat) : Int) - 1) := fun h => by
    rw [show ((i - 1 : Nat) : Int) = i - 1 by omega]; exact h
   (conv => whnf)
   refine ⟨i - 1, ⟨by omega, by omega⟩, ?_⟩
   (conv => whnf)
   refine ⟨vis[i - 1], List.getElem?_eq_getElem (by omega), ?_⟩
   (conv => whnf)
   refine boo (fun h6 => ?_) (fun h6 => ?_)
   ·have hmi : Mk vis ((i : Int) - 1) := ⟨i - 1, by omega, by rw [List.getElem?_eq_getElem (by omega), h6]⟩
    have hli := hx.sound _ hmi
    have hnl := nextP_len hl ((i : Int) - 1)
    (conv => whnf)
    refine cl [] [] (nextR_spec l hl ((i : Int) - 1)) ?_
    (conv => whnf)
    refine lp (Nat × List Bool) (fun | (j, vis) => ⟨[(0, .c (.bp [.bs 6 Ob encOb l])), (5, .c (.rw 0)), (7, .c (.int .i64 ((i : Int) - 1))), (8, .c (.rw 1)), (9, .c (.int .i64 j))], [.row 1 Bool encBo vis, .row 1 Int encI (nextP l ((i : Int) - 1))]⟩)
     (fun x => x.1 ≤ (nextP l ((i : Int) - 1)).length ∧ Swp l ids x.2 ((i : Int) - 1) ∧ ∀ m ∈ (nextP l ((i : Int) - 1)).take x.1, Mk x.2 m) (fun x => (nextP l ((i : Int) - 1)).length - x.1) (0, vis) [] [.same 0, .same 1] ?_ ?_ (fun x hy => ?_)
    ·exact ⟨Nat.zero_le _, hx, fun m h => by cases h⟩
    ·repeat' first | exact trivial | exact rfl | refine And.intro ?_ ?_
    obtain ⟨j, vis⟩ := x
    obtain ⟨g1, gx, gm⟩ := hy
    dsimp only at g1 gx gm
    have hvl := gx.len
    (conv => whnf)
    refine dec (fun h7 => ?_) (fun h7 => ?_)
    ·have hjt : j < (nextP l ((i : Int) - 1)).length := by omega
     have hmem := List.getElem_mem hjt
     have hnv := next_lt hl hmem
     obtain ⟨k1, k2⟩ := kindOf_pos hnv.1
     have hset := fun k => mk_set hvl hnv.1 (k := k)
     have htk := List.take_succ_eq_append_getElem hjt
     (conv => whnf)
     refine ⟨j, ⟨rfl, hjt⟩, ?_⟩
     (conv => whnf)
     refine ⟨_, List.getElem?_eq_getElem hjt, ?_⟩
     (conv => whnf)
     refine ⟨(nextP l ((i : Int) - 1))[j].toNat, ⟨by omega, by omega⟩, ?_⟩
     (conv => whnf)
     refine ⟨_, true, List.getElem?_eq_getElem (by omega), ⟨by decide, rfl⟩, ?_⟩
     repeat' ((conv => whnf); refine I6 ?_)
     refine ag (j + 1, vis.set (nextP l ((i : Int) - 1))[j].toNat true) [] [.same 0, .same 1] ⟨hjt, ⟨by rw [List.length_set]; exact hvl, fun k hk => ?_, fun k hk h2 => (hset k).2 (.inl (gx.base k hk h2)), fun k hk hm m hn => ?_⟩, fun m hm => ?_⟩ (by simp only []; omega) ?_
     ·rcases (hset k).1 hk with h3 | rfl
      ·exact gx.sound k h3
      ·exact .step hli hmem
     ·refine (hset m).2 (.inl (gx.clos k hk ?_ m hn))
      refine ((hset k).1 hm).resolve_right (fun e => ?_)
      have := hnv.2
      omega
     ·dsimp only at hm
      rw [htk, List.mem_append, List.mem_singleton] at hm
      exact (hset m).2 (hm.imp (gm m) id)
     ·repeat' first | exact trivial | exact rfl | refine And.intro ?_ ?_
    ·rw [List.take_of_length_le (by omega)] at gm
     repeat' ((conv => whnf); refine I6 ?_)
     refine ag (i - 1, vis) [] [.same 0] ⟨by omega, hag ⟨hvl, gx.sound, gx.base, fun k hk hm m hn => ?_⟩⟩ (by simp only []; omega) ?_
     ·by_cases e : k = (i : Int) - 1
      ·subst e; exact gm m hn
      ·exact gx.clos k (by omega) hm m hn
     ·repeat' first | exact trivial | exact rfl | refine And.intro ?_ ?_
      all_goals (show C.int IntKind.i64 _ = C.int IntKind.i64 _; congr 1; omega)
   ·repeat' ((conv => whnf); refine I6 ?_)
    refine ag (i - 1, vis) [] [.same 0] ⟨by omega, hag ⟨hvl, hx.sound, hx.base, fun k hk hm m hn => ?_⟩⟩ (by simp only []; omega) ?_
    ·by_cases e : k = (i : Int) - 1
     ·subst e
      exfalso
      obtain ⟨n, e1, e2⟩ := hm
      obtain rfl : n = i - 1 := by omega
      rw [List.getElem?_eq_getElem (by omega), h6] at e2
      cases e2
     ·exact hx.clos k (by omega) hm m hn
    ·repeat' first | exact trivial | exact rfl | refine And.intro ?_ ?_
     all_goals (show C.int IntKind.i64 _ = C.int IntKind.i64 _; congr 1; omega)
  ·(conv => whnf)
   refine ⟨vis, ⟨hvl, fun k => ⟨hx.sound k, Led.of_closed hx.base (fun j hj => hx.clos j ?_ hj)⟩⟩, [], [.same 0], ?_⟩
   ·obtain ⟨n, e, _⟩ := hj; omega
   repeat' first | exact trivial | exact rfl | refine And.intro ?_ ?_
 obtain ⟨hvl, hv⟩ := hv
 rw [← outOf_reach hvl hv]
 refine XM.seq ?_
 repeat' ((conv => whnf); refine I6 ?_)
 refine XM.seq ?_
 (conv => whnf)
 refine lp Nat (fun i => ⟨[(5, .c (.rw 0)), (10, .c (.rw 1)), (11, .c (.int .i64 i))], [.row 1 Bool encBo vis, .row 1 Int encI (outOf vis i)]⟩) (fun i => i ≤ vis.length ∧ True) (fun i => vis.length - i) 0 [] [.same 0, .new] ?_ ?_ (fun i hi => ?_)
 ·simp
 ·repeat' first | exact trivial | exact rfl | refine And.intro ?_ ?_
 (conv => whnf)
 refine dec (fun h4 => ?_) (fun h4 => ?_)
 ·have hlt : i < vis.length := by omega
  have ho := outOf_succ hlt
  have hol := outOf_len (vis := vis) (i := i)
  repeat' ((conv => whnf); first | (refine dec (fun h => ?_) (fun h => ?_) <;> try contradiction) | (refine decN (fun h => ?_) (fun h => ?_) <;> try contradiction) | refine booN (fun h => ?_) (fun h => ?_) | refine boo (fun h => ?_) (fun h => ?_) | refine ⟨i64 (by omega) (by omega), ?_⟩ | refine ⟨_, _, rfl, List.getElem?_eq_getElem (by omega), ?_⟩ | refine ⟨_, ⟨rfl, by omega⟩, ?_⟩ | refine ⟨_, List.getElem?_eq_getElem (by omega), ?_⟩ | refine rtB ?_ | refine rtI ?_ | refine rtC ?_ rfl | fail)
  ·rw [if_pos h] at ho
   (conv => whnf)
   refine ⟨[(i : Int)], rfl, ?_⟩
   (conv => whnf)
   refine ⟨_, _, rfl, rfl, (by simp only [List.length_append, List.length_cons, List.length_nil]; omega), ?_⟩
   repeat' ((conv => whnf); first | (refine dec (fun h => ?_) (fun h => ?_) <;> try contradiction) | (refine decN (fun h => ?_) (fun h => ?_) <;> try contradiction) | refine booN (fun h => ?_) (fun h => ?_) | refine boo (fun h => ?_) (fun h => ?_) | refine ⟨i64 (by omega) (by omega), ?_⟩ | refine ⟨_, _, rfl, List.getElem?_eq_getElem (by omega), ?_⟩ | refine ⟨_, ⟨rfl, by omega⟩, ?_⟩ | refine ⟨_, List.getElem?_eq_getElem (by omega), ?_⟩ | refine rtB ?_ | refine rtI ?_ | refine rtC ?_ rfl | fail)
   refine ag (i + 1) [] [.same 0, .same 3] ⟨hlt, trivial⟩ (by simp only []; omega) ?_
   repeat' first | exact trivial | exact rfl | refine And.intro ?_ ?_
   rw [ho]; exact rfl
  ·rw [if_neg (by simp [h]), List.append_nil] at ho
   repeat' ((conv => whnf); refine I6 ?_)
   refine ag (i + 1) [] [.same 0, .same 1] ⟨hlt, trivial⟩ (by simp only []; omega) ?_
   repeat' first | exact trivial | exact rfl | refine And.intro ?_ ?_
   rw [ho]; exact rfl
 ·obtain rfl : i = vis.length := by omega
  rw [← hvl]
  (conv => whnf)
  refine XM.of ?_
  (conv => whnf)
  exact rx [] [.same 1]
end Go.Nest
end
/- part -/
section

namespace Go.Nest
open Go Go.AM Go.Proofs
open Go.Proofs.YtpmjnbidmcnhnaaGreatDoor (tab tabOk)
set_option maxRecDepth 4000
def o1 : Ob := ⟨1, [120], [], 0, [], []⟩
def o2 : Ob := ⟨2, [], [⟨[102], 1, 0, 0⟩], 0, [], []⟩
def o3 : Ob := ⟨3, [], [], 0, [], []⟩
end Go.Nest
end
