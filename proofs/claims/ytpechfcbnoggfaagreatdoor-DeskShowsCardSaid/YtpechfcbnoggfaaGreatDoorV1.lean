/- part -/
import Derived.Test.YtpechfcbnoggfaaGreatDoorG9
import Derived.Test.YtpechfcbnoggfaaGreatDoorAmG
import Derived.Test.YtpechfcbnoggfaaGreatDoorL0
set_option linter.unusedVariables false
set_option linter.unusedSimpArgs false
section

namespace Go.Nest
open Go Go.AM Go.Proofs
open Go.Proofs.YtpechfcbnoggfaaGreatDoor (tab tabOk)
set_option maxRecDepth 4000
structure Dfs (l : List Ob) (ids : List Int) (vis : List Bool) (todo : List Int) : Prop where
 len : vis.length = l.length
 sound : ∀ k, Mk vis k → Led l ids k
 td : ∀ k ∈ todo, ¬ kindOf l k = 0 → Led l ids k
 base : ∀ k ∈ ids, ¬ kindOf l k = 0 → k ∈ todo ∨ Mk vis k
 clos : ∀ j, Mk vis j → ∀ k ∈ nextP l j, k ∈ todo ∨ Mk vis k
 size : todo.length ≤ ids.length + 64 * vis.count true
def cutT (todo : List Int) : List Int := (todo.drop 0).take (todo.length - 1 - 0)
theorem todo_last {todo : List Int} (h : 0 < todo.length) : todo = cutT todo ++ [todo[todo.length - 1]'(by omega)] := by
 unfold cutT
 rw [List.drop_zero, Nat.sub_zero]
 have := List.take_succ_eq_append_getElem (l := todo) (i := todo.length - 1) (by omega)
 rw [← this, Nat.sub_add_cancel (by omega), List.take_length]
theorem cutT_len {todo : List Int} : (cutT todo).length = todo.length - 1 := by unfold cutT; simp
theorem Dfs.skip {l : List Ob} (hl : PoolOk l) {ids : List Int} {vis : List Bool} {todo : List Int} (h : Dfs l ids vis todo) (ht : 0 < todo.length) {id : Int} (hid : id = todo[todo.length - 1]'(by omega)) (hk : kindOf l id = 0 ∨ Mk vis id) :
  Dfs l ids vis (cutT todo) := by
 have e := todo_last ht
 rw [← hid] at e
 refine ⟨h.len, h.sound, fun k hk1 => h.td k (by rw [e]; exact List.mem_append_left _ hk1), fun k h1 h2 => ?_, fun j hj k h1 => ?_, ?_⟩
 ·rcases h.base k h1 h2 with h3 | h3
  ·rw [e, List.mem_append, List.mem_singleton] at h3
   rcases h3 with h3 | h3
   ·exact .inl h3
   ·subst h3; exact .inr (hk.resolve_left h2)
  ·exact .inr h3
 ·rcases h.clos j hj k h1 with h3 | h3
  ·rw [e, List.mem_append, List.mem_singleton] at h3
   rcases h3 with h3 | h3
   ·exact .inl h3
   ·subst h3; exact .inr (hk.resolve_left (next_lt hl h1).1)
  ·exact .inr h3
 ·have := h.size; rw [cutT_len]; omega
theorem Dfs.visit {l : List Ob} (hl : PoolOk l) {ids : List Int} {vis : List Bool} {todo : List Int} (h : Dfs l ids vis todo) (ht : 0 < todo.length) {id : Int} (hid : id = todo[todo.length - 1]'(by omega)) (hk : ¬ kindOf l id = 0) (hm : vis[id.toNat]? = some false) :
  Dfs l ids (vis.set id.toNat true) (cutT todo ++ nextP l id) := by
 obtain ⟨h0, hlt⟩ := kindOf_pos hk
 have e := todo_last ht
 rw [← hid] at e
 have hled : Led l ids id := h.td id (by rw [e]; simp) hk
 have hset : ∀ k, Mk (vis.set id.toNat true) k ↔ Mk vis k ∨ k = id := fun k => by
  rw [Mk.set (by rw [h.len]; exact hlt)]
  rw [show ((id.toNat : Nat) : Int) = id by omega]
 refine ⟨by rw [List.length_set, h.len], fun k hk1 => ?_, fun k hk1 h2 => ?_, fun k h1 h2 => ?_, fun j hj k h1 => ?_, ?_⟩
 ·rcases (hset k).1 hk1 with h3 | rfl
  ·exact h.sound k h3
  ·exact hled
 ·rcases List.mem_append.1 hk1 with h3 | h3
  ·exact h.td k (by rw [e]; exact List.mem_append_left _ h3) h2
  ·exact .step hled h3
 ·rw [hset, List.mem_append]
  rcases h.base k h1 h2 with h3 | h3
  ·rw [e, List.mem_append, List.mem_singleton] at h3
   rcases h3 with h3 | h3
   ·exact .inl (.inl h3)
   ·exact .inr (.inr h3)
  ·exact .inr (.inl h3)
 ·rw [hset, List.mem_append]
  rcases (hset j).1 hj with h3 | rfl
  ·rcases h.clos j h3 k h1 with h3 | h3
   ·rw [e, List.mem_append, List.mem_singleton] at h3
    rcases h3 with h3 | h3
    ·exact .inl (.inl h3)
    ·exact .inr (.inr h3)
   ·exact .inr (.inl h3)
  ·exact .inl (.inr h1)
 ·have := h.size
  have h2 := nextP_len hl id
  rw [List.length_append, cutT_len, count_set hm]; omega
theorem Dfs.start {l : List Ob} {ids : List Int} : Dfs l ids (List.replicate l.length false) ids :=
 ⟨by simp, fun k h => (not_Mk_rep h).elim, fun k h1 h2 => .base h1 h2, fun k h1 _ => .inl h1, fun j h => (not_Mk_rep h).elim, by omega⟩
theorem Dfs.stop {l : List Ob} {ids : List Int} {vis : List Bool} {todo : List Int} (h : Dfs l ids vis todo) (ht : todo.length = 0) : vis.length = l.length ∧ ∀ k, Mk vis k ↔ Led l ids k := by
 have : todo = [] := List.eq_nil_of_length_eq_zero ht
 subst this
 exact ⟨h.len, fun k => ⟨h.sound k, Led.of_closed (fun k h1 h2 => (h.base k h1 h2).resolve_left (by simp)) (fun j hj k h1 => (h.clos j hj k h1).resolve_left (by simp))⟩⟩
theorem reach_spec (l : List Ob) (hl : PoolOk l) (ids : List Int) (hi : ids.length ≤ 1000000) : Does Tryz.prog 40 [.c (.bp [.bs 6 Ob encOb l]), .c (.bs 1 Int encI ids)] [] (Rt (.c (.rw 0)) [.row 1 Int encI (reachP l ids)]) := by
 refine X_spM (n := 66) (n0 := 0) tabOk Tryz.call40 Tryz.func40 ?_
 intro hb
 have hlen := hl.len
 refine XM.seq ?_
 skip
 refine XM.seq ?_
 (conv => whnf)
 refine ⟨l.length, false, ⟨rfl, rfl⟩, rfl, by simp only []; omega, ?_⟩
 skip
 refine XM.seq ?_
 (conv => whnf)
 refine cl [] [] (cloneInts_spec ids (by omega)) ?_
 skip
 refine XM.join (ι := List Bool) (fun vis => ⟨[(5, .c (.rw 0))], [.row 1 Bool encBo vis]⟩) (fun vis => vis.length = l.length ∧ ∀ k, Mk vis k ↔ Led l ids k) ?_ (fun vis hv => ?_)
 ·(conv => whnf)
  refine lp (List Bool × List Int) (fun | (vis, todo) => ⟨[(0, .c (.bp [.bs 6 Ob encOb l])), (5, .c (.rw 0)), (6, .c (.rw 1))], [.row 1 Bool encBo vis, .row 1 Int encI todo]⟩) (fun x => Dfs l ids x.1 x.2 ∧ True) (fun x => 65 * (l.length - x.1.count true) + x.2.length) (List.replicate l.length false, ids) [] [.same 0, .same 1] ?_ ?_ (fun x hx => ?_)
  ·exact ⟨Dfs.start, trivial⟩
  ·repeat' first | exact trivial | exact rfl | refine And.intro ?_ ?_
  obtain ⟨vis, todo⟩ := x
  obtain ⟨hx, _⟩ := hx
  dsimp only at hx
  have hvl := hx.len
  have hsz := hx.size
  have hct : vis.count true ≤ vis.length := List.count_le_length
  (conv => whnf)
  refine dec (fun h4 => ?_) (fun h4 => ?_)
  ·have ht : 0 < todo.length := by omega
   have hcl : ((todo.drop 0).take (todo.length - 1 - 0)).length = todo.length - 1 := cutT_len
   (conv => whnf)
   refine ⟨i64 (by omega) (by omega), ?_⟩
   (conv => whnf)
   refine ⟨todo.length - 1, ⟨by omega, by omega⟩, ?_⟩
   (conv => whnf)
   refine ⟨todo[todo.length - 1], List.getElem?_eq_getElem (by omega), ?_⟩
   generalize hid : todo[todo.length - 1]'(by omega) = id
   (conv => whnf)
   refine ⟨i64 (by omega) (by omega), ?_⟩
   (conv => whnf)
   refine ⟨0, todo.length - 1, rfl, by omega, by omega, ?_⟩
   (conv => whnf)
   refine cl [] [] (kind_spec l id) ?_
   (conv => whnf)
   have hnl := nextP_len hl id
   have skip : kindOf l id = 0 ∨ Mk vis id → 65 * (l.length - vis.count true) + (cutT todo).length < 65 * (l.length - vis.count true) + todo.length ∧ Dfs l ids vis (cutT todo) := fun h => ⟨by rw [cutT_len]; omega, hx.skip hl ht hid.symm h⟩
   refine dec (fun h5 => ?_) (fun h5 => ?_)
   ·obtain ⟨k1, k2⟩ := kindOf_pos (l := l) (id := id) (by omega)
    (conv => whnf)
    refine ⟨id.toNat, ⟨by omega, by omega⟩, ?_⟩
    (conv => whnf)
    refine ⟨vis[id.toNat], List.getElem?_eq_getElem (by omega), ?_⟩
    (conv => whnf)
    refine booN (fun h6 => ?_) (fun h6 => ?_)
    ·have hm : vis[id.toNat]? = some false := by rw [List.getElem?_eq_getElem (by omega), h6]
     have hv := hx.visit hl ht hid.symm (by omega) hm
     have hc := count_set hm
     have hc2 : (vis.set id.toNat true).count true ≤ (vis.set id.toNat true).length := List.count_le_length
     rw [List.length_set] at hc2
     (conv => whnf)
     refine ⟨id.toNat, ⟨by omega, by omega⟩, ?_⟩
     (conv => whnf)
     refine ⟨_, true, List.getElem?_eq_getElem (by omega), ⟨by decide, rfl⟩, ?_⟩
     (conv => whnf)
     refine cl [] [] (next_spec l hl id) ?_
     (conv => whnf)
     refine ⟨_, _, rfl, rfl, (by simp only [List.length_append, List.length_cons, List.length_nil]; omega), ?_⟩
     (conv => whnf)
     refine ag (vis.set id.toNat true, cutT todo ++ nextP l id) [] [.same 0, .same 3] ⟨hv, trivial⟩ (by dsimp only; rw [List.length_append, cutT_len]; omega) ?_
     repeat' first | exact trivial | exact rfl | refine And.intro ?_ ?_
    ·(conv => whnf)
     obtain ⟨s1, s2⟩ := skip (.inr ⟨id.toNat, by omega, by rw [List.getElem?_eq_getElem (by omega), h6]⟩)
     refine ag (vis, cutT todo) [] [.same 0, .cut 1 1 0 (todo.length - 1 - 0)] ⟨s2, trivial⟩ s1 ?_
     repeat' first | exact trivial | exact rfl | refine And.intro ?_ ?_
     omega
   ·(conv => whnf)
    have : kindOf l id = 0 := by
     by_cases h0 : kindOf l id = 0
     ·exact h0
     ·have := (hl.get h0).k1; rw [getP_kind] at this; omega
    obtain ⟨s1, s2⟩ := skip (.inl this)
    refine ag (vis, cutT todo) [] [.same 0, .cut 1 1 0 (todo.length - 1 - 0)] ⟨s2, trivial⟩ s1 ?_
    repeat' first | exact trivial | exact rfl | refine And.intro ?_ ?_
    omega
  ·(conv => whnf)
   refine ⟨vis, hx.stop (by omega), [], [.same 0], ?_⟩
   repeat' first | exact trivial | exact rfl | refine And.intro ?_ ?_
 obtain ⟨hvl, hv⟩ := hv
 rw [← outOf_reach hvl hv]
 refine XM.seq ?_
 skip
 refine XM.seq ?_
 (conv => whnf)
 refine lp Nat (fun i => ⟨[(8, .c (.rw 1)), (52, .c (.rw 0)), (53, .c (.int .i64 vis.length)), (54, .c (.int .i64 i))], [.row 1 Bool encBo vis, .row 1 Int encI (outOf vis i)]⟩) (fun i => i ≤ vis.length ∧ True) (fun i => vis.length - i) 0 [] [.same 0, .new] ?_ ?_ (fun i hi => ?_)
 ·simp
 ·repeat' first | exact trivial | exact rfl | refine And.intro ?_ ?_
 (conv => whnf)
 refine dec (fun h4 => ?_) (fun h4 => ?_)
 ·have hlt : i < vis.length := by omega
  have ho := outOf_succ hlt
  have hol := outOf_len (vis := vis) (i := i)
  repeat' ((conv => whnf); first | refine boo (fun h => ?_) (fun h => ?_) | refine ⟨i64 (by omega) (by omega), ?_⟩ | refine ⟨_, ⟨rfl, by omega⟩, ?_⟩ | refine ⟨_, List.getElem?_eq_getElem (by omega), ?_⟩ | fail)
  ·rw [if_pos h] at ho
   (conv => whnf)
   refine ⟨[(i : Int)], rfl, ?_⟩
   (conv => whnf)
   refine ⟨_, _, rfl, rfl, (by simp only [List.length_append, List.length_cons, List.length_nil]; omega), ?_⟩
   repeat' ((conv => whnf); refine I6 ?_)
   refine ag (i + 1) [] [.same 0, .same 3] ⟨hlt, trivial⟩ (by simp only []; omega) ?_
   repeat' first | exact trivial | exact rfl | refine And.intro ?_ ?_
   rw [ho]; exact rfl
  ·rw [if_neg (by simp [h]), List.append_nil] at ho
   skip
   refine ag (i + 1) [] [.same 0, .same 1] ⟨hlt, trivial⟩ (by simp only []; omega) ?_
   repeat' first | exact trivial | exact rfl | refine And.intro ?_ ?_
   rw [ho]; exact rfl
 ·obtain rfl : i = vis.length := by omega
  rw [← hvl]
  (conv => whnf)
  refine XM.of ?_
  (conv => whnf)
  exact rx [] [.same 1]
end Go.Nest
end
/- part -/
section

namespace Go.Nest
open Go Go.AM
def hasI (l : List Int) (k : Int) : Bool := l.any fun x => decide (x = k)
theorem hasI_iff {l : List Int} {k : Int} : hasI l k = true ↔ k ∈ l := by
 unfold hasI
 rw [List.any_eq_true]
 constructor
 ·rintro ⟨x, hx, e⟩; have e : x = k := by simpa using e
  rw [← e]; exact hx
 ·intro h; exact ⟨k, h, by simp⟩
inductive Anc (L : List Ob) : Int → Int → Prop
 | refl (id : Int) : Anc L id id
 | step {id j k : Int} (h : j ∈ (getP L id).parents) (h2 : Anc L j k) : Anc L id k
theorem par_next {L : List Ob} {j k : Int} (h : k ∈ (getP L j).parents) : k ∈ nextP L j := by
 unfold nextP
 rw [List.mem_append, List.mem_append]
 exact .inr (.inr h)
theorem par_lt {L : List Ob} (hp : PoolOk L) {j k : Int} (h : k ∈ (getP L j).parents) : 0 ≤ k ∧ k < j ∧ k.toNat < L.length := by
 obtain ⟨h1, h2⟩ := next_lt hp (par_next h)
 obtain ⟨h3, h4⟩ := kindOf_pos h1
 exact ⟨by omega, h2, h4⟩
theorem par_kind {L : List Ob} (hp : PoolOk L) {j k : Int} (hj : kindOf L j = 3) (h : k ∈ (getP L j).parents) : kindOf L k = 3 := by
 obtain ⟨h1, h2⟩ := kindOf_pos (l := L) (id := j) (by omega)
 have := (hp.obj (getP L j) (by rw [getP_at h1 h2]; exact List.getElem_mem _)).2
 unfold leadsP at this
 rw [Bool.and_eq_true, Bool.and_eq_true, List.all_eq_true, List.all_eq_true] at this
 simpa using this.2.1 k h
theorem Anc.kind {L : List Ob} (hp : PoolOk L) {id k : Int} (h : Anc L id k) (hi : kindOf L id = 3) : kindOf L k = 3 := by
 induction h with
 | refl => exact hi
 | step h _ ih => exact ih (par_kind hp hi h)
theorem Anc.le {L : List Ob} (hp : PoolOk L) {id k : Int} (h : Anc L id k) : k ≤ id := by
 induction h with
 | refl => exact Int.le_refl _
 | step h _ ih => have := (par_lt hp h).2.1; omega
end Go.Nest
end
/- part -/
section

namespace Go.Nest
open Go Go.AM
theorem nodup_len : ∀ (n : Nat) {l : List Int}, l.Nodup → (∀ k ∈ l, 0 ≤ k ∧ k < n) → l.length ≤ n
 | 0, l, _, h => by
  cases l with
  | nil => simp
  | cons x r => have := h x (by simp); omega
 | n + 1, l, hn, h => by
  by_cases hm : (n : Int) ∈ l
  ·have := nodup_len n (hn.erase (n : Int)) (fun k hk => by
    obtain ⟨h1, h2⟩ := (hn.mem_erase_iff).1 hk
    have := h k h2; omega)
   rw [List.length_erase_of_mem hm] at this
   omega
  ·have := nodup_len n hn (fun k hk => by
    have h1 := h k hk
    have : k ≠ n := fun e => hm (e ▸ hk)
    omega)
   omega
structure Bfs (L : List Ob) (id : Int) (out : List Int) (i : Nat) : Prop where
 le : i ≤ out.length
 nd : out.Nodup
 mem : id ∈ out
 anc : ∀ k ∈ out, Anc L id k
 clos : ∀ x ∈ out.take i, ∀ k ∈ (getP L x).parents, k ∈ out
theorem Bfs.len {L : List Ob} (hL : PoolOk L) {id : Int} (hi : kindOf L id = 3) {out : List Int} {i : Nat} (h : Bfs L id out i) : out.length ≤ L.length :=
 nodup_len _ h.nd fun k hk => by
  have := (h.anc k hk).kind hL hi
  obtain ⟨h1, h2⟩ := kindOf_pos (l := L) (id := k) (by omega)
  omega
theorem Bfs.add {L : List Ob} {id : Int} {out : List Int} {i : Nat} (h : Bfs L id out i) {k : Int} (hk : k ∉ out) (ha : Anc L id k) : Bfs L id (out ++ [k]) i := by
 refine ⟨by rw [List.length_append]; have := h.le; omega, ?_, List.mem_append_left _ h.mem, fun x hx => ?_, fun x hx j hj => ?_⟩
 ·rw [List.nodup_append]
  exact ⟨h.nd, by simp, fun a ha2 b hb => by rw [List.mem_singleton] at hb; intro e; exact hk (by rw [← hb, ← e]; exact ha2)⟩
 ·rcases List.mem_append.1 hx with hx | hx
  ·exact h.anc x hx
  ·rw [List.mem_singleton] at hx; subst hx; exact ha
 ·rw [List.take_append_of_le_length h.le] at hx
  exact List.mem_append_left _ (h.clos x hx j hj)
end Go.Nest
end
/- part -/
section

namespace Go.Nest
open Go Go.AM Go.Proofs
open Go.Proofs.YtpechfcbnoggfaaGreatDoor (tab tabOk)
set_option maxRecDepth 4000
def d21 : List B := [.dead, .dead, .dead, .dead, .dead, .dead, .dead, .dead, .dead, .dead, .dead, .dead, .dead, .dead, .dead, .dead, .dead, .dead, .dead, .dead, .dead]
def fRows (s : FS) : List B := [.row 6 Ob encOb s.L, .row 1 Bool encBo (s.o 0), .row 1 Bool encBo (s.o 1), .row 1 Bool encBo (s.o 2), .row 1 Bool encBo (s.o 3), .row 1 Int encI (s.b 0), .row 1 Int encI (s.b 1), .row 1 Int encI (s.b 2), .row 1 Int encI (s.b 3), .row 2 Rf encRf (s.n 0), .row 2 Rf encRf (s.n 1), .row 2 Rf encRf (s.n 2), .row 2 Rf encRf (s.n 3), .row 3 Mv encMv (s.m 0), .row 3 Mv encMv (s.m 1), .row 3 Mv encMv (s.m 2), .row 3 Mv encMv (s.m 3), .row 5 It encIt (s.w 0), .row 5 It encIt (s.w 1), .row 5 It encIt (s.w 2), .row 5 It encIt (s.w 3)]
def fSt (k : Nat) (mid : List B) (s : FS) : List B := .box [.ptr 1 0, .ptr 2 0, .ptr 3 0, .ptr 4 0, .ptr 5 0, .ptr 6 0, .ptr 7 0, .ptr 8 0, .ptr 9 0] :: .box [.ptr 10 0, .rw (k + 12), .rw (k + 13), .rw (k + 14), .rw (k + 15), .rw (k + 16), .rw (k + 17), .rw (k + 18), .rw (k + 19)] :: .box [.rw (k + 20), .rw (k + 24)] :: .box [.ptr 10 0, .rw (k + 28), .int .i64 (s.h 0)] :: .box [.rw (k + 21), .rw (k + 25)] :: .box [.ptr 10 0, .rw (k + 29), .int .i64 (s.h 1)] :: .box [.rw (k + 22), .rw (k + 26)] :: .box [.ptr 10 0, .rw (k + 30), .int .i64 (s.h 2)] :: .box [.rw (k + 23), .rw (k + 27)] :: .box [.ptr 10 0, .rw (k + 31), .int .i64 (s.h 3)] :: .box [.rw (k + 11)] :: (mid ++ fRows s)
abbrev fIn (s : FS) : List B := fSt 0 [] s
abbrev fOut (s : FS) : List B := fSt 21 d21 s
def mF (k : Nat) : List Nat := [0, 1, 2, 3, 4, 5, 6, 7, 8, 9, 10, k + 11, k + 12, k + 13, k + 14, k + 15, k + 16, k + 17, k + 18, k + 19, k + 20, k + 21, k + 22, k + 23, k + 24, k + 25, k + 26, k + 27, k + 28, k + 29, k + 30, k + 31]
def rF (k : Nat) : List Rn := [.same 0, .same 1, .same 2, .same 3, .same 4, .same 5, .same 6, .same 7, .same 8, .same 9, .same 10, .same 11, .same 12, .same 13, .same 14, .same 15, .same 16, .same 17, .same 18, .same 19, .same 20, .same 21, .same 22, .same 23, .same 24, .same 25, .same 26, .same 27, .same 28, .same 29, .same 30, .same 31, .same (k + 11), .same (k + 12), .same (k + 13), .same (k + 14), .same (k + 15), .same (k + 16), .same (k + 17), .same (k + 18), .same (k + 19), .same (k + 20), .same (k + 21), .same (k + 22), .same (k + 23), .same (k + 24), .same (k + 25), .same (k + 26), .same (k + 27), .same (k + 28), .same (k + 29), .same (k + 30), .same (k + 31)]
def rP (f : Nat → Nat) : List Rn := [.same 0, .same 1, .same 2, .same 3, .same 4, .same 5, .same 6, .same 7, .same 8, .same 9, .same 10, .same 11, .same 12, .same 13, .same 14, .same 15, .same 16, .same 17, .same 18, .same 19, .same 20, .same 21, .same 22, .same 23, .same 24, .same 25, .same 26, .same 27, .same 28, .same 29, .same 30, .same 31, .same (f 11), .same (f 12), .same (f 13), .same (f 14), .same (f 15), .same (f 16), .same (f 17), .same (f 18), .same (f 19), .same (f 20), .same (f 21), .same (f 22), .same (f 23), .same (f 24), .same (f 25), .same (f 26), .same (f 27), .same (f 28), .same (f 29), .same (f 30), .same (f 31)]
structure ClosedAs (l : List A) : Prop where
 m : ∀ fr ah ρ, mAs fr ah ρ l l
structure ClosedA (x : A) : Prop where
 m : ∀ ah ρ, mA (fun _ => false) ah ρ x x
 r : ∀ σ, renA σ x = x
 c : cleanA x = true
theorem onWork {f : FuncId} {rest : List A} {X : A} {s : FS} {r : Nat} (hr : r < 4) {L : List Ob} {l : List It} {h : Int} (hs : Does Tryz.prog f (.c (.ptr 0 0) :: rest) [.box [.ptr 1 0, .rw 3, .int .i64 (s.h r)], .box [.rw 2], .row 6 Ob encOb s.L, .row 5 It encIt (s.w r)] (Rt X [.box [.ptr 1 0, .rw 5, .int .i64 h], .box [.rw 4], .dead, .dead, .row 6 Ob encOb L, .row 5 It encIt l])) (hx : ClosedA X) (hc : ClosedAs rest := by refine ⟨fun _ _ _ => ?_⟩; repeat' first | exact trivial | exact rfl | refine And.intro ?_ ?_) :
  Does Tryz.prog f (.c (.ptr (3 + 2 * r) 0) :: rest) (fIn s) (Rt X (fOut (s.setW r L l h))) := by
 refine DoesD.frame [3 + 2 * r, 10, 11, 28 + r] (rP fun i => bif Nat.beq i 11 then 32 else bif Nat.beq i (28 + r) then 33 else i) hs ?_ rfl (hx.r _) ?_ ?_
 ·rcases four hr with rfl | rfl | rfl | rfl <;> exact callOk_of (And.intro rfl (hc.m _ _ _))
 ·rcases four hr with rfl | rfl | rfl | rfl <;> exact lex_of (hx.m _ _)
 ·rw [hx.c]; rfl
theorem onRefs {f : FuncId} {rest : List A} {X : A} {s : FS} {r : Nat} (hr : r < 4) {l : List Rf} {m : List Mv} (hs : Does Tryz.prog f (.c (.ptr 0 0) :: rest) [.box [.rw 1, .rw 2], .row 2 Rf encRf (s.n r), .row 3 Mv encMv (s.m r)] (Rt X [.box [.rw 3, .rw 4], .dead, .dead, .row 2 Rf encRf l, .row 3 Mv encMv m])) (hx : ClosedA X) (hc : ClosedAs rest := by refine ⟨fun _ _ _ => ?_⟩; repeat' first | exact trivial | exact rfl | refine And.intro ?_ ?_) :
  Does Tryz.prog f (.c (.ptr (2 + 2 * r) 0) :: rest) (fIn s) (Rt X (fOut (s.setN r l m))) := by
 refine DoesD.frame [2 + 2 * r, 20 + r, 24 + r] (rP fun i => bif Nat.beq i (20 + r) then 32 else bif Nat.beq i (24 + r) then 33 else i) hs ?_ rfl (hx.r _) ?_ ?_
 ·rcases four hr with rfl | rfl | rfl | rfl <;> exact callOk_of (And.intro rfl (hc.m _ _ _))
 ·rcases four hr with rfl | rfl | rfl | rfl <;> exact lex_of (hx.m _ _)
 ·rw [hx.c]; rfl
theorem onOwn {f : FuncId} {rest : List A} {X : A} {s : FS} {o : Nat → List Bool} (hs : Does Tryz.prog f (.c (.ptr 0 0) :: rest) [.box [.ptr 1 0, .rw 3, .rw 4, .rw 5, .rw 6, .rw 7, .rw 8, .rw 9, .rw 10], .box [.rw 2], .row 6 Ob encOb s.L, .row 1 Bool encBo (s.o 0), .row 1 Bool encBo (s.o 1), .row 1 Bool encBo (s.o 2), .row 1 Bool encBo (s.o 3), .row 1 Int encI (s.b 0), .row 1 Int encI (s.b 1), .row 1 Int encI (s.b 2), .row 1 Int encI (s.b 3)] (Rt X [.box [.ptr 1 0, .rw 11, .rw 12, .rw 13, .rw 14, .rw 7, .rw 8, .rw 9, .rw 10], .box [.rw 2], .row 6 Ob encOb s.L, .dead, .dead, .dead, .dead, .row 1 Int encI (s.b 0), .row 1 Int encI (s.b 1), .row 1 Int encI (s.b 2), .row 1 Int encI (s.b 3), .row 1 Bool encBo (o 0), .row 1 Bool encBo (o 1), .row 1 Bool encBo (o 2), .row 1 Bool encBo (o 3)])) (hx : ClosedA X) (hc : ClosedAs rest := by refine ⟨fun _ _ _ => ?_⟩; repeat' first | exact trivial | exact rfl | refine And.intro ?_ ?_) :
  Does Tryz.prog f (.c (.ptr 1 0) :: rest) (fIn s) (Rt X (fOut (s.setO o))) := by
 refine DoesD.frame [1, 10, 11, 12, 13, 14, 15, 16, 17, 18, 19] (rP fun i => bif Nat.blt 11 i && Nat.blt i 16 then 20 + i else i) hs (callOk_of (And.intro rfl (hc.m _ _ _))) rfl (hx.r _) (lex_of (hx.m _ _)) ?_
 rw [hx.c]; rfl
def forC (s : FS) : List C := [.bp [.bp [.bs 6 Ob encOb s.L], .bs 1 Bool encBo (s.o 0), .bs 1 Bool encBo (s.o 1), .bs 1 Bool encBo (s.o 2), .bs 1 Bool encBo (s.o 3), .bs 1 Int encI (s.b 0), .bs 1 Int encI (s.b 1), .bs 1 Int encI (s.b 2), .bs 1 Int encI (s.b 3)],
 .bp [.bs 2 Rf encRf (s.n 0), .bs 3 Mv encMv (s.m 0)], .bp [.bp [.bs 6 Ob encOb s.L], .bs 5 It encIt (s.w 0), .int .i64 (s.h 0)],
 .bp [.bs 2 Rf encRf (s.n 1), .bs 3 Mv encMv (s.m 1)], .bp [.bp [.bs 6 Ob encOb s.L], .bs 5 It encIt (s.w 1), .int .i64 (s.h 1)],
 .bp [.bs 2 Rf encRf (s.n 2), .bs 3 Mv encMv (s.m 2)], .bp [.bp [.bs 6 Ob encOb s.L], .bs 5 It encIt (s.w 2), .int .i64 (s.h 2)],
 .bp [.bs 2 Rf encRf (s.n 3), .bs 3 Mv encMv (s.m 3)], .bp [.bp [.bs 6 Ob encOb s.L], .bs 5 It encIt (s.w 3), .int .i64 (s.h 3)]]
end Go.Nest
end
