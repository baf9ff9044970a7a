/- PLAIN LAWS, W1b: ancestors, one behind the other. -/
import Derived.Test.YtogallppofinhaaGreatDoorW1
import Derived.Test.YtogallppofinhaaGreatDoorG12
import Derived.Test.YtogallppofinhaaGreatDoorP3
section
namespace Go.Nest
open Go Go.AM
set_option linter.unusedVariables false
set_option linter.unusedSimpArgs false

theorem nodup_len : ∀ (n : Nat) {l : List Int}, l.Nodup → (∀ k ∈ l, 0 ≤ k ∧ k < n) → l.length ≤ n
  | 0, l, _, h => by
    cases l with
    | nil => simp
    | cons x r => have := h x (by simp); omega
  | n + 1, l, hn, h => by
    by_cases hm : (n : Int) ∈ l
    · have := nodup_len n (hn.erase (n : Int)) (fun k hk => by
        obtain ⟨h1, h2⟩ := (hn.mem_erase_iff).1 hk
        have := h k h2; omega)
      rw [List.length_erase_of_mem hm] at this
      omega
    · have := nodup_len n hn (fun k hk => by
        have h1 := h k hk
        have : k ≠ n := fun e => hm (e ▸ hk)
        omega)
      omega
structure Bfs (L : List Ob) (id : Int) (out : List Int) (i : Nat) : Prop where
  le : i ≤ out.length
  nd : out.Nodup
  mem : id ∈ out
  anc : ∀ k ∈ out, Anc L id k
  clos : ∀ x ∈ out.take i, ∀ k ∈ (getP L x).parents, k ∈ out
theorem Bfs.start {L : List Ob} {id : Int} : Bfs L id [id] 0 := ⟨Nat.zero_le _, by simp, by simp, fun k hk => by rw [List.mem_singleton] at hk; subst hk; exact .refl _, fun x hx => by cases hx⟩
theorem Bfs.len {L : List Ob} (hL : PoolOk L) {id : Int} (hi : kindOf L id = 3) {out : List Int} {i : Nat} (h : Bfs L id out i) : out.length ≤ L.length :=
  nodup_len _ h.nd fun k hk => by
    have := (h.anc k hk).kind hL hi
    obtain ⟨h1, h2⟩ := kindOf_pos (l := L) (id := k) (by omega)
    omega
theorem Bfs.add {L : List Ob} {id : Int} {out : List Int} {i : Nat} (h : Bfs L id out i) {k : Int} (hk : k ∉ out) (ha : Anc L id k) : Bfs L id (out ++ [k]) i := by
  refine ⟨by rw [List.length_append]; have := h.le; omega, ?_, List.mem_append_left _ h.mem, fun x hx => ?_, fun x hx j hj => ?_⟩
  · rw [List.nodup_append]
    exact ⟨h.nd, by simp, fun a ha2 b hb => by rw [List.mem_singleton] at hb; intro e; exact hk (by rw [← hb, ← e]; exact ha2)⟩
  · rcases List.mem_append.1 hx with hx | hx
    · exact h.anc x hx
    · rw [List.mem_singleton] at hx; subst hx; exact ha
  · rw [List.take_append_of_le_length h.le] at hx
    exact List.mem_append_left _ (h.clos x hx j hj)
theorem Bfs.next {L : List Ob} {id : Int} {out : List Int} {i : Nat} (h : Bfs L id out i) {x : Int} (hx : out[i]? = some x) (hc : ∀ k ∈ (getP L x).parents, k ∈ out) : Bfs L id out (i + 1) := by
  obtain ⟨hlt, e⟩ := List.getElem?_eq_some_iff.1 hx
  refine ⟨hlt, h.nd, h.mem, h.anc, fun y hy k hk => ?_⟩
  rw [List.take_succ_eq_append_getElem hlt, List.mem_append, List.mem_singleton, e] at hy
  rcases hy with hy | rfl
  · exact h.clos y hy k hk
  · exact hc k hk
theorem closed_anc {L : List Ob} {out : List Int} (hc : ∀ x ∈ out, ∀ k ∈ (getP L x).parents, k ∈ out) {id k : Int} (ha : Anc L id k) : id ∈ out → k ∈ out := by
  induction ha with
  | refl => exact fun h => h
  | step h1 _ ih => exact fun h => ih (hc _ h _ h1)
theorem Bfs.stop {L : List Ob} {id : Int} {out : List Int} {i : Nat} (h : Bfs L id out i) (hi : out.length ≤ i) (k : Int) : k ∈ out ↔ Anc L id k := by
  have hc := h.clos
  rw [List.take_of_length_le hi] at hc
  exact ⟨h.anc k, fun ha => closed_anc hc ha h.mem⟩
end Go.Nest
end
/- WALKS, W5: histories, by the document: Line, IsAhead. -/
section
namespace Go.Nest
open Go Go.AM Go.Proofs
open Go.Proofs.YtogallppofinhaaGreatDoor (tab tabOk)
set_option linter.unusedVariables false
set_option linter.unusedSimpArgs false
set_option maxRecDepth 4000
structure Ln (L : List Ob) (id : Int) (R : List Int) (vis : List Bool) (i : Nat) : Prop where
  len : vis.length = L.length
  sound : ∀ k, Mk vis k → Anc L id k
  me : Mk vis id
  clos : ∀ x ∈ R.drop i, Mk vis x → ∀ p ∈ (getP L x).parents, Mk vis p
theorem Anc.led {L : List Ob} (hL : PoolOk L) {id k : Int} (hi : kindOf L id = 3) (h : Anc L id k) : Led L [id] k := by
  have key : ∀ {a b : Int}, Anc L a b → Led L [id] a → Led L [id] b := fun {a b} h => by
    induction h with
    | refl => exact fun h => h
    | step h _ ih => exact fun h2 => ih (.step h2 (par_next h))
  exact key h (.base (by simp) (by omega))
theorem Ln.start {L : List Ob} {id : Int} {R : List Int} (h : kindOf L id = 3) : Ln L id R ((List.replicate L.length false).set id.toNat true) R.length := by
  have hset : ∀ k, Mk ((List.replicate L.length false).set id.toNat true) k ↔ Mk (List.replicate L.length false) k ∨ k = id := fun k => mk_set (l := L) (by simp) (by omega)
  refine ⟨by simp, fun k hk => ?_, (hset id).2 (.inr rfl), fun x hx => by rw [List.drop_length] at hx; cases hx⟩
  rcases (hset k).1 hk with h | rfl
  · exact (not_Mk_rep h).elim
  · exact .refl _
theorem Ln.stop {L : List Ob} (hL : PoolOk L) {id : Int} (hi : kindOf L id = 3) {R : List Int} (hR : ∀ k, k ∈ R ↔ Led L [id] k) {vis : List Bool} (h : Ln L id R vis 0) (k : Int) : Mk vis k ↔ Anc L id k := by
  refine ⟨h.sound k, fun ha => ?_⟩
  have hc := h.clos
  rw [List.drop_zero] at hc
  have key : ∀ {a b : Int}, Anc L a b → Anc L id a → Mk vis a → Mk vis b := fun {a b} h => by
    induction h with
    | refl => exact fun _ h => h
    | step h1 _ ih => exact fun g1 g2 => ih (g1.next h1) (hc _ ((hR _).2 (g1.led hL hi)) g2 _ h1)
  exact key ha (.refl _) h.me
theorem outOf_anc {L : List Ob} (hL : PoolOk L) {id : Int} (hi : kindOf L id = 3) {vis : List Bool} (hv : vis.length = L.length) (h : ∀ k, Mk vis k ↔ Anc L id k) : outOf vis L.length = ancL L id := by
  unfold outOf ancL
  congr 1
  refine List.filter_congr fun k hk => ?_
  rw [List.mem_range] at hk
  have := h k
  rw [Bool.eq_iff_iff, isA_iff hL _ id k (Nat.lt_succ_self _), ← this]
  unfold Mk
  constructor
  · intro h1
    refine ⟨k, rfl, ?_⟩
    rw [List.getElem?_eq_getElem (by omega)] at h1 ⊢
    simpa using h1
  · rintro ⟨n, h1, h2⟩
    obtain rfl : k = n := by omega
    rw [h2]; rfl
set_option maxHeartbeats 2000000 in
theorem line_spec (L : List Ob) (hL : PoolOk L) (id : Int) : Does Tryz.prog 144 [.c (.bp [.bs 6 Ob encOb L]), .c (.int .i64 id)] [] (Rt (.tup [(false, [.rw 0]), (false, [.int .i64 (ancP L id).2])]) [.row 1 Int encI (ancP L id).1]) := by
  refine X_spM (n := 82) (n0 := 0) tabOk Tryz.call144 Tryz.func144 ?_
  intro hb
  have hlen := hL.len
  refine XM.seq ?_
  repeat' ((conv => whnf); first | (refine dec (fun h => ?_) (fun h => ?_) <;> try contradiction) | (refine decN (fun h => ?_) (fun h => ?_) <;> try contradiction) | refine booN (fun h => ?_) (fun h => ?_) | refine boo (fun h => ?_) (fun h => ?_) | refine ⟨i64 (by omega) (by omega), ?_⟩ | refine ⟨_, _, rfl, List.getElem?_eq_getElem (by omega), ?_⟩ | refine ⟨_, ⟨rfl, by omega⟩, ?_⟩ | refine ⟨_, List.getElem?_eq_getElem (by omega), ?_⟩ | refine rtB ?_ | refine rtI ?_ | refine rtC ?_ rfl | fail)
  refine XM.seq ?_
  (conv => whnf)
  refine cl [] [] (kindR_spec L id) ?_
  (conv => whnf)
  refine decN (fun h => ?_) (fun h => ?_)
  · have h : ¬ kindOf L id = 3 := by simpa using h
    rw [show ancP L id = ([], 9) by unfold ancP; rw [if_neg h]]
    (conv => whnf)
    exact rx [] [.new]
  have h3 : kindOf L id = 3 := by simpa using h
  obtain ⟨k1, k2⟩ := kindOf_pos (l := L) (id := id) (by omega)
  rw [show ancP L id = (ancL L id, 0) by unfold ancP; rw [if_pos h3]]
  refine XM.seq ?_
  repeat' ((conv => whnf); first | (refine dec (fun h => ?_) (fun h => ?_) <;> try contradiction) | (refine decN (fun h => ?_) (fun h => ?_) <;> try contradiction) | refine booN (fun h => ?_) (fun h => ?_) | refine boo (fun h => ?_) (fun h => ?_) | refine ⟨i64 (by omega) (by omega), ?_⟩ | refine ⟨_, _, rfl, List.getElem?_eq_getElem (by omega), ?_⟩ | refine ⟨_, ⟨rfl, by omega⟩, ?_⟩ | refine ⟨_, List.getElem?_eq_getElem (by omega), ?_⟩ | refine rtB ?_ | refine rtI ?_ | refine rtC ?_ rfl | fail)
  refine XM.seq ?_
  (conv => whnf)
  refine ⟨[id], rfl, ?_⟩
  (conv => whnf)
  refine cl [] [] (reachR_spec L hL [id] (by simp)) ?_
  have hR : ∀ k, k ∈ reachP L [id] ↔ Led L [id] k := fun k => mem_reach hL
  have hRr : (reachP L [id]).Pairwise (· < ·) := reach_rise
  have hRl : (reachP L [id]).length ≤ L.length := reach_len
  generalize reachP L [id] = R at *
  repeat' ((conv => whnf); first | (refine dec (fun h => ?_) (fun h => ?_) <;> try contradiction) | (refine decN (fun h => ?_) (fun h => ?_) <;> try contradiction) | refine booN (fun h => ?_) (fun h => ?_) | refine boo (fun h => ?_) (fun h => ?_) | refine ⟨i64 (by omega) (by omega), ?_⟩ | refine ⟨_, _, rfl, List.getElem?_eq_getElem (by omega), ?_⟩ | refine ⟨_, ⟨rfl, by omega⟩, ?_⟩ | refine ⟨_, List.getElem?_eq_getElem (by omega), ?_⟩ | refine rtB ?_ | refine rtI ?_ | refine rtC ?_ rfl | fail)
  refine XM.seq ?_
  (conv => whnf)
  refine ⟨L.length, false, ⟨rfl, rfl⟩, rfl, by simp only []; omega, ?_⟩
  repeat' ((conv => whnf); first | (refine dec (fun h => ?_) (fun h => ?_) <;> try contradiction) | (refine decN (fun h => ?_) (fun h => ?_) <;> try contradiction) | refine booN (fun h => ?_) (fun h => ?_) | refine boo (fun h => ?_) (fun h => ?_) | refine ⟨i64 (by omega) (by omega), ?_⟩ | refine ⟨_, _, rfl, List.getElem?_eq_getElem (by omega), ?_⟩ | refine ⟨_, ⟨rfl, by omega⟩, ?_⟩ | refine ⟨_, List.getElem?_eq_getElem (by omega), ?_⟩ | refine rtB ?_ | refine rtI ?_ | refine rtC ?_ rfl | fail)
  refine XM.seq ?_
  (conv => whnf)
  refine ⟨id.toNat, ⟨by omega, by simp; omega⟩, ?_⟩
  (conv => whnf)
  refine ⟨_, true, List.getElem?_eq_getElem (by simp; omega), ⟨by decide, rfl⟩, ?_⟩
  repeat' ((conv => whnf); first | (refine dec (fun h => ?_) (fun h => ?_) <;> try contradiction) | (refine decN (fun h => ?_) (fun h => ?_) <;> try contradiction) | refine booN (fun h => ?_) (fun h => ?_) | refine boo (fun h => ?_) (fun h => ?_) | refine ⟨i64 (by omega) (by omega), ?_⟩ | refine ⟨_, _, rfl, List.getElem?_eq_getElem (by omega), ?_⟩ | refine ⟨_, ⟨rfl, by omega⟩, ?_⟩ | refine ⟨_, List.getElem?_eq_getElem (by omega), ?_⟩ | refine rtB ?_ | refine rtI ?_ | refine rtC ?_ rfl | fail)
  refine XM.join (ι := List Bool) (fun vis => ⟨[(6, .c (.rw 1)), (8, .c (.rw 0))], [.row 1 Bool encBo vis, .row 1 Int encI []]⟩) (fun vis => vis.length = L.length ∧ ∀ k, Mk vis k ↔ Anc L id k) ?_ (fun vis hv => ?_)
  · (conv => whnf)
    refine ⟨i64 (by omega) (by omega), ?_⟩
    (conv => whnf)
    refine lp (Nat × List Bool) (fun | (i, vis) => ⟨[(0, .c (.bp [.bs 6 Ob encOb L])), (6, .c (.rw 2)), (7, .c (.rw 1)), (8, .c (.rw 0)), (9, .c (.int .i64 ((i : Int) - 1)))], [.row 1 Bool encBo vis, .row 1 Int encI R, .row 1 Int encI []]⟩)
      (fun x => x.1 ≤ R.length ∧ Ln L id R x.2 x.1) (fun x => x.1) (R.length, (List.replicate L.length false).set id.toNat true) [] [.same 2, .same 1, .new] ?_ ?_ (fun x hx => ?_)
    · exact ⟨Nat.le_refl _, Ln.start h3⟩
    · repeat' first | exact trivial | exact rfl | refine And.intro ?_ ?_
    obtain ⟨i, vis⟩ := x
    obtain ⟨h1, hx⟩ := hx
    dsimp only at h1 hx
    have hvl := hx.len
    (conv => whnf)
    refine dec (fun h4 => ?_) (fun h4 => ?_)
    · have hlt : i - 1 < R.length := by omega
      have hRm := (hR R[i - 1]).1 (List.getElem_mem hlt)
      obtain ⟨q1, q2⟩ := kindOf_pos (hRm.kind hL)
      have hdr : R.drop (i - 1) = R[i - 1] :: R.drop i := by
        rw [List.drop_eq_getElem_cons hlt, show i - 1 + 1 = i by omega]
      have hab : ∀ x ∈ R.drop i, R[i - 1] < x := fun x hx2 => by
        have := hRr.drop (i := i - 1)
        rw [hdr] at this
        exact (List.pairwise_cons.1 this).1 x hx2
      (conv => whnf)
      refine ⟨i - 1, ⟨by omega, by omega⟩, ?_⟩
      (conv => whnf)
      refine ⟨R[i - 1], List.getElem?_eq_getElem (by omega), ?_⟩
      generalize R[i - 1] = k at *
      (conv => whnf)
      refine ⟨k.toNat, ⟨by omega, by omega⟩, ?_⟩
      (conv => whnf)
      refine ⟨vis[k.toNat], List.getElem?_eq_getElem (by omega), ?_⟩
      (conv => whnf)
      refine boo (fun h6 => ?_) (fun h6 => ?_)
      · have hmi : Mk vis k := ⟨k.toNat, by omega, by rw [List.getElem?_eq_getElem (by omega), h6]⟩
        have hak := hx.sound _ hmi
        have hkk := hak.kind hL h3
        have hpar := (hL.get (id := k) (by omega)).parents
        (conv => whnf)
        refine ⟨k.toNat, getP L k, by omega, by rw [getP_at q1 q2]; exact List.getElem?_eq_getElem q2, ?_⟩
        (conv => whnf)
        refine lp (Nat × List Bool) (fun | (j, vis) => ⟨[(0, .c (.bp [.bs 6 Ob encOb L])), (6, .c (.rw 2)), (7, .c (.rw 1)), (8, .c (.rw 0)), (9, .c (.int .i64 ((i : Int) - 1))), (11, .c (.ptr 3 0)), (12, .c (.int .i64 j))], [.row 1 Bool encBo vis, .row 1 Int encI R, .row 1 Int encI [], .box (encOb (getP L k))]⟩)
          (fun x => x.1 ≤ (getP L k).parents.length ∧ Ln L id R x.2 i ∧ ∀ m ∈ (getP L k).parents.take x.1, Mk x.2 m) (fun x => (getP L k).parents.length - x.1) (0, vis) [] [.same 0, .same 1, .same 2, .same 3] ?_ ?_ (fun x hy => ?_)
        · exact ⟨Nat.zero_le _, hx, fun m h => by cases h⟩
        · repeat' first | exact trivial | exact rfl | refine And.intro ?_ ?_
        obtain ⟨j, vis⟩ := x
        obtain ⟨g1, gx, gm⟩ := hy
        dsimp only at g1 gx gm
        have hvl := gx.len
        (conv => whnf)
        refine dec (fun h7 => ?_) (fun h7 => ?_)
        · have hjt : j < (getP L k).parents.length := by omega
          have hmem := List.getElem_mem hjt
          have hpk := par_kind hL hkk hmem
          have hnv := par_lt hL hmem
          have hset := fun m => mk_set hvl (show ¬ kindOf L (getP L k).parents[j] = 0 by omega) (k := m)
          have htk := List.take_succ_eq_append_getElem hjt
          (conv => whnf)
          refine ⟨j, (getP L k).parents[j], rfl, List.getElem?_eq_getElem hjt, ?_⟩
          (conv => whnf)
          refine ⟨(getP L k).parents[j].toNat, ⟨by omega, by omega⟩, ?_⟩
          (conv => whnf)
          refine ⟨_, true, List.getElem?_eq_getElem (by omega), ⟨by decide, rfl⟩, ?_⟩
          repeat' ((conv => whnf); first | (refine dec (fun h => ?_) (fun h => ?_) <;> try contradiction) | (refine decN (fun h => ?_) (fun h => ?_) <;> try contradiction) | refine booN (fun h => ?_) (fun h => ?_) | refine boo (fun h => ?_) (fun h => ?_) | refine ⟨i64 (by omega) (by omega), ?_⟩ | refine ⟨_, _, rfl, List.getElem?_eq_getElem (by omega), ?_⟩ | refine ⟨_, ⟨rfl, by omega⟩, ?_⟩ | refine ⟨_, List.getElem?_eq_getElem (by omega), ?_⟩ | refine rtB ?_ | refine rtI ?_ | refine rtC ?_ rfl | fail)
          refine ag (j + 1, vis.set (getP L k).parents[j].toNat true) [] [.same 0, .same 1, .same 2, .same 3] ⟨hjt, ⟨by rw [List.length_set]; exact hvl, fun m hk => ?_, (hset id).2 (.inl gx.me), fun x hx2 hm p hp => ?_⟩, fun m hm => ?_⟩ (by simp only []; omega) ?_
          · rcases (hset m).1 hk with h3 | rfl
            · exact gx.sound m h3
            · exact hak.next hmem
          · refine (hset p).2 (.inl (gx.clos x hx2 ?_ p hp))
            refine ((hset x).1 hm).resolve_right (fun e => ?_)
            have := hab x hx2
            have := hnv.2.1
            omega
          · dsimp only at hm
            rw [htk, List.mem_append, List.mem_singleton] at hm
            exact (hset m).2 (hm.imp (gm m) fun h => h)
          · repeat' first | exact trivial | exact rfl | refine And.intro ?_ ?_
        · rw [List.take_of_length_le (by omega)] at gm
          repeat' ((conv => whnf); first | (refine dec (fun h => ?_) (fun h => ?_) <;> try contradiction) | (refine decN (fun h => ?_) (fun h => ?_) <;> try contradiction) | refine booN (fun h => ?_) (fun h => ?_) | refine boo (fun h => ?_) (fun h => ?_) | refine ⟨i64 (by omega) (by omega), ?_⟩ | refine ⟨_, _, rfl, List.getElem?_eq_getElem (by omega), ?_⟩ | refine ⟨_, ⟨rfl, by omega⟩, ?_⟩ | refine ⟨_, List.getElem?_eq_getElem (by omega), ?_⟩ | refine rtB ?_ | refine rtI ?_ | refine rtC ?_ rfl | fail)
          refine ag (i - 1, vis) [] [.same 0, .same 1, .same 2] ⟨by simp only []; omega, ⟨hvl, gx.sound, gx.me, fun x hx2 hm p hp => ?_⟩⟩ (by simp only []; omega) ?_
          · rw [hdr] at hx2
            rcases List.mem_cons.1 hx2 with rfl | hx2
            · exact gm p hp
            · exact gx.clos x hx2 hm p hp
          · repeat' first | exact trivial | exact rfl | refine And.intro ?_ ?_
            all_goals (show C.int IntKind.i64 _ = C.int IntKind.i64 _; congr 1; omega)
      · repeat' ((conv => whnf); first | (refine dec (fun h => ?_) (fun h => ?_) <;> try contradiction) | (refine decN (fun h => ?_) (fun h => ?_) <;> try contradiction) | refine booN (fun h => ?_) (fun h => ?_) | refine boo (fun h => ?_) (fun h => ?_) | refine ⟨i64 (by omega) (by omega), ?_⟩ | refine ⟨_, _, rfl, List.getElem?_eq_getElem (by omega), ?_⟩ | refine ⟨_, ⟨rfl, by omega⟩, ?_⟩ | refine ⟨_, List.getElem?_eq_getElem (by omega), ?_⟩ | refine rtB ?_ | refine rtI ?_ | refine rtC ?_ rfl | fail)
        refine ag (i - 1, vis) [] [.same 0, .same 1, .same 2] ⟨by simp only []; omega, ⟨hvl, hx.sound, hx.me, fun x hx2 hm p hp => ?_⟩⟩ (by simp only []; omega) ?_
        · rw [hdr] at hx2
          rcases List.mem_cons.1 hx2 with rfl | hx2
          · exfalso
            obtain ⟨n, e1, e2⟩ := hm
            have hxn : x.toNat < vis.length := by rw [hvl]; exact q2
            have e3 : n = x.toNat := by omega
            rw [e3, List.getElem?_eq_getElem hxn, h6] at e2
            cases e2
          · exact hx.clos x hx2 hm p hp
        · repeat' first | exact trivial | exact rfl | refine And.intro ?_ ?_
          all_goals (show C.int IntKind.i64 _ = C.int IntKind.i64 _; congr 1; omega)
    · have h4 : ¬ (i : Int) - 1 ≥ 0 := h4
      obtain rfl : i = 0 := by omega
      (conv => whnf)
      refine ⟨vis, ⟨hvl, hx.stop hL h3 hR⟩, [], [.same 0, .same 2], ?_⟩
      repeat' first | exact trivial | exact rfl | refine And.intro ?_ ?_
  obtain ⟨hvl, hv⟩ := hv
  rw [← outOf_anc hL h3 hvl hv, ← hvl]
  refine XM.of ?_
  (conv => whnf)
  refine lp Nat (fun i => ⟨[(8, .c (.rw 0)), (6, .c (.rw 1)), (13, .c (.int .i64 i))], [.row 1 Bool encBo vis, .row 1 Int encI (outOf vis i)]⟩) (fun i => i ≤ vis.length ∧ True) (fun i => vis.length - i) 0 [] [.same 0, .same 1] ?_ ?_ (fun i hi => ?_)
  · simp
  · repeat' first | exact trivial | exact rfl | refine And.intro ?_ ?_
  (conv => whnf)
  refine dec (fun h4 => ?_) (fun h4 => ?_)
  · have hlt : i < vis.length := by omega
    have ho := outOf_succ hlt
    have hol := outOf_len (vis := vis) (i := i)
    repeat' ((conv => whnf); first | (refine dec (fun h => ?_) (fun h => ?_) <;> try contradiction) | (refine decN (fun h => ?_) (fun h => ?_) <;> try contradiction) | refine booN (fun h => ?_) (fun h => ?_) | refine boo (fun h => ?_) (fun h => ?_) | refine ⟨i64 (by omega) (by omega), ?_⟩ | refine ⟨_, _, rfl, List.getElem?_eq_getElem (by omega), ?_⟩ | refine ⟨_, ⟨rfl, by omega⟩, ?_⟩ | refine ⟨_, List.getElem?_eq_getElem (by omega), ?_⟩ | refine rtB ?_ | refine rtI ?_ | refine rtC ?_ rfl | fail)
    · rw [if_pos h] at ho
      (conv => whnf)
      refine ⟨[(i : Int)], rfl, ?_⟩
      (conv => whnf)
      refine ⟨_, _, rfl, rfl, (by simp only [List.length_append, List.length_cons, List.length_nil]; omega), ?_⟩
      repeat' ((conv => whnf); first | (refine dec (fun h => ?_) (fun h => ?_) <;> try contradiction) | (refine decN (fun h => ?_) (fun h => ?_) <;> try contradiction) | refine booN (fun h => ?_) (fun h => ?_) | refine boo (fun h => ?_) (fun h => ?_) | refine ⟨i64 (by omega) (by omega), ?_⟩ | refine ⟨_, _, rfl, List.getElem?_eq_getElem (by omega), ?_⟩ | refine ⟨_, ⟨rfl, by omega⟩, ?_⟩ | refine ⟨_, List.getElem?_eq_getElem (by omega), ?_⟩ | refine rtB ?_ | refine rtI ?_ | refine rtC ?_ rfl | fail)
      refine ag (i + 1) [] [.same 0, .same 3] ⟨hlt, trivial⟩ (by simp only []; omega) ?_
      repeat' first | exact trivial | exact rfl | refine And.intro ?_ ?_
      rw [ho]; exact rfl
    · rw [if_neg (by simp [h]), List.append_nil] at ho
      repeat' ((conv => whnf); first | (refine dec (fun h => ?_) (fun h => ?_) <;> try contradiction) | (refine decN (fun h => ?_) (fun h => ?_) <;> try contradiction) | refine booN (fun h => ?_) (fun h => ?_) | refine boo (fun h => ?_) (fun h => ?_) | refine ⟨i64 (by omega) (by omega), ?_⟩ | refine ⟨_, _, rfl, List.getElem?_eq_getElem (by omega), ?_⟩ | refine ⟨_, ⟨rfl, by omega⟩, ?_⟩ | refine ⟨_, List.getElem?_eq_getElem (by omega), ?_⟩ | refine rtB ?_ | refine rtI ?_ | refine rtC ?_ rfl | fail)
      refine ag (i + 1) [] [.same 0, .same 1] ⟨hlt, trivial⟩ (by simp only []; omega) ?_
      repeat' first | exact trivial | exact rfl | refine And.intro ?_ ?_
      rw [ho]; exact rfl
  · have h4 : ¬ (i : Int) < vis.length := h4
    obtain rfl : i = vis.length := by omega
    (conv => whnf)
    exact rx [] [.same 1]
end Go.Nest
end
