/- WALKS, F7: the files of a tree; the tree at a directory. -/
import Derived.Test.YtogallppofinhaaGreatDoorF6
namespace Go.Nest
open Go Go.AM Go.Proofs
open Go.Proofs.YtogallppofinhaaGreatDoor (tab tabOk)
set_option linter.unusedVariables false
set_option linter.unusedSimpArgs false
set_option maxRecDepth 4000

theorem flatBuild_spec (L : List Ob) (l : List Fi) (hL : PoolOk L) (hp : ∀ f ∈ l, f.path.length ≤ 4000000) : Does Tryz.prog 101 [.c (.ptr 0 0), .c (.bs 4 Fi encFi l)] [.box [.rw 1], .row 6 Ob encOb L] (Rt (.tup [(false, [.int .i64 (buildP L l).1]), (false, [.int .i64 (buildP L l).2.1])]) [.box [.rw 2], .dead, .row 6 Ob encOb (buildP L l).2.2]) := by
  refine X_spec (n := 17) (n0 := 2) tabOk Tryz.call101 Tryz.func101 ?_
  intro hb
  (conv => whnf)
  refine cl [] [] (flatCheck_spec l hp) ?_
  unfold buildP
  (conv => whnf)
  refine decN (fun h => ?_) (fun h => ?_)
  · rw [if_pos h]
    (conv => whnf)
    exact rx [] [.same 0, .same 1, .same 1]
  · have h0 : filesF l = 0 := by simpa using h
    have h1 := (filesF_all h0).1
    rw [if_neg (by simpa using h0)]
    (conv => whnf)
    refine cl [] [0, 1] (build_spec (mu l + 1) L l (Nat.lt_succ_self _) hL h1 hp) ?_
    (conv => whnf)
    exact rx [] [.same 0, .same 1, .same 2]

theorem unsp_bound : ∀ (l : List (List UInt8)), (∀ s ∈ l, s.length ≤ 20) → (unsp l).length ≤ 21 * l.length
  | [], _ => by simp [unsp]
  | [x], h => by have := h x (by simp); simp [unsp]; omega
  | x :: y :: r, h => by
    have h1 := h x (by simp)
    have h2 := unsp_bound (y :: r) (fun s hs => h s (by simp at hs ⊢; exact .inr hs))
    simp [unsp] at h2 ⊢
    omega
theorem name_len {s : List UInt8} (h : nameC s = 0) : s.length ≤ 20 := by
  unfold nameC at h
  split at h
  · cases h
  split at h
  · cases h
  · omega

theorem goF_len (L : List Ob) : ∀ (n : Nat) (t : Int) (ins : List (List UInt8)) (out : List Fi), out.length ≤ 60 → (goF L n t ins out).2.length ≤ 60
  | 0, _, _, out, h => h
  | n + 1, t, ins, out, h => by
    have key : ∀ (es : List Ent) (out : List Fi), out.length ≤ 60 → (stepE (goF L n) ins es out).2.length ≤ 60 := by
      intro es
      induction es with
      | nil => intro out h; exact h
      | cons e r ih =>
        intro out h
        unfold stepE
        split
        · split
          · exact goF_len L n _ _ out h
          · exact ih _ (goF_len L n _ _ out h)
        · split
          · exact h
          · exact ih _ (by rw [List.length_append, List.length_singleton]; omega)
    unfold goF
    split
    · exact h
    split
    · exact h
    · exact key _ out h
set_option maxHeartbeats 4000000 in
theorem files_spec (L : List Ob) (hL : PoolOk L) : ∀ (n : Nat) (t : Int) (ins : List (List UInt8)) (out : List Fi), ins.length + n = 8 → (∀ s ∈ ins, s.length ≤ 20) → out.length ≤ 60 → Does Tryz.prog 123 [.c (.bp [.bs 6 Ob encOb L]), .c (.int .i64 t), .c (.bs 1 (List UInt8) encS ins), .c (.ptr 0 0)] [.box [.rw 1], .row 4 Fi encFi out]
    (Rt (.c (.int .i64 (goF L (n + 1) t ins out).1)) [.box [.rw 2], .dead, .row 4 Fi encFi (goF L (n + 1) t ins out).2]) := by
  intro n
  induction n using Nat.strongRecOn with
  | _ n ih =>
  intro t ins out hn hs hout
  refine X_spec (n := 86) (n0 := 2) tabOk Tryz.call123 Tryz.func123 ?_
  intro hb
  (conv => whnf)
  refine cl [] [] (get_spec L hL t) ?_
  have hkk := getP_kind (l := L) (id := t)
  by_cases hk : kindOf L t ≠ 2
  · have e0 : goF L (n + 1) t ins out = (9, out) := by rw [goF, if_pos hk]
    rw [e0]
    by_cases hk0 : kindOf L t = 0
    · rw [show decide (kindOf L t ≠ 0) = false by simp [hk0]]
      (conv => whnf)
      exact rx [] [.same 0, .same 1, .same 1]
    · rw [show decide (kindOf L t ≠ 0) = true by simp [hk0]]
      (conv => whnf)
      refine decN (fun _ => ?_) (fun h => absurd (hkk.symm.trans h) hk)
      (conv => whnf)
      exact rx [] [.same 0, .same 1, .same 1]
  have hk : kindOf L t = 2 := Classical.not_not.1 hk
  rw [show decide (kindOf L t ≠ 0) = true by simp [hk]]
  have e0 : goF L (n + 1) t ins out = if 8 ≤ ins.length ∧ 0 < (getP L t).entries.length then (3, out) else stepE (goF L n) ins (getP L t).entries out := by rw [goF, if_neg (by simpa using hk)]
  obtain ⟨hr1, hr2⟩ := tree_ok hL hk
  have hel := (hL.tree hk).2.2.1
  generalize he : getP L t = o at *
  (conv => whnf)
  refine decN (fun h => absurd (hkk.trans hk) h) (fun _ => ?_)
  (conv => whnf)
  have hfin : ¬ (8 ≤ ins.length ∧ 0 < o.entries.length) → True := fun _ => trivial
  refine dec (fun h8 => ?_) (fun h8 => ?_)
  · (conv => whnf)
    refine dec (fun h9 => ?_) (fun h9 => ?_)
    · have e1 : goF L (n + 1) t ins out = (3, out) := by rw [e0, if_pos (by omega)]
      rw [e1]
      (conv => whnf)
      exact rx [] [.same 0, .same 1, .same 1]
    · rw [if_neg (by omega)] at e0
      have hes : o.entries = [] := List.eq_nil_of_length_eq_zero (by omega)
      have h8' : o.entries ≠ [] → ins.length < 8 := fun h => absurd hes h
      rw [e0]
      (conv => whnf)
      refine lp (Nat × List Fi) (fun x => ⟨[(0, .c (.bp [.bs 6 Ob encOb L])), (2, .c (.bs 1 (List UInt8) encS ins)), (3, .c (.ptr 0 0)), (40, .c (.ls 4 Ent encEn o.entries)), (41, .c (.int .i64 o.entries.length)), (42, .c (.int .i64 x.1))], [.box [.rw 2], .dead, .row 4 Fi encFi x.2]⟩)
        (fun x => (x.1 ≤ o.entries.length ∧ x.2.length ≤ 60) ∧ stepE (goF L n) ins o.entries out = stepE (goF L n) ins (o.entries.drop x.1) x.2) (fun x => o.entries.length - x.1) (0, out) [] [.same 0, .same 1, .same 1] ?_ ?_ (fun x hx => ?_)
      · exact ⟨⟨Nat.zero_le _, hout⟩, rfl⟩
      · repeat' first | exact trivial | exact rfl | refine And.intro ?_ ?_
      obtain ⟨i, q⟩ := x
      obtain ⟨⟨g1, g2⟩, g3⟩ := hx
      dsimp only at g1 g2 g3
      (conv => whnf)
      refine dec (fun h4 => ?_) (fun h4 => ?_)
      · have hlt : i < o.entries.length := by simpa using h4
        have hE := hr2 _ (List.getElem_mem hlt)
        have h8 := h8' (by intro h; rw [h] at hlt; simp at hlt)
        rw [List.drop_eq_getElem_cons hlt] at g3
        (conv => whnf)
        refine ⟨i, o.entries[i], rfl, List.getElem?_eq_getElem hlt, ?_⟩
        (conv => whnf)
        have hsz : (ins ++ [o.entries[i].name]).length ≤ 8 := by rw [List.length_append, List.length_singleton]; omega
        refine ⟨false, .grow, (.alt [0, 2, 3] [1, 4] fun j => bif Nat.beq j 1 then (.l [4, 5, 6]) else bif Nat.beq j 4 then (.l [1, 5, 6]) else .l []), by kernel_rfl, .inr ⟨Unit, fun _ => ⟨[(0, .c (.bp [.bs 6 Ob encOb L])), (2, .c (.bs 1 (List UInt8) encS ins)), (3, .c (.ptr 0 0)), (40, .c (.ls 4 Ent encEn o.entries)), (41, .c (.int .i64 o.entries.length)), (42, .c (.int .i64 i)), (12, .c (.ptr 3 0)), (13, .c (.rw 4))], [.box [.rw 2], .dead, .row 4 Fi encFi q, .box (encEn o.entries[i]), .row 1 (List UInt8) encS (ins ++ [o.entries[i].name])]⟩, fun _ => True, ?_, ?_⟩⟩
        · (conv => whnf)
          refine And.intro ?_ ?_
          · (conv => whnf)
            refine cl [] [] (cloneTexts_spec ins (by omega)) ?_
            (conv => whnf)
            refine ⟨[o.entries[i].name], rfl, ?_⟩
            (conv => whnf)
            refine ⟨_, _, rfl, rfl, (by simp only [List.length_append, List.length_cons, List.length_nil]; omega), ?_⟩
            (conv => whnf)
            refine ⟨(), trivial, [], [.same 0, .same 1, .same 2, .same 3, .same 6], ?_⟩
            repeat' first | exact trivial | exact rfl | refine And.intro ?_ ?_
          · (conv => whnf)
            refine ⟨[o.entries[i].name], rfl, ?_⟩
            (conv => whnf)
            refine cl [] [] (cloneTexts_spec ins (by omega)) ?_
            (conv => whnf)
            refine ⟨_, _, rfl, rfl, (by simp only [List.length_append, List.length_cons, List.length_nil]; omega), ?_⟩
            (conv => whnf)
            refine ⟨(), trivial, [], [.same 0, .same 1, .same 2, .same 3, .same 6], ?_⟩
            repeat' first | exact trivial | exact rfl | refine And.intro ?_ ?_
        intro _ _
        have hnm : ∀ s ∈ ins ++ [o.entries[i].name], s.length ≤ 20 := fun s h => by
          rcases List.mem_append.1 h with h | h
          · exact hs s h
          · rw [List.mem_singleton] at h; rw [h]; exact name_len hE.name
        (conv => whnf)
        refine dec (fun hm => ?_) (fun hm => ?_)
        · obtain ⟨n', rfl⟩ : ∃ m, n = m + 1 := ⟨n - 1, by omega⟩
          rw [stepE, if_pos hm] at g3
          (conv => whnf)
          refine cl [] [0, 2] (ih n' (by omega) o.entries[i].id (ins ++ [o.entries[i].name]) q (by rw [List.length_append, List.length_singleton]; omega) hnm g2) ?_
          have hlR := goF_len L (n' + 1) o.entries[i].id (ins ++ [o.entries[i].name]) q g2
          generalize goF L (n' + 1) o.entries[i].id (ins ++ [o.entries[i].name]) q = R at *
          (conv => whnf)
          refine decN (fun h5 => ?_) (fun h5 => ?_)
          · rw [if_pos h5] at g3
            rw [g3]
            (conv => whnf)
            exact rx [] [.same 0, .same 1, .same 5]
          · rw [if_neg (by simpa using h5)] at g3
            repeat' ((conv => whnf); first | (refine dec (fun h => ?_) (fun h => ?_) <;> try contradiction) | (refine decN (fun h => ?_) (fun h => ?_) <;> try contradiction) | refine booN (fun h => ?_) (fun h => ?_) | refine boo (fun h => ?_) (fun h => ?_) | refine ⟨i64 (by omega) (by omega), ?_⟩ | refine ⟨_, _, rfl, List.getElem?_eq_getElem (by omega), ?_⟩ | refine ⟨_, ⟨rfl, by omega⟩, ?_⟩ | refine ⟨_, List.getElem?_eq_getElem (by omega), ?_⟩ | refine rtB ?_ | refine rtI ?_ | refine rtC ?_ rfl | fail)
            refine ag (i + 1, R.2) [] [.same 0, .same 1, .same 5] ⟨⟨hlt, hlR⟩, g3⟩ (by simp only []; omega) ?_
            repeat' first | exact trivial | exact rfl | refine And.intro ?_ ?_
        · rw [stepE, if_neg hm] at g3
          (conv => whnf)
          refine dec (fun h5 => ?_) (fun h5 => ?_)
          · rw [if_pos (by omega)] at g3
            rw [g3]
            (conv => whnf)
            exact rx [] [.same 0, .same 1, .same 2]
          · rw [if_neg (by omega)] at g3
            have hul := unsp_bound _ hnm
            (conv => whnf)
            refine ⟨false, .grow, (.l [0, 1, 2, 3, 4, 6, 7, 8, 9, 10, 11, 5, 12, 13, 14, 15, 16]), by kernel_rfl, .inr ⟨Unit, fun _ => ⟨[(0, .c (.bp [.bs 6 Ob encOb L])), (2, .c (.bs 1 (List UInt8) encS ins)), (3, .c (.ptr 0 0)), (40, .c (.ls 4 Ent encEn o.entries)), (41, .c (.int .i64 o.entries.length)), (42, .c (.int .i64 i))], [.box [.rw 2], .dead, .row 4 Fi encFi (q ++ [⟨unsp (ins ++ [o.entries[i].name]), o.entries[i].mode, o.entries[i].id, o.entries[i].repo⟩])]⟩, fun _ => True, ?_, ?_⟩⟩
            · (conv => whnf)
              refine cl [] [] (pathsJoin_spec (ins ++ [o.entries[i].name]) (by omega) (by omega)) ?_
              (conv => whnf)
              refine ⟨[⟨unsp (ins ++ [o.entries[i].name]), o.entries[i].mode, o.entries[i].id, o.entries[i].repo⟩], rfl, ?_⟩
              (conv => whnf)
              refine ⟨_, _, rfl, rfl, (by simp only [List.length_append, List.length_cons, List.length_nil]; omega), ?_⟩
              (conv => whnf)
              refine ⟨(), trivial, [], [.same 0, .same 1, .same 6], ?_⟩
              repeat' first | exact trivial | exact rfl | refine And.intro ?_ ?_
            intro _ _
            repeat' ((conv => whnf); first | (refine dec (fun h => ?_) (fun h => ?_) <;> try contradiction) | (refine decN (fun h => ?_) (fun h => ?_) <;> try contradiction) | refine booN (fun h => ?_) (fun h => ?_) | refine boo (fun h => ?_) (fun h => ?_) | refine ⟨i64 (by omega) (by omega), ?_⟩ | refine ⟨_, _, rfl, List.getElem?_eq_getElem (by omega), ?_⟩ | refine ⟨_, ⟨rfl, by omega⟩, ?_⟩ | refine ⟨_, List.getElem?_eq_getElem (by omega), ?_⟩ | refine rtB ?_ | refine rtI ?_ | refine rtC ?_ rfl | fail)
            refine ag (i + 1, (q ++ [⟨unsp (ins ++ [o.entries[i].name]), o.entries[i].mode, o.entries[i].id, o.entries[i].repo⟩])) [] [.same 0, .same 1, .same 2] ⟨⟨hlt, by simp only [List.length_append, List.length_cons, List.length_nil]; omega⟩, g3⟩ (by simp only []; omega) ?_
            repeat' first | exact trivial | exact rfl | refine And.intro ?_ ?_
      · rw [List.drop_of_length_le (by simp at h4; omega)] at g3
        rw [g3]
        (conv => whnf)
        exact rx [] [.same 0, .same 1, .same 2]
  · rw [if_neg (by omega)] at e0
    have h8' : o.entries ≠ [] → ins.length < 8 := fun _ => by omega
    rw [e0]
    (conv => whnf)
    refine lp (Nat × List Fi) (fun x => ⟨[(0, .c (.bp [.bs 6 Ob encOb L])), (2, .c (.bs 1 (List UInt8) encS ins)), (3, .c (.ptr 0 0)), (40, .c (.ls 4 Ent encEn o.entries)), (41, .c (.int .i64 o.entries.length)), (42, .c (.int .i64 x.1))], [.box [.rw 2], .dead, .row 4 Fi encFi x.2]⟩)
      (fun x => (x.1 ≤ o.entries.length ∧ x.2.length ≤ 60) ∧ stepE (goF L n) ins o.entries out = stepE (goF L n) ins (o.entries.drop x.1) x.2) (fun x => o.entries.length - x.1) (0, out) [] [.same 0, .same 1, .same 1] ?_ ?_ (fun x hx => ?_)
    · exact ⟨⟨Nat.zero_le _, hout⟩, rfl⟩
    · repeat' first | exact trivial | exact rfl | refine And.intro ?_ ?_
    obtain ⟨i, q⟩ := x
    obtain ⟨⟨g1, g2⟩, g3⟩ := hx
    dsimp only at g1 g2 g3
    (conv => whnf)
    refine dec (fun h4 => ?_) (fun h4 => ?_)
    · have hlt : i < o.entries.length := by simpa using h4
      have hE := hr2 _ (List.getElem_mem hlt)
      have h8 := h8' (by intro h; rw [h] at hlt; simp at hlt)
      rw [List.drop_eq_getElem_cons hlt] at g3
      (conv => whnf)
      refine ⟨i, o.entries[i], rfl, List.getElem?_eq_getElem hlt, ?_⟩
      (conv => whnf)
      have hsz : (ins ++ [o.entries[i].name]).length ≤ 8 := by rw [List.length_append, List.length_singleton]; omega
      refine ⟨false, .grow, (.alt [0, 2, 3] [1, 4] fun j => bif Nat.beq j 1 then (.l [4, 5, 6]) else bif Nat.beq j 4 then (.l [1, 5, 6]) else .l []), by kernel_rfl, .inr ⟨Unit, fun _ => ⟨[(0, .c (.bp [.bs 6 Ob encOb L])), (2, .c (.bs 1 (List UInt8) encS ins)), (3, .c (.ptr 0 0)), (40, .c (.ls 4 Ent encEn o.entries)), (41, .c (.int .i64 o.entries.length)), (42, .c (.int .i64 i)), (12, .c (.ptr 3 0)), (13, .c (.rw 4))], [.box [.rw 2], .dead, .row 4 Fi encFi q, .box (encEn o.entries[i]), .row 1 (List UInt8) encS (ins ++ [o.entries[i].name])]⟩, fun _ => True, ?_, ?_⟩⟩
      · (conv => whnf)
        refine And.intro ?_ ?_
        · (conv => whnf)
          refine cl [] [] (cloneTexts_spec ins (by omega)) ?_
          (conv => whnf)
          refine ⟨[o.entries[i].name], rfl, ?_⟩
          (conv => whnf)
          refine ⟨_, _, rfl, rfl, (by simp only [List.length_append, List.length_cons, List.length_nil]; omega), ?_⟩
          (conv => whnf)
          refine ⟨(), trivial, [], [.same 0, .same 1, .same 2, .same 3, .same 6], ?_⟩
          repeat' first | exact trivial | exact rfl | refine And.intro ?_ ?_
        · (conv => whnf)
          refine ⟨[o.entries[i].name], rfl, ?_⟩
          (conv => whnf)
          refine cl [] [] (cloneTexts_spec ins (by omega)) ?_
          (conv => whnf)
          refine ⟨_, _, rfl, rfl, (by simp only [List.length_append, List.length_cons, List.length_nil]; omega), ?_⟩
          (conv => whnf)
          refine ⟨(), trivial, [], [.same 0, .same 1, .same 2, .same 3, .same 6], ?_⟩
          repeat' first | exact trivial | exact rfl | refine And.intro ?_ ?_
      intro _ _
      have hnm : ∀ s ∈ ins ++ [o.entries[i].name], s.length ≤ 20 := fun s h => by
        rcases List.mem_append.1 h with h | h
        · exact hs s h
        · rw [List.mem_singleton] at h; rw [h]; exact name_len hE.name
      (conv => whnf)
      refine dec (fun hm => ?_) (fun hm => ?_)
      · obtain ⟨n', rfl⟩ : ∃ m, n = m + 1 := ⟨n - 1, by omega⟩
        rw [stepE, if_pos hm] at g3
        (conv => whnf)
        refine cl [] [0, 2] (ih n' (by omega) o.entries[i].id (ins ++ [o.entries[i].name]) q (by rw [List.length_append, List.length_singleton]; omega) hnm g2) ?_
        have hlR := goF_len L (n' + 1) o.entries[i].id (ins ++ [o.entries[i].name]) q g2
        generalize goF L (n' + 1) o.entries[i].id (ins ++ [o.entries[i].name]) q = R at *
        (conv => whnf)
        refine decN (fun h5 => ?_) (fun h5 => ?_)
        · rw [if_pos h5] at g3
          rw [g3]
          (conv => whnf)
          exact rx [] [.same 0, .same 1, .same 5]
        · rw [if_neg (by simpa using h5)] at g3
          repeat' ((conv => whnf); first | (refine dec (fun h => ?_) (fun h => ?_) <;> try contradiction) | (refine decN (fun h => ?_) (fun h => ?_) <;> try contradiction) | refine booN (fun h => ?_) (fun h => ?_) | refine boo (fun h => ?_) (fun h => ?_) | refine ⟨i64 (by omega) (by omega), ?_⟩ | refine ⟨_, _, rfl, List.getElem?_eq_getElem (by omega), ?_⟩ | refine ⟨_, ⟨rfl, by omega⟩, ?_⟩ | refine ⟨_, List.getElem?_eq_getElem (by omega), ?_⟩ | refine rtB ?_ | refine rtI ?_ | refine rtC ?_ rfl | fail)
          refine ag (i + 1, R.2) [] [.same 0, .same 1, .same 5] ⟨⟨hlt, hlR⟩, g3⟩ (by simp only []; omega) ?_
          repeat' first | exact trivial | exact rfl | refine And.intro ?_ ?_
      · rw [stepE, if_neg hm] at g3
        (conv => whnf)
        refine dec (fun h5 => ?_) (fun h5 => ?_)
        · rw [if_pos (by omega)] at g3
          rw [g3]
          (conv => whnf)
          exact rx [] [.same 0, .same 1, .same 2]
        · rw [if_neg (by omega)] at g3
          have hul := unsp_bound _ hnm
          (conv => whnf)
          refine ⟨false, .grow, (.l [0, 1, 2, 3, 4, 6, 7, 8, 9, 10, 11, 5, 12, 13, 14, 15, 16]), by kernel_rfl, .inr ⟨Unit, fun _ => ⟨[(0, .c (.bp [.bs 6 Ob encOb L])), (2, .c (.bs 1 (List UInt8) encS ins)), (3, .c (.ptr 0 0)), (40, .c (.ls 4 Ent encEn o.entries)), (41, .c (.int .i64 o.entries.length)), (42, .c (.int .i64 i))], [.box [.rw 2], .dead, .row 4 Fi encFi (q ++ [⟨unsp (ins ++ [o.entries[i].name]), o.entries[i].mode, o.entries[i].id, o.entries[i].repo⟩])]⟩, fun _ => True, ?_, ?_⟩⟩
          · (conv => whnf)
            refine cl [] [] (pathsJoin_spec (ins ++ [o.entries[i].name]) (by omega) (by omega)) ?_
            (conv => whnf)
            refine ⟨[⟨unsp (ins ++ [o.entries[i].name]), o.entries[i].mode, o.entries[i].id, o.entries[i].repo⟩], rfl, ?_⟩
            (conv => whnf)
            refine ⟨_, _, rfl, rfl, (by simp only [List.length_append, List.length_cons, List.length_nil]; omega), ?_⟩
            (conv => whnf)
            refine ⟨(), trivial, [], [.same 0, .same 1, .same 6], ?_⟩
            repeat' first | exact trivial | exact rfl | refine And.intro ?_ ?_
          intro _ _
          repeat' ((conv => whnf); first | (refine dec (fun h => ?_) (fun h => ?_) <;> try contradiction) | (refine decN (fun h => ?_) (fun h => ?_) <;> try contradiction) | refine booN (fun h => ?_) (fun h => ?_) | refine boo (fun h => ?_) (fun h => ?_) | refine ⟨i64 (by omega) (by omega), ?_⟩ | refine ⟨_, _, rfl, List.getElem?_eq_getElem (by omega), ?_⟩ | refine ⟨_, ⟨rfl, by omega⟩, ?_⟩ | refine ⟨_, List.getElem?_eq_getElem (by omega), ?_⟩ | refine rtB ?_ | refine rtI ?_ | refine rtC ?_ rfl | fail)
          refine ag (i + 1, (q ++ [⟨unsp (ins ++ [o.entries[i].name]), o.entries[i].mode, o.entries[i].id, o.entries[i].repo⟩])) [] [.same 0, .same 1, .same 2] ⟨⟨hlt, by simp only [List.length_append, List.length_cons, List.length_nil]; omega⟩, g3⟩ (by simp only []; omega) ?_
          repeat' first | exact trivial | exact rfl | refine And.intro ?_ ?_
    · rw [List.drop_of_length_le (by simp at h4; omega)] at g3
      rw [g3]
      (conv => whnf)
      exact rx [] [.same 0, .same 1, .same 2]

theorem flatFiles_spec (L : List Ob) (hL : PoolOk L) (t : Int) : Does Tryz.prog 50 [.c (.bp [.bs 6 Ob encOb L]), .c (.int .i64 t)] [] (Rt (.tup [(false, [.rw 0]), (false, [.int .i64 (filesP L t).2])]) [.row 4 Fi encFi (filesP L t).1]) := by
  refine X_spM (n := 15) (n0 := 0) tabOk Tryz.call50 Tryz.func50 ?_
  intro hb
  have hs := files_spec L hL 8 t [] [] rfl (by simp) (by simp)
  have hl := goF_len L 9 t [] [] (by simp)
  unfold filesP
  generalize goF L 9 t [] [] = R at *
  refine XM.seq ?_
  (conv => whnf)
  refine XM.seq ?_
  (conv => whnf)
  refine XM.le (t := ⟨[(0, .c (.bp [.bs 6 Ob encOb L])), (1, .c (.int .i64 t)), (6, .c (.ptr 0 0))], [.box [.rw 1], .row 4 Fi encFi []]⟩) [] [.same 0, .new] (by repeat' first | exact trivial | exact rfl | refine And.intro ?_ ?_) ?_
  refine XM.of ?_
  (conv => whnf)
  refine cl [] [0, 1] (hs) ?_
  (conv => whnf)
  refine decN (fun h => ?_) (fun h => ?_)
  · rw [if_neg h]
    (conv => whnf)
    exact rx [] [.new]
  · rw [if_pos h]
    (conv => whnf)
    exact rx [] [.same 2]

end Go.Nest
