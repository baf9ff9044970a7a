/- WALKS, F3: files in order, all paths, all changes. -/
import Derived.Test.YtkoiljgjipmhbaaGreatDoorF2
section
namespace Go.Nest
open Go Go.AM Go.Proofs
open Go.Proofs.YtkoiljgjipmhbaaGreatDoor (tab tabOk)
set_option linter.unusedVariables false
set_option linter.unusedSimpArgs false
set_option maxRecDepth 4000

theorem tw_at {α : Type} {p : α → Bool} : ∀ {l : List α} {k : Nat}, k ≤ l.length → (∀ g ∈ l.take k, p g = true) → (∀ h : k < l.length, p l[k] = false) → l.takeWhile p = l.take k ∧ l.dropWhile p = l.drop k
  | [], 0, _, _, _ => ⟨rfl, rfl⟩
  | x :: l, 0, _, _, h => by have := h (by simp); simp at this; simp [this]
  | x :: l, k + 1, hk, h1, h2 => by
    have hx := h1 x (by simp)
    obtain ⟨h3, h4⟩ := tw_at (l := l) (k := k) (by simpa using hk) (fun g hg => h1 g (by simp [hg])) (fun h => h2 (by simpa using h))
    simp [hx, h3, h4]
  | [], k + 1, h, _, _ => by simp at h
theorem ins_at {f : Fi} {out : List Fi} {k : Nat} (hk : k ≤ out.length) (h1 : ∀ g ∈ out.take k, lessP f.path g.path = false) (h2 : ∀ h : k < out.length, lessP f.path out[k].path = true) : insF f out = out.take k ++ f :: out.drop k := by
  obtain ⟨h3, h4⟩ := tw_at (p := fun g : Fi => !lessP f.path g.path) hk (fun g hg => by simp [h1 g hg]) (fun h => by simp [h2 h])
  unfold insF
  rw [h3, h4]
def ordU (l : List Fi) (i : Nat) : List Fi := inOrdP (l.take i)
theorem ordU_succ {l : List Fi} {i : Nat} (h : i < l.length) : ordU l (i + 1) = insF l[i] (ordU l i) := by
  unfold ordU inOrdP
  rw [List.take_succ_eq_append_getElem h, List.foldl_append]; rfl
theorem ordU_len {l : List Fi} {i : Nat} (h : i ≤ l.length) : (ordU l i).length = i := by
  unfold ordU
  rw [(inOrd_perm _).length_eq, List.length_take]; omega
theorem ordU_mem {l : List Fi} {i : Nat} {f : Fi} (h : f ∈ ordU l i) : f ∈ l := List.mem_of_mem_take ((inOrd_perm _).mem_iff.1 h)

set_option maxHeartbeats 2000000 in
theorem inOrder_spec (l : List Fi) (hl : l.length ≤ 1000) (hp : ∀ f ∈ l, f.path.length ≤ 4000000) : Does Tryz.prog 24 [.c (.bs 4 Fi encFi l)] [] (Rt (.c (.rw 0)) [.row 4 Fi encFi (inOrdP l)]) := by
  refine X_spec ⟨Tryz.prog, tab, 50, 0⟩ tabOk (by kernel_rfl) Tryz.call24 Tryz.func24 rfl rfl (by kernel_rfl) rfl ?_
  intro hb
  (conv => whnf)
  refine lp Nat (fun i => ⟨[(0, .c (.bs 4 Fi encFi l)), (3, .c (.rw 0)), (4, .c (.int .i64 i))], [.row 4 Fi encFi (ordU l i)]⟩) (fun i => i ≤ l.length ∧ True) (fun i => l.length - i) 0 [] [.new] ?_ ?_ (fun i hi => ?_)
  · simp
  · repeat' first | exact trivial | exact rfl | refine And.intro ?_ ?_
  have hol := ordU_len hi.1
  (conv => whnf)
  refine dec (fun h4 => ?_) (fun h4 => ?_)
  · have hlt : i < l.length := by omega
    have hfp := hp _ (List.getElem_mem hlt)
    (conv => whnf)
    refine lp Nat (fun k => ⟨[(0, .c (.bs 4 Fi encFi l)), (3, .c (.rw 0)), (4, .c (.int .i64 i)), (5, .c (.int .i64 k))], [.row 4 Fi encFi (ordU l i)]⟩) (fun k => (k ≤ (ordU l i).length ∧ True) ∧ ∀ g ∈ (ordU l i).take k, lessP l[i].path g.path = false) (fun k => (ordU l i).length - k) 0 [] [.same 0] ?_ ?_ (fun k hk => ?_)
    · simp
    · repeat' first | exact trivial | exact rfl | refine And.intro ?_ ?_
    have fin : (∀ h : k < (ordU l i).length, lessP l[i].path (ordU l i)[k].path = true) → insF l[i] (ordU l i) = (ordU l i).take k ++ l[i] :: (ordU l i).drop k := fun h => ins_at hk.1.1 hk.2 h
    (conv => whnf)
    refine ⟨false, (.l [0, 1, 2, 3, 4, 5, 6, 7, 8, 9, 10, 11, 12, 13, 14, 15, 16, 17]), by kernel_rfl, .inl ?_⟩
    (conv => whnf)
    refine dec (fun h5 => ?_) (fun h5 => ?_)
    · have hkl : k < (ordU l i).length := by omega
      (conv => whnf)
      refine ⟨i, l[i], rfl, List.getElem?_eq_getElem hlt, ?_⟩
      (conv => whnf)
      refine ⟨k, ⟨rfl, hkl⟩, ?_⟩
      (conv => whnf)
      refine ⟨(ordU l i)[k], List.getElem?_eq_getElem hkl, ?_⟩
      (conv => whnf)
      refine cl [] [] (ahead_spec l[i].path (ordU l i)[k].path hfp (hp _ (ordU_mem (List.getElem_mem hkl)))) (by (repeat' first | exact trivial | exact rfl | refine And.intro ?_ ?_); first | done | fail) (by first | exact trivial | exact rfl) ?_
      (conv => whnf)
      refine booN (fun h6 => ?_) (fun h6 => ?_)
      · repeat' ((conv => whnf); first | (refine dec (fun h => ?_) (fun h => ?_) <;> try contradiction) | (refine decN (fun h => ?_) (fun h => ?_) <;> try contradiction) | refine booN (fun h => ?_) (fun h => ?_) | refine boo (fun h => ?_) (fun h => ?_) | refine ⟨i64 (by omega) (by omega), ?_⟩ | refine ⟨_, _, rfl, List.getElem?_eq_getElem (by omega), ?_⟩ | refine ⟨_, ⟨rfl, by omega⟩, ?_⟩ | refine ⟨_, List.getElem?_eq_getElem (by omega), ?_⟩ | refine rtB ?_ | refine rtI ?_ | refine rtC ?_ rfl | fail)
        refine ag (k + 1) [] [.same 0] ⟨⟨hkl, trivial⟩, fun g hg => ?_⟩ (by simp only []; omega) ?_
        · rw [List.take_succ_eq_append_getElem hkl, List.mem_append, List.mem_singleton] at hg
          rcases hg with hg | rfl
          · exact hk.2 g hg
          · exact h6
        · repeat' first | exact trivial | exact rfl | refine And.intro ?_ ?_
      · have fin := fin (fun _ => h6)
        rw [← ordU_succ hlt] at fin
        have e : ordU l (i + 1) = (([] ++ ((ordU l i).drop 0).take (k - 0)) ++ [l[i]]) ++ ((ordU l i).drop k).take ((ordU l i).length - k) := by
          rw [fin, List.take_of_length_le (l := List.drop k (ordU l i)) (by rw [List.length_drop]; exact Nat.le_refl _)]
          simp
        (conv => whnf)
        refine ⟨false, (.alt [0, 1, 2, 3, 5, 6, 7, 8] [4, 9] fun j => bif Nat.beq j 4 then (.l [9, 10, 11]) else bif Nat.beq j 9 then (.l [4, 10, 11]) else .l []), by kernel_rfl, .inl ?_⟩
        (conv => whnf)
        refine ⟨0, k, rfl, rfl, ⟨Nat.zero_le _, hk.1.1⟩, ?_⟩
        (conv => whnf)
        refine ⟨i, l[i], rfl, List.getElem?_eq_getElem hlt, ?_⟩
        (conv => whnf)
        refine And.intro ?_ ?_
        · (conv => whnf)
          refine ⟨[], _, rfl, rfl, (by simp only [List.length_take, List.length_drop, List.length_nil]; omega), ?_⟩
          (conv => whnf)
          refine ⟨[l[i]], rfl, ?_⟩
          (conv => whnf)
          refine ⟨_, _, rfl, rfl, (by simp only [List.length_take, List.length_drop, List.length_append, List.length_cons, List.length_nil]; omega), ?_⟩
          (conv => whnf)
          refine ⟨k, (ordU l i).length, rfl, rfl, ⟨hk.1.1, Nat.le_refl _⟩, ?_⟩
          (conv => whnf)
          refine ⟨_, _, rfl, rfl, (by simp only [List.length_take, List.length_drop, List.length_append, List.length_cons, List.length_nil]; omega), ?_⟩
          repeat' ((conv => whnf); first | (refine dec (fun h => ?_) (fun h => ?_) <;> try contradiction) | (refine decN (fun h => ?_) (fun h => ?_) <;> try contradiction) | refine booN (fun h => ?_) (fun h => ?_) | refine boo (fun h => ?_) (fun h => ?_) | refine ⟨i64 (by omega) (by omega), ?_⟩ | refine ⟨_, _, rfl, List.getElem?_eq_getElem (by omega), ?_⟩ | refine ⟨_, ⟨rfl, by omega⟩, ?_⟩ | refine ⟨_, List.getElem?_eq_getElem (by omega), ?_⟩ | refine rtB ?_ | refine rtI ?_ | refine rtC ?_ rfl | fail)
          refine ag (i + 1) [] [.same 4] ⟨hlt, trivial⟩ (by simp only []; omega) ?_
          rw [e]
          repeat' first | exact trivial | exact rfl | refine And.intro ?_ ?_
        · (conv => whnf)
          refine ⟨[l[i]], rfl, ?_⟩
          (conv => whnf)
          refine ⟨[], _, rfl, rfl, (by simp only [List.length_take, List.length_drop, List.length_nil]; omega), ?_⟩
          (conv => whnf)
          refine ⟨_, _, rfl, rfl, (by simp only [List.length_take, List.length_drop, List.length_append, List.length_cons, List.length_nil]; omega), ?_⟩
          (conv => whnf)
          refine ⟨k, (ordU l i).length, rfl, rfl, ⟨hk.1.1, Nat.le_refl _⟩, ?_⟩
          (conv => whnf)
          refine ⟨_, _, rfl, rfl, (by simp only [List.length_take, List.length_drop, List.length_append, List.length_cons, List.length_nil]; omega), ?_⟩
          repeat' ((conv => whnf); first | (refine dec (fun h => ?_) (fun h => ?_) <;> try contradiction) | (refine decN (fun h => ?_) (fun h => ?_) <;> try contradiction) | refine booN (fun h => ?_) (fun h => ?_) | refine boo (fun h => ?_) (fun h => ?_) | refine ⟨i64 (by omega) (by omega), ?_⟩ | refine ⟨_, _, rfl, List.getElem?_eq_getElem (by omega), ?_⟩ | refine ⟨_, ⟨rfl, by omega⟩, ?_⟩ | refine ⟨_, List.getElem?_eq_getElem (by omega), ?_⟩ | refine rtB ?_ | refine rtI ?_ | refine rtC ?_ rfl | fail)
          refine ag (i + 1) [] [.same 4] ⟨hlt, trivial⟩ (by simp only []; omega) ?_
          rw [e]
          repeat' first | exact trivial | exact rfl | refine And.intro ?_ ?_
    · have fin := fin (fun h => by omega)
      rw [← ordU_succ hlt] at fin
      have e : ordU l (i + 1) = (([] ++ ((ordU l i).drop 0).take (k - 0)) ++ [l[i]]) ++ ((ordU l i).drop k).take ((ordU l i).length - k) := by
        rw [fin, List.take_of_length_le (l := List.drop k (ordU l i)) (by rw [List.length_drop]; exact Nat.le_refl _)]
        simp
      (conv => whnf)
      refine ⟨false, (.alt [0, 1, 2, 3, 5, 6, 7, 8] [4, 9] fun j => bif Nat.beq j 4 then (.l [9, 10, 11]) else bif Nat.beq j 9 then (.l [4, 10, 11]) else .l []), by kernel_rfl, .inl ?_⟩
      (conv => whnf)
      refine ⟨0, k, rfl, rfl, ⟨Nat.zero_le _, hk.1.1⟩, ?_⟩
      (conv => whnf)
      refine ⟨i, l[i], rfl, List.getElem?_eq_getElem hlt, ?_⟩
      (conv => whnf)
      refine And.intro ?_ ?_
      · (conv => whnf)
        refine ⟨[], _, rfl, rfl, (by simp only [List.length_take, List.length_drop, List.length_nil]; omega), ?_⟩
        (conv => whnf)
        refine ⟨[l[i]], rfl, ?_⟩
        (conv => whnf)
        refine ⟨_, _, rfl, rfl, (by simp only [List.length_take, List.length_drop, List.length_append, List.length_cons, List.length_nil]; omega), ?_⟩
        (conv => whnf)
        refine ⟨k, (ordU l i).length, rfl, rfl, ⟨hk.1.1, Nat.le_refl _⟩, ?_⟩
        (conv => whnf)
        refine ⟨_, _, rfl, rfl, (by simp only [List.length_take, List.length_drop, List.length_append, List.length_cons, List.length_nil]; omega), ?_⟩
        repeat' ((conv => whnf); first | (refine dec (fun h => ?_) (fun h => ?_) <;> try contradiction) | (refine decN (fun h => ?_) (fun h => ?_) <;> try contradiction) | refine booN (fun h => ?_) (fun h => ?_) | refine boo (fun h => ?_) (fun h => ?_) | refine ⟨i64 (by omega) (by omega), ?_⟩ | refine ⟨_, _, rfl, List.getElem?_eq_getElem (by omega), ?_⟩ | refine ⟨_, ⟨rfl, by omega⟩, ?_⟩ | refine ⟨_, List.getElem?_eq_getElem (by omega), ?_⟩ | refine rtB ?_ | refine rtI ?_ | refine rtC ?_ rfl | fail)
        refine ag (i + 1) [] [.same 4] ⟨hlt, trivial⟩ (by simp only []; omega) ?_
        rw [e]
        repeat' first | exact trivial | exact rfl | refine And.intro ?_ ?_
      · (conv => whnf)
        refine ⟨[l[i]], rfl, ?_⟩
        (conv => whnf)
        refine ⟨[], _, rfl, rfl, (by simp only [List.length_take, List.length_drop, List.length_nil]; omega), ?_⟩
        (conv => whnf)
        refine ⟨_, _, rfl, rfl, (by simp only [List.length_take, List.length_drop, List.length_append, List.length_cons, List.length_nil]; omega), ?_⟩
        (conv => whnf)
        refine ⟨k, (ordU l i).length, rfl, rfl, ⟨hk.1.1, Nat.le_refl _⟩, ?_⟩
        (conv => whnf)
        refine ⟨_, _, rfl, rfl, (by simp only [List.length_take, List.length_drop, List.length_append, List.length_cons, List.length_nil]; omega), ?_⟩
        repeat' ((conv => whnf); first | (refine dec (fun h => ?_) (fun h => ?_) <;> try contradiction) | (refine decN (fun h => ?_) (fun h => ?_) <;> try contradiction) | refine booN (fun h => ?_) (fun h => ?_) | refine boo (fun h => ?_) (fun h => ?_) | refine ⟨i64 (by omega) (by omega), ?_⟩ | refine ⟨_, _, rfl, List.getElem?_eq_getElem (by omega), ?_⟩ | refine ⟨_, ⟨rfl, by omega⟩, ?_⟩ | refine ⟨_, List.getElem?_eq_getElem (by omega), ?_⟩ | refine rtB ?_ | refine rtI ?_ | refine rtC ?_ rfl | fail)
        refine ag (i + 1) [] [.same 4] ⟨hlt, trivial⟩ (by simp only []; omega) ?_
        rw [e]
        repeat' first | exact trivial | exact rfl | refine And.intro ?_ ?_
  · have : ordU l i = inOrdP l := by unfold ordU; rw [List.take_of_length_le (by omega)]
    (conv => whnf)
    rw [this]
    refine rt [] [.same 0] (by repeat' first | exact trivial | exact rfl | refine And.intro ?_ ?_) rfl ⟨rfl, rfl⟩
end Go.Nest
end
/- WALKS, F4: all paths, all changes. -/
section
namespace Go.Nest
open Go Go.AM Go.Proofs
open Go.Proofs.YtkoiljgjipmhbaaGreatDoor (tab tabOk)
set_option linter.unusedVariables false
set_option linter.unusedSimpArgs false
set_option maxRecDepth 4000

/-- the path ahead -/
def prevF (l : List Fi) : Nat → Option (List UInt8)
  | 0 => none
  | i + 1 => (l[i]?).map (·.path)
theorem dd_step {l : List Fi} {i : Nat} (h : i < l.length) (h2 : prevF l i = some l[i].path) : ddP (prevF l i) (l.drop i) = ddP (prevF l (i + 1)) (l.drop (i + 1)) := by
  rw [List.drop_eq_getElem_cons h]
  conv => lhs; rw [ddP, if_pos h2]
  rw [prevF, List.getElem?_eq_getElem h]; rfl
theorem dd_new {l : List Fi} {i : Nat} (h : i < l.length) (h2 : prevF l i ≠ some l[i].path) : ddP (prevF l i) (l.drop i) = l[i].path :: ddP (prevF l (i + 1)) (l.drop (i + 1)) := by
  rw [List.drop_eq_getElem_cons h]
  conv => lhs; rw [ddP, if_neg h2]
  rw [prevF, List.getElem?_eq_getElem h]; rfl

theorem dd_len : ∀ (p : Option (List UInt8)) (l : List Fi), (ddP p l).length ≤ l.length
  | _, [] => by unfold ddP; simp
  | p, f :: r => by
    have := dd_len (some f.path) r
    unfold ddP
    split <;> simp <;> omega
theorem filterMap_step {α β : Type} {g : α → β} {p : β → Bool} {l : List α} {i : Nat} (h : i < l.length) : ((l.drop i).map g).filter p = (if p (g l[i]) = true then [g l[i]] else []) ++ ((l.drop (i + 1)).map g).filter p := by
  rw [List.drop_eq_getElem_cons h, List.map_cons, List.filter_cons]
  split <;> simp
end Go.Nest
end
/- WALKS, F5: may there be such files? -/
section
namespace Go.Nest
open Go Go.AM Go.Proofs
open Go.Proofs.YtkoiljgjipmhbaaGreatDoor (tab tabOk)
set_option linter.unusedVariables false
set_option linter.unusedSimpArgs false
set_option maxRecDepth 4000

def prevX (l : List Fi) : Nat → Option Fi
  | 0 => none
  | i + 1 => l[i]?
theorem checkF_at {l : List Fi} {i : Nat} (h : i < l.length) : checkF (prevX l i) (l.drop i) = if (splitP l[i].path).2 ≠ 0 then (splitP l[i].path).2 else if l[i].mode ≠ 1 ∧ l[i].mode ≠ 3 then 6 else if clashF (prevX l i) l[i] ≠ 0 then clashF (prevX l i) l[i] else checkF (prevX l (i + 1)) (l.drop (i + 1)) := by
  rw [List.drop_eq_getElem_cons h]
  rw [show prevX l (i + 1) = some l[i] from List.getElem?_eq_getElem h]
  rfl
theorem underP_is {p d : List UInt8} : (underP p d).2 = (under p d).isSome := by
  unfold underP
  cases under p d <;> rfl

set_option maxHeartbeats 2000000 in
theorem check_spec' (l : List Fi) (hl : l.length ≤ 60) (hp : ∀ f ∈ l, f.path.length ≤ 4000000) : Does Tryz.prog 14 [.c (.bs 4 Fi encFi l)] [] (Rt (.c (.int .i64 (checkF none l))) []) := by
  refine X_spec ⟨Tryz.prog, tab, 68, 0⟩ tabOk (by kernel_rfl) Tryz.call14 Tryz.func14 rfl rfl (by kernel_rfl) rfl ?_
  intro hb
  (conv => whnf)
  refine dec (fun h => by omega) (fun h0 => ?_)
  (conv => whnf)
  refine lp Nat (fun i => ⟨[(0, .c (.bs 4 Fi encFi l)), (12, .c (.bs 4 Fi encFi l)), (13, .c (.int .i64 l.length)), (14, .c (.int .i64 i))], []⟩) (fun i => i ≤ l.length ∧ checkF none l = checkF (prevX l i) (l.drop i)) (fun i => l.length - i) 0 [] [] ?_ ?_ (fun i hi => ?_)
  · exact ⟨Nat.zero_le _, rfl⟩
  · repeat' first | exact trivial | exact rfl | refine And.intro ?_ ?_
  obtain ⟨h1, hat⟩ := hi
  (conv => whnf)
  refine dec (fun h4 => ?_) (fun h4 => ?_)
  · have hlt : i < l.length := by omega
    rw [checkF_at hlt] at hat
    (conv => whnf)
    refine ⟨i, l[i], rfl, List.getElem?_eq_getElem hlt, ?_⟩
    (conv => whnf)
    refine cl [] [] (pathsSplit_spec l[i].path (hp _ (List.getElem_mem _))) (by (repeat' first | exact trivial | exact rfl | refine And.intro ?_ ?_); first | done | fail) (by first | exact trivial | exact rfl) ?_
    (conv => whnf)
    refine decN (fun h5 => ?_) (fun h5 => ?_)
    · rw [if_pos h5] at hat
      repeat' ((conv => whnf); first | (refine dec (fun h => ?_) (fun h => ?_) <;> try contradiction) | (refine decN (fun h => ?_) (fun h => ?_) <;> try contradiction) | refine booN (fun h => ?_) (fun h => ?_) | refine boo (fun h => ?_) (fun h => ?_) | refine ⟨i64 (by omega) (by omega), ?_⟩ | refine ⟨_, _, rfl, List.getElem?_eq_getElem (by omega), ?_⟩ | refine ⟨_, ⟨rfl, by omega⟩, ?_⟩ | refine ⟨_, List.getElem?_eq_getElem (by omega), ?_⟩ | refine rtB ?_ | refine rtI ?_ | refine rtC ?_ rfl | fail)
      exact hat.symm
    · rw [if_neg (by simpa using h5)] at hat
      (conv => whnf)
      refine decN (fun h6 => ?_) (fun h6 => ?_)
      · (conv => whnf)
        refine decN (fun h7 => ?_) (fun h7 => ?_)
        · rw [if_pos ⟨h6, h7⟩] at hat
          repeat' ((conv => whnf); first | (refine dec (fun h => ?_) (fun h => ?_) <;> try contradiction) | (refine decN (fun h => ?_) (fun h => ?_) <;> try contradiction) | refine booN (fun h => ?_) (fun h => ?_) | refine boo (fun h => ?_) (fun h => ?_) | refine ⟨i64 (by omega) (by omega), ?_⟩ | refine ⟨_, _, rfl, List.getElem?_eq_getElem (by omega), ?_⟩ | refine ⟨_, ⟨rfl, by omega⟩, ?_⟩ | refine ⟨_, List.getElem?_eq_getElem (by omega), ?_⟩ | refine rtB ?_ | refine rtI ?_ | refine rtC ?_ rfl | fail)
          exact hat.symm
        · rw [if_neg (fun h => h.2 h7)] at hat
          (conv => whnf)
          refine ⟨false, (.l [0, 1, 2, 3, 4, 5, 6, 7, 8, 9, 10, 11, 12, 13, 14]), by kernel_rfl, .inl ?_⟩
          (conv => whnf)
          refine dec (fun h7 => ?_) (fun h7 => ?_)
          · have hi0 : 0 < i := by omega
            have hpv : prevX l i = some l[i - 1] := by
              obtain ⟨j, rfl⟩ : ∃ j, i = j + 1 := ⟨i - 1, by omega⟩
              exact List.getElem?_eq_getElem (by omega)
            (conv => whnf)
            refine ⟨i64 (by omega) (by omega), ?_⟩
            (conv => whnf)
            refine ⟨i - 1, l[i - 1], by omega, List.getElem?_eq_getElem (by omega), ?_⟩
            (conv => whnf)
            refine cl [] [] (less_spec l[i - 1].path l[i].path (hp _ (List.getElem_mem _)) (hp _ (List.getElem_mem _))) (by (repeat' first | exact trivial | exact rfl | refine And.intro ?_ ?_); first | done | fail) (by first | exact trivial | exact rfl) ?_
            (conv => whnf)
            refine booN (fun h8 => ?_) (fun h8 => ?_)
            · have hc : clashF (prevX l i) l[i] = 8 := by rw [hpv]; unfold clashF; simp [h8]
              rw [hc, if_pos (by decide)] at hat
              repeat' ((conv => whnf); first | (refine dec (fun h => ?_) (fun h => ?_) <;> try contradiction) | (refine decN (fun h => ?_) (fun h => ?_) <;> try contradiction) | refine booN (fun h => ?_) (fun h => ?_) | refine boo (fun h => ?_) (fun h => ?_) | refine ⟨i64 (by omega) (by omega), ?_⟩ | refine ⟨_, _, rfl, List.getElem?_eq_getElem (by omega), ?_⟩ | refine ⟨_, ⟨rfl, by omega⟩, ?_⟩ | refine ⟨_, List.getElem?_eq_getElem (by omega), ?_⟩ | refine rtB ?_ | refine rtI ?_ | refine rtC ?_ rfl | fail)
              exact hat.symm
            · (conv => whnf)
              refine dec (fun _ => ?_) (fun h => absurd h7 h)
              (conv => whnf)
              refine ⟨false, (.l [0, 1, 2, 3, 4, 5, 6, 7, 8, 9, 10, 11, 12, 13]), by kernel_rfl, .inl ?_⟩
              (conv => whnf)
              refine ⟨i64 (by omega) (by omega), ?_⟩
              (conv => whnf)
              refine ⟨i - 1, l[i - 1], by omega, List.getElem?_eq_getElem (by omega), ?_⟩
              (conv => whnf)
              refine cl [] [] (under_spec l[i].path l[i - 1].path (hp _ (List.getElem_mem _))) (by (repeat' first | exact trivial | exact rfl | refine And.intro ?_ ?_); first | done | fail) (by first | exact trivial | exact rfl) ?_
              rw [underP_is]
              (conv => whnf)
              refine boo (fun h9 => ?_) (fun h9 => ?_)
              · have hc : clashF (prevX l i) l[i] = 10 := by rw [hpv]; unfold clashF; simp [h8, h9]
                rw [hc, if_pos (by decide)] at hat
                repeat' ((conv => whnf); first | (refine dec (fun h => ?_) (fun h => ?_) <;> try contradiction) | (refine decN (fun h => ?_) (fun h => ?_) <;> try contradiction) | refine booN (fun h => ?_) (fun h => ?_) | refine boo (fun h => ?_) (fun h => ?_) | refine ⟨i64 (by omega) (by omega), ?_⟩ | refine ⟨_, _, rfl, List.getElem?_eq_getElem (by omega), ?_⟩ | refine ⟨_, ⟨rfl, by omega⟩, ?_⟩ | refine ⟨_, List.getElem?_eq_getElem (by omega), ?_⟩ | refine rtB ?_ | refine rtI ?_ | refine rtC ?_ rfl | fail)
                exact hat.symm
              · have hc : clashF (prevX l i) l[i] = 0 := by rw [hpv]; unfold clashF; simp [h8, h9]
                rw [hc, if_neg (by decide)] at hat
                repeat' ((conv => whnf); first | (refine dec (fun h => ?_) (fun h => ?_) <;> try contradiction) | (refine decN (fun h => ?_) (fun h => ?_) <;> try contradiction) | refine booN (fun h => ?_) (fun h => ?_) | refine boo (fun h => ?_) (fun h => ?_) | refine ⟨i64 (by omega) (by omega), ?_⟩ | refine ⟨_, _, rfl, List.getElem?_eq_getElem (by omega), ?_⟩ | refine ⟨_, ⟨rfl, by omega⟩, ?_⟩ | refine ⟨_, List.getElem?_eq_getElem (by omega), ?_⟩ | refine rtB ?_ | refine rtI ?_ | refine rtC ?_ rfl | fail)
                refine ag (i + 1) [] [] ⟨hlt, hat⟩ (by simp only []; omega) ?_
                repeat' first | exact trivial | exact rfl | refine And.intro ?_ ?_
          · obtain rfl : i = 0 := by omega
            have hc : clashF (prevX l 0) l[0] = 0 := rfl
            rw [hc, if_neg (by decide)] at hat
            repeat' ((conv => whnf); first | (refine dec (fun h => ?_) (fun h => ?_) <;> try contradiction) | (refine decN (fun h => ?_) (fun h => ?_) <;> try contradiction) | refine booN (fun h => ?_) (fun h => ?_) | refine boo (fun h => ?_) (fun h => ?_) | refine ⟨i64 (by omega) (by omega), ?_⟩ | refine ⟨_, _, rfl, List.getElem?_eq_getElem (by omega), ?_⟩ | refine ⟨_, ⟨rfl, by omega⟩, ?_⟩ | refine ⟨_, List.getElem?_eq_getElem (by omega), ?_⟩ | refine rtB ?_ | refine rtI ?_ | refine rtC ?_ rfl | fail)
            refine ag (0 + 1) [] [] ⟨hlt, hat⟩ (by simp only []; omega) ?_
            repeat' first | exact trivial | exact rfl | refine And.intro ?_ ?_
      · rw [if_neg (fun h => h.1 h6)] at hat
        (conv => whnf)
        refine ⟨false, (.l [0, 1, 2, 3, 4, 5, 6, 7, 8, 9, 10, 11, 12, 13, 14]), by kernel_rfl, .inl ?_⟩
        (conv => whnf)
        refine dec (fun h7 => ?_) (fun h7 => ?_)
        · have hi0 : 0 < i := by omega
          have hpv : prevX l i = some l[i - 1] := by
            obtain ⟨j, rfl⟩ : ∃ j, i = j + 1 := ⟨i - 1, by omega⟩
            exact List.getElem?_eq_getElem (by omega)
          (conv => whnf)
          refine ⟨i64 (by omega) (by omega), ?_⟩
          (conv => whnf)
          refine ⟨i - 1, l[i - 1], by omega, List.getElem?_eq_getElem (by omega), ?_⟩
          (conv => whnf)
          refine cl [] [] (less_spec l[i - 1].path l[i].path (hp _ (List.getElem_mem _)) (hp _ (List.getElem_mem _))) (by (repeat' first | exact trivial | exact rfl | refine And.intro ?_ ?_); first | done | fail) (by first | exact trivial | exact rfl) ?_
          (conv => whnf)
          refine booN (fun h8 => ?_) (fun h8 => ?_)
          · have hc : clashF (prevX l i) l[i] = 8 := by rw [hpv]; unfold clashF; simp [h8]
            rw [hc, if_pos (by decide)] at hat
            repeat' ((conv => whnf); first | (refine dec (fun h => ?_) (fun h => ?_) <;> try contradiction) | (refine decN (fun h => ?_) (fun h => ?_) <;> try contradiction) | refine booN (fun h => ?_) (fun h => ?_) | refine boo (fun h => ?_) (fun h => ?_) | refine ⟨i64 (by omega) (by omega), ?_⟩ | refine ⟨_, _, rfl, List.getElem?_eq_getElem (by omega), ?_⟩ | refine ⟨_, ⟨rfl, by omega⟩, ?_⟩ | refine ⟨_, List.getElem?_eq_getElem (by omega), ?_⟩ | refine rtB ?_ | refine rtI ?_ | refine rtC ?_ rfl | fail)
            exact hat.symm
          · (conv => whnf)
            refine dec (fun _ => ?_) (fun h => absurd h7 h)
            (conv => whnf)
            refine ⟨false, (.l [0, 1, 2, 3, 4, 5, 6, 7, 8, 9, 10, 11, 12, 13]), by kernel_rfl, .inl ?_⟩
            (conv => whnf)
            refine ⟨i64 (by omega) (by omega), ?_⟩
            (conv => whnf)
            refine ⟨i - 1, l[i - 1], by omega, List.getElem?_eq_getElem (by omega), ?_⟩
            (conv => whnf)
            refine cl [] [] (under_spec l[i].path l[i - 1].path (hp _ (List.getElem_mem _))) (by (repeat' first | exact trivial | exact rfl | refine And.intro ?_ ?_); first | done | fail) (by first | exact trivial | exact rfl) ?_
            rw [underP_is]
            (conv => whnf)
            refine boo (fun h9 => ?_) (fun h9 => ?_)
            · have hc : clashF (prevX l i) l[i] = 10 := by rw [hpv]; unfold clashF; simp [h8, h9]
              rw [hc, if_pos (by decide)] at hat
              repeat' ((conv => whnf); first | (refine dec (fun h => ?_) (fun h => ?_) <;> try contradiction) | (refine decN (fun h => ?_) (fun h => ?_) <;> try contradiction) | refine booN (fun h => ?_) (fun h => ?_) | refine boo (fun h => ?_) (fun h => ?_) | refine ⟨i64 (by omega) (by omega), ?_⟩ | refine ⟨_, _, rfl, List.getElem?_eq_getElem (by omega), ?_⟩ | refine ⟨_, ⟨rfl, by omega⟩, ?_⟩ | refine ⟨_, List.getElem?_eq_getElem (by omega), ?_⟩ | refine rtB ?_ | refine rtI ?_ | refine rtC ?_ rfl | fail)
              exact hat.symm
            · have hc : clashF (prevX l i) l[i] = 0 := by rw [hpv]; unfold clashF; simp [h8, h9]
              rw [hc, if_neg (by decide)] at hat
              repeat' ((conv => whnf); first | (refine dec (fun h => ?_) (fun h => ?_) <;> try contradiction) | (refine decN (fun h => ?_) (fun h => ?_) <;> try contradiction) | refine booN (fun h => ?_) (fun h => ?_) | refine boo (fun h => ?_) (fun h => ?_) | refine ⟨i64 (by omega) (by omega), ?_⟩ | refine ⟨_, _, rfl, List.getElem?_eq_getElem (by omega), ?_⟩ | refine ⟨_, ⟨rfl, by omega⟩, ?_⟩ | refine ⟨_, List.getElem?_eq_getElem (by omega), ?_⟩ | refine rtB ?_ | refine rtI ?_ | refine rtC ?_ rfl | fail)
              refine ag (i + 1) [] [] ⟨hlt, hat⟩ (by simp only []; omega) ?_
              repeat' first | exact trivial | exact rfl | refine And.intro ?_ ?_
        · obtain rfl : i = 0 := by omega
          have hc : clashF (prevX l 0) l[0] = 0 := rfl
          rw [hc, if_neg (by decide)] at hat
          repeat' ((conv => whnf); first | (refine dec (fun h => ?_) (fun h => ?_) <;> try contradiction) | (refine decN (fun h => ?_) (fun h => ?_) <;> try contradiction) | refine booN (fun h => ?_) (fun h => ?_) | refine boo (fun h => ?_) (fun h => ?_) | refine ⟨i64 (by omega) (by omega), ?_⟩ | refine ⟨_, _, rfl, List.getElem?_eq_getElem (by omega), ?_⟩ | refine ⟨_, ⟨rfl, by omega⟩, ?_⟩ | refine ⟨_, List.getElem?_eq_getElem (by omega), ?_⟩ | refine rtB ?_ | refine rtI ?_ | refine rtC ?_ rfl | fail)
          refine ag (0 + 1) [] [] ⟨hlt, hat⟩ (by simp only []; omega) ?_
          repeat' first | exact trivial | exact rfl | refine And.intro ?_ ?_
  · rw [List.drop_of_length_le (by omega)] at hat
    repeat' ((conv => whnf); first | (refine dec (fun h => ?_) (fun h => ?_) <;> try contradiction) | (refine decN (fun h => ?_) (fun h => ?_) <;> try contradiction) | refine booN (fun h => ?_) (fun h => ?_) | refine boo (fun h => ?_) (fun h => ?_) | refine ⟨i64 (by omega) (by omega), ?_⟩ | refine ⟨_, _, rfl, List.getElem?_eq_getElem (by omega), ?_⟩ | refine ⟨_, ⟨rfl, by omega⟩, ?_⟩ | refine ⟨_, List.getElem?_eq_getElem (by omega), ?_⟩ | refine rtB ?_ | refine rtI ?_ | refine rtC ?_ rfl | fail)
    rw [hat]; unfold checkF; rfl
theorem flatCheck_spec (l : List Fi) (hp : ∀ f ∈ l, f.path.length ≤ 4000000) : Does Tryz.prog 14 [.c (.bs 4 Fi encFi l)] [] (Rt (.c (.int .i64 (filesF l))) []) := by
  by_cases h : 60 < l.length
  · refine X_spec ⟨Tryz.prog, tab, 68, 0⟩ tabOk (by kernel_rfl) Tryz.call14 Tryz.func14 rfl rfl (by kernel_rfl) rfl ?_
    intro hb
    repeat' ((conv => whnf); first | (refine dec (fun h => ?_) (fun h => ?_) <;> try contradiction) | (refine decN (fun h => ?_) (fun h => ?_) <;> try contradiction) | refine booN (fun h => ?_) (fun h => ?_) | refine boo (fun h => ?_) (fun h => ?_) | refine ⟨i64 (by omega) (by omega), ?_⟩ | refine ⟨_, _, rfl, List.getElem?_eq_getElem (by omega), ?_⟩ | refine ⟨_, ⟨rfl, by omega⟩, ?_⟩ | refine ⟨_, List.getElem?_eq_getElem (by omega), ?_⟩ | refine rtB ?_ | refine rtI ?_ | refine rtC ?_ rfl | fail)
    · unfold filesF; rw [if_pos (by omega)]
    · omega
  · have := check_spec' l (by omega) hp
    unfold filesF
    rw [if_neg h]; exact this
end Go.Nest
end
