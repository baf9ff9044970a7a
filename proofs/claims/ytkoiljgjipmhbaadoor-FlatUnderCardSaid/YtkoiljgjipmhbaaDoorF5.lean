/- WALKS, F4: all paths, all changes. -/
import Derived.Test.YtkoiljgjipmhbaaDoorF3
section
namespace Go.Nest
open Go Go.AM Go.Proofs
open Go.Proofs.YtkoiljgjipmhbaaDoor (tab tabOk)
set_option linter.unusedVariables false
set_option linter.unusedSimpArgs false
set_option maxRecDepth 4000

/-- the path ahead -/
def prevF (l : List Fi) : Nat → Option (List UInt8)
  | 0 => none
  | i + 1 => (l[i]?).map (·.path)
theorem dd_step {l : List Fi} {i : Nat} (h : i < l.length) (h2 : prevF l i = some l[i].path) : ddP (prevF l i) (l.drop i) = ddP (prevF l (i + 1)) (l.drop (i + 1)) := by
  rw [List.drop_eq_getElem_cons h]
  conv => lhs; rw [ddP, if_pos h2]
  rw [prevF, List.getElem?_eq_getElem h]; rfl
theorem dd_new {l : List Fi} {i : Nat} (h : i < l.length) (h2 : prevF l i ≠ some l[i].path) : ddP (prevF l i) (l.drop i) = l[i].path :: ddP (prevF l (i + 1)) (l.drop (i + 1)) := by
  rw [List.drop_eq_getElem_cons h]
  conv => lhs; rw [ddP, if_neg h2]
  rw [prevF, List.getElem?_eq_getElem h]; rfl

set_option maxHeartbeats 2000000 in
theorem pathsOf_spec (ls : List (List Fi)) (h0 : ls.length ≤ 10) (hl : ∀ l ∈ ls, l.length ≤ 150) (hp : ∀ l ∈ ls, ∀ f ∈ l, f.path.length ≤ 4000000) (hsum : ls.flatten.length ≤ 1000) : Does Tryd.prog 28 [.c (.bs 1 (List Fi) (encL 4 encFi) ls)] [] (Rt (.c (.rw 0)) [.row 1 (List UInt8) encS (pathsP ls)]) := by
  refine X_specM ⟨Tryd.prog, tab, 52, 0⟩ tabOk (by kernel_rfl) Tryd.call28 Tryd.func28 rfl rfl (by kernel_rfl) rfl ?_
  intro hb
  refine XM.seq ?_
  (conv => whnf)
  refine XM.seq ?_
  (conv => whnf)
  refine XM.join (ι := Unit) (fun _ => ⟨[(3, .c (.rw 0))], [.row 4 Fi encFi ls.flatten]⟩) (fun _ => True) ?_ (fun _ _ => ?_)
  · (conv => whnf)
    refine lp Nat (fun i => ⟨[(0, .c (.bs 1 (List Fi) (encL 4 encFi) ls)), (3, .c (.rw 0)), (4, .c (.int .i64 i))], [.row 4 Fi encFi (ls.take i).flatten]⟩) (fun i => i ≤ ls.length ∧ True) (fun i => ls.length - i) 0 [] [.new] ?_ ?_ (fun i hi => ?_)
    · simp
    · repeat' first | exact trivial | exact rfl | refine And.intro ?_ ?_
    (conv => whnf)
    refine dec (fun h4 => ?_) (fun h4 => ?_)
    · have hlt : i < ls.length := by omega
      have e : (ls.take (i + 1)).flatten = (ls.take i).flatten ++ ls[i] := by rw [List.take_succ_eq_append_getElem hlt, List.flatten_append]; simp
      have hle : (ls.take (i + 1)).flatten.length ≤ ls.flatten.length := by
        conv => rhs; rw [← List.take_append_drop (i + 1) ls]
        rw [List.flatten_append, List.length_append]; omega
      rw [e, List.length_append] at hle
      (conv => whnf)
      refine ⟨i, ls[i], rfl, List.getElem?_eq_getElem hlt, ?_⟩
      (conv => whnf)
      refine ⟨_, _, rfl, rfl, (by simp only []; omega), ?_⟩
      repeat' ((conv => whnf); first | (refine dec (fun h => ?_) (fun h => ?_) <;> try contradiction) | (refine decN (fun h => ?_) (fun h => ?_) <;> try contradiction) | refine booN (fun h => ?_) (fun h => ?_) | refine boo (fun h => ?_) (fun h => ?_) | refine ⟨i64 (by omega) (by omega), ?_⟩ | refine ⟨_, _, rfl, List.getElem?_eq_getElem (by omega), ?_⟩ | refine ⟨_, ⟨rfl, by omega⟩, ?_⟩ | refine ⟨_, List.getElem?_eq_getElem (by omega), ?_⟩ | refine rtB ?_ | refine rtI ?_ | refine rtC ?_ rfl | fail)
      refine ag (i + 1) [] [.same 1] ⟨hlt, trivial⟩ (by simp only []; omega) ?_
      rw [e]
      repeat' first | exact trivial | exact rfl | refine And.intro ?_ ?_
    · have e : (ls.take i).flatten = ls.flatten := by rw [List.take_of_length_le (by omega)]
      (conv => whnf)
      refine ⟨(), trivial, [], [.same 0], ?_⟩
      rw [← e]
      repeat' first | exact trivial | exact rfl | refine And.intro ?_ ?_
  have hmem : ∀ f ∈ ls.flatten, f.path.length ≤ 4000000 := fun f hf => by
    obtain ⟨l, h1, h2⟩ := List.mem_flatten.1 hf
    exact hp l h1 f h2
  refine XM.of ?_
  (conv => whnf)
  refine cl [] [] (inOrder_spec ls.flatten hsum hmem) (by (repeat' first | exact trivial | exact rfl | refine And.intro ?_ ?_); first | done | fail) (by first | exact trivial | exact rfl) ?_
  generalize ho : inOrdP ls.flatten = o
  have hol : o.length ≤ 1000 := by rw [← ho, (inOrd_perm _).length_eq]; exact hsum
  have hpp : pathsP ls = ddP (prevF o 0) (o.drop 0) := by unfold pathsP; rw [ho]; rfl
  rw [hpp]
  (conv => whnf)
  refine lp (Nat × List (List UInt8)) (fun x => ⟨[(3, .c (.rw 0)), (5, .c (.rw 1)), (6, .c (.int .i64 x.1))], [.row 4 Fi encFi o, .row 1 (List UInt8) encS x.2]⟩) (fun x => (x.1 ≤ o.length ∧ x.2.length ≤ x.1) ∧ x.2 ++ ddP (prevF o x.1) (o.drop x.1) = ddP (prevF o 0) (o.drop 0)) (fun x => o.length - x.1) (0, []) [] [.same 1, .new] ?_ ?_ (fun x hx => ?_)
  · simp
  · repeat' first | exact trivial | exact rfl | refine And.intro ?_ ?_
  obtain ⟨i, out⟩ := x
  obtain ⟨⟨h1, h2⟩, h3⟩ := hx
  dsimp only at h1 h2 h3
  (conv => whnf)
  refine dec (fun h4 => ?_) (fun h4 => ?_)
  · have hlt : i < o.length := by simpa using h4
    (conv => whnf)
    refine ⟨false, (.l [0, 1, 2, 3, 4, 5, 6, 7, 8, 9, 10, 11, 12, 13, 14, 15]), by kernel_rfl, .inl ?_⟩
    (conv => whnf)
    refine dec (fun h5 => ?_) (fun h5 => ?_)
    · have hne : prevF o i ≠ some o[i].path := by
        obtain rfl : i = 0 := by simpa using h5
        simp [prevF]
      (conv => whnf)
      refine ⟨i, ⟨rfl, hlt⟩, ?_⟩
      (conv => whnf)
      refine ⟨o[i], List.getElem?_eq_getElem hlt, ?_⟩
      (conv => whnf)
      refine ⟨[o[i].path], rfl, ?_⟩
      (conv => whnf)
      refine ⟨_, _, rfl, rfl, (by simp only [List.length_append, List.length_cons, List.length_nil]; omega), ?_⟩
      have hst := dd_new hlt hne
      repeat' ((conv => whnf); first | (refine dec (fun h => ?_) (fun h => ?_) <;> try contradiction) | (refine decN (fun h => ?_) (fun h => ?_) <;> try contradiction) | refine booN (fun h => ?_) (fun h => ?_) | refine boo (fun h => ?_) (fun h => ?_) | refine ⟨i64 (by omega) (by omega), ?_⟩ | refine ⟨_, _, rfl, List.getElem?_eq_getElem (by omega), ?_⟩ | refine ⟨_, ⟨rfl, by omega⟩, ?_⟩ | refine ⟨_, List.getElem?_eq_getElem (by omega), ?_⟩ | refine rtB ?_ | refine rtI ?_ | refine rtC ?_ rfl | fail)
      refine ag (i + 1, out ++ [o[i].path]) [] [.same 0, .same 3] ⟨⟨hlt, by simp only [List.length_append, List.length_cons, List.length_nil]; omega⟩, by rw [← h3, hst]; simp⟩ (by simp only []; omega) ?_
      repeat' first | exact trivial | exact rfl | refine And.intro ?_ ?_
    · have h5 : ¬ i = 0 := by simpa using h5
      have hlt' : i - 1 < o.length := by omega
      have hpv : prevF o i = some o[i - 1].path := by
        obtain ⟨j, rfl⟩ : ∃ j, i = j + 1 := ⟨i - 1, by omega⟩
        show (o[j]?).map (·.path) = some o[j].path
        rw [List.getElem?_eq_getElem (by omega)]; rfl
      (conv => whnf)
      refine ⟨i, ⟨rfl, hlt⟩, ?_⟩
      (conv => whnf)
      refine ⟨o[i], List.getElem?_eq_getElem hlt, ?_⟩
      (conv => whnf)
      refine ⟨i64 (by omega) (by omega), ?_⟩
      (conv => whnf)
      refine ⟨i - 1, ⟨by omega, hlt'⟩, ?_⟩
      (conv => whnf)
      refine ⟨o[i - 1], List.getElem?_eq_getElem hlt', ?_⟩
      (conv => whnf)
      refine decN (fun h6 => ?_) (fun h6 => ?_)
      · have hne : prevF o i ≠ some o[i].path := by rw [hpv]; intro h; exact h6 (Option.some.inj h).symm
        (conv => whnf)
        refine ⟨i, ⟨rfl, hlt⟩, ?_⟩
        (conv => whnf)
        refine ⟨o[i], List.getElem?_eq_getElem hlt, ?_⟩
        (conv => whnf)
        refine ⟨[o[i].path], rfl, ?_⟩
        (conv => whnf)
        refine ⟨_, _, rfl, rfl, (by simp only [List.length_append, List.length_cons, List.length_nil]; omega), ?_⟩
        have hst := dd_new hlt hne
        repeat' ((conv => whnf); first | (refine dec (fun h => ?_) (fun h => ?_) <;> try contradiction) | (refine decN (fun h => ?_) (fun h => ?_) <;> try contradiction) | refine booN (fun h => ?_) (fun h => ?_) | refine boo (fun h => ?_) (fun h => ?_) | refine ⟨i64 (by omega) (by omega), ?_⟩ | refine ⟨_, _, rfl, List.getElem?_eq_getElem (by omega), ?_⟩ | refine ⟨_, ⟨rfl, by omega⟩, ?_⟩ | refine ⟨_, List.getElem?_eq_getElem (by omega), ?_⟩ | refine rtB ?_ | refine rtI ?_ | refine rtC ?_ rfl | fail)
        refine ag (i + 1, out ++ [o[i].path]) [] [.same 0, .same 3] ⟨⟨hlt, by simp only [List.length_append, List.length_cons, List.length_nil]; omega⟩, by rw [← h3, hst]; simp⟩ (by simp only []; omega) ?_
        repeat' first | exact trivial | exact rfl | refine And.intro ?_ ?_
      · have hst := dd_step hlt (by rw [hpv, h6])
        repeat' ((conv => whnf); first | (refine dec (fun h => ?_) (fun h => ?_) <;> try contradiction) | (refine decN (fun h => ?_) (fun h => ?_) <;> try contradiction) | refine booN (fun h => ?_) (fun h => ?_) | refine boo (fun h => ?_) (fun h => ?_) | refine ⟨i64 (by omega) (by omega), ?_⟩ | refine ⟨_, _, rfl, List.getElem?_eq_getElem (by omega), ?_⟩ | refine ⟨_, ⟨rfl, by omega⟩, ?_⟩ | refine ⟨_, List.getElem?_eq_getElem (by omega), ?_⟩ | refine rtB ?_ | refine rtI ?_ | refine rtC ?_ rfl | fail)
        refine ag (i + 1, out) [] [.same 0, .same 1] ⟨⟨hlt, by simp only []; omega⟩, by rw [← h3, hst]⟩ (by simp only []; omega) ?_
        repeat' first | exact trivial | exact rfl | refine And.intro ?_ ?_
  · rw [List.drop_of_length_le (by simp at h4; omega)] at h3
    rw [show ddP (prevF o i) [] = [] by unfold ddP; rfl, List.append_nil] at h3
    (conv => whnf)
    rw [← h3]
    refine rt [] [.same 1] (by repeat' first | exact trivial | exact rfl | refine And.intro ?_ ?_) rfl ⟨rfl, rfl⟩

theorem dd_len : ∀ (p : Option (List UInt8)) (l : List Fi), (ddP p l).length ≤ l.length
  | _, [] => by unfold ddP; simp
  | p, f :: r => by
    have := dd_len (some f.path) r
    unfold ddP
    split <;> simp <;> omega
theorem filterMap_step {α β : Type} {g : α → β} {p : β → Bool} {l : List α} {i : Nat} (h : i < l.length) : ((l.drop i).map g).filter p = (if p (g l[i]) = true then [g l[i]] else []) ++ ((l.drop (i + 1)).map g).filter p := by
  rw [List.drop_eq_getElem_cons h, List.map_cons, List.filter_cons]
  split <;> simp
set_option maxHeartbeats 2000000 in
theorem changesOf_spec (a b : List Fi) (hla : a.length ≤ 150) (hlb : b.length ≤ 150) (ha : ∀ f ∈ a, f.path.length ≤ 4000000) (hb' : ∀ f ∈ b, f.path.length ≤ 4000000) : Does Tryd.prog 11 [.c (.ls 4 Fi encFi a), .c (.ls 4 Fi encFi b)] [] (Rt (.c (.rw 0)) [.row 9 Ch encCh (changesP a b)]) := by
  refine X_spec ⟨Tryd.prog, tab, 54, 0⟩ tabOk (by kernel_rfl) Tryd.call11 Tryd.func11 rfl rfl (by kernel_rfl) rfl ?_
  intro hb
  (conv => whnf)
  refine ⟨[a, b], rfl, ?_⟩
  (conv => whnf)
  refine cl [0] [] (pathsOf_spec [a, b] (by simp) (by simp; exact ⟨hla, hlb⟩) (by simp; exact ⟨ha, hb'⟩) (by simp; omega)) (by (repeat' first | exact trivial | exact rfl | refine And.intro ?_ ?_); first | done | fail) (by first | exact trivial | exact rfl) ?_
  generalize hq : pathsP [a, b] = q
  have hch : changesP a b = ((q.drop 0).map (chP a b)).filter fun c => decide (c.old ≠ c.new) := by unfold changesP; rw [hq]; rfl
  have hql : q.length ≤ 300 := by
    rw [← hq]
    have h1 := dd_len none (inOrdP [a, b].flatten)
    rw [(inOrd_perm _).length_eq] at h1
    simp at h1
    unfold pathsP
    simp
    omega
  rw [hch]
  (conv => whnf)
  refine lp (Nat × List Ch) (fun x => ⟨[(0, .c (.ls 4 Fi encFi a)), (1, .c (.ls 4 Fi encFi b)), (6, .c (.rw 0)), (5, .c (.rw 1)), (7, .c (.int .i64 x.1))], [.row 1 (List UInt8) encS q, .row 9 Ch encCh x.2]⟩) (fun x => (x.1 ≤ q.length ∧ x.2.length ≤ x.1) ∧ x.2 ++ (((q.drop x.1).map (chP a b)).filter fun c => decide (c.old ≠ c.new)) = (((q.drop 0).map (chP a b)).filter fun c => decide (c.old ≠ c.new))) (fun x => q.length - x.1) (0, []) [] [.same 1, .new] ?_ ?_ (fun x hx => ?_)
  · simp
  · repeat' first | exact trivial | exact rfl | refine And.intro ?_ ?_
  obtain ⟨i, out⟩ := x
  obtain ⟨⟨h1, h2⟩, h3⟩ := hx
  dsimp only at h1 h2 h3
  (conv => whnf)
  refine dec (fun h4 => ?_) (fun h4 => ?_)
  · have hlt : i < q.length := by simpa using h4
    rw [filterMap_step hlt] at h3
    (conv => whnf)
    refine ⟨i, ⟨rfl, hlt⟩, ?_⟩
    (conv => whnf)
    refine ⟨q[i], List.getElem?_eq_getElem hlt, ?_⟩
    (conv => whnf)
    refine cl [] [] (fileAt_spec a q[i]) (by (repeat' first | exact trivial | exact rfl | refine And.intro ?_ ?_); first | done | fail) (by first | exact trivial | exact rfl) ?_
    (conv => whnf)
    refine ⟨i, ⟨rfl, hlt⟩, ?_⟩
    (conv => whnf)
    refine ⟨q[i], List.getElem?_eq_getElem hlt, ?_⟩
    (conv => whnf)
    refine cl [] [] (fileAt_spec b q[i]) (by (repeat' first | exact trivial | exact rfl | refine And.intro ?_ ?_); first | done | fail) (by first | exact trivial | exact rfl) ?_
    (conv => whnf)
    refine decN (fun h6 => ?_) (fun h6 => ?_)
    · have hne : (chP a b q[i]).old ≠ (chP a b q[i]).new := fun h => h6 (eqFi.2 h)
      rw [if_pos (by simpa using hne)] at h3
      (conv => whnf)
      refine ⟨false, (.l [0, 1, 2, 3, 4, 5, 6, 7, 8, 9, 10]), by kernel_rfl, .inl ?_⟩
      (conv => whnf)
      refine ⟨i, ⟨rfl, hlt⟩, ?_⟩
      (conv => whnf)
      refine ⟨q[i], List.getElem?_eq_getElem hlt, ?_⟩
      (conv => whnf)
      refine ⟨[chP a b q[i]], rfl, ?_⟩
      (conv => whnf)
      refine ⟨_, _, rfl, rfl, (by simp only [List.length_append, List.length_cons, List.length_nil]; omega), ?_⟩
      repeat' ((conv => whnf); first | (refine dec (fun h => ?_) (fun h => ?_) <;> try contradiction) | (refine decN (fun h => ?_) (fun h => ?_) <;> try contradiction) | refine booN (fun h => ?_) (fun h => ?_) | refine boo (fun h => ?_) (fun h => ?_) | refine ⟨i64 (by omega) (by omega), ?_⟩ | refine ⟨_, _, rfl, List.getElem?_eq_getElem (by omega), ?_⟩ | refine ⟨_, ⟨rfl, by omega⟩, ?_⟩ | refine ⟨_, List.getElem?_eq_getElem (by omega), ?_⟩ | refine rtB ?_ | refine rtI ?_ | refine rtC ?_ rfl | fail)
      refine ag (i + 1, out ++ [chP a b q[i]]) [] [.same 0, .same 5] ⟨⟨hlt, by simp only [List.length_append, List.length_cons, List.length_nil]; omega⟩, by rw [← h3]; simp⟩ (by simp only []; omega) ?_
      repeat' first | exact trivial | exact rfl | refine And.intro ?_ ?_
    · have hne : (chP a b q[i]).old = (chP a b q[i]).new := eqFi.1 h6
      rw [if_neg (by simpa using hne)] at h3
      repeat' ((conv => whnf); first | (refine dec (fun h => ?_) (fun h => ?_) <;> try contradiction) | (refine decN (fun h => ?_) (fun h => ?_) <;> try contradiction) | refine booN (fun h => ?_) (fun h => ?_) | refine boo (fun h => ?_) (fun h => ?_) | refine ⟨i64 (by omega) (by omega), ?_⟩ | refine ⟨_, _, rfl, List.getElem?_eq_getElem (by omega), ?_⟩ | refine ⟨_, ⟨rfl, by omega⟩, ?_⟩ | refine ⟨_, List.getElem?_eq_getElem (by omega), ?_⟩ | refine rtB ?_ | refine rtI ?_ | refine rtC ?_ rfl | fail)
      refine ag (i + 1, out) [] [.same 0, .same 1] ⟨⟨hlt, by simp only []; omega⟩, by rw [← h3]; simp⟩ (by simp only []; omega) ?_
      repeat' first | exact trivial | exact rfl | refine And.intro ?_ ?_
  · rw [List.drop_of_length_le (by simp at h4; omega)] at h3
    rw [List.map_nil, List.filter_nil, List.append_nil] at h3
    (conv => whnf)
    rw [← h3]
    refine rt [] [.same 1] (by repeat' first | exact trivial | exact rfl | refine And.intro ?_ ?_) rfl ⟨rfl, rfl⟩
end Go.Nest
end
/- WALKS, F5: may there be such files? -/
section
namespace Go.Nest
open Go Go.AM Go.Proofs
open Go.Proofs.YtkoiljgjipmhbaaDoor (tab tabOk)
set_option linter.unusedVariables false
set_option linter.unusedSimpArgs false
set_option maxRecDepth 4000

def prevX (l : List Fi) : Nat → Option Fi
  | 0 => none
  | i + 1 => l[i]?
theorem checkF_at {l : List Fi} {i : Nat} (h : i < l.length) : checkF (prevX l i) (l.drop i) = if (splitP l[i].path).2 ≠ 0 then (splitP l[i].path).2 else if l[i].mode ≠ 1 ∧ l[i].mode ≠ 3 then 6 else if clashF (prevX l i) l[i] ≠ 0 then clashF (prevX l i) l[i] else checkF (prevX l (i + 1)) (l.drop (i + 1)) := by
  rw [List.drop_eq_getElem_cons h]
  rw [show prevX l (i + 1) = some l[i] from List.getElem?_eq_getElem h]
  rfl
theorem underP_is {p d : List UInt8} : (underP p d).2 = (under p d).isSome := by
  unfold underP
  cases under p d <;> rfl

set_option maxHeartbeats 2000000 in
theorem check_spec' (l : List Fi) (hl : l.length ≤ 60) (hp : ∀ f ∈ l, f.path.length ≤ 4000000) : Does Tryd.prog 25 [.c (.bs 4 Fi encFi l)] [] (Rt (.c (.int .i64 (checkF none l))) []) := by
  refine X_spec ⟨Tryd.prog, tab, 68, 0⟩ tabOk (by kernel_rfl) Tryd.call25 Tryd.func25 rfl rfl (by kernel_rfl) rfl ?_
  intro hb
  (conv => whnf)
  refine dec (fun h => by omega) (fun h0 => ?_)
  (conv => whnf)
  refine lp Nat (fun i => ⟨[(0, .c (.bs 4 Fi encFi l)), (12, .c (.bs 4 Fi encFi l)), (13, .c (.int .i64 l.length)), (14, .c (.int .i64 i))], []⟩) (fun i => i ≤ l.length ∧ checkF none l = checkF (prevX l i) (l.drop i)) (fun i => l.length - i) 0 [] [] ?_ ?_ (fun i hi => ?_)
  · exact ⟨Nat.zero_le _, rfl⟩
  · repeat' first | exact trivial | exact rfl | refine And.intro ?_ ?_
  obtain ⟨h1, hat⟩ := hi
  (conv => whnf)
  refine dec (fun h4 => ?_) (fun h4 => ?_)
  · have hlt : i < l.length := by omega
    rw [checkF_at hlt] at hat
    (conv => whnf)
    refine ⟨i, l[i], rfl, List.getElem?_eq_getElem hlt, ?_⟩
    (conv => whnf)
    refine cl [] [] (pathsSplit_spec l[i].path (hp _ (List.getElem_mem _))) (by (repeat' first | exact trivial | exact rfl | refine And.intro ?_ ?_); first | done | fail) (by first | exact trivial | exact rfl) ?_
    (conv => whnf)
    refine decN (fun h5 => ?_) (fun h5 => ?_)
    · rw [if_pos h5] at hat
      repeat' ((conv => whnf); first | (refine dec (fun h => ?_) (fun h => ?_) <;> try contradiction) | (refine decN (fun h => ?_) (fun h => ?_) <;> try contradiction) | refine booN (fun h => ?_) (fun h => ?_) | refine boo (fun h => ?_) (fun h => ?_) | refine ⟨i64 (by omega) (by omega), ?_⟩ | refine ⟨_, _, rfl, List.getElem?_eq_getElem (by omega), ?_⟩ | refine ⟨_, ⟨rfl, by omega⟩, ?_⟩ | refine ⟨_, List.getElem?_eq_getElem (by omega), ?_⟩ | refine rtB ?_ | refine rtI ?_ | refine rtC ?_ rfl | fail)
      exact hat.symm
    · rw [if_neg (by simpa using h5)] at hat
      (conv => whnf)
      refine decN (fun h6 => ?_) (fun h6 => ?_)
      · (conv => whnf)
        refine decN (fun h7 => ?_) (fun h7 => ?_)
        · rw [if_pos ⟨h6, h7⟩] at hat
          repeat' ((conv => whnf); first | (refine dec (fun h => ?_) (fun h => ?_) <;> try contradiction) | (refine decN (fun h => ?_) (fun h => ?_) <;> try contradiction) | refine booN (fun h => ?_) (fun h => ?_) | refine boo (fun h => ?_) (fun h => ?_) | refine ⟨i64 (by omega) (by omega), ?_⟩ | refine ⟨_, _, rfl, List.getElem?_eq_getElem (by omega), ?_⟩ | refine ⟨_, ⟨rfl, by omega⟩, ?_⟩ | refine ⟨_, List.getElem?_eq_getElem (by omega), ?_⟩ | refine rtB ?_ | refine rtI ?_ | refine rtC ?_ rfl | fail)
          exact hat.symm
        · rw [if_neg (fun h => h.2 h7)] at hat
          (conv => whnf)
          refine ⟨false, (.l [0, 1, 2, 3, 4, 5, 6, 7, 8, 9, 10, 11, 12, 13, 14]), by kernel_rfl, .inl ?_⟩
          (conv => whnf)
          refine dec (fun h7 => ?_) (fun h7 => ?_)
          · have hi0 : 0 < i := by omega
            have hpv : prevX l i = some l[i - 1] := by
              obtain ⟨j, rfl⟩ : ∃ j, i = j + 1 := ⟨i - 1, by omega⟩
              exact List.getElem?_eq_getElem (by omega)
            (conv => whnf)
            refine ⟨i64 (by omega) (by omega), ?_⟩
            (conv => whnf)
            refine ⟨i - 1, l[i - 1], by omega, List.getElem?_eq_getElem (by omega), ?_⟩
            (conv => whnf)
            refine cl [] [] (less_spec l[i - 1].path l[i].path (hp _ (List.getElem_mem _)) (hp _ (List.getElem_mem _))) (by (repeat' first | exact trivial | exact rfl | refine And.intro ?_ ?_); first | done | fail) (by first | exact trivial | exact rfl) ?_
            (conv => whnf)
            refine booN (fun h8 => ?_) (fun h8 => ?_)
            · have hc : clashF (prevX l i) l[i] = 8 := by rw [hpv]; unfold clashF; simp [h8]
              rw [hc, if_pos (by decide)] at hat
              repeat' ((conv => whnf); first | (refine dec (fun h => ?_) (fun h => ?_) <;> try contradiction) | (refine decN (fun h => ?_) (fun h => ?_) <;> try contradiction) | refine booN (fun h => ?_) (fun h => ?_) | refine boo (fun h => ?_) (fun h => ?_) | refine ⟨i64 (by omega) (by omega), ?_⟩ | refine ⟨_, _, rfl, List.getElem?_eq_getElem (by omega), ?_⟩ | refine ⟨_, ⟨rfl, by omega⟩, ?_⟩ | refine ⟨_, List.getElem?_eq_getElem (by omega), ?_⟩ | refine rtB ?_ | refine rtI ?_ | refine rtC ?_ rfl | fail)
              exact hat.symm
            · (conv => whnf)
              refine dec (fun _ => ?_) (fun h => absurd h7 h)
              (conv => whnf)
              refine ⟨false, (.l [0, 1, 2, 3, 4, 5, 6, 7, 8, 9, 10, 11, 12, 13]), by kernel_rfl, .inl ?_⟩
              (conv => whnf)
              refine ⟨i64 (by omega) (by omega), ?_⟩
              (conv => whnf)
              refine ⟨i - 1, l[i - 1], by omega, List.getElem?_eq_getElem (by omega), ?_⟩
              (conv => whnf)
              refine cl [] [] (under_spec l[i].path l[i - 1].path (hp _ (List.getElem_mem _))) (by (repeat' first | exact trivial | exact rfl | refine And.intro ?_ ?_); first | done | fail) (by first | exact trivial | exact rfl) ?_
              rw [underP_is]
              (conv => whnf)
              refine boo (fun h9 => ?_) (fun h9 => ?_)
              · have hc : clashF (prevX l i) l[i] = 10 := by rw [hpv]; unfold clashF; simp [h8, h9]
                rw [hc, if_pos (by decide)] at hat
                repeat' ((conv => whnf); first | (refine dec (fun h => ?_) (fun h => ?_) <;> try contradiction) | (refine decN (fun h => ?_) (fun h => ?_) <;> try contradiction) | refine booN (fun h => ?_) (fun h => ?_) | refine boo (fun h => ?_) (fun h => ?_) | refine ⟨i64 (by omega) (by omega), ?_⟩ | refine ⟨_, _, rfl, List.getElem?_eq_getElem (by omega), ?_⟩ | refine ⟨_, ⟨rfl, by omega⟩, ?_⟩ | refine ⟨_, List.getElem?_eq_getElem (by omega), ?_⟩ | refine rtB ?_ | refine rtI ?_ | refine rtC ?_ rfl | fail)
                exact hat.symm
              · have hc : clashF (prevX l i) l[i] = 0 := by rw [hpv]; unfold clashF; simp [h8, h9]
                rw [hc, if_neg (by decide)] at hat
                repeat' ((conv => whnf); first | (refine dec (fun h => ?_) (fun h => ?_) <;> try contradiction) | (refine decN (fun h => ?_) (fun h => ?_) <;> try contradiction) | refine booN (fun h => ?_) (fun h => ?_) | refine boo (fun h => ?_) (fun h => ?_) | refine ⟨i64 (by omega) (by omega), ?_⟩ | refine ⟨_, _, rfl, List.getElem?_eq_getElem (by omega), ?_⟩ | refine ⟨_, ⟨rfl, by omega⟩, ?_⟩ | refine ⟨_, List.getElem?_eq_getElem (by omega), ?_⟩ | refine rtB ?_ | refine rtI ?_ | refine rtC ?_ rfl | fail)
                refine ag (i + 1) [] [] ⟨hlt, hat⟩ (by simp only []; omega) ?_
                repeat' first | exact trivial | exact rfl | refine And.intro ?_ ?_
          · obtain rfl : i = 0 := by omega
            have hc : clashF (prevX l 0) l[0] = 0 := rfl
            rw [hc, if_neg (by decide)] at hat
            repeat' ((conv => whnf); first | (refine dec (fun h => ?_) (fun h => ?_) <;> try contradiction) | (refine decN (fun h => ?_) (fun h => ?_) <;> try contradiction) | refine booN (fun h => ?_) (fun h => ?_) | refine boo (fun h => ?_) (fun h => ?_) | refine ⟨i64 (by omega) (by omega), ?_⟩ | refine ⟨_, _, rfl, List.getElem?_eq_getElem (by omega), ?_⟩ | refine ⟨_, ⟨rfl, by omega⟩, ?_⟩ | refine ⟨_, List.getElem?_eq_getElem (by omega), ?_⟩ | refine rtB ?_ | refine rtI ?_ | refine rtC ?_ rfl | fail)
            refine ag (0 + 1) [] [] ⟨hlt, hat⟩ (by simp only []; omega) ?_
            repeat' first | exact trivial | exact rfl | refine And.intro ?_ ?_
      · rw [if_neg (fun h => h.1 h6)] at hat
        (conv => whnf)
        refine ⟨false, (.l [0, 1, 2, 3, 4, 5, 6, 7, 8, 9, 10, 11, 12, 13, 14]), by kernel_rfl, .inl ?_⟩
        (conv => whnf)
        refine dec (fun h7 => ?_) (fun h7 => ?_)
        · have hi0 : 0 < i := by omega
          have hpv : prevX l i = some l[i - 1] := by
            obtain ⟨j, rfl⟩ : ∃ j, i = j + 1 := ⟨i - 1, by omega⟩
            exact List.getElem?_eq_getElem (by omega)
          (conv => whnf)
          refine ⟨i64 (by omega) (by omega), ?_⟩
          (conv => whnf)
          refine ⟨i - 1, l[i - 1], by omega, List.getElem?_eq_getElem (by omega), ?_⟩
          (conv => whnf)
          refine cl [] [] (less_spec l[i - 1].path l[i].path (hp _ (List.getElem_mem _)) (hp _ (List.getElem_mem _))) (by (repeat' first | exact trivial | exact rfl | refine And.intro ?_ ?_); first | done | fail) (by first | exact trivial | exact rfl) ?_
          (conv => whnf)
          refine booN (fun h8 => ?_) (fun h8 => ?_)
          · have hc : clashF (prevX l i) l[i] = 8 := by rw [hpv]; unfold clashF; simp [h8]
            rw [hc, if_pos (by decide)] at hat
            repeat' ((conv => whnf); first | (refine dec (fun h => ?_) (fun h => ?_) <;> try contradiction) | (refine decN (fun h => ?_) (fun h => ?_) <;> try contradiction) | refine booN (fun h => ?_) (fun h => ?_) | refine boo (fun h => ?_) (fun h => ?_) | refine ⟨i64 (by omega) (by omega), ?_⟩ | refine ⟨_, _, rfl, List.getElem?_eq_getElem (by omega), ?_⟩ | refine ⟨_, ⟨rfl, by omega⟩, ?_⟩ | refine ⟨_, List.getElem?_eq_getElem (by omega), ?_⟩ | refine rtB ?_ | refine rtI ?_ | refine rtC ?_ rfl | fail)
            exact hat.symm
          · (conv => whnf)
            refine dec (fun _ => ?_) (fun h => absurd h7 h)
            (conv => whnf)
            refine ⟨false, (.l [0, 1, 2, 3, 4, 5, 6, 7, 8, 9, 10, 11, 12, 13]), by kernel_rfl, .inl ?_⟩
            (conv => whnf)
            refine ⟨i64 (by omega) (by omega), ?_⟩
            (conv => whnf)
            refine ⟨i - 1, l[i - 1], by omega, List.getElem?_eq_getElem (by omega), ?_⟩
            (conv => whnf)
            refine cl [] [] (under_spec l[i].path l[i - 1].path (hp _ (List.getElem_mem _))) (by (repeat' first | exact trivial | exact rfl | refine And.intro ?_ ?_); first | done | fail) (by first | exact trivial | exact rfl) ?_
            rw [underP_is]
            (conv => whnf)
            refine boo (fun h9 => ?_) (fun h9 => ?_)
            · have hc : clashF (prevX l i) l[i] = 10 := by rw [hpv]; unfold clashF; simp [h8, h9]
              rw [hc, if_pos (by decide)] at hat
              repeat' ((conv => whnf); first | (refine dec (fun h => ?_) (fun h => ?_) <;> try contradiction) | (refine decN (fun h => ?_) (fun h => ?_) <;> try contradiction) | refine booN (fun h => ?_) (fun h => ?_) | refine boo (fun h => ?_) (fun h => ?_) | refine ⟨i64 (by omega) (by omega), ?_⟩ | refine ⟨_, _, rfl, List.getElem?_eq_getElem (by omega), ?_⟩ | refine ⟨_, ⟨rfl, by omega⟩, ?_⟩ | refine ⟨_, List.getElem?_eq_getElem (by omega), ?_⟩ | refine rtB ?_ | refine rtI ?_ | refine rtC ?_ rfl | fail)
              exact hat.symm
            · have hc : clashF (prevX l i) l[i] = 0 := by rw [hpv]; unfold clashF; simp [h8, h9]
              rw [hc, if_neg (by decide)] at hat
              repeat' ((conv => whnf); first | (refine dec (fun h => ?_) (fun h => ?_) <;> try contradiction) | (refine decN (fun h => ?_) (fun h => ?_) <;> try contradiction) | refine booN (fun h => ?_) (fun h => ?_) | refine boo (fun h => ?_) (fun h => ?_) | refine ⟨i64 (by omega) (by omega), ?_⟩ | refine ⟨_, _, rfl, List.getElem?_eq_getElem (by omega), ?_⟩ | refine ⟨_, ⟨rfl, by omega⟩, ?_⟩ | refine ⟨_, List.getElem?_eq_getElem (by omega), ?_⟩ | refine rtB ?_ | refine rtI ?_ | refine rtC ?_ rfl | fail)
              refine ag (i + 1) [] [] ⟨hlt, hat⟩ (by simp only []; omega) ?_
              repeat' first | exact trivial | exact rfl | refine And.intro ?_ ?_
        · obtain rfl : i = 0 := by omega
          have hc : clashF (prevX l 0) l[0] = 0 := rfl
          rw [hc, if_neg (by decide)] at hat
          repeat' ((conv => whnf); first | (refine dec (fun h => ?_) (fun h => ?_) <;> try contradiction) | (refine decN (fun h => ?_) (fun h => ?_) <;> try contradiction) | refine booN (fun h => ?_) (fun h => ?_) | refine boo (fun h => ?_) (fun h => ?_) | refine ⟨i64 (by omega) (by omega), ?_⟩ | refine ⟨_, _, rfl, List.getElem?_eq_getElem (by omega), ?_⟩ | refine ⟨_, ⟨rfl, by omega⟩, ?_⟩ | refine ⟨_, List.getElem?_eq_getElem (by omega), ?_⟩ | refine rtB ?_ | refine rtI ?_ | refine rtC ?_ rfl | fail)
          refine ag (0 + 1) [] [] ⟨hlt, hat⟩ (by simp only []; omega) ?_
          repeat' first | exact trivial | exact rfl | refine And.intro ?_ ?_
  · rw [List.drop_of_length_le (by omega)] at hat
    repeat' ((conv => whnf); first | (refine dec (fun h => ?_) (fun h => ?_) <;> try contradiction) | (refine decN (fun h => ?_) (fun h => ?_) <;> try contradiction) | refine booN (fun h => ?_) (fun h => ?_) | refine boo (fun h => ?_) (fun h => ?_) | refine ⟨i64 (by omega) (by omega), ?_⟩ | refine ⟨_, _, rfl, List.getElem?_eq_getElem (by omega), ?_⟩ | refine ⟨_, ⟨rfl, by omega⟩, ?_⟩ | refine ⟨_, List.getElem?_eq_getElem (by omega), ?_⟩ | refine rtB ?_ | refine rtI ?_ | refine rtC ?_ rfl | fail)
    rw [hat]; unfold checkF; rfl
theorem flatCheck_spec (l : List Fi) (hp : ∀ f ∈ l, f.path.length ≤ 4000000) : Does Tryd.prog 25 [.c (.bs 4 Fi encFi l)] [] (Rt (.c (.int .i64 (filesF l))) []) := by
  by_cases h : 60 < l.length
  · refine X_spec ⟨Tryd.prog, tab, 68, 0⟩ tabOk (by kernel_rfl) Tryd.call25 Tryd.func25 rfl rfl (by kernel_rfl) rfl ?_
    intro hb
    repeat' ((conv => whnf); first | (refine dec (fun h => ?_) (fun h => ?_) <;> try contradiction) | (refine decN (fun h => ?_) (fun h => ?_) <;> try contradiction) | refine booN (fun h => ?_) (fun h => ?_) | refine boo (fun h => ?_) (fun h => ?_) | refine ⟨i64 (by omega) (by omega), ?_⟩ | refine ⟨_, _, rfl, List.getElem?_eq_getElem (by omega), ?_⟩ | refine ⟨_, ⟨rfl, by omega⟩, ?_⟩ | refine ⟨_, List.getElem?_eq_getElem (by omega), ?_⟩ | refine rtB ?_ | refine rtI ?_ | refine rtC ?_ rfl | fail)
    · unfold filesF; rw [if_pos (by omega)]
    · omega
  · have := check_spec' l (by omega) hp
    unfold filesF
    rw [if_neg h]; exact this
end Go.Nest
end
