/- WALKS, 22: what bytes are, by the document. -/
import Derived.Test.YtkkjjbejkcgmfaaP6
namespace Go.Nest
open Go Go.AM Go.Proofs
open Go.Proofs.Ytkkjjbejkcgmfaa (tab tabOk)
set_option linter.unusedVariables false
set_option linter.unusedSimpArgs false
set_option maxRecDepth 4000

def zOc : List C := [.int .i64 0, .nil, .nil, .int .i64 0, .nil, .str []]
def bR (s : RS) : B := .box [.ls 1 UInt8 bytesC s.1, .bool s.2]
theorem some_spec (b : List UInt8) (sh : Bool) (n : Int) (h0 : 0 ≤ n) : Does Try.prog 72 [.c (.ptr 0 0), .c (.int .i64 n)] [.box [.ls 1 UInt8 bytesC b, .bool sh]] (Rt (.c (.ls 1 UInt8 bytesC (someP n (b, sh)).1)) [.box [.ls 1 UInt8 bytesC (someP n (b, sh)).2.1, .bool (someP n (b, sh)).2.2]]) := by
  refine X_spec ⟨Try.prog, tab, 38, 1⟩ tabOk (by kernel_rfl) Try.call72 Try.func72 rfl rfl (by kernel_rfl) rfl ?_
  intro hb
  have hb : b.length ≤ 9223372036854775807 := hb.2.1.1
  repeat' ((conv => whnf); first | (refine dec (fun h => ?_) (fun h => ?_) <;> try contradiction) | (refine decN (fun h => ?_) (fun h => ?_) <;> try contradiction) | refine booN (fun h => ?_) (fun h => ?_) | refine boo (fun h => ?_) (fun h => ?_) | refine ⟨i64 (by omega) (by omega), ?_⟩ | refine ⟨_, _, rfl, List.getElem?_eq_getElem (by omega), ?_⟩ | refine ⟨_, ⟨rfl, by omega⟩, ?_⟩ | refine ⟨_, List.getElem?_eq_getElem (by omega), ?_⟩ | refine rtB ?_ | refine rtI ?_ | refine rtC ?_ rfl | fail)
  · have : someP n (b, sh) = ([], (b, true)) := by unfold someP; rw [if_pos (.inl h)]
    rw [this]
    (conv => whnf)
    refine rt [] [.same 0] (by repeat' first | exact trivial | exact rfl | refine And.intro ?_ ?_) rfl ⟨rfl, rfl⟩
  · have : someP n (b, sh) = ([], (b, true)) := by unfold someP; rw [if_pos (.inr h)]
    rw [this]
    (conv => whnf)
    refine rt [] [.same 0] (by repeat' first | exact trivial | exact rfl | refine And.intro ?_ ?_) rfl ⟨rfl, rfl⟩
  · have hsh : sh = false := by assumption
    subst hsh
    have : someP n (b, false) = (b.take n.toNat, ((b.drop n.toNat).take (b.length - n.toNat), false)) := by
      unfold someP; rw [if_neg (by simp; omega), List.take_of_length_le (l := b.drop n.toNat) (by rw [List.length_drop]; omega)]
    rw [this]
    (conv => whnf)
    refine ⟨0, n.toNat, rfl, (show n = _ by omega), ⟨by omega, by omega⟩, ?_⟩
    (conv => whnf)
    refine ⟨n.toNat, b.length, (show n = _ by omega), rfl, ⟨by omega, by omega⟩, ?_⟩
    (conv => whnf)
    refine rt [] [.same 0] (by repeat' first | exact trivial | exact rfl | refine And.intro ?_ ?_) rfl ⟨rfl, rfl⟩

theorem lenS {n : Int} {s : RS} (h : n < 16777216) : (([] : List UInt8).length + (someP n s).1.length) * 1 ≤ 140737488355328 := by
  have := someP_len (n := n) (s := s)
  simp only [List.length_nil]; omega
theorem leP_drop {l : List UInt8} {j : Nat} (h : j < l.length) : leP (l.drop j) = (l[j].toNat : Int) + 256 * leP (l.drop (j + 1)) := by
  rw [List.drop_eq_getElem_cons h]; rfl
theorem number_spec (b : List UInt8) (sh : Bool) (n : Int) (h0 : 0 ≤ n) (h3 : n ≤ 3) : Does Try.prog 71 [.c (.ptr 0 0), .c (.int .i64 n)] [.box [.ls 1 UInt8 bytesC b, .bool sh]] (Rt (.c (.int .i64 (numP n (b, sh)).1)) [.box [.ls 1 UInt8 bytesC (numP n (b, sh)).2.1, .bool (numP n (b, sh)).2.2]]) := by
  refine X_spec ⟨Try.prog, tab, 27, 1⟩ tabOk (by kernel_rfl) Try.call71 Try.func71 rfl rfl (by kernel_rfl) rfl ?_
  intro hb
  have hl := someP_len (n := n) (s := (b, sh))
  unfold numP
  (conv => whnf)
  refine cl [] [0] (some_spec b sh n h0) (by (repeat' first | exact trivial | exact rfl | refine And.intro ?_ ?_); first | done | fail) (by first | exact trivial | exact rfl) ?_
  generalize someP n (b, sh) = y at hl
  obtain ⟨x, q, sh2⟩ := y
  dsimp only at hl ⊢
  (conv => whnf)
  refine ⟨i64 (by omega) (by omega), ?_⟩
  (conv => whnf)
  refine lp Nat (fun j => ⟨[(5, .c (.ls 1 UInt8 bytesC x)), (6, .c (.int .i64 (leP (x.drop j)))), (7, .c (.int .i64 ((j : Int) - 1)))], [.box [.ls 1 UInt8 bytesC q, .bool sh2]]⟩) (fun j => j ≤ x.length ∧ True) (fun j => j) x.length [] [.same 0] ?_ ?_ (fun j hj => ?_)
  · simp
  · have h : leP (x.drop x.length) = 0 := by rw [List.drop_length]; rfl
    rw [h]
    repeat' first | exact trivial | exact rfl | refine And.intro ?_ ?_
  have p1 := leP_pos (l := x.drop j)
  have p2 := leP_lt (l := x.drop j) (by rw [List.length_drop]; omega)
  (conv => whnf)
  refine dec (fun h4 => ?_) (fun h4 => ?_)
  · have hlt : j - 1 < x.length := by omega
    have hd := leP_drop hlt
    have hc := x[j - 1].toNat_lt
    rw [show j - 1 + 1 = j by omega] at hd
    (conv => whnf)
    refine ⟨i64 (by omega) (by omega), ?_⟩
    (conv => whnf)
    refine ⟨j - 1, x[j - 1], (show (j : Int) - 1 = _ by omega), List.getElem?_eq_getElem hlt, ?_⟩
    (conv => whnf)
    refine ⟨i64 (by rw [wrapB]; omega) (by rw [wrapB]; omega), ?_⟩
    (conv => whnf)
    refine ⟨i64 (show -9223372036854775808 ≤ (j : Int) - 1 - 1 by omega) (show (j : Int) - 1 - 1 ≤ _ by omega), ?_⟩
    (conv => whnf)
    refine ag (j - 1) [] [.same 0] ⟨by omega, trivial⟩ (by simp only []; omega) ?_
    rw [hd, show ((j - 1 : Nat) : Int) = (j : Int) - 1 by omega, show (x[j - 1].toNat : Int) + 256 * leP (x.drop j) = leP (x.drop j) * 256 + IntKind.i64.wrap (x[j - 1].toNat : Int) by rw [wrapB]; omega]
    repeat' first | exact trivial | exact rfl | refine And.intro ?_ ?_
  · obtain rfl : j = 0 := by omega
    (conv => whnf)
    refine rt [] [.same 0] (by repeat' first | exact trivial | exact rfl | refine And.intro ?_ ?_) rfl ⟨rfl, rfl⟩

set_option maxHeartbeats 4000000 in
theorem objectOf_spec (b : List UInt8) (hb : b.length ≤ 1000000) : Does Try.prog 42 [.c (.ls 1 UInt8 bytesC b)] [] (Rt (.tup [(true, encOb (decO b)), (false, [.int .i64 (decC b)])]) []) := by
  refine X_specM ⟨Try.prog, tab, 118, 0⟩ tabOk (by kernel_rfl) Try.call42 Try.func42 rfl rfl (by kernel_rfl) rfl ?_
  intro _
  refine XM.seq ?_
  (conv => whnf)
  refine XM.seq ?_
  (conv => whnf)
  refine XM.seq ?_
  (conv => whnf)
  refine cl [] [1] (number_spec b false 1 (by decide) (by decide)) (by (repeat' first | exact trivial | exact rfl | refine And.intro ?_ ?_); first | done | fail) (by first | exact trivial | exact rfl) ?_
  (conv => whnf)
  refine XM.join (ι := Ob × RS) (fun x => ⟨[(2, .c (.ptr 0 0)), (3, .c (.int .i64 0)), (4, .c (.ptr 1 0)), (5, .c (.ptr 2 0))], [.box zOc, .box [.ls 1 UInt8 bytesC x.2.1, .bool x.2.2], .box (encOb x.1)]⟩) (fun x => PJ b x.1 x.2) ?_ (fun x hx => ?_)
  rotate_left
  · obtain ⟨o, q, sh⟩ := x
    have hx : (sh = true ∧ decP b = none) ∨ (sh = false ∧ decP b = some (o, q)) := hx
    refine XM.seq ?_
    repeat' ((conv => whnf); first | (refine dec (fun h => ?_) (fun h => ?_) <;> try contradiction) | (refine decN (fun h => ?_) (fun h => ?_) <;> try contradiction) | refine booN (fun h => ?_) (fun h => ?_) | refine boo (fun h => ?_) (fun h => ?_) | refine ⟨i64 (by omega) (by omega), ?_⟩ | refine ⟨_, _, rfl, List.getElem?_eq_getElem (by omega), ?_⟩ | refine ⟨_, ⟨rfl, by omega⟩, ?_⟩ | refine ⟨_, List.getElem?_eq_getElem (by omega), ?_⟩ | refine rtB ?_ | refine rtI ?_ | refine rtC ?_ rfl | fail)
    · have hsh : sh = true := h
      have hd : decP b = none := by
        rcases hx with hx | hx
        · exact hx.2
        · rw [hsh] at hx; cases hx.1
      have e1 : decC b = 7 := by unfold decC; rw [hd]
      have e2 : decO b = ob0 := by unfold decO; rw [hd]
      rw [e1, e2]
      (conv => whnf)
      refine rt [] [] (by repeat' first | exact trivial | exact rfl | refine And.intro ?_ ?_) rfl ⟨rfl, rfl⟩
    have hsh : sh = false := h
    have hd : decP b = some (o, q) := by
      rcases hx with hx | hx
      · rw [hsh] at hx; cases hx.1
      · exact hx.2
    have hc : decC b = if objF o = 0 then (if q = [] then 0 else 7) else objF o := by unfold decC; rw [hd]
    have ho : decO b = if objF o = 0 ∧ q = [] then o else ob0 := by unfold decO; rw [hd]
    refine XM.seq ?_
    (conv => whnf)
    refine cl [] [] (objectFault_spec o) (by (repeat' first | exact trivial | exact rfl | refine And.intro ?_ ?_); first | done | fail) (by first | exact trivial | exact rfl) ?_
    repeat' ((conv => whnf); first | (refine dec (fun h => ?_) (fun h => ?_) <;> try contradiction) | (refine decN (fun h => ?_) (fun h => ?_) <;> try contradiction) | refine booN (fun h => ?_) (fun h => ?_) | refine boo (fun h => ?_) (fun h => ?_) | refine ⟨i64 (by omega) (by omega), ?_⟩ | refine ⟨_, _, rfl, List.getElem?_eq_getElem (by omega), ?_⟩ | refine ⟨_, ⟨rfl, by omega⟩, ?_⟩ | refine ⟨_, List.getElem?_eq_getElem (by omega), ?_⟩ | refine rtB ?_ | refine rtI ?_ | refine rtC ?_ rfl | fail)
    · have h0 : ¬ objF o = 0 := h
      have e1 : decC b = objF o := by rw [hc, if_neg h0]
      have e2 : decO b = ob0 := by rw [ho, if_neg (fun e => h0 e.1)]
      rw [e1, e2]
      (conv => whnf)
      refine rt [] [] (by repeat' first | exact trivial | exact rfl | refine And.intro ?_ ?_) rfl ⟨rfl, rfl⟩
    have h0 : objF o = 0 := h
    refine XM.seq ?_
    repeat' ((conv => whnf); first | (refine dec (fun h => ?_) (fun h => ?_) <;> try contradiction) | (refine decN (fun h => ?_) (fun h => ?_) <;> try contradiction) | refine booN (fun h => ?_) (fun h => ?_) | refine boo (fun h => ?_) (fun h => ?_) | refine ⟨i64 (by omega) (by omega), ?_⟩ | refine ⟨_, _, rfl, List.getElem?_eq_getElem (by omega), ?_⟩ | refine ⟨_, ⟨rfl, by omega⟩, ?_⟩ | refine ⟨_, List.getElem?_eq_getElem (by omega), ?_⟩ | refine rtB ?_ | refine rtI ?_ | refine rtC ?_ rfl | fail)
    · have hq : q ≠ [] := fun e => by subst e; have h : (0 : Int) < (([] : List UInt8).length : Int) := h; simp at h
      have e1 : decC b = 7 := by rw [hc, if_pos h0, if_neg hq]
      have e2 : decO b = ob0 := by rw [ho, if_neg (fun e => hq e.2)]
      rw [e1, e2]
      (conv => whnf)
      refine rt [] [] (by repeat' first | exact trivial | exact rfl | refine And.intro ?_ ?_) rfl ⟨rfl, rfl⟩
    · have h : ¬ (0 : Int) < (q.length : Int) := h
      have hq : q = [] := List.eq_nil_of_length_eq_zero (by omega)
      have e1 : decC b = 0 := by rw [hc, if_pos h0, if_pos hq]
      have e2 : decO b = o := by rw [ho, if_pos ⟨h0, hq⟩]
      rw [e1, e2]
      refine XM.of ?_
      (conv => whnf)
      refine rt [] [] (by repeat' first | exact trivial | exact rfl | refine And.intro ?_ ?_) rfl ⟨rfl, rfl⟩
  repeat' ((conv => whnf); first | (refine dec (fun h => ?_) (fun h => ?_) <;> try contradiction) | (refine decN (fun h => ?_) (fun h => ?_) <;> try contradiction) | refine booN (fun h => ?_) (fun h => ?_) | refine boo (fun h => ?_) (fun h => ?_) | refine ⟨i64 (by omega) (by omega), ?_⟩ | refine ⟨_, _, rfl, List.getElem?_eq_getElem (by omega), ?_⟩ | refine ⟨_, ⟨rfl, by omega⟩, ?_⟩ | refine ⟨_, List.getElem?_eq_getElem (by omega), ?_⟩ | refine rtB ?_ | refine rtI ?_ | refine rtC ?_ rfl | fail)
  · have hk : kindP b = 1 := h
    (conv => whnf)
    refine ⟨true, (.alt [0, 2, 3] [1, 4] fun j => bif Nat.beq j 1 then (.l [4, 5, 6, 7, 8]) else bif Nat.beq j 4 then (.alt [] [1, 5] fun j => bif Nat.beq j 1 then (.l [5, 6, 7, 8]) else bif Nat.beq j 5 then (.l [1, 6, 7, 8]) else .l []) else .l []), by kernel_rfl, .inl ?_⟩
    repeat' ((conv => whnf); first | refine And.intro ?_ ?_ | (refine ⟨_, _, rfl, rfl, lenS (numP_lt (by decide)), ?_⟩) | (refine cl [] [1] (number_spec (restP b).1 (restP b).2 3 (by decide) (by decide)) (by (repeat' first | exact trivial | exact rfl | refine And.intro ?_ ?_); first | done | fail) (by first | exact trivial | exact rfl) ?_) | (refine cl [] [1] (some_spec (numP 3 (restP b)).2.1 (numP 3 (restP b)).2.2 (numP 3 (restP b)).1 numP_pos) (by (repeat' first | exact trivial | exact rfl | refine And.intro ?_ ?_); first | done | fail) (by first | exact trivial | exact rfl) ?_) | fail)
    all_goals
      (conv => whnf)
      refine ⟨(⟨kindP b, (txtP (restP b)).1, [], 0, [], []⟩, (txtP (restP b)).2), pj1 hk, [3], [.same 0, .same 1, .same 2], ?_⟩
      repeat' first | exact trivial | exact rfl | refine And.intro ?_ ?_
  · have hk : kindP b = 2 := h
    have hn0 := numP_pos (n := 3) (s := restP b)
    have hn1 := numP_lt (n := 3) (s := restP b) (by decide)
    have hei := ei2 hk
    (conv => whnf)
    refine cl [] [1] (number_spec (restP b).1 (restP b).2 3 (by decide) (by decide)) (by (repeat' first | exact trivial | exact rfl | refine And.intro ?_ ?_); first | done | fail) (by first | exact trivial | exact rfl) ?_
    (conv => whnf)
    generalize (numP 3 (restP b)).1 = n at hn0 hn1 hei
    refine lp (Nat × RS × List Ent) (fun x => ⟨[(2, .c (.ptr 0 0)), (3, .c (.int .i64 0)), (4, .c (.ptr 1 0)), (5, .c (.ptr 2 0)), (6, .c (.int .i64 n)), (7, .c (.int .i64 x.1))], [.box zOc, .box [.ls 1 UInt8 bytesC x.2.1.1, .bool x.2.1.2], .box [.int .i64 (kindP b), .nil, .rw 3, .int .i64 0, .nil, .str []], .row 4 Ent encEn x.2.2]⟩)
      (fun x => x.1 ≤ n.toNat ∧ (x.2.2.length = x.1 ∧ EI rdE (F2 (kindP b)) b n x.1 x.2.1 x.2.2)) (fun x => n.toNat - x.1) (0, (numP 3 (restP b)).2, []) [] [.same 0, .same 1, .same 2, .new] ?_ ?_ (fun x hi => ?_)
    · exact ⟨Nat.zero_le _, rfl, hei⟩
    · repeat' first | exact trivial | exact rfl | refine And.intro ?_ ?_
    obtain ⟨i, ⟨q, sh⟩, es⟩ := x
    dsimp only at hi
    obtain ⟨hi1, hi2, hi3⟩ := hi
    (conv => whnf)
    refine dec (fun h4 => ?_) (fun h4 => ?_)
    · repeat' ((conv => whnf); first | (refine dec (fun h => ?_) (fun h => ?_) <;> try contradiction) | (refine decN (fun h => ?_) (fun h => ?_) <;> try contradiction) | refine booN (fun h => ?_) (fun h => ?_) | refine boo (fun h => ?_) (fun h => ?_) | refine ⟨i64 (by omega) (by omega), ?_⟩ | refine ⟨_, _, rfl, List.getElem?_eq_getElem (by omega), ?_⟩ | refine ⟨_, ⟨rfl, by omega⟩, ?_⟩ | refine ⟨_, List.getElem?_eq_getElem (by omega), ?_⟩ | refine rtB ?_ | refine rtI ?_ | refine rtC ?_ rfl | fail)
      rotate_left
      · have hsh : sh = true := h
        (conv => whnf)
        refine ⟨(⟨kindP b, [], es, 0, [], []⟩, (q, sh)), pj2 (hi3.fin (.inr hsh)), [3], [.same 0, .same 1, .same 2], ?_⟩
        repeat' first | exact trivial | exact rfl | refine And.intro ?_ ?_
      · have hsh : sh = false := h
        have h4 : (i : Int) < n := h4
        have hgo := hi3.go ent_same hsh h4
        (conv => whnf)
        refine cl [] [1] (number_spec q sh 3 (by decide) (by decide)) (by (repeat' first | exact trivial | exact rfl | refine And.intro ?_ ?_); first | done | fail) (by first | exact trivial | exact rfl) ?_
        (conv => whnf)
        refine cl [] [1] (some_spec (numP 3 (q, sh)).2.1 (numP 3 (q, sh)).2.2 (numP 3 (q, sh)).1 numP_pos) (by (repeat' first | exact trivial | exact rfl | refine And.intro ?_ ?_); first | done | fail) (by first | exact trivial | exact rfl) ?_
        (conv => whnf)
        refine ⟨(txtP (q, sh)).1, rfl, ?_⟩
        (conv => whnf)
        refine cl [] [1] (number_spec (txtP (q, sh)).2.1 (txtP (q, sh)).2.2 1 (by decide) (by decide)) (by (repeat' first | exact trivial | exact rfl | refine And.intro ?_ ?_); first | done | fail) (by first | exact trivial | exact rfl) ?_
        (conv => whnf)
        refine cl [] [1] (number_spec (numP 1 (txtP (q, sh)).2).2.1 (numP 1 (txtP (q, sh)).2).2.2 1 (by decide) (by decide)) (by (repeat' first | exact trivial | exact rfl | refine And.intro ?_ ?_); first | done | fail) (by first | exact trivial | exact rfl) ?_
        (conv => whnf)
        refine cl [] [1] (number_spec (numP 1 (numP 1 (txtP (q, sh)).2).2).2.1 (numP 1 (numP 1 (txtP (q, sh)).2).2).2.2 3 (by decide) (by decide)) (by (repeat' first | exact trivial | exact rfl | refine And.intro ?_ ?_); first | done | fail) (by first | exact trivial | exact rfl) ?_
        (conv => whnf)
        refine ⟨[(entP (q, sh)).1], rfl, ?_⟩
        (conv => whnf)
        refine ⟨_, _, rfl, rfl, (by simp only [List.length_append, List.length_cons, List.length_nil]; omega), ?_⟩
        repeat' ((conv => whnf); first | (refine dec (fun h => ?_) (fun h => ?_) <;> try contradiction) | (refine decN (fun h => ?_) (fun h => ?_) <;> try contradiction) | refine booN (fun h => ?_) (fun h => ?_) | refine boo (fun h => ?_) (fun h => ?_) | refine ⟨i64 (by omega) (by omega), ?_⟩ | refine ⟨_, _, rfl, List.getElem?_eq_getElem (by omega), ?_⟩ | refine ⟨_, ⟨rfl, by omega⟩, ?_⟩ | refine ⟨_, List.getElem?_eq_getElem (by omega), ?_⟩ | refine rtB ?_ | refine rtI ?_ | refine rtC ?_ rfl | fail)
        refine ag (i + 1, (entP (q, sh)).2, es ++ [(entP (q, sh)).1]) [] [.same 0, .same 1, .same 2, .same 6] ⟨by dsimp only; omega, by simp [hi2], hgo⟩ (by simp only []; omega) ?_
        repeat' first | exact trivial | exact rfl | refine And.intro ?_ ?_
    · have h4 : ¬ (i : Int) < n := h4
      repeat' ((conv => whnf); first | (refine dec (fun h => ?_) (fun h => ?_) <;> try contradiction) | (refine decN (fun h => ?_) (fun h => ?_) <;> try contradiction) | refine booN (fun h => ?_) (fun h => ?_) | refine boo (fun h => ?_) (fun h => ?_) | refine ⟨i64 (by omega) (by omega), ?_⟩ | refine ⟨_, _, rfl, List.getElem?_eq_getElem (by omega), ?_⟩ | refine ⟨_, ⟨rfl, by omega⟩, ?_⟩ | refine ⟨_, List.getElem?_eq_getElem (by omega), ?_⟩ | refine rtB ?_ | refine rtI ?_ | refine rtC ?_ rfl | fail)
      refine ⟨(⟨kindP b, [], es, 0, [], []⟩, (q, sh)), pj2 (hi3.fin (.inl (by omega))), [3], [.same 0, .same 1, .same 2], ?_⟩
      repeat' first | exact trivial | exact rfl | refine And.intro ?_ ?_
  · have hk : kindP b = 3 := h
    have hei := ei3 hk
    (conv => whnf)
    refine cl [] [1] (number_spec (restP b).1 (restP b).2 3 (by decide) (by decide)) (by (repeat' first | exact trivial | exact rfl | refine And.intro ?_ ?_); first | done | fail) (by first | exact trivial | exact rfl) ?_
    (conv => whnf)
    refine cl [] [1] (number_spec (numP 3 (restP b)).2.1 (numP 3 (restP b)).2.2 3 (by decide) (by decide)) (by (repeat' first | exact trivial | exact rfl | refine And.intro ?_ ?_); first | done | fail) (by first | exact trivial | exact rfl) ?_
    (conv => whnf)
    have hn0 := numP_pos (n := 3) (s := (numP 3 (restP b)).2)
    have hn1 := numP_lt (n := 3) (s := (numP 3 (restP b)).2) (by decide)
    generalize (numP 3 (numP 3 (restP b)).2).1 = n at hn0 hn1 hei
    generalize (numP 3 (restP b)).1 = t at hei
    refine lp (Nat × RS × List Int) (fun x => ⟨[(2, .c (.ptr 0 0)), (3, .c (.int .i64 0)), (4, .c (.ptr 1 0)), (5, .c (.ptr 2 0)), (9, .c (.int .i64 n)), (10, .c (.int .i64 x.1))], [.box zOc, .box [.ls 1 UInt8 bytesC x.2.1.1, .bool x.2.1.2], .box [.int .i64 (kindP b), .nil, .nil, .int .i64 t, .rw 3, .str []], .row 1 Int encI x.2.2]⟩)
      (fun x => x.1 ≤ n.toNat ∧ (x.2.2.length = x.1 ∧ EI rd3 (F3 (kindP b) t) b n x.1 x.2.1 x.2.2)) (fun x => n.toNat - x.1) (0, (numP 3 (numP 3 (restP b)).2).2, []) [] [.same 0, .same 1, .same 2, .new] ?_ ?_ (fun x hi => ?_)
    · exact ⟨Nat.zero_le _, rfl, hei⟩
    · repeat' first | exact trivial | exact rfl | refine And.intro ?_ ?_
    obtain ⟨i, ⟨q, sh⟩, ps⟩ := x
    dsimp only at hi
    obtain ⟨hi1, hi2, hi3⟩ := hi
    have done : ∀ (h : n ≤ i ∨ sh = true), PJ b ⟨kindP b, [], [], t, ps, (txtP (q, sh)).1⟩ (txtP (q, sh)).2 := fun h => pj3 (hi3.fin h)
    (conv => whnf)
    refine dec (fun h4 => ?_) (fun h4 => ?_)
    · repeat' ((conv => whnf); first | (refine dec (fun h => ?_) (fun h => ?_) <;> try contradiction) | (refine decN (fun h => ?_) (fun h => ?_) <;> try contradiction) | refine booN (fun h => ?_) (fun h => ?_) | refine boo (fun h => ?_) (fun h => ?_) | refine ⟨i64 (by omega) (by omega), ?_⟩ | refine ⟨_, _, rfl, List.getElem?_eq_getElem (by omega), ?_⟩ | refine ⟨_, ⟨rfl, by omega⟩, ?_⟩ | refine ⟨_, List.getElem?_eq_getElem (by omega), ?_⟩ | refine rtB ?_ | refine rtI ?_ | refine rtC ?_ rfl | fail)
      rotate_left
      · have hsh : sh = true := h
        (conv => whnf)
        refine cl [] [1] (number_spec q sh 3 (by decide) (by decide)) (by (repeat' first | exact trivial | exact rfl | refine And.intro ?_ ?_); first | done | fail) (by first | exact trivial | exact rfl) ?_
        (conv => whnf)
        refine cl [] [1] (some_spec (numP 3 (q, sh)).2.1 (numP 3 (q, sh)).2.2 (numP 3 (q, sh)).1 numP_pos) (by (repeat' first | exact trivial | exact rfl | refine And.intro ?_ ?_); first | done | fail) (by first | exact trivial | exact rfl) ?_
        (conv => whnf)
        refine ⟨(txtP (q, sh)).1, rfl, ?_⟩
        (conv => whnf)
        refine ⟨(⟨kindP b, [], [], t, ps, (txtP (q, sh)).1⟩, (txtP (q, sh)).2), done (.inr hsh), [3], [.same 0, .same 1, .same 2], ?_⟩
        repeat' first | exact trivial | exact rfl | refine And.intro ?_ ?_
      · have hsh : sh = false := h
        have h4 : (i : Int) < n := h4
        have hgo := hi3.go num3_same hsh h4
        (conv => whnf)
        refine ⟨true, (.alt [0, 2] [1, 3] fun j => bif Nat.beq j 1 then (.l [3, 4, 5, 6, 7]) else bif Nat.beq j 3 then (.alt [] [1, 4] fun j => bif Nat.beq j 1 then (.l [4, 5, 6, 7]) else bif Nat.beq j 4 then (.l [1, 5, 6, 7]) else .l []) else .l []), by kernel_rfl, .inl ?_⟩
        repeat' ((conv => whnf); first | (refine ⟨i64 (by omega) (by omega), ?_⟩) | refine And.intro ?_ ?_ | (refine ⟨[(numP 3 (q, sh)).1], rfl, ?_⟩) | (refine ⟨_, _, rfl, rfl, (by simp only [List.length_append, List.length_cons, List.length_nil]; omega), ?_⟩) | (refine cl [] [1] (number_spec q sh 3 (by decide) (by decide)) (by (repeat' first | exact trivial | exact rfl | refine And.intro ?_ ?_); first | done | fail) (by first | exact trivial | exact rfl) ?_) | fail)
        all_goals
          repeat' ((conv => whnf); first | (refine dec (fun h => ?_) (fun h => ?_) <;> try contradiction) | (refine decN (fun h => ?_) (fun h => ?_) <;> try contradiction) | refine booN (fun h => ?_) (fun h => ?_) | refine boo (fun h => ?_) (fun h => ?_) | refine ⟨i64 (by omega) (by omega), ?_⟩ | refine ⟨_, _, rfl, List.getElem?_eq_getElem (by omega), ?_⟩ | refine ⟨_, ⟨rfl, by omega⟩, ?_⟩ | refine ⟨_, List.getElem?_eq_getElem (by omega), ?_⟩ | refine rtB ?_ | refine rtI ?_ | refine rtC ?_ rfl | fail)
          refine ag (i + 1, (numP 3 (q, sh)).2, ps ++ [(numP 3 (q, sh)).1]) [] [.same 0, .same 1, .same 2, .same 5] ⟨by dsimp only; omega, by simp [hi2], hgo⟩ (by simp only []; omega) ?_
          repeat' first | exact trivial | exact rfl | refine And.intro ?_ ?_
    · have h4 : ¬ (i : Int) < n := h4
      repeat' ((conv => whnf); first | (refine dec (fun h => ?_) (fun h => ?_) <;> try contradiction) | (refine decN (fun h => ?_) (fun h => ?_) <;> try contradiction) | refine booN (fun h => ?_) (fun h => ?_) | refine boo (fun h => ?_) (fun h => ?_) | refine ⟨i64 (by omega) (by omega), ?_⟩ | refine ⟨_, _, rfl, List.getElem?_eq_getElem (by omega), ?_⟩ | refine ⟨_, ⟨rfl, by omega⟩, ?_⟩ | refine ⟨_, List.getElem?_eq_getElem (by omega), ?_⟩ | refine rtB ?_ | refine rtI ?_ | refine rtC ?_ rfl | fail)
      (conv => whnf)
      refine cl [] [1] (number_spec q sh 3 (by decide) (by decide)) (by (repeat' first | exact trivial | exact rfl | refine And.intro ?_ ?_); first | done | fail) (by first | exact trivial | exact rfl) ?_
      (conv => whnf)
      refine cl [] [1] (some_spec (numP 3 (q, sh)).2.1 (numP 3 (q, sh)).2.2 (numP 3 (q, sh)).1 numP_pos) (by (repeat' first | exact trivial | exact rfl | refine And.intro ?_ ?_); first | done | fail) (by first | exact trivial | exact rfl) ?_
      (conv => whnf)
      refine ⟨(txtP (q, sh)).1, rfl, ?_⟩
      (conv => whnf)
      refine ⟨(⟨kindP b, [], [], t, ps, (txtP (q, sh)).1⟩, (txtP (q, sh)).2), done (.inl (by omega)), [3], [.same 0, .same 1, .same 2], ?_⟩
      repeat' first | exact trivial | exact rfl | refine And.intro ?_ ?_
  · have h1 : ¬ kindP b = 1 := by assumption
    have h2 : ¬ kindP b = 2 := by assumption
    have h3 : ¬ kindP b = 3 := h
    (conv => whnf)
    refine ⟨(⟨kindP b, [], [], 0, [], []⟩, restP b), pj4 h1 h2 h3, [], [.same 0, .same 1, .same 2], ?_⟩
    repeat' first | exact trivial | exact rfl | refine And.intro ?_ ?_
end Go.Nest
