/- WALKS, K4: a work: Write, Link, Remove, Docs, Links; by the document, too. -/
import Derived.Test.YtogallppofinhaaGreatDoorK3
import Derived.Test.YtogallppofinhaaGreatDoorK1b
import Derived.Test.YtogallppofinhaaGreatDoorG9
import Derived.Test.YtogallppofinhaaGreatDoorF7
import Derived.Test.YtogallppofinhaaGreatDoorF2
section
namespace Go.Nest
open Go Go.AM Go.Proofs
open Go.Proofs.YtogallppofinhaaGreatDoor (tab tabOk)
set_option linter.unusedVariables false
set_option linter.unusedSimpArgs false
set_option maxRecDepth 4000
def wrW (l : List It) (p : List UInt8) (b : List UInt8) : Int × List It := if 400 < b.length then (4, l) else putW l ⟨p, b, false, 0, 0⟩
def wrD (l : List It) (p : List UInt8) (b : List UInt8) : Int × List It := if 400 < b.length then (4, l) else putD l ⟨p, b, false, 0, 0⟩
def liW (L : List Ob) (l : List It) (p : List UInt8) (repo id : Int) : Int × List It := if repo < 0 ∨ 4 ≤ repo then (1, l) else if kindOf L id ≠ 3 then (9, l) else putW l ⟨p, [], true, id, repo⟩
def liD (L : List Ob) (l : List It) (p : List UInt8) (repo id : Int) : Int × List It := if repo < 0 ∨ 4 ≤ repo then (1, l) else if kindOf L id ≠ 3 then (9, l) else putD l ⟨p, [], true, id, repo⟩
theorem write_wspec (L : List Ob) (l : List It) (h : Int) (p b : List UInt8) (hx : p.length ≤ 4000000) (hp : ∀ y ∈ l, y.path.length ≤ 4000000) (hl : l.length ≤ 60) : Does Tryz.prog 82 [.c (.ptr 0 0), .c (.str p), .c (.bs 1 UInt8 bytesC b)] [.box [.ptr 1 0, .rw 3, .int .i64 h], .box [.rw 2], .row 6 Ob encOb L, .row 5 It encIt l] (Rt (.c (.int .i64 (wrW l p b).1)) [.box [.ptr 1 0, .rw 5, .int .i64 h], .box [.rw 4], .dead, .dead, .row 6 Ob encOb L, .row 5 It encIt (wrW l p b).2]) := by
  refine X_spec (n := 16) (n0 := 4) tabOk Tryz.call82 Tryz.func82 ?_
  intro hb
  (conv => whnf)
  refine dec (fun h1 => ?_) (fun h1 => ?_)
  · rw [show wrW l p b = _ from if_pos (by have h1 : (400 : Int) < b.length := h1; omega)]
    (conv => whnf)
    exact rx [] [.same 0, .same 1, .same 2, .same 3, .same 2, .same 3]
  have h1 : ¬ (400 : Int) < b.length := h1
  rw [show wrW l p b = _ from if_neg (by omega)]
  (conv => whnf)
  refine cl [] [] (cloneBytes_spec b (by omega)) ?_
  (conv => whnf)
  refine cl [4] [0, 1, 2, 3] (put_wspec L l h ⟨p, b, false, 0, 0⟩ hx hp hl) ?_
  (conv => whnf)
  exact rx [] [.same 0, .same 1, .same 2, .same 3, .same 5, .same 6]
theorem writeD_wspec (L : List Ob) (l : List It) (h : Int) (p b : List UInt8) (hx : p.length ≤ 4000000) (hp : ∀ y ∈ l, y.path.length ≤ 4000000) (hl : l.length ≤ 60) : Does Tryz.prog 86 [.c (.ptr 0 0), .c (.str p), .c (.bs 1 UInt8 bytesC b)] [.box [.ptr 1 0, .rw 3, .int .i64 h], .box [.rw 2], .row 6 Ob encOb L, .row 5 It encIt l] (Rt (.c (.int .i64 (wrD l p b).1)) [.box [.ptr 1 0, .rw 5, .int .i64 h], .box [.rw 4], .dead, .dead, .row 6 Ob encOb L, .row 5 It encIt (wrD l p b).2]) := by
  refine X_spec (n := 18) (n0 := 4) tabOk Tryz.call86 Tryz.func86 ?_
  intro hb
  (conv => whnf)
  refine dec (fun h1 => ?_) (fun h1 => ?_)
  · rw [show wrD l p b = _ from if_pos (by have h1 : (400 : Int) < b.length := h1; omega)]
    (conv => whnf)
    exact rx [] [.same 0, .same 1, .same 2, .same 3, .same 2, .same 3]
  have h1 : ¬ (400 : Int) < b.length := h1
  rw [show wrD l p b = _ from if_neg (by omega)]
  (conv => whnf)
  refine ⟨[], _, rfl, rfl, (by simp only [List.length_nil]; omega), ?_⟩
  (conv => whnf)
  refine cl [4] [0, 1, 2, 3] (putD_wspec L l h ⟨p, b, false, 0, 0⟩ hx hp hl) ?_
  (conv => whnf)
  exact rx [] [.same 0, .same 1, .same 2, .same 3, .same 5, .same 6]
theorem link_wspec (L : List Ob) (hL : PoolOk L) (l : List It) (h : Int) (p : List UInt8) (repo id : Int) (hx : p.length ≤ 4000000) (hp : ∀ y ∈ l, y.path.length ≤ 4000000) (hl : l.length ≤ 60) : Does Tryz.prog 88 [.c (.ptr 0 0), .c (.str p), .c (.int .i64 repo), .c (.int .i64 id)] [.box [.ptr 1 0, .rw 3, .int .i64 h], .box [.rw 2], .row 6 Ob encOb L, .row 5 It encIt l] (Rt (.c (.int .i64 (liW L l p repo id).1)) [.box [.ptr 1 0, .rw 5, .int .i64 h], .box [.rw 4], .dead, .dead, .row 6 Ob encOb L, .row 5 It encIt (liW L l p repo id).2]) := by
  refine X_spec (n := 37) (n0 := 4) tabOk Tryz.call88 Tryz.func88 ?_
  intro hb
  (conv => whnf)
  refine cl [] [] (get_spec L hL id) ?_
  have hk := getP_kind (l := L) (id := id)
  (conv => whnf)
  refine dec (fun h1 => ?_) (fun h1 => ?_)
  · rw [show liW L l p repo id = _ from if_pos (.inl h1)]
    (conv => whnf)
    exact rx [] [.same 0, .same 1, .same 2, .same 3, .same 2, .same 3]
  (conv => whnf)
  refine dec (fun h2 => ?_) (fun h2 => ?_)
  · rw [show liW L l p repo id = _ from if_pos (.inr h2)]
    (conv => whnf)
    exact rx [] [.same 0, .same 1, .same 2, .same 3, .same 2, .same 3]
  have c1 : liW L l p repo id = _ := if_neg (fun h => h.elim h1 h2)
  (conv => whnf)
  refine decN (fun h3 => ?_) (fun h3 => ?_)
  · rw [show liW L l p repo id = _ from c1.trans (if_pos (by rw [← hk]; exact h3))]
    (conv => whnf)
    exact rx [] [.same 0, .same 1, .same 2, .same 3, .same 2, .same 3]
  rw [show liW L l p repo id = _ from c1.trans (if_neg (by rw [← hk]; exact fun h => h h3))]
  (conv => whnf)
  refine cl [] [0, 1, 2, 3] (put_wspec L l h ⟨p, [], true, id, repo⟩ hx hp hl) ?_
  (conv => whnf)
  exact rx [] [.same 0, .same 1, .same 2, .same 3, .same 5, .same 6]
theorem linkD_wspec (L : List Ob) (hL : PoolOk L) (l : List It) (h : Int) (p : List UInt8) (repo id : Int) (hx : p.length ≤ 4000000) (hp : ∀ y ∈ l, y.path.length ≤ 4000000) (hl : l.length ≤ 60) : Does Tryz.prog 89 [.c (.ptr 0 0), .c (.str p), .c (.int .i64 repo), .c (.int .i64 id)] [.box [.ptr 1 0, .rw 3, .int .i64 h], .box [.rw 2], .row 6 Ob encOb L, .row 5 It encIt l] (Rt (.c (.int .i64 (liD L l p repo id).1)) [.box [.ptr 1 0, .rw 5, .int .i64 h], .box [.rw 4], .dead, .dead, .row 6 Ob encOb L, .row 5 It encIt (liD L l p repo id).2]) := by
  refine X_spec (n := 28) (n0 := 4) tabOk Tryz.call89 Tryz.func89 ?_
  intro hb
  (conv => whnf)
  refine dec (fun h1 => ?_) (fun h1 => ?_)
  · rw [show liD L l p repo id = _ from if_pos (.inl h1)]
    (conv => whnf)
    exact rx [] [.same 0, .same 1, .same 2, .same 3, .same 2, .same 3]
  (conv => whnf)
  refine dec (fun h2 => ?_) (fun h2 => ?_)
  · rw [show liD L l p repo id = _ from if_pos (.inr h2)]
    (conv => whnf)
    exact rx [] [.same 0, .same 1, .same 2, .same 3, .same 2, .same 3]
  have c1 : liD L l p repo id = _ := if_neg (fun h => h.elim h1 h2)
  (conv => whnf)
  refine cl [] [] (kindR_spec L id) ?_
  (conv => whnf)
  refine decN (fun h3 => ?_) (fun h3 => ?_)
  · rw [show liD L l p repo id = _ from c1.trans (if_pos h3)]
    (conv => whnf)
    exact rx [] [.same 0, .same 1, .same 2, .same 3, .same 2, .same 3]
  rw [show liD L l p repo id = _ from c1.trans (if_neg (fun h => h h3))]
  (conv => whnf)
  refine cl [] [0, 1, 2, 3] (putD_wspec L l h ⟨p, [], true, id, repo⟩ hx hp hl) ?_
  (conv => whnf)
  exact rx [] [.same 0, .same 1, .same 2, .same 3, .same 4, .same 5]
theorem remove_wspec (L : List Ob) (l : List It) (h : Int) (p : List UInt8) (hl : l.length ≤ 60) : Does Tryz.prog 84 [.c (.ptr 0 0), .c (.str p)] [.box [.ptr 1 0, .rw 3, .int .i64 h], .box [.rw 2], .row 6 Ob encOb L, .row 5 It encIt l] (Rt (.c (.int .i64 (remW l p).1)) [.box [.ptr 1 0, .rw 5, .int .i64 h], .box [.rw 4], .dead, .dead, .row 6 Ob encOb L, .row 5 It encIt (remW l p).2]) := by
  refine X_spec (n := 22) (n0 := 4) tabOk Tryz.call84 Tryz.func84 ?_
  intro hb
  (conv => whnf)
  refine cl [] [] (find_wspec L l h p) ?_
  (conv => whnf)
  refine dec (fun h1 => ?_) (fun h1 => ?_)
  · rw [show remW l p = _ from if_pos h1]
    (conv => whnf)
    exact rx [] [.same 0, .same 1, .same 2, .same 3, .same 2, .same 3]
  have hlt : (idxF (atW p) l).toNat < l.length := by
    rcases idx_case (p := atW p) (l := l) with ⟨q, _⟩ | ⟨k, hk, q, _⟩
    · omega
    · omega
  rw [show remW l p = _ from if_neg h1]
  obtain ⟨k, hk⟩ : ∃ k : Nat, idxF (atW p) l = k := ⟨(idxF (atW p) l).toNat, by omega⟩
  rw [hk] at hlt ⊢
  have hlt : k < l.length := hlt
  (conv => whnf)
  refine ⟨i64 (by omega) (by omega), ?_⟩
  (conv => whnf)
  refine cl [] [3] (deleteI_spec l k hlt (by omega)) ?_
  (conv => whnf)
  exact rx [] [.same 0, .same 1, .same 2, .same 3, .same 2, .same 4]
theorem filter_step {α : Type} {p : α → Bool} {l : List α} {i : Nat} (h : i < l.length) : (l.take (i + 1)).filter p = (l.take i).filter p ++ if p l[i] = true then [l[i]] else [] := by
  rw [List.take_succ_eq_append_getElem h, List.filter_append]
  congr 1
  by_cases h2 : p l[i] = true
  · rw [if_pos h2, List.filter_cons_of_pos h2]; rfl
  · rw [if_neg h2, List.filter_cons_of_neg h2]; rfl
theorem filter_le {α : Type} {p : α → Bool} {l : List α} {i : Nat} (h : i ≤ l.length) : ((l.take i).filter p).length ≤ i := Nat.le_trans (List.length_filter_le ..) (by rw [List.length_take]; omega)
theorem removeD_wspec (L : List Ob) (l : List It) (h : Int) (p : List UInt8) (hl : l.length ≤ 60) : Does Tryz.prog 87 [.c (.ptr 0 0), .c (.str p)] [.box [.ptr 1 0, .rw 3, .int .i64 h], .box [.rw 2], .row 6 Ob encOb L, .row 5 It encIt l] (Rt (.c (.int .i64 (remD l p).1)) [.box [.ptr 1 0, .rw 5, .int .i64 h], .box [.rw 4], .dead, .dead, .row 6 Ob encOb L, .row 5 It encIt (remD l p).2]) := by
  refine X_spec (n := 48) (n0 := 4) tabOk Tryz.call87 Tryz.func87 ?_
  intro hb
  (conv => whnf)
  refine lp Nat (fun i => ⟨[(0, .c (.ptr 0 0)), (1, .c (.str p)), (5, .c (.rw 4)), (6, .c (.int .i64 i))], [.box [.ptr 1 0, .rw 3, .int .i64 h], .box [.rw 2], .row 6 Ob encOb L, .row 5 It encIt l] ++ [.row 5 It encIt ((l.take i).filter fun y => decide (y.path ≠ p))]⟩) (fun i => i ≤ l.length ∧ True) (fun i => l.length - i) 0 [] [.same 0, .same 1, .same 2, .same 3, .new] ?_ ?_ (fun i hi => ?_)
  · simp
  · repeat' first | exact trivial | exact rfl | refine And.intro ?_ ?_
  (conv => whnf)
  refine dec (fun h4 => ?_) (fun h4 => ?_)
  · have hlt : i < l.length := by omega
    have hf := filter_step (p := fun y : It => decide (y.path ≠ p)) hlt
    have hfl := filter_le (p := fun y : It => decide (y.path ≠ p)) hi.1
    have hiy : l[i]? = some l[i] := List.getElem?_eq_getElem hlt
    (conv => whnf)
    refine ⟨i, ⟨rfl, hlt⟩, ?_⟩
    (conv => whnf)
    refine ⟨l[i], hiy, ?_⟩
    generalize (l.take i).filter (fun y => decide (y.path ≠ p)) = out at *
    generalize l[i] = y at *
    (conv => whnf)
    refine decN (fun h7 => ?_) (fun h7 => ?_)
    · rw [if_pos (by simpa using h7)] at hf
      (conv => whnf)
      refine ⟨i, ⟨rfl, hlt⟩, ?_⟩
      (conv => whnf)
      refine ⟨y, hiy, ?_⟩
      (conv => whnf)
      refine ⟨[y], rfl, ?_⟩
      (conv => whnf)
      refine ⟨_, _, rfl, rfl, (by simp only [List.length_append, List.length_cons, List.length_nil]; omega), ?_⟩
      repeat' ((conv => whnf); first | (refine dec (fun h => ?_) (fun h => ?_) <;> try contradiction) | (refine decN (fun h => ?_) (fun h => ?_) <;> try contradiction) | refine booN (fun h => ?_) (fun h => ?_) | refine boo (fun h => ?_) (fun h => ?_) | refine ⟨i64 (by omega) (by omega), ?_⟩ | refine ⟨_, _, rfl, List.getElem?_eq_getElem (by omega), ?_⟩ | refine ⟨_, ⟨rfl, by omega⟩, ?_⟩ | refine ⟨_, List.getElem?_eq_getElem (by omega), ?_⟩ | refine rtB ?_ | refine rtI ?_ | refine rtC ?_ rfl | fail)
      refine ag (i + 1) [] [.same 0, .same 1, .same 2, .same 3, .same 6] ⟨hlt, trivial⟩ (by simp only []; omega) ?_
      rw [hf]
      repeat' first | exact trivial | exact rfl | refine And.intro ?_ ?_
    · rw [if_neg (by simpa using h7), List.append_nil] at hf
      repeat' ((conv => whnf); first | (refine dec (fun h => ?_) (fun h => ?_) <;> try contradiction) | (refine decN (fun h => ?_) (fun h => ?_) <;> try contradiction) | refine booN (fun h => ?_) (fun h => ?_) | refine boo (fun h => ?_) (fun h => ?_) | refine ⟨i64 (by omega) (by omega), ?_⟩ | refine ⟨_, _, rfl, List.getElem?_eq_getElem (by omega), ?_⟩ | refine ⟨_, ⟨rfl, by omega⟩, ?_⟩ | refine ⟨_, List.getElem?_eq_getElem (by omega), ?_⟩ | refine rtB ?_ | refine rtI ?_ | refine rtC ?_ rfl | fail)
      refine ag (i + 1) [] [.same 0, .same 1, .same 2, .same 3, .same 4] ⟨hlt, trivial⟩ (by simp only []; omega) ?_
      rw [hf]
      repeat' first | exact trivial | exact rfl | refine And.intro ?_ ?_
  · obtain rfl : i = l.length := by omega
    rw [List.take_length]
    (conv => whnf)
    refine dec (fun h5 => ?_) (fun h5 => ?_)
    · rw [show remD l p = _ from if_pos (Int.ofNat_inj.1 h5)]
      (conv => whnf)
      exact rx [] [.same 0, .same 1, .same 2, .same 3, .same 2, .same 3]
    · rw [show remD l p = _ from if_neg (fun e => h5 (congrArg Int.ofNat e))]
      (conv => whnf)
      exact rx [] [.same 0, .same 1, .same 2, .same 3, .same 2, .same 4]
theorem docs_wspec (L : List Ob) (l : List It) (h : Int) (hl : l.length ≤ 60) (hbb : ∀ x ∈ l, x.bytes.length ≤ 400) : Does Tryz.prog 18 [.c (.bp [.bp [.bs 6 Ob encOb L], .bs 5 It encIt l, .int .i64 h])] [] (Rt (.c (.rw 0)) [.row 2 Dc encDc (l.map docW)]) := by
  refine X_spec (n := 26) (n0 := 0) tabOk Tryz.call18 Tryz.func18 ?_
  intro hb
  (conv => whnf)
  refine lp Nat (fun i => ⟨[(3, .c (.rw 0)), (9, .c (.bs 5 It encIt l)), (10, .c (.int .i64 l.length)), (11, .c (.int .i64 i))], [.row 2 Dc encDc ((l.take i).map docW)]⟩) (fun i => i ≤ l.length ∧ True) (fun i => l.length - i) 0 [] [.new] ?_ ?_ (fun i hi => ?_)
  · simp
  · repeat' first | exact trivial | exact rfl | refine And.intro ?_ ?_
  (conv => whnf)
  refine dec (fun h4 => ?_) (fun h4 => ?_)
  · have hlt : i < l.length := by omega
    have hol : ((l.take i).map docW).length ≤ i := by rw [List.length_map, List.length_take]; omega
    have hs : (l.take (i + 1)).map docW = (l.take i).map docW ++ [docW l[i]] := by rw [List.take_succ_eq_append_getElem hlt, List.map_append]; rfl
    have hby := hbb _ (List.getElem_mem hlt)
    generalize (l.take i).map docW = out at *
    (conv => whnf)
    refine ⟨i, l[i], rfl, List.getElem?_eq_getElem hlt, ?_⟩
    generalize l[i] = x at *
    (conv => whnf)
    refine ⟨false, .grow, (.l [0, 1, 2, 3, 4, 5, 6, 7, 8, 9]), by kernel_rfl, .inl ?_⟩
    (conv => whnf)
    refine cl [] [] (cloneBytes_spec x.bytes (by omega)) ?_
    (conv => whnf)
    refine ⟨[⟨x.path, x.bytes⟩], rfl, ?_⟩
    (conv => whnf)
    refine ⟨_, _, rfl, rfl, (by simp only [List.length_append, List.length_cons, List.length_nil]; omega), ?_⟩
    repeat' ((conv => whnf); first | (refine dec (fun h => ?_) (fun h => ?_) <;> try contradiction) | (refine decN (fun h => ?_) (fun h => ?_) <;> try contradiction) | refine booN (fun h => ?_) (fun h => ?_) | refine boo (fun h => ?_) (fun h => ?_) | refine ⟨i64 (by omega) (by omega), ?_⟩ | refine ⟨_, _, rfl, List.getElem?_eq_getElem (by omega), ?_⟩ | refine ⟨_, ⟨rfl, by omega⟩, ?_⟩ | refine ⟨_, List.getElem?_eq_getElem (by omega), ?_⟩ | refine rtB ?_ | refine rtI ?_ | refine rtC ?_ rfl | fail)
    refine ag (i + 1) [] [.same 4] ⟨hlt, trivial⟩ (by simp only []; omega) ?_
    rw [hs]
    repeat' first | exact trivial | exact rfl | refine And.intro ?_ ?_
  · obtain rfl : i = l.length := by omega
    rw [List.take_length]
    (conv => whnf)
    exact rx [] [.same 0]
theorem head_wspec (L : List Ob) (l : List It) (h : Int) : Does Tryz.prog 19 [.c (.bp [.bp [.bs 6 Ob encOb L], .bs 5 It encIt l, .int .i64 h])] [] (Rt (.c (.int .i64 h)) []) := by
  refine X_spec (n := 7) (n0 := 0) tabOk Tryz.call19 Tryz.func19 ?_
  intro hb
  repeat' ((conv => whnf); first | (refine dec (fun h => ?_) (fun h => ?_) <;> try contradiction) | (refine decN (fun h => ?_) (fun h => ?_) <;> try contradiction) | refine booN (fun h => ?_) (fun h => ?_) | refine boo (fun h => ?_) (fun h => ?_) | refine ⟨i64 (by omega) (by omega), ?_⟩ | refine ⟨_, _, rfl, List.getElem?_eq_getElem (by omega), ?_⟩ | refine ⟨_, ⟨rfl, by omega⟩, ?_⟩ | refine ⟨_, List.getElem?_eq_getElem (by omega), ?_⟩ | refine rtB ?_ | refine rtI ?_ | refine rtC ?_ rfl | fail)
  rfl
end Go.Nest
end
/- WALKS, K5: a work: as files, a tree; by the document, too. -/
section
namespace Go.Nest
open Go Go.AM Go.Proofs
open Go.Proofs.YtogallppofinhaaGreatDoor (tab tabOk)
set_option linter.unusedVariables false
set_option linter.unusedSimpArgs false
set_option maxRecDepth 4000
theorem filesW_lk {L : List Ob} {x : It} {r : List It} {out : List Fi} (h : x.link = true) : filesW L (x :: r) out = filesW L r (out ++ [lnF x]) := by
  rw [filesW, if_pos h]
theorem filesW_no {L : List Ob} {x : It} {r : List It} {out : List Fi} (h : x.link = false) (h2 : (putP L (blobO x.bytes)).2.1 ≠ 0) : filesW L (x :: r) out = ([], (putP L (blobO x.bytes)).2.1, (putP L (blobO x.bytes)).2.2) := by
  rw [filesW, if_neg (by rw [h]; decide), if_pos h2]
theorem filesW_yes {L : List Ob} {x : It} {r : List It} {out : List Fi} (h : x.link = false) (h2 : ¬ (putP L (blobO x.bytes)).2.1 ≠ 0) : filesW L (x :: r) out = filesW (putP L (blobO x.bytes)).2.2 r (out ++ [⟨x.path, 1, (putP L (blobO x.bytes)).1, 0⟩]) := by
  rw [filesW, if_neg (by rw [h]; decide), if_neg h2]
set_option maxHeartbeats 4000000 in
theorem files_wspec (L : List Ob) (hL : PoolOk L) (l : List It) (h : Int) (hl : l.length ≤ 60) : Does Tryz.prog 28 [.c (.ptr 0 0)] [.box [.ptr 1 0, .rw 3, .int .i64 h], .box [.rw 2], .row 6 Ob encOb L, .row 5 It encIt l] (Rt (.tup [(false, [.rw 6]), (false, [.int .i64 (filesW L l []).2.1])]) ([.box [.ptr 1 0, .rw 5, .int .i64 h], .box [.rw 4], .dead, .dead, .row 6 Ob encOb (filesW L l []).2.2, .row 5 It encIt l] ++ [.row 4 Fi encFi (filesW L l []).1])) := by
  refine X_spec (n := 53) (n0 := 4) tabOk Tryz.call28 Tryz.func28 ?_
  intro hb
  (conv => whnf)
  refine lp (Nat × List Ob × List Fi) (fun | (i, M, out) => ⟨[(0, .c (.ptr 0 0)), (4, .c (.rw 5)), (13, .c (.rw 3)), (14, .c (.int .i64 l.length)), (15, .c (.int .i64 i))], [.box [.ptr 1 0, .rw 3, .int .i64 h], .box [.rw 4], .dead, .row 5 It encIt l, .row 6 Ob encOb M] ++ [.row 4 Fi encFi out]⟩) (fun x => (x.1 ≤ l.length ∧ x.2.2.length ≤ x.1) ∧ PoolOk x.2.1 ∧ filesW L l [] = filesW x.2.1 (l.drop x.1) x.2.2) (fun x => l.length - x.1) (0, L, []) [] [.same 0, .same 1, .same 2, .same 3, .same 2, .new] ?_ ?_ (fun x hx => ?_)
  · exact ⟨⟨Nat.zero_le _, Nat.zero_le _⟩, hL, rfl⟩
  · repeat' first | exact trivial | exact rfl | refine And.intro ?_ ?_
  obtain ⟨i, M, out⟩ := x
  obtain ⟨⟨h1, h2⟩, hM, hf⟩ := hx
  dsimp only at h1 h2 hM hf
  (conv => whnf)
  refine dec (fun h4 => ?_) (fun h4 => ?_)
  · have hlt : i < l.length := by omega
    have hdr : l.drop i = l[i] :: l.drop (i + 1) := List.drop_eq_getElem_cons hlt
    rw [hdr] at hf
    (conv => whnf)
    refine ⟨i, ⟨rfl, hlt⟩, ?_⟩
    (conv => whnf)
    refine ⟨l[i], List.getElem?_eq_getElem hlt, ?_⟩
    generalize l[i] = x at *
    (conv => whnf)
    refine booN (fun h5 => ?_) (fun h5 => ?_)
    · have p1 := put_spec M (blobO x.bytes) hM.len
      have hM2 := putP_ok hM (blobO x.bytes)
      (conv => whnf)
      refine ⟨false, .grow, (.l [0, 1, 2, 3, 4, 5, 6, 7, 8, 9, 10, 11, 12]), by kernel_rfl, .inl ?_⟩
      (conv => whnf)
      refine cl [] [1, 4] (p1) ?_
      (conv => whnf)
      refine decN (fun h6 => ?_) (fun h6 => ?_)
      · rw [hf, filesW_no h5 h6]
        (conv => whnf)
        exact rx [] [.same 0, .same 1, .same 2, .same 3, .same 8, .same 3, .new]
      · have h6' : ¬ (putP M (blobO x.bytes)).2.1 ≠ 0 := fun h => h h6
        rw [filesW_yes h5 h6'] at hf
        generalize (putP M (blobO x.bytes)).2.2 = M' at *
        generalize (putP M (blobO x.bytes)).1 = id at *
        (conv => whnf)
        refine ⟨[⟨x.path, 1, id, 0⟩], rfl, ?_⟩
        (conv => whnf)
        refine ⟨_, _, rfl, rfl, (by simp only [List.length_append, List.length_cons, List.length_nil]; omega), ?_⟩
        repeat' ((conv => whnf); first | (refine dec (fun h => ?_) (fun h => ?_) <;> try contradiction) | (refine decN (fun h => ?_) (fun h => ?_) <;> try contradiction) | refine booN (fun h => ?_) (fun h => ?_) | refine boo (fun h => ?_) (fun h => ?_) | refine ⟨i64 (by omega) (by omega), ?_⟩ | refine ⟨_, _, rfl, List.getElem?_eq_getElem (by omega), ?_⟩ | refine ⟨_, ⟨rfl, by omega⟩, ?_⟩ | refine ⟨_, List.getElem?_eq_getElem (by omega), ?_⟩ | refine rtB ?_ | refine rtI ?_ | refine rtC ?_ rfl | fail)
        refine ag (i + 1, M', out ++ [⟨x.path, 1, id, 0⟩]) [] [.same 0, .same 1, .same 2, .same 3, .same 8, .same 10] ⟨⟨hlt, by simp only [List.length_append, List.length_cons, List.length_nil]; omega⟩, hM2, hf⟩ (by simp only []; omega) ?_
        repeat' first | exact trivial | exact rfl | refine And.intro ?_ ?_
    · rw [filesW_lk h5] at hf
      (conv => whnf)
      refine ⟨[lnF x], rfl, ?_⟩
      (conv => whnf)
      refine ⟨_, _, rfl, rfl, (by simp only [List.length_append, List.length_cons, List.length_nil]; omega), ?_⟩
      repeat' ((conv => whnf); first | (refine dec (fun h => ?_) (fun h => ?_) <;> try contradiction) | (refine decN (fun h => ?_) (fun h => ?_) <;> try contradiction) | refine booN (fun h => ?_) (fun h => ?_) | refine boo (fun h => ?_) (fun h => ?_) | refine ⟨i64 (by omega) (by omega), ?_⟩ | refine ⟨_, _, rfl, List.getElem?_eq_getElem (by omega), ?_⟩ | refine ⟨_, ⟨rfl, by omega⟩, ?_⟩ | refine ⟨_, List.getElem?_eq_getElem (by omega), ?_⟩ | refine rtB ?_ | refine rtI ?_ | refine rtC ?_ rfl | fail)
      refine ag (i + 1, M, out ++ [lnF x]) [] [.same 0, .same 1, .same 2, .same 3, .same 4, .same 9] ⟨⟨hlt, by simp only [List.length_append, List.length_cons, List.length_nil]; omega⟩, hM, hf⟩ (by simp only []; omega) ?_
      repeat' first | exact trivial | exact rfl | refine And.intro ?_ ?_
  · obtain rfl : i = l.length := by omega
    rw [List.drop_length] at hf
    rw [hf]
    (conv => whnf)
    exact rx [] [.same 0, .same 1, .same 2, .same 3, .same 4, .same 3, .same 5]
set_option maxHeartbeats 4000000 in
theorem filesD_wspec (L : List Ob) (hL : PoolOk L) (l : List It) (h : Int) (hl : l.length ≤ 60) : Does Tryz.prog 29 [.c (.ptr 0 0)] [.box [.ptr 1 0, .rw 3, .int .i64 h], .box [.rw 2], .row 6 Ob encOb L, .row 5 It encIt l] (Rt (.tup [(false, [.rw 6]), (false, [.int .i64 (filesW L l []).2.1])]) ([.box [.ptr 1 0, .rw 5, .int .i64 h], .box [.rw 4], .dead, .dead, .row 6 Ob encOb (filesW L l []).2.2, .row 5 It encIt l] ++ [.row 4 Fi encFi (filesW L l []).1])) := by
  refine X_spec (n := 59) (n0 := 4) tabOk Tryz.call29 Tryz.func29 ?_
  intro hb
  (conv => whnf)
  refine lp (Nat × List Ob × List Fi) (fun | (i, M, out) => ⟨[(0, .c (.ptr 0 0)), (4, .c (.rw 5)), (5, .c (.int .i64 i))], [.box [.ptr 1 0, .rw 3, .int .i64 h], .box [.rw 4], .dead, .row 5 It encIt l, .row 6 Ob encOb M] ++ [.row 4 Fi encFi out]⟩) (fun x => (x.1 ≤ l.length ∧ x.2.2.length ≤ x.1) ∧ PoolOk x.2.1 ∧ filesW L l [] = filesW x.2.1 (l.drop x.1) x.2.2) (fun x => l.length - x.1) (0, L, []) [] [.same 0, .same 1, .same 2, .same 3, .same 2, .new] ?_ ?_ (fun x hx => ?_)
  · exact ⟨⟨Nat.zero_le _, Nat.zero_le _⟩, hL, rfl⟩
  · repeat' first | exact trivial | exact rfl | refine And.intro ?_ ?_
  obtain ⟨i, M, out⟩ := x
  obtain ⟨⟨h1, h2⟩, hM, hf⟩ := hx
  dsimp only at h1 h2 hM hf
  (conv => whnf)
  refine dec (fun h4 => ?_) (fun h4 => ?_)
  · have hlt : i < l.length := by omega
    have hdr : l.drop i = l[i] :: l.drop (i + 1) := List.drop_eq_getElem_cons hlt
    rw [hdr] at hf
    (conv => whnf)
    refine ⟨i, ⟨rfl, hlt⟩, ?_⟩
    (conv => whnf)
    refine ⟨l[i], List.getElem?_eq_getElem hlt, ?_⟩
    generalize l[i] = x at *
    (conv => whnf)
    refine boo (fun h5 => ?_) (fun h5 => ?_)
    · rw [filesW_lk h5] at hf
      (conv => whnf)
      refine ⟨[lnF x], rfl, ?_⟩
      (conv => whnf)
      refine ⟨_, _, rfl, rfl, (by simp only [List.length_append, List.length_cons, List.length_nil]; omega), ?_⟩
      repeat' ((conv => whnf); first | (refine dec (fun h => ?_) (fun h => ?_) <;> try contradiction) | (refine decN (fun h => ?_) (fun h => ?_) <;> try contradiction) | refine booN (fun h => ?_) (fun h => ?_) | refine boo (fun h => ?_) (fun h => ?_) | refine ⟨i64 (by omega) (by omega), ?_⟩ | refine ⟨_, _, rfl, List.getElem?_eq_getElem (by omega), ?_⟩ | refine ⟨_, ⟨rfl, by omega⟩, ?_⟩ | refine ⟨_, List.getElem?_eq_getElem (by omega), ?_⟩ | refine rtB ?_ | refine rtI ?_ | refine rtC ?_ rfl | fail)
      refine ag (i + 1, M, out ++ [lnF x]) [] [.same 0, .same 1, .same 2, .same 3, .same 4, .same 8] ⟨⟨hlt, by simp only [List.length_append, List.length_cons, List.length_nil]; omega⟩, hM, hf⟩ (by simp only []; omega) ?_
      repeat' first | exact trivial | exact rfl | refine And.intro ?_ ?_
    · have p1 := putR_spec M (blobO x.bytes) hM.len
      have hM2 := putP_ok hM (blobO x.bytes)
      (conv => whnf)
      refine ⟨false, .grow, (.l [0, 1, 2, 3, 4, 5, 6, 7, 8, 9, 10, 11, 12]), by kernel_rfl, .inl ?_⟩
      (conv => whnf)
      refine cl [] [1, 4] (p1) ?_
      (conv => whnf)
      refine decN (fun h6 => ?_) (fun h6 => ?_)
      · rw [hf, filesW_no h5 h6]
        (conv => whnf)
        exact rx [] [.same 0, .same 1, .same 2, .same 3, .same 7, .same 3, .new]
      · have h6' : ¬ (putP M (blobO x.bytes)).2.1 ≠ 0 := fun h => h h6
        rw [filesW_yes h5 h6'] at hf
        generalize (putP M (blobO x.bytes)).2.2 = M' at *
        generalize (putP M (blobO x.bytes)).1 = id at *
        (conv => whnf)
        refine ⟨[⟨x.path, 1, id, 0⟩], rfl, ?_⟩
        (conv => whnf)
        refine ⟨_, _, rfl, rfl, (by simp only [List.length_append, List.length_cons, List.length_nil]; omega), ?_⟩
        repeat' ((conv => whnf); first | (refine dec (fun h => ?_) (fun h => ?_) <;> try contradiction) | (refine decN (fun h => ?_) (fun h => ?_) <;> try contradiction) | refine booN (fun h => ?_) (fun h => ?_) | refine boo (fun h => ?_) (fun h => ?_) | refine ⟨i64 (by omega) (by omega), ?_⟩ | refine ⟨_, _, rfl, List.getElem?_eq_getElem (by omega), ?_⟩ | refine ⟨_, ⟨rfl, by omega⟩, ?_⟩ | refine ⟨_, List.getElem?_eq_getElem (by omega), ?_⟩ | refine rtB ?_ | refine rtI ?_ | refine rtC ?_ rfl | fail)
        refine ag (i + 1, M', out ++ [⟨x.path, 1, id, 0⟩]) [] [.same 0, .same 1, .same 2, .same 3, .same 7, .same 9] ⟨⟨hlt, by simp only [List.length_append, List.length_cons, List.length_nil]; omega⟩, hM2, hf⟩ (by simp only []; omega) ?_
        repeat' first | exact trivial | exact rfl | refine And.intro ?_ ?_
  · obtain rfl : i = l.length := by omega
    rw [List.drop_length] at hf
    rw [hf]
    (conv => whnf)
    exact rx [] [.same 0, .same 1, .same 2, .same 3, .same 4, .same 3, .same 5]
theorem tree_wspec (L : List Ob) (hL : PoolOk L) (l : List It) (h : Int) (hp : ∀ y ∈ l, y.path.length ≤ 4000000) (hl : l.length ≤ 60) : Does Tryz.prog 34 [.c (.ptr 0 0)] [.box [.ptr 1 0, .rw 3, .int .i64 h], .box [.rw 2], .row 6 Ob encOb L, .row 5 It encIt l] (Rt (.tup [(false, [.int .i64 (treeW L l).1]), (false, [.int .i64 (treeW L l).2.1])]) [.box [.ptr 1 0, .rw 5, .int .i64 h], .box [.rw 4], .dead, .dead, .row 6 Ob encOb (treeW L l).2.2, .row 5 It encIt l]) := by
  refine X_spec (n := 22) (n0 := 4) tabOk Tryz.call34 Tryz.func34 ?_
  intro hb
  have hfp := filesW_path (n := 4000000) (L := L) (out := []) (fun f hf => (by cases hf)) hp
  have hfo := (filesW_ok (l := l) (out := []) hL).1
  unfold treeW
  (conv => whnf)
  refine cl [] [0, 1, 2, 3] (files_wspec L hL l h hl) ?_
  generalize filesW L l [] = F at *
  obtain ⟨fs, c, M⟩ := F
  dsimp only at hfp hfo
  (conv => whnf)
  refine decN (fun h1 => ?_) (fun h1 => ?_)
  · rw [if_pos h1]
    (conv => whnf)
    exact rx [] [.same 0, .same 1, .same 2, .same 3, .same 4, .same 5]
  · rw [if_neg (fun h => h h1)]
    (conv => whnf)
    refine cl [] [1, 4] (flatBuild_spec M fs hfo hfp) ?_
    (conv => whnf)
    exact rx [] [.same 0, .same 1, .same 2, .same 3, .same 7, .same 5]
theorem treeD_wspec (L : List Ob) (hL : PoolOk L) (l : List It) (h : Int) (hp : ∀ y ∈ l, y.path.length ≤ 4000000) (hl : l.length ≤ 60) : Does Tryz.prog 35 [.c (.ptr 0 0)] [.box [.ptr 1 0, .rw 3, .int .i64 h], .box [.rw 2], .row 6 Ob encOb L, .row 5 It encIt l] (Rt (.tup [(false, [.int .i64 (treeW L l).1]), (false, [.int .i64 (treeW L l).2.1])]) [.box [.ptr 1 0, .rw 5, .int .i64 h], .box [.rw 4], .dead, .dead, .row 6 Ob encOb (treeW L l).2.2, .row 5 It encIt l]) := by
  refine X_spec (n := 22) (n0 := 4) tabOk Tryz.call35 Tryz.func35 ?_
  intro hb
  have hfp := filesW_path (n := 4000000) (L := L) (out := []) (fun f hf => (by cases hf)) hp
  have hfo := (filesW_ok (l := l) (out := []) hL).1
  unfold treeW
  (conv => whnf)
  refine cl [] [0, 1, 2, 3] (filesD_wspec L hL l h hl) ?_
  generalize filesW L l [] = F at *
  obtain ⟨fs, c, M⟩ := F
  dsimp only at hfp hfo
  (conv => whnf)
  refine decN (fun h1 => ?_) (fun h1 => ?_)
  · rw [if_pos h1]
    (conv => whnf)
    exact rx [] [.same 0, .same 1, .same 2, .same 3, .same 4, .same 5]
  · rw [if_neg (fun h => h h1)]
    (conv => whnf)
    refine cl [] [1, 4] (treeOfTop_spec M fs hfo hfp) ?_
    (conv => whnf)
    exact rx [] [.same 0, .same 1, .same 2, .same 3, .same 7, .same 5]
theorem says_wspec (L : List Ob) (hL : PoolOk L) (l : List It) (h t : Int) : Does Tryz.prog 94 [.c (.bp [.bp [.bs 6 Ob encOb L], .bs 5 It encIt l, .int .i64 h]), .c (.int .i64 t)] [] (Rt (.c (.bool (saysW L l h t))) []) := by
  refine X_spec (n := 34) (n0 := 0) tabOk Tryz.call94 Tryz.func94 ?_
  intro hb
  unfold saysW
  (conv => whnf)
  refine dec (fun h1 => ?_) (fun h1 => ?_)
  · rw [if_pos h1]
    (conv => whnf)
    exact rtB (by rw [decide_eq_decide]; omega)
  · rw [if_neg h1]
    (conv => whnf)
    refine ⟨false, .grow, (.alt [0, 1, 2, 3, 4, 5, 6, 7] [8, 12] fun j => bif Nat.beq j 8 then (.l [9, 10, 11, 12, 13, 14]) else bif Nat.beq j 12 then (.l [8, 9, 10, 11, 13, 14]) else .l []), by kernel_rfl, .inl ?_⟩
    (conv => whnf)
    refine And.intro ?_ ?_
    all_goals
      (conv => whnf)
      refine cl [] [] (get_spec L hL h) ?_
      (conv => whnf)
      exact rtB rfl
theorem clean_wspec (L : List Ob) (hL : PoolOk L) (l : List It) (h : Int) (hp : ∀ y ∈ l, y.path.length ≤ 4000000) (hl : l.length ≤ 60) : Does Tryz.prog 21 [.c (.ptr 0 0)] [.box [.ptr 1 0, .rw 3, .int .i64 h], .box [.rw 2], .row 6 Ob encOb L, .row 5 It encIt l] (Rt (.c (.int .i64 (cleanW L l h))) [.box [.ptr 1 0, .rw 5, .int .i64 h], .box [.rw 4], .dead, .dead, .row 6 Ob encOb (treeW L l).2.2, .row 5 It encIt l]) := by
  refine X_spec (n := 19) (n0 := 4) tabOk Tryz.call21 Tryz.func21 ?_
  intro hb
  have hto := (treeW_ok (l := l) hL).1
  unfold cleanW
  (conv => whnf)
  refine cl [] [0, 1, 2, 3] (tree_wspec L hL l h hp hl) ?_
  generalize treeW L l = T at *
  obtain ⟨t, c, M⟩ := T
  dsimp only at hto
  (conv => whnf)
  refine dec (fun h1 => ?_) (fun h1 => ?_)
  · rw [if_neg (fun h => h h1)]
    (conv => whnf)
    refine cl [] [] (says_wspec M hto l h t) ?_
    (conv => whnf)
    refine booN (fun h2 => ?_) (fun h2 => ?_)
    · rw [if_neg (by rw [h2]; decide)]
      (conv => whnf)
      exact rx [] [.same 0, .same 1, .same 2, .same 3, .same 4, .same 5]
    · rw [if_pos h2]
      (conv => whnf)
      rw [h1]
      exact rx [] [.same 0, .same 1, .same 2, .same 3, .same 4, .same 5]
  · rw [if_pos h1]
    (conv => whnf)
    exact rx [] [.same 0, .same 1, .same 2, .same 3, .same 4, .same 5]
end Go.Nest
end
/- WALKS, K6: a work: clean, status; by the document, too. -/
section
namespace Go.Nest
open Go Go.AM Go.Proofs
open Go.Proofs.YtogallppofinhaaGreatDoor (tab tabOk)
set_option linter.unusedVariables false
set_option linter.unusedSimpArgs false
set_option maxRecDepth 4000
def HOk (L : List Ob) (h : Int) : Prop := h < 0 ∨ kindOf L h = 3
theorem HOk.ext {L M : List Ob} {h : Int} (hh : HOk L h) (hx : L <+: M) : HOk M h := hh.imp id fun hk => by rw [ext_kind hx (by omega)]; exact hk
theorem HOk.at {L : List Ob} {h : Int} (hh : HOk L h) (h0 : ¬ h < 0) : ∃ hlt : h.toNat < L.length, (h = (h.toNat : Nat) ∧ getP L h = L[h.toNat]) := by
  have hk := hh.resolve_left h0
  obtain ⟨h1, h2⟩ := kindOf_pos (l := L) (id := h) (by omega)
  exact ⟨h2, by omega, getP_at h1 h2⟩
theorem cleanD_wspec (L : List Ob) (hL : PoolOk L) (l : List It) (h : Int) (hp : ∀ y ∈ l, y.path.length ≤ 4000000) (hl : l.length ≤ 60) (hh : HOk L h) : Does Tryz.prog 33 [.c (.ptr 0 0)] [.box [.ptr 1 0, .rw 3, .int .i64 h], .box [.rw 2], .row 6 Ob encOb L, .row 5 It encIt l] (Rt (.c (.int .i64 (cleanW L l h))) [.box [.ptr 1 0, .rw 5, .int .i64 h], .box [.rw 4], .dead, .dead, .row 6 Ob encOb (treeW L l).2.2, .row 5 It encIt l]) := by
  refine X_spec (n := 51) (n0 := 4) tabOk Tryz.call33 Tryz.func33 ?_
  intro hb
  have hh := hh.ext (treeW_ok (l := l) hL).2
  unfold cleanW saysW
  (conv => whnf)
  refine cl [] [0, 1, 2, 3] (treeD_wspec L hL l h hp hl) ?_
  generalize treeW L l = T at *
  obtain ⟨t, c, M⟩ := T
  dsimp only at hh
  (conv => whnf)
  refine decN (fun h1 => ?_) (fun h1 => ?_)
  · rw [if_pos h1]
    (conv => whnf)
    exact rx [] [.same 0, .same 1, .same 2, .same 3, .same 4, .same 5]
  rw [if_neg (fun h => h h1)]
  (conv => whnf)
  refine ⟨false, .grow, (.l [0, 1, 2, 3, 4, 5, 6, 7, 8, 9, 10, 11, 12, 13, 14, 15, 16, 17, 18, 19, 20, 21, 22, 23, 24, 25, 26, 27, 28, 29, 30, 31, 32, 33, 34, 35, 36, 37]), by kernel_rfl, .inl ?_⟩
  (conv => whnf)
  refine dec (fun h2 => ?_) (fun h2 => ?_)
  · rw [if_pos h2]
    (conv => whnf)
    refine dec (fun h3 => ?_) (fun h3 => ?_)
    · have h3 : (0 : Int) < l.length := h3
      rw [if_neg (by rw [decide_eq_true_iff]; omega)]
      (conv => whnf)
      exact rx [] [.same 0, .same 1, .same 2, .same 3, .same 4, .same 5]
    · have h3 : ¬ (0 : Int) < l.length := h3
      rw [if_pos (by rw [decide_eq_true_iff]; omega)]
      (conv => whnf)
      refine dec (fun h4 => absurd h4 (by omega)) (fun _ => ?_)
      (conv => whnf)
      exact rx [] [.same 0, .same 1, .same 2, .same 3, .same 4, .same 5]
  · obtain ⟨hlt, q1, q2⟩ := hh.at h2
    rw [if_neg h2, q2]
    (conv => whnf)
    refine dec (fun _ => ?_) (fun h4 => absurd h4 (by omega))
    (conv => whnf)
    refine ⟨h.toNat, ⟨q1, hlt⟩, ?_⟩
    (conv => whnf)
    refine ⟨M[h.toNat], List.getElem?_eq_getElem hlt, ?_⟩
    (conv => whnf)
    refine decN (fun h5 => ?_) (fun h5 => ?_)
    · rw [if_neg (by rw [decide_eq_true_iff]; exact h5)]
      (conv => whnf)
      exact rx [] [.same 0, .same 1, .same 2, .same 3, .same 4, .same 5]
    · rw [if_pos (by rw [decide_eq_true_iff]; exact h5)]
      (conv => whnf)
      exact rx [] [.same 0, .same 1, .same 2, .same 3, .same 4, .same 5]
theorem filesP_len {L : List Ob} {t : Int} : (filesP L t).1.length ≤ 60 := by
  unfold filesP
  have := goF_len L 9 t [] [] (by decide)
  split
  · exact this
  · simp
theorem files_fine {M : List Ob} (hM : PoolOk M) (t : Int) : Files (filesP M t).1 ∧ ∀ f ∈ (filesP M t).1, f.path.length ≤ 4000000 := by
  by_cases hz : (filesP M t).2 = 0
  · obtain ⟨f1, f2, f3⟩ := files_told hM hz
    obtain ⟨q1, q2⟩ := tree_ok hM f1.1
    obtain ⟨a1, a2⟩ := f1.2.apt hM q1 q2
    refine ⟨⟨a1.imp fun h => h.1, fun f hf e => ?_⟩, fun f hf => ?_⟩
    · have := (a2 f hf).2; omega
    · have h1 := (a2 f hf).1
      have h2 := unsp_bound (spl f.path) fun s hs => name_len (namesF_all h1 s hs)
      rw [unsp_spl] at h2
      have := f3 f hf
      omega
  · rw [files_nil hz]
    exact ⟨⟨.nil, fun f hf => by cases hf⟩, fun f hf => by cases hf⟩
end Go.Nest
end
/- WALKS, K7: a work: commit; by the document, too. -/
section
namespace Go.Nest
open Go Go.AM Go.Proofs
open Go.Proofs.YtogallppofinhaaGreatDoor (tab tabOk)
set_option linter.unusedVariables false
set_option linter.unusedSimpArgs false
set_option maxRecDepth 4000
set_option maxHeartbeats 1000000 in
theorem commit_wspec (L : List Ob) (hL : PoolOk L) (l : List It) (h : Int) (hp : ∀ y ∈ l, y.path.length ≤ 4000000) (hl : l.length ≤ 60) (text : List UInt8) (others : List Int) (ho : others.length ≤ 1000) (hh : HOk L h) : Does Tryz.prog 83 [.c (.ptr 0 0), .c (.str text), .c (.bs 1 Int encI others)] [.box [.ptr 1 0, .rw 3, .int .i64 h], .box [.rw 2], .row 6 Ob encOb L, .row 5 It encIt l] (Rt (.tup [(false, [.int .i64 (commW L l h text others).1]), (false, [.int .i64 (commW L l h text others).2.1])]) [.box [.ptr 1 0, .rw 5, .int .i64 (headW L l h text others)], .box [.rw 4], .dead, .dead, .row 6 Ob encOb (commW L l h text others).2.2, .row 5 It encIt l]) := by
  have hto := (treeW_ok (l := l) hL).1
  have hh := hh.ext (treeW_ok (l := l) hL).2
  have hH : headW L l h text others = if (commW L l h text others).2.1 = 0 then (commW L l h text others).1 else h := rfl
  rw [hH]
  have hR : commW L l h text others = _ := rfl
  conv at hR => rhs; unfold commW
  have hT := tree_wspec L hL l h hp hl
  generalize commW L l h text others = R at *
  generalize treeW L l = T at *
  obtain ⟨t, c, M⟩ := T
  dsimp only at hto hh hR
  have p1 := put_spec M (comO t (upW h others) text) hto.len
  generalize hP : putP M (comO t (upW h others) text) = P at *
  obtain ⟨id, c', M'⟩ := P
  dsimp only at p1 hR
  refine X_spec (n := 69) (n0 := 4) tabOk Tryz.call83 Tryz.func83 ?_
  intro hb
  (conv => whnf)
  refine cl [] [0, 1, 2, 3] (hT) ?_
  (conv => whnf)
  refine decN (fun h1 => ?_) (fun h1 => ?_)
  · rw [hR.trans (if_pos h1), if_neg h1]
    (conv => whnf)
    exact rx [] [.same 0, .same 1, .same 2, .same 3, .same 4, .same 5]
  have c1 := hR.trans (if_neg (fun h => h h1))
  (conv => whnf)
  refine dec (fun h2 => ?_) (fun h2 => ?_)
  · have h2 : 0 ≤ h := h2
    have hup : upW h others = [h] ++ others := by unfold upW; rw [if_pos h2]
    rw [hup] at p1
    (conv => whnf)
    refine cl [] [] (says_wspec M hto l h t) ?_
    (conv => whnf)
    refine boo (fun h3 => ?_) (fun h3 => ?_)
    · (conv => whnf)
      refine dec (fun h4 => ?_) (fun h4 => ?_)
      · rw [c1.trans (if_pos ⟨h2, h3, Int.ofNat_inj.1 h4⟩), if_neg (show ¬ (17 : Int) = 0 by decide)]
        (conv => whnf)
        exact rx [] [.same 0, .same 1, .same 2, .same 3, .same 4, .same 5]
      · have c2 := c1.trans (if_neg (fun h => h4 (congrArg Int.ofNat h.2.2)))
        (conv => whnf)
        refine dec (fun _ => ?_) (fun h => absurd h2 h)
        (conv => whnf)
        refine ⟨[h], rfl, ?_⟩
        (conv => whnf)
        refine ⟨[], _, rfl, rfl, (by simp only [List.length_nil, List.length_cons]; omega), ?_⟩
        (conv => whnf)
        refine ⟨true, .any, (.alt [0, 1, 2, 4, 5, 6, 8] [3, 7] fun j => bif Nat.beq j 3 then (.l [7, 9, 10, 11, 12, 13, 14, 15]) else bif Nat.beq j 7 then (.l [9, 3, 10, 11, 12, 13, 14, 15]) else .l []), by kernel_rfl, .inl ?_⟩
        (conv => whnf)
        refine And.intro ?_ ?_
        all_goals
          (conv => whnf)
          refine ⟨_, _, rfl, rfl, (by simp only [List.length_append, List.length_nil, List.length_cons]; omega), ?_⟩
          (conv => whnf)
          refine cl [] [1, 4] (p1) ?_
          (conv => whnf)
          refine decN (fun h6 => ?_) (fun h6 => ?_)
          · rw [c2.trans (if_pos h6), if_neg h6]
            (conv => whnf)
            exact rx [] [.same 0, .same 1, .same 2, .same 3, .same 9, .same 5]
          · rw [c2.trans (if_neg (fun h => h h6)), if_pos h6]
            have h6 : c' = 0 := h6
            subst h6
            (conv => whnf)
            exact rx [] [.same 0, .same 1, .same 2, .same 3, .same 9, .same 5]
    · have c2 := c1.trans (if_neg (fun h => by have := h.2.1; rw [h3] at this; cases this))
      (conv => whnf)
      refine dec (fun _ => ?_) (fun h => absurd h2 h)
      (conv => whnf)
      refine ⟨[h], rfl, ?_⟩
      (conv => whnf)
      refine ⟨[], _, rfl, rfl, (by simp only [List.length_nil, List.length_cons]; omega), ?_⟩
      (conv => whnf)
      refine ⟨true, .any, (.alt [0, 1, 2, 4, 5, 6, 8] [3, 7] fun j => bif Nat.beq j 3 then (.l [7, 9, 10, 11, 12, 13, 14, 15]) else bif Nat.beq j 7 then (.l [9, 3, 10, 11, 12, 13, 14, 15]) else .l []), by kernel_rfl, .inl ?_⟩
      (conv => whnf)
      refine And.intro ?_ ?_
      all_goals
        (conv => whnf)
        refine ⟨_, _, rfl, rfl, (by simp only [List.length_append, List.length_nil, List.length_cons]; omega), ?_⟩
        (conv => whnf)
        refine cl [] [1, 4] (p1) ?_
        (conv => whnf)
        refine decN (fun h6 => ?_) (fun h6 => ?_)
        · rw [c2.trans (if_pos h6), if_neg h6]
          (conv => whnf)
          exact rx [] [.same 0, .same 1, .same 2, .same 3, .same 9, .same 5]
        · rw [c2.trans (if_neg (fun h => h h6)), if_pos h6]
          have h6 : c' = 0 := h6
          subst h6
          (conv => whnf)
          exact rx [] [.same 0, .same 1, .same 2, .same 3, .same 9, .same 5]
  · have h2 : ¬ 0 ≤ h := h2
    have hup : upW h others = [] ++ others := by unfold upW; rw [if_neg h2]
    rw [hup] at p1
    have c2 := c1.trans (if_neg (fun h => h2 h.1))
    (conv => whnf)
    refine dec (fun h => absurd h h2) (fun _ => ?_)
    (conv => whnf)
    refine ⟨true, .any, (.alt [0, 1, 2, 4, 5, 6, 8] [3, 7] fun j => bif Nat.beq j 3 then (.l [7, 9, 10, 11, 12, 13, 14, 15]) else bif Nat.beq j 7 then (.l [9, 3, 10, 11, 12, 13, 14, 15]) else .l []), by kernel_rfl, .inl ?_⟩
    (conv => whnf)
    refine And.intro ?_ ?_
    all_goals
      (conv => whnf)
      refine ⟨[], _, rfl, rfl, (by simp only [List.length_nil]; omega), ?_⟩
      (conv => whnf)
      refine cl [] [1, 4] (p1) ?_
      (conv => whnf)
      refine decN (fun h6 => ?_) (fun h6 => ?_)
      · rw [c2.trans (if_pos h6), if_neg h6]
        (conv => whnf)
        exact rx [] [.same 0, .same 1, .same 2, .same 3, .same 7, .same 5]
      · rw [c2.trans (if_neg (fun h => h h6)), if_pos h6]
        have h6 : c' = 0 := h6
        subst h6
        (conv => whnf)
        exact rx [] [.same 0, .same 1, .same 2, .same 3, .same 7, .same 5]
set_option maxHeartbeats 1000000 in
theorem commitD_wspec (L : List Ob) (hL : PoolOk L) (l : List It) (h : Int) (hp : ∀ y ∈ l, y.path.length ≤ 4000000) (hl : l.length ≤ 60) (text : List UInt8) (others : List Int) (ho : others.length ≤ 1000) (hh : HOk L h) : Does Tryz.prog 90 [.c (.ptr 0 0), .c (.str text), .c (.bs 1 Int encI others)] [.box [.ptr 1 0, .rw 3, .int .i64 h], .box [.rw 2], .row 6 Ob encOb L, .row 5 It encIt l] (Rt (.tup [(false, [.int .i64 (commW L l h text others).1]), (false, [.int .i64 (commW L l h text others).2.1])]) [.box [.ptr 1 0, .rw 5, .int .i64 (headW L l h text others)], .box [.rw 4], .dead, .dead, .row 6 Ob encOb (commW L l h text others).2.2, .row 5 It encIt l]) := by
  have hto := (treeW_ok (l := l) hL).1
  have hh := hh.ext (treeW_ok (l := l) hL).2
  have hH : headW L l h text others = if (commW L l h text others).2.1 = 0 then (commW L l h text others).1 else h := rfl
  rw [hH]
  have hR : commW L l h text others = _ := rfl
  conv at hR => rhs; unfold commW
  have hT := treeD_wspec L hL l h hp hl
  generalize commW L l h text others = R at *
  generalize treeW L l = T at *
  obtain ⟨t, c, M⟩ := T
  dsimp only at hto hh hR
  have p1 := putR_spec M (comO t (upW h others) text) hto.len
  generalize hP : putP M (comO t (upW h others) text) = P at *
  obtain ⟨id, c', M'⟩ := P
  dsimp only at p1 hR
  refine X_spec (n := 80) (n0 := 4) tabOk Tryz.call90 Tryz.func90 ?_
  intro hb
  (conv => whnf)
  refine cl [] [0, 1, 2, 3] (hT) ?_
  (conv => whnf)
  refine decN (fun h1 => ?_) (fun h1 => ?_)
  · rw [hR.trans (if_pos h1), if_neg h1]
    (conv => whnf)
    exact rx [] [.same 0, .same 1, .same 2, .same 3, .same 4, .same 5]
  have c1 := hR.trans (if_neg (fun h => h h1))
  (conv => whnf)
  refine ⟨false, .grow, (.l [0, 1, 2, 3, 4, 5, 6, 7, 8, 9, 10, 11, 12, 13, 14, 15, 16, 17, 18, 19, 20, 21, 22, 23, 24, 25, 26, 27]), by kernel_rfl, .inl ?_⟩
  (conv => whnf)
  refine dec (fun h2 => ?_) (fun h2 => ?_)
  · have h2 : 0 ≤ h := h2
    have hup : upW h others = [h] ++ others := by unfold upW; rw [if_pos h2]
    rw [hup] at p1
    obtain ⟨hlt, q1, q2⟩ := hh.at (show ¬ h < 0 by omega)
    have hs : saysW M l h t = decide (M[h.toNat].tree = t) := by unfold saysW; rw [if_neg (by omega), q2]
    rw [hs] at c1
    (conv => whnf)
    refine ⟨h.toNat, ⟨q1, hlt⟩, ?_⟩
    (conv => whnf)
    refine ⟨M[h.toNat], List.getElem?_eq_getElem hlt, ?_⟩
    (conv => whnf)
    refine dec (fun h3 => ?_) (fun h3 => ?_)
    · (conv => whnf)
      refine dec (fun h4 => ?_) (fun h4 => ?_)
      · rw [c1.trans (if_pos ⟨h2, decide_eq_true h3.symm, Int.ofNat_inj.1 h4⟩), if_neg (show ¬ (17 : Int) = 0 by decide)]
        (conv => whnf)
        exact rx [] [.same 0, .same 1, .same 2, .same 3, .same 4, .same 5]
      · have c2 := c1.trans (if_neg (fun h => h4 (congrArg Int.ofNat h.2.2)))
        (conv => whnf)
        refine dec (fun _ => ?_) (fun h => absurd h2 h)
        (conv => whnf)
        refine ⟨[h], rfl, ?_⟩
        (conv => whnf)
        refine ⟨true, .any, (.alt [0, 1, 2, 4, 5, 6, 8] [3, 7] fun j => bif Nat.beq j 3 then (.l [7, 9, 10, 11, 12, 13, 14, 15]) else bif Nat.beq j 7 then (.l [9, 3, 10, 11, 12, 13, 14, 15]) else .l []), by kernel_rfl, .inl ?_⟩
        (conv => whnf)
        refine And.intro ?_ ?_
        all_goals
          (conv => whnf)
          refine ⟨_, _, rfl, rfl, (by simp only [List.length_nil, List.length_cons]; omega), ?_⟩
          (conv => whnf)
          refine cl [] [1, 4] (p1) ?_
          (conv => whnf)
          refine decN (fun h6 => ?_) (fun h6 => ?_)
          · rw [c2.trans (if_pos h6), if_neg h6]
            (conv => whnf)
            exact rx [] [.same 0, .same 1, .same 2, .same 3, .same 8, .same 5]
          · rw [c2.trans (if_neg (fun h => h h6)), if_pos h6]
            have h6 : c' = 0 := h6
            subst h6
            (conv => whnf)
            exact rx [] [.same 0, .same 1, .same 2, .same 3, .same 8, .same 5]
    · have c2 := c1.trans (if_neg (fun h => h3 (of_decide_eq_true h.2.1).symm))
      (conv => whnf)
      refine dec (fun _ => ?_) (fun h => absurd h2 h)
      (conv => whnf)
      refine ⟨[h], rfl, ?_⟩
      (conv => whnf)
      refine ⟨true, .any, (.alt [0, 1, 2, 4, 5, 6, 8] [3, 7] fun j => bif Nat.beq j 3 then (.l [7, 9, 10, 11, 12, 13, 14, 15]) else bif Nat.beq j 7 then (.l [9, 3, 10, 11, 12, 13, 14, 15]) else .l []), by kernel_rfl, .inl ?_⟩
      (conv => whnf)
      refine And.intro ?_ ?_
      all_goals
        (conv => whnf)
        refine ⟨_, _, rfl, rfl, (by simp only [List.length_nil, List.length_cons]; omega), ?_⟩
        (conv => whnf)
        refine cl [] [1, 4] (p1) ?_
        (conv => whnf)
        refine decN (fun h6 => ?_) (fun h6 => ?_)
        · rw [c2.trans (if_pos h6), if_neg h6]
          (conv => whnf)
          exact rx [] [.same 0, .same 1, .same 2, .same 3, .same 8, .same 5]
        · rw [c2.trans (if_neg (fun h => h h6)), if_pos h6]
          have h6 : c' = 0 := h6
          subst h6
          (conv => whnf)
          exact rx [] [.same 0, .same 1, .same 2, .same 3, .same 8, .same 5]
  · have h2 : ¬ 0 ≤ h := h2
    have hup : upW h others = [] ++ others := by unfold upW; rw [if_neg h2]
    rw [hup] at p1
    have c2 := c1.trans (if_neg (fun h => h2 h.1))
    (conv => whnf)
    refine dec (fun h => absurd h h2) (fun _ => ?_)
    (conv => whnf)
    refine ⟨true, .any, (.alt [0, 1, 2, 4, 5, 6, 8] [3, 7] fun j => bif Nat.beq j 3 then (.l [7, 9, 10, 11, 12, 13, 14, 15]) else bif Nat.beq j 7 then (.l [9, 3, 10, 11, 12, 13, 14, 15]) else .l []), by kernel_rfl, .inl ?_⟩
    (conv => whnf)
    refine And.intro ?_ ?_
    all_goals
      (conv => whnf)
      refine ⟨[], _, rfl, rfl, (by simp only [List.length_nil]; omega), ?_⟩
      (conv => whnf)
      refine cl [] [1, 4] (p1) ?_
      (conv => whnf)
      refine decN (fun h6 => ?_) (fun h6 => ?_)
      · rw [c2.trans (if_pos h6), if_neg h6]
        (conv => whnf)
        exact rx [] [.same 0, .same 1, .same 2, .same 3, .same 7, .same 5]
      · rw [c2.trans (if_neg (fun h => h h6)), if_pos h6]
        have h6 : c' = 0 := h6
        subst h6
        (conv => whnf)
        exact rx [] [.same 0, .same 1, .same 2, .same 3, .same 7, .same 5]
end Go.Nest
end
