/- WALKS, W10: of the law: both, with commits. -/
import Derived.Test.YtkoiljgjipmhbaaGreatDoorW9
import Derived.Test.YtkoiljgjipmhbaaGreatDoorW1
import Derived.Test.YtkoiljgjipmhbaaGreatDoorG4
import Derived.Test.YtkoiljgjipmhbaaGreatDoorR5
import Derived.Test.YtkoiljgjipmhbaaGreatDoorF7
namespace Go.Nest
open Go Go.AM Go.Proofs
open Go.Proofs.YtkoiljgjipmhbaaGreatDoor (tab tabOk)
set_option linter.unusedVariables false
set_option linter.unusedSimpArgs false
set_option maxRecDepth 4000
def upStep (made : List Int) (up : List Int) (k : Int) : List Int := if pick made k ∈ up then up else up ++ [pick made k]
def upsP (made l : List Int) : List Int := if made.length = 0 then [] else l.foldl (upStep made) []
theorem ups_len : ∀ {made l up : List Int}, (l.foldl (upStep made) up).length ≤ up.length + l.length
  | made, [], up => by simp
  | made, k :: l, up => by
    have := ups_len (made := made) (l := l) (up := upStep made up k)
    have : (upStep made up k).length ≤ up.length + 1 := by unfold upStep; split <;> simp
    simp only [List.foldl_cons, List.length_cons]; omega
theorem ups_succ {made l : List Int} {i : Nat} (h : i < l.length) : (l.take (i + 1)).foldl (upStep made) [] = upStep made ((l.take i).foldl (upStep made) []) l[i] := by
  rw [List.take_succ_eq_append_getElem h, List.foldl_append]; rfl
def comO (t : Int) (up : List Int) (x : List UInt8) : Ob := ⟨3, [], [], t, up, x⟩
def snB (s : List Ob × List Int) (n : Sn) : Int × Int × List Ob := buildP (docsU s.1 n.docs).1 (inOrdP (docsU s.1 n.docs).2)
def snP (s : List Ob × List Int) (n : Sn) : Int × Int × List Ob := putP (snB s n).2.2 (comO (snB s n).1 (upsP s.2 n.parents) n.text)
def growStep (s : List Ob × List Int) (n : Sn) : List Ob × List Int :=
  ((snP s n).2.2, if (snP s n).2.1 = 0 ∧ (snB s n).2.1 = 0 ∧ (snP s n).1 ∉ s.2 then s.2 ++ [(snP s n).1] else s.2)
def growU (l : List Sn) : List Ob × List Int := l.foldl growStep ([], [])
theorem growU_succ {l : List Sn} {i : Nat} (h : i < l.length) : growU (l.take (i + 1)) = growStep (growU (l.take i)) l[i] := by
  unfold growU
  rw [List.take_succ_eq_append_getElem h, List.foldl_append]; rfl
theorem growStep_ok {s : List Ob × List Int} {n : Sn} (h : PoolOk s.1) : PoolOk (growStep s n).1 := putP_ok (buildP_ok (docs_ok h) _).1 _
theorem grow_fold {P : List Ob × List Int → Prop} (hs : ∀ s n, P s → P (growStep s n)) : ∀ {l : List Sn} {s : List Ob × List Int}, P s → P (l.foldl growStep s)
  | [], _, h => h
  | n :: l, s, h => grow_fold hs (l := l) (hs s n h)
theorem grow_ok {l : List Sn} : PoolOk (growU l).1 := grow_fold (P := fun s => PoolOk s.1) (fun s n h => growStep_ok h) .nil
theorem grow_len : ∀ {l : List Sn} {s : List Ob × List Int}, (l.foldl growStep s).2.length ≤ s.2.length + l.length
  | [], s => by simp
  | n :: l, s => by
    have := grow_len (l := l) (s := growStep s n)
    have : (growStep s n).2.length ≤ s.2.length + 1 := by unfold growStep; dsimp only; split <;> simp
    simp only [List.foldl_cons, List.length_cons]; omega
set_option maxHeartbeats 4000000 in
theorem grown_spec (l : List Sn) (hl : l.length ≤ 25 ∧ ∀ s ∈ l, SnapOk s) : Does Tryz.prog 27 [.c (.bs 3 Sn encSn l)] []
    (Rt (.tup [(false, [.ptr 0 0]), (false, [.ptr 2 0]), (false, [.rw 4]), (false, [.bool true])]) [.box [.rw 1], .row 6 Ob encOb (growU l).1, .box [.rw 3], .row 6 Ob encOb (growU l).1, .row 1 Int encI (growU l).2]) := by
  refine X_spec ⟨Tryz.prog, tab, 154, 0⟩ tabOk (by kernel_rfl) Tryz.call27 Tryz.func27 rfl rfl (by kernel_rfl) rfl ?_
  intro hb
  (conv => whnf)
  refine cl [] [] (new_spec) (by (repeat' first | exact trivial | exact rfl | refine And.intro ?_ ?_); first | done | fail) (by first | exact trivial | exact rfl) ?_
  (conv => whnf)
  refine lp Nat (fun i => ⟨[(0, .c (.bs 3 Sn encSn l)), (6, .c (.ptr 0 0)), (7, .c (.ptr 2 0)), (8, .c (.bool true)), (9, .c (.rw 4)), (10, .c (.int .i64 i))],
    [.box [.rw 1], .row 6 Ob encOb (growU (l.take i)).1, .box [.rw 3], .row 6 Ob encOb (growU (l.take i)).1, .row 1 Int encI (growU (l.take i)).2]⟩) (fun i => i ≤ l.length ∧ True) (fun i => l.length - i) 0 [] [.same 0, .same 1, .same 2, .new, .new] ?_ ?_ (fun i hi => ?_)
  · simp
  · repeat' first | exact trivial | exact rfl | refine And.intro ?_ ?_
  have hM : PoolOk (growU (l.take i)).1 := grow_ok
  have hml : (growU (l.take i)).2.length ≤ 25 := by
    have := grow_len (l := l.take i) (s := ([], []))
    rw [List.length_take] at this
    unfold growU
    simp at this; omega
  (conv => whnf)
  refine dec (fun h4 => ?_) (fun h4 => ?_)
  · have hlt : i < l.length := by omega
    have hsu := growU_succ hlt
    generalize growU (l.take i) = s at *
    obtain ⟨M, made⟩ := s
    dsimp only at hM hml hsu
    obtain ⟨hdo, hpa, htx⟩ := hl.2 _ (List.getElem_mem hlt)
    generalize hd : l[i] = n at *
    have hld : l[i]? = some n := by rw [List.getElem?_eq_getElem hlt, hd]
    have hD : PoolOk (docsU M n.docs).1 := docs_ok hM
    have hfl : (docsU M n.docs).2.length ≤ 40 := by
      have := docs_len (l := n.docs) (s := (M, []))
      have := hdo.1
      unfold docsU
      simp at *; omega
    have hfp : ∀ f ∈ inOrdP (docsU M n.docs).2, f.path.length ≤ 4000000 := fun f hf => by
      obtain ⟨d, hd, e⟩ := docs_path f ((inOrd_perm _).mem_iff.1 hf)
      rw [e]; have := (hdo.2 d hd).1; omega
    (conv => whnf)
    refine ⟨i, n, rfl, hld, ?_⟩
    (conv => whnf)
    refine cl [] [0, 1, 2, 3] (docFiles_spec M hM n.docs hdo) (by (repeat' first | exact trivial | exact rfl | refine And.intro ?_ ?_); first | done | fail) (by first | exact trivial | exact rfl) ?_
    have hgs : ∀ D B P, docsU M n.docs = D → buildP D.1 (inOrdP D.2) = B → putP B.2.2 (comO B.1 (upsP made n.parents) n.text) = P → growU (l.take (i + 1)) = (P.2.2, if P.2.1 = 0 ∧ B.2.1 = 0 ∧ P.1 ∉ made then made ++ [P.1] else made) := fun D B P e1 e2 e3 => by
      rw [hsu]; subst e1 e2 e3; rfl
    generalize docsU M n.docs = D at *
    have hgs := hgs D
    (conv => whnf)
    refine cl [] [0, 5] (flatBuild_spec D.1 (inOrdP D.2) hD hfp) (by (repeat' first | exact trivial | exact rfl | refine And.intro ?_ ?_); first | done | fail) (by first | exact trivial | exact rfl) ?_
    (conv => whnf)
    refine cl [] [2, 6] (treeOfTop_spec D.1 (inOrdP D.2) hD hfp) (by (repeat' first | exact trivial | exact rfl | refine And.intro ?_ ?_); first | done | fail) (by first | exact trivial | exact rfl) ?_
    have hB := (buildP_ok hD (inOrdP D.2)).1
    generalize buildP D.1 (inOrdP D.2) = B at *
    have hgs := hgs B
    have hBL := hB.len
    (conv => whnf)
    refine lp Nat (fun k => ⟨[(0, .c (.bs 3 Sn encSn l)), (6, .c (.ptr 0 0)), (7, .c (.ptr 2 0)), (8, .c (.bool true)), (9, .c (.rw 4)), (10, .c (.int .i64 i)), (12, .c (.int .i64 B.1)), (13, .c (.int .i64 B.2.1)), (14, .c (.int .i64 B.1)), (15, .c (.int .i64 B.2.1)), (16, .c (.rw 5)), (17, .c (.int .i64 k))],
      [.box [.rw 1], .row 6 Ob encOb B.2.2, .box [.rw 3], .row 6 Ob encOb B.2.2, .row 1 Int encI made, .row 1 Int encI ((n.parents.take k).foldl (upStep made) [])]⟩) (fun k => k ≤ n.parents.length ∧ (made.length = 0 → k = 0)) (fun k => n.parents.length - k) 0 [] [.same 0, .same 8, .same 2, .same 9, .same 4, .new] ?_ ?_ (fun k hk => ?_)
    · simp
    · repeat' first | exact trivial | exact rfl | refine And.intro ?_ ?_
    obtain ⟨hk, hk0⟩ := hk
    have hul : ((n.parents.take k).foldl (upStep made) []).length ≤ 10 := by
      have := ups_len (made := made) (l := n.parents.take k) (up := [])
      rw [List.length_take] at this
      simp at this; omega
    (conv => whnf)
    refine ⟨i, n, rfl, hld, ?_⟩
    (conv => whnf)
    refine dec (fun h5 => ?_) (fun h5 => ?_)
    · have hkt : k < n.parents.length := by have h5 : (k : Int) < n.parents.length := h5; omega
      (conv => whnf)
      refine dec (fun h6 => ?_) (fun h6 => ?_)
      · have hm0 : made.length ≠ 0 := by have h6 : (0 : Int) < made.length := h6; omega
        have hus : (n.parents.take (k + 1)).foldl (upStep made) [] = if pick made n.parents[k] ∈ (n.parents.take k).foldl (upStep made) [] then (n.parents.take k).foldl (upStep made) [] else (n.parents.take k).foldl (upStep made) [] ++ [pick made n.parents[k]] := ups_succ (made := made) hkt
        obtain ⟨r1, r2⟩ := round_at (k := n.parents[k]) (n := made.length) hm0 (by omega)
        have hpk : made[(n.parents[k] % 18446744073709551616 % made.length).toNat]? = some (pick made n.parents[k]) := by
          unfold pick; rw [List.getElem?_eq_getElem r2]; rfl
        (conv => whnf)
        refine ⟨i, n, rfl, hld, ?_⟩
        (conv => whnf)
        refine ⟨k, n.parents[k], rfl, List.getElem?_eq_getElem hkt, ?_⟩
        (conv => whnf)
        refine ⟨wrapU_ne hm0 (by omega), ?_⟩
        (conv => whnf)
        refine ⟨_, ⟨r1, r2⟩, ?_⟩
        (conv => whnf)
        refine ⟨_, hpk, ?_⟩
        generalize pick made n.parents[k] = id at *
        generalize hup : (n.parents.take k).foldl (upStep made) [] = up at *
        (conv => whnf)
        refine cl [] [] (in_spec up id) (by (repeat' first | exact trivial | exact rfl | refine And.intro ?_ ?_); first | done | fail) (by first | exact trivial | exact rfl) ?_
        (conv => whnf)
        refine decN (fun h7 => ?_) (fun h7 => ?_)
        · rw [if_neg h7] at hus
          (conv => whnf)
          refine ⟨[id], rfl, ?_⟩
          (conv => whnf)
          refine ⟨_, _, rfl, rfl, (by simp only [List.length_append, List.length_cons, List.length_nil]; omega), ?_⟩
          repeat' ((conv => whnf); first | (refine dec (fun h => ?_) (fun h => ?_) <;> try contradiction) | (refine decN (fun h => ?_) (fun h => ?_) <;> try contradiction) | refine booN (fun h => ?_) (fun h => ?_) | refine boo (fun h => ?_) (fun h => ?_) | refine ⟨i64 (by omega) (by omega), ?_⟩ | refine ⟨_, _, rfl, List.getElem?_eq_getElem (by omega), ?_⟩ | refine ⟨_, ⟨rfl, by omega⟩, ?_⟩ | refine ⟨_, List.getElem?_eq_getElem (by omega), ?_⟩ | refine rtB ?_ | refine rtI ?_ | refine rtC ?_ rfl | fail)
          refine ag (k + 1) [] [.same 0, .same 1, .same 2, .same 3, .same 4, .same 7] ⟨hkt, fun h => absurd h hm0⟩ (by simp only []; omega) ?_
          rw [hus]
          repeat' first | exact trivial | exact rfl | refine And.intro ?_ ?_
        · rw [if_pos h7] at hus
          repeat' ((conv => whnf); first | (refine dec (fun h => ?_) (fun h => ?_) <;> try contradiction) | (refine decN (fun h => ?_) (fun h => ?_) <;> try contradiction) | refine booN (fun h => ?_) (fun h => ?_) | refine boo (fun h => ?_) (fun h => ?_) | refine ⟨i64 (by omega) (by omega), ?_⟩ | refine ⟨_, _, rfl, List.getElem?_eq_getElem (by omega), ?_⟩ | refine ⟨_, ⟨rfl, by omega⟩, ?_⟩ | refine ⟨_, List.getElem?_eq_getElem (by omega), ?_⟩ | refine rtB ?_ | refine rtI ?_ | refine rtC ?_ rfl | fail)
          refine ag (k + 1) [] [.same 0, .same 1, .same 2, .same 3, .same 4, .same 5] ⟨hkt, fun h => absurd h hm0⟩ (by simp only []; omega) ?_
          rw [hus]
          repeat' first | exact trivial | exact rfl | refine And.intro ?_ ?_
      · have hm0 : made.length = 0 := by have h6 : ¬ (0 : Int) < made.length := h6; omega
        have hup : (n.parents.take k).foldl (upStep made) [] = upsP made n.parents := by rw [hk0 hm0]; unfold upsP; rw [if_pos hm0]; rfl
        rw [hup]
        rw [hup] at hul
        generalize upsP made n.parents = up at *
        (conv => whnf)
        refine ⟨i, n, rfl, hld, ?_⟩
        (conv => whnf)
        refine cl [] [0, 1] (put_spec B.2.2 (comO B.1 up n.text) hBL) (by (repeat' first | exact trivial | exact rfl | refine And.intro ?_ ?_); first | done | fail) (by first | exact trivial | exact rfl) ?_
        (conv => whnf)
        refine cl [] [2, 3] (putR_spec B.2.2 (comO B.1 up n.text) hBL) (by (repeat' first | exact trivial | exact rfl | refine And.intro ?_ ?_); first | done | fail) (by first | exact trivial | exact rfl) ?_
        have hgs := hgs _ rfl rfl rfl
        generalize putP B.2.2 (comO B.1 up n.text) = P at *
        (conv => whnf)
        refine dec (fun _ => ?_) (fun h => absurd rfl h)
        (conv => whnf)
        refine dec (fun _ => ?_) (fun h => absurd rfl h)
        (conv => whnf)
        refine dec (fun _ => ?_) (fun h => absurd rfl h)
        (conv => whnf)
        refine dec (fun q1 => ?_) (fun q1 => ?_)
        · (conv => whnf)
          refine dec (fun q2 => ?_) (fun q2 => ?_)
          · (conv => whnf)
            refine cl [] [] (in_spec made P.1) (by (repeat' first | exact trivial | exact rfl | refine And.intro ?_ ?_); first | done | fail) (by first | exact trivial | exact rfl) ?_
            (conv => whnf)
            refine decN (fun q3 => ?_) (fun q3 => ?_)
            · rw [if_pos ⟨q1, q2, q3⟩] at hgs
              (conv => whnf)
              refine ⟨[P.1], rfl, ?_⟩
              (conv => whnf)
              refine ⟨_, _, rfl, rfl, (by simp only [List.length_append, List.length_cons, List.length_nil]; omega), ?_⟩
              repeat' ((conv => whnf); first | (refine dec (fun h => ?_) (fun h => ?_) <;> try contradiction) | (refine decN (fun h => ?_) (fun h => ?_) <;> try contradiction) | refine booN (fun h => ?_) (fun h => ?_) | refine boo (fun h => ?_) (fun h => ?_) | refine ⟨i64 (by omega) (by omega), ?_⟩ | refine ⟨_, _, rfl, List.getElem?_eq_getElem (by omega), ?_⟩ | refine ⟨_, ⟨rfl, by omega⟩, ?_⟩ | refine ⟨_, List.getElem?_eq_getElem (by omega), ?_⟩ | refine rtB ?_ | refine rtI ?_ | refine rtC ?_ rfl | fail)
              refine ag (i + 1) [] [.same 0, .same 7, .same 2, .same 8, .same 10] ⟨hlt, trivial⟩ (by simp only []; omega) ?_
              rw [hgs]
              repeat' first | exact trivial | exact rfl | refine And.intro ?_ ?_
              exact congrArg C.bool (decide_eq_true rfl)
            · rw [if_neg (fun h => h.2.2 q3)] at hgs
              repeat' ((conv => whnf); first | (refine dec (fun h => ?_) (fun h => ?_) <;> try contradiction) | (refine decN (fun h => ?_) (fun h => ?_) <;> try contradiction) | refine booN (fun h => ?_) (fun h => ?_) | refine boo (fun h => ?_) (fun h => ?_) | refine ⟨i64 (by omega) (by omega), ?_⟩ | refine ⟨_, _, rfl, List.getElem?_eq_getElem (by omega), ?_⟩ | refine ⟨_, ⟨rfl, by omega⟩, ?_⟩ | refine ⟨_, List.getElem?_eq_getElem (by omega), ?_⟩ | refine rtB ?_ | refine rtI ?_ | refine rtC ?_ rfl | fail)
              refine ag (i + 1) [] [.same 0, .same 7, .same 2, .same 8, .same 4] ⟨hlt, trivial⟩ (by simp only []; omega) ?_
              rw [hgs]
              repeat' first | exact trivial | exact rfl | refine And.intro ?_ ?_
              exact congrArg C.bool (decide_eq_true rfl)
          · rw [if_neg (fun h => q2 h.2.1)] at hgs
            repeat' ((conv => whnf); first | (refine dec (fun h => ?_) (fun h => ?_) <;> try contradiction) | (refine decN (fun h => ?_) (fun h => ?_) <;> try contradiction) | refine booN (fun h => ?_) (fun h => ?_) | refine boo (fun h => ?_) (fun h => ?_) | refine ⟨i64 (by omega) (by omega), ?_⟩ | refine ⟨_, _, rfl, List.getElem?_eq_getElem (by omega), ?_⟩ | refine ⟨_, ⟨rfl, by omega⟩, ?_⟩ | refine ⟨_, List.getElem?_eq_getElem (by omega), ?_⟩ | refine rtB ?_ | refine rtI ?_ | refine rtC ?_ rfl | fail)
            refine ag (i + 1) [] [.same 0, .same 7, .same 2, .same 8, .same 4] ⟨hlt, trivial⟩ (by simp only []; omega) ?_
            rw [hgs]
            repeat' first | exact trivial | exact rfl | refine And.intro ?_ ?_
            exact congrArg C.bool (decide_eq_true rfl)
        · rw [if_neg (fun h => q1 h.1)] at hgs
          repeat' ((conv => whnf); first | (refine dec (fun h => ?_) (fun h => ?_) <;> try contradiction) | (refine decN (fun h => ?_) (fun h => ?_) <;> try contradiction) | refine booN (fun h => ?_) (fun h => ?_) | refine boo (fun h => ?_) (fun h => ?_) | refine ⟨i64 (by omega) (by omega), ?_⟩ | refine ⟨_, _, rfl, List.getElem?_eq_getElem (by omega), ?_⟩ | refine ⟨_, ⟨rfl, by omega⟩, ?_⟩ | refine ⟨_, List.getElem?_eq_getElem (by omega), ?_⟩ | refine rtB ?_ | refine rtI ?_ | refine rtC ?_ rfl | fail)
          refine ag (i + 1) [] [.same 0, .same 7, .same 2, .same 8, .same 4] ⟨hlt, trivial⟩ (by simp only []; omega) ?_
          rw [hgs]
          repeat' first | exact trivial | exact rfl | refine And.intro ?_ ?_
          exact congrArg C.bool (decide_eq_true rfl)
    · have hup : (n.parents.take k).foldl (upStep made) [] = upsP made n.parents := by
        have h5 : ¬ (k : Int) < n.parents.length := h5
        unfold upsP
        split
        · rename_i hm0; rw [hk0 hm0]; rfl
        · rw [List.take_of_length_le (by omega)]
      rw [hup]
      rw [hup] at hul
      generalize upsP made n.parents = up at *
      (conv => whnf)
      refine ⟨i, n, rfl, hld, ?_⟩
      (conv => whnf)
      refine cl [] [0, 1] (put_spec B.2.2 (comO B.1 up n.text) hBL) (by (repeat' first | exact trivial | exact rfl | refine And.intro ?_ ?_); first | done | fail) (by first | exact trivial | exact rfl) ?_
      (conv => whnf)
      refine cl [] [2, 3] (putR_spec B.2.2 (comO B.1 up n.text) hBL) (by (repeat' first | exact trivial | exact rfl | refine And.intro ?_ ?_); first | done | fail) (by first | exact trivial | exact rfl) ?_
      have hgs := hgs _ rfl rfl rfl
      generalize putP B.2.2 (comO B.1 up n.text) = P at *
      (conv => whnf)
      refine dec (fun _ => ?_) (fun h => absurd rfl h)
      (conv => whnf)
      refine dec (fun _ => ?_) (fun h => absurd rfl h)
      (conv => whnf)
      refine dec (fun _ => ?_) (fun h => absurd rfl h)
      (conv => whnf)
      refine dec (fun q1 => ?_) (fun q1 => ?_)
      · (conv => whnf)
        refine dec (fun q2 => ?_) (fun q2 => ?_)
        · (conv => whnf)
          refine cl [] [] (in_spec made P.1) (by (repeat' first | exact trivial | exact rfl | refine And.intro ?_ ?_); first | done | fail) (by first | exact trivial | exact rfl) ?_
          (conv => whnf)
          refine decN (fun q3 => ?_) (fun q3 => ?_)
          · rw [if_pos ⟨q1, q2, q3⟩] at hgs
            (conv => whnf)
            refine ⟨[P.1], rfl, ?_⟩
            (conv => whnf)
            refine ⟨_, _, rfl, rfl, (by simp only [List.length_append, List.length_cons, List.length_nil]; omega), ?_⟩
            repeat' ((conv => whnf); first | (refine dec (fun h => ?_) (fun h => ?_) <;> try contradiction) | (refine decN (fun h => ?_) (fun h => ?_) <;> try contradiction) | refine booN (fun h => ?_) (fun h => ?_) | refine boo (fun h => ?_) (fun h => ?_) | refine ⟨i64 (by omega) (by omega), ?_⟩ | refine ⟨_, _, rfl, List.getElem?_eq_getElem (by omega), ?_⟩ | refine ⟨_, ⟨rfl, by omega⟩, ?_⟩ | refine ⟨_, List.getElem?_eq_getElem (by omega), ?_⟩ | refine rtB ?_ | refine rtI ?_ | refine rtC ?_ rfl | fail)
            refine ag (i + 1) [] [.same 0, .same 7, .same 2, .same 8, .same 10] ⟨hlt, trivial⟩ (by simp only []; omega) ?_
            rw [hgs]
            repeat' first | exact trivial | exact rfl | refine And.intro ?_ ?_
            exact congrArg C.bool (decide_eq_true rfl)
          · rw [if_neg (fun h => h.2.2 q3)] at hgs
            repeat' ((conv => whnf); first | (refine dec (fun h => ?_) (fun h => ?_) <;> try contradiction) | (refine decN (fun h => ?_) (fun h => ?_) <;> try contradiction) | refine booN (fun h => ?_) (fun h => ?_) | refine boo (fun h => ?_) (fun h => ?_) | refine ⟨i64 (by omega) (by omega), ?_⟩ | refine ⟨_, _, rfl, List.getElem?_eq_getElem (by omega), ?_⟩ | refine ⟨_, ⟨rfl, by omega⟩, ?_⟩ | refine ⟨_, List.getElem?_eq_getElem (by omega), ?_⟩ | refine rtB ?_ | refine rtI ?_ | refine rtC ?_ rfl | fail)
            refine ag (i + 1) [] [.same 0, .same 7, .same 2, .same 8, .same 4] ⟨hlt, trivial⟩ (by simp only []; omega) ?_
            rw [hgs]
            repeat' first | exact trivial | exact rfl | refine And.intro ?_ ?_
            exact congrArg C.bool (decide_eq_true rfl)
        · rw [if_neg (fun h => q2 h.2.1)] at hgs
          repeat' ((conv => whnf); first | (refine dec (fun h => ?_) (fun h => ?_) <;> try contradiction) | (refine decN (fun h => ?_) (fun h => ?_) <;> try contradiction) | refine booN (fun h => ?_) (fun h => ?_) | refine boo (fun h => ?_) (fun h => ?_) | refine ⟨i64 (by omega) (by omega), ?_⟩ | refine ⟨_, _, rfl, List.getElem?_eq_getElem (by omega), ?_⟩ | refine ⟨_, ⟨rfl, by omega⟩, ?_⟩ | refine ⟨_, List.getElem?_eq_getElem (by omega), ?_⟩ | refine rtB ?_ | refine rtI ?_ | refine rtC ?_ rfl | fail)
          refine ag (i + 1) [] [.same 0, .same 7, .same 2, .same 8, .same 4] ⟨hlt, trivial⟩ (by simp only []; omega) ?_
          rw [hgs]
          repeat' first | exact trivial | exact rfl | refine And.intro ?_ ?_
          exact congrArg C.bool (decide_eq_true rfl)
      · rw [if_neg (fun h => q1 h.1)] at hgs
        repeat' ((conv => whnf); first | (refine dec (fun h => ?_) (fun h => ?_) <;> try contradiction) | (refine decN (fun h => ?_) (fun h => ?_) <;> try contradiction) | refine booN (fun h => ?_) (fun h => ?_) | refine boo (fun h => ?_) (fun h => ?_) | refine ⟨i64 (by omega) (by omega), ?_⟩ | refine ⟨_, _, rfl, List.getElem?_eq_getElem (by omega), ?_⟩ | refine ⟨_, ⟨rfl, by omega⟩, ?_⟩ | refine ⟨_, List.getElem?_eq_getElem (by omega), ?_⟩ | refine rtB ?_ | refine rtI ?_ | refine rtC ?_ rfl | fail)
        refine ag (i + 1) [] [.same 0, .same 7, .same 2, .same 8, .same 4] ⟨hlt, trivial⟩ (by simp only []; omega) ?_
        rw [hgs]
        repeat' first | exact trivial | exact rfl | refine And.intro ?_ ?_
        exact congrArg C.bool (decide_eq_true rfl)
  · have e : l.take i = l := List.take_of_length_le (by omega)
    rw [e]
    (conv => whnf)
    refine rt [] [.same 0, .same 1, .same 2, .same 3, .same 4] (by repeat' first | exact trivial | exact rfl | refine And.intro ?_ ?_) rfl ⟨rfl, rfl⟩
end Go.Nest
