/- part -/
import Derived.Test.YtpmjnbidmcnhnaaGreatDoorR1
import Derived.Test.YtpmjnbidmcnhnaaGreatDoorP10
import Derived.Test.YtpmjnbidmcnhnaaGreatDoorW9
import Derived.Test.YtpmjnbidmcnhnaaGreatDoorW1
import Derived.Test.YtpmjnbidmcnhnaaGreatDoorG5
import Derived.Test.YtpmjnbidmcnhnaaGreatDoorF7
import Derived.Test.YtpmjnbidmcnhnaaGreatDoorP9
set_option linter.unusedVariables false
set_option linter.unusedSimpArgs false
section

namespace Go.Nest
open Go Go.AM Go.Proofs
open Go.Proofs.YtpmjnbidmcnhnaaGreatDoor (tab tabOk)
set_option maxRecDepth 4000
theorem goT_ok : ∀ (n : Nat) (L : List Ob) (acc : List Ent) (l : List Fi), PoolOk L → PoolOk (goT n L acc l).2.2
 | 0, L, _, _, h => h
 | n + 1, L, acc, [], h => putP_ok h _
 | n + 1, L, acc, f :: r, h => by
  unfold goT
  split
  ·exact goT_ok n L _ r h
  split
  ·exact goT_ok n L _ r h
  split
  ·exact goT_ok n L [] _ h
  ·exact goT_ok n _ _ r (goT_ok n L [] _ h)
theorem mu_behind (d : List UInt8) : ∀ l : List Fi, mu (behindF d l) + (behindF d l).length ≤ mu l
 | [] => by simp [behindF, mu]
 | f :: l => by
  have ih := mu_behind d l
  rw [mu_cons]
  unfold behindF at ih ⊢
  rw [List.filterMap_cons]
  unfold stripF at ih ⊢
  cases hu : under f.path d with
  | none => simp only [Option.map_none]; exact Nat.le_trans ih (by omega)
  | some p =>
   have := under_eq hu
   simp only [Option.map_some]
   rw [mu_cons, List.length_cons]
   have : f.path.length = d.length + 1 + p.length := by rw [this]; simp; omega
   simp only
   omega
theorem behind_take {d : List UInt8} {l : List Fi} {k : Nat} (h : k < l.length) : behindF d (l.take (k + 1)) = behindF d (l.take k) ++ match under l[k].path d with
  | some p => [⟨p, l[k].mode, l[k].id, l[k].repo⟩]
  | none => [] := by
 rw [List.take_succ_eq_append_getElem h, behind_app]
 congr 1
 unfold behindF
 rw [List.filterMap_cons, List.filterMap_nil]
 unfold stripF
 cases under l[k].path d <;> rfl
theorem lastN_at {es : List Ent} {n : Nat} (h : es.length = n + 1) : lastN es = some (es[n]'(by omega)).name := by
 unfold lastN
 have e : es.length - 1 = n := by omega
 rw [List.getLast?_eq_getElem?, e, List.getElem?_eq_getElem (by omega)]; rfl
set_option maxHeartbeats 8000000 in
theorem treeOf_spec : ∀ (n : Nat) (L : List Ob) (l : List Fi), mu l < n → PoolOk L → l.length ≤ 60 → (∀ f ∈ l, f.path.length ≤ 4000000) → Does Tryz.prog 90 [.c (.ptr 0 0), .c (.bs 4 Fi encFi l)] [.box [.rw 1], .row 6 Ob encOb L] (Rt (.tup [(false, [.int .i64 (goT n L [] l).1]), (false, [.int .i64 (goT n L [] l).2.1])]) [.box [.rw 2], .dead, .row 6 Ob encOb (goT n L [] l).2.2]) := by
 intro n
 induction n using Nat.strongRecOn with
 | _ n ih =>
 intro L l hn hL hl hp
 refine X_spec (n := 129) (n0 := 2) tabOk Tryz.call90 Tryz.func90 ?_
 intro hb
 (conv => whnf)
 refine lp (Nat × Nat × List Ob × List Ent) (fun x => ⟨[(0, .c (.ptr 0 0)), (1, .c (.bs 4 Fi encFi l)), (6, .c (.ptr 3 0)), (7, .c (.int .i64 x.2.1))], [.box [.rw 2], .dead, .row 6 Ob encOb x.2.2.1, .box [.int .i64 2, .nil, .rw 4, .int .i64 0, .nil, .str []], .row 4 Ent encEn x.2.2.2]⟩)
  (fun x => (x.2.1 ≤ l.length ∧ x.1 ≤ n ∧ mu (l.drop x.2.1) < x.1 ∧ x.2.2.2.length ≤ x.2.1) ∧ PoolOk x.2.2.1 ∧ goT n L [] l = goT x.1 x.2.2.1 x.2.2.2 (l.drop x.2.1)) (fun x => l.length - x.2.1) (n, 0, L, []) [] [.same 0, .same 1, .same 1, .same 2, .new] ?_ ?_ (fun x hx => ?_)
 ·exact ⟨⟨Nat.zero_le _, Nat.le_refl _, hn, by simp⟩, hL, rfl⟩
 ·repeat' first | exact trivial | exact rfl | refine And.intro ?_ ?_
 obtain ⟨k, i, M, es⟩ := x
 obtain ⟨⟨h1, h2, h3, h4⟩, h5, h6⟩ := hx
 dsimp only at h1 h2 h3 h4 h5 h6
 have hML := h5.len
 obtain ⟨k, rfl⟩ : ∃ m, k = m + 1 := ⟨k - 1, by omega⟩
 (conv => whnf)
 refine dec (fun hlt => ?_) (fun hlt => ?_)
 ·have hlt : i < l.length := by simpa using hlt
  have hf := hp _ (List.getElem_mem hlt)
  have hsp := spl_pos l[i].path
  rw [List.drop_eq_getElem_cons hlt, mu_cons] at h3
  rw [List.drop_eq_getElem_cons hlt] at h6
  (conv => whnf)
  refine ⟨i, l[i], rfl, List.getElem?_eq_getElem hlt, ?_⟩
  (conv => whnf)
  refine cl [] [] (parts_spec l[i].path hf) ?_
  (conv => whnf)
  refine dec (fun hc => ?_) (fun hc => ?_)
  ·have hc : l[i].path.count 47 = 0 := by rw [spl_len] at hc; omega
   have e : goT (k + 1) M es (l[i] :: l.drop (i + 1)) = goT k M (es ++ [⟨fstN l[i].path, l[i].mode, l[i].id, l[i].repo⟩]) (l.drop (i + 1)) := by rw [goT, if_pos hc]
   rw [e] at h6
   (conv => whnf)
   refine ⟨false, .grow, (.l [0, 1, 2, 3, 4, 5, 6, 7, 8, 9, 10, 11, 12, 13, 14, 15, 16, 17, 18, 19, 20, 21, 22, 23, 24]), by kernel_rfl, .inl ?_⟩
   (conv => whnf)
   refine ⟨0, ⟨rfl, hsp⟩, ?_⟩
   (conv => whnf)
   refine ⟨fstN l[i].path, List.getElem?_eq_getElem hsp, ?_⟩
   (conv => whnf)
   refine ⟨i, l[i], rfl, List.getElem?_eq_getElem hlt, ?_⟩
   (conv => whnf)
   refine ⟨i, l[i], rfl, List.getElem?_eq_getElem hlt, ?_⟩
   (conv => whnf)
   refine ⟨i, l[i], rfl, List.getElem?_eq_getElem hlt, ?_⟩
   (conv => whnf)
   refine ⟨[⟨fstN l[i].path, l[i].mode, l[i].id, l[i].repo⟩], rfl, ?_⟩
   (conv => whnf)
   refine ⟨_, _, rfl, rfl, (by simp only [List.length_append, List.length_cons, List.length_nil]; omega), ?_⟩
   repeat' ((conv => whnf); refine I6 ?_)
   refine ag (k, i + 1, M, es ++ [⟨fstN l[i].path, l[i].mode, l[i].id, l[i].repo⟩]) [] [.same 0, .same 1, .same 2, .same 3, .same 7] ⟨⟨hlt, by simp only []; omega, by simp only []; omega, by simp only [List.length_append, List.length_cons, List.length_nil]; omega⟩, h5, h6⟩ (by simp only []; omega) ?_
   repeat' first | exact trivial | exact rfl | refine And.intro ?_ ?_
  ·have hc : ¬ l[i].path.count 47 = 0 := by rw [spl_len] at hc; omega
   (conv => whnf)
   refine ⟨false, .grow, (.l [0, 1, 2, 3, 4, 5, 6, 7, 8, 9, 10, 11, 12, 13, 14]), by kernel_rfl, .inl ?_⟩
   (conv => whnf)
   refine dec (fun hn0 => ?_) (fun hn0 => ?_)
   ·obtain ⟨m0, hm0⟩ : ∃ m0, es.length = m0 + 1 := ⟨es.length - 1, by have hn0 : 0 < (es.length : Int) := hn0; omega⟩
    have hla := lastN_at hm0
    have hm1 : m0 < es.length := by omega
    (conv => whnf)
    refine ⟨i64 (show (-9223372036854775808 : Int) ≤ (es.length : Int) - 1 by omega) (show (es.length : Int) - 1 ≤ 9223372036854775807 by omega), ?_⟩
    (conv => whnf)
    refine ⟨m0, ⟨(show (es.length : Int) - 1 = m0 by omega), (show m0 < es.length by omega)⟩, ?_⟩
    (conv => whnf)
    refine ⟨es[m0], List.getElem?_eq_getElem hm1, ?_⟩
    (conv => whnf)
    refine ⟨0, ⟨rfl, hsp⟩, ?_⟩
    (conv => whnf)
    refine ⟨fstN l[i].path, List.getElem?_eq_getElem hsp, ?_⟩
    (conv => whnf)
    refine dec (fun he => ?_) (fun he => ?_)
    ·have e : goT (k + 1) M es (l[i] :: l.drop (i + 1)) = goT k M es (l.drop (i + 1)) := by rw [goT, if_neg hc, if_pos (by rw [hla, he])]
     rw [e] at h6
     repeat' ((conv => whnf); refine I6 ?_)
     refine ag (k, i + 1, M, es) [] [.same 0, .same 1, .same 2, .same 3, .same 4] ⟨⟨hlt, by simp only []; omega, by simp only []; omega, by simp only []; omega⟩, h5, h6⟩ (by simp only []; omega) ?_
     repeat' first | exact trivial | exact rfl | refine And.intro ?_ ?_
    ·have hne : lastN es ≠ some (fstN l[i].path) := by rw [hla]; intro h; exact he (Option.some.inj h)
     obtain ⟨a, b, _, hab, ha⟩ := cut_some hc
     have hfa : fstN l[i].path = a := by rw [hab]; exact fstN_dir ha
     have hal : a.length ≤ 4000000 := by rw [hab] at hf; simp at hf; omega
     have e : goT (k + 1) M es (l[i] :: l.drop (i + 1)) = if (goT k M [] (behindF a (l.drop i))).2.1 ≠ 0 then (0, (goT k M [] (behindF a (l.drop i))).2.1, (goT k M [] (behindF a (l.drop i))).2.2) else goT k (goT k M [] (behindF a (l.drop i))).2.2 (es ++ [⟨a, 2, (goT k M [] (behindF a (l.drop i))).1, 0⟩]) (l.drop (i + 1)) := by
      rw [goT, if_neg hc, if_neg hne, hfa, ← List.drop_eq_getElem_cons hlt]
     rw [e] at h6
     have hmb := mu_behind a (l.drop i)
     have hmd : mu (l.drop i) = l[i].path.length + 1 + mu (l.drop (i + 1)) := by rw [List.drop_eq_getElem_cons hlt, mu_cons]
     have hb1 : 0 < (behindF a (l.drop i)).length := by
      rw [List.drop_eq_getElem_cons hlt]
      unfold behindF stripF
      rw [List.filterMap_cons, hab, under_of]
      simp
     have hbl : (behindF a (l.drop i)).length ≤ 60 := Nat.le_trans behind_len (by rw [List.length_drop]; omega)
     have hbp : ∀ g ∈ behindF a (l.drop i), g.path.length ≤ 4000000 := fun g hg => by
      obtain ⟨f2, hf2, e2⟩ := behind_mem hg
      have := hp f2 (List.mem_of_mem_drop hf2)
      rw [e2] at this
      simp at this
      omega
     have hokM := goT_ok k M [] (behindF a (l.drop i)) h5
     (conv => whnf)
     refine lp Nat (fun d => ⟨[(0, .c (.ptr 0 0)), (1, .c (.bs 4 Fi encFi l)), (6, .c (.ptr 3 0)), (7, .c (.int .i64 i)), (8, .c (.rw 5)), (10, .c (.rw 6)), (11, .c (.int .i64 ((i : Int) + d)))], [.box [.rw 2], .dead, .row 6 Ob encOb M, .box [.int .i64 2, .nil, .rw 4, .int .i64 0, .nil, .str []], .row 4 Ent encEn es, .row 1 (List UInt8) encS (spl l[i].path), .row 4 Fi encFi (behindF a ((l.drop i).take d))]⟩)
      (fun d => d ≤ l.length - i ∧ True) (fun d => l.length - i - d) 0 [] [.same 0, .same 1, .same 2, .same 3, .same 4, .same 5, .new] ?_ ?_ (fun d hd => ?_)
     ·simp
     ·repeat' first | exact trivial | exact rfl | refine And.intro ?_ ?_
     have hdl : (behindF a ((l.drop i).take d)).length ≤ 60 := Nat.le_trans behind_len (by rw [List.length_take, List.length_drop]; omega)
     (conv => whnf)
     refine dec (fun h7 => ?_) (fun h7 => ?_)
     ·have hdt : d < (l.drop i).length := by rw [List.length_drop]; omega
      have hge : (l.drop i)[d] = l[i + d] := List.getElem_drop ..
      have hst := behind_take (d := a) hdt
      rw [hge] at hst
      (conv => whnf)
      refine ⟨false, .grow, (.l [0, 1, 2, 3, 4, 5, 6, 7, 8, 9, 10, 11, 12, 13]), by kernel_rfl, .inl ?_⟩
      (conv => whnf)
      refine ⟨i + d, l[i + d], by simp, List.getElem?_eq_getElem (by omega), ?_⟩
      (conv => whnf)
      refine ⟨0, ⟨rfl, hsp⟩, ?_⟩
      (conv => whnf)
      refine ⟨a, by rw [List.getElem?_eq_getElem hsp]; exact congrArg some hfa, ?_⟩
      (conv => whnf)
      refine cl [] [] (behind_spec l[i + d].path a hal) ?_
      cases hu : under l[i + d].path a with
      | none =>
       rw [hu] at hst
       simp only [List.append_nil] at hst
       rw [show underP l[i + d].path a = (l[i + d].path, false) by unfold underP; rw [hu]]
       repeat' ((conv => whnf); refine I6 ?_)
       refine ag (d + 1) [] [.same 0, .same 1, .same 2, .same 3, .same 4, .same 5, .same 6] ⟨by omega, trivial⟩ (by simp only []; omega) ?_
       rw [hst]
       repeat' first | exact trivial | exact rfl | refine And.intro ?_ ?_
      | some p =>
       rw [hu] at hst
       simp only [] at hst
       rw [show underP l[i + d].path a = (p, true) by unfold underP; rw [hu]]
       (conv => whnf)
       refine ⟨i + d, l[i + d], by simp, List.getElem?_eq_getElem (by omega), ?_⟩
       (conv => whnf)
       refine ⟨[⟨p, l[i + d].mode, l[i + d].id, l[i + d].repo⟩], rfl, ?_⟩
       (conv => whnf)
       refine ⟨_, _, rfl, rfl, (by simp only [List.length_append, List.length_cons, List.length_nil]; omega), ?_⟩
       repeat' ((conv => whnf); refine I6 ?_)
       refine ag (d + 1) [] [.same 0, .same 1, .same 2, .same 3, .same 4, .same 5, .same 9] ⟨by omega, trivial⟩ (by simp only []; omega) ?_
       rw [hst]
       repeat' first | exact trivial | exact rfl | refine And.intro ?_ ?_
     ·have htk : (l.drop i).take d = l.drop i := List.take_of_length_le (by rw [List.length_drop]; omega)
      rw [htk]
      (conv => whnf)
      refine cl [6] [0, 2] (ih k (by omega) M (behindF a (l.drop i)) (by omega) h5 hbl hbp) ?_
      generalize goT k M [] (behindF a (l.drop i)) = R at *
      (conv => whnf)
      refine decN (fun h8 => ?_) (fun h8 => ?_)
      ·rw [if_pos h8] at h6
       rw [h6]
       (conv => whnf)
       exact rx [] [.same 0, .same 1, .same 7]
      ·rw [if_neg (by simpa using h8)] at h6
       (conv => whnf)
       refine ⟨false, .grow, (.l [0, 1, 2, 3, 4, 5, 6, 7, 8, 9, 10]), by kernel_rfl, .inl ?_⟩
       (conv => whnf)
       refine ⟨0, ⟨rfl, hsp⟩, ?_⟩
       (conv => whnf)
       refine ⟨a, by rw [List.getElem?_eq_getElem hsp]; exact congrArg some hfa, ?_⟩
       (conv => whnf)
       refine ⟨[⟨a, 2, R.1, 0⟩], rfl, ?_⟩
       (conv => whnf)
       refine ⟨_, _, rfl, rfl, (by simp only [List.length_append, List.length_cons, List.length_nil]; omega), ?_⟩
       repeat' ((conv => whnf); refine I6 ?_)
       refine ag (k, i + 1, R.2.2, es ++ [⟨a, 2, R.1, 0⟩]) [] [.same 0, .same 1, .same 7, .same 3, .same 9] ⟨⟨hlt, by simp only []; omega, by simp only []; omega, by simp only [List.length_append, List.length_cons, List.length_nil]; omega⟩, hokM, h6⟩ (by simp only []; omega) ?_
       repeat' first | exact trivial | exact rfl | refine And.intro ?_ ?_
   ·have hne : lastN es ≠ some (fstN l[i].path) := by
     have : es = [] := by simpa using hn0
     rw [this]; intro h; cases h
    obtain ⟨a, b, _, hab, ha⟩ := cut_some hc
    have hfa : fstN l[i].path = a := by rw [hab]; exact fstN_dir ha
    have hal : a.length ≤ 4000000 := by rw [hab] at hf; simp at hf; omega
    have e : goT (k + 1) M es (l[i] :: l.drop (i + 1)) = if (goT k M [] (behindF a (l.drop i))).2.1 ≠ 0 then (0, (goT k M [] (behindF a (l.drop i))).2.1, (goT k M [] (behindF a (l.drop i))).2.2) else goT k (goT k M [] (behindF a (l.drop i))).2.2 (es ++ [⟨a, 2, (goT k M [] (behindF a (l.drop i))).1, 0⟩]) (l.drop (i + 1)) := by
     rw [goT, if_neg hc, if_neg hne, hfa, ← List.drop_eq_getElem_cons hlt]
    rw [e] at h6
    have hmb := mu_behind a (l.drop i)
    have hmd : mu (l.drop i) = l[i].path.length + 1 + mu (l.drop (i + 1)) := by rw [List.drop_eq_getElem_cons hlt, mu_cons]
    have hb1 : 0 < (behindF a (l.drop i)).length := by
     rw [List.drop_eq_getElem_cons hlt]
     unfold behindF stripF
     rw [List.filterMap_cons, hab, under_of]
     simp
    have hbl : (behindF a (l.drop i)).length ≤ 60 := Nat.le_trans behind_len (by rw [List.length_drop]; omega)
    have hbp : ∀ g ∈ behindF a (l.drop i), g.path.length ≤ 4000000 := fun g hg => by
     obtain ⟨f2, hf2, e2⟩ := behind_mem hg
     have := hp f2 (List.mem_of_mem_drop hf2)
     rw [e2] at this
     simp at this
     omega
    have hokM := goT_ok k M [] (behindF a (l.drop i)) h5
    (conv => whnf)
    refine lp Nat (fun d => ⟨[(0, .c (.ptr 0 0)), (1, .c (.bs 4 Fi encFi l)), (6, .c (.ptr 3 0)), (7, .c (.int .i64 i)), (8, .c (.rw 5)), (10, .c (.rw 6)), (11, .c (.int .i64 ((i : Int) + d)))], [.box [.rw 2], .dead, .row 6 Ob encOb M, .box [.int .i64 2, .nil, .rw 4, .int .i64 0, .nil, .str []], .row 4 Ent encEn es, .row 1 (List UInt8) encS (spl l[i].path), .row 4 Fi encFi (behindF a ((l.drop i).take d))]⟩)
     (fun d => d ≤ l.length - i ∧ True) (fun d => l.length - i - d) 0 [] [.same 0, .same 1, .same 2, .same 3, .same 4, .same 5, .new] ?_ ?_ (fun d hd => ?_)
    ·simp
    ·repeat' first | exact trivial | exact rfl | refine And.intro ?_ ?_
    have hdl : (behindF a ((l.drop i).take d)).length ≤ 60 := Nat.le_trans behind_len (by rw [List.length_take, List.length_drop]; omega)
    (conv => whnf)
    refine dec (fun h7 => ?_) (fun h7 => ?_)
    ·have hdt : d < (l.drop i).length := by rw [List.length_drop]; omega
     have hge : (l.drop i)[d] = l[i + d] := List.getElem_drop ..
     have hst := behind_take (d := a) hdt
     rw [hge] at hst
     (conv => whnf)
     refine ⟨false, .grow, (.l [0, 1, 2, 3, 4, 5, 6, 7, 8, 9, 10, 11, 12, 13]), by kernel_rfl, .inl ?_⟩
     (conv => whnf)
     refine ⟨i + d, l[i + d], by simp, List.getElem?_eq_getElem (by omega), ?_⟩
     (conv => whnf)
     refine ⟨0, ⟨rfl, hsp⟩, ?_⟩
     (conv => whnf)
     refine ⟨a, by rw [List.getElem?_eq_getElem hsp]; exact congrArg some hfa, ?_⟩
     (conv => whnf)
     refine cl [] [] (behind_spec l[i + d].path a hal) ?_
     cases hu : under l[i + d].path a with
     | none =>
      rw [hu] at hst
      simp only [List.append_nil] at hst
      rw [show underP l[i + d].path a = (l[i + d].path, false) by unfold underP; rw [hu]]
      repeat' ((conv => whnf); refine I6 ?_)
      refine ag (d + 1) [] [.same 0, .same 1, .same 2, .same 3, .same 4, .same 5, .same 6] ⟨by omega, trivial⟩ (by simp only []; omega) ?_
      rw [hst]
      repeat' first | exact trivial | exact rfl | refine And.intro ?_ ?_
     | some p =>
      rw [hu] at hst
      simp only [] at hst
      rw [show underP l[i + d].path a = (p, true) by unfold underP; rw [hu]]
      (conv => whnf)
      refine ⟨i + d, l[i + d], by simp, List.getElem?_eq_getElem (by omega), ?_⟩
      (conv => whnf)
      refine ⟨[⟨p, l[i + d].mode, l[i + d].id, l[i + d].repo⟩], rfl, ?_⟩
      (conv => whnf)
      refine ⟨_, _, rfl, rfl, (by simp only [List.length_append, List.length_cons, List.length_nil]; omega), ?_⟩
      repeat' ((conv => whnf); refine I6 ?_)
      refine ag (d + 1) [] [.same 0, .same 1, .same 2, .same 3, .same 4, .same 5, .same 9] ⟨by omega, trivial⟩ (by simp only []; omega) ?_
      rw [hst]
      repeat' first | exact trivial | exact rfl | refine And.intro ?_ ?_
    ·have htk : (l.drop i).take d = l.drop i := List.take_of_length_le (by rw [List.length_drop]; omega)
     rw [htk]
     (conv => whnf)
     refine cl [6] [0, 2] (ih k (by omega) M (behindF a (l.drop i)) (by omega) h5 hbl hbp) ?_
     generalize goT k M [] (behindF a (l.drop i)) = R at *
     (conv => whnf)
     refine decN (fun h8 => ?_) (fun h8 => ?_)
     ·rw [if_pos h8] at h6
      rw [h6]
      (conv => whnf)
      exact rx [] [.same 0, .same 1, .same 7]
     ·rw [if_neg (by simpa using h8)] at h6
      (conv => whnf)
      refine ⟨false, .grow, (.l [0, 1, 2, 3, 4, 5, 6, 7, 8, 9, 10]), by kernel_rfl, .inl ?_⟩
      (conv => whnf)
      refine ⟨0, ⟨rfl, hsp⟩, ?_⟩
      (conv => whnf)
      refine ⟨a, by rw [List.getElem?_eq_getElem hsp]; exact congrArg some hfa, ?_⟩
      (conv => whnf)
      refine ⟨[⟨a, 2, R.1, 0⟩], rfl, ?_⟩
      (conv => whnf)
      refine ⟨_, _, rfl, rfl, (by simp only [List.length_append, List.length_cons, List.length_nil]; omega), ?_⟩
      repeat' ((conv => whnf); refine I6 ?_)
      refine ag (k, i + 1, R.2.2, es ++ [⟨a, 2, R.1, 0⟩]) [] [.same 0, .same 1, .same 7, .same 3, .same 9] ⟨⟨hlt, by simp only []; omega, by simp only []; omega, by simp only [List.length_append, List.length_cons, List.length_nil]; omega⟩, hokM, h6⟩ (by simp only []; omega) ?_
      repeat' first | exact trivial | exact rfl | refine And.intro ?_ ?_
 ·rw [List.drop_of_length_le (by simp at hlt; omega)] at h6
  rw [show goT (k + 1) M es [] = putP M (obT es) from rfl] at h6
  rw [h6]
  (conv => whnf)
  refine cl [4] [0, 2] (putR_spec M (obT es) hML) ?_
  (conv => whnf)
  exact rx [] [.same 0, .same 1, .same 5]
end Go.Nest
end
/- part -/
section

namespace Go.Nest
open Go Go.AM Go.Proofs
open Go.Proofs.YtpmjnbidmcnhnaaGreatDoor (tab tabOk)
set_option maxRecDepth 4000
end Go.Nest
end
/- part -/
section

namespace Go.Nest
open Go Go.AM Go.Proofs
open Go.Proofs.YtpmjnbidmcnhnaaGreatDoor (tab tabOk)
set_option maxRecDepth 4000
end Go.Nest
end
/- part -/
section

namespace Go.Nest
open Go Go.AM Go.Proofs
open Go.Proofs.YtpmjnbidmcnhnaaGreatDoor (tab tabOk)
set_option maxRecDepth 4000
theorem treeOfTop_spec (L : List Ob) (l : List Fi) (hL : PoolOk L) (hp : ∀ f ∈ l, f.path.length ≤ 4000000) : Does Tryz.prog 51 [.c (.ptr 0 0), .c (.bs 4 Fi encFi l)] [.box [.rw 1], .row 6 Ob encOb L] (Rt (.tup [(false, [.int .i64 (buildP L l).1]), (false, [.int .i64 (buildP L l).2.1])]) [.box [.rw 2], .dead, .row 6 Ob encOb (buildP L l).2.2]) := by
 rw [← tree_same]
 refine X_spec (n := 17) (n0 := 2) tabOk Tryz.call51 Tryz.func51 ?_
 intro hb
 (conv => whnf)
 refine cl [] [] (fault_spec l hp) ?_
 unfold treeP
 (conv => whnf)
 refine decN (fun h => ?_) (fun h => ?_)
 ·rw [if_pos h]
  (conv => whnf)
  exact rx [] [.same 0, .same 1, .same 1]
 ·have h0 : filesF l = 0 := by simpa using h
  have h1 := (filesF_all h0).1
  rw [if_neg (by simpa using h0)]
  (conv => whnf)
  refine cl [] [0, 1] (treeOf_spec (mu l + 1) L l (Nat.lt_succ_self _) hL h1 hp) ?_
  (conv => whnf)
  exact rx [] [.same 0, .same 1, .same 2]
end Go.Nest
end
/- part -/
section

namespace Go.Nest
open Go Go.AM Go.Proofs
open Go.Proofs.YtpmjnbidmcnhnaaGreatDoor (tab tabOk)
set_option maxRecDepth 4000
def upStep (made : List Int) (up : List Int) (k : Int) : List Int := if pick made k ∈ up then up else up ++ [pick made k]
def upsP (made l : List Int) : List Int := if made.length = 0 then [] else l.foldl (upStep made) []
theorem ups_len : ∀ {made l up : List Int}, (l.foldl (upStep made) up).length ≤ up.length + l.length
 | made, [], up => by simp
 | made, k :: l, up => by
  have := ups_len (made := made) (l := l) (up := upStep made up k)
  have : (upStep made up k).length ≤ up.length + 1 := by unfold upStep; split <;> simp
  simp only [List.foldl_cons, List.length_cons]; omega
theorem ups_succ {made l : List Int} {i : Nat} (h : i < l.length) : (l.take (i + 1)).foldl (upStep made) [] = upStep made ((l.take i).foldl (upStep made) []) l[i] := by
 rw [List.take_succ_eq_append_getElem h, List.foldl_append]; rfl
def comO (t : Int) (up : List Int) (x : List UInt8) : Ob := ⟨3, [], [], t, up, x⟩
def snB (s : List Ob × List Int) (n : Sn) : Int × Int × List Ob := buildP (docsU s.1 n.docs).1 (inOrdP (docsU s.1 n.docs).2)
def snP (s : List Ob × List Int) (n : Sn) : Int × Int × List Ob := putP (snB s n).2.2 (comO (snB s n).1 (upsP s.2 n.parents) n.text)
def growStep (s : List Ob × List Int) (n : Sn) : List Ob × List Int :=
 ((snP s n).2.2, if (snP s n).2.1 = 0 ∧ (snB s n).2.1 = 0 ∧ (snP s n).1 ∉ s.2 then s.2 ++ [(snP s n).1] else s.2)
def growU (l : List Sn) : List Ob × List Int := l.foldl growStep ([], [])
theorem growU_succ {l : List Sn} {i : Nat} (h : i < l.length) : growU (l.take (i + 1)) = growStep (growU (l.take i)) l[i] := by
 unfold growU
 rw [List.take_succ_eq_append_getElem h, List.foldl_append]; rfl
theorem growStep_ok {s : List Ob × List Int} {n : Sn} (h : PoolOk s.1) : PoolOk (growStep s n).1 := putP_ok (buildP_ok (docs_ok h) _).1 _
theorem grow_fold {P : List Ob × List Int → Prop} (hs : ∀ s n, P s → P (growStep s n)) : ∀ {l : List Sn} {s : List Ob × List Int}, P s → P (l.foldl growStep s)
 | [], _, h => h
 | n :: l, s, h => grow_fold hs (l := l) (hs s n h)
theorem grow_ok {l : List Sn} : PoolOk (growU l).1 := grow_fold (P := fun s => PoolOk s.1) (fun s n h => growStep_ok h) .nil
theorem grow_len : ∀ {l : List Sn} {s : List Ob × List Int}, (l.foldl growStep s).2.length ≤ s.2.length + l.length
 | [], s => by simp
 | n :: l, s => by
  have := grow_len (l := l) (s := growStep s n)
  have : (growStep s n).2.length ≤ s.2.length + 1 := by unfold growStep; dsimp only; split <;> simp
  simp only [List.foldl_cons, List.length_cons]; omega
set_option maxHeartbeats 4000000 in
theorem grown_spec (l : List Sn) (hl : l.length ≤ 25 ∧ ∀ s ∈ l, SnapOk s) : Does Tryz.prog 45 [.c (.bs 3 Sn encSn l)] []
  (Rt (.tup [(false, [.ptr 0 0]), (false, [.ptr 2 0]), (false, [.rw 4]), (false, [.bool true])]) [.box [.rw 1], .row 6 Ob encOb (growU l).1, .box [.rw 3], .row 6 Ob encOb (growU l).1, .row 1 Int encI (growU l).2]) := by
 refine X_spec (n := 154) (n0 := 0) tabOk Tryz.call45 Tryz.func45 ?_
 intro hb
 (conv => whnf)
 refine cl [] [] (new_spec) ?_
 (conv => whnf)
 refine lp Nat (fun i => ⟨[(0, .c (.bs 3 Sn encSn l)), (6, .c (.ptr 0 0)), (7, .c (.ptr 2 0)), (8, .c (.bool true)), (9, .c (.rw 4)), (10, .c (.int .i64 i))],
  [.box [.rw 1], .row 6 Ob encOb (growU (l.take i)).1, .box [.rw 3], .row 6 Ob encOb (growU (l.take i)).1, .row 1 Int encI (growU (l.take i)).2]⟩) (fun i => i ≤ l.length ∧ True) (fun i => l.length - i) 0 [] [.same 0, .same 1, .same 2, .new, .new] ?_ ?_ (fun i hi => ?_)
 ·simp
 ·repeat' first | exact trivial | exact rfl | refine And.intro ?_ ?_
 have hM : PoolOk (growU (l.take i)).1 := grow_ok
 have hml : (growU (l.take i)).2.length ≤ 25 := by
  have := grow_len (l := l.take i) (s := ([], []))
  rw [List.length_take] at this
  unfold growU
  simp at this; omega
 (conv => whnf)
 refine dec (fun h4 => ?_) (fun h4 => ?_)
 ·have hlt : i < l.length := by omega
  have hsu := growU_succ hlt
  generalize growU (l.take i) = s at *
  obtain ⟨M, made⟩ := s
  dsimp only at hM hml hsu
  obtain ⟨hdo, hpa, htx⟩ := hl.2 _ (List.getElem_mem hlt)
  generalize hd : l[i] = n at *
  have hld : l[i]? = some n := by rw [List.getElem?_eq_getElem hlt, hd]
  have hD : PoolOk (docsU M n.docs).1 := docs_ok hM
  have hfl : (docsU M n.docs).2.length ≤ 40 := by
   have := docs_len (l := n.docs) (s := (M, []))
   have := hdo.1
   unfold docsU
   simp at *; omega
  have hfp : ∀ f ∈ inOrdP (docsU M n.docs).2, f.path.length ≤ 4000000 := fun f hf => by
   obtain ⟨d, hd, e⟩ := docs_path f ((inOrd_perm _).mem_iff.1 hf)
   rw [e]; have := (hdo.2 d hd).1; omega
  (conv => whnf)
  refine ⟨i, n, rfl, hld, ?_⟩
  (conv => whnf)
  refine cl [] [0, 1, 2, 3] (docFiles_spec M hM n.docs hdo) ?_
  have hgs : ∀ D B P, docsU M n.docs = D → buildP D.1 (inOrdP D.2) = B → putP B.2.2 (comO B.1 (upsP made n.parents) n.text) = P → growU (l.take (i + 1)) = (P.2.2, if P.2.1 = 0 ∧ B.2.1 = 0 ∧ P.1 ∉ made then made ++ [P.1] else made) := fun D B P e1 e2 e3 => by
   rw [hsu]; subst e1 e2 e3; rfl
  generalize docsU M n.docs = D at *
  have hgs := hgs D
  (conv => whnf)
  refine cl [] [0, 5] (flatBuild_spec D.1 (inOrdP D.2) hD hfp) ?_
  (conv => whnf)
  refine cl [] [2, 6] (treeOfTop_spec D.1 (inOrdP D.2) hD hfp) ?_
  have hB := (buildP_ok hD (inOrdP D.2)).1
  generalize buildP D.1 (inOrdP D.2) = B at *
  have hgs := hgs B
  have hBL := hB.len
  (conv => whnf)
  refine lp Nat (fun k => ⟨[(0, .c (.bs 3 Sn encSn l)), (6, .c (.ptr 0 0)), (7, .c (.ptr 2 0)), (8, .c (.bool true)), (9, .c (.rw 4)), (10, .c (.int .i64 i)), (12, .c (.int .i64 B.1)), (13, .c (.int .i64 B.2.1)), (14, .c (.int .i64 B.1)), (15, .c (.int .i64 B.2.1)), (16, .c (.rw 5)), (17, .c (.int .i64 k))],
   [.box [.rw 1], .row 6 Ob encOb B.2.2, .box [.rw 3], .row 6 Ob encOb B.2.2, .row 1 Int encI made, .row 1 Int encI ((n.parents.take k).foldl (upStep made) [])]⟩) (fun k => k ≤ n.parents.length ∧ (made.length = 0 → k = 0)) (fun k => n.parents.length - k) 0 [] [.same 0, .same 8, .same 2, .same 9, .same 4, .new] ?_ ?_ (fun k hk => ?_)
  ·simp
  ·repeat' first | exact trivial | exact rfl | refine And.intro ?_ ?_
  obtain ⟨hk, hk0⟩ := hk
  have hul : ((n.parents.take k).foldl (upStep made) []).length ≤ 10 := by
   have := ups_len (made := made) (l := n.parents.take k) (up := [])
   rw [List.length_take] at this
   simp at this; omega
  (conv => whnf)
  refine ⟨i, n, rfl, hld, ?_⟩
  (conv => whnf)
  refine dec (fun h5 => ?_) (fun h5 => ?_)
  ·have hkt : k < n.parents.length := by have h5 : (k : Int) < n.parents.length := h5; omega
   (conv => whnf)
   refine dec (fun h6 => ?_) (fun h6 => ?_)
   ·have hm0 : made.length ≠ 0 := by have h6 : (0 : Int) < made.length := h6; omega
    have hus : (n.parents.take (k + 1)).foldl (upStep made) [] = if pick made n.parents[k] ∈ (n.parents.take k).foldl (upStep made) [] then (n.parents.take k).foldl (upStep made) [] else (n.parents.take k).foldl (upStep made) [] ++ [pick made n.parents[k]] := ups_succ (made := made) hkt
    obtain ⟨r1, r2⟩ := round_at (k := n.parents[k]) (n := made.length) hm0 (by omega)
    have hpk : made[(n.parents[k] % 18446744073709551616 % made.length).toNat]? = some (pick made n.parents[k]) := by
     unfold pick; rw [List.getElem?_eq_getElem r2]; rfl
    (conv => whnf)
    refine ⟨i, n, rfl, hld, ?_⟩
    (conv => whnf)
    refine ⟨k, n.parents[k], rfl, List.getElem?_eq_getElem hkt, ?_⟩
    (conv => whnf)
    refine ⟨wrapU_ne hm0 (by omega), ?_⟩
    (conv => whnf)
    refine ⟨_, ⟨r1, r2⟩, ?_⟩
    (conv => whnf)
    refine ⟨_, hpk, ?_⟩
    generalize pick made n.parents[k] = id at *
    generalize hup : (n.parents.take k).foldl (upStep made) [] = up at *
    (conv => whnf)
    refine cl [] [] (in_spec up id) ?_
    (conv => whnf)
    refine decN (fun h7 => ?_) (fun h7 => ?_)
    ·rw [if_neg h7] at hus
     (conv => whnf)
     refine ⟨[id], rfl, ?_⟩
     (conv => whnf)
     refine ⟨_, _, rfl, rfl, (by simp only [List.length_append, List.length_cons, List.length_nil]; omega), ?_⟩
     repeat' ((conv => whnf); refine I6 ?_)
     refine ag (k + 1) [] [.same 0, .same 1, .same 2, .same 3, .same 4, .same 7] ⟨hkt, fun h => absurd h hm0⟩ (by simp only []; omega) ?_
     rw [hus]
     repeat' first | exact trivial | exact rfl | refine And.intro ?_ ?_
    ·rw [if_pos h7] at hus
     repeat' ((conv => whnf); refine I6 ?_)
     refine ag (k + 1) [] [.same 0, .same 1, .same 2, .same 3, .same 4, .same 5] ⟨hkt, fun h => absurd h hm0⟩ (by simp only []; omega) ?_
     rw [hus]
     repeat' first | exact trivial | exact rfl | refine And.intro ?_ ?_
   ·have hm0 : made.length = 0 := by have h6 : ¬ (0 : Int) < made.length := h6; omega
    have hup : (n.parents.take k).foldl (upStep made) [] = upsP made n.parents := by rw [hk0 hm0]; unfold upsP; rw [if_pos hm0]; rfl
    rw [hup]
    rw [hup] at hul
    generalize upsP made n.parents = up at *
    (conv => whnf)
    refine ⟨i, n, rfl, hld, ?_⟩
    (conv => whnf)
    refine cl [] [0, 1] (put_spec B.2.2 (comO B.1 up n.text) hBL) ?_
    (conv => whnf)
    refine cl [] [2, 3] (putR_spec B.2.2 (comO B.1 up n.text) hBL) ?_
    have hgs := hgs _ rfl rfl rfl
    generalize putP B.2.2 (comO B.1 up n.text) = P at *
    (conv => whnf)
    refine dec (fun _ => ?_) (fun h => absurd rfl h)
    (conv => whnf)
    refine dec (fun _ => ?_) (fun h => absurd rfl h)
    (conv => whnf)
    refine dec (fun _ => ?_) (fun h => absurd rfl h)
    (conv => whnf)
    refine dec (fun q1 => ?_) (fun q1 => ?_)
    ·(conv => whnf)
     refine dec (fun q2 => ?_) (fun q2 => ?_)
     ·(conv => whnf)
      refine cl [] [] (in_spec made P.1) ?_
      (conv => whnf)
      refine decN (fun q3 => ?_) (fun q3 => ?_)
      ·rw [if_pos ⟨q1, q2, q3⟩] at hgs
       (conv => whnf)
       refine ⟨[P.1], rfl, ?_⟩
       (conv => whnf)
       refine ⟨_, _, rfl, rfl, (by simp only [List.length_append, List.length_cons, List.length_nil]; omega), ?_⟩
       repeat' ((conv => whnf); refine I6 ?_)
       refine ag (i + 1) [] [.same 0, .same 7, .same 2, .same 8, .same 10] ⟨hlt, trivial⟩ (by simp only []; omega) ?_
       rw [hgs]
       repeat' first | exact trivial | exact rfl | refine And.intro ?_ ?_
       exact congrArg C.bool (decide_eq_true rfl)
      ·rw [if_neg (fun h => h.2.2 q3)] at hgs
       repeat' ((conv => whnf); refine I6 ?_)
       refine ag (i + 1) [] [.same 0, .same 7, .same 2, .same 8, .same 4] ⟨hlt, trivial⟩ (by simp only []; omega) ?_
       rw [hgs]
       repeat' first | exact trivial | exact rfl | refine And.intro ?_ ?_
       exact congrArg C.bool (decide_eq_true rfl)
     ·rw [if_neg (fun h => q2 h.2.1)] at hgs
      repeat' ((conv => whnf); refine I6 ?_)
      refine ag (i + 1) [] [.same 0, .same 7, .same 2, .same 8, .same 4] ⟨hlt, trivial⟩ (by simp only []; omega) ?_
      rw [hgs]
      repeat' first | exact trivial | exact rfl | refine And.intro ?_ ?_
      exact congrArg C.bool (decide_eq_true rfl)
    ·rw [if_neg (fun h => q1 h.1)] at hgs
     repeat' ((conv => whnf); refine I6 ?_)
     refine ag (i + 1) [] [.same 0, .same 7, .same 2, .same 8, .same 4] ⟨hlt, trivial⟩ (by simp only []; omega) ?_
     rw [hgs]
     repeat' first | exact trivial | exact rfl | refine And.intro ?_ ?_
     exact congrArg C.bool (decide_eq_true rfl)
  ·have hup : (n.parents.take k).foldl (upStep made) [] = upsP made n.parents := by
    have h5 : ¬ (k : Int) < n.parents.length := h5
    unfold upsP
    split
    ·rename_i hm0; rw [hk0 hm0]; rfl
    ·rw [List.take_of_length_le (by omega)]
   rw [hup]
   rw [hup] at hul
   generalize upsP made n.parents = up at *
   (conv => whnf)
   refine ⟨i, n, rfl, hld, ?_⟩
   (conv => whnf)
   refine cl [] [0, 1] (put_spec B.2.2 (comO B.1 up n.text) hBL) ?_
   (conv => whnf)
   refine cl [] [2, 3] (putR_spec B.2.2 (comO B.1 up n.text) hBL) ?_
   have hgs := hgs _ rfl rfl rfl
   generalize putP B.2.2 (comO B.1 up n.text) = P at *
   (conv => whnf)
   refine dec (fun _ => ?_) (fun h => absurd rfl h)
   (conv => whnf)
   refine dec (fun _ => ?_) (fun h => absurd rfl h)
   (conv => whnf)
   refine dec (fun _ => ?_) (fun h => absurd rfl h)
   (conv => whnf)
   refine dec (fun q1 => ?_) (fun q1 => ?_)
   ·(conv => whnf)
    refine dec (fun q2 => ?_) (fun q2 => ?_)
    ·(conv => whnf)
     refine cl [] [] (in_spec made P.1) ?_
     (conv => whnf)
     refine decN (fun q3 => ?_) (fun q3 => ?_)
     ·rw [if_pos ⟨q1, q2, q3⟩] at hgs
      (conv => whnf)
      refine ⟨[P.1], rfl, ?_⟩
      (conv => whnf)
      refine ⟨_, _, rfl, rfl, (by simp only [List.length_append, List.length_cons, List.length_nil]; omega), ?_⟩
      repeat' ((conv => whnf); refine I6 ?_)
      refine ag (i + 1) [] [.same 0, .same 7, .same 2, .same 8, .same 10] ⟨hlt, trivial⟩ (by simp only []; omega) ?_
      rw [hgs]
      repeat' first | exact trivial | exact rfl | refine And.intro ?_ ?_
      exact congrArg C.bool (decide_eq_true rfl)
     ·rw [if_neg (fun h => h.2.2 q3)] at hgs
      repeat' ((conv => whnf); refine I6 ?_)
      refine ag (i + 1) [] [.same 0, .same 7, .same 2, .same 8, .same 4] ⟨hlt, trivial⟩ (by simp only []; omega) ?_
      rw [hgs]
      repeat' first | exact trivial | exact rfl | refine And.intro ?_ ?_
      exact congrArg C.bool (decide_eq_true rfl)
    ·rw [if_neg (fun h => q2 h.2.1)] at hgs
     repeat' ((conv => whnf); refine I6 ?_)
     refine ag (i + 1) [] [.same 0, .same 7, .same 2, .same 8, .same 4] ⟨hlt, trivial⟩ (by simp only []; omega) ?_
     rw [hgs]
     repeat' first | exact trivial | exact rfl | refine And.intro ?_ ?_
     exact congrArg C.bool (decide_eq_true rfl)
   ·rw [if_neg (fun h => q1 h.1)] at hgs
    repeat' ((conv => whnf); refine I6 ?_)
    refine ag (i + 1) [] [.same 0, .same 7, .same 2, .same 8, .same 4] ⟨hlt, trivial⟩ (by simp only []; omega) ?_
    rw [hgs]
    repeat' first | exact trivial | exact rfl | refine And.intro ?_ ?_
    exact congrArg C.bool (decide_eq_true rfl)
 ·have e : l.take i = l := List.take_of_length_le (by omega)
  rw [e]
  (conv => whnf)
  exact rx [] [.same 0, .same 1, .same 2, .same 3, .same 4]
end Go.Nest
end
/- part -/
section

namespace Go.Nest
open Go Go.AM
structure Kept (L : List Ob) (t : Int) (fs : List Fi) : Prop where
 tree : TreeOf true L t fs
 ok : filesF fs = 0
theorem Kept.mono {L M : List Ob} {t : Int} {fs : List Fi} (h : Kept L t fs) (hx : L <+: M) : Kept M t fs := ⟨h.tree.mono hx, h.ok⟩
theorem Kept.files {L : List Ob} {t : Int} {fs : List Fi} (h : Kept L t fs) (hp : PoolOk L) : filesP L t = (fs, 0) :=
 tree_files hp h.tree (filesF_all h.ok).1 fun f hf => (split_zero ((filesF_all h.ok).2 f hf).1).2.1
theorem Kept.build {L : List Ob} {t : Int} {fs : List Fi} (h : Kept L t fs) (hp : PoolOk L) : buildP L fs = (t, 0, L) := by
 unfold buildP
 rw [if_neg (by simpa using h.ok)]
 exact (tree_again hp h.tree (Nat.lt_succ_self _)).2 rfl
theorem Kept.of {L : List Ob} {fs : List Fi} (hp : PoolOk L) (h : (buildP L fs).2.1 = 0) : Kept (buildP L fs).2.2 (buildP L fs).1 fs := ⟨(buildP_tree hp h).2, (buildP_tree hp h).1⟩
end Go.Nest
end
