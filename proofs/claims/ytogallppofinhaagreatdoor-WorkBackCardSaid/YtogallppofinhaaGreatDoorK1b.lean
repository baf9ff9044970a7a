/- WALKS, R2: the tree of files, by the document. -/
import Derived.Test.YtogallppofinhaaGreatDoorR1
import Derived.Test.YtogallppofinhaaGreatDoorP10
import Derived.Test.YtogallppofinhaaGreatDoorK1
import Derived.Test.YtogallppofinhaaGreatDoorW1
import Derived.Test.YtogallppofinhaaGreatDoorG6
import Derived.Test.YtogallppofinhaaGreatDoorF7
section
namespace Go.Nest
open Go Go.AM Go.Proofs
open Go.Proofs.YtogallppofinhaaGreatDoor (tab tabOk)
set_option linter.unusedVariables false
set_option linter.unusedSimpArgs false
set_option maxRecDepth 4000

theorem goT_ok : ∀ (n : Nat) (L : List Ob) (acc : List Ent) (l : List Fi), PoolOk L → PoolOk (goT n L acc l).2.2
  | 0, L, _, _, h => h
  | n + 1, L, acc, [], h => putP_ok h _
  | n + 1, L, acc, f :: r, h => by
    unfold goT
    split
    · exact goT_ok n L _ r h
    split
    · exact goT_ok n L _ r h
    split
    · exact goT_ok n L [] _ h
    · exact goT_ok n _ _ r (goT_ok n L [] _ h)
theorem mu_behind (d : List UInt8) : ∀ l : List Fi, mu (behindF d l) + (behindF d l).length ≤ mu l
  | [] => by simp [behindF, mu]
  | f :: l => by
    have ih := mu_behind d l
    rw [mu_cons]
    unfold behindF at ih ⊢
    rw [List.filterMap_cons]
    unfold stripF at ih ⊢
    cases hu : under f.path d with
    | none => simp only [Option.map_none]; exact Nat.le_trans ih (by omega)
    | some p =>
      have := under_eq hu
      simp only [Option.map_some]
      rw [mu_cons, List.length_cons]
      have : f.path.length = d.length + 1 + p.length := by rw [this]; simp; omega
      simp only
      omega
theorem behind_take {d : List UInt8} {l : List Fi} {k : Nat} (h : k < l.length) : behindF d (l.take (k + 1)) = behindF d (l.take k) ++ match under l[k].path d with
    | some p => [⟨p, l[k].mode, l[k].id, l[k].repo⟩]
    | none => [] := by
  rw [List.take_succ_eq_append_getElem h, behind_app]
  congr 1
  unfold behindF
  rw [List.filterMap_cons, List.filterMap_nil]
  unfold stripF
  cases under l[k].path d <;> rfl
theorem lastN_at {es : List Ent} {n : Nat} (h : es.length = n + 1) : lastN es = some (es[n]'(by omega)).name := by
  unfold lastN
  have e : es.length - 1 = n := by omega
  rw [List.getLast?_eq_getElem?, e, List.getElem?_eq_getElem (by omega)]; rfl

set_option maxHeartbeats 8000000 in
theorem treeOf_spec : ∀ (n : Nat) (L : List Ob) (l : List Fi), mu l < n → PoolOk L → l.length ≤ 60 → (∀ f ∈ l, f.path.length ≤ 4000000) → Does Tryz.prog 164 [.c (.ptr 0 0), .c (.bs 4 Fi encFi l)] [.box [.rw 1], .row 6 Ob encOb L] (Rt (.tup [(false, [.int .i64 (goT n L [] l).1]), (false, [.int .i64 (goT n L [] l).2.1])]) [.box [.rw 2], .dead, .row 6 Ob encOb (goT n L [] l).2.2]) := by
  intro n
  induction n using Nat.strongRecOn with
  | _ n ih =>
  intro L l hn hL hl hp
  refine X_spec (n := 129) (n0 := 2) tabOk Tryz.call164 Tryz.func164 ?_
  intro hb
  (conv => whnf)
  refine lp (Nat × Nat × List Ob × List Ent) (fun x => ⟨[(0, .c (.ptr 0 0)), (1, .c (.bs 4 Fi encFi l)), (6, .c (.ptr 3 0)), (7, .c (.int .i64 x.2.1))], [.box [.rw 2], .dead, .row 6 Ob encOb x.2.2.1, .box [.int .i64 2, .nil, .rw 4, .int .i64 0, .nil, .str []], .row 4 Ent encEn x.2.2.2]⟩)
    (fun x => (x.2.1 ≤ l.length ∧ x.1 ≤ n ∧ mu (l.drop x.2.1) < x.1 ∧ x.2.2.2.length ≤ x.2.1) ∧ PoolOk x.2.2.1 ∧ goT n L [] l = goT x.1 x.2.2.1 x.2.2.2 (l.drop x.2.1)) (fun x => l.length - x.2.1) (n, 0, L, []) [] [.same 0, .same 1, .same 1, .same 2, .new] ?_ ?_ (fun x hx => ?_)
  · exact ⟨⟨Nat.zero_le _, Nat.le_refl _, hn, by simp⟩, hL, rfl⟩
  · repeat' first | exact trivial | exact rfl | refine And.intro ?_ ?_
  obtain ⟨k, i, M, es⟩ := x
  obtain ⟨⟨h1, h2, h3, h4⟩, h5, h6⟩ := hx
  dsimp only at h1 h2 h3 h4 h5 h6
  have hML := h5.len
  obtain ⟨k, rfl⟩ : ∃ m, k = m + 1 := ⟨k - 1, by omega⟩
  (conv => whnf)
  refine dec (fun hlt => ?_) (fun hlt => ?_)
  · have hlt : i < l.length := by simpa using hlt
    have hf := hp _ (List.getElem_mem hlt)
    have hsp := spl_pos l[i].path
    rw [List.drop_eq_getElem_cons hlt, mu_cons] at h3
    rw [List.drop_eq_getElem_cons hlt] at h6
    (conv => whnf)
    refine ⟨i, l[i], rfl, List.getElem?_eq_getElem hlt, ?_⟩
    (conv => whnf)
    refine cl [] [] (parts_spec l[i].path hf) ?_
    (conv => whnf)
    refine dec (fun hc => ?_) (fun hc => ?_)
    · have hc : l[i].path.count 47 = 0 := by rw [spl_len] at hc; omega
      have e : goT (k + 1) M es (l[i] :: l.drop (i + 1)) = goT k M (es ++ [⟨fstN l[i].path, l[i].mode, l[i].id, l[i].repo⟩]) (l.drop (i + 1)) := by rw [goT, if_pos hc]
      rw [e] at h6
      (conv => whnf)
      refine ⟨false, .grow, (.l [0, 1, 2, 3, 4, 5, 6, 7, 8, 9, 10, 11, 12, 13, 14, 15, 16, 17, 18, 19, 20, 21, 22, 23, 24]), by kernel_rfl, .inl ?_⟩
      (conv => whnf)
      refine ⟨0, ⟨rfl, hsp⟩, ?_⟩
      (conv => whnf)
      refine ⟨fstN l[i].path, List.getElem?_eq_getElem hsp, ?_⟩
      (conv => whnf)
      refine ⟨i, l[i], rfl, List.getElem?_eq_getElem hlt, ?_⟩
      (conv => whnf)
      refine ⟨i, l[i], rfl, List.getElem?_eq_getElem hlt, ?_⟩
      (conv => whnf)
      refine ⟨i, l[i], rfl, List.getElem?_eq_getElem hlt, ?_⟩
      (conv => whnf)
      refine ⟨[⟨fstN l[i].path, l[i].mode, l[i].id, l[i].repo⟩], rfl, ?_⟩
      (conv => whnf)
      refine ⟨_, _, rfl, rfl, (by simp only [List.length_append, List.length_cons, List.length_nil]; omega), ?_⟩
      repeat' ((conv => whnf); first | (refine dec (fun h => ?_) (fun h => ?_) <;> try contradiction) | (refine decN (fun h => ?_) (fun h => ?_) <;> try contradiction) | refine booN (fun h => ?_) (fun h => ?_) | refine boo (fun h => ?_) (fun h => ?_) | refine ⟨i64 (by omega) (by omega), ?_⟩ | refine ⟨_, _, rfl, List.getElem?_eq_getElem (by omega), ?_⟩ | refine ⟨_, ⟨rfl, by omega⟩, ?_⟩ | refine ⟨_, List.getElem?_eq_getElem (by omega), ?_⟩ | refine rtB ?_ | refine rtI ?_ | refine rtC ?_ rfl | fail)
      refine ag (k, i + 1, M, es ++ [⟨fstN l[i].path, l[i].mode, l[i].id, l[i].repo⟩]) [] [.same 0, .same 1, .same 2, .same 3, .same 7] ⟨⟨hlt, by simp only []; omega, by simp only []; omega, by simp only [List.length_append, List.length_cons, List.length_nil]; omega⟩, h5, h6⟩ (by simp only []; omega) ?_
      repeat' first | exact trivial | exact rfl | refine And.intro ?_ ?_
    · have hc : ¬ l[i].path.count 47 = 0 := by rw [spl_len] at hc; omega
      (conv => whnf)
      refine ⟨false, .grow, (.l [0, 1, 2, 3, 4, 5, 6, 7, 8, 9, 10, 11, 12, 13, 14]), by kernel_rfl, .inl ?_⟩
      (conv => whnf)
      refine dec (fun hn0 => ?_) (fun hn0 => ?_)
      · obtain ⟨m0, hm0⟩ : ∃ m0, es.length = m0 + 1 := ⟨es.length - 1, by have hn0 : 0 < (es.length : Int) := hn0; omega⟩
        have hla := lastN_at hm0
        have hm1 : m0 < es.length := by omega
        (conv => whnf)
        refine ⟨i64 (show (-9223372036854775808 : Int) ≤ (es.length : Int) - 1 by omega) (show (es.length : Int) - 1 ≤ 9223372036854775807 by omega), ?_⟩
        (conv => whnf)
        refine ⟨m0, ⟨(show (es.length : Int) - 1 = m0 by omega), (show m0 < es.length by omega)⟩, ?_⟩
        (conv => whnf)
        refine ⟨es[m0], List.getElem?_eq_getElem hm1, ?_⟩
        (conv => whnf)
        refine ⟨0, ⟨rfl, hsp⟩, ?_⟩
        (conv => whnf)
        refine ⟨fstN l[i].path, List.getElem?_eq_getElem hsp, ?_⟩
        (conv => whnf)
        refine dec (fun he => ?_) (fun he => ?_)
        · have e : goT (k + 1) M es (l[i] :: l.drop (i + 1)) = goT k M es (l.drop (i + 1)) := by rw [goT, if_neg hc, if_pos (by rw [hla, he])]
          rw [e] at h6
          repeat' ((conv => whnf); first | (refine dec (fun h => ?_) (fun h => ?_) <;> try contradiction) | (refine decN (fun h => ?_) (fun h => ?_) <;> try contradiction) | refine booN (fun h => ?_) (fun h => ?_) | refine boo (fun h => ?_) (fun h => ?_) | refine ⟨i64 (by omega) (by omega), ?_⟩ | refine ⟨_, _, rfl, List.getElem?_eq_getElem (by omega), ?_⟩ | refine ⟨_, ⟨rfl, by omega⟩, ?_⟩ | refine ⟨_, List.getElem?_eq_getElem (by omega), ?_⟩ | refine rtB ?_ | refine rtI ?_ | refine rtC ?_ rfl | fail)
          refine ag (k, i + 1, M, es) [] [.same 0, .same 1, .same 2, .same 3, .same 4] ⟨⟨hlt, by simp only []; omega, by simp only []; omega, by simp only []; omega⟩, h5, h6⟩ (by simp only []; omega) ?_
          repeat' first | exact trivial | exact rfl | refine And.intro ?_ ?_
        · have hne : lastN es ≠ some (fstN l[i].path) := by rw [hla]; intro h; exact he (Option.some.inj h)
          obtain ⟨a, b, _, hab, ha⟩ := cut_some hc
          have hfa : fstN l[i].path = a := by rw [hab]; exact fstN_dir ha
          have hal : a.length ≤ 4000000 := by rw [hab] at hf; simp at hf; omega
          have e : goT (k + 1) M es (l[i] :: l.drop (i + 1)) = if (goT k M [] (behindF a (l.drop i))).2.1 ≠ 0 then (0, (goT k M [] (behindF a (l.drop i))).2.1, (goT k M [] (behindF a (l.drop i))).2.2) else goT k (goT k M [] (behindF a (l.drop i))).2.2 (es ++ [⟨a, 2, (goT k M [] (behindF a (l.drop i))).1, 0⟩]) (l.drop (i + 1)) := by
            rw [goT, if_neg hc, if_neg hne, hfa, ← List.drop_eq_getElem_cons hlt]
          rw [e] at h6
          have hmb := mu_behind a (l.drop i)
          have hmd : mu (l.drop i) = l[i].path.length + 1 + mu (l.drop (i + 1)) := by rw [List.drop_eq_getElem_cons hlt, mu_cons]
          have hb1 : 0 < (behindF a (l.drop i)).length := by
            rw [List.drop_eq_getElem_cons hlt]
            unfold behindF stripF
            rw [List.filterMap_cons, hab, under_of]
            simp
          have hbl : (behindF a (l.drop i)).length ≤ 60 := Nat.le_trans behind_len (by rw [List.length_drop]; omega)
          have hbp : ∀ g ∈ behindF a (l.drop i), g.path.length ≤ 4000000 := fun g hg => by
            obtain ⟨f2, hf2, e2⟩ := behind_mem hg
            have := hp f2 (List.mem_of_mem_drop hf2)
            rw [e2] at this
            simp at this
            omega
          have hokM := goT_ok k M [] (behindF a (l.drop i)) h5
          (conv => whnf)
          refine lp Nat (fun d => ⟨[(0, .c (.ptr 0 0)), (1, .c (.bs 4 Fi encFi l)), (6, .c (.ptr 3 0)), (7, .c (.int .i64 i)), (8, .c (.rw 5)), (10, .c (.rw 6)), (11, .c (.int .i64 ((i : Int) + d)))], [.box [.rw 2], .dead, .row 6 Ob encOb M, .box [.int .i64 2, .nil, .rw 4, .int .i64 0, .nil, .str []], .row 4 Ent encEn es, .row 1 (List UInt8) encS (spl l[i].path), .row 4 Fi encFi (behindF a ((l.drop i).take d))]⟩)
            (fun d => d ≤ l.length - i ∧ True) (fun d => l.length - i - d) 0 [] [.same 0, .same 1, .same 2, .same 3, .same 4, .same 5, .new] ?_ ?_ (fun d hd => ?_)
          · simp
          · repeat' first | exact trivial | exact rfl | refine And.intro ?_ ?_
          have hdl : (behindF a ((l.drop i).take d)).length ≤ 60 := Nat.le_trans behind_len (by rw [List.length_take, List.length_drop]; omega)
          (conv => whnf)
          refine dec (fun h7 => ?_) (fun h7 => ?_)
          · have hdt : d < (l.drop i).length := by rw [List.length_drop]; omega
            have hge : (l.drop i)[d] = l[i + d] := List.getElem_drop ..
            have hst := behind_take (d := a) hdt
            rw [hge] at hst
            (conv => whnf)
            refine ⟨false, .grow, (.l [0, 1, 2, 3, 4, 5, 6, 7, 8, 9, 10, 11, 12, 13]), by kernel_rfl, .inl ?_⟩
            (conv => whnf)
            refine ⟨i + d, l[i + d], by simp, List.getElem?_eq_getElem (by omega), ?_⟩
            (conv => whnf)
            refine ⟨0, ⟨rfl, hsp⟩, ?_⟩
            (conv => whnf)
            refine ⟨a, by rw [List.getElem?_eq_getElem hsp]; exact congrArg some hfa, ?_⟩
            (conv => whnf)
            refine cl [] [] (behind_spec l[i + d].path a hal) ?_
            cases hu : under l[i + d].path a with
            | none =>
              rw [hu] at hst
              simp only [List.append_nil] at hst
              rw [show underP l[i + d].path a = (l[i + d].path, false) by unfold underP; rw [hu]]
              repeat' ((conv => whnf); first | (refine dec (fun h => ?_) (fun h => ?_) <;> try contradiction) | (refine decN (fun h => ?_) (fun h => ?_) <;> try contradiction) | refine booN (fun h => ?_) (fun h => ?_) | refine boo (fun h => ?_) (fun h => ?_) | refine ⟨i64 (by omega) (by omega), ?_⟩ | refine ⟨_, _, rfl, List.getElem?_eq_getElem (by omega), ?_⟩ | refine ⟨_, ⟨rfl, by omega⟩, ?_⟩ | refine ⟨_, List.getElem?_eq_getElem (by omega), ?_⟩ | refine rtB ?_ | refine rtI ?_ | refine rtC ?_ rfl | fail)
              refine ag (d + 1) [] [.same 0, .same 1, .same 2, .same 3, .same 4, .same 5, .same 6] ⟨by omega, trivial⟩ (by simp only []; omega) ?_
              rw [hst]
              repeat' first | exact trivial | exact rfl | refine And.intro ?_ ?_
            | some p =>
              rw [hu] at hst
              simp only [] at hst
              rw [show underP l[i + d].path a = (p, true) by unfold underP; rw [hu]]
              (conv => whnf)
              refine ⟨i + d, l[i + d], by simp, List.getElem?_eq_getElem (by omega), ?_⟩
              (conv => whnf)
              refine ⟨[⟨p, l[i + d].mode, l[i + d].id, l[i + d].repo⟩], rfl, ?_⟩
              (conv => whnf)
              refine ⟨_, _, rfl, rfl, (by simp only [List.length_append, List.length_cons, List.length_nil]; omega), ?_⟩
              repeat' ((conv => whnf); first | (refine dec (fun h => ?_) (fun h => ?_) <;> try contradiction) | (refine decN (fun h => ?_) (fun h => ?_) <;> try contradiction) | refine booN (fun h => ?_) (fun h => ?_) | refine boo (fun h => ?_) (fun h => ?_) | refine ⟨i64 (by omega) (by omega), ?_⟩ | refine ⟨_, _, rfl, List.getElem?_eq_getElem (by omega), ?_⟩ | refine ⟨_, ⟨rfl, by omega⟩, ?_⟩ | refine ⟨_, List.getElem?_eq_getElem (by omega), ?_⟩ | refine rtB ?_ | refine rtI ?_ | refine rtC ?_ rfl | fail)
              refine ag (d + 1) [] [.same 0, .same 1, .same 2, .same 3, .same 4, .same 5, .same 9] ⟨by omega, trivial⟩ (by simp only []; omega) ?_
              rw [hst]
              repeat' first | exact trivial | exact rfl | refine And.intro ?_ ?_
          · have htk : (l.drop i).take d = l.drop i := List.take_of_length_le (by rw [List.length_drop]; omega)
            rw [htk]
            (conv => whnf)
            refine cl [6] [0, 2] (ih k (by omega) M (behindF a (l.drop i)) (by omega) h5 hbl hbp) ?_
            generalize goT k M [] (behindF a (l.drop i)) = R at *
            (conv => whnf)
            refine decN (fun h8 => ?_) (fun h8 => ?_)
            · rw [if_pos h8] at h6
              rw [h6]
              (conv => whnf)
              exact rx [] [.same 0, .same 1, .same 7]
            · rw [if_neg (by simpa using h8)] at h6
              (conv => whnf)
              refine ⟨false, .grow, (.l [0, 1, 2, 3, 4, 5, 6, 7, 8, 9, 10]), by kernel_rfl, .inl ?_⟩
              (conv => whnf)
              refine ⟨0, ⟨rfl, hsp⟩, ?_⟩
              (conv => whnf)
              refine ⟨a, by rw [List.getElem?_eq_getElem hsp]; exact congrArg some hfa, ?_⟩
              (conv => whnf)
              refine ⟨[⟨a, 2, R.1, 0⟩], rfl, ?_⟩
              (conv => whnf)
              refine ⟨_, _, rfl, rfl, (by simp only [List.length_append, List.length_cons, List.length_nil]; omega), ?_⟩
              repeat' ((conv => whnf); first | (refine dec (fun h => ?_) (fun h => ?_) <;> try contradiction) | (refine decN (fun h => ?_) (fun h => ?_) <;> try contradiction) | refine booN (fun h => ?_) (fun h => ?_) | refine boo (fun h => ?_) (fun h => ?_) | refine ⟨i64 (by omega) (by omega), ?_⟩ | refine ⟨_, _, rfl, List.getElem?_eq_getElem (by omega), ?_⟩ | refine ⟨_, ⟨rfl, by omega⟩, ?_⟩ | refine ⟨_, List.getElem?_eq_getElem (by omega), ?_⟩ | refine rtB ?_ | refine rtI ?_ | refine rtC ?_ rfl | fail)
              refine ag (k, i + 1, R.2.2, es ++ [⟨a, 2, R.1, 0⟩]) [] [.same 0, .same 1, .same 7, .same 3, .same 9] ⟨⟨hlt, by simp only []; omega, by simp only []; omega, by simp only [List.length_append, List.length_cons, List.length_nil]; omega⟩, hokM, h6⟩ (by simp only []; omega) ?_
              repeat' first | exact trivial | exact rfl | refine And.intro ?_ ?_
      · have hne : lastN es ≠ some (fstN l[i].path) := by
          have : es = [] := by simpa using hn0
          rw [this]; intro h; cases h
        obtain ⟨a, b, _, hab, ha⟩ := cut_some hc
        have hfa : fstN l[i].path = a := by rw [hab]; exact fstN_dir ha
        have hal : a.length ≤ 4000000 := by rw [hab] at hf; simp at hf; omega
        have e : goT (k + 1) M es (l[i] :: l.drop (i + 1)) = if (goT k M [] (behindF a (l.drop i))).2.1 ≠ 0 then (0, (goT k M [] (behindF a (l.drop i))).2.1, (goT k M [] (behindF a (l.drop i))).2.2) else goT k (goT k M [] (behindF a (l.drop i))).2.2 (es ++ [⟨a, 2, (goT k M [] (behindF a (l.drop i))).1, 0⟩]) (l.drop (i + 1)) := by
          rw [goT, if_neg hc, if_neg hne, hfa, ← List.drop_eq_getElem_cons hlt]
        rw [e] at h6
        have hmb := mu_behind a (l.drop i)
        have hmd : mu (l.drop i) = l[i].path.length + 1 + mu (l.drop (i + 1)) := by rw [List.drop_eq_getElem_cons hlt, mu_cons]
        have hb1 : 0 < (behindF a (l.drop i)).length := by
          rw [List.drop_eq_getElem_cons hlt]
          unfold behindF stripF
          rw [List.filterMap_cons, hab, under_of]
          simp
        have hbl : (behindF a (l.drop i)).length ≤ 60 := Nat.le_trans behind_len (by rw [List.length_drop]; omega)
        have hbp : ∀ g ∈ behindF a (l.drop i), g.path.length ≤ 4000000 := fun g hg => by
          obtain ⟨f2, hf2, e2⟩ := behind_mem hg
          have := hp f2 (List.mem_of_mem_drop hf2)
          rw [e2] at this
          simp at this
          omega
        have hokM := goT_ok k M [] (behindF a (l.drop i)) h5
        (conv => whnf)
        refine lp Nat (fun d => ⟨[(0, .c (.ptr 0 0)), (1, .c (.bs 4 Fi encFi l)), (6, .c (.ptr 3 0)), (7, .c (.int .i64 i)), (8, .c (.rw 5)), (10, .c (.rw 6)), (11, .c (.int .i64 ((i : Int) + d)))], [.box [.rw 2], .dead, .row 6 Ob encOb M, .box [.int .i64 2, .nil, .rw 4, .int .i64 0, .nil, .str []], .row 4 Ent encEn es, .row 1 (List UInt8) encS (spl l[i].path), .row 4 Fi encFi (behindF a ((l.drop i).take d))]⟩)
          (fun d => d ≤ l.length - i ∧ True) (fun d => l.length - i - d) 0 [] [.same 0, .same 1, .same 2, .same 3, .same 4, .same 5, .new] ?_ ?_ (fun d hd => ?_)
        · simp
        · repeat' first | exact trivial | exact rfl | refine And.intro ?_ ?_
        have hdl : (behindF a ((l.drop i).take d)).length ≤ 60 := Nat.le_trans behind_len (by rw [List.length_take, List.length_drop]; omega)
        (conv => whnf)
        refine dec (fun h7 => ?_) (fun h7 => ?_)
        · have hdt : d < (l.drop i).length := by rw [List.length_drop]; omega
          have hge : (l.drop i)[d] = l[i + d] := List.getElem_drop ..
          have hst := behind_take (d := a) hdt
          rw [hge] at hst
          (conv => whnf)
          refine ⟨false, .grow, (.l [0, 1, 2, 3, 4, 5, 6, 7, 8, 9, 10, 11, 12, 13]), by kernel_rfl, .inl ?_⟩
          (conv => whnf)
          refine ⟨i + d, l[i + d], by simp, List.getElem?_eq_getElem (by omega), ?_⟩
          (conv => whnf)
          refine ⟨0, ⟨rfl, hsp⟩, ?_⟩
          (conv => whnf)
          refine ⟨a, by rw [List.getElem?_eq_getElem hsp]; exact congrArg some hfa, ?_⟩
          (conv => whnf)
          refine cl [] [] (behind_spec l[i + d].path a hal) ?_
          cases hu : under l[i + d].path a with
          | none =>
            rw [hu] at hst
            simp only [List.append_nil] at hst
            rw [show underP l[i + d].path a = (l[i + d].path, false) by unfold underP; rw [hu]]
            repeat' ((conv => whnf); first | (refine dec (fun h => ?_) (fun h => ?_) <;> try contradiction) | (refine decN (fun h => ?_) (fun h => ?_) <;> try contradiction) | refine booN (fun h => ?_) (fun h => ?_) | refine boo (fun h => ?_) (fun h => ?_) | refine ⟨i64 (by omega) (by omega), ?_⟩ | refine ⟨_, _, rfl, List.getElem?_eq_getElem (by omega), ?_⟩ | refine ⟨_, ⟨rfl, by omega⟩, ?_⟩ | refine ⟨_, List.getElem?_eq_getElem (by omega), ?_⟩ | refine rtB ?_ | refine rtI ?_ | refine rtC ?_ rfl | fail)
            refine ag (d + 1) [] [.same 0, .same 1, .same 2, .same 3, .same 4, .same 5, .same 6] ⟨by omega, trivial⟩ (by simp only []; omega) ?_
            rw [hst]
            repeat' first | exact trivial | exact rfl | refine And.intro ?_ ?_
          | some p =>
            rw [hu] at hst
            simp only [] at hst
            rw [show underP l[i + d].path a = (p, true) by unfold underP; rw [hu]]
            (conv => whnf)
            refine ⟨i + d, l[i + d], by simp, List.getElem?_eq_getElem (by omega), ?_⟩
            (conv => whnf)
            refine ⟨[⟨p, l[i + d].mode, l[i + d].id, l[i + d].repo⟩], rfl, ?_⟩
            (conv => whnf)
            refine ⟨_, _, rfl, rfl, (by simp only [List.length_append, List.length_cons, List.length_nil]; omega), ?_⟩
            repeat' ((conv => whnf); first | (refine dec (fun h => ?_) (fun h => ?_) <;> try contradiction) | (refine decN (fun h => ?_) (fun h => ?_) <;> try contradiction) | refine booN (fun h => ?_) (fun h => ?_) | refine boo (fun h => ?_) (fun h => ?_) | refine ⟨i64 (by omega) (by omega), ?_⟩ | refine ⟨_, _, rfl, List.getElem?_eq_getElem (by omega), ?_⟩ | refine ⟨_, ⟨rfl, by omega⟩, ?_⟩ | refine ⟨_, List.getElem?_eq_getElem (by omega), ?_⟩ | refine rtB ?_ | refine rtI ?_ | refine rtC ?_ rfl | fail)
            refine ag (d + 1) [] [.same 0, .same 1, .same 2, .same 3, .same 4, .same 5, .same 9] ⟨by omega, trivial⟩ (by simp only []; omega) ?_
            rw [hst]
            repeat' first | exact trivial | exact rfl | refine And.intro ?_ ?_
        · have htk : (l.drop i).take d = l.drop i := List.take_of_length_le (by rw [List.length_drop]; omega)
          rw [htk]
          (conv => whnf)
          refine cl [6] [0, 2] (ih k (by omega) M (behindF a (l.drop i)) (by omega) h5 hbl hbp) ?_
          generalize goT k M [] (behindF a (l.drop i)) = R at *
          (conv => whnf)
          refine decN (fun h8 => ?_) (fun h8 => ?_)
          · rw [if_pos h8] at h6
            rw [h6]
            (conv => whnf)
            exact rx [] [.same 0, .same 1, .same 7]
          · rw [if_neg (by simpa using h8)] at h6
            (conv => whnf)
            refine ⟨false, .grow, (.l [0, 1, 2, 3, 4, 5, 6, 7, 8, 9, 10]), by kernel_rfl, .inl ?_⟩
            (conv => whnf)
            refine ⟨0, ⟨rfl, hsp⟩, ?_⟩
            (conv => whnf)
            refine ⟨a, by rw [List.getElem?_eq_getElem hsp]; exact congrArg some hfa, ?_⟩
            (conv => whnf)
            refine ⟨[⟨a, 2, R.1, 0⟩], rfl, ?_⟩
            (conv => whnf)
            refine ⟨_, _, rfl, rfl, (by simp only [List.length_append, List.length_cons, List.length_nil]; omega), ?_⟩
            repeat' ((conv => whnf); first | (refine dec (fun h => ?_) (fun h => ?_) <;> try contradiction) | (refine decN (fun h => ?_) (fun h => ?_) <;> try contradiction) | refine booN (fun h => ?_) (fun h => ?_) | refine boo (fun h => ?_) (fun h => ?_) | refine ⟨i64 (by omega) (by omega), ?_⟩ | refine ⟨_, _, rfl, List.getElem?_eq_getElem (by omega), ?_⟩ | refine ⟨_, ⟨rfl, by omega⟩, ?_⟩ | refine ⟨_, List.getElem?_eq_getElem (by omega), ?_⟩ | refine rtB ?_ | refine rtI ?_ | refine rtC ?_ rfl | fail)
            refine ag (k, i + 1, R.2.2, es ++ [⟨a, 2, R.1, 0⟩]) [] [.same 0, .same 1, .same 7, .same 3, .same 9] ⟨⟨hlt, by simp only []; omega, by simp only []; omega, by simp only [List.length_append, List.length_cons, List.length_nil]; omega⟩, hokM, h6⟩ (by simp only []; omega) ?_
            repeat' first | exact trivial | exact rfl | refine And.intro ?_ ?_
  · rw [List.drop_of_length_le (by simp at hlt; omega)] at h6
    rw [show goT (k + 1) M es [] = putP M (obT es) from rfl] at h6
    rw [h6]
    (conv => whnf)
    refine cl [4] [0, 2] (putR_spec M (obT es) hML) ?_
    (conv => whnf)
    exact rx [] [.same 0, .same 1, .same 5]
end Go.Nest
end
/- WALKS, R3: the files of a tree, by the document. -/
section
namespace Go.Nest
open Go Go.AM Go.Proofs
open Go.Proofs.YtogallppofinhaaGreatDoor (tab tabOk)
set_option linter.unusedVariables false
set_option linter.unusedSimpArgs false
set_option maxRecDepth 4000

def okF (r : Int × List Fi) : List Fi := if r.1 = 0 then r.2 else []


set_option maxHeartbeats 4000000 in
theorem filesIn_spec (L : List Ob) (hL : PoolOk L) : ∀ (n : Nat) (t : Int) (ins : List (List UInt8)) (out : List Fi), ins.length + n = 8 → (∀ s ∈ ins, s.length ≤ 20) → out.length ≤ 60 → Does Tryz.prog 162 [.c (.bp [.bs 6 Ob encOb L]), .c (.int .i64 t), .c (.bs 1 (List UInt8) encS ins), .c (.rw 0)] [.row 4 Fi encFi out]
    (Rt (.tup [(false, [.rw 1]), (false, [.int .i64 (goF L (n + 1) t ins out).1])]) [.dead, .row 4 Fi encFi (okF (goF L (n + 1) t ins out))]) := by
  intro n
  induction n using Nat.strongRecOn with
  | _ n ih =>
  intro t ins out hn hs hout
  refine X_spec (n := 93) (n0 := 1) tabOk Tryz.call162 Tryz.func162 ?_
  intro hb
  have hkk := getP_kind (l := L) (id := t)
  (conv => whnf)
  refine cl [] [] (kindR_spec L t) ?_
  (conv => whnf)
  refine decN (fun hk => ?_) (fun hk => ?_)
  · have e0 : goF L (n + 1) t ins out = (9, out) := by rw [goF, if_pos hk]
    rw [e0]
    (conv => whnf)
    exact rx [] [.same 0, .new]
  obtain ⟨hr1, hr2⟩ := tree_ok hL hk
  have hel := (hL.tree hk).2.2.1
  obtain ⟨hp1, hp2⟩ := kindOf_pos (l := L) (id := t) (by omega)
  have hge := getP_at hp1 hp2
  have e0 : goF L (n + 1) t ins out = if 8 ≤ ins.length ∧ 0 < (getP L t).entries.length then (3, out) else stepE (goF L n) ins (getP L t).entries out := by rw [goF, if_neg (by simpa using hk)]
  (conv => whnf)
  refine ⟨t.toNat, L[t.toNat], by omega, List.getElem?_eq_getElem hp2, ?_⟩
  rw [← hge]
  generalize getP L t = o at *
  (conv => whnf)
  refine lp (Nat × List Fi) (fun x => ⟨[(0, .c (.bp [.bs 6 Ob encOb L])), (2, .c (.bs 1 (List UInt8) encS ins)), (3, .c (.rw 1)), (10, .c (.ls 4 Ent encEn o.entries)), (11, .c (.int .i64 x.1))], [.dead, .row 4 Fi encFi x.2]⟩)
    (fun x => (x.1 ≤ o.entries.length ∧ x.2.length ≤ 60) ∧ (0 < x.1 → ins.length < 8) ∧ stepE (goF L n) ins o.entries out = stepE (goF L n) ins (o.entries.drop x.1) x.2) (fun x => o.entries.length - x.1) (0, out) [] [.same 0, .same 0] ?_ ?_ (fun x hx => ?_)
  · exact ⟨⟨Nat.zero_le _, hout⟩, (fun h => absurd h (by simp)), rfl⟩
  · repeat' first | exact trivial | exact rfl | refine And.intro ?_ ?_
  obtain ⟨i, q⟩ := x
  obtain ⟨⟨g1, g2⟩, g0, g3⟩ := hx
  dsimp only at g1 g2 g3 g0
  (conv => whnf)
  refine dec (fun h4 => ?_) (fun h4 => ?_)
  · have hlt : i < o.entries.length := by simpa using h4
    have hE := hr2 _ (List.getElem_mem hlt)
    rw [List.drop_eq_getElem_cons hlt] at g3
    (conv => whnf)
    refine dec (fun h8 => ?_) (fun h8 => ?_)
    · rw [if_pos (by omega)] at e0
      rw [e0]
      (conv => whnf)
      exact rx [] [.same 0, .new]
    rw [if_neg (by omega)] at e0
    rw [e0]
    have hsz : (ins ++ [o.entries[i].name]).length ≤ 8 := by rw [List.length_append, List.length_singleton]; omega
    have hnm : ∀ s ∈ ins ++ [o.entries[i].name], s.length ≤ 20 := fun s h => by
      rcases List.mem_append.1 h with h | h
      · exact hs s h
      · rw [List.mem_singleton] at h; rw [h]; exact name_len hE.name
    (conv => whnf)
    refine ⟨false, .grow, (.alt [0, 1, 3, 4, 5, 6, 7] [2, 8] fun j => bif Nat.beq j 2 then (.l [8, 9, 10]) else bif Nat.beq j 8 then (.l [2, 9, 10]) else .l []), by kernel_rfl, .inr ⟨Unit, fun _ => ⟨[(0, .c (.bp [.bs 6 Ob encOb L])), (2, .c (.bs 1 (List UInt8) encS ins)), (3, .c (.rw 1)), (10, .c (.ls 4 Ent encEn o.entries)), (11, .c (.int .i64 i)), (12, .c (.rw 2))], [.dead, .row 4 Fi encFi q, .row 1 (List UInt8) encS (ins ++ [o.entries[i].name])]⟩, fun _ => True, ?_, ?_⟩⟩
    · (conv => whnf)
      refine ⟨i, o.entries[i], rfl, List.getElem?_eq_getElem hlt, ?_⟩
      (conv => whnf)
      refine And.intro ?_ ?_
      · (conv => whnf)
        refine ⟨[], _, rfl, rfl, (by simp only [List.length_nil]; omega), ?_⟩
        (conv => whnf)
        refine ⟨[o.entries[i].name], rfl, ?_⟩
        (conv => whnf)
        refine ⟨_, _, rfl, rfl, (by simp only [List.length_append, List.length_cons, List.length_nil]; omega), ?_⟩
        (conv => whnf)
        refine ⟨(), trivial, [], [.same 0, .same 1, .same 4], ?_⟩
        repeat' first | exact trivial | exact rfl | refine And.intro ?_ ?_
      · (conv => whnf)
        refine ⟨[o.entries[i].name], rfl, ?_⟩
        (conv => whnf)
        refine ⟨[], _, rfl, rfl, (by simp only [List.length_nil]; omega), ?_⟩
        (conv => whnf)
        refine ⟨_, _, rfl, rfl, (by simp only [List.length_append, List.length_cons, List.length_nil]; omega), ?_⟩
        (conv => whnf)
        refine ⟨(), trivial, [], [.same 0, .same 1, .same 4], ?_⟩
        repeat' first | exact trivial | exact rfl | refine And.intro ?_ ?_
    intro _ _
    (conv => whnf)
    refine ⟨i, o.entries[i], rfl, List.getElem?_eq_getElem hlt, ?_⟩
    (conv => whnf)
    refine dec (fun hm => ?_) (fun hm => ?_)
    · obtain ⟨n', rfl⟩ : ∃ m, n = m + 1 := ⟨n - 1, by omega⟩
      rw [stepE, if_pos hm] at g3
      (conv => whnf)
      refine ⟨i, o.entries[i], rfl, List.getElem?_eq_getElem hlt, ?_⟩
      (conv => whnf)
      refine cl [] [1] (ih n' (by omega) o.entries[i].id (ins ++ [o.entries[i].name]) q (by rw [List.length_append, List.length_singleton]; omega) hnm g2) ?_
      have hlR := goF_len L (n' + 1) o.entries[i].id (ins ++ [o.entries[i].name]) q g2
      generalize goF L (n' + 1) o.entries[i].id (ins ++ [o.entries[i].name]) q = R at *
      (conv => whnf)
      refine decN (fun h5 => ?_) (fun h5 => ?_)
      · rw [if_pos h5] at g3
        rw [g3, show okF R = [] from if_neg h5]
        (conv => whnf)
        exact rx [] [.same 0, .new]
      · rw [if_neg (by simpa using h5)] at g3
        rw [show okF R = R.2 from if_pos h5]
        repeat' ((conv => whnf); first | (refine dec (fun h => ?_) (fun h => ?_) <;> try contradiction) | (refine decN (fun h => ?_) (fun h => ?_) <;> try contradiction) | refine booN (fun h => ?_) (fun h => ?_) | refine boo (fun h => ?_) (fun h => ?_) | refine ⟨i64 (by omega) (by omega), ?_⟩ | refine ⟨_, _, rfl, List.getElem?_eq_getElem (by omega), ?_⟩ | refine ⟨_, ⟨rfl, by omega⟩, ?_⟩ | refine ⟨_, List.getElem?_eq_getElem (by omega), ?_⟩ | refine rtB ?_ | refine rtI ?_ | refine rtC ?_ rfl | fail)
        refine ag (i + 1, R.2) [] [.same 0, .same 3] ⟨⟨hlt, hlR⟩, fun _ => by omega, g3⟩ (by simp only []; omega) ?_
        repeat' first | exact trivial | exact rfl | refine And.intro ?_ ?_
    · rw [stepE, if_neg hm] at g3
      (conv => whnf)
      refine dec (fun h5 => ?_) (fun h5 => ?_)
      · rw [if_pos (by omega)] at g3
        rw [g3]
        (conv => whnf)
        exact rx [] [.same 0, .new]
      · rw [if_neg (by omega)] at g3
        have hul := unsp_bound _ hnm
        (conv => whnf)
        refine ⟨false, .grow, (.l [0, 1, 3, 4, 5, 6, 7, 8, 9, 10, 11, 12, 13, 14, 15, 16, 17, 2, 18, 19, 20, 21]), by kernel_rfl, .inr ⟨Unit, fun _ => ⟨[(0, .c (.bp [.bs 6 Ob encOb L])), (2, .c (.bs 1 (List UInt8) encS ins)), (3, .c (.rw 1)), (10, .c (.ls 4 Ent encEn o.entries)), (11, .c (.int .i64 i))], [.dead, .row 4 Fi encFi (q ++ [⟨unsp (ins ++ [o.entries[i].name]), o.entries[i].mode, o.entries[i].id, o.entries[i].repo⟩])]⟩, fun _ => True, ?_, ?_⟩⟩
        · (conv => whnf)
          refine ⟨i, o.entries[i], rfl, List.getElem?_eq_getElem hlt, ?_⟩
          (conv => whnf)
          refine ⟨i, o.entries[i], rfl, List.getElem?_eq_getElem hlt, ?_⟩
          (conv => whnf)
          refine ⟨i, o.entries[i], rfl, List.getElem?_eq_getElem hlt, ?_⟩
          (conv => whnf)
          refine cl [] [] (joined_spec (ins ++ [o.entries[i].name]) (by omega)) ?_
          (conv => whnf)
          refine ⟨[⟨unsp (ins ++ [o.entries[i].name]), o.entries[i].mode, o.entries[i].id, o.entries[i].repo⟩], rfl, ?_⟩
          (conv => whnf)
          refine ⟨_, _, rfl, rfl, (by simp only [List.length_append, List.length_cons, List.length_nil]; omega), ?_⟩
          (conv => whnf)
          refine ⟨(), trivial, [], [.same 0, .same 4], ?_⟩
          repeat' first | exact trivial | exact rfl | refine And.intro ?_ ?_
        intro _ _
        repeat' ((conv => whnf); first | (refine dec (fun h => ?_) (fun h => ?_) <;> try contradiction) | (refine decN (fun h => ?_) (fun h => ?_) <;> try contradiction) | refine booN (fun h => ?_) (fun h => ?_) | refine boo (fun h => ?_) (fun h => ?_) | refine ⟨i64 (by omega) (by omega), ?_⟩ | refine ⟨_, _, rfl, List.getElem?_eq_getElem (by omega), ?_⟩ | refine ⟨_, ⟨rfl, by omega⟩, ?_⟩ | refine ⟨_, List.getElem?_eq_getElem (by omega), ?_⟩ | refine rtB ?_ | refine rtI ?_ | refine rtC ?_ rfl | fail)
        refine ag (i + 1, (q ++ [⟨unsp (ins ++ [o.entries[i].name]), o.entries[i].mode, o.entries[i].id, o.entries[i].repo⟩])) [] [.same 0, .same 1] ⟨⟨hlt, by simp only [List.length_append, List.length_cons, List.length_nil]; omega⟩, fun _ => by omega, g3⟩ (by simp only []; omega) ?_
        repeat' first | exact trivial | exact rfl | refine And.intro ?_ ?_
  · rw [List.drop_of_length_le (by simp at h4; omega)] at g3
    have e1 : goF L (n + 1) t ins out = (0, q) := by
      rw [e0]
      split
      · rename_i h; exfalso; simp at h4; have := g0 (by omega); omega
      · exact g3
    rw [e1]
    (conv => whnf)
    exact rx [] [.same 0, .same 1]

set_option maxHeartbeats 4000000 in
theorem filesIn0_spec (L : List Ob) (hL : PoolOk L) (n : Nat) (t : Int) (ins : List (List UInt8)) (hn : ins.length + n = 8) (hs : ∀ s ∈ ins, s.length ≤ 20) : Does Tryz.prog 162 [.c (.bp [.bs 6 Ob encOb L]), .c (.int .i64 t), .c (.bs 1 (List UInt8) encS ins), .c .nil] []
    (Rt (.tup [(false, [.rw 0]), (false, [.int .i64 (goF L (n + 1) t ins []).1])]) [.row 4 Fi encFi (okF (goF L (n + 1) t ins []))]) := by
  have ih : ∀ m, m < n → ∀ (t : Int) (ins : List (List UInt8)) (out : List Fi), ins.length + m = 8 → (∀ s ∈ ins, s.length ≤ 20) → out.length ≤ 60 → Does Tryz.prog 162 [.c (.bp [.bs 6 Ob encOb L]), .c (.int .i64 t), .c (.bs 1 (List UInt8) encS ins), .c (.rw 0)] [.row 4 Fi encFi out]
    (Rt (.tup [(false, [.rw 1]), (false, [.int .i64 (goF L (m + 1) t ins out).1])]) [.dead, .row 4 Fi encFi (okF (goF L (m + 1) t ins out))]) := fun m _ => filesIn_spec L hL m
  have hout : ([] : List Fi).length ≤ 60 := by simp
  refine X_spec (n := 93) (n0 := 0) tabOk Tryz.call162 Tryz.func162 ?_
  intro hb
  have hkk := getP_kind (l := L) (id := t)
  (conv => whnf)
  refine cl [] [] (kindR_spec L t) ?_
  (conv => whnf)
  refine decN (fun hk => ?_) (fun hk => ?_)
  · have e0 : goF L (n + 1) t ins [] = (9, []) := by rw [goF, if_pos hk]
    rw [e0]
    (conv => whnf)
    exact rx [] [.new]
  obtain ⟨hr1, hr2⟩ := tree_ok hL hk
  have hel := (hL.tree hk).2.2.1
  obtain ⟨hp1, hp2⟩ := kindOf_pos (l := L) (id := t) (by omega)
  have hge := getP_at hp1 hp2
  have e0 : goF L (n + 1) t ins [] = if 8 ≤ ins.length ∧ 0 < (getP L t).entries.length then (3, []) else stepE (goF L n) ins (getP L t).entries [] := by rw [goF, if_neg (by simpa using hk)]
  (conv => whnf)
  refine ⟨t.toNat, L[t.toNat], by omega, List.getElem?_eq_getElem hp2, ?_⟩
  rw [← hge]
  generalize getP L t = o at *
  (conv => whnf)
  refine lp (Nat × List Fi) (fun x => ⟨[(0, .c (.bp [.bs 6 Ob encOb L])), (2, .c (.bs 1 (List UInt8) encS ins)), (3, .c (.rw 1)), (10, .c (.ls 4 Ent encEn o.entries)), (11, .c (.int .i64 x.1))], [.dead, .row 4 Fi encFi x.2]⟩)
    (fun x => (x.1 ≤ o.entries.length ∧ x.2.length ≤ 60) ∧ (0 < x.1 → ins.length < 8) ∧ stepE (goF L n) ins o.entries [] = stepE (goF L n) ins (o.entries.drop x.1) x.2) (fun x => o.entries.length - x.1) (0, []) [] [.new, .new] ?_ ?_ (fun x hx => ?_)
  · exact ⟨⟨Nat.zero_le _, hout⟩, (fun h => absurd h (by simp)), rfl⟩
  · repeat' first | exact trivial | exact rfl | refine And.intro ?_ ?_
  obtain ⟨i, q⟩ := x
  obtain ⟨⟨g1, g2⟩, g0, g3⟩ := hx
  dsimp only at g1 g2 g3 g0
  (conv => whnf)
  refine dec (fun h4 => ?_) (fun h4 => ?_)
  · have hlt : i < o.entries.length := by simpa using h4
    have hE := hr2 _ (List.getElem_mem hlt)
    rw [List.drop_eq_getElem_cons hlt] at g3
    (conv => whnf)
    refine dec (fun h8 => ?_) (fun h8 => ?_)
    · rw [if_pos (by omega)] at e0
      rw [e0]
      (conv => whnf)
      exact rx [] [.new]
    rw [if_neg (by omega)] at e0
    rw [e0]
    have hsz : (ins ++ [o.entries[i].name]).length ≤ 8 := by rw [List.length_append, List.length_singleton]; omega
    have hnm : ∀ s ∈ ins ++ [o.entries[i].name], s.length ≤ 20 := fun s h => by
      rcases List.mem_append.1 h with h | h
      · exact hs s h
      · rw [List.mem_singleton] at h; rw [h]; exact name_len hE.name
    (conv => whnf)
    refine ⟨false, .grow, (.alt [0, 1, 3, 4, 5, 6, 7] [2, 8] fun j => bif Nat.beq j 2 then (.l [8, 9, 10]) else bif Nat.beq j 8 then (.l [2, 9, 10]) else .l []), by kernel_rfl, .inr ⟨Unit, fun _ => ⟨[(0, .c (.bp [.bs 6 Ob encOb L])), (2, .c (.bs 1 (List UInt8) encS ins)), (3, .c (.rw 1)), (10, .c (.ls 4 Ent encEn o.entries)), (11, .c (.int .i64 i)), (12, .c (.rw 2))], [.dead, .row 4 Fi encFi q, .row 1 (List UInt8) encS (ins ++ [o.entries[i].name])]⟩, fun _ => True, ?_, ?_⟩⟩
    · (conv => whnf)
      refine ⟨i, o.entries[i], rfl, List.getElem?_eq_getElem hlt, ?_⟩
      (conv => whnf)
      refine And.intro ?_ ?_
      · (conv => whnf)
        refine ⟨[], _, rfl, rfl, (by simp only [List.length_nil]; omega), ?_⟩
        (conv => whnf)
        refine ⟨[o.entries[i].name], rfl, ?_⟩
        (conv => whnf)
        refine ⟨_, _, rfl, rfl, (by simp only [List.length_append, List.length_cons, List.length_nil]; omega), ?_⟩
        (conv => whnf)
        refine ⟨(), trivial, [], [.same 0, .same 1, .same 4], ?_⟩
        repeat' first | exact trivial | exact rfl | refine And.intro ?_ ?_
      · (conv => whnf)
        refine ⟨[o.entries[i].name], rfl, ?_⟩
        (conv => whnf)
        refine ⟨[], _, rfl, rfl, (by simp only [List.length_nil]; omega), ?_⟩
        (conv => whnf)
        refine ⟨_, _, rfl, rfl, (by simp only [List.length_append, List.length_cons, List.length_nil]; omega), ?_⟩
        (conv => whnf)
        refine ⟨(), trivial, [], [.same 0, .same 1, .same 4], ?_⟩
        repeat' first | exact trivial | exact rfl | refine And.intro ?_ ?_
    intro _ _
    (conv => whnf)
    refine ⟨i, o.entries[i], rfl, List.getElem?_eq_getElem hlt, ?_⟩
    (conv => whnf)
    refine dec (fun hm => ?_) (fun hm => ?_)
    · obtain ⟨n', rfl⟩ : ∃ m, n = m + 1 := ⟨n - 1, by omega⟩
      rw [stepE, if_pos hm] at g3
      (conv => whnf)
      refine ⟨i, o.entries[i], rfl, List.getElem?_eq_getElem hlt, ?_⟩
      (conv => whnf)
      refine cl [] [1] (ih n' (by omega) o.entries[i].id (ins ++ [o.entries[i].name]) q (by rw [List.length_append, List.length_singleton]; omega) hnm g2) ?_
      have hlR := goF_len L (n' + 1) o.entries[i].id (ins ++ [o.entries[i].name]) q g2
      generalize goF L (n' + 1) o.entries[i].id (ins ++ [o.entries[i].name]) q = R at *
      (conv => whnf)
      refine decN (fun h5 => ?_) (fun h5 => ?_)
      · rw [if_pos h5] at g3
        rw [g3, show okF R = [] from if_neg h5]
        (conv => whnf)
        exact rx [] [.new]
      · rw [if_neg (by simpa using h5)] at g3
        rw [show okF R = R.2 from if_pos h5]
        repeat' ((conv => whnf); first | (refine dec (fun h => ?_) (fun h => ?_) <;> try contradiction) | (refine decN (fun h => ?_) (fun h => ?_) <;> try contradiction) | refine booN (fun h => ?_) (fun h => ?_) | refine boo (fun h => ?_) (fun h => ?_) | refine ⟨i64 (by omega) (by omega), ?_⟩ | refine ⟨_, _, rfl, List.getElem?_eq_getElem (by omega), ?_⟩ | refine ⟨_, ⟨rfl, by omega⟩, ?_⟩ | refine ⟨_, List.getElem?_eq_getElem (by omega), ?_⟩ | refine rtB ?_ | refine rtI ?_ | refine rtC ?_ rfl | fail)
        refine ag (i + 1, R.2) [] [.same 0, .same 3] ⟨⟨hlt, hlR⟩, fun _ => by omega, g3⟩ (by simp only []; omega) ?_
        repeat' first | exact trivial | exact rfl | refine And.intro ?_ ?_
    · rw [stepE, if_neg hm] at g3
      (conv => whnf)
      refine dec (fun h5 => ?_) (fun h5 => ?_)
      · rw [if_pos (by omega)] at g3
        rw [g3]
        (conv => whnf)
        exact rx [] [.new]
      · rw [if_neg (by omega)] at g3
        have hul := unsp_bound _ hnm
        (conv => whnf)
        refine ⟨false, .grow, (.l [0, 1, 3, 4, 5, 6, 7, 8, 9, 10, 11, 12, 13, 14, 15, 16, 17, 2, 18, 19, 20, 21]), by kernel_rfl, .inr ⟨Unit, fun _ => ⟨[(0, .c (.bp [.bs 6 Ob encOb L])), (2, .c (.bs 1 (List UInt8) encS ins)), (3, .c (.rw 1)), (10, .c (.ls 4 Ent encEn o.entries)), (11, .c (.int .i64 i))], [.dead, .row 4 Fi encFi (q ++ [⟨unsp (ins ++ [o.entries[i].name]), o.entries[i].mode, o.entries[i].id, o.entries[i].repo⟩])]⟩, fun _ => True, ?_, ?_⟩⟩
        · (conv => whnf)
          refine ⟨i, o.entries[i], rfl, List.getElem?_eq_getElem hlt, ?_⟩
          (conv => whnf)
          refine ⟨i, o.entries[i], rfl, List.getElem?_eq_getElem hlt, ?_⟩
          (conv => whnf)
          refine ⟨i, o.entries[i], rfl, List.getElem?_eq_getElem hlt, ?_⟩
          (conv => whnf)
          refine cl [] [] (joined_spec (ins ++ [o.entries[i].name]) (by omega)) ?_
          (conv => whnf)
          refine ⟨[⟨unsp (ins ++ [o.entries[i].name]), o.entries[i].mode, o.entries[i].id, o.entries[i].repo⟩], rfl, ?_⟩
          (conv => whnf)
          refine ⟨_, _, rfl, rfl, (by simp only [List.length_append, List.length_cons, List.length_nil]; omega), ?_⟩
          (conv => whnf)
          refine ⟨(), trivial, [], [.same 0, .same 4], ?_⟩
          repeat' first | exact trivial | exact rfl | refine And.intro ?_ ?_
        intro _ _
        repeat' ((conv => whnf); first | (refine dec (fun h => ?_) (fun h => ?_) <;> try contradiction) | (refine decN (fun h => ?_) (fun h => ?_) <;> try contradiction) | refine booN (fun h => ?_) (fun h => ?_) | refine boo (fun h => ?_) (fun h => ?_) | refine ⟨i64 (by omega) (by omega), ?_⟩ | refine ⟨_, _, rfl, List.getElem?_eq_getElem (by omega), ?_⟩ | refine ⟨_, ⟨rfl, by omega⟩, ?_⟩ | refine ⟨_, List.getElem?_eq_getElem (by omega), ?_⟩ | refine rtB ?_ | refine rtI ?_ | refine rtC ?_ rfl | fail)
        refine ag (i + 1, (q ++ [⟨unsp (ins ++ [o.entries[i].name]), o.entries[i].mode, o.entries[i].id, o.entries[i].repo⟩])) [] [.same 0, .same 1] ⟨⟨hlt, by simp only [List.length_append, List.length_cons, List.length_nil]; omega⟩, fun _ => by omega, g3⟩ (by simp only []; omega) ?_
        repeat' first | exact trivial | exact rfl | refine And.intro ?_ ?_
  · rw [List.drop_of_length_le (by simp at h4; omega)] at g3
    have e1 : goF L (n + 1) t ins [] = (0, q) := by
      rw [e0]
      split
      · rename_i h; exfalso; simp at h4; have := g0 (by omega); omega
      · exact g3
    rw [e1]
    (conv => whnf)
    exact rx [] [.same 1]
theorem filesOf_spec (L : List Ob) (hL : PoolOk L) (t : Int) : Does Tryz.prog 99 [.c (.bp [.bs 6 Ob encOb L]), .c (.int .i64 t)] [] (Rt (.tup [(false, [.rw 0]), (false, [.int .i64 (filesP L t).2])]) [.row 4 Fi encFi (filesP L t).1]) := by
  refine X_spec (n := 18) (n0 := 0) tabOk Tryz.call99 Tryz.func99 ?_
  intro hb
  have hs := filesIn0_spec L hL 8 t [] rfl (by simp)
  unfold filesP
  generalize goF L 9 t [] [] = R at *
  (conv => whnf)
  refine cl [] [] (hs) ?_
  (conv => whnf)
  refine decN (fun h => ?_) (fun h => ?_)
  · rw [if_neg h]
    (conv => whnf)
    exact rx [] [.new]
  · rw [if_pos h, show okF R = R.2 from if_pos h]
    (conv => whnf)
    exact rx [] [.same 0]
end Go.Nest
end
/- WALKS, R4: the tree at a directory, by the document. -/
section
namespace Go.Nest
open Go Go.AM Go.Proofs
open Go.Proofs.YtogallppofinhaaGreatDoor (tab tabOk)
set_option linter.unusedVariables false
set_option linter.unusedSimpArgs false
set_option maxRecDepth 4000

end Go.Nest
end
/- WALKS, R5: TreeOf, Find. -/
section
namespace Go.Nest
open Go Go.AM Go.Proofs
open Go.Proofs.YtogallppofinhaaGreatDoor (tab tabOk)
set_option linter.unusedVariables false
set_option linter.unusedSimpArgs false
set_option maxRecDepth 4000
theorem treeOfTop_spec (L : List Ob) (l : List Fi) (hL : PoolOk L) (hp : ∀ f ∈ l, f.path.length ≤ 4000000) : Does Tryz.prog 102 [.c (.ptr 0 0), .c (.bs 4 Fi encFi l)] [.box [.rw 1], .row 6 Ob encOb L] (Rt (.tup [(false, [.int .i64 (buildP L l).1]), (false, [.int .i64 (buildP L l).2.1])]) [.box [.rw 2], .dead, .row 6 Ob encOb (buildP L l).2.2]) := by
  rw [← tree_same]
  refine X_spec (n := 17) (n0 := 2) tabOk Tryz.call102 Tryz.func102 ?_
  intro hb
  (conv => whnf)
  refine cl [] [] (fault_spec l hp) ?_
  unfold treeP
  (conv => whnf)
  refine decN (fun h => ?_) (fun h => ?_)
  · rw [if_pos h]
    (conv => whnf)
    exact rx [] [.same 0, .same 1, .same 1]
  · have h0 : filesF l = 0 := by simpa using h
    have h1 := (filesF_all h0).1
    rw [if_neg (by simpa using h0)]
    (conv => whnf)
    refine cl [] [0, 1] (treeOf_spec (mu l + 1) L l (Nat.lt_succ_self _) hL h1 hp) ?_
    (conv => whnf)
    exact rx [] [.same 0, .same 1, .same 2]
end Go.Nest
end
/- WALKS, W10: of the law: both, with commits. -/
section
namespace Go.Nest
open Go Go.AM Go.Proofs
open Go.Proofs.YtogallppofinhaaGreatDoor (tab tabOk)
set_option linter.unusedVariables false
set_option linter.unusedSimpArgs false
set_option maxRecDepth 4000
def comO (t : Int) (up : List Int) (x : List UInt8) : Ob := ⟨3, [], [], t, up, x⟩
end Go.Nest
end
/- PLAIN LAWS, K1b: what lies in front of one: as files, a tree, a commit; laid. -/
section
namespace Go.Nest
open Go Go.AM
set_option linter.unusedVariables false
set_option linter.unusedSimpArgs false
def lnF (x : It) : Fi := ⟨x.path, 3, x.id, x.repo⟩
def filesW : List Ob → List It → List Fi → List Fi × Int × List Ob
  | L, [], out => (out, 0, L)
  | L, x :: r, out => if x.link = true then filesW L r (out ++ [lnF x]) else
    if (putP L (blobO x.bytes)).2.1 ≠ 0 then ([], (putP L (blobO x.bytes)).2.1, (putP L (blobO x.bytes)).2.2) else filesW (putP L (blobO x.bytes)).2.2 r (out ++ [⟨x.path, 1, (putP L (blobO x.bytes)).1, 0⟩])
def treeW (L : List Ob) (l : List It) : Int × Int × List Ob :=
  if (filesW L l []).2.1 ≠ 0 then (0, (filesW L l []).2.1, (filesW L l []).2.2) else buildP (filesW L l []).2.2 (filesW L l []).1
def saysW (L : List Ob) (l : List It) (h t : Int) : Bool := if h < 0 then decide (l.length = 0) else decide ((getP L h).tree = t)
def cleanW (L : List Ob) (l : List It) (h : Int) : Int := if (treeW L l).2.1 ≠ 0 then (treeW L l).2.1 else if saysW (treeW L l).2.2 l h (treeW L l).1 = true then 0 else 13
def upW (h : Int) (others : List Int) : List Int := (if 0 ≤ h then [h] else []) ++ others
/-- what is committed: its number, a code, the pool, the head -/
def commW (L : List Ob) (l : List It) (h : Int) (text : List UInt8) (others : List Int) : Int × Int × List Ob :=
  if (treeW L l).2.1 ≠ 0 then (0, (treeW L l).2.1, (treeW L l).2.2) else if 0 ≤ h ∧ saysW (treeW L l).2.2 l h (treeW L l).1 = true ∧ others.length = 0 then (0, 17, (treeW L l).2.2) else
  if (putP (treeW L l).2.2 (comO (treeW L l).1 (upW h others) text)).2.1 ≠ 0 then (0, (putP (treeW L l).2.2 (comO (treeW L l).1 (upW h others) text)).2.1, (putP (treeW L l).2.2 (comO (treeW L l).1 (upW h others) text)).2.2)
  else putP (treeW L l).2.2 (comO (treeW L l).1 (upW h others) text)
def headW (L : List Ob) (l : List It) (h : Int) (text : List UInt8) (others : List Int) : Int := if (commW L l h text others).2.1 = 0 then (commW L l h text others).1 else h
def layF (L : List Ob) (f : Fi) : It := if f.mode = 3 then ⟨f.path, [], true, f.id, f.repo⟩ else ⟨f.path, (getP L f.id).bytes, false, 0, 0⟩
def layW (L : List Ob) (l : List It) (fs : List Fi) : List It := if (buildP L fs).2.1 ≠ 0 then l else fs.map (layF (buildP L fs).2.2)
/-- what is checked out: a code, the pool, what lies there, the head -/
def coC (L : List Ob) (l : List It) (h id : Int) : Int := if kindOf L id ≠ 3 then 9 else if cleanW L l h ≠ 0 then cleanW L l h else (filesP (treeW L l).2.2 (getP L id).tree).2
def coL (L : List Ob) (l : List It) (id : Int) : List Ob := if kindOf L id ≠ 3 then L else (treeW L l).2.2
def coW (L : List Ob) (l : List It) (h id : Int) : List It := if coC L l h id ≠ 0 then l else (filesP (treeW L l).2.2 (getP L id).tree).1.map (layF (treeW L l).2.2)
def coH (L : List Ob) (l : List It) (h id : Int) : Int := if coC L l h id ≠ 0 then h else id
def docW (x : It) : Dc := ⟨x.path, x.bytes⟩
theorem filesW_ok : ∀ {l : List It} {L : List Ob} {out : List Fi}, PoolOk L → PoolOk (filesW L l out).2.2 ∧ L <+: (filesW L l out).2.2
  | [], L, out, h => ⟨h, List.prefix_refl _⟩
  | x :: r, L, out, h => by
    unfold filesW
    split
    · exact filesW_ok h
    split
    · exact ⟨putP_ok h _, put_ext _⟩
    · obtain ⟨h1, h2⟩ := filesW_ok (l := r) (out := out ++ [⟨x.path, 1, (putP L (blobO x.bytes)).1, 0⟩]) (putP_ok h (blobO x.bytes))
      exact ⟨h1, (put_ext _).trans h2⟩
theorem treeW_ok {L : List Ob} {l : List It} (h : PoolOk L) : PoolOk (treeW L l).2.2 ∧ L <+: (treeW L l).2.2 := by
  obtain ⟨h1, h2⟩ := filesW_ok (l := l) (out := []) h
  unfold treeW
  split
  · exact ⟨h1, h2⟩
  · obtain ⟨h3, h4⟩ := buildP_ok h1 (filesW L l []).1
    exact ⟨h3, h2.trans h4⟩
theorem commW_ok {L : List Ob} {l : List It} {h : Int} {text : List UInt8} {others : List Int} (hL : PoolOk L) : PoolOk (commW L l h text others).2.2 ∧ L <+: (commW L l h text others).2.2 := by
  obtain ⟨h1, h2⟩ := treeW_ok (l := l) hL
  unfold commW
  split
  · exact ⟨h1, h2⟩
  split
  · exact ⟨h1, h2⟩
  split
  · exact ⟨putP_ok h1 _, h2.trans (put_ext _)⟩
  · exact ⟨putP_ok h1 _, h2.trans (put_ext _)⟩
theorem coL_ok {L : List Ob} {l : List It} {id : Int} (hL : PoolOk L) : PoolOk (coL L l id) ∧ L <+: coL L l id := by
  unfold coL
  split
  · exact ⟨hL, List.prefix_refl _⟩
  · exact treeW_ok hL
theorem filesW_path {n : Nat} : ∀ {l : List It} {L : List Ob} {out : List Fi}, (∀ f ∈ out, f.path.length ≤ n) → (∀ x ∈ l, x.path.length ≤ n) → ∀ f ∈ (filesW L l out).1, f.path.length ≤ n
  | [], L, out, h, _ => h
  | x :: r, L, out, h, hl => by
    have hx := hl x (by simp)
    have hr : ∀ y ∈ r, y.path.length ≤ n := fun y hy => hl y (by simp [hy])
    unfold filesW
    split
    · refine filesW_path (fun f hf => ?_) hr
      rcases List.mem_append.1 hf with hf | hf
      · exact h f hf
      · rw [List.mem_singleton] at hf; subst hf; exact hx
    split
    · intro f hf; cases hf
    · refine filesW_path (fun f hf => ?_) hr
      rcases List.mem_append.1 hf with hf | hf
      · exact h f hf
      · rw [List.mem_singleton] at hf; subst hf; exact hx
end Go.Nest
end
