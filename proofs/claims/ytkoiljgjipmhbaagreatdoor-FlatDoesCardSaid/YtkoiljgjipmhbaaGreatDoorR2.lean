/- WALKS, R2: the tree of files, by the document. -/
import Derived.Test.YtkoiljgjipmhbaaGreatDoorR1
import Derived.Test.YtkoiljgjipmhbaaGreatDoorP10
namespace Go.Nest
open Go Go.AM Go.Proofs
open Go.Proofs.YtkoiljgjipmhbaaGreatDoor (tab tabOk)
set_option linter.unusedVariables false
set_option linter.unusedSimpArgs false
set_option maxRecDepth 4000

theorem goT_ok : ∀ (n : Nat) (L : List Ob) (acc : List Ent) (l : List Fi), PoolOk L → PoolOk (goT n L acc l).2.2
  | 0, L, _, _, h => h
  | n + 1, L, acc, [], h => putP_ok h _
  | n + 1, L, acc, f :: r, h => by
    unfold goT
    split
    · exact goT_ok n L _ r h
    split
    · exact goT_ok n L _ r h
    split
    · exact goT_ok n L [] _ h
    · exact goT_ok n _ _ r (goT_ok n L [] _ h)
theorem mu_behind (d : List UInt8) : ∀ l : List Fi, mu (behindF d l) + (behindF d l).length ≤ mu l
  | [] => by simp [behindF, mu]
  | f :: l => by
    have ih := mu_behind d l
    rw [mu_cons]
    unfold behindF at ih ⊢
    rw [List.filterMap_cons]
    unfold stripF at ih ⊢
    cases hu : under f.path d with
    | none => simp only [Option.map_none]; exact Nat.le_trans ih (by omega)
    | some p =>
      have := under_eq hu
      simp only [Option.map_some]
      rw [mu_cons, List.length_cons]
      have : f.path.length = d.length + 1 + p.length := by rw [this]; simp; omega
      simp only
      omega
theorem behind_take {d : List UInt8} {l : List Fi} {k : Nat} (h : k < l.length) : behindF d (l.take (k + 1)) = behindF d (l.take k) ++ match under l[k].path d with
    | some p => [⟨p, l[k].mode, l[k].id, l[k].repo⟩]
    | none => [] := by
  rw [List.take_succ_eq_append_getElem h, behind_app]
  congr 1
  unfold behindF
  rw [List.filterMap_cons, List.filterMap_nil]
  unfold stripF
  cases under l[k].path d <;> rfl
theorem lastN_at {es : List Ent} {n : Nat} (h : es.length = n + 1) : lastN es = some (es[n]'(by omega)).name := by
  unfold lastN
  have e : es.length - 1 = n := by omega
  rw [List.getLast?_eq_getElem?, e, List.getElem?_eq_getElem (by omega)]; rfl

set_option maxHeartbeats 8000000 in
theorem treeOf_spec : ∀ (n : Nat) (L : List Ob) (l : List Fi), mu l < n → PoolOk L → l.length ≤ 60 → (∀ f ∈ l, f.path.length ≤ 4000000) → Does Tryz.prog 44 [.c (.ptr 0 0), .c (.bs 4 Fi encFi l)] [.box [.rw 1], .row 6 Ob encOb L] (Rt (.tup [(false, [.int .i64 (goT n L [] l).1]), (false, [.int .i64 (goT n L [] l).2.1])]) [.box [.rw 2], .dead, .row 6 Ob encOb (goT n L [] l).2.2]) := by
  intro n
  induction n using Nat.strongRecOn with
  | _ n ih =>
  intro L l hn hL hl hp
  refine X_spec ⟨Tryz.prog, tab, 129, 2⟩ tabOk (by kernel_rfl) Tryz.call44 Tryz.func44 rfl rfl (by kernel_rfl) rfl ?_
  intro hb
  (conv => whnf)
  refine lp (Nat × Nat × List Ob × List Ent) (fun x => ⟨[(0, .c (.ptr 0 0)), (1, .c (.bs 4 Fi encFi l)), (6, .c (.ptr 3 0)), (7, .c (.int .i64 x.2.1))], [.box [.rw 2], .dead, .row 6 Ob encOb x.2.2.1, .box [.int .i64 2, .nil, .rw 4, .int .i64 0, .nil, .str []], .row 4 Ent encEn x.2.2.2]⟩)
    (fun x => (x.2.1 ≤ l.length ∧ x.1 ≤ n ∧ mu (l.drop x.2.1) < x.1 ∧ x.2.2.2.length ≤ x.2.1) ∧ PoolOk x.2.2.1 ∧ goT n L [] l = goT x.1 x.2.2.1 x.2.2.2 (l.drop x.2.1)) (fun x => l.length - x.2.1) (n, 0, L, []) [] [.same 0, .same 1, .same 1, .same 2, .new] ?_ ?_ (fun x hx => ?_)
  · exact ⟨⟨Nat.zero_le _, Nat.le_refl _, hn, by simp⟩, hL, rfl⟩
  · repeat' first | exact trivial | exact rfl | refine And.intro ?_ ?_
  obtain ⟨k, i, M, es⟩ := x
  obtain ⟨⟨h1, h2, h3, h4⟩, h5, h6⟩ := hx
  dsimp only at h1 h2 h3 h4 h5 h6
  have hML := h5.len
  obtain ⟨k, rfl⟩ : ∃ m, k = m + 1 := ⟨k - 1, by omega⟩
  (conv => whnf)
  refine dec (fun hlt => ?_) (fun hlt => ?_)
  · have hlt : i < l.length := by simpa using hlt
    have hf := hp _ (List.getElem_mem hlt)
    have hsp := spl_pos l[i].path
    rw [List.drop_eq_getElem_cons hlt, mu_cons] at h3
    rw [List.drop_eq_getElem_cons hlt] at h6
    (conv => whnf)
    refine ⟨i, l[i], rfl, List.getElem?_eq_getElem hlt, ?_⟩
    (conv => whnf)
    refine cl [] [] (parts_spec l[i].path hf) (by (repeat' first | exact trivial | exact rfl | refine And.intro ?_ ?_); first | done | fail) (by first | exact trivial | exact rfl) ?_
    (conv => whnf)
    refine dec (fun hc => ?_) (fun hc => ?_)
    · have hc : l[i].path.count 47 = 0 := by rw [spl_len] at hc; omega
      have e : goT (k + 1) M es (l[i] :: l.drop (i + 1)) = goT k M (es ++ [⟨fstN l[i].path, l[i].mode, l[i].id, l[i].repo⟩]) (l.drop (i + 1)) := by rw [goT, if_pos hc]
      rw [e] at h6
      (conv => whnf)
      refine ⟨false, (.l [0, 1, 2, 3, 4, 5, 6, 7, 8, 9, 10, 11, 12, 13, 14, 15, 16, 17, 18, 19, 20, 21, 22, 23, 24]), by kernel_rfl, .inl ?_⟩
      (conv => whnf)
      refine ⟨0, ⟨rfl, hsp⟩, ?_⟩
      (conv => whnf)
      refine ⟨fstN l[i].path, List.getElem?_eq_getElem hsp, ?_⟩
      (conv => whnf)
      refine ⟨i, l[i], rfl, List.getElem?_eq_getElem hlt, ?_⟩
      (conv => whnf)
      refine ⟨i, l[i], rfl, List.getElem?_eq_getElem hlt, ?_⟩
      (conv => whnf)
      refine ⟨i, l[i], rfl, List.getElem?_eq_getElem hlt, ?_⟩
      (conv => whnf)
      refine ⟨[⟨fstN l[i].path, l[i].mode, l[i].id, l[i].repo⟩], rfl, ?_⟩
      (conv => whnf)
      refine ⟨_, _, rfl, rfl, (by simp only [List.length_append, List.length_cons, List.length_nil]; omega), ?_⟩
      repeat' ((conv => whnf); first | (refine dec (fun h => ?_) (fun h => ?_) <;> try contradiction) | (refine decN (fun h => ?_) (fun h => ?_) <;> try contradiction) | refine booN (fun h => ?_) (fun h => ?_) | refine boo (fun h => ?_) (fun h => ?_) | refine ⟨i64 (by omega) (by omega), ?_⟩ | refine ⟨_, _, rfl, List.getElem?_eq_getElem (by omega), ?_⟩ | refine ⟨_, ⟨rfl, by omega⟩, ?_⟩ | refine ⟨_, List.getElem?_eq_getElem (by omega), ?_⟩ | refine rtB ?_ | refine rtI ?_ | refine rtC ?_ rfl | fail)
      refine ag (k, i + 1, M, es ++ [⟨fstN l[i].path, l[i].mode, l[i].id, l[i].repo⟩]) [] [.same 0, .same 1, .same 2, .same 3, .same 7] ⟨⟨hlt, by simp only []; omega, by simp only []; omega, by simp only [List.length_append, List.length_cons, List.length_nil]; omega⟩, h5, h6⟩ (by simp only []; omega) ?_
      repeat' first | exact trivial | exact rfl | refine And.intro ?_ ?_
    · have hc : ¬ l[i].path.count 47 = 0 := by rw [spl_len] at hc; omega
      (conv => whnf)
      refine ⟨false, (.l [0, 1, 2, 3, 4, 5, 6, 7, 8, 9, 10, 11, 12, 13, 14]), by kernel_rfl, .inl ?_⟩
      (conv => whnf)
      refine dec (fun hn0 => ?_) (fun hn0 => ?_)
      · obtain ⟨m0, hm0⟩ : ∃ m0, es.length = m0 + 1 := ⟨es.length - 1, by have hn0 : 0 < (es.length : Int) := hn0; omega⟩
        have hla := lastN_at hm0
        have hm1 : m0 < es.length := by omega
        (conv => whnf)
        refine ⟨i64 (show (-9223372036854775808 : Int) ≤ (es.length : Int) - 1 by omega) (show (es.length : Int) - 1 ≤ 9223372036854775807 by omega), ?_⟩
        (conv => whnf)
        refine ⟨m0, ⟨(show (es.length : Int) - 1 = m0 by omega), (show m0 < es.length by omega)⟩, ?_⟩
        (conv => whnf)
        refine ⟨es[m0], List.getElem?_eq_getElem hm1, ?_⟩
        (conv => whnf)
        refine ⟨0, ⟨rfl, hsp⟩, ?_⟩
        (conv => whnf)
        refine ⟨fstN l[i].path, List.getElem?_eq_getElem hsp, ?_⟩
        (conv => whnf)
        refine dec (fun he => ?_) (fun he => ?_)
        · have e : goT (k + 1) M es (l[i] :: l.drop (i + 1)) = goT k M es (l.drop (i + 1)) := by rw [goT, if_neg hc, if_pos (by rw [hla, he])]
          rw [e] at h6
          repeat' ((conv => whnf); first | (refine dec (fun h => ?_) (fun h => ?_) <;> try contradiction) | (refine decN (fun h => ?_) (fun h => ?_) <;> try contradiction) | refine booN (fun h => ?_) (fun h => ?_) | refine boo (fun h => ?_) (fun h => ?_) | refine ⟨i64 (by omega) (by omega), ?_⟩ | refine ⟨_, _, rfl, List.getElem?_eq_getElem (by omega), ?_⟩ | refine ⟨_, ⟨rfl, by omega⟩, ?_⟩ | refine ⟨_, List.getElem?_eq_getElem (by omega), ?_⟩ | refine rtB ?_ | refine rtI ?_ | refine rtC ?_ rfl | fail)
          refine ag (k, i + 1, M, es) [] [.same 0, .same 1, .same 2, .same 3, .same 4] ⟨⟨hlt, by simp only []; omega, by simp only []; omega, by simp only []; omega⟩, h5, h6⟩ (by simp only []; omega) ?_
          repeat' first | exact trivial | exact rfl | refine And.intro ?_ ?_
        · have hne : lastN es ≠ some (fstN l[i].path) := by rw [hla]; intro h; exact he (Option.some.inj h)
          obtain ⟨a, b, _, hab, ha⟩ := cut_some hc
          have hfa : fstN l[i].path = a := by rw [hab]; exact fstN_dir ha
          have hal : a.length ≤ 4000000 := by rw [hab] at hf; simp at hf; omega
          have e : goT (k + 1) M es (l[i] :: l.drop (i + 1)) = if (goT k M [] (behindF a (l.drop i))).2.1 ≠ 0 then (0, (goT k M [] (behindF a (l.drop i))).2.1, (goT k M [] (behindF a (l.drop i))).2.2) else goT k (goT k M [] (behindF a (l.drop i))).2.2 (es ++ [⟨a, 2, (goT k M [] (behindF a (l.drop i))).1, 0⟩]) (l.drop (i + 1)) := by
            rw [goT, if_neg hc, if_neg hne, hfa, ← List.drop_eq_getElem_cons hlt]
          rw [e] at h6
          have hmb := mu_behind a (l.drop i)
          have hmd : mu (l.drop i) = l[i].path.length + 1 + mu (l.drop (i + 1)) := by rw [List.drop_eq_getElem_cons hlt, mu_cons]
          have hb1 : 0 < (behindF a (l.drop i)).length := by
            rw [List.drop_eq_getElem_cons hlt]
            unfold behindF stripF
            rw [List.filterMap_cons, hab, under_of]
            simp
          have hbl : (behindF a (l.drop i)).length ≤ 60 := Nat.le_trans behind_len (by rw [List.length_drop]; omega)
          have hbp : ∀ g ∈ behindF a (l.drop i), g.path.length ≤ 4000000 := fun g hg => by
            obtain ⟨f2, hf2, e2⟩ := behind_mem hg
            have := hp f2 (List.mem_of_mem_drop hf2)
            rw [e2] at this
            simp at this
            omega
          have hokM := goT_ok k M [] (behindF a (l.drop i)) h5
          (conv => whnf)
          refine lp Nat (fun d => ⟨[(0, .c (.ptr 0 0)), (1, .c (.bs 4 Fi encFi l)), (6, .c (.ptr 3 0)), (7, .c (.int .i64 i)), (8, .c (.rw 5)), (10, .c (.rw 6)), (11, .c (.int .i64 ((i : Int) + d)))], [.box [.rw 2], .dead, .row 6 Ob encOb M, .box [.int .i64 2, .nil, .rw 4, .int .i64 0, .nil, .str []], .row 4 Ent encEn es, .row 1 (List UInt8) encS (spl l[i].path), .row 4 Fi encFi (behindF a ((l.drop i).take d))]⟩)
            (fun d => d ≤ l.length - i ∧ True) (fun d => l.length - i - d) 0 [] [.same 0, .same 1, .same 2, .same 3, .same 4, .same 5, .new] ?_ ?_ (fun d hd => ?_)
          · simp
          · repeat' first | exact trivial | exact rfl | refine And.intro ?_ ?_
          have hdl : (behindF a ((l.drop i).take d)).length ≤ 60 := Nat.le_trans behind_len (by rw [List.length_take, List.length_drop]; omega)
          (conv => whnf)
          refine dec (fun h7 => ?_) (fun h7 => ?_)
          · have hdt : d < (l.drop i).length := by rw [List.length_drop]; omega
            have hge : (l.drop i)[d] = l[i + d] := List.getElem_drop ..
            have hst := behind_take (d := a) hdt
            rw [hge] at hst
            (conv => whnf)
            refine ⟨false, (.l [0, 1, 2, 3, 4, 5, 6, 7, 8, 9, 10, 11, 12, 13]), by kernel_rfl, .inl ?_⟩
            (conv => whnf)
            refine ⟨i + d, l[i + d], by simp, List.getElem?_eq_getElem (by omega), ?_⟩
            (conv => whnf)
            refine ⟨0, ⟨rfl, hsp⟩, ?_⟩
            (conv => whnf)
            refine ⟨a, by rw [List.getElem?_eq_getElem hsp]; exact congrArg some hfa, ?_⟩
            (conv => whnf)
            refine cl [] [] (behind_spec l[i + d].path a hal) (by (repeat' first | exact trivial | exact rfl | refine And.intro ?_ ?_); first | done | fail) (by first | exact trivial | exact rfl) ?_
            cases hu : under l[i + d].path a with
            | none =>
              rw [hu] at hst
              simp only [List.append_nil] at hst
              rw [show underP l[i + d].path a = (l[i + d].path, false) by unfold underP; rw [hu]]
              repeat' ((conv => whnf); first | (refine dec (fun h => ?_) (fun h => ?_) <;> try contradiction) | (refine decN (fun h => ?_) (fun h => ?_) <;> try contradiction) | refine booN (fun h => ?_) (fun h => ?_) | refine boo (fun h => ?_) (fun h => ?_) | refine ⟨i64 (by omega) (by omega), ?_⟩ | refine ⟨_, _, rfl, List.getElem?_eq_getElem (by omega), ?_⟩ | refine ⟨_, ⟨rfl, by omega⟩, ?_⟩ | refine ⟨_, List.getElem?_eq_getElem (by omega), ?_⟩ | refine rtB ?_ | refine rtI ?_ | refine rtC ?_ rfl | fail)
              refine ag (d + 1) [] [.same 0, .same 1, .same 2, .same 3, .same 4, .same 5, .same 6] ⟨by omega, trivial⟩ (by simp only []; omega) ?_
              rw [hst]
              repeat' first | exact trivial | exact rfl | refine And.intro ?_ ?_
            | some p =>
              rw [hu] at hst
              simp only [] at hst
              rw [show underP l[i + d].path a = (p, true) by unfold underP; rw [hu]]
              (conv => whnf)
              refine ⟨i + d, l[i + d], by simp, List.getElem?_eq_getElem (by omega), ?_⟩
              (conv => whnf)
              refine ⟨[⟨p, l[i + d].mode, l[i + d].id, l[i + d].repo⟩], rfl, ?_⟩
              (conv => whnf)
              refine ⟨_, _, rfl, rfl, (by simp only [List.length_append, List.length_cons, List.length_nil]; omega), ?_⟩
              repeat' ((conv => whnf); first | (refine dec (fun h => ?_) (fun h => ?_) <;> try contradiction) | (refine decN (fun h => ?_) (fun h => ?_) <;> try contradiction) | refine booN (fun h => ?_) (fun h => ?_) | refine boo (fun h => ?_) (fun h => ?_) | refine ⟨i64 (by omega) (by omega), ?_⟩ | refine ⟨_, _, rfl, List.getElem?_eq_getElem (by omega), ?_⟩ | refine ⟨_, ⟨rfl, by omega⟩, ?_⟩ | refine ⟨_, List.getElem?_eq_getElem (by omega), ?_⟩ | refine rtB ?_ | refine rtI ?_ | refine rtC ?_ rfl | fail)
              refine ag (d + 1) [] [.same 0, .same 1, .same 2, .same 3, .same 4, .same 5, .same 9] ⟨by omega, trivial⟩ (by simp only []; omega) ?_
              rw [hst]
              repeat' first | exact trivial | exact rfl | refine And.intro ?_ ?_
          · have htk : (l.drop i).take d = l.drop i := List.take_of_length_le (by rw [List.length_drop]; omega)
            rw [htk]
            (conv => whnf)
            refine cl [6] [0, 2] (ih k (by omega) M (behindF a (l.drop i)) (by omega) h5 hbl hbp) (by (repeat' first | exact trivial | exact rfl | refine And.intro ?_ ?_); first | done | fail) (by first | exact trivial | exact rfl) ?_
            generalize goT k M [] (behindF a (l.drop i)) = R at *
            (conv => whnf)
            refine decN (fun h8 => ?_) (fun h8 => ?_)
            · rw [if_pos h8] at h6
              rw [h6]
              (conv => whnf)
              refine rt [] [.same 0, .same 1, .same 7] (by repeat' first | exact trivial | exact rfl | refine And.intro ?_ ?_) rfl ⟨rfl, rfl⟩
            · rw [if_neg (by simpa using h8)] at h6
              (conv => whnf)
              refine ⟨false, (.l [0, 1, 2, 3, 4, 5, 6, 7, 8, 9, 10]), by kernel_rfl, .inl ?_⟩
              (conv => whnf)
              refine ⟨0, ⟨rfl, hsp⟩, ?_⟩
              (conv => whnf)
              refine ⟨a, by rw [List.getElem?_eq_getElem hsp]; exact congrArg some hfa, ?_⟩
              (conv => whnf)
              refine ⟨[⟨a, 2, R.1, 0⟩], rfl, ?_⟩
              (conv => whnf)
              refine ⟨_, _, rfl, rfl, (by simp only [List.length_append, List.length_cons, List.length_nil]; omega), ?_⟩
              repeat' ((conv => whnf); first | (refine dec (fun h => ?_) (fun h => ?_) <;> try contradiction) | (refine decN (fun h => ?_) (fun h => ?_) <;> try contradiction) | refine booN (fun h => ?_) (fun h => ?_) | refine boo (fun h => ?_) (fun h => ?_) | refine ⟨i64 (by omega) (by omega), ?_⟩ | refine ⟨_, _, rfl, List.getElem?_eq_getElem (by omega), ?_⟩ | refine ⟨_, ⟨rfl, by omega⟩, ?_⟩ | refine ⟨_, List.getElem?_eq_getElem (by omega), ?_⟩ | refine rtB ?_ | refine rtI ?_ | refine rtC ?_ rfl | fail)
              refine ag (k, i + 1, R.2.2, es ++ [⟨a, 2, R.1, 0⟩]) [] [.same 0, .same 1, .same 7, .same 3, .same 9] ⟨⟨hlt, by simp only []; omega, by simp only []; omega, by simp only [List.length_append, List.length_cons, List.length_nil]; omega⟩, hokM, h6⟩ (by simp only []; omega) ?_
              repeat' first | exact trivial | exact rfl | refine And.intro ?_ ?_
      · have hne : lastN es ≠ some (fstN l[i].path) := by
          have : es = [] := by simpa using hn0
          rw [this]; intro h; cases h
        obtain ⟨a, b, _, hab, ha⟩ := cut_some hc
        have hfa : fstN l[i].path = a := by rw [hab]; exact fstN_dir ha
        have hal : a.length ≤ 4000000 := by rw [hab] at hf; simp at hf; omega
        have e : goT (k + 1) M es (l[i] :: l.drop (i + 1)) = if (goT k M [] (behindF a (l.drop i))).2.1 ≠ 0 then (0, (goT k M [] (behindF a (l.drop i))).2.1, (goT k M [] (behindF a (l.drop i))).2.2) else goT k (goT k M [] (behindF a (l.drop i))).2.2 (es ++ [⟨a, 2, (goT k M [] (behindF a (l.drop i))).1, 0⟩]) (l.drop (i + 1)) := by
          rw [goT, if_neg hc, if_neg hne, hfa, ← List.drop_eq_getElem_cons hlt]
        rw [e] at h6
        have hmb := mu_behind a (l.drop i)
        have hmd : mu (l.drop i) = l[i].path.length + 1 + mu (l.drop (i + 1)) := by rw [List.drop_eq_getElem_cons hlt, mu_cons]
        have hb1 : 0 < (behindF a (l.drop i)).length := by
          rw [List.drop_eq_getElem_cons hlt]
          unfold behindF stripF
          rw [List.filterMap_cons, hab, under_of]
          simp
        have hbl : (behindF a (l.drop i)).length ≤ 60 := Nat.le_trans behind_len (by rw [List.length_drop]; omega)
        have hbp : ∀ g ∈ behindF a (l.drop i), g.path.length ≤ 4000000 := fun g hg => by
          obtain ⟨f2, hf2, e2⟩ := behind_mem hg
          have := hp f2 (List.mem_of_mem_drop hf2)
          rw [e2] at this
          simp at this
          omega
        have hokM := goT_ok k M [] (behindF a (l.drop i)) h5
        (conv => whnf)
        refine lp Nat (fun d => ⟨[(0, .c (.ptr 0 0)), (1, .c (.bs 4 Fi encFi l)), (6, .c (.ptr 3 0)), (7, .c (.int .i64 i)), (8, .c (.rw 5)), (10, .c (.rw 6)), (11, .c (.int .i64 ((i : Int) + d)))], [.box [.rw 2], .dead, .row 6 Ob encOb M, .box [.int .i64 2, .nil, .rw 4, .int .i64 0, .nil, .str []], .row 4 Ent encEn es, .row 1 (List UInt8) encS (spl l[i].path), .row 4 Fi encFi (behindF a ((l.drop i).take d))]⟩)
          (fun d => d ≤ l.length - i ∧ True) (fun d => l.length - i - d) 0 [] [.same 0, .same 1, .same 2, .same 3, .same 4, .same 5, .new] ?_ ?_ (fun d hd => ?_)
        · simp
        · repeat' first | exact trivial | exact rfl | refine And.intro ?_ ?_
        have hdl : (behindF a ((l.drop i).take d)).length ≤ 60 := Nat.le_trans behind_len (by rw [List.length_take, List.length_drop]; omega)
        (conv => whnf)
        refine dec (fun h7 => ?_) (fun h7 => ?_)
        · have hdt : d < (l.drop i).length := by rw [List.length_drop]; omega
          have hge : (l.drop i)[d] = l[i + d] := List.getElem_drop ..
          have hst := behind_take (d := a) hdt
          rw [hge] at hst
          (conv => whnf)
          refine ⟨false, (.l [0, 1, 2, 3, 4, 5, 6, 7, 8, 9, 10, 11, 12, 13]), by kernel_rfl, .inl ?_⟩
          (conv => whnf)
          refine ⟨i + d, l[i + d], by simp, List.getElem?_eq_getElem (by omega), ?_⟩
          (conv => whnf)
          refine ⟨0, ⟨rfl, hsp⟩, ?_⟩
          (conv => whnf)
          refine ⟨a, by rw [List.getElem?_eq_getElem hsp]; exact congrArg some hfa, ?_⟩
          (conv => whnf)
          refine cl [] [] (behind_spec l[i + d].path a hal) (by (repeat' first | exact trivial | exact rfl | refine And.intro ?_ ?_); first | done | fail) (by first | exact trivial | exact rfl) ?_
          cases hu : under l[i + d].path a with
          | none =>
            rw [hu] at hst
            simp only [List.append_nil] at hst
            rw [show underP l[i + d].path a = (l[i + d].path, false) by unfold underP; rw [hu]]
            repeat' ((conv => whnf); first | (refine dec (fun h => ?_) (fun h => ?_) <;> try contradiction) | (refine decN (fun h => ?_) (fun h => ?_) <;> try contradiction) | refine booN (fun h => ?_) (fun h => ?_) | refine boo (fun h => ?_) (fun h => ?_) | refine ⟨i64 (by omega) (by omega), ?_⟩ | refine ⟨_, _, rfl, List.getElem?_eq_getElem (by omega), ?_⟩ | refine ⟨_, ⟨rfl, by omega⟩, ?_⟩ | refine ⟨_, List.getElem?_eq_getElem (by omega), ?_⟩ | refine rtB ?_ | refine rtI ?_ | refine rtC ?_ rfl | fail)
            refine ag (d + 1) [] [.same 0, .same 1, .same 2, .same 3, .same 4, .same 5, .same 6] ⟨by omega, trivial⟩ (by simp only []; omega) ?_
            rw [hst]
            repeat' first | exact trivial | exact rfl | refine And.intro ?_ ?_
          | some p =>
            rw [hu] at hst
            simp only [] at hst
            rw [show underP l[i + d].path a = (p, true) by unfold underP; rw [hu]]
            (conv => whnf)
            refine ⟨i + d, l[i + d], by simp, List.getElem?_eq_getElem (by omega), ?_⟩
            (conv => whnf)
            refine ⟨[⟨p, l[i + d].mode, l[i + d].id, l[i + d].repo⟩], rfl, ?_⟩
            (conv => whnf)
            refine ⟨_, _, rfl, rfl, (by simp only [List.length_append, List.length_cons, List.length_nil]; omega), ?_⟩
            repeat' ((conv => whnf); first | (refine dec (fun h => ?_) (fun h => ?_) <;> try contradiction) | (refine decN (fun h => ?_) (fun h => ?_) <;> try contradiction) | refine booN (fun h => ?_) (fun h => ?_) | refine boo (fun h => ?_) (fun h => ?_) | refine ⟨i64 (by omega) (by omega), ?_⟩ | refine ⟨_, _, rfl, List.getElem?_eq_getElem (by omega), ?_⟩ | refine ⟨_, ⟨rfl, by omega⟩, ?_⟩ | refine ⟨_, List.getElem?_eq_getElem (by omega), ?_⟩ | refine rtB ?_ | refine rtI ?_ | refine rtC ?_ rfl | fail)
            refine ag (d + 1) [] [.same 0, .same 1, .same 2, .same 3, .same 4, .same 5, .same 9] ⟨by omega, trivial⟩ (by simp only []; omega) ?_
            rw [hst]
            repeat' first | exact trivial | exact rfl | refine And.intro ?_ ?_
        · have htk : (l.drop i).take d = l.drop i := List.take_of_length_le (by rw [List.length_drop]; omega)
          rw [htk]
          (conv => whnf)
          refine cl [6] [0, 2] (ih k (by omega) M (behindF a (l.drop i)) (by omega) h5 hbl hbp) (by (repeat' first | exact trivial | exact rfl | refine And.intro ?_ ?_); first | done | fail) (by first | exact trivial | exact rfl) ?_
          generalize goT k M [] (behindF a (l.drop i)) = R at *
          (conv => whnf)
          refine decN (fun h8 => ?_) (fun h8 => ?_)
          · rw [if_pos h8] at h6
            rw [h6]
            (conv => whnf)
            refine rt [] [.same 0, .same 1, .same 7] (by repeat' first | exact trivial | exact rfl | refine And.intro ?_ ?_) rfl ⟨rfl, rfl⟩
          · rw [if_neg (by simpa using h8)] at h6
            (conv => whnf)
            refine ⟨false, (.l [0, 1, 2, 3, 4, 5, 6, 7, 8, 9, 10]), by kernel_rfl, .inl ?_⟩
            (conv => whnf)
            refine ⟨0, ⟨rfl, hsp⟩, ?_⟩
            (conv => whnf)
            refine ⟨a, by rw [List.getElem?_eq_getElem hsp]; exact congrArg some hfa, ?_⟩
            (conv => whnf)
            refine ⟨[⟨a, 2, R.1, 0⟩], rfl, ?_⟩
            (conv => whnf)
            refine ⟨_, _, rfl, rfl, (by simp only [List.length_append, List.length_cons, List.length_nil]; omega), ?_⟩
            repeat' ((conv => whnf); first | (refine dec (fun h => ?_) (fun h => ?_) <;> try contradiction) | (refine decN (fun h => ?_) (fun h => ?_) <;> try contradiction) | refine booN (fun h => ?_) (fun h => ?_) | refine boo (fun h => ?_) (fun h => ?_) | refine ⟨i64 (by omega) (by omega), ?_⟩ | refine ⟨_, _, rfl, List.getElem?_eq_getElem (by omega), ?_⟩ | refine ⟨_, ⟨rfl, by omega⟩, ?_⟩ | refine ⟨_, List.getElem?_eq_getElem (by omega), ?_⟩ | refine rtB ?_ | refine rtI ?_ | refine rtC ?_ rfl | fail)
            refine ag (k, i + 1, R.2.2, es ++ [⟨a, 2, R.1, 0⟩]) [] [.same 0, .same 1, .same 7, .same 3, .same 9] ⟨⟨hlt, by simp only []; omega, by simp only []; omega, by simp only [List.length_append, List.length_cons, List.length_nil]; omega⟩, hokM, h6⟩ (by simp only []; omega) ?_
            repeat' first | exact trivial | exact rfl | refine And.intro ?_ ?_
  · rw [List.drop_of_length_le (by simp at hlt; omega)] at h6
    rw [show goT (k + 1) M es [] = putP M (obT es) from rfl] at h6
    rw [h6]
    (conv => whnf)
    refine cl [4] [0, 2] (putR_spec M (obT es) hML) (by (repeat' first | exact trivial | exact rfl | refine And.intro ?_ ?_); first | done | fail) (by first | exact trivial | exact rfl) ?_
    (conv => whnf)
    refine rt [] [.same 0, .same 1, .same 5] (by repeat' first | exact trivial | exact rfl | refine And.intro ?_ ?_) rfl ⟨rfl, rfl⟩
end Go.Nest
