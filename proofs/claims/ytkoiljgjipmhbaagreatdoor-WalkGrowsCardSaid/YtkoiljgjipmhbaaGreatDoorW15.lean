/- PLAIN LAWS, W13: histories. -/
import Derived.Test.YtkoiljgjipmhbaaGreatDoorW10
import Derived.Test.YtkoiljgjipmhbaaGreatDoorW1
import Derived.Test.YtkoiljgjipmhbaaGreatDoorW6
import Derived.Test.YtkoiljgjipmhbaaGreatDoorW7
import Derived.Test.YtkoiljgjipmhbaaGreatDoorP9
import Derived.Test.YtkoiljgjipmhbaaGreatDoorW12
section
namespace Go.Nest
open Go Go.AM
set_option linter.unusedVariables false
set_option linter.unusedSimpArgs false

theorem isP_iff {L : List Ob} (hL : PoolOk L) {a b : Int} (hb : kindOf L b = 3) : isP L a b = true ↔ Anc L b a := by
  unfold isP ancP
  rw [if_pos hb, hasI_iff, mem_anc hL hb]
theorem Anc.trans {L : List Ob} {a b c : Int} (h : Anc L a b) (h2 : Anc L b c) : Anc L a c := by
  induction h with
  | refl => exact h2
  | step h _ ih => exact .step h (ih h2)
theorem Anc.first {L : List Ob} {a b : Int} (h : Anc L a b) : b = a ∨ ∃ p ∈ (getP L a).parents, Anc L p b := by
  cases h with
  | refl => exact .inl rfl
  | step h1 h2 => exact .inr ⟨_, h1, h2⟩

/-! ### what was made are commits -/
theorem docs_ext {L : List Ob} {l : List Dc} : L <+: (docsU L l).1 :=
  docs_fold (P := fun s => L <+: s.1) (fun s d _ h => by
    unfold docStep
    split
    · exact h
    split
    · exact h
    split
    · exact h
    exact h.trans (put_ext _)) (List.prefix_refl _)
theorem kind_pre {L M : List Ob} (h : L <+: M) {k : Int} (hk : ¬ kindOf L k = 0) : kindOf M k = kindOf L k := by
  obtain ⟨r, rfl⟩ := h
  exact kindOf_app hk
theorem grow_ext {s : List Ob × List Int} {n : Sn} (h : PoolOk s.1) : s.1 <+: (growStep s n).1 :=
  (docs_ext.trans (buildP_ok (docs_ok h) _).2).trans (put_ext _)
theorem grow_kind {l : List Sn} : ∀ m ∈ (growU l).2, kindOf (growU l).1 m = 3 := by
  have := grow_fold (P := fun s => PoolOk s.1 ∧ ∀ m ∈ s.2, kindOf s.1 m = 3) (fun s n h => by
    refine ⟨growStep_ok h.1, fun m hm => ?_⟩
    have old : m ∈ s.2 → kindOf (growStep s n).1 m = 3 := fun hm => by
      have := h.2 m hm
      rw [kind_pre (grow_ext h.1) (by omega)]; exact this
    have e : (growStep s n).2 = if (snP s n).2.1 = 0 ∧ (snB s n).2.1 = 0 ∧ (snP s n).1 ∉ s.2 then s.2 ++ [(snP s n).1] else s.2 := rfl
    rw [e] at hm
    split at hm
    · rename_i hc
      rcases List.mem_append.1 hm with hm | hm
      · exact old hm
      · rw [List.mem_singleton] at hm
        subst hm
        have hg := (put_get hc.1).2
        have : (getP (growStep s n).1 (snP s n).1).kind = 3 := by
          show (getP (putP (snB s n).2.2 _).2.2 (putP (snB s n).2.2 _).1).kind = 3
          rw [hg]; rfl
        rw [← this, getP_kind]
    · exact old hm) (l := l) (s := ([], [])) ⟨.nil, fun m hm => by cases hm⟩
  exact this.2

/-! ### bases -/
theorem baseC_comm {L : List Ob} {a b : Int} : baseC L a b = baseC L b a :=
  rise_uniq base_rise base_rise fun x => by
    unfold baseC
    rw [List.mem_filter, List.mem_filter, hasI_iff, hasI_iff]
    exact And.comm
theorem bases_comm {L : List Ob} {a b : Int} (ha : kindOf L a = 3) (hb : kindOf L b = 3) : basesP L a b = basesP L b a := by
  unfold basesP
  rw [if_neg (by simpa using ha), if_neg (by simpa using hb), if_neg (by simpa using hb), if_neg (by simpa using ha), baseC_comm]
theorem mem_baseC {L : List Ob} (hL : PoolOk L) {a b k : Int} (ha : kindOf L a = 3) (hb : kindOf L b = 3) : k ∈ baseC L a b ↔ Anc L a k ∧ Anc L b k := by
  unfold baseC
  rw [List.mem_filter, hasI_iff, mem_anc hL ha, mem_anc hL hb]
theorem mem_tops {L : List Ob} {c : List Int} {k : Int} : k ∈ tops L c ↔ k ∈ c ∧ ∀ m ∈ c, m ≠ k → isP L k m = false := by
  unfold tops
  rw [List.mem_filter]
  refine and_congr_right fun _ => ?_
  rw [Bool.not_eq_true', List.any_eq_false]
  constructor
  · intro h m hm hne
    have := h m hm
    rw [Bool.not_eq_true, Bool.and_eq_false_iff] at this
    rcases this with h | h
    · simp [hne] at h
    · exact h
  · intro h m hm
    rw [Bool.not_eq_true, Bool.and_eq_false_iff]
    by_cases hne : m = k
    · exact .inl (by simp [hne])
    · exact .inr (h m hm hne)
theorem tops_rise {L : List Ob} {c : List Int} (h : c.Pairwise (· < ·)) : (tops L c).Pairwise (· < ·) := h.filter _
/-- above each there is a top -/
theorem tops_above {L : List Ob} (hL : PoolOk L) {a b : Int} (ha : kindOf L a = 3) (hb : kindOf L b = 3) : ∀ (n : Nat) (m : Int), a - m < n → m ∈ baseC L a b → ∃ t ∈ tops L (baseC L a b), isP L m t = true
  | 0, m, h, hm => by
    have := ((mem_baseC hL ha hb).1 hm).1.le hL
    omega
  | n + 1, m, h, hm => by
    have hmk := ((mem_baseC hL ha hb).1 hm).1.kind hL ha
    by_cases ht : m ∈ tops L (baseC L a b)
    · exact ⟨m, ht, (isP_iff hL hmk).2 (.refl m)⟩
    · rw [mem_tops] at ht
      have : ∃ m' ∈ baseC L a b, m' ≠ m ∧ isP L m m' = true := by
        refine Classical.byContradiction fun hc => ht ⟨hm, fun m' hm' hne => ?_⟩
        cases hp : isP L m m' with
        | false => rfl
        | true => exact absurd ⟨m', hm', hne, hp⟩ hc
      obtain ⟨m', hm', hne, hp⟩ := this
      have hmk' := ((mem_baseC hL ha hb).1 hm').1.kind hL ha
      have h1 := (isP_iff hL hmk').1 hp
      have h2 := h1.le hL
      obtain ⟨t, ht, h3⟩ := tops_above hL ha hb n m' (by omega) hm'
      have htk := ((mem_baseC hL ha hb).1 (mem_tops.1 ht).1).1.kind hL ha
      exact ⟨t, ht, (isP_iff hL htk).2 (((isP_iff hL htk).1 h3).trans h1)⟩
theorem tops_one {L : List Ob} (hL : PoolOk L) {a b : Int} (ha : kindOf L a = 3) (hb : kindOf L b = 3) (h : isP L a b = true) : tops L (baseC L a b) = [a] := by
  have hab := (isP_iff hL hb).1 h
  have hac : a ∈ baseC L a b := (mem_baseC hL ha hb).2 ⟨.refl a, hab⟩
  refine rise_uniq (tops_rise base_rise) (by simp) fun k => ?_
  rw [mem_tops, List.mem_singleton]
  constructor
  · rintro ⟨hk, hall⟩
    have hka := ((mem_baseC hL ha hb).1 hk).1
    by_cases e : k = a
    · exact e
    · have := hall a hac (fun h => e h.symm)
      rw [(isP_iff hL ha).2 hka] at this
      cases this
  · rintro rfl
    refine ⟨hac, fun m hm hne => ?_⟩
    have hmk := ((mem_baseC hL ha hb).1 hm).1
    cases hp : isP L k m with
    | false => rfl
    | true =>
      exfalso
      have h1 := ((isP_iff hL (hmk.kind hL ha)).1 hp).le hL
      have h2 := hmk.le hL
      exact hne (by omega)

/-! ### histories -/
theorem anc_want {L : List Ob} (hL : PoolOk L) {id : Int} (hi : kindOf L id = 3) : sortI (id :: (getP L id).parents.flatMap fun p => ancL L p) = ancL L id := by
  refine rise_uniq sortI_rise anc_rise fun x => ?_
  rw [sortI_mem, mem_anc hL hi, List.mem_cons, List.mem_flatMap]
  constructor
  · rintro (rfl | ⟨p, hp, hx⟩)
    · exact .refl _
    · exact .step hp ((mem_anc hL (par_kind hL hi hp)).1 hx)
  · intro h
    rcases h.first with h | ⟨p, hp, h⟩
    · exact .inl h
    · exact .inr ⟨p, hp, (mem_anc hL (par_kind hL hi hp)).2 h⟩
theorem anc_last {L : List Ob} (hL : PoolOk L) {id : Int} (hi : kindOf L id = 3) : 0 < (ancL L id).length ∧ (ancL L id)[(ancL L id).length - 1]? = some id := by
  have hm : id ∈ ancL L id := (mem_anc hL hi).2 (.refl id)
  obtain ⟨i, hlt, e⟩ := List.mem_iff_getElem.1 hm
  refine ⟨by omega, ?_⟩
  rw [List.getElem?_eq_getElem (by omega)]
  have hl : (ancL L id)[(ancL L id).length - 1] ≤ id := ((mem_anc hL hi).1 (List.getElem_mem (by omega))).le hL
  by_cases h0 : i = (ancL L id).length - 1
  · subst h0; rw [e]
  · have := List.pairwise_iff_getElem.1 (anc_rise (L := L) (id := id)) i ((ancL L id).length - 1) hlt (by omega) (by omega)
    omega
end Go.Nest
end
/- WALKS, W15: WalkGrows. -/
section
namespace Go.Nest
open Go Go.AM Go.Proofs
open Go.Proofs.YtkoiljgjipmhbaaGreatDoor (tab tabOk)
set_option linter.unusedVariables false
set_option linter.unusedSimpArgs false
set_option maxRecDepth 4000
def wantI (L : List Ob) (id : Int) (i : Nat) : List Int := id :: ((getP L id).parents.take i).flatMap fun p => ancL L p
theorem want_succ {L : List Ob} {id : Int} {i : Nat} (h : i < (getP L id).parents.length) : wantI L id (i + 1) = wantI L id i ++ ancL L (getP L id).parents[i] := by
  unfold wantI
  rw [List.take_succ_eq_append_getElem h, List.flatMap_append]
  simp
theorem flat_len {L : List Ob} {n : Nat} (h : L.length ≤ n) : ∀ (l : List Int), (l.flatMap fun p => ancL L p).length ≤ l.length * n
  | [] => by simp
  | p :: l => by
    rw [List.flatMap_cons, List.length_append, List.length_cons, Nat.succ_mul]
    have := flat_len h l
    have := anc_len (L := L) (id := p)
    omega
set_option maxHeartbeats 4000000 in
theorem walkGrows_spec (l : List Sn) (k : Int) (hl : ∀ s ∈ l, DocsFit s.docs) : Does Tryz.prog 6 [.c (.ls 3 Sn encSn l), .c (.int .i64 k)] [] (Rt (.c (.bool true)) []) := by
  refine X_spec ⟨Tryz.prog, tab, 98, 0⟩ tabOk (by kernel_rfl) Tryz.call6 Tryz.func6 rfl rfl (by kernel_rfl) rfl ?_
  intro hb
  (conv => whnf)
  refine cl [] [] (walkBegun_spec) (by (repeat' first | exact trivial | exact rfl | refine And.intro ?_ ?_); first | done | fail) (by first | exact trivial | exact rfl) ?_
  (conv => whnf)
  refine cl [] [] (greatSnaps_spec l hl) (by (repeat' first | exact trivial | exact rfl | refine And.intro ?_ ?_); first | done | fail) (by first | exact trivial | exact rfl) ?_
  (conv => whnf)
  refine boo (fun g1 => ?_) (fun g1 => ?_)
  · (conv => whnf)
    exact rtC rfl rfl
  have hg := greatS_ok g1
  (conv => whnf)
  refine cl [] [] (grown_spec l hg) (by (repeat' first | exact trivial | exact rfl | refine And.intro ?_ ?_); first | done | fail) (by first | exact trivial | exact rfl) ?_
  have hL : PoolOk (growU l).1 := grow_ok
  have hk : ∀ m ∈ (growU l).2, kindOf (growU l).1 m = 3 := grow_kind
  have hml : (growU l).2.length ≤ 25 := Nat.le_trans grow_len (by simpa using hg.1)
  generalize growU l = G at *
  obtain ⟨L, made⟩ := G
  dsimp only at hL hk hml
  (conv => whnf)
  refine dec (fun h0 => ?_) (fun h0 => ?_)
  · (conv => whnf)
    exact rtC rfl rfl
  have hne : made.length ≠ 0 := fun h => h0 (by rw [h]; rfl)
  have hx : kindOf L (oneP made k) = 3 := hk _ (by unfold oneP; rw [if_neg hne]; exact pick_mem hne (by omega))
  (conv => whnf)
  refine cl [] [] (one_spec made k) (by (repeat' first | exact trivial | exact rfl | refine And.intro ?_ ?_); first | done | fail) (by first | exact trivial | exact rfl) ?_
  clear h0
  generalize oneP made k = id at *
  have hlen := hL.len
  have hpos := kindOf_pos (l := L) (id := id) (by omega)
  have hpar : (getP L id).parents.length ≤ 3 := (objF_ok (hL.obj (getP L id) (by rw [getP_at hpos.1 hpos.2]; exact List.getElem_mem _)).1).parents
  (conv => whnf)
  refine cl [] [] (get_spec L hL id) (by (repeat' first | exact trivial | exact rfl | refine And.intro ?_ ?_); first | done | fail) (by first | exact trivial | exact rfl) ?_
  (conv => whnf)
  refine ⟨[id], rfl, ?_⟩
  (conv => whnf)
  refine lp Nat (fun i => ⟨[(5, .c (.ptr 0 0)), (9, .c (.int .i64 id)), (10, .c (.ptr 5 0)), (12, .c (.rw 6)), (13, .c (.int .i64 i))], [.box [.rw 1], .row 6 Ob encOb L, .box [.rw 3], .row 6 Ob encOb L, .row 1 Int encI made, .box (encOb (getP L id)), .row 1 Int encI (wantI L id i)]⟩) (fun i => i ≤ (getP L id).parents.length ∧ True) (fun i => (getP L id).parents.length - i) 0 [] [.same 0, .same 1, .same 2, .same 3, .same 4, .same 5, .same 6] ?_ ?_ (fun i hi => ?_)
  · simp
  · repeat' first | exact trivial | exact rfl | refine And.intro ?_ ?_
  have hwl : (wantI L id i).length ≤ 1801 := by
    have := flat_len hlen ((getP L id).parents.take i)
    rw [List.length_take] at this
    unfold wantI
    rw [List.length_cons]
    omega
  (conv => whnf)
  refine dec (fun h4 => ?_) (fun h4 => ?_)
  · have hlt : i < (getP L id).parents.length := by have h4 : (i : Int) < (getP L id).parents.length := h4; omega
    have hs := want_succ hlt
    have hp := List.getElem_mem hlt
    have hpl := (par_lt hL hp).2.1
    have p1 := ancestors_spec L hL (getP L id).parents[i]
    rw [show ancP L (getP L id).parents[i] = (ancL L (getP L id).parents[i], 0) from if_pos (par_kind hL hx hp)] at p1
    have hal := anc_len (L := L) (id := (getP L id).parents[i])
    dsimp only at p1
    (conv => whnf)
    refine ⟨i, _, rfl, List.getElem?_eq_getElem hlt, ?_⟩
    (conv => whnf)
    refine cl [] [] (p1) (by (repeat' first | exact trivial | exact rfl | refine And.intro ?_ ?_); first | done | fail) (by first | exact trivial | exact rfl) ?_
    (conv => whnf)
    refine ⟨i, _, rfl, List.getElem?_eq_getElem hlt, ?_⟩
    (conv => whnf)
    refine dec (fun h5 => ?_) (fun h5 => ?_)
    · exfalso
      have h5 : id ≤ (getP L id).parents[i] := h5
      omega
    (conv => whnf)
    refine ⟨_, _, rfl, rfl, (by simp only [List.length_append, List.length_cons, List.length_nil]; omega), ?_⟩
    (conv => whnf)
    refine ⟨i64 (by omega) (by omega), ?_⟩
    repeat' ((conv => whnf); first | (refine dec (fun h => ?_) (fun h => ?_) <;> try contradiction) | (refine decN (fun h => ?_) (fun h => ?_) <;> try contradiction) | refine booN (fun h => ?_) (fun h => ?_) | refine boo (fun h => ?_) (fun h => ?_) | refine ⟨i64 (by omega) (by omega), ?_⟩ | refine ⟨_, _, rfl, List.getElem?_eq_getElem (by omega), ?_⟩ | refine ⟨_, ⟨rfl, by omega⟩, ?_⟩ | refine ⟨_, List.getElem?_eq_getElem (by omega), ?_⟩ | refine rtB ?_ | refine rtI ?_ | refine rtC ?_ rfl | fail)
    refine ag (i + 1) [] [.same 0, .same 1, .same 2, .same 3, .same 4, .same 5, .same 8] ⟨hlt, trivial⟩ (by simp only []; omega) ?_
    rw [hs]
    repeat' first | exact trivial | exact rfl | refine And.intro ?_ ?_
  · have hi2 : i = (getP L id).parents.length := by have h4 : ¬ (i : Int) < (getP L id).parents.length := h4; omega
    subst hi2
    have e : sortI (wantI L id (getP L id).parents.length) = ancL L id := by unfold wantI; rw [List.take_length]; exact anc_want hL hx
    have p1 := ancestors_spec L hL id
    rw [show ancP L id = (ancL L id, 0) from if_pos hx] at p1
    have p2 := sortedI_spec _ (Nat.le_trans hwl (by decide))
    rw [e] at p2
    obtain ⟨l1, l2⟩ := anc_last hL hx
    have hal := anc_len (L := L) (id := id)
    dsimp only at p1
    (conv => whnf)
    refine cl [] [] (p1) (by (repeat' first | exact trivial | exact rfl | refine And.intro ?_ ?_); first | done | fail) (by first | exact trivial | exact rfl) ?_
    (conv => whnf)
    refine cl [] [] (p2) (by (repeat' first | exact trivial | exact rfl | refine And.intro ?_ ?_); first | done | fail) (by first | exact trivial | exact rfl) ?_
    (conv => whnf)
    refine cl [] [] (sameI_self (ancL L id)) (by (repeat' first | exact trivial | exact rfl | refine And.intro ?_ ?_); first | done | fail) (by first | exact trivial | exact rfl) ?_
    (conv => whnf)
    refine ⟨i64 (by omega) (by omega), ?_⟩
    (conv => whnf)
    refine ⟨(ancL L id).length - 1, ⟨by omega, by omega⟩, ?_⟩
    (conv => whnf)
    refine ⟨_, l2, ?_⟩
    (conv => whnf)
    exact rtB (decide_eq_true rfl)
end Go.Nest
end
