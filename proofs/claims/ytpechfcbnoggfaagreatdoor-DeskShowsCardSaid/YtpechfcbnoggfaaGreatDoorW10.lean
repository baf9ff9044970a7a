/- part -/
import Derived.Test.YtpechfcbnoggfaaGreatDoorJ1
import Derived.Test.YtpechfcbnoggfaaGreatDoorP9
import Derived.Test.YtpechfcbnoggfaaGreatDoorG9
import Derived.Test.YtpechfcbnoggfaaGreatDoorAmG
import Derived.Test.YtpechfcbnoggfaaGreatDoorL0
import Derived.Test.YtpechfcbnoggfaaGreatDoorV1
set_option linter.unusedVariables false
set_option linter.unusedSimpArgs false
section

namespace Go.Nest
open Go Go.AM Go.Proofs Go.RowKit
open Go.Proofs.YtpechfcbnoggfaaGreatDoor (tab tabOk)
set_option maxRecDepth 4000
theorem join_unsp : ∀ l : List (List UInt8), Lib.join l [47] = unsp l
 | [] => rfl
 | [x] => by simp [Lib.join, unsp]
 | x :: y :: r => by
  have := join_unsp (y :: r)
  simp [Lib.join, unsp] at this ⊢
  rw [← this]
theorem extra156 : Builder.Extra Tryz.prog ren156 where
 sizeBuilder := by kernel_rfl
 liesBuilder := by kernel_rfl
 t5 := Tryz.underlying5
 a5 := Tryz.isAgg5
 z5 := Tryz.sizeOf5
 v5 := Tryz.zeroValue5
 infoByte := by kernel_rfl
 cellsByte := by kernel_rfl
 sizeByte := by kernel_rfl
 neB5 := by decide
theorem stringsJoin_spec (l : List (List UInt8)) (hl : l.length ≤ 1000000) (hlen : (unsp l).length ≤ 140737488355328) : Does Tryz.prog 190 [.c (.bs 1 (List UInt8) encS l), .c (.str [47])] [] (Rt (.c (.str (unsp l))) []) := by
 cases l with
 | nil =>
  refine X_spec (n := 75) (n0 := 0) tabOk Tryz.call190 Tryz.func190 ?_
  intro hb
  (conv => whnf)
  exact rtC rfl rfl
 | cons x0 l0 =>
  generalize hl0 : x0 :: l0 = l at *
  have hne : l ≠ [] := by rw [← hl0]; simp
  refine Does.of_below rfl Tryz.call190 (fun F L γ w vs h hlt => ?_)
  match vs, h with
  | [v1, v2], ⟨h1, h2, _⟩ =>
   cases h2 with
   | str _ _ =>
    cases h1 with
    | bs0 _ => exact absurd rfl hne
    | @bs _ _ _ _ _ b off cap css _ _ hb g1 g2 hr hz hc _ =>
     have e1 := strs_of hr
     have e2 : (List.map (fun x : ByteArray => x.data.toList) (List.map (fun s : List UInt8 => (⟨s.toArray⟩ : ByteArray)) l)) = l := by rw [List.map_map]; exact (List.map_congr_left (fun s _ => by simp)).trans (List.map_id' l)
     have hcon := Any.strings_Join_48 lay156 extra156 b off cap (l.map fun s => ⟨s.toArray⟩) ⟨[47].toArray⟩ w (fun j x hx => ?_) (hlt b hb) (by simp; omega) (by simpa using g1) (by rw [e2]; show (Lib.join l [47]).length ≤ _; rw [join_unsp]; omega)
     ·refine ⟨NB.str (unsp l), fun F H m => .str (by omega) .nl, ?_⟩
      rw [e2] at hcon
      have e3 : Lib.join l (⟨[47].toArray⟩ : ByteArray).data.toList = unsp l := join_unsp l
      rw [e3, List.length_map] at hcon
      exact hcon
     ·rw [List.getElem?_map] at hx
      obtain ⟨s, hs, rfl⟩ := Option.map_eq_some_iff.1 hx
      have := hc j (NB.str s) (by rw [e1, List.getElem?_map, hs]; rfl)
      rw [NB.cell?_of rfl]
      exact this
theorem pathsJoin_spec (l : List (List UInt8)) (hl : l.length ≤ 1000000) (hlen : (unsp l).length ≤ 140737488355328) : Does Tryz.prog 298 [.c (.bs 1 (List UInt8) encS l)] [] (Rt (.c (.str (unsp l))) []) := by
 refine X_spec (n := 5) (n0 := 0) tabOk Tryz.call298 Tryz.func298 ?_
 intro hb
 (conv => whnf)
 refine cl [] [] (stringsJoin_spec l hl hlen) ?_
 (conv => whnf)
 exact rtC rfl rfl
end Go.Nest
end
/- part -/
section

namespace Go.Nest
open Go Go.AM Go.Proofs
open Go.Proofs.YtpechfcbnoggfaaGreatDoor (tab tabOk)
set_option maxRecDepth 4000
theorem eqFi {a b : Fi} : EqCs (encFi a) (encFi b) ↔ a = b := by
 cases a; cases b; simp [encFi, EqCs, EqC]
theorem cloneTexts_spec (l : List (List UInt8)) (hl : l.length * 16 ≤ 140737488355328) : Does Tryz.prog 297 [.c (.bs 1 (List UInt8) encS l)] [] (Rt (.c (.rw 0)) [.row 1 (List UInt8) encS l]) := by
 refine X_spec (n := 8) (n0 := 0) tabOk Tryz.call297 Tryz.func297 ?_
 intro hb
 (conv => whnf)
 intro q hq
 (conv => whnf)
 refine boo (fun h => ?_) (fun h => ?_)
 ·obtain rfl := hq h
  (conv => whnf)
  exact rx [] [.new]
 ·(conv => whnf)
  refine ⟨[], rfl, ?_⟩
  (conv => whnf)
  refine ⟨_, _, rfl, rfl, (by simp only [List.length_append, List.length_cons, List.length_nil]; omega), ?_⟩
  (conv => whnf)
  exact rx [] [.same 1]
theorem cutL_spec (s : List UInt8) : Does Tryz.prog 186 [.c (.str s), .c (.str [47])] [] (Rt (.tup [(false, [.str (cutP s).1]), (false, [.str (cutP s).2.1]), (false, [.bool (cutP s).2.2])]) []) := by
 refine X_spec (n := 23) (n0 := 0) tabOk Tryz.call186 Tryz.func186 ?_
 intro hb
 have hb : s.length ≤ 9223372036854775807 := hb.1.1
 (conv => whnf)
 refine cl [] [] (sliteIndex_spec s) ?_
 repeat' ((conv => whnf); first | (refine dec (fun h => ?_) (fun h => ?_) <;> try contradiction) | fail)
 ·have hlt : (Lib.indexByte s 47).toNat < s.length := by
   by_cases hc : s.count 47 = 0
   ·rw [idx_none hc] at h; omega
   ·obtain ⟨m, h1, h2, _⟩ := idx_stroke (l := s) (by omega)
    omega
  have hc : cutP s = (s.take (Lib.indexByte s 47).toNat, s.drop ((Lib.indexByte s 47).toNat + 1), true) := by unfold cutP; rw [if_pos h]
  rw [hc]
  (conv => whnf)
  refine ⟨false, .grow, (.l [0, 1, 2, 3, 4, 5, 6, 7, 8, 9, 10, 11]), by kernel_rfl, .inl ?_⟩
  (conv => whnf)
  refine ⟨0, (Lib.indexByte s 47).toNat, rfl, (Int.toNat_of_nonneg h).symm, ⟨Nat.zero_le _, by omega⟩, ?_⟩
  refine ⟨i64 (by simp; omega) (by simp; omega), ?_⟩
  (conv => whnf)
  refine ⟨(Lib.indexByte s 47).toNat + 1, s.length, ?_, rfl, ⟨by omega, Nat.le_refl _⟩, ?_⟩
  ·simp; omega
  (conv => whnf)
  have e1 : s.take s.length = s := List.take_of_length_le (Nat.le_refl _)
  rw [e1]
  exact rx [] []
 ·have hc : cutP s = (s, [], false) := by unfold cutP; rw [if_neg h]
  rw [hc]
  (conv => whnf)
  exact rx [] []
theorem cut_spec (s : List UInt8) : Does Tryz.prog 112 [.c (.str s), .c (.str [47])] [] (Rt (.tup [(false, [.str (cutP s).1]), (false, [.str (cutP s).2.1]), (false, [.bool (cutP s).2.2])]) []) := by
 refine X_spec (n := 13) (n0 := 0) tabOk Tryz.call112 Tryz.func112 ?_
 intro hb
 (conv => whnf)
 refine cl [] [] (cutL_spec s) ?_
 (conv => whnf)
 exact rx [] []
end Go.Nest
end
/- part -/
section

namespace Go.Nest
open Go Go.AM Go.Proofs
open Go.Proofs.YtpechfcbnoggfaaGreatDoor (tab tabOk)
set_option maxRecDepth 4000
set_option maxHeartbeats 2000000 in
theorem diff_spec (a b : List Fi) (hla : a.length ≤ 150) (hlb : b.length ≤ 150) (ha : ∀ f ∈ a, f.path.length ≤ 4000000) (hb' : ∀ f ∈ b, f.path.length ≤ 4000000) : Does Tryz.prog 165 [.c (.bs 4 Fi encFi a), .c (.bs 4 Fi encFi b)] [] (Rt (.c (.rw 0)) [.row 9 Ch encCh (diffP a b)]) := by
 refine X_spec (n := 101) (n0 := 0) tabOk Tryz.call165 Tryz.func165 ?_
 intro hb
 (conv => whnf)
 refine lp (List Fi × List Fi × List Ch) (fun x => ⟨[(0, .c (.bs 4 Fi encFi x.1)), (1, .c (.bs 4 Fi encFi x.2.1)), (5, .c (.rw 0))], [.row 9 Ch encCh x.2.2]⟩) (fun x => (x.1.length ≤ 150 ∧ x.2.1.length ≤ 150 ∧ x.2.2.length + x.1.length + x.2.1.length ≤ 300) ∧ ((∀ f ∈ x.1, f.path.length ≤ 4000000) ∧ ∀ f ∈ x.2.1, f.path.length ≤ 4000000) ∧ x.2.2 ++ diffP x.1 x.2.1 = diffP a b) (fun x => x.1.length + x.2.1.length) (a, b, []) [] [.new] ?_ ?_ (fun x hx => ?_)
 ·exact ⟨⟨hla, hlb, by simp; omega⟩, ⟨ha, hb'⟩, rfl⟩
 ·repeat' first | exact trivial | exact rfl | refine And.intro ?_ ?_
 obtain ⟨p, q, out⟩ := x
 obtain ⟨⟨h1, h2, h3⟩, ⟨h4, h5⟩, h6⟩ := hx
 dsimp only at h1 h2 h3 h4 h5 h6
 have cp : ∀ (h : 0 < p.length), p = p[0] :: p.drop 1 := fun h => by cases p with | nil => cases h | cons _ _ => rfl
 have cq : ∀ (h : 0 < q.length), q = q[0] :: q.drop 1 := fun h => by cases q with | nil => cases h | cons _ _ => rfl
 have nilOf : ∀ {l : List Fi}, ¬ 0 < l.length → l = [] := fun h => List.eq_nil_of_length_eq_zero (by omega)
 have tp : ((p, q, out).1.drop 1).take (p.length - 1) = p.drop 1 := List.take_of_length_le (by simp)
 have tq : ((p, q, out).2.1.drop 1).take (q.length - 1) = q.drop 1 := List.take_of_length_le (by simp)
 have dp : ∀ f ∈ p.drop 1, f.path.length ≤ 4000000 := fun f hf => h4 f (List.mem_of_mem_drop hf)
 have dq : ∀ f ∈ q.drop 1, f.path.length ≤ 4000000 := fun f hf => h5 f (List.mem_of_mem_drop hf)
 (conv => whnf)
 refine dec (fun hp => ?_) (fun hp => ?_)
 ·have hp : 0 < p.length := by simpa using hp
  (conv => whnf)
  refine ⟨false, .grow, (.l [0, 1, 2, 3, 4, 5, 6, 7, 8, 9, 10, 11, 12, 13, 14, 15, 16, 17, 18, 19]), by kernel_rfl, .inl ?_⟩
  (conv => whnf)
  refine dec (fun hq => ?_) (fun hq => ?_)
  ·have hq : ¬ 0 < q.length := by simp at hq; simp [hq]
   have e : out ++ diffP p q = (out ++ [⟨p[0].path, p[0], fi0⟩]) ++ diffP (p.drop 1) q := by
    rw [nilOf hq]; conv => lhs; rw [cp hp]
    rw [diffP]; simp
   (conv => whnf)
   refine ⟨false, .grow, (.l [0, 1, 2, 3, 4, 5, 6, 7, 8, 9, 10, 11]), by kernel_rfl, .inl ?_⟩
   (conv => whnf)
   refine ⟨0, p[0], rfl, List.getElem?_eq_getElem hp, ?_⟩
   (conv => whnf)
   refine ⟨0, p[0], rfl, List.getElem?_eq_getElem hp, ?_⟩
   (conv => whnf)
   refine ⟨[⟨p[0].path, p[0], fi0⟩], rfl, ?_⟩
   (conv => whnf)
   refine ⟨_, _, rfl, rfl, (by simp only [List.length_append, List.length_cons, List.length_nil]; omega), ?_⟩
   (conv => whnf)
   refine ⟨1, p.length, rfl, rfl, ⟨hp, Nat.le_refl _⟩, ?_⟩
   (conv => whnf)
   rw [tp]
   refine ag (p.drop 1, q, out ++ [⟨p[0].path, p[0], fi0⟩]) [] [.same 2] ⟨⟨by rw [List.length_drop]; omega, h2, by rw [List.length_append, List.length_drop]; simp; omega⟩, ⟨dp, h5⟩, by rw [← e]; exact h6⟩ (by simp; omega) ?_
   repeat' first | exact trivial | exact rfl | refine And.intro ?_ ?_
  ·have hq : 0 < q.length := by simp at hq; exact List.length_pos_iff.2 hq
   (conv => whnf)
   refine dec (fun _ => ?_) (fun h0 => absurd (by simpa using hp) h0)
   (conv => whnf)
   refine ⟨0, p[0], rfl, List.getElem?_eq_getElem hp, ?_⟩
   (conv => whnf)
   refine ⟨0, q[0], rfl, List.getElem?_eq_getElem hq, ?_⟩
   (conv => whnf)
   refine cl [] [] (less_spec p[0].path q[0].path (h4 _ (List.getElem_mem _)) (h5 _ (List.getElem_mem _))) ?_
   (conv => whnf)
   refine boo (fun hl => ?_) (fun hl => ?_)
   ·have e : out ++ diffP p q = (out ++ [⟨p[0].path, p[0], fi0⟩]) ++ diffP (p.drop 1) q := by
     conv => lhs; rw [cp hp, cq hq]
     rw [diffP, if_pos hl, ← cq hq]; simp
    (conv => whnf)
    refine ⟨false, .grow, (.l [0, 1, 2, 3, 4, 5, 6, 7, 8, 9, 10, 11]), by kernel_rfl, .inl ?_⟩
    (conv => whnf)
    refine ⟨0, p[0], rfl, List.getElem?_eq_getElem hp, ?_⟩
    (conv => whnf)
    refine ⟨0, p[0], rfl, List.getElem?_eq_getElem hp, ?_⟩
    (conv => whnf)
    refine ⟨[⟨p[0].path, p[0], fi0⟩], rfl, ?_⟩
    (conv => whnf)
    refine ⟨_, _, rfl, rfl, (by simp only [List.length_append, List.length_cons, List.length_nil]; omega), ?_⟩
    (conv => whnf)
    refine ⟨1, p.length, rfl, rfl, ⟨hp, Nat.le_refl _⟩, ?_⟩
    (conv => whnf)
    rw [tp]
    refine ag (p.drop 1, q, out ++ [⟨p[0].path, p[0], fi0⟩]) [] [.same 2] ⟨⟨by rw [List.length_drop]; omega, h2, by rw [List.length_append, List.length_drop]; simp; omega⟩, ⟨dp, h5⟩, by rw [← e]; exact h6⟩ (by simp; omega) ?_
    repeat' first | exact trivial | exact rfl | refine And.intro ?_ ?_
   ·(conv => whnf)
    refine ⟨false, .grow, (.l [0, 1, 2, 3, 4, 5, 6, 7, 8, 9, 10, 11, 12, 13, 14]), by kernel_rfl, .inl ?_⟩
    (conv => whnf)
    refine dec (fun h0 => absurd h0 (by simp; exact List.length_pos_iff.1 hp)) (fun _ => ?_)
    (conv => whnf)
    refine ⟨0, q[0], rfl, List.getElem?_eq_getElem hq, ?_⟩
    (conv => whnf)
    refine ⟨0, p[0], rfl, List.getElem?_eq_getElem hp, ?_⟩
    (conv => whnf)
    refine cl [] [] (less_spec q[0].path p[0].path (h5 _ (List.getElem_mem _)) (h4 _ (List.getElem_mem _))) ?_
    (conv => whnf)
    refine boo (fun hg => ?_) (fun hg => ?_)
    ·have e : out ++ diffP p q = (out ++ [⟨q[0].path, fi0, q[0]⟩]) ++ diffP p (q.drop 1) := by
      conv => lhs; rw [cp hp, cq hq]
      rw [diffP, if_neg (by simp [hl]), if_pos hg, ← cp hp]; simp
     (conv => whnf)
     refine ⟨false, .grow, (.l [0, 1, 2, 3, 4, 5, 6, 7, 8, 9, 10, 11]), by kernel_rfl, .inl ?_⟩
     (conv => whnf)
     refine ⟨0, q[0], rfl, List.getElem?_eq_getElem hq, ?_⟩
     (conv => whnf)
     refine ⟨0, q[0], rfl, List.getElem?_eq_getElem hq, ?_⟩
     (conv => whnf)
     refine ⟨[⟨q[0].path, fi0, q[0]⟩], rfl, ?_⟩
     (conv => whnf)
     refine ⟨_, _, rfl, rfl, (by simp only [List.length_append, List.length_cons, List.length_nil]; omega), ?_⟩
     (conv => whnf)
     refine ⟨1, q.length, rfl, rfl, ⟨hq, Nat.le_refl _⟩, ?_⟩
     (conv => whnf)
     rw [tq]
     refine ag (p, q.drop 1, out ++ [⟨q[0].path, fi0, q[0]⟩]) [] [.same 2] ⟨⟨h1, by rw [List.length_drop]; omega, by rw [List.length_append, List.length_drop]; simp; omega⟩, ⟨h4, dq⟩, by rw [← e]; exact h6⟩ (by simp; omega) ?_
     repeat' first | exact trivial | exact rfl | refine And.intro ?_ ?_
    ·(conv => whnf)
     refine ⟨false, .grow, (.l [0, 1, 2, 3, 4, 5, 6]), by kernel_rfl, .inl ?_⟩
     (conv => whnf)
     refine ⟨0, p[0], rfl, List.getElem?_eq_getElem hp, ?_⟩
     (conv => whnf)
     refine ⟨0, q[0], rfl, List.getElem?_eq_getElem hq, ?_⟩
     (conv => whnf)
     have e0 : out ++ diffP p q = out ++ (if p[0] ≠ q[0] then ⟨p[0].path, p[0], q[0]⟩ :: diffP (p.drop 1) (q.drop 1) else diffP (p.drop 1) (q.drop 1)) := by
      conv => lhs; rw [cp hp, cq hq]
      rw [diffP, if_neg (by simp [hl]), if_neg (by simp [hg])]
     refine decN (fun hd => ?_) (fun hd => ?_)
     ·rw [if_pos (fun h => hd (eqFi.2 h))] at e0
      have e : out ++ diffP p q = (out ++ [⟨p[0].path, p[0], q[0]⟩]) ++ diffP (p.drop 1) (q.drop 1) := by rw [e0]; simp
      (conv => whnf)
      refine ⟨false, .grow, (.l [0, 1, 2, 3, 4, 5, 6, 7, 8, 9, 10, 11, 12, 13, 14]), by kernel_rfl, .inl ?_⟩
      (conv => whnf)
      refine ⟨0, p[0], rfl, List.getElem?_eq_getElem hp, ?_⟩
      (conv => whnf)
      refine ⟨0, p[0], rfl, List.getElem?_eq_getElem hp, ?_⟩
      (conv => whnf)
      refine ⟨0, q[0], rfl, List.getElem?_eq_getElem hq, ?_⟩
      (conv => whnf)
      refine ⟨[⟨p[0].path, p[0], q[0]⟩], rfl, ?_⟩
      (conv => whnf)
      refine ⟨_, _, rfl, rfl, (by simp only [List.length_append, List.length_cons, List.length_nil]; omega), ?_⟩
      (conv => whnf)
      refine ⟨false, .grow, (.l [0, 1, 2, 3, 4, 5]), by kernel_rfl, .inl ?_⟩
      (conv => whnf)
      refine ⟨1, p.length, rfl, rfl, ⟨hp, Nat.le_refl _⟩, ?_⟩
      (conv => whnf)
      refine ⟨1, q.length, rfl, rfl, ⟨hq, Nat.le_refl _⟩, ?_⟩
      (conv => whnf)
      rw [tp, tq]
      refine ag (p.drop 1, q.drop 1, out ++ [⟨p[0].path, p[0], q[0]⟩]) [] [.same 2] ⟨⟨by rw [List.length_drop]; omega, by rw [List.length_drop]; omega, by rw [List.length_append, List.length_drop, List.length_drop]; simp; omega⟩, ⟨dp, dq⟩, by rw [← e]; exact h6⟩ (by simp; omega) ?_
      repeat' first | exact trivial | exact rfl | refine And.intro ?_ ?_
     ·rw [if_neg (fun h => h (eqFi.1 hd))] at e0
      (conv => whnf)
      refine ⟨false, .grow, (.l [0, 1, 2, 3, 4, 5]), by kernel_rfl, .inl ?_⟩
      (conv => whnf)
      refine ⟨1, p.length, rfl, rfl, ⟨hp, Nat.le_refl _⟩, ?_⟩
      (conv => whnf)
      refine ⟨1, q.length, rfl, rfl, ⟨hq, Nat.le_refl _⟩, ?_⟩
      (conv => whnf)
      rw [tp, tq]
      refine ag (p.drop 1, q.drop 1, out) [] [.same 0] ⟨⟨by rw [List.length_drop]; omega, by rw [List.length_drop]; omega, by simp only [List.length_drop]; omega⟩, ⟨dp, dq⟩, by rw [← e0]; exact h6⟩ (by simp; omega) ?_
      repeat' first | exact trivial | exact rfl | refine And.intro ?_ ?_
 ·have hp : ¬ 0 < p.length := by simp at hp; simp [hp]
  (conv => whnf)
  refine dec (fun hq => ?_) (fun hq => ?_)
  ·have hq : 0 < q.length := by simpa using hq
   have e : out ++ diffP p q = (out ++ [⟨q[0].path, fi0, q[0]⟩]) ++ diffP p (q.drop 1) := by
    rw [nilOf hp]; conv => lhs; rw [cq hq]
    rw [diffP]; simp
   (conv => whnf)
   refine ⟨false, .grow, (.l [0, 1, 2, 3, 4, 5, 6, 7, 8, 9, 10, 11, 12, 13, 14, 15, 16, 17, 18, 19]), by kernel_rfl, .inl ?_⟩
   (conv => whnf)
   refine dec (fun h0 => absurd h0 (by simp; exact List.length_pos_iff.1 hq)) (fun _ => ?_)
   (conv => whnf)
   refine dec (fun h0 => absurd (by simpa using h0) hp) (fun _ => ?_)
   (conv => whnf)
   refine ⟨false, .grow, (.l [0, 1, 2, 3, 4, 5, 6, 7, 8, 9, 10, 11, 12, 13, 14]), by kernel_rfl, .inl ?_⟩
   (conv => whnf)
   refine dec (fun _ => ?_) (fun h0 => absurd (by simp; exact nilOf hp) h0)
   (conv => whnf)
   refine ⟨false, .grow, (.l [0, 1, 2, 3, 4, 5, 6, 7, 8, 9, 10, 11]), by kernel_rfl, .inl ?_⟩
   (conv => whnf)
   refine ⟨0, q[0], rfl, List.getElem?_eq_getElem hq, ?_⟩
   (conv => whnf)
   refine ⟨0, q[0], rfl, List.getElem?_eq_getElem hq, ?_⟩
   (conv => whnf)
   refine ⟨[⟨q[0].path, fi0, q[0]⟩], rfl, ?_⟩
   (conv => whnf)
   refine ⟨_, _, rfl, rfl, (by simp only [List.length_append, List.length_cons, List.length_nil]; omega), ?_⟩
   (conv => whnf)
   refine ⟨1, q.length, rfl, rfl, ⟨hq, Nat.le_refl _⟩, ?_⟩
   (conv => whnf)
   rw [tq]
   refine ag (p, q.drop 1, out ++ [⟨q[0].path, fi0, q[0]⟩]) [] [.same 2] ⟨⟨h1, by rw [List.length_drop]; omega, by rw [List.length_append, List.length_drop]; simp; omega⟩, ⟨h4, dq⟩, by rw [← e]; exact h6⟩ (by simp; omega) ?_
   repeat' first | exact trivial | exact rfl | refine And.intro ?_ ?_
  ·have hq : ¬ 0 < q.length := by simp at hq; simp [hq]
   rw [nilOf hp, nilOf hq] at h6
   rw [show diffP [] [] = [] by unfold diffP; rfl, List.append_nil] at h6
   (conv => whnf)
   rw [← h6]
   exact rx [] [.same 0]
end Go.Nest
end
/- part -/
section

namespace Go.Nest
open Go Go.AM Go.Proofs
open Go.Proofs.YtpechfcbnoggfaaGreatDoor (tab tabOk)
set_option maxRecDepth 4000
theorem ins_at {f : Fi} {out : List Fi} {k : Nat} (hk : k ≤ out.length) (h1 : ∀ g ∈ out.take k, lessP f.path g.path = false) (h2 : ∀ h : k < out.length, lessP f.path out[k].path = true) : insF f out = out.take k ++ f :: out.drop k := by
 obtain ⟨h3, h4⟩ := tw_at (p := fun g : Fi => !lessP f.path g.path) hk (fun g hg => by simp [h1 g hg]) (fun h => by simp [h2 h])
 unfold insF
 rw [h3, h4]
end Go.Nest
end
/- part -/
section

namespace Go.Nest
open Go Go.AM Go.Proofs
open Go.Proofs.YtpechfcbnoggfaaGreatDoor (tab tabOk)
set_option maxRecDepth 4000
def blobO (b : List UInt8) : Ob := ⟨1, b, [], 0, [], []⟩
end Go.Nest
end
/- part -/
section

namespace Go.Nest
open Go Go.AM
def hitW (p : List UInt8) (y : It) : Bool := (underP p y.path).2 || (underP y.path p).2
def atW (p : List UInt8) (y : It) : Bool := decide (y.path = p)
def posW (l : List It) (p : List UInt8) : Nat := (l.takeWhile fun y => lessP y.path p).length
def putW (l : List It) (x : It) : Int × List It :=
 if (splitP x.path).2 ≠ 0 then ((splitP x.path).2, l) else if l.any (hitW x.path) = true then (10, l) else
 if 0 ≤ idxF (atW x.path) l then (0, l.set (idxF (atW x.path) l).toNat x) else if l.length = 60 then (5, l) else (0, l.take (posW l x.path) ++ x :: l.drop (posW l x.path))
def remD (l : List It) (p : List UInt8) : Int × List It :=
 if (l.filter fun y => decide (y.path ≠ p)).length = l.length then (9, l) else (0, l.filter fun y => decide (y.path ≠ p))
structure WOk (l : List It) : Prop where
 ris : Ris (·.path) l
 len : l.length ≤ 60
 path : ∀ x ∈ l, (splitP x.path).2 = 0
 apart : ∀ x ∈ l, ∀ y ∈ l, (underP x.path y.path).2 = false
theorem WOk.nil : WOk [] := ⟨.nil, by decide, fun x h => (by cases h), fun x h => (by cases h)⟩
theorem idxF_iff {α : Type} {p : α → Bool} {l : List α} : 0 ≤ idxF p l ↔ ∃ x ∈ l, p x = true := by
 have := idxF_any (p := p) (l := l)
 constructor
 ·intro h
  have h2 : l.any p = true := by rw [← this]; simpa using h
  simpa using h2
 ·rintro ⟨x, hx, h⟩
  have h2 : l.any p = true := List.any_eq_true.2 ⟨x, hx, h⟩
  rw [← this] at h2; simpa using h2
theorem idx_case {α : Type} {p : α → Bool} {l : List α} : (idxF p l = -1 ∧ l.any p = false) ∨ ∃ (i : Nat) (h : i < l.length), idxF p l = i ∧ (l.take i).any p = false ∧ p l[i] = true := by
 unfold idxF
 cases h : l.findIdx? p with
 | none =>
  rw [List.findIdx?_eq_none_iff] at h
  exact .inl ⟨rfl, by rw [List.any_eq_false]; intro x hx; simp [h x hx]⟩
 | some i =>
  rw [List.findIdx?_eq_some_iff_getElem] at h
  obtain ⟨h1, h2, h3⟩ := h
  refine .inr ⟨i, h1, rfl, ?_, h2⟩
  rw [List.any_eq_false]
  intro x hx
  obtain ⟨j, hj, e⟩ := List.mem_take_iff_getElem.1 hx
  rw [← e]
  exact h3 j (by omega)
end Go.Nest
end
/- part -/
section

namespace Go.Nest
open Go Go.AM Go.Proofs
open Go.Proofs.YtpechfcbnoggfaaGreatDoor (tab tabOk)
set_option maxRecDepth 4000
def prevX (l : List Fi) : Nat → Option Fi
 | 0 => none
 | i + 1 => l[i]?
theorem checkF_at {l : List Fi} {i : Nat} (h : i < l.length) : checkF (prevX l i) (l.drop i) = if (splitP l[i].path).2 ≠ 0 then (splitP l[i].path).2 else if l[i].mode ≠ 1 ∧ l[i].mode ≠ 3 then 6 else if clashF (prevX l i) l[i] ≠ 0 then clashF (prevX l i) l[i] else checkF (prevX l (i + 1)) (l.drop (i + 1)) := by
 rw [List.drop_eq_getElem_cons h]
 rw [show prevX l (i + 1) = some l[i] from List.getElem?_eq_getElem h]
 rfl
theorem underP_is {p d : List UInt8} : (underP p d).2 = (under p d).isSome := by
 unfold underP
 cases under p d <;> rfl
set_option maxHeartbeats 2000000 in
theorem check_spec' (l : List Fi) (hl : l.length ≤ 60) (hp : ∀ f ∈ l, f.path.length ≤ 4000000) : Does Tryz.prog 101 [.c (.bs 4 Fi encFi l)] [] (Rt (.c (.int .i64 (checkF none l))) []) := by
 refine X_spec (n := 68) (n0 := 0) tabOk Tryz.call101 Tryz.func101 ?_
 intro hb
 (conv => whnf)
 refine dec (fun h => by omega) (fun h0 => ?_)
 (conv => whnf)
 refine lp Nat (fun i => ⟨[(0, .c (.bs 4 Fi encFi l)), (12, .c (.bs 4 Fi encFi l)), (13, .c (.int .i64 l.length)), (14, .c (.int .i64 i))], []⟩) (fun i => i ≤ l.length ∧ checkF none l = checkF (prevX l i) (l.drop i)) (fun i => l.length - i) 0 [] [] ?_ ?_ (fun i hi => ?_)
 ·exact ⟨Nat.zero_le _, rfl⟩
 ·repeat' first | exact trivial | exact rfl | refine And.intro ?_ ?_
 obtain ⟨h1, hat⟩ := hi
 (conv => whnf)
 refine dec (fun h4 => ?_) (fun h4 => ?_)
 ·have hlt : i < l.length := by omega
  rw [checkF_at hlt] at hat
  (conv => whnf)
  refine ⟨i, l[i], rfl, List.getElem?_eq_getElem hlt, ?_⟩
  (conv => whnf)
  refine cl [] [] (pathsSplit_spec l[i].path (hp _ (List.getElem_mem _))) ?_
  (conv => whnf)
  refine decN (fun h5 => ?_) (fun h5 => ?_)
  ·rw [if_pos h5] at hat
   repeat' ((conv => whnf); first | refine rtI ?_ | fail)
   exact hat.symm
  ·rw [if_neg (by simpa using h5)] at hat
   (conv => whnf)
   refine decN (fun h6 => ?_) (fun h6 => ?_)
   ·(conv => whnf)
    refine decN (fun h7 => ?_) (fun h7 => ?_)
    ·rw [if_pos ⟨h6, h7⟩] at hat
     repeat' ((conv => whnf); first | refine rtI ?_ | fail)
     exact hat.symm
    ·rw [if_neg (fun h => h.2 h7)] at hat
     (conv => whnf)
     refine ⟨false, .grow, (.l [0, 1, 2, 3, 4, 5, 6, 7, 8, 9, 10, 11, 12, 13, 14]), by kernel_rfl, .inl ?_⟩
     (conv => whnf)
     refine dec (fun h7 => ?_) (fun h7 => ?_)
     ·have hi0 : 0 < i := by omega
      have hpv : prevX l i = some l[i - 1] := by
       obtain ⟨j, rfl⟩ : ∃ j, i = j + 1 := ⟨i - 1, by omega⟩
       exact List.getElem?_eq_getElem (by omega)
      (conv => whnf)
      refine ⟨i64 (by omega) (by omega), ?_⟩
      (conv => whnf)
      refine ⟨i - 1, l[i - 1], by omega, List.getElem?_eq_getElem (by omega), ?_⟩
      (conv => whnf)
      refine cl [] [] (less_spec l[i - 1].path l[i].path (hp _ (List.getElem_mem _)) (hp _ (List.getElem_mem _))) ?_
      (conv => whnf)
      refine booN (fun h8 => ?_) (fun h8 => ?_)
      ·have hc : clashF (prevX l i) l[i] = 8 := by rw [hpv]; unfold clashF; simp [h8]
       rw [hc, if_pos (by decide)] at hat
       repeat' ((conv => whnf); first | refine rtI ?_ | fail)
       exact hat.symm
      ·(conv => whnf)
       refine dec (fun _ => ?_) (fun h => absurd h7 h)
       (conv => whnf)
       refine ⟨false, .grow, (.l [0, 1, 2, 3, 4, 5, 6, 7, 8, 9, 10, 11, 12, 13]), by kernel_rfl, .inl ?_⟩
       (conv => whnf)
       refine ⟨i64 (by omega) (by omega), ?_⟩
       (conv => whnf)
       refine ⟨i - 1, l[i - 1], by omega, List.getElem?_eq_getElem (by omega), ?_⟩
       (conv => whnf)
       refine cl [] [] (under_spec l[i].path l[i - 1].path (hp _ (List.getElem_mem _))) ?_
       rw [underP_is]
       (conv => whnf)
       refine boo (fun h9 => ?_) (fun h9 => ?_)
       ·have hc : clashF (prevX l i) l[i] = 10 := by rw [hpv]; unfold clashF; simp [h8, h9]
        rw [hc, if_pos (by decide)] at hat
        repeat' ((conv => whnf); first | refine rtI ?_ | fail)
        exact hat.symm
       ·have hc : clashF (prevX l i) l[i] = 0 := by rw [hpv]; unfold clashF; simp [h8, h9]
        rw [hc, if_neg (by decide)] at hat
        repeat' ((conv => whnf); refine I6 ?_)
        refine ag (i + 1) [] [] ⟨hlt, hat⟩ (by simp only []; omega) ?_
        repeat' first | exact trivial | exact rfl | refine And.intro ?_ ?_
     ·obtain rfl : i = 0 := by omega
      have hc : clashF (prevX l 0) l[0] = 0 := rfl
      rw [hc, if_neg (by decide)] at hat
      repeat' ((conv => whnf); refine I6 ?_)
      refine ag (0 + 1) [] [] ⟨hlt, hat⟩ (by simp only []; omega) ?_
      repeat' first | exact trivial | exact rfl | refine And.intro ?_ ?_
   ·rw [if_neg (fun h => h.1 h6)] at hat
    (conv => whnf)
    refine ⟨false, .grow, (.l [0, 1, 2, 3, 4, 5, 6, 7, 8, 9, 10, 11, 12, 13, 14]), by kernel_rfl, .inl ?_⟩
    (conv => whnf)
    refine dec (fun h7 => ?_) (fun h7 => ?_)
    ·have hi0 : 0 < i := by omega
     have hpv : prevX l i = some l[i - 1] := by
      obtain ⟨j, rfl⟩ : ∃ j, i = j + 1 := ⟨i - 1, by omega⟩
      exact List.getElem?_eq_getElem (by omega)
     (conv => whnf)
     refine ⟨i64 (by omega) (by omega), ?_⟩
     (conv => whnf)
     refine ⟨i - 1, l[i - 1], by omega, List.getElem?_eq_getElem (by omega), ?_⟩
     (conv => whnf)
     refine cl [] [] (less_spec l[i - 1].path l[i].path (hp _ (List.getElem_mem _)) (hp _ (List.getElem_mem _))) ?_
     (conv => whnf)
     refine booN (fun h8 => ?_) (fun h8 => ?_)
     ·have hc : clashF (prevX l i) l[i] = 8 := by rw [hpv]; unfold clashF; simp [h8]
      rw [hc, if_pos (by decide)] at hat
      repeat' ((conv => whnf); first | refine rtI ?_ | fail)
      exact hat.symm
     ·(conv => whnf)
      refine dec (fun _ => ?_) (fun h => absurd h7 h)
      (conv => whnf)
      refine ⟨false, .grow, (.l [0, 1, 2, 3, 4, 5, 6, 7, 8, 9, 10, 11, 12, 13]), by kernel_rfl, .inl ?_⟩
      (conv => whnf)
      refine ⟨i64 (by omega) (by omega), ?_⟩
      (conv => whnf)
      refine ⟨i - 1, l[i - 1], by omega, List.getElem?_eq_getElem (by omega), ?_⟩
      (conv => whnf)
      refine cl [] [] (under_spec l[i].path l[i - 1].path (hp _ (List.getElem_mem _))) ?_
      rw [underP_is]
      (conv => whnf)
      refine boo (fun h9 => ?_) (fun h9 => ?_)
      ·have hc : clashF (prevX l i) l[i] = 10 := by rw [hpv]; unfold clashF; simp [h8, h9]
       rw [hc, if_pos (by decide)] at hat
       repeat' ((conv => whnf); first | refine rtI ?_ | fail)
       exact hat.symm
      ·have hc : clashF (prevX l i) l[i] = 0 := by rw [hpv]; unfold clashF; simp [h8, h9]
       rw [hc, if_neg (by decide)] at hat
       repeat' ((conv => whnf); refine I6 ?_)
       refine ag (i + 1) [] [] ⟨hlt, hat⟩ (by simp only []; omega) ?_
       repeat' first | exact trivial | exact rfl | refine And.intro ?_ ?_
    ·obtain rfl : i = 0 := by omega
     have hc : clashF (prevX l 0) l[0] = 0 := rfl
     rw [hc, if_neg (by decide)] at hat
     repeat' ((conv => whnf); refine I6 ?_)
     refine ag (0 + 1) [] [] ⟨hlt, hat⟩ (by simp only []; omega) ?_
     repeat' first | exact trivial | exact rfl | refine And.intro ?_ ?_
 ·rw [List.drop_of_length_le (by omega)] at hat
  repeat' ((conv => whnf); first | refine rtI ?_ | fail)
  rw [hat]; unfold checkF; rfl
theorem flatCheck_spec (l : List Fi) (hp : ∀ f ∈ l, f.path.length ≤ 4000000) : Does Tryz.prog 101 [.c (.bs 4 Fi encFi l)] [] (Rt (.c (.int .i64 (filesF l))) []) := by
 by_cases h : 60 < l.length
 ·refine X_spec (n := 68) (n0 := 0) tabOk Tryz.call101 Tryz.func101 ?_
  intro hb
  repeat' ((conv => whnf); first | (refine dec (fun h => ?_) (fun h => ?_) <;> try contradiction) | refine rtI ?_ | fail)
  ·unfold filesF; rw [if_pos (by omega)]
  ·omega
 ·have := check_spec' l (by omega) hp
  unfold filesF
  rw [if_neg h]; exact this
end Go.Nest
end
/- part -/
section

namespace Go.Nest
open Go Go.AM Go.Proofs
open Go.Proofs.YtpechfcbnoggfaaGreatDoor (tab tabOk)
set_option maxRecDepth 4000
theorem inside_len (name : List UInt8) (l : List Fi) : (insideP name l).1.length + (insideP name l).2.length = l.length := by
 conv => rhs; rw [inside_eq name l]
 rw [List.length_append, List.length_map]
theorem inside_paths (name : List UInt8) {l : List Fi} (h : ∀ f ∈ l, f.path.length ≤ 4000000) : (∀ f ∈ (insideP name l).1, f.path.length ≤ 4000000) ∧ ∀ f ∈ (insideP name l).2, f.path.length ≤ 4000000 := by
 have e := inside_eq name l
 refine ⟨fun f hf => ?_, fun f hf => ?_⟩
 ·have := h (pre name f) (by rw [e]; exact List.mem_append.2 (.inl (List.mem_map.2 ⟨f, hf, rfl⟩)))
  rw [show (pre name f).path = name ++ 47 :: f.path from rfl, List.length_append, List.length_cons] at this
  omega
 ·exact h f (by rw [e]; exact List.mem_append.2 (.inr hf))
theorem inside_step {name : List UInt8} {f : Fi} {r : List Fi} {p : List UInt8} (h : under f.path name = some p) : insideP name (f :: r) = (⟨p, f.mode, f.id, f.repo⟩ :: (insideP name r).1, (insideP name r).2) := by
 rw [insideP, h]
theorem inside_stop {name : List UInt8} {f : Fi} {r : List Fi} (h : under f.path name = none) : insideP name (f :: r) = ([], f :: r) := by
 rw [insideP, h]
set_option maxHeartbeats 4000000 in
theorem build_spec : ∀ (n : Nat) (L : List Ob) (l : List Fi), mu l < n → PoolOk L → l.length ≤ 60 → (∀ f ∈ l, f.path.length ≤ 4000000) → Does Tryz.prog 315 [.c (.ptr 0 0), .c (.bs 4 Fi encFi l)] [.box [.rw 1], .row 6 Ob encOb L] (Rt (.tup [(false, [.int .i64 (goB n L [] l).1]), (false, [.int .i64 (goB n L [] l).2.1])]) [.box [.rw 2], .dead, .row 6 Ob encOb (goB n L [] l).2.2]) := by
 intro n
 induction n using Nat.strongRecOn with
 | _ n ih =>
 intro L l hn hL hl hp
 refine X_spec (n := 95) (n0 := 2) tabOk Tryz.call315 Tryz.func315 ?_
 intro hb
 (conv => whnf)
 refine lp (Nat × List Ob × List Ent × List Fi) (fun x => ⟨[(0, .c (.ptr 0 0)), (1, .c (.bs 4 Fi encFi x.2.2.2)), (6, .c (.rw 3))], [.box [.rw 2], .dead, .row 6 Ob encOb x.2.1, .row 4 Ent encEn x.2.2.1]⟩)
  (fun x => (x.1 ≤ n ∧ mu x.2.2.2 < x.1 ∧ x.2.2.1.length + x.2.2.2.length ≤ 60) ∧ PoolOk x.2.1 ∧ (∀ f ∈ x.2.2.2, f.path.length ≤ 4000000) ∧ goB n L [] l = goB x.1 x.2.1 x.2.2.1 x.2.2.2) (fun x => x.2.2.2.length) (n, L, [], l) [] [.same 0, .same 1, .same 1, .new] ?_ ?_ (fun x hx => ?_)
 ·exact ⟨⟨Nat.le_refl _, hn, by simpa using hl⟩, hL, hp, rfl⟩
 ·repeat' first | exact trivial | exact rfl | refine And.intro ?_ ?_
 obtain ⟨k, M, es, q⟩ := x
 obtain ⟨⟨h1, h2, h3⟩, h4, h5, h6⟩ := hx
 dsimp only at h1 h2 h3 h4 h5 h6
 have hML := h4.len
 obtain ⟨k, rfl⟩ : ∃ m, k = m + 1 := ⟨k - 1, by omega⟩
 cases q with
 | nil =>
  rw [show goB (k + 1) M es [] = putP M (obT es) from rfl] at h6
  rw [h6]
  (conv => whnf)
  refine cl [3] [0, 2] (put_spec M (obT es) hML) ?_
  (conv => whnf)
  exact rx [] [.same 0, .same 1, .same 4]
 | cons f r =>
  rw [mu_cons] at h2
  rw [List.length_cons] at h3
  have hf := h5 f (by simp)
  have hr : ∀ f ∈ r, f.path.length ≤ 4000000 := fun x hx => h5 x (by simp [hx])
  (conv => whnf)
  refine dec (fun _ => ?_) (fun h => absurd (by simp) h)
  (conv => whnf)
  refine ⟨0, f, rfl, rfl, ?_⟩
  (conv => whnf)
  refine cl [] [] (cut_spec f.path) ?_
  by_cases hc : f.path.count 47 = 0
  ·have e : goB (k + 1) M es (f :: r) = goB k M (es ++ [⟨f.path, f.mode, f.id, f.repo⟩]) r := by rw [goB, if_pos hc]
   rw [e] at h6
   rw [cut_none hc]
   (conv => whnf)
   refine ⟨false, .grow, (.l [0, 1, 2, 3, 4, 5, 6, 7, 8, 9, 10, 11, 12, 13, 14, 15, 16, 17]), by kernel_rfl, .inl ?_⟩
   (conv => whnf)
   refine ⟨0, f, rfl, rfl, ?_⟩
   (conv => whnf)
   refine ⟨0, f, rfl, rfl, ?_⟩
   (conv => whnf)
   refine ⟨0, f, rfl, rfl, ?_⟩
   (conv => whnf)
   refine ⟨[⟨f.path, f.mode, f.id, f.repo⟩], rfl, ?_⟩
   (conv => whnf)
   refine ⟨_, _, rfl, rfl, (by simp only [List.length_append, List.length_cons, List.length_nil]; omega), ?_⟩
   (conv => whnf)
   refine ⟨1, (f :: r).length, rfl, rfl, ⟨by simp, Nat.le_refl _⟩, ?_⟩
   (conv => whnf)
   have tr : List.take ((f :: r).length - 1) (List.drop 1 (k + 1, M, es, f :: r).2.2.2) = r := by simp
   rw [tr]
   refine ag (k, M, es ++ [⟨f.path, f.mode, f.id, f.repo⟩], r) [] [.same 0, .same 1, .same 2, .same 5] ⟨⟨by simp only []; omega, by simp only []; omega, by simp; omega⟩, h4, hr, h6⟩ (by simp) ?_
   repeat' first | exact trivial | exact rfl | refine And.intro ?_ ?_
  ·obtain ⟨a, b, hcut, hab, ha⟩ := cut_some hc
   have hcut1 : (cutP f.path).1 = a := by rw [hcut]
   have hal : a.length ≤ 4000000 := by rw [hab] at hf; simp at hf; omega
   rw [hcut]
   (conv => whnf)
   refine lp (List Fi × List Fi) (fun y => ⟨[(0, .c (.ptr 0 0)), (1, .c (.bs 4 Fi encFi y.2)), (6, .c (.rw 3)), (7, .c (.str a)), (10, .c (.rw 4))], [.box [.rw 2], .dead, .row 6 Ob encOb M, .row 4 Ent encEn es, .row 4 Fi encFi y.1]⟩)
    (fun y => (y.1.length + y.2.length ≤ 60 ∧ True) ∧ (∀ f ∈ y.2, f.path.length ≤ 4000000) ∧ insideP a (f :: r) = (y.1 ++ (insideP a y.2).1, (insideP a y.2).2)) (fun y => y.2.length) ([], f :: r) [] [.same 0, .same 1, .same 2, .same 3, .new] ?_ ?_ (fun y hy => ?_)
   ·exact ⟨⟨by simp; omega, trivial⟩, h5, rfl⟩
   ·repeat' first | exact trivial | exact rfl | refine And.intro ?_ ?_
   obtain ⟨inn, q⟩ := y
   obtain ⟨⟨g1, _⟩, g2, g3⟩ := hy
   dsimp only at g1 g2 g3
   cases q with
   | nil =>
    have g4 : insideP a (f :: r) = (inn, []) := by rw [g3]; simp [insideP]
    (conv => whnf)
    have hmu := inside_mu (r := r) hab
    rw [g4, mu_cons] at hmu
    dsimp only at hmu
    have e : goB (k + 1) M es (f :: r) = if (goB k M [] inn).2.1 ≠ 0 then (0, (goB k M [] inn).2.1, (goB k M [] inn).2.2) else goB k (goB k M [] inn).2.2 (es ++ [⟨a, 2, (goB k M [] inn).1, 0⟩]) [] := by rw [goB, if_neg hc, hcut]; dsimp only; rw [g4]
    have hin : inn.length + @List.length Fi [] = r.length + 1 := by have := inside_len a (f :: r); rw [g4] at this; simpa using this
    have hps := inside_pos (r := r) hab
    rw [g4] at hps
    have hps : 0 < inn.length := List.length_pos_iff.2 hps
    have hpi := inside_paths a h5
    rw [g4] at hpi
    have hok := (goB_ok k M [] inn h4).1
    refine cl [4] [0, 2] (ih k (by omega) M inn (by omega) h4 (by omega) hpi.1) ?_
    generalize goB k M [] inn = R at *
    (conv => whnf)
    refine decN (fun h8 => ?_) (fun h8 => ?_)
    ·rw [if_pos h8] at e
     rw [h6, e]
     (conv => whnf)
     exact rx [] [.same 0, .same 1, .same 5]
    ·rw [if_neg (by simpa using h8)] at e
     (conv => whnf)
     refine ⟨[⟨a, 2, R.1, 0⟩], rfl, ?_⟩
     (conv => whnf)
     refine ⟨_, _, rfl, rfl, (by simp only [List.length_append, List.length_cons, List.length_nil]; omega), ?_⟩
     skip
     refine ag (k, R.2.2, es ++ [⟨a, 2, R.1, 0⟩], []) [] [.same 0, .same 1, .same 5, .same 7] ⟨⟨by simp only []; omega, by simp only []; omega, by simp only [List.length_append, List.length_cons, List.length_nil] at hin ⊢; omega⟩, hok, hpi.2, by rw [h6, e]⟩ (by simp only [List.length_cons, List.length_nil] at hin ⊢; omega) ?_
     repeat' first | exact trivial | exact rfl | refine And.intro ?_ ?_
   | cons f2 q =>
    have hf2 := g2 f2 (by simp)
    (conv => whnf)
    refine dec (fun _ => ?_) (fun h => absurd (by simp) h)
    (conv => whnf)
    refine ⟨0, f2, rfl, rfl, ?_⟩
    (conv => whnf)
    refine cl [] [] (under_spec f2.path a hal) ?_
    cases hu : under f2.path a with
    | none =>
     have g4 : insideP a (f :: r) = (inn, f2 :: q) := by rw [g3, inside_stop hu]; simp
     rw [show underP f2.path a = (f2.path, false) by unfold underP; rw [hu]]
     (conv => whnf)
     have hmu := inside_mu (r := r) hab
     rw [g4, mu_cons] at hmu
     dsimp only at hmu
     have e : goB (k + 1) M es (f :: r) = if (goB k M [] inn).2.1 ≠ 0 then (0, (goB k M [] inn).2.1, (goB k M [] inn).2.2) else goB k (goB k M [] inn).2.2 (es ++ [⟨a, 2, (goB k M [] inn).1, 0⟩]) (f2 :: q) := by rw [goB, if_neg hc, hcut]; dsimp only; rw [g4]
     have hin : inn.length + @List.length Fi (f2 :: q) = r.length + 1 := by have := inside_len a (f :: r); rw [g4] at this; simpa using this
     have hps := inside_pos (r := r) hab
     rw [g4] at hps
     have hps : 0 < inn.length := List.length_pos_iff.2 hps
     have hpi := inside_paths a h5
     rw [g4] at hpi
     have hok := (goB_ok k M [] inn h4).1
     refine cl [4] [0, 2] (ih k (by omega) M inn (by omega) h4 (by omega) hpi.1) ?_
     generalize goB k M [] inn = R at *
     (conv => whnf)
     refine decN (fun h8 => ?_) (fun h8 => ?_)
     ·rw [if_pos h8] at e
      rw [h6, e]
      (conv => whnf)
      exact rx [] [.same 0, .same 1, .same 5]
     ·rw [if_neg (by simpa using h8)] at e
      (conv => whnf)
      refine ⟨[⟨a, 2, R.1, 0⟩], rfl, ?_⟩
      (conv => whnf)
      refine ⟨_, _, rfl, rfl, (by simp only [List.length_append, List.length_cons, List.length_nil]; omega), ?_⟩
      skip
      refine ag (k, R.2.2, es ++ [⟨a, 2, R.1, 0⟩], (f2 :: q)) [] [.same 0, .same 1, .same 5, .same 7] ⟨⟨by simp only []; omega, by simp only []; omega, by simp only [List.length_append, List.length_cons, List.length_nil] at hin ⊢; omega⟩, hok, hpi.2, by rw [h6, e]⟩ (by simp only [List.length_cons, List.length_nil] at hin ⊢; omega) ?_
      repeat' first | exact trivial | exact rfl | refine And.intro ?_ ?_
    | some p =>
     have g4 := g3
     rw [inside_step hu] at g4
     rw [show underP f2.path a = (p, true) by unfold underP; rw [hu]]
     (conv => whnf)
     refine ⟨0, f2, rfl, rfl, ?_⟩
     (conv => whnf)
     refine ⟨[⟨p, f2.mode, f2.id, f2.repo⟩], rfl, ?_⟩
     (conv => whnf)
     rw [List.length_cons] at g1
     refine ⟨_, _, rfl, rfl, (by simp only [List.length_append, List.length_cons, List.length_nil]; omega), ?_⟩
     (conv => whnf)
     refine ⟨1, (f2 :: q).length, rfl, rfl, ⟨by simp, Nat.le_refl _⟩, ?_⟩
     (conv => whnf)
     have tr : List.take ((f2 :: q).length - 1) (List.drop 1 (inn, f2 :: q).2) = q := by simp
     rw [tr]
     refine ag (inn ++ [⟨p, f2.mode, f2.id, f2.repo⟩], q) [] [.same 0, .same 1, .same 2, .same 3, .same 7] ⟨⟨by simp; omega, trivial⟩, fun x hx => g2 x (by simp [hx]), by rw [g4]; simp⟩ (by simp) ?_
     repeat' first | exact trivial | exact rfl | refine And.intro ?_ ?_
end Go.Nest
end
/- part -/
section

namespace Go.Nest
open Go Go.AM Go.Proofs
open Go.Proofs.YtpechfcbnoggfaaGreatDoor (tab tabOk)
set_option maxRecDepth 4000
theorem flatBuild_spec (L : List Ob) (l : List Fi) (hL : PoolOk L) (hp : ∀ f ∈ l, f.path.length ≤ 4000000) : Does Tryz.prog 269 [.c (.ptr 0 0), .c (.bs 4 Fi encFi l)] [.box [.rw 1], .row 6 Ob encOb L] (Rt (.tup [(false, [.int .i64 (buildP L l).1]), (false, [.int .i64 (buildP L l).2.1])]) [.box [.rw 2], .dead, .row 6 Ob encOb (buildP L l).2.2]) := by
 refine X_spec (n := 17) (n0 := 2) tabOk Tryz.call269 Tryz.func269 ?_
 intro hb
 (conv => whnf)
 refine cl [] [] (flatCheck_spec l hp) ?_
 unfold buildP
 (conv => whnf)
 refine decN (fun h => ?_) (fun h => ?_)
 ·rw [if_pos h]
  (conv => whnf)
  exact rx [] [.same 0, .same 1, .same 1]
 ·have h0 : filesF l = 0 := by simpa using h
  have h1 := (filesF_all h0).1
  rw [if_neg (by simpa using h0)]
  (conv => whnf)
  refine cl [] [0, 1] (build_spec (mu l + 1) L l (Nat.lt_succ_self _) hL h1 hp) ?_
  (conv => whnf)
  exact rx [] [.same 0, .same 1, .same 2]
theorem unsp_bound : ∀ (l : List (List UInt8)), (∀ s ∈ l, s.length ≤ 20) → (unsp l).length ≤ 21 * l.length
 | [], _ => by simp [unsp]
 | [x], h => by have := h x (by simp); simp [unsp]; omega
 | x :: y :: r, h => by
  have h1 := h x (by simp)
  have h2 := unsp_bound (y :: r) (fun s hs => h s (by simp at hs ⊢; exact .inr hs))
  simp [unsp] at h2 ⊢
  omega
theorem name_len {s : List UInt8} (h : nameC s = 0) : s.length ≤ 20 := by
 unfold nameC at h
 split at h
 ·cases h
 split at h
 ·cases h
 ·omega
theorem goF_len (L : List Ob) : ∀ (n : Nat) (t : Int) (ins : List (List UInt8)) (out : List Fi), out.length ≤ 60 → (goF L n t ins out).2.length ≤ 60
 | 0, _, _, out, h => h
 | n + 1, t, ins, out, h => by
  have key : ∀ (es : List Ent) (out : List Fi), out.length ≤ 60 → (stepE (goF L n) ins es out).2.length ≤ 60 := by
   intro es
   induction es with
   | nil => intro out h; exact h
   | cons e r ih =>
    intro out h
    unfold stepE
    split
    ·split
     ·exact goF_len L n _ _ out h
     ·exact ih _ (goF_len L n _ _ out h)
    ·split
     ·exact h
     ·exact ih _ (by rw [List.length_append, List.length_singleton]; omega)
  unfold goF
  split
  ·exact h
  split
  ·exact h
  ·exact key _ out h
set_option maxHeartbeats 4000000 in
theorem files_spec (L : List Ob) (hL : PoolOk L) : ∀ (n : Nat) (t : Int) (ins : List (List UInt8)) (out : List Fi), ins.length + n = 8 → (∀ s ∈ ins, s.length ≤ 20) → out.length ≤ 60 → Does Tryz.prog 248 [.c (.bp [.bs 6 Ob encOb L]), .c (.int .i64 t), .c (.bs 1 (List UInt8) encS ins), .c (.ptr 0 0)] [.box [.rw 1], .row 4 Fi encFi out]
  (Rt (.c (.int .i64 (goF L (n + 1) t ins out).1)) [.box [.rw 2], .dead, .row 4 Fi encFi (goF L (n + 1) t ins out).2]) := by
 intro n
 induction n using Nat.strongRecOn with
 | _ n ih =>
 intro t ins out hn hs hout
 refine X_spec (n := 86) (n0 := 2) tabOk Tryz.call248 Tryz.func248 ?_
 intro hb
 (conv => whnf)
 refine cl [] [] (get_spec L hL t) ?_
 have hkk := getP_kind (l := L) (id := t)
 by_cases hk : kindOf L t ≠ 2
 ·have e0 : goF L (n + 1) t ins out = (9, out) := by rw [goF, if_pos hk]
  rw [e0]
  by_cases hk0 : kindOf L t = 0
  ·rw [show decide (kindOf L t ≠ 0) = false by simp [hk0]]
   (conv => whnf)
   exact rx [] [.same 0, .same 1, .same 1]
  ·rw [show decide (kindOf L t ≠ 0) = true by simp [hk0]]
   (conv => whnf)
   refine decN (fun _ => ?_) (fun h => absurd (hkk.symm.trans h) hk)
   (conv => whnf)
   exact rx [] [.same 0, .same 1, .same 1]
 have hk : kindOf L t = 2 := Classical.not_not.1 hk
 rw [show decide (kindOf L t ≠ 0) = true by simp [hk]]
 have e0 : goF L (n + 1) t ins out = if 8 ≤ ins.length ∧ 0 < (getP L t).entries.length then (3, out) else stepE (goF L n) ins (getP L t).entries out := by rw [goF, if_neg (by simpa using hk)]
 obtain ⟨hr1, hr2⟩ := tree_ok hL hk
 have hel := (hL.tree hk).2.2.1
 generalize he : getP L t = o at *
 (conv => whnf)
 refine decN (fun h => absurd (hkk.trans hk) h) (fun _ => ?_)
 (conv => whnf)
 have hfin : ¬ (8 ≤ ins.length ∧ 0 < o.entries.length) → True := fun _ => trivial
 refine dec (fun h8 => ?_) (fun h8 => ?_)
 ·(conv => whnf)
  refine dec (fun h9 => ?_) (fun h9 => ?_)
  ·have e1 : goF L (n + 1) t ins out = (3, out) := by rw [e0, if_pos (by omega)]
   rw [e1]
   (conv => whnf)
   exact rx [] [.same 0, .same 1, .same 1]
  ·rw [if_neg (by omega)] at e0
   have hes : o.entries = [] := List.eq_nil_of_length_eq_zero (by omega)
   have h8' : o.entries ≠ [] → ins.length < 8 := fun h => absurd hes h
   rw [e0]
   (conv => whnf)
   refine lp (Nat × List Fi) (fun x => ⟨[(0, .c (.bp [.bs 6 Ob encOb L])), (2, .c (.bs 1 (List UInt8) encS ins)), (3, .c (.ptr 0 0)), (40, .c (.ls 4 Ent encEn o.entries)), (41, .c (.int .i64 o.entries.length)), (42, .c (.int .i64 x.1))], [.box [.rw 2], .dead, .row 4 Fi encFi x.2]⟩)
    (fun x => (x.1 ≤ o.entries.length ∧ x.2.length ≤ 60) ∧ stepE (goF L n) ins o.entries out = stepE (goF L n) ins (o.entries.drop x.1) x.2) (fun x => o.entries.length - x.1) (0, out) [] [.same 0, .same 1, .same 1] ?_ ?_ (fun x hx => ?_)
   ·exact ⟨⟨Nat.zero_le _, hout⟩, rfl⟩
   ·repeat' first | exact trivial | exact rfl | refine And.intro ?_ ?_
   obtain ⟨i, q⟩ := x
   obtain ⟨⟨g1, g2⟩, g3⟩ := hx
   dsimp only at g1 g2 g3
   (conv => whnf)
   refine dec (fun h4 => ?_) (fun h4 => ?_)
   ·have hlt : i < o.entries.length := by simpa using h4
    have hE := hr2 _ (List.getElem_mem hlt)
    have h8 := h8' (by intro h; rw [h] at hlt; simp at hlt)
    rw [List.drop_eq_getElem_cons hlt] at g3
    (conv => whnf)
    refine ⟨i, o.entries[i], rfl, List.getElem?_eq_getElem hlt, ?_⟩
    (conv => whnf)
    have hsz : (ins ++ [o.entries[i].name]).length ≤ 8 := by rw [List.length_append, List.length_singleton]; omega
    refine ⟨false, .grow, (.alt [0, 2, 3] [1, 4] fun j => bif Nat.beq j 1 then (.l [4, 5, 6]) else bif Nat.beq j 4 then (.l [1, 5, 6]) else .l []), by kernel_rfl, .inr ⟨Unit, fun _ => ⟨[(0, .c (.bp [.bs 6 Ob encOb L])), (2, .c (.bs 1 (List UInt8) encS ins)), (3, .c (.ptr 0 0)), (40, .c (.ls 4 Ent encEn o.entries)), (41, .c (.int .i64 o.entries.length)), (42, .c (.int .i64 i)), (12, .c (.ptr 3 0)), (13, .c (.rw 4))], [.box [.rw 2], .dead, .row 4 Fi encFi q, .box (encEn o.entries[i]), .row 1 (List UInt8) encS (ins ++ [o.entries[i].name])]⟩, fun _ => True, ?_, ?_⟩⟩
    ·(conv => whnf)
     refine And.intro ?_ ?_
     ·(conv => whnf)
      refine cl [] [] (cloneTexts_spec ins (by omega)) ?_
      (conv => whnf)
      refine ⟨[o.entries[i].name], rfl, ?_⟩
      (conv => whnf)
      refine ⟨_, _, rfl, rfl, (by simp only [List.length_append, List.length_cons, List.length_nil]; omega), ?_⟩
      (conv => whnf)
      refine ⟨(), trivial, [], [.same 0, .same 1, .same 2, .same 3, .same 6], ?_⟩
      repeat' first | exact trivial | exact rfl | refine And.intro ?_ ?_
     ·(conv => whnf)
      refine ⟨[o.entries[i].name], rfl, ?_⟩
      (conv => whnf)
      refine cl [] [] (cloneTexts_spec ins (by omega)) ?_
      (conv => whnf)
      refine ⟨_, _, rfl, rfl, (by simp only [List.length_append, List.length_cons, List.length_nil]; omega), ?_⟩
      (conv => whnf)
      refine ⟨(), trivial, [], [.same 0, .same 1, .same 2, .same 3, .same 6], ?_⟩
      repeat' first | exact trivial | exact rfl | refine And.intro ?_ ?_
    intro _ _
    have hnm : ∀ s ∈ ins ++ [o.entries[i].name], s.length ≤ 20 := fun s h => by
     rcases List.mem_append.1 h with h | h
     ·exact hs s h
     ·rw [List.mem_singleton] at h; rw [h]; exact name_len hE.name
    (conv => whnf)
    refine dec (fun hm => ?_) (fun hm => ?_)
    ·obtain ⟨n', rfl⟩ : ∃ m, n = m + 1 := ⟨n - 1, by omega⟩
     rw [stepE, if_pos hm] at g3
     (conv => whnf)
     refine cl [] [0, 2] (ih n' (by omega) o.entries[i].id (ins ++ [o.entries[i].name]) q (by rw [List.length_append, List.length_singleton]; omega) hnm g2) ?_
     have hlR := goF_len L (n' + 1) o.entries[i].id (ins ++ [o.entries[i].name]) q g2
     generalize goF L (n' + 1) o.entries[i].id (ins ++ [o.entries[i].name]) q = R at *
     (conv => whnf)
     refine decN (fun h5 => ?_) (fun h5 => ?_)
     ·rw [if_pos h5] at g3
      rw [g3]
      (conv => whnf)
      exact rx [] [.same 0, .same 1, .same 5]
     ·rw [if_neg (by simpa using h5)] at g3
      repeat' ((conv => whnf); refine I6 ?_)
      refine ag (i + 1, R.2) [] [.same 0, .same 1, .same 5] ⟨⟨hlt, hlR⟩, g3⟩ (by simp only []; omega) ?_
      repeat' first | exact trivial | exact rfl | refine And.intro ?_ ?_
    ·rw [stepE, if_neg hm] at g3
     (conv => whnf)
     refine dec (fun h5 => ?_) (fun h5 => ?_)
     ·rw [if_pos (by omega)] at g3
      rw [g3]
      (conv => whnf)
      exact rx [] [.same 0, .same 1, .same 2]
     ·rw [if_neg (by omega)] at g3
      have hul := unsp_bound _ hnm
      (conv => whnf)
      refine ⟨false, .grow, (.l [0, 1, 2, 3, 4, 6, 7, 8, 9, 10, 11, 5, 12, 13, 14, 15, 16]), by kernel_rfl, .inr ⟨Unit, fun _ => ⟨[(0, .c (.bp [.bs 6 Ob encOb L])), (2, .c (.bs 1 (List UInt8) encS ins)), (3, .c (.ptr 0 0)), (40, .c (.ls 4 Ent encEn o.entries)), (41, .c (.int .i64 o.entries.length)), (42, .c (.int .i64 i))], [.box [.rw 2], .dead, .row 4 Fi encFi (q ++ [⟨unsp (ins ++ [o.entries[i].name]), o.entries[i].mode, o.entries[i].id, o.entries[i].repo⟩])]⟩, fun _ => True, ?_, ?_⟩⟩
      ·(conv => whnf)
       refine cl [] [] (pathsJoin_spec (ins ++ [o.entries[i].name]) (by omega) (by omega)) ?_
       (conv => whnf)
       refine ⟨[⟨unsp (ins ++ [o.entries[i].name]), o.entries[i].mode, o.entries[i].id, o.entries[i].repo⟩], rfl, ?_⟩
       (conv => whnf)
       refine ⟨_, _, rfl, rfl, (by simp only [List.length_append, List.length_cons, List.length_nil]; omega), ?_⟩
       (conv => whnf)
       refine ⟨(), trivial, [], [.same 0, .same 1, .same 6], ?_⟩
       repeat' first | exact trivial | exact rfl | refine And.intro ?_ ?_
      intro _ _
      repeat' ((conv => whnf); refine I6 ?_)
      refine ag (i + 1, (q ++ [⟨unsp (ins ++ [o.entries[i].name]), o.entries[i].mode, o.entries[i].id, o.entries[i].repo⟩])) [] [.same 0, .same 1, .same 2] ⟨⟨hlt, by simp only [List.length_append, List.length_cons, List.length_nil]; omega⟩, g3⟩ (by simp only []; omega) ?_
      repeat' first | exact trivial | exact rfl | refine And.intro ?_ ?_
   ·rw [List.drop_of_length_le (by simp at h4; omega)] at g3
    rw [g3]
    (conv => whnf)
    exact rx [] [.same 0, .same 1, .same 2]
 ·rw [if_neg (by omega)] at e0
  have h8' : o.entries ≠ [] → ins.length < 8 := fun _ => by omega
  rw [e0]
  (conv => whnf)
  refine lp (Nat × List Fi) (fun x => ⟨[(0, .c (.bp [.bs 6 Ob encOb L])), (2, .c (.bs 1 (List UInt8) encS ins)), (3, .c (.ptr 0 0)), (40, .c (.ls 4 Ent encEn o.entries)), (41, .c (.int .i64 o.entries.length)), (42, .c (.int .i64 x.1))], [.box [.rw 2], .dead, .row 4 Fi encFi x.2]⟩)
   (fun x => (x.1 ≤ o.entries.length ∧ x.2.length ≤ 60) ∧ stepE (goF L n) ins o.entries out = stepE (goF L n) ins (o.entries.drop x.1) x.2) (fun x => o.entries.length - x.1) (0, out) [] [.same 0, .same 1, .same 1] ?_ ?_ (fun x hx => ?_)
  ·exact ⟨⟨Nat.zero_le _, hout⟩, rfl⟩
  ·repeat' first | exact trivial | exact rfl | refine And.intro ?_ ?_
  obtain ⟨i, q⟩ := x
  obtain ⟨⟨g1, g2⟩, g3⟩ := hx
  dsimp only at g1 g2 g3
  (conv => whnf)
  refine dec (fun h4 => ?_) (fun h4 => ?_)
  ·have hlt : i < o.entries.length := by simpa using h4
   have hE := hr2 _ (List.getElem_mem hlt)
   have h8 := h8' (by intro h; rw [h] at hlt; simp at hlt)
   rw [List.drop_eq_getElem_cons hlt] at g3
   (conv => whnf)
   refine ⟨i, o.entries[i], rfl, List.getElem?_eq_getElem hlt, ?_⟩
   (conv => whnf)
   have hsz : (ins ++ [o.entries[i].name]).length ≤ 8 := by rw [List.length_append, List.length_singleton]; omega
   refine ⟨false, .grow, (.alt [0, 2, 3] [1, 4] fun j => bif Nat.beq j 1 then (.l [4, 5, 6]) else bif Nat.beq j 4 then (.l [1, 5, 6]) else .l []), by kernel_rfl, .inr ⟨Unit, fun _ => ⟨[(0, .c (.bp [.bs 6 Ob encOb L])), (2, .c (.bs 1 (List UInt8) encS ins)), (3, .c (.ptr 0 0)), (40, .c (.ls 4 Ent encEn o.entries)), (41, .c (.int .i64 o.entries.length)), (42, .c (.int .i64 i)), (12, .c (.ptr 3 0)), (13, .c (.rw 4))], [.box [.rw 2], .dead, .row 4 Fi encFi q, .box (encEn o.entries[i]), .row 1 (List UInt8) encS (ins ++ [o.entries[i].name])]⟩, fun _ => True, ?_, ?_⟩⟩
   ·(conv => whnf)
    refine And.intro ?_ ?_
    ·(conv => whnf)
     refine cl [] [] (cloneTexts_spec ins (by omega)) ?_
     (conv => whnf)
     refine ⟨[o.entries[i].name], rfl, ?_⟩
     (conv => whnf)
     refine ⟨_, _, rfl, rfl, (by simp only [List.length_append, List.length_cons, List.length_nil]; omega), ?_⟩
     (conv => whnf)
     refine ⟨(), trivial, [], [.same 0, .same 1, .same 2, .same 3, .same 6], ?_⟩
     repeat' first | exact trivial | exact rfl | refine And.intro ?_ ?_
    ·(conv => whnf)
     refine ⟨[o.entries[i].name], rfl, ?_⟩
     (conv => whnf)
     refine cl [] [] (cloneTexts_spec ins (by omega)) ?_
     (conv => whnf)
     refine ⟨_, _, rfl, rfl, (by simp only [List.length_append, List.length_cons, List.length_nil]; omega), ?_⟩
     (conv => whnf)
     refine ⟨(), trivial, [], [.same 0, .same 1, .same 2, .same 3, .same 6], ?_⟩
     repeat' first | exact trivial | exact rfl | refine And.intro ?_ ?_
   intro _ _
   have hnm : ∀ s ∈ ins ++ [o.entries[i].name], s.length ≤ 20 := fun s h => by
    rcases List.mem_append.1 h with h | h
    ·exact hs s h
    ·rw [List.mem_singleton] at h; rw [h]; exact name_len hE.name
   (conv => whnf)
   refine dec (fun hm => ?_) (fun hm => ?_)
   ·obtain ⟨n', rfl⟩ : ∃ m, n = m + 1 := ⟨n - 1, by omega⟩
    rw [stepE, if_pos hm] at g3
    (conv => whnf)
    refine cl [] [0, 2] (ih n' (by omega) o.entries[i].id (ins ++ [o.entries[i].name]) q (by rw [List.length_append, List.length_singleton]; omega) hnm g2) ?_
    have hlR := goF_len L (n' + 1) o.entries[i].id (ins ++ [o.entries[i].name]) q g2
    generalize goF L (n' + 1) o.entries[i].id (ins ++ [o.entries[i].name]) q = R at *
    (conv => whnf)
    refine decN (fun h5 => ?_) (fun h5 => ?_)
    ·rw [if_pos h5] at g3
     rw [g3]
     (conv => whnf)
     exact rx [] [.same 0, .same 1, .same 5]
    ·rw [if_neg (by simpa using h5)] at g3
     repeat' ((conv => whnf); refine I6 ?_)
     refine ag (i + 1, R.2) [] [.same 0, .same 1, .same 5] ⟨⟨hlt, hlR⟩, g3⟩ (by simp only []; omega) ?_
     repeat' first | exact trivial | exact rfl | refine And.intro ?_ ?_
   ·rw [stepE, if_neg hm] at g3
    (conv => whnf)
    refine dec (fun h5 => ?_) (fun h5 => ?_)
    ·rw [if_pos (by omega)] at g3
     rw [g3]
     (conv => whnf)
     exact rx [] [.same 0, .same 1, .same 2]
    ·rw [if_neg (by omega)] at g3
     have hul := unsp_bound _ hnm
     (conv => whnf)
     refine ⟨false, .grow, (.l [0, 1, 2, 3, 4, 6, 7, 8, 9, 10, 11, 5, 12, 13, 14, 15, 16]), by kernel_rfl, .inr ⟨Unit, fun _ => ⟨[(0, .c (.bp [.bs 6 Ob encOb L])), (2, .c (.bs 1 (List UInt8) encS ins)), (3, .c (.ptr 0 0)), (40, .c (.ls 4 Ent encEn o.entries)), (41, .c (.int .i64 o.entries.length)), (42, .c (.int .i64 i))], [.box [.rw 2], .dead, .row 4 Fi encFi (q ++ [⟨unsp (ins ++ [o.entries[i].name]), o.entries[i].mode, o.entries[i].id, o.entries[i].repo⟩])]⟩, fun _ => True, ?_, ?_⟩⟩
     ·(conv => whnf)
      refine cl [] [] (pathsJoin_spec (ins ++ [o.entries[i].name]) (by omega) (by omega)) ?_
      (conv => whnf)
      refine ⟨[⟨unsp (ins ++ [o.entries[i].name]), o.entries[i].mode, o.entries[i].id, o.entries[i].repo⟩], rfl, ?_⟩
      (conv => whnf)
      refine ⟨_, _, rfl, rfl, (by simp only [List.length_append, List.length_cons, List.length_nil]; omega), ?_⟩
      (conv => whnf)
      refine ⟨(), trivial, [], [.same 0, .same 1, .same 6], ?_⟩
      repeat' first | exact trivial | exact rfl | refine And.intro ?_ ?_
     intro _ _
     repeat' ((conv => whnf); refine I6 ?_)
     refine ag (i + 1, (q ++ [⟨unsp (ins ++ [o.entries[i].name]), o.entries[i].mode, o.entries[i].id, o.entries[i].repo⟩])) [] [.same 0, .same 1, .same 2] ⟨⟨hlt, by simp only [List.length_append, List.length_cons, List.length_nil]; omega⟩, g3⟩ (by simp only []; omega) ?_
     repeat' first | exact trivial | exact rfl | refine And.intro ?_ ?_
  ·rw [List.drop_of_length_le (by simp at h4; omega)] at g3
   rw [g3]
   (conv => whnf)
   exact rx [] [.same 0, .same 1, .same 2]
theorem flatFiles_spec (L : List Ob) (hL : PoolOk L) (t : Int) : Does Tryz.prog 167 [.c (.bp [.bs 6 Ob encOb L]), .c (.int .i64 t)] [] (Rt (.tup [(false, [.rw 0]), (false, [.int .i64 (filesP L t).2])]) [.row 4 Fi encFi (filesP L t).1]) := by
 refine X_spM (n := 15) (n0 := 0) tabOk Tryz.call167 Tryz.func167 ?_
 intro hb
 have hs := files_spec L hL 8 t [] [] rfl (by simp) (by simp)
 have hl := goF_len L 9 t [] [] (by simp)
 unfold filesP
 generalize goF L 9 t [] [] = R at *
 refine XM.seq ?_
 (conv => whnf)
 refine XM.seq ?_
 (conv => whnf)
 refine XM.le (t := ⟨[(0, .c (.bp [.bs 6 Ob encOb L])), (1, .c (.int .i64 t)), (6, .c (.ptr 0 0))], [.box [.rw 1], .row 4 Fi encFi []]⟩) [] [.same 0, .new] (by repeat' first | exact trivial | exact rfl | refine And.intro ?_ ?_) ?_
 refine XM.of ?_
 (conv => whnf)
 refine cl [] [0, 1] (hs) ?_
 (conv => whnf)
 refine decN (fun h => ?_) (fun h => ?_)
 ·rw [if_neg h]
  (conv => whnf)
  exact rx [] [.new]
 ·rw [if_pos h]
  (conv => whnf)
  exact rx [] [.same 2]
end Go.Nest
end
/- part -/
section

namespace Go.Nest
open Go Go.AM Go.Proofs
open Go.Proofs.YtpechfcbnoggfaaGreatDoor (tab tabOk)
set_option maxRecDepth 4000
def comO (t : Int) (up : List Int) (x : List UInt8) : Ob := ⟨3, [], [], t, up, x⟩
end Go.Nest
end
