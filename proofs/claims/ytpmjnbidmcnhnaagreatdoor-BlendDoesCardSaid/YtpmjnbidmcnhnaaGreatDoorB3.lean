/- part -/
import Derived.Test.YtpmjnbidmcnhnaaGreatDoorB0
import Derived.Test.YtpmjnbidmcnhnaaGreatDoorP8
import Derived.Test.YtpmjnbidmcnhnaaGreatDoorG3
import Derived.Test.YtpmjnbidmcnhnaaGreatDoorP11
set_option linter.unusedVariables false
set_option linter.unusedSimpArgs false
section

namespace Go.Nest
open Go Go.AM Go.Proofs Go.Sort
open Go.Proofs.YtpmjnbidmcnhnaaGreatDoor (tab tabOk)
set_option maxRecDepth 4000
def cmpL (a b : List UInt8) : Int := if lessP a b = true then -1 else if lessP b a = true then 1 else 0
theorem un1_spec {dr : Bool} (a b : List UInt8) (ha : a.length ≤ 4000000) (hb' : b.length ≤ 4000000) : DoesD dr Tryz.prog 120 [.c (.str a), .c (.str b)] [] (Rt (.c (.int .i64 (cmpL a b))) []) := by
 have p1 := less_spec (dr := dr) a b ha hb'
 have p2 := less_spec (dr := dr) b a hb' ha
 refine X_spec (n := 13) (n0 := 0) tabOk Tryz.call120 Tryz.func120 ?_
 intro hb
 unfold cmpL
 generalize lessP a b = x at p1 ⊢
 generalize lessP b a = y at p2 ⊢
 (conv => whnf)
 refine cl [] [] (p1) ?_
 (conv => whnf)
 refine boo (fun h1 => ?_) (fun h1 => ?_)
 ·rw [if_pos h1]
  (conv => whnf)
  exact rtI rfl
 ·rw [if_neg (by rw [h1]; decide)]
  (conv => whnf)
  refine cl [] [] (p2) ?_
  (conv => whnf)
  refine boo (fun h2 => ?_) (fun h2 => ?_)
  ·rw [if_pos h2]
   (conv => whnf)
   exact rtI rfl
  ·rw [if_neg (by rw [h2]; decide)]
   (conv => whnf)
   exact rtI rfl
def cmpT (x y : Tx) : Int := cmpL x.1 y.1
theorem lt_cmp (x y : Tx) : ltOf cmpT x y = lessP x.1 y.1 := by
 unfold ltOf cmpT cmpL
 cases h : lessP x.1 y.1 with
 | true => rw [if_pos rfl]; rfl
 | false =>
  rw [if_neg (by decide)]
  split <;> rfl
theorem cmp_swo : SWO (ltOf cmpT) where
 irrefl x := by rw [lt_cmp]; exact lessP_irrefl
 trans x y z h1 h2 := by rw [lt_cmp] at *; exact lessP_trans h1 h2
 ntrans x y z h1 h2 := by
  rw [lt_cmp] at *
  cases h : lessP x.1 z.1 with
  | false => rfl
  | true =>
   rcases lessP_tri x.1 y.1 with h3 | h3 | h3
   ·rw [h3] at h1; cases h1
   ·rw [h3] at h; rw [h] at h2; cases h2
   ·have := lessP_trans h3 h
    rw [this] at h2; cases h2
theorem cmp_tot (x y : Tx) (h1 : ltOf cmpT x y = false) (h2 : ltOf cmpT y x = false) : x = y := by
 rw [lt_cmp] at *
 refine Subtype.ext ?_
 rcases lessP_tri x.1 y.1 with h3 | h3 | h3
 ·rw [h3] at h1; cases h1
 ·exact h3
 ·rw [h3] at h2; cases h2
def srtT (l : List (List UInt8)) : List (List UInt8) := l.mergeSort fun x y => !lessP y x
theorem sortT_spec (l : List Tx) (hne : l ≠ []) (hl : l.length ≤ 1000000) : Does Tryz.prog 119 [.c (.rw 0), .c (.fn 120 [])] [.row 1 (List UInt8) encS (l.map (·.1))] (Rt (.tup []) [.row 1 (List UInt8) encS (srtT (l.map (·.1)))]) := by
 have h := Does.of_sortF (P := Tryz.prog) (f := 119) (g := 120) (l := l) (l' := l.mergeSort fun x y => !(ltOf cmpT) y x) hne (List.length_mergeSort l) Tryz.call119 (fun blk off cap w hH hblk => by
  have h := Any.slices_SortFunc_total layG6 vTx (fun _ => rfl) cmpT cmp_swo 120 #[] blk off cap l.toArray w Tryz.call120 (lays_of Tryz.call120 (fun x y => un1_spec x.1 y.1 x.2 y.2) blk off _ w) hH hblk (by rw [List.size_toArray]; omega) cmp_tot
  exact h)
 have e : (l.mergeSort fun x y => !(ltOf cmpT) y x).map (·.1) = srtT (l.map (·.1)) := by
  unfold srtT
  exact List.map_mergeSort fun a _ b _ => by rw [lt_cmp]
 rw [e] at h
 exact h
end Go.Nest
end
/- part -/
section

namespace Go.Nest
open Go Go.AM Go.NB Go.Proofs Go.Sort
open Go.Proofs.YtpmjnbidmcnhnaaGreatDoor (tab tabOk)
set_option maxRecDepth 4000
theorem sort0_spec : Does Tryz.prog 119 [.c (.rw 0), .c (.fn 120 [])] [.row 1 (List UInt8) Go.AM.encS []] (Rt (.tup []) [.row 1 (List UInt8) Go.AM.encS []]) := by
 intro F L γ H vs hargs hW w hw
 subst hw
 match vs, hargs with
 | [v, fv], ⟨hv, hfv, _⟩ =>
  obtain rfl : fv = .func (.func 120) #[] #[] := by
   cases hfv with
   | fn hr _ => cases hr; rfl
  obtain ⟨q, cap, rfl⟩ : ∃ q cap, v = .slice q 0 cap := by
   cases hv with
   | @rw _ _ p q n0 cap0 _ _ hg hq _ =>
    rcases hW.br 0 _ _ rfl hg with ⟨p', e, _⟩ | ⟨k, off, cap, cur, e, css, hpe, _⟩
    ·cases e; exact ⟨_, _, rfl⟩
    ·cases hpe; exact ⟨_, _, rfl⟩
  have h : Calls Tryz.prog 119 #[.slice q 0 cap, .func (.func 120) #[] #[]] w fun e w' => e = .returned (.tuple #[]) ∧ w' = w := AnyF.slices_SortFunc_none { layG6 with } q cap _ w
  rw [Tryz.call119]
  refine ⟨rfl, h.mono fun e w' ⟨he, hw'⟩ => .inl ⟨_, he, ⟨.ret (.tup []), [.row 1 (List UInt8) Go.AM.encS []], F, γ, ⟨rfl, rfl⟩, rfl, rfl, rfl, ⟨[], rfl, trivial⟩, ?_⟩, ?_⟩⟩
  ·subst hw'; exact hW
  ·subst hw'; exact AmbD.refl _
theorem tx_of : ∀ {l : List (List UInt8)}, (∀ x ∈ l, x.length ≤ 4000000) → ∃ t : List Tx, t.map (·.1) = l
 | [], _ => ⟨[], rfl⟩
 | x :: l, h => by
  obtain ⟨t, rfl⟩ := tx_of fun y hy => h y (List.mem_cons_of_mem _ hy)
  exact ⟨⟨x, h x (by simp)⟩ :: t, rfl⟩
theorem sortS_spec (l : List (List UInt8)) (hp : ∀ x ∈ l, x.length ≤ 4000000) (hl : l.length ≤ 1000000) : Does Tryz.prog 119 [.c (.rw 0), .c (.fn 120 [])] [.row 1 (List UInt8) Go.AM.encS l] (Rt (.tup []) [.row 1 (List UInt8) Go.AM.encS (srtT l)]) := by
 obtain ⟨t, rfl⟩ := tx_of hp
 rw [List.length_map] at hl
 by_cases h : t = []
 ·subst h
  rw [List.map_nil, show srtT [] = [] by unfold srtT; exact List.mergeSort_nil]
  exact sort0_spec
 ·exact sortT_spec t h hl
def ddT : Option (List UInt8) → List (List UInt8) → List (List UInt8)
 | _, [] => []
 | p, x :: r => if some x = p then ddT p r else x :: ddT (some x) r
theorem ddT_snoc : ∀ {l : List (List UInt8)} {p : Option (List UInt8)} {y : List UInt8}, ddT p (l ++ [y]) = ddT p l ++ (if some y = (match l.getLast? with | some x => some x | none => p) then [] else [y])
 | [], p, y => by
  show (if some y = p then ddT p [] else y :: ddT (some y) []) = [] ++ (if some y = p then [] else [y])
  split <;> rfl
 | x :: l, p, y => by
  have e : (x :: l).getLast? = match l.getLast? with | some z => some z | none => some x := by
   cases l with
   | nil => rfl
   | cons z l => rw [List.getLast?_cons_cons]; cases h : (z :: l).getLast? with
    | none => simp at h
    | some _ => rfl
  rw [List.cons_append, ddT, ddT, e]
  split
  ·rename_i h
   rw [ddT_snoc, ← h]
   cases l.getLast? <;> rfl
  ·rw [ddT_snoc, List.cons_append]
   cases l.getLast? <;> rfl
theorem ddT_at {l : List (List UInt8)} {i : Nat} (h0 : 0 < i) (hi : i < l.length) : ddT none (l.take (i + 1)) = ddT none (l.take i) ++ (if l[i] = l[i - 1] then [] else [l[i]]) := by
 rw [List.take_succ_eq_append_getElem hi, ddT_snoc]
 have e : (l.take i).getLast? = some (l[i - 1]'(by omega)) := by
  rw [List.getLast?_eq_getElem?, List.length_take, Nat.min_eq_left (by omega), List.getElem?_take_of_lt (by omega), List.getElem?_eq_getElem (by omega)]
 rw [e]
 simp only [Option.some.injEq]
structure Cpt (l X : List (List UInt8)) (k n : Nat) : Prop where
 pos : 0 < k
 le : k < n
 nl : n ≤ l.length
 len : X.length = l.length
 front : X.take k = ddT none (l.take n)
 back : ∀ j, n - 1 ≤ j → X[j]? = l[j]?
theorem Cpt.keep {l X : List (List UInt8)} {k n : Nat} (h : Cpt l X k n) (hn : n < l.length) (hne : ¬ l[n] = l[n - 1]) : Cpt l (X.set k l[n]) (k + 1) (n + 1) := by
 have h1 := h.le; have h2 := h.pos; have h3 := h.len
 refine ⟨by omega, by omega, hn, by rw [List.length_set]; exact h.len, ?_, fun j hj => ?_⟩
 ·rw [ddT_at (by omega) hn, if_neg hne, ← h.front, List.take_succ_eq_append_getElem (by rw [List.length_set]; omega), List.getElem_set_self, List.take_set_of_le (Nat.le_refl _)]
 ·rw [List.getElem?_set_ne (by omega)]
  exact h.back j (by omega)
theorem Cpt.drop {l X : List (List UInt8)} {k n : Nat} (h : Cpt l X k n) (hn : n < l.length) (he : l[n] = l[n - 1]) : Cpt l X k (n + 1) := by
 have h1 := h.le; have h2 := h.pos
 refine ⟨h2, by omega, hn, h.len, ?_, fun j hj => h.back j (by omega)⟩
 rw [ddT_at (by omega) hn, if_pos he, List.append_nil]; exact h.front
theorem ddT_start {l : List (List UInt8)} {i : Nat} (h0 : 0 < i) (hi : i < l.length) (hf : ddT none (l.take i) = l.take i) (he : l[i] = l[i - 1]) : Cpt l l i (i + 1) :=
 ⟨h0, by omega, hi, rfl, by rw [ddT_at h0 hi, if_pos he, List.append_nil, hf], fun j hj => rfl⟩
theorem ddT_one {l : List (List UInt8)} (h : l.length < 2) : ddT none l = l := by
 match l, h with
 | [], _ => rfl
 | [x], _ => rfl
set_option maxHeartbeats 2000000 in
theorem compact_spec (l : List (List UInt8)) (hl : l.length ≤ 1000000) : Does Tryz.prog 121 [.c (.rw 0)] [.row 1 (List UInt8) Go.AM.encS l] (Rt (.c (.rw 1)) [.dead, .row 1 (List UInt8) Go.AM.encS (ddT none l)]) := by
 refine X_spec (n := 61) (n0 := 1) tabOk Tryz.call121 Tryz.func121 ?_
 intro hb
 (conv => whnf)
 refine dec (fun h1 => ?_) (fun h1 => ?_)
 ·have h1 : (l.length : Int) < 2 := h1
  rw [ddT_one (by omega)]
  (conv => whnf)
  exact rx [] [.same 0, .same 0]
 have h1 : ¬ (l.length : Int) < 2 := h1
 (conv => whnf)
 refine lp Nat (fun i => ⟨[(0, .c (.rw 0)), (3, .c (.int .i64 i))], [.row 1 (List UInt8) Go.AM.encS l]⟩) (fun i => ((0 < i ∧ i ≤ l.length) ∧ ddT none (l.take i) = l.take i) ∧ True) (fun i => l.length - i) 1 [] [.same 0] ⟨⟨⟨by decide, by omega⟩, ddT_one (by rw [List.length_take]; omega)⟩, trivial⟩ ?_ (fun i hi => ?_)
 ·repeat' first | exact trivial | exact rfl | refine And.intro ?_ ?_
 obtain ⟨⟨⟨hi0, hi⟩, hf⟩, -⟩ := hi
 (conv => whnf)
 refine dec (fun h2 => ?_) (fun h2 => ?_)
 ·have hlt : i < l.length := by have h2 : (i : Int) < l.length := h2; omega
  have hst := ddT_at hi0 hlt
  have hii : l[i]? = some l[i] := List.getElem?_eq_getElem hlt
  have hij : l[i - 1]? = some l[i - 1] := List.getElem?_eq_getElem (by omega)
  have hs2 := ddT_start hi0 hlt hf
  (conv => whnf)
  refine ⟨false, .grow, (.l [0, 1, 2, 3, 4, 5, 6, 7, 8, 9]), by kernel_rfl, .inl ?_⟩
  (conv => whnf)
  refine ⟨i, ⟨rfl, hlt⟩, ?_⟩
  (conv => whnf)
  refine ⟨l[i], hii, ?_⟩
  (conv => whnf)
  refine ⟨i64 (by omega) (by omega), ?_⟩
  (conv => whnf)
  refine ⟨i - 1, ⟨by omega, by omega⟩, ?_⟩
  (conv => whnf)
  refine ⟨l[i - 1], hij, ?_⟩
  (conv => whnf)
  refine dec (fun h3 => ?_) (fun h3 => ?_)
  ·have hs2 := hs2 h3
   (conv => whnf)
   refine ⟨i, l.length, rfl, by omega, by omega, ?_⟩
   (conv => whnf)
   refine lp (Nat × Nat × List (List UInt8)) (fun | (k, j, X) => ⟨[(0, .c (.rw 0)), (3, .c (.int .i64 k)), (4, .c (.sw 1 0 i (l.length - i))), (5, .c (.int .i64 j))], [.row 1 (List UInt8) Go.AM.encS X]⟩) (fun x => (1 ≤ x.2.1 ∧ Cpt l x.2.2 x.1 (i + x.2.1)) ∧ True) (fun x => l.length - x.2.1) (i, 1, l) [] [.same 0] ⟨⟨Nat.le_refl _, hs2⟩, trivial⟩ ?_ (fun x hx => ?_)
   ·repeat' first | exact trivial | exact rfl | refine And.intro ?_ ?_
   obtain ⟨k, j, X⟩ := x
   obtain ⟨⟨hj1, hx⟩, -⟩ := hx
   dsimp only at hj1 hx
   have g1 := hx.le; have g2 := hx.nl; have g3 := hx.len; have g4 := hx.pos
   have hpl : ((X.drop i).take (l.length - i)).length = l.length - i := by rw [List.length_take, List.length_drop]; omega
   (conv => whnf)
   refine dec (fun h4 => ?_) (fun h4 => ?_)
   ·have hjl : i + j < l.length := by have h4 : (j : Int) < ((X.drop i).take (l.length - i)).length := h4; rw [hpl] at h4; omega
    have e1 : X[i + j]? = some l[i + j] := by rw [hx.back _ (by omega), List.getElem?_eq_getElem hjl]
    have e2 : X[i + (j - 1)]? = some l[i + j - 1] := by rw [show i + (j - 1) = i + j - 1 by omega, hx.back _ (by omega), List.getElem?_eq_getElem (by omega)]
    have hk := hx.keep hjl
    have hd := hx.drop hjl
    (conv => whnf)
    refine ⟨false, .grow, (.l [0, 1, 2, 3, 4, 5, 6, 7, 8, 9]), by kernel_rfl, .inl ?_⟩
    (conv => whnf)
    refine ⟨j, ⟨rfl, by omega⟩, ?_⟩
    (conv => whnf)
    refine ⟨l[i + j], e1, ?_⟩
    (conv => whnf)
    refine ⟨i64 (by omega) (by omega), ?_⟩
    (conv => whnf)
    refine ⟨j - 1, ⟨by omega, by omega⟩, ?_⟩
    (conv => whnf)
    refine ⟨l[i + j - 1], e2, ?_⟩
    (conv => whnf)
    refine decN (fun h5 => ?_) (fun h5 => ?_)
    ·(conv => whnf)
     refine ⟨j, ⟨rfl, by omega⟩, ?_⟩
     (conv => whnf)
     refine ⟨l[i + j], e1, ?_⟩
     (conv => whnf)
     refine ⟨k, ⟨rfl, by omega⟩, ?_⟩
     (conv => whnf)
     refine ⟨_, l[i + j], List.getElem?_eq_getElem (by omega), ⟨Nat.le_refl _, rfl⟩, ?_⟩
     repeat' ((conv => whnf); refine I6 ?_)
     refine ag (k + 1, j + 1, X.set k l[i + j]) [] [.same 0] ⟨⟨by show 1 ≤ j + 1; omega, hk h5⟩, trivial⟩ (by simp only []; omega) ?_
     repeat' first | exact trivial | exact rfl | refine And.intro ?_ ?_
    ·repeat' ((conv => whnf); refine I6 ?_)
     refine ag (k, j + 1, X) [] [.same 0] ⟨⟨by show 1 ≤ j + 1; omega, hd h5⟩, trivial⟩ (by simp only []; omega) ?_
     repeat' first | exact trivial | exact rfl | refine And.intro ?_ ?_
   ·have hjl : i + j = l.length := by have h4 : ¬ (j : Int) < ((X.drop i).take (l.length - i)).length := h4; rw [hpl] at h4; omega
    have hfr := hx.front
    rw [hjl, List.take_length] at hfr
    (conv => whnf)
    refine ⟨k, X.length, rfl, by omega, by omega, ?_⟩
    (conv => whnf)
    have hrl : (X.take k ++ (List.replicate (X.length - k) ([] : List UInt8) ++ X.drop (k + (X.length - k)))).length = X.length := by simp; omega
    refine ⟨[], rfl, by omega, ?_⟩
    (conv => whnf)
    refine ⟨0, k, rfl, rfl, ⟨Nat.zero_le _, by rw [hrl]; omega⟩, ?_⟩
    (conv => whnf)
    have he : ((X.take k ++ (List.replicate (X.length - k) ([] : List UInt8) ++ X.drop (k + (X.length - k)))).drop 0).take (k - 0) = ddT none l := by
     rw [List.drop_zero, Nat.sub_zero, List.take_append_of_le_length (by rw [List.length_take]; omega), List.take_take, Nat.min_self]
     exact hfr
    refine rt [] [.same 0, .cut 1 0 0 (k - 0)] ?_ rfl ⟨rfl, rfl⟩
    repeat' first | exact trivial | exact rfl | refine And.intro ?_ ?_
    ·omega
    ·rw [he]
  ·have hne : ¬ l[i] = l[i - 1] := h3
   rw [if_neg hne] at hst
   repeat' ((conv => whnf); refine I6 ?_)
   refine ag (i + 1) [] [.same 0] ⟨⟨⟨Nat.succ_pos _, hlt⟩, by rw [hst, hf, List.take_succ_eq_append_getElem hlt]⟩, trivial⟩ (by simp only []; omega) ?_
   repeat' first | exact trivial | exact rfl | refine And.intro ?_ ?_
 ·obtain rfl : i = l.length := by have h2 : ¬ (i : Int) < l.length := h2; omega
  rw [List.take_length] at hf
  rw [hf]
  (conv => whnf)
  exact rx [] [.same 0, .same 0]
end Go.Nest
end
/- part -/
section

namespace Go.Nest
open Go Go.AM Go.Proofs
open Go.Proofs.YtpmjnbidmcnhnaaGreatDoor (tab tabOk)
set_option maxRecDepth 4000
def fT (q : List UInt8) : Fi := ⟨q, 0, 0, 0⟩
theorem dd_text : ∀ (l : List (List UInt8)) (p : Option (List UInt8)), ddT p l = ddP p (l.map fT)
 | [], p => rfl
 | x :: l, p => by
  rw [List.map_cons, ddT, ddP]
  by_cases h : p = some x
  ·rw [if_pos h.symm, if_pos (show p = some (fT x).path from h), h]
   exact dd_text l (some x)
  ·rw [if_neg (Ne.symm h), if_neg (show ¬ p = some (fT x).path from h), dd_text l (some x)]; rfl
theorem srtT_wk (l : List (List UInt8)) : Wk ((srtT l).map fT) := by
 unfold Wk
 rw [List.pairwise_map]
 have := List.pairwise_mergeSort (le := fun x y => !lessP y x) (fun a b c h1 h2 => by
  have h1 : lessP b a = false := by simpa using h1
  have h2 : lessP c b = false := by simpa using h2
  have := le_trans' (x := a) (y := b) (z := c) h1 h2
  simpa using this) (fun a b => by
  rcases lessP_tri a b with h | h | h
  ·simp [lessP_asymm h]
  ·subst h; simp [lessP_irrefl]
  ·simp [lessP_asymm h]) l
 exact this.imp fun {a b} h => show lessP b a = false by simpa using h
theorem union_paths (ls : List (List Fi)) : ddT none (srtT (ls.flatten.map (·.path))) = pathsP ls := by
 rw [dd_text]
 obtain ⟨a1, a2⟩ := dd_spec (srtT_wk (ls.flatten.map (·.path)))
 obtain ⟨b1, b2⟩ := dd_spec (inOrd_wk ls.flatten)
 unfold pathsP
 refine ris_ext a1 b1 fun q => ?_
 rw [a2, b2]
 constructor
 ·rintro ⟨f, hf, rfl⟩
  obtain ⟨x, hx, rfl⟩ := List.mem_map.1 hf
  obtain ⟨g, hg, rfl⟩ := List.mem_map.1 ((List.mergeSort_perm _ _).mem_iff.1 hx)
  exact ⟨g, (inOrd_perm _).mem_iff.2 hg, rfl⟩
 ·rintro ⟨f, hf, rfl⟩
  exact ⟨fT f.path, List.mem_map.2 ⟨f.path, (List.mergeSort_perm _ _).mem_iff.2 (List.mem_map.2 ⟨f, (inOrd_perm _).mem_iff.1 hf, rfl⟩), rfl⟩, rfl⟩
set_option maxHeartbeats 2000000 in
theorem union_spec (ls : List (List Fi)) (hn : ls.flatten.length ≤ 1000) (hp : ∀ l ∈ ls, ∀ f ∈ l, f.path.length ≤ 4000000) : Does Tryz.prog 78 [.c (.bs 1 (List Fi) (encL 4 encFi) ls)] [] (Rt (.c (.rw 0)) [.row 1 (List UInt8) encS (pathsP ls)]) := by
 rw [← union_paths]
 have hall : ∀ x ∈ ls.flatten.map (·.path), x.length ≤ 4000000 := fun x hx => by
  obtain ⟨f, hf, rfl⟩ := List.mem_map.1 hx
  obtain ⟨l, h1, h2⟩ := List.mem_flatten.1 hf
  exact hp l h1 f h2
 have hal : (ls.flatten.map (·.path)).length ≤ 1000 := by rw [List.length_map]; exact hn
 refine X_spec (n := 31) (n0 := 0) tabOk Tryz.call78 Tryz.func78 ?_
 intro hb; have hb : ls.length ≤ 9223372036854775807 := hb.1.1
 (conv => whnf)
 refine lp Nat (fun i => ⟨[(3, .c (.rw 0)), (8, .c (.bs 1 (List Fi) (encL 4 encFi) ls)), (9, .c (.int .i64 ls.length)), (10, .c (.int .i64 i))], [.row 1 (List UInt8) encS ((ls.take i).flatten.map (·.path))]⟩) (fun i => i ≤ ls.length ∧ True) (fun i => ls.length - i) 0 [] [.new] ⟨Nat.zero_le _, trivial⟩ ?_ (fun i hi => ?_)
 ·repeat' first | exact trivial | exact rfl | refine And.intro ?_ ?_
 obtain ⟨hi, -⟩ := hi
 (conv => whnf)
 refine dec (fun h4 => ?_) (fun h4 => ?_)
 ·have hlt : i < ls.length := by have h4 : (i : Int) < ls.length := h4; omega
  have hiy : ls[i]? = some ls[i] := List.getElem?_eq_getElem hlt
  have hnx : (ls.take (i + 1)).flatten.map (·.path) = (ls.take i).flatten.map (·.path) ++ ls[i].map (·.path) := by
   rw [List.take_succ_eq_append_getElem hlt, List.flatten_append, List.map_append]; simp
  have hle : ((ls.take i).flatten.map (·.path)).length + ls[i].length ≤ 1000 := by
   have h1 : ((ls.take (i + 1)).flatten.map (·.path)).length ≤ 1000 := by
    rw [List.length_map]
    refine Nat.le_trans ?_ hn
    conv => rhs; rw [← List.take_append_drop (i + 1) ls]
    rw [List.flatten_append, List.length_append]; omega
   rw [hnx] at h1
   simp only [List.length_append, List.length_map] at h1 ⊢
   omega
  generalize ls[i] = l at hiy hnx hle
  generalize (ls.take i).flatten.map (·.path) = out at hnx hle ⊢
  (conv => whnf)
  refine ⟨i, l, rfl, hiy, ?_⟩
  (conv => whnf)
  refine lp Nat (fun k => ⟨[(3, .c (.rw 0)), (8, .c (.bs 1 (List Fi) (encL 4 encFi) ls)), (9, .c (.int .i64 ls.length)), (10, .c (.int .i64 i)), (14, .c (.bs 4 Fi encFi l)), (15, .c (.int .i64 l.length)), (16, .c (.int .i64 k))], [.row 1 (List UInt8) encS (out ++ (l.take k).map (·.path))]⟩) (fun k => k ≤ l.length ∧ True) (fun k => l.length - k) 0 [] [.same 0] ⟨Nat.zero_le _, trivial⟩ ?_ (fun k hk => ?_)
  ·rw [List.take_zero, List.map_nil, List.append_nil]
   repeat' first | exact trivial | exact rfl | refine And.intro ?_ ?_
  obtain ⟨hk, -⟩ := hk
  (conv => whnf)
  refine dec (fun h5 => ?_) (fun h5 => ?_)
  ·have hkt : k < l.length := by have h5 : (k : Int) < l.length := h5; omega
   have hky : l[k]? = some l[k] := List.getElem?_eq_getElem hkt
   have hst : out ++ (l.take (k + 1)).map (·.path) = (out ++ (l.take k).map (·.path)) ++ [l[k].path] := by
    rw [List.take_succ_eq_append_getElem hkt, List.map_append, List.append_assoc]; rfl
   have hcl : (out ++ (l.take k).map (·.path)).length ≤ 1000 := by
    rw [List.length_append, List.length_map, List.length_take]; omega
   generalize l[k] = f at hky hst
   generalize out ++ (l.take k).map (·.path) = cur at hst hcl ⊢
   (conv => whnf)
   refine ⟨k, f, rfl, hky, ?_⟩
   (conv => whnf)
   refine ⟨[f.path], rfl, ?_⟩
   (conv => whnf)
   refine ⟨_, _, rfl, rfl, (by simp only [List.length_append, List.length_cons, List.length_nil]; omega), ?_⟩
   repeat' ((conv => whnf); refine I6 ?_)
   refine ag (k + 1) [] [.same 3] ⟨hkt, trivial⟩ (by simp only []; omega) ?_
   rw [hst]
   repeat' first | exact trivial | exact rfl | refine And.intro ?_ ?_
  ·obtain rfl : k = l.length := by have h5 : ¬ (k : Int) < l.length := h5; omega
   rw [List.take_length, ← hnx]
   repeat' ((conv => whnf); refine I6 ?_)
   refine ag (i + 1) [] [.same 0] ⟨hlt, trivial⟩ (by simp only []; omega) ?_
   repeat' first | exact trivial | exact rfl | refine And.intro ?_ ?_
 ·obtain rfl : i = ls.length := by have h4 : ¬ (i : Int) < ls.length := h4; omega
  rw [List.take_length]
  have p1 := sortS_spec _ hall (Nat.le_trans hal (by decide))
  have p2 := compact_spec (srtT (ls.flatten.map (·.path))) (by unfold srtT; rw [List.length_mergeSort]; exact Nat.le_trans hal (by decide))
  generalize ls.flatten.map (·.path) = all at p1 p2 ⊢
  (conv => whnf)
  refine cl [] [0] (p1) ?_
  (conv => whnf)
  refine cl [] [0] (p2) ?_
  (conv => whnf)
  exact rx [] [.same 1]
end Go.Nest
end
