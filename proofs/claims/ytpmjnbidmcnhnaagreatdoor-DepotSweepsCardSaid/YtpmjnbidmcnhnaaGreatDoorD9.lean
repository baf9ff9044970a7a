/- part -/
import Derived.Test.YtpmjnbidmcnhnaaGreatDoorU0
import Derived.Test.YtpmjnbidmcnhnaaGreatDoorW1
import Derived.Test.YtpmjnbidmcnhnaaGreatDoorW7
import Derived.Test.YtpmjnbidmcnhnaaGreatDoorP9
import Derived.Test.YtpmjnbidmcnhnaaGreatDoorF7
import Derived.Test.YtpmjnbidmcnhnaaGreatDoorG9
import Derived.Test.YtpmjnbidmcnhnaaGreatDoorG12
set_option linter.unusedVariables false
set_option linter.unusedSimpArgs false
section

namespace Go.Nest
open Go Go.AM
theorem Anc.trans {L : List Ob} {a b c : Int} (h : Anc L a b) (h2 : Anc L b c) : Anc L a c := by
 induction h with
 | refl => exact h2
 | step h _ ih => exact .step h (ih h2)
theorem Anc.first {L : List Ob} {a b : Int} (h : Anc L a b) : b = a ∨ ∃ p ∈ (getP L a).parents, Anc L p b := by
 cases h with
 | refl => exact .inl rfl
 | step h1 h2 => exact .inr ⟨_, h1, h2⟩
end Go.Nest
end
/- part -/
section

namespace Go.Nest
open Go Go.AM
def addI (out : List Int) (id : Int) : List Int := if id ∈ out then out else out ++ [id]
def imA (im : List (List Int)) (k : Int) : List Int := (im[k.toNat]?).getD []
def upO (im : List (List Int)) (ks : List Int) : List Int := ks.foldl (fun out k => (imA im k).foldl addI out) []
theorem anc_more {L M : List Ob} (hp : PoolOk L) (hx : L <+: M) {a b : Int} (ha : kindOf L a = 3) : Anc M a b ↔ Anc L a b := by
 constructor
 ·intro h
  induction h with
  | refl => exact .refl _
  | step h1 _ ih =>
   rw [ext_get hx (by omega)] at h1
   exact .step h1 (ih (par_kind hp ha h1))
 ·intro h
  induction h with
  | refl => exact .refl _
  | step h1 _ ih =>
   refine .step ?_ (ih (par_kind hp ha h1))
   rw [ext_get hx (by omega)]; exact h1
theorem com_tree {L : List Ob} (hp : PoolOk L) {j : Int} (hj : kindOf L j = 3) : kindOf L (getP L j).tree = 2 := by
 obtain ⟨h1, h2⟩ := kindOf_pos (l := L) (id := j) (by omega)
 have := (hp.obj (getP L j) (by rw [getP_at h1 h2]; exact List.getElem_mem _)).2
 have hk := getP_kind (l := L) (id := j)
 unfold leadsP at this
 rw [Bool.and_eq_true, Bool.and_eq_true] at this
 have := this.2.2
 rw [hk, hj] at this
 simpa using this
theorem atL_more {L M : List Ob} (hp : PoolOk L) (hx : L <+: M) : ∀ {ds : List (List UInt8)} {t : Int}, ¬ kindOf L t = 0 → atL M t ds = atL L t ds
 | [], t, h => rfl
 | d :: ds, t, h => by
  unfold atL
  rw [ext_kind hx h, ext_get hx h]
  split
  ·rfl
  ·rename_i hk
   have hk := Decidable.not_not.1 hk
   cases e : (getP L t).entries.find? (isDir d) with
   | none => rfl
   | some x =>
    have hm := List.mem_of_find?_eq_some e
    have q := (tree_ok hp hk).2 x hm
    have q1 := q.m1
    have q2 := q.kind
    exact atL_more hp hx (by omega)
theorem atF_more {L M : List Ob} (hp : PoolOk L) (hx : L <+: M) {t : Int} (h : ¬ kindOf L t = 0) (dir : List UInt8) : atF M t dir = atF L t dir := by
 unfold atF
 rw [atL_more hp hx h]
def Coms (L : List Ob) (l : List Int) : Prop := ∀ x ∈ l, kindOf L x = 3
theorem Coms.mono {L M : List Ob} (hx : L <+: M) {l : List Int} (h : Coms L l) : Coms M l := fun x hm => by
 have := h x hm
 rw [ext_kind hx (by omega)]; exact this
theorem addI_mem {x id : Int} {out : List Int} : x ∈ addI out id ↔ x ∈ out ∨ x = id := by
 unfold addI
 split
 ·rename_i h
  constructor
  ·exact .inl
  ·rintro (h1 | rfl)
   ·exact h1
   ·exact h
 ·simp
theorem addF_mem {x : Int} : ∀ {l out : List Int}, x ∈ l.foldl addI out ↔ x ∈ out ∨ x ∈ l
 | [], out => by simp
 | a :: l, out => by
  rw [List.foldl_cons, addF_mem, addI_mem, List.mem_cons, or_assoc]
theorem upF_mem {x : Int} {im : List (List Int)} : ∀ {ks out : List Int}, x ∈ ks.foldl (fun out k => (imA im k).foldl addI out) out ↔ x ∈ out ∨ ∃ k ∈ ks, x ∈ imA im k
 | [], out => by simp
 | a :: l, out => by
  rw [List.foldl_cons, upF_mem, addF_mem, or_assoc]
  simp
theorem upO_mem {x : Int} {im : List (List Int)} {ks : List Int} : x ∈ upO im ks ↔ ∃ k ∈ ks, x ∈ imA im k := by
 unfold upO; rw [upF_mem]; simp
def ImP (P : Int → Prop) (im : List (List Int)) : Prop := ∀ k, ∀ x ∈ imA im k, P x
theorem ImP.up {P : Int → Prop} {im : List (List Int)} (h : ImP P im) {ks : List Int} : ∀ x ∈ upO im ks, P x := fun x hx => by
 obtain ⟨k, -, h2⟩ := upO_mem.1 hx
 exact h k x h2
theorem ImP.put {P : Int → Prop} {im : List (List Int)} (h : ImP P im) {n : Nat} {v : List Int} (hv : ∀ x ∈ v, P x) : ImP P (im.set n v) := fun k x hx => by
 unfold imA at hx
 rw [List.getElem?_set] at hx
 split at hx
 ·split at hx
  ·exact hv x hx
  ·cases hx
 ·exact h k x hx
theorem ImP.start {P : Int → Prop} {n : Nat} : ImP P (List.replicate n []) := fun k x hx => by
 unfold imA at hx
 rw [List.getElem?_replicate] at hx
 split at hx <;> cases hx
theorem ImP.mono {P Q : Int → Prop} {im : List (List Int)} (h : ImP P im) (hPQ : ∀ x, P x → Q x) : ImP Q im := fun k x hx => hPQ x (h k x hx)
def Eqv (im im2 : List (List Int)) : Prop := ∀ n : Nat, (im[n]?).getD [] = (im2[n]?).getD []
theorem Eqv.at {im im2 : List (List Int)} (h : Eqv im im2) (k : Int) : imA im k = imA im2 k := h k.toNat
theorem Eqv.up {im im2 : List (List Int)} (h : Eqv im im2) (ks : List Int) : upO im ks = upO im2 ks := by
 unfold upO
 have : (fun out k => (imA im k).foldl addI out) = (fun (out : List Int) k => (imA im2 k).foldl addI out) := by funext out k; rw [h.at]
 rw [this]
theorem Eqv.put {im im2 : List (List Int)} (h : Eqv im im2) {n : Nat} (h1 : n < im.length) (h2 : n < im2.length) (v : List Int) : Eqv (im.set n v) (im2.set n v) := fun k => by
 rw [List.getElem?_set, List.getElem?_set]
 by_cases e : n = k
 ·rw [if_pos e, if_pos e, if_pos h1, if_pos h2]
 ·rw [if_neg e, if_neg e]; exact h k
def Good (L : List Ob) (line : Int → Prop) (dir : List UInt8) (x : Int) : Prop := kindOf L x = 3 ∧ ∀ y, Anc L x y → ∃ j, line j ∧ kindOf L j = 3 ∧ atF L (getP L j).tree dir = ((getP L y).tree, 0)
theorem Good.mono {L M : List Ob} (hp : PoolOk L) (hx : L <+: M) {line : Int → Prop} {dir : List UInt8} {x : Int} (h : Good L line dir x) : Good M line dir x := by
 obtain ⟨h1, h2⟩ := h
 refine ⟨by rw [ext_kind hx (by omega)]; exact h1, fun y hy => ?_⟩
 have hy := (anc_more hp hx h1).1 hy
 have hk := hy.kind hp h1
 obtain ⟨j, a, b, c⟩ := h2 y hy
 have ht := com_tree hp b
 refine ⟨j, a, by rw [ext_kind hx (by omega)]; exact b, ?_⟩
 rw [ext_get hx (by omega), ext_get hx (by omega), atF_more hp hx (by omega), c]
end Go.Nest
end
/- part -/
section

namespace Go.Nest
open Go Go.AM Go.Proofs
open Go.Proofs.YtpmjnbidmcnhnaaGreatDoor (tab tabOk)
set_option maxRecDepth 4000
theorem add_ok {n : Nat} : ∀ {l out : List Int}, out.Nodup → (∀ x ∈ out, 0 ≤ x ∧ x < n) → (∀ x ∈ l, 0 ≤ x ∧ x < n) → (l.foldl addI out).Nodup ∧ ∀ x ∈ l.foldl addI out, 0 ≤ x ∧ x < n
 | [], out, h1, h2, _ => ⟨h1, h2⟩
 | a :: l, out, h1, h2, h3 => by
  rw [List.foldl_cons]
  refine add_ok ?_ (fun x hx => ?_) (fun x hx => h3 x (by simp [hx]))
  ·unfold addI
   split
   ·exact h1
   ·rename_i h
    rw [List.nodup_append]
    exact ⟨h1, by simp, fun x hx y hy => by rw [List.mem_singleton] at hy; subst hy; exact fun e => h (e ▸ hx)⟩
  ·rcases addI_mem.1 hx with hx | rfl
   ·exact h2 x hx
   ·exact h3 x (by simp)
structure Fit (im : List (List Int)) : Prop where
 len : ∀ k, (imA im k).length ≤ 600
 all : ∀ k, ∀ x ∈ imA im k, 0 ≤ x ∧ x < (600 : Nat)
theorem add_take {l out : List Int} {j : Nat} (h : j < l.length) : (l.take (j + 1)).foldl addI out = addI ((l.take j).foldl addI out) l[j] := by
 rw [List.take_succ_eq_append_getElem h, List.foldl_append]; rfl
end Go.Nest
end
/- part -/
section

namespace Go.Nest
open Go Go.AM
structure Dp where
 own : Nat → List Bool
 bor : Nat → List Int
def isR (r : Int) : Bool := decide (0 ≤ r) && decide (r < 4)
theorem isR_iff {r : Int} : isR r = true ↔ ∃ i : Nat, i < 4 ∧ r = i := by
 unfold isR
 rw [Bool.and_eq_true, decide_eq_true_iff, decide_eq_true_iff]
 constructor
 ·rintro ⟨h1, h2⟩; exact ⟨r.toNat, by omega, by omega⟩
 ·rintro ⟨i, h1, rfl⟩; omega
theorem four {i : Nat} (h : i < 4) : i = 0 ∨ i = 1 ∨ i = 2 ∨ i = 3 := by omega
def BorOk (b : Nat → List Int) : Prop := ∀ i, i < 4 → (b i).length ≤ 4 ∧ ∀ q ∈ b i, 0 ≤ q ∧ q < (4 : Nat)
def lendG (b : Nat → List Int) : Nat → List Int → Nat → List Int
 | 0, out, _ => out
 | n + 1, out, i => match out[i]? with
  | some q => lendG b n ((b q.toNat).foldl addI out) (i + 1)
  | none => out
def lendP (b : Nat → List Int) (r : Int) : List Int := lendG b 5 [r] 0
def ownP (o : Nat → List Bool) (r id : Int) : Bool := isR r && (decide (0 ≤ id) && (decide (id < (o r.toNat).length) && ((o r.toNat)[id.toNat]?).getD false))
def hasP (d : Dp) (r id : Int) : Bool := isR r && (lendP d.bor r).any fun q => ownP d.own q id
theorem lend_stop {b : Nat → List Int} : ∀ {n : Nat} {out : List Int} {i : Nat}, out[i]? = none → lendG b n out i = out
 | 0, out, i, h => rfl
 | n + 1, out, i, h => by unfold lendG; rw [h]
theorem addI_len {out : List Int} {x : Int} : out.length ≤ (addI out x).length := by unfold addI; split <;> simp
theorem addF_len : ∀ {l out : List Int}, out.length ≤ (l.foldl addI out).length
 | [], out => Nat.le_refl _
 | x :: l, out => Nat.le_trans addI_len (addF_len (l := l) (out := addI out x))
structure LenI (b : Nat → List Int) (r : Int) (i : Nat) (out : List Int) : Prop where
 nd : out.Nodup
 all : ∀ x ∈ out, 0 ≤ x ∧ x < (4 : Nat)
 le : i ≤ out.length
 eq : lendP b r = lendG b (5 - i) out i
theorem LenI.len {b : Nat → List Int} {r : Int} {i : Nat} {out : List Int} (h : LenI b r i out) : out.length ≤ 4 := nodup_len 4 h.nd h.all
theorem LenI.start {b : Nat → List Int} {r : Int} (h : isR r = true) : LenI b r 0 [r] := by
 obtain ⟨k, hk, rfl⟩ := isR_iff.1 h
 refine ⟨by simp, fun x hx => ?_, by simp, rfl⟩
 rw [List.mem_singleton] at hx
 subst hx; omega
theorem LenI.next {b : Nat → List Int} (hb : BorOk b) {r : Int} {i : Nat} {out : List Int} (h : LenI b r i out) (hi : i < out.length) : LenI b r (i + 1) ((b out[i].toNat).foldl addI out) := by
 have hx := h.all _ (List.getElem_mem hi)
 have hl := h.len
 obtain ⟨a, c⟩ := add_ok (l := b out[i].toNat) h.nd h.all (hb out[i].toNat (by omega)).2
 have hle : out.length ≤ ((b out[i].toNat).foldl addI out).length := addF_len
 refine ⟨a, c, by omega, ?_⟩
 rw [h.eq]
 conv => lhs; rw [show 5 - i = (5 - (i + 1)) + 1 by omega]
 conv => lhs; unfold lendG
 rw [List.getElem?_eq_getElem hi]
theorem LenI.stop {b : Nat → List Int} {r : Int} {i : Nat} {out : List Int} (h : LenI b r i out) (hi : ¬ i < out.length) : lendP b r = out := by
 rw [h.eq, lend_stop (List.getElem?_eq_none (by omega))]
end Go.Nest
end
/- part -/
section

namespace Go.Nest
open Go Go.AM Go.Proofs
open Go.Proofs.YtpmjnbidmcnhnaaGreatDoor (tab tabOk)
set_option maxRecDepth 4000
theorem repo_spec (r : Int) : Does Tryz.prog 67 [.c (.int .i64 r)] [] (Rt (.c (.bool (isR r))) []) := by
 refine X_spec (n := 9) (n0 := 0) tabOk Tryz.call67 Tryz.func67 ?_
 intro hb
 (conv => whnf)
 refine dec (fun h1 => ?_) (fun h1 => ?_)
 ·(conv => whnf)
  exact rtB (by unfold isR; rw [decide_eq_true (show 0 ≤ r from h1)]; rfl)
 ·(conv => whnf)
  exact rtB (by unfold isR; rw [decide_eq_false (show ¬ 0 ≤ r from h1)]; rfl)
theorem isRepo_spec (r : Int) : Does Tryz.prog 71 [.c (.int .i64 r)] [] (Rt (.c (.bool (isR r))) []) := by
 refine X_spec (n := 9) (n0 := 0) tabOk Tryz.call71 Tryz.func71 ?_
 intro hb
 (conv => whnf)
 refine dec (fun h1 => ?_) (fun h1 => ?_)
 ·(conv => whnf)
  exact rtB (by unfold isR; rw [decide_eq_true (show 0 ≤ r from h1)]; rfl)
 ·(conv => whnf)
  exact rtB (by unfold isR; rw [decide_eq_false (show ¬ 0 ≤ r from h1)]; rfl)
set_option maxHeartbeats 4000000 in
theorem lenders_spec (L : List Ob) (o : Nat → List Bool) (b : Nat → List Int) (hb4 : BorOk b) (r : Int) (hr : isR r = true) : Does Tryz.prog 69 [.c (.bp [.bp [.bs 6 Ob encOb L], .bs 1 Bool encBo (o 0), .bs 1 Bool encBo (o 1), .bs 1 Bool encBo (o 2), .bs 1 Bool encBo (o 3), .bs 1 Int encI (b 0), .bs 1 Int encI (b 1), .bs 1 Int encI (b 2), .bs 1 Int encI (b 3)]), .c (.int .i64 r)] [] (Rt (.c (.rw 0)) [.row 1 Int encI (lendP b r)]) := by
 refine X_spec (n := 41) (n0 := 0) tabOk Tryz.call69 Tryz.func69 ?_
 intro hb
 (conv => whnf)
 refine ⟨[r], rfl, ?_⟩
 (conv => whnf)
 refine lp (Nat × List Int) (fun p => ⟨[(0, .c (.bp [.bp [.bs 6 Ob encOb L], .bs 1 Bool encBo (o 0), .bs 1 Bool encBo (o 1), .bs 1 Bool encBo (o 2), .bs 1 Bool encBo (o 3), .bs 1 Int encI (b 0), .bs 1 Int encI (b 1), .bs 1 Int encI (b 2), .bs 1 Int encI (b 3)])), (5, .c (.rw 0)), (6, .c (.int .i64 p.1))], [.row 1 Int encI p.2]⟩) (fun p => LenI b r p.1 p.2 ∧ True) (fun p => 4 - p.1) (0, [r]) [] [.same 0] ?_ ?_ (fun ⟨i, out⟩ hx => ?_)
 ·exact ⟨LenI.start hr, trivial⟩
 ·repeat' first | exact trivial | exact rfl | refine And.intro ?_ ?_
 obtain ⟨hx, -⟩ := hx
 have hx : LenI b r i out := hx
 have hol := hx.len
 (conv => whnf)
 refine dec (fun h4 => ?_) (fun h4 => ?_)
 ·have hlt : i < out.length := by have h4 : (i : Int) < out.length := h4; omega
  obtain ⟨k, hk4, hqe⟩ : ∃ k : Nat, k < 4 ∧ out[i] = k := by
   have := hx.all _ (List.getElem_mem hlt)
   exact ⟨out[i].toNat, by omega, by omega⟩
  rcases four hk4 with rfl | rfl | rfl | rfl
  ·have hn := hx.next hb4 hlt
   rw [hqe] at hn
   have hl4 := (hb4 0 (by decide)).1
   (conv => whnf)
   refine ⟨false, .grow, (.l [0, 1, 2, 3, 4, 5, 6, 7, 8, 9, 10]), by kernel_rfl, .inl ?_⟩
   (conv => whnf)
   refine ⟨i, ⟨rfl, hlt⟩, ?_⟩
   (conv => whnf)
   refine ⟨0, by rw [List.getElem?_eq_getElem hlt, hqe]; rfl, ?_⟩
   (conv => whnf)
   refine ⟨0, ⟨rfl, by decide⟩, ?_⟩
   (conv => whnf)
   refine lp Nat (fun j => ⟨[(0, .c (.bp [.bp [.bs 6 Ob encOb L], .bs 1 Bool encBo (o 0), .bs 1 Bool encBo (o 1), .bs 1 Bool encBo (o 2), .bs 1 Bool encBo (o 3), .bs 1 Int encI (b 0), .bs 1 Int encI (b 1), .bs 1 Int encI (b 2), .bs 1 Int encI (b 3)])), (5, .c (.rw 0)), (6, .c (.int .i64 i)), (25, .c (.bs 1 Int encI (b 0))), (26, .c (.int .i64 (b 0).length)), (27, .c (.int .i64 j))], [.row 1 Int encI (((b 0).take j).foldl addI out)]⟩) (fun j => j ≤ (b 0).length ∧ True) (fun j => (b 0).length - j) 0 [] [.same 0] ?_ ?_ (fun j hj => ?_)
   ·simp
   ·repeat' first | exact trivial | exact rfl | refine And.intro ?_ ?_
   (conv => whnf)
   refine dec (fun h5 => ?_) (fun h5 => ?_)
   ·have hjt : j < (b 0).length := by omega
    have hs2 := add_take (out := out) hjt
    obtain ⟨v1, v2⟩ := add_ok (l := (b 0).take j) hx.nd hx.all (fun x hx => (hb4 0 (by decide)).2 x (List.mem_of_mem_take hx))
    have v3 := nodup_len 4 v1 v2
    have hjy : (b 0)[j]? = some (b 0)[j] := List.getElem?_eq_getElem hjt
    generalize ((b 0).take j).foldl addI out = o2 at hs2 v1 v2 v3 ⊢
    generalize (b 0)[j] = y at hjy hs2
    (conv => whnf)
    refine ⟨j, y, rfl, hjy, ?_⟩
    (conv => whnf)
    refine cl [] [] (contains_spec o2 y) ?_
    (conv => whnf)
    refine boo (fun h6 => ?_) (fun h6 => ?_)
    ·have h6 : y ∉ o2 := fun h => by rw [hasI_iff.2 h] at h6; cases h6
     rw [show addI o2 y = o2 ++ [y] from if_neg h6] at hs2
     (conv => whnf)
     refine ⟨[y], rfl, ?_⟩
     (conv => whnf)
     refine ⟨_, _, rfl, rfl, (by simp only [List.length_append, List.length_cons, List.length_nil]; omega), ?_⟩
     repeat' ((conv => whnf); refine I6 ?_)
     refine ag (j + 1) [] [.same 2] ⟨hjt, trivial⟩ (by simp only []; omega) ?_
     rw [hs2]
     repeat' first | exact trivial | exact rfl | refine And.intro ?_ ?_
    ·have h6 : y ∈ o2 := hasI_iff.1 (by simpa using h6)
     rw [show addI o2 y = o2 from if_pos h6] at hs2
     repeat' ((conv => whnf); refine I6 ?_)
     refine ag (j + 1) [] [.same 0] ⟨hjt, trivial⟩ (by simp only []; omega) ?_
     rw [hs2]
     repeat' first | exact trivial | exact rfl | refine And.intro ?_ ?_
   ·obtain rfl : j = (b 0).length := by omega
    rw [List.take_length]
    repeat' ((conv => whnf); refine I6 ?_)
    refine ag (i + 1, (b 0).foldl addI out) [] [.same 0] ⟨hn, trivial⟩ (by have := hn.le; have := hn.len; simp only []; omega) ?_
    repeat' first | exact trivial | exact rfl | refine And.intro ?_ ?_
  ·have hn := hx.next hb4 hlt
   rw [hqe] at hn
   have hl4 := (hb4 1 (by decide)).1
   (conv => whnf)
   refine ⟨false, .grow, (.l [0, 1, 2, 3, 4, 5, 6, 7, 8, 9, 10]), by kernel_rfl, .inl ?_⟩
   (conv => whnf)
   refine ⟨i, ⟨rfl, hlt⟩, ?_⟩
   (conv => whnf)
   refine ⟨1, by rw [List.getElem?_eq_getElem hlt, hqe]; rfl, ?_⟩
   (conv => whnf)
   refine ⟨1, ⟨rfl, by decide⟩, ?_⟩
   (conv => whnf)
   refine lp Nat (fun j => ⟨[(0, .c (.bp [.bp [.bs 6 Ob encOb L], .bs 1 Bool encBo (o 0), .bs 1 Bool encBo (o 1), .bs 1 Bool encBo (o 2), .bs 1 Bool encBo (o 3), .bs 1 Int encI (b 0), .bs 1 Int encI (b 1), .bs 1 Int encI (b 2), .bs 1 Int encI (b 3)])), (5, .c (.rw 0)), (6, .c (.int .i64 i)), (25, .c (.bs 1 Int encI (b 1))), (26, .c (.int .i64 (b 1).length)), (27, .c (.int .i64 j))], [.row 1 Int encI (((b 1).take j).foldl addI out)]⟩) (fun j => j ≤ (b 1).length ∧ True) (fun j => (b 1).length - j) 0 [] [.same 0] ?_ ?_ (fun j hj => ?_)
   ·simp
   ·repeat' first | exact trivial | exact rfl | refine And.intro ?_ ?_
   (conv => whnf)
   refine dec (fun h5 => ?_) (fun h5 => ?_)
   ·have hjt : j < (b 1).length := by omega
    have hs2 := add_take (out := out) hjt
    obtain ⟨v1, v2⟩ := add_ok (l := (b 1).take j) hx.nd hx.all (fun x hx => (hb4 1 (by decide)).2 x (List.mem_of_mem_take hx))
    have v3 := nodup_len 4 v1 v2
    have hjy : (b 1)[j]? = some (b 1)[j] := List.getElem?_eq_getElem hjt
    generalize ((b 1).take j).foldl addI out = o2 at hs2 v1 v2 v3 ⊢
    generalize (b 1)[j] = y at hjy hs2
    (conv => whnf)
    refine ⟨j, y, rfl, hjy, ?_⟩
    (conv => whnf)
    refine cl [] [] (contains_spec o2 y) ?_
    (conv => whnf)
    refine boo (fun h6 => ?_) (fun h6 => ?_)
    ·have h6 : y ∉ o2 := fun h => by rw [hasI_iff.2 h] at h6; cases h6
     rw [show addI o2 y = o2 ++ [y] from if_neg h6] at hs2
     (conv => whnf)
     refine ⟨[y], rfl, ?_⟩
     (conv => whnf)
     refine ⟨_, _, rfl, rfl, (by simp only [List.length_append, List.length_cons, List.length_nil]; omega), ?_⟩
     repeat' ((conv => whnf); refine I6 ?_)
     refine ag (j + 1) [] [.same 2] ⟨hjt, trivial⟩ (by simp only []; omega) ?_
     rw [hs2]
     repeat' first | exact trivial | exact rfl | refine And.intro ?_ ?_
    ·have h6 : y ∈ o2 := hasI_iff.1 (by simpa using h6)
     rw [show addI o2 y = o2 from if_pos h6] at hs2
     repeat' ((conv => whnf); refine I6 ?_)
     refine ag (j + 1) [] [.same 0] ⟨hjt, trivial⟩ (by simp only []; omega) ?_
     rw [hs2]
     repeat' first | exact trivial | exact rfl | refine And.intro ?_ ?_
   ·obtain rfl : j = (b 1).length := by omega
    rw [List.take_length]
    repeat' ((conv => whnf); refine I6 ?_)
    refine ag (i + 1, (b 1).foldl addI out) [] [.same 0] ⟨hn, trivial⟩ (by have := hn.le; have := hn.len; simp only []; omega) ?_
    repeat' first | exact trivial | exact rfl | refine And.intro ?_ ?_
  ·have hn := hx.next hb4 hlt
   rw [hqe] at hn
   have hl4 := (hb4 2 (by decide)).1
   (conv => whnf)
   refine ⟨false, .grow, (.l [0, 1, 2, 3, 4, 5, 6, 7, 8, 9, 10]), by kernel_rfl, .inl ?_⟩
   (conv => whnf)
   refine ⟨i, ⟨rfl, hlt⟩, ?_⟩
   (conv => whnf)
   refine ⟨2, by rw [List.getElem?_eq_getElem hlt, hqe]; rfl, ?_⟩
   (conv => whnf)
   refine ⟨2, ⟨rfl, by decide⟩, ?_⟩
   (conv => whnf)
   refine lp Nat (fun j => ⟨[(0, .c (.bp [.bp [.bs 6 Ob encOb L], .bs 1 Bool encBo (o 0), .bs 1 Bool encBo (o 1), .bs 1 Bool encBo (o 2), .bs 1 Bool encBo (o 3), .bs 1 Int encI (b 0), .bs 1 Int encI (b 1), .bs 1 Int encI (b 2), .bs 1 Int encI (b 3)])), (5, .c (.rw 0)), (6, .c (.int .i64 i)), (25, .c (.bs 1 Int encI (b 2))), (26, .c (.int .i64 (b 2).length)), (27, .c (.int .i64 j))], [.row 1 Int encI (((b 2).take j).foldl addI out)]⟩) (fun j => j ≤ (b 2).length ∧ True) (fun j => (b 2).length - j) 0 [] [.same 0] ?_ ?_ (fun j hj => ?_)
   ·simp
   ·repeat' first | exact trivial | exact rfl | refine And.intro ?_ ?_
   (conv => whnf)
   refine dec (fun h5 => ?_) (fun h5 => ?_)
   ·have hjt : j < (b 2).length := by omega
    have hs2 := add_take (out := out) hjt
    obtain ⟨v1, v2⟩ := add_ok (l := (b 2).take j) hx.nd hx.all (fun x hx => (hb4 2 (by decide)).2 x (List.mem_of_mem_take hx))
    have v3 := nodup_len 4 v1 v2
    have hjy : (b 2)[j]? = some (b 2)[j] := List.getElem?_eq_getElem hjt
    generalize ((b 2).take j).foldl addI out = o2 at hs2 v1 v2 v3 ⊢
    generalize (b 2)[j] = y at hjy hs2
    (conv => whnf)
    refine ⟨j, y, rfl, hjy, ?_⟩
    (conv => whnf)
    refine cl [] [] (contains_spec o2 y) ?_
    (conv => whnf)
    refine boo (fun h6 => ?_) (fun h6 => ?_)
    ·have h6 : y ∉ o2 := fun h => by rw [hasI_iff.2 h] at h6; cases h6
     rw [show addI o2 y = o2 ++ [y] from if_neg h6] at hs2
     (conv => whnf)
     refine ⟨[y], rfl, ?_⟩
     (conv => whnf)
     refine ⟨_, _, rfl, rfl, (by simp only [List.length_append, List.length_cons, List.length_nil]; omega), ?_⟩
     repeat' ((conv => whnf); refine I6 ?_)
     refine ag (j + 1) [] [.same 2] ⟨hjt, trivial⟩ (by simp only []; omega) ?_
     rw [hs2]
     repeat' first | exact trivial | exact rfl | refine And.intro ?_ ?_
    ·have h6 : y ∈ o2 := hasI_iff.1 (by simpa using h6)
     rw [show addI o2 y = o2 from if_pos h6] at hs2
     repeat' ((conv => whnf); refine I6 ?_)
     refine ag (j + 1) [] [.same 0] ⟨hjt, trivial⟩ (by simp only []; omega) ?_
     rw [hs2]
     repeat' first | exact trivial | exact rfl | refine And.intro ?_ ?_
   ·obtain rfl : j = (b 2).length := by omega
    rw [List.take_length]
    repeat' ((conv => whnf); refine I6 ?_)
    refine ag (i + 1, (b 2).foldl addI out) [] [.same 0] ⟨hn, trivial⟩ (by have := hn.le; have := hn.len; simp only []; omega) ?_
    repeat' first | exact trivial | exact rfl | refine And.intro ?_ ?_
  ·have hn := hx.next hb4 hlt
   rw [hqe] at hn
   have hl4 := (hb4 3 (by decide)).1
   (conv => whnf)
   refine ⟨false, .grow, (.l [0, 1, 2, 3, 4, 5, 6, 7, 8, 9, 10]), by kernel_rfl, .inl ?_⟩
   (conv => whnf)
   refine ⟨i, ⟨rfl, hlt⟩, ?_⟩
   (conv => whnf)
   refine ⟨3, by rw [List.getElem?_eq_getElem hlt, hqe]; rfl, ?_⟩
   (conv => whnf)
   refine ⟨3, ⟨rfl, by decide⟩, ?_⟩
   (conv => whnf)
   refine lp Nat (fun j => ⟨[(0, .c (.bp [.bp [.bs 6 Ob encOb L], .bs 1 Bool encBo (o 0), .bs 1 Bool encBo (o 1), .bs 1 Bool encBo (o 2), .bs 1 Bool encBo (o 3), .bs 1 Int encI (b 0), .bs 1 Int encI (b 1), .bs 1 Int encI (b 2), .bs 1 Int encI (b 3)])), (5, .c (.rw 0)), (6, .c (.int .i64 i)), (25, .c (.bs 1 Int encI (b 3))), (26, .c (.int .i64 (b 3).length)), (27, .c (.int .i64 j))], [.row 1 Int encI (((b 3).take j).foldl addI out)]⟩) (fun j => j ≤ (b 3).length ∧ True) (fun j => (b 3).length - j) 0 [] [.same 0] ?_ ?_ (fun j hj => ?_)
   ·simp
   ·repeat' first | exact trivial | exact rfl | refine And.intro ?_ ?_
   (conv => whnf)
   refine dec (fun h5 => ?_) (fun h5 => ?_)
   ·have hjt : j < (b 3).length := by omega
    have hs2 := add_take (out := out) hjt
    obtain ⟨v1, v2⟩ := add_ok (l := (b 3).take j) hx.nd hx.all (fun x hx => (hb4 3 (by decide)).2 x (List.mem_of_mem_take hx))
    have v3 := nodup_len 4 v1 v2
    have hjy : (b 3)[j]? = some (b 3)[j] := List.getElem?_eq_getElem hjt
    generalize ((b 3).take j).foldl addI out = o2 at hs2 v1 v2 v3 ⊢
    generalize (b 3)[j] = y at hjy hs2
    (conv => whnf)
    refine ⟨j, y, rfl, hjy, ?_⟩
    (conv => whnf)
    refine cl [] [] (contains_spec o2 y) ?_
    (conv => whnf)
    refine boo (fun h6 => ?_) (fun h6 => ?_)
    ·have h6 : y ∉ o2 := fun h => by rw [hasI_iff.2 h] at h6; cases h6
     rw [show addI o2 y = o2 ++ [y] from if_neg h6] at hs2
     (conv => whnf)
     refine ⟨[y], rfl, ?_⟩
     (conv => whnf)
     refine ⟨_, _, rfl, rfl, (by simp only [List.length_append, List.length_cons, List.length_nil]; omega), ?_⟩
     repeat' ((conv => whnf); refine I6 ?_)
     refine ag (j + 1) [] [.same 2] ⟨hjt, trivial⟩ (by simp only []; omega) ?_
     rw [hs2]
     repeat' first | exact trivial | exact rfl | refine And.intro ?_ ?_
    ·have h6 : y ∈ o2 := hasI_iff.1 (by simpa using h6)
     rw [show addI o2 y = o2 from if_pos h6] at hs2
     repeat' ((conv => whnf); refine I6 ?_)
     refine ag (j + 1) [] [.same 0] ⟨hjt, trivial⟩ (by simp only []; omega) ?_
     rw [hs2]
     repeat' first | exact trivial | exact rfl | refine And.intro ?_ ?_
   ·obtain rfl : j = (b 3).length := by omega
    rw [List.take_length]
    repeat' ((conv => whnf); refine I6 ?_)
    refine ag (i + 1, (b 3).foldl addI out) [] [.same 0] ⟨hn, trivial⟩ (by have := hn.le; have := hn.len; simp only []; omega) ?_
    repeat' first | exact trivial | exact rfl | refine And.intro ?_ ?_
 ·have e := hx.stop (by have h4 : ¬ (i : Int) < out.length := h4; omega)
  rw [e]
  (conv => whnf)
  exact rx [] [.same 0]
end Go.Nest
end
/- part -/
section

namespace Go.Nest
open Go Go.AM Go.Proofs
open Go.Proofs.YtpmjnbidmcnhnaaGreatDoor (tab tabOk)
set_option maxRecDepth 4000
theorem ownP_at {o : Nat → List Bool} {k : Nat} {id : Int} (hk : k < 4) : ownP o k id = (decide (0 ≤ id) && (decide (id < (o k).length) && ((o k)[id.toNat]?).getD false)) := by
 unfold ownP
 rw [isR_iff.2 ⟨k, hk, rfl⟩, Bool.true_and, Int.toNat_natCast]
set_option maxHeartbeats 4000000 in
theorem ownD_spec (L : List Ob) (o : Nat → List Bool) (b : Nat → List Int) (r id : Int) : Does Tryz.prog 25 [.c (.bp [.bp [.bs 6 Ob encOb L], .bs 1 Bool encBo (o 0), .bs 1 Bool encBo (o 1), .bs 1 Bool encBo (o 2), .bs 1 Bool encBo (o 3), .bs 1 Int encI (b 0), .bs 1 Int encI (b 1), .bs 1 Int encI (b 2), .bs 1 Int encI (b 3)]), .c (.int .i64 r), .c (.int .i64 id)] [] (Rt (.c (.bool (ownP o r id))) []) := by
 have p1 := repo_spec r
 refine X_spec (n := 35) (n0 := 0) tabOk Tryz.call25 Tryz.func25 ?_
 intro hb
 cases hr : isR r with
 | false =>
  rw [hr] at p1
  (conv => whnf)
  refine cl [] [] (p1) ?_
  (conv => whnf)
  exact rtB (by unfold ownP; rw [hr]; rfl)
 | true =>
  rw [hr] at p1
  obtain ⟨k, hk, rfl⟩ := isR_iff.1 hr
  (conv => whnf)
  refine cl [] [] (p1) ?_
  rcases four hk with rfl | rfl | rfl | rfl
  ·have e := ownP_at (o := o) (k := 0) (id := id) (by decide)
   (conv => whnf)
   refine dec (fun h1 => ?_) (fun h1 => ?_)
   ·(conv => whnf)
    refine ⟨0, ⟨rfl, by decide⟩, ?_⟩
    (conv => whnf)
    refine dec (fun h2 => ?_) (fun h2 => ?_)
    ·have hlt : id.toNat < (o 0).length := by have h1 : (0 : Int) ≤ id := h1; have h2 : id < ((o 0).length : Int) := h2; omega
     have hge : (o 0)[id.toNat]? = some (o 0)[id.toNat] := List.getElem?_eq_getElem hlt
     rw [decide_eq_true h1, decide_eq_true h2, hge] at e
     (conv => whnf)
     refine ⟨0, ⟨rfl, by decide⟩, ?_⟩
     (conv => whnf)
     refine ⟨id.toNat, _, by have h1 : (0 : Int) ≤ id := h1; omega, hge, ?_⟩
     (conv => whnf)
     exact rtB e.symm
    ·rw [decide_eq_false h2] at e
     (conv => whnf)
     exact rtB (by rw [e]; simp)
   ·rw [decide_eq_false h1] at e
    (conv => whnf)
    exact rtB (by rw [e]; rfl)
  ·have e := ownP_at (o := o) (k := 1) (id := id) (by decide)
   (conv => whnf)
   refine dec (fun h1 => ?_) (fun h1 => ?_)
   ·(conv => whnf)
    refine ⟨1, ⟨rfl, by decide⟩, ?_⟩
    (conv => whnf)
    refine dec (fun h2 => ?_) (fun h2 => ?_)
    ·have hlt : id.toNat < (o 1).length := by have h1 : (0 : Int) ≤ id := h1; have h2 : id < ((o 1).length : Int) := h2; omega
     have hge : (o 1)[id.toNat]? = some (o 1)[id.toNat] := List.getElem?_eq_getElem hlt
     rw [decide_eq_true h1, decide_eq_true h2, hge] at e
     (conv => whnf)
     refine ⟨1, ⟨rfl, by decide⟩, ?_⟩
     (conv => whnf)
     refine ⟨id.toNat, _, by have h1 : (0 : Int) ≤ id := h1; omega, hge, ?_⟩
     (conv => whnf)
     exact rtB e.symm
    ·rw [decide_eq_false h2] at e
     (conv => whnf)
     exact rtB (by rw [e]; simp)
   ·rw [decide_eq_false h1] at e
    (conv => whnf)
    exact rtB (by rw [e]; rfl)
  ·have e := ownP_at (o := o) (k := 2) (id := id) (by decide)
   (conv => whnf)
   refine dec (fun h1 => ?_) (fun h1 => ?_)
   ·(conv => whnf)
    refine ⟨2, ⟨rfl, by decide⟩, ?_⟩
    (conv => whnf)
    refine dec (fun h2 => ?_) (fun h2 => ?_)
    ·have hlt : id.toNat < (o 2).length := by have h1 : (0 : Int) ≤ id := h1; have h2 : id < ((o 2).length : Int) := h2; omega
     have hge : (o 2)[id.toNat]? = some (o 2)[id.toNat] := List.getElem?_eq_getElem hlt
     rw [decide_eq_true h1, decide_eq_true h2, hge] at e
     (conv => whnf)
     refine ⟨2, ⟨rfl, by decide⟩, ?_⟩
     (conv => whnf)
     refine ⟨id.toNat, _, by have h1 : (0 : Int) ≤ id := h1; omega, hge, ?_⟩
     (conv => whnf)
     exact rtB e.symm
    ·rw [decide_eq_false h2] at e
     (conv => whnf)
     exact rtB (by rw [e]; simp)
   ·rw [decide_eq_false h1] at e
    (conv => whnf)
    exact rtB (by rw [e]; rfl)
  ·have e := ownP_at (o := o) (k := 3) (id := id) (by decide)
   (conv => whnf)
   refine dec (fun h1 => ?_) (fun h1 => ?_)
   ·(conv => whnf)
    refine ⟨3, ⟨rfl, by decide⟩, ?_⟩
    (conv => whnf)
    refine dec (fun h2 => ?_) (fun h2 => ?_)
    ·have hlt : id.toNat < (o 3).length := by have h1 : (0 : Int) ≤ id := h1; have h2 : id < ((o 3).length : Int) := h2; omega
     have hge : (o 3)[id.toNat]? = some (o 3)[id.toNat] := List.getElem?_eq_getElem hlt
     rw [decide_eq_true h1, decide_eq_true h2, hge] at e
     (conv => whnf)
     refine ⟨3, ⟨rfl, by decide⟩, ?_⟩
     (conv => whnf)
     refine ⟨id.toNat, _, by have h1 : (0 : Int) ≤ id := h1; omega, hge, ?_⟩
     (conv => whnf)
     exact rtB e.symm
    ·rw [decide_eq_false h2] at e
     (conv => whnf)
     exact rtB (by rw [e]; simp)
   ·rw [decide_eq_false h1] at e
    (conv => whnf)
    exact rtB (by rw [e]; rfl)
theorem hasD1_spec (L : List Ob) (o : Nat → List Bool) (b : Nat → List Int) (id q : Int) : Does Tryz.prog 70 [.c (.int .i64 q), .c (.bp [.bp [.bp [.bs 6 Ob encOb L], .bs 1 Bool encBo (o 0), .bs 1 Bool encBo (o 1), .bs 1 Bool encBo (o 2), .bs 1 Bool encBo (o 3), .bs 1 Int encI (b 0), .bs 1 Int encI (b 1), .bs 1 Int encI (b 2), .bs 1 Int encI (b 3)]]), .c (.bp [.int .i64 id])] [] (Rt (.c (.bool (ownP o q id))) []) := by
 refine X_spec (n := 9) (n0 := 0) tabOk Tryz.call70 Tryz.func70 ?_
 intro hb
 (conv => whnf)
 refine cl [] [] (ownD_spec L o b q id) ?_
 (conv => whnf)
 exact rtB rfl
theorem indexD (F : Nat) (L : List Ob) (o : Nat → List Bool) (b : Nat → List Int) (k : Int) (p : Int → Bool) (hF : ∀ x, Does Tryz.prog F [.c (.int .i64 x), .c (.bp [.bp [.bp [.bs 6 Ob encOb L], .bs 1 Bool encBo (o 0), .bs 1 Bool encBo (o 1), .bs 1 Bool encBo (o 2), .bs 1 Bool encBo (o 3), .bs 1 Int encI (b 0), .bs 1 Int encI (b 1), .bs 1 Int encI (b 2), .bs 1 Int encI (b 3)]]), .c (.bp [.int .i64 k])] [] (Rt (.c (.bool (p x))) [])) (l : List Int) : Does Tryz.prog 115 [.c (.bs 1 Int encI l), .c (.fn F [.bp [.bp [.bp [.bs 6 Ob encOb L], .bs 1 Bool encBo (o 0), .bs 1 Bool encBo (o 1), .bs 1 Bool encBo (o 2), .bs 1 Bool encBo (o 3), .bs 1 Int encI (b 0), .bs 1 Int encI (b 1), .bs 1 Int encI (b 2), .bs 1 Int encI (b 3)]], .bp [.int .i64 k]])] [] (Rt (.c (.int .i64 (idxF p l))) []) := by
 refine X_spec (n := 19) (n0 := 0) tabOk Tryz.call115 Tryz.func115 ?_
 intro hb; have hb : l.length ≤ 9223372036854775807 := hb.1.1
 (conv => whnf)
 refine lp Nat (fun i => ⟨[(0, .c (.bs 1 Int encI l)), (1, .c (.fn F [.bp [.bp [.bp [.bs 6 Ob encOb L], .bs 1 Bool encBo (o 0), .bs 1 Bool encBo (o 1), .bs 1 Bool encBo (o 2), .bs 1 Bool encBo (o 3), .bs 1 Int encI (b 0), .bs 1 Int encI (b 1), .bs 1 Int encI (b 2), .bs 1 Int encI (b 3)]], .bp [.int .i64 k]])), (7, .c (.int .i64 l.length)), (8, .c (.int .i64 i))], []⟩) (fun i => i ≤ l.length ∧ (l.take i).any p = false) (fun i => l.length - i) 0 [] [] ?_ ?_ (fun i hi => ?_)
 ·simp
 ·repeat' first | exact trivial | exact rfl | refine And.intro ?_ ?_
 (conv => whnf)
 refine dec (fun h4 => ?_) (fun h4 => ?_)
 ·have hlt : i < l.length := by omega
  repeat' ((conv => whnf); first | (refine dec (fun h => ?_) (fun h => ?_) <;> try contradiction) | (refine decN (fun h => ?_) (fun h => ?_) <;> try contradiction) | refine booN (fun h => ?_) (fun h => ?_) | refine boo (fun h => ?_) (fun h => ?_) | refine ⟨i64 (by omega) (by omega), ?_⟩ | refine ⟨_, _, rfl, List.getElem?_eq_getElem (by omega), ?_⟩ | refine ⟨_, ⟨rfl, by omega⟩, ?_⟩ | refine ⟨_, List.getElem?_eq_getElem (by omega), ?_⟩ | refine rtB ?_ | refine rtI ?_ | refine rtC ?_ rfl | fail)
  (conv => whnf)
  refine cl [] [] (hF l[i]) ?_
  (conv => whnf)
  refine boo (fun h => ?_) (fun h => ?_)
  ·(conv => whnf)
   exact rtI (idxF_at hlt hi.2 h)
  ·repeat' ((conv => whnf); refine I6 ?_)
   refine ag (i + 1) [] [] ⟨hlt, any_take hlt hi.2 h⟩ (by simp only []; omega) ?_
   repeat' first | exact trivial | exact rfl | refine And.intro ?_ ?_
 ·repeat' ((conv => whnf); first | (refine dec (fun h => ?_) (fun h => ?_) <;> try contradiction) | (refine decN (fun h => ?_) (fun h => ?_) <;> try contradiction) | refine booN (fun h => ?_) (fun h => ?_) | refine boo (fun h => ?_) (fun h => ?_) | refine ⟨i64 (by omega) (by omega), ?_⟩ | refine ⟨_, _, rfl, List.getElem?_eq_getElem (by omega), ?_⟩ | refine ⟨_, ⟨rfl, by omega⟩, ?_⟩ | refine ⟨_, List.getElem?_eq_getElem (by omega), ?_⟩ | refine rtB ?_ | refine rtI ?_ | refine rtC ?_ rfl | fail)
  have := hi.2
  rw [List.take_of_length_le (by omega)] at this
  exact idxF_none this
theorem containsD (F : Nat) (L : List Ob) (o : Nat → List Bool) (b : Nat → List Int) (k : Int) (p : Int → Bool) (hF : ∀ x, Does Tryz.prog F [.c (.int .i64 x), .c (.bp [.bp [.bp [.bs 6 Ob encOb L], .bs 1 Bool encBo (o 0), .bs 1 Bool encBo (o 1), .bs 1 Bool encBo (o 2), .bs 1 Bool encBo (o 3), .bs 1 Int encI (b 0), .bs 1 Int encI (b 1), .bs 1 Int encI (b 2), .bs 1 Int encI (b 3)]]), .c (.bp [.int .i64 k])] [] (Rt (.c (.bool (p x))) [])) (l : List Int) : Does Tryz.prog 68 [.c (.bs 1 Int encI l), .c (.fn F [.bp [.bp [.bp [.bs 6 Ob encOb L], .bs 1 Bool encBo (o 0), .bs 1 Bool encBo (o 1), .bs 1 Bool encBo (o 2), .bs 1 Bool encBo (o 3), .bs 1 Int encI (b 0), .bs 1 Int encI (b 1), .bs 1 Int encI (b 2), .bs 1 Int encI (b 3)]], .bp [.int .i64 k]])] [] (Rt (.c (.bool (l.any p))) []) := by
 refine X_spec (n := 9) (n0 := 0) tabOk Tryz.call68 Tryz.func68 ?_
 intro hb
 (conv => whnf)
 refine cl [] [] (indexD F L o b k p hF l) ?_
 (conv => whnf)
 exact rtB (idxF_any ..)
theorem hasD_spec (L : List Ob) (o : Nat → List Bool) (b : Nat → List Int) (hb4 : BorOk b) (r id : Int) : Does Tryz.prog 23 [.c (.bp [.bp [.bs 6 Ob encOb L], .bs 1 Bool encBo (o 0), .bs 1 Bool encBo (o 1), .bs 1 Bool encBo (o 2), .bs 1 Bool encBo (o 3), .bs 1 Int encI (b 0), .bs 1 Int encI (b 1), .bs 1 Int encI (b 2), .bs 1 Int encI (b 3)]), .c (.int .i64 r), .c (.int .i64 id)] [] (Rt (.c (.bool (hasP ⟨o, b⟩ r id))) []) := by
 have p1 := repo_spec r
 refine X_spec (n := 16) (n0 := 0) tabOk Tryz.call23 Tryz.func23 ?_
 intro hb
 cases hr : isR r with
 | false =>
  rw [hr] at p1
  (conv => whnf)
  refine cl [] [] (p1) ?_
  (conv => whnf)
  exact rtB (by unfold hasP; rw [hr]; rfl)
 | true =>
  rw [hr] at p1
  (conv => whnf)
  refine cl [] [] (p1) ?_
  (conv => whnf)
  refine cl [] [] (lenders_spec L o b hb4 r hr) ?_
  (conv => whnf)
  refine cl [] [] (containsD 70 L o b id (fun q => ownP o q id) (hasD1_spec L o b id) (lendP b r)) ?_
  (conv => whnf)
  exact rtB (by unfold hasP; rw [hr]; rfl)
end Go.Nest
end
/- part -/
section

namespace Go.Nest
open Go Go.AM Go.Proofs
open Go.Proofs.YtpmjnbidmcnhnaaGreatDoor (tab tabOk)
set_option maxRecDepth 4000
def upd {α : Type} (o : Nat → α) (k : Nat) (v : α) : Nat → α := fun j => bif Nat.beq j k then v else o j
theorem upd_at {α : Type} {o : Nat → α} {k : Nat} {v : α} : upd o k v k = v := by unfold upd; rw [Nat.beq_refl]; rfl
theorem upd_upd {α : Type} {o : Nat → α} {k : Nat} {v w : α} : upd (upd o k v) k w = upd o k w := by
 funext j
 unfold upd
 cases Nat.beq j k <;> rfl
def padL (l : List Bool) (n : Nat) : List Bool := l ++ List.replicate (n - l.length) false
def markL (o : Nat → List Bool) (b : Nat → List Int) (r : Nat) (x : List Bool) (id : Int) : List Bool := if hasP ⟨upd o r x, b⟩ r id = true then x else x.set id.toNat true
noncomputable def addL (L : List Ob) (o : Nat → List Bool) (b : Nat → List Int) (r : Nat) (ids : List Int) : List Bool := (reachP L ids).foldl (markL o b r) (padL (o r) L.length)
def addC (L : List Ob) (r : Int) (ids : List Int) : Int := if isR r = false then 1 else if (ids.any fun id => decide (kindOf L id = 0)) = true then 9 else 0
noncomputable def addO (L : List Ob) (o : Nat → List Bool) (b : Nat → List Int) (r : Int) (ids : List Int) : Nat → List Bool := if addC L r ids ≠ 0 then o else upd o r.toNat (addL L o b r.toNat ids)
theorem mark_len {o : Nat → List Bool} {b : Nat → List Int} {r : Nat} : ∀ {l : List Int} {x : List Bool}, (l.foldl (markL o b r) x).length = x.length
 | [], x => rfl
 | id :: l, x => by
  rw [List.foldl_cons, mark_len]
  unfold markL
  split
  ·rfl
  ·rw [List.length_set]
theorem mark_take {o : Nat → List Bool} {b : Nat → List Int} {r : Nat} {l : List Int} {x : List Bool} {i : Nat} (h : i < l.length) : (l.take (i + 1)).foldl (markL o b r) x = markL o b r ((l.take i).foldl (markL o b r) x) l[i] := by
 rw [List.take_succ_eq_append_getElem h, List.foldl_append]; rfl
theorem pad_snoc {l : List Bool} {n : Nat} (h : l.length < n) : padL (l ++ [false]) n = padL l n := by
 unfold padL
 rw [List.length_append, List.length_singleton, List.append_assoc]
 congr 1
 rw [show n - l.length = (n - (l.length + 1)) + 1 by omega, List.replicate_succ]; rfl
theorem pad_full {l : List Bool} {n : Nat} (h : n ≤ l.length) : padL l n = l := by
 unfold padL
 rw [show n - l.length = 0 by omega]; simp
theorem reach_lt {L : List Ob} {ids : List Int} {id : Int} (h : id ∈ reachP L ids) : 0 ≤ id ∧ id.toNat < L.length := by
 unfold reachP at h
 obtain ⟨k, hk, rfl⟩ := List.mem_map.1 h
 have := (List.mem_filter.1 hk).1
 rw [List.mem_range] at this
 omega
set_option maxHeartbeats 8000000 in
theorem addD_dspec (L : List Ob) (hL : PoolOk L) (o : Nat → List Bool) (b : Nat → List Int) (hb4 : BorOk b) (ho : ∀ k, k < 4 → (o k).length ≤ 1000000) (r : Int) (ids : List Int) (hi : ids.length ≤ 1000000) : Does Tryz.prog 47 [.c (.ptr 0 0), .c (.int .i64 r), .c (.bs 1 Int encI ids)] [.box [.ptr 1 0, .rw 3, .rw 4, .rw 5, .rw 6, .rw 7, .rw 8, .rw 9, .rw 10], .box [.rw 2], .row 6 Ob encOb L, .row 1 Bool encBo (o 0), .row 1 Bool encBo (o 1), .row 1 Bool encBo (o 2), .row 1 Bool encBo (o 3), .row 1 Int encI (b 0), .row 1 Int encI (b 1), .row 1 Int encI (b 2), .row 1 Int encI (b 3)] (Rt (.c (.int .i64 (addC L r ids))) [.box [.ptr 1 0, .rw 11, .rw 12, .rw 13, .rw 14, .rw 7, .rw 8, .rw 9, .rw 10], .box [.rw 2], .row 6 Ob encOb L, .dead, .dead, .dead, .dead, .row 1 Int encI (b 0), .row 1 Int encI (b 1), .row 1 Int encI (b 2), .row 1 Int encI (b 3), .row 1 Bool encBo ((addO L o b r ids) 0), .row 1 Bool encBo ((addO L o b r ids) 1), .row 1 Bool encBo ((addO L o b r ids) 2), .row 1 Bool encBo ((addO L o b r ids) 3)]) := by
 have p1 := repo_spec r
 have hlen := hL.len
 refine X_spec (n := 85) (n0 := 11) tabOk Tryz.call47 Tryz.func47 ?_
 intro hb
 cases hr : isR r with
 | false =>
  rw [hr] at p1
  have e : addC L r ids = 1 := by unfold addC; rw [hr]; rfl
  rw [show addO L o b r ids = o by unfold addO; rw [e]; rfl, e]
  (conv => whnf)
  refine cl [] [] (p1) ?_
  (conv => whnf)
  exact rx [] [.same 0, .same 1, .same 2, .same 3, .same 4, .same 5, .same 6, .same 7, .same 8, .same 9, .same 10, .same 3, .same 4, .same 5, .same 6]
 | true =>
  rw [hr] at p1
  have e1 : addC L r ids = if (ids.any fun id => decide (kindOf L id = 0)) = true then 9 else 0 := by unfold addC; rw [hr]; rfl
  (conv => whnf)
  refine cl [] [] (p1) ?_
  (conv => whnf)
  refine lp Nat (fun i => ⟨[(0, .c (.ptr 0 0)), (1, .c (.int .i64 r)), (2, .c (.bs 1 Int encI ids)), (16, .c (.bs 1 Int encI ids)), (17, .c (.int .i64 ids.length)), (18, .c (.int .i64 i))], [.box [.ptr 1 0, .rw 3, .rw 4, .rw 5, .rw 6, .rw 7, .rw 8, .rw 9, .rw 10], .box [.rw 2], .row 6 Ob encOb L, .row 1 Bool encBo (o 0), .row 1 Bool encBo (o 1), .row 1 Bool encBo (o 2), .row 1 Bool encBo (o 3), .row 1 Int encI (b 0), .row 1 Int encI (b 1), .row 1 Int encI (b 2), .row 1 Int encI (b 3)]⟩) (fun i => i ≤ ids.length ∧ (ids.take i).any (fun id => decide (kindOf L id = 0)) = false) (fun i => ids.length - i) 0 [] [.same 0, .same 1, .same 2, .same 3, .same 4, .same 5, .same 6, .same 7, .same 8, .same 9, .same 10] ?_ ?_ (fun i hii => ?_)
  ·simp
  ·repeat' first | exact trivial | exact rfl | refine And.intro ?_ ?_
  obtain ⟨hii, hno⟩ := hii
  (conv => whnf)
  refine dec (fun h4 => ?_) (fun h4 => ?_)
  ·have hlt : i < ids.length := by have h4 : (i : Int) < ids.length := h4; omega
   have hiy : ids[i]? = some ids[i] := List.getElem?_eq_getElem hlt
   have ha := fun h => any_at (l := ids) (p := fun id => decide (kindOf L id = 0)) hlt h
   have ht := fun h => any_take (p := fun id => decide (kindOf L id = 0)) hlt hno h
   generalize ids[i] = x at hiy ha ht
   (conv => whnf)
   refine ⟨i, x, rfl, hiy, ?_⟩
   (conv => whnf)
   refine cl [] [] (get_spec L hL x) ?_
   (conv => whnf)
   refine decN (fun h5 => ?_) (fun h5 => ?_)
   ·have h5 : ¬ kindOf L x ≠ 0 := h5
    have e : addC L r ids = 9 := by rw [e1, ha (decide_eq_true (by omega))]; rfl
    rw [show addO L o b r ids = o by unfold addO; rw [e]; rfl, e]
    (conv => whnf)
    exact rx [] [.same 0, .same 1, .same 2, .same 3, .same 4, .same 5, .same 6, .same 7, .same 8, .same 9, .same 10, .same 3, .same 4, .same 5, .same 6]
   ·have h5 : kindOf L x ≠ 0 := h5
    repeat' ((conv => whnf); refine I6 ?_)
    refine ag (i + 1) [] [.same 0, .same 1, .same 2, .same 3, .same 4, .same 5, .same 6, .same 7, .same 8, .same 9, .same 10] ⟨hlt, ht (decide_eq_false (by omega))⟩ (by simp only []; omega) ?_
    repeat' first | exact trivial | exact rfl | refine And.intro ?_ ?_
  ·have h4 : ¬ (i : Int) < ids.length := h4
   rw [List.take_of_length_le (by omega)] at hno
   have e : addC L r ids = 0 := by rw [e1, hno]; rfl
   obtain ⟨k, hk, rfl⟩ := isR_iff.1 hr
   have eo : addO L o b (k : Int) ids = upd o k (addL L o b k ids) := by unfold addO; rw [e]; rfl
   rw [e, eo]
   (conv => whnf)
   rcases four hk with rfl | rfl | rfl | rfl
   ·refine lp (List Bool) (fun x => ⟨[(0, .c (.ptr 0 0)), (1, .c (.int .i64 (0 : Nat))), (2, .c (.bs 1 Int encI ids))], [.box [.ptr 1 0, .rw 11, .rw 4, .rw 5, .rw 6, .rw 7, .rw 8, .rw 9, .rw 10], .box [.rw 2], .row 6 Ob encOb L, .dead, .row 1 Bool encBo (o 1), .row 1 Bool encBo (o 2), .row 1 Bool encBo (o 3), .row 1 Int encI (b 0), .row 1 Int encI (b 1), .row 1 Int encI (b 2), .row 1 Int encI (b 3), .row 1 Bool encBo x]⟩) (fun x => (x.length ≤ max (o 0).length L.length ∧ padL x L.length = padL (o 0) L.length) ∧ True) (fun x => L.length - x.length) (o 0) [] [.same 0, .same 1, .same 2, .same 3, .same 4, .same 5, .same 6, .same 7, .same 8, .same 9, .same 10, .same 3] ?_ ?_ (fun x hx => ?_)
    ·exact ⟨⟨by omega, rfl⟩, trivial⟩
    ·repeat' first | exact trivial | exact rfl | refine And.intro ?_ ?_
    obtain ⟨⟨hxl, hxp⟩, -⟩ := hx
    (conv => whnf)
    refine ⟨false, .grow, (.l [0, 1, 2, 3, 4, 5, 6, 7, 8, 9, 10, 11, 12]), by kernel_rfl, .inl ?_⟩
    (conv => whnf)
    refine ⟨0, ⟨rfl, by decide⟩, ?_⟩
    (conv => whnf)
    refine cl [] [] (len_spec L) ?_
    (conv => whnf)
    refine dec (fun h5 => ?_) (fun h5 => ?_)
    ·have h5 : (x.length : Int) < L.length := h5
     (conv => whnf)
     refine ⟨false, .grow, (.l [0, 1, 2, 3, 4, 5, 6, 7, 10, 11, 8, 9, 12, 13]), by kernel_rfl, .inl ?_⟩
     (conv => whnf)
     refine ⟨0, ⟨rfl, by decide⟩, ?_⟩
     (conv => whnf)
     refine ⟨[false], rfl, ?_⟩
     (conv => whnf)
     refine ⟨_, _, rfl, rfl, (by simp only [List.length_append, List.length_cons, List.length_nil]; omega), ?_⟩
     (conv => whnf)
     refine ⟨0, ⟨rfl, by decide⟩, ?_⟩
     repeat' ((conv => whnf); refine I6 ?_)
     refine ag (x ++ [false]) [] [.same 0, .same 1, .same 2, .same 3, .same 4, .same 5, .same 6, .same 7, .same 8, .same 9, .same 10, .same 13] ⟨⟨by rw [List.length_append, List.length_singleton]; omega, by rw [pad_snoc (by omega)]; exact hxp⟩, trivial⟩ (by simp only [List.length_append, List.length_singleton]; omega) ?_
     repeat' first | exact trivial | exact rfl | refine And.intro ?_ ?_
    ·have h5 : ¬ (x.length : Int) < L.length := h5
     rw [pad_full (by omega)] at hxp
     unfold addL
     rw [← hxp]
     have hxn : L.length ≤ x.length := by omega
     have hrm := fun id (h : id ∈ reachP L ids) => reach_lt h
     have hrl := reach_len (l := L) (ids := ids)
     have p3 := reach_spec L hL ids hi
     generalize reachP L ids = rl at hrm hrl p3 ⊢
     clear hxp hxl
     (conv => whnf)
     refine cl [] [] (p3) ?_
     (conv => whnf)
     refine lp Nat (fun i => ⟨[(0, .c (.ptr 0 0)), (1, .c (.int .i64 (0 : Nat))), (65, .c (.rw 12)), (66, .c (.int .i64 rl.length)), (67, .c (.int .i64 i))], [.box [.ptr 1 0, .rw 11, .rw 4, .rw 5, .rw 6, .rw 7, .rw 8, .rw 9, .rw 10], .box [.rw 2], .row 6 Ob encOb L, .dead, .row 1 Bool encBo (o 1), .row 1 Bool encBo (o 2), .row 1 Bool encBo (o 3), .row 1 Int encI (b 0), .row 1 Int encI (b 1), .row 1 Int encI (b 2), .row 1 Int encI (b 3), .row 1 Bool encBo ((rl.take i).foldl (markL o b 0) x)] ++ [.row 1 Int encI rl]⟩) (fun i => i ≤ rl.length ∧ True) (fun i => rl.length - i) 0 [] [.same 0, .same 1, .same 2, .same 3, .same 4, .same 5, .same 6, .same 7, .same 8, .same 9, .same 10, .same 11, .same 12] ?_ ?_ (fun i hii => ?_)
     ·simp
     ·repeat' first | exact trivial | exact rfl | refine And.intro ?_ ?_
     (conv => whnf)
     refine dec (fun h6 => ?_) (fun h6 => ?_)
     ·have hlt : i < rl.length := by have h6 : (i : Int) < rl.length := h6; omega
      have hiy : rl[i]? = some rl[i] := List.getElem?_eq_getElem hlt
      have hst := mark_take (o := o) (b := b) (r := 0) (x := x) hlt
      have hml := mark_len (o := o) (b := b) (r := 0) (x := x) (l := rl.take i)
      have hid := hrm _ (List.getElem_mem hlt)
      generalize (rl.take i).foldl (markL o b 0) x = y at hst hml ⊢
      generalize rl[i] = id at hiy hst hid
      have p4 := hasD_spec L (upd o 0 y) b hb4 (0 : Nat) id
      (conv => whnf)
      refine ⟨i, ⟨rfl, hlt⟩, ?_⟩
      (conv => whnf)
      refine ⟨id, hiy, ?_⟩
      (conv => whnf)
      refine cl [] [] (p4) ?_
      (conv => whnf)
      refine boo (fun h7 => ?_) (fun h7 => ?_)
      ·have h7 : hasP ⟨upd o 0 y, b⟩ (0 : Nat) id = false := by simpa using h7
       rw [show markL o b 0 y id = y.set id.toNat true from if_neg (by rw [h7]; decide)] at hst
       (conv => whnf)
       refine ⟨0, ⟨rfl, by decide⟩, ?_⟩
       (conv => whnf)
       refine ⟨id.toNat, ⟨by omega, by omega⟩, ?_⟩
       (conv => whnf)
       refine ⟨_, true, List.getElem?_eq_getElem (show id.toNat < y.length by omega), ⟨Nat.le_refl 1, rfl⟩, ?_⟩
       repeat' ((conv => whnf); refine I6 ?_)
       refine ag (i + 1) [] [.same 0, .same 1, .same 2, .same 3, .same 4, .same 5, .same 6, .same 7, .same 8, .same 9, .same 10, .same 11, .same 12] ⟨hlt, trivial⟩ (by simp only []; omega) ?_
       rw [hst]
       repeat' first | exact trivial | exact rfl | refine And.intro ?_ ?_
      ·have h7 : hasP ⟨upd o 0 y, b⟩ (0 : Nat) id = true := by simpa using h7
       rw [show markL o b 0 y id = y from if_pos h7] at hst
       repeat' ((conv => whnf); refine I6 ?_)
       refine ag (i + 1) [] [.same 0, .same 1, .same 2, .same 3, .same 4, .same 5, .same 6, .same 7, .same 8, .same 9, .same 10, .same 11, .same 12] ⟨hlt, trivial⟩ (by simp only []; omega) ?_
       rw [hst]
       repeat' first | exact trivial | exact rfl | refine And.intro ?_ ?_
     ·obtain rfl : i = rl.length := by have h6 : ¬ (i : Int) < rl.length := h6; omega
      rw [List.take_length]
      (conv => whnf)
      exact rx [] [.same 0, .same 1, .same 2, .same 3, .same 4, .same 5, .same 6, .same 7, .same 8, .same 9, .same 10, .same 11, .same 4, .same 5, .same 6]
   ·refine lp (List Bool) (fun x => ⟨[(0, .c (.ptr 0 0)), (1, .c (.int .i64 (1 : Nat))), (2, .c (.bs 1 Int encI ids))], [.box [.ptr 1 0, .rw 3, .rw 11, .rw 5, .rw 6, .rw 7, .rw 8, .rw 9, .rw 10], .box [.rw 2], .row 6 Ob encOb L, .row 1 Bool encBo (o 0), .dead, .row 1 Bool encBo (o 2), .row 1 Bool encBo (o 3), .row 1 Int encI (b 0), .row 1 Int encI (b 1), .row 1 Int encI (b 2), .row 1 Int encI (b 3), .row 1 Bool encBo x]⟩) (fun x => (x.length ≤ max (o 1).length L.length ∧ padL x L.length = padL (o 1) L.length) ∧ True) (fun x => L.length - x.length) (o 1) [] [.same 0, .same 1, .same 2, .same 3, .same 4, .same 5, .same 6, .same 7, .same 8, .same 9, .same 10, .same 4] ?_ ?_ (fun x hx => ?_)
    ·exact ⟨⟨by omega, rfl⟩, trivial⟩
    ·repeat' first | exact trivial | exact rfl | refine And.intro ?_ ?_
    obtain ⟨⟨hxl, hxp⟩, -⟩ := hx
    (conv => whnf)
    refine ⟨false, .grow, (.l [0, 1, 2, 3, 4, 5, 6, 7, 8, 9, 10, 11, 12]), by kernel_rfl, .inl ?_⟩
    (conv => whnf)
    refine ⟨1, ⟨rfl, by decide⟩, ?_⟩
    (conv => whnf)
    refine cl [] [] (len_spec L) ?_
    (conv => whnf)
    refine dec (fun h5 => ?_) (fun h5 => ?_)
    ·have h5 : (x.length : Int) < L.length := h5
     (conv => whnf)
     refine ⟨false, .grow, (.l [0, 1, 2, 3, 4, 5, 6, 7, 10, 11, 8, 9, 12, 13]), by kernel_rfl, .inl ?_⟩
     (conv => whnf)
     refine ⟨1, ⟨rfl, by decide⟩, ?_⟩
     (conv => whnf)
     refine ⟨[false], rfl, ?_⟩
     (conv => whnf)
     refine ⟨_, _, rfl, rfl, (by simp only [List.length_append, List.length_cons, List.length_nil]; omega), ?_⟩
     (conv => whnf)
     refine ⟨1, ⟨rfl, by decide⟩, ?_⟩
     repeat' ((conv => whnf); refine I6 ?_)
     refine ag (x ++ [false]) [] [.same 0, .same 1, .same 2, .same 3, .same 4, .same 5, .same 6, .same 7, .same 8, .same 9, .same 10, .same 13] ⟨⟨by rw [List.length_append, List.length_singleton]; omega, by rw [pad_snoc (by omega)]; exact hxp⟩, trivial⟩ (by simp only [List.length_append, List.length_singleton]; omega) ?_
     repeat' first | exact trivial | exact rfl | refine And.intro ?_ ?_
    ·have h5 : ¬ (x.length : Int) < L.length := h5
     rw [pad_full (by omega)] at hxp
     unfold addL
     rw [← hxp]
     have hxn : L.length ≤ x.length := by omega
     have hrm := fun id (h : id ∈ reachP L ids) => reach_lt h
     have hrl := reach_len (l := L) (ids := ids)
     have p3 := reach_spec L hL ids hi
     generalize reachP L ids = rl at hrm hrl p3 ⊢
     clear hxp hxl
     (conv => whnf)
     refine cl [] [] (p3) ?_
     (conv => whnf)
     refine lp Nat (fun i => ⟨[(0, .c (.ptr 0 0)), (1, .c (.int .i64 (1 : Nat))), (65, .c (.rw 12)), (66, .c (.int .i64 rl.length)), (67, .c (.int .i64 i))], [.box [.ptr 1 0, .rw 3, .rw 11, .rw 5, .rw 6, .rw 7, .rw 8, .rw 9, .rw 10], .box [.rw 2], .row 6 Ob encOb L, .row 1 Bool encBo (o 0), .dead, .row 1 Bool encBo (o 2), .row 1 Bool encBo (o 3), .row 1 Int encI (b 0), .row 1 Int encI (b 1), .row 1 Int encI (b 2), .row 1 Int encI (b 3), .row 1 Bool encBo ((rl.take i).foldl (markL o b 1) x)] ++ [.row 1 Int encI rl]⟩) (fun i => i ≤ rl.length ∧ True) (fun i => rl.length - i) 0 [] [.same 0, .same 1, .same 2, .same 3, .same 4, .same 5, .same 6, .same 7, .same 8, .same 9, .same 10, .same 11, .same 12] ?_ ?_ (fun i hii => ?_)
     ·simp
     ·repeat' first | exact trivial | exact rfl | refine And.intro ?_ ?_
     (conv => whnf)
     refine dec (fun h6 => ?_) (fun h6 => ?_)
     ·have hlt : i < rl.length := by have h6 : (i : Int) < rl.length := h6; omega
      have hiy : rl[i]? = some rl[i] := List.getElem?_eq_getElem hlt
      have hst := mark_take (o := o) (b := b) (r := 1) (x := x) hlt
      have hml := mark_len (o := o) (b := b) (r := 1) (x := x) (l := rl.take i)
      have hid := hrm _ (List.getElem_mem hlt)
      generalize (rl.take i).foldl (markL o b 1) x = y at hst hml ⊢
      generalize rl[i] = id at hiy hst hid
      have p4 := hasD_spec L (upd o 1 y) b hb4 (1 : Nat) id
      (conv => whnf)
      refine ⟨i, ⟨rfl, hlt⟩, ?_⟩
      (conv => whnf)
      refine ⟨id, hiy, ?_⟩
      (conv => whnf)
      refine cl [] [] (p4) ?_
      (conv => whnf)
      refine boo (fun h7 => ?_) (fun h7 => ?_)
      ·have h7 : hasP ⟨upd o 1 y, b⟩ (1 : Nat) id = false := by simpa using h7
       rw [show markL o b 1 y id = y.set id.toNat true from if_neg (by rw [h7]; decide)] at hst
       (conv => whnf)
       refine ⟨1, ⟨rfl, by decide⟩, ?_⟩
       (conv => whnf)
       refine ⟨id.toNat, ⟨by omega, by omega⟩, ?_⟩
       (conv => whnf)
       refine ⟨_, true, List.getElem?_eq_getElem (show id.toNat < y.length by omega), ⟨Nat.le_refl 1, rfl⟩, ?_⟩
       repeat' ((conv => whnf); refine I6 ?_)
       refine ag (i + 1) [] [.same 0, .same 1, .same 2, .same 3, .same 4, .same 5, .same 6, .same 7, .same 8, .same 9, .same 10, .same 11, .same 12] ⟨hlt, trivial⟩ (by simp only []; omega) ?_
       rw [hst]
       repeat' first | exact trivial | exact rfl | refine And.intro ?_ ?_
      ·have h7 : hasP ⟨upd o 1 y, b⟩ (1 : Nat) id = true := by simpa using h7
       rw [show markL o b 1 y id = y from if_pos h7] at hst
       repeat' ((conv => whnf); refine I6 ?_)
       refine ag (i + 1) [] [.same 0, .same 1, .same 2, .same 3, .same 4, .same 5, .same 6, .same 7, .same 8, .same 9, .same 10, .same 11, .same 12] ⟨hlt, trivial⟩ (by simp only []; omega) ?_
       rw [hst]
       repeat' first | exact trivial | exact rfl | refine And.intro ?_ ?_
     ·obtain rfl : i = rl.length := by have h6 : ¬ (i : Int) < rl.length := h6; omega
      rw [List.take_length]
      (conv => whnf)
      exact rx [] [.same 0, .same 1, .same 2, .same 3, .same 4, .same 5, .same 6, .same 7, .same 8, .same 9, .same 10, .same 3, .same 11, .same 5, .same 6]
   ·refine lp (List Bool) (fun x => ⟨[(0, .c (.ptr 0 0)), (1, .c (.int .i64 (2 : Nat))), (2, .c (.bs 1 Int encI ids))], [.box [.ptr 1 0, .rw 3, .rw 4, .rw 11, .rw 6, .rw 7, .rw 8, .rw 9, .rw 10], .box [.rw 2], .row 6 Ob encOb L, .row 1 Bool encBo (o 0), .row 1 Bool encBo (o 1), .dead, .row 1 Bool encBo (o 3), .row 1 Int encI (b 0), .row 1 Int encI (b 1), .row 1 Int encI (b 2), .row 1 Int encI (b 3), .row 1 Bool encBo x]⟩) (fun x => (x.length ≤ max (o 2).length L.length ∧ padL x L.length = padL (o 2) L.length) ∧ True) (fun x => L.length - x.length) (o 2) [] [.same 0, .same 1, .same 2, .same 3, .same 4, .same 5, .same 6, .same 7, .same 8, .same 9, .same 10, .same 5] ?_ ?_ (fun x hx => ?_)
    ·exact ⟨⟨by omega, rfl⟩, trivial⟩
    ·repeat' first | exact trivial | exact rfl | refine And.intro ?_ ?_
    obtain ⟨⟨hxl, hxp⟩, -⟩ := hx
    (conv => whnf)
    refine ⟨false, .grow, (.l [0, 1, 2, 3, 4, 5, 6, 7, 8, 9, 10, 11, 12]), by kernel_rfl, .inl ?_⟩
    (conv => whnf)
    refine ⟨2, ⟨rfl, by decide⟩, ?_⟩
    (conv => whnf)
    refine cl [] [] (len_spec L) ?_
    (conv => whnf)
    refine dec (fun h5 => ?_) (fun h5 => ?_)
    ·have h5 : (x.length : Int) < L.length := h5
     (conv => whnf)
     refine ⟨false, .grow, (.l [0, 1, 2, 3, 4, 5, 6, 7, 10, 11, 8, 9, 12, 13]), by kernel_rfl, .inl ?_⟩
     (conv => whnf)
     refine ⟨2, ⟨rfl, by decide⟩, ?_⟩
     (conv => whnf)
     refine ⟨[false], rfl, ?_⟩
     (conv => whnf)
     refine ⟨_, _, rfl, rfl, (by simp only [List.length_append, List.length_cons, List.length_nil]; omega), ?_⟩
     (conv => whnf)
     refine ⟨2, ⟨rfl, by decide⟩, ?_⟩
     repeat' ((conv => whnf); refine I6 ?_)
     refine ag (x ++ [false]) [] [.same 0, .same 1, .same 2, .same 3, .same 4, .same 5, .same 6, .same 7, .same 8, .same 9, .same 10, .same 13] ⟨⟨by rw [List.length_append, List.length_singleton]; omega, by rw [pad_snoc (by omega)]; exact hxp⟩, trivial⟩ (by simp only [List.length_append, List.length_singleton]; omega) ?_
     repeat' first | exact trivial | exact rfl | refine And.intro ?_ ?_
    ·have h5 : ¬ (x.length : Int) < L.length := h5
     rw [pad_full (by omega)] at hxp
     unfold addL
     rw [← hxp]
     have hxn : L.length ≤ x.length := by omega
     have hrm := fun id (h : id ∈ reachP L ids) => reach_lt h
     have hrl := reach_len (l := L) (ids := ids)
     have p3 := reach_spec L hL ids hi
     generalize reachP L ids = rl at hrm hrl p3 ⊢
     clear hxp hxl
     (conv => whnf)
     refine cl [] [] (p3) ?_
     (conv => whnf)
     refine lp Nat (fun i => ⟨[(0, .c (.ptr 0 0)), (1, .c (.int .i64 (2 : Nat))), (65, .c (.rw 12)), (66, .c (.int .i64 rl.length)), (67, .c (.int .i64 i))], [.box [.ptr 1 0, .rw 3, .rw 4, .rw 11, .rw 6, .rw 7, .rw 8, .rw 9, .rw 10], .box [.rw 2], .row 6 Ob encOb L, .row 1 Bool encBo (o 0), .row 1 Bool encBo (o 1), .dead, .row 1 Bool encBo (o 3), .row 1 Int encI (b 0), .row 1 Int encI (b 1), .row 1 Int encI (b 2), .row 1 Int encI (b 3), .row 1 Bool encBo ((rl.take i).foldl (markL o b 2) x)] ++ [.row 1 Int encI rl]⟩) (fun i => i ≤ rl.length ∧ True) (fun i => rl.length - i) 0 [] [.same 0, .same 1, .same 2, .same 3, .same 4, .same 5, .same 6, .same 7, .same 8, .same 9, .same 10, .same 11, .same 12] ?_ ?_ (fun i hii => ?_)
     ·simp
     ·repeat' first | exact trivial | exact rfl | refine And.intro ?_ ?_
     (conv => whnf)
     refine dec (fun h6 => ?_) (fun h6 => ?_)
     ·have hlt : i < rl.length := by have h6 : (i : Int) < rl.length := h6; omega
      have hiy : rl[i]? = some rl[i] := List.getElem?_eq_getElem hlt
      have hst := mark_take (o := o) (b := b) (r := 2) (x := x) hlt
      have hml := mark_len (o := o) (b := b) (r := 2) (x := x) (l := rl.take i)
      have hid := hrm _ (List.getElem_mem hlt)
      generalize (rl.take i).foldl (markL o b 2) x = y at hst hml ⊢
      generalize rl[i] = id at hiy hst hid
      have p4 := hasD_spec L (upd o 2 y) b hb4 (2 : Nat) id
      (conv => whnf)
      refine ⟨i, ⟨rfl, hlt⟩, ?_⟩
      (conv => whnf)
      refine ⟨id, hiy, ?_⟩
      (conv => whnf)
      refine cl [] [] (p4) ?_
      (conv => whnf)
      refine boo (fun h7 => ?_) (fun h7 => ?_)
      ·have h7 : hasP ⟨upd o 2 y, b⟩ (2 : Nat) id = false := by simpa using h7
       rw [show markL o b 2 y id = y.set id.toNat true from if_neg (by rw [h7]; decide)] at hst
       (conv => whnf)
       refine ⟨2, ⟨rfl, by decide⟩, ?_⟩
       (conv => whnf)
       refine ⟨id.toNat, ⟨by omega, by omega⟩, ?_⟩
       (conv => whnf)
       refine ⟨_, true, List.getElem?_eq_getElem (show id.toNat < y.length by omega), ⟨Nat.le_refl 1, rfl⟩, ?_⟩
       repeat' ((conv => whnf); refine I6 ?_)
       refine ag (i + 1) [] [.same 0, .same 1, .same 2, .same 3, .same 4, .same 5, .same 6, .same 7, .same 8, .same 9, .same 10, .same 11, .same 12] ⟨hlt, trivial⟩ (by simp only []; omega) ?_
       rw [hst]
       repeat' first | exact trivial | exact rfl | refine And.intro ?_ ?_
      ·have h7 : hasP ⟨upd o 2 y, b⟩ (2 : Nat) id = true := by simpa using h7
       rw [show markL o b 2 y id = y from if_pos h7] at hst
       repeat' ((conv => whnf); refine I6 ?_)
       refine ag (i + 1) [] [.same 0, .same 1, .same 2, .same 3, .same 4, .same 5, .same 6, .same 7, .same 8, .same 9, .same 10, .same 11, .same 12] ⟨hlt, trivial⟩ (by simp only []; omega) ?_
       rw [hst]
       repeat' first | exact trivial | exact rfl | refine And.intro ?_ ?_
     ·obtain rfl : i = rl.length := by have h6 : ¬ (i : Int) < rl.length := h6; omega
      rw [List.take_length]
      (conv => whnf)
      exact rx [] [.same 0, .same 1, .same 2, .same 3, .same 4, .same 5, .same 6, .same 7, .same 8, .same 9, .same 10, .same 3, .same 4, .same 11, .same 6]
   ·refine lp (List Bool) (fun x => ⟨[(0, .c (.ptr 0 0)), (1, .c (.int .i64 (3 : Nat))), (2, .c (.bs 1 Int encI ids))], [.box [.ptr 1 0, .rw 3, .rw 4, .rw 5, .rw 11, .rw 7, .rw 8, .rw 9, .rw 10], .box [.rw 2], .row 6 Ob encOb L, .row 1 Bool encBo (o 0), .row 1 Bool encBo (o 1), .row 1 Bool encBo (o 2), .dead, .row 1 Int encI (b 0), .row 1 Int encI (b 1), .row 1 Int encI (b 2), .row 1 Int encI (b 3), .row 1 Bool encBo x]⟩) (fun x => (x.length ≤ max (o 3).length L.length ∧ padL x L.length = padL (o 3) L.length) ∧ True) (fun x => L.length - x.length) (o 3) [] [.same 0, .same 1, .same 2, .same 3, .same 4, .same 5, .same 6, .same 7, .same 8, .same 9, .same 10, .same 6] ?_ ?_ (fun x hx => ?_)
    ·exact ⟨⟨by omega, rfl⟩, trivial⟩
    ·repeat' first | exact trivial | exact rfl | refine And.intro ?_ ?_
    obtain ⟨⟨hxl, hxp⟩, -⟩ := hx
    (conv => whnf)
    refine ⟨false, .grow, (.l [0, 1, 2, 3, 4, 5, 6, 7, 8, 9, 10, 11, 12]), by kernel_rfl, .inl ?_⟩
    (conv => whnf)
    refine ⟨3, ⟨rfl, by decide⟩, ?_⟩
    (conv => whnf)
    refine cl [] [] (len_spec L) ?_
    (conv => whnf)
    refine dec (fun h5 => ?_) (fun h5 => ?_)
    ·have h5 : (x.length : Int) < L.length := h5
     (conv => whnf)
     refine ⟨false, .grow, (.l [0, 1, 2, 3, 4, 5, 6, 7, 10, 11, 8, 9, 12, 13]), by kernel_rfl, .inl ?_⟩
     (conv => whnf)
     refine ⟨3, ⟨rfl, by decide⟩, ?_⟩
     (conv => whnf)
     refine ⟨[false], rfl, ?_⟩
     (conv => whnf)
     refine ⟨_, _, rfl, rfl, (by simp only [List.length_append, List.length_cons, List.length_nil]; omega), ?_⟩
     (conv => whnf)
     refine ⟨3, ⟨rfl, by decide⟩, ?_⟩
     repeat' ((conv => whnf); refine I6 ?_)
     refine ag (x ++ [false]) [] [.same 0, .same 1, .same 2, .same 3, .same 4, .same 5, .same 6, .same 7, .same 8, .same 9, .same 10, .same 13] ⟨⟨by rw [List.length_append, List.length_singleton]; omega, by rw [pad_snoc (by omega)]; exact hxp⟩, trivial⟩ (by simp only [List.length_append, List.length_singleton]; omega) ?_
     repeat' first | exact trivial | exact rfl | refine And.intro ?_ ?_
    ·have h5 : ¬ (x.length : Int) < L.length := h5
     rw [pad_full (by omega)] at hxp
     unfold addL
     rw [← hxp]
     have hxn : L.length ≤ x.length := by omega
     have hrm := fun id (h : id ∈ reachP L ids) => reach_lt h
     have hrl := reach_len (l := L) (ids := ids)
     have p3 := reach_spec L hL ids hi
     generalize reachP L ids = rl at hrm hrl p3 ⊢
     clear hxp hxl
     (conv => whnf)
     refine cl [] [] (p3) ?_
     (conv => whnf)
     refine lp Nat (fun i => ⟨[(0, .c (.ptr 0 0)), (1, .c (.int .i64 (3 : Nat))), (65, .c (.rw 12)), (66, .c (.int .i64 rl.length)), (67, .c (.int .i64 i))], [.box [.ptr 1 0, .rw 3, .rw 4, .rw 5, .rw 11, .rw 7, .rw 8, .rw 9, .rw 10], .box [.rw 2], .row 6 Ob encOb L, .row 1 Bool encBo (o 0), .row 1 Bool encBo (o 1), .row 1 Bool encBo (o 2), .dead, .row 1 Int encI (b 0), .row 1 Int encI (b 1), .row 1 Int encI (b 2), .row 1 Int encI (b 3), .row 1 Bool encBo ((rl.take i).foldl (markL o b 3) x)] ++ [.row 1 Int encI rl]⟩) (fun i => i ≤ rl.length ∧ True) (fun i => rl.length - i) 0 [] [.same 0, .same 1, .same 2, .same 3, .same 4, .same 5, .same 6, .same 7, .same 8, .same 9, .same 10, .same 11, .same 12] ?_ ?_ (fun i hii => ?_)
     ·simp
     ·repeat' first | exact trivial | exact rfl | refine And.intro ?_ ?_
     (conv => whnf)
     refine dec (fun h6 => ?_) (fun h6 => ?_)
     ·have hlt : i < rl.length := by have h6 : (i : Int) < rl.length := h6; omega
      have hiy : rl[i]? = some rl[i] := List.getElem?_eq_getElem hlt
      have hst := mark_take (o := o) (b := b) (r := 3) (x := x) hlt
      have hml := mark_len (o := o) (b := b) (r := 3) (x := x) (l := rl.take i)
      have hid := hrm _ (List.getElem_mem hlt)
      generalize (rl.take i).foldl (markL o b 3) x = y at hst hml ⊢
      generalize rl[i] = id at hiy hst hid
      have p4 := hasD_spec L (upd o 3 y) b hb4 (3 : Nat) id
      (conv => whnf)
      refine ⟨i, ⟨rfl, hlt⟩, ?_⟩
      (conv => whnf)
      refine ⟨id, hiy, ?_⟩
      (conv => whnf)
      refine cl [] [] (p4) ?_
      (conv => whnf)
      refine boo (fun h7 => ?_) (fun h7 => ?_)
      ·have h7 : hasP ⟨upd o 3 y, b⟩ (3 : Nat) id = false := by simpa using h7
       rw [show markL o b 3 y id = y.set id.toNat true from if_neg (by rw [h7]; decide)] at hst
       (conv => whnf)
       refine ⟨3, ⟨rfl, by decide⟩, ?_⟩
       (conv => whnf)
       refine ⟨id.toNat, ⟨by omega, by omega⟩, ?_⟩
       (conv => whnf)
       refine ⟨_, true, List.getElem?_eq_getElem (show id.toNat < y.length by omega), ⟨Nat.le_refl 1, rfl⟩, ?_⟩
       repeat' ((conv => whnf); refine I6 ?_)
       refine ag (i + 1) [] [.same 0, .same 1, .same 2, .same 3, .same 4, .same 5, .same 6, .same 7, .same 8, .same 9, .same 10, .same 11, .same 12] ⟨hlt, trivial⟩ (by simp only []; omega) ?_
       rw [hst]
       repeat' first | exact trivial | exact rfl | refine And.intro ?_ ?_
      ·have h7 : hasP ⟨upd o 3 y, b⟩ (3 : Nat) id = true := by simpa using h7
       rw [show markL o b 3 y id = y from if_pos h7] at hst
       repeat' ((conv => whnf); refine I6 ?_)
       refine ag (i + 1) [] [.same 0, .same 1, .same 2, .same 3, .same 4, .same 5, .same 6, .same 7, .same 8, .same 9, .same 10, .same 11, .same 12] ⟨hlt, trivial⟩ (by simp only []; omega) ?_
       rw [hst]
       repeat' first | exact trivial | exact rfl | refine And.intro ?_ ?_
     ·obtain rfl : i = rl.length := by have h6 : ¬ (i : Int) < rl.length := h6; omega
      rw [List.take_length]
      (conv => whnf)
      exact rx [] [.same 0, .same 1, .same 2, .same 3, .same 4, .same 5, .same 6, .same 7, .same 8, .same 9, .same 10, .same 3, .same 4, .same 5, .same 11]
end Go.Nest
end
/- part -/
section

namespace Go.Nest
open Go Go.AM Go.Proofs
open Go.Proofs.YtpmjnbidmcnhnaaGreatDoor (tab tabOk)
set_option maxRecDepth 4000
def linkE (es : List Ent) : List (Int × Int) := (es.filter fun e => decide (e.mode = 3)).map fun e => (e.repo, e.id)
def linksP (L : List Ob) (ids : List Int) : List (Int × Int) := ids.flatMap fun id => linkE (getP L id).entries
theorem linkE_len {es : List Ent} : (linkE es).length ≤ es.length := by
 unfold linkE
 rw [List.length_map]
 exact List.length_filter_le _ _
theorem linkE_take {es : List Ent} {j : Nat} (h : j < es.length) : linkE (es.take (j + 1)) = linkE (es.take j) ++ (if es[j].mode = 3 then [(es[j].repo, es[j].id)] else []) := by
 unfold linkE
 rw [List.take_succ_eq_append_getElem h, List.filter_append, List.map_append, List.filter_cons]
 congr 1
 split
 ·rename_i h2; rw [if_pos (by simpa using h2)]; rfl
 ·rename_i h2; rw [if_neg (by simpa using h2)]; rfl
theorem links_take {L : List Ob} {ids : List Int} {i : Nat} (h : i < ids.length) : linksP L (ids.take (i + 1)) = linksP L (ids.take i) ++ linkE (getP L ids[i]).entries := by
 unfold linksP
 rw [List.take_succ_eq_append_getElem h, List.flatMap_append]
 simp
theorem links_len {L : List Ob} (hL : PoolOk L) : ∀ {ids : List Int}, (linksP L ids).length ≤ ids.length * 60
 | [] => Nat.zero_le _
 | id :: ids => by
  have ih := links_len hL (ids := ids)
  have h1 : (getP L id).entries.length ≤ 60 := by
   by_cases h : kindOf L id = 0
   ·rw [hL.kind0 h]; exact Nat.zero_le _
   ·exact (hL.get h).entries
  have h2 := linkE_len (es := (getP L id).entries)
  unfold linksP at ih ⊢
  rw [List.flatMap_cons, List.length_append, List.length_cons]
  omega
set_option maxHeartbeats 2000000 in
theorem links_dspec (L : List Ob) (hL : PoolOk L) (o : Nat → List Bool) (b : Nat → List Int) (ids : List Int) (hi : ids.length ≤ 1000000) : Does Tryz.prog 73 [.c (.bp [.bp [.bs 6 Ob encOb L], .bs 1 Bool encBo (o 0), .bs 1 Bool encBo (o 1), .bs 1 Bool encBo (o 2), .bs 1 Bool encBo (o 3), .bs 1 Int encI (b 0), .bs 1 Int encI (b 1), .bs 1 Int encI (b 2), .bs 1 Int encI (b 3)]), .c (.bs 1 Int encI ids)] [] (Rt (.c (.rw 0)) [.row 2 (Int × Int) encPr (linksP L ids)]) := by
 refine X_spec (n := 48) (n0 := 0) tabOk Tryz.call73 Tryz.func73 ?_
 intro hb
 (conv => whnf)
 refine lp Nat (fun i => ⟨[(0, .c (.bp [.bp [.bs 6 Ob encOb L], .bs 1 Bool encBo (o 0), .bs 1 Bool encBo (o 1), .bs 1 Bool encBo (o 2), .bs 1 Bool encBo (o 3), .bs 1 Int encI (b 0), .bs 1 Int encI (b 1), .bs 1 Int encI (b 2), .bs 1 Int encI (b 3)])), (5, .c (.rw 0)), (12, .c (.bs 1 Int encI ids)), (13, .c (.int .i64 ids.length)), (14, .c (.int .i64 i))], [.row 2 (Int × Int) encPr (linksP L (ids.take i))]⟩) (fun i => i ≤ ids.length ∧ True) (fun i => ids.length - i) 0 [] [.new] ?_ ?_ (fun i hii => ?_)
 ·simp
 ·repeat' first | exact trivial | exact rfl | refine And.intro ?_ ?_
 (conv => whnf)
 refine dec (fun h4 => ?_) (fun h4 => ?_)
 ·have hlt : i < ids.length := by have h4 : (i : Int) < ids.length := h4; omega
  have hiy : ids[i]? = some ids[i] := List.getElem?_eq_getElem hlt
  have hst := links_take (L := L) hlt
  have hol := links_len hL (ids := ids.take i)
  rw [List.length_take] at hol
  generalize linksP L (ids.take i) = out at hst hol ⊢
  generalize ids[i] = id at hiy hst
  have hel : (getP L id).entries.length ≤ 60 := by
   by_cases h : kindOf L id = 0
   ·rw [hL.kind0 h]; exact Nat.zero_le _
   ·exact (hL.get h).entries
  (conv => whnf)
  refine ⟨i, id, rfl, hiy, ?_⟩
  (conv => whnf)
  refine cl [] [] (get_spec L hL id) ?_
  generalize getP L id = ob at hel hst ⊢
  (conv => whnf)
  refine lp Nat (fun j => ⟨[(0, .c (.bp [.bp [.bs 6 Ob encOb L], .bs 1 Bool encBo (o 0), .bs 1 Bool encBo (o 1), .bs 1 Bool encBo (o 2), .bs 1 Bool encBo (o 3), .bs 1 Int encI (b 0), .bs 1 Int encI (b 1), .bs 1 Int encI (b 2), .bs 1 Int encI (b 3)])), (5, .c (.rw 0)), (12, .c (.bs 1 Int encI ids)), (13, .c (.int .i64 ids.length)), (14, .c (.int .i64 i)), (28, .c (.bs 4 Ent encEn ob.entries)), (29, .c (.int .i64 ob.entries.length)), (30, .c (.int .i64 j))], [.row 2 (Int × Int) encPr (out ++ linkE (ob.entries.take j))]⟩) (fun j => j ≤ ob.entries.length ∧ True) (fun j => ob.entries.length - j) 0 [] [.same 0] ?_ ?_ (fun j hj => ?_)
  ·simp
  ·rw [List.take_zero, show linkE [] = [] from rfl, List.append_nil]
   repeat' first | exact trivial | exact rfl | refine And.intro ?_ ?_
  (conv => whnf)
  refine dec (fun h5 => ?_) (fun h5 => ?_)
  ·have hjt : j < ob.entries.length := by have h5 : (j : Int) < ob.entries.length := h5; omega
   have hjy : ob.entries[j]? = some ob.entries[j] := List.getElem?_eq_getElem hjt
   have hs2 := linkE_take hjt
   have hl2 := linkE_len (es := ob.entries.take j)
   rw [List.length_take] at hl2
   generalize linkE (ob.entries.take j) = o2 at hs2 hl2 ⊢
   generalize ob.entries[j] = e at hjy hs2
   (conv => whnf)
   refine ⟨j, e, rfl, hjy, ?_⟩
   (conv => whnf)
   refine dec (fun h6 => ?_) (fun h6 => ?_)
   ·rw [if_pos h6] at hs2
    (conv => whnf)
    refine ⟨[(e.repo, e.id)], rfl, ?_⟩
    (conv => whnf)
    refine ⟨_, _, rfl, rfl, (by simp only [List.length_append, List.length_cons, List.length_nil]; omega), ?_⟩
    repeat' ((conv => whnf); refine I6 ?_)
    refine ag (j + 1) [] [.same 3] ⟨hjt, trivial⟩ (by simp only []; omega) ?_
    rw [hs2, ← List.append_assoc]
    repeat' first | exact trivial | exact rfl | refine And.intro ?_ ?_
   ·rw [if_neg h6, List.append_nil] at hs2
    repeat' ((conv => whnf); refine I6 ?_)
    refine ag (j + 1) [] [.same 0] ⟨hjt, trivial⟩ (by simp only []; omega) ?_
    rw [hs2]
    repeat' first | exact trivial | exact rfl | refine And.intro ?_ ?_
  ·obtain rfl : j = ob.entries.length := by have h5 : ¬ (j : Int) < ob.entries.length := h5; omega
   rw [List.take_length]
   repeat' ((conv => whnf); refine I6 ?_)
   refine ag (i + 1) [] [.same 0] ⟨hlt, trivial⟩ (by simp only []; omega) ?_
   rw [hst]
   repeat' first | exact trivial | exact rfl | refine And.intro ?_ ?_
 ·obtain rfl : i = ids.length := by have h4 : ¬ (i : Int) < ids.length := h4; omega
  rw [List.take_length]
  (conv => whnf)
  exact rx [] [.same 0]
def listP (o : Nat → List Bool) (r : Int) (n : Nat) : List Int := ((List.range n).filter fun k : Nat => ownP o r k).map fun k : Nat => (k : Int)
theorem list_take {o : Nat → List Bool} {r : Int} {n : Nat} : listP o r (n + 1) = listP o r n ++ (if ownP o r n = true then [(n : Int)] else []) := by
 unfold listP
 rw [List.range_succ, List.filter_append, List.map_append, List.filter_cons]
 congr 1
 split
 ·rename_i h; rfl
 ·rename_i h; rfl
theorem list_len {o : Nat → List Bool} {r : Int} {n : Nat} : (listP o r n).length ≤ n := by
 unfold listP
 rw [List.length_map]
 exact Nat.le_trans (List.length_filter_le _ _) (by rw [List.length_range]; exact Nat.le_refl _)
theorem list_dspec (L : List Ob) (hL : PoolOk L) (o : Nat → List Bool) (b : Nat → List Int) (r : Int) : Does Tryz.prog 21 [.c (.bp [.bp [.bs 6 Ob encOb L], .bs 1 Bool encBo (o 0), .bs 1 Bool encBo (o 1), .bs 1 Bool encBo (o 2), .bs 1 Bool encBo (o 3), .bs 1 Int encI (b 0), .bs 1 Int encI (b 1), .bs 1 Int encI (b 2), .bs 1 Int encI (b 3)]), .c (.int .i64 r)] [] (Rt (.c (.rw 0)) [.row 1 Int encI (listP o r L.length)]) := by
 have hlen := hL.len
 refine X_spec (n := 25) (n0 := 0) tabOk Tryz.call21 Tryz.func21 ?_
 intro hb
 (conv => whnf)
 refine cl [] [] (len_spec L) ?_
 (conv => whnf)
 refine lp Nat (fun k => ⟨[(0, .c (.bp [.bp [.bs 6 Ob encOb L], .bs 1 Bool encBo (o 0), .bs 1 Bool encBo (o 1), .bs 1 Bool encBo (o 2), .bs 1 Bool encBo (o 3), .bs 1 Int encI (b 0), .bs 1 Int encI (b 1), .bs 1 Int encI (b 2), .bs 1 Int encI (b 3)])), (1, .c (.int .i64 r)), (5, .c (.rw 0)), (11, .c (.int .i64 L.length)), (12, .c (.int .i64 k))], [.row 1 Int encI (listP o r k)]⟩) (fun k => k ≤ L.length ∧ True) (fun k => L.length - k) 0 [] [.new] ?_ ?_ (fun k hk => ?_)
 ·simp
 ·repeat' first | exact trivial | exact rfl | refine And.intro ?_ ?_
 (conv => whnf)
 refine dec (fun h4 => ?_) (fun h4 => ?_)
 ·have hlt : k < L.length := by have h4 : (k : Int) < L.length := h4; omega
  have hst := list_take (o := o) (r := r) (n := k)
  have hol := list_len (o := o) (r := r) (n := k)
  generalize listP o r k = out at hst hol ⊢
  (conv => whnf)
  refine cl [] [] (ownD_spec L o b r k) ?_
  (conv => whnf)
  refine boo (fun h5 => ?_) (fun h5 => ?_)
  ·rw [if_pos h5] at hst
   (conv => whnf)
   refine ⟨[(k : Int)], rfl, ?_⟩
   (conv => whnf)
   refine ⟨_, _, rfl, rfl, (by simp only [List.length_append, List.length_cons, List.length_nil]; omega), ?_⟩
   repeat' ((conv => whnf); refine I6 ?_)
   refine ag (k + 1) [] [.same 2] ⟨hlt, trivial⟩ (by simp only []; omega) ?_
   rw [hst]
   repeat' first | exact trivial | exact rfl | refine And.intro ?_ ?_
  ·rw [if_neg (by rw [h5]; decide), List.append_nil] at hst
   repeat' ((conv => whnf); refine I6 ?_)
   refine ag (k + 1) [] [.same 0] ⟨hlt, trivial⟩ (by simp only []; omega) ?_
   rw [hst]
   repeat' first | exact trivial | exact rfl | refine And.intro ?_ ?_
 ·obtain rfl : k = L.length := by have h4 : ¬ (k : Int) < L.length := h4; omega
  (conv => whnf)
  exact rx [] [.same 0]
end Go.Nest
end
