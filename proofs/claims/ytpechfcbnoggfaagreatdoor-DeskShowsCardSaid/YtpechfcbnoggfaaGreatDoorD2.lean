/- part -/
import Derived.Test.YtpechfcbnoggfaaGreatDoorW10
import Derived.Test.YtpechfcbnoggfaaGreatDoorP9
import Derived.Test.YtpechfcbnoggfaaGreatDoorV1
import Derived.Test.YtpechfcbnoggfaaGreatDoorG9
import Derived.Test.YtpechfcbnoggfaaGreatDoorW2
import Derived.Test.YtpechfcbnoggfaaGreatDoorAmG
import Derived.Test.YtpechfcbnoggfaaGreatDoorL0
set_option linter.unusedVariables false
set_option linter.unusedSimpArgs false
section

namespace Go.Nest
open Go Go.AM
def addI (out : List Int) (id : Int) : List Int := if id ∈ out then out else out ++ [id]
def imA (im : List (List Int)) (k : Int) : List Int := (im[k.toNat]?).getD []
def upO (im : List (List Int)) (ks : List Int) : List Int := ks.foldl (fun out k => (imA im k).foldl addI out) []
def imO (L : List Ob) (dir : List UInt8) (up : List Int) (o : Ob) : List Int × Int × List Ob :=
 if (atF L o.tree dir).2 = 9 then (up, 0, L) else if (atF L o.tree dir).2 ≠ 0 then ([], (atF L o.tree dir).2, L) else
 if up.length = 1 ∧ (getP L (up.headD 0)).tree = (atF L o.tree dir).1 then (up, 0, L) else
 ([(putP L (comO (atF L o.tree dir).1 up o.text)).1], (putP L (comO (atF L o.tree dir).1 up o.text)).2.1, (putP L (comO (atF L o.tree dir).1 up o.text)).2.2)
def imS (L : List Ob) (dir : List UInt8) (im : List (List Int)) (id : Int) : List Int × Int × List Ob := imO L dir (upO im (getP L id).parents) (getP L id)
def splG (dir : List UInt8) : List Int → List Ob → List (List Int) → Int × List Ob × List (List Int)
 | [], L, im => (0, L, im)
 | id :: r, L, im => if (imS L dir im id).2.1 ≠ 0 then ((imS L dir im id).2.1, (imS L dir im id).2.2, im) else splG dir r (imS L dir im id).2.2 (im.set id.toNat (imS L dir im id).1)
theorem anc_more {L M : List Ob} (hp : PoolOk L) (hx : L <+: M) {a b : Int} (ha : kindOf L a = 3) : Anc M a b ↔ Anc L a b := by
 constructor
 ·intro h
  induction h with
  | refl => exact .refl _
  | step h1 _ ih =>
   rw [ext_get hx (by omega)] at h1
   exact .step h1 (ih (par_kind hp ha h1))
 ·intro h
  induction h with
  | refl => exact .refl _
  | step h1 _ ih =>
   refine .step ?_ (ih (par_kind hp ha h1))
   rw [ext_get hx (by omega)]; exact h1
theorem com_tree {L : List Ob} (hp : PoolOk L) {j : Int} (hj : kindOf L j = 3) : kindOf L (getP L j).tree = 2 := by
 obtain ⟨h1, h2⟩ := kindOf_pos (l := L) (id := j) (by omega)
 have := (hp.obj (getP L j) (by rw [getP_at h1 h2]; exact List.getElem_mem _)).2
 have hk := getP_kind (l := L) (id := j)
 unfold leadsP at this
 rw [Bool.and_eq_true, Bool.and_eq_true] at this
 have := this.2.2
 rw [hk, hj] at this
 simpa using this
theorem atL_more {L M : List Ob} (hp : PoolOk L) (hx : L <+: M) : ∀ {ds : List (List UInt8)} {t : Int}, ¬ kindOf L t = 0 → atL M t ds = atL L t ds
 | [], t, h => rfl
 | d :: ds, t, h => by
  unfold atL
  rw [ext_kind hx h, ext_get hx h]
  split
  ·rfl
  ·rename_i hk
   have hk := Decidable.not_not.1 hk
   cases e : (getP L t).entries.find? (isDir d) with
   | none => rfl
   | some x =>
    have hm := List.mem_of_find?_eq_some e
    have q := (tree_ok hp hk).2 x hm
    have q1 := q.m1
    have q2 := q.kind
    exact atL_more hp hx (by omega)
theorem atF_more {L M : List Ob} (hp : PoolOk L) (hx : L <+: M) {t : Int} (h : ¬ kindOf L t = 0) (dir : List UInt8) : atF M t dir = atF L t dir := by
 unfold atF
 rw [atL_more hp hx h]
def Coms (L : List Ob) (l : List Int) : Prop := ∀ x ∈ l, kindOf L x = 3
theorem Coms.mono {L M : List Ob} (hx : L <+: M) {l : List Int} (h : Coms L l) : Coms M l := fun x hm => by
 have := h x hm
 rw [ext_kind hx (by omega)]; exact this
theorem addI_mem {x id : Int} {out : List Int} : x ∈ addI out id ↔ x ∈ out ∨ x = id := by
 unfold addI
 split
 ·rename_i h
  constructor
  ·exact .inl
  ·rintro (h1 | rfl)
   ·exact h1
   ·exact h
 ·simp
theorem addF_mem {x : Int} : ∀ {l out : List Int}, x ∈ l.foldl addI out ↔ x ∈ out ∨ x ∈ l
 | [], out => by simp
 | a :: l, out => by
  rw [List.foldl_cons, addF_mem, addI_mem, List.mem_cons, or_assoc]
theorem upF_mem {x : Int} {im : List (List Int)} : ∀ {ks out : List Int}, x ∈ ks.foldl (fun out k => (imA im k).foldl addI out) out ↔ x ∈ out ∨ ∃ k ∈ ks, x ∈ imA im k
 | [], out => by simp
 | a :: l, out => by
  rw [List.foldl_cons, upF_mem, addF_mem, or_assoc]
  simp
theorem upO_mem {x : Int} {im : List (List Int)} {ks : List Int} : x ∈ upO im ks ↔ ∃ k ∈ ks, x ∈ imA im k := by
 unfold upO; rw [upF_mem]; simp
def ImP (P : Int → Prop) (im : List (List Int)) : Prop := ∀ k, ∀ x ∈ imA im k, P x
theorem ImP.up {P : Int → Prop} {im : List (List Int)} (h : ImP P im) {ks : List Int} : ∀ x ∈ upO im ks, P x := fun x hx => by
 obtain ⟨k, -, h2⟩ := upO_mem.1 hx
 exact h k x h2
theorem ImP.put {P : Int → Prop} {im : List (List Int)} (h : ImP P im) {n : Nat} {v : List Int} (hv : ∀ x ∈ v, P x) : ImP P (im.set n v) := fun k x hx => by
 unfold imA at hx
 rw [List.getElem?_set] at hx
 split at hx
 ·split at hx
  ·exact hv x hx
  ·cases hx
 ·exact h k x hx
theorem ImP.mono {P Q : Int → Prop} {im : List (List Int)} (h : ImP P im) (hPQ : ∀ x, P x → Q x) : ImP Q im := fun k x hx => hPQ x (h k x hx)
def Eqv (im im2 : List (List Int)) : Prop := ∀ n : Nat, (im[n]?).getD [] = (im2[n]?).getD []
theorem Eqv.at {im im2 : List (List Int)} (h : Eqv im im2) (k : Int) : imA im k = imA im2 k := h k.toNat
theorem Eqv.up {im im2 : List (List Int)} (h : Eqv im im2) (ks : List Int) : upO im ks = upO im2 ks := by
 unfold upO
 have : (fun out k => (imA im k).foldl addI out) = (fun (out : List Int) k => (imA im2 k).foldl addI out) := by funext out k; rw [h.at]
 rw [this]
theorem Eqv.put {im im2 : List (List Int)} (h : Eqv im im2) {n : Nat} (h1 : n < im.length) (h2 : n < im2.length) (v : List Int) : Eqv (im.set n v) (im2.set n v) := fun k => by
 rw [List.getElem?_set, List.getElem?_set]
 by_cases e : n = k
 ·rw [if_pos e, if_pos e, if_pos h1, if_pos h2]
 ·rw [if_neg e, if_neg e]; exact h k
def Good (L : List Ob) (line : Int → Prop) (dir : List UInt8) (x : Int) : Prop := kindOf L x = 3 ∧ ∀ y, Anc L x y → ∃ j, line j ∧ kindOf L j = 3 ∧ atF L (getP L j).tree dir = ((getP L y).tree, 0)
theorem Good.mono {L M : List Ob} (hp : PoolOk L) (hx : L <+: M) {line : Int → Prop} {dir : List UInt8} {x : Int} (h : Good L line dir x) : Good M line dir x := by
 obtain ⟨h1, h2⟩ := h
 refine ⟨by rw [ext_kind hx (by omega)]; exact h1, fun y hy => ?_⟩
 have hy := (anc_more hp hx h1).1 hy
 have hk := hy.kind hp h1
 obtain ⟨j, a, b, c⟩ := h2 y hy
 have ht := com_tree hp b
 refine ⟨j, a, by rw [ext_kind hx (by omega)]; exact b, ?_⟩
 rw [ext_get hx (by omega), ext_get hx (by omega), atF_more hp hx (by omega), c]
end Go.Nest
end
/- part -/
section

namespace Go.Nest
open Go Go.AM Go.Proofs
open Go.Proofs.YtpechfcbnoggfaaGreatDoor (tab tabOk)
set_option maxRecDepth 4000
theorem add_ok {n : Nat} : ∀ {l out : List Int}, out.Nodup → (∀ x ∈ out, 0 ≤ x ∧ x < n) → (∀ x ∈ l, 0 ≤ x ∧ x < n) → (l.foldl addI out).Nodup ∧ ∀ x ∈ l.foldl addI out, 0 ≤ x ∧ x < n
 | [], out, h1, h2, _ => ⟨h1, h2⟩
 | a :: l, out, h1, h2, h3 => by
  rw [List.foldl_cons]
  refine add_ok ?_ (fun x hx => ?_) (fun x hx => h3 x (by simp [hx]))
  ·unfold addI
   split
   ·exact h1
   ·rename_i h
    rw [List.nodup_append]
    exact ⟨h1, by simp, fun x hx y hy => by rw [List.mem_singleton] at hy; subst hy; exact fun e => h (e ▸ hx)⟩
  ·rcases addI_mem.1 hx with hx | rfl
   ·exact h2 x hx
   ·exact h3 x (by simp)
structure Fit (im : List (List Int)) : Prop where
 len : ∀ k, (imA im k).length ≤ 600
 all : ∀ k, ∀ x ∈ imA im k, 0 ≤ x ∧ x < (600 : Nat)
theorem add_take {l out : List Int} {j : Nat} (h : j < l.length) : (l.take (j + 1)).foldl addI out = addI ((l.take j).foldl addI out) l[j] := by
 rw [List.take_succ_eq_append_getElem h, List.foldl_append]; rfl
end Go.Nest
end
/- part -/
section

namespace Go.Nest
open Go Go.AM
def isR (r : Int) : Bool := decide (0 ≤ r) && decide (r < 4)
theorem isR_iff {r : Int} : isR r = true ↔ ∃ i : Nat, i < 4 ∧ r = i := by
 unfold isR
 rw [Bool.and_eq_true, decide_eq_true_iff, decide_eq_true_iff]
 constructor
 ·rintro ⟨h1, h2⟩; exact ⟨r.toNat, by omega, by omega⟩
 ·rintro ⟨i, h1, rfl⟩; omega
def BorOk (b : Nat → List Int) : Prop := ∀ i, i < 4 → (b i).length ≤ 4 ∧ ∀ q ∈ b i, 0 ≤ q ∧ q < (4 : Nat)
def lendG (b : Nat → List Int) : Nat → List Int → Nat → List Int
 | 0, out, _ => out
 | n + 1, out, i => match out[i]? with
  | some q => lendG b n ((b q.toNat).foldl addI out) (i + 1)
  | none => out
def lendP (b : Nat → List Int) (r : Int) : List Int := lendG b 5 [r] 0
def ownP (o : Nat → List Bool) (r id : Int) : Bool := isR r && (decide (0 ≤ id) && (decide (id < (o r.toNat).length) && ((o r.toNat)[id.toNat]?).getD false))
def hasP (d : Dp) (r id : Int) : Bool := isR r && (lendP d.bor r).any fun q => ownP d.own q id
theorem lend_stop {b : Nat → List Int} : ∀ {n : Nat} {out : List Int} {i : Nat}, out[i]? = none → lendG b n out i = out
 | 0, out, i, h => rfl
 | n + 1, out, i, h => by unfold lendG; rw [h]
theorem addI_len {out : List Int} {x : Int} : out.length ≤ (addI out x).length := by unfold addI; split <;> simp
theorem addF_len : ∀ {l out : List Int}, out.length ≤ (l.foldl addI out).length
 | [], out => Nat.le_refl _
 | x :: l, out => Nat.le_trans addI_len (addF_len (l := l) (out := addI out x))
structure LenI (b : Nat → List Int) (r : Int) (i : Nat) (out : List Int) : Prop where
 nd : out.Nodup
 all : ∀ x ∈ out, 0 ≤ x ∧ x < (4 : Nat)
 le : i ≤ out.length
 eq : lendP b r = lendG b (5 - i) out i
theorem LenI.len {b : Nat → List Int} {r : Int} {i : Nat} {out : List Int} (h : LenI b r i out) : out.length ≤ 4 := nodup_len 4 h.nd h.all
theorem LenI.start {b : Nat → List Int} {r : Int} (h : isR r = true) : LenI b r 0 [r] := by
 obtain ⟨k, hk, rfl⟩ := isR_iff.1 h
 refine ⟨by simp, fun x hx => ?_, by simp, rfl⟩
 rw [List.mem_singleton] at hx
 subst hx; omega
theorem LenI.next {b : Nat → List Int} (hb : BorOk b) {r : Int} {i : Nat} {out : List Int} (h : LenI b r i out) (hi : i < out.length) : LenI b r (i + 1) ((b out[i].toNat).foldl addI out) := by
 have hx := h.all _ (List.getElem_mem hi)
 have hl := h.len
 obtain ⟨a, c⟩ := add_ok (l := b out[i].toNat) h.nd h.all (hb out[i].toNat (by omega)).2
 have hle : out.length ≤ ((b out[i].toNat).foldl addI out).length := addF_len
 refine ⟨a, c, by omega, ?_⟩
 rw [h.eq]
 conv => lhs; rw [show 5 - i = (5 - (i + 1)) + 1 by omega]
 conv => lhs; unfold lendG
 rw [List.getElem?_eq_getElem hi]
theorem LenI.stop {b : Nat → List Int} {r : Int} {i : Nat} {out : List Int} (h : LenI b r i out) (hi : ¬ i < out.length) : lendP b r = out := by
 rw [h.eq, lend_stop (List.getElem?_eq_none (by omega))]
end Go.Nest
end
/- part -/
section

namespace Go.Nest
open Go Go.AM Go.Proofs
open Go.Proofs.YtpechfcbnoggfaaGreatDoor (tab tabOk)
set_option maxRecDepth 4000
theorem repo_spec (r : Int) : Does Tryz.prog 105 [.c (.int .i64 r)] [] (Rt (.c (.bool (isR r))) []) := by
 refine X_spec (n := 9) (n0 := 0) tabOk Tryz.call105 Tryz.func105 ?_
 intro hb
 (conv => whnf)
 refine dec (fun h1 => ?_) (fun h1 => ?_)
 ·(conv => whnf)
  exact rtB (by unfold isR; rw [decide_eq_true (show 0 ≤ r from h1)]; rfl)
 ·(conv => whnf)
  exact rtB (by unfold isR; rw [decide_eq_false (show ¬ 0 ≤ r from h1)]; rfl)
set_option maxHeartbeats 4000000 in
theorem lenders_spec (L : List Ob) (o : Nat → List Bool) (b : Nat → List Int) (hb4 : BorOk b) (r : Int) (hr : isR r = true) : Does Tryz.prog 107 [.c (.bp [.bp [.bs 6 Ob encOb L], .bs 1 Bool encBo (o 0), .bs 1 Bool encBo (o 1), .bs 1 Bool encBo (o 2), .bs 1 Bool encBo (o 3), .bs 1 Int encI (b 0), .bs 1 Int encI (b 1), .bs 1 Int encI (b 2), .bs 1 Int encI (b 3)]), .c (.int .i64 r)] [] (Rt (.c (.rw 0)) [.row 1 Int encI (lendP b r)]) := by
 refine X_spec (n := 41) (n0 := 0) tabOk Tryz.call107 Tryz.func107 ?_
 intro hb
 (conv => whnf)
 refine ⟨[r], rfl, ?_⟩
 (conv => whnf)
 refine lp (Nat × List Int) (fun p => ⟨[(0, .c (.bp [.bp [.bs 6 Ob encOb L], .bs 1 Bool encBo (o 0), .bs 1 Bool encBo (o 1), .bs 1 Bool encBo (o 2), .bs 1 Bool encBo (o 3), .bs 1 Int encI (b 0), .bs 1 Int encI (b 1), .bs 1 Int encI (b 2), .bs 1 Int encI (b 3)])), (5, .c (.rw 0)), (6, .c (.int .i64 p.1))], [.row 1 Int encI p.2]⟩) (fun p => LenI b r p.1 p.2 ∧ True) (fun p => 4 - p.1) (0, [r]) [] [.same 0] ?_ ?_ (fun ⟨i, out⟩ hx => ?_)
 ·exact ⟨LenI.start hr, trivial⟩
 ·repeat' first | exact trivial | exact rfl | refine And.intro ?_ ?_
 obtain ⟨hx, -⟩ := hx
 have hx : LenI b r i out := hx
 have hol := hx.len
 (conv => whnf)
 refine dec (fun h4 => ?_) (fun h4 => ?_)
 ·have hlt : i < out.length := by have h4 : (i : Int) < out.length := h4; omega
  obtain ⟨k, hk4, hqe⟩ : ∃ k : Nat, k < 4 ∧ out[i] = k := by
   have := hx.all _ (List.getElem_mem hlt)
   exact ⟨out[i].toNat, by omega, by omega⟩
  rcases four hk4 with rfl | rfl | rfl | rfl
  ·have hn := hx.next hb4 hlt
   rw [hqe] at hn
   have hl4 := (hb4 0 (by decide)).1
   (conv => whnf)
   refine ⟨false, .grow, (.l [0, 1, 2, 3, 4, 5, 6, 7, 8, 9, 10]), by kernel_rfl, .inl ?_⟩
   (conv => whnf)
   refine ⟨i, ⟨rfl, hlt⟩, ?_⟩
   (conv => whnf)
   refine ⟨0, by rw [List.getElem?_eq_getElem hlt, hqe]; rfl, ?_⟩
   (conv => whnf)
   refine ⟨0, ⟨rfl, by decide⟩, ?_⟩
   (conv => whnf)
   refine lp Nat (fun j => ⟨[(0, .c (.bp [.bp [.bs 6 Ob encOb L], .bs 1 Bool encBo (o 0), .bs 1 Bool encBo (o 1), .bs 1 Bool encBo (o 2), .bs 1 Bool encBo (o 3), .bs 1 Int encI (b 0), .bs 1 Int encI (b 1), .bs 1 Int encI (b 2), .bs 1 Int encI (b 3)])), (5, .c (.rw 0)), (6, .c (.int .i64 i)), (25, .c (.bs 1 Int encI (b 0))), (26, .c (.int .i64 (b 0).length)), (27, .c (.int .i64 j))], [.row 1 Int encI (((b 0).take j).foldl addI out)]⟩) (fun j => j ≤ (b 0).length ∧ True) (fun j => (b 0).length - j) 0 [] [.same 0] ?_ ?_ (fun j hj => ?_)
   ·simp
   ·repeat' first | exact trivial | exact rfl | refine And.intro ?_ ?_
   (conv => whnf)
   refine dec (fun h5 => ?_) (fun h5 => ?_)
   ·have hjt : j < (b 0).length := by omega
    have hs2 := add_take (out := out) hjt
    obtain ⟨v1, v2⟩ := add_ok (l := (b 0).take j) hx.nd hx.all (fun x hx => (hb4 0 (by decide)).2 x (List.mem_of_mem_take hx))
    have v3 := nodup_len 4 v1 v2
    have hjy : (b 0)[j]? = some (b 0)[j] := List.getElem?_eq_getElem hjt
    generalize ((b 0).take j).foldl addI out = o2 at hs2 v1 v2 v3 ⊢
    generalize (b 0)[j] = y at hjy hs2
    (conv => whnf)
    refine ⟨j, y, rfl, hjy, ?_⟩
    (conv => whnf)
    refine cl [] [] (contains_spec o2 y) ?_
    (conv => whnf)
    refine boo (fun h6 => ?_) (fun h6 => ?_)
    ·have h6 : y ∉ o2 := fun h => by rw [hasI_iff.2 h] at h6; cases h6
     rw [show addI o2 y = o2 ++ [y] from if_neg h6] at hs2
     (conv => whnf)
     refine ⟨[y], rfl, ?_⟩
     (conv => whnf)
     refine ⟨_, _, rfl, rfl, (by simp only [List.length_append, List.length_cons, List.length_nil]; omega), ?_⟩
     repeat' ((conv => whnf); refine I6 ?_)
     refine ag (j + 1) [] [.same 2] ⟨hjt, trivial⟩ (by simp only []; omega) ?_
     rw [hs2]
     repeat' first | exact trivial | exact rfl | refine And.intro ?_ ?_
    ·have h6 : y ∈ o2 := hasI_iff.1 (by simpa using h6)
     rw [show addI o2 y = o2 from if_pos h6] at hs2
     repeat' ((conv => whnf); refine I6 ?_)
     refine ag (j + 1) [] [.same 0] ⟨hjt, trivial⟩ (by simp only []; omega) ?_
     rw [hs2]
     repeat' first | exact trivial | exact rfl | refine And.intro ?_ ?_
   ·obtain rfl : j = (b 0).length := by omega
    rw [List.take_length]
    repeat' ((conv => whnf); refine I6 ?_)
    refine ag (i + 1, (b 0).foldl addI out) [] [.same 0] ⟨hn, trivial⟩ (by have := hn.le; have := hn.len; simp only []; omega) ?_
    repeat' first | exact trivial | exact rfl | refine And.intro ?_ ?_
  ·have hn := hx.next hb4 hlt
   rw [hqe] at hn
   have hl4 := (hb4 1 (by decide)).1
   (conv => whnf)
   refine ⟨false, .grow, (.l [0, 1, 2, 3, 4, 5, 6, 7, 8, 9, 10]), by kernel_rfl, .inl ?_⟩
   (conv => whnf)
   refine ⟨i, ⟨rfl, hlt⟩, ?_⟩
   (conv => whnf)
   refine ⟨1, by rw [List.getElem?_eq_getElem hlt, hqe]; rfl, ?_⟩
   (conv => whnf)
   refine ⟨1, ⟨rfl, by decide⟩, ?_⟩
   (conv => whnf)
   refine lp Nat (fun j => ⟨[(0, .c (.bp [.bp [.bs 6 Ob encOb L], .bs 1 Bool encBo (o 0), .bs 1 Bool encBo (o 1), .bs 1 Bool encBo (o 2), .bs 1 Bool encBo (o 3), .bs 1 Int encI (b 0), .bs 1 Int encI (b 1), .bs 1 Int encI (b 2), .bs 1 Int encI (b 3)])), (5, .c (.rw 0)), (6, .c (.int .i64 i)), (25, .c (.bs 1 Int encI (b 1))), (26, .c (.int .i64 (b 1).length)), (27, .c (.int .i64 j))], [.row 1 Int encI (((b 1).take j).foldl addI out)]⟩) (fun j => j ≤ (b 1).length ∧ True) (fun j => (b 1).length - j) 0 [] [.same 0] ?_ ?_ (fun j hj => ?_)
   ·simp
   ·repeat' first | exact trivial | exact rfl | refine And.intro ?_ ?_
   (conv => whnf)
   refine dec (fun h5 => ?_) (fun h5 => ?_)
   ·have hjt : j < (b 1).length := by omega
    have hs2 := add_take (out := out) hjt
    obtain ⟨v1, v2⟩ := add_ok (l := (b 1).take j) hx.nd hx.all (fun x hx => (hb4 1 (by decide)).2 x (List.mem_of_mem_take hx))
    have v3 := nodup_len 4 v1 v2
    have hjy : (b 1)[j]? = some (b 1)[j] := List.getElem?_eq_getElem hjt
    generalize ((b 1).take j).foldl addI out = o2 at hs2 v1 v2 v3 ⊢
    generalize (b 1)[j] = y at hjy hs2
    (conv => whnf)
    refine ⟨j, y, rfl, hjy, ?_⟩
    (conv => whnf)
    refine cl [] [] (contains_spec o2 y) ?_
    (conv => whnf)
    refine boo (fun h6 => ?_) (fun h6 => ?_)
    ·have h6 : y ∉ o2 := fun h => by rw [hasI_iff.2 h] at h6; cases h6
     rw [show addI o2 y = o2 ++ [y] from if_neg h6] at hs2
     (conv => whnf)
     refine ⟨[y], rfl, ?_⟩
     (conv => whnf)
     refine ⟨_, _, rfl, rfl, (by simp only [List.length_append, List.length_cons, List.length_nil]; omega), ?_⟩
     repeat' ((conv => whnf); refine I6 ?_)
     refine ag (j + 1) [] [.same 2] ⟨hjt, trivial⟩ (by simp only []; omega) ?_
     rw [hs2]
     repeat' first | exact trivial | exact rfl | refine And.intro ?_ ?_
    ·have h6 : y ∈ o2 := hasI_iff.1 (by simpa using h6)
     rw [show addI o2 y = o2 from if_pos h6] at hs2
     repeat' ((conv => whnf); refine I6 ?_)
     refine ag (j + 1) [] [.same 0] ⟨hjt, trivial⟩ (by simp only []; omega) ?_
     rw [hs2]
     repeat' first | exact trivial | exact rfl | refine And.intro ?_ ?_
   ·obtain rfl : j = (b 1).length := by omega
    rw [List.take_length]
    repeat' ((conv => whnf); refine I6 ?_)
    refine ag (i + 1, (b 1).foldl addI out) [] [.same 0] ⟨hn, trivial⟩ (by have := hn.le; have := hn.len; simp only []; omega) ?_
    repeat' first | exact trivial | exact rfl | refine And.intro ?_ ?_
  ·have hn := hx.next hb4 hlt
   rw [hqe] at hn
   have hl4 := (hb4 2 (by decide)).1
   (conv => whnf)
   refine ⟨false, .grow, (.l [0, 1, 2, 3, 4, 5, 6, 7, 8, 9, 10]), by kernel_rfl, .inl ?_⟩
   (conv => whnf)
   refine ⟨i, ⟨rfl, hlt⟩, ?_⟩
   (conv => whnf)
   refine ⟨2, by rw [List.getElem?_eq_getElem hlt, hqe]; rfl, ?_⟩
   (conv => whnf)
   refine ⟨2, ⟨rfl, by decide⟩, ?_⟩
   (conv => whnf)
   refine lp Nat (fun j => ⟨[(0, .c (.bp [.bp [.bs 6 Ob encOb L], .bs 1 Bool encBo (o 0), .bs 1 Bool encBo (o 1), .bs 1 Bool encBo (o 2), .bs 1 Bool encBo (o 3), .bs 1 Int encI (b 0), .bs 1 Int encI (b 1), .bs 1 Int encI (b 2), .bs 1 Int encI (b 3)])), (5, .c (.rw 0)), (6, .c (.int .i64 i)), (25, .c (.bs 1 Int encI (b 2))), (26, .c (.int .i64 (b 2).length)), (27, .c (.int .i64 j))], [.row 1 Int encI (((b 2).take j).foldl addI out)]⟩) (fun j => j ≤ (b 2).length ∧ True) (fun j => (b 2).length - j) 0 [] [.same 0] ?_ ?_ (fun j hj => ?_)
   ·simp
   ·repeat' first | exact trivial | exact rfl | refine And.intro ?_ ?_
   (conv => whnf)
   refine dec (fun h5 => ?_) (fun h5 => ?_)
   ·have hjt : j < (b 2).length := by omega
    have hs2 := add_take (out := out) hjt
    obtain ⟨v1, v2⟩ := add_ok (l := (b 2).take j) hx.nd hx.all (fun x hx => (hb4 2 (by decide)).2 x (List.mem_of_mem_take hx))
    have v3 := nodup_len 4 v1 v2
    have hjy : (b 2)[j]? = some (b 2)[j] := List.getElem?_eq_getElem hjt
    generalize ((b 2).take j).foldl addI out = o2 at hs2 v1 v2 v3 ⊢
    generalize (b 2)[j] = y at hjy hs2
    (conv => whnf)
    refine ⟨j, y, rfl, hjy, ?_⟩
    (conv => whnf)
    refine cl [] [] (contains_spec o2 y) ?_
    (conv => whnf)
    refine boo (fun h6 => ?_) (fun h6 => ?_)
    ·have h6 : y ∉ o2 := fun h => by rw [hasI_iff.2 h] at h6; cases h6
     rw [show addI o2 y = o2 ++ [y] from if_neg h6] at hs2
     (conv => whnf)
     refine ⟨[y], rfl, ?_⟩
     (conv => whnf)
     refine ⟨_, _, rfl, rfl, (by simp only [List.length_append, List.length_cons, List.length_nil]; omega), ?_⟩
     repeat' ((conv => whnf); refine I6 ?_)
     refine ag (j + 1) [] [.same 2] ⟨hjt, trivial⟩ (by simp only []; omega) ?_
     rw [hs2]
     repeat' first | exact trivial | exact rfl | refine And.intro ?_ ?_
    ·have h6 : y ∈ o2 := hasI_iff.1 (by simpa using h6)
     rw [show addI o2 y = o2 from if_pos h6] at hs2
     repeat' ((conv => whnf); refine I6 ?_)
     refine ag (j + 1) [] [.same 0] ⟨hjt, trivial⟩ (by simp only []; omega) ?_
     rw [hs2]
     repeat' first | exact trivial | exact rfl | refine And.intro ?_ ?_
   ·obtain rfl : j = (b 2).length := by omega
    rw [List.take_length]
    repeat' ((conv => whnf); refine I6 ?_)
    refine ag (i + 1, (b 2).foldl addI out) [] [.same 0] ⟨hn, trivial⟩ (by have := hn.le; have := hn.len; simp only []; omega) ?_
    repeat' first | exact trivial | exact rfl | refine And.intro ?_ ?_
  ·have hn := hx.next hb4 hlt
   rw [hqe] at hn
   have hl4 := (hb4 3 (by decide)).1
   (conv => whnf)
   refine ⟨false, .grow, (.l [0, 1, 2, 3, 4, 5, 6, 7, 8, 9, 10]), by kernel_rfl, .inl ?_⟩
   (conv => whnf)
   refine ⟨i, ⟨rfl, hlt⟩, ?_⟩
   (conv => whnf)
   refine ⟨3, by rw [List.getElem?_eq_getElem hlt, hqe]; rfl, ?_⟩
   (conv => whnf)
   refine ⟨3, ⟨rfl, by decide⟩, ?_⟩
   (conv => whnf)
   refine lp Nat (fun j => ⟨[(0, .c (.bp [.bp [.bs 6 Ob encOb L], .bs 1 Bool encBo (o 0), .bs 1 Bool encBo (o 1), .bs 1 Bool encBo (o 2), .bs 1 Bool encBo (o 3), .bs 1 Int encI (b 0), .bs 1 Int encI (b 1), .bs 1 Int encI (b 2), .bs 1 Int encI (b 3)])), (5, .c (.rw 0)), (6, .c (.int .i64 i)), (25, .c (.bs 1 Int encI (b 3))), (26, .c (.int .i64 (b 3).length)), (27, .c (.int .i64 j))], [.row 1 Int encI (((b 3).take j).foldl addI out)]⟩) (fun j => j ≤ (b 3).length ∧ True) (fun j => (b 3).length - j) 0 [] [.same 0] ?_ ?_ (fun j hj => ?_)
   ·simp
   ·repeat' first | exact trivial | exact rfl | refine And.intro ?_ ?_
   (conv => whnf)
   refine dec (fun h5 => ?_) (fun h5 => ?_)
   ·have hjt : j < (b 3).length := by omega
    have hs2 := add_take (out := out) hjt
    obtain ⟨v1, v2⟩ := add_ok (l := (b 3).take j) hx.nd hx.all (fun x hx => (hb4 3 (by decide)).2 x (List.mem_of_mem_take hx))
    have v3 := nodup_len 4 v1 v2
    have hjy : (b 3)[j]? = some (b 3)[j] := List.getElem?_eq_getElem hjt
    generalize ((b 3).take j).foldl addI out = o2 at hs2 v1 v2 v3 ⊢
    generalize (b 3)[j] = y at hjy hs2
    (conv => whnf)
    refine ⟨j, y, rfl, hjy, ?_⟩
    (conv => whnf)
    refine cl [] [] (contains_spec o2 y) ?_
    (conv => whnf)
    refine boo (fun h6 => ?_) (fun h6 => ?_)
    ·have h6 : y ∉ o2 := fun h => by rw [hasI_iff.2 h] at h6; cases h6
     rw [show addI o2 y = o2 ++ [y] from if_neg h6] at hs2
     (conv => whnf)
     refine ⟨[y], rfl, ?_⟩
     (conv => whnf)
     refine ⟨_, _, rfl, rfl, (by simp only [List.length_append, List.length_cons, List.length_nil]; omega), ?_⟩
     repeat' ((conv => whnf); refine I6 ?_)
     refine ag (j + 1) [] [.same 2] ⟨hjt, trivial⟩ (by simp only []; omega) ?_
     rw [hs2]
     repeat' first | exact trivial | exact rfl | refine And.intro ?_ ?_
    ·have h6 : y ∈ o2 := hasI_iff.1 (by simpa using h6)
     rw [show addI o2 y = o2 from if_pos h6] at hs2
     repeat' ((conv => whnf); refine I6 ?_)
     refine ag (j + 1) [] [.same 0] ⟨hjt, trivial⟩ (by simp only []; omega) ?_
     rw [hs2]
     repeat' first | exact trivial | exact rfl | refine And.intro ?_ ?_
   ·obtain rfl : j = (b 3).length := by omega
    rw [List.take_length]
    repeat' ((conv => whnf); refine I6 ?_)
    refine ag (i + 1, (b 3).foldl addI out) [] [.same 0] ⟨hn, trivial⟩ (by have := hn.le; have := hn.len; simp only []; omega) ?_
    repeat' first | exact trivial | exact rfl | refine And.intro ?_ ?_
 ·have e := hx.stop (by have h4 : ¬ (i : Int) < out.length := h4; omega)
  rw [e]
  (conv => whnf)
  exact rx [] [.same 0]
end Go.Nest
end
/- part -/
section

namespace Go.Nest
open Go Go.AM Go.Proofs
open Go.Proofs.YtpechfcbnoggfaaGreatDoor (tab tabOk)
set_option maxRecDepth 4000
theorem ownP_at {o : Nat → List Bool} {k : Nat} {id : Int} (hk : k < 4) : ownP o k id = (decide (0 ≤ id) && (decide (id < (o k).length) && ((o k)[id.toNat]?).getD false)) := by
 unfold ownP
 rw [isR_iff.2 ⟨k, hk, rfl⟩, Bool.true_and, Int.toNat_natCast]
set_option maxHeartbeats 4000000 in
theorem ownD_spec (L : List Ob) (o : Nat → List Bool) (b : Nat → List Int) (r id : Int) : Does Tryz.prog 72 [.c (.bp [.bp [.bs 6 Ob encOb L], .bs 1 Bool encBo (o 0), .bs 1 Bool encBo (o 1), .bs 1 Bool encBo (o 2), .bs 1 Bool encBo (o 3), .bs 1 Int encI (b 0), .bs 1 Int encI (b 1), .bs 1 Int encI (b 2), .bs 1 Int encI (b 3)]), .c (.int .i64 r), .c (.int .i64 id)] [] (Rt (.c (.bool (ownP o r id))) []) := by
 have p1 := repo_spec r
 refine X_spec (n := 35) (n0 := 0) tabOk Tryz.call72 Tryz.func72 ?_
 intro hb
 cases hr : isR r with
 | false =>
  rw [hr] at p1
  (conv => whnf)
  refine cl [] [] (p1) ?_
  (conv => whnf)
  exact rtB (by unfold ownP; rw [hr]; rfl)
 | true =>
  rw [hr] at p1
  obtain ⟨k, hk, rfl⟩ := isR_iff.1 hr
  (conv => whnf)
  refine cl [] [] (p1) ?_
  rcases four hk with rfl | rfl | rfl | rfl
  ·have e := ownP_at (o := o) (k := 0) (id := id) (by decide)
   (conv => whnf)
   refine dec (fun h1 => ?_) (fun h1 => ?_)
   ·(conv => whnf)
    refine ⟨0, ⟨rfl, by decide⟩, ?_⟩
    (conv => whnf)
    refine dec (fun h2 => ?_) (fun h2 => ?_)
    ·have hlt : id.toNat < (o 0).length := by have h1 : (0 : Int) ≤ id := h1; have h2 : id < ((o 0).length : Int) := h2; omega
     have hge : (o 0)[id.toNat]? = some (o 0)[id.toNat] := List.getElem?_eq_getElem hlt
     rw [decide_eq_true h1, decide_eq_true h2, hge] at e
     (conv => whnf)
     refine ⟨0, ⟨rfl, by decide⟩, ?_⟩
     (conv => whnf)
     refine ⟨id.toNat, _, by have h1 : (0 : Int) ≤ id := h1; omega, hge, ?_⟩
     (conv => whnf)
     exact rtB e.symm
    ·rw [decide_eq_false h2] at e
     (conv => whnf)
     exact rtB (by rw [e]; simp)
   ·rw [decide_eq_false h1] at e
    (conv => whnf)
    exact rtB (by rw [e]; rfl)
  ·have e := ownP_at (o := o) (k := 1) (id := id) (by decide)
   (conv => whnf)
   refine dec (fun h1 => ?_) (fun h1 => ?_)
   ·(conv => whnf)
    refine ⟨1, ⟨rfl, by decide⟩, ?_⟩
    (conv => whnf)
    refine dec (fun h2 => ?_) (fun h2 => ?_)
    ·have hlt : id.toNat < (o 1).length := by have h1 : (0 : Int) ≤ id := h1; have h2 : id < ((o 1).length : Int) := h2; omega
     have hge : (o 1)[id.toNat]? = some (o 1)[id.toNat] := List.getElem?_eq_getElem hlt
     rw [decide_eq_true h1, decide_eq_true h2, hge] at e
     (conv => whnf)
     refine ⟨1, ⟨rfl, by decide⟩, ?_⟩
     (conv => whnf)
     refine ⟨id.toNat, _, by have h1 : (0 : Int) ≤ id := h1; omega, hge, ?_⟩
     (conv => whnf)
     exact rtB e.symm
    ·rw [decide_eq_false h2] at e
     (conv => whnf)
     exact rtB (by rw [e]; simp)
   ·rw [decide_eq_false h1] at e
    (conv => whnf)
    exact rtB (by rw [e]; rfl)
  ·have e := ownP_at (o := o) (k := 2) (id := id) (by decide)
   (conv => whnf)
   refine dec (fun h1 => ?_) (fun h1 => ?_)
   ·(conv => whnf)
    refine ⟨2, ⟨rfl, by decide⟩, ?_⟩
    (conv => whnf)
    refine dec (fun h2 => ?_) (fun h2 => ?_)
    ·have hlt : id.toNat < (o 2).length := by have h1 : (0 : Int) ≤ id := h1; have h2 : id < ((o 2).length : Int) := h2; omega
     have hge : (o 2)[id.toNat]? = some (o 2)[id.toNat] := List.getElem?_eq_getElem hlt
     rw [decide_eq_true h1, decide_eq_true h2, hge] at e
     (conv => whnf)
     refine ⟨2, ⟨rfl, by decide⟩, ?_⟩
     (conv => whnf)
     refine ⟨id.toNat, _, by have h1 : (0 : Int) ≤ id := h1; omega, hge, ?_⟩
     (conv => whnf)
     exact rtB e.symm
    ·rw [decide_eq_false h2] at e
     (conv => whnf)
     exact rtB (by rw [e]; simp)
   ·rw [decide_eq_false h1] at e
    (conv => whnf)
    exact rtB (by rw [e]; rfl)
  ·have e := ownP_at (o := o) (k := 3) (id := id) (by decide)
   (conv => whnf)
   refine dec (fun h1 => ?_) (fun h1 => ?_)
   ·(conv => whnf)
    refine ⟨3, ⟨rfl, by decide⟩, ?_⟩
    (conv => whnf)
    refine dec (fun h2 => ?_) (fun h2 => ?_)
    ·have hlt : id.toNat < (o 3).length := by have h1 : (0 : Int) ≤ id := h1; have h2 : id < ((o 3).length : Int) := h2; omega
     have hge : (o 3)[id.toNat]? = some (o 3)[id.toNat] := List.getElem?_eq_getElem hlt
     rw [decide_eq_true h1, decide_eq_true h2, hge] at e
     (conv => whnf)
     refine ⟨3, ⟨rfl, by decide⟩, ?_⟩
     (conv => whnf)
     refine ⟨id.toNat, _, by have h1 : (0 : Int) ≤ id := h1; omega, hge, ?_⟩
     (conv => whnf)
     exact rtB e.symm
    ·rw [decide_eq_false h2] at e
     (conv => whnf)
     exact rtB (by rw [e]; simp)
   ·rw [decide_eq_false h1] at e
    (conv => whnf)
    exact rtB (by rw [e]; rfl)
theorem hasD1_spec (L : List Ob) (o : Nat → List Bool) (b : Nat → List Int) (id q : Int) : Does Tryz.prog 108 [.c (.int .i64 q), .c (.bp [.bp [.bp [.bs 6 Ob encOb L], .bs 1 Bool encBo (o 0), .bs 1 Bool encBo (o 1), .bs 1 Bool encBo (o 2), .bs 1 Bool encBo (o 3), .bs 1 Int encI (b 0), .bs 1 Int encI (b 1), .bs 1 Int encI (b 2), .bs 1 Int encI (b 3)]]), .c (.bp [.int .i64 id])] [] (Rt (.c (.bool (ownP o q id))) []) := by
 refine X_spec (n := 9) (n0 := 0) tabOk Tryz.call108 Tryz.func108 ?_
 intro hb
 (conv => whnf)
 refine cl [] [] (ownD_spec L o b q id) ?_
 (conv => whnf)
 exact rtB rfl
theorem indexD (F : Nat) (L : List Ob) (o : Nat → List Bool) (b : Nat → List Int) (k : Int) (p : Int → Bool) (hF : ∀ x, Does Tryz.prog F [.c (.int .i64 x), .c (.bp [.bp [.bp [.bs 6 Ob encOb L], .bs 1 Bool encBo (o 0), .bs 1 Bool encBo (o 1), .bs 1 Bool encBo (o 2), .bs 1 Bool encBo (o 3), .bs 1 Int encI (b 0), .bs 1 Int encI (b 1), .bs 1 Int encI (b 2), .bs 1 Int encI (b 3)]]), .c (.bp [.int .i64 k])] [] (Rt (.c (.bool (p x))) [])) (l : List Int) : Does Tryz.prog 178 [.c (.bs 1 Int encI l), .c (.fn F [.bp [.bp [.bp [.bs 6 Ob encOb L], .bs 1 Bool encBo (o 0), .bs 1 Bool encBo (o 1), .bs 1 Bool encBo (o 2), .bs 1 Bool encBo (o 3), .bs 1 Int encI (b 0), .bs 1 Int encI (b 1), .bs 1 Int encI (b 2), .bs 1 Int encI (b 3)]], .bp [.int .i64 k]])] [] (Rt (.c (.int .i64 (idxF p l))) []) := by
 refine X_spec (n := 19) (n0 := 0) tabOk Tryz.call178 Tryz.func178 ?_
 intro hb; have hb : l.length ≤ 9223372036854775807 := hb.1.1
 (conv => whnf)
 refine lp Nat (fun i => ⟨[(0, .c (.bs 1 Int encI l)), (1, .c (.fn F [.bp [.bp [.bp [.bs 6 Ob encOb L], .bs 1 Bool encBo (o 0), .bs 1 Bool encBo (o 1), .bs 1 Bool encBo (o 2), .bs 1 Bool encBo (o 3), .bs 1 Int encI (b 0), .bs 1 Int encI (b 1), .bs 1 Int encI (b 2), .bs 1 Int encI (b 3)]], .bp [.int .i64 k]])), (7, .c (.int .i64 l.length)), (8, .c (.int .i64 i))], []⟩) (fun i => i ≤ l.length ∧ (l.take i).any p = false) (fun i => l.length - i) 0 [] [] ?_ ?_ (fun i hi => ?_)
 ·simp
 ·repeat' first | exact trivial | exact rfl | refine And.intro ?_ ?_
 (conv => whnf)
 refine dec (fun h4 => ?_) (fun h4 => ?_)
 ·have hlt : i < l.length := by omega
  repeat' ((conv => whnf); first | refine ⟨_, _, rfl, List.getElem?_eq_getElem (by omega), ?_⟩ | fail)
  (conv => whnf)
  refine cl [] [] (hF l[i]) ?_
  (conv => whnf)
  refine boo (fun h => ?_) (fun h => ?_)
  ·(conv => whnf)
   exact rtI (idxF_at hlt hi.2 h)
  ·repeat' ((conv => whnf); refine I6 ?_)
   refine ag (i + 1) [] [] ⟨hlt, any_take hlt hi.2 h⟩ (by simp only []; omega) ?_
   repeat' first | exact trivial | exact rfl | refine And.intro ?_ ?_
 ·repeat' ((conv => whnf); first | refine rtI ?_ | fail)
  have := hi.2
  rw [List.take_of_length_le (by omega)] at this
  exact idxF_none this
theorem containsD (F : Nat) (L : List Ob) (o : Nat → List Bool) (b : Nat → List Int) (k : Int) (p : Int → Bool) (hF : ∀ x, Does Tryz.prog F [.c (.int .i64 x), .c (.bp [.bp [.bp [.bs 6 Ob encOb L], .bs 1 Bool encBo (o 0), .bs 1 Bool encBo (o 1), .bs 1 Bool encBo (o 2), .bs 1 Bool encBo (o 3), .bs 1 Int encI (b 0), .bs 1 Int encI (b 1), .bs 1 Int encI (b 2), .bs 1 Int encI (b 3)]]), .c (.bp [.int .i64 k])] [] (Rt (.c (.bool (p x))) [])) (l : List Int) : Does Tryz.prog 106 [.c (.bs 1 Int encI l), .c (.fn F [.bp [.bp [.bp [.bs 6 Ob encOb L], .bs 1 Bool encBo (o 0), .bs 1 Bool encBo (o 1), .bs 1 Bool encBo (o 2), .bs 1 Bool encBo (o 3), .bs 1 Int encI (b 0), .bs 1 Int encI (b 1), .bs 1 Int encI (b 2), .bs 1 Int encI (b 3)]], .bp [.int .i64 k]])] [] (Rt (.c (.bool (l.any p))) []) := by
 refine X_spec (n := 9) (n0 := 0) tabOk Tryz.call106 Tryz.func106 ?_
 intro hb
 (conv => whnf)
 refine cl [] [] (indexD F L o b k p hF l) ?_
 (conv => whnf)
 exact rtB (idxF_any ..)
theorem hasD_spec (L : List Ob) (o : Nat → List Bool) (b : Nat → List Int) (hb4 : BorOk b) (r id : Int) : Does Tryz.prog 41 [.c (.bp [.bp [.bs 6 Ob encOb L], .bs 1 Bool encBo (o 0), .bs 1 Bool encBo (o 1), .bs 1 Bool encBo (o 2), .bs 1 Bool encBo (o 3), .bs 1 Int encI (b 0), .bs 1 Int encI (b 1), .bs 1 Int encI (b 2), .bs 1 Int encI (b 3)]), .c (.int .i64 r), .c (.int .i64 id)] [] (Rt (.c (.bool (hasP ⟨o, b⟩ r id))) []) := by
 have p1 := repo_spec r
 refine X_spec (n := 16) (n0 := 0) tabOk Tryz.call41 Tryz.func41 ?_
 intro hb
 cases hr : isR r with
 | false =>
  rw [hr] at p1
  (conv => whnf)
  refine cl [] [] (p1) ?_
  (conv => whnf)
  exact rtB (by unfold hasP; rw [hr]; rfl)
 | true =>
  rw [hr] at p1
  (conv => whnf)
  refine cl [] [] (p1) ?_
  (conv => whnf)
  refine cl [] [] (lenders_spec L o b hb4 r hr) ?_
  (conv => whnf)
  refine cl [] [] (containsD 108 L o b id (fun q => ownP o q id) (hasD1_spec L o b id) (lendP b r)) ?_
  (conv => whnf)
  exact rtB (by unfold hasP; rw [hr]; rfl)
end Go.Nest
end
