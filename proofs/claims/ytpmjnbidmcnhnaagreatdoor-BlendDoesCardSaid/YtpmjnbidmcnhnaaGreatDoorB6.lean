/- part -/
import Derived.Test.YtpmjnbidmcnhnaaGreatDoorB4
import Derived.Test.YtpmjnbidmcnhnaaGreatDoorLines4
import Derived.Test.YtpmjnbidmcnhnaaGreatDoorLinesMixed
set_option linter.unusedVariables false
set_option linter.unusedSimpArgs false
section

namespace Go.Nest
open Go Go.AM Go.Proofs
open Go.NB.L (linesOf merge go mix cut heldFrom pairs Ls)
open Go.Proofs.YtpmjnbidmcnhnaaGreatDoor (tab tabOk)
set_option maxRecDepth 4000
theorem linesOf_flat : ∀ b : List UInt8, (linesOf b).flatten = b
 | [] => rfl
 | x :: r => by
  have ih := linesOf_flat r
  unfold linesOf
  split
  ·rw [List.flatten_cons, ih, ‹x = 10›]; rfl
  ·split
   ·rename_i h; rw [h] at ih; rw [← ih]; rfl
   ·rename_i h; rw [h] at ih; rw [← ih]; simp
theorem flat_mem_le : ∀ {ls : List (List UInt8)} {x : List UInt8}, x ∈ ls → x.length ≤ ls.flatten.length
 | y :: r, x, h => by
  rw [List.flatten_cons, List.length_append]
  rcases List.mem_cons.1 h with rfl | h
  ·omega
  ·have := flat_mem_le h; omega
theorem flat_len_le {B : Nat} : ∀ {ls : List (List UInt8)}, (∀ x ∈ ls, x.length ≤ B) → ls.flatten.length ≤ ls.length * B
 | [], _ => by simp
 | y :: r, h => by
  rw [List.flatten_cons, List.length_append, List.length_cons, Nat.succ_mul]
  have h1 := h y (by simp)
  have h2 := flat_len_le (ls := r) fun x hx => h x (by simp [hx])
  omega
theorem cut_len (l : Ls) (i n : Nat) : (cut l i n).length ≤ l.length := by unfold cut; rw [List.length_drop, List.length_take]; omega
theorem cut_mem {l : Ls} {i n : Nat} {x : List UInt8} (h : x ∈ cut l i n) : x ∈ l := List.mem_of_mem_take (List.mem_of_mem_drop h)
theorem mix_of {old one two seg : Ls} (h : mix old one two = some seg) : seg = one ∨ seg = two := by
 unfold mix at h
 split at h
 ·exact .inr (Option.some.inj h).symm
 ·split at h
  ·exact .inl (Option.some.inj h).symm
  ·cases h
theorem go_bound {base a b : Ls} {N : Nat} (ha : a.length ≤ N) (hb : b.length ≤ N) : ∀ (hs : List (Nat × Nat × Nat)) (i j k : Nat) (l : Ls), go base a b hs i j k = some l → l.length ≤ (hs.length + 1) * (N + 1) ∧ ∀ x ∈ l, x ∈ base ∨ x ∈ a ∨ x ∈ b
 | [], i, j, k, l, h => by
  rcases mix_of h with rfl | rfl
  ·exact ⟨by have := cut_len a j a.length; simp only [List.length_nil]; omega, fun x hx => .inr (.inl (cut_mem hx))⟩
  ·exact ⟨by have := cut_len b k b.length; simp only [List.length_nil]; omega, fun x hx => .inr (.inr (cut_mem hx))⟩
 | (n, p, q) :: hs, i, j, k, l, h => by
  unfold go at h
  split at h
  ·cases h
  ·rename_i seg hm
   obtain ⟨r, hr, rfl⟩ := Option.map_eq_some_iff.1 h
   obtain ⟨h1, h2⟩ := go_bound ha hb hs _ _ _ r hr
   have hsl : seg.length ≤ N := by
    rcases mix_of hm with rfl | rfl
    ·have := cut_len a j p; omega
    ·have := cut_len b k q; omega
   have hol : (base[n]?.toList).length ≤ 1 := by cases base[n]? <;> simp
   refine ⟨?_, fun x hx => ?_⟩
   ·rw [List.length_append, List.length_append, List.length_cons, Nat.succ_mul]; omega
   ·rcases List.mem_append.1 hx with hx | hx
    ·rcases List.mem_append.1 hx with hx | hx
     ·rcases mix_of hm with rfl | rfl
      ·exact .inr (.inl (cut_mem hx))
      ·exact .inr (.inr (cut_mem hx))
     ·refine .inl ?_
      rw [Option.mem_toList] at hx
      exact List.mem_of_getElem? hx
    ·exact h2 x hx
theorem held_len (x y : List (Nat × Nat)) (len : Nat) : (heldFrom x y len 0).length ≤ len := by
 unfold heldFrom
 refine Nat.le_trans (List.length_filterMap_le _ _) ?_
 rw [List.length_range']; omega
theorem merge_bound {x y z : List UInt8} (hx : x.length ≤ 400) (hy : y.length ≤ 400) (hz : z.length ≤ 400) {l : Ls} (h : merge (linesOf x) (linesOf y) (linesOf z) = some l) : l.length ≤ 160801 ∧ l.flatten.length ≤ 64320400 := by
 have lx := Go.NB.L.linesOf_length x
 have ly := Go.NB.L.linesOf_length y
 have lz := Go.NB.L.linesOf_length z
 obtain ⟨h1, h2⟩ := go_bound (N := 400) (by omega) (by omega) _ _ _ _ _ h
 have h3 := held_len (pairs (linesOf x) (linesOf y) 0 0) (pairs (linesOf x) (linesOf z) 0 0) (linesOf x).length
 have h4 : l.length ≤ 401 * 401 := Nat.le_trans h1 (Nat.mul_le_mul (by omega) (Nat.le_refl _))
 have h5 : ∀ u ∈ l, u.length ≤ 400 := fun u hu => by
  rcases h2 u hu with h | h | h
  ·have := flat_mem_le h; rw [linesOf_flat] at this; omega
  ·have := flat_mem_le h; rw [linesOf_flat] at this; omega
  ·have := flat_mem_le h; rw [linesOf_flat] at this; omega
 have h6 := flat_len_le h5
 omega
theorem linesL_spec (b : List UInt8) (hn : b.length ≤ 1000000) : Does Tryz.prog 145 [.c (.ls 1 UInt8 bytesC b)] [] (Rt (.c (lsC (linesOf b))) []) :=
 Does.lines fun hb hM => Go.Proofs.YtpmjnbidmcnhnaaGreatDoor.lines hb hM hn
theorem mergeL_spec (x y z : Ls) (hx : x.length ≤ 1000) (hy : y.length ≤ 1000) (hz : z.length ≤ 1000) : Does Tryz.prog 144 [.c (lsC x), .c (lsC y), .c (lsC z)] [] (fun o ah => ah = [] ∧ ((∃ l, merge x y z = some l ∧ o = .ret (.tup [(false, [lsC l]), (false, [.bool true])])) ∨ (merge x y z = none ∧ o = .ret (.tup [(false, [lsC []]), (false, [.bool false])])))) :=
 Does.merge fun hs ha hb hM => Go.Proofs.YtpmjnbidmcnhnaaGreatDoor.merge hs ha hb hM hx hy hz |>.mono fun u H' h => by
  rcases h with ⟨v, l, h1, h2, h3, h4⟩ | h
  ·exact .inl ⟨v, l, h1, h2, h3, h4⟩
  ·exact .inr h
end Go.Nest
end
/- part -/
section

namespace Go.Nest
open Go Go.AM Go.Proofs
open Go.NB.L (linesOf merge)
open Go.Proofs.YtpmjnbidmcnhnaaGreatDoor (tab tabOk)
set_option maxRecDepth 4000
def mixT (L : List Ob) (base x y : Fi) : Option (List UInt8) :=
 if x.mode ≠ 1 ∨ y.mode ≠ 1 ∨ base.mode = 3 then none
 else (merge (linesOf (byP L base)) (linesOf (byP L x)) (linesOf (byP L y))).bind fun l => if 400 < l.flatten.length then none else some l.flatten
def obM (b : List UInt8) : Ob := ⟨1, b, [], 0, [], []⟩
def mixF (L : List Ob) (base x y : Fi) (p : List UInt8) : Fi × Bool := match mixT L base x y with
 | none => (fi0, false)
 | some b => (⟨p, 1, (putP L (obM b)).1, 0⟩, true)
def mixL (L : List Ob) (base x y : Fi) : List Ob := match mixT L base x y with
 | none => L
 | some b => (putP L (obM b)).2.2
def mixC (L : List Ob) (code : Int) (base x y : Fi) : Int := match mixT L base x y with
 | none => code
 | some b => if (putP L (obM b)).2.1 ≠ 0 ∧ code = 0 then (putP L (obM b)).2.1 else code
theorem byP_len {L : List Ob} (hL : PoolOk L) (f : Fi) : (byP L f).length ≤ 400 := by
 unfold byP
 split
 ·simp
 ·by_cases h : kindOf L f.id = 0
  ·rw [hL.kind0 h]; show 0 ≤ 400; omega
  ·have := (hL.get h).bytes; omega
theorem mix_no {L : List Ob} {base x y : Fi} {p : List UInt8} {code : Int} (e : mixT L base x y = none) : mixF L base x y p = (fi0, false) ∧ mixL L base x y = L ∧ mixC L code base x y = code := by
 unfold mixF mixL mixC
 rw [e]
 exact ⟨rfl, rfl, rfl⟩
theorem mix_yes {L : List Ob} {base x y : Fi} {p b : List UInt8} {code : Int} (e : mixT L base x y = some b) : mixF L base x y p = (⟨p, 1, (putP L (obM b)).1, 0⟩, true) ∧ mixL L base x y = (putP L (obM b)).2.2 ∧ mixC L code base x y = if (putP L (obM b)).2.1 ≠ 0 ∧ code = 0 then (putP L (obM b)).2.1 else code := by
 unfold mixF mixL mixC
 rw [e]
 exact ⟨rfl, rfl, rfl⟩
theorem mixed_spec (L : List Ob) (hL : PoolOk L) (hn : L.length ≤ 600) (out : List Fi) (cf : List (List UInt8)) (code : Int) (base x y : Fi) (p : List UInt8) (hp : p.length ≤ 4000000) :
  Does Tryz.prog 124 [.c (.ptr 0 0), .c (.str p), .st (encFi base), .st (encFi x), .st (encFi y)] [.box [.ptr 1 0, .rw 3, .rw 4, .int .i64 code], .box [.rw 2], .row 6 Ob encOb L, .row 4 Fi encFi out, .row 1 (List UInt8) encS cf] (Rt (.tup [(true, encFi (mixF L base x y p).1), (false, [.bool (mixF L base x y p).2])]) [.box [.ptr 1 0, .rw 6, .rw 7, .int .i64 (mixC L code base x y)], .box [.rw 5], .dead, .dead, .dead, .row 6 Ob encOb (mixL L base x y), .row 4 Fi encFi out, .row 1 (List UInt8) encS cf]) := by
 refine X_spec (n := 83) (n0 := 5) tabOk Tryz.call124 Tryz.func124 ?_
 intro hb
 (conv => whnf)
 refine decN (fun h1 => ?_) (fun h1 => ?_)
 ·(conv => whnf)
  obtain ⟨e1, e2, e3⟩ := mix_no (L := L) (base := base) (x := x) (y := y) (p := p) (code := code) (if_pos (.inl h1))
  rw [e1, e2, e3]
  (conv => whnf)
  exact rx [] [.same 0, .same 1, .same 2, .same 3, .same 4, .same 2, .same 3, .same 4]
 (conv => whnf)
 refine decN (fun h2 => ?_) (fun h2 => ?_)
 ·(conv => whnf)
  obtain ⟨e1, e2, e3⟩ := mix_no (L := L) (base := base) (x := x) (y := y) (p := p) (code := code) (if_pos (.inr (.inl h2)))
  rw [e1, e2, e3]
  (conv => whnf)
  exact rx [] [.same 0, .same 1, .same 2, .same 3, .same 4, .same 2, .same 3, .same 4]
 (conv => whnf)
 refine dec (fun h3 => ?_) (fun h3 => ?_)
 ·(conv => whnf)
  obtain ⟨e1, e2, e3⟩ := mix_no (L := L) (base := base) (x := x) (y := y) (p := p) (code := code) (if_pos (.inr (.inr h3)))
  rw [e1, e2, e3]
  (conv => whnf)
  exact rx [] [.same 0, .same 1, .same 2, .same 3, .same 4, .same 2, .same 3, .same 4]
 have e0 : mixT L base x y = _ := if_neg (fun h => h.elim (fun h => h h1) (fun h => h.elim (fun h => h h2) h3))
 have b1 := byP_len hL base
 have b2 := byP_len hL x
 have b3 := byP_len hL y
 have p1 := bytesB_spec L hL out cf code base
 have p2 := bytesB_spec L hL out cf code x
 have p3 := bytesB_spec L hL out cf code y
 generalize byP L base = tb at *
 generalize byP L x = tx at *
 generalize byP L y = ty at *
 have q1 := linesL_spec tb (by omega)
 have q2 := linesL_spec tx (by omega)
 have q3 := linesL_spec ty (by omega)
 have lx := Go.NB.L.linesOf_length tb
 have ly := Go.NB.L.linesOf_length tx
 have lz := Go.NB.L.linesOf_length ty
 have mb := fun l => merge_bound (l := l) b1 b2 b3
 have q4 := mergeL_spec (linesOf tb) (linesOf tx) (linesOf ty) (by omega) (by omega) (by omega)
 (conv => whnf)
 refine ⟨false, .grow, (.l [0, 1, 4, 5, 8, 9, 2, 3, 6, 7, 10, 11, 12, 13, 14, 15, 16, 17]), by kernel_rfl, .inl ?_⟩
 (conv => whnf)
 refine cl [] [] (p1) ?_
 (conv => whnf)
 refine cl [] [] (q1) ?_
 (conv => whnf)
 refine cl [] [] (p2) ?_
 (conv => whnf)
 refine cl [] [] (q2) ?_
 (conv => whnf)
 refine cl [] [] (p3) ?_
 (conv => whnf)
 refine cl [] [] (q3) ?_
 (conv => whnf)
 cases hm : merge (linesOf tb) (linesOf tx) (linesOf ty) with
 | none =>
  have q5 : Does Tryz.prog 144 [.c (lsC (linesOf tb)), .c (lsC (linesOf tx)), .c (lsC (linesOf ty))] [] (Rt (.tup [(false, [lsC []]), (false, [.bool false])]) []) := q4.mono fun o ah ⟨a1, a2⟩ => by
   rw [hm] at a2
   rcases a2 with ⟨l, a3, a4⟩ | ⟨a3, a4⟩
   ·cases a3
   ·exact ⟨a4, a1⟩
  rw [hm] at e0
  have q6 := bytesJoin_spec [] (by simp) (by simp)
  refine cl [] [] (q5) ?_
  (conv => whnf)
  refine cl [] [] (q6) ?_
  (conv => whnf)
  obtain ⟨e1, e2, e3⟩ := mix_no (L := L) (base := base) (x := x) (y := y) (p := p) (code := code) (e0)
  rw [e1, e2, e3]
  (conv => whnf)
  exact rx [] [.same 0, .same 1, .same 2, .same 3, .same 4, .same 2, .same 3, .same 4]
 | some l =>
  have q5 : Does Tryz.prog 144 [.c (lsC (linesOf tb)), .c (lsC (linesOf tx)), .c (lsC (linesOf ty))] [] (Rt (.tup [(false, [lsC l]), (false, [.bool true])]) []) := q4.mono fun o ah ⟨a1, a2⟩ => by
   rw [hm] at a2
   rcases a2 with ⟨l', a3, a4⟩ | ⟨a3, a4⟩
   ·cases a3; exact ⟨a4, a1⟩
   ·cases a3
  obtain ⟨n1, n2⟩ := mb l hm
  rw [hm] at e0
  have q6 := bytesJoin_spec l (by omega) (by omega)
  have e0 : mixT L base x y = if 400 < l.flatten.length then none else some l.flatten := e0
  generalize l.flatten = al at *
  refine cl [] [] (q5) ?_
  (conv => whnf)
  refine cl [] [] (q6) ?_
  (conv => whnf)
  refine dec (fun h4 => ?_) (fun h4 => ?_)
  ·have h4 : (400 : Int) < al.length := h4
   (conv => whnf)
   obtain ⟨e1, e2, e3⟩ := mix_no (L := L) (base := base) (x := x) (y := y) (p := p) (code := code) (e0.trans (if_pos (by omega)))
   rw [e1, e2, e3]
   (conv => whnf)
   exact rx [] [.same 0, .same 1, .same 2, .same 3, .same 4, .same 2, .same 3, .same 4]
  have h4 : ¬ (400 : Int) < al.length := h4
  obtain ⟨e1, e2, e3⟩ := mix_yes (L := L) (base := base) (x := x) (y := y) (p := p) (code := code) (e0.trans (if_neg (by omega)))
  rw [e1, e2, e3]
  have p5 := put_spec L (obM al) hn
  generalize putP L (obM al) = R at *
  obtain ⟨id, c, L2⟩ := R
  dsimp only at p5 ⊢
  (conv => whnf)
  refine cl [] [1, 2] (p5) ?_
  (conv => whnf)
  refine decN (fun h5 => ?_) (fun h5 => ?_)
  ·(conv => whnf)
   refine dec (fun h6 => ?_) (fun h6 => ?_)
   ·rw [if_pos ⟨h5, h6⟩]
    (conv => whnf)
    exact rx [] [.same 0, .same 1, .same 2, .same 3, .same 4, .same 9, .same 3, .same 4]
   ·rw [if_neg (fun h => h6 h.2)]
    (conv => whnf)
    exact rx [] [.same 0, .same 1, .same 2, .same 3, .same 4, .same 9, .same 3, .same 4]
  ·rw [if_neg (fun h => h.1 h5)]
   (conv => whnf)
   exact rx [] [.same 0, .same 1, .same 2, .same 3, .same 4, .same 9, .same 3, .same 4]
end Go.Nest
end
