/- part -/
import Derived.Test.YtpechfcbnoggfaaGreatDoorE0
import Derived.Test.YtpechfcbnoggfaaGreatDoorL0
import Derived.Test.YtpechfcbnoggfaaGreatDoorG9
set_option linter.unusedVariables false
set_option linter.unusedSimpArgs false
section

namespace Go.Nest
open Go Go.AM Go.Proofs
open Go.Proofs.YtpechfcbnoggfaaGreatDoor (tab tabOk)
set_option maxRecDepth 4000
set_option maxHeartbeats 2000000 in
theorem mean_spec (s : List UInt8) (hs : s.length ≤ 4000000) : Does Tryz.prog 15 [.c (.str s)] [] (Rt (.tup [(false, [.rw 0]), (false, [.bool (meanT s).isSome])]) [.row 1 UInt8 bytesC ((meanT s).getD [])]) := by
 refine X_spec (n := 53) (n0 := 0) tabOk Tryz.call15 Tryz.func15 ?_
 intro hb
 (conv => whnf)
 refine lp (Nat × List UInt8) (fun p => ⟨[(0, .c (.str s)), (4, .c (.rw 0)), (5, .c (.int .i64 p.1))], [.row 1 UInt8 bytesC p.2]⟩) (fun p => p.1 ≤ s.length ∧ p.2.length ≤ p.1 ∧ meanT s = (meanT (s.drop p.1)).map (p.2 ++ ·)) (fun p => s.length - p.1) (0, []) [] [.new] ⟨Nat.zero_le _, Nat.zero_le _, by simp⟩ ?_ (fun p hp => ?_)
 ·repeat' first | exact trivial | exact rfl | refine And.intro ?_ ?_
 obtain ⟨i, out⟩ := p
 obtain ⟨hi, ho, hm⟩ := hp
 dsimp only at hi ho hm
 (conv => whnf)
 refine dec (fun h1 => ?_) (fun h1 => ?_)
 ·have hlt : i < s.length := by have h1 : (i : Int) < s.length := h1; omega
  (conv => whnf)
  refine ⟨_, _, rfl, List.getElem?_eq_getElem hlt, ?_⟩
  have hpl := mean_plain hlt
  have hes := fun h => mean_esc (s := s) (i := i) h
  have hen := mean_end hlt
  have hsi : s[i]? = some s[i] := List.getElem?_eq_getElem hlt
  generalize hx : s[i] = c at hpl hen hsi
  (conv => whnf)
  refine decN (fun h2 => ?_) (fun h2 => ?_)
  ·have h2 : ¬ (c.toNat : Int) = 92 := h2
   have hne : c ≠ 92 := fun e => h2 (by rw [e]; rfl)
   rw [hpl hne] at hm
   (conv => whnf)
   refine ⟨_, _, rfl, hsi, ?_⟩
   (conv => whnf)
   refine ⟨[c], rfl, ?_⟩
   (conv => whnf)
   refine ⟨_, _, rfl, rfl, (by simp only [List.length_append, List.length_cons, List.length_nil]; omega), ?_⟩
   (conv => whnf)
   refine ⟨i64 (by simp only []; omega) (by simp only []; omega), ?_⟩
   (conv => whnf)
   refine ag (i + 1, out ++ [c]) [] [.same 2] ⟨hlt, by simp; omega, by rw [hm]; simp [Function.comp_def]⟩ (by simp only []; omega) ?_
   repeat' first | exact trivial | exact rfl | refine And.intro ?_ ?_
  have h2 : (c.toNat : Int) = 92 := h2
  have hce : c = 92 := UInt8.toNat_inj.1 (by show c.toNat = 92; omega)
  (conv => whnf)
  refine ⟨i64 (by simp only []; omega) (by simp only []; omega), ?_⟩
  (conv => whnf)
  refine dec (fun h3 => ?_) (fun h3 => ?_)
  ·have h3 : ((i : Int) + 1) < s.length := h3
   have h3' : i + 1 < s.length := by omega
   have hes := hes h3' (hx.trans hce)
   have hsd : s[i + 1]? = some s[i + 1] := List.getElem?_eq_getElem h3'
   generalize s[i + 1] = d at *
   (conv => whnf)
   refine ⟨i + 1, d, rfl, hsd, ?_⟩
   (conv => whnf)
   refine dec (fun h4 => ?_) (fun h4 => ?_)
   ·have h4 : (d.toNat : Int) = 110 := h4
    have hd : d = 110 := UInt8.toNat_inj.1 (by show d.toNat = 110; omega)
    rw [hes, if_pos hd] at hm
    (conv => whnf)
    refine ⟨[10], rfl, ?_⟩
    (conv => whnf)
    refine ⟨_, _, rfl, rfl, (by simp only [List.length_append, List.length_cons, List.length_nil]; omega), ?_⟩
    (conv => whnf)
    refine ⟨i64 (by simp only []; omega) (by simp only []; omega), ?_⟩
    (conv => whnf)
    refine ag (i + 2, out ++ [10]) [] [.same 2] ⟨h3', by simp; omega, by rw [hm]; simp [Function.comp_def]⟩ (by simp only []; omega) ?_
    repeat' first | exact trivial | exact rfl | refine And.intro ?_ ?_
   have h4 : ¬ (d.toNat : Int) = 110 := h4
   have hd : ¬ d = 110 := fun e => h4 (by rw [e]; rfl)
   rw [if_neg hd] at hes
   (conv => whnf)
   refine dec (fun _ => ?_) (fun h => absurd h3 h)
   (conv => whnf)
   refine ⟨i + 1, d, rfl, hsd, ?_⟩
   (conv => whnf)
   refine dec (fun h5 => ?_) (fun h5 => ?_)
   ·have h5 : (d.toNat : Int) = 92 := h5
    have hd : d = 92 := UInt8.toNat_inj.1 (by show d.toNat = 92; omega)
    rw [hes, if_pos hd] at hm
    (conv => whnf)
    refine ⟨[92], rfl, ?_⟩
    (conv => whnf)
    refine ⟨_, _, rfl, rfl, (by simp only [List.length_append, List.length_cons, List.length_nil]; omega), ?_⟩
    (conv => whnf)
    refine ⟨i64 (by simp only []; omega) (by simp only []; omega), ?_⟩
    (conv => whnf)
    refine ag (i + 2, out ++ [92]) [] [.same 2] ⟨h3', by simp; omega, by rw [hm]; simp [Function.comp_def]⟩ (by simp only []; omega) ?_
    repeat' first | exact trivial | exact rfl | refine And.intro ?_ ?_
   ·have h5 : ¬ (d.toNat : Int) = 92 := h5
    have hd : ¬ d = 92 := fun e => h5 (by rw [e]; rfl)
    rw [hes, if_neg hd] at hm
    rw [hm]
    (conv => whnf)
    exact rx [] [.new]
  ·have h3 : ¬ ((i : Int) + 1) < s.length := h3
   rw [hen hce (by omega)] at hm
   rw [hm]
   (conv => whnf)
   refine dec (fun h => absurd h h3) (fun _ => ?_)
   (conv => whnf)
   exact rx [] [.new]
 obtain rfl : i = s.length := by have h1 : ¬ (i : Int) < s.length := h1; omega
 rw [List.drop_length] at hm
 have hm : meanT s = some out := by rw [hm]; show some (out ++ []) = _; rw [List.append_nil]
 rw [hm]
 (conv => whnf)
 exact rx [] [.same 0]
set_option maxHeartbeats 2000000 in
theorem meant_spec (s : List UInt8) (hs : s.length ≤ 4000000) : Does Tryz.prog 16 [.c (.str s)] [] (Rt (.tup [(false, [.rw 0]), (false, [.bool (meanT s).isSome])]) [.row 1 UInt8 bytesC ((meanT s).getD [])]) := by
 refine X_spec (n := 51) (n0 := 0) tabOk Tryz.call16 Tryz.func16 ?_
 intro hb
 (conv => whnf)
 refine lp (Nat × List UInt8) (fun p => ⟨[(0, .c (.str s)), (4, .c (.rw 0)), (5, .c (.int .i64 p.1))], [.row 1 UInt8 bytesC p.2]⟩) (fun p => p.1 ≤ s.length ∧ p.2.length ≤ p.1 ∧ meanT s = (meanT (s.drop p.1)).map (p.2 ++ ·)) (fun p => s.length - p.1) (0, []) [] [.new] ⟨Nat.zero_le _, Nat.zero_le _, by simp⟩ ?_ (fun p hp => ?_)
 ·repeat' first | exact trivial | exact rfl | refine And.intro ?_ ?_
 obtain ⟨i, out⟩ := p
 obtain ⟨hi, ho, hm⟩ := hp
 dsimp only at hi ho hm
 (conv => whnf)
 refine dec (fun h1 => ?_) (fun h1 => ?_)
 ·have hlt : i < s.length := by have h1 : (i : Int) < s.length := h1; omega
  (conv => whnf)
  refine ⟨_, _, rfl, List.getElem?_eq_getElem hlt, ?_⟩
  have hpl := mean_plain hlt
  have hes := fun h => mean_esc (s := s) (i := i) h
  have hen := mean_end hlt
  have hsi : s[i]? = some s[i] := List.getElem?_eq_getElem hlt
  generalize hx : s[i] = c at hpl hen hsi
  (conv => whnf)
  refine decN (fun h2 => ?_) (fun h2 => ?_)
  ·have h2 : ¬ (c.toNat : Int) = 92 := h2
   have hne : c ≠ 92 := fun e => h2 (by rw [e]; rfl)
   rw [hpl hne] at hm
   (conv => whnf)
   refine ⟨_, _, rfl, hsi, ?_⟩
   (conv => whnf)
   refine ⟨[c], rfl, ?_⟩
   (conv => whnf)
   refine ⟨_, _, rfl, rfl, (by simp only [List.length_append, List.length_cons, List.length_nil]; omega), ?_⟩
   (conv => whnf)
   refine ⟨i64 (by simp only []; omega) (by simp only []; omega), ?_⟩
   (conv => whnf)
   refine ag (i + 1, out ++ [c]) [] [.same 2] ⟨hlt, by simp; omega, by rw [hm]; simp [Function.comp_def]⟩ (by simp only []; omega) ?_
   repeat' first | exact trivial | exact rfl | refine And.intro ?_ ?_
  have h2 : (c.toNat : Int) = 92 := h2
  have hce : c = 92 := UInt8.toNat_inj.1 (by show c.toNat = 92; omega)
  (conv => whnf)
  refine ⟨i64 (by simp only []; omega) (by simp only []; omega), ?_⟩
  (conv => whnf)
  refine dec (fun h3 => ?_) (fun h3 => ?_)
  ·have h3 : ((i : Int) + 1) = s.length := h3
   rw [hen hce (by omega)] at hm
   rw [hm]
   (conv => whnf)
   exact rx [] [.new]
  have h3 : ¬ ((i : Int) + 1) = s.length := h3
  have h3' : i + 1 < s.length := by omega
  have hes := hes h3' (hx.trans hce)
  have hsd : s[i + 1]? = some s[i + 1] := List.getElem?_eq_getElem h3'
  generalize s[i + 1] = d at *
  (conv => whnf)
  refine ⟨i + 1, d, rfl, hsd, ?_⟩
  (conv => whnf)
  refine decN (fun h4 => ?_) (fun h4 => ?_)
  ·have h4 : ¬ (d.toNat : Int) = 110 := h4
   have hd : ¬ d = 110 := fun e => h4 (by rw [e]; rfl)
   rw [if_neg hd] at hes
   (conv => whnf)
   refine ⟨i + 1, d, rfl, hsd, ?_⟩
   (conv => whnf)
   refine decN (fun h5 => ?_) (fun h5 => ?_)
   ·have h5 : ¬ (d.toNat : Int) = 92 := h5
    have hd : ¬ d = 92 := fun e => h5 (by rw [e]; rfl)
    rw [hes, if_neg hd] at hm
    rw [hm]
    (conv => whnf)
    exact rx [] [.new]
   ·have h5 : (d.toNat : Int) = 92 := h5
    have hd : d = 92 := UInt8.toNat_inj.1 (by show d.toNat = 92; omega)
    rw [hes, if_pos hd] at hm
    (conv => whnf)
    refine ⟨i + 1, d, rfl, hsd, ?_⟩
    (conv => whnf)
    refine dec (fun h => absurd h h4) (fun _ => ?_)
    (conv => whnf)
    refine ⟨[92], rfl, ?_⟩
    (conv => whnf)
    refine ⟨_, _, rfl, rfl, (by simp only [List.length_append, List.length_cons, List.length_nil]; omega), ?_⟩
    (conv => whnf)
    refine ⟨i64 (by simp only []; omega) (by simp only []; omega), ?_⟩
    (conv => whnf)
    refine ag (i + 2, out ++ [92]) [] [.same 2] ⟨h3', by simp; omega, by rw [hm]; simp [Function.comp_def]⟩ (by simp only []; omega) ?_
    repeat' first | exact trivial | exact rfl | refine And.intro ?_ ?_
  ·have h4 : (d.toNat : Int) = 110 := h4
   have hd : d = 110 := UInt8.toNat_inj.1 (by show d.toNat = 110; omega)
   rw [hes, if_pos hd] at hm
   (conv => whnf)
   refine ⟨i + 1, d, rfl, hsd, ?_⟩
   (conv => whnf)
   refine dec (fun _ => ?_) (fun h => absurd h4 h)
   (conv => whnf)
   refine ⟨[10], rfl, ?_⟩
   (conv => whnf)
   refine ⟨_, _, rfl, rfl, (by simp only [List.length_append, List.length_cons, List.length_nil]; omega), ?_⟩
   (conv => whnf)
   refine ⟨i64 (by simp only []; omega) (by simp only []; omega), ?_⟩
   (conv => whnf)
   refine ag (i + 2, out ++ [10]) [] [.same 2] ⟨h3', by simp; omega, by rw [hm]; simp [Function.comp_def]⟩ (by simp only []; omega) ?_
   repeat' first | exact trivial | exact rfl | refine And.intro ?_ ?_
 obtain rfl : i = s.length := by have h1 : ¬ (i : Int) < s.length := h1; omega
 rw [List.drop_length] at hm
 have hm : meanT s = some out := by rw [hm]; show some (out ++ []) = _; rw [List.append_nil]
 rw [hm]
 (conv => whnf)
 exact rx [] [.same 0]
theorem hexI : ∀ n : Fin 16, ([48, 49, 50, 51, 52, 53, 54, 55, 56, 57, 97, 98, 99, 100, 101, 102] : List UInt8)[n.val]? = some (hexB n.val) := by decide
theorem hex_at {n : Nat} (h : n < 16) : ([48, 49, 50, 51, 52, 53, 54, 55, 56, 57, 97, 98, 99, 100, 101, 102] : List UInt8)[n]? = some (hexB n) := hexI ⟨n, h⟩
theorem hi4 (c : UInt8) : (c.toNat : Int).fdiv (2 ^ min (Int.toNat 4) IntKind.u8.bits) = ((c.toNat / 16 : Nat) : Int) := by
 show (c.toNat : Int).fdiv 16 = _
 rw [Int.fdiv_eq_ediv_of_nonneg _ (by decide)]; omega
theorem lo4F : ∀ n : Fin 256, IntKind.u8.wrap (BitVec.ofInt IntKind.u8.bits (n.val : Int) &&& BitVec.ofInt IntKind.u8.bits 15).toNat = ((n.val % 16 : Nat) : Int) := by decide +kernel
theorem lo4 (c : UInt8) : IntKind.u8.wrap (BitVec.ofInt IntKind.u8.bits (c.toNat : Int) &&& BitVec.ofInt IntKind.u8.bits 15).toNat = ((c.toNat % 16 : Nat) : Int) := lo4F ⟨c.toNat, c.toNat_lt⟩
set_option maxHeartbeats 2000000 in
theorem show_spec (l : List UInt8) (hl : l.length ≤ 4000000) : Does Tryz.prog 14 [.c (.bs 1 UInt8 bytesC l)] [] (Rt (.c (.str (showT l))) []) := by
 refine X_spec (n := 47) (n0 := 0) tabOk Tryz.call14 Tryz.func14 ?_
 intro hb
 (conv => whnf)
 refine lp Nat (fun i => ⟨[(0, .c (.bs 1 UInt8 bytesC l)), (3, .c (.rw 0)), (6, .c (.bs 1 UInt8 bytesC l)), (7, .c (.int .i64 l.length)), (8, .c (.int .i64 i))], [.row 1 UInt8 bytesC (showT (l.take i))]⟩) (fun i => i ≤ l.length ∧ True) (fun i => l.length - i) 0 [] [.new] ⟨Nat.zero_le _, trivial⟩ ?_ (fun i hi => ?_)
 ·repeat' first | exact trivial | exact rfl | refine And.intro ?_ ?_
 obtain ⟨hi, -⟩ := hi
 have hsl := show_len (l.take i)
 rw [List.length_take, Nat.min_eq_left hi] at hsl
 (conv => whnf)
 refine dec (fun h1 => ?_) (fun h1 => ?_)
 ·have hlt : i < l.length := by have h1 : (i : Int) < l.length := h1; omega
  have hsi : l[i]? = some l[i] := List.getElem?_eq_getElem hlt
  have hst := show_succ hlt
  generalize l[i] = c at *
  (conv => whnf)
  refine ⟨i, c, rfl, hsi, ?_⟩
  unfold showB at hst
  generalize showT (l.take i) = out at *
  (conv => whnf)
  refine dec (fun h2 => ?_) (fun h2 => ?_)
  ·have h2 : (c.toNat : Int) = 10 := h2
   rw [if_pos (UInt8.toNat_inj.1 (by show c.toNat = 10; omega))] at hst
   (conv => whnf)
   refine ⟨_, _, rfl, rfl, (by simp only [List.length_append, List.length_cons, List.length_nil]; omega), ?_⟩
   (conv => whnf)
   refine ⟨i64 (by omega) (by omega), ?_⟩
   (conv => whnf)
   refine ag (i + 1) [] [.same 1] ⟨hlt, trivial⟩ (by simp only []; omega) ?_
   rw [hst]
   repeat' first | exact trivial | exact rfl | refine And.intro ?_ ?_
  have h2 : ¬ (c.toNat : Int) = 10 := h2
  rw [if_neg (fun e => h2 (by rw [e]; rfl))] at hst
  (conv => whnf)
  refine dec (fun h3 => ?_) (fun h3 => ?_)
  ·have h3 : (c.toNat : Int) = 92 := h3
   rw [if_pos (UInt8.toNat_inj.1 (by show c.toNat = 92; omega))] at hst
   (conv => whnf)
   refine ⟨_, _, rfl, rfl, (by simp only [List.length_append, List.length_cons, List.length_nil]; omega), ?_⟩
   (conv => whnf)
   refine ⟨i64 (by omega) (by omega), ?_⟩
   (conv => whnf)
   refine ag (i + 1) [] [.same 1] ⟨hlt, trivial⟩ (by simp only []; omega) ?_
   rw [hst]
   repeat' first | exact trivial | exact rfl | refine And.intro ?_ ?_
  have h3 : ¬ (c.toNat : Int) = 92 := h3
  rw [if_neg (fun e => h3 (by rw [e]; rfl))] at hst
  (conv => whnf)
  refine dec (fun h4 => ?_) (fun h4 => ?_)
  ·have h4 : (c.toNat : Int) < 32 := h4
   rw [if_pos (.inl (by omega))] at hst
   (conv => whnf)
   refine ⟨_, _, rfl, rfl, (by simp only [List.length_append, List.length_cons, List.length_nil]; omega), ?_⟩
   (conv => whnf)
   refine ⟨false, .grow, (.l [0, 1, 2, 3, 4, 5, 6, 7, 8, 9]), by kernel_rfl, .inl ?_⟩
   (conv => whnf)
   refine ⟨by decide, ?_⟩
   (conv => whnf)
   refine ⟨c.toNat / 16, _, hi4 c, hex_at (by have := c.toNat_lt; omega), ?_⟩
   (conv => whnf)
   refine ⟨c.toNat % 16, _, lo4 c, hex_at (by omega), ?_⟩
   (conv => whnf)
   refine ⟨[hexB (c.toNat / 16), hexB (c.toNat % 16)], rfl, ?_⟩
   (conv => whnf)
   refine ⟨_, _, rfl, rfl, (by simp only [List.length_append, List.length_cons, List.length_nil]; omega), ?_⟩
   (conv => whnf)
   refine ⟨i64 (by omega) (by omega), ?_⟩
   (conv => whnf)
   refine ag (i + 1) [] [.same 3] ⟨hlt, trivial⟩ (by simp only []; omega) ?_
   rw [hst, show out ++ [92, 120, hexB (c.toNat / 16), hexB (c.toNat % 16)] = (out ++ [92, 120]) ++ [hexB (c.toNat / 16), hexB (c.toNat % 16)] by simp]
   repeat' first | exact trivial | exact rfl | refine And.intro ?_ ?_
  have h4 : ¬ (c.toNat : Int) < 32 := h4
  (conv => whnf)
  refine dec (fun h5 => ?_) (fun h5 => ?_)
  ·have h5 : (126 : Int) < c.toNat := h5
   rw [if_pos (.inr (by omega))] at hst
   (conv => whnf)
   refine ⟨_, _, rfl, rfl, (by simp only [List.length_append, List.length_cons, List.length_nil]; omega), ?_⟩
   (conv => whnf)
   refine ⟨false, .grow, (.l [0, 1, 2, 3, 4, 5, 6, 7, 8, 9]), by kernel_rfl, .inl ?_⟩
   (conv => whnf)
   refine ⟨by decide, ?_⟩
   (conv => whnf)
   refine ⟨c.toNat / 16, _, hi4 c, hex_at (by have := c.toNat_lt; omega), ?_⟩
   (conv => whnf)
   refine ⟨c.toNat % 16, _, lo4 c, hex_at (by omega), ?_⟩
   (conv => whnf)
   refine ⟨[hexB (c.toNat / 16), hexB (c.toNat % 16)], rfl, ?_⟩
   (conv => whnf)
   refine ⟨_, _, rfl, rfl, (by simp only [List.length_append, List.length_cons, List.length_nil]; omega), ?_⟩
   (conv => whnf)
   refine ⟨i64 (by omega) (by omega), ?_⟩
   (conv => whnf)
   refine ag (i + 1) [] [.same 3] ⟨hlt, trivial⟩ (by simp only []; omega) ?_
   rw [hst, show out ++ [92, 120, hexB (c.toNat / 16), hexB (c.toNat % 16)] = (out ++ [92, 120]) ++ [hexB (c.toNat / 16), hexB (c.toNat % 16)] by simp]
   repeat' first | exact trivial | exact rfl | refine And.intro ?_ ?_
  have h5 : ¬ (126 : Int) < c.toNat := h5
  rw [if_neg (by omega)] at hst
  (conv => whnf)
  refine ⟨[c], rfl, ?_⟩
  (conv => whnf)
  refine ⟨_, _, rfl, rfl, (by simp only [List.length_append, List.length_cons, List.length_nil]; omega), ?_⟩
  (conv => whnf)
  refine ⟨i64 (by omega) (by omega), ?_⟩
  (conv => whnf)
  refine ag (i + 1) [] [.same 2] ⟨hlt, trivial⟩ (by simp only []; omega) ?_
  rw [hst]
  repeat' first | exact trivial | exact rfl | refine And.intro ?_ ?_
 obtain rfl : i = l.length := by have h1 : ¬ (i : Int) < l.length := h1; omega
 rw [List.take_length]
 (conv => whnf)
 refine ⟨_, rfl, ?_⟩
 (conv => whnf)
 exact rx [] []
theorem q1F : ∀ n : Fin 256, IntKind.u8.wrap ((n.val : Int).tdiv 16) = ((n.val / 16 : Nat) : Int) := by decide +kernel
theorem q2F : ∀ n : Fin 256, IntKind.u8.wrap (IntKind.u8.wrap ((n.val : Int).tdiv 16) + 1) = ((n.val / 16 + 1 : Nat) : Int) := by decide +kernel
theorem m1F : ∀ n : Fin 256, (n.val : Int).tmod 16 = ((n.val % 16 : Nat) : Int) := by decide +kernel
theorem m2F : ∀ n : Fin 256, IntKind.u8.wrap ((n.val : Int).tmod 16 + 1) = ((n.val % 16 + 1 : Nat) : Int) := by decide +kernel
def hexL : List UInt8 := [48, 49, 50, 51, 52, 53, 54, 55, 56, 57, 97, 98, 99, 100, 101, 102]
theorem cutF : ∀ n : Fin 16, (hexL.take (n.val + 1)).drop n.val = [hexB n.val] := by decide
theorem cut_at {n : Nat} (h : n < 16) : (hexL.take (n + 1)).drop n = [hexB n] := cutF ⟨n, h⟩
set_option maxHeartbeats 2000000 in
theorem shown_spec (l : List UInt8) (hl : l.length ≤ 4000000) : Does Tryz.prog 17 [.c (.bs 1 UInt8 bytesC l)] [] (Rt (.c (.str (showT l))) []) := by
 refine X_spec (n := 80) (n0 := 0) tabOk Tryz.call17 Tryz.func17 ?_
 intro hb
 (conv => whnf)
 refine lp Nat (fun i => ⟨[(0, .c (.bs 1 UInt8 bytesC l)), (3, .c (.str (showT (l.take i)))), (4, .c (.int .i64 i))], []⟩) (fun i => i ≤ l.length ∧ True) (fun i => l.length - i) 0 [] [] ⟨Nat.zero_le _, trivial⟩ ?_ (fun i hi => ?_)
 ·repeat' first | exact trivial | exact rfl | refine And.intro ?_ ?_
 obtain ⟨hi, -⟩ := hi
 have hsl := show_len (l.take i)
 rw [List.length_take, Nat.min_eq_left hi] at hsl
 (conv => whnf)
 refine dec (fun h1 => ?_) (fun h1 => ?_)
 ·have hlt : i < l.length := by have h1 : (i : Int) < l.length := h1; omega
  have hsi : l[i]? = some l[i] := List.getElem?_eq_getElem hlt
  have hst := show_succ hlt
  have hcut : (l.drop i).take 1 = [l[i]] := by rw [List.drop_eq_getElem_cons hlt]; rfl
  generalize l[i] = c at *
  (conv => whnf)
  refine ⟨i, c, rfl, hsi, ?_⟩
  (conv => whnf)
  unfold showB at hst
  generalize showT (l.take i) = out at *
  refine dec (fun h2 => ?_) (fun h2 => ?_)
  ·have h2 : (c.toNat : Int) = 10 := h2
   rw [if_pos (UInt8.toNat_inj.1 (by show c.toNat = 10; omega))] at hst
   (conv => whnf)
   refine ⟨by simp only [List.length_append, List.length_cons, List.length_nil]; omega, ?_⟩
   (conv => whnf)
   refine ⟨i64 (by omega) (by omega), ?_⟩
   (conv => whnf)
   refine ag (i + 1) [] [] ⟨hlt, trivial⟩ (by simp only []; omega) ?_
   rw [hst]
   repeat' first | exact trivial | exact rfl | refine And.intro ?_ ?_
  have h2 : ¬ (c.toNat : Int) = 10 := h2
  rw [if_neg (fun e => h2 (by rw [e]; rfl))] at hst
  (conv => whnf)
  refine ⟨i, c, rfl, hsi, ?_⟩
  (conv => whnf)
  refine dec (fun h3 => ?_) (fun h3 => ?_)
  ·have h3 : (c.toNat : Int) = 92 := h3
   rw [if_pos (UInt8.toNat_inj.1 (by show c.toNat = 92; omega))] at hst
   (conv => whnf)
   refine ⟨by simp only [List.length_append, List.length_cons, List.length_nil]; omega, ?_⟩
   (conv => whnf)
   refine ⟨i64 (by omega) (by omega), ?_⟩
   (conv => whnf)
   refine ag (i + 1) [] [] ⟨hlt, trivial⟩ (by simp only []; omega) ?_
   rw [hst]
   repeat' first | exact trivial | exact rfl | refine And.intro ?_ ?_
  have h3 : ¬ (c.toNat : Int) = 92 := h3
  rw [if_neg (fun e => h3 (by rw [e]; rfl))] at hst
  (conv => whnf)
  refine ⟨i, c, rfl, hsi, ?_⟩
  (conv => whnf)
  refine dec (fun h4 => ?_) (fun h4 => ?_)
  ·have h4 : (c.toNat : Int) < 32 := h4
   rw [if_pos (.inl (by omega))] at hst
   (conv => whnf)
   refine ⟨false, .grow, (.l [0, 1, 2, 3, 4, 5, 6, 7, 8, 9, 10, 11, 12, 13, 14, 15, 16, 17, 18, 19, 20, 21, 22, 23, 24, 25, 26, 27, 28, 29, 30]), by kernel_rfl, .inl ?_⟩
   (conv => whnf)
   refine ⟨i, c, rfl, hsi, ?_⟩
   (conv => whnf)
   refine ⟨by decide, ?_⟩
   (conv => whnf)
   refine ⟨i, c, rfl, hsi, ?_⟩
   (conv => whnf)
   refine ⟨by decide, ?_⟩
   (conv => whnf)
   refine ⟨c.toNat / 16, c.toNat / 16 + 1, ⟨q1F ⟨c.toNat, c.toNat_lt⟩, q2F ⟨c.toNat, c.toNat_lt⟩⟩, ⟨Nat.le_succ _, by have := c.toNat_lt; show c.toNat / 16 + 1 ≤ 16; omega⟩, ?_⟩
   (conv => whnf)
   have k1 := cut_at (n := c.toNat / 16) (by have := c.toNat_lt; omega)
   have k2 := cut_at (n := c.toNat % 16) (by omega)
   refine ⟨by show ([92, 120] : List UInt8).length + ((hexL.take (c.toNat / 16 + 1)).drop (c.toNat / 16)).length ≤ _; rw [k1]; simp, ?_⟩
   (conv => whnf)
   refine ⟨i, c, rfl, hsi, ?_⟩
   (conv => whnf)
   refine ⟨by decide, ?_⟩
   (conv => whnf)
   refine ⟨i, c, rfl, hsi, ?_⟩
   (conv => whnf)
   refine ⟨by decide, ?_⟩
   (conv => whnf)
   refine ⟨c.toNat % 16, c.toNat % 16 + 1, ⟨m1F ⟨c.toNat, c.toNat_lt⟩, m2F ⟨c.toNat, c.toNat_lt⟩⟩, ⟨Nat.le_succ _, by show c.toNat % 16 + 1 ≤ 16; omega⟩, ?_⟩
   (conv => whnf)
   refine ⟨by show (([92, 120] : List UInt8) ++ (hexL.take (c.toNat / 16 + 1)).drop (c.toNat / 16)).length + ((hexL.take (c.toNat % 16 + 1)).drop (c.toNat % 16)).length ≤ _; rw [k1, k2]; simp, ?_⟩
   (conv => whnf)
   refine ⟨by show out.length + ((([92, 120] : List UInt8) ++ (hexL.take (c.toNat / 16 + 1)).drop (c.toNat / 16)) ++ (hexL.take (c.toNat % 16 + 1)).drop (c.toNat % 16)).length ≤ _; rw [k1, k2]; simp; omega, ?_⟩
   (conv => whnf)
   refine ⟨i64 (by omega) (by omega), ?_⟩
   (conv => whnf)
   refine ag (i + 1) [] [] ⟨hlt, trivial⟩ (by simp only []; omega) ?_
   rw [hst, show out ++ [92, 120, hexB (c.toNat / 16), hexB (c.toNat % 16)] = out ++ ((([92, 120] : List UInt8) ++ (hexL.take (c.toNat / 16 + 1)).drop (c.toNat / 16)) ++ (hexL.take (c.toNat % 16 + 1)).drop (c.toNat % 16)) by rw [k1, k2]; simp]
   repeat' first | exact trivial | exact rfl | refine And.intro ?_ ?_
  have h4 : ¬ (c.toNat : Int) < 32 := h4
  (conv => whnf)
  refine ⟨i, c, rfl, hsi, ?_⟩
  (conv => whnf)
  refine dec (fun h5 => ?_) (fun h5 => ?_)
  ·have h5 : (126 : Int) < c.toNat := h5
   rw [if_pos (.inr (by omega))] at hst
   (conv => whnf)
   refine ⟨false, .grow, (.l [0, 1, 2, 3, 4, 5, 6, 7, 8, 9, 10, 11, 12, 13, 14, 15, 16, 17, 18, 19, 20, 21, 22, 23, 24, 25, 26, 27, 28, 29, 30]), by kernel_rfl, .inl ?_⟩
   (conv => whnf)
   refine ⟨i, c, rfl, hsi, ?_⟩
   (conv => whnf)
   refine ⟨by decide, ?_⟩
   (conv => whnf)
   refine ⟨i, c, rfl, hsi, ?_⟩
   (conv => whnf)
   refine ⟨by decide, ?_⟩
   (conv => whnf)
   refine ⟨c.toNat / 16, c.toNat / 16 + 1, ⟨q1F ⟨c.toNat, c.toNat_lt⟩, q2F ⟨c.toNat, c.toNat_lt⟩⟩, ⟨Nat.le_succ _, by have := c.toNat_lt; show c.toNat / 16 + 1 ≤ 16; omega⟩, ?_⟩
   (conv => whnf)
   have k1 := cut_at (n := c.toNat / 16) (by have := c.toNat_lt; omega)
   have k2 := cut_at (n := c.toNat % 16) (by omega)
   refine ⟨by show ([92, 120] : List UInt8).length + ((hexL.take (c.toNat / 16 + 1)).drop (c.toNat / 16)).length ≤ _; rw [k1]; simp, ?_⟩
   (conv => whnf)
   refine ⟨i, c, rfl, hsi, ?_⟩
   (conv => whnf)
   refine ⟨by decide, ?_⟩
   (conv => whnf)
   refine ⟨i, c, rfl, hsi, ?_⟩
   (conv => whnf)
   refine ⟨by decide, ?_⟩
   (conv => whnf)
   refine ⟨c.toNat % 16, c.toNat % 16 + 1, ⟨m1F ⟨c.toNat, c.toNat_lt⟩, m2F ⟨c.toNat, c.toNat_lt⟩⟩, ⟨Nat.le_succ _, by show c.toNat % 16 + 1 ≤ 16; omega⟩, ?_⟩
   (conv => whnf)
   refine ⟨by show (([92, 120] : List UInt8) ++ (hexL.take (c.toNat / 16 + 1)).drop (c.toNat / 16)).length + ((hexL.take (c.toNat % 16 + 1)).drop (c.toNat % 16)).length ≤ _; rw [k1, k2]; simp, ?_⟩
   (conv => whnf)
   refine ⟨by show out.length + ((([92, 120] : List UInt8) ++ (hexL.take (c.toNat / 16 + 1)).drop (c.toNat / 16)) ++ (hexL.take (c.toNat % 16 + 1)).drop (c.toNat % 16)).length ≤ _; rw [k1, k2]; simp; omega, ?_⟩
   (conv => whnf)
   refine ⟨i64 (by omega) (by omega), ?_⟩
   (conv => whnf)
   refine ag (i + 1) [] [] ⟨hlt, trivial⟩ (by simp only []; omega) ?_
   rw [hst, show out ++ [92, 120, hexB (c.toNat / 16), hexB (c.toNat % 16)] = out ++ ((([92, 120] : List UInt8) ++ (hexL.take (c.toNat / 16 + 1)).drop (c.toNat / 16)) ++ (hexL.take (c.toNat % 16 + 1)).drop (c.toNat % 16)) by rw [k1, k2]; simp]
   repeat' first | exact trivial | exact rfl | refine And.intro ?_ ?_
  have h5 : ¬ (126 : Int) < c.toNat := h5
  rw [if_neg (by omega)] at hst
  (conv => whnf)
  refine ⟨i64 (by omega) (by omega), ?_⟩
  (conv => whnf)
  refine ⟨i, i + 1, rfl, rfl, ⟨Nat.le_succ _, hlt⟩, ?_⟩
  (conv => whnf)
  refine ⟨[c], by rw [show i + 1 - i = 1 by omega, hcut]; rfl, ?_⟩
  (conv => whnf)
  refine ⟨by simp only [List.length_append, List.length_cons, List.length_nil]; omega, ?_⟩
  (conv => whnf)
  refine ⟨i64 (by omega) (by omega), ?_⟩
  (conv => whnf)
  refine ag (i + 1) [] [] ⟨hlt, trivial⟩ (by simp only []; omega) ?_
  rw [hst]
  repeat' first | exact trivial | exact rfl | refine And.intro ?_ ?_
 obtain rfl : i = l.length := by have h1 : ¬ (i : Int) < l.length := h1; omega
 rw [List.take_length]
 (conv => whnf)
 exact rx [] []
end Go.Nest
end
/- part -/
section

namespace Go.Nest
open Go Go.AM Go.Proofs
open Go.Proofs.YtpechfcbnoggfaaGreatDoor (tab tabOk)
set_option maxRecDepth 4000
theorem deskShows_spec (hbeg : Does Tryz.prog 10 [] [] (Rt (.c (.bool true)) [])) (b : List UInt8) (s : List UInt8) : Does Tryz.prog 4 [.c (.ls 1 UInt8 bytesC b), .c (.str s)] [] (Rt (.c (.bool true)) []) := by
 refine X_spec (n := 103) (n0 := 0) tabOk Tryz.call4 Tryz.func4 ?_
 intro hb
 (conv => whnf)
 refine cl [] [] (hbeg) ?_
 (conv => whnf)
 refine dec (fun h => ?_) (fun h1 => ?_)
 ·(conv => whnf)
  exact rtC rfl rfl
 have h1 : ¬ (3000 : Int) < b.length := h1
 (conv => whnf)
 refine dec (fun h => ?_) (fun h2 => ?_)
 ·(conv => whnf)
  exact rtC rfl rfl
 have h2 : ¬ (3000 : Int) < s.length := h2
 have p1 := show_spec b (by omega)
 have p2 := mean_spec s (by omega)
 have p3 := meant_spec s (by omega)
 have p4 := shown_spec b (by omega)
 have hnice := show_nice b
 have hback := mean_show b
 have hlen := show_len b
 generalize meanT s = M at *
 have p5 := sameBytes_spec (M.getD []) (M.getD [])
 simp only [decide_true] at p5
 have q1 := mean_spec (showT b) (by omega)
 generalize showT b = t at *
 (conv => whnf)
 refine cl [] [] (p1) ?_
 (conv => whnf)
 refine cl [] [] (p2) ?_
 (conv => whnf)
 refine cl [] [] (p3) ?_
 (conv => whnf)
 refine cl [] [] (p4) ?_
 (conv => whnf)
 refine decN (fun h => absurd rfl h) (fun _ => ?_)
 (conv => whnf)
 refine cl [] [] (p5) ?_
 (conv => whnf)
 rw [show (!(M.isSome == M.isSome)) = false by simp]
 (conv => whnf)
 refine lp Nat (fun i => ⟨[(0, .c (.ls 1 UInt8 bytesC b)), (5, .c (.str t)), (10, .c (.int .i64 i))], []⟩) (fun i => i ≤ t.length ∧ True) (fun i => t.length - i) 0 [] [] ⟨Nat.zero_le _, trivial⟩ ?_ (fun i hi => ?_)
 ·repeat' first | exact trivial | exact rfl | refine And.intro ?_ ?_
 obtain ⟨hi, -⟩ := hi
 (conv => whnf)
 refine dec (fun h4 => ?_) (fun h4 => ?_)
 ·have hlt : i < t.length := by have h4 : (i : Int) < t.length := h4; omega
  have hsi : t[i]? = some t[i] := List.getElem?_eq_getElem hlt
  have hn := hnice _ (List.getElem_mem hlt)
  generalize t[i] = c at *
  unfold nice at hn
  simp only [Bool.and_eq_true, decide_eq_true_eq] at hn
  (conv => whnf)
  refine ⟨i, c, rfl, hsi, ?_⟩
  (conv => whnf)
  refine dec (fun h => ?_) (fun _ => ?_)
  ·have h : (c.toNat : Int) < 32 := h
   omega
  (conv => whnf)
  refine ⟨i, c, rfl, hsi, ?_⟩
  (conv => whnf)
  refine dec (fun h => ?_) (fun _ => ?_)
  ·have h : (126 : Int) < c.toNat := h
   omega
  (conv => whnf)
  refine ⟨i64 (by omega) (by omega), ?_⟩
  (conv => whnf)
  refine ag (i + 1) [] [] ⟨hlt, trivial⟩ (by simp only []; omega) ?_
  repeat' first | exact trivial | exact rfl | refine And.intro ?_ ?_
 (conv => whnf)
 refine lp Nat (fun i => ⟨[(0, .c (.ls 1 UInt8 bytesC b)), (5, .c (.str t)), (11, .c (.int .i64 i))], []⟩) (fun i => i ≤ b.length ∧ ∀ c ∈ b.take i, c = 10 ∨ nice c = true) (fun i => b.length - i) 0 [] [] ⟨Nat.zero_le _, fun c hc => by simp at hc⟩ ?_ (fun j hj => ?_)
 ·repeat' first | exact trivial | exact rfl | refine And.intro ?_ ?_
 obtain ⟨hj, hall⟩ := hj
 (conv => whnf)
 refine dec (fun h5 => ?_) (fun h5 => ?_)
 ·have hlt : j < b.length := by have h5 : (j : Int) < b.length := h5; omega
  have hsi : b[j]? = some b[j] := List.getElem?_eq_getElem hlt
  have hst : (b[j] = 10 ∨ nice b[j] = true) → ∀ c ∈ b.take (j + 1), c = 10 ∨ nice c = true := fun h c hc => by
   rw [List.take_succ_eq_append_getElem hlt, List.mem_append, List.mem_singleton] at hc
   rcases hc with hc | rfl
   ·exact hall c hc
   ·exact h
  generalize b[j] = c at *
  (conv => whnf)
  refine ⟨j, c, rfl, hsi, ?_⟩
  (conv => whnf)
  refine decN (fun h6 => ?_) (fun h6 => ?_)
  ·(conv => whnf)
   refine ⟨j, c, rfl, hsi, ?_⟩
   (conv => whnf)
   refine dec (fun h => ?_) (fun h7 => ?_)
   ·(conv => whnf)
    exact rtC rfl rfl
   have h7 : ¬ (c.toNat : Int) < 32 := h7
   (conv => whnf)
   refine ⟨j, c, rfl, hsi, ?_⟩
   (conv => whnf)
   refine dec (fun h => ?_) (fun h8 => ?_)
   ·(conv => whnf)
    exact rtC rfl rfl
   have h8 : ¬ (126 : Int) < c.toNat := h8
   (conv => whnf)
   refine ⟨i64 (by omega) (by omega), ?_⟩
   (conv => whnf)
   refine ag (j + 1) [] [] ⟨hlt, hst (.inr (by unfold nice; simp only [Bool.and_eq_true, decide_eq_true_eq]; omega))⟩ (by simp only []; omega) ?_
   repeat' first | exact trivial | exact rfl | refine And.intro ?_ ?_
  ·have h6 : (c.toNat : Int) = 10 := h6
   (conv => whnf)
   refine ⟨i64 (by omega) (by omega), ?_⟩
   (conv => whnf)
   refine ag (j + 1) [] [] ⟨hlt, hst (.inl (UInt8.toNat_inj.1 (by show c.toNat = 10; omega)))⟩ (by simp only []; omega) ?_
   repeat' first | exact trivial | exact rfl | refine And.intro ?_ ?_
 obtain rfl : j = b.length := by have h5 : ¬ (j : Int) < b.length := h5; omega
 rw [List.take_length] at hall
 rw [hback hall] at q1
 have q1 : Does Tryz.prog 15 [.c (.str t)] [] (Rt (.tup [(false, [.rw 0]), (false, [.bool true])]) [.row 1 UInt8 bytesC b]) := q1
 have p6 := sameBytes_spec b b
 simp only [decide_true] at p6
 (conv => whnf)
 refine cl [] [] (q1) ?_
 (conv => whnf)
 refine cl [] [] (p6) ?_
 (conv => whnf)
 exact rtC rfl rfl
end Go.Nest
end
