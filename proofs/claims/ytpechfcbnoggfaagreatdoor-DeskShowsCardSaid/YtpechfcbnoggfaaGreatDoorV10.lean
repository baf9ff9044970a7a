/- part -/
import Derived.Test.YtpechfcbnoggfaaGreatDoorV5
import Derived.Test.YtpechfcbnoggfaaGreatDoorV4
import Derived.Test.YtpechfcbnoggfaaGreatDoorE2
import Derived.Test.YtpechfcbnoggfaaGreatDoorE8
import Derived.Test.YtpechfcbnoggfaaGreatDoorD24
import Derived.Test.YtpechfcbnoggfaaGreatDoorG9
set_option linter.unusedVariables false
set_option linter.unusedSimpArgs false
section

namespace Go.Nest
open Go Go.AM Go.Proofs
open Go.Proofs.YtpechfcbnoggfaaGreatDoor (tab tabOk)
set_option maxRecDepth 100000
def rD1 (k : Nat) : List Rn := [.same 0, .same 1, .same 2, .same 3, .same 4, .same 5, .same 6, .same 7, .same 8, .same 9, .same 10, .same 11, .same 12, .same 13, .same 14, .same 15, .same 16, .same 17, .same 18, .same 19, .same 20, .same 21, .same 22, .same 23, .same 24, .same 25, .same 26, .same 27, .same 28, .same 29, .same 30, .same 31, .same 32, .same 33, .same 34, .same (k + 12), .same (k + 13), .same (k + 14), .same (k + 15), .same (k + 16), .same (k + 17), .same (k + 18), .same (k + 19), .same (k + 20), .same (k + 21), .same (k + 22), .same (k + 23), .same (k + 24), .same (k + 25), .same (k + 26), .same (k + 27), .same (k + 28), .same (k + 29), .same (k + 30), .same (k + 31), .same (k + 32), .same (k + 33)]
def endT : List UInt8 := lineT [[101, 110, 100]]
def docLn (d : Dc) : List UInt8 := lineT [[100, 111, 99], d.path, showT d.bytes]
def docsT (l : List Dc) : List UInt8 := l.flatMap docLn ++ endT
theorem flat_succ {α : Type} {f : α → List UInt8} {l : List α} {i : Nat} (h : i < l.length) : (l.take (i + 1)).flatMap f = (l.take i).flatMap f ++ f l[i] := by
 rw [List.take_succ_eq_append_getElem h, List.flatMap_append]; simp
structure Grows (t : List UInt8) (n : Nat) (T : Nat → List UInt8) (ln : Nat → List UInt8) (all : List UInt8) : Prop where
 z : T 0 = t
 s : ∀ i, i < n → T (i + 1) = T i ++ ln i
 e : T n = t ++ all
theorem Grows.of {α : Type} (f : α → List UInt8) (t : List UInt8) (l : List α) (d : α) : Grows t l.length (fun i => t ++ (l.take i).flatMap f) (fun i => f (l.getD i d)) (l.flatMap f) := ⟨by simp, fun i h => by
 rw [flat_succ h, List.append_assoc, show l.getD i d = l[i] by rw [List.getD_eq_getElem?_getD, List.getElem?_eq_getElem h]; rfl], by rw [List.take_length]⟩
theorem Grows.len {t all : List UInt8} {n : Nat} {T ln : Nat → List UInt8} (h : Grows t n T ln all) : ∀ {k i : Nat}, i + k = n → (T i).length ≤ (t ++ all).length
 | 0, i, e => by
  obtain rfl : i = n := by omega
  rw [h.e]; exact Nat.le_refl _
 | k + 1, i, e => by
  have := h.len (k := k) (i := i + 1) (by omega)
  rw [h.s i (by omega), List.length_append] at this
  omega
set_option maxHeartbeats 4000000 in
theorem docs_dspec (u : Bool) (s : FS) (hw : FWf s) (t : List UInt8) (r : Int) (hlen : (t ++ docsT (docsF s r)).length ≤ 100000000) : Does Tryz.prog 191 [.c (.ptr 11 0), .c (.int .i64 r)] (dIn u s t) (Rt (.tup []) (dOut true s (t ++ docsT (docsF s r)))) := by
 have p := docs_fspec s hw r
 have hbb : ∀ d ∈ docsF s r, d.bytes.length ≤ 400 := fun d hd => by
  unfold docsF at hd
  split at hd
  ·cases hd
  ·rename_i h
   obtain ⟨i, hi, rfl⟩ := isR_iff.1 (by simpa using h)
   obtain ⟨y, hy, rfl⟩ := List.mem_map.1 hd
   exact hw.bytes i hi y hy
 have hl : (docsF s r).length ≤ 60 := by
  unfold docsF
  split
  ·exact Nat.zero_le _
  ·rename_i h
   obtain ⟨i, hi, rfl⟩ := isR_iff.1 (by simpa using h)
   rw [List.length_map]; exact hw.items i hi
 generalize docsF s r = l at p hlen hbb hl ⊢
 obtain ⟨T, hg⟩ : ∃ T, Grows t l.length T (fun i => docLn (l.getD i ⟨[], []⟩)) (l.flatMap docLn) := ⟨_, Grows.of docLn t l _⟩
 have hT : ∀ i, i ≤ l.length → (T i).length ≤ (t ++ l.flatMap docLn).length := fun i hi => hg.len (k := l.length - i) (by omega)
 rw [show t ++ docsT l = (t ++ l.flatMap docLn) ++ endT by unfold docsT; rw [List.append_assoc]] at hlen ⊢
 rw [List.length_append] at hlen
 have h0 := hg.z
 have hE := hg.e
 have hS : ∀ i (h : i < l.length), T (i + 1) = T i ++ lineT [[100, 111, 99], l[i].path, showT l[i].bytes] := fun i h => by
  have := hg.s i h
  rw [show l.getD i ⟨[], []⟩ = l[i] by rw [List.getD_eq_getElem?_getD, List.getElem?_eq_getElem h]; rfl] at this
  exact this
 clear hg
 generalize t ++ l.flatMap docLn = A at hlen hE hT ⊢
 refine X_spec (n := 29) (n0 := 34) tabOk Tryz.call191 Tryz.func191 ?_
 intro hb
 cases hu : u <;> (
  (conv => whnf)
  refine cl [] [] (p) ?_
  (conv => whnf)
  refine lp (Nat × Bool) (fun p => ⟨[(0, .c (.ptr 11 0)), (11, .c (.rw 34)), (12, .c (.int .i64 l.length)), (13, .c (.int .i64 p.1))], dSt 23 (d22 ++ [.row 2 Dc encDc l]) p.2 s (T p.1)⟩) (fun p => p.1 ≤ l.length ∧ True) (fun p => l.length - p.1) (0, u) [] (rDs (.same 34 :: [.same 12, .same 13, .same 14, .same 15, .same 16, .same 17, .same 18, .same 19, .same 20, .same 21, .same 22, .same 23, .same 24, .same 25, .same 26, .same 27, .same 28, .same 29, .same 30, .same 31, .same 32, .same 33])) ⟨Nat.zero_le _, trivial⟩ (by rw [h0, hu]; exact leF) (fun ⟨i, v⟩ hi => ?_)
  obtain ⟨hi, -⟩ := hi
  dsimp only at hi
  cases hv : v <;> (
   (conv => whnf)
   refine dec (fun h4 => ?_) (fun h4 => ?_)
   ·have hlt : i < l.length := by have h4 : (i : Int) < l.length := h4; omega
    have hiy : l[i]? = some l[i] := List.getElem?_eq_getElem hlt
    have hbd := hbb _ (List.getElem_mem hlt)
    have hS := hS i hlt
    have hTi := hT (i + 1) hlt
    generalize l[i] = y at hiy hbd hS
    rw [hS, List.length_append] at hTi
    have q1 := show_spec y.bytes (by omega)
    have q2 := say_dspec v s (T i) [[100, 111, 99], y.path, showT y.bytes] (by omega) (by simp)
    rw [← hS, hv] at q2
    (conv => whnf)
    refine ⟨i, ⟨rfl, hlt⟩, ?_⟩
    (conv => whnf)
    refine ⟨y, hiy, ?_⟩
    (conv => whnf)
    refine ⟨false, .grow, (.l [0, 1, 2, 3, 4, 5, 6, 7]), by kernel_rfl, .inl ?_⟩
    (conv => whnf)
    refine cl [] [] (q1) ?_
    (conv => whnf)
    refine ⟨[[100, 111, 99], y.path, showT y.bytes], rfl, ?_⟩
    (conv => whnf)
    refine clF (mD 23) (dSt 47 (d22 ++ [.row 2 Dc encDc l] ++ d22 ++ [.box (encDc y), .row 1 (List UInt8) encS [[100, 111, 99], y.path, showT y.bytes]]) true s (T (i + 1))) q2 ?_
    repeat' ((conv => whnf); refine I6 ?_)
    refine ag (i + 1, true) [] (rD1 47) ⟨hlt, trivial⟩ (by simp only []; omega) ?_
    exact leF
   ·obtain rfl : i = l.length := by have h4 : ¬ (i : Int) < l.length := h4; omega
    rw [hE]
    have q2 := say_dspec v s A [[101, 110, 100]] hlen (by simp)
    rw [hv] at q2
    (conv => whnf)
    refine ⟨[[101, 110, 100]], rfl, ?_⟩
    (conv => whnf)
    refine clF (mD 23) (dSt 46 (d22 ++ [.row 2 Dc encDc l] ++ d22 ++ [.row 1 (List UInt8) encS [[101, 110, 100]]]) true s (A ++ endT)) q2 ?_
    (conv => whnf)
    exact rxF (rD 46)))
end Go.Nest
end
/- part -/
section

namespace Go.Nest
open Go Go.AM Go.Proofs
open Go.Proofs.YtpechfcbnoggfaaGreatDoor (tab tabOk)
set_option maxRecDepth 100000
def numI (n : Int) : List UInt8 := if 0 ≤ n then Lib.decDigits n.toNat else 45 :: Lib.decDigits (-n).toNat
structure NumOk (n : Int) : Prop where
 d : Does Tryz.prog 188 [.c (.int .i64 n)] [] (Rt (.c (.str (numI n))) [])
 l : (numI n).length ≤ 21
theorem NumOk.small {i : Nat} (h : i < 100) : NumOk i := by
 have e : numI (i : Int) = Lib.decDigits i := by unfold numI; rw [if_pos (by omega), Int.toNat_natCast]
 exact ⟨by rw [e]; exact num_spec i h, by rw [e]; have := ddg_len h; omega⟩
def refLn (x : Rf) : List UInt8 := lineT [[114, 101, 102], x.name, numI x.id]
def headT (n : Int) : List UInt8 := lineT [[104, 101, 97, 100], numI n]
def refsT (l : List Rf) (h : Int) : List UInt8 := l.flatMap refLn ++ headT h
set_option maxHeartbeats 4000000 in
theorem refs_dspec (u : Bool) (s : FS) (hw : FWf s) (t : List UInt8) (r : Int) (hn : ∀ x ∈ refsF s r, NumOk x.id) (hh : NumOk (headF s r)) (hlen : (t ++ refsT (refsF s r) (headF s r)).length ≤ 100000000) : Does Tryz.prog 193 [.c (.ptr 11 0), .c (.int .i64 r)] (dIn u s t) (Rt (.tup []) (dOut true s (t ++ refsT (refsF s r) (headF s r)))) := by
 have p := refs_fspec s hw r
 have p9 := head_fspec s hw r
 have hl : (refsF s r).length ≤ 8 := by
  unfold refsF
  split
  ·exact Nat.zero_le _
  ·rename_i h
   obtain ⟨i, hi, rfl⟩ := isR_iff.1 (by simpa using h)
   exact hw.few i hi
 generalize headF s r = hd at p9 hlen hh ⊢
 generalize refsF s r = l at p hlen hn hl ⊢
 obtain ⟨T, hg⟩ : ∃ T, Grows t l.length T (fun i => refLn (l.getD i ⟨[], 0⟩)) (l.flatMap refLn) := ⟨_, Grows.of refLn t l _⟩
 have hT : ∀ i, i ≤ l.length → (T i).length ≤ (t ++ l.flatMap refLn).length := fun i hi => hg.len (k := l.length - i) (by omega)
 rw [show t ++ refsT l hd = (t ++ l.flatMap refLn) ++ headT hd by unfold refsT; rw [List.append_assoc]] at hlen ⊢
 rw [List.length_append] at hlen
 have h0 := hg.z
 have hE := hg.e
 have hS : ∀ i (h : i < l.length), T (i + 1) = T i ++ lineT [[114, 101, 102], l[i].name, numI l[i].id] := fun i h => by
  have := hg.s i h
  rw [show l.getD i ⟨[], 0⟩ = l[i] by rw [List.getD_eq_getElem?_getD, List.getElem?_eq_getElem h]; rfl] at this
  exact this
 clear hg
 generalize t ++ l.flatMap refLn = A at hlen hE hT ⊢
 refine X_spec (n := 36) (n0 := 34) tabOk Tryz.call193 Tryz.func193 ?_
 intro hb
 cases hu : u <;> (
  (conv => whnf)
  refine cl [] [] (p) ?_
  (conv => whnf)
  refine lp (Nat × Bool) (fun p => ⟨[(0, .c (.ptr 11 0)), (1, .c (.int .i64 r)), (11, .c (.rw 34)), (12, .c (.int .i64 l.length)), (13, .c (.int .i64 p.1))], dSt 23 (d22 ++ [.row 2 Rf encRf l]) p.2 s (T p.1)⟩) (fun p => p.1 ≤ l.length ∧ True) (fun p => l.length - p.1) (0, u) [] (rDs (.same 34 :: [.same 12, .same 13, .same 14, .same 15, .same 16, .same 17, .same 18, .same 19, .same 20, .same 21, .same 22, .same 23, .same 24, .same 25, .same 26, .same 27, .same 28, .same 29, .same 30, .same 31, .same 32, .same 33])) ⟨Nat.zero_le _, trivial⟩ (by rw [h0, hu]; exact leF) (fun ⟨i, v⟩ hi => ?_)
  obtain ⟨hi, -⟩ := hi
  dsimp only at hi
  cases hv : v <;> (
   (conv => whnf)
   refine dec (fun h4 => ?_) (fun h4 => ?_)
   ·have hlt : i < l.length := by have h4 : (i : Int) < l.length := h4; omega
    have hiy : l[i]? = some l[i] := List.getElem?_eq_getElem hlt
    have hbd := hn _ (List.getElem_mem hlt)
    have hS := hS i hlt
    have hTi := hT (i + 1) hlt
    generalize l[i] = y at hiy hbd hS
    rw [hS, List.length_append] at hTi
    have q2 := say_dspec v s (T i) [[114, 101, 102], y.name, numI y.id] (by omega) (by simp)
    rw [← hS, hv] at q2
    (conv => whnf)
    refine ⟨i, ⟨rfl, hlt⟩, ?_⟩
    (conv => whnf)
    refine ⟨y, hiy, ?_⟩
    (conv => whnf)
    refine ⟨false, .grow, (.l [0, 1, 2, 3, 4, 5, 6, 7]), by kernel_rfl, .inl ?_⟩
    (conv => whnf)
    refine cl [] [] (hbd.d) ?_
    (conv => whnf)
    refine ⟨[[114, 101, 102], y.name, numI y.id], rfl, ?_⟩
    (conv => whnf)
    refine clF (mD 23) (dSt 47 (d22 ++ [.row 2 Rf encRf l] ++ d22 ++ [.box (encRf y), .row 1 (List UInt8) encS [[114, 101, 102], y.name, numI y.id]]) true s (T (i + 1))) q2 ?_
    repeat' ((conv => whnf); refine I6 ?_)
    refine ag (i + 1, true) [] (rD1 47) ⟨hlt, trivial⟩ (by simp only []; omega) ?_
    exact leF
   ·obtain rfl : i = l.length := by have h4 : ¬ (i : Int) < l.length := h4; omega
    rw [hE]
    have q2 := say_dspec v s A [[104, 101, 97, 100], numI hd] hlen (by simp)
    rw [hv] at q2
    (conv => whnf)
    refine cl [] [] (p9) ?_
    (conv => whnf)
    refine cl [] [] (hh.d) ?_
    (conv => whnf)
    refine ⟨[[104, 101, 97, 100], numI hd], rfl, ?_⟩
    (conv => whnf)
    refine clF (mD 23) (dSt 46 (d22 ++ [.row 2 Rf encRf l] ++ d22 ++ [.row 1 (List UInt8) encS [[104, 101, 97, 100], numI hd]]) true s (A ++ headT hd)) q2 ?_
    (conv => whnf)
    exact rxF (rD 46)))
def ownF (s : FS) (r : Int) : List Int := listP s.o r s.L.length
def idT (n : Int) : List UInt8 := 32 :: numI n
def ownT (l : List Int) : List UInt8 := [111, 119, 110] ++ l.flatMap idT
theorem own_len {l : List Int} (h : ∀ x ∈ l, NumOk x) : (l.flatMap idT).length ≤ 22 * l.length := by
 induction l with
 | nil => simp
 | cons x l ih =>
  have h1 := (h x (by simp)).l
  have h2 := ih fun y hy => h y (by simp [hy])
  rw [List.flatMap_cons, List.length_append, List.length_cons]
  have h3 : (idT x).length = (numI x).length + 1 := rfl
  omega
set_option maxHeartbeats 4000000 in
theorem own_dspec (u : Bool) (s : FS) (hw : FWf s) (t : List UInt8) (r : Int) (hn : ∀ x ∈ ownF s r, NumOk x) (hlen : (t ++ lineT [ownT (ownF s r)]).length ≤ 100000000) : Does Tryz.prog 195 [.c (.ptr 11 0), .c (.int .i64 r)] (dIn u s t) (Rt (.tup []) (dOut true s (t ++ lineT [ownT (ownF s r)]))) := by
 have p := list_dspec s.L hw.pool s.o s.b r
 have hl : (ownF s r).length ≤ 600 := by
  have := list_len (o := s.o) (r := r) (n := s.L.length)
  have := hw.pool.len
  unfold ownF
  omega
 have p : Does Tryz.prog _ _ [] (Rt _ [.row 1 Int encI (ownF s r)]) := p
 generalize ownF s r = l at p hlen hn hl ⊢
 have q2 := say_dspec u s t [ownT l] (by rw [← List.length_append]; exact hlen) (by simp)
 refine X_spec (n := 31) (n0 := 34) tabOk Tryz.call195 Tryz.func195 ?_
 intro hb
 cases hu : u <;> (
  rw [hu] at q2
  (conv => whnf)
  refine cl [] [] (p) ?_
  (conv => whnf)
  refine lp Nat (fun i => ⟨[(0, .c (.ptr 11 0)), (4, .c (.str (ownT (l.take i)))), (15, .c (.rw 34)), (16, .c (.int .i64 l.length)), (17, .c (.int .i64 i))], dSt 0 [] u s t ++ [.row 1 Int encI l]⟩) (fun i => i ≤ l.length ∧ True) (fun i => l.length - i) 0 [] (rDs [.same 34]) ⟨Nat.zero_le _, trivial⟩ (by rw [hu]; exact leF) (fun i hi => ?_)
  obtain ⟨hi, -⟩ := hi
  rw [hu]
  (conv => whnf)
  refine dec (fun h4 => ?_) (fun h4 => ?_)
  ·have hlt : i < l.length := by have h4 : (i : Int) < l.length := h4; omega
   have hiy : l[i]? = some l[i] := List.getElem?_eq_getElem hlt
   have hbd := hn _ (List.getElem_mem hlt)
   have hS : ownT (l.take (i + 1)) = ownT (l.take i) ++ 32 :: numI l[i] := by unfold ownT; rw [flat_succ hlt, List.append_assoc]; rfl
   have hT : (ownT (l.take i)).length ≤ 20000 := by
    have := own_len (l := l.take i) fun x hx => hn x (List.mem_of_mem_take hx)
    rw [List.length_take] at this
    unfold ownT
    rw [List.length_append]
    simp only [List.length_cons, List.length_nil]
    omega
   generalize ownT (l.take i) = X at hS hT ⊢
   generalize l[i] = y at hiy hbd hS
   have hyl := hbd.l
   (conv => whnf)
   refine ⟨i, ⟨rfl, hlt⟩, ?_⟩
   (conv => whnf)
   refine ⟨y, hiy, ?_⟩
   (conv => whnf)
   refine cl [] [] (hbd.d) ?_
   (conv => whnf)
   refine ⟨by simp only [List.length_cons, List.length_nil]; omega, ?_⟩
   (conv => whnf)
   refine ⟨by simp only [List.length_append, List.length_cons, List.length_nil]; omega, ?_⟩
   repeat' ((conv => whnf); refine I6 ?_)
   refine ag (i + 1) [] (rDs [.same 34]) ⟨hlt, trivial⟩ (by simp only []; omega) ?_
   rw [hS]
   exact leF
  ·obtain rfl : i = l.length := by have h4 : ¬ (i : Int) < l.length := h4; omega
   rw [List.take_length]
   (conv => whnf)
   refine ⟨[ownT l], rfl, ?_⟩
   (conv => whnf)
   refine clF (mD 0) (dSt 24 (d22 ++ [.row 1 Int encI l, .row 1 (List UInt8) encS [ownT l]]) true s (t ++ lineT [ownT l])) q2 ?_
   (conv => whnf)
   exact rxF (rD 24))
end Go.Nest
end
/- part -/
section

namespace Go.Nest
open Go Go.AM Go.Proofs
open Go.Proofs.YtpechfcbnoggfaaGreatDoor (tab tabOk)
set_option maxRecDepth 100000
noncomputable def wholeF (s : FS) (r : Int) : List Fi × Int := wholeP s.L (hasP ⟨s.o, s.b⟩) r (headF s r)
def fileLn (L : List Ob) (x : Fi) : List UInt8 := lineT [[100, 111, 99], x.path, showT (getP L x.id).bytes]
def noT (c : Int) : List UInt8 := lineT [[110, 111], numI c]
def wholeT (L : List Ob) (R : List Fi × Int) : List UInt8 := if R.2 ≠ 0 then noT R.2 else R.1.flatMap (fileLn L) ++ endT
set_option maxHeartbeats 4000000 in
theorem whole_dpspec (u : Bool) (s : FS) (hw : FWf s) (t : List UInt8) (r : Int) (hl : (wholeF s r).1.length ≤ 100000) (hn : (wholeF s r).2 ≠ 0 → NumOk (wholeF s r).2) (hlen : (t ++ wholeT s.L (wholeF s r)).length ≤ 100000000) : Does Tryz.prog 194 [.c (.ptr 11 0), .c (.int .i64 r)] (dIn u s t) (Rt (.tup []) (dOut true s (t ++ wholeT s.L (wholeF s r)))) := by
 have p := head_fspec s hw r
 have p1 := wholeD_spec s.L hw.pool s.o s.b hw.bor r (headF s r)
 have hR : wholeP s.L (hasP ⟨s.o, s.b⟩) r (headF s r) = wholeF s r := rfl
 rw [hR] at p1
 generalize wholeF s r = R at p1 hl hn hlen ⊢
 generalize headF s r = hd at p p1
 obtain ⟨l, c⟩ := R
 dsimp only at p1 hl hn
 refine X_spec (n := 69) (n0 := 34) tabOk Tryz.call194 Tryz.func194 ?_
 intro hb
 cases hu : u <;> (
  (conv => whnf)
  refine ⟨false, .grow, (.l [0, 1, 2, 3, 4, 5, 6, 7, 8, 9, 10, 11, 12, 13, 14, 15, 16, 17, 18, 19]), by kernel_rfl, .inl ?_⟩
  (conv => whnf)
  refine cl [] [] (p) ?_
  (conv => whnf)
  refine cl [] [] (p1) ?_
  (conv => whnf)
  refine decN (fun hc => ?_) (fun hc => ?_)
  ·have hc : c ≠ 0 := hc
   have e : wholeT s.L (l, c) = noT c := if_pos hc
   have hm := hn hc
   rw [e] at hlen ⊢
   have q2 := say_dspec u s t [[110, 111], numI c] (by rw [List.length_append] at hlen; exact hlen) (by simp)
   rw [hu] at q2
   (conv => whnf)
   refine cl [] [] (hm.d) ?_
   (conv => whnf)
   refine ⟨[[110, 111], numI c], rfl, ?_⟩
   (conv => whnf)
   refine clF (mD 0) (dSt 24 (d22 ++ [.row 4 Fi encFi l, .row 1 (List UInt8) encS [[110, 111], numI c]]) true s (t ++ noT c)) q2 ?_
   (conv => whnf)
   exact rxF (rD 24)
  have hc : c = 0 := hc
  have e : wholeT s.L (l, c) = l.flatMap (fileLn s.L) ++ endT := if_neg (fun h => h hc)
  obtain ⟨T, hg⟩ : ∃ T, Grows t l.length T (fun i => fileLn s.L (l.getD i ⟨[], 0, 0, 0⟩)) (l.flatMap (fileLn s.L)) := ⟨_, Grows.of (fileLn s.L) t l _⟩
  have hT : ∀ i, i ≤ l.length → (T i).length ≤ (t ++ l.flatMap (fileLn s.L)).length := fun i hi => hg.len (k := l.length - i) (by omega)
  rw [e, ← List.append_assoc] at hlen ⊢
  rw [List.length_append] at hlen
  have h0 := hg.z
  have hE := hg.e
  have hS : ∀ i (h : i < l.length), T (i + 1) = T i ++ lineT [[100, 111, 99], l[i].path, showT (getP s.L l[i].id).bytes] := fun i h => by
   have := hg.s i h
   rw [show l.getD i ⟨[], 0, 0, 0⟩ = l[i] by rw [List.getD_eq_getElem?_getD, List.getElem?_eq_getElem h]; rfl] at this
   exact this
  clear hg
  generalize t ++ l.flatMap (fileLn s.L) = A at hlen hE hT ⊢
  (conv => whnf)
  refine lp (Nat × Bool) (fun p => ⟨[(0, .c (.ptr 11 0)), (35, .c (.rw 34)), (36, .c (.int .i64 l.length)), (37, .c (.int .i64 p.1))], dSt 23 (d22 ++ [.row 4 Fi encFi l]) p.2 s (T p.1)⟩) (fun p => p.1 ≤ l.length ∧ True) (fun p => l.length - p.1) (0, u) [] (rDs (.same 34 :: [.same 12, .same 13, .same 14, .same 15, .same 16, .same 17, .same 18, .same 19, .same 20, .same 21, .same 22, .same 23, .same 24, .same 25, .same 26, .same 27, .same 28, .same 29, .same 30, .same 31, .same 32, .same 33])) ⟨Nat.zero_le _, trivial⟩ (by rw [h0, hu]; exact leF) (fun ⟨i, v⟩ hi => ?_)
  obtain ⟨hi, -⟩ := hi
  dsimp only at hi
  cases hv : v <;> (
   (conv => whnf)
   refine dec (fun h4 => ?_) (fun h4 => ?_)
   ·have hlt : i < l.length := by have h4 : (i : Int) < l.length := h4; omega
    have hiy : l[i]? = some l[i] := List.getElem?_eq_getElem hlt
    have hS := hS i hlt
    have hTi := hT (i + 1) hlt
    generalize l[i] = y at hiy hS
    rw [hS, List.length_append] at hTi
    have q0 := get_spec s.L hw.pool y.id
    have hob : (getP s.L y.id).bytes.length ≤ 400 := OkO.byt hw.pool y.id
    have q1 := show_spec (getP s.L y.id).bytes (by omega)
    have q2 := say_dspec v s (T i) [[100, 111, 99], y.path, showT (getP s.L y.id).bytes] (by omega) (by simp)
    rw [← hS, hv] at q2
    generalize getP s.L y.id = o at q0 q1 q2
    (conv => whnf)
    refine ⟨i, ⟨rfl, hlt⟩, ?_⟩
    (conv => whnf)
    refine ⟨y, hiy, ?_⟩
    (conv => whnf)
    refine ⟨false, .grow, (.alt [0, 1, 2, 3, 4, 5, 6, 7, 8, 9, 10, 11] [12, 16] fun j => bif Nat.beq j 12 then (.l [13, 14, 15, 16, 17, 18]) else bif Nat.beq j 16 then (.l [12, 13, 14, 15, 17, 18]) else .l []), by kernel_rfl, .inl ?_⟩
    (conv => whnf)
    refine And.intro ?_ ?_ <;> (
     (conv => whnf)
     refine cl [] [] (q0) ?_
     (conv => whnf)
     refine ⟨false, .grow, (.l [0, 1, 2, 3, 4, 5, 6, 7]), by kernel_rfl, .inl ?_⟩
     (conv => whnf)
     refine cl [] [] (q1) ?_
     (conv => whnf)
     refine ⟨[[100, 111, 99], y.path, showT o.bytes], rfl, ?_⟩
     (conv => whnf)
     refine clF (mD 23) (dSt 48 (d22 ++ [.row 4 Fi encFi l] ++ d22 ++ [.box (encFi y), .box (encOb o), .row 1 (List UInt8) encS [[100, 111, 99], y.path, showT o.bytes]]) true s (T (i + 1))) q2 ?_
     repeat' ((conv => whnf); refine I6 ?_)
     refine ag (i + 1, true) [] (rD1 48) ⟨hlt, trivial⟩ (by simp only []; omega) ?_
     exact leF)
   ·obtain rfl : i = l.length := by have h4 : ¬ (i : Int) < l.length := h4; omega
    rw [hE]
    have q2 := say_dspec v s A [[101, 110, 100]] hlen (by simp)
    rw [hv] at q2
    (conv => whnf)
    refine ⟨[[101, 110, 100]], rfl, ?_⟩
    (conv => whnf)
    refine clF (mD 23) (dSt 46 (d22 ++ [.row 4 Fi encFi l] ++ d22 ++ [.row 1 (List UInt8) encS [[101, 110, 100]]]) true s (A ++ endT)) q2 ?_
    (conv => whnf)
    exact rxF (rD 46)))
end Go.Nest
end
/- part -/
section

namespace Go.Nest
open Go Go.AM Go.Proofs
open Go.Proofs.YtpechfcbnoggfaaGreatDoor (tab tabOk)
set_option maxRecDepth 100000
def modeT (m : Int) : List UInt8 := if m = 0 then [45] else if m = 1 then [102, 105, 108, 101] else if m = 2 then [100, 105, 114] else [114, 101, 112, 111]
theorem mode_spec (f : Fi) (h0 : 0 ≤ f.mode) (h4 : f.mode < 4) : Does Tryz.prog 266 [.st (encFi f)] [] (Rt (.c (.str (modeT f.mode))) []) := by
 obtain ⟨p, m, i, r⟩ := f
 have h : m = (0 : Nat) ∨ m = (1 : Nat) ∨ m = (2 : Nat) ∨ m = (3 : Nat) := by dsimp only at h0 h4; omega
 refine X_spec (n := 7) (n0 := 0) tabOk Tryz.call266 Tryz.func266 ?_
 intro hb
 rcases h with rfl | rfl | rfl | rfl <;> (
  (conv => whnf)
  refine ⟨_, ⟨rfl, by decide⟩, ?_⟩
  (conv => whnf)
  exact rtC rfl rfl)
def evT (E : Evt) : List UInt8 := if E.code ≠ 0 then lineT ([110, 111] :: numI E.code :: E.cf) else lineT [[111, 107], numI E.id]
set_option maxHeartbeats 4000000 in
theorem do_dspec (u : Bool) (s S : FS) (t : List UInt8) (x : Stp) (E : Evt) (p : Does Tryz.prog 22 [.c (.ptr 0 0), .st (encStp x)] (fIn s) (Rt (.st (encEvt E)) (fOut S))) (hc : E.code ≠ 0 → NumOk E.code) (hi : E.code = 0 → NumOk E.id) (hcf : E.cf.length ≤ 1000) (hlen : (t ++ evT E).length ≤ 100000000) : Does Tryz.prog 196 [.c (.ptr 11 0), .st (encStp x)] (dIn u s t) (Rt (.tup []) (dOut true S (t ++ evT E))) := by
 obtain ⟨c, id, cf⟩ := E
 rw [List.length_append] at hlen
 have p1 := onFor (u := u) (t := t) p ⟨fun _ _ => by repeat' first | exact trivial | exact rfl | refine And.intro ?_ ?_, fun _ => rfl, rfl⟩
 dsimp only at hc hi hcf
 refine X_spec (n := 29) (n0 := 34) tabOk Tryz.call196 Tryz.func196 ?_
 intro hb
 cases hu : u <;> (
  rw [hu] at p1
  (conv => whnf)
  refine ⟨false, .grow, (.alt [0, 1, 2, 3, 4] [5, 6] fun j => bif Nat.beq j 5 then (.l [6, 7]) else bif Nat.beq j 6 then (.l [5, 7]) else .l []), by kernel_rfl, .inl ?_⟩
  (conv => whnf)
  refine And.intro ?_ ?_
  ·(conv => whnf)
   refine clF (mD 0) (dSt 23 (d22 ++ [.box (encStp x)]) u S t) p1 ?_ (hZ := by rw [hu]; kernel_rfl)
   rw [hu]
   (conv => whnf)
   refine decN (fun h => ?_) (fun h => ?_)
   ·have h : c ≠ 0 := h
    have hm := hc h
    have e1 : evT ⟨c, id, cf⟩ = lineT ([110, 111] :: numI c :: cf) := if_pos h
    rw [e1] at hlen ⊢
    have q2 := say_dspec u S t ([110, 111] :: numI c :: cf) hlen (by simp only [List.length_cons]; omega)
    rw [hu] at q2
    (conv => whnf)
    refine ⟨false, .grow, (.l [0, 1, 2, 5, 6, 3, 4, 7, 8]), by kernel_rfl, .inl ?_⟩
    (conv => whnf)
    refine cl [] [] (hm.d) ?_
    (conv => whnf)
    refine ⟨[[110, 111], numI c], rfl, ?_⟩
    (conv => whnf)
    refine ⟨_, _, rfl, rfl, (by simp only [List.length_append, List.length_cons, List.length_nil]; omega), ?_⟩
    (conv => whnf)
    refine clF (mD 23) (dSt (24 + 24) ((d22 ++ [.box (encStp x)]) ++ d22 ++ [.box (encEvt ⟨c, id, cf⟩)] ++ [.dead, .row 1 (List UInt8) encS ([110, 111] :: numI c :: cf)]) true S (t ++ lineT ([110, 111] :: numI c :: cf))) q2 ?_
    (conv => whnf)
    exact rxF (rD 48)
   ·have h : c = 0 := h
    have hm := hi h
    have e1 : evT ⟨c, id, cf⟩ = lineT [[111, 107], numI id] := if_neg (fun g => g h)
    rw [e1] at hlen ⊢
    have q2 := say_dspec u S t [[111, 107], numI id] hlen (by simp)
    rw [hu] at q2
    (conv => whnf)
    refine cl [] [] (hm.d) ?_
    (conv => whnf)
    refine ⟨[[111, 107], numI id], rfl, ?_⟩
    (conv => whnf)
    refine clF (mD 23) (dSt 47 ((d22 ++ [.box (encStp x)]) ++ d22 ++ [.box (encEvt ⟨c, id, cf⟩)] ++ [.row 1 (List UInt8) encS [[111, 107], numI id]]) true S (t ++ lineT [[111, 107], numI id])) q2 ?_
    (conv => whnf)
    exact rxF (rD 47)
  ·(conv => whnf)
   refine clF (mD 0) (dSt 24 (d22 ++ [.box (encStp x), .box [.int .i64 0, .int .i64 0, .nil]]) u S t) p1 ?_ (hZ := by rw [hu]; kernel_rfl)
   rw [hu]
   (conv => whnf)
   refine decN (fun h => ?_) (fun h => ?_)
   ·have h : c ≠ 0 := h
    have hm := hc h
    have e1 : evT ⟨c, id, cf⟩ = lineT ([110, 111] :: numI c :: cf) := if_pos h
    rw [e1] at hlen ⊢
    have q2 := say_dspec u S t ([110, 111] :: numI c :: cf) hlen (by simp only [List.length_cons]; omega)
    rw [hu] at q2
    (conv => whnf)
    refine ⟨false, .grow, (.l [0, 1, 2, 5, 6, 3, 4, 7, 8]), by kernel_rfl, .inl ?_⟩
    (conv => whnf)
    refine cl [] [] (hm.d) ?_
    (conv => whnf)
    refine ⟨[[110, 111], numI c], rfl, ?_⟩
    (conv => whnf)
    refine ⟨_, _, rfl, rfl, (by simp only [List.length_append, List.length_cons, List.length_nil]; omega), ?_⟩
    (conv => whnf)
    refine clF (mD 24) (dSt (24 + 24) ((d22 ++ [.box (encStp x), .box (encEvt ⟨c, id, cf⟩)]) ++ d22 ++ [] ++ [.dead, .row 1 (List UInt8) encS ([110, 111] :: numI c :: cf)]) true S (t ++ lineT ([110, 111] :: numI c :: cf))) q2 ?_
    (conv => whnf)
    exact rxF (rD 48)
   ·have h : c = 0 := h
    have hm := hi h
    have e1 : evT ⟨c, id, cf⟩ = lineT [[111, 107], numI id] := if_neg (fun g => g h)
    rw [e1] at hlen ⊢
    have q2 := say_dspec u S t [[111, 107], numI id] hlen (by simp)
    rw [hu] at q2
    (conv => whnf)
    refine cl [] [] (hm.d) ?_
    (conv => whnf)
    refine ⟨[[111, 107], numI id], rfl, ?_⟩
    (conv => whnf)
    refine clF (mD 24) (dSt 47 ((d22 ++ [.box (encStp x), .box (encEvt ⟨c, id, cf⟩)]) ++ d22 ++ [] ++ [.row 1 (List UInt8) encS [[111, 107], numI id]]) true S (t ++ lineT [[111, 107], numI id])) q2 ?_
    (conv => whnf)
    exact rxF (rD 47))
end Go.Nest
end
/- part -/
section

namespace Go.Nest
open Go Go.AM Go.Proofs
open Go.Proofs.YtpechfcbnoggfaaGreatDoor (tab tabOk)
set_option maxRecDepth 100000
def chLn (x : Ch) : List UInt8 := lineT [modeT x.old.mode, modeT x.new.mode, x.path]
def statT (R : List Ch × Int) : List UInt8 := if R.2 ≠ 0 then noT R.2 else R.1.flatMap chLn ++ endT
set_option maxHeartbeats 4000000 in
theorem status_dspec (u : Bool) (s : FS) (hw : FWf s) (t : List UInt8) (r : Int) (hl : (statF s r).1.length ≤ 100000) (hm : ∀ x ∈ (statF s r).1, (0 ≤ x.old.mode ∧ x.old.mode < 4) ∧ (0 ≤ x.new.mode ∧ x.new.mode < 4)) (hn : (statF s r).2 ≠ 0 → NumOk (statF s r).2) (hlen : (t ++ statT (statF s r)).length ≤ 100000000) :
  Does Tryz.prog 192 [.c (.ptr 11 0), .c (.int .i64 r)] (dIn u s t) (Rt (.tup []) (dOut true (statS s r) (t ++ statT (statF s r)))) := by
 have p := onForRow (u := u) (t := t) (status_fspec s hw r)
 generalize statS s r = S at p ⊢
 generalize statF s r = R at p hl hm hn hlen ⊢
 obtain ⟨l, c⟩ := R
 dsimp only at p hl hm hn
 refine X_spec (n := 45) (n0 := 34) tabOk Tryz.call192 Tryz.func192 ?_
 intro hb
 cases hu : u <;> (
  rw [hu] at p
  (conv => whnf)
  refine clF (mD 0) (dSt 22 d22 u S t ++ [.row 9 Ch encCh l]) p ?_ (hZ := by rw [hu]; kernel_rfl)
  rw [hu]
  (conv => whnf)
  refine decN (fun hc => ?_) (fun hc => ?_)
  ·have hc : c ≠ 0 := hc
   have e : statT (l, c) = noT c := if_pos hc
   have hmm := hn hc
   rw [e] at hlen ⊢
   have q2 := say_dspec u S t [[110, 111], numI c] (by rw [List.length_append] at hlen; exact hlen) (by simp)
   rw [hu] at q2
   (conv => whnf)
   refine cl [] [] (hmm.d) ?_
   (conv => whnf)
   refine ⟨[[110, 111], numI c], rfl, ?_⟩
   (conv => whnf)
   refine clF (mD 22) (dSt 46 (d22 ++ d22 ++ [.row 9 Ch encCh l, .row 1 (List UInt8) encS [[110, 111], numI c]]) true S (t ++ noT c)) q2 ?_
   (conv => whnf)
   exact rxF (rD 46)
  have hc : c = 0 := hc
  have e : statT (l, c) = l.flatMap chLn ++ endT := if_neg (fun h => h hc)
  obtain ⟨T, hg⟩ : ∃ T, Grows t l.length T (fun i => chLn (l.getD i ⟨[], ⟨[], 0, 0, 0⟩, ⟨[], 0, 0, 0⟩⟩)) (l.flatMap chLn) := ⟨_, Grows.of chLn t l _⟩
  have hT : ∀ i, i ≤ l.length → (T i).length ≤ (t ++ l.flatMap chLn).length := fun i hi => hg.len (k := l.length - i) (by omega)
  rw [e, ← List.append_assoc] at hlen ⊢
  rw [List.length_append] at hlen
  have h0 := hg.z
  have hE := hg.e
  have hS : ∀ i (h : i < l.length), T (i + 1) = T i ++ lineT [modeT l[i].old.mode, modeT l[i].new.mode, l[i].path] := fun i h => by
   have := hg.s i h
   rw [show l.getD i ⟨[], ⟨[], 0, 0, 0⟩, ⟨[], 0, 0, 0⟩⟩ = l[i] by rw [List.getD_eq_getElem?_getD, List.getElem?_eq_getElem h]; rfl] at this
   exact this
  clear hg
  generalize t ++ l.flatMap chLn = A at hlen hE hT ⊢
  (conv => whnf)
  refine lp (Nat × Bool) (fun p => ⟨[(0, .c (.ptr 11 0)), (24, .c (.rw 34)), (25, .c (.int .i64 l.length)), (26, .c (.int .i64 p.1))], dSt 23 (d22 ++ [.row 9 Ch encCh l]) p.2 S (T p.1)⟩) (fun p => p.1 ≤ l.length ∧ True) (fun p => l.length - p.1) (0, u) [] (rDs (.same 56 :: [.same 34, .same 35, .same 36, .same 37, .same 38, .same 39, .same 40, .same 41, .same 42, .same 43, .same 44, .same 45, .same 46, .same 47, .same 48, .same 49, .same 50, .same 51, .same 52, .same 53, .same 54, .same 55])) ⟨Nat.zero_le _, trivial⟩ (by rw [h0, hu]; exact leF) (fun ⟨i, v⟩ hi => ?_)
  obtain ⟨hi, -⟩ := hi
  dsimp only at hi
  cases hv : v <;> (
   (conv => whnf)
   refine dec (fun h4 => ?_) (fun h4 => ?_)
   ·have hlt : i < l.length := by have h4 : (i : Int) < l.length := h4; omega
    have hiy : l[i]? = some l[i] := List.getElem?_eq_getElem hlt
    have hmd := hm _ (List.getElem_mem hlt)
    have hS := hS i hlt
    have hTi := hT (i + 1) hlt
    generalize l[i] = y at hiy hmd hS
    rw [hS, List.length_append] at hTi
    have q0 := mode_spec y.old hmd.1.1 hmd.1.2
    have q1 := mode_spec y.new hmd.2.1 hmd.2.2
    have q2 := say_dspec v S (T i) [modeT y.old.mode, modeT y.new.mode, y.path] (by omega) (by simp)
    rw [← hS, hv] at q2
    (conv => whnf)
    refine ⟨i, ⟨rfl, hlt⟩, ?_⟩
    (conv => whnf)
    refine ⟨y, hiy, ?_⟩
    (conv => whnf)
    refine ⟨false, .grow, (.l [0, 1, 2, 4, 5, 7, 8, 3, 6, 9, 10]), by kernel_rfl, .inl ?_⟩
    (conv => whnf)
    refine cl [] [] (q0) ?_
    (conv => whnf)
    refine cl [] [] (q1) ?_
    (conv => whnf)
    refine ⟨[modeT y.old.mode, modeT y.new.mode, y.path], rfl, ?_⟩
    (conv => whnf)
    refine clF (mD 23) (dSt 47 (d22 ++ [.row 9 Ch encCh l] ++ d22 ++ [.box (encCh y), .row 1 (List UInt8) encS [modeT y.old.mode, modeT y.new.mode, y.path]]) true S (T (i + 1))) q2 ?_
    repeat' ((conv => whnf); refine I6 ?_)
    refine ag (i + 1, true) [] (rD1 47) ⟨hlt, trivial⟩ (by simp only []; omega) ?_
    exact leF
   ·obtain rfl : i = l.length := by have h4 : ¬ (i : Int) < l.length := h4; omega
    rw [hE]
    have q2 := say_dspec v S A [[101, 110, 100]] hlen (by simp)
    rw [hv] at q2
    (conv => whnf)
    refine ⟨[[101, 110, 100]], rfl, ?_⟩
    (conv => whnf)
    refine clF (mD 23) (dSt 46 (d22 ++ [.row 9 Ch encCh l] ++ d22 ++ [.row 1 (List UInt8) encS [[101, 110, 100]]]) true S (A ++ endT)) q2 ?_
    (conv => whnf)
    exact rxF (rD 46)))
end Go.Nest
end
