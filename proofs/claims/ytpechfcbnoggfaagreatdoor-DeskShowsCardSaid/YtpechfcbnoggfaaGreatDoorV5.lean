/- part -/
import Derived.Test.YtpechfcbnoggfaaGreatDoorAmG
import Derived.Test.YtpechfcbnoggfaaGreatDoorK12
import Derived.Test.YtpechfcbnoggfaaGreatDoorD24
import Derived.Test.YtpechfcbnoggfaaGreatDoorW2
import Derived.Test.YtpechfcbnoggfaaGreatDoorG9
import Derived.Test.YtpechfcbnoggfaaGreatDoorV12
import Derived.Test.YtpechfcbnoggfaaGreatDoorAmX
import Derived.Test.YtpechfcbnoggfaaGreatDoorL0
import Derived.Shelf.Sort.Plain
import Derived.Test.YtpechfcbnoggfaaGreatDoorProg
import Derived.KernelRfl
import Derived.Test.YtpechfcbnoggfaaGreatDoorD2
import Derived.Test.YtpechfcbnoggfaaGreatDoorW10
import Derived.Test.YtpechfcbnoggfaaGreatDoorV1
import Derived.Test.YtpechfcbnoggfaaGreatDoorP9
import Derived.Test.YtpechfcbnoggfaaGreatDoorE0
import Derived.Test.YtpechfcbnoggfaaGreatDoorAmL
import Derived.Shelf.SlSortCmp.NoneTotal
import Derived.Test.YtpechfcbnoggfaaGreatDoorHeap
import Derived.Shelf.Bytes.SlJoin
import Derived.Test.YtpechfcbnoggfaaGreatDoorChecked
import Derived.Lib.BytesEntry
import Derived.Laws.Externs
import Derived.Lib.SliceRun
import Derived.Lib.Bytealg
set_option linter.unusedVariables false
set_option linter.unusedSimpArgs false
section

namespace Go.Nest
open Go Go.AM
structure FWf (s : FS) : Prop where
 pool : PoolOk s.L
 bor : BorOk s.b
 own : ∀ k, k < 4 → (s.o k).length ≤ 1000000
 sort : ∀ k, k < 4 → RSort (s.n k)
 ids : ∀ k, k < 4 → ∀ x ∈ s.n k, 0 ≤ x.id
 few : ∀ k, k < 4 → (s.n k).length ≤ 8
 moves : ∀ k, k < 4 → (s.m k).length ≤ 990
 paths : ∀ k, k < 4 → ∀ y ∈ s.w k, y.path.length ≤ 4000000
 items : ∀ k, k < 4 → (s.w k).length ≤ 60
 bytes : ∀ k, k < 4 → ∀ y ∈ s.w k, y.bytes.length ≤ 400
 head : ∀ k, k < 4 → HOk s.L (s.h k)
def ledF (s : FS) (r : Int) (name : List UInt8) : Int × Int := if isR r = false then (0, 1) else if getR (s.n r.toNat) name < 0 then (0, 9) else (getR (s.n r.toNat) name, 0)
def copyN (l : List Rf) : List Rf × List Mv := l.foldl (fun p y => (setL p.1 y.name (-1) y.id, setV p.1 p.2 y.name (-1) y.id)) ([], [])
def namedF (l : List Rf) (name : List UInt8) : Int := codeR (copyN l).1 name (getR (copyN l).1 name) 600
def setC (s : FS) (r : Nat) (name : List UInt8) (id : Int) : Int := codeR (s.n r) name (getR (s.n r) name) id
def setS (s : FS) (r : Nat) (name : List UInt8) (id : Int) : FS := s.setN r (setL (s.n r) name (getR (s.n r) name) id) (setV (s.n r) (s.m r) name (getR (s.n r) name) id)
noncomputable def addS (s : FS) (r : Nat) (id : Int) : FS := s.setO (addO s.L s.o s.b r [id])
def leadC (s : FS) (r : Nat) (name : List UInt8) (id : Int) : Int := if setC s r name id ≠ 0 ∧ setC s r name id ≠ 17 then setC s r name id else addC s.L r [id]
noncomputable def leadS (s : FS) (r : Nat) (name : List UInt8) (id : Int) : FS := if setC s r name id ≠ 0 ∧ setC s r name id ≠ 17 then setS s r name id else addS (setS s r name id) r id
def writeE (s : FS) (r : Nat) (p b : List UInt8) : Evt := evF 0 (wrW (s.w r) p b).1
def writeS (s : FS) (r : Nat) (p b : List UInt8) : FS := s.setW r s.L (wrW (s.w r) p b).2 (s.h r)
def comS (s : FS) (r : Nat) (text : List UInt8) (others : List Int) : FS := s.setW r (commW s.L (s.w r) (s.h r) text others).2.2 (s.w r) (headW s.L (s.w r) (s.h r) text others)
def commitE (s : FS) (r : Nat) (name text : List UInt8) : Evt :=
 if namedF (s.n r) name ≠ 0 then ⟨namedF (s.n r) name, 0, []⟩ else
 if (commW s.L (s.w r) (s.h r) text []).2.1 ≠ 0 then ⟨(commW s.L (s.w r) (s.h r) text []).2.1, 0, []⟩ else
 evF (commW s.L (s.w r) (s.h r) text []).1 (leadC (comS s r text []) r name (commW s.L (s.w r) (s.h r) text []).1)
noncomputable def commitS (s : FS) (r : Nat) (name text : List UInt8) : FS :=
 if namedF (s.n r) name ≠ 0 then s else
 if (commW s.L (s.w r) (s.h r) text []).2.1 ≠ 0 then comS s r text [] else
 leadS (comS s r text []) r name (commW s.L (s.w r) (s.h r) text []).1
end Go.Nest
end
/- part -/
section

namespace Go.Nest
open Go Go.AM Go.Proofs
open Go.Proofs.YtpechfcbnoggfaaGreatDoor (tab tabOk)
set_option maxRecDepth 100000
theorem frepo_spec (r : Int) : Does Tryz.prog 53 [.c (.int .i64 r)] [] (Rt (.c (.bool (isR r))) []) := by
 refine X_spec (n := 9) (n0 := 0) tabOk Tryz.call53 Tryz.func53 ?_
 intro hb
 unfold isR
 (conv => whnf)
 refine dec (fun h => ?_) (fun h => ?_)
 ·have h : 0 ≤ r := h
  rw [decide_eq_true h, Bool.true_and]
  (conv => whnf)
  exact rtB rfl
 ·have h : ¬ 0 ≤ r := h
  rw [decide_eq_false h, Bool.false_and]
  (conv => whnf)
  exact rtB rfl
theorem cloI (n : Int) : ClosedA (.c (.int .i64 n)) := ⟨fun _ _ => rfl, fun _ => rfl, rfl⟩
theorem cloI2 (n m : Int) : ClosedA (.tup [(false, [.int .i64 n]), (false, [.int .i64 m])]) := ⟨fun _ _ => ⟨⟨rfl, rfl, trivial⟩, ⟨rfl, rfl, trivial⟩, trivial⟩, fun _ => rfl, rfl⟩
theorem evF_0 {id c : Int} (h : c = 0) : evF id c = ⟨0, id, []⟩ := by unfold evF; rw [if_neg (by simp [h])]
theorem evF_c {id c : Int} (h : c ≠ 0) : evF id c = ⟨c, 0, []⟩ := if_pos h
theorem event_spec (id c : Int) : Does Tryz.prog 54 [.c (.int .i64 id), .c (.int .i64 c)] [] (Rt (.st (encEvt (evF id c))) []) := by
 refine X_spec (n := 11) (n0 := 0) tabOk Tryz.call54 Tryz.func54 ?_
 intro hb
 (conv => whnf)
 refine decN (fun h => ?_) (fun h => ?_)
 ·rw [evF_c h]
  (conv => whnf)
  exact rx [] []
 ·rw [evF_0 h]
  (conv => whnf)
  exact rx [] []
theorem led_spec (s : FS) (hw : FWf s) (r : Int) (name : List UInt8) : Does Tryz.prog 121 [.c (.bp (forC s)), .c (.int .i64 r), .c (.str name)] [] (Rt (.tup [(false, [.int .i64 (ledF s r name).1]), (false, [.int .i64 (ledF s r name).2])]) []) := by
 refine X_spec (n := 24) (n0 := 0) tabOk Tryz.call121 Tryz.func121 ?_
 intro hb
 (conv => whnf)
 refine cl [] [] (frepo_spec r) ?_
 (conv => whnf)
 refine booN (fun h => ?_) (fun h => ?_)
 ·rw [show ledF s r name = _ from if_pos h]
  (conv => whnf)
  exact rx [] []
 obtain ⟨i, hi, rfl⟩ := isR_iff.1 h
 have e : ledF s (i : Int) name = if getR (s.n i) name < 0 then (0, 9) else (getR (s.n i) name, 0) := if_neg (by rw [h]; decide)
 have p := getRefs_spec (s.n i) (s.m i) name (hw.sort i hi) (by have := hw.few i hi; omega)
 rw [e]
 rcases four hi with rfl | rfl | rfl | rfl <;> (
  (conv => whnf)
  refine ⟨_, ⟨rfl, by decide⟩, ?_⟩
  (conv => whnf)
  refine cl [] [] (p) ?_
  (conv => whnf)
  refine dec (fun h2 => ?_) (fun h2 => ?_)
  ·rw [if_pos h2]
   (conv => whnf)
   exact rx [] []
  ·rw [if_neg h2]
   (conv => whnf)
   exact rx [] [])
def cpN (p : List Rf × List Mv) (y : Rf) : List Rf × List Mv := (setL p.1 y.name (-1) y.id, setV p.1 p.2 y.name (-1) y.id)
theorem copyN_eq (l : List Rf) : copyN l = l.foldl cpN ([], []) := rfl
theorem cp_refd {p : List Rf × List Mv} (h : Refd p.1 p.2) (y : Rf) : Refd (cpN p y).1 (cpN p y).2 ∧ (cpN p y).2.length ≤ p.2.length + 1 := by
 unfold cpN setL setV
 by_cases hc : codeR p.1 y.name (-1) y.id = 0
 ·simp only [if_pos hc]
  exact ⟨.snoc h hc, by simp⟩
 ·simp only [if_neg hc]
  exact ⟨h, Nat.le_succ _⟩
theorem copyN_refd : ∀ {l : List Rf} {p : List Rf × List Mv}, Refd p.1 p.2 → Refd (l.foldl cpN p).1 (l.foldl cpN p).2 ∧ (l.foldl cpN p).2.length ≤ p.2.length + l.length
 | [], p, h => ⟨h, by simp⟩
 | y :: l, p, h => by
  have h1 := cp_refd h y
  have h2 := copyN_refd (l := l) h1.1
  rw [List.foldl_cons, List.length_cons]
  exact ⟨h2.1, by omega⟩
theorem copyN_ok (l : List Rf) : RfInv (copyN l).1 (copyN l).2 ∧ (copyN l).2.length ≤ l.length := by
 have := copyN_refd (l := l) (p := ([], [])) .nil
 rw [copyN_eq]
 exact ⟨this.1.inv, by simpa using this.2⟩
theorem copyN_succ {l : List Rf} {i : Nat} (h : i < l.length) : copyN (l.take (i + 1)) = cpN (copyN (l.take i)) l[i] := by
 rw [copyN_eq, copyN_eq, List.take_succ_eq_append_getElem h, List.foldl_append]; rfl
set_option maxHeartbeats 2000000 in
theorem named_spec (s : FS) (hw : FWf s) {i : Nat} (hi : i < 4) (name : List UInt8) : Does Tryz.prog 123 [.c (.bp (forC s)), .c (.int .i64 (i : Nat)), .c (.str name)] [] (Rt (.c (.int .i64 (namedF (s.n i) name))) []) := by
 refine X_spec (n := 41) (n0 := 0) tabOk Tryz.call123 Tryz.func123 ?_
 intro hb
 have hfew := hw.few i hi
 have p := listRefs_spec (s.n i) (s.m i) (by omega)
 (conv => whnf)
 refine cl [] [] (newRefs_spec) ?_
 have fin : ∀ l : List Rf, l.length ≤ 8 → namedF l name = codeR (copyN l).1 name (getR (copyN l).1 name) 600 := fun _ _ => rfl
 have hok := copyN_ok
 have hsu := @copyN_succ
 have h0 : copyN [] = ([], []) := rfl
 rcases four hi with rfl | rfl | rfl | rfl <;> (
  (conv => whnf)
  refine ⟨_, ⟨rfl, by decide⟩, ?_⟩
  (conv => whnf)
  refine cl [] [] (p) ?_
  generalize s.n _ = l at hfew ⊢
  rw [fin l hfew]
  generalize copyN = cp at hok hsu h0 ⊢
  (conv => whnf)
  refine lp Nat (fun i => ⟨[(0, .c (.bp (forC s))), (2, .c (.str name)), (7, .c (.ptr 0 0)), (19, .c (.rw 3)), (20, .c (.int .i64 l.length)), (21, .c (.int .i64 i))], [.box [.rw 1, .rw 2], .row 2 Rf encRf (cp (l.take i)).1, .row 3 Mv encMv (cp (l.take i)).2, .row 2 Rf encRf l]⟩) (fun i => i ≤ l.length ∧ True) (fun i => l.length - i) 0 [] [.same 0, .same 1, .same 2, .same 3] ⟨Nat.zero_le _, trivial⟩ ?_ (fun i hi => ?_)
  ·rw [List.take_zero, h0]
   repeat' first | exact trivial | exact rfl | refine And.intro ?_ ?_
  obtain ⟨hi, -⟩ := hi
  (conv => whnf)
  refine dec (fun h4 => ?_) (fun h4 => ?_)
  ·have hlt : i < l.length := by have h4 : (i : Int) < l.length := h4; omega
   have hiy : l[i]? = some l[i] := List.getElem?_eq_getElem hlt
   have hsu := hsu hlt
   obtain ⟨hv, hvl⟩ := hok (l.take i)
   rw [List.length_take] at hvl
   have q := setR_spec (cp (l.take i)).1 (cp (l.take i)).2 l[i].name (-1) l[i].id hv.sort hv.ids hv.len (by omega)
   have e1 : setL (cp (l.take i)).1 l[i].name (-1) l[i].id = (cp (l.take (i + 1))).1 := by rw [hsu]; rfl
   have e2 : setV (cp (l.take i)).1 (cp (l.take i)).2 l[i].name (-1) l[i].id = (cp (l.take (i + 1))).2 := by rw [hsu]; rfl
   rw [e1, e2] at q
   generalize l[i] = y at hiy q
   (conv => whnf)
   refine ⟨i, ⟨rfl, hlt⟩, ?_⟩
   (conv => whnf)
   refine ⟨y, hiy, ?_⟩
   (conv => whnf)
   refine cl [] [0, 1, 2] (q) ?_
   repeat' ((conv => whnf); refine I6 ?_)
   refine ag (i + 1) [] [.same 0, .same 5, .same 6, .same 3] ⟨hlt, trivial⟩ (by simp only []; omega) ?_
   repeat' first | exact trivial | exact rfl | refine And.intro ?_ ?_
  ·obtain rfl : i = l.length := by have h4 : ¬ (i : Int) < l.length := h4; omega
   rw [List.take_length]
   obtain ⟨hv, hvl⟩ := hok l
   generalize cp l = R at hv hvl ⊢
   obtain ⟨x, m⟩ := R
   dsimp only at hv hvl ⊢
   have q1 := getRefs_spec x m name hv.sort (by have := hv.len; omega)
   have q2 := setR_spec x m name (getR x name) 600 hv.sort hv.ids hv.len (by omega)
   (conv => whnf)
   refine cl [] [] (q1) ?_
   (conv => whnf)
   refine cl [] [0, 1, 2] (q2) ?_
   (conv => whnf)
   refine decN (fun h => ?_) (fun h => ?_)
   ·(conv => whnf)
    exact rtI rfl
   ·have h : codeR x name (getR x name) 600 = 0 := h
    rw [h]
    (conv => whnf)
    exact rtI rfl)
set_option maxHeartbeats 2000000 in
theorem lead_spec (s : FS) (hw : FWf s) {i : Nat} (hi : i < 4) (name : List UInt8) (id : Int) : Does Tryz.prog 125 [.c (.ptr 0 0), .c (.int .i64 (i : Nat)), .c (.str name), .c (.int .i64 id)] (fIn s) (Rt (.c (.int .i64 (leadC s i name id))) (fOut (leadS s i name id))) := by
 refine X_spec (n := 44) (n0 := 32) tabOk Tryz.call125 Tryz.func125 ?_
 intro hb
 have p1 := getRefs_spec (s.n i) (s.m i) name (hw.sort i hi) (by have := hw.few i hi; omega)
 have p2 := onRefs (s := s) hi (setR_spec (s.n i) (s.m i) name (getR (s.n i) name) id (hw.sort i hi) (hw.ids i hi) (hw.few i hi) (by have := hw.moves i hi; omega)) (cloI _)
 have p2 : Does Tryz.prog _ _ (fIn s) (Rt (.c (.int .i64 (setC s i name id))) (fOut (setS s i name id))) := p2
 have p3 := onOwn (s := setS s i name id) (addD_dspec s.L hw.pool s.o s.b hw.bor hw.own (i : Int) [id] (by simp)) (cloI _)
 have p3 : Does Tryz.prog _ _ (fIn (setS s i name id)) (Rt (.c (.int .i64 (addC s.L i [id]))) (fOut (addS (setS s i name id) i id))) := p3
 have e1 : leadC s i name id = if setC s i name id ≠ 0 ∧ setC s i name id ≠ 17 then setC s i name id else addC s.L i [id] := rfl
 have e2 : leadS s i name id = if setC s i name id ≠ 0 ∧ setC s i name id ≠ 17 then setS s i name id else addS (setS s i name id) i id := rfl
 rw [e1, e2]
 clear e1 e2
 generalize setC s i name id = c at p2 ⊢
 generalize addS (setS s i name id) i id = s2 at p3 ⊢
 generalize setS s i name id = s1 at p2 p3 ⊢
 have fin1 : c ≠ 0 ∧ c ≠ 17 → (if c ≠ 0 ∧ c ≠ 17 then c else addC s.L i [id]) = c ∧ (if c ≠ 0 ∧ c ≠ 17 then s1 else s2) = s1 := fun h => ⟨if_pos h, if_pos h⟩
 have fin2 : ¬ (c ≠ 0 ∧ c ≠ 17) → (if c ≠ 0 ∧ c ≠ 17 then c else addC s.L i [id]) = addC s.L i [id] ∧ (if c ≠ 0 ∧ c ≠ 17 then s1 else s2) = s2 := fun h => ⟨if_neg h, if_neg h⟩
 generalize (if c ≠ 0 ∧ c ≠ 17 then c else addC s.L i [id]) = C at fin1 fin2 ⊢
 generalize (if c ≠ 0 ∧ c ≠ 17 then s1 else s2) = S at fin1 fin2 ⊢
 rcases four hi with rfl | rfl | rfl | rfl <;> (
  (conv => whnf)
  refine ⟨false, .grow, (.l [0, 1, 2, 3, 4, 5, 6, 7, 8, 9, 10, 11, 12, 13, 14, 15, 17, 16, 18, 19]), by kernel_rfl, .inl ?_⟩
  (conv => whnf)
  refine ⟨_, ⟨rfl, by decide⟩, ?_⟩
  (conv => whnf)
  refine ⟨_, ⟨rfl, by decide⟩, ?_⟩
  (conv => whnf)
  refine cl [] [] (p1) ?_
  (conv => whnf)
  refine clF (mF 0) (fSt 21 d21 s1) p2 ?_
  (conv => whnf)
  have two : (c ≠ 0 ∧ c ≠ 17) ∨ ¬ (c ≠ 0 ∧ c ≠ 17) := Decidable.em _
  refine decN (fun h1 => ?_) (fun h1 => ?_)
  ·(conv => whnf)
   refine decN (fun h2 => ?_) (fun h2 => ?_)
   ·obtain ⟨rfl, rfl⟩ := fin1 ⟨h1, h2⟩
    (conv => whnf)
    exact rxF (rF 21)
   ·obtain ⟨rfl, rfl⟩ := fin2 (fun h => h.2 h2)
    (conv => whnf)
    refine ⟨[id], rfl, ?_⟩
    (conv => whnf)
    refine clF (mF 21) (fSt 43 (d21 ++ (d21 ++ [.row 1 Int encI [id]])) S) p3 ?_
    (conv => whnf)
    exact rxF (rF 43)
  ·obtain ⟨rfl, rfl⟩ := fin2 (fun h => h.1 h1)
   (conv => whnf)
   refine ⟨[id], rfl, ?_⟩
   (conv => whnf)
   refine clF (mF 21) (fSt 43 (d21 ++ (d21 ++ [.row 1 Int encI [id]])) S) p3 ?_
   (conv => whnf)
   exact rxF (rF 43))
end Go.Nest
end
/- part -/
section

namespace Go.Nest
open Go Go.AM Go.Proofs
open Go.Proofs.YtpechfcbnoggfaaGreatDoor (tab tabOk)
set_option maxRecDepth 100000
def docsF (s : FS) (r : Int) : List Dc := if isR r = false then [] else (s.w r.toNat).map docW
def refsF (s : FS) (r : Int) : List Rf := if isR r = false then [] else s.n r.toNat
def headF (s : FS) (r : Int) : Int := if isR r = false then -1 else s.h r.toNat
def statF (s : FS) (r : Int) : List Ch × Int := if isR r = false then ([], 1) else statusW s.L (s.w r.toNat) (s.h r.toNat)
def statS (s : FS) (r : Int) : FS := if isR r = false then s else s.setW r.toNat (filesW s.L (s.w r.toNat) []).2.2 (s.w r.toNat) (s.h r.toNat)
theorem docs_fspec (s : FS) (hw : FWf s) (r : Int) : Does Tryz.prog 25 [.c (.bp (forC s)), .c (.int .i64 r)] [] (Rt (.c (.rw 0)) [.row 2 Dc encDc (docsF s r)]) := by
 unfold docsF
 refine X_spec (n := 16) (n0 := 0) tabOk Tryz.call25 Tryz.func25 ?_
 intro hb
 (conv => whnf)
 refine cl [] [] (frepo_spec r) ?_
 (conv => whnf)
 refine booN (fun h => ?_) (fun h => ?_)
 ·rw [if_pos h]
  (conv => whnf)
  exact rx [] [.new]
 obtain ⟨i, hi, rfl⟩ := isR_iff.1 h
 have p := docs_wspec s.L (s.w i) (s.h i) (hw.items i hi) (hw.bytes i hi)
 rw [if_neg (by rw [h]; decide)]
 rcases four hi with rfl | rfl | rfl | rfl <;> (
  (conv => whnf)
  refine ⟨_, ⟨rfl, by decide⟩, ?_⟩
  (conv => whnf)
  refine cl [] [] (p) ?_
  (conv => whnf)
  exact rx [] [.same 0])
theorem refs_fspec (s : FS) (hw : FWf s) (r : Int) : Does Tryz.prog 26 [.c (.bp (forC s)), .c (.int .i64 r)] [] (Rt (.c (.rw 0)) [.row 2 Rf encRf (refsF s r)]) := by
 unfold refsF
 refine X_spec (n := 16) (n0 := 0) tabOk Tryz.call26 Tryz.func26 ?_
 intro hb
 (conv => whnf)
 refine cl [] [] (frepo_spec r) ?_
 (conv => whnf)
 refine booN (fun h => ?_) (fun h => ?_)
 ·rw [if_pos h]
  (conv => whnf)
  exact rx [] [.new]
 obtain ⟨i, hi, rfl⟩ := isR_iff.1 h
 have p := listRefs_spec (s.n i) (s.m i) (by have := hw.few i hi; omega)
 rw [if_neg (by rw [h]; decide)]
 rcases four hi with rfl | rfl | rfl | rfl <;> (
  (conv => whnf)
  refine ⟨_, ⟨rfl, by decide⟩, ?_⟩
  (conv => whnf)
  refine cl [] [] (p) ?_
  (conv => whnf)
  exact rx [] [.same 0])
theorem head_fspec (s : FS) (hw : FWf s) (r : Int) : Does Tryz.prog 27 [.c (.bp (forC s)), .c (.int .i64 r)] [] (Rt (.c (.int .i64 (headF s r))) []) := by
 unfold headF
 refine X_spec (n := 16) (n0 := 0) tabOk Tryz.call27 Tryz.func27 ?_
 intro hb
 (conv => whnf)
 refine cl [] [] (frepo_spec r) ?_
 (conv => whnf)
 refine booN (fun h => ?_) (fun h => ?_)
 ·rw [if_pos h]
  (conv => whnf)
  exact rtI rfl
 obtain ⟨i, hi, rfl⟩ := isR_iff.1 h
 have p := head_wspec s.L (s.w i) (s.h i)
 rw [if_neg (by rw [h]; decide)]
 rcases four hi with rfl | rfl | rfl | rfl <;> (
  (conv => whnf)
  refine ⟨_, ⟨rfl, by decide⟩, ?_⟩
  (conv => whnf)
  refine cl [] [] (p) ?_
  (conv => whnf)
  exact rtI rfl)
theorem onWorkRow {f : FuncId} {s : FS} {r : Nat} (hr : r < 4) {L : List Ob} {l : List It} {h : Int} {sz : Nat} {α : Type} {enc : α → List C} {x : List α} {c : Int} (hs : Does Tryz.prog f [.c (.ptr 0 0)] [.box [.ptr 1 0, .rw 3, .int .i64 (s.h r)], .box [.rw 2], .row 6 Ob encOb s.L, .row 5 It encIt (s.w r)] (Rt (.tup [(false, [.rw 6]), (false, [.int .i64 c])]) ([.box [.ptr 1 0, .rw 5, .int .i64 h], .box [.rw 4], .dead, .dead, .row 6 Ob encOb L, .row 5 It encIt l] ++ [.row sz α enc x]))) :
  Does Tryz.prog f [.c (.ptr (3 + 2 * r) 0)] (fIn s) (Rt (.tup [(false, [.rw 53]), (false, [.int .i64 c])]) (fOut (s.setW r L l h) ++ [.row sz α enc x])) := by
 refine DoesD.frame [3 + 2 * r, 10, 11, 28 + r] (rP (fun i => bif Nat.beq i 11 then 32 else bif Nat.beq i (28 + r) then 33 else i) ++ [.same 34]) hs ?_ rfl rfl ?_ rfl
 ·rcases four hr with rfl | rfl | rfl | rfl <;> exact callOk_of ⟨rfl, trivial⟩
 ·rcases four hr with rfl | rfl | rfl | rfl <;> exact lex_of ⟨⟨rfl, rfl, trivial⟩, ⟨rfl, rfl, trivial⟩, trivial⟩
theorem status_fspec (s : FS) (hw : FWf s) (r : Int) : Does Tryz.prog 35 [.c (.ptr 0 0), .c (.int .i64 r)] (fIn s) (Rt (.tup [(false, [.rw 53]), (false, [.int .i64 (statF s r).2])]) (fOut (statS s r) ++ [.row 9 Ch encCh (statF s r).1])) := by
 unfold statF statS
 refine X_spec (n := 19) (n0 := 32) tabOk Tryz.call35 Tryz.func35 ?_
 intro hb
 (conv => whnf)
 refine cl [] [] (frepo_spec r) ?_
 (conv => whnf)
 refine booN (fun h => ?_) (fun h => ?_)
 ·rw [if_pos h, if_pos h]
  (conv => whnf)
  exact rx [] (rF 0 ++ [.new])
 obtain ⟨i, hi, rfl⟩ := isR_iff.1 h
 have p := onWorkRow (s := s) hi (status_wspec s.L hw.pool (s.w i) (s.h i) (hw.paths i hi) (hw.items i hi))
 rw [if_neg (by rw [h]; decide), if_neg (by rw [h]; decide)]
 rw [Int.toNat_natCast]
 generalize statusW s.L (s.w i) (s.h i) = R at p ⊢
 generalize s.setW i (filesW s.L (s.w i) []).2.2 (s.w i) (s.h i) = s1 at p ⊢
 rcases four hi with rfl | rfl | rfl | rfl <;> (
  (conv => whnf)
  refine ⟨_, ⟨rfl, by decide⟩, ?_⟩
  (conv => whnf)
  refine clF (mF 0) (fSt 21 d21 s1 ++ [.row 9 Ch encCh R.1]) p ?_
  (conv => whnf)
  exact rxF (rF 21 ++ [.same 53]))
set_option maxHeartbeats 4000000 in
theorem commit_fspec (s : FS) (hw : FWf s) {i : Nat} (hi : i < 4) (x : Stp) (hx : x.r = i) (hl : FWf (comS s i x.text [])) : Does Tryz.prog 58 [.c (.ptr 0 0), .st (encStp x)] (fIn s) (Rt (.st (encEvt (commitE s i x.name x.text))) (fOut (commitS s i x.name x.text))) := by
 have p1 := named_spec s hw hi x.name
 have p2 := onWork (s := s) hi (commit_wspec s.L hw.pool (s.w i) (s.h i) (hw.paths i hi) (hw.items i hi) x.text [] (by decide) (hw.head i hi)) (cloI2 _ _)
 have p2 : Does Tryz.prog _ _ (fIn s) (Rt _ (fOut (comS s i x.text []))) := p2
 have p3 := lead_spec _ hl hi x.name (commW s.L (s.w i) (s.h i) x.text []).1
 have p4 := event_spec (commW s.L (s.w i) (s.h i) x.text []).1 (leadC (comS s i x.text []) i x.name (commW s.L (s.w i) (s.h i) x.text []).1)
 unfold commitE commitS
 clear hl
 generalize leadC (comS s i x.text []) i x.name (commW s.L (s.w i) (s.h i) x.text []).1 = c3 at p3 p4 ⊢
 generalize leadS (comS s i x.text []) i x.name (commW s.L (s.w i) (s.h i) x.text []).1 = s3 at p3 ⊢
 generalize comS s i x.text [] = s2 at p2 p3 ⊢
 generalize commW s.L (s.w i) (s.h i) x.text [] = R at p2 p3 p4 ⊢
 obtain ⟨id, c2, L2⟩ := R
 dsimp only at p2 p3 p4 ⊢
 generalize namedF (s.n i) x.name = c1 at p1 ⊢
 generalize evF id c3 = e4 at p4 ⊢
 obtain ⟨e41, e42, e43⟩ := e4
 have f1 : c1 ≠ 0 → (if c1 ≠ 0 then (⟨c1, 0, []⟩ : Evt) else if c2 ≠ 0 then ⟨c2, 0, []⟩ else ⟨e41, e42, e43⟩) = ⟨c1, 0, []⟩ ∧ (if c1 ≠ 0 then s else if c2 ≠ 0 then s2 else s3) = s := fun h => ⟨if_pos h, if_pos h⟩
 have f2 : c1 = 0 → c2 ≠ 0 → (if c1 ≠ 0 then (⟨c1, 0, []⟩ : Evt) else if c2 ≠ 0 then ⟨c2, 0, []⟩ else ⟨e41, e42, e43⟩) = ⟨c2, 0, []⟩ ∧ (if c1 ≠ 0 then s else if c2 ≠ 0 then s2 else s3) = s2 := fun h g => ⟨(if_neg (fun k => k h)).trans (if_pos g), (if_neg (fun k => k h)).trans (if_pos g)⟩
 have f3 : c1 = 0 → c2 = 0 → (if c1 ≠ 0 then (⟨c1, 0, []⟩ : Evt) else if c2 ≠ 0 then ⟨c2, 0, []⟩ else ⟨e41, e42, e43⟩) = ⟨e41, e42, e43⟩ ∧ (if c1 ≠ 0 then s else if c2 ≠ 0 then s2 else s3) = s3 := fun h g => ⟨(if_neg (fun k => k h)).trans (if_neg (fun k => k g)), (if_neg (fun k => k h)).trans (if_neg (fun k => k g))⟩
 generalize (if c1 ≠ 0 then (⟨c1, 0, []⟩ : Evt) else if c2 ≠ 0 then ⟨c2, 0, []⟩ else ⟨e41, e42, e43⟩) = E at f1 f2 f3 ⊢
 generalize (if c1 ≠ 0 then s else if c2 ≠ 0 then s2 else s3) = S at f1 f2 f3 ⊢
 rw [← hx] at p1 p3
 refine X_spec (n := 45) (n0 := 32) tabOk Tryz.call58 Tryz.func58 ?_
 intro hb
 (conv => whnf)
 refine cl [] [] (p1) ?_
 (conv => whnf)
 refine decN (fun h1 => ?_) (fun h1 => ?_)
 ·obtain ⟨rfl, rfl⟩ := f1 h1
  (conv => whnf)
  exact rxF (rF 0)
 have hxi : x.r = (i : Nat) := hx
 rcases four hi with rfl | rfl | rfl | rfl <;> (
  (conv => whnf)
  refine ⟨false, .grow, (.l [0, 1, 2, 3, 4, 5, 6, 7, 8, 9, 10, 11, 12, 13, 14, 15]), by kernel_rfl, .inl ?_⟩
  (conv => whnf)
  refine ⟨_, ⟨hxi, by decide⟩, ?_⟩
  (conv => whnf)
  refine clF (mF 0) (fSt 23 (d21 ++ [.box (encStp x), .box [.int .i64 0, .int .i64 0, .nil]]) s2) p2 ?_
  (conv => whnf)
  refine decN (fun h2 => ?_) (fun h2 => ?_)
  ·obtain ⟨rfl, rfl⟩ := f2 h1 h2
   (conv => whnf)
   exact rxF (rF 23)
  obtain ⟨rfl, rfl⟩ := f3 h1 h2
  (conv => whnf)
  refine clF (mF 23) (fSt 44 (d21 ++ [.box (encStp x), .box [.int .i64 0, .int .i64 0, .nil]] ++ d21) S) p3 ?_
  (conv => whnf)
  refine cl [] [] (p4) ?_
  (conv => whnf)
  exact rxF (rF 44))
end Go.Nest
end
/- part -/
section

namespace Go.Nest
open Go Go.AM Go.Proofs
open Go.Proofs.YtpechfcbnoggfaaGreatDoor (tab tabOk)
set_option maxRecDepth 100000
set_option maxHeartbeats 4000000 in
theorem doWrite_spec (s : FS) (hw : FWf s) {i : Nat} (hi : i < 4) {r : Int} (hr : r = i) (q : Int) (p n t b : List UInt8) (hp : p.length ≤ 4000000) : Does Tryz.prog 22 [.c (.ptr 0 0), .st (encStp ⟨1, r, q, p, n, t, b⟩)] (fIn s) (Rt (.st (encEvt (writeE s i p b))) (fOut (writeS s i p b))) := by
 have p0 := frepo_spec r
 rw [isR_iff.2 ⟨i, hi, hr⟩] at p0
 have p1 := onWork (s := s) hi (write_wspec s.L (s.w i) (s.h i) p b hp (hw.paths i hi) (hw.items i hi)) (cloI _)
 obtain ⟨c, hc⟩ : ∃ c, (wrW (s.w i) p b).1 = c := ⟨_, rfl⟩
 rw [hc] at p1
 have p1 : Does Tryz.prog _ _ (fIn s) (Rt _ (fOut (writeS s i p b))) := p1
 have p2 := event_spec 0 c
 rw [show writeE s i p b = evF 0 c by unfold writeE; rw [hc]]
 generalize evF 0 c = e at p2 ⊢
 obtain ⟨e1, e2, e3⟩ := e
 generalize writeS s i p b = s1 at p1 ⊢
 refine X_spec (n := 111) (n0 := 32) tabOk Tryz.call22 Tryz.func22 ?_
 intro hb
 (conv => whnf)
 refine cl [] [] (p0) ?_
 rcases four hi with rfl | rfl | rfl | rfl <;> (
  (conv => whnf)
  refine ⟨false, .grow, (.l [0, 1, 2, 3, 4, 5, 6, 7, 8, 9, 10, 11, 12, 13, 14]), by kernel_rfl, .inl ?_⟩
  (conv => whnf)
  refine ⟨_, ⟨hr, by decide⟩, ?_⟩
  (conv => whnf)
  refine clF (mF 0) (fSt 23 (d21 ++ [.box (encStp ⟨1, r, q, p, n, t, b⟩), .box [.int .i64 0, .int .i64 0, .nil]]) s1) p1 ?_
  (conv => whnf)
  refine cl [] [] (p2) ?_
  (conv => whnf)
  exact rxF (rF 23))
set_option maxHeartbeats 4000000 in
theorem doCommit_spec (s : FS) {i : Nat} (hi : i < 4) (q : Int) (p n t b : List UInt8) (E : Evt) (S : FS) (p1 : Does Tryz.prog 58 [.c (.ptr 0 0), .st (encStp ⟨4, i, q, p, n, t, b⟩)] (fIn s) (Rt (.st (encEvt E)) (fOut S))) : Does Tryz.prog 22 [.c (.ptr 0 0), .st (encStp ⟨4, i, q, p, n, t, b⟩)] (fIn s) (Rt (.st (encEvt E)) (fOut S)) := by
 have p0 := frepo_spec i
 rw [isR_iff.2 ⟨i, hi, rfl⟩] at p0
 obtain ⟨e1, e2, e3⟩ := E
 refine X_spec (n := 111) (n0 := 32) tabOk Tryz.call22 Tryz.func22 ?_
 intro hb
 (conv => whnf)
 refine cl [] [] (p0) ?_
 (conv => whnf)
 refine clF (mF 0) (fSt 23 (d21 ++ [.box (encStp ⟨4, i, q, p, n, t, b⟩), .box [.int .i64 0, .int .i64 0, .nil]]) S) p1 ?_
 (conv => whnf)
 exact rxF (rF 23)
end Go.Nest
end
