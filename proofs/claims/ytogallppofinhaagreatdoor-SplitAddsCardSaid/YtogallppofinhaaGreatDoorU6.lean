/- WALKS, U6: files of a tree with another one's in a directory. -/
import Derived.Test.YtogallppofinhaaGreatDoorF7
import Derived.Test.YtogallppofinhaaGreatDoorU0
import Derived.Test.YtogallppofinhaaGreatDoorQ6
import Derived.Test.YtogallppofinhaaGreatDoorW9
namespace Go.Nest
open Go Go.AM Go.Proofs
open Go.Proofs.YtogallppofinhaaGreatDoor (tab tabOk)
set_option linter.unusedVariables false
set_option linter.unusedSimpArgs false
set_option maxRecDepth 4000
def allF (dir : List UInt8) (a b : List Fi) : List Fi := inOrdP (a ++ b.map (pre dir))
def addF (L : List Ob) (t : Int) (dir : List UInt8) (o : Int) : Int × Int × List Ob :=
  if (filesP L t).2 ≠ 0 then (0, (filesP L t).2, L) else if (filesP L o).2 ≠ 0 then (0, (filesP L o).2, L) else buildP L (allF dir (filesP L t).1 (filesP L o).1)
theorem path_short' {p : List UInt8} (h : (splitP p).2 = 0) : p.length ≤ 168 := by
  obtain ⟨h1, h2, _⟩ := split_zero h
  have h3 := unsp_bound (spl p) fun s hs => name_len (namesF_all h1 s hs)
  rw [unsp_spl] at h3
  omega
theorem files_sum {L : List Ob} (hL : PoolOk L) (t : Int) : (filesP L t).1.length ≤ 60 ∧ ∀ f ∈ (filesP L t).1, f.path.length ≤ 4000 := by
  by_cases h : (filesP L t).2 = 0
  · obtain ⟨h1, h2, h3⟩ := files_told hL h
    have hc := tree_check hL h1 h2 h3
    refine ⟨h2, fun f hf => ?_⟩
    have := path_short' ((filesF_all hc).2 f hf).1
    omega
  · rw [files_nil h]
    exact ⟨Nat.zero_le _, fun f hf => by cases hf⟩
theorem all_path {dir : List UInt8} {a b : List Fi} (hd : dir.length ≤ 4000) (ha : ∀ f ∈ a, f.path.length ≤ 4000) (hb : ∀ f ∈ b, f.path.length ≤ 4000) : ∀ f ∈ a ++ b.map (pre dir), f.path.length ≤ 4000000 := fun f hf => by
  rcases List.mem_append.1 hf with hf | hf
  · have := ha f hf; omega
  · obtain ⟨g, hg, rfl⟩ := List.mem_map.1 hf
    have := hb g hg
    show (dir ++ 47 :: g.path).length ≤ 4000000
    rw [List.length_append, List.length_cons]; omega
theorem pre_take {dir : List UInt8} {b : List Fi} {i : Nat} (h : i < b.length) : (b.take (i + 1)).map (pre dir) = (b.take i).map (pre dir) ++ [pre dir b[i]] := by
  rw [List.take_succ_eq_append_getElem h, List.map_append]; rfl
set_option maxHeartbeats 1000000 in
theorem add_spec (L : List Ob) (hL : PoolOk L) (t : Int) (dir : List UInt8) (hd : dir.length ≤ 4000) (o : Int) : Does Tryz.prog 76 [.c (.ptr 0 0), .c (.int .i64 t), .c (.str dir), .c (.int .i64 o)] [.box [.rw 1], .row 6 Ob encOb L] (Rt (.tup [(false, [.int .i64 (addF L t dir o).1]), (false, [.int .i64 (addF L t dir o).2.1])]) [.box [.rw 2], .dead, .row 6 Ob encOb (addF L t dir o).2.2]) := by
  have fa := flatFiles_spec L hL t
  have fb := flatFiles_spec L hL o
  have sa := files_sum hL t
  have sb := files_sum hL o
  have hF : addF L t dir o = if (filesP L t).2 ≠ 0 then (0, (filesP L t).2, L) else if (filesP L o).2 ≠ 0 then (0, (filesP L o).2, L) else buildP L (allF dir (filesP L t).1 (filesP L o).1) := rfl
  generalize filesP L t = A at *
  generalize filesP L o = B at *
  obtain ⟨a, ca⟩ := A
  obtain ⟨b, cb⟩ := B
  generalize addF L t dir o = RR at *
  dsimp only at fa fb sa sb hF
  obtain ⟨sa, pa⟩ := sa
  obtain ⟨sb, pb⟩ := sb
  have hap := all_path hd pa pb
  have hal : (a ++ b.map (pre dir)).length ≤ 120 := by rw [List.length_append, List.length_map]; omega
  refine X_spec (n := 56) (n0 := 2) tabOk Tryz.call76 Tryz.func76 ?_
  intro hb
  (conv => whnf)
  refine cl [] [] (fa) ?_
  (conv => whnf)
  refine decN (fun h1 => ?_) (fun h1 => ?_)
  · rw [if_pos h1] at hF
    subst hF
    (conv => whnf)
    exact rx [] [.same 0, .same 1, .same 1]
  rw [if_neg (fun h => h h1)] at hF
  (conv => whnf)
  refine cl [] [] (fb) ?_
  (conv => whnf)
  refine decN (fun h2 => ?_) (fun h2 => ?_)
  · rw [if_pos h2] at hF
    subst hF
    (conv => whnf)
    exact rx [] [.same 0, .same 1, .same 1]
  rw [if_neg (fun h => h h2)] at hF
  (conv => whnf)
  refine lp Nat (fun i => ⟨[(0, .c (.ptr 0 0)), (2, .c (.str dir)), (10, .c (.rw 2)), (33, .c (.rw 3)), (34, .c (.int .i64 b.length)), (35, .c (.int .i64 i))], [.box [.rw 1], .row 6 Ob encOb L, .row 4 Fi encFi (a ++ (b.take i).map (pre dir)), .row 4 Fi encFi b]⟩) (fun i => i ≤ b.length ∧ True) (fun i => b.length - i) 0 [] [.same 0, .same 1, .same 2, .same 3] ?_ ?_ (fun i hi => ?_)
  · simp
  · rw [List.take_zero, List.map_nil, List.append_nil]
    repeat' first | exact trivial | exact rfl | refine And.intro ?_ ?_
  (conv => whnf)
  refine dec (fun h4 => ?_) (fun h4 => ?_)
  · have hlt : i < b.length := by have h4 : (i : Int) < b.length := h4; omega
    have hiy : b[i]? = some b[i] := List.getElem?_eq_getElem hlt
    have hst := pre_take (dir := dir) hlt
    have hpi := pb _ (List.getElem_mem hlt)
    have hol : ((b.take i).map (pre dir)).length ≤ 60 := by rw [List.length_map, List.length_take]; omega
    generalize (b.take i).map (pre dir) = out at *
    generalize b[i] = f at *
    (conv => whnf)
    refine ⟨i, ⟨rfl, hlt⟩, ?_⟩
    (conv => whnf)
    refine ⟨f, hiy, ?_⟩
    have e : pre dir f = ⟨dir ++ [47] ++ f.path, f.mode, f.id, f.repo⟩ := by unfold pre; simp
    rw [e] at hst
    (conv => whnf)
    refine ⟨(show dir.length + 1 ≤ 9223372036854775807 by omega), ?_⟩
    (conv => whnf)
    refine ⟨(show (dir ++ [47]).length + f.path.length ≤ 9223372036854775807 by rw [List.length_append]; simp only [List.length_cons, List.length_nil]; omega), ?_⟩
    (conv => whnf)
    refine ⟨[⟨dir ++ [47] ++ f.path, f.mode, f.id, f.repo⟩], rfl, ?_⟩
    (conv => whnf)
    refine ⟨_, _, rfl, rfl, (by simp only [List.length_append, List.length_cons, List.length_nil]; omega), ?_⟩
    repeat' ((conv => whnf); first | (refine dec (fun h => ?_) (fun h => ?_) <;> try contradiction) | (refine decN (fun h => ?_) (fun h => ?_) <;> try contradiction) | refine booN (fun h => ?_) (fun h => ?_) | refine boo (fun h => ?_) (fun h => ?_) | refine ⟨i64 (by omega) (by omega), ?_⟩ | refine ⟨_, _, rfl, List.getElem?_eq_getElem (by omega), ?_⟩ | refine ⟨_, ⟨rfl, by omega⟩, ?_⟩ | refine ⟨_, List.getElem?_eq_getElem (by omega), ?_⟩ | refine rtB ?_ | refine rtI ?_ | refine rtC ?_ rfl | fail)
    refine ag (i + 1) [] [.same 0, .same 1, .same 6, .same 3] ⟨hlt, trivial⟩ (by simp only []; omega) ?_
    rw [hst, ← List.append_assoc]
    repeat' first | exact trivial | exact rfl | refine And.intro ?_ ?_
  · obtain rfl : i = b.length := by have h4 : ¬ (i : Int) < b.length := h4; omega
    rw [List.take_length]
    have p1 := sorted_spec (a ++ b.map (pre dir)) (by omega) hap
    have p2 := flatBuild_spec L (allF dir a b) hL (fun f hf => hap f ((inOrd_perm _).mem_iff.1 hf))
    rw [← hF] at p2
    (conv => whnf)
    refine cl [] [] (p1) ?_
    (conv => whnf)
    refine cl [] [0, 1] (p2) ?_
    (conv => whnf)
    exact rx [] [.same 0, .same 1, .same 5]
end Go.Nest
