/- WALKS, 12: of the law: great objects, a pool begun, pools. -/
import Derived.Test.YtkkjjbejkcgmfaaG10
import Derived.Test.YtkkjjbejkcgmfaaG11
namespace Go.Nest
open Go Go.AM Go.Proofs
open Go.Proofs.Ytkkjjbejkcgmfaa (tab tabOk)
set_option linter.unusedVariables false
set_option linter.unusedSimpArgs false
set_option maxRecDepth 4000
def greatOs (l : List Ob) : Bool := (l.take 100).any greatO || decide (80 < l.length)
theorem greatObjects_spec (l : List Ob) : Does Try.prog 28 [.c (.bs 6 Ob encOb l)] [] (Rt (.c (.bool (greatOs l))) []) := by
  refine X_spec ⟨Try.prog, tab, 22, 0⟩ tabOk (by kernel_rfl) Try.call28 Try.func28 rfl rfl (by kernel_rfl) rfl ?_
  intro hb; have hb : l.length ≤ 9223372036854775807 := hb.1.1
  (conv => whnf)
  refine lp Nat (fun i => ⟨[(0, .c (.bs 6 Ob encOb l)), (3, .c (.int .i64 i))], []⟩) (fun i => (i ≤ l.length ∧ i ≤ 100) ∧ (l.take i).any greatO = false) (fun i => l.length - i) 0 [] [] ?_ ?_ (fun i hi => ?_)
  · simp
  · repeat' first | exact trivial | exact rfl | refine And.intro ?_ ?_
  have fin : ¬ (i < l.length ∧ i < 100) → greatOs l = decide (80 < l.length) := fun h => by
    unfold greatOs
    have : l.take 100 = l.take i := by
      by_cases h1 : i = 100
      · rw [h1]
      · rw [List.take_of_length_le (by omega), List.take_of_length_le (by omega)]
    rw [this, hi.2]; rfl
  (conv => whnf)
  refine dec (fun h4 => ?_) (fun h4 => ?_)
  · (conv => whnf)
    refine dec (fun h5 => ?_) (fun h5 => ?_)
    · have hlt : i < l.length := by omega
      repeat' ((conv => whnf); first | (refine dec (fun h => ?_) (fun h => ?_) <;> try contradiction) | (refine decN (fun h => ?_) (fun h => ?_) <;> try contradiction) | refine booN (fun h => ?_) (fun h => ?_) | refine boo (fun h => ?_) (fun h => ?_) | refine ⟨i64 (by omega) (by omega), ?_⟩ | refine ⟨_, _, rfl, List.getElem?_eq_getElem (by omega), ?_⟩ | refine ⟨_, ⟨rfl, by omega⟩, ?_⟩ | refine ⟨_, List.getElem?_eq_getElem (by omega), ?_⟩ | refine rtB ?_ | refine rtI ?_ | refine rtC ?_ rfl | fail)
      (conv => whnf)
      refine cl [] [] (greatObject_spec l[i]) (by repeat' first | exact trivial | exact rfl | refine And.intro ?_ ?_) (by first | exact trivial | exact rfl) ?_
      repeat' ((conv => whnf); first | (refine dec (fun h => ?_) (fun h => ?_) <;> try contradiction) | (refine decN (fun h => ?_) (fun h => ?_) <;> try contradiction) | refine booN (fun h => ?_) (fun h => ?_) | refine boo (fun h => ?_) (fun h => ?_) | refine ⟨i64 (by omega) (by omega), ?_⟩ | refine ⟨_, _, rfl, List.getElem?_eq_getElem (by omega), ?_⟩ | refine ⟨_, ⟨rfl, by omega⟩, ?_⟩ | refine ⟨_, List.getElem?_eq_getElem (by omega), ?_⟩ | refine rtB ?_ | refine rtI ?_ | refine rtC ?_ rfl | fail)
      · unfold greatOs
        rw [any_at (l := l.take 100) (i := i) (by rw [List.length_take]; omega) (by rw [List.getElem_take]; exact h)]; rfl
      · refine ag (i + 1) [] [] ⟨⟨hlt, by omega⟩, any_take hlt hi.2 h⟩ (by simp only []; omega) ?_
        repeat' first | exact trivial | exact rfl | refine And.intro ?_ ?_
    · repeat' ((conv => whnf); first | (refine dec (fun h => ?_) (fun h => ?_) <;> try contradiction) | (refine decN (fun h => ?_) (fun h => ?_) <;> try contradiction) | refine booN (fun h => ?_) (fun h => ?_) | refine boo (fun h => ?_) (fun h => ?_) | refine ⟨i64 (by omega) (by omega), ?_⟩ | refine ⟨_, _, rfl, List.getElem?_eq_getElem (by omega), ?_⟩ | refine ⟨_, ⟨rfl, by omega⟩, ?_⟩ | refine ⟨_, List.getElem?_eq_getElem (by omega), ?_⟩ | refine rtB ?_ | refine rtI ?_ | refine rtC ?_ rfl | fail)
      rw [fin (by omega)]; rw [decide_eq_decide]; omega
  · repeat' ((conv => whnf); first | (refine dec (fun h => ?_) (fun h => ?_) <;> try contradiction) | (refine decN (fun h => ?_) (fun h => ?_) <;> try contradiction) | refine booN (fun h => ?_) (fun h => ?_) | refine boo (fun h => ?_) (fun h => ?_) | refine ⟨i64 (by omega) (by omega), ?_⟩ | refine ⟨_, _, rfl, List.getElem?_eq_getElem (by omega), ?_⟩ | refine ⟨_, ⟨rfl, by omega⟩, ?_⟩ | refine ⟨_, List.getElem?_eq_getElem (by omega), ?_⟩ | refine rtB ?_ | refine rtI ?_ | refine rtC ?_ rfl | fail)
    rw [fin (by omega)]; rw [decide_eq_decide]; omega

def o1 : Ob := ⟨1, [120], [], 0, [], []⟩
def o2 : Ob := ⟨2, [], [⟨[102], 1, 0, 0⟩], 0, [], []⟩
def o3 : Ob := ⟨3, [], [], 0, [], []⟩
theorem pb1 : putP [] o1 = (0, 0, [o1]) := by decide +kernel
theorem pb2 : putP [o1] o2 = (1, 0, [o1, o2]) := by decide +kernel
theorem pb3 : putP [o1, o2] o1 = (0, 0, [o1, o2]) := by decide +kernel
theorem pb4 : putP [o1, o2] o3 = (0, 14, [o1, o2]) := by decide +kernel
theorem pok : PoolOk [o1, o2] := by
  have h1 := putP_ok .nil o1
  rw [pb1] at h1
  have h2 := putP_ok h1 o2
  rwa [pb2] at h2
theorem preach : (reachP [o1, o2] [1]).length = 2 := by
  have h1 : Led [o1, o2] [1] 1 := .base (by simp) (by decide +kernel)
  have h0 : Led [o1, o2] [1] 0 := .step h1 (by decide +kernel)
  have : ∀ k : Nat, k < 2 → Led [o1, o2] [1] (k : Int) := fun k hk => by
    have : k = 0 ∨ k = 1 := by omega
    rcases this with rfl | rfl
    · exact h0
    · exact h1
  unfold reachP
  rw [List.length_map, List.filter_eq_self.2 (fun k hk => by rw [List.mem_range] at hk; exact (@decide_eq_true_iff _ (Classical.propDecidable _)).2 (this k hk))]
  rfl

theorem poolBegun_spec : Does Try.prog 27 [] [] (Rt (.c (.bool true)) []) := by
  have p1 := put_spec [] o1 (by decide)
  have p2 := put_spec [o1] o2 (by decide)
  have p3 := put_spec [o1, o2] o1 (by decide)
  have p4 := put_spec [o1, o2] o3 (by decide)
  rw [pb1] at p1
  rw [pb2] at p2
  rw [pb3] at p3
  rw [pb4] at p4
  dsimp only at p1 p2 p3 p4
  refine X_spec ⟨Try.prog, tab, 82, 0⟩ tabOk (by kernel_rfl) Try.call27 Try.func27 rfl rfl (by kernel_rfl) rfl ?_
  intro hb
  (conv => whnf)
  refine cl [] [] (new_spec) (by repeat' first | exact trivial | exact rfl | refine And.intro ?_ ?_) (by first | exact trivial | exact rfl) ?_
  (conv => whnf)
  refine ⟨[120], rfl, ?_⟩
  (conv => whnf)
  refine cl [] [0, 1] (p1) (by repeat' first | exact trivial | exact rfl | refine And.intro ?_ ?_) (by first | exact trivial | exact rfl) ?_
  (conv => whnf)
  refine ⟨[⟨[102], 1, 0, 0⟩], rfl, ?_⟩
  (conv => whnf)
  refine cl [] [0, 3] (p2) (by repeat' first | exact trivial | exact rfl | refine And.intro ?_ ?_) (by first | exact trivial | exact rfl) ?_
  (conv => whnf)
  refine ⟨[120], rfl, ?_⟩
  (conv => whnf)
  refine cl [] [0, 5] (p3) (by repeat' first | exact trivial | exact rfl | refine And.intro ?_ ?_) (by first | exact trivial | exact rfl) ?_
  (conv => whnf)
  refine cl [] [0, 7] (p4) (by repeat' first | exact trivial | exact rfl | refine And.intro ?_ ?_) (by first | exact trivial | exact rfl) ?_
  (conv => whnf)
  refine cl [] [] (len_spec [o1, o2]) (by repeat' first | exact trivial | exact rfl | refine And.intro ?_ ?_) (by first | exact trivial | exact rfl) ?_
  (conv => whnf)
  refine ⟨[1], rfl, ?_⟩
  (conv => whnf)
  refine cl [] [] (reach_spec [o1, o2] pok [1] (by decide)) (by repeat' first | exact trivial | exact rfl | refine And.intro ?_ ?_) (by first | exact trivial | exact rfl) ?_
  (conv => whnf)
  exact rtB (by rw [decide_eq_true_iff, preach]; rfl)

/-- the pool that comes of putting these, one behind the other, from number i on -/
def putAll (l : List Ob) : List Ob → List Ob
  | [] => l
  | o :: r => putAll (putP l o).2.2 r
theorem putAll_snoc : ∀ {l r : List Ob} {o : Ob}, putAll l (r ++ [o]) = (putP (putAll l r) o).2.2
  | l, [], o => rfl
  | l, x :: r, o => putAll_snoc (l := (putP l x).2.2) (r := r)
theorem putAll_ok : ∀ {r l : List Ob}, PoolOk l → PoolOk (putAll l r)
  | [], l, h => h
  | o :: r, l, h => putAll_ok (r := r) (l := (putP l o).2.2) (putP_ok h o)
theorem putAll_take {l r : List Ob} {i : Nat} (h : i < r.length) : putAll l (r.take (i + 1)) = (putP (putAll l (r.take i)) r[i]).2.2 := by
  rw [List.take_succ_eq_append_getElem h, putAll_snoc]

theorem pools_spec (l : List Ob) : Does Try.prog 29 [.c (.bs 6 Ob encOb l)] [] (Rt (.tup [(false, [.ptr 0 0]), (false, [.ptr 2 0]), (false, [.bool true])]) [.box [.rw 1], .row 6 Ob encOb (putAll [] l), .box [.rw 3], .row 6 Ob encOb (putAll [] l)]) := by
  refine X_spec ⟨Try.prog, tab, 54, 0⟩ tabOk (by kernel_rfl) Try.call29 Try.func29 rfl rfl (by kernel_rfl) rfl ?_
  intro hb; have hb : l.length ≤ 9223372036854775807 := hb.1.1
  (conv => whnf)
  refine cl [] [] (new_spec) (by repeat' first | exact trivial | exact rfl | refine And.intro ?_ ?_) (by first | exact trivial | exact rfl) ?_
  (conv => whnf)
  refine lp Nat (fun i => ⟨[(0, .c (.bs 6 Ob encOb l)), (5, .c (.ptr 0 0)), (6, .c (.ptr 2 0)), (7, .c (.bool true)), (8, .c (.int .i64 i))], [.box [.rw 1], .row 6 Ob encOb (putAll [] (l.take i)), .box [.rw 3], .row 6 Ob encOb (putAll [] (l.take i))]⟩)
    (fun i => i ≤ l.length ∧ True) (fun i => l.length - i) 0 [] [.same 0, .same 1, .same 2, .new] ?_ ?_ (fun i hi => ?_)
  · simp
  · repeat' first | exact trivial | exact rfl | refine And.intro ?_ ?_
  (conv => whnf)
  refine dec (fun h4 => ?_) (fun h4 => ?_)
  · have hlt : i < l.length := by omega
    have hlen := (putAll_ok (r := l.take i) .nil).len
    have ht := putAll_take (l := []) hlt
    repeat' ((conv => whnf); first | (refine dec (fun h => ?_) (fun h => ?_) <;> try contradiction) | (refine decN (fun h => ?_) (fun h => ?_) <;> try contradiction) | refine booN (fun h => ?_) (fun h => ?_) | refine boo (fun h => ?_) (fun h => ?_) | refine ⟨i64 (by omega) (by omega), ?_⟩ | refine ⟨_, _, rfl, List.getElem?_eq_getElem (by omega), ?_⟩ | refine ⟨_, ⟨rfl, by omega⟩, ?_⟩ | refine ⟨_, List.getElem?_eq_getElem (by omega), ?_⟩ | refine rtB ?_ | refine rtI ?_ | refine rtC ?_ rfl | fail)
    (conv => whnf)
    refine cl [] [0, 1] (put_spec (putAll [] (l.take i)) l[i] hlen) (by repeat' first | exact trivial | exact rfl | refine And.intro ?_ ?_) (by first | exact trivial | exact rfl) ?_
    repeat' ((conv => whnf); first | (refine dec (fun h => ?_) (fun h => ?_) <;> try contradiction) | (refine decN (fun h => ?_) (fun h => ?_) <;> try contradiction) | refine booN (fun h => ?_) (fun h => ?_) | refine boo (fun h => ?_) (fun h => ?_) | refine ⟨i64 (by omega) (by omega), ?_⟩ | refine ⟨_, _, rfl, List.getElem?_eq_getElem (by omega), ?_⟩ | refine ⟨_, ⟨rfl, by omega⟩, ?_⟩ | refine ⟨_, List.getElem?_eq_getElem (by omega), ?_⟩ | refine rtB ?_ | refine rtI ?_ | refine rtC ?_ rfl | fail)
    (conv => whnf)
    refine cl [] [2, 3] (putR_spec (putAll [] (l.take i)) l[i] hlen) (by repeat' first | exact trivial | exact rfl | refine And.intro ?_ ?_) (by first | exact trivial | exact rfl) ?_
    (conv => whnf)
    refine dec (fun _ => ?_) (fun h => absurd rfl h)
    repeat' ((conv => whnf); first | (refine dec (fun h => ?_) (fun h => ?_) <;> try contradiction) | (refine decN (fun h => ?_) (fun h => ?_) <;> try contradiction) | refine booN (fun h => ?_) (fun h => ?_) | refine boo (fun h => ?_) (fun h => ?_) | refine ⟨i64 (by omega) (by omega), ?_⟩ | refine ⟨_, _, rfl, List.getElem?_eq_getElem (by omega), ?_⟩ | refine ⟨_, ⟨rfl, by omega⟩, ?_⟩ | refine ⟨_, List.getElem?_eq_getElem (by omega), ?_⟩ | refine rtB ?_ | refine rtI ?_ | refine rtC ?_ rfl | fail)
    refine ag (i + 1) [] [.same 0, .same 4, .same 2, .same 5] ⟨hlt, trivial⟩ (by simp only []; omega) ?_
    repeat' first | exact trivial | exact rfl | refine And.intro ?_ ?_
    · exact congrArg C.bool (decide_eq_true rfl)
    · rw [ht]; exact rfl
    · rw [ht]; exact rfl
  · rw [List.take_of_length_le (by omega)]
    (conv => whnf)
    refine rt [] [.same 0, .same 1, .same 2, .same 3] (by repeat' first | exact trivial | exact rfl | refine And.intro ?_ ?_) rfl ⟨rfl, rfl⟩
end Go.Nest
