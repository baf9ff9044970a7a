/- WALKS, 1: names, texts, numbers in lists. -/
import Derived.Test.YtkkjjbejkcgmfaaTab
import Derived.KernelRfl
namespace Go.Nest
open Go Go.AM Go.Proofs
open Go.Proofs.Ytkkjjbejkcgmfaa (tab tabOk)
set_option linter.unusedVariables false
set_option linter.unusedSimpArgs false
set_option maxRecDepth 4000

def odd (c : UInt8) : Bool := decide (c.toNat ≤ 32) || decide (c.toNat = 47) || decide (127 ≤ c.toNat)
def nameC (l : List UInt8) : Int := if l = [] ∨ l = [46] ∨ l = [46, 46] ∨ l.any odd then 2 else if 20 < l.length then 4 else 0
def shown (c : UInt8) : Bool := decide (32 ≤ c.toNat) && decide (c.toNat < 127)

theorem any_take {α : Type} {p : α → Bool} {l : List α} {i : Nat} (h : i < l.length) (h1 : (l.take i).any p = false) (h2 : p l[i] = false) : (l.take (i + 1)).any p = false := by
  rw [List.take_succ_eq_append_getElem h, List.any_append, h1]; simp [h2]
theorem any_at {α : Type} {p : α → Bool} {l : List α} {i : Nat} (h : i < l.length) (h2 : p l[i] = true) : l.any p = true :=
  List.any_eq_true.2 ⟨_, List.getElem_mem h, h2⟩

theorem name_spec (l : List UInt8) : Does Try.prog 90 [.c (.str l)] [] (Rt (.c (.int .i64 (nameC l))) []) := by
  refine X_spec ⟨Try.prog, tab, 39, 0⟩ tabOk (by kernel_rfl) Try.call90 Try.func90 rfl rfl (by kernel_rfl) rfl ?_
  intro hb; have hb : l.length ≤ 9223372036854775807 := hb.1.1
  have bad : ∀ {i : Nat} (h : i < l.length), odd l[i] = true → (2 : Int) = nameC l := fun h h2 => by
    unfold nameC; rw [if_pos (.inr (.inr (.inr (any_at h h2))))]
  (conv => whnf)
  refine dec (fun (h : l = []) => ?_) (fun (h : ¬ l = []) => ?_)
  · (conv => whnf); refine rtC ?_ rfl
    simp [nameC, h]
  (conv => whnf)
  refine dec (fun (h2 : l = [46]) => ?_) (fun (h2 : ¬ l = [46]) => ?_)
  · (conv => whnf); refine rtC ?_ rfl
    simp [nameC, h2]
  (conv => whnf)
  refine dec (fun (h3 : l = [46, 46]) => ?_) (fun (h3 : ¬ l = [46, 46]) => ?_)
  · (conv => whnf); refine rtC ?_ rfl
    simp [nameC, h3]
  (conv => whnf)
  refine lp Nat (fun i => ⟨[(0, .c (.str l)), (15, .c (.int .i64 l.length)), (16, .c (.int .i64 i))], []⟩) (fun i => i ≤ l.length ∧ (l.take i).any odd = false) (fun i => l.length - i) 0 [] [] ?_ ?_ (fun i hi => ?_)
  · simp
  · repeat' first | exact trivial | exact rfl | refine And.intro ?_ ?_
  (conv => whnf)
  refine dec (fun h4 => ?_) (fun h4 => ?_)
  · have hlt : i < l.length := by omega
    (conv => whnf); refine ⟨i, l[i], rfl, List.getElem?_eq_getElem hlt, ?_⟩
    (conv => whnf); refine dec (fun h5 => ?_) (fun h5 => ?_)
    · (conv => whnf); refine rtC ?_ rfl
      rw [← bad hlt (by simp [odd]; omega)]
    (conv => whnf); refine ⟨i, l[i], rfl, List.getElem?_eq_getElem hlt, ?_⟩
    (conv => whnf); refine dec (fun h6 => ?_) (fun h6 => ?_)
    · (conv => whnf); refine rtC ?_ rfl
      rw [← bad hlt (by simp [odd]; omega)]
    (conv => whnf); refine ⟨i, l[i], rfl, List.getElem?_eq_getElem hlt, ?_⟩
    (conv => whnf); refine dec (fun h7 => ?_) (fun h7 => ?_)
    · (conv => whnf); refine rtC ?_ rfl
      rw [← bad hlt (by simp [odd]; omega)]
    (conv => whnf); refine ⟨i64 (by omega) (by omega), ?_⟩
    (conv => whnf); refine ag (i + 1) [] [] ⟨hlt, any_take hlt hi.2 (by simp [odd]; omega)⟩ (by simp only []; omega) ?_
    repeat' first | exact trivial | exact rfl | refine And.intro ?_ ?_
  · obtain rfl : i = l.length := by omega
    have ha : l.any odd = false := by simpa using hi.2
    (conv => whnf); refine dec (fun h5 => ?_) (fun h5 => ?_)
    · (conv => whnf); refine rtC ?_ rfl
      unfold nameC; rw [if_neg (by simp [h, h2, h3, ha]), if_pos (by omega)]
    · (conv => whnf); refine rtC ?_ rfl
      unfold nameC; rw [if_neg (by simp [h, h2, h3, ha]), if_neg (by omega)]
end Go.Nest
