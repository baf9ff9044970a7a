/- WALKS, 18: the closure that recovers. -/
import Derived.Test.YtkkjjbejkcgmfaaG17
import Derived.Tactics
import Derived.Tactics2
namespace Go.Nest
open Go Go.AM Go.Proofs
open Go.NB (Amb)
open Go.Proofs.Ytkkjjbejkcgmfaa (tab tabOk)
set_option linter.unusedVariables false
set_option linter.unusedSimpArgs false
set_option maxRecDepth 4000

theorem idle_spec {cs : List C} {ah : List B} {K : List B → Prop} (h2 : cs.length = 2) (hK : K ah) : ClD Try.prog 60 .returning .returning cs ah K := by
  refine ⟨fun E F w us hus hW => ?_⟩
  have hl := hus.length
  rw [h2] at hl
  match us, hl with
  | [p, q], _ =>
  refine callsD_of_wpS Try.func60 rfl fun c₀ cs' hu => ?_
  apply wpS_seq
  apply wpS_region
  simp [wpOpsS, go_sem, recoverD, hu, Exit.thenS]
  apply wpS_seq
  apply wpS_region
  simp [wpOpsS, go_sem, Exit.thenS]
  refine wpS_cond (t := false) (by simp [Act.eval]) ?_
  simp only [Bool.false_eq_true, if_false]
  refine wpS_of_wp (wp_skip ?_)
  refine ⟨rfl, .returning, ?_, .tuple #[], by simp [results], rfl, rfl, Amb.refl _, ah, hK, F, E.γ0, hW⟩
  cases c₀
  simp_all

theorem catch_spec {r : List UInt8} {K : List B → Prop} (hK : K [.box zOb, .box [.int .i64 7], .box [.ls 1 UInt8 bytesC r], .box []]) :
    ClD Try.prog 60 (panU 92 false) (panU 92 true) [.ptr 0 0, .ptr 1 0] [.box zOb, .box [.int .i64 0], .box [.ls 1 UInt8 bytesC r]] K := by
  refine ⟨fun E F w us hus hW => ?_⟩
  have hl := hus.length
  match us, hl with
  | [p, q], _ =>
  obtain ⟨p', us', e, hp, hq⟩ := hus.uncons
  cases e
  refine callsD_of_wpS Try.func60 rfl fun c₀ cs' hu => ?_
  have hu : c₀.mode = .panicking [{ v := .iface 92 (.agg #[]), recovered := false }] := hu
  apply wpS_seq
  apply wpS_region
  simp [wpOpsS, go_sem, recoverD, hu, Exit.thenS]
  apply wpS_seq
  apply wpS_region
  simp [wpOpsS, go_sem, Exit.thenS]
  refine wpS_cond (t := true) (by simp [Act.eval]) ?_
  simp only [if_true]
  refine wpS_of_wp ?_
  refine Code.wp_mono (Q := Qk ⟨Try.prog, tab, 17, 3⟩ ⟨E, [], w⟩ (fun e s => match e with | .normal => K s.ah | _ => False)) (fun e a w' hq => ?_)
    (X_sound (c := ⟨Try.prog, tab, 17, 3⟩) (r := ⟨E, [], w⟩) tabOk (by kernel_rfl) hW.len _ ⟨[(0, .c (.ptr 0 0)), (1, .c (.ptr 1 0)), (2, .c (.iface 92 true []))], [.box zOb, .box [.int .i64 0], .box [.ls 1 UInt8 bytesC r]]⟩ _ _ w ?_ ⟨F, E.γ0, ?_, rfl, Amb.refl _, hW, ?_, trivial⟩)
  · cases e with
    | normal =>
      obtain ⟨s, hk, F2, γ2, _, hds, hA, hW2, _⟩ := hq
      exact ⟨hds, _, rfl, .tuple #[], by simp [results], rfl, rfl, hA, s.ah, hk, F2, γ2, hW2⟩
    | exit id => obtain ⟨s, h, _⟩ := hq; exact h.elim
    | goto l => exact hq.elim
    | ret => obtain ⟨s, h, _⟩ := hq; exact h.elim
    | outgrown => exact hq.elim
    | panic ch => obtain ⟨v, x, s, _, h, _⟩ := hq; exact h.elim
  · repeat' ((conv => whnf); first | (refine dec (fun h => ?_) (fun h => ?_) <;> try contradiction) | (refine decN (fun h => ?_) (fun h => ?_) <;> try contradiction) | refine booN (fun h => ?_) (fun h => ?_) | refine boo (fun h => ?_) (fun h => ?_) | refine ⟨i64 (by omega) (by omega), ?_⟩ | refine ⟨_, _, rfl, List.getElem?_eq_getElem (by omega), ?_⟩ | refine ⟨_, ⟨rfl, by omega⟩, ?_⟩ | refine ⟨_, List.getElem?_eq_getElem (by omega), ?_⟩ | refine rtB ?_ | refine rtI ?_ | refine rtC ?_ rfl | fail)
    exact hK
  · simp
  · intro t x hl
    match t, hl with
    | 0, hl =>
      have hl : some (A.c (.ptr 0 0)) = some x := hl
      cases hl
      show RL F w.heap ⟨E.B, E.γ0⟩ [.ptr 0 0] [_]
      simpa using hp
    | 1, hl =>
      have hl : some (A.c (.ptr 1 0)) = some x := hl
      cases hl
      show RL F w.heap ⟨E.B, E.γ0⟩ [.ptr 1 0] [_]
      simpa using hq
    | 2, hl =>
      have hl : some (A.c (.iface 92 true [])) = some x := hl
      cases hl
      show RL F w.heap ⟨E.B, E.γ0⟩ [.iface 92 true []] [_]
      simp
      exact .iface (us := []) .nl .nl
    | n + 3, hl =>
      have hl : none = some x := hl
      cases hl
end Go.Nest
