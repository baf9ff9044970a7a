/- part -/
import Derived.Test.YtpmjnbidmcnhnaaGreatDoorB6
import Derived.Test.YtpmjnbidmcnhnaaGreatDoorMixed5
set_option linter.unusedVariables false
set_option linter.unusedSimpArgs false

namespace Go.Nest
open Go Go.AM Go.NB Go.Proofs
open Go.NB.L (linesOf merge)
open Go.Proofs.YtpmjnbidmcnhnaaGreatDoor (tab tabOk)
set_option maxRecDepth 4000
theorem Does.mixed {P : Program} {f : FuncId} {base a b : Lls} {r : Option Lls}
  (h : ∀ {H : Heap} {M : List Nat} {vs va vb : Value}, Sl (tSl tByte) H M vs base → Sl (tSl tByte) H M va a → Sl (tSl tByte) H M vb b → (∀ i ∈ M, i < H.size) →
   CallsH P f #[vs, va, vb] H fun u H' => ∃ v, u = .tuple #[v, .bool r.isSome] ∧ Sl (tSl tByte) H' M v (r.getD []) ∧ Keep [] H H') :
  Does P f [.c (lsC base), .c (lsC a), .c (lsC b)] [] (Rt (.tup [(false, [lsC (r.getD [])]), (false, [.bool r.isSome])]) []) := by
 intro F L γ H vs hargs hW
 match vs, hargs with
 | [v1, v2, v3], ⟨h1, h2, h3, _⟩ =>
  have bb := Br.byte.sl
  have c := h (M := outer F H) (sl_to bb outer_no hW.fb h1) (sl_to bb outer_no hW.fb h2) (sl_to bb outer_no hW.fb h3) outer_lt
  refine (callsB c).mono fun ok v H' ⟨hok, u, e, hs, hK⟩ => ?_
  subst hok
  subst e
  refine ⟨.ret (.tup [(false, [lsC (r.getD [])]), (false, [.bool r.isSome])]), [], _, γ, ⟨rfl, rfl⟩, rfl, rfl, rfl, ?_, hW.fresh hK⟩
  exact ⟨[u, .bool r.isSome], rfl, ⟨[u], sl_back bb outer_yes hs, rfl, fun _ => rfl⟩, ⟨[.bool r.isSome], .bool .nl, rfl, fun _ => rfl⟩, trivial⟩
theorem linesOfD_spec (b : List UInt8) (hn : b.length ≤ 1000000) : Does Tryz.prog 86 [.c (.ls 1 UInt8 bytesC b)] [] (Rt (.c (lsC (linesOf b))) []) :=
 Does.lines fun hb hM => Go.Proofs.YtpmjnbidmcnhnaaGreatDoor.linesOf hb hM hn
theorem mixedD_spec (x y z : Lls) (hx : x.length ≤ 1000) (hy : y.length ≤ 1000) (hz : z.length ≤ 1000) : Does Tryz.prog 85 [.c (lsC x), .c (lsC y), .c (lsC z)] [] (Rt (.tup [(false, [lsC ((merge x y z).getD [])]), (false, [.bool (merge x y z).isSome])]) []) :=
 Does.mixed fun h1 h2 h3 hM => Go.Proofs.YtpmjnbidmcnhnaaGreatDoor.mixed h1 h2 h3 hM hx hy hz
end Go.Nest
