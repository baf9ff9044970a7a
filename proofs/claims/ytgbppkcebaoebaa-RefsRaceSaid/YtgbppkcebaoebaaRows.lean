/-
  No cell of these rows narrows 'for every input' (looked for: loops, veiled, ifaces, maps, wideKeys, modest, calm, conditions, laid).
  DERIVED. THE GIVEN ROWS OF THIS SEAT. 3 by the template 'for every input the law returns true; each argument reads behind the call as it read before'; 0 by the template 'total and deterministic' (their statements: YtgbppkcebaoebaaTotals.lean).
  GIVEN WITH THE SEED: the statements are not yours to turn. If you find one false, say at which input.
  Laid BY PROGRAM, IN A SANDBOX (cutbox-rows.mjs): the forced cells as the released guide's own fill.sh prints them over the translation 9d1f05a3065ab493… (all of the seat's roots in one cut). By AI agents, Wed Nov 11 2026. No macro, syntax, notation, axiom, sorry.
-/
import Derived.Test.YtgbppkcebaoebaaChecked
import GoSem.Claim
import GoSem.ClaimJoined
import GoSem.ClaimMapViews
import Derived.JoinedTies
import Derived.KernelRfl
namespace Go.Proofs.Ytgbppkcebaoebaa
/- THE CELL 'sum', in the pinned program and in every row, IS THE sha256 OF THE DUMP (.gsa) THAT YtgbppkcebaoebaaProg.lean LOADS. Nothing in Lean hashes anything: it is a label: what it is worth is what the hold of that sum in a sandbox is worth. -/
noncomputable def Try.pinned : Pinned := { name := "ytgbppkcebaoebaa", sum := "9d1f05a3065ab493b642dc971b4923e248e25641c0556c318d7e91d7959e8ab8", checked := Try.checked }
namespace Rows
def none {H : Type} : Left H := { results := [], args := [] }

/-- 'nestboxlaw.RefsRace': WHATEVER THE INPUT: true; the input reads as it did. -/
def refsRaceSpec : ChangeSpec := { name := "refsRace", fn := fun _ => fun
  | [d1, d2, d3, d4] => { results := [.lit (.bool true)], args := [d1, d2, d3, d4] }
  | _ => none }
def refsRaceRow : OpenClaim := { program := "ytgbppkcebaoebaa", sum := "9d1f05a3065ab493b642dc971b4923e248e25641c0556c318d7e91d7959e8ab8", func := "nestbox/nestboxlaw.RefsRace", spec := "refsRace", inPlace := ["slices.overlaps[nestbox/refs.Ref]"], unfollowed := true, recurses := true, apart := false }
def RefsRaceSaid : Prop := refsRaceRow.holds Try.pinned (OpenSpec.ofChange refsRaceSpec)

/-- ITS FALSE NEIGHBOUR: 'it returns false'. Refute it at one input. -/
def refsRaceWrong : ChangeSpec := { name := "refsRace", fn := fun _ => fun
  | [d1, d2, d3, d4] => { results := [.lit (.bool false)], args := [d1, d2, d3, d4] }
  | _ => none }
def RefsRaceWrongFalsely : Prop := refsRaceRow.holds Try.pinned (OpenSpec.ofChange refsRaceWrong)

/-- 'nestboxlaw.RefsDoes': WHATEVER THE INPUT: true; the input reads as it did. -/
def refsDoesSpec : ChangeSpec := { name := "refsDoes", fn := fun _ => fun
  | [d1, d2] => { results := [.lit (.bool true)], args := [d1, d2] }
  | _ => none }
def refsDoesRow : OpenClaim := { program := "ytgbppkcebaoebaa", sum := "9d1f05a3065ab493b642dc971b4923e248e25641c0556c318d7e91d7959e8ab8", func := "nestbox/nestboxlaw.RefsDoes", spec := "refsDoes", inPlace := ["slices.overlaps[nestbox/refs.Ref]"], unfollowed := true, recurses := true, apart := false }
def RefsDoesSaid : Prop := refsDoesRow.holds Try.pinned (OpenSpec.ofChange refsDoesSpec)

/-- ITS FALSE NEIGHBOUR: 'it returns false'. Refute it at one input. -/
def refsDoesWrong : ChangeSpec := { name := "refsDoes", fn := fun _ => fun
  | [d1, d2] => { results := [.lit (.bool false)], args := [d1, d2] }
  | _ => none }
def RefsDoesWrongFalsely : Prop := refsDoesRow.holds Try.pinned (OpenSpec.ofChange refsDoesWrong)

/-- 'nestboxlaw.RefsMoves': WHATEVER THE INPUT: true; the input reads as it did. -/
def refsMovesSpec : ChangeSpec := { name := "refsMoves", fn := fun _ => fun
  | [d] => { results := [.lit (.bool true)], args := [d] }
  | _ => none }
def refsMovesRow : OpenClaim := { program := "ytgbppkcebaoebaa", sum := "9d1f05a3065ab493b642dc971b4923e248e25641c0556c318d7e91d7959e8ab8", func := "nestbox/nestboxlaw.RefsMoves", spec := "refsMoves", inPlace := ["slices.overlaps[nestbox/refs.Ref]"], unfollowed := true, recurses := true, apart := false }
def RefsMovesSaid : Prop := refsMovesRow.holds Try.pinned (OpenSpec.ofChange refsMovesSpec)

/-- ITS FALSE NEIGHBOUR: 'it returns false'. Refute it at one input. -/
def refsMovesWrong : ChangeSpec := { name := "refsMoves", fn := fun _ => fun
  | [d] => { results := [.lit (.bool false)], args := [d] }
  | _ => none }
def RefsMovesWrongFalsely : Prop := refsMovesRow.holds Try.pinned (OpenSpec.ofChange refsMovesWrong)

/- THE SECOND FORM. 'bulk': how many values and letters a reading holds, each counted each time it is reached (what is shared counts as often as it is met; a slice's spare places count too). A statement '..UptoSaid' is the law's where the arguments, and the package variables that the reading takes, are together of bulk at most 1048576: NARROWER than '..Said'. Prove '..Said' where nothing that the law and all that it calls make is longer than what came in: it says more and counts as full. Else prove '..UptoSaid'. A law counts once. -/
mutual
def uptoBulk {H : Type} : DataW H → Nat
  | .lit (.string bytes) => bytes.length + 1
  | .lit _ => 1
  | .nil => 1
  | .ptr d => uptoBulk d + 1
  | .slice elems spare => uptoBulkAll elems + uptoBulkAll spare + 1
  | .agg parts => uptoBulkAll parts + 1
  | .iface _ d => uptoBulk d + 1
  | .map entries => uptoBulkEntries entries + 1
  | .held _ => 1
def uptoBulkAll {H : Type} : List (DataW H) → Nat
  | [] => 0
  | d :: r => uptoBulk d + uptoBulkAll r
def uptoBulkEntries {H : Type} : List (Lit × DataW H) → Nat
  | [] => 0
  | x :: r => uptoBulkEntry x + uptoBulkEntries r
def uptoBulkEntry {H : Type} : Lit × DataW H → Nat
  | (.string bytes, d) => bytes.length + uptoBulk d + 1
  | (_, d) => uptoBulk d + 1
 end
def uptoSmall : (H : Type) → List (DataW H) → Bool := fun _ ds => decide (uptoBulkAll ds ≤ 1048576)
def OpenSpec.upto (s : _root_.Go.ChangeSpec) : _root_.Go.OpenSpec := { _root_.Go.OpenSpec.ofChange s with cond := some uptoSmall }

/-- 'nestboxlaw.RefsRace', WHERE WHAT IT READS IS OF BULK AT MOST 1048576: true; the input reads as it did. -/
def refsRaceUptoRow : OpenClaim := { program := "ytgbppkcebaoebaa", sum := "9d1f05a3065ab493b642dc971b4923e248e25641c0556c318d7e91d7959e8ab8", func := "nestbox/nestboxlaw.RefsRace", spec := "refsRace", inPlace := ["slices.overlaps[nestbox/refs.Ref]"], unfollowed := true, recurses := true, apart := false, narrowed := true }
def RefsRaceUptoSaid : Prop := refsRaceUptoRow.holds Try.pinned (OpenSpec.upto refsRaceSpec)

/-- 'nestboxlaw.RefsDoes', WHERE WHAT IT READS IS OF BULK AT MOST 1048576: true; the input reads as it did. -/
def refsDoesUptoRow : OpenClaim := { program := "ytgbppkcebaoebaa", sum := "9d1f05a3065ab493b642dc971b4923e248e25641c0556c318d7e91d7959e8ab8", func := "nestbox/nestboxlaw.RefsDoes", spec := "refsDoes", inPlace := ["slices.overlaps[nestbox/refs.Ref]"], unfollowed := true, recurses := true, apart := false, narrowed := true }
def RefsDoesUptoSaid : Prop := refsDoesUptoRow.holds Try.pinned (OpenSpec.upto refsDoesSpec)

/-- 'nestboxlaw.RefsMoves', WHERE WHAT IT READS IS OF BULK AT MOST 1048576: true; the input reads as it did. -/
def refsMovesUptoRow : OpenClaim := { program := "ytgbppkcebaoebaa", sum := "9d1f05a3065ab493b642dc971b4923e248e25641c0556c318d7e91d7959e8ab8", func := "nestbox/nestboxlaw.RefsMoves", spec := "refsMoves", inPlace := ["slices.overlaps[nestbox/refs.Ref]"], unfollowed := true, recurses := true, apart := false, narrowed := true }
def RefsMovesUptoSaid : Prop := refsMovesUptoRow.holds Try.pinned (OpenSpec.upto refsMovesSpec)

end Rows
end Go.Proofs.Ytgbppkcebaoebaa
