/-
  NARROWER THAN 'FOR EVERY INPUT', by the rows' own cells (each row's printed sentence says how): DepotWhole: laid · DepotDoes: laid · DepotSweeps: laid · BlendSides: laid · BlendPaths: laid · BlendDoes: laid.
  DERIVED. THE GIVEN ROWS OF THIS SEAT. 6 by the template 'for every input the law returns true; each argument reads behind the call as it read before'; 0 by the template 'total and deterministic' (their statements: YtpmjnbidmcnhnaaGreatDoorTotals.lean).
  GIVEN WITH THE SEED: the statements are not yours to turn. If you find one false, say at which input.
  Laid BY PROGRAM, IN A SANDBOX (cutbox-rows.mjs): the forced cells as the released guide's own fill.sh prints them over the translation c16aa26fe09de834… (all of the seat's roots in one cut). By AI agents, Wed Nov 11 2026. No macro, syntax, notation, axiom, sorry.
-/
import Derived.Test.YtpmjnbidmcnhnaaGreatDoorChecked
import GoSem.PinnedTables
import GoSem.Claim
import GoSem.ClaimJoined
import GoSem.ClaimMapViews
import Derived.JoinedTies
import Derived.KernelRfl
namespace Go.Proofs.YtpmjnbidmcnhnaaGreatDoor
/- THE CELL 'sum', in the pinned program and in every row, IS THE sha256 OF THE DUMP (.gsa) THAT YtpmjnbidmcnhnaaGreatDoorProg.lean LOADS. Nothing in Lean hashes anything: it is a label: what it is worth is what the hold of that sum in a sandbox is worth. -/
noncomputable def Tryz.pinned : Pinned := { name := "ytpmjnbidmcnhnaagreatdoor", sum := "c16aa26fe09de834a46f7f2325a7409779e3bfcbbd6e2e743dfb006b68ff6465", checked := Tryz.checked }
namespace Rows
def none {H : Type} : Left H := { results := [], args := [] }

/- WHAT THE LISTED PACKAGE-LEVEL VARIABLES READ AS WHEN THE CALL BEGINS. Each datum BY PROGRAM (the guide's laid-datum.mjs) off the statement by which the dump's own 'gosem.cut.vars' lays the variable. In a bare row this is a premise. The card (YtpmjnbidmcnhnaaGreatDoorCards.lean) ties it to the program's text. -/
def laid_unicode_utf8_acceptRanges {H : Type} : DataW H := .agg [.agg [.lit (.int .u8 128), .lit (.int .u8 191)], .agg [.lit (.int .u8 160), .lit (.int .u8 191)], .agg [.lit (.int .u8 128), .lit (.int .u8 159)], .agg [.lit (.int .u8 144), .lit (.int .u8 191)], .agg [.lit (.int .u8 128), .lit (.int .u8 143)], .agg [.lit (.int .u8 0), .lit (.int .u8 0)], .agg [.lit (.int .u8 0), .lit (.int .u8 0)], .agg [.lit (.int .u8 0), .lit (.int .u8 0)], .agg [.lit (.int .u8 0), .lit (.int .u8 0)], .agg [.lit (.int .u8 0), .lit (.int .u8 0)], .agg [.lit (.int .u8 0), .lit (.int .u8 0)], .agg [.lit (.int .u8 0), .lit (.int .u8 0)], .agg [.lit (.int .u8 0), .lit (.int .u8 0)], .agg [.lit (.int .u8 0), .lit (.int .u8 0)], .agg [.lit (.int .u8 0), .lit (.int .u8 0)], .agg [.lit (.int .u8 0), .lit (.int .u8 0)]]
/-- One of Go's own tables, pinned by name: the form's constant. -/
def laid_unicode_utf8_first : DataW Unit := Go.Pinned.utf8First

/-- 'nestboxlaw.DepotWhole': WHATEVER THE INPUT: true; the input reads as it did. -/
def depotWholeSpec : ChangeSpec := { name := "depotWhole", fn := fun _ => fun
  | [d1, d2, d3, d4, d5] => { results := [.lit (.bool true)], args := [d1, d2, d3, d4, d5] }
  | _ => none }
def depotWholeRow : OpenClaim := { program := "ytpmjnbidmcnhnaagreatdoor", sum := "c16aa26fe09de834a46f7f2325a7409779e3bfcbbd6e2e743dfb006b68ff6465", func := "nestbox/nestboxlaw.DepotWhole", spec := "depotWhole", inPlace := ["internal/bytealg.CountString", "internal/bytealg.IndexByteString", "internal/bytealg.IndexString", "internal/abi.NoEscape", "internal/bytealg.MakeNoZero"], unfollowed := true, recurses := true, named := ["unicode/utf8.first", "unicode/utf8.acceptRanges", "internal/bytealg.MaxLen"], apart := false, laid := [("unicode/utf8.acceptRanges", laid_unicode_utf8_acceptRanges), ("unicode/utf8.first", laid_unicode_utf8_first)] }
def DepotWholeSaid : Prop := depotWholeRow.holds Tryz.pinned (OpenSpec.ofChange depotWholeSpec)

/-- ITS FALSE NEIGHBOUR: 'it returns false'. Refute it at one input. -/
def depotWholeWrong : ChangeSpec := { name := "depotWhole", fn := fun _ => fun
  | [d1, d2, d3, d4, d5] => { results := [.lit (.bool false)], args := [d1, d2, d3, d4, d5] }
  | _ => none }
def DepotWholeWrongFalsely : Prop := depotWholeRow.holds Tryz.pinned (OpenSpec.ofChange depotWholeWrong)

/-- 'nestboxlaw.DepotDoes': WHATEVER THE INPUT: true; the input reads as it did. -/
def depotDoesSpec : ChangeSpec := { name := "depotDoes", fn := fun _ => fun
  | [d1, d2, d3] => { results := [.lit (.bool true)], args := [d1, d2, d3] }
  | _ => none }
def depotDoesRow : OpenClaim := { program := "ytpmjnbidmcnhnaagreatdoor", sum := "c16aa26fe09de834a46f7f2325a7409779e3bfcbbd6e2e743dfb006b68ff6465", func := "nestbox/nestboxlaw.DepotDoes", spec := "depotDoes", inPlace := ["internal/bytealg.CountString", "internal/bytealg.IndexByteString", "internal/bytealg.IndexString", "internal/abi.NoEscape", "internal/bytealg.MakeNoZero"], unfollowed := true, recurses := true, named := ["unicode/utf8.first", "unicode/utf8.acceptRanges", "internal/bytealg.MaxLen"], apart := false, laid := [("unicode/utf8.acceptRanges", laid_unicode_utf8_acceptRanges), ("unicode/utf8.first", laid_unicode_utf8_first)] }
def DepotDoesSaid : Prop := depotDoesRow.holds Tryz.pinned (OpenSpec.ofChange depotDoesSpec)

/-- ITS FALSE NEIGHBOUR: 'it returns false'. Refute it at one input. -/
def depotDoesWrong : ChangeSpec := { name := "depotDoes", fn := fun _ => fun
  | [d1, d2, d3] => { results := [.lit (.bool false)], args := [d1, d2, d3] }
  | _ => none }
def DepotDoesWrongFalsely : Prop := depotDoesRow.holds Tryz.pinned (OpenSpec.ofChange depotDoesWrong)

/-- 'nestboxlaw.DepotSweeps': WHATEVER THE INPUT: true; the input reads as it did. -/
def depotSweepsSpec : ChangeSpec := { name := "depotSweeps", fn := fun _ => fun
  | [d1, d2, d3, d4] => { results := [.lit (.bool true)], args := [d1, d2, d3, d4] }
  | _ => none }
def depotSweepsRow : OpenClaim := { program := "ytpmjnbidmcnhnaagreatdoor", sum := "c16aa26fe09de834a46f7f2325a7409779e3bfcbbd6e2e743dfb006b68ff6465", func := "nestbox/nestboxlaw.DepotSweeps", spec := "depotSweeps", inPlace := ["internal/bytealg.CountString", "internal/bytealg.IndexByteString", "internal/bytealg.IndexString", "internal/abi.NoEscape", "internal/bytealg.MakeNoZero"], unfollowed := true, recurses := true, named := ["unicode/utf8.first", "unicode/utf8.acceptRanges", "internal/bytealg.MaxLen"], apart := false, laid := [("unicode/utf8.acceptRanges", laid_unicode_utf8_acceptRanges), ("unicode/utf8.first", laid_unicode_utf8_first)] }
def DepotSweepsSaid : Prop := depotSweepsRow.holds Tryz.pinned (OpenSpec.ofChange depotSweepsSpec)

/-- ITS FALSE NEIGHBOUR: 'it returns false'. Refute it at one input. -/
def depotSweepsWrong : ChangeSpec := { name := "depotSweeps", fn := fun _ => fun
  | [d1, d2, d3, d4] => { results := [.lit (.bool false)], args := [d1, d2, d3, d4] }
  | _ => none }
def DepotSweepsWrongFalsely : Prop := depotSweepsRow.holds Tryz.pinned (OpenSpec.ofChange depotSweepsWrong)

/-- 'nestboxlaw.BlendSides': WHATEVER THE INPUT: true; the input reads as it did. -/
def blendSidesSpec : ChangeSpec := { name := "blendSides", fn := fun _ => fun
  | [d] => { results := [.lit (.bool true)], args := [d] }
  | _ => none }
def blendSidesRow : OpenClaim := { program := "ytpmjnbidmcnhnaagreatdoor", sum := "c16aa26fe09de834a46f7f2325a7409779e3bfcbbd6e2e743dfb006b68ff6465", func := "nestbox/nestboxlaw.BlendSides", spec := "blendSides", inPlace := ["internal/bytealg.CountString", "internal/bytealg.IndexByteString", "internal/bytealg.IndexString", "internal/bytealg.IndexByte", "internal/bytealg.MakeNoZero"], unfollowed := true, recurses := true, named := ["unicode/utf8.first", "unicode/utf8.acceptRanges", "internal/bytealg.MaxLen"], apart := false, laid := [("unicode/utf8.acceptRanges", laid_unicode_utf8_acceptRanges), ("unicode/utf8.first", laid_unicode_utf8_first)] }
def BlendSidesSaid : Prop := blendSidesRow.holds Tryz.pinned (OpenSpec.ofChange blendSidesSpec)

/-- ITS FALSE NEIGHBOUR: 'it returns false'. Refute it at one input. -/
def blendSidesWrong : ChangeSpec := { name := "blendSides", fn := fun _ => fun
  | [d] => { results := [.lit (.bool false)], args := [d] }
  | _ => none }
def BlendSidesWrongFalsely : Prop := blendSidesRow.holds Tryz.pinned (OpenSpec.ofChange blendSidesWrong)

/-- 'nestboxlaw.BlendPaths': WHATEVER THE INPUT: true; the input reads as it did. -/
def blendPathsSpec : ChangeSpec := { name := "blendPaths", fn := fun _ => fun
  | [d1, d2] => { results := [.lit (.bool true)], args := [d1, d2] }
  | _ => none }
def blendPathsRow : OpenClaim := { program := "ytpmjnbidmcnhnaagreatdoor", sum := "c16aa26fe09de834a46f7f2325a7409779e3bfcbbd6e2e743dfb006b68ff6465", func := "nestbox/nestboxlaw.BlendPaths", spec := "blendPaths", inPlace := ["internal/bytealg.CountString", "internal/bytealg.IndexByteString", "internal/bytealg.IndexString", "internal/bytealg.IndexByte", "internal/bytealg.MakeNoZero"], unfollowed := true, recurses := true, named := ["unicode/utf8.first", "unicode/utf8.acceptRanges", "internal/bytealg.MaxLen"], apart := false, laid := [("unicode/utf8.acceptRanges", laid_unicode_utf8_acceptRanges), ("unicode/utf8.first", laid_unicode_utf8_first)] }
def BlendPathsSaid : Prop := blendPathsRow.holds Tryz.pinned (OpenSpec.ofChange blendPathsSpec)

/-- ITS FALSE NEIGHBOUR: 'it returns false'. Refute it at one input. -/
def blendPathsWrong : ChangeSpec := { name := "blendPaths", fn := fun _ => fun
  | [d1, d2] => { results := [.lit (.bool false)], args := [d1, d2] }
  | _ => none }
def BlendPathsWrongFalsely : Prop := blendPathsRow.holds Tryz.pinned (OpenSpec.ofChange blendPathsWrong)

/-- 'nestboxlaw.BlendDoes': WHATEVER THE INPUT: true; the input reads as it did. -/
def blendDoesSpec : ChangeSpec := { name := "blendDoes", fn := fun _ => fun
  | [d1, d2, d3, d4, d5] => { results := [.lit (.bool true)], args := [d1, d2, d3, d4, d5] }
  | _ => none }
def blendDoesRow : OpenClaim := { program := "ytpmjnbidmcnhnaagreatdoor", sum := "c16aa26fe09de834a46f7f2325a7409779e3bfcbbd6e2e743dfb006b68ff6465", func := "nestbox/nestboxlaw.BlendDoes", spec := "blendDoes", inPlace := ["internal/bytealg.CountString", "internal/bytealg.IndexByteString", "internal/bytealg.IndexString", "internal/bytealg.IndexByte", "internal/bytealg.MakeNoZero"], unfollowed := true, recurses := true, named := ["unicode/utf8.first", "unicode/utf8.acceptRanges", "internal/bytealg.MaxLen"], apart := false, laid := [("unicode/utf8.acceptRanges", laid_unicode_utf8_acceptRanges), ("unicode/utf8.first", laid_unicode_utf8_first)] }
def BlendDoesSaid : Prop := blendDoesRow.holds Tryz.pinned (OpenSpec.ofChange blendDoesSpec)

/-- ITS FALSE NEIGHBOUR: 'it returns false'. Refute it at one input. -/
def blendDoesWrong : ChangeSpec := { name := "blendDoes", fn := fun _ => fun
  | [d1, d2, d3, d4, d5] => { results := [.lit (.bool false)], args := [d1, d2, d3, d4, d5] }
  | _ => none }
def BlendDoesWrongFalsely : Prop := blendDoesRow.holds Tryz.pinned (OpenSpec.ofChange blendDoesWrong)

/- THE SECOND FORM. 'bulk': how many values and letters a reading holds, each counted each time it is reached (what is shared counts as often as it is met; a slice's spare places count too). A statement '..UptoSaid' is the law's where the arguments, and the package variables that the reading takes, are together of bulk at most 1048576: NARROWER than '..Said'. Prove '..Said' where nothing that the law and all that it calls make is longer than what came in: it says more and counts as full. Else prove '..UptoSaid'. A law counts once. -/
mutual
def uptoBulk {H : Type} : DataW H → Nat
  | .lit (.string bytes) => bytes.length + 1
  | .lit _ => 1
  | .nil => 1
  | .ptr d => uptoBulk d + 1
  | .slice elems spare => uptoBulkAll elems + uptoBulkAll spare + 1
  | .agg parts => uptoBulkAll parts + 1
  | .iface _ d => uptoBulk d + 1
  | .map entries => uptoBulkEntries entries + 1
  | .held _ => 1
def uptoBulkAll {H : Type} : List (DataW H) → Nat
  | [] => 0
  | d :: r => uptoBulk d + uptoBulkAll r
def uptoBulkEntries {H : Type} : List (Lit × DataW H) → Nat
  | [] => 0
  | x :: r => uptoBulkEntry x + uptoBulkEntries r
def uptoBulkEntry {H : Type} : Lit × DataW H → Nat
  | (.string bytes, d) => bytes.length + uptoBulk d + 1
  | (_, d) => uptoBulk d + 1
 end
def uptoSmall : (H : Type) → List (DataW H) → Bool := fun _ ds => decide (uptoBulkAll ds ≤ 1048576)
def OpenSpec.upto (s : _root_.Go.ChangeSpec) : _root_.Go.OpenSpec := { _root_.Go.OpenSpec.ofChange s with cond := some uptoSmall }

/-- 'nestboxlaw.DepotWhole', WHERE WHAT IT READS IS OF BULK AT MOST 1048576: true; the input reads as it did. -/
def depotWholeUptoRow : OpenClaim := { program := "ytpmjnbidmcnhnaagreatdoor", sum := "c16aa26fe09de834a46f7f2325a7409779e3bfcbbd6e2e743dfb006b68ff6465", func := "nestbox/nestboxlaw.DepotWhole", spec := "depotWhole", inPlace := ["internal/bytealg.CountString", "internal/bytealg.IndexByteString", "internal/bytealg.IndexString", "internal/abi.NoEscape", "internal/bytealg.MakeNoZero"], unfollowed := true, recurses := true, named := ["unicode/utf8.first", "unicode/utf8.acceptRanges", "internal/bytealg.MaxLen"], apart := false, laid := [("unicode/utf8.acceptRanges", laid_unicode_utf8_acceptRanges), ("unicode/utf8.first", laid_unicode_utf8_first)], narrowed := true }
def DepotWholeUptoSaid : Prop := depotWholeUptoRow.holds Tryz.pinned (OpenSpec.upto depotWholeSpec)

/-- 'nestboxlaw.DepotDoes', WHERE WHAT IT READS IS OF BULK AT MOST 1048576: true; the input reads as it did. -/
def depotDoesUptoRow : OpenClaim := { program := "ytpmjnbidmcnhnaagreatdoor", sum := "c16aa26fe09de834a46f7f2325a7409779e3bfcbbd6e2e743dfb006b68ff6465", func := "nestbox/nestboxlaw.DepotDoes", spec := "depotDoes", inPlace := ["internal/bytealg.CountString", "internal/bytealg.IndexByteString", "internal/bytealg.IndexString", "internal/abi.NoEscape", "internal/bytealg.MakeNoZero"], unfollowed := true, recurses := true, named := ["unicode/utf8.first", "unicode/utf8.acceptRanges", "internal/bytealg.MaxLen"], apart := false, laid := [("unicode/utf8.acceptRanges", laid_unicode_utf8_acceptRanges), ("unicode/utf8.first", laid_unicode_utf8_first)], narrowed := true }
def DepotDoesUptoSaid : Prop := depotDoesUptoRow.holds Tryz.pinned (OpenSpec.upto depotDoesSpec)

/-- 'nestboxlaw.DepotSweeps', WHERE WHAT IT READS IS OF BULK AT MOST 1048576: true; the input reads as it did. -/
def depotSweepsUptoRow : OpenClaim := { program := "ytpmjnbidmcnhnaagreatdoor", sum := "c16aa26fe09de834a46f7f2325a7409779e3bfcbbd6e2e743dfb006b68ff6465", func := "nestbox/nestboxlaw.DepotSweeps", spec := "depotSweeps", inPlace := ["internal/bytealg.CountString", "internal/bytealg.IndexByteString", "internal/bytealg.IndexString", "internal/abi.NoEscape", "internal/bytealg.MakeNoZero"], unfollowed := true, recurses := true, named := ["unicode/utf8.first", "unicode/utf8.acceptRanges", "internal/bytealg.MaxLen"], apart := false, laid := [("unicode/utf8.acceptRanges", laid_unicode_utf8_acceptRanges), ("unicode/utf8.first", laid_unicode_utf8_first)], narrowed := true }
def DepotSweepsUptoSaid : Prop := depotSweepsUptoRow.holds Tryz.pinned (OpenSpec.upto depotSweepsSpec)

/-- 'nestboxlaw.BlendSides', WHERE WHAT IT READS IS OF BULK AT MOST 1048576: true; the input reads as it did. -/
def blendSidesUptoRow : OpenClaim := { program := "ytpmjnbidmcnhnaagreatdoor", sum := "c16aa26fe09de834a46f7f2325a7409779e3bfcbbd6e2e743dfb006b68ff6465", func := "nestbox/nestboxlaw.BlendSides", spec := "blendSides", inPlace := ["internal/bytealg.CountString", "internal/bytealg.IndexByteString", "internal/bytealg.IndexString", "internal/bytealg.IndexByte", "internal/bytealg.MakeNoZero"], unfollowed := true, recurses := true, named := ["unicode/utf8.first", "unicode/utf8.acceptRanges", "internal/bytealg.MaxLen"], apart := false, laid := [("unicode/utf8.acceptRanges", laid_unicode_utf8_acceptRanges), ("unicode/utf8.first", laid_unicode_utf8_first)], narrowed := true }
def BlendSidesUptoSaid : Prop := blendSidesUptoRow.holds Tryz.pinned (OpenSpec.upto blendSidesSpec)

/-- 'nestboxlaw.BlendPaths', WHERE WHAT IT READS IS OF BULK AT MOST 1048576: true; the input reads as it did. -/
def blendPathsUptoRow : OpenClaim := { program := "ytpmjnbidmcnhnaagreatdoor", sum := "c16aa26fe09de834a46f7f2325a7409779e3bfcbbd6e2e743dfb006b68ff6465", func := "nestbox/nestboxlaw.BlendPaths", spec := "blendPaths", inPlace := ["internal/bytealg.CountString", "internal/bytealg.IndexByteString", "internal/bytealg.IndexString", "internal/bytealg.IndexByte", "internal/bytealg.MakeNoZero"], unfollowed := true, recurses := true, named := ["unicode/utf8.first", "unicode/utf8.acceptRanges", "internal/bytealg.MaxLen"], apart := false, laid := [("unicode/utf8.acceptRanges", laid_unicode_utf8_acceptRanges), ("unicode/utf8.first", laid_unicode_utf8_first)], narrowed := true }
def BlendPathsUptoSaid : Prop := blendPathsUptoRow.holds Tryz.pinned (OpenSpec.upto blendPathsSpec)

/-- 'nestboxlaw.BlendDoes', WHERE WHAT IT READS IS OF BULK AT MOST 1048576: true; the input reads as it did. -/
def blendDoesUptoRow : OpenClaim := { program := "ytpmjnbidmcnhnaagreatdoor", sum := "c16aa26fe09de834a46f7f2325a7409779e3bfcbbd6e2e743dfb006b68ff6465", func := "nestbox/nestboxlaw.BlendDoes", spec := "blendDoes", inPlace := ["internal/bytealg.CountString", "internal/bytealg.IndexByteString", "internal/bytealg.IndexString", "internal/bytealg.IndexByte", "internal/bytealg.MakeNoZero"], unfollowed := true, recurses := true, named := ["unicode/utf8.first", "unicode/utf8.acceptRanges", "internal/bytealg.MaxLen"], apart := false, laid := [("unicode/utf8.acceptRanges", laid_unicode_utf8_acceptRanges), ("unicode/utf8.first", laid_unicode_utf8_first)], narrowed := true }
def BlendDoesUptoSaid : Prop := blendDoesUptoRow.holds Tryz.pinned (OpenSpec.upto blendDoesSpec)

end Rows
end Go.Proofs.YtpmjnbidmcnhnaaGreatDoor
