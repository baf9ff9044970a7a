/-
  NARROWER THAN 'FOR EVERY INPUT', by the rows' own cells (each row's printed sentence says how): WorkBack: laid · WorkSafe: laid · WorkDoes: laid · SplitTree: laid · DepotWhole: laid · DepotDoes: laid · DepotSweeps: laid · BlendSides: laid · BlendPaths: laid · BlendDoes: laid · SplitDoes: laid · SplitAdds: laid.
  DERIVED. THE GIVEN ROWS OF THIS SEAT. 12 by the template 'for every input the law returns true; each argument reads behind the call as it read before'; 0 by the template 'total and deterministic' (their statements: YtogallppofinhaaGreatDoorTotals.lean).
  GIVEN WITH THE SEED: the statements are not yours to turn. If you find one false, say at which input.
  Laid BY PROGRAM, IN A SANDBOX (cutbox-rows.mjs): the forced cells as the released guide's own fill.sh prints them over the translation d6cb0baab2c9efe4… (all of the seat's roots in one cut). By AI agents, Wed Nov 11 2026. No macro, syntax, notation, axiom, sorry.
-/
import Derived.Test.YtogallppofinhaaGreatDoorChecked
import GoSem.PinnedTables
import GoSem.Claim
import GoSem.ClaimJoined
import GoSem.ClaimMapViews
import Derived.JoinedTies
import Derived.KernelRfl
namespace Go.Proofs.YtogallppofinhaaGreatDoor
/- THE CELL 'sum', in the pinned program and in every row, IS THE sha256 OF THE DUMP (.gsa) THAT YtogallppofinhaaGreatDoorProg.lean LOADS. Nothing in Lean hashes anything: it is a label: what it is worth is what the hold of that sum in a sandbox is worth. -/
noncomputable def Tryz.pinned : Pinned := { name := "ytogallppofinhaagreatdoor", sum := "d6cb0baab2c9efe4002142f44d551e350087ce9016dfffbe01438a4f098ce256", checked := Tryz.checked }
namespace Rows
def none {H : Type} : Left H := { results := [], args := [] }

/- WHAT THE LISTED PACKAGE-LEVEL VARIABLES READ AS WHEN THE CALL BEGINS. Each datum BY PROGRAM (the guide's laid-datum.mjs) off the statement by which the dump's own 'gosem.cut.vars' lays the variable. In a bare row this is a premise. The card (YtogallppofinhaaGreatDoorCards.lean) ties it to the program's text. -/
def laid_unicode_utf8_acceptRanges {H : Type} : DataW H := .agg [.agg [.lit (.int .u8 128), .lit (.int .u8 191)], .agg [.lit (.int .u8 160), .lit (.int .u8 191)], .agg [.lit (.int .u8 128), .lit (.int .u8 159)], .agg [.lit (.int .u8 144), .lit (.int .u8 191)], .agg [.lit (.int .u8 128), .lit (.int .u8 143)], .agg [.lit (.int .u8 0), .lit (.int .u8 0)], .agg [.lit (.int .u8 0), .lit (.int .u8 0)], .agg [.lit (.int .u8 0), .lit (.int .u8 0)], .agg [.lit (.int .u8 0), .lit (.int .u8 0)], .agg [.lit (.int .u8 0), .lit (.int .u8 0)], .agg [.lit (.int .u8 0), .lit (.int .u8 0)], .agg [.lit (.int .u8 0), .lit (.int .u8 0)], .agg [.lit (.int .u8 0), .lit (.int .u8 0)], .agg [.lit (.int .u8 0), .lit (.int .u8 0)], .agg [.lit (.int .u8 0), .lit (.int .u8 0)], .agg [.lit (.int .u8 0), .lit (.int .u8 0)]]
/-- One of Go's own tables, pinned by name: the form's constant. -/
def laid_unicode_utf8_first : DataW Unit := Go.Pinned.utf8First

/-- 'nestboxlaw.WorkBack': WHATEVER THE INPUT: true; the input reads as it did. -/
def workBackSpec : ChangeSpec := { name := "workBack", fn := fun _ => fun
  | [d1, d2] => { results := [.lit (.bool true)], args := [d1, d2] }
  | _ => none }
def workBackRow : OpenClaim := { program := "ytogallppofinhaagreatdoor", sum := "d6cb0baab2c9efe4002142f44d551e350087ce9016dfffbe01438a4f098ce256", func := "nestbox/nestboxlaw.WorkBack", spec := "workBack", inPlace := ["internal/bytealg.CountString", "internal/bytealg.IndexByteString", "internal/bytealg.IndexString", "slices.overlaps[nestbox/work.item]", "internal/abi.NoEscape", "internal/bytealg.MakeNoZero"], unfollowed := true, recurses := true, named := ["unicode/utf8.first", "unicode/utf8.acceptRanges", "internal/bytealg.MaxLen"], apart := false, laid := [("unicode/utf8.acceptRanges", laid_unicode_utf8_acceptRanges), ("unicode/utf8.first", laid_unicode_utf8_first)] }
def WorkBackSaid : Prop := workBackRow.holds Tryz.pinned (OpenSpec.ofChange workBackSpec)

/-- ITS FALSE NEIGHBOUR: 'it returns false'. Refute it at one input. -/
def workBackWrong : ChangeSpec := { name := "workBack", fn := fun _ => fun
  | [d1, d2] => { results := [.lit (.bool false)], args := [d1, d2] }
  | _ => none }
def WorkBackWrongFalsely : Prop := workBackRow.holds Tryz.pinned (OpenSpec.ofChange workBackWrong)

/-- 'nestboxlaw.WorkSafe': WHATEVER THE INPUT: true; the input reads as it did. -/
def workSafeSpec : ChangeSpec := { name := "workSafe", fn := fun _ => fun
  | [d1, d2] => { results := [.lit (.bool true)], args := [d1, d2] }
  | _ => none }
def workSafeRow : OpenClaim := { program := "ytogallppofinhaagreatdoor", sum := "d6cb0baab2c9efe4002142f44d551e350087ce9016dfffbe01438a4f098ce256", func := "nestbox/nestboxlaw.WorkSafe", spec := "workSafe", inPlace := ["internal/bytealg.CountString", "internal/bytealg.IndexByteString", "internal/bytealg.IndexString", "slices.overlaps[nestbox/work.item]", "internal/abi.NoEscape", "internal/bytealg.MakeNoZero"], unfollowed := true, recurses := true, named := ["unicode/utf8.first", "unicode/utf8.acceptRanges", "internal/bytealg.MaxLen"], apart := false, laid := [("unicode/utf8.acceptRanges", laid_unicode_utf8_acceptRanges), ("unicode/utf8.first", laid_unicode_utf8_first)] }
def WorkSafeSaid : Prop := workSafeRow.holds Tryz.pinned (OpenSpec.ofChange workSafeSpec)

/-- ITS FALSE NEIGHBOUR: 'it returns false'. Refute it at one input. -/
def workSafeWrong : ChangeSpec := { name := "workSafe", fn := fun _ => fun
  | [d1, d2] => { results := [.lit (.bool false)], args := [d1, d2] }
  | _ => none }
def WorkSafeWrongFalsely : Prop := workSafeRow.holds Tryz.pinned (OpenSpec.ofChange workSafeWrong)

/-- 'nestboxlaw.WorkDoes': WHATEVER THE INPUT: true; the input reads as it did. -/
def workDoesSpec : ChangeSpec := { name := "workDoes", fn := fun _ => fun
  | [d] => { results := [.lit (.bool true)], args := [d] }
  | _ => none }
def workDoesRow : OpenClaim := { program := "ytogallppofinhaagreatdoor", sum := "d6cb0baab2c9efe4002142f44d551e350087ce9016dfffbe01438a4f098ce256", func := "nestbox/nestboxlaw.WorkDoes", spec := "workDoes", inPlace := ["internal/bytealg.CountString", "internal/bytealg.IndexByteString", "internal/bytealg.IndexString", "slices.overlaps[nestbox/work.item]", "internal/abi.NoEscape", "internal/bytealg.MakeNoZero"], unfollowed := true, recurses := true, named := ["unicode/utf8.first", "unicode/utf8.acceptRanges", "internal/bytealg.MaxLen"], apart := false, laid := [("unicode/utf8.acceptRanges", laid_unicode_utf8_acceptRanges), ("unicode/utf8.first", laid_unicode_utf8_first)] }
def WorkDoesSaid : Prop := workDoesRow.holds Tryz.pinned (OpenSpec.ofChange workDoesSpec)

/-- ITS FALSE NEIGHBOUR: 'it returns false'. Refute it at one input. -/
def workDoesWrong : ChangeSpec := { name := "workDoes", fn := fun _ => fun
  | [d] => { results := [.lit (.bool false)], args := [d] }
  | _ => none }
def WorkDoesWrongFalsely : Prop := workDoesRow.holds Tryz.pinned (OpenSpec.ofChange workDoesWrong)

/-- 'nestboxlaw.SplitTree': WHATEVER THE INPUT: true; the input reads as it did. -/
def splitTreeSpec : ChangeSpec := { name := "splitTree", fn := fun _ => fun
  | [d1, d2, d3] => { results := [.lit (.bool true)], args := [d1, d2, d3] }
  | _ => none }
def splitTreeRow : OpenClaim := { program := "ytogallppofinhaagreatdoor", sum := "d6cb0baab2c9efe4002142f44d551e350087ce9016dfffbe01438a4f098ce256", func := "nestbox/nestboxlaw.SplitTree", spec := "splitTree", inPlace := ["internal/bytealg.CountString", "internal/bytealg.IndexByteString", "internal/bytealg.IndexString"], unfollowed := true, recurses := true, named := ["unicode/utf8.first", "unicode/utf8.acceptRanges", "internal/bytealg.MaxLen"], apart := false, laid := [("unicode/utf8.acceptRanges", laid_unicode_utf8_acceptRanges), ("unicode/utf8.first", laid_unicode_utf8_first)] }
def SplitTreeSaid : Prop := splitTreeRow.holds Tryz.pinned (OpenSpec.ofChange splitTreeSpec)

/-- ITS FALSE NEIGHBOUR: 'it returns false'. Refute it at one input. -/
def splitTreeWrong : ChangeSpec := { name := "splitTree", fn := fun _ => fun
  | [d1, d2, d3] => { results := [.lit (.bool false)], args := [d1, d2, d3] }
  | _ => none }
def SplitTreeWrongFalsely : Prop := splitTreeRow.holds Tryz.pinned (OpenSpec.ofChange splitTreeWrong)

/-- 'nestboxlaw.DepotWhole': WHATEVER THE INPUT: true; the input reads as it did. -/
def depotWholeSpec : ChangeSpec := { name := "depotWhole", fn := fun _ => fun
  | [d1, d2, d3, d4, d5] => { results := [.lit (.bool true)], args := [d1, d2, d3, d4, d5] }
  | _ => none }
def depotWholeRow : OpenClaim := { program := "ytogallppofinhaagreatdoor", sum := "d6cb0baab2c9efe4002142f44d551e350087ce9016dfffbe01438a4f098ce256", func := "nestbox/nestboxlaw.DepotWhole", spec := "depotWhole", inPlace := ["internal/bytealg.CountString", "internal/bytealg.IndexByteString", "internal/bytealg.IndexString", "internal/abi.NoEscape", "internal/bytealg.MakeNoZero"], unfollowed := true, recurses := true, named := ["unicode/utf8.first", "unicode/utf8.acceptRanges", "internal/bytealg.MaxLen"], apart := false, laid := [("unicode/utf8.acceptRanges", laid_unicode_utf8_acceptRanges), ("unicode/utf8.first", laid_unicode_utf8_first)] }
def DepotWholeSaid : Prop := depotWholeRow.holds Tryz.pinned (OpenSpec.ofChange depotWholeSpec)

/-- ITS FALSE NEIGHBOUR: 'it returns false'. Refute it at one input. -/
def depotWholeWrong : ChangeSpec := { name := "depotWhole", fn := fun _ => fun
  | [d1, d2, d3, d4, d5] => { results := [.lit (.bool false)], args := [d1, d2, d3, d4, d5] }
  | _ => none }
def DepotWholeWrongFalsely : Prop := depotWholeRow.holds Tryz.pinned (OpenSpec.ofChange depotWholeWrong)

/-- 'nestboxlaw.DepotDoes': WHATEVER THE INPUT: true; the input reads as it did. -/
def depotDoesSpec : ChangeSpec := { name := "depotDoes", fn := fun _ => fun
  | [d1, d2, d3] => { results := [.lit (.bool true)], args := [d1, d2, d3] }
  | _ => none }
def depotDoesRow : OpenClaim := { program := "ytogallppofinhaagreatdoor", sum := "d6cb0baab2c9efe4002142f44d551e350087ce9016dfffbe01438a4f098ce256", func := "nestbox/nestboxlaw.DepotDoes", spec := "depotDoes", inPlace := ["internal/bytealg.CountString", "internal/bytealg.IndexByteString", "internal/bytealg.IndexString", "internal/abi.NoEscape", "internal/bytealg.MakeNoZero"], unfollowed := true, recurses := true, named := ["unicode/utf8.first", "unicode/utf8.acceptRanges", "internal/bytealg.MaxLen"], apart := false, laid := [("unicode/utf8.acceptRanges", laid_unicode_utf8_acceptRanges), ("unicode/utf8.first", laid_unicode_utf8_first)] }
def DepotDoesSaid : Prop := depotDoesRow.holds Tryz.pinned (OpenSpec.ofChange depotDoesSpec)

/-- ITS FALSE NEIGHBOUR: 'it returns false'. Refute it at one input. -/
def depotDoesWrong : ChangeSpec := { name := "depotDoes", fn := fun _ => fun
  | [d1, d2, d3] => { results := [.lit (.bool false)], args := [d1, d2, d3] }
  | _ => none }
def DepotDoesWrongFalsely : Prop := depotDoesRow.holds Tryz.pinned (OpenSpec.ofChange depotDoesWrong)

/-- 'nestboxlaw.DepotSweeps': WHATEVER THE INPUT: true; the input reads as it did. -/
def depotSweepsSpec : ChangeSpec := { name := "depotSweeps", fn := fun _ => fun
  | [d1, d2, d3, d4] => { results := [.lit (.bool true)], args := [d1, d2, d3, d4] }
  | _ => none }
def depotSweepsRow : OpenClaim := { program := "ytogallppofinhaagreatdoor", sum := "d6cb0baab2c9efe4002142f44d551e350087ce9016dfffbe01438a4f098ce256", func := "nestbox/nestboxlaw.DepotSweeps", spec := "depotSweeps", inPlace := ["internal/bytealg.CountString", "internal/bytealg.IndexByteString", "internal/bytealg.IndexString", "internal/abi.NoEscape", "internal/bytealg.MakeNoZero"], unfollowed := true, recurses := true, named := ["unicode/utf8.first", "unicode/utf8.acceptRanges", "internal/bytealg.MaxLen"], apart := false, laid := [("unicode/utf8.acceptRanges", laid_unicode_utf8_acceptRanges), ("unicode/utf8.first", laid_unicode_utf8_first)] }
def DepotSweepsSaid : Prop := depotSweepsRow.holds Tryz.pinned (OpenSpec.ofChange depotSweepsSpec)

/-- ITS FALSE NEIGHBOUR: 'it returns false'. Refute it at one input. -/
def depotSweepsWrong : ChangeSpec := { name := "depotSweeps", fn := fun _ => fun
  | [d1, d2, d3, d4] => { results := [.lit (.bool false)], args := [d1, d2, d3, d4] }
  | _ => none }
def DepotSweepsWrongFalsely : Prop := depotSweepsRow.holds Tryz.pinned (OpenSpec.ofChange depotSweepsWrong)

/-- 'nestboxlaw.BlendSides': WHATEVER THE INPUT: true; the input reads as it did. -/
def blendSidesSpec : ChangeSpec := { name := "blendSides", fn := fun _ => fun
  | [d] => { results := [.lit (.bool true)], args := [d] }
  | _ => none }
def blendSidesRow : OpenClaim := { program := "ytogallppofinhaagreatdoor", sum := "d6cb0baab2c9efe4002142f44d551e350087ce9016dfffbe01438a4f098ce256", func := "nestbox/nestboxlaw.BlendSides", spec := "blendSides", inPlace := ["internal/bytealg.CountString", "internal/bytealg.IndexByteString", "internal/bytealg.IndexString", "internal/bytealg.IndexByte", "internal/bytealg.MakeNoZero"], unfollowed := true, recurses := true, named := ["unicode/utf8.first", "unicode/utf8.acceptRanges", "internal/bytealg.MaxLen"], apart := false, laid := [("unicode/utf8.acceptRanges", laid_unicode_utf8_acceptRanges), ("unicode/utf8.first", laid_unicode_utf8_first)] }
def BlendSidesSaid : Prop := blendSidesRow.holds Tryz.pinned (OpenSpec.ofChange blendSidesSpec)

/-- ITS FALSE NEIGHBOUR: 'it returns false'. Refute it at one input. -/
def blendSidesWrong : ChangeSpec := { name := "blendSides", fn := fun _ => fun
  | [d] => { results := [.lit (.bool false)], args := [d] }
  | _ => none }
def BlendSidesWrongFalsely : Prop := blendSidesRow.holds Tryz.pinned (OpenSpec.ofChange blendSidesWrong)

/-- 'nestboxlaw.BlendPaths': WHATEVER THE INPUT: true; the input reads as it did. -/
def blendPathsSpec : ChangeSpec := { name := "blendPaths", fn := fun _ => fun
  | [d1, d2] => { results := [.lit (.bool true)], args := [d1, d2] }
  | _ => none }
def blendPathsRow : OpenClaim := { program := "ytogallppofinhaagreatdoor", sum := "d6cb0baab2c9efe4002142f44d551e350087ce9016dfffbe01438a4f098ce256", func := "nestbox/nestboxlaw.BlendPaths", spec := "blendPaths", inPlace := ["internal/bytealg.CountString", "internal/bytealg.IndexByteString", "internal/bytealg.IndexString", "internal/bytealg.IndexByte", "internal/bytealg.MakeNoZero"], unfollowed := true, recurses := true, named := ["unicode/utf8.first", "unicode/utf8.acceptRanges", "internal/bytealg.MaxLen"], apart := false, laid := [("unicode/utf8.acceptRanges", laid_unicode_utf8_acceptRanges), ("unicode/utf8.first", laid_unicode_utf8_first)] }
def BlendPathsSaid : Prop := blendPathsRow.holds Tryz.pinned (OpenSpec.ofChange blendPathsSpec)

/-- ITS FALSE NEIGHBOUR: 'it returns false'. Refute it at one input. -/
def blendPathsWrong : ChangeSpec := { name := "blendPaths", fn := fun _ => fun
  | [d1, d2] => { results := [.lit (.bool false)], args := [d1, d2] }
  | _ => none }
def BlendPathsWrongFalsely : Prop := blendPathsRow.holds Tryz.pinned (OpenSpec.ofChange blendPathsWrong)

/-- 'nestboxlaw.BlendDoes': WHATEVER THE INPUT: true; the input reads as it did. -/
def blendDoesSpec : ChangeSpec := { name := "blendDoes", fn := fun _ => fun
  | [d1, d2, d3, d4, d5] => { results := [.lit (.bool true)], args := [d1, d2, d3, d4, d5] }
  | _ => none }
def blendDoesRow : OpenClaim := { program := "ytogallppofinhaagreatdoor", sum := "d6cb0baab2c9efe4002142f44d551e350087ce9016dfffbe01438a4f098ce256", func := "nestbox/nestboxlaw.BlendDoes", spec := "blendDoes", inPlace := ["internal/bytealg.CountString", "internal/bytealg.IndexByteString", "internal/bytealg.IndexString", "internal/bytealg.IndexByte", "internal/bytealg.MakeNoZero"], unfollowed := true, recurses := true, named := ["unicode/utf8.first", "unicode/utf8.acceptRanges", "internal/bytealg.MaxLen"], apart := false, laid := [("unicode/utf8.acceptRanges", laid_unicode_utf8_acceptRanges), ("unicode/utf8.first", laid_unicode_utf8_first)] }
def BlendDoesSaid : Prop := blendDoesRow.holds Tryz.pinned (OpenSpec.ofChange blendDoesSpec)

/-- ITS FALSE NEIGHBOUR: 'it returns false'. Refute it at one input. -/
def blendDoesWrong : ChangeSpec := { name := "blendDoes", fn := fun _ => fun
  | [d1, d2, d3, d4, d5] => { results := [.lit (.bool false)], args := [d1, d2, d3, d4, d5] }
  | _ => none }
def BlendDoesWrongFalsely : Prop := blendDoesRow.holds Tryz.pinned (OpenSpec.ofChange blendDoesWrong)

/-- 'nestboxlaw.SplitDoes': WHATEVER THE INPUT: true; the input reads as it did. -/
def splitDoesSpec : ChangeSpec := { name := "splitDoes", fn := fun _ => fun
  | [d1, d2, d3, d4, d5] => { results := [.lit (.bool true)], args := [d1, d2, d3, d4, d5] }
  | _ => none }
def splitDoesRow : OpenClaim := { program := "ytogallppofinhaagreatdoor", sum := "d6cb0baab2c9efe4002142f44d551e350087ce9016dfffbe01438a4f098ce256", func := "nestbox/nestboxlaw.SplitDoes", spec := "splitDoes", inPlace := ["internal/bytealg.CountString", "internal/bytealg.IndexByteString", "internal/bytealg.IndexString", "internal/abi.NoEscape", "internal/bytealg.MakeNoZero"], unfollowed := true, recurses := true, named := ["unicode/utf8.first", "unicode/utf8.acceptRanges", "internal/bytealg.MaxLen"], apart := false, laid := [("unicode/utf8.acceptRanges", laid_unicode_utf8_acceptRanges), ("unicode/utf8.first", laid_unicode_utf8_first)] }
def SplitDoesSaid : Prop := splitDoesRow.holds Tryz.pinned (OpenSpec.ofChange splitDoesSpec)

/-- ITS FALSE NEIGHBOUR: 'it returns false'. Refute it at one input. -/
def splitDoesWrong : ChangeSpec := { name := "splitDoes", fn := fun _ => fun
  | [d1, d2, d3, d4, d5] => { results := [.lit (.bool false)], args := [d1, d2, d3, d4, d5] }
  | _ => none }
def SplitDoesWrongFalsely : Prop := splitDoesRow.holds Tryz.pinned (OpenSpec.ofChange splitDoesWrong)

/-- 'nestboxlaw.SplitAdds': WHATEVER THE INPUT: true; the input reads as it did. -/
def splitAddsSpec : ChangeSpec := { name := "splitAdds", fn := fun _ => fun
  | [d1, d2, d3, d4] => { results := [.lit (.bool true)], args := [d1, d2, d3, d4] }
  | _ => none }
def splitAddsRow : OpenClaim := { program := "ytogallppofinhaagreatdoor", sum := "d6cb0baab2c9efe4002142f44d551e350087ce9016dfffbe01438a4f098ce256", func := "nestbox/nestboxlaw.SplitAdds", spec := "splitAdds", inPlace := ["internal/bytealg.CountString", "internal/bytealg.IndexByteString", "internal/bytealg.IndexString", "internal/abi.NoEscape", "internal/bytealg.MakeNoZero"], unfollowed := true, recurses := true, named := ["unicode/utf8.first", "unicode/utf8.acceptRanges", "internal/bytealg.MaxLen"], apart := false, laid := [("unicode/utf8.acceptRanges", laid_unicode_utf8_acceptRanges), ("unicode/utf8.first", laid_unicode_utf8_first)] }
def SplitAddsSaid : Prop := splitAddsRow.holds Tryz.pinned (OpenSpec.ofChange splitAddsSpec)

/-- ITS FALSE NEIGHBOUR: 'it returns false'. Refute it at one input. -/
def splitAddsWrong : ChangeSpec := { name := "splitAdds", fn := fun _ => fun
  | [d1, d2, d3, d4] => { results := [.lit (.bool false)], args := [d1, d2, d3, d4] }
  | _ => none }
def SplitAddsWrongFalsely : Prop := splitAddsRow.holds Tryz.pinned (OpenSpec.ofChange splitAddsWrong)

/- THE SECOND FORM. 'bulk': how many values and letters a reading holds, each counted each time it is reached (what is shared counts as often as it is met; a slice's spare places count too). A statement '..UptoSaid' is the law's where the arguments, and the package variables that the reading takes, are together of bulk at most 1048576: NARROWER than '..Said'. Prove '..Said' where nothing that the law and all that it calls make is longer than what came in: it says more and counts as full. Else prove '..UptoSaid'. A law counts once. -/
mutual
def uptoBulk {H : Type} : DataW H → Nat
  | .lit (.string bytes) => bytes.length + 1
  | .lit _ => 1
  | .nil => 1
  | .ptr d => uptoBulk d + 1
  | .slice elems spare => uptoBulkAll elems + uptoBulkAll spare + 1
  | .agg parts => uptoBulkAll parts + 1
  | .iface _ d => uptoBulk d + 1
  | .map entries => uptoBulkEntries entries + 1
  | .held _ => 1
def uptoBulkAll {H : Type} : List (DataW H) → Nat
  | [] => 0
  | d :: r => uptoBulk d + uptoBulkAll r
def uptoBulkEntries {H : Type} : List (Lit × DataW H) → Nat
  | [] => 0
  | x :: r => uptoBulkEntry x + uptoBulkEntries r
def uptoBulkEntry {H : Type} : Lit × DataW H → Nat
  | (.string bytes, d) => bytes.length + uptoBulk d + 1
  | (_, d) => uptoBulk d + 1
 end
def uptoSmall : (H : Type) → List (DataW H) → Bool := fun _ ds => decide (uptoBulkAll ds ≤ 1048576)
def OpenSpec.upto (s : _root_.Go.ChangeSpec) : _root_.Go.OpenSpec := { _root_.Go.OpenSpec.ofChange s with cond := some uptoSmall }

/-- 'nestboxlaw.WorkBack', WHERE WHAT IT READS IS OF BULK AT MOST 1048576: true; the input reads as it did. -/
def workBackUptoRow : OpenClaim := { program := "ytogallppofinhaagreatdoor", sum := "d6cb0baab2c9efe4002142f44d551e350087ce9016dfffbe01438a4f098ce256", func := "nestbox/nestboxlaw.WorkBack", spec := "workBack", inPlace := ["internal/bytealg.CountString", "internal/bytealg.IndexByteString", "internal/bytealg.IndexString", "slices.overlaps[nestbox/work.item]", "internal/abi.NoEscape", "internal/bytealg.MakeNoZero"], unfollowed := true, recurses := true, named := ["unicode/utf8.first", "unicode/utf8.acceptRanges", "internal/bytealg.MaxLen"], apart := false, laid := [("unicode/utf8.acceptRanges", laid_unicode_utf8_acceptRanges), ("unicode/utf8.first", laid_unicode_utf8_first)], narrowed := true }
def WorkBackUptoSaid : Prop := workBackUptoRow.holds Tryz.pinned (OpenSpec.upto workBackSpec)

/-- 'nestboxlaw.WorkSafe', WHERE WHAT IT READS IS OF BULK AT MOST 1048576: true; the input reads as it did. -/
def workSafeUptoRow : OpenClaim := { program := "ytogallppofinhaagreatdoor", sum := "d6cb0baab2c9efe4002142f44d551e350087ce9016dfffbe01438a4f098ce256", func := "nestbox/nestboxlaw.WorkSafe", spec := "workSafe", inPlace := ["internal/bytealg.CountString", "internal/bytealg.IndexByteString", "internal/bytealg.IndexString", "slices.overlaps[nestbox/work.item]", "internal/abi.NoEscape", "internal/bytealg.MakeNoZero"], unfollowed := true, recurses := true, named := ["unicode/utf8.first", "unicode/utf8.acceptRanges", "internal/bytealg.MaxLen"], apart := false, laid := [("unicode/utf8.acceptRanges", laid_unicode_utf8_acceptRanges), ("unicode/utf8.first", laid_unicode_utf8_first)], narrowed := true }
def WorkSafeUptoSaid : Prop := workSafeUptoRow.holds Tryz.pinned (OpenSpec.upto workSafeSpec)

/-- 'nestboxlaw.WorkDoes', WHERE WHAT IT READS IS OF BULK AT MOST 1048576: true; the input reads as it did. -/
def workDoesUptoRow : OpenClaim := { program := "ytogallppofinhaagreatdoor", sum := "d6cb0baab2c9efe4002142f44d551e350087ce9016dfffbe01438a4f098ce256", func := "nestbox/nestboxlaw.WorkDoes", spec := "workDoes", inPlace := ["internal/bytealg.CountString", "internal/bytealg.IndexByteString", "internal/bytealg.IndexString", "slices.overlaps[nestbox/work.item]", "internal/abi.NoEscape", "internal/bytealg.MakeNoZero"], unfollowed := true, recurses := true, named := ["unicode/utf8.first", "unicode/utf8.acceptRanges", "internal/bytealg.MaxLen"], apart := false, laid := [("unicode/utf8.acceptRanges", laid_unicode_utf8_acceptRanges), ("unicode/utf8.first", laid_unicode_utf8_first)], narrowed := true }
def WorkDoesUptoSaid : Prop := workDoesUptoRow.holds Tryz.pinned (OpenSpec.upto workDoesSpec)

/-- 'nestboxlaw.SplitTree', WHERE WHAT IT READS IS OF BULK AT MOST 1048576: true; the input reads as it did. -/
def splitTreeUptoRow : OpenClaim := { program := "ytogallppofinhaagreatdoor", sum := "d6cb0baab2c9efe4002142f44d551e350087ce9016dfffbe01438a4f098ce256", func := "nestbox/nestboxlaw.SplitTree", spec := "splitTree", inPlace := ["internal/bytealg.CountString", "internal/bytealg.IndexByteString", "internal/bytealg.IndexString"], unfollowed := true, recurses := true, named := ["unicode/utf8.first", "unicode/utf8.acceptRanges", "internal/bytealg.MaxLen"], apart := false, laid := [("unicode/utf8.acceptRanges", laid_unicode_utf8_acceptRanges), ("unicode/utf8.first", laid_unicode_utf8_first)], narrowed := true }
def SplitTreeUptoSaid : Prop := splitTreeUptoRow.holds Tryz.pinned (OpenSpec.upto splitTreeSpec)

/-- 'nestboxlaw.DepotWhole', WHERE WHAT IT READS IS OF BULK AT MOST 1048576: true; the input reads as it did. -/
def depotWholeUptoRow : OpenClaim := { program := "ytogallppofinhaagreatdoor", sum := "d6cb0baab2c9efe4002142f44d551e350087ce9016dfffbe01438a4f098ce256", func := "nestbox/nestboxlaw.DepotWhole", spec := "depotWhole", inPlace := ["internal/bytealg.CountString", "internal/bytealg.IndexByteString", "internal/bytealg.IndexString", "internal/abi.NoEscape", "internal/bytealg.MakeNoZero"], unfollowed := true, recurses := true, named := ["unicode/utf8.first", "unicode/utf8.acceptRanges", "internal/bytealg.MaxLen"], apart := false, laid := [("unicode/utf8.acceptRanges", laid_unicode_utf8_acceptRanges), ("unicode/utf8.first", laid_unicode_utf8_first)], narrowed := true }
def DepotWholeUptoSaid : Prop := depotWholeUptoRow.holds Tryz.pinned (OpenSpec.upto depotWholeSpec)

/-- 'nestboxlaw.DepotDoes', WHERE WHAT IT READS IS OF BULK AT MOST 1048576: true; the input reads as it did. -/
def depotDoesUptoRow : OpenClaim := { program := "ytogallppofinhaagreatdoor", sum := "d6cb0baab2c9efe4002142f44d551e350087ce9016dfffbe01438a4f098ce256", func := "nestbox/nestboxlaw.DepotDoes", spec := "depotDoes", inPlace := ["internal/bytealg.CountString", "internal/bytealg.IndexByteString", "internal/bytealg.IndexString", "internal/abi.NoEscape", "internal/bytealg.MakeNoZero"], unfollowed := true, recurses := true, named := ["unicode/utf8.first", "unicode/utf8.acceptRanges", "internal/bytealg.MaxLen"], apart := false, laid := [("unicode/utf8.acceptRanges", laid_unicode_utf8_acceptRanges), ("unicode/utf8.first", laid_unicode_utf8_first)], narrowed := true }
def DepotDoesUptoSaid : Prop := depotDoesUptoRow.holds Tryz.pinned (OpenSpec.upto depotDoesSpec)

/-- 'nestboxlaw.DepotSweeps', WHERE WHAT IT READS IS OF BULK AT MOST 1048576: true; the input reads as it did. -/
def depotSweepsUptoRow : OpenClaim := { program := "ytogallppofinhaagreatdoor", sum := "d6cb0baab2c9efe4002142f44d551e350087ce9016dfffbe01438a4f098ce256", func := "nestbox/nestboxlaw.DepotSweeps", spec := "depotSweeps", inPlace := ["internal/bytealg.CountString", "internal/bytealg.IndexByteString", "internal/bytealg.IndexString", "internal/abi.NoEscape", "internal/bytealg.MakeNoZero"], unfollowed := true, recurses := true, named := ["unicode/utf8.first", "unicode/utf8.acceptRanges", "internal/bytealg.MaxLen"], apart := false, laid := [("unicode/utf8.acceptRanges", laid_unicode_utf8_acceptRanges), ("unicode/utf8.first", laid_unicode_utf8_first)], narrowed := true }
def DepotSweepsUptoSaid : Prop := depotSweepsUptoRow.holds Tryz.pinned (OpenSpec.upto depotSweepsSpec)

/-- 'nestboxlaw.BlendSides', WHERE WHAT IT READS IS OF BULK AT MOST 1048576: true; the input reads as it did. -/
def blendSidesUptoRow : OpenClaim := { program := "ytogallppofinhaagreatdoor", sum := "d6cb0baab2c9efe4002142f44d551e350087ce9016dfffbe01438a4f098ce256", func := "nestbox/nestboxlaw.BlendSides", spec := "blendSides", inPlace := ["internal/bytealg.CountString", "internal/bytealg.IndexByteString", "internal/bytealg.IndexString", "internal/bytealg.IndexByte", "internal/bytealg.MakeNoZero"], unfollowed := true, recurses := true, named := ["unicode/utf8.first", "unicode/utf8.acceptRanges", "internal/bytealg.MaxLen"], apart := false, laid := [("unicode/utf8.acceptRanges", laid_unicode_utf8_acceptRanges), ("unicode/utf8.first", laid_unicode_utf8_first)], narrowed := true }
def BlendSidesUptoSaid : Prop := blendSidesUptoRow.holds Tryz.pinned (OpenSpec.upto blendSidesSpec)

/-- 'nestboxlaw.BlendPaths', WHERE WHAT IT READS IS OF BULK AT MOST 1048576: true; the input reads as it did. -/
def blendPathsUptoRow : OpenClaim := { program := "ytogallppofinhaagreatdoor", sum := "d6cb0baab2c9efe4002142f44d551e350087ce9016dfffbe01438a4f098ce256", func := "nestbox/nestboxlaw.BlendPaths", spec := "blendPaths", inPlace := ["internal/bytealg.CountString", "internal/bytealg.IndexByteString", "internal/bytealg.IndexString", "internal/bytealg.IndexByte", "internal/bytealg.MakeNoZero"], unfollowed := true, recurses := true, named := ["unicode/utf8.first", "unicode/utf8.acceptRanges", "internal/bytealg.MaxLen"], apart := false, laid := [("unicode/utf8.acceptRanges", laid_unicode_utf8_acceptRanges), ("unicode/utf8.first", laid_unicode_utf8_first)], narrowed := true }
def BlendPathsUptoSaid : Prop := blendPathsUptoRow.holds Tryz.pinned (OpenSpec.upto blendPathsSpec)

/-- 'nestboxlaw.BlendDoes', WHERE WHAT IT READS IS OF BULK AT MOST 1048576: true; the input reads as it did. -/
def blendDoesUptoRow : OpenClaim := { program := "ytogallppofinhaagreatdoor", sum := "d6cb0baab2c9efe4002142f44d551e350087ce9016dfffbe01438a4f098ce256", func := "nestbox/nestboxlaw.BlendDoes", spec := "blendDoes", inPlace := ["internal/bytealg.CountString", "internal/bytealg.IndexByteString", "internal/bytealg.IndexString", "internal/bytealg.IndexByte", "internal/bytealg.MakeNoZero"], unfollowed := true, recurses := true, named := ["unicode/utf8.first", "unicode/utf8.acceptRanges", "internal/bytealg.MaxLen"], apart := false, laid := [("unicode/utf8.acceptRanges", laid_unicode_utf8_acceptRanges), ("unicode/utf8.first", laid_unicode_utf8_first)], narrowed := true }
def BlendDoesUptoSaid : Prop := blendDoesUptoRow.holds Tryz.pinned (OpenSpec.upto blendDoesSpec)

/-- 'nestboxlaw.SplitDoes', WHERE WHAT IT READS IS OF BULK AT MOST 1048576: true; the input reads as it did. -/
def splitDoesUptoRow : OpenClaim := { program := "ytogallppofinhaagreatdoor", sum := "d6cb0baab2c9efe4002142f44d551e350087ce9016dfffbe01438a4f098ce256", func := "nestbox/nestboxlaw.SplitDoes", spec := "splitDoes", inPlace := ["internal/bytealg.CountString", "internal/bytealg.IndexByteString", "internal/bytealg.IndexString", "internal/abi.NoEscape", "internal/bytealg.MakeNoZero"], unfollowed := true, recurses := true, named := ["unicode/utf8.first", "unicode/utf8.acceptRanges", "internal/bytealg.MaxLen"], apart := false, laid := [("unicode/utf8.acceptRanges", laid_unicode_utf8_acceptRanges), ("unicode/utf8.first", laid_unicode_utf8_first)], narrowed := true }
def SplitDoesUptoSaid : Prop := splitDoesUptoRow.holds Tryz.pinned (OpenSpec.upto splitDoesSpec)

/-- 'nestboxlaw.SplitAdds', WHERE WHAT IT READS IS OF BULK AT MOST 1048576: true; the input reads as it did. -/
def splitAddsUptoRow : OpenClaim := { program := "ytogallppofinhaagreatdoor", sum := "d6cb0baab2c9efe4002142f44d551e350087ce9016dfffbe01438a4f098ce256", func := "nestbox/nestboxlaw.SplitAdds", spec := "splitAdds", inPlace := ["internal/bytealg.CountString", "internal/bytealg.IndexByteString", "internal/bytealg.IndexString", "internal/abi.NoEscape", "internal/bytealg.MakeNoZero"], unfollowed := true, recurses := true, named := ["unicode/utf8.first", "unicode/utf8.acceptRanges", "internal/bytealg.MaxLen"], apart := false, laid := [("unicode/utf8.acceptRanges", laid_unicode_utf8_acceptRanges), ("unicode/utf8.first", laid_unicode_utf8_first)], narrowed := true }
def SplitAddsUptoSaid : Prop := splitAddsUptoRow.holds Tryz.pinned (OpenSpec.upto splitAddsSpec)

end Rows
end Go.Proofs.YtogallppofinhaaGreatDoor
