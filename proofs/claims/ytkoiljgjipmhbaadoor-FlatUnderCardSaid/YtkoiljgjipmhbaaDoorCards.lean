/-
  DERIVED. GIVEN WITH THE SEED: THE CARDS: each row of YtkoiljgjipmhbaaDoorRows.lean that lists a variable, with what it lists TIED to the program's text (the seventh form; the later family's looks); each row that meets fmt, with fmt's text TOLD by the authors' own Lean function (tested against real Go, not proved from fmt's source: count such statements apart). THE CARD IS WHAT COUNTS. Prove the row's statement (the work); the ties are given (YtkoiljgjipmhbaaDoorTie.lean); close each card by the builder's one call (the guide's Derived/Test/ToyasCard.lean, 'card_holds'). Laid BY PROGRAM, IN A SANDBOX (cutbox-door.mjs). By AI agents, Wed Nov 11 2026. No macro, syntax, notation, axiom, sorry.
-/
import Derived.Test.YtkoiljgjipmhbaaDoorRows
import GoSem.ClaimSeven
namespace Go.Proofs.YtkoiljgjipmhbaaDoor
namespace Rows

/-- THE TIED CARD OF 'nestboxlaw.FlatDiffs'. -/
def flatDiffsCard : Claim7 := { stood := { row := flatDiffsRow, standIns := [], harness := (true, "b3f4f534b2a417228f4ec67a1d0278c042617e5c1c0a929de7cd00684ad0ef35"), looks := false }, kinds := [], alts := [], laidByText := true, laidKinds := [.data, .pinned], laidTests := true, laidLooks := .later }
def FlatDiffsCardSaid : Prop := Claim7.holds Tryd.pinned (.plain (OpenSpec.ofChange flatDiffsSpec)) flatDiffsCard

/-- THE TIED CARD OF 'nestboxlaw.FlatUnder'. -/
def flatUnderCard : Claim7 := { stood := { row := flatUnderRow, standIns := [], harness := (true, "b3f4f534b2a417228f4ec67a1d0278c042617e5c1c0a929de7cd00684ad0ef35"), looks := false }, kinds := [], alts := [], laidByText := true, laidKinds := [.data, .pinned], laidTests := true, laidLooks := .later }
def FlatUnderCardSaid : Prop := Claim7.holds Tryd.pinned (.plain (OpenSpec.ofChange flatUnderSpec)) flatUnderCard

/-- THE TIED CARD OF 'nestboxlaw.FlatBack'. -/
def flatBackCard : Claim7 := { stood := { row := flatBackRow, standIns := [], harness := (true, "b3f4f534b2a417228f4ec67a1d0278c042617e5c1c0a929de7cd00684ad0ef35"), looks := false }, kinds := [], alts := [], laidByText := true, laidKinds := [.data, .pinned], laidTests := true, laidLooks := .later }
def FlatBackCardSaid : Prop := Claim7.holds Tryd.pinned (.plain (OpenSpec.ofChange flatBackSpec)) flatBackCard

/-- THE SECOND FORM's CARD OF 'nestboxlaw.FlatDiffs'. -/
def flatDiffsUptoCard : Claim7 := { stood := { row := flatDiffsUptoRow, standIns := [], harness := (true, "b3f4f534b2a417228f4ec67a1d0278c042617e5c1c0a929de7cd00684ad0ef35"), looks := false }, kinds := [], alts := [], laidByText := true, laidKinds := [.data, .pinned], laidTests := true, laidLooks := .later }
def FlatDiffsUptoCardSaid : Prop := Claim7.holds Tryd.pinned (.plain (OpenSpec.upto flatDiffsSpec)) flatDiffsUptoCard

/-- THE SECOND FORM's CARD OF 'nestboxlaw.FlatUnder'. -/
def flatUnderUptoCard : Claim7 := { stood := { row := flatUnderUptoRow, standIns := [], harness := (true, "b3f4f534b2a417228f4ec67a1d0278c042617e5c1c0a929de7cd00684ad0ef35"), looks := false }, kinds := [], alts := [], laidByText := true, laidKinds := [.data, .pinned], laidTests := true, laidLooks := .later }
def FlatUnderUptoCardSaid : Prop := Claim7.holds Tryd.pinned (.plain (OpenSpec.upto flatUnderSpec)) flatUnderUptoCard

/-- THE SECOND FORM's CARD OF 'nestboxlaw.FlatBack'. -/
def flatBackUptoCard : Claim7 := { stood := { row := flatBackUptoRow, standIns := [], harness := (true, "b3f4f534b2a417228f4ec67a1d0278c042617e5c1c0a929de7cd00684ad0ef35"), looks := false }, kinds := [], alts := [], laidByText := true, laidKinds := [.data, .pinned], laidTests := true, laidLooks := .later }
def FlatBackUptoCardSaid : Prop := Claim7.holds Tryd.pinned (.plain (OpenSpec.upto flatBackSpec)) flatBackUptoCard
end Rows
end Go.Proofs.YtkoiljgjipmhbaaDoor
