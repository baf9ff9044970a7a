/-
  DERIVED. GIVEN WITH THE SEED: THE CARDS: each row of YtpmjnbidmcnhnaaGreatDoorRows.lean that lists a variable, with what it lists TIED to the program's text (the seventh form; the later family's looks); each row that meets fmt, with fmt's text TOLD by the authors' own Lean function (tested against real Go, not proved from fmt's source: count such statements apart). THE CARD IS WHAT COUNTS. Prove the row's statement (the work); the ties are given (YtpmjnbidmcnhnaaGreatDoorTie.lean); close each card by the builder's one call (the guide's Derived/Test/ToyasCard.lean, 'card_holds'). Laid BY PROGRAM, IN A SANDBOX (cutbox-door.mjs). By AI agents, Wed Nov 11 2026. No macro, syntax, notation, axiom, sorry.
-/
import Derived.Test.YtpmjnbidmcnhnaaGreatDoorRows
import GoSem.ClaimSeven
namespace Go.Proofs.YtpmjnbidmcnhnaaGreatDoor
namespace Rows

/-- THE TIED CARD OF 'nestboxlaw.DepotWhole'. -/
def depotWholeCard : Claim7 := { stood := { row := depotWholeRow, standIns := [], harness := (true, "781da1c13f90d832e5ca39b63f96573c067875e83d79fd5023ebb5794d3e9927"), looks := false }, kinds := [], alts := [], laidByText := true, laidKinds := [.data, .pinned], laidTests := true, laidLooks := .later }
def DepotWholeCardSaid : Prop := Claim7.holds Tryz.pinned (.plain (OpenSpec.ofChange depotWholeSpec)) depotWholeCard

/-- THE TIED CARD OF 'nestboxlaw.DepotDoes'. -/
def depotDoesCard : Claim7 := { stood := { row := depotDoesRow, standIns := [], harness := (true, "781da1c13f90d832e5ca39b63f96573c067875e83d79fd5023ebb5794d3e9927"), looks := false }, kinds := [], alts := [], laidByText := true, laidKinds := [.data, .pinned], laidTests := true, laidLooks := .later }
def DepotDoesCardSaid : Prop := Claim7.holds Tryz.pinned (.plain (OpenSpec.ofChange depotDoesSpec)) depotDoesCard

/-- THE TIED CARD OF 'nestboxlaw.DepotSweeps'. -/
def depotSweepsCard : Claim7 := { stood := { row := depotSweepsRow, standIns := [], harness := (true, "781da1c13f90d832e5ca39b63f96573c067875e83d79fd5023ebb5794d3e9927"), looks := false }, kinds := [], alts := [], laidByText := true, laidKinds := [.data, .pinned], laidTests := true, laidLooks := .later }
def DepotSweepsCardSaid : Prop := Claim7.holds Tryz.pinned (.plain (OpenSpec.ofChange depotSweepsSpec)) depotSweepsCard

/-- THE TIED CARD OF 'nestboxlaw.BlendSides'. -/
def blendSidesCard : Claim7 := { stood := { row := blendSidesRow, standIns := [], harness := (true, "781da1c13f90d832e5ca39b63f96573c067875e83d79fd5023ebb5794d3e9927"), looks := false }, kinds := [], alts := [], laidByText := true, laidKinds := [.data, .pinned], laidTests := true, laidLooks := .later }
def BlendSidesCardSaid : Prop := Claim7.holds Tryz.pinned (.plain (OpenSpec.ofChange blendSidesSpec)) blendSidesCard

/-- THE TIED CARD OF 'nestboxlaw.BlendPaths'. -/
def blendPathsCard : Claim7 := { stood := { row := blendPathsRow, standIns := [], harness := (true, "781da1c13f90d832e5ca39b63f96573c067875e83d79fd5023ebb5794d3e9927"), looks := false }, kinds := [], alts := [], laidByText := true, laidKinds := [.data, .pinned], laidTests := true, laidLooks := .later }
def BlendPathsCardSaid : Prop := Claim7.holds Tryz.pinned (.plain (OpenSpec.ofChange blendPathsSpec)) blendPathsCard

/-- THE TIED CARD OF 'nestboxlaw.BlendDoes'. -/
def blendDoesCard : Claim7 := { stood := { row := blendDoesRow, standIns := [], harness := (true, "781da1c13f90d832e5ca39b63f96573c067875e83d79fd5023ebb5794d3e9927"), looks := false }, kinds := [], alts := [], laidByText := true, laidKinds := [.data, .pinned], laidTests := true, laidLooks := .later }
def BlendDoesCardSaid : Prop := Claim7.holds Tryz.pinned (.plain (OpenSpec.ofChange blendDoesSpec)) blendDoesCard

/-- THE SECOND FORM's CARD OF 'nestboxlaw.DepotWhole'. -/
def depotWholeUptoCard : Claim7 := { stood := { row := depotWholeUptoRow, standIns := [], harness := (true, "781da1c13f90d832e5ca39b63f96573c067875e83d79fd5023ebb5794d3e9927"), looks := false }, kinds := [], alts := [], laidByText := true, laidKinds := [.data, .pinned], laidTests := true, laidLooks := .later }
def DepotWholeUptoCardSaid : Prop := Claim7.holds Tryz.pinned (.plain (OpenSpec.upto depotWholeSpec)) depotWholeUptoCard

/-- THE SECOND FORM's CARD OF 'nestboxlaw.DepotDoes'. -/
def depotDoesUptoCard : Claim7 := { stood := { row := depotDoesUptoRow, standIns := [], harness := (true, "781da1c13f90d832e5ca39b63f96573c067875e83d79fd5023ebb5794d3e9927"), looks := false }, kinds := [], alts := [], laidByText := true, laidKinds := [.data, .pinned], laidTests := true, laidLooks := .later }
def DepotDoesUptoCardSaid : Prop := Claim7.holds Tryz.pinned (.plain (OpenSpec.upto depotDoesSpec)) depotDoesUptoCard

/-- THE SECOND FORM's CARD OF 'nestboxlaw.DepotSweeps'. -/
def depotSweepsUptoCard : Claim7 := { stood := { row := depotSweepsUptoRow, standIns := [], harness := (true, "781da1c13f90d832e5ca39b63f96573c067875e83d79fd5023ebb5794d3e9927"), looks := false }, kinds := [], alts := [], laidByText := true, laidKinds := [.data, .pinned], laidTests := true, laidLooks := .later }
def DepotSweepsUptoCardSaid : Prop := Claim7.holds Tryz.pinned (.plain (OpenSpec.upto depotSweepsSpec)) depotSweepsUptoCard

/-- THE SECOND FORM's CARD OF 'nestboxlaw.BlendSides'. -/
def blendSidesUptoCard : Claim7 := { stood := { row := blendSidesUptoRow, standIns := [], harness := (true, "781da1c13f90d832e5ca39b63f96573c067875e83d79fd5023ebb5794d3e9927"), looks := false }, kinds := [], alts := [], laidByText := true, laidKinds := [.data, .pinned], laidTests := true, laidLooks := .later }
def BlendSidesUptoCardSaid : Prop := Claim7.holds Tryz.pinned (.plain (OpenSpec.upto blendSidesSpec)) blendSidesUptoCard

/-- THE SECOND FORM's CARD OF 'nestboxlaw.BlendPaths'. -/
def blendPathsUptoCard : Claim7 := { stood := { row := blendPathsUptoRow, standIns := [], harness := (true, "781da1c13f90d832e5ca39b63f96573c067875e83d79fd5023ebb5794d3e9927"), looks := false }, kinds := [], alts := [], laidByText := true, laidKinds := [.data, .pinned], laidTests := true, laidLooks := .later }
def BlendPathsUptoCardSaid : Prop := Claim7.holds Tryz.pinned (.plain (OpenSpec.upto blendPathsSpec)) blendPathsUptoCard

/-- THE SECOND FORM's CARD OF 'nestboxlaw.BlendDoes'. -/
def blendDoesUptoCard : Claim7 := { stood := { row := blendDoesUptoRow, standIns := [], harness := (true, "781da1c13f90d832e5ca39b63f96573c067875e83d79fd5023ebb5794d3e9927"), looks := false }, kinds := [], alts := [], laidByText := true, laidKinds := [.data, .pinned], laidTests := true, laidLooks := .later }
def BlendDoesUptoCardSaid : Prop := Claim7.holds Tryz.pinned (.plain (OpenSpec.upto blendDoesSpec)) blendDoesUptoCard
end Rows
end Go.Proofs.YtpmjnbidmcnhnaaGreatDoor
