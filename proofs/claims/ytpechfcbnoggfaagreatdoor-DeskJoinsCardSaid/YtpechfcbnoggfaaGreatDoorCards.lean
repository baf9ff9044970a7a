/-
  DERIVED. GIVEN WITH THE SEED: THE CARDS: each row of YtpechfcbnoggfaaGreatDoorRows.lean that lists a variable, with what it lists TIED to the program's text (the seventh form; the later family's looks); each row that meets fmt, with fmt's text TOLD by the authors' own Lean function (tested against real Go, not proved from fmt's source: count such statements apart). THE CARD IS WHAT COUNTS. Prove the row's statement (the work); the ties are given (YtpechfcbnoggfaaGreatDoorTie.lean); close each card by the builder's one call (the guide's Derived/Test/ToyasCard.lean, 'card_holds'). Laid BY PROGRAM, IN A SANDBOX (cutbox-door.mjs). By AI agents, Wed Nov 11 2026. No macro, syntax, notation, axiom, sorry.
-/
import Derived.Test.YtpechfcbnoggfaaGreatDoorRows
import GoSem.ClaimSeven
namespace Go.Proofs.YtpechfcbnoggfaaGreatDoor
namespace Rows

/-- THE TIED CARD OF 'nestboxlaw.DeskJoins'. -/
def deskJoinsCard : Claim7 := { stood := { row := deskJoinsRow, standIns := [], harness := (true, "d1b4ce9e58583aa62b365c07a75aa6fcc265fa6641644b371563e9b02a3b736c"), looks := true }, kinds := [], alts := [], laidByText := true, laidKinds := [.data, .data, .data, .data, .sentinel, .sentinel, .pinned], laidTests := true, laidLooks := .later }
def DeskJoinsCardSaid : Prop := Claim7.holds Tryz.pinned (.plain (OpenSpec.ofChange deskJoinsSpec)) deskJoinsCard

/-- THE TIED CARD OF 'nestboxlaw.DeskShows'. -/
def deskShowsCard : Claim7 := { stood := { row := deskShowsRow, standIns := [], harness := (true, "d1b4ce9e58583aa62b365c07a75aa6fcc265fa6641644b371563e9b02a3b736c"), looks := true }, kinds := [], alts := [], laidByText := true, laidKinds := [.data, .data, .data, .data, .sentinel, .sentinel, .pinned], laidTests := true, laidLooks := .later }
def DeskShowsCardSaid : Prop := Claim7.holds Tryz.pinned (.plain (OpenSpec.ofChange deskShowsSpec)) deskShowsCard

/-- THE TIED CARD OF 'nestboxlaw.ForestApart'. -/
def forestApartCard : Claim7 := { stood := { row := forestApartRow, standIns := [], harness := (true, "d1b4ce9e58583aa62b365c07a75aa6fcc265fa6641644b371563e9b02a3b736c"), looks := true }, kinds := [], alts := [], laidByText := true, laidKinds := [.data, .pinned], laidTests := true, laidLooks := .later }
def ForestApartCardSaid : Prop := Claim7.holds Tryz.pinned (.plain (OpenSpec.ofChange forestApartSpec)) forestApartCard

/-- THE TIED CARD OF 'nestboxlaw.ForestRefuses'. -/
def forestRefusesCard : Claim7 := { stood := { row := forestRefusesRow, standIns := [], harness := (true, "d1b4ce9e58583aa62b365c07a75aa6fcc265fa6641644b371563e9b02a3b736c"), looks := true }, kinds := [], alts := [], laidByText := true, laidKinds := [.data, .pinned], laidTests := true, laidLooks := .later }
def ForestRefusesCardSaid : Prop := Claim7.holds Tryz.pinned (.plain (OpenSpec.ofChange forestRefusesSpec)) forestRefusesCard

/-- THE TIED CARD OF 'nestboxlaw.ForestDoes'. -/
def forestDoesCard : Claim7 := { stood := { row := forestDoesRow, standIns := [], harness := (true, "d1b4ce9e58583aa62b365c07a75aa6fcc265fa6641644b371563e9b02a3b736c"), looks := true }, kinds := [], alts := [], laidByText := true, laidKinds := [.data, .pinned], laidTests := true, laidLooks := .later }
def ForestDoesCardSaid : Prop := Claim7.holds Tryz.pinned (.plain (OpenSpec.ofChange forestDoesSpec)) forestDoesCard

/-- THE TIED CARD OF 'nestboxlaw.ForestKeeps'. -/
def forestKeepsCard : Claim7 := { stood := { row := forestKeepsRow, standIns := [], harness := (true, "d1b4ce9e58583aa62b365c07a75aa6fcc265fa6641644b371563e9b02a3b736c"), looks := true }, kinds := [], alts := [], laidByText := true, laidKinds := [.data, .pinned], laidTests := true, laidLooks := .later }
def ForestKeepsCardSaid : Prop := Claim7.holds Tryz.pinned (.plain (OpenSpec.ofChange forestKeepsSpec)) forestKeepsCard

/-- THE TIED CARD OF 'nestboxlaw.DeskDoes'. -/
def deskDoesCard : Claim7 := { stood := { row := deskDoesRow, standIns := [], harness := (true, "d1b4ce9e58583aa62b365c07a75aa6fcc265fa6641644b371563e9b02a3b736c"), looks := true }, kinds := [], alts := [], laidByText := true, laidKinds := [.data, .data, .data, .data, .sentinel, .sentinel, .pinned], laidTests := true, laidLooks := .later }
def DeskDoesCardSaid : Prop := Claim7.holds Tryz.pinned (.plain (OpenSpec.ofChange deskDoesSpec)) deskDoesCard

/-- THE SECOND FORM's CARD OF 'nestboxlaw.DeskJoins'. -/
def deskJoinsUptoCard : Claim7 := { stood := { row := deskJoinsUptoRow, standIns := [], harness := (true, "d1b4ce9e58583aa62b365c07a75aa6fcc265fa6641644b371563e9b02a3b736c"), looks := true }, kinds := [], alts := [], laidByText := true, laidKinds := [.data, .data, .data, .data, .sentinel, .sentinel, .pinned], laidTests := true, laidLooks := .later }
def DeskJoinsUptoCardSaid : Prop := Claim7.holds Tryz.pinned (.plain (OpenSpec.upto deskJoinsSpec)) deskJoinsUptoCard

/-- THE SECOND FORM's CARD OF 'nestboxlaw.DeskShows'. -/
def deskShowsUptoCard : Claim7 := { stood := { row := deskShowsUptoRow, standIns := [], harness := (true, "d1b4ce9e58583aa62b365c07a75aa6fcc265fa6641644b371563e9b02a3b736c"), looks := true }, kinds := [], alts := [], laidByText := true, laidKinds := [.data, .data, .data, .data, .sentinel, .sentinel, .pinned], laidTests := true, laidLooks := .later }
def DeskShowsUptoCardSaid : Prop := Claim7.holds Tryz.pinned (.plain (OpenSpec.upto deskShowsSpec)) deskShowsUptoCard

/-- THE SECOND FORM's CARD OF 'nestboxlaw.ForestApart'. -/
def forestApartUptoCard : Claim7 := { stood := { row := forestApartUptoRow, standIns := [], harness := (true, "d1b4ce9e58583aa62b365c07a75aa6fcc265fa6641644b371563e9b02a3b736c"), looks := true }, kinds := [], alts := [], laidByText := true, laidKinds := [.data, .pinned], laidTests := true, laidLooks := .later }
def ForestApartUptoCardSaid : Prop := Claim7.holds Tryz.pinned (.plain (OpenSpec.upto forestApartSpec)) forestApartUptoCard

/-- THE SECOND FORM's CARD OF 'nestboxlaw.ForestRefuses'. -/
def forestRefusesUptoCard : Claim7 := { stood := { row := forestRefusesUptoRow, standIns := [], harness := (true, "d1b4ce9e58583aa62b365c07a75aa6fcc265fa6641644b371563e9b02a3b736c"), looks := true }, kinds := [], alts := [], laidByText := true, laidKinds := [.data, .pinned], laidTests := true, laidLooks := .later }
def ForestRefusesUptoCardSaid : Prop := Claim7.holds Tryz.pinned (.plain (OpenSpec.upto forestRefusesSpec)) forestRefusesUptoCard

/-- THE SECOND FORM's CARD OF 'nestboxlaw.ForestDoes'. -/
def forestDoesUptoCard : Claim7 := { stood := { row := forestDoesUptoRow, standIns := [], harness := (true, "d1b4ce9e58583aa62b365c07a75aa6fcc265fa6641644b371563e9b02a3b736c"), looks := true }, kinds := [], alts := [], laidByText := true, laidKinds := [.data, .pinned], laidTests := true, laidLooks := .later }
def ForestDoesUptoCardSaid : Prop := Claim7.holds Tryz.pinned (.plain (OpenSpec.upto forestDoesSpec)) forestDoesUptoCard

/-- THE SECOND FORM's CARD OF 'nestboxlaw.ForestKeeps'. -/
def forestKeepsUptoCard : Claim7 := { stood := { row := forestKeepsUptoRow, standIns := [], harness := (true, "d1b4ce9e58583aa62b365c07a75aa6fcc265fa6641644b371563e9b02a3b736c"), looks := true }, kinds := [], alts := [], laidByText := true, laidKinds := [.data, .pinned], laidTests := true, laidLooks := .later }
def ForestKeepsUptoCardSaid : Prop := Claim7.holds Tryz.pinned (.plain (OpenSpec.upto forestKeepsSpec)) forestKeepsUptoCard

/-- THE SECOND FORM's CARD OF 'nestboxlaw.DeskDoes'. -/
def deskDoesUptoCard : Claim7 := { stood := { row := deskDoesUptoRow, standIns := [], harness := (true, "d1b4ce9e58583aa62b365c07a75aa6fcc265fa6641644b371563e9b02a3b736c"), looks := true }, kinds := [], alts := [], laidByText := true, laidKinds := [.data, .data, .data, .data, .sentinel, .sentinel, .pinned], laidTests := true, laidLooks := .later }
def DeskDoesUptoCardSaid : Prop := Claim7.holds Tryz.pinned (.plain (OpenSpec.upto deskDoesSpec)) deskDoesUptoCard
end Rows
end Go.Proofs.YtpechfcbnoggfaaGreatDoor
