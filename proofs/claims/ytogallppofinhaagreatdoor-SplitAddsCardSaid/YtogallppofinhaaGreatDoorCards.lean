/-
  DERIVED. GIVEN WITH THE SEED: THE CARDS: each row of YtogallppofinhaaGreatDoorRows.lean that lists a variable, with what it lists TIED to the program's text (the seventh form; the later family's looks); each row that meets fmt, with fmt's text TOLD by the authors' own Lean function (tested against real Go, not proved from fmt's source: count such statements apart). THE CARD IS WHAT COUNTS. Prove the row's statement (the work); the ties are given (YtogallppofinhaaGreatDoorTie.lean); close each card by the builder's one call (the guide's Derived/Test/ToyasCard.lean, 'card_holds'). Laid BY PROGRAM, IN A SANDBOX (cutbox-door.mjs). By AI agents, Wed Nov 11 2026. No macro, syntax, notation, axiom, sorry.
-/
import Derived.Test.YtogallppofinhaaGreatDoorRows
import GoSem.ClaimSeven
namespace Go.Proofs.YtogallppofinhaaGreatDoor
namespace Rows

/-- THE TIED CARD OF 'nestboxlaw.WorkBack'. -/
def workBackCard : Claim7 := { stood := { row := workBackRow, standIns := [], harness := (true, "6219b9852476a43e1919643dc94420c8749414c547f802049eb45811769d9e07"), looks := false }, kinds := [], alts := [], laidByText := true, laidKinds := [.data, .pinned], laidTests := true, laidLooks := .later }
def WorkBackCardSaid : Prop := Claim7.holds Tryz.pinned (.plain (OpenSpec.ofChange workBackSpec)) workBackCard

/-- THE TIED CARD OF 'nestboxlaw.WorkSafe'. -/
def workSafeCard : Claim7 := { stood := { row := workSafeRow, standIns := [], harness := (true, "6219b9852476a43e1919643dc94420c8749414c547f802049eb45811769d9e07"), looks := false }, kinds := [], alts := [], laidByText := true, laidKinds := [.data, .pinned], laidTests := true, laidLooks := .later }
def WorkSafeCardSaid : Prop := Claim7.holds Tryz.pinned (.plain (OpenSpec.ofChange workSafeSpec)) workSafeCard

/-- THE TIED CARD OF 'nestboxlaw.WorkDoes'. -/
def workDoesCard : Claim7 := { stood := { row := workDoesRow, standIns := [], harness := (true, "6219b9852476a43e1919643dc94420c8749414c547f802049eb45811769d9e07"), looks := false }, kinds := [], alts := [], laidByText := true, laidKinds := [.data, .pinned], laidTests := true, laidLooks := .later }
def WorkDoesCardSaid : Prop := Claim7.holds Tryz.pinned (.plain (OpenSpec.ofChange workDoesSpec)) workDoesCard

/-- THE TIED CARD OF 'nestboxlaw.SplitTree'. -/
def splitTreeCard : Claim7 := { stood := { row := splitTreeRow, standIns := [], harness := (true, "6219b9852476a43e1919643dc94420c8749414c547f802049eb45811769d9e07"), looks := false }, kinds := [], alts := [], laidByText := true, laidKinds := [.data, .pinned], laidTests := true, laidLooks := .later }
def SplitTreeCardSaid : Prop := Claim7.holds Tryz.pinned (.plain (OpenSpec.ofChange splitTreeSpec)) splitTreeCard

/-- THE TIED CARD OF 'nestboxlaw.DepotWhole'. -/
def depotWholeCard : Claim7 := { stood := { row := depotWholeRow, standIns := [], harness := (true, "6219b9852476a43e1919643dc94420c8749414c547f802049eb45811769d9e07"), looks := false }, kinds := [], alts := [], laidByText := true, laidKinds := [.data, .pinned], laidTests := true, laidLooks := .later }
def DepotWholeCardSaid : Prop := Claim7.holds Tryz.pinned (.plain (OpenSpec.ofChange depotWholeSpec)) depotWholeCard

/-- THE TIED CARD OF 'nestboxlaw.DepotDoes'. -/
def depotDoesCard : Claim7 := { stood := { row := depotDoesRow, standIns := [], harness := (true, "6219b9852476a43e1919643dc94420c8749414c547f802049eb45811769d9e07"), looks := false }, kinds := [], alts := [], laidByText := true, laidKinds := [.data, .pinned], laidTests := true, laidLooks := .later }
def DepotDoesCardSaid : Prop := Claim7.holds Tryz.pinned (.plain (OpenSpec.ofChange depotDoesSpec)) depotDoesCard

/-- THE TIED CARD OF 'nestboxlaw.DepotSweeps'. -/
def depotSweepsCard : Claim7 := { stood := { row := depotSweepsRow, standIns := [], harness := (true, "6219b9852476a43e1919643dc94420c8749414c547f802049eb45811769d9e07"), looks := false }, kinds := [], alts := [], laidByText := true, laidKinds := [.data, .pinned], laidTests := true, laidLooks := .later }
def DepotSweepsCardSaid : Prop := Claim7.holds Tryz.pinned (.plain (OpenSpec.ofChange depotSweepsSpec)) depotSweepsCard

/-- THE TIED CARD OF 'nestboxlaw.BlendSides'. -/
def blendSidesCard : Claim7 := { stood := { row := blendSidesRow, standIns := [], harness := (true, "6219b9852476a43e1919643dc94420c8749414c547f802049eb45811769d9e07"), looks := false }, kinds := [], alts := [], laidByText := true, laidKinds := [.data, .pinned], laidTests := true, laidLooks := .later }
def BlendSidesCardSaid : Prop := Claim7.holds Tryz.pinned (.plain (OpenSpec.ofChange blendSidesSpec)) blendSidesCard

/-- THE TIED CARD OF 'nestboxlaw.BlendPaths'. -/
def blendPathsCard : Claim7 := { stood := { row := blendPathsRow, standIns := [], harness := (true, "6219b9852476a43e1919643dc94420c8749414c547f802049eb45811769d9e07"), looks := false }, kinds := [], alts := [], laidByText := true, laidKinds := [.data, .pinned], laidTests := true, laidLooks := .later }
def BlendPathsCardSaid : Prop := Claim7.holds Tryz.pinned (.plain (OpenSpec.ofChange blendPathsSpec)) blendPathsCard

/-- THE TIED CARD OF 'nestboxlaw.BlendDoes'. -/
def blendDoesCard : Claim7 := { stood := { row := blendDoesRow, standIns := [], harness := (true, "6219b9852476a43e1919643dc94420c8749414c547f802049eb45811769d9e07"), looks := false }, kinds := [], alts := [], laidByText := true, laidKinds := [.data, .pinned], laidTests := true, laidLooks := .later }
def BlendDoesCardSaid : Prop := Claim7.holds Tryz.pinned (.plain (OpenSpec.ofChange blendDoesSpec)) blendDoesCard

/-- THE TIED CARD OF 'nestboxlaw.SplitDoes'. -/
def splitDoesCard : Claim7 := { stood := { row := splitDoesRow, standIns := [], harness := (true, "6219b9852476a43e1919643dc94420c8749414c547f802049eb45811769d9e07"), looks := false }, kinds := [], alts := [], laidByText := true, laidKinds := [.data, .pinned], laidTests := true, laidLooks := .later }
def SplitDoesCardSaid : Prop := Claim7.holds Tryz.pinned (.plain (OpenSpec.ofChange splitDoesSpec)) splitDoesCard

/-- THE TIED CARD OF 'nestboxlaw.SplitAdds'. -/
def splitAddsCard : Claim7 := { stood := { row := splitAddsRow, standIns := [], harness := (true, "6219b9852476a43e1919643dc94420c8749414c547f802049eb45811769d9e07"), looks := false }, kinds := [], alts := [], laidByText := true, laidKinds := [.data, .pinned], laidTests := true, laidLooks := .later }
def SplitAddsCardSaid : Prop := Claim7.holds Tryz.pinned (.plain (OpenSpec.ofChange splitAddsSpec)) splitAddsCard

/-- THE SECOND FORM's CARD OF 'nestboxlaw.WorkBack'. -/
def workBackUptoCard : Claim7 := { stood := { row := workBackUptoRow, standIns := [], harness := (true, "6219b9852476a43e1919643dc94420c8749414c547f802049eb45811769d9e07"), looks := false }, kinds := [], alts := [], laidByText := true, laidKinds := [.data, .pinned], laidTests := true, laidLooks := .later }
def WorkBackUptoCardSaid : Prop := Claim7.holds Tryz.pinned (.plain (OpenSpec.upto workBackSpec)) workBackUptoCard

/-- THE SECOND FORM's CARD OF 'nestboxlaw.WorkSafe'. -/
def workSafeUptoCard : Claim7 := { stood := { row := workSafeUptoRow, standIns := [], harness := (true, "6219b9852476a43e1919643dc94420c8749414c547f802049eb45811769d9e07"), looks := false }, kinds := [], alts := [], laidByText := true, laidKinds := [.data, .pinned], laidTests := true, laidLooks := .later }
def WorkSafeUptoCardSaid : Prop := Claim7.holds Tryz.pinned (.plain (OpenSpec.upto workSafeSpec)) workSafeUptoCard

/-- THE SECOND FORM's CARD OF 'nestboxlaw.WorkDoes'. -/
def workDoesUptoCard : Claim7 := { stood := { row := workDoesUptoRow, standIns := [], harness := (true, "6219b9852476a43e1919643dc94420c8749414c547f802049eb45811769d9e07"), looks := false }, kinds := [], alts := [], laidByText := true, laidKinds := [.data, .pinned], laidTests := true, laidLooks := .later }
def WorkDoesUptoCardSaid : Prop := Claim7.holds Tryz.pinned (.plain (OpenSpec.upto workDoesSpec)) workDoesUptoCard

/-- THE SECOND FORM's CARD OF 'nestboxlaw.SplitTree'. -/
def splitTreeUptoCard : Claim7 := { stood := { row := splitTreeUptoRow, standIns := [], harness := (true, "6219b9852476a43e1919643dc94420c8749414c547f802049eb45811769d9e07"), looks := false }, kinds := [], alts := [], laidByText := true, laidKinds := [.data, .pinned], laidTests := true, laidLooks := .later }
def SplitTreeUptoCardSaid : Prop := Claim7.holds Tryz.pinned (.plain (OpenSpec.upto splitTreeSpec)) splitTreeUptoCard

/-- THE SECOND FORM's CARD OF 'nestboxlaw.DepotWhole'. -/
def depotWholeUptoCard : Claim7 := { stood := { row := depotWholeUptoRow, standIns := [], harness := (true, "6219b9852476a43e1919643dc94420c8749414c547f802049eb45811769d9e07"), looks := false }, kinds := [], alts := [], laidByText := true, laidKinds := [.data, .pinned], laidTests := true, laidLooks := .later }
def DepotWholeUptoCardSaid : Prop := Claim7.holds Tryz.pinned (.plain (OpenSpec.upto depotWholeSpec)) depotWholeUptoCard

/-- THE SECOND FORM's CARD OF 'nestboxlaw.DepotDoes'. -/
def depotDoesUptoCard : Claim7 := { stood := { row := depotDoesUptoRow, standIns := [], harness := (true, "6219b9852476a43e1919643dc94420c8749414c547f802049eb45811769d9e07"), looks := false }, kinds := [], alts := [], laidByText := true, laidKinds := [.data, .pinned], laidTests := true, laidLooks := .later }
def DepotDoesUptoCardSaid : Prop := Claim7.holds Tryz.pinned (.plain (OpenSpec.upto depotDoesSpec)) depotDoesUptoCard

/-- THE SECOND FORM's CARD OF 'nestboxlaw.DepotSweeps'. -/
def depotSweepsUptoCard : Claim7 := { stood := { row := depotSweepsUptoRow, standIns := [], harness := (true, "6219b9852476a43e1919643dc94420c8749414c547f802049eb45811769d9e07"), looks := false }, kinds := [], alts := [], laidByText := true, laidKinds := [.data, .pinned], laidTests := true, laidLooks := .later }
def DepotSweepsUptoCardSaid : Prop := Claim7.holds Tryz.pinned (.plain (OpenSpec.upto depotSweepsSpec)) depotSweepsUptoCard

/-- THE SECOND FORM's CARD OF 'nestboxlaw.BlendSides'. -/
def blendSidesUptoCard : Claim7 := { stood := { row := blendSidesUptoRow, standIns := [], harness := (true, "6219b9852476a43e1919643dc94420c8749414c547f802049eb45811769d9e07"), looks := false }, kinds := [], alts := [], laidByText := true, laidKinds := [.data, .pinned], laidTests := true, laidLooks := .later }
def BlendSidesUptoCardSaid : Prop := Claim7.holds Tryz.pinned (.plain (OpenSpec.upto blendSidesSpec)) blendSidesUptoCard

/-- THE SECOND FORM's CARD OF 'nestboxlaw.BlendPaths'. -/
def blendPathsUptoCard : Claim7 := { stood := { row := blendPathsUptoRow, standIns := [], harness := (true, "6219b9852476a43e1919643dc94420c8749414c547f802049eb45811769d9e07"), looks := false }, kinds := [], alts := [], laidByText := true, laidKinds := [.data, .pinned], laidTests := true, laidLooks := .later }
def BlendPathsUptoCardSaid : Prop := Claim7.holds Tryz.pinned (.plain (OpenSpec.upto blendPathsSpec)) blendPathsUptoCard

/-- THE SECOND FORM's CARD OF 'nestboxlaw.BlendDoes'. -/
def blendDoesUptoCard : Claim7 := { stood := { row := blendDoesUptoRow, standIns := [], harness := (true, "6219b9852476a43e1919643dc94420c8749414c547f802049eb45811769d9e07"), looks := false }, kinds := [], alts := [], laidByText := true, laidKinds := [.data, .pinned], laidTests := true, laidLooks := .later }
def BlendDoesUptoCardSaid : Prop := Claim7.holds Tryz.pinned (.plain (OpenSpec.upto blendDoesSpec)) blendDoesUptoCard

/-- THE SECOND FORM's CARD OF 'nestboxlaw.SplitDoes'. -/
def splitDoesUptoCard : Claim7 := { stood := { row := splitDoesUptoRow, standIns := [], harness := (true, "6219b9852476a43e1919643dc94420c8749414c547f802049eb45811769d9e07"), looks := false }, kinds := [], alts := [], laidByText := true, laidKinds := [.data, .pinned], laidTests := true, laidLooks := .later }
def SplitDoesUptoCardSaid : Prop := Claim7.holds Tryz.pinned (.plain (OpenSpec.upto splitDoesSpec)) splitDoesUptoCard

/-- THE SECOND FORM's CARD OF 'nestboxlaw.SplitAdds'. -/
def splitAddsUptoCard : Claim7 := { stood := { row := splitAddsUptoRow, standIns := [], harness := (true, "6219b9852476a43e1919643dc94420c8749414c547f802049eb45811769d9e07"), looks := false }, kinds := [], alts := [], laidByText := true, laidKinds := [.data, .pinned], laidTests := true, laidLooks := .later }
def SplitAddsUptoCardSaid : Prop := Claim7.holds Tryz.pinned (.plain (OpenSpec.upto splitAddsSpec)) splitAddsUptoCard
end Rows
end Go.Proofs.YtogallppofinhaaGreatDoor
