/-
  DERIVED. GIVEN WITH THE SEED: THE CARDS: each row of YtkoiljgjipmhbaaGreatDoorRows.lean that lists a variable, with what it lists TIED to the program's text (the seventh form; the later family's looks); each row that meets fmt, with fmt's text TOLD by the authors' own Lean function (tested against real Go, not proved from fmt's source: count such statements apart). THE CARD IS WHAT COUNTS. Prove the row's statement (the work); the ties are given (YtkoiljgjipmhbaaGreatDoorTie.lean); close each card by the builder's one call (the guide's Derived/Test/ToyasCard.lean, 'card_holds'). Laid BY PROGRAM, IN A SANDBOX (cutbox-door.mjs). By AI agents, Wed Nov 11 2026. No macro, syntax, notation, axiom, sorry.
-/
import Derived.Test.YtkoiljgjipmhbaaGreatDoorRows
import GoSem.ClaimSeven
namespace Go.Proofs.YtkoiljgjipmhbaaGreatDoor
namespace Rows

/-- THE TIED CARD OF 'nestboxlaw.FlatDoes'. -/
def flatDoesCard : Claim7 := { stood := { row := flatDoesRow, standIns := [], harness := (true, "8a073c7b7d08254bcbe17192b7c22f261f031dbd2f37e3398a53ca46364cc99e"), looks := false }, kinds := [], alts := [], laidByText := true, laidKinds := [.data, .pinned], laidTests := true, laidLooks := .later }
def FlatDoesCardSaid : Prop := Claim7.holds Tryz.pinned (.plain (OpenSpec.ofChange flatDoesSpec)) flatDoesCard

/-- THE TIED CARD OF 'nestboxlaw.WalkDoes'. -/
def walkDoesCard : Claim7 := { stood := { row := walkDoesRow, standIns := [], harness := (true, "8a073c7b7d08254bcbe17192b7c22f261f031dbd2f37e3398a53ca46364cc99e"), looks := false }, kinds := [], alts := [], laidByText := true, laidKinds := [.data, .pinned], laidTests := true, laidLooks := .later }
def WalkDoesCardSaid : Prop := Claim7.holds Tryz.pinned (.plain (OpenSpec.ofChange walkDoesSpec)) walkDoesCard

/-- THE TIED CARD OF 'nestboxlaw.WalkBases'. -/
def walkBasesCard : Claim7 := { stood := { row := walkBasesRow, standIns := [], harness := (true, "8a073c7b7d08254bcbe17192b7c22f261f031dbd2f37e3398a53ca46364cc99e"), looks := false }, kinds := [], alts := [], laidByText := true, laidKinds := [.data, .pinned], laidTests := true, laidLooks := .later }
def WalkBasesCardSaid : Prop := Claim7.holds Tryz.pinned (.plain (OpenSpec.ofChange walkBasesSpec)) walkBasesCard

/-- THE TIED CARD OF 'nestboxlaw.WalkGrows'. -/
def walkGrowsCard : Claim7 := { stood := { row := walkGrowsRow, standIns := [], harness := (true, "8a073c7b7d08254bcbe17192b7c22f261f031dbd2f37e3398a53ca46364cc99e"), looks := false }, kinds := [], alts := [], laidByText := true, laidKinds := [.data, .pinned], laidTests := true, laidLooks := .later }
def WalkGrowsCardSaid : Prop := Claim7.holds Tryz.pinned (.plain (OpenSpec.ofChange walkGrowsSpec)) walkGrowsCard

/-- THE SECOND FORM's CARD OF 'nestboxlaw.FlatDoes'. -/
def flatDoesUptoCard : Claim7 := { stood := { row := flatDoesUptoRow, standIns := [], harness := (true, "8a073c7b7d08254bcbe17192b7c22f261f031dbd2f37e3398a53ca46364cc99e"), looks := false }, kinds := [], alts := [], laidByText := true, laidKinds := [.data, .pinned], laidTests := true, laidLooks := .later }
def FlatDoesUptoCardSaid : Prop := Claim7.holds Tryz.pinned (.plain (OpenSpec.upto flatDoesSpec)) flatDoesUptoCard

/-- THE SECOND FORM's CARD OF 'nestboxlaw.WalkDoes'. -/
def walkDoesUptoCard : Claim7 := { stood := { row := walkDoesUptoRow, standIns := [], harness := (true, "8a073c7b7d08254bcbe17192b7c22f261f031dbd2f37e3398a53ca46364cc99e"), looks := false }, kinds := [], alts := [], laidByText := true, laidKinds := [.data, .pinned], laidTests := true, laidLooks := .later }
def WalkDoesUptoCardSaid : Prop := Claim7.holds Tryz.pinned (.plain (OpenSpec.upto walkDoesSpec)) walkDoesUptoCard

/-- THE SECOND FORM's CARD OF 'nestboxlaw.WalkBases'. -/
def walkBasesUptoCard : Claim7 := { stood := { row := walkBasesUptoRow, standIns := [], harness := (true, "8a073c7b7d08254bcbe17192b7c22f261f031dbd2f37e3398a53ca46364cc99e"), looks := false }, kinds := [], alts := [], laidByText := true, laidKinds := [.data, .pinned], laidTests := true, laidLooks := .later }
def WalkBasesUptoCardSaid : Prop := Claim7.holds Tryz.pinned (.plain (OpenSpec.upto walkBasesSpec)) walkBasesUptoCard

/-- THE SECOND FORM's CARD OF 'nestboxlaw.WalkGrows'. -/
def walkGrowsUptoCard : Claim7 := { stood := { row := walkGrowsUptoRow, standIns := [], harness := (true, "8a073c7b7d08254bcbe17192b7c22f261f031dbd2f37e3398a53ca46364cc99e"), looks := false }, kinds := [], alts := [], laidByText := true, laidKinds := [.data, .pinned], laidTests := true, laidLooks := .later }
def WalkGrowsUptoCardSaid : Prop := Claim7.holds Tryz.pinned (.plain (OpenSpec.upto walkGrowsSpec)) walkGrowsUptoCard
end Rows
end Go.Proofs.YtkoiljgjipmhbaaGreatDoor
